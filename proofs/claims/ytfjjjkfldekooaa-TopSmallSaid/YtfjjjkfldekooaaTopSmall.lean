/-
  The walk of the law TopSmall, for every text; no condition.
-/
import Derived.Test.YtfjjjkfldekooaaWhFact
import Derived.Test.YtfjjjkfldekooaaFtTB
import Derived.Test.YtfjjjkfldekooaaRnRead
namespace Go.Proofs.Ytfjjjkfldekooaa.topSmall
open Go.RowKit
set_option linter.unusedVariables false
set_option linter.unusedSimpArgs false

/-- how many are not 0 -/
def mvd (l : List Nat) : Nat := l.countP fun n => decide (n ≠ 0)
theorem mv_head (row : List UInt8) (c : UInt8) (h : Ft.Full row) : (Ft.mv row (row.idxOf c)).head? = some c := by
  unfold Ft.mv
  rw [Ft.get_idx h c]; rfl
theorem moved_runs : ∀ (s row : List UInt8) (h : UInt8), Ft.Full row → row.head? = some h → mvd (Ft.there row s) + (if s.head? = some h then 1 else 0) = (Rn.runsOf s).length
  | [], row, h, _, _ => rfl
  | c :: s, row, h, hf, hh => by
    have ih := moved_runs s (Ft.mv row (row.idxOf c)) c (hf.mv (Ft.idx_lt hf c)) (mv_head row c hf)
    have e : Ft.there row (c :: s) = row.idxOf c :: Ft.there (Ft.mv row (row.idxOf c)) s := rfl
    rw [e, Rn.runsOf_cons_length, ← ih]
    have hx : row.idxOf c = 0 ↔ c = h := by
      cases row with
      | nil => cases hh
      | cons r row =>
        simp at hh
        subst hh
        rw [List.idxOf_cons]
        by_cases e : r = c
        · subst e; simp
        · have e' : ¬ c = r := fun h => e h.symm
          have e3 : (r == c) = false := by simpa using e
          simp [e3, e']
    have h1 : (c :: s).head? = some c := rfl
    rw [h1]
    have hmc : mvd (row.idxOf c :: Ft.there (Ft.mv row (row.idxOf c)) s) = mvd (Ft.there (Ft.mv row (row.idxOf c)) s) + if row.idxOf c = 0 then 0 else 1 := by
      unfold mvd
      rw [List.countP_cons]
      by_cases h0 : row.idxOf c = 0
      · simp [h0]
      · simp [h0]
    rw [hmc]
    by_cases hc : c = h
    · rw [if_pos (hx.2 hc), if_pos (by rw [hc])]
      split <;> omega
    · rw [if_neg (fun e => hc (hx.1 e)), if_neg (by simpa using hc)]
      split <;> omega
theorem moved_near (t : List UInt8) : mvd (Ft.there Ft.allB t) ≤ (Rn.runsOf t).length ∧ (Rn.runsOf t).length ≤ mvd (Ft.there Ft.allB t) + 1 := by
  have h := moved_runs t Ft.allB 0 Ft.full_all rfl
  split at h <;> omega
theorem mvd_snoc (l : List Nat) (k n : Nat) (h : l[k]? = some n) : mvd (l.take (k + 1)) = mvd (l.take k) + if n = 0 then 0 else 1 := by
  unfold mvd
  rw [List.take_add_one, h, List.countP_append]
  by_cases e : n = 0
  · simp [e]
  · simp [e]
theorem nums_ints (l : List Nat) : Ft.nums l = ints (l.map fun (n : Nat) => (n : Int)) := by simp [Ft.nums, ints]
theorem to_nat (l : List Nat) : (l.map fun (n : Nat) => (n : Int)).map Int.toNat = l := by simp [Function.comp_def]
theorem back_there_any (s : ByteArray) (hs : s.size ≤ 1000) (w1 : World) (A : Option Addr) (cap : Nat) (h : Reads w1 A s.size 1 (Ft.nums (Ft.there Ft.allB s.data.toList))) :
    Calls Try.prog 18 #[.slice A s.size cap] w1 fun e w' => e = .returned (.tuple #[.string s, .nilIface]) ∧ Below w1.heap.size w1 w' := by
  have hlen : ((Ft.there Ft.allB s.data.toList).map fun (n : Nat) => (n : Int)).length = s.size := by rw [List.length_map, Ft.there_length]; simp
  have := Ft.back_ok A cap ((Ft.there Ft.allB s.data.toList).map fun (n : Nat) => (n : Int)) w1 (by rw [hlen]; rw [nums_ints] at h; exact h) (by omega) (fun n hn => by
    obtain ⟨m, hm, rfl⟩ := List.mem_map.1 hn
    have := Ft.there_lt _ _ Ft.full_all m hm
    simp [Ft.okB]; omega)
  rw [hlen, to_nat, Ft.back_there _ _ Ft.full_all] at this
  simpa using this
theorem strV_self (s : ByteArray) : Rn.strV s.data.toList = .string s := by simp [Rn.strV]
theorem wf_ofN (s : List UInt8) (h : s.length ≤ 1000) : ∀ p ∈ Rn.ofN (Rn.runsOf s), Rn.Wf p := by
  intro p hp
  obtain ⟨q, hq, rfl⟩ := List.mem_map.1 hp
  have := Rn.le_total hq
  rw [Rn.total_runsOf] at this
  constructor <;> simp only <;> omega
theorem read_back (A : Option Addr) (cap n : Nat) (s : ByteArray) (hs : s.size ≤ 1000) (hn : (Rn.runsOf s.data.toList).length = n) (w : World) (hr : Reads w A n 2 (Rn.rcells (Rn.ofN (Rn.runsOf s.data.toList)))) :
    Calls Try.prog 15 #[.slice A n cap] w fun e w' => e = .returned (.tuple #[.string s, .nilIface]) ∧ Below w.heap.size w w' := by
  have hlen : s.data.toList.length ≤ 1000 := by simpa using hs
  have h1 := Rn.runsOf_length_le s.data.toList
  have h := Rn.read_any A cap (Rn.ofN (Rn.runsOf s.data.toList)) w (by rw [Rn.ofN_length, hn]; exact hr) (by rw [Rn.ofN_length]; unfold maxLen; omega) (wf_ofN _ hlen)
  rw [Rn.ofN_length, hn, Rn.read_runs _ hlen, strV_self] at h
  exact h
theorem read_nil (w : World) : Calls Try.prog 15 #[.slice none 0 0] w fun e w' => e = .returned (.tuple #[.string ⟨#[]⟩, .nilIface]) ∧ Below w.heap.size w w' :=
  Rn.read_any none 0 [] w (Reads.nil _ _) (by unfold maxLen; decide) (fun p h => by simp at h)
/-- there, and back again -/
theorem there_back (s : ByteArray) (w : World) (hs : s.size ≤ 24) :
    Calls Try.prog 9 #[.string s] w fun e w' => (∃ j : Nat, e = .returned (.tuple #[.string ⟨(lasts s).toArray⟩, .int .i64 (j : Int), .nilIface]) ∧
      ∀ W : World, Calls Try.prog 10 #[.string ⟨(lasts s).toArray⟩, .int .i64 (j : Int)] W fun e w' => e = .returned (.tuple #[.string s, .nilIface]) ∧ Below W.heap.size W w') ∧ Below w.heap.size w w' := by
  by_cases h0 : s.size = 0
  · have hse : s = ⟨#[]⟩ := bs_inj (List.eq_nil_of_length_eq_zero (by rw [bs_length]; exact h0))
    refine (there_nil s w h0).mono ?_
    rintro e w' ⟨rfl, hb⟩
    rw [lasts_nil s h0, hse]
    exact ⟨⟨0, rfl, back_nil⟩, hb⟩
  · refine (there_ok s w hs (by omega)).mono ?_
    rintro e w' ⟨⟨k, rfl, j, rfl, hj, _⟩, hb⟩
    have hjs : j < s.size := by
      rcases Nat.lt_or_ge j s.size with h | h
      · exact h
      · rw [List.getElem?_eq_none (by rw [turnsB_length]; exact h)] at hj; cases hj
    refine ⟨⟨j, rfl, fun W => ?_⟩, hb⟩
    refine (back_at s j W hs hjs).mono ?_
    rintro e w2 ⟨⟨i, u, _, _, hu, rfl⟩, hb2⟩
    rw [Option.some.inj (hu.symm.trans hj)]
    exact ⟨rfl, hb2⟩

set_option maxHeartbeats 1000000 in
set_option maxRecDepth 100000 in
theorem walk_far (w : World) (s : ByteArray) (hs : 24 < s.size) :
    Calls Try.prog 6 #[.string s] w fun e w' => e = .returned (.bool true) ∧ Below w.heap.size w w' := by
  have HT := Lib.hid (fun (W : World) => there_no s W hs)
  have HR := Lib.hid read_nil
  go_enter Try.func6, Try.ntmps6
  go_wp2_with fail
  refine (HT.out _).mono ?_
  rintro e w1 ⟨rfl, hb1⟩
  go_wp2_with fail
  refine (HR.out _).mono ?_
  rintro e w2 ⟨rfl, hb2⟩
  go_wp2_with fail
  go_ret
  exact ⟨rfl, bnext hb1 hb2⟩
set_option maxHeartbeats 1000000 in
set_option maxRecDepth 100000 in
theorem walk_ok (w : World) (s : ByteArray) (hs : s.size ≤ 24) :
    Calls Try.prog 6 #[.string s] w fun e w' => e = .returned (.bool true) ∧ Below w.heap.size w w' := by
  obtain ⟨t, ht⟩ : ∃ t : ByteArray, t = ⟨(lasts s).toArray⟩ := ⟨_, rfl⟩
  have hts : t.size = s.size := by rw [ht]; show (lasts s).length = _; rw [lasts_length]
  have hT := fun (W : World) => there_back s W hs
  rw [← ht] at hT
  obtain ⟨L, hL⟩ : ∃ L, L = Ft.there Ft.allB t.data.toList := ⟨_, rfl⟩
  obtain ⟨r, hr⟩ : ∃ r, r = (Rn.runsOf t.data.toList).length := ⟨_, rfl⟩
  have hLl : L.length = s.size := by rw [hL, Ft.there_length, ← hts]; simp
  have hnear := moved_near t.data.toList
  rw [← hL, ← hr] at hnear
  have hr24 : r ≤ 24 := by rw [hr]; have := Rn.runsOf_length_le t.data.toList; have : t.data.toList.length = t.size := by simp
                           omega
  have hF := fun (W : World) => Ft.there_ok t W (by omega)
  rw [hts, ← hL] at hF
  have hW := fun (W : World) => Rn.write_ok t W (by omega)
  unfold Rn.WRet at hW
  rw [← hr] at hW
  have hB := fun (W : World) (A : Option Addr) (cap : Nat) => back_there_any t (by omega) W A cap
  rw [hts, ← hL] at hB
  have hD := fun (W : World) (A : Option Addr) (cap : Nat) => read_back A cap r t (by omega) hr.symm W
  have HT := Lib.hid hT; have HR := Lib.hid read_nil; have HF := Lib.hid hF; have HW := Lib.hid hW; have HB := Lib.hid hB; have HD := Lib.hid hD; have HLL := Lib.hid hLl
  have HNR := Lib.hid hnear
  have kr : IntKind.i64.wrap ((r : Int) - 1) = (r : Int) - 1 := IntWalk.i64_in _ (by omega)
  clear hT hF hW hB hD ht hts hL hr hLl hnear
  go_enter Try.func6, Try.ntmps6
  go_wp2_with fail
  refine (HT.out _).mono ?_
  rintro e w1 ⟨⟨j, rfl, hBk⟩, hb1⟩
  have HBk := Lib.hid hBk
  clear hBk
  go_wp2_with fail
  refine (HR.out _).mono ?_
  rintro e w2 ⟨rfl, hb2⟩
  go_wp2_with fail
  refine (HF.out _).mono ?_
  rintro e w3 ⟨A, cap, rfl, ho3, hb3⟩
  have R3 := Lib.hid (Reads.of_own ho3)
  clear ho3
  go_wp2_with fail
  refine (HW.out _).mono ?_
  rintro e w4 ⟨A2, cap2, rfl, ho4, hb4⟩
  have R4 := Lib.hid (Reads.of_own ho4)
  have R3' := Lib.hid (R3.out.below hb4)
  have hbb := bnext (bnext hb1 hb2) (bnext hb3 hb4)
  clear ho4 R3 hb1 hb2 hb3 hb4 HT HR HF HW
  go_wp2_with fail
  go_loopw [12, 13] (fun v12 v13 wr => ∃ k : Nat, v12 = .int .i64 ((mvd (L.take k) : Nat) : Int) ∧ v13 = .int .i64 (k : Int) ∧ k ≤ s.size ∧ wr = w4) (fun _ v13 _ => s.size - (intOf v13).toNat)
  case atStart => exact ⟨0, by simp [mvd], rfl, by omega, rfl⟩
  case round =>
    obtain ⟨k, rfl, rfl, hk, rfl⟩ := hrel
    have hml : mvd (L.take k) ≤ 24 := by
      have h1 : mvd (L.take k) ≤ (L.take k).length := List.countP_le_length
      have h2 : (L.take k).length ≤ k := by rw [List.length_take]; omega
      omega
    by_cases hlt : k < s.size
    · have k1 : (k : Int) < (s.size : Int) := by omega
      obtain ⟨n, hn⟩ : ∃ n, L[k]? = some n := ⟨_, List.getElem?_eq_getElem (by have := HLL.out; omega)⟩
      obtain ⟨b, o, hAe, hbl, hc⟩ := R3'.out.2 (by omega)
      subst hAe
      have c0 := hc k (.int .i64 (n : Int)) (by unfold Ft.nums; rw [List.getElem?_map, hn]; rfl)
      have e1 : IntKind.i64.wrap ((k : Int) + 1) = (k : Int) + 1 := IntWalk.i64_in _ (by omega)
      have hsn := mvd_snoc L k n hn
      obtain ⟨q, hq⟩ : ∃ q, q = mvd (L.take k) := ⟨_, rfl⟩
      rw [← hq] at hsn hml ⊢
      have HQ := Lib.hid hq
      have e2 : IntKind.i64.wrap ((q : Int) + 1) = (q : Int) + 1 := IntWalk.i64_in _ (by omega)
      have HSN := Lib.hid hsn
      clear hc hq hsn hn
      by_cases hz : n = 0
      · subst hz
        have z1 : (((0 : Nat) : Int) != 0) = false := rfl
        go_wp2
        refine ⟨⟨k + 1, ?_, by go_num, by omega, by trivial⟩, by simp [intOf]; omega⟩
        rw [HSN.out]; simp
      · have z1 : ((n : Int) != 0) = true := by simp; omega
        go_wp2
        refine ⟨⟨k + 1, ?_, by go_num, by omega, by trivial⟩, by simp [intOf]; omega⟩
        rw [HSN.out, if_neg hz]; go_num
    · obtain rfl : k = s.size := by omega
      have k1 : ¬ (s.size : Int) < (s.size : Int) := by omega
      rw [List.take_of_length_le (by rw [HLL.out]; exact Nat.le_refl _)]
      have hnr := HNR.out
      obtain ⟨q, hq⟩ : ∃ q, q = mvd L := ⟨_, rfl⟩
      rw [← hq] at hnr ⊢
      have n1 : ¬ (r : Int) < (q : Int) := by omega
      have n2 : ¬ (q : Int) < (r : Int) - 1 := by omega
      clear hq hnr hml HNR
      have R4o := R4.out
      have HB' := Lib.hid (HB.out wr A cap R3'.out)
      go_wp2_with fail
      refine HB'.out.mono ?_
      rintro e w5 ⟨rfl, hb5⟩
      have HD' := Lib.hid (HD.out w5 A2 cap2 (R4o.below hb5))
      clear R4o
      go_wp2_with fail
      refine HD'.out.mono ?_
      rintro e w6 ⟨rfl, hb6⟩
      go_wp2_with fail
      refine (HBk.out _).mono ?_
      rintro e w7 ⟨rfl, hb7⟩
      go_wp2_with fail
      go_ret
      exact ⟨by simp, bnext hbb (bnext hb5 (bnext hb6 hb7))⟩
theorem walk (w : World) (s : ByteArray) (_hs : s.size ≤ 140737488351232) :
    Calls Try.prog 6 #[.string s] w fun e w' => e = .returned (.bool true) ∧ Below w.heap.size w w' := by
  by_cases hs : s.size ≤ 24
  · exact walk_ok w s hs
  · exact walk_far w s (by omega)
end Go.Proofs.Ytfjjjkfldekooaa.topSmall
