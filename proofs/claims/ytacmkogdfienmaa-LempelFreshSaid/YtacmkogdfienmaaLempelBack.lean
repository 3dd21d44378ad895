/-
  The walks of the law LempelBack and of the closed fact ahead of it: the law returns true for every text.
-/
import Derived.Test.YtacmkogdfienmaaLpRead
namespace Go.Proofs.Ytacmkogdfienmaa.Lp
open Go.RowKit

theorem icells_ofPc (l : List Pc) : icells (l.map ofPc) = cells l := by
  induction l with
  | nil => rfl
  | cons p l ih =>
    have h : icells ((p :: l).map ofPc) = .int .i64 (p.1 : Int) :: .int .u8 (p.2.toNat : Int) :: icells (l.map ofPc) := by simp [icells, ofPc]
    rw [h, ih]; simp [cells]
theorem reads_pieces {w : World} {B : Nat} {A : Option Addr} {cap : Nat} {l : List Pc} (h : w.ownsRow B 33 2 (.slice A l.length cap) l.length (cells l)) : Reads w A (l.map ofPc).length 2 (icells (l.map ofPc)) := by
  rw [icells_ofPc, List.length_map]; exact Reads.of_own h

theorem take_succ_eq {α : Type} {l m : List α} {k : Nat} {p q : α} (h : l.take k = m.take k) (hp : l[k]? = some p) (hq : m[k]? = some q) (e : p = q) : l.take (k + 1) = m.take (k + 1) := by
  rw [List.take_add_one, List.take_add_one, h, hp, hq, e]

/-- same.Pieces of two slices that can be read -/
theorem same_any (A B : Option Addr) (c d : Nat) (l m : List (Int × UInt8)) (w : World) (hl : Reads w A l.length 2 (icells l)) (hm : Reads w B m.length 2 (icells m)) (h1 : l.length ≤ maxLen) (w1 : ∀ p ∈ l, Wf p) (w2 : ∀ p ∈ m, Wf p) :
    Calls Try.prog 10 #[.slice A l.length c, .slice B m.length d] w fun e w' => e = .returned (.bool (decide (l = m))) ∧ Below w.heap.size w w' := by
  unfold maxLen at h1
  by_cases hlen : l.length = m.length
  · obtain ⟨n, hn⟩ : ∃ n, n = l.length := ⟨_, rfl⟩
    have e1 := Lib.hid hn.symm; have e2 := Lib.hid (hlen.symm.trans hn.symm)
    rw [e1.out] at hl h1
    rw [e2.out] at hm
    rw [e1.out, e2.out]
    clear hn hlen
    go_enter Try.func10, Try.ntmps10
    go_wp2
    go_loopw [5] (fun i wr => ∃ k : Nat, k ≤ n ∧ i = .int .i64 k ∧ Hid (l.take k = m.take k) ∧ Below w.heap.size w wr)
      (fun i _ => n - (intOf i).toNat)
    case atStart => exact ⟨0, Nat.zero_le _, rfl, Lib.hid (by simp), Below.refl _ _⟩
    case round =>
      obtain ⟨k, hk, rfl, HK, hbel⟩ := hrel
      by_cases hlt : k < n
      · obtain ⟨b, o, rfl, hb, hc⟩ := (hl.below hbel).2 (by omega)
        obtain ⟨b', o', rfl, hb', hc'⟩ := (hm.below hbel).2 (by omega)
        obtain ⟨⟨pb, pc⟩, hp⟩ : ∃ p, l[k]? = some p := ⟨_, List.getElem?_eq_getElem (by rw [e1.out]; exact hlt)⟩
        obtain ⟨⟨qb, qc⟩, hq⟩ : ∃ p, m[k]? = some p := ⟨_, List.getElem?_eq_getElem (by rw [e2.out]; exact hlt)⟩
        have c0 := hc (k * 2) (.int .i64 pb) (by rw [icells_get0, hp]; rfl)
        have c1 := hc (k * 2 + 1) (.int .u8 (pc.toNat : Int)) (by rw [icells_get1, hp]; rfl)
        have d0 := hc' (k * 2) (.int .i64 qb) (by rw [icells_get0, hq]; rfl)
        have d1 := hc' (k * 2 + 1) (.int .u8 (qc.toNat : Int)) (by rw [icells_get1, hq]; rfl)
        rw [← Nat.add_assoc] at c1 d1
        have hr := neq_pc (pb, pc) (qb, qc) (w1 _ (List.mem_of_getElem? hp)) (w2 _ (List.mem_of_getElem? hq))
        have HP := Lib.hid hp; have HQ := Lib.hid hq; clear hp hq hc hc'
        by_cases he : (pb, pc) = (qb, qc)
        · rw [decide_eq_true he, Bool.not_true] at hr
          have HE := Lib.hid he; clear he
          go_wp2
          go_quiet (fail)
          go_wp2
          go_roundw
          case rel => exact ⟨k + 1, by omega, by go_num, Lib.hid (take_succ_eq HK.out HP.out HQ.out HE.out), bdrew hbel _⟩
          case measure => simp [intOf]; omega
        · rw [decide_eq_false he, Bool.not_false] at hr
          have HE := Lib.hid he; clear he
          go_wp2
          go_quiet (fail)
          go_wp2
          go_ret
          refine ⟨ret_bool (decide_eq_false fun h => ?_).symm, bdrew hbel _⟩
          rw [h] at HP
          exact HE.out (Option.some.inj (HP.out.symm.trans HQ.out))
      · have hge : n ≤ k := by omega
        go_wp2
        go_ret
        refine ⟨?_, hbel⟩
        have := HK.out
        rw [List.take_of_length_le (by rw [e1.out]; omega), List.take_of_length_le (by rw [e2.out]; omega)] at this
        exact ret_bool (decide_eq_true this).symm
  · have hlen' : (l.length == m.length) = false := by simpa using hlen
    have hlen'' : (l.length != m.length) = true := by simpa using hlen
    have hne : l ≠ m := fun h => hlen (by rw [h])
    have HN := Lib.hid hne
    clear hlen hne
    go_enter Try.func10, Try.ntmps10
    go_wp2
    go_ret
    exact ⟨ret_bool (decide_eq_false HN.out).symm, Below.refl _ _⟩

/-! ### the closed fact -/
theorem write_aab (w : World) : Calls Try.prog 7 #[.string ⟨#[97, 97, 98]⟩] w fun e w' => ∃ A cap, e = .returned (.tuple #[.slice A 2 cap, .nilIface]) ∧ w'.ownsRow w.heap.size 33 2 (.slice A 2 cap) 2 (cells [(0, 97), (1, 98)]) ∧ Below w.heap.size w w' := by
  have h := write_ok ⟨#[97, 97, 98]⟩ w (by decide)
  have e : pieces [97, 97, 98] = [(0, 97), (1, 98)] := by decide
  simp only [e] at h
  exact h
theorem reads_lit (w : World) (t : TypeId) (xs : List Value) (n size : Nat) (h : xs.length = n * size) : Reads (w.alloc (.cells xs.toArray t)) (some ⟨w.heap.size, 0, none⟩) n size xs :=
  ⟨h, fun _ => ⟨_, _, rfl, by simp, fun j u hu => by rw [World.cell?_alloc_mark]; simpa using hu⟩⟩
theorem read_xy (w : World) (A : Option Addr) (cap : Nat) (hr : Reads w A 2 2 (icells [(0, 120), (1, 121)])) :
    Calls Try.prog 8 #[.slice A 2 cap] w fun e w' => e = .returned (.tuple #[.string ⟨#[120, 120, 121]⟩, .nilIface]) ∧ Below w.heap.size w w' := by
  have h := read_any A cap [(0, 120), (1, 121)] w hr (by decide)
  have e : readP [(0, 120), (1, 121)] = ([120, 120, 121], 0) := by decide
  rw [e] at h
  exact h
theorem same_pair (A B : Option Addr) (c d : Nat) {w : World} (hl : Reads w A 2 2 (cells [(0, 97), (1, 98)])) (hm : Reads w B 2 2 (icells [(0, 97), (1, 98)])) :
    Calls Try.prog 10 #[.slice A 2 c, .slice B 2 d] w fun e w' => e = .returned (.bool true) ∧ Below w.heap.size w w' := by
  have h := same_any A B c d [(0, 97), (1, 98)] [(0, 97), (1, 98)] w hl hm (by decide) (by simp [Wf]) (by simp [Wf])
  simpa using h
theorem fact_any (w : World) : Calls Try.prog 6 #[] w fun e w' => e = .returned (.bool true) ∧ Below w.heap.size w w' := by
  go_enter Try.func6, Try.ntmps6
  go_wp2_with fail
  refine (write_aab _).mono ?_
  rintro e w1 ⟨A, cap, rfl, hown, hb⟩
  go_wp2_with fail
  refine (read_xy _ _ _ (reads_lit w1 33 (icells [(0, 120), (1, 121)]) 2 2 rfl)).mono ?_
  rintro e w2 ⟨rfl, hb2⟩
  have hb3 : Below w1.heap.size w1 w2 := bnext (bnew w1 _) hb2
  go_wp2_with fail
  refine (same_pair _ _ _ _ (((Reads.of_own hown).below hb3).below (bnew _ _)) (reads_lit w2 33 (icells [(0, 97), (1, 98)]) 2 2 rfl)).mono ?_
  rintro e w4 ⟨rfl, hb4⟩
  go_wp2_with fail
  go_ret
  exact ⟨rfl, bnext (bnext hb hb3) (bnext (bnew _ _) hb4)⟩

/-! ### the law -/
theorem walk (w : World) (a0 : ByteArray) (s0 : a0.size ≤ 140737488351232) :
    Calls Try.prog 3 #[.string a0] w fun e w' => e = .returned (.bool true) ∧ Below w.heap.size w w' := by
  by_cases hs : a0.size ≤ 1000
  · have hlen := pieces_length a0.data.toList
    have hL : a0.data.toList.length = a0.size := by simp
    rw [hL] at hlen
    have hread : ∀ (w1 : World) (A : Option Addr) (cap : Nat), Reads w1 A (pieces a0.data.toList).length 2 (cells (pieces a0.data.toList)) →
        Calls Try.prog 8 #[.slice A (pieces a0.data.toList).length cap] w1 fun e w' => e = .returned (.tuple #[.string a0, .nilIface]) ∧ Below w1.heap.size w1 w' := by
      intro w1 A cap h
      have := read_any A cap ((pieces a0.data.toList).map ofPc) w1 (by rw [icells_ofPc, List.length_map]; exact h) (by rw [List.length_map]; unfold maxLen; omega)
      rw [read_pieces _ (by rw [hL]; exact hs), List.length_map] at this
      simpa [strV, errV] using this
    have hwrite := fun w => write_ok a0 w hs
    have HR := Lib.hid hread; have HW := Lib.hid hwrite
    clear hread hwrite hL
    generalize (pieces a0.data.toList).length = n at *
    generalize cells (pieces a0.data.toList) = cs at *
    go_enter Try.func3, Try.ntmps3
    go_wp2_with fail
    refine (fact_any _).mono ?_
    rintro e w1 ⟨rfl, hb1⟩
    go_wp2_with fail
    refine (HW.out _).mono ?_
    rintro e w2 ⟨A, cap, rfl, hown, hb2⟩
    go_wp2_with fail
    refine (HR.out _ _ _ (Reads.of_own hown)).mono ?_
    rintro e w3 ⟨rfl, hb3⟩
    go_wp2_with fail
    go_ret
    refine ⟨?_, bnext (bnext hb1 hb2) hb3⟩
    exact ret_bool (by simp)
  · go_enter Try.func3, Try.ntmps3
    go_wp2_with fail
    refine (fact_any _).mono ?_
    rintro e w1 ⟨rfl, hb1⟩
    go_wp2_with fail
    refine (write_no _ _ (by omega)).mono ?_
    rintro e w2 ⟨rfl, hb2⟩
    go_wp2_with fail
    go_ret
    exact ⟨rfl, bnext hb1 hb2⟩
end Go.Proofs.Ytacmkogdfienmaa.Lp
namespace Go.Proofs.Ytacmkogdfienmaa.lempelBack
abbrev walk := @Lp.walk
end Go.Proofs.Ytacmkogdfienmaa.lempelBack
