/-
  The walk of the law RunsSum: for every text; no condition.
-/
import Derived.Test.YtcllehdlfalamaaRnLaw
import Derived.Test.YtcllehdlfalamaaBack
namespace Go.Proofs.Ytcllehdlfalamaa.runsSum
open Go.RowKit Rn
set_option linter.unusedVariables false
theorem total_take_succ {l : List R} {k : Nat} {c : UInt8} {m : Nat} (h : l[k]? = some (c, m)) : total (l.take (k + 1)) = total (l.take k) + m := by
  rw [List.take_add_one, h]; simp [total]
theorem total_take_le (l : List R) (k : Nat) : total (l.take k) ≤ total l := by
  have : total l = total (l.take k) + total (l.drop k) := by
    rw [← expand_length, ← expand_length, ← expand_length, ← List.length_append, ← expand_append, List.take_append_drop]
  omega
set_option maxHeartbeats 2000000 in
theorem walk (w : World) (s : ByteArray) (s0 : s.size ≤ 140737488351232) :
    Calls Try.prog 5 #[.string s] w fun e w' => e = .returned (.bool true) ∧ Below w.heap.size w w' := by
  by_cases hs1 : s.size ≤ 1000
  · have hW := fun w' => write_ok s w' hs1
    have hW2 := fun w' => write_ok ⟨s.data.toList.reverse.toArray⟩ w' (by show s.data.toList.reverse.toArray.size ≤ _; simpa using hs1)
    have hL : s.data.toList.length = s.size := by simp
    have htot := total_runsOf s.data.toList
    have hgood := good_runsOf s.data.toList
    have hln := runsOf_length_le s.data.toList
    unfold WRet at hW hW2
    simp only [runsOf_reverse, List.length_reverse] at hW2
    rw [hL] at htot hln
    have hall : ∀ p ∈ runsOf s.data.toList, 1 ≤ p.2 ∧ p.2 ≤ 1000 := fun p hp => ⟨hgood.all p hp, by have := le_total hp; omega⟩
    have htk := total_take_le (runsOf s.data.toList)
    generalize runsOf s.data.toList = rs at *
    obtain ⟨n, hn⟩ : ∃ n, n = rs.length := ⟨_, rfl⟩
    rw [← hn] at hW hW2 hln
    have HN := Lib.hid hn
    have HW := Lib.hid hW; have HW2 := Lib.hid hW2; have HA := Lib.hid hall; have HT := Lib.hid htot; have HTK := Lib.hid htk
    clear hW hW2 hall htot htk hgood hL hn
    go_enter Try.func5, Try.ntmps5
    go_wp2_with fail
    refine (fact_any _).mono ?_
    rintro e w1 ⟨rfl, hb1⟩
    go_wp2_with fail
    refine (HW.out _).mono ?_
    rintro e w2 ⟨A2, c2, rfl, hown2, hb⟩
    have hb2 := bnext hb1 hb
    clear hb hb1
    go_wp2_with fail
    refine (back_any s _ s0).mono ?_
    rintro e w3 ⟨rfl, hb3⟩
    go_wp2_with fail
    refine (HW2.out _).mono ?_
    rintro e w4 ⟨A4, c4, rfl, hown4, hb⟩
    have hb24 := bnext hb3 hb
    have hr2 := (Reads.of_own hown2).below hb24
    have hr4 := Reads.of_own hown4
    have hb4 := bnext hb2 hb24
    clear hb hb3 hown2 hown4 hb2 hb24
    go_wp2
    go_loopw [7, 8] (fun v i wr => ∃ k : Nat, k ≤ n ∧ i = .int .i64 k ∧ v = .int .i64 (total (rs.take k) : Nat) ∧ Below w4.heap.size w4 wr) (fun _ i _ => n - (intOf i).toNat)
    case atStart => exact ⟨0, Nat.zero_le _, rfl, rfl, Below.refl _ _⟩
    case round =>
      obtain ⟨k, hk, rfl, rfl, hbel⟩ := hrel
      have ht := HTK.out k
      rw [HT.out] at ht
      by_cases hlt : k < n
      · obtain ⟨b, o, rfl, hb, hc⟩ := (hr2.below hbel).2 (by omega)
        obtain ⟨b', o', rfl, hb', hc'⟩ := (hr4.below hbel).2 (by omega)
        obtain ⟨K, hK⟩ : ∃ K, K + k + 1 = n := ⟨n - k - 1, by omega⟩
        obtain ⟨⟨c, m⟩, hp⟩ : ∃ p, rs[k]? = some p := ⟨_, List.getElem?_eq_getElem (by have := HN.out; omega)⟩
        have hq : rs.reverse[K]? = some (c, m) := by
          rw [List.getElem?_reverse (by have := HN.out; omega), ← HN.out, show n - 1 - K = k by omega]; exact hp
        have hm := HA.out _ (List.mem_of_getElem? hp)
        simp only at hm
        have hp2 : (ofN rs)[k]? = some (c, (m : Int)) := by unfold ofN; rw [List.getElem?_map, hp]; rfl
        have hq2 : (ofN rs.reverse)[K]? = some (c, (m : Int)) := by unfold ofN; rw [List.getElem?_map, hq]; rfl
        have c0 := hc (k * 2) (.int .u8 (c.toNat : Int)) (by rw [rcells_get0, hp2]; rfl)
        have c1 := hc (k * 2 + 1) (.int .i64 (m : Int)) (by rw [rcells_get1, hp2]; rfl)
        have d0 := hc' (K * 2) (.int .u8 (c.toNat : Int)) (by rw [rcells_get0, hq2]; rfl)
        have d1 := hc' (K * 2 + 1) (.int .i64 (m : Int)) (by rw [rcells_get1, hq2]; rfl)
        rw [← Nat.add_assoc] at c1 d1
        have hr := neq_pc (c, (m : Int)) (c, (m : Int)) (by constructor <;> simp only <;> omega) (by constructor <;> simp only <;> omega)
        simp only [decide_true, Bool.not_true] at hr
        have wr1 : IntKind.i64.wrap ((n : Int) - 1) = (n : Int) - 1 := IntWalk.i64_in _ (by omega)
        have wr2 : IntKind.i64.wrap ((n : Int) - 1 - (k : Int)) = (K : Int) := by rw [IntWalk.i64_in _ (by omega)]; omega
        have g1 : (K : Int) < (n : Int) := by omega
        have hin : decide ((1 : Int) ≤ (m : Int) ∧ (m : Int) ≤ 1000) = true := decide_eq_true (by omega)
        have hts := total_take_succ hp
        have HTS := Lib.hid hts
        clear hp hq hp2 hq2 hc hc' hts
        generalize total (rs.take k) = T at *
        go_wp2
        go_region_held3 (fun w' => w'.cell? ⟨b, o + k * 2, none⟩ = some (.int .u8 (c.toNat : Int)) ∧ w'.cell? ⟨b, o + k * 2 + 1, none⟩ = some (.int .i64 (m : Int)) ∧ w'.cell? ⟨b', o' + K * 2, none⟩ = some (.int .u8 (c.toNat : Int)) ∧ w'.cell? ⟨b', o' + K * 2 + 1, none⟩ = some (.int .i64 (m : Int))) (exact ⟨c0, c1, d0, d1⟩) ((go_at_call 11; refine (in_any _ _ _ _).mono ?_; rintro e w' ⟨rfl, rfl⟩))
        all_goals
          go_wp2
          go_roundw
          case rel => exact ⟨k + 1, by omega, by go_num, by rw [HTS.out]; go_num, by first | exact Below.drew hbel | exact bdrew hbel _ | exact hbel⟩
          case measure => simp [intOf]; omega
      · obtain rfl : k = n := by omega
        have e1 : total (rs.take k) = s.size := by rw [List.take_of_length_le (by have := HN.out; omega), HT.out]
        rw [e1]
        go_wp2
        go_ret
        exact ⟨rfl, bnext hb4 hbel⟩
  · have HW := Lib.hid (fun w' => write_no s w' (by omega))
    go_enter Try.func5, Try.ntmps5
    go_wp2_with fail
    refine (fact_any _).mono ?_
    rintro e w1 ⟨rfl, hb1⟩
    go_wp2_with fail
    refine (HW.out _).mono ?_
    rintro e w5 ⟨rfl, hb⟩
    go_wp2
    go_ret
    exact ⟨rfl, bnext hb1 hb⟩
end Go.Proofs.Ytcllehdlfalamaa.runsSum
