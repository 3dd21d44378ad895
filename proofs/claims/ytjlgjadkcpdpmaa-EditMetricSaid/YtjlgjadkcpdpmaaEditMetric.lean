/-
  The walk of the law EditMetric: it returns true for every three texts.
-/
import Derived.Test.YtjlgjadkcpdpmaaEdLaw
namespace Go.Proofs.Ytjlgjadkcpdpmaa.Ed
open Go.RowKit
set_option linter.unusedVariables false

set_option maxHeartbeats 2000000 in
theorem walkMetric (w : World) (a0 : ByteArray) (s0 : a0.size ≤ 140737488351232) (a1 : ByteArray) (s1 : a1.size ≤ 140737488351232) (a2 : ByteArray) (s2 : a2.size ≤ 140737488351232) :
    Calls Try.prog 5 #[.string a0, .string a1, .string a2] w fun e w' => e = .returned (.bool true) ∧ Below w.heap.size w w' := by
  by_cases hab : a0.size ≤ 24 ∧ a1.size ≤ 24
  · have hL0 : a0.data.toList.length = a0.size := by simp
    have hL1 : a1.data.toList.length = a1.size := by simp
    have hz24 := lev_high a1.data.toList a2.data.toList
    have hv24 := lev_high a0.data.toList a2.data.toList
    have hL2 : a2.data.toList.length = a2.size := by simp
    have hsym := lev_symm a1.data.toList a0.data.toList
    have hzero := lev_zero a0.data.toList a1.data.toList
    have hhigh := lev_high a0.data.toList a1.data.toList
    have ht1 := lev_triangle a0.data.toList a1.data.toList a2.data.toList
    have ht2 := lev_triangle a0.data.toList a2.data.toList a1.data.toList
    rw [lev_symm a2.data.toList a1.data.toList] at ht2
    have ht3 := lev_triangle a1.data.toList a0.data.toList a2.data.toList
    rw [hsym] at ht3
    have f1 := fun w => far_ok a0 a1 w hab.1 hab.2
    have f2 := fun w => far_ok a1 a0 w hab.2 hab.1
    rw [hsym] at f2
    have f3 := fun h w => far_ok a1 a2 w hab.2 h
    have f4 := fun h w => far_ok a0 a2 w hab.1 h
    have F1 := Lib.hid f1; have F2 := Lib.hid f2; have F3 := Lib.hid f3; have F4 := Lib.hid f4
    have heq : (a0.toList == a1.toList) = decide (lev a0.data.toList a1.data.toList = 0) := by
      rw [Lib.toList_data, Lib.toList_data, Bool.eq_iff_iff, beq_iff_eq, decide_eq_true_iff, hzero]
    rw [hL0, hL1] at hhigh
    rw [hL1, hL2] at hz24
    rw [hL0, hL2] at hv24
    clear f1 f2 f3 f4 hL0 hL1 hL2 hsym hzero
    generalize lev a0.data.toList a1.data.toList = x at *
    generalize lev a1.data.toList a2.data.toList = z at *
    generalize lev a0.data.toList a2.data.toList = v at *
    have hx : x ≤ 24 := by omega
    by_cases hc : a2.size ≤ 24
    all_goals
      first
      | (replace hz24 : z ≤ 24 := by omega
         replace hv24 : v ≤ 24 := by omega)
      | clear hz24 hv24
      rcases Nat.eq_zero_or_pos x with hx0 | hx0
      all_goals
        first
        | (subst hx0
           simp only [decide_true] at heq)
        | (rw [decide_eq_false (show ¬ x = 0 by omega)] at heq)
        go_enter Try.func5, Try.ntmps5
        go_wp2_with fail
        refine (fact_any _).mono ?_
        rintro e w1 ⟨rfl, hb1⟩
        go_wp2_with fail
        refine (F1.out _).mono ?_
        rintro e w2 ⟨rfl, hb2⟩
        go_wp2_with fail
        refine (F2.out _).mono ?_
        rintro e w3 ⟨rfl, hb3⟩
        have hb := bnext (bnext hb1 hb2) hb3
        clear hb1 hb2 hb3
        go_wp2_with fail
        refine (in_yes (by omega) (by omega) _).mono ?_
        rintro e w4 ⟨rfl, rfl⟩
        go_wp2_with fail
        first
        | refine (F3.out hc _).mono ?_
        | refine (far_no a1 a2 _ (by omega)).mono ?_
        rintro e w5 ⟨rfl, hb5⟩
        go_wp2_with fail
        first
        | refine (F4.out hc _).mono ?_
        | refine (far_no a0 a2 _ (by omega)).mono ?_
        rintro e w6 ⟨rfl, hb6⟩
        have hb' := bnext (bnext hb hb5) hb6
        clear hb hb5 hb6
        go_wp2_with fail
        go_ret
        refine ⟨?_, hb'⟩
        first
        | rfl
        | exact ret_bool (by simp; try omega)
  · go_enter Try.func5, Try.ntmps5
    go_wp2_with fail
    refine (fact_any _).mono ?_
    rintro e w1 ⟨rfl, hb1⟩
    go_wp2_with fail
    refine (far_no a0 a1 _ hab).mono ?_
    rintro e w2 ⟨rfl, hb2⟩
    go_wp2_with fail
    refine (far_no a1 a0 _ (by omega)).mono ?_
    rintro e w3 ⟨rfl, hb3⟩
    go_wp2_with fail
    go_ret
    exact ⟨rfl, bnext (bnext hb1 hb2) hb3⟩
end Go.Proofs.Ytjlgjadkcpdpmaa.Ed
namespace Go.Proofs.Ytjlgjadkcpdpmaa.editMetric
abbrev walk := @Ed.walkMetric
end Go.Proofs.Ytjlgjadkcpdpmaa.editMetric
