/-
  The walk of the law CommonWithin: it returns true for every three texts and two numbers.
-/
import Derived.Test.YtjlgjadkcpdpmaaCoLaw
namespace Go.Proofs.Ytjlgjadkcpdpmaa.Co
open Go.RowKit
set_option linter.unusedVariables false

theorem wi_refl_part (b : ByteArray) (i j : Nat) : wi (b.extract i j) b = true := by
  rw [wi_iff]
  unfold bs
  rw [Lib.extract_data]
  exact (List.take_sublist _ _).trans (List.drop_sublist _ _)

set_option maxHeartbeats 4000000 in
theorem walkWithin (w : World) (a0 : ByteArray) (s0 : a0.size ≤ 140737488351232) (a1 : ByteArray) (s1 : a1.size ≤ 140737488351232) (a2 : ByteArray) (s2 : a2.size ≤ 140737488351232) (i : Int) (s3 : -9223372036854775808 ≤ i ∧ i ≤ 9223372036854775807) (j : Int) (s4 : -9223372036854775808 ≤ j ∧ j ≤ 9223372036854775807) :
    Calls Try.prog 4 #[.string a0, .string a1, .string a2, .int .i64 i, .int .i64 j] w fun e w' => e = .returned (.bool true) ∧ Below w.heap.size w w' := by
  by_cases h0 : a0.size ≤ 24 <;> by_cases h1 : a1.size ≤ 24 <;> by_cases h2 : a2.size ≤ 24
  · have f1 := fun w => within_wi a0 a1 w h0 h1
    have f2 := fun w => within_wi a1 a2 w h1 h2
    have f3 := fun w => within_wi a0 a2 w h0 h2
    have f4 := fun w => within_wi a1 a0 w h1 h0
    have g1 : wi a0 a1 = true → wi a1 a2 = true → wi a0 a2 = true := by
      rw [wi_iff, wi_iff, wi_iff]
      exact List.Sublist.trans
    have g2 : (a0.toList == a1.toList) = (wi a0 a1 && wi a1 a0) := by
      rw [Lib.toList_data, Lib.toList_data, Bool.eq_iff_iff, beq_iff_eq, Bool.and_eq_true, wi_iff, wi_iff]
      refine ⟨fun h => by unfold bs; rw [h]; exact ⟨List.Sublist.refl _, List.Sublist.refl _⟩, fun h => h.1.eq_of_length_le h.2.length_le⟩
    generalize wi a0 a1 = X at *
    generalize wi a1 a2 = Y at *
    generalize wi a0 a2 = Z at *
    generalize wi a1 a0 = V at *
    have F1 := Lib.hid f1; have F2 := Lib.hid f2; have F3 := Lib.hid f3; have F4 := Lib.hid f4
    have G1 := Lib.hid g1; have G2 := Lib.hid g2
    clear f1 f2 f3 f4 g1 g2
    go_enter Try.func4, Try.ntmps4
    go_wp2_with fail
    refine (fact_any _).mono ?_
    rintro e w1 ⟨rfl, hb1⟩
    go_wp2_with fail
    refine (F1.out _).mono ?_
    rintro e w2 ⟨rfl, hb2⟩
    go_wp2_with fail
    refine (F2.out _).mono ?_
    rintro e w3 ⟨rfl, hb3⟩
    go_wp2_with fail
    refine (F3.out _).mono ?_
    rintro e w4 ⟨rfl, hb4⟩
    go_wp2_with fail
    refine (F4.out _).mono ?_
    rintro e w5 ⟨rfl, hb5⟩
    have hb := bnext (bnext (bnext (bnext hb1 hb2) hb3) hb4) hb5
    clear hb1 hb2 hb3 hb4 hb5 F1 F2 F3 F4
    have g1 := G1.out
    have g2 := G2.out
    clear G1 G2
    by_cases hi : 0 ≤ i ∧ i ≤ (a1.size : Int)
    · obtain ⟨I, rfl⟩ : ∃ I : Nat, i = (I : Int) := ⟨i.toNat, by omega⟩
      have hI : I ≤ a1.size := by omega
      by_cases hj : (I : Int) ≤ j ∧ j ≤ (a1.size : Int)
      · obtain ⟨J, rfl⟩ : ∃ J : Nat, j = (J : Int) := ⟨j.toNat, by omega⟩
        have hIJ : I ≤ J := by omega
        have hJ : J ≤ a1.size := by omega
        have FW := Lib.hid (fun w => within_wi (a1.extract I J) a1 w (by simp; omega) h1)
        have hpart := wi_refl_part a1 I J
        rw [hpart] at FW
        have hi1 := hi.1
        have hi2 := hi.2
        have hj1 := hj.1
        have hj2 := hj.2
        clear hi hj hpart
        cases X <;> cases Y <;> cases Z <;> cases V
        all_goals
          first
          | exact absurd (g1 rfl rfl) Bool.false_ne_true
          | (first
             | change (a0.toList == a1.toList) = true at g2
             | change (a0.toList == a1.toList) = false at g2
             clear g1
             go_wp2_with fail
             refine (in_yes hi1 hi2 _).mono ?_
             rintro e w6 ⟨rfl, rfl⟩
             go_wp2_with fail
             refine (in_yes hj1 hj2 _).mono ?_
             rintro e w7 ⟨rfl, rfl⟩
             go_wp2_with fail
             refine (FW.out _).mono ?_
             rintro e w8 ⟨rfl, hb8⟩
             go_wp2_with fail
             go_ret
             exact ⟨rfl, bnext hb hb8⟩)
      · have hi1 := hi.1
        have hi2 := hi.2
        clear hi
        cases X <;> cases Y <;> cases Z <;> cases V
        all_goals
          first
          | exact absurd (g1 rfl rfl) Bool.false_ne_true
          | (first
             | change (a0.toList == a1.toList) = true at g2
             | change (a0.toList == a1.toList) = false at g2
             clear g1
             go_wp2_with fail
             refine (in_yes hi1 hi2 _).mono ?_
             rintro e w6 ⟨rfl, rfl⟩
             go_wp2_with fail
             refine (in_no hj _).mono ?_
             rintro e w7 ⟨rfl, rfl⟩
             go_wp2_with fail
             go_ret
             exact ⟨rfl, hb⟩)
    · cases X <;> cases Y <;> cases Z <;> cases V
      all_goals
        first
        | exact absurd (g1 rfl rfl) Bool.false_ne_true
        | (first
           | change (a0.toList == a1.toList) = true at g2
           | change (a0.toList == a1.toList) = false at g2
           clear g1
           go_wp2_with fail
           refine (in_no hi _).mono ?_
           rintro e w6 ⟨rfl, rfl⟩
           go_wp2_with fail
           go_ret
           exact ⟨rfl, hb⟩)
  all_goals
    go_enter Try.func4, Try.ntmps4
    go_wp2_with fail
    refine (fact_any _).mono ?_
    rintro e w1 ⟨rfl, hb1⟩
    go_wp2_with fail
    first
    | refine (within_wi a0 a1 _ h0 h1).mono ?_
    | refine (within_no a0 a1 _ (by omega)).mono ?_
    rintro e w2 ⟨rfl, hb2⟩
    go_wp2_with fail
    first
    | refine (within_wi a1 a2 _ h1 h2).mono ?_
    | refine (within_no a1 a2 _ (by omega)).mono ?_
    rintro e w3 ⟨rfl, hb3⟩
    go_wp2_with fail
    first
    | refine (within_wi a0 a2 _ h0 h2).mono ?_
    | refine (within_no a0 a2 _ (by omega)).mono ?_
    rintro e w4 ⟨rfl, hb4⟩
    go_wp2_with fail
    first
    | refine (within_wi a1 a0 _ h1 h0).mono ?_
    | refine (within_no a1 a0 _ (by omega)).mono ?_
    rintro e w5 ⟨rfl, hb5⟩
    have hb := bnext (bnext (bnext (bnext hb1 hb2) hb3) hb4) hb5
    clear hb1 hb2 hb3 hb4 hb5
    go_wp2_with fail
    all_goals
      go_ret
      refine ⟨?_, hb⟩
      first
      | rfl
      | exact ret_bool (by simp; try omega)
end Go.Proofs.Ytjlgjadkcpdpmaa.Co
namespace Go.Proofs.Ytjlgjadkcpdpmaa.commonWithin
abbrev walk := @Co.walkWithin
end Go.Proofs.Ytjlgjadkcpdpmaa.commonWithin
