/-
  The walk of the law CommonEdit: it returns true for every two texts.
-/
import Derived.Test.YtjlgjadkcpdpmaaCoLaw
import Derived.Test.YtjlgjadkcpdpmaaEdFar
namespace Go.Proofs.Ytjlgjadkcpdpmaa.Co
open Go.RowKit
open Go.Proofs.Ytjlgjadkcpdpmaa.Ed (lev far_ok far_no lev_high)
set_option linter.unusedVariables false

set_option maxHeartbeats 4000000 in
theorem walkEdit (w : World) (a0 : ByteArray) (s0 : a0.size ≤ 140737488351232) (a1 : ByteArray) (s1 : a1.size ≤ 140737488351232) :
    Calls Try.prog 9 #[.string a0, .string a1] w fun e w' => e = .returned (.bool true) ∧ Below w.heap.size w w' := by
  by_cases hab : a0.size ≤ 24 ∧ a1.size ≤ 24
  · obtain ⟨h0, h1⟩ := hab
    have L1 := fun w => long_ok a0 a1 w h0 h1
    have L2 := fun w => long_ok a1 a0 w h1 h0
    have F := fun w => far_ok a0 a1 w h0 h1
    rw [lcs_symm (bs a1) (bs a0)] at L2
    have q1 := lev_lcs (bs a0) (bs a1)
    have q2 := lcs_lev (bs a0) (bs a1)
    have q3 := lcs_le (bs a0) (bs a1)
    have q4 := lev_high (bs a0) (bs a1)
    change ∀ w, Calls Try.prog 17 #[.string a0, .string a1] w fun e w' => e = .returned (.tuple #[.int .i64 (lev (bs a0) (bs a1) : Int), .nilIface]) ∧ Below w.heap.size w w' at F
    rw [bs_length, bs_length] at q1 q2 q3 q4
    generalize lcs (bs a0) (bs a1) = n at *
    generalize lev (bs a0) (bs a1) = k at *
    have q5 : k ≤ 24 := by omega
    have q6 : n ≤ 24 := by omega
    have r1 : (k : Int) ≤ (a0.size : Int) + (a1.size : Int) - 2 * (n : Int) := by omega
    have r2 : (a0.size : Int) + (a1.size : Int) - 2 * (n : Int) ≤ 2 * (k : Int) := by omega
    clear q1 q2 q3 q4
    have HL1 := Lib.hid L1; have HL2 := Lib.hid L2; have HF := Lib.hid F
    clear L1 L2 F
    go_enter Try.func9, Try.ntmps9
    go_wp2_with fail
    refine (fact_any _).mono ?_
    rintro e w1 ⟨rfl, hb1⟩
    go_wp2_with fail
    refine (HL1.out _).mono ?_
    rintro e w2 ⟨rfl, hb2⟩
    go_wp2_with fail
    refine (HF.out _).mono ?_
    rintro e w3 ⟨rfl, hb3⟩
    go_wp2_with fail
    refine (HL2.out _).mono ?_
    rintro e w4 ⟨rfl, hb4⟩
    have hb := bnext (bnext (bnext hb1 hb2) hb3) hb4
    clear hb1 hb2 hb3 hb4 HL1 HL2 HF
    go_wp2_with fail
    all_goals
      go_ret
      refine ⟨?_, hb⟩
      first
      | rfl
      | exact ret_bool (by simp; try omega)
  · go_enter Try.func9, Try.ntmps9
    go_wp2_with fail
    refine (fact_any _).mono ?_
    rintro e w1 ⟨rfl, hb1⟩
    go_wp2_with fail
    refine (long_no a0 a1 _ hab).mono ?_
    rintro e w2 ⟨rfl, hb2⟩
    go_wp2_with fail
    refine (far_no a0 a1 _ hab).mono ?_
    rintro e w3 ⟨rfl, hb3⟩
    go_wp2_with fail
    go_ret
    exact ⟨by first | rfl | exact ret_bool (by simp), bnext (bnext hb1 hb2) hb3⟩
end Go.Proofs.Ytjlgjadkcpdpmaa.Co
namespace Go.Proofs.Ytjlgjadkcpdpmaa.commonEdit
abbrev walk := @Co.walkEdit
end Go.Proofs.Ytjlgjadkcpdpmaa.commonEdit
