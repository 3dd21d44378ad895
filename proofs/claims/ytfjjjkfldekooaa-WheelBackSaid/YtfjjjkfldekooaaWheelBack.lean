/-
  The walk of the law WheelBack, for every text; no condition.
-/
import Derived.Test.YtfjjjkfldekooaaWhFact
namespace Go.Proofs.Ytfjjjkfldekooaa.wheelBack
open Go.RowKit
set_option linter.unusedVariables false
set_option linter.unusedSimpArgs false

set_option maxHeartbeats 1000000 in
set_option maxRecDepth 100000 in
theorem walk (w : World) (s : ByteArray) (_hs : s.size ≤ 140737488351232) :
    Calls Try.prog 3 #[.string s] w fun e w' => e = .returned (.bool true) ∧ Below w.heap.size w w' := by
  have HF := Lib.hid wfact_any
  by_cases hs : s.size ≤ 24
  · by_cases h0 : s.size = 0
    · have hse : s = ⟨#[]⟩ := bs_inj (List.eq_nil_of_length_eq_zero (by rw [bs_length]; exact h0))
      subst hse
      have HT := Lib.hid (fun (W : World) => there_nil ⟨#[]⟩ W rfl)
      have HB := Lib.hid back_nil
      clear h0 hs _hs
      go_enter Try.func3, Try.ntmps3
      go_wp2_with fail
      refine (HF.out _).mono ?_
      rintro e w1 ⟨rfl, hb1⟩
      go_wp2_with fail
      refine (HT.out _).mono ?_
      rintro e w2 ⟨rfl, hb2⟩
      go_wp2_with fail
      refine (HB.out _).mono ?_
      rintro e w3 ⟨rfl, hb3⟩
      go_wp2_with fail
      go_ret
      exact ⟨rfl, bnext hb1 (bnext hb2 hb3)⟩
    · have HT := Lib.hid (fun (W : World) => there_ok s W hs (by omega))
      have HB := Lib.hid (fun (W : World) (k : Nat) (h : k < s.size) => back_at s k W hs h)
      go_enter Try.func3, Try.ntmps3
      go_wp2_with fail
      refine (HF.out _).mono ?_
      rintro e w1 ⟨rfl, hb1⟩
      go_wp2_with fail
      refine (HT.out _).mono ?_
      rintro e w2 ⟨⟨k, rfl, j, rfl, hj, _⟩, hb2⟩
      have hjs : j < s.size := by
        rcases Nat.lt_or_ge j s.size with h | h
        · exact h
        · rw [List.getElem?_eq_none (by rw [turnsB_length]; exact h)] at hj; cases hj
      have HJ := Lib.hid hj
      clear hj
      go_wp2_with fail
      refine (HB.out _ j hjs).mono ?_
      rintro e w3 ⟨⟨i, u, hi1, hi2, hu, rfl⟩, hb3⟩
      clear hi1 hi2
      have hus : u = s := Option.some.inj (hu.symm.trans HJ.out)
      subst hus
      clear hu HJ
      go_wp2_with fail
      go_ret
      exact ⟨by simp, bnext hb1 (bnext hb2 hb3)⟩
  · have HT := Lib.hid (fun (W : World) => there_no s W (by omega))
    go_enter Try.func3, Try.ntmps3
    go_wp2_with fail
    refine (HF.out _).mono ?_
    rintro e w1 ⟨rfl, hb1⟩
    go_wp2_with fail
    refine (HT.out _).mono ?_
    rintro e w2 ⟨rfl, hb2⟩
    go_wp2_with fail
    go_ret
    exact ⟨rfl, bnext hb1 hb2⟩
end Go.Proofs.Ytfjjjkfldekooaa.wheelBack
