/-
  What the laws of package rise share: the fact, 'in'.
-/
import Derived.Test.YtlchgjlinhakdaaRsShape
import Derived.Test.YtlchgjlinhakdaaRsFallW
import Derived.Test.YtlchgjlinhakdaaRsMax
import Derived.Test.YtlchgjlinhakdaaInts
namespace Go.Proofs.Ytlchgjlinhakdaa.Rs
open Go.RowKit
set_option linter.unusedVariables false

theorem in_any (n lo hi : Int) (w : World) : Calls Try.prog 11 #[.int .i64 n, .int .i64 lo, .int .i64 hi] w fun e w' => e = .returned (.bool (decide (lo ≤ n ∧ n ≤ hi))) ∧ w = w' := by
  by_cases h1 : lo ≤ n <;> by_cases h2 : n ≤ hi
  all_goals
    go_enter Try.func11, Try.ntmps11
    go_wp2
    go_ret
    exact ⟨by simp [h1, h2], rfl⟩
theorem in_yes {n lo hi : Int} (h1 : lo ≤ n) (h2 : n ≤ hi) (w : World) : Calls Try.prog 11 #[.int .i64 n, .int .i64 lo, .int .i64 hi] w fun e w' => e = .returned (.bool true) ∧ w = w' := by
  have := in_any n lo hi w
  rwa [decide_eq_true ⟨h1, h2⟩] at this
theorem in_no {n lo hi : Int} (h : ¬ (lo ≤ n ∧ n ≤ hi)) (w : World) : Calls Try.prog 11 #[.int .i64 n, .int .i64 lo, .int .i64 hi] w fun e w' => e = .returned (.bool false) ∧ w = w' := by
  have := in_any n lo hi w
  rwa [decide_eq_false h] at this

theorem lit_reads (w : World) : Reads (w.alloc (.cells #[.int .i64 3, .int .i64 1, .int .i64 2] 3)) (some ⟨w.heap.size, 0, none⟩) 3 1 (ints [3, 1, 2]) := reads_new w 3 (ints [3, 1, 2]) 3 1 rfl
theorem fact_any (w : World) : Calls Try.prog 8 #[] w fun e w' => e = .returned (.bool true) ∧ Below w.heap.size w w' := by
  have hc : chk [3, 1, 2] = 0 := by decide +kernel
  have e1 : (piles [3, 1, 2]).length = 2 := by decide +kernel
  have e2 : fall [3, 1, 2] = 2 := by decide +kernel
  have e3 : shape [3, 1, 2] = [2, 1] := by decide +kernel
  have f1 := fun (w : World) (g : Nat) hr => long_ok (some ⟨g, 0, none⟩) 3 [3, 1, 2] w hr hc
  have f2 := fun (w : World) (g : Nat) hr => fall_ok (some ⟨g, 0, none⟩) 3 [3, 1, 2] w hr (by decide) hc
  have f3 := fun (w : World) (g : Nat) hr => shape_ok (some ⟨g, 0, none⟩) 3 [3, 1, 2] w hr hc
  rw [e1] at f1
  rw [e2] at f2
  rw [e3] at f3
  have F1 := Lib.hid f1; have F2 := Lib.hid f2; have F3 := Lib.hid f3
  clear f1 f2 f3 e1 e2 e3 hc
  go_enter Try.func8, Try.ntmps8
  go_wp2_with fail
  refine (F1.out _ _ (lit_reads _)).mono ?_
  rintro e w1 ⟨rfl, hb1⟩
  go_wp2_with fail
  refine (F2.out _ _ (lit_reads _)).mono ?_
  rintro e w2 ⟨rfl, hb2⟩
  go_wp2_with fail
  refine (F3.out _ _ (lit_reads _)).mono ?_
  rintro e w3 ⟨v, rfl, hown, hb3⟩
  obtain ⟨A', cap', e⟩ := own_slice hown
  subst e
  have hr := Reads.of_own hown
  clear hown
  go_wp2_with fail
  refine (ints_any A' (some ⟨w3.heap.size, 0, none⟩) cap' 2 [2, 1] [2, 1] _ (hr.below (bnew _ _)) (reads_new w3 3 (ints [2, 1]) 2 1 rfl) (by decide)).mono ?_
  rintro e w4 ⟨rfl, hb4⟩
  go_wp2_with fail
  go_ret
  exact ⟨rfl, bnext (bnext (bnext (bnext (bnext (bnew _ _) hb1) (bnext (bnew _ _) hb2)) (bnext (bnew _ _) hb3)) (bnew _ _)) hb4⟩
end Go.Proofs.Ytlchgjlinhakdaa.Rs
