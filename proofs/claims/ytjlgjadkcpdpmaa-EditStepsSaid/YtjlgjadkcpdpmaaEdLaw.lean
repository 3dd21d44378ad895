/-
  What the laws of package edit share: the fact, 'in'.
-/
import Derived.Test.YtjlgjadkcpdpmaaEdStepsW
namespace Go.Proofs.Ytjlgjadkcpdpmaa.Ed
open Go.RowKit
set_option linter.unusedVariables false

theorem in_any (n lo hi : Int) (w : World) : Calls Try.prog 15 #[.int .i64 n, .int .i64 lo, .int .i64 hi] w fun e w' => e = .returned (.bool (decide (lo ≤ n ∧ n ≤ hi))) ∧ w = w' := by
  by_cases h1 : lo ≤ n <;> by_cases h2 : n ≤ hi
  all_goals
    go_enter Try.func15, Try.ntmps15
    go_wp2
    go_ret
    exact ⟨by simp [h1, h2], rfl⟩
theorem in_yes {n lo hi : Int} (h1 : lo ≤ n) (h2 : n ≤ hi) (w : World) : Calls Try.prog 15 #[.int .i64 n, .int .i64 lo, .int .i64 hi] w fun e w' => e = .returned (.bool true) ∧ w = w' := by
  have := in_any n lo hi w
  rwa [decide_eq_true ⟨h1, h2⟩] at this
theorem in_no {n lo hi : Int} (h : ¬ (lo ≤ n ∧ n ≤ hi)) (w : World) : Calls Try.prog 15 #[.int .i64 n, .int .i64 lo, .int .i64 hi] w fun e w' => e = .returned (.bool false) ∧ w = w' := by
  have := in_any n lo hi w
  rwa [decide_eq_false h] at this

def kit : ByteArray := ⟨#[107, 105, 116, 116, 101, 110]⟩
def sit : ByteArray := ⟨#[115, 105, 116, 116, 105, 110, 103]⟩
theorem far_kit (w : World) : Calls Try.prog 17 #[.string ⟨#[107, 105, 116, 116, 101, 110]⟩, .string ⟨#[115, 105, 116, 116, 105, 110, 103]⟩] w fun e w' => e = .returned (.tuple #[.int .i64 3, .nilIface]) ∧ Below w.heap.size w w' := by
  have h := far_ok kit sit w (by decide) (by decide)
  have e : lev kit.data.toList sit.data.toList = 3 := by decide +kernel
  rw [e] at h
  exact h
theorem steps_ab (w : World) : Calls Try.prog 18 #[.string ⟨#[97, 98]⟩, .string ⟨#[98]⟩] w fun e w' => e = .returned (.tuple #[.string ⟨#[45, 61]⟩, .nilIface]) ∧ Below w.heap.size w w' := by
  have h := steps_ok ⟨#[97, 98]⟩ ⟨#[98]⟩ w (by decide) (by decide)
  have e : (steps (bs ⟨#[97, 98]⟩) (bs ⟨#[98]⟩)).toArray = #[45, 61] := by decide +kernel
  rw [e] at h
  exact h
theorem fact_any (w : World) : Calls Try.prog 16 #[] w fun e w' => e = .returned (.bool true) ∧ Below w.heap.size w w' := by
  go_enter Try.func16, Try.ntmps16
  go_wp2_with fail
  refine (far_kit _).mono ?_
  rintro e w1 ⟨rfl, hb⟩
  go_wp2_with fail
  refine (steps_ab _).mono ?_
  rintro e w2 ⟨rfl, hb2⟩
  go_wp2_with fail
  go_ret
  exact ⟨rfl, bnext hb hb2⟩
end Go.Proofs.Ytjlgjadkcpdpmaa.Ed
