/-
  The walk of the reference's in (letterbeckref2).
-/
import Derived.Test.YtnaoonegeboflaaBase
namespace Go.Proofs.Ytnaoonegeboflaa
open Go.RowKit
set_option linter.unusedVariables false

theorem refin_any (n lo hi : Int) (w : World) : Calls Try.prog 21 #[.int .i64 n, .int .i64 lo, .int .i64 hi] w fun e w' => e = .returned (.bool (decide (lo ≤ n ∧ n ≤ hi))) ∧ w = w' := by
  by_cases h1 : lo ≤ n <;> by_cases h2 : n ≤ hi
  all_goals
    go_enter Try.func21, Try.ntmps21
    go_wp2
    go_ret
    exact ⟨by simp [h1, h2], rfl⟩
end Go.Proofs.Ytnaoonegeboflaa
