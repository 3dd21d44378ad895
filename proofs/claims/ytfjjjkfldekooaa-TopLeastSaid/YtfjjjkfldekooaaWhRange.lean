/-
  core.Within; and wheel.Back at a place that is none.
-/
import Derived.Test.YtfjjjkfldekooaaWhBackNo
namespace Go.Proofs.Ytfjjjkfldekooaa
open Go.RowKit
set_option linter.unusedVariables false
set_option linter.unusedSimpArgs false

theorem within_any (n lo hi : Int) (w : World) : Calls Try.prog 29 #[.int .i64 n, .int .i64 lo, .int .i64 hi] w fun e w' => e = .returned (.bool (decide (lo ≤ n ∧ n ≤ hi))) ∧ w = w' := by
  by_cases h1 : lo ≤ n <;> by_cases h2 : n ≤ hi
  all_goals
    go_enter Try.func29, Try.ntmps29
    go_wp2
    go_ret
    exact ⟨by simp [h1, h2], rfl⟩
theorem back_range (s : ByteArray) (at_ : Int) (w : World) (hs : s.size ≤ 24) (h : at_ < 0 ∨ (0 < at_ ∧ (s.size : Int) ≤ at_)) :
    Calls Try.prog 10 #[.string s, .int .i64 at_] w fun e w' => e = .returned (.tuple #[.string ⟨#[]⟩, .iface 59 (.int .i64 1)]) ∧ Below w.heap.size w w' := by
  have kk : (s.size : Int) ≤ 24 := by omega
  have e1 : IntKind.i64.wrap ((s.size : Int) - 1) = (s.size : Int) - 1 := IntWalk.i64_in _ (by omega)
  go_enter Try.func10, Try.ntmps10
  go_wp2_with fail
  refine (long1_ok s _ 24 _ (by simp) kk).mono ?_
  rintro e w1 ⟨rfl, rfl⟩
  go_wp2_with fail
  refine (within_any _ _ _ _).mono ?_
  rintro e w2 ⟨rfl, rfl⟩
  rw [decide_eq_false (by omega)]
  go_wp2_with fail
  go_ret2
  exact ⟨rfl, bmore (bnew _ _) _⟩
end Go.Proofs.Ytfjjjkfldekooaa
