/-
  The walk of wheel.Back at a text that is too long.
-/
import Derived.Test.YtfjjjkfldekooaaWhCmp
import Derived.Test.YtfjjjkfldekooaaWhNil
namespace Go.Proofs.Ytfjjjkfldekooaa
open Go.RowKit
set_option linter.unusedVariables false
set_option linter.unusedSimpArgs false

theorem back_no (s : ByteArray) (at_ : Int) (w : World) (hs : 24 < s.size) :
    Calls Try.prog 10 #[.string s, .int .i64 at_] w fun e w' => e = .returned (.tuple #[.string ⟨#[]⟩, .iface 59 (.int .i64 4)]) ∧ Below w.heap.size w w' := by
  have kk : (24 : Int) < (s.size : Int) := by omega
  go_enter Try.func10, Try.ntmps10
  go_wp2_with fail
  refine (long1_no s _ 24 _ (by simp) kk).mono ?_
  rintro e w1 ⟨rfl, rfl⟩
  go_wp2_with fail
  go_ret2
  exact ⟨rfl, bmore (bnew _ _) _⟩
end Go.Proofs.Ytfjjjkfldekooaa
