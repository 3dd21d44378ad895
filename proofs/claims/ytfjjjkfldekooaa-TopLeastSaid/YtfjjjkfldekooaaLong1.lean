/-
  core.Long at one text.
-/
import Derived.Test.YtfjjjkfldekooaaBase
namespace Go.Proofs.Ytfjjjkfldekooaa
open Go.RowKit

theorem long1_ok (s : ByteArray) (b : Nat) (most : Int) (w : World) (hc : w.cell? ⟨b, 0, none⟩ = some (.string s)) (hs : (s.size : Int) ≤ most) :
    Calls Try.prog 23 #[.int .i64 most, .slice (some ⟨b, 0, none⟩) 1 1] w fun e w' => e = .returned .nilIface ∧ w = w' := by
  have hs' : ¬ most < (s.size : Int) := by omega
  go_enter Try.func23, Try.ntmps23
  go_wp2
  refine wp_loop_rounds 2 ?_
  rw [rounds_succ]
  go_wp2
  rw [rounds_succ]
  go_wp2
  go_ret
  exact ⟨rfl, rfl⟩

theorem long1_no (s : ByteArray) (b : Nat) (most : Int) (w : World) (hc : w.cell? ⟨b, 0, none⟩ = some (.string s)) (hs : most < (s.size : Int)) :
    Calls Try.prog 23 #[.int .i64 most, .slice (some ⟨b, 0, none⟩) 1 1] w fun e w' => e = .returned (.iface 59 (.int .i64 4)) ∧ w = w' := by
  go_enter Try.func23, Try.ntmps23
  go_wp2
  refine wp_loop_rounds 2 ?_
  rw [rounds_succ]
  go_wp2
  go_ret
  exact ⟨rfl, rfl⟩

end Go.Proofs.Ytfjjjkfldekooaa
