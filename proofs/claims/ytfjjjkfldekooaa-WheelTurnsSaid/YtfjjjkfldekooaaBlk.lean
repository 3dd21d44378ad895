/-
  core.Long at two texts.
-/
import Derived.Test.YtfjjjkfldekooaaIBlk
namespace Go.Proofs.Ytfjjjkfldekooaa
open Go.RowKit
set_option linter.unusedVariables false

theorem long2_ok (s t : ByteArray) (b : Nat) (most : Int) (w : World) (hc : w.cell? ⟨b, 0, none⟩ = some (.string s)) (hd : w.cell? ⟨b, 1, none⟩ = some (.string t)) (hs : (s.size : Int) ≤ most) (ht : (t.size : Int) ≤ most) :
    Calls Try.prog 23 #[.int .i64 most, .slice (some ⟨b, 0, none⟩) 2 2] w fun e w' => e = .returned .nilIface ∧ w = w' := by
  have hs' : ¬ most < (s.size : Int) := by omega
  have ht' : ¬ most < (t.size : Int) := by omega
  go_enter Try.func23, Try.ntmps23
  go_wp2
  refine wp_loop_rounds 3 ?_
  rw [rounds_succ]
  go_wp2
  rw [rounds_succ]
  go_wp2
  rw [rounds_succ]
  go_wp2
  go_ret
  exact ⟨rfl, rfl⟩
theorem long2_no (s t : ByteArray) (b : Nat) (most : Int) (w : World) (hc : w.cell? ⟨b, 0, none⟩ = some (.string s)) (hd : w.cell? ⟨b, 1, none⟩ = some (.string t)) (hs : ¬ ((s.size : Int) ≤ most ∧ (t.size : Int) ≤ most)) :
    Calls Try.prog 23 #[.int .i64 most, .slice (some ⟨b, 0, none⟩) 2 2] w fun e w' => e = .returned (.iface 59 (.int .i64 4)) ∧ w = w' := by
  by_cases h1 : (s.size : Int) ≤ most
  · have hs' : ¬ most < (s.size : Int) := by omega
    have ht' : most < (t.size : Int) := by omega
    clear hs h1
    go_enter Try.func23, Try.ntmps23
    go_wp2
    refine wp_loop_rounds 3 ?_
    rw [rounds_succ]
    go_wp2
    rw [rounds_succ]
    go_wp2
    go_ret
    exact ⟨rfl, rfl⟩
  · have hs' : most < (s.size : Int) := by omega
    clear hs h1
    go_enter Try.func23, Try.ntmps23
    go_wp2
    refine wp_loop_rounds 3 ?_
    rw [rounds_succ]
    go_wp2
    go_ret
    exact ⟨rfl, rfl⟩

end Go.Proofs.Ytfjjjkfldekooaa
