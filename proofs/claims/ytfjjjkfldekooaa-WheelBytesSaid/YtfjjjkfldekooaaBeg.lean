/-
  The walk of the reference's Begins: whether a text begins with another one.
-/
import Derived.Test.YtfjjjkfldekooaaBs
namespace Go.Proofs.Ytfjjjkfldekooaa
open Go.RowKit
set_option linter.unusedVariables false

theorem begins_any (s t : ByteArray) (w : World) (hs : s.size ≤ maxLen) (ht : t.size ≤ maxLen) :
    Calls Try.prog 32 #[.string s, .string t] w fun e w' => e = .returned (.bool ((bs t).isPrefixOf (bs s))) ∧ w = w' := by
  unfold maxLen at hs ht
  have hp := prefix_iff (bs t) (bs s)
  rw [bs_length, bs_length] at hp
  by_cases h : t.size ≤ s.size
  · rw [decide_eq_true h, Bool.true_and, ← bs_to] at hp
    have HP := Lib.hid hp; clear hp
    go_enter Try.func32, Try.ntmps32
    go_wp2
    go_ret
    refine ⟨ret_bool ?_, rfl⟩
    rw [HP.out]
    show ((s.extract 0 t.size).toList == t.toList) = _
    rw [Lib.toList_data, Lib.toList_data]
    rfl
  · rw [decide_eq_false h, Bool.false_and] at hp
    have HP := Lib.hid hp; clear hp
    go_enter Try.func32, Try.ntmps32
    go_wp2
    go_ret
    exact ⟨ret_bool HP.out.symm, rfl⟩

end Go.Proofs.Ytfjjjkfldekooaa
