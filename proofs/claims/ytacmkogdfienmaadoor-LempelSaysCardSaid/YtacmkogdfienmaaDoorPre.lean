/-
  The walk of the reference's Begins (letterbeckref1): whether a text begins with another one.
-/
import Derived.Test.YtacmkogdfienmaaDoorBase
import Derived.Lib.Strings
namespace Go.Proofs.YtacmkogdfienmaaDoor
open Go.RowKit
set_option linter.unusedVariables false

/-- a text's bytes -/
def bs (s : ByteArray) : List UInt8 := s.data.toList

theorem bs_length (s : ByteArray) : (bs s).length = s.size := by simp [bs]
theorem bs_from (s : ByteArray) (k : Nat) : bs (s.extract k s.size) = (bs s).drop k := by
  show (s.extract k s.size).data.toList = s.data.toList.drop k
  rw [Lib.extract_data]
  exact List.take_of_length_le (by rw [List.length_drop, ← Lib.size_eq]; exact Nat.le_refl _)
theorem bs_to (s : ByteArray) (k : Nat) : bs (s.extract 0 k) = (bs s).take k := by
  show (s.extract 0 k).data.toList = s.data.toList.take k
  rw [Lib.extract_data]
  simp
theorem prefix_iff (l m : List UInt8) : l.isPrefixOf m = (decide (l.length ≤ m.length) && (m.take l.length == l)) := by
  rw [Bool.eq_iff_iff, List.isPrefixOf_iff_prefix, Bool.and_eq_true, decide_eq_true_iff, beq_iff_eq]
  constructor
  · intro h; exact ⟨h.length_le, (List.prefix_iff_eq_take.1 h).symm⟩
  · intro h; rw [List.prefix_iff_eq_take]; exact h.2.symm

theorem begins_any (s t : ByteArray) (w : World) (hs : s.size ≤ maxLen) (ht : t.size ≤ maxLen) :
    Calls Tryd.prog 11 #[.string s, .string t] w fun e w' => e = .returned (.bool ((bs t).isPrefixOf (bs s))) ∧ w = w' := by
  unfold maxLen at hs ht
  have hp := prefix_iff (bs t) (bs s)
  rw [bs_length, bs_length] at hp
  by_cases h : t.size ≤ s.size
  · rw [decide_eq_true h, Bool.true_and, ← bs_to] at hp
    have HP := Lib.hid hp; clear hp
    go_enter Tryd.func11, Tryd.ntmps11
    go_wp2
    go_ret
    refine ⟨ret_bool ?_, rfl⟩
    rw [HP.out]
    show ((s.extract 0 t.size).toList == t.toList) = _
    rw [Lib.toList_data, Lib.toList_data]
    rfl
  · rw [decide_eq_false h, Bool.false_and] at hp
    have HP := Lib.hid hp; clear hp
    go_enter Tryd.func11, Tryd.ntmps11
    go_wp2
    go_ret
    exact ⟨ret_bool HP.out.symm, rfl⟩

end Go.Proofs.YtacmkogdfienmaaDoor
