/-
  A text's bytes as a list.
-/
import Derived.Test.YtfjjjkfldekooaaBase
import Derived.Lib.Strings
namespace Go.Proofs.Ytfjjjkfldekooaa
open Go.RowKit
set_option linter.unusedVariables false

/-- a text's bytes -/
def bs (s : ByteArray) : List UInt8 := s.data.toList

theorem bs_length (s : ByteArray) : (bs s).length = s.size := by simp [bs]
theorem bs_from (s : ByteArray) (k : Nat) : bs (s.extract k s.size) = (bs s).drop k := by
  show (s.extract k s.size).data.toList = s.data.toList.drop k
  rw [Lib.extract_data]
  exact List.take_of_length_le (by rw [List.length_drop, ← Lib.size_eq]; exact Nat.le_refl _)
theorem bs_to (s : ByteArray) (k : Nat) : bs (s.extract 0 k) = (bs s).take k := by
  show (s.extract 0 k).data.toList = s.data.toList.take k
  rw [Lib.extract_data]
  simp
theorem prefix_iff (l m : List UInt8) : l.isPrefixOf m = (decide (l.length ≤ m.length) && (m.take l.length == l)) := by
  rw [Bool.eq_iff_iff, List.isPrefixOf_iff_prefix, Bool.and_eq_true, decide_eq_true_iff, beq_iff_eq]
  constructor
  · intro h; exact ⟨h.length_le, (List.prefix_iff_eq_take.1 h).symm⟩
  · intro h; rw [List.prefix_iff_eq_take]; exact h.2.symm

theorem bs_inj {s t : ByteArray} (h : bs s = bs t) : s = t := by
  cases s; cases t
  unfold bs at h
  simp only at h
  rw [ByteArray.mk.injEq]
  exact Array.toList_inj.1 h
theorem bs_beq (s t : ByteArray) : (s.toList == t.toList) = (bs s == bs t) := by
  rw [Lib.toList_data, Lib.toList_data]; rfl
/-- texts as values -/
def texts (l : List ByteArray) : List Value := l.map Value.string
theorem texts_length (l : List ByteArray) : (texts l).length = l.length := by simp [texts]
theorem texts_get (l : List ByteArray) (k : Nat) : (texts l)[k]? = (l[k]?).map Value.string := by simp [texts]
theorem texts_take (l : List ByteArray) (n : Nat) : (texts l).take n = texts (l.take n) := by simp [texts, List.map_take]
theorem Reads.take1 {w : World} {A : Option Addr} {n k : Nat} {xs : List Value} (h : Reads w A n 1 xs) (hk : k ≤ n) : Reads w A k 1 (xs.take k) :=
  ⟨by have := h.1; simp; omega, fun h0 => by
    obtain ⟨b, o, e, hb, hc⟩ := h.2 (by omega)
    refine ⟨b, o, e, hb, fun j u hu => hc j u ?_⟩
    rw [List.getElem?_take] at hu
    split at hu
    · exact hu
    · cases hu⟩
end Go.Proofs.Ytfjjjkfldekooaa
