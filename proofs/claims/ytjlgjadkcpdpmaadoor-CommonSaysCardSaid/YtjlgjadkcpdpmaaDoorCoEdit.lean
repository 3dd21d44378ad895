/-
  The common subsequence's length against the edit distance.
-/
import Derived.Test.YtjlgjadkcpdpmaaDoorCoPlain
import Derived.Test.YtjlgjadkcpdpmaaDoorEdPlain
namespace Go.Proofs.YtjlgjadkcpdpmaaDoor.Co
open List
open Go.Proofs.YtjlgjadkcpdpmaaDoor.Ed (lev lev_symm lev_triangle lev_del lev_self Edit edit_of lev_nil lev_same)
set_option linter.unusedVariables false

theorem lev_sub {c a : List UInt8} (h : c <+ a) : lev a c ≤ a.length - c.length := by
  induction h with
  | slnil => exact Nat.le_of_eq (lev_self [])
  | @cons c a x h ih =>
    have h1 := (lev_del a c x).1
    have h2 := h.length_le
    simp only [List.length_cons]
    omega
  | @cons_cons c a x h ih =>
    rw [lev_same]
    simp only [List.length_cons]
    omega
theorem lev_lcs (a b : List UInt8) : lev a b ≤ a.length + b.length - 2 * lcs a b := by
  obtain ⟨c, h1, h2, h3⟩ := lcs_ex a b
  have k1 := lev_sub h1
  have k2 := lev_sub h2
  rw [lev_symm] at k2
  have k3 := lev_triangle a c b
  have l1 := h1.length_le
  have l2 := h2.length_le
  omega
theorem lcs_mono {a b a' b' : List UInt8} (ha : a <+ a') (hb : b <+ b') : lcs a b ≤ lcs a' b' := by
  obtain ⟨c, h1, h2, h3⟩ := lcs_ex a b
  rw [← h3]
  exact lcs_ge (h1.trans ha) (h2.trans hb)
theorem lcs_edit {a b : List UInt8} {n : Nat} (h : Edit a b n) : a.length + b.length ≤ 2 * lcs a b + 2 * n := by
  refine Edit.ind (P := fun a b n => a.length + b.length ≤ 2 * lcs a b + 2 * n) ?_ ?_ ?_ ?_ ?_ h
  · simp
  · intro x a b n _ ih
    rw [lcs_cons, if_pos rfl]
    simp only [List.length_cons]
    omega
  · intro x y a b n _ ih
    have := lcs_mono (List.sublist_cons_self x a) (List.sublist_cons_self y b)
    simp only [List.length_cons]
    omega
  · intro y a b n _ ih
    have := lcs_mono (List.Sublist.refl a) (List.sublist_cons_self y b)
    simp only [List.length_cons]
    omega
  · intro x a b n _ ih
    have := lcs_mono (List.sublist_cons_self x a) (List.Sublist.refl b)
    simp only [List.length_cons]
    omega
theorem lcs_lev (a b : List UInt8) : a.length + b.length ≤ 2 * lcs a b + 2 * lev a b := lcs_edit (edit_of a b)
end Go.Proofs.YtjlgjadkcpdpmaaDoor.Co
