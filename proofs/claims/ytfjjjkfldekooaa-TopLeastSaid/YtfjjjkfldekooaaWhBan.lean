/-
  The turns of "banana".
-/
import Derived.Test.YtfjjjkfldekooaaWhNil
namespace Go.Proofs.Ytfjjjkfldekooaa
open Go.RowKit
theorem turns_eq (s : ByteArray) (P : List (List UInt8)) (h1 : P.Perm ((trnB s (List.finRange s.size)).map bs)) (h2 : P.Pairwise (fun x y => x ≤ y)) : turnsB s = P.map ba := by
  unfold turnsB sortB
  congr 1
  refine List.Perm.eq_of_pairwise (le := fun x y => x ≤ y) (fun a b _ _ h h' => List.le_antisymm h h') ?_ h2 ((List.mergeSort_perm _ _).trans h1.symm)
  have := List.pairwise_mergeSort (le := fun x y : List UInt8 => decide (x ≤ y)) (fun a b c h h' => by simp at h h' ⊢; exact List.le_trans h h') (fun a b => by simp; exact List.le_total a b) ((trnB s (List.finRange s.size)).map bs)
  exact this.imp (fun h => by simpa using h)
theorem turns_banana : turnsB ⟨#[98, 97, 110, 97, 110, 97]⟩ = ([[97, 98, 97, 110, 97, 110], [97, 110, 97, 98, 97, 110], [97, 110, 97, 110, 97, 98], [98, 97, 110, 97, 110, 97], [110, 97, 98, 97, 110, 97], [110, 97, 110, 97, 98, 97]] : List (List UInt8)).map ba :=
  turns_eq _ _ (by decide +kernel) (by decide +kernel)
theorem lasts_banana : lasts ⟨#[98, 97, 110, 97, 110, 97]⟩ = [110, 110, 98, 97, 97, 97] := by
  unfold lasts
  rw [turns_banana]
  decide +kernel
end Go.Proofs.Ytfjjjkfldekooaa
