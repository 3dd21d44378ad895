/-
  The turns of a text in order, as lists; and that turning back gives the turn at the place.
-/
import Derived.Test.YtfjjjkfldekooaaWhBack
import Derived.Test.YtfjjjkfldekooaaWhBan
namespace Go.Proofs.Ytfjjjkfldekooaa
open Go.RowKit
set_option linter.unusedVariables false
set_option linter.unusedSimpArgs false

def turnsL (s : ByteArray) : List (List UInt8) := (turnsB s).map bs
theorem bs_app (a b : ByteArray) : bs (a ++ b) = bs a ++ bs b := by
  unfold bs
  rw [ByteArray.data_append, Array.toList_append]
theorem bs_trn (s : ByteArray) (i : Nat) : bs (trn s i) = rotL (bs s) i := by
  unfold trn rotL
  rw [bs_app, bs_from, bs_to]
theorem trnB_all (s : ByteArray) : (trnB s (List.finRange s.size)).map bs = rots (bs s) := by
  unfold trnB rots
  rw [List.map_map, bs_length]
  refine List.ext_getElem (by simp) fun i h1 h2 => ?_
  simp [bs_trn]
theorem turnsL_eq (s : ByteArray) : turnsL s = (rots (bs s)).mergeSort fun x y => decide (x ≤ y) := by
  unfold turnsL turnsB sortB
  rw [List.map_map, trnB_all]
  conv => rhs; rw [← List.map_id ((rots (bs s)).mergeSort fun x y => decide (x ≤ y))]
  exact List.map_congr_left fun x _ => bs_ba x
theorem turnsL_perm (s : ByteArray) : (turnsL s).Perm (rots (bs s)) := by
  rw [turnsL_eq]
  exact List.mergeSort_perm _ _
theorem turnsL_sorted (s : ByteArray) : (turnsL s).Pairwise leL := by
  rw [turnsL_eq]
  have := List.pairwise_mergeSort (le := fun x y : List UInt8 => decide (x ≤ y)) (fun a b c h h' => by simp at h h' ⊢; exact List.le_trans h h') (fun a b => by simp; exact List.le_total a b) (rots (bs s))
  exact this.imp (fun h => (leL_iff _ _).2 (by simpa using h))
theorem turnsL_length (s : ByteArray) : (turnsL s).length = s.size := by unfold turnsL; rw [List.length_map, turnsB_length]
theorem turnsL_size (s : ByteArray) : ∀ x ∈ turnsL s, x.length = s.size := by
  intro x hx
  obtain ⟨t, ht, rfl⟩ := List.mem_map.1 hx
  rw [bs_length, turnsB_size s t ht]
theorem turnsL_rotr (s : ByteArray) : ((turnsL s).map rotr).Perm (turnsL s) :=
  ((turnsL_perm s).map rotr).trans ((rots_rotr _).trans (turnsL_perm s).symm)
theorem lastB_lastL (t : ByteArray) : lastB t = lastL (bs t) := by
  unfold lastB lastL byN
  rw [bs_length]
theorem lasts_map (s : ByteArray) : lasts s = (turnsL s).map lastL := by
  unfold lasts turnsL
  rw [List.map_map]
  exact List.map_congr_left fun t _ => lastB_lastL t
theorem map_bs_inj {A B : List ByteArray} (h : A.map bs = B.map bs) : A = B := by
  have := congrArg (List.map ba) h
  rw [List.map_map, List.map_map] at this
  have e : ∀ L : List ByteArray, L.map (ba ∘ bs) = L := fun L => by
    conv => rhs; rw [← List.map_id L]
    exact List.map_congr_left fun x _ => ba_bs x
  rwa [e, e] at this
theorem turns_trn (s : ByteArray) (i : Nat) (h : i ≤ s.size) : turnsB (trn s i) = turnsB s := by
  refine map_bs_inj (sorted_eq ?_ (turnsL_sorted (trn s i)) (turnsL_sorted s))
  refine (turnsL_perm (trn s i)).trans (List.Perm.trans ?_ (turnsL_perm s).symm)
  rw [bs_trn]
  exact rots_perm _ _ (by rw [bs_length]; exact h)
theorem lasts_trn (s : ByteArray) (i : Nat) (h : i ≤ s.size) : lasts (trn s i) = lasts s := by unfold lasts; rw [turns_trn s i h]
theorem lasts_length (s : ByteArray) : (lasts s).length = s.size := by rw [lasts_map, List.length_map, turnsL_length]
/-- turning back the last bytes of a text's turns -/
theorem back_wheel (s t : ByteArray) (F : List Nat) (k : Nat) (ht : bs t = lasts s) (hF : IsFrom (bs t) F) (hk : k < s.size) :
    ∃ i u, i < s.size ∧ u = trn s i ∧ (turnsB s)[k]? = some u ∧ outB t F k = u ∧ backV t F k = .tuple #[.string u, .nilIface] := by
  have htl : t.size = s.size := by rw [← bs_length, ht, lasts_length]
  obtain ⟨u, hu⟩ : ∃ u, (turnsB s)[k]? = some u := ⟨_, List.getElem?_eq_getElem (by rw [turnsB_length]; exact hk)⟩
  obtain ⟨i, hi, hiu⟩ := (turnsB_mem s u).1 (List.mem_of_getElem? hu)
  rw [ht, lasts_map] at hF
  have h1 := turn_row (turnsL_length s) (turnsL_size s) (turnsL_sorted s) (turnsL_rotr s) hF k hk
  have h2 : (turnsL s)[k]?.getD [] = bs u := by
    unfold turnsL
    rw [List.getElem?_map, hu]; rfl
  rw [h2, ← lasts_map, ← ht, ← htl] at h1
  have h3 : outB t F k = u := by
    unfold outB
    rw [h1, ba_bs]
  refine ⟨i, u, hi, hiu.symm, hu, h3, ?_⟩
  unfold backV
  rw [h3]
  exact if_pos (by rw [← hiu, lasts_trn s i (by omega), ht])
/-- the closed fact's two answers -/
theorem place_banana (j : Nat) (h1 : (turnsB ⟨#[98, 97, 110, 97, 110, 97]⟩)[j]? = some ⟨#[98, 97, 110, 97, 110, 97]⟩) : j = 3 := by
  rw [turns_banana] at h1
  have hj : j < 6 := by
    rcases Nat.lt_or_ge j 6 with h | h
    · exact h
    · rw [List.getElem?_eq_none (by simpa using h)] at h1; cases h1
  have : j = 0 ∨ j = 1 ∨ j = 2 ∨ j = 3 ∨ j = 4 ∨ j = 5 := by omega
  rcases this with rfl | rfl | rfl | rfl | rfl | rfl
  all_goals first | rfl | (exfalso; revert h1; decide +kernel)
end Go.Proofs.Ytfjjjkfldekooaa
