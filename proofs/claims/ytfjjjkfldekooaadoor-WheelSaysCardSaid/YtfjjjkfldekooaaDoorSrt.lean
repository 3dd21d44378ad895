/-
  Plain: places of texts in their order, the first of equal ones first; choosing the least again and again.
-/
import Derived.Test.YtfjjjkfldekooaaDoorBefP
namespace Go.Proofs.YtfjjjkfldekooaaDoor
set_option linter.unusedVariables false
set_option linter.unusedSimpArgs false

def txt (L : List (List UInt8)) (i : Nat) : List UInt8 := L[i]?.getD []
/-- the text at i stands ahead of that at j -/
def prec (L : List (List UInt8)) (i j : Nat) : Prop := bef (txt L i) (txt L j) = true ∨ (txt L i = txt L j ∧ i < j)
theorem prec_asymm {L : List (List UInt8)} {i j : Nat} (h : prec L i j) (h2 : prec L j i) : False := by
  rcases h with h | ⟨e, h⟩
  · rcases h2 with h2 | ⟨e, h2⟩
    · rw [bef_asymm h] at h2; cases h2
    · rw [e, bef_irrefl] at h; cases h
  · rcases h2 with h2 | ⟨_, h2⟩
    · rw [e, bef_irrefl] at h2; cases h2
    · omega
theorem prec_trans {L : List (List UInt8)} {i j k : Nat} (h : prec L i j) (h2 : prec L j k) : prec L i k := by
  rcases h with h | ⟨e, h⟩
  · rcases h2 with h2 | ⟨e, h2⟩
    · exact .inl (bef_trans _ _ _ h h2)
    · exact .inl (by rw [← e]; exact h)
  · rcases h2 with h2 | ⟨e2, h2⟩
    · exact .inl (by rw [e]; exact h2)
    · exact .inr ⟨e.trans e2, by omega⟩
structure IsSrt (L : List (List UInt8)) (o : List Nat) : Prop where
  perm : o.Perm (List.range L.length)
  sorted : o.Pairwise (prec L)
theorem IsSrt.unique {L : List (List UInt8)} {o o' : List Nat} (h : IsSrt L o) (h' : IsSrt L o') : o = o' :=
  List.Perm.eq_of_pairwise (le := prec L) (fun a b _ _ h1 h2 => (prec_asymm h1 h2).elim) h.sorted h'.sorted (h.perm.trans h'.perm.symm)
/-- so many have been chosen -/
structure Chosen (L : List (List UInt8)) (o : List Nat) : Prop where
  nodup : o.Nodup
  lt : ∀ x ∈ o, x < L.length
  sorted : o.Pairwise (prec L)
  rest : ∀ x ∈ o, ∀ y, y < L.length → y ∉ o → prec L x y
theorem Chosen.nil (L : List (List UInt8)) : Chosen L [] := ⟨List.nodup_nil, fun x h => by simp at h, List.Pairwise.nil, fun x h => by simp at h⟩
/-- the least of those below i that have not been chosen -/
def Best (L : List (List UInt8)) (o : List Nat) (i : Nat) (b : Int) : Prop :=
  (b = -1 ∧ ∀ j, j < i → j ∈ o) ∨ ∃ B : Nat, b = B ∧ B < i ∧ B ∉ o ∧ ∀ j, j < i → j ∉ o → j = B ∨ prec L B j
theorem Best.zero (L : List (List UInt8)) (o : List Nat) : Best L o 0 (-1) := .inl ⟨rfl, fun j h => by omega⟩
theorem Best.used {L : List (List UInt8)} {o : List Nat} {i : Nat} {b : Int} (h : Best L o i b) (hi : i ∈ o) : Best L o (i + 1) b := by
  rcases h with ⟨h1, h2⟩ | ⟨B, h1, h2, h3, h4⟩
  · refine .inl ⟨h1, fun j hj => ?_⟩
    by_cases e : j = i
    · rw [e]; exact hi
    · exact h2 j (by omega)
  · refine .inr ⟨B, h1, by omega, h3, fun j hj hjo => ?_⟩
    by_cases e : j = i
    · rw [e] at hjo; exact absurd hi hjo
    · exact h4 j (by omega) hjo
theorem Best.first {L : List (List UInt8)} {o : List Nat} {i : Nat} {b : Int} (h : Best L o i b) (hb : b < 0) (hi : i ∉ o) : Best L o (i + 1) i := by
  rcases h with ⟨h1, h2⟩ | ⟨B, h1, h2, h3, h4⟩
  · refine .inr ⟨i, rfl, by omega, hi, fun j hj hjo => ?_⟩
    by_cases e : j = i
    · exact .inl e
    · exact absurd (h2 j (by omega)) hjo
  · omega
theorem Best.less {L : List (List UInt8)} {o : List Nat} {i B : Nat} (h : Best L o i (B : Int)) (hi : i ∉ o) (hl : bef (txt L i) (txt L B) = true) : Best L o (i + 1) i := by
  rcases h with ⟨h1, h2⟩ | ⟨B', h1, h2, h3, h4⟩
  · omega
  · obtain rfl : B = B' := by omega
    refine .inr ⟨i, rfl, by omega, hi, fun j hj hjo => ?_⟩
    by_cases e : j = i
    · exact .inl e
    · rcases h4 j (by omega) hjo with h5 | h5
      · rw [h5]; exact .inr (.inl hl)
      · exact .inr (prec_trans (.inl hl) h5)
theorem Best.keep {L : List (List UInt8)} {o : List Nat} {i B : Nat} (h : Best L o i (B : Int)) (hi : i ∉ o) (hl : bef (txt L i) (txt L B) = false) : Best L o (i + 1) B := by
  rcases h with ⟨h1, h2⟩ | ⟨B', h1, h2, h3, h4⟩
  · omega
  · obtain rfl : B = B' := by omega
    refine .inr ⟨B, rfl, by omega, h3, fun j hj hjo => ?_⟩
    by_cases e : j = i
    · subst e
      right
      cases hb : bef (txt L B) (txt L j)
      · exact .inr ⟨bef_total _ _ hb hl, h2⟩
      · exact .inl hb
    · exact h4 j (by omega) hjo
theorem Chosen.some {L : List (List UInt8)} {o : List Nat} (h : Chosen L o) (hl : o.length < L.length) {b : Int} (hb : Best L o L.length b) : ∃ B : Nat, b = B ∧ B < L.length ∧ B ∉ o ∧ Chosen L (o ++ [B]) := by
  rcases hb with ⟨h1, h2⟩ | ⟨B, h1, h2, h3, h4⟩
  · exfalso
    have := List.Nodup.length_le_of_subset (List.nodup_range (n := L.length)) (l₂ := o) (fun j hj => h2 j (List.mem_range.1 hj))
    simp at this
    omega
  · refine ⟨B, h1, h2, h3, ⟨?_, ?_, ?_, ?_⟩⟩
    · refine List.nodup_append.2 ⟨h.nodup, by simp, ?_⟩
      intro a ha c hc e
      simp at hc
      subst e
      subst hc
      exact h3 ha
    · intro x hx
      rcases List.mem_append.1 hx with hx | hx
      · exact h.lt x hx
      · simp at hx; rw [hx]; exact h2
    · refine List.pairwise_append.2 ⟨h.sorted, by simp, ?_⟩
      intro a ha c hc
      simp at hc
      subst hc
      exact h.rest a ha _ h2 h3
    · intro x hx y hy hyo
      have hyo' : y ∉ o := fun e => hyo (List.mem_append_left _ e)
      rcases List.mem_append.1 hx with hx | hx
      · exact h.rest x hx y hy hyo'
      · simp at hx
        subst hx
        rcases h4 y hy hyo' with e | e
        · exact absurd (by rw [e]; simp) hyo
        · exact e
theorem Chosen.all {L : List (List UInt8)} {o : List Nat} (h : Chosen L o) (hl : o.length = L.length) : IsSrt L o := by
  refine ⟨?_, h.sorted⟩
  refine (List.perm_ext_iff_of_nodup h.nodup List.nodup_range).2 fun x => ?_
  rw [List.mem_range]
  constructor
  · exact h.lt x
  · intro hx
    refine Decidable.byContradiction fun hn => ?_
    have := List.Nodup.length_le_of_subset (l₁ := x :: o) (List.nodup_cons.2 ⟨hn, h.nodup⟩) (l₂ := List.range L.length) (fun j hj => by
      rcases List.mem_cons.1 hj with rfl | hj
      · exact List.mem_range.2 hx
      · exact List.mem_range.2 (h.lt j hj))
    simp at this
    omega
end Go.Proofs.YtfjjjkfldekooaaDoor
