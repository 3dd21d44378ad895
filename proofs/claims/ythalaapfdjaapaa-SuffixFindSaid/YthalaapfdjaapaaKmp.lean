/-
  Plain: borders of a word, and how far a word stands at a place of a text (Knuth, Morris and Pratt).
-/
import Derived.Sort.Statements
namespace Go.Proofs.Ythalaapfdjaapaa.Kmp
set_option linter.unusedVariables false
set_option linter.unusedSimpArgs false

/-- the first k of w end at the place i of u -/
def Occ (w u : List UInt8) (i k : Nat) : Prop := k ≤ i ∧ k ≤ w.length ∧ ∀ t, t < k → w[t]? = u[i - k + t]?
def Edge (s : List UInt8) (n k : Nat) : Prop := k < n ∧ ∀ t, t < k → s[t]? = s[n - k + t]?
def MaxEdge (s : List UInt8) (n k : Nat) : Prop := Edge s n k ∧ ∀ j, Edge s n j → j ≤ k
def Lo (w u : List UInt8) (i k : Nat) : Prop := Occ w u i k ∧ ∀ j, Occ w u i j → j ≤ k
def Cand (w u : List UInt8) (i k : Nat) : Prop := Occ w u i k ∧ ∀ j, Occ w u i j → k < j → ¬ (j < w.length ∧ w[j]? = u[i]?)
def ECand (s : List UInt8) (i k : Nat) : Prop := Edge s i k ∧ ∀ j, Edge s i j → k < j → ¬ s[j]? = s[i]?
section
variable {w u s : List UInt8} {i j k n : Nat}
theorem occ_sub (h : Occ w u i k) (h' : Occ w u i j) (hlt : j < k) : Edge w k j := by
  refine ⟨hlt, fun t ht => ?_⟩
  have a := h.1; have b := h'.1
  rw [h'.2.2 t ht, h.2.2 (k - j + t) (by omega)]
  congr 1
  omega
theorem occ_edge (h : Occ w u i k) (h' : Edge w k j) : Occ w u i j := by
  have a := h.1; have b := h'.1; have c := h.2.1
  refine ⟨by omega, by omega, fun t ht => ?_⟩
  rw [h'.2 t ht, h.2.2 (k - j + t) (by omega)]
  congr 1
  omega
theorem edge_edge (h : Edge s n k) (h' : Edge s k j) : Edge s n j := by
  have a := h.1; have b := h'.1
  refine ⟨by omega, fun t ht => ?_⟩
  rw [h'.2 t ht, h.2 (k - j + t) (by omega)]
  congr 1
  omega
theorem edge_sub (h : Edge s n k) (h' : Edge s n j) (hlt : j < k) : Edge s k j := by
  have a := h.1; have b := h'.1
  refine ⟨hlt, fun t ht => ?_⟩
  rw [h'.2 t ht, h.2 (k - j + t) (by omega)]
  congr 1
  omega
theorem edge_zero (h : 0 < n) : Edge s n 0 := ⟨h, fun t ht => by omega⟩
theorem occ_zero : Occ w u i 0 := ⟨Nat.zero_le _, Nat.zero_le _, fun t ht => by omega⟩
theorem occ_succ : Occ w u (i + 1) (k + 1) ↔ Occ w u i k ∧ k < w.length ∧ w[k]? = u[i]? := by
  constructor
  · rintro ⟨h1, h2, h3⟩
    refine ⟨⟨by omega, by omega, fun t ht => ?_⟩, by omega, ?_⟩
    · rw [h3 t (by omega)]; congr 1; omega
    · rw [h3 k (by omega)]; congr 1; omega
  · rintro ⟨⟨h1, h2, h3⟩, h4, h5⟩
    refine ⟨by omega, by omega, fun t ht => ?_⟩
    by_cases htk : t = k
    · subst htk; rw [h5]; congr 1; omega
    · rw [h3 t (by omega)]; congr 1; omega
theorem edge_succ : Edge s (i + 1) (k + 1) ↔ Edge s i k ∧ s[k]? = s[i]? := by
  constructor
  · rintro ⟨h1, h3⟩
    refine ⟨⟨by omega, fun t ht => ?_⟩, ?_⟩
    · rw [h3 t (by omega)]; congr 1; omega
    · rw [h3 k (by omega)]; congr 1; omega
  · rintro ⟨⟨h1, h3⟩, h5⟩
    refine ⟨by omega, fun t ht => ?_⟩
    by_cases htk : t = k
    · subst htk; rw [h5]; congr 1; omega
    · rw [h3 t (by omega)]; congr 1; omega
theorem MaxEdge.cand (h : MaxEdge s i k) : ECand s i k := ⟨h.1, fun j hj hlt => by have := h.2 j hj; omega⟩
theorem ECand.next (h : ECand s i k) (hne : ¬ s[k]? = s[i]?) (h2 : MaxEdge s k j) : ECand s i j := by
  refine ⟨edge_edge h.1 h2.1, fun m hm hlt => ?_⟩
  rcases Nat.lt_trichotomy m k with h3 | h3 | h3
  · have := h2.2 m (edge_sub h.1 hm h3); omega
  · rw [h3]; exact hne
  · exact h.2 m hm h3
theorem ECand.yes (h : ECand s i k) (he : s[k]? = s[i]?) : MaxEdge s (i + 1) (k + 1) := by
  refine ⟨edge_succ.2 ⟨h.1, he⟩, fun j hj => ?_⟩
  cases j with
  | zero => omega
  | succ j =>
    obtain ⟨h1, h2⟩ := edge_succ.1 hj
    rcases Nat.lt_or_ge k j with h3 | h3
    · exact absurd h2 (h.2 j h1 h3)
    · omega
theorem ECand.no (h : ECand s i 0) (he : ¬ s[0]? = s[i]?) : MaxEdge s (i + 1) 0 := by
  refine ⟨edge_zero (by omega), fun j hj => ?_⟩
  cases j with
  | zero => omega
  | succ j =>
    obtain ⟨h1, h2⟩ := edge_succ.1 hj
    cases j with
    | zero => exact absurd h2 he
    | succ j => exact absurd h2 (h.2 _ h1 (by omega))
theorem maxEdge_one : MaxEdge s 1 0 := ⟨edge_zero (by omega), fun j hj => by have := hj.1; omega⟩
theorem Lo.cand (h : Lo w u i k) : Cand w u i k := ⟨h.1, fun j hj hlt => by have := h.2 j hj; omega⟩
theorem lo_zero : Lo w u 0 0 := ⟨occ_zero, fun j hj => hj.1⟩
theorem Cand.next (h : Cand w u i k) (hne : ¬ (k < w.length ∧ w[k]? = u[i]?)) (h2 : MaxEdge w k j) : Cand w u i j := by
  refine ⟨occ_edge h.1 h2.1, fun m hm hlt => ?_⟩
  rcases Nat.lt_trichotomy m k with h3 | h3 | h3
  · have := h2.2 m (occ_sub h.1 hm h3); omega
  · rw [h3]; exact hne
  · exact h.2 m hm h3
theorem Cand.yes (h : Cand w u i k) (hk : k < w.length) (he : w[k]? = u[i]?) : Lo w u (i + 1) (k + 1) := by
  refine ⟨occ_succ.2 ⟨h.1, hk, he⟩, fun j hj => ?_⟩
  cases j with
  | zero => omega
  | succ j =>
    obtain ⟨h1, h2⟩ := occ_succ.1 hj
    rcases Nat.lt_or_ge k j with h3 | h3
    · exact absurd h2 (h.2 j h1 h3)
    · omega
theorem Cand.no (h : Cand w u i 0) (he : ¬ w[0]? = u[i]?) : Lo w u (i + 1) 0 := by
  refine ⟨occ_zero, fun j hj => ?_⟩
  cases j with
  | zero => omega
  | succ j =>
    obtain ⟨h1, h2⟩ := occ_succ.1 hj
    cases j with
    | zero => exact absurd h2.2 he
    | succ j => exact absurd h2 (h.2 _ h1 (by omega))
/-- the whole word stands ahead of the place -/
theorem occ_whole (hi : i ≤ u.length) (hw : w.length ≤ i) : Occ w u i w.length ↔ w <+: u.drop (i - w.length) := by
  constructor
  · rintro ⟨_, _, h⟩
    rw [List.prefix_iff_eq_take]
    refine List.ext_getElem? fun t => ?_
    by_cases ht : t < w.length
    · rw [h t ht, List.getElem?_take_of_lt ht, List.getElem?_drop]
    · rw [List.getElem?_eq_none (by omega), List.getElem?_eq_none (by rw [List.length_take]; omega)]
  · intro h
    refine ⟨hw, Nat.le_refl _, fun t ht => ?_⟩
    have e : w[t]? = (List.take w.length (u.drop (i - w.length)))[t]? := congrArg (fun x : List UInt8 => x[t]?) (List.prefix_iff_eq_take.1 h)
    rw [e, List.getElem?_take_of_lt ht, List.getElem?_drop]
end
end Go.Proofs.Ythalaapfdjaapaa.Kmp
