/-
  Plain: Kasai's law of the ends: without its first byte an end goes one less alike with the one ahead of it; the places of the order.
-/
import Derived.Test.YthalaapfdjaapaaSfCnt
namespace Go.Proofs.Ythalaapfdjaapaa
set_option linter.unusedVariables false
set_option linter.unusedSimpArgs false

theorem IsOrd.length {l : List UInt8} {o : List Nat} (h : IsOrd l o) : o.length = l.length := by simpa using h.perm.length_eq
theorem IsOrd.nodup {l : List UInt8} {o : List Nat} (h : IsOrd l o) : o.Nodup := h.perm.nodup_iff.2 List.nodup_range
theorem IsOrd.lt {l : List UInt8} {o : List Nat} (h : IsOrd l o) {p i : Nat} (hp : o[p]? = some i) : i < l.length := List.mem_range.1 (h.perm.mem_iff.1 (List.mem_of_getElem? hp))
theorem IsOrd.place {l : List UInt8} {o : List Nat} (h : IsOrd l o) {i : Nat} (hi : i < l.length) : ∃ p, p < l.length ∧ o[p]? = some i := by
  obtain ⟨p, hp⟩ := List.getElem?_of_mem (h.perm.mem_iff.2 (List.mem_range.2 hi))
  exact ⟨p, by rw [← h.length]; exact (List.getElem?_eq_some_iff.1 hp).1, hp⟩
theorem IsOrd.inj {l : List UInt8} {o : List Nat} (h : IsOrd l o) {p q i : Nat} (hp : o[p]? = some i) (hq : o[q]? = some i) : p = q :=
  (List.getElem?_inj (List.getElem?_eq_some_iff.1 hp).1 h.nodup).1 (hp.trans hq.symm)
theorem IsOrd.bef_of {l : List UInt8} {o : List Nat} (h : IsOrd l o) {p q i j : Nat} (hp : o[p]? = some i) (hq : o[q]? = some j) (hpq : p < q) : bef (l.drop i) (l.drop j) = true := by
  obtain ⟨h1, rfl⟩ := List.getElem?_eq_some_iff.1 hp
  obtain ⟨h2, rfl⟩ := List.getElem?_eq_some_iff.1 hq
  exact List.pairwise_iff_getElem.1 h.sorted p q h1 h2 hpq
theorem IsOrd.lt_of_bef {l : List UInt8} {o : List Nat} (h : IsOrd l o) {p q i j : Nat} (hp : o[p]? = some i) (hq : o[q]? = some j) (hb : bef (l.drop i) (l.drop j) = true) : p < q := by
  rcases Nat.lt_trichotomy p q with h1 | h1 | h1
  · exact h1
  · subst h1
    rw [hp] at hq
    cases hq
    rw [bef_irrefl] at hb; cases hb
  · have := bef_asymm (h.bef_of hq hp h1)
    rw [hb] at this; cases this
/-- how far an end is alike with the one ahead of it in the order; 0 of the first -/
def far (l : List UInt8) (o : List Nat) (p : Nat) : Nat := if p = 0 then 0 else lcp (l.drop (o[p - 1]?.getD 0)) (l.drop (o[p]?.getD 0))
/-- Kasai's law -/
theorem kasai {l : List UInt8} {o : List Nat} (h : IsOrd l o) {i p q : Nat} (hp : o[p]? = some i) (hq : o[q]? = some (i + 1)) : far l o p ≤ far l o q + 1 := by
  unfold far
  by_cases hp0 : p = 0
  · simp [hp0]
  rw [if_neg hp0]
  have hpl : p < o.length := (List.getElem?_eq_some_iff.1 hp).1
  obtain ⟨j, hj⟩ : ∃ j, o[p - 1]? = some j := ⟨_, List.getElem?_eq_getElem (by omega)⟩
  rw [hp, hj, Option.getD_some, Option.getD_some]
  have hi := h.lt hp
  have hjl := h.lt hj
  have hb := h.bef_of hj hp (by omega)
  rw [List.drop_eq_getElem_cons hi, List.drop_eq_getElem_cons hjl] at hb ⊢
  by_cases hxy : l[j] = l[i]
  · rw [hxy] at hb ⊢
    rw [bef_same] at hb
    rw [lcp_same]
    by_cases hj1 : j + 1 < l.length
    · obtain ⟨r, hr, hor⟩ := h.place hj1
      have hrq := h.lt_of_bef hor hq hb
      rw [if_neg (by omega)]
      obtain ⟨m, hm⟩ : ∃ m, o[q - 1]? = some m := ⟨_, List.getElem?_eq_getElem (by have := (List.getElem?_eq_some_iff.1 hq).1; omega)⟩
      rw [hm, hq, Option.getD_some, Option.getD_some]
      by_cases hrm : r = q - 1
      · subst hrm
        rw [hor] at hm
        cases hm
        omega
      · have := lcp_back _ _ _ (h.bef_of hor hm (by omega)) (h.bef_of hm hq (by omega))
        omega
    · rw [List.drop_of_length_le (show l.length ≤ j + 1 by omega)]
      show lcp [] _ + 1 ≤ _
      have : lcp [] (List.drop (i + 1) l) = 0 := rfl
      omega
  · rw [lcp_diff hxy]; omega
theorem far_last {l : List UInt8} {o : List Nat} (h : IsOrd l o) {i p : Nat} (hp : o[p]? = some i) : far l o p + i ≤ l.length := by
  unfold far
  have := h.lt hp
  split
  · omega
  · rw [hp, Option.getD_some]
    have := lcp_le' (l.drop (o[p - 1]?.getD 0)) (l.drop i)
    simp at this
    omega
/-- the row that suffix.Alike hands back -/
def alikeOf (l : List UInt8) : List Nat := alikes ((ordOf l).map l.drop)
theorem alikeOf_length (l : List UInt8) : (alikeOf l).length = l.length - 1 := by
  unfold alikeOf
  rw [alikes_length, List.length_map, (ordOf_is l).length]
theorem alikeOf_get (l : List UInt8) (p : Nat) (hp : p + 1 < l.length) : (alikeOf l)[p]? = some (far l (ordOf l) (p + 1)) := by
  have hl := (ordOf_is l).length
  obtain ⟨i, hi⟩ : ∃ i, (ordOf l)[p]? = some i := ⟨_, List.getElem?_eq_getElem (by omega)⟩
  obtain ⟨j, hj⟩ : ∃ j, (ordOf l)[p + 1]? = some j := ⟨_, List.getElem?_eq_getElem (by omega)⟩
  unfold alikeOf
  rw [alikes_get _ p (l.drop i) (l.drop j) (by rw [List.getElem?_map, hi]; rfl) (by rw [List.getElem?_map, hj]; rfl)]
  unfold far
  rw [if_neg (by omega), show p + 1 - 1 = p by omega, hi, hj]
  rfl
/-- as many as there are texts -/
theorem many_alike (l : List UInt8) : many l + (alikeOf l).sum = l.length * (l.length + 1) / 2 := by
  have h1 := subs_alikes ((ordOf l).map l.drop) (by
    rw [List.pairwise_map]
    exact (ordOf_is l).sorted)
  have h2 : (subs ((ordOf l).map l.drop)).length = many l := subs_length_perm ((ordOf_is l).perm.map _)
  have h3 : (((ordOf l).map l.drop).map List.length).sum = ((List.range l.length).map fun i => l.length - i).sum := by
    rw [List.map_map]
    rw [((ordOf_is l).perm.map (List.length ∘ l.drop)).sum_nat]
    congr 1
    refine List.map_congr_left fun i hi => ?_
    simp
  have h4 : ∀ n m : Nat, m ≤ n → 2 * ((List.range m).map fun i => n - i).sum + m * m = 2 * n * m + m := by
    intro n m
    induction m with
    | zero => simp
    | succ m ih =>
      intro hm
      have := ih (by omega)
      rw [List.range_succ, List.map_append, List.sum_append_nat]
      simp only [List.map_cons, List.map_nil, List.sum_cons, List.sum_nil, Nat.add_zero]
      obtain ⟨e, rfl⟩ : ∃ e, n = m + 1 + e := ⟨n - (m + 1), by omega⟩
      rw [show m + 1 + e - m = 1 + e by omega]
      generalize ((List.range m).map fun i => m + 1 + e - i).sum = S at *
      have e1 : (m + 1) * (m + 1) = m * m + 2 * m + 1 := by rw [Nat.add_mul, Nat.mul_add]; omega
      have e2 : 2 * (m + 1 + e) * (m + 1) = 2 * (m + 1 + e) * m + 2 * (m + 1 + e) := by rw [Nat.mul_add, Nat.mul_one]
      omega
  have h5 := h4 l.length l.length (Nat.le_refl _)
  have h6 : 2 * (l.length * (l.length + 1) / 2) = l.length * (l.length + 1) := by
    have : l.length * (l.length + 1) % 2 = 0 := by
      rcases Nat.mod_two_eq_zero_or_one l.length with h | h
      · rw [Nat.mul_mod, h]; simp
      · rw [Nat.mul_mod, Nat.add_mod, h]
    omega
  have e7 : l.length * (l.length + 1) = l.length * l.length + l.length := by rw [Nat.mul_add, Nat.mul_one]
  have e8 : 2 * l.length * l.length = 2 * (l.length * l.length) := Nat.mul_assoc _ _ _
  unfold alikeOf
  rw [h2, h3] at h1
  omega
theorem many_le (l : List UInt8) : many l ≤ l.length * (l.length + 1) / 2 := by have := many_alike l; omega
end Go.Proofs.Ythalaapfdjaapaa
