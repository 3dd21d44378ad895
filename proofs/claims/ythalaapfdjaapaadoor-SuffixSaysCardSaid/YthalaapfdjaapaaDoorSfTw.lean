/-
  Plain: the longest text that stands twice is as long as the largest number of the row of neighbours.
-/
import Derived.Test.YthalaapfdjaapaaDoorSfKas
namespace Go.Proofs.YthalaapfdjaapaaDoor
set_option linter.unusedVariables false
set_option linter.unusedSimpArgs false

def most (l : List Nat) : Nat := l.foldl Nat.max 0
theorem foldl_max (l : List Nat) (m : Nat) : l.foldl Nat.max m = Nat.max m (most l) := by
  unfold most
  induction l generalizing m with
  | nil => simp
  | cons x l ih =>
    simp only [List.foldl_cons]
    rw [ih, ih (Nat.max 0 x)]
    simp only [Nat.max_def]
    split <;> split <;> split <;> (try split) <;> (try split) <;> omega
theorem most_snoc (l : List Nat) (x : Nat) : most (l ++ [x]) = Nat.max (most l) x := by
  unfold most
  rw [List.foldl_append]; rfl
theorem most_ge : ∀ (l : List Nat) (x : Nat), x ∈ l → x ≤ most l
  | y :: l, x, h => by
    have e : most (y :: l) = Nat.max y (most l) := by
      show l.foldl Nat.max (Nat.max 0 y) = _
      rw [foldl_max]
      simp only [Nat.max_def]
      split <;> split <;> (try split) <;> omega
    rw [e]
    rcases List.mem_cons.1 h with rfl | h
    · exact Nat.le_max_left _ _
    · exact Nat.le_trans (most_ge l x h) (Nat.le_max_right _ _)
theorem most_mem : ∀ l : List Nat, most l = 0 ∨ most l ∈ l
  | [] => .inl rfl
  | y :: l => by
    have e : most (y :: l) = Nat.max y (most l) := by
      show l.foldl Nat.max (Nat.max 0 y) = _
      rw [foldl_max]
      simp only [Nat.max_def]
      split <;> split <;> (try split) <;> omega
    rw [e]
    rcases Nat.le_total y (most l) with h | h
    · rw [show Nat.max y (most l) = most l from Nat.max_eq_right h]
      rcases most_mem l with h2 | h2
      · exact .inl h2
      · exact .inr (List.mem_cons_of_mem _ h2)
    · rw [show Nat.max y (most l) = y from Nat.max_eq_left h]
      exact .inr (by simp)
/-- how many ends begin with a text -/
def times (l t : List UInt8) : Nat := ((List.range l.length).filter fun i => t.isPrefixOf (l.drop i)).length
theorem two_le_filter {p : Nat → Bool} {n a b : Nat} (hab : a < b) (hb : b < n) (h1 : p a = true) (h2 : p b = true) : 2 ≤ ((List.range n).filter p).length := by
  have hs : [a, b].Sublist ((List.range n).filter p) := by
    have : [a, b] = [a, b].filter p := by simp [h1, h2]
    rw [this]
    refine List.Sublist.filter p ?_
    have e : List.range n = List.range (a + 1) ++ (List.range (n - (a + 1))).map (a + 1 + ·) := by
      rw [← List.range_add]; congr 1; omega
    rw [e, List.range_succ, List.append_assoc, List.singleton_append]
    refine List.Sublist.trans ?_ (List.sublist_append_right _ _)
    refine List.Sublist.cons_cons _ ?_
    rw [List.singleton_sublist, List.mem_map]
    exact ⟨b - (a + 1), List.mem_range.2 (by omega), by omega⟩
  exact hs.length_le
theorem filter_two {p : Nat → Bool} {n : Nat} (h : 2 ≤ ((List.range n).filter p).length) : ∃ a b, a < b ∧ b < n ∧ p a = true ∧ p b = true := by
  obtain ⟨a, b, r, e⟩ : ∃ a b r, (List.range n).filter p = a :: b :: r := by
    match hh : (List.range n).filter p, h with
    | a :: b :: r, _ => exact ⟨a, b, r, rfl⟩
  have hpw : ((List.range n).filter p).Pairwise (· < ·) := List.Pairwise.filter p List.pairwise_lt_range
  rw [e] at hpw
  have hab := (List.pairwise_cons.1 hpw).1 b (by simp)
  have ha := List.mem_filter.1 (show a ∈ (List.range n).filter p by rw [e]; simp)
  have hb := List.mem_filter.1 (show b ∈ (List.range n).filter p by rw [e]; simp)
  exact ⟨a, b, hab, List.mem_range.1 hb.1, ha.2, hb.2⟩
theorem times_two {l t : List UInt8} {a b : Nat} (hab : a ≠ b) (ha : a < l.length) (hb : b < l.length) (h1 : t <+: l.drop a) (h2 : t <+: l.drop b) : 2 ≤ times l t := by
  unfold times
  rcases Nat.lt_or_ge a b with h | h
  · exact two_le_filter h hb (List.isPrefixOf_iff_prefix.2 h1) (List.isPrefixOf_iff_prefix.2 h2)
  · exact two_le_filter (by omega : b < a) ha (List.isPrefixOf_iff_prefix.2 h2) (List.isPrefixOf_iff_prefix.2 h1)
/-- one as long stands twice -/
theorem most_twice (l : List UInt8) (h : 0 < most (alikeOf l)) : ∃ j, j + most (alikeOf l) ≤ l.length ∧ 2 ≤ times l ((l.drop j).take (most (alikeOf l))) := by
  rcases most_mem (alikeOf l) with h0 | hm
  · omega
  obtain ⟨p, hp⟩ := List.getElem?_of_mem hm
  have hpl := (List.getElem?_eq_some_iff.1 hp).1
  rw [alikeOf_length] at hpl
  have hO := ordOf_is l
  rw [alikeOf_get l p (by omega)] at hp
  simp only [Option.some.injEq] at hp
  obtain ⟨i, hi⟩ : ∃ i, (ordOf l)[p + 1]? = some i := ⟨_, List.getElem?_eq_getElem (by have := hO.length; omega)⟩
  obtain ⟨j, hj⟩ : ∃ j, (ordOf l)[p]? = some j := ⟨_, List.getElem?_eq_getElem (by have := hO.length; omega)⟩
  have hfl := far_last hO hi
  rw [hp] at hfl
  have hne : j ≠ i := by
    rintro rfl
    have := hO.inj hi hj
    omega
  have hl : most (alikeOf l) = lcp (l.drop j) (l.drop i) := by
    rw [← hp]
    unfold far
    rw [if_neg (by omega), show p + 1 - 1 = p by omega, hi, hj]; rfl
  refine ⟨i, by omega, ?_⟩
  refine times_two hne (hO.lt hj) (hO.lt hi) ?_ (List.take_prefix _ _)
  rw [take_prefix_iff _ _ _ (by rw [List.length_drop]; omega), lcp_comm, ← hl]
  exact Nat.le_refl _
/-- none longer does -/
theorem twice_most (l : List UInt8) (i k : Nat) (hk : 1 ≤ k) (hik : i + k ≤ l.length) (h : 2 ≤ times l ((l.drop i).take k)) : k ≤ most (alikeOf l) := by
  obtain ⟨a, b, hab, hbn, h1, h2⟩ := filter_two h
  have hO := ordOf_is l
  have hlen : ((l.drop i).take k).length = k := by rw [List.length_take, List.length_drop]; omega
  have key : ∀ x y pa pb : Nat, (ordOf l)[pa]? = some x → (ordOf l)[pb]? = some y → pa < pb → ((l.drop i).take k) <+: l.drop x → ((l.drop i).take k) <+: l.drop y → k ≤ most (alikeOf l) := by
    intro x y pa pb hx hy hp q1 q2
    have hkx : (l.drop x).take k = (l.drop i).take k := by rw [List.prefix_iff_eq_take.1 q1, hlen]
    have hkl : k ≤ (l.drop x).length := by have := q1.length_le; omega
    have hlc : k ≤ lcp (l.drop x) (l.drop y) := by
      rw [← take_prefix_iff k _ _ hkl, hkx]; exact q2
    have hpl := (List.getElem?_eq_some_iff.1 hy).1
    have hfar : lcp (l.drop x) (l.drop y) ≤ far l (ordOf l) pb := by
      unfold far
      rw [if_neg (by omega), hy]
      obtain ⟨c, hc⟩ : ∃ c, (ordOf l)[pb - 1]? = some c := ⟨_, List.getElem?_eq_getElem (by omega)⟩
      rw [hc, Option.getD_some, Option.getD_some]
      by_cases he : pa = pb - 1
      · subst he
        rw [hx] at hc
        cases hc
        exact Nat.le_refl _
      · exact lcp_back _ _ _ (hO.bef_of hx hc (by omega)) (hO.bef_of hc hy (by omega))
    have hg := alikeOf_get l (pb - 1) (by have := hO.length; omega)
    rw [show pb - 1 + 1 = pb by omega] at hg
    have := most_ge _ _ (List.mem_of_getElem? hg)
    omega
  obtain ⟨pa, _, hpa⟩ := hO.place (by omega : a < l.length)
  obtain ⟨pb, _, hpb⟩ := hO.place hbn
  have h1 := List.isPrefixOf_iff_prefix.1 h1
  have h2 := List.isPrefixOf_iff_prefix.1 h2
  rcases Nat.lt_trichotomy pa pb with h | h | h
  · exact key a b pa pb hpa hpb h h1 h2
  · subst h
    rw [hpa] at hpb
    cases hpb
    omega
  · exact key b a pb pa hpb hpa h h2 h1
theorem most_le (l : List UInt8) : most (alikeOf l) ≤ l.length := by
  rcases most_mem (alikeOf l) with h0 | hm
  · omega
  · obtain ⟨p, hp⟩ := List.getElem?_of_mem hm
    have hpl := (List.getElem?_eq_some_iff.1 hp).1
    rw [alikeOf_length] at hpl
    have hO := ordOf_is l
    rw [alikeOf_get l p (by omega)] at hp
    simp only [Option.some.injEq] at hp
    obtain ⟨i, hi⟩ : ∃ i, (ordOf l)[p + 1]? = some i := ⟨_, List.getElem?_eq_getElem (by have := hO.length; omega)⟩
    have := far_last hO hi
    omega
end Go.Proofs.YthalaapfdjaapaaDoor
