/-
  Plain: how far texts are alike, and how many texts stand in the ends of a text, each once.
-/
import Derived.Test.YthalaapfdjaapaaSfPlain
namespace Go.Proofs.Ythalaapfdjaapaa
set_option linter.unusedVariables false
set_option linter.unusedSimpArgs false

/-- how many bytes two texts begin with alike -/
def lcp : List UInt8 → List UInt8 → Nat
  | x :: a, y :: b => if x = y then lcp a b + 1 else 0
  | _, _ => 0
theorem lcp_nil (a : List UInt8) : lcp a [] = 0 := by cases a <;> rfl
theorem lcp_same (x : UInt8) (a b : List UInt8) : lcp (x :: a) (x :: b) = lcp a b + 1 := by
  show (if x = x then _ else _) = _
  rw [if_pos rfl]
theorem lcp_diff {x y : UInt8} (h : ¬ x = y) (a b : List UInt8) : lcp (x :: a) (y :: b) = 0 := by
  show (if x = y then _ else _) = _
  rw [if_neg h]
theorem lcp_comm : ∀ a b : List UInt8, lcp a b = lcp b a
  | [], [] => rfl
  | [], _ :: _ => rfl
  | _ :: _, [] => rfl
  | x :: a, y :: b => by
    by_cases h : x = y
    · subst h; rw [lcp_same, lcp_same, lcp_comm a b]
    · rw [lcp_diff h, lcp_diff (fun e => h e.symm)]
theorem lcp_le : ∀ a b : List UInt8, lcp a b ≤ a.length
  | [], _ => Nat.zero_le _
  | _ :: _, [] => Nat.zero_le _
  | x :: a, y :: b => by
    by_cases h : x = y
    · subst h; rw [lcp_same]; have := lcp_le a b; simp; omega
    · rw [lcp_diff h]; exact Nat.zero_le _
theorem lcp_le' (a b : List UInt8) : lcp a b ≤ b.length := by rw [lcp_comm]; exact lcp_le b a
theorem take_prefix_iff : ∀ (k : Nat) (a b : List UInt8), k ≤ a.length → (a.take k <+: b ↔ k ≤ lcp a b)
  | 0, a, b, _ => by simp
  | k + 1, [], b, h => by simp at h
  | k + 1, x :: a, [], h => by simp [lcp]
  | k + 1, x :: a, y :: b, h => by
    rw [List.take_succ_cons]
    by_cases hxy : x = y
    · subst hxy
      rw [lcp_same, List.cons_prefix_cons, take_prefix_iff k a b (by simpa using h)]
      simp
    · rw [lcp_diff hxy, List.cons_prefix_cons]
      simp [hxy]
theorem lcp_front : ∀ a b c : List UInt8, bef a b = true → bef b c = true → lcp a c ≤ lcp a b
  | [], _, _, _, _ => Nat.zero_le _
  | _ :: _, [], _, h, _ => by cases h
  | _ :: _, _ :: _, [], _, h => by cases h
  | x :: a, y :: b, z :: c, h1, h2 => by
    by_cases hxz : x = z
    · subst hxz
      by_cases hxy : x = y
      · subst hxy
        rw [bef_same] at h1 h2
        rw [lcp_same, lcp_same]
        have := lcp_front a b c h1 h2
        omega
      · have := toNat_ne hxy
        rw [bef_diff hxy] at h1
        rw [bef_diff (fun e => hxy e.symm)] at h2
        simp at h1 h2
        omega
    · rw [lcp_diff hxz]; exact Nat.zero_le _
theorem lcp_back (a b c : List UInt8) (h1 : bef a b = true) (h2 : bef b c = true) : lcp a c ≤ lcp b c := by
  induction a generalizing b c with
  | nil => exact Nat.zero_le _
  | cons x a ih =>
    cases b with
    | nil => cases h1
    | cons y b =>
      cases c with
      | nil => cases h2
      | cons z c =>
        by_cases hxz : x = z
        · subst hxz
          by_cases hxy : x = y
          · subst hxy
            rw [bef_same] at h1 h2
            rw [lcp_same, lcp_same]
            have := ih b c h1 h2
            omega
          · have := toNat_ne hxy
            rw [bef_diff hxy] at h1
            rw [bef_diff (fun e => hxy e.symm)] at h2
            simp at h1 h2
            omega
        · rw [lcp_diff hxz]; exact Nat.zero_le _

/-- the beginnings of x that no text of L begins with -/
def newOf (L : List (List UInt8)) (x : List UInt8) : List (List UInt8) :=
  ((List.range x.length).map fun k => x.take (k + 1)).filter fun y => !(L.any fun z => y.isPrefixOf z)
def subs : List (List UInt8) → List (List UInt8)
  | [] => []
  | x :: L => newOf L x ++ subs L
theorem mem_begs (x y : List UInt8) : (y ∈ (List.range x.length).map fun k => x.take (k + 1)) ↔ y ≠ [] ∧ y <+: x := by
  rw [List.mem_map]
  constructor
  · rintro ⟨k, hk, rfl⟩
    have := List.mem_range.1 hk
    refine ⟨fun e => ?_, List.take_prefix _ _⟩
    have h2 := congrArg List.length e
    simp at h2
    rcases h2 with h2
    rw [h2] at this
    simp at this
  · rintro ⟨hne, hp⟩
    have hl : 0 < y.length := List.length_pos_iff.2 hne
    refine ⟨y.length - 1, List.mem_range.2 (by have := hp.length_le; omega), ?_⟩
    rw [Nat.sub_add_cancel hl]
    exact (List.prefix_iff_eq_take.1 hp).symm
theorem mem_newOf (L : List (List UInt8)) (x y : List UInt8) : y ∈ newOf L x ↔ (y ≠ [] ∧ y <+: x) ∧ ¬ ∃ z ∈ L, y <+: z := by
  unfold newOf
  rw [List.mem_filter, mem_begs]
  simp
theorem nodup_begs (x : List UInt8) : ((List.range x.length).map fun k => x.take (k + 1)).Nodup := by
  rw [List.Nodup, List.pairwise_map]
  refine List.Pairwise.imp_of_mem ?_ (List.nodup_range (n := x.length))
  intro a b ha hb hne e
  have h1 := List.mem_range.1 ha
  have h2 := List.mem_range.1 hb
  have := congrArg List.length e
  simp at this
  omega
theorem mem_subs : ∀ (L : List (List UInt8)) (y : List UInt8), y ∈ subs L ↔ y ≠ [] ∧ ∃ x ∈ L, y <+: x
  | [], y => by simp [subs]
  | x :: L, y => by
    show y ∈ newOf L x ++ subs L ↔ _
    rw [List.mem_append, mem_newOf, mem_subs L y]
    by_cases hz : ∃ z ∈ L, y <+: z
    · simp [hz]
    · have : ∀ z ∈ L, ¬ y <+: z := fun z h1 h2 => hz ⟨z, h1, h2⟩
      simp [hz]
theorem nodup_subs : ∀ L : List (List UInt8), (subs L).Nodup
  | [] => List.nodup_nil
  | x :: L => by
    show (newOf L x ++ subs L).Nodup
    refine List.nodup_append.2 ⟨(nodup_begs x).filter _, nodup_subs L, ?_⟩
    intro a ha b hb e
    subst e
    exact ((mem_newOf L x a).1 ha).2 ((mem_subs L a).1 hb).2
theorem subs_length {L M : List (List UInt8)} (h : ∀ y, y ≠ [] → ((∃ x ∈ L, y <+: x) ↔ ∃ x ∈ M, y <+: x)) : (subs L).length = (subs M).length := by
  refine List.Perm.length_eq ((List.perm_ext_iff_of_nodup (nodup_subs L) (nodup_subs M)).2 fun y => ?_)
  rw [mem_subs, mem_subs]
  by_cases hy : y = []
  · simp [hy]
  · rw [h y hy]
theorem subs_length_perm {L M : List (List UInt8)} (h : L.Perm M) : (subs L).length = (subs M).length :=
  subs_length fun y _ => by simp only [h.mem_iff]
theorem countP_ge (M : Nat) : ∀ n, ((List.range n).filter fun k => decide (M ≤ k)).length = n - M
  | 0 => by simp
  | n + 1 => by
    rw [List.range_succ, List.filter_append, List.length_append, countP_ge M n]
    by_cases h : M ≤ n
    · simp [h]; omega
    · simp [h]; omega
/-- if none of L is more alike x than y is, y one of them -/
theorem newOf_length {L : List (List UInt8)} {x : List UInt8} {M : Nat} (h1 : ∀ z ∈ L, lcp x z ≤ M) (h2 : M = 0 ∨ ∃ z ∈ L, lcp x z = M) : (newOf L x).length = x.length - M := by
  unfold newOf
  rw [List.filter_map, List.length_map, ← countP_ge M x.length]
  congr 1
  refine List.filter_congr fun k hk => ?_
  have hk := List.mem_range.1 hk
  rw [Function.comp_apply, Bool.eq_iff_iff]
  simp only [Bool.not_eq_true', List.any_eq_false, List.isPrefixOf_iff_prefix, decide_eq_true_iff]
  constructor
  · intro h
    rcases h2 with rfl | ⟨z, hz, rfl⟩
    · exact Nat.zero_le _
    · have := h z hz
      rw [take_prefix_iff _ _ _ (by omega)] at this
      omega
  · intro h z hz
    rw [take_prefix_iff _ _ _ (by omega)]
    have := h1 z hz
    omega
/-- of neighbours how far they are alike -/
def alikes : List (List UInt8) → List Nat
  | a :: b :: L => lcp a b :: alikes (b :: L)
  | _ => []
theorem alikes_length : ∀ L : List (List UInt8), (alikes L).length = L.length - 1
  | [] => rfl
  | [_] => rfl
  | a :: b :: L => by
    have := alikes_length (b :: L)
    show (alikes (b :: L)).length + 1 = _
    rw [this]; rfl
theorem alikes_get : ∀ (L : List (List UInt8)) (t : Nat) (a b : List UInt8), L[t]? = some a → L[t + 1]? = some b → (alikes L)[t]? = some (lcp a b)
  | [], _, _, _, h, _ => by simp at h
  | [_], t, _, _, _, h => by simp at h
  | a :: b :: L, 0, x, y, h1, h2 => by
    simp at h1 h2
    subst h1 h2
    rfl
  | a :: b :: L, t + 1, x, y, h1, h2 => by
    show (alikes (b :: L))[t]? = _
    exact alikes_get (b :: L) t x y (by simpa using h1) (by simpa using h2)
theorem subs_alikes : ∀ E : List (List UInt8), E.Pairwise (fun a b => bef a b = true) → (subs E).length + (alikes E).sum = (E.map List.length).sum
  | [], _ => rfl
  | [x], _ => by
    show (newOf [] x ++ []).length + 0 = x.length + 0
    rw [List.append_nil, newOf_length (M := 0) (by simp) (.inl rfl)]
    rfl
  | x :: y :: L, h => by
    have h1 := List.pairwise_cons.1 h
    have ih := subs_alikes (y :: L) h1.2
    have hl : (newOf (y :: L) x).length = x.length - lcp x y := by
      refine newOf_length ?_ (.inr ⟨y, by simp, rfl⟩)
      intro z hz
      rcases List.mem_cons.1 hz with rfl | hz
      · exact Nat.le_refl _
      · exact lcp_front x y z (h1.1 y (by simp)) ((List.pairwise_cons.1 h1.2).1 z hz)
    have := lcp_le x y
    show (newOf (y :: L) x ++ subs (y :: L)).length + (lcp x y + (alikes (y :: L)).sum) = x.length + ((y :: L).map List.length).sum
    rw [List.length_append, hl, ← ih]
    omega
/-- the ends of a text -/
def ends (l : List UInt8) : List (List UInt8) := (List.range l.length).map l.drop
theorem mem_ends (l x : List UInt8) : x ∈ ends l ↔ ∃ i, i < l.length ∧ l.drop i = x := by
  unfold ends
  simp
theorem infix_iff_drop (y l : List UInt8) (hy : y ≠ []) : y <:+: l ↔ ∃ x ∈ ends l, y <+: x := by
  constructor
  · rintro ⟨a, b, rfl⟩
    refine ⟨(a ++ y ++ b).drop a.length, (mem_ends _ _).2 ⟨a.length, ?_, rfl⟩, ?_⟩
    · have := List.length_pos_iff.2 hy
      simp; omega
    · rw [List.append_assoc, List.drop_left]; exact List.prefix_append _ _
  · rintro ⟨x, hx, hp⟩
    obtain ⟨i, _, rfl⟩ := (mem_ends _ _).1 hx
    exact hp.isInfix.trans (List.drop_suffix _ _).isInfix
/-- how many texts stand in l, each once -/
def many (l : List UInt8) : Nat := (subs (ends l)).length
theorem mem_many (l y : List UInt8) : y ∈ subs (ends l) ↔ y ≠ [] ∧ y <:+: l := by
  rw [mem_subs]
  by_cases hy : y = []
  · simp [hy]
  · rw [infix_iff_drop y l hy]
theorem many_rev (l : List UInt8) : many l.reverse = many l := by
  unfold many
  have h1 : ((subs (ends l)).map List.reverse).Nodup := by
    rw [List.Nodup, List.pairwise_map]
    refine List.Pairwise.imp ?_ (nodup_subs (ends l))
    intro a b h e
    exact h (List.reverse_inj.1 e)
  have h2 := (List.perm_ext_iff_of_nodup (nodup_subs (ends l.reverse)) h1).2 fun y => by
    rw [mem_many, List.mem_map]
    constructor
    · rintro ⟨h1, h2⟩
      exact ⟨y.reverse, (mem_many _ _).2 ⟨by simpa using h1, by rw [← List.reverse_infix, List.reverse_reverse]; exact h2⟩, by simp⟩
    · rintro ⟨x, hx, rfl⟩
      have := (mem_many _ _).1 hx
      exact ⟨by simpa using this.1, by rw [List.reverse_infix]; exact this.2⟩
  rw [h2.length_eq, List.length_map]
/-- the ends of a text that do not stand in another one -/
def fresh (l t : List UInt8) : List (List UInt8) := (ends t).filter fun x => !decide (x <:+: l)
theorem nodup_ends (l : List UInt8) : (ends l).Nodup := by
  unfold ends
  rw [List.Nodup, List.pairwise_map]
  refine List.Pairwise.imp_of_mem ?_ (List.nodup_range (n := l.length))
  intro a b ha hb hne e
  have h1 := List.mem_range.1 ha
  have h2 := List.mem_range.1 hb
  have := congrArg List.length e
  simp at this
  omega
theorem infix_snoc (y l : List UInt8) (c : UInt8) : y <:+: l ++ [c] ↔ y <:+: l ∨ y <:+ l ++ [c] := by
  constructor
  · rintro ⟨a, b, h⟩
    rcases List.eq_nil_or_concat b with rfl | ⟨b', z, hb⟩
    · right
      rw [List.append_nil] at h
      exact ⟨a, h⟩
    · left
      rw [hb, List.concat_eq_append, ← List.append_assoc] at h
      exact ⟨a, b', (List.append_inj' h rfl).1⟩
  · rintro (h | h)
    · exact h.trans (List.prefix_append _ _).isInfix
    · exact h.isInfix
theorem many_snoc (l : List UInt8) (c : UInt8) : many (l ++ [c]) = many l + (fresh l (l ++ [c])).length := by
  unfold many
  rw [← List.length_append]
  refine List.Perm.length_eq ((List.perm_ext_iff_of_nodup (nodup_subs _) ?_).2 fun y => ?_)
  · refine List.nodup_append.2 ⟨nodup_subs _, (nodup_ends _).filter _, ?_⟩
    intro a ha b hb e
    subst e
    have h1 := (mem_many _ _).1 ha
    have h2 := (List.mem_filter.1 hb).2
    simp at h2
    exact h2 h1.2
  · rw [List.mem_append, mem_many, mem_many, fresh, List.mem_filter, infix_snoc, mem_ends]
    simp only [Bool.not_eq_true', decide_eq_false_iff_not]
    constructor
    · rintro ⟨h1, h2⟩
      by_cases h3 : y <:+: l
      · exact .inl ⟨h1, h3⟩
      · refine .inr ⟨?_, h3⟩
        rcases h2 with h2 | h2
        · exact absurd h2 h3
        · have hl := h2.length_le
          have := List.length_pos_iff.2 h1
          exact ⟨(l ++ [c]).length - y.length, by omega, (List.suffix_iff_eq_drop.1 h2).symm⟩
    · rintro (h | ⟨⟨i, hi, rfl⟩, h2⟩)
      · exact ⟨h.1, .inl h.2⟩
      · refine ⟨fun e => ?_, .inr (List.drop_suffix _ _)⟩
        have := congrArg List.length e
        simp at this hi
        omega
theorem fresh_pos (l : List UInt8) (c : UInt8) : 1 ≤ (fresh l (l ++ [c])).length := by
  refine List.length_pos_of_mem (a := l ++ [c]) (List.mem_filter.2 ⟨(mem_ends _ _).2 ⟨0, by simp, rfl⟩, ?_⟩)
  simp only [Bool.not_eq_true', decide_eq_false_iff_not]
  intro h
  have := h.length_le
  rw [List.length_append, List.length_singleton] at this
  omega
theorem many_ge (l : List UInt8) : l.length ≤ many l := by
  unfold many
  have h1 := nodup_begs l
  have := List.Nodup.length_le_of_subset h1 (l₂ := subs (ends l)) (fun y hy => by
    rw [mem_many]
    have := (mem_begs l y).1 hy
    exact ⟨this.1, this.2.isInfix⟩)
  simpa using this
end Go.Proofs.Ythalaapfdjaapaa
