/-
  Longest subsequences: the piles, the rows that do not rise, the first row of a shape; the theorem of Erdos and Szekeres. In plain Lean.
-/
import Derived.Test.YtlchgjlinhakdaaRsFall
namespace Go.Proofs.Ytlchgjlinhakdaa.Rs
open List
set_option linter.unusedVariables false

/-- k is the length of the longest subsequences of a kind -/
def Most (R : Int → Int → Prop) (l : List Int) (k : Nat) : Prop := (∃ s, s <+ l ∧ s.Pairwise R ∧ s.length = k) ∧ ∀ s, s <+ l → s.Pairwise R → s.length ≤ k
theorem Most.uniq {R : Int → Int → Prop} {l : List Int} {k m : Nat} (h : Most R l k) (g : Most R l m) : k = m := by
  obtain ⟨⟨s, s1, s2, s3⟩, h2⟩ := h
  obtain ⟨⟨t, t1, t2, t3⟩, g2⟩ := g
  have := h2 t t1 t2
  have := g2 s s1 s2
  omega
theorem Most.reverse {R : Int → Int → Prop} {l : List Int} {k : Nat} (h : Most R l.reverse k) : Most (fun a b => R b a) l k := by
  obtain ⟨⟨s, s1, s2, s3⟩, h2⟩ := h
  refine ⟨⟨s.reverse, ?_, List.pairwise_reverse.2 s2, by rw [List.length_reverse]; exact s3⟩, fun t t1 t2 => ?_⟩
  · have := s1.reverse
    rwa [List.reverse_reverse] at this
  · have := h2 t.reverse t1.reverse (List.pairwise_reverse.2 t2)
    rwa [List.length_reverse] at this
theorem sub_snoc {s l : List Int} {n : Int} (h : s <+ l ++ [n]) : s <+ l ∨ ∃ s', s = s' ++ [n] ∧ s' <+ l := by
  obtain ⟨s1, s2, rfl, h1, h2⟩ := List.sublist_append_iff.1 h
  cases h2 with
  | cons _ h2 => cases h2; left; simpa using h1
  | cons_cons _ h2 => cases h2; right; exact ⟨s1, rfl, h1⟩
theorem snoc_or {α : Type} (s : List α) : s = [] ∨ ∃ s' x, s = s' ++ [x] := by
  rcases List.eq_nil_or_concat s with h | ⟨s', x, h⟩
  · exact .inl h
  · exact .inr ⟨s', x, by simpa using h⟩

/-! ### piles, and the first row: d = 0, d = 1 -/
def putD (d n : Int) (l : List Int) : List Int := if pos (n + d) l = l.length then l ++ [n] else l.set (pos (n + d) l) n
def pilesD (d : Int) (l : List Int) : List Int := l.foldl (fun t n => putD d n t) []
theorem pilesD_snoc (d : Int) (l : List Int) (n : Int) : pilesD d (l ++ [n]) = putD d n (pilesD d l) := by simp [pilesD]
theorem putD_zero (n : Int) (l : List Int) : putD 0 n l = put n l := by unfold putD put; rw [Int.add_zero]
theorem pilesD_zero (l : List Int) : pilesD 0 l = piles l := by
  unfold pilesD piles
  congr 1
  funext t n
  exact putD_zero n t
theorem putD_get (d n : Int) (l : List Int) (i : Nat) : (putD d n l)[i]? = if i = pos (n + d) l then some n else l[i]? := by
  unfold putD
  by_cases h : pos (n + d) l = l.length
  · rw [if_pos h]
    by_cases hi : i = pos (n + d) l
    · rw [if_pos hi, hi, h]; simp
    · rw [if_neg hi]
      rcases Nat.lt_or_ge i l.length with hlt | hge
      · rw [List.getElem?_append_left hlt]
      · rw [List.getElem?_eq_none (by simp; omega), List.getElem?_eq_none hge]
  · have := pos_le (n + d) l
    rw [if_neg h]
    by_cases hi : i = pos (n + d) l
    · rw [if_pos hi, hi, List.getElem?_set_self (by omega)]
    · rw [if_neg hi, List.getElem?_set_ne (fun e => hi e.symm)]
def RD (d : Int) (a b : Int) : Prop := a < b + d
theorem ascD_snoc {d n : Int} {l : List Int} (hd : 0 ≤ d ∧ d ≤ 1) (h : Asc l) : Asc (putD d n l) := by
  intro i j s t hij hs ht
  rw [putD_get] at hs ht
  by_cases hi : i = pos (n + d) l
  · rw [if_pos hi] at hs
    simp at hs
    by_cases hj : j = pos (n + d) l
    · rw [if_pos hj] at ht
      simp at ht
      omega
    · rw [if_neg hj] at ht
      have := h.tail (n := n + d) (by omega : pos (n + d) l ≤ j) ht
      omega
  · rw [if_neg hi] at hs
    by_cases hj : j = pos (n + d) l
    · rw [if_pos hj] at ht
      simp at ht
      have := pos_lt (n := n + d) (by omega : i < pos (n + d) l) hs
      omega
    · rw [if_neg hj] at ht
      exact h i j s t hij hs ht
theorem pilesD_asc {d : Int} (hd : 0 ≤ d ∧ d ≤ 1) (l : List Int) : Asc (pilesD d l) := by
  refine snocInd (P := fun l => Asc (pilesD d l)) (by intro i j s t _ h; simp [pilesD] at h) ?_ l
  intro l n ih
  show Asc (pilesD d (l ++ [n]))
  rw [pilesD_snoc]
  exact ascD_snoc hd ih
structure PInv (d : Int) (l : List Int) : Prop where
  up : ∀ s x, (s ++ [x]) <+ l → (s ++ [x]).Pairwise (RD d) → ∃ t, (pilesD d l)[s.length]? = some t ∧ t ≤ x
  ex : ∀ (i : Nat) t, (pilesD d l)[i]? = some t → ∃ s, (s ++ [t]) <+ l ∧ (s ++ [t]).Pairwise (RD d) ∧ s.length = i
theorem pInv {d : Int} (hd : 0 ≤ d ∧ d ≤ 1) (l : List Int) : PInv d l := by
  refine snocInd (P := PInv d) ?_ ?_ l
  · refine ⟨fun s x h => ?_, fun i t h => by simp [pilesD] at h⟩
    have := h.length_le
    simp at this
  · intro l n ih
    have hpl := pos_le (n + d) (pilesD d l)
    have hasc := pilesD_asc hd l
    refine ⟨fun s x h hp => ?_, fun i t h => ?_⟩
    · rw [pilesD_snoc]
      rcases sub_snoc h with h1 | ⟨s', e, h1⟩
      · obtain ⟨t, ht, htx⟩ := ih.up s x h1 hp
        by_cases hs : s.length = pos (n + d) (pilesD d l)
        · refine ⟨n, by rw [putD_get, if_pos hs], ?_⟩
          have := pos_ge (n := n + d) (l := pilesD d l) (t := t) (by rw [← hs]; exact ht)
          omega
        · exact ⟨t, by rw [putD_get, if_neg hs]; exact ht, htx⟩
      · obtain ⟨e1, e2⟩ := List.append_inj' e rfl
        simp only [List.cons.injEq, and_true] at e2
        subst e1
        subst e2
        have hge : s.length ≤ pos (x + d) (pilesD d l) := by
          rcases snoc_or s with rfl | ⟨s2, y, rfl⟩
          · exact Nat.zero_le _
          · obtain ⟨t, ht, hty⟩ := ih.up s2 y h1 (List.pairwise_append.1 hp).1
            have hyx : RD d y x := (List.pairwise_append.1 hp).2.2 y (by simp) x (by simp)
            unfold RD at hyx
            rw [List.length_append, List.length_singleton]
            rcases Nat.lt_or_ge s2.length (pos (x + d) (pilesD d l)) with hlt | hge
            · omega
            · have := hasc.tail (n := x + d) hge ht
              omega
        by_cases hs : s.length = pos (x + d) (pilesD d l)
        · exact ⟨x, by rw [putD_get, if_pos hs], Int.le_refl _⟩
        · have hlt : s.length < (pilesD d l).length := by omega
          have := pos_lt (n := x + d) (by omega : s.length < pos (x + d) (pilesD d l)) (List.getElem?_eq_getElem hlt)
          exact ⟨_, by rw [putD_get, if_neg hs]; exact List.getElem?_eq_getElem hlt, by omega⟩
    · rw [pilesD_snoc, putD_get] at h
      by_cases hi : i = pos (n + d) (pilesD d l)
      · rw [if_pos hi] at h
        obtain rfl := Option.some.inj h
        rcases Nat.eq_zero_or_pos i with h0 | h0
        · exact ⟨[], List.sublist_append_right _ _, by simp, h0.symm⟩
        · have hlt : i - 1 < (pilesD d l).length := by omega
          have hty := pos_lt (n := n + d) (by omega : i - 1 < pos (n + d) (pilesD d l)) (List.getElem?_eq_getElem hlt)
          obtain ⟨s, s1, s2, s3⟩ := ih.ex (i - 1) _ (List.getElem?_eq_getElem hlt)
          refine ⟨_, s1.append (List.Sublist.refl [n]), ?_, by rw [List.length_append, List.length_singleton]; omega⟩
          rw [List.pairwise_append]
          refine ⟨s2, by simp, fun y hy z hz => ?_⟩
          obtain rfl : z = n := by simpa using hz
          unfold RD
          rcases List.mem_append.1 hy with h1 | h1
          · have := (List.pairwise_append.1 s2).2.2 y h1 _ (List.mem_singleton.2 rfl)
            unfold RD at this
            omega
          · have : y = _ := List.mem_singleton.1 h1
            rw [this]; exact hty
      · rw [if_neg hi] at h
        obtain ⟨s, s1, s2, s3⟩ := ih.ex i t h
        exact ⟨s, s1.trans (List.sublist_append_left _ _), s2, s3⟩
theorem most_piles {d : Int} (hd : 0 ≤ d ∧ d ≤ 1) (l : List Int) : Most (RD d) l (pilesD d l).length := by
  have h := pInv hd l
  refine ⟨?_, fun s s1 s2 => ?_⟩
  · rcases Nat.eq_zero_or_pos (pilesD d l).length with h0 | h0
    · exact ⟨[], List.nil_sublist _, List.Pairwise.nil, h0.symm⟩
    · have hlt : (pilesD d l).length - 1 < (pilesD d l).length := by omega
      obtain ⟨s, s1, s2, s3⟩ := h.ex _ _ (List.getElem?_eq_getElem hlt)
      exact ⟨_, s1, s2, by rw [List.length_append, List.length_singleton]; omega⟩
  · rcases snoc_or s with rfl | ⟨s', x, rfl⟩
    · exact Nat.zero_le _
    · obtain ⟨t, ht, _⟩ := h.up s' x s1 s2
      have := (List.getElem?_eq_some_iff.1 ht).1
      rw [List.length_append, List.length_singleton]
      omega
theorem lis_piles (l : List Int) : Most (fun a b => a < b) l (piles l).length := by
  have := most_piles (d := 0) (by omega) l
  rw [pilesD_zero] at this
  have e : RD 0 = fun a b => a < b := by funext a b; unfold RD; rw [Int.add_zero]
  rwa [e] at this

/-! ### rows that do not rise -/
structure FInv (l : List Int) : Prop where
  up : ∀ s x, (s ++ [x]) <+ l → (s ++ [x]).Pairwise (fun a b => b ≤ a) → ∃ q ∈ falls l, q.1 = x ∧ s.length + 1 ≤ q.2
  ex : ∀ q ∈ falls l, ∃ s, (s ++ [q.1]) <+ l ∧ (s ++ [q.1]).Pairwise (fun a b => b ≤ a) ∧ s.length + 1 = q.2
theorem best_ge {n : Int} {ps : List (Int × Nat)} {q : Int × Nat} (hq : q ∈ ps) (h : n ≤ q.1) : q.2 ≤ best n ps := by
  refine snocInd (P := fun ps => q ∈ ps → q.2 ≤ best n ps) (by simp) ?_ ps hq
  intro ps p ih hm
  rw [best_snoc]
  rcases List.mem_append.1 hm with h1 | h1
  · have := ih h1; split <;> omega
  · obtain rfl : q = p := by simpa using h1
    rw [if_pos h]; omega
theorem best_ex (n : Int) (ps : List (Int × Nat)) : best n ps = 0 ∨ ∃ q ∈ ps, n ≤ q.1 ∧ q.2 = best n ps := by
  refine snocInd (P := fun ps => best n ps = 0 ∨ ∃ q ∈ ps, n ≤ q.1 ∧ q.2 = best n ps) (.inl rfl) ?_ ps
  intro ps p ih
  rw [best_snoc]
  by_cases hp : n ≤ p.1
  · rw [if_pos hp]
    by_cases hm : best n ps ≤ p.2
    · exact .inr ⟨p, by simp, hp, by omega⟩
    · rcases ih with h | ⟨q, h1, h2, h3⟩
      · omega
      · exact .inr ⟨q, by simp [h1], h2, by omega⟩
  · rw [if_neg hp]
    rcases ih with h | ⟨q, h1, h2, h3⟩
    · exact .inl h
    · exact .inr ⟨q, by simp [h1], h2, h3⟩
theorem fInv (l : List Int) : FInv l := by
  refine snocInd (P := FInv) ?_ ?_ l
  · refine ⟨fun s x h => ?_, by simp [falls]⟩
    have := h.length_le
    simp at this
  · intro l n ih
    refine ⟨fun s x h hp => ?_, fun q hq => ?_⟩
    · rw [falls_snoc]
      rcases sub_snoc h with h1 | ⟨s', e, h1⟩
      · obtain ⟨q, q1, q2, q3⟩ := ih.up s x h1 hp
        exact ⟨q, by simp [q1], q2, q3⟩
      · obtain ⟨e1, e2⟩ := List.append_inj' e rfl
        simp only [List.cons.injEq, and_true] at e2
        subst e1
        subst e2
        refine ⟨(x, best x (falls l) + 1), by simp, rfl, ?_⟩
        rcases snoc_or s with rfl | ⟨s2, y, rfl⟩
        · simp
        · obtain ⟨q, q1, q2, q3⟩ := ih.up s2 y h1 (List.pairwise_append.1 hp).1
          have hyx := (List.pairwise_append.1 hp).2.2 y (by simp) x (by simp)
          have := best_ge q1 (by omega : x ≤ q.1)
          simp only [List.length_append, List.length_singleton]
          omega
    · rw [falls_snoc] at hq
      rcases List.mem_append.1 hq with h1 | h1
      · obtain ⟨s, s1, s2, s3⟩ := ih.ex q h1
        exact ⟨s, s1.trans (List.sublist_append_left _ _), s2, s3⟩
      · obtain rfl : q = (n, best n (falls l) + 1) := by simpa using h1
        rcases best_ex n (falls l) with h0 | ⟨p, p1, p2, p3⟩
        · exact ⟨[], List.sublist_append_right _ _, by simp, by simp [h0]⟩
        · obtain ⟨s, s1, s2, s3⟩ := ih.ex p p1
          refine ⟨_, s1.append (List.Sublist.refl [n]), ?_, by simp only [List.length_append, List.length_singleton]; omega⟩
          rw [List.pairwise_append]
          refine ⟨s2, by simp, fun y hy z hz => ?_⟩
          obtain rfl : z = n := by simpa using hz
          rcases List.mem_append.1 hy with h1 | h1
          · have := (List.pairwise_append.1 s2).2.2 y h1 _ (List.mem_singleton.2 rfl)
            show z ≤ y
            omega
          · have : y = p.1 := List.mem_singleton.1 h1
            rw [this]; exact p2
theorem fall_ge {l : List Int} {q : Int × Nat} (h : q ∈ falls l) : q.2 ≤ fall l := by
  have : ∀ (ps : List (Int × Nat)), q ∈ ps → q.2 ≤ ps.foldl (fun m p => max m p.2) 0 := by
    intro ps
    refine snocInd (P := fun ps => q ∈ ps → q.2 ≤ ps.foldl (fun m p => max m p.2) 0) (by simp) ?_ ps
    intro ps p ih hm
    rw [List.foldl_append]
    show q.2 ≤ max _ _
    rcases List.mem_append.1 hm with h1 | h1
    · have := ih h1; omega
    · obtain rfl : q = p := by simpa using h1
      omega
  exact this _ h
theorem fall_ex (l : List Int) : fall l = 0 ∨ ∃ q ∈ falls l, q.2 = fall l := by
  have : ∀ (ps : List (Int × Nat)), ps.foldl (fun m p => max m p.2) 0 = 0 ∨ ∃ q ∈ ps, q.2 = ps.foldl (fun m p => max m p.2) 0 := by
    intro ps
    refine snocInd (P := fun ps => ps.foldl (fun m p => max m p.2) 0 = 0 ∨ ∃ q ∈ ps, q.2 = ps.foldl (fun m p => max m p.2) 0) (.inl rfl) ?_ ps
    intro ps p ih
    rw [List.foldl_append]
    show max _ _ = 0 ∨ ∃ q ∈ ps ++ [p], q.2 = max _ _
    by_cases hm : ps.foldl (fun m p => max m p.2) 0 ≤ p.2
    · exact .inr ⟨p, by simp, by omega⟩
    · rcases ih with h | ⟨q, h1, h2⟩
      · omega
      · exact .inr ⟨q, by simp [h1], by omega⟩
  exact this _
theorem lds_fall (l : List Int) : Most (fun a b => b ≤ a) l (fall l) := by
  have h := fInv l
  refine ⟨?_, fun s s1 s2 => ?_⟩
  · rcases fall_ex l with h0 | ⟨q, q1, q2⟩
    · exact ⟨[], List.nil_sublist _, List.Pairwise.nil, h0.symm⟩
    · obtain ⟨s, s1, s2, s3⟩ := h.ex q q1
      exact ⟨_, s1, s2, by rw [List.length_append, List.length_singleton]; omega⟩
  · rcases snoc_or s with rfl | ⟨s', x, rfl⟩
    · exact Nat.zero_le _
    · obtain ⟨q, q1, q2, q3⟩ := h.up s' x s1 s2
      have := fall_ge q1
      rw [List.length_append, List.length_singleton]
      omega

/-! ### Erdos, Szekeres -/
theorem heights (l : List Int) : ∃ hs : List Nat, hs.length = (piles l).length ∧ hs.sum = l.length ∧ ∀ (i h : Nat) (t : Int), hs[i]? = some h → (piles l)[i]? = some t → ∃ q ∈ falls l, q.1 = t ∧ h ≤ q.2 := by
  refine snocInd (P := fun l => ∃ hs : List Nat, hs.length = (piles l).length ∧ hs.sum = l.length ∧ ∀ (i h : Nat) (t : Int), hs[i]? = some h → (piles l)[i]? = some t → ∃ q ∈ falls l, q.1 = t ∧ h ≤ q.2) ⟨[], rfl, rfl, by simp⟩ ?_ l
  rintro l n ⟨hs, h1, h2, h3⟩
  rw [piles_snoc, falls_snoc]
  have hpl := pos_le n (piles l)
  by_cases hp : pos n (piles l) = (piles l).length
  · refine ⟨hs ++ [1], by rw [put_length, if_pos hp]; simp [h1], by simp [h2], fun i h t hi ht => ?_⟩
    rw [put_get] at ht
    by_cases e : i = pos n (piles l)
    · rw [if_pos e] at ht
      obtain rfl := Option.some.inj ht
      rw [e, hp, ← h1] at hi
      simp at hi
      exact ⟨(n, best n (falls l) + 1), by simp, rfl, by show h ≤ best n (falls l) + 1; omega⟩
    · rw [if_neg e] at ht
      have hlt := (List.getElem?_eq_some_iff.1 ht).1
      rw [List.getElem?_append_left (by omega)] at hi
      obtain ⟨q, q1, q2, q3⟩ := h3 i h t hi ht
      exact ⟨q, by simp [q1], q2, q3⟩
  · have hlt : pos n (piles l) < hs.length := by omega
    have hg : hs[pos n (piles l)]? = some hs[pos n (piles l)] := List.getElem?_eq_getElem hlt
    refine ⟨hs.set (pos n (piles l)) (hs[pos n (piles l)] + 1), by rw [put_length, if_neg hp, List.length_set, h1], ?_, fun i h t hi ht => ?_⟩
    · have key : ∀ (m : List Nat) (j : Nat) (hj : j < m.length), (m.set j (m[j] + 1)).sum = m.sum + 1 := by
        intro m
        induction m with
        | nil => intro j hj; simp at hj
        | cons a m ih =>
          intro j hj
          cases j with
          | zero => simp; omega
          | succ j =>
            have := ih j (by simpa using hj)
            simp only [List.set_cons_succ, List.sum_cons, List.getElem_cons_succ]
            omega
      rw [key, h2]; simp
    · rw [put_get] at ht
      by_cases e : i = pos n (piles l)
      · rw [if_pos e] at ht
        obtain rfl := Option.some.inj ht
        rw [e, List.getElem?_set_self hlt] at hi
        obtain rfl := Option.some.inj hi
        have htop : (piles l)[pos n (piles l)]? = some (piles l)[pos n (piles l)] := List.getElem?_eq_getElem (by omega)
        obtain ⟨q, q1, q2, q3⟩ := h3 _ _ _ hg htop
        have := pos_ge htop
        have := best_ge (n := n) q1 (by omega)
        exact ⟨(n, best n (falls l) + 1), by simp, rfl, by show _ ≤ best n (falls l) + 1; omega⟩
      · rw [if_neg e] at ht
        rw [List.getElem?_set_ne (fun e2 => e e2.symm)] at hi
        obtain ⟨q, q1, q2, q3⟩ := h3 i h t hi ht
        exact ⟨q, by simp [q1], q2, q3⟩
theorem erdos (l : List Int) : l.length ≤ (piles l).length * fall l := by
  obtain ⟨hs, h1, h2, h3⟩ := heights l
  have hle : ∀ h ∈ hs, h ≤ fall l := by
    intro h hm
    obtain ⟨i, hi⟩ := List.getElem?_of_mem hm
    have hlt : i < (piles l).length := by have := (List.getElem?_eq_some_iff.1 hi).1; omega
    obtain ⟨q, q1, q2, q3⟩ := h3 i h _ hi (List.getElem?_eq_getElem hlt)
    have := fall_ge q1
    omega
  have key : ∀ (m : List Nat) (B : Nat), (∀ h ∈ m, h ≤ B) → m.sum ≤ m.length * B := by
    intro m B
    induction m with
    | nil => intro _; simp
    | cons a m ih =>
      intro h
      have h1 := ih fun x hx => h x (by simp [hx])
      have h2 := h a (by simp)
      rw [List.sum_cons, List.length_cons, Nat.succ_mul]
      omega
  have := key hs (fall l) hle
  rw [h1, h2] at this
  exact this
end Go.Proofs.Ytlchgjlinhakdaa.Rs
