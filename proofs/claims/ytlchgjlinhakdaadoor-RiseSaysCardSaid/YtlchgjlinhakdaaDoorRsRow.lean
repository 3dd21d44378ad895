/-
  What the reference's Row computes: the longest subsequence of a kind. In plain Lean.
-/
import Derived.Test.YtlchgjlinhakdaaDoorRsMax
namespace Go.Proofs.YtlchgjlinhakdaaDoor.Rs
open List
set_option linter.unusedVariables false

section
variable (c : Int → Int → Bool)
def gbest (n : Int) (ps : List (Int × Nat)) : Nat := ps.foldl (fun m p => if c p.1 n = true then max m p.2 else m) 0
def gf (l : List Int) : List (Int × Nat) := l.foldl (fun ps n => ps ++ [(n, gbest c n ps + 1)]) []
def grow (l : List Int) : Nat := (gf c l).foldl (fun m p => max m p.2) 0
end
section
variable {c : Int → Int → Bool}
theorem gf_snoc (l : List Int) (n : Int) : gf c (l ++ [n]) = gf c l ++ [(n, gbest c n (gf c l) + 1)] := by simp [gf]
theorem gbest_snoc (n : Int) (ps : List (Int × Nat)) (p : Int × Nat) : gbest c n (ps ++ [p]) = if c p.1 n = true then max (gbest c n ps) p.2 else gbest c n ps := by simp [gbest]
theorem gf_length (l : List Int) : (gf c l).length = l.length := by
  refine snocInd (P := fun l => (gf c l).length = l.length) rfl ?_ l
  intro l n ih
  rw [gf_snoc]; simp [ih]
theorem gf_append (a b : List Int) : ∃ s, gf c (a ++ b) = gf c a ++ s := by
  refine snocInd (P := fun b => ∃ s, gf c (a ++ b) = gf c a ++ s) ⟨[], by simp⟩ ?_ b
  rintro b n ⟨s, hs⟩
  exact ⟨s ++ [(n, gbest c n (gf c (a ++ b)) + 1)], by rw [← List.append_assoc, gf_snoc, hs, List.append_assoc]⟩
theorem gf_take (l : List Int) (k : Nat) : gf c (l.take k) = (gf c l).take k := by
  obtain ⟨s, hs⟩ := gf_append (c := c) (l.take k) (l.drop k)
  rw [List.take_append_drop] at hs
  rcases Nat.lt_or_ge k l.length with h | h
  · have hl : (gf c (l.take k)).length = k := by rw [gf_length, List.length_take]; omega
    have : (gf c l).take k = gf c (l.take k) := by rw [hs, List.take_append_of_le_length (by omega), List.take_of_length_le (by omega)]
    exact this.symm
  · rw [List.take_of_length_le h, List.take_of_length_le (by rw [gf_length]; exact h)]
theorem gf_get {l : List Int} {k : Nat} {n : Int} (h : l[k]? = some n) : (gf c l)[k]? = some (n, gbest c n ((gf c l).take k) + 1) := by
  have hk : k < l.length := (List.getElem?_eq_some_iff.1 h).1
  have e : l.take (k + 1) = l.take k ++ [n] := by rw [List.take_add_one, h]; rfl
  have h1 := gf_take (c := c) l (k + 1)
  rw [e, gf_snoc, gf_take] at h1
  have h2 : ((gf c l).take (k + 1))[k]? = (gf c l)[k]? := List.getElem?_take_of_lt (by omega)
  rw [← h2, ← h1, List.getElem?_append_right (by rw [List.length_take, gf_length]; omega)]
  rw [show k - ((gf c l).take k).length = 0 by rw [List.length_take, gf_length]; omega]
  rfl
theorem gbest_le {n : Int} {ps : List (Int × Nat)} {B : Nat} (h : ∀ p ∈ ps, p.2 ≤ B) : gbest c n ps ≤ B := by
  refine snocInd (P := fun ps => (∀ p ∈ ps, p.2 ≤ B) → gbest c n ps ≤ B) (fun _ => Nat.zero_le _) ?_ ps h
  intro ps p ih h
  have h1 := ih fun q hq => h q (by simp [hq])
  have h2 := h p (by simp)
  rw [gbest_snoc]
  split <;> omega
theorem gf_le (l : List Int) : ∀ p ∈ gf c l, p.2 ≤ l.length := by
  refine snocInd (P := fun l => ∀ p ∈ gf c l, p.2 ≤ l.length) (by simp [gf]) ?_ l
  intro l n ih p hp
  rw [gf_snoc] at hp
  simp only [List.mem_append, List.mem_singleton] at hp
  rw [List.length_append, List.length_singleton]
  rcases hp with hp | rfl
  · have := ih p hp; omega
  · have := gbest_le (c := c) (n := n) ih; show gbest c n (gf c l) + 1 ≤ _; omega
theorem gbest_ge {n : Int} {ps : List (Int × Nat)} {q : Int × Nat} (hq : q ∈ ps) (h : c q.1 n = true) : q.2 ≤ gbest c n ps := by
  refine snocInd (P := fun ps => q ∈ ps → q.2 ≤ gbest c n ps) (by simp) ?_ ps hq
  intro ps p ih hm
  rw [gbest_snoc]
  rcases List.mem_append.1 hm with h1 | h1
  · have := ih h1; split <;> omega
  · obtain rfl : q = p := by simpa using h1
    rw [if_pos h]; omega
theorem gbest_ex (n : Int) (ps : List (Int × Nat)) : gbest c n ps = 0 ∨ ∃ q ∈ ps, c q.1 n = true ∧ q.2 = gbest c n ps := by
  refine snocInd (P := fun ps => gbest c n ps = 0 ∨ ∃ q ∈ ps, c q.1 n = true ∧ q.2 = gbest c n ps) (.inl rfl) ?_ ps
  intro ps p ih
  rw [gbest_snoc]
  by_cases hp : c p.1 n = true
  · rw [if_pos hp]
    by_cases hm : gbest c n ps ≤ p.2
    · exact .inr ⟨p, by simp, hp, by omega⟩
    · rcases ih with h | ⟨q, h1, h2, h3⟩
      · omega
      · exact .inr ⟨q, by simp [h1], h2, by omega⟩
  · rw [if_neg hp]
    rcases ih with h | ⟨q, h1, h2, h3⟩
    · exact .inl h
    · exact .inr ⟨q, by simp [h1], h2, h3⟩
structure GInv (c : Int → Int → Bool) (l : List Int) : Prop where
  up : ∀ s x, (s ++ [x]) <+ l → (s ++ [x]).Pairwise (fun a b => c a b = true) → ∃ q ∈ gf c l, q.1 = x ∧ s.length + 1 ≤ q.2
  ex : ∀ q ∈ gf c l, ∃ s, (s ++ [q.1]) <+ l ∧ (s ++ [q.1]).Pairwise (fun a b => c a b = true) ∧ s.length + 1 = q.2
theorem gInv (htr : ∀ x y z, c x y = true → c y z = true → c x z = true) (l : List Int) : GInv c l := by
  refine snocInd (P := GInv c) ?_ ?_ l
  · refine ⟨fun s x h => ?_, by simp [gf]⟩
    have := h.length_le
    simp at this
  · intro l n ih
    refine ⟨fun s x h hp => ?_, fun q hq => ?_⟩
    · rw [gf_snoc]
      rcases sub_snoc h with h1 | ⟨s', e, h1⟩
      · obtain ⟨q, q1, q2, q3⟩ := ih.up s x h1 hp
        exact ⟨q, by simp [q1], q2, q3⟩
      · obtain ⟨e1, e2⟩ := List.append_inj' e rfl
        simp only [List.cons.injEq, and_true] at e2
        subst e1
        subst e2
        refine ⟨(x, gbest c x (gf c l) + 1), by simp, rfl, ?_⟩
        rcases snoc_or s with rfl | ⟨s2, y, rfl⟩
        · simp
        · obtain ⟨q, q1, q2, q3⟩ := ih.up s2 y h1 (List.pairwise_append.1 hp).1
          have hyx := (List.pairwise_append.1 hp).2.2 y (by simp) x (by simp)
          have := gbest_ge (c := c) (n := x) q1 (by rw [q2]; exact hyx)
          simp only [List.length_append, List.length_singleton]
          omega
    · rw [gf_snoc] at hq
      rcases List.mem_append.1 hq with h1 | h1
      · obtain ⟨s, s1, s2, s3⟩ := ih.ex q h1
        exact ⟨s, s1.trans (List.sublist_append_left _ _), s2, s3⟩
      · obtain rfl : q = (n, gbest c n (gf c l) + 1) := by simpa using h1
        rcases gbest_ex (c := c) n (gf c l) with h0 | ⟨p, p1, p2, p3⟩
        · exact ⟨[], List.sublist_append_right _ _, by simp, by simp [h0]⟩
        · obtain ⟨s, s1, s2, s3⟩ := ih.ex p p1
          refine ⟨_, s1.append (List.Sublist.refl [n]), ?_, by simp only [List.length_append, List.length_singleton]; omega⟩
          rw [List.pairwise_append]
          refine ⟨s2, by simp, fun y hy z hz => ?_⟩
          obtain rfl : z = n := by simpa using hz
          rcases List.mem_append.1 hy with h1 | h1
          · have := (List.pairwise_append.1 s2).2.2 y h1 _ (List.mem_singleton.2 rfl)
            exact htr _ _ _ this p2
          · have : y = p.1 := List.mem_singleton.1 h1
            rw [this]; exact p2
theorem maxf_ge {q : Int × Nat} (ps : List (Int × Nat)) (h : q ∈ ps) : q.2 ≤ ps.foldl (fun m p => max m p.2) 0 := by
  refine snocInd (P := fun ps => q ∈ ps → q.2 ≤ ps.foldl (fun m p => max m p.2) 0) (by simp) ?_ ps h
  intro ps p ih hm
  rw [List.foldl_append]
  show q.2 ≤ max _ _
  rcases List.mem_append.1 hm with h1 | h1
  · have := ih h1; omega
  · obtain rfl : q = p := by simpa using h1
    omega
theorem maxf_ex (ps : List (Int × Nat)) : ps.foldl (fun m p => max m p.2) 0 = 0 ∨ ∃ q ∈ ps, q.2 = ps.foldl (fun m p => max m p.2) 0 := by
  refine snocInd (P := fun ps => ps.foldl (fun m p => max m p.2) 0 = 0 ∨ ∃ q ∈ ps, q.2 = ps.foldl (fun m p => max m p.2) 0) (.inl rfl) ?_ ps
  intro ps p ih
  rw [List.foldl_append]
  show max _ _ = 0 ∨ ∃ q ∈ ps ++ [p], q.2 = max _ _
  by_cases hm : ps.foldl (fun m p => max m p.2) 0 ≤ p.2
  · exact .inr ⟨p, by simp, by omega⟩
  · rcases ih with h | ⟨q, h1, h2⟩
    · omega
    · exact .inr ⟨q, by simp [h1], by omega⟩
theorem most_grow (htr : ∀ x y z, c x y = true → c y z = true → c x z = true) (l : List Int) : Most (fun a b => c a b = true) l (grow c l) := by
  have h := gInv htr l
  refine ⟨?_, fun s s1 s2 => ?_⟩
  · rcases maxf_ex (gf c l) with h0 | ⟨q, q1, q2⟩
    · exact ⟨[], List.nil_sublist _, List.Pairwise.nil, h0.symm⟩
    · obtain ⟨s, s1, s2, s3⟩ := h.ex q q1
      exact ⟨_, s1, s2, by rw [List.length_append, List.length_singleton]; unfold grow; omega⟩
  · rcases snoc_or s with rfl | ⟨s', x, rfl⟩
    · exact Nat.zero_le _
    · obtain ⟨q, q1, q2, q3⟩ := h.up s' x s1 s2
      have := maxf_ge _ q1
      rw [List.length_append, List.length_singleton]
      unfold grow
      omega
end
def cUp (a n : Int) : Bool := decide (a < n)
def cDown (a n : Int) : Bool := decide (n ≤ a)
theorem grow_up (l : List Int) : grow cUp l = (piles l).length := by
  refine (most_grow (c := cUp) (fun x y z h1 h2 => ?_) l).uniq ?_
  · have := of_decide_eq_true h1
    have := of_decide_eq_true h2
    exact decide_eq_true (by omega)
  · have e : (fun a b => cUp a b = true) = fun a b => a < b := by funext a b; exact propext decide_eq_true_iff
    rw [e]; exact lis_piles l
theorem grow_down (l : List Int) : grow cDown l = fall l := by
  refine (most_grow (c := cDown) (fun x y z h1 h2 => ?_) l).uniq ?_
  · have := of_decide_eq_true h1
    have := of_decide_eq_true h2
    exact decide_eq_true (by omega)
  · have e : (fun a b => cDown a b = true) = fun a b => b ≤ a := by funext a b; exact propext decide_eq_true_iff
    rw [e]; exact lds_fall l
end Go.Proofs.YtlchgjlinhakdaaDoor.Rs
