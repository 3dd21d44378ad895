/-
  The reference's Common, in plain Lean: of all common subsequences the longest, the least of these.
-/
import Derived.Test.YtjlgjadkcpdpmaaDoorCoOf
namespace Go.Proofs.YtjlgjadkcpdpmaaDoor.Co
open List
set_option linter.unusedVariables false

def better (a b : List UInt8) : List UInt8 := if b.length < a.length ∨ (a.length = b.length ∧ before a b = true) then a else b
def cmRow (f : List UInt8 → List UInt8) (x : UInt8) : List UInt8 → List UInt8
  | [] => []
  | y :: b => if x = y then better (better (cmRow f x b) (f (y :: b))) (x :: f b) else better (cmRow f x b) (f (y :: b))
def cm : List UInt8 → List UInt8 → List UInt8
  | [] => fun _ => []
  | x :: a => cmRow (cm a) x
theorem cm_nil (b : List UInt8) : cm [] b = [] := rfl
theorem cm_nil_right (a : List UInt8) : cm a [] = [] := by cases a <;> rfl
theorem cm_cons (x y : UInt8) (a b : List UInt8) : cm (x :: a) (y :: b) = if x = y then better (better (cm (x :: a) b) (cm a (y :: b))) (x :: cm a b) else better (cm (x :: a) b) (cm a (y :: b)) := rfl
theorem before_refl : ∀ (a : List UInt8), before a a = false
  | [] => rfl
  | x :: a => by unfold before; rw [if_pos rfl]; exact before_refl a
theorem before_asymm : ∀ (a b : List UInt8), before a b = true → before b a = false
  | [], [], h => by cases h
  | [], y :: b, _ => rfl
  | x :: a, [], h => by cases h
  | x :: a, y :: b, h => by
    unfold before at h ⊢
    by_cases hxy : x = y
    · rw [if_pos hxy] at h
      rw [if_pos hxy.symm]
      exact before_asymm a b h
    · rw [if_neg hxy] at h
      rw [if_neg (fun e => hxy e.symm)]
      have := of_decide_eq_true h
      exact decide_eq_false (by omega)
theorem before_trans : ∀ (a b c : List UInt8), a.length = b.length → b.length = c.length → before a b = false → before b c = false → before a c = false
  | [], b, c, h1, h2, _, _ => by
    cases b with
    | cons _ _ => simp at h1
    | nil => cases c with
      | cons _ _ => simp at h2
      | nil => rfl
  | x :: a, [], c, h1, _, _, _ => by simp at h1
  | x :: a, y :: b, [], _, h2, _, _ => by simp at h2
  | x :: a, y :: b, z :: c, h1, h2, h3, h4 => by
    unfold before at h3 h4 ⊢
    by_cases hxy : x = y
    · subst hxy
      rw [if_pos rfl] at h3
      by_cases hxz : x = z
      · rw [if_pos hxz] at h4 ⊢
        exact before_trans a b c (by simpa using h1) (by simpa using h2) h3 h4
      · rw [if_neg hxz] at h4 ⊢; exact h4
    · rw [if_neg hxy] at h3
      have h3' := of_decide_eq_false h3
      have hne : x.toNat ≠ y.toNat := fun e => hxy (UInt8.toNat_inj.1 e)
      by_cases hyz : y = z
      · subst hyz
        rw [if_neg hxy]
        exact h3
      · rw [if_neg hyz] at h4
        have h4' := of_decide_eq_false h4
        have hne2 : y.toNat ≠ z.toNat := fun e => hyz (UInt8.toNat_inj.1 e)
        rw [if_neg (fun e => by have e2 := congrArg UInt8.toNat e; omega)]
        exact decide_eq_false (by omega)
/-- r is no worse than c -/
def Le (c r : List UInt8) : Prop := c.length < r.length ∨ (c.length = r.length ∧ before c r = false)
theorem Le.refl (a : List UInt8) : Le a a := .inr ⟨rfl, before_refl a⟩
theorem Le.trans {a b c : List UInt8} (h : Le a b) (g : Le b c) : Le a c := by
  rcases h with h | ⟨h1, h2⟩
  · rcases g with g | ⟨g1, g2⟩
    · exact .inl (by omega)
    · exact .inl (by omega)
  · rcases g with g | ⟨g1, g2⟩
    · exact .inl (by omega)
    · exact .inr ⟨by omega, before_trans a b c h1 g1 h2 g2⟩
theorem Le.antisymm {a b : List UInt8} (h : Le a b) (g : Le b a) : a = b := by
  have hl : a.length = b.length := by
    rcases h with h | h <;> rcases g with g | g <;> omega
  have h2 : before a b = false := by
    rcases h with h | h
    · omega
    · exact h.2
  have g2 : before b a = false := by
    rcases g with g | g
    · omega
    · exact g.2
  clear h g
  induction a generalizing b with
  | nil => cases b with
    | nil => rfl
    | cons _ _ => simp at hl
  | cons x a ih => cases b with
    | nil => simp at hl
    | cons y b =>
      unfold before at h2 g2
      by_cases hxy : x = y
      · subst hxy
        rw [if_pos rfl] at h2 g2
        rw [ih (by simpa using hl) h2 g2]
      · rw [if_neg hxy] at h2
        rw [if_neg (fun e => hxy e.symm)] at g2
        have := of_decide_eq_false h2
        have := of_decide_eq_false g2
        exact absurd (UInt8.toNat_inj.1 (by omega)) hxy
theorem Le.cons {a b : List UInt8} (x : UInt8) (h : Le a b) : Le (x :: a) (x :: b) := by
  rcases h with h | ⟨h1, h2⟩
  · exact .inl (by simpa using h)
  · exact .inr ⟨by simpa using h1, by unfold before; rw [if_pos rfl]; exact h2⟩
theorem le_better_left (a b : List UInt8) : Le a (better a b) := by
  unfold better
  by_cases h : b.length < a.length ∨ (a.length = b.length ∧ before a b = true)
  · rw [if_pos h]; exact Le.refl a
  · rw [if_neg h]
    rcases Nat.lt_or_ge a.length b.length with h1 | h1
    · exact .inl h1
    · have hl : a.length = b.length := by
        rcases Nat.lt_or_ge b.length a.length with h2 | h2
        · exact absurd (.inl h2) h
        · omega
      exact .inr ⟨hl, by
        cases hb : before a b with
        | false => rfl
        | true => exact absurd (.inr ⟨hl, hb⟩) h⟩
theorem le_better_right (a b : List UInt8) : Le b (better a b) := by
  unfold better
  by_cases h : b.length < a.length ∨ (a.length = b.length ∧ before a b = true)
  · rw [if_pos h]
    rcases h with h | ⟨h1, h2⟩
    · exact .inl h
    · exact .inr ⟨h1.symm, before_asymm _ _ h2⟩
  · rw [if_neg h]; exact Le.refl b
theorem better_or (a b : List UInt8) : better a b = a ∨ better a b = b := by
  unfold better; split
  · exact .inl rfl
  · exact .inr rfl
structure Top (a b r : List UInt8) : Prop where
  sub1 : r <+ a
  sub2 : r <+ b
  le : ∀ c, c <+ a → c <+ b → Le c r
theorem top_cm : ∀ (n : Nat) (a b : List UInt8), a.length + b.length ≤ n → Top a b (cm a b) := by
  intro n
  induction n with
  | zero =>
    intro a b h
    obtain rfl : a = [] := List.eq_nil_of_length_eq_zero (by omega)
    refine ⟨List.nil_sublist _, List.nil_sublist _, fun c h1 _ => ?_⟩
    obtain rfl := List.sublist_nil.1 h1
    exact Le.refl _
  | succ n ih =>
    intro a b h
    cases a with
    | nil =>
      refine ⟨List.nil_sublist _, List.nil_sublist _, fun c h1 _ => ?_⟩
      obtain rfl := List.sublist_nil.1 h1
      exact Le.refl _
    | cons x a =>
      cases b with
      | nil =>
        rw [cm_nil_right]
        refine ⟨List.nil_sublist _, List.nil_sublist _, fun c _ h1 => ?_⟩
        obtain rfl := List.sublist_nil.1 h1
        exact Le.refl _
      | cons y b =>
        simp only [List.length_cons] at h
        have t1 := ih (x :: a) b (by simp only [List.length_cons]; omega)
        have t2 := ih a (y :: b) (by simp only [List.length_cons]; omega)
        have t3 := ih a b (by omega)
        have hm : Top (x :: a) (y :: b) (better (cm (x :: a) b) (cm a (y :: b))) ∨ x = y := by
          by_cases hxy : x = y
          · exact .inr hxy
          · left
            refine ⟨?_, ?_, fun c h1 h2 => ?_⟩
            · rcases better_or (cm (x :: a) b) (cm a (y :: b)) with e | e <;> rw [e]
              · exact t1.sub1
              · exact t2.sub1.cons x
            · rcases better_or (cm (x :: a) b) (cm a (y :: b)) with e | e <;> rw [e]
              · exact t1.sub2.cons y
              · exact t2.sub2
            · cases c with
              | nil =>
                have := t1.le [] (List.nil_sublist _) (List.nil_sublist _)
                exact this.trans (le_better_left _ _)
              | cons z c =>
                by_cases hz : z = x
                · subst hz
                  exact (t1.le _ h1 (sub_skip h2 hxy)).trans (le_better_left _ _)
                · exact (t2.le _ (sub_skip h1 hz) h2).trans (le_better_right _ _)
        rw [cm_cons]
        by_cases hxy : x = y
        · subst hxy
          rw [if_pos rfl]
          refine ⟨?_, ?_, fun c h1 h2 => ?_⟩
          · rcases better_or (better (cm (x :: a) b) (cm a (x :: b))) (x :: cm a b) with e | e <;> rw [e]
            · rcases better_or (cm (x :: a) b) (cm a (x :: b)) with e | e <;> rw [e]
              · exact t1.sub1
              · exact t2.sub1.cons x
            · exact t3.sub1.cons_cons x
          · rcases better_or (better (cm (x :: a) b) (cm a (x :: b))) (x :: cm a b) with e | e <;> rw [e]
            · rcases better_or (cm (x :: a) b) (cm a (x :: b)) with e | e <;> rw [e]
              · exact t1.sub2.cons x
              · exact t2.sub2
            · exact t3.sub2.cons_cons x
          · cases c with
            | nil =>
              have := t1.le [] (List.nil_sublist _) (List.nil_sublist _)
              exact (this.trans (le_better_left _ _)).trans (le_better_left _ _)
            | cons z c =>
              by_cases hz : z = x
              · subst hz
                exact ((t3.le c (sub_tail h1) (sub_tail h2)).cons z).trans (le_better_right _ _)
              · exact ((t2.le _ (sub_skip h1 hz) h2).trans (le_better_right _ _)).trans (le_better_left _ _)
        · rw [if_neg hxy]
          rcases hm with hm | hm
          · exact hm
          · exact absurd hm hxy
theorem least_cm {a b g : List UInt8} (h : Least a b g) : g = cm a b := by
  have t := top_cm _ a b (Nat.le_refl _)
  have hs := h.sub
  refine Le.antisymm (t.le g hs.1 hs.2.1) ?_
  have hl := lcs_ge t.sub1 t.sub2
  rw [← hs.2.2] at hl
  rcases Nat.lt_or_ge (cm a b).length g.length with h1 | h1
  · exact .inl h1
  · have e : (cm a b).length = g.length := by omega
    exact .inr ⟨e, h.before t.sub1 t.sub2 e⟩
end Go.Proofs.YtjlgjadkcpdpmaaDoor.Co
