/-
  What package common computes, in plain Lean: the longest common subsequence's length, and the greedy test.
-/
import Derived.Test.YtjlgjadkcpdpmaaDoorBase
namespace Go.Proofs.YtjlgjadkcpdpmaaDoor.Co
open List
set_option linter.unusedVariables false

def lcsRow (f : List UInt8 → Nat) (x : UInt8) : List UInt8 → Nat
  | [] => 0
  | y :: b => if x = y then 1 + f b else max (f (y :: b)) (lcsRow f x b)
def lcs : List UInt8 → List UInt8 → Nat
  | [], _ => 0
  | x :: a, b => lcsRow (lcs a) x b
theorem lcs_nil (b : List UInt8) : lcs [] b = 0 := rfl
theorem lcs_nil_right (a : List UInt8) : lcs a [] = 0 := by cases a <;> rfl
theorem lcs_cons (x y : UInt8) (a b : List UInt8) : lcs (x :: a) (y :: b) = if x = y then 1 + lcs a b else max (lcs a (y :: b)) (lcs (x :: a) b) := rfl

theorem sub_tail {z : UInt8} {c a : List UInt8} {x : UInt8} (h : (z :: c) <+ (x :: a)) : c <+ a := by
  cases h with
  | cons _ h => exact (List.sublist_cons_self z c).trans h
  | cons_cons _ h => exact h
theorem sub_skip {z : UInt8} {c a : List UInt8} {x : UInt8} (h : (z :: c) <+ (x :: a)) (hz : z ≠ x) : (z :: c) <+ a := by
  cases h with
  | cons _ h => exact h
  | cons_cons _ h => exact absurd rfl hz
/-- no common subsequence is longer -/
theorem lcs_ge_n : ∀ (n : Nat) (a b c : List UInt8), a.length + b.length ≤ n → c <+ a → c <+ b → c.length ≤ lcs a b := by
  intro n
  induction n with
  | zero =>
    intro a b c h ha hb
    cases a with
    | nil => have := ha.length_le; simp at this; simp [this]
    | cons x a => simp at h
  | succ n ih =>
    intro a b c h ha hb
    cases c with
    | nil => exact Nat.zero_le _
    | cons z c =>
      cases a with
      | nil => cases ha
      | cons x a =>
        cases b with
        | nil => cases hb
        | cons y b =>
          simp only [List.length_cons] at h
          rw [lcs_cons]
          by_cases hxy : x = y
          · rw [if_pos hxy, List.length_cons]
            have := ih a b c (by omega) (sub_tail ha) (sub_tail hb)
            omega
          · rw [if_neg hxy]
            by_cases hz : z = x
            · have hb' := sub_skip hb (by rw [hz]; exact hxy)
              have := ih (x :: a) b (z :: c) (by simp only [List.length_cons]; omega) ha hb'
              omega
            · have := ih a (y :: b) (z :: c) (by simp only [List.length_cons]; omega) (sub_skip ha hz) hb
              omega
theorem lcs_ge {a b c : List UInt8} (ha : c <+ a) (hb : c <+ b) : c.length ≤ lcs a b := lcs_ge_n _ a b c (Nat.le_refl _) ha hb
/-- and one is as long -/
theorem lcs_ex_n : ∀ (n : Nat) (a b : List UInt8), a.length + b.length ≤ n → ∃ c, c <+ a ∧ c <+ b ∧ c.length = lcs a b := by
  intro n
  induction n with
  | zero =>
    intro a b h
    cases a with
    | nil => exact ⟨[], List.nil_sublist _, List.nil_sublist _, rfl⟩
    | cons x a => simp at h
  | succ n ih =>
    intro a b h
    cases a with
    | nil => exact ⟨[], List.nil_sublist _, List.nil_sublist _, rfl⟩
    | cons x a =>
      cases b with
      | nil => exact ⟨[], List.nil_sublist _, List.nil_sublist _, rfl⟩
      | cons y b =>
        simp only [List.length_cons] at h
        rw [lcs_cons]
        by_cases hxy : x = y
        · obtain ⟨c, h1, h2, h3⟩ := ih a b (by omega)
          subst hxy
          exact ⟨x :: c, h1.cons_cons x, h2.cons_cons x, by rw [if_pos rfl, List.length_cons]; omega⟩
        · rw [if_neg hxy]
          by_cases hm : lcs (x :: a) b ≤ lcs a (y :: b)
          · obtain ⟨c, h1, h2, h3⟩ := ih a (y :: b) (by simp only [List.length_cons]; omega)
            exact ⟨c, h1.cons x, h2, by omega⟩
          · obtain ⟨c, h1, h2, h3⟩ := ih (x :: a) b (by simp only [List.length_cons]; omega)
            exact ⟨c, h1, h2.cons y, by omega⟩
theorem lcs_ex (a b : List UInt8) : ∃ c, c <+ a ∧ c <+ b ∧ c.length = lcs a b := lcs_ex_n _ a b (Nat.le_refl _)
theorem lcs_symm (a b : List UInt8) : lcs a b = lcs b a := by
  obtain ⟨c, h1, h2, h3⟩ := lcs_ex a b
  obtain ⟨d, k1, k2, k3⟩ := lcs_ex b a
  have := lcs_ge h2 h1
  have := lcs_ge k2 k1
  omega
theorem lcs_le (a b : List UInt8) : lcs a b ≤ a.length ∧ lcs a b ≤ b.length := by
  obtain ⟨c, h1, h2, h3⟩ := lcs_ex a b
  exact ⟨h3 ▸ h1.length_le, h3 ▸ h2.length_le⟩

/-! ### the greedy test -/
def gr : List UInt8 → List UInt8 → List UInt8
  | a, [] => a
  | a, y :: b => match a with
    | [] => []
    | x :: a' => if x = y then gr a' b else gr (x :: a') b
theorem gr_nil (b : List UInt8) : gr [] b = [] := by cases b <;> rfl
theorem gr_cons (x y : UInt8) (a b : List UInt8) : gr (x :: a) (y :: b) = if x = y then gr a b else gr (x :: a) b := rfl
theorem gr_sub : ∀ (b a : List UInt8), gr a b = [] ↔ a <+ b := by
  intro b
  induction b with
  | nil => intro a; exact ⟨fun h => by have h' : a = [] := h; rw [h']; exact List.nil_sublist _, fun h => List.sublist_nil.1 h⟩
  | cons y b ih =>
    intro a
    cases a with
    | nil => exact ⟨fun _ => List.nil_sublist _, fun _ => gr_nil _⟩
    | cons x a =>
      rw [gr_cons]
      by_cases h : x = y
      · rw [if_pos h, ih]
        subst h
        exact ⟨fun k => k.cons_cons x, fun k => sub_tail k⟩
      · rw [if_neg h, ih]
        exact ⟨fun k => k.cons y, fun k => sub_skip k h⟩
end Go.Proofs.YtjlgjadkcpdpmaaDoor.Co
