/-
  The least of the longest common subsequences, in plain Lean.
-/
import Derived.Test.YtjlgjadkcpdpmaaDoorCoEdit
namespace Go.Proofs.YtjlgjadkcpdpmaaDoor.Co
open List
set_option linter.unusedVariables false

/-- what stands behind the first x -/
def after (x : UInt8) : List UInt8 → List UInt8
  | [] => []
  | y :: l => if y = x then l else after x l
theorem after_sub (x : UInt8) (l : List UInt8) (h : x ∈ l) : (x :: after x l) <+ l := by
  induction l with
  | nil => cases h
  | cons y l ih =>
    unfold after
    by_cases hy : y = x
    · rw [if_pos hy, hy]; exact List.Sublist.refl _
    · rw [if_neg hy]
      have : x ∈ l := by
        rcases List.mem_cons.1 h with h | h
        · exact absurd h.symm hy
        · exact h
      exact (ih this).cons y
theorem sub_after {x : UInt8} {c : List UInt8} : ∀ {l : List UInt8}, (x :: c) <+ l → c <+ after x l := by
  intro l
  induction l with
  | nil => intro h; cases h
  | cons y l ih =>
    intro h
    unfold after
    by_cases hy : y = x
    · rw [if_pos hy]; exact sub_tail h
    · rw [if_neg hy]; exact ih (sub_skip h (fun e => hy e.symm))
/-- x can go ahead of a longest one -/
def okB (a b : List UInt8) (x : UInt8) : Bool := decide (x ∈ a) && decide (x ∈ b) && (1 + lcs (after x a) (after x b) == lcs a b)
theorem lcs_after {a b : List UInt8} {x : UInt8} (ha : x ∈ a) (hb : x ∈ b) : 1 + lcs (after x a) (after x b) ≤ lcs a b := by
  obtain ⟨c, h1, h2, h3⟩ := lcs_ex (after x a) (after x b)
  have := lcs_ge ((h1.cons_cons x).trans (after_sub x a ha)) ((h2.cons_cons x).trans (after_sub x b hb))
  simp only [List.length_cons] at this
  omega
theorem ok_of_longest {a b c : List UInt8} {z : UInt8} (ha : (z :: c) <+ a) (hb : (z :: c) <+ b) (hl : (z :: c).length = lcs a b) :
    okB a b z = true ∧ c.length = lcs (after z a) (after z b) := by
  have ma : z ∈ a := ha.subset (List.mem_cons_self)
  have mb : z ∈ b := hb.subset (List.mem_cons_self)
  have h1 := lcs_after ma mb
  have h2 := lcs_ge (sub_after ha) (sub_after hb)
  simp only [List.length_cons] at hl
  unfold okB
  refine ⟨?_, by omega⟩
  rw [decide_eq_true ma, decide_eq_true mb, Bool.true_and, Bool.true_and, beq_iff_eq]
  omega
/-- some byte can, if anything is common -/
theorem ok_ex {a b : List UInt8} (h : 0 < lcs a b) : ∃ z, okB a b z = true := by
  obtain ⟨c, h1, h2, h3⟩ := lcs_ex a b
  cases c with
  | nil => simp at h3; omega
  | cons z c => exact ⟨z, (ok_of_longest h1 h2 h3).1⟩
/-- g is a row of least choices -/
def Least : List UInt8 → List UInt8 → List UInt8 → Prop
  | a, b, [] => lcs a b = 0
  | a, b, x :: g => okB a b x = true ∧ (∀ z, okB a b z = true → x.toNat ≤ z.toNat) ∧ Least (after x a) (after x b) g
theorem Least.sub : ∀ {g a b : List UInt8}, Least a b g → g <+ a ∧ g <+ b ∧ g.length = lcs a b := by
  intro g
  induction g with
  | nil => intro a b h; exact ⟨List.nil_sublist _, List.nil_sublist _, Eq.symm h⟩
  | cons x g ih =>
    intro a b h
    obtain ⟨h1, _, h3⟩ := h
    obtain ⟨k1, k2, k3⟩ := ih h3
    simp only [okB, Bool.and_eq_true, decide_eq_true_iff, beq_iff_eq] at h1
    refine ⟨(k1.cons_cons x).trans (after_sub x a h1.1.1), (k2.cons_cons x).trans (after_sub x b h1.1.2), ?_⟩
    rw [List.length_cons]
    omega
/-- the order of texts, a text ahead of its longer ones -/
def before : List UInt8 → List UInt8 → Bool
  | _, [] => false
  | [], _ :: _ => true
  | x :: a, y :: b => if x = y then before a b else decide (x.toNat < y.toNat)
theorem Least.before : ∀ {g a b c : List UInt8}, Least a b g → c <+ a → c <+ b → c.length = g.length → before c g = false := by
  intro g
  induction g with
  | nil => intro a b c _ _ _ _; cases c <;> rfl
  | cons x g ih =>
    intro a b c h ha hb hl
    have hL := h.sub.2.2
    obtain ⟨h1, h2, h3⟩ := h
    cases c with
    | nil => simp at hl
    | cons z c =>
      obtain ⟨k1, k2⟩ := ok_of_longest ha hb (by rw [hl, hL])
      have hz := h2 z k1
      unfold Co.before
      by_cases hzx : z = x
      · rw [if_pos hzx]
        subst hzx
        exact ih h3 (sub_after ha) (sub_after hb) (by simpa using hl)
      · rw [if_neg hzx, decide_eq_false (by omega)]
end Go.Proofs.YtjlgjadkcpdpmaaDoor.Co
