/-
  The room that codes take, and what is wrong with lengths, in plain lists.
-/
import Derived.Test.YtnaoonegeboflaaRefAll
namespace Go.Proofs.Ytnaoonegeboflaa
open Go.RowKit
set_option linter.unusedVariables false
set_option linter.unusedSimpArgs false

def roomOf : List Int → Nat
  | [] => 0
  | x :: l => 2 ^ (12 - x).toNat + roomOf l
theorem roomOf_append (a b : List Int) : roomOf (a ++ b) = roomOf a + roomOf b := by
  induction a with
  | nil => simp [roomOf]
  | cons x a ih => rw [List.cons_append, roomOf, roomOf, ih]; omega
theorem roomOf_le {l : List Int} (h : ∀ x ∈ l, 1 ≤ x) : roomOf l ≤ l.length * 4096 := by
  induction l with
  | nil => simp [roomOf]
  | cons x l ih =>
    have := ih fun y hy => h y (by simp [hy])
    have h1 := h x (by simp)
    have h2 : 2 ^ (12 - x).toNat ≤ 2 ^ 12 := Nat.pow_le_pow_right (by decide) (by omega)
    have e : (2 : Nat) ^ 12 = 4096 := by decide
    rw [roomOf, List.length_cons]
    omega
/-- what is wrong with lengths -/
def ckL (l : List Int) : Int := if 10 < l.length then 4 else if l.all (inn 1 12) then 0 else 1
theorem ckL_ok {l : List Int} (h : ckL l = 0) : l.length ≤ 10 ∧ ∀ x ∈ l, 1 ≤ x ∧ x ≤ 12 := by
  unfold ckL at h
  split at h
  · cases h
  · rename_i h10
    split at h
    · rename_i ha
      refine ⟨by omega, fun x hx => ?_⟩
      have := List.all_eq_true.1 ha x hx
      unfold inn at this
      exact of_decide_eq_true this
    · cases h
theorem ckL_of {l : List Int} (h1 : l.length ≤ 10) (h2 : ∀ x ∈ l, 1 ≤ x ∧ x ≤ 12) : ckL l = 0 := by
  unfold ckL
  rw [if_neg (by omega), if_pos]
  exact List.all_eq_true.2 fun x hx => by unfold inn; exact decide_eq_true (h2 x hx)
end Go.Proofs.Ytnaoonegeboflaa
