/-
  The walk of edit.Steps: it returns the least row of steps (Ed.steps) of two texts of at most 24 bytes; else the error ErrFull.
-/
import Derived.Test.YtjlgjadkcpdpmaaDoorEdFar
import Derived.Test.YtjlgjadkcpdpmaaDoorSb
import Derived.Deep.RegionHeld3
import Derived.StillTailTactics
import Derived.Lib.Strings
namespace Go.Proofs.YtjlgjadkcpdpmaaDoor.Ed
open Go.RowKit
set_option linter.unusedVariables false

/-! ### the steps, plain -/
def subOk : List UInt8 → List UInt8 → Bool
  | x :: a, y :: b => x != y && lev a b + 1 == lev (x :: a) (y :: b)
  | _, _ => false
def insOk : List UInt8 → List UInt8 → Bool
  | _, [] => false
  | a, y :: b => lev a b + 1 == lev a (y :: b)
def delOk : List UInt8 → List UInt8 → Bool
  | [], _ => false
  | x :: a, b => lev a b + 1 == lev (x :: a) b
def stepsF : Nat → List UInt8 → List UInt8 → List UInt8
  | 0, _, _ => []
  | n + 1, a, b =>
    if a.isEmpty && b.isEmpty then [] else if subOk a b then 33 :: stepsF n a.tail b.tail else if insOk a b then 43 :: stepsF n a b.tail else if delOk a b then 45 :: stepsF n a.tail b else 61 :: stepsF n a.tail b.tail
def steps (a b : List UInt8) : List UInt8 := stepsF (a.length + b.length) a b

/-- where no change serves both begin with the same byte -/
theorem stay {a b : List UInt8} (h : ¬ (a = [] ∧ b = [])) (h1 : subOk a b = false) (h2 : insOk a b = false) (h3 : delOk a b = false) : ∃ x u v, a = x :: u ∧ b = x :: v := by
  cases a with
  | nil =>
    cases b with
    | nil => exact absurd ⟨rfl, rfl⟩ h
    | cons y b => simp [insOk, lev_nil] at h2
  | cons x a =>
    cases b with
    | nil => simp [delOk, lev_nil_right] at h3
    | cons y b =>
      by_cases e : x = y
      · subst e; exact ⟨x, a, b, rfl, rfl⟩
      · exfalso
        simp only [subOk, insOk, delOk, lev_cons, if_neg e] at h1 h2 h3
        have e1 : (x != y) = true := by simpa using e
        rw [e1, Bool.true_and, beq_eq_false_iff_ne] at h1
        rw [beq_eq_false_iff_ne] at h2 h3
        have := lev_cons x y a b
        rw [if_neg e] at this
        omega
theorem stepsF_more : ∀ (n m : Nat) (a b : List UInt8), a.length + b.length ≤ n → a.length + b.length ≤ m → stepsF n a b = stepsF m a b := by
  intro n
  induction n with
  | zero =>
    intro m a b h _
    have ha : a = [] := List.eq_nil_of_length_eq_zero (by omega)
    have hb : b = [] := List.eq_nil_of_length_eq_zero (by omega)
    subst ha; subst hb
    cases m <;> rfl
  | succ n ih =>
    intro m a b h h2
    cases m with
    | zero =>
      have ha : a = [] := List.eq_nil_of_length_eq_zero (by omega)
      have hb : b = [] := List.eq_nil_of_length_eq_zero (by omega)
      subst ha; subst hb
      rfl
    | succ m =>
      unfold stepsF
      by_cases e : a = [] ∧ b = []
      · obtain ⟨rfl, rfl⟩ := e; rfl
      · have e0 : (a.isEmpty && b.isEmpty) = false := by
          rw [Bool.eq_false_iff]; intro hh; simp at hh; exact e hh
        rw [e0]
        simp only [Bool.false_eq_true, if_false]
        cases h1 : subOk a b
        · cases h3 : insOk a b
          · cases h4 : delOk a b
            · obtain ⟨x, u, v, rfl, rfl⟩ := stay e h1 h3 h4
              simp at h h2
              simp only [Bool.false_eq_true, if_false, List.tail_cons]
              rw [ih m u v (by omega) (by omega)]
            · cases a with
              | nil => simp [delOk] at h4
              | cons x a =>
                simp at h h2
                simp only [Bool.false_eq_true, if_false, if_true, List.tail_cons]
                rw [ih m a b (by omega) (by omega)]
          · cases b with
            | nil => simp [insOk] at h3
            | cons y b =>
              simp at h h2
              simp only [Bool.false_eq_true, if_false, if_true, List.tail_cons]
              rw [ih m a b (by omega) (by omega)]
        · cases a with
          | nil => simp [subOk] at h1
          | cons x a =>
            cases b with
            | nil => simp [subOk] at h1
            | cons y b =>
              simp at h h2
              simp only [if_true, List.tail_cons]
              rw [ih m a b (by omega) (by omega)]
theorem steps_nil : steps [] [] = [] := rfl
theorem steps_unfold (a b : List UInt8) (h : ¬ (a = [] ∧ b = [])) : steps a b =
    if subOk a b then 33 :: steps a.tail b.tail else if insOk a b then 43 :: steps a b.tail else if delOk a b then 45 :: steps a.tail b else 61 :: steps a.tail b.tail := by
  have e0 : (a.isEmpty && b.isEmpty) = false := by
    rw [Bool.eq_false_iff]; intro hh; simp at hh; exact h hh
  obtain ⟨n, hn⟩ : ∃ n, a.length + b.length = n + 1 := by
    refine ⟨a.length + b.length - 1, ?_⟩
    have : a.length + b.length ≠ 0 := fun h0 => h ⟨List.eq_nil_of_length_eq_zero (by omega), List.eq_nil_of_length_eq_zero (by omega)⟩
    omega
  unfold steps
  rw [hn]
  conv => lhs; unfold stepsF
  rw [e0]
  simp only [Bool.false_eq_true, if_false]
  have t1 : a.tail.length ≤ a.length := by simp
  have t2 : b.tail.length ≤ b.length := by simp
  cases h1 : subOk a b
  · cases h3 : insOk a b
    · cases h4 : delOk a b
      · obtain ⟨x, u, v, rfl, rfl⟩ := stay h h1 h3 h4
        simp at hn
        simp only [Bool.false_eq_true, if_false, List.tail_cons]
        rw [stepsF_more n (u.length + v.length) u v (by omega) (Nat.le_refl _)]
      · cases a with
        | nil => simp [delOk] at h4
        | cons x a =>
          simp at hn
          simp only [Bool.false_eq_true, if_false, if_true, List.tail_cons]
          rw [stepsF_more n (a.length + b.length) a b (by omega) (Nat.le_refl _)]
    · cases b with
      | nil => simp [insOk] at h3
      | cons y b =>
        simp at hn
        simp only [Bool.false_eq_true, if_false, if_true, List.tail_cons]
        rw [stepsF_more n (a.length + b.length) a b (by omega) (Nat.le_refl _)]
  · cases a with
    | nil => simp [subOk] at h1
    | cons x a =>
      cases b with
      | nil => simp [subOk] at h1
      | cons y b =>
        simp at hn
        simp only [if_true, List.tail_cons]
        rw [stepsF_more n (a.length + b.length) a b (by omega) (Nat.le_refl _)]
theorem steps_length : ∀ (n : Nat) (a b : List UInt8), a.length + b.length ≤ n → (steps a b).length ≤ n := by
  intro n
  unfold steps
  have h : ∀ (n : Nat) (a b : List UInt8), (stepsF n a b).length ≤ n := by
    intro n
    induction n with
    | zero => intro a b; simp [stepsF]
    | succ n ih =>
      intro a b
      unfold stepsF
      split
      · simp
      · split
        · have := ih a.tail b.tail; simp; omega
        · split
          · have := ih a b.tail; simp; omega
          · split
            · have := ih a.tail b; simp; omega
            · have := ih a.tail b.tail; simp; omega
  intro a b hn
  exact Nat.le_trans (h _ a b) hn

/-! ### the closure: does a change serve? -/
def bs (s : ByteArray) : List UInt8 := s.data.toList
theorem bs_length (s : ByteArray) : (bs s).length = s.size := by simp [bs]
theorem bs_tail (s : ByteArray) : bs (s.extract 1 s.size) = (bs s).tail := by
  show (s.extract 1 s.size).data.toList = s.data.toList.tail
  rw [Lib.extract_data, ← List.drop_one]
  exact List.take_of_length_le (by rw [List.length_drop, ← Lib.size_eq]; exact Nat.le_refl _)

theorem can_any (u v : ByteArray) (X : Nat) (left : Int) (w : World) (hu : u.size ≤ 24) (hv : v.size ≤ 24) (hc : w.cell? ⟨X, 0, none⟩ = some (.int .i64 left)) (hX : X < w.heap.size) :
    Calls Tryd.prog 21 #[.string u, .string v, .int .i64 1, .pointer (some ⟨X, 0, none⟩)] w fun e w' => e = .returned (.bool ((lev (bs u) (bs v) : Int) + 1 == left)) ∧ Below w.heap.size w w' := by
  have hb := lev_high (bs u) (bs v)
  rw [bs_length, bs_length] at hb
  have hb' : ((lev (bs u) (bs v) : Nat) : Int) ≤ 24 := by omega
  clear hb
  have hf := far_ok u v w hu hv
  have e1 : lev u.data.toList v.data.toList = lev (bs u) (bs v) := rfl
  rw [e1] at hf
  generalize lev (bs u) (bs v) = d at *
  have HF := Lib.hid hf
  clear hf e1
  go_enter Tryd.func21, Tryd.ntmps21
  go_wp2_with fail
  refine HF.out.mono ?_
  rintro e w1 ⟨rfl, hb1⟩
  have hc1 := (hb1.cell (p := ⟨X, 0, none⟩) hX).trans hc
  go_wp2_with fail
  go_ret
  exact ⟨rfl, hb1⟩
theorem can_is (u v : ByteArray) (X : Nat) (left : Nat) (r : Bool) (w : World) (hu : u.size ≤ 24) (hv : v.size ≤ 24) (hc : w.cell? ⟨X, 0, none⟩ = some (.int .i64 (left : Int))) (hX : X < w.heap.size) (hr : (lev (bs u) (bs v) + 1 == left) = r) :
    Calls Tryd.prog 21 #[.string u, .string v, .int .i64 1, .pointer (some ⟨X, 0, none⟩)] w fun e w' => e = .returned (.bool r) ∧ Below w.heap.size w w' := by
  have h := can_any u v X left w hu hv hc hX
  have e : ((lev (bs u) (bs v) : Int) + 1 == (left : Int)) = r := by
    rw [← hr, Bool.eq_iff_iff, beq_iff_eq, beq_iff_eq]; omega
  rwa [e] at h
end Go.Proofs.YtjlgjadkcpdpmaaDoor.Ed
