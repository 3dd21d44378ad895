/-
  What the laws of package common share: the fact, 'in'.
-/
import Derived.Test.YtjlgjadkcpdpmaaCoOfW
import Derived.Test.YtjlgjadkcpdpmaaCoBefore
namespace Go.Proofs.Ytjlgjadkcpdpmaa.Co
open Go.RowKit
set_option linter.unusedVariables false

theorem in_any (n lo hi : Int) (w : World) : Calls Try.prog 15 #[.int .i64 n, .int .i64 lo, .int .i64 hi] w fun e w' => e = .returned (.bool (decide (lo ≤ n ∧ n ≤ hi))) ∧ w = w' := by
  by_cases h1 : lo ≤ n <;> by_cases h2 : n ≤ hi
  all_goals
    go_enter Try.func15, Try.ntmps15
    go_wp2
    go_ret
    exact ⟨by simp [h1, h2], rfl⟩
theorem in_yes {n lo hi : Int} (h1 : lo ≤ n) (h2 : n ≤ hi) (w : World) : Calls Try.prog 15 #[.int .i64 n, .int .i64 lo, .int .i64 hi] w fun e w' => e = .returned (.bool true) ∧ w = w' := by
  have := in_any n lo hi w
  rwa [decide_eq_true ⟨h1, h2⟩] at this
theorem in_no {n lo hi : Int} (h : ¬ (lo ≤ n ∧ n ≤ hi)) (w : World) : Calls Try.prog 15 #[.int .i64 n, .int .i64 lo, .int .i64 hi] w fun e w' => e = .returned (.bool false) ∧ w = w' := by
  have := in_any n lo hi w
  rwa [decide_eq_false h] at this

/-- does a text stand within another one? -/
def wi (a b : ByteArray) : Bool := (gr (bs a) (bs b)).isEmpty
theorem wi_iff (a b : ByteArray) : wi a b = true ↔ (bs a).Sublist (bs b) := by
  unfold wi
  rw [List.isEmpty_iff, gr_sub]
theorem within_wi (a b : ByteArray) (w : World) (ha : a.size ≤ 24) (hb : b.size ≤ 24) :
    Calls Try.prog 12 #[.string a, .string b] w fun e w' => e = .returned (.tuple #[.bool (wi a b), .nilIface]) ∧ Below w.heap.size w w' := within_ok a b w ha hb

theorem mkLeast {a b g : List UInt8} {x : UInt8} (h1 : okB a b x = true) (h2 : (a.all fun z => !okB a b z || decide (x.toNat ≤ z.toNat)) = true) (h3 : Least (after x a) (after x b) g) : Least a b (x :: g) := by
  refine ⟨h1, fun z hz => ?_, h3⟩
  rw [List.all_eq_true] at h2
  have hm : z ∈ a := by simp only [okB, Bool.and_eq_true, decide_eq_true_iff] at hz; exact hz.1.1
  have := h2 z hm
  rw [hz] at this
  simpa using this
theorem Least.uniq : ∀ {g g' a b : List UInt8}, Least a b g → Least a b g' → g = g' := by
  intro g
  induction g with
  | nil =>
    intro g' a b h h'
    have := h'.sub.2.2
    have h0 : lcs a b = 0 := h
    rw [h0] at this
    exact (List.eq_nil_of_length_eq_zero this).symm
  | cons x g ih =>
    intro g' a b h h'
    cases g' with
    | nil =>
      have := h.sub.2.2
      have h0 : lcs a b = 0 := h'
      rw [h0] at this
      simp at this
    | cons y g' =>
      obtain ⟨h1, h2, h3⟩ := h
      obtain ⟨k1, k2, k3⟩ := h'
      have := h2 y k1
      have := k2 x h1
      obtain rfl : x = y := UInt8.toNat_inj.1 (by omega)
      rw [ih h3 k3]
theorem least_fact : Least [97, 98, 99, 98] [98, 99, 97, 98] [98, 99, 98] :=
  mkLeast (by decide +kernel) (by decide +kernel) (mkLeast (by decide +kernel) (by decide +kernel) (mkLeast (by decide +kernel) (by decide +kernel) (show lcs _ _ = 0 by decide +kernel)))
theorem of_lit (w : World) : Calls Try.prog 11 #[.string ⟨#[97, 98, 99, 98]⟩, .string ⟨#[98, 99, 97, 98]⟩] w fun e w' => e = .returned (.tuple #[.string ⟨#[98, 99, 98]⟩, .nilIface]) ∧ Below w.heap.size w w' := by
  refine (of_ok ⟨#[97, 98, 99, 98]⟩ ⟨#[98, 99, 97, 98]⟩ w (by decide) (by decide)).mono ?_
  rintro e w' ⟨g, rfl, hl, hb⟩
  obtain rfl : g = [98, 99, 98] := Least.uniq hl least_fact
  exact ⟨rfl, hb⟩
theorem long_lit (w : World) : Calls Try.prog 13 #[.string ⟨#[97, 98, 99, 98]⟩, .string ⟨#[98, 99, 97, 98]⟩] w fun e w' => e = .returned (.tuple #[.int .i64 3, .nilIface]) ∧ Below w.heap.size w w' := by
  have h := long_ok ⟨#[97, 98, 99, 98]⟩ ⟨#[98, 99, 97, 98]⟩ w (by decide) (by decide)
  have e : lcs (bs ⟨#[97, 98, 99, 98]⟩) (bs ⟨#[98, 99, 97, 98]⟩) = 3 := by decide +kernel
  rw [e] at h
  exact h
theorem within_lit (w : World) : Calls Try.prog 12 #[.string ⟨#[97, 99]⟩, .string ⟨#[97, 98, 99]⟩] w fun e w' => e = .returned (.tuple #[.bool true, .nilIface]) ∧ Below w.heap.size w w' := by
  have h := within_wi ⟨#[97, 99]⟩ ⟨#[97, 98, 99]⟩ w (by decide) (by decide)
  have e : wi ⟨#[97, 99]⟩ ⟨#[97, 98, 99]⟩ = true := by decide +kernel
  rw [e] at h
  exact h
theorem fact_any (w : World) : Calls Try.prog 10 #[] w fun e w' => e = .returned (.bool true) ∧ Below w.heap.size w w' := by
  go_enter Try.func10, Try.ntmps10
  go_wp2_with fail
  refine (of_lit _).mono ?_
  rintro e w1 ⟨rfl, hb⟩
  go_wp2_with fail
  refine (long_lit _).mono ?_
  rintro e w2 ⟨rfl, hb2⟩
  go_wp2_with fail
  refine (within_lit _).mono ?_
  rintro e w3 ⟨rfl, hb3⟩
  go_wp2_with fail
  go_ret
  exact ⟨rfl, bnext (bnext hb hb2) hb3⟩
end Go.Proofs.Ytjlgjadkcpdpmaa.Co
