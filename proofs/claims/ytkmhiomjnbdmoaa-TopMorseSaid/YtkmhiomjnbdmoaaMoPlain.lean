/-
  The word of Thue and Morse, in plain lists: its runs, and that no part is three times anything (up to 200 signs, parts up to 24).
-/
import Derived.Test.YtkmhiomjnbdmoaaRnPlain
namespace Go.Proofs.Ytkmhiomjnbdmoaa.Mo
set_option linter.unusedVariables false

def pf : Nat → Nat → Nat → Nat
  | 0, _, o => o
  | f + 1, i, o => if i = 0 then o else pf f (i / 2) ((o + i) % 2)
def par (i : Nat) : Nat := pf i i 0
def wd (i : Nat) : UInt8 := UInt8.ofNat (48 + par i)
def word (n : Nat) : List UInt8 := (List.range n).map wd
theorem word_length (n : Nat) : (word n).length = n := by simp [word]
theorem word_succ (n : Nat) : word (n + 1) = word n ++ [wd n] := by simp [word, List.range_succ]
theorem word_get {n i : Nat} (h : i < n) : (word n)[i]? = some (wd i) := by simp [word, h]
theorem pf_zero (f o : Nat) : pf f 0 o = o := by cases f <;> simp [pf]
theorem pf_step (f i o : Nat) (h : i ≤ f) (h0 : i ≠ 0) : ∃ f', i / 2 ≤ f' ∧ pf f i o = pf f' (i / 2) ((o + i) % 2) := by
  cases f with
  | zero => omega
  | succ f => exact ⟨f, by omega, by rw [pf, if_neg h0]⟩

/-! ### the closed facts -/
def runsOk (n : Nat) : Bool := (Rn.runsOf (word n)).all fun p => decide (p.2 ≤ 2)
theorem runs_all : (List.range 201).all runsOk = true := by decide +kernel
theorem runs_two {n : Nat} (h : n ≤ 200) : ∀ p ∈ Rn.runsOf (word n), p.2 ≤ 2 := by
  have := List.all_eq_true.1 runs_all n (List.mem_range.2 (by omega))
  unfold runsOk at this
  intro p hp
  exact of_decide_eq_true (List.all_eq_true.1 this p hp)
def cubeAt (i p : Nat) : Bool := (List.range (2 * p)).all fun t => par (i + t) == par (i + t + p)
theorem cubes_all : ((List.range 200).all fun i => (List.range 8).all fun p => !cubeAt i (p + 1)) = true := by decide +kernel
theorem par_lt (f i o : Nat) (h : o < 2) : pf f i o < 2 := by
  induction f generalizing i o with
  | zero => exact h
  | succ f ih =>
    rw [pf]
    split
    · exact h
    · exact ih _ _ (Nat.mod_lt _ (by decide))
theorem wd_inj {i j : Nat} (h : wd i = wd j) : par i = par j := by
  have h1 := par_lt i i 0 (by decide)
  have h2 := par_lt j j 0 (by decide)
  have := congrArg UInt8.toNat h
  unfold wd par at *
  rw [UInt8.toNat_ofNat', UInt8.toNat_ofNat'] at this
  omega
theorem no_cube {i p : Nat} (hi : i < 200) (h0 : 0 < p) (hp : p ≤ 8) : ¬ ∀ t, t < 2 * p → wd (i + t) = wd (i + t + p) := by
  intro h
  have h1 := List.all_eq_true.1 cubes_all i (List.mem_range.2 hi)
  have h2 := List.all_eq_true.1 h1 (p - 1) (List.mem_range.2 (by omega))
  rw [show p - 1 + 1 = p by omega] at h2
  have h3 : cubeAt i p = true := by
    unfold cubeAt
    rw [List.all_eq_true]
    intro t ht
    rw [beq_iff_eq]
    exact wd_inj (h t (List.mem_range.1 ht))
  rw [h3] at h2
  cases h2

/-! ### edges: k is an edge of the first m signs -/
def Edge (s : List UInt8) (m k : Nat) : Prop := k < m ∧ ∀ t, t < k → s[t]? = s[m - k + t]?
theorem edge_zero {s : List UInt8} {m : Nat} (h : 0 < m) : Edge s m 0 := ⟨h, fun t ht => by omega⟩
theorem edge_edge {s : List UInt8} {m k j : Nat} (h : Edge s m k) (h2 : Edge s k j) : Edge s m j := by
  refine ⟨by have := h.1; have := h2.1; omega, fun t ht => ?_⟩
  have a := h.1; have b := h2.1
  rw [h2.2 t ht, h.2 (k - j + t) (by omega)]
  congr 1; omega
theorem edge_succ {s : List UInt8} {m k : Nat} (h : Edge s m k) (he : s[k]? = s[m]?) : Edge s (m + 1) (k + 1) := by
  have a := h.1
  refine ⟨by omega, fun t ht => ?_⟩
  rcases Nat.lt_or_ge t k with h1 | h1
  · rw [h.2 t h1]; congr 1; omega
  · obtain rfl : t = k := by omega
    rw [he]; congr 1; omega
/-- the length of the root: a period; three of them, a cube -/
theorem root_lt {n i j k : Nat} (hj : j ≤ n) (hn : n ≤ 200) (hij : i < j) (h24 : j - i ≤ 24) (he : Edge (((word n).drop i).take (j - i)) (j - i) k) (hd : (j - i) % (j - i - k) = 0) : (j - i) / (j - i - k) < 3 := by
  apply Nat.lt_of_not_le
  intro h3
  have hk := he.1
  have hp : 0 < j - i - k := by omega
  have hm : 3 * (j - i - k) ≤ j - i := Nat.le_trans (Nat.mul_le_mul_right _ h3) (Nat.div_mul_le_self _ _)
  refine no_cube (i := i) (p := j - i - k) (by omega) hp (by omega) (fun t ht => ?_)
  have := he.2 t (by omega)
  have g : ∀ t, t < j - i → (((word n).drop i).take (j - i))[t]? = some (wd (i + t)) := by
    intro t ht
    rw [List.getElem?_take, if_pos ht, List.getElem?_drop, word_get (by omega)]
  rw [g t (by omega), g _ (by omega)] at this
  have e := Option.some.inj this
  rw [e]
  congr 1; omega
end Go.Proofs.Ytkmhiomjnbdmoaa.Mo
