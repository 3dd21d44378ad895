/-
  What package rise computes, in plain Lean: piles, rows that do not rise, rows of a shape.
-/
import Derived.Test.YtlchgjlinhakdaaBase
namespace Go.Proofs.Ytlchgjlinhakdaa.Rs
open List
set_option linter.unusedVariables false

/-- the first place whose number is not less -/
def pos (n : Int) : List Int → Nat
  | [] => 0
  | t :: l => if t < n then pos n l + 1 else 0
theorem pos_le (n : Int) (l : List Int) : pos n l ≤ l.length := by
  induction l with
  | nil => exact Nat.le_refl _
  | cons t l ih => unfold pos; split <;> simp <;> omega
theorem pos_lt {n : Int} : ∀ {l : List Int} {i : Nat} {t : Int}, i < pos n l → l[i]? = some t → t < n := by
  intro l
  induction l with
  | nil => intro i t h; simp [pos] at h
  | cons s l ih =>
    intro i t h hi
    unfold pos at h
    by_cases hs : s < n
    · rw [if_pos hs] at h
      cases i with
      | zero => simp at hi; omega
      | succ i => exact ih (show i < pos n l by omega) (by simpa using hi)
    · rw [if_neg hs] at h; omega
theorem pos_ge {n : Int} : ∀ {l : List Int} {t : Int}, l[pos n l]? = some t → n ≤ t := by
  intro l
  induction l with
  | nil => intro t h; simp at h
  | cons s l ih =>
    intro t h
    unfold pos at h
    by_cases hs : s < n
    · rw [if_pos hs] at h; exact ih (by simpa using h)
    · rw [if_neg hs] at h; simp at h; omega
/-- numbers that do not fall -/
def Asc (l : List Int) : Prop := ∀ (i j : Nat) (s t : Int), i ≤ j → l[i]? = some s → l[j]? = some t → s ≤ t
/-- numbers that rise -/
def Rises (l : List Int) : Prop := ∀ (i j : Nat) (s t : Int), i < j → l[i]? = some s → l[j]? = some t → s < t
theorem Rises.asc {l : List Int} (h : Rises l) : Asc l := by
  intro i j s t hij hs ht
  rcases Nat.lt_or_ge i j with hlt | hge
  · exact Int.le_of_lt (h i j s t hlt hs ht)
  · obtain rfl : i = j := by omega
    rw [hs] at ht
    simp at ht
    omega
/-- the place found by halves is the first one -/
theorem pos_unique {n : Int} {l : List Int} {k : Nat} (hk : k ≤ l.length) (h1 : ∀ i t, i < k → l[i]? = some t → t < n) (h2 : ∀ i t, k ≤ i → l[i]? = some t → n ≤ t) : k = pos n l := by
  rcases Nat.lt_trichotomy k (pos n l) with h | h | h
  · have hlt : k < l.length := Nat.lt_of_lt_of_le h (pos_le n l)
    have := pos_lt h (List.getElem?_eq_getElem hlt)
    have := h2 k _ (Nat.le_refl _) (List.getElem?_eq_getElem hlt)
    omega
  · exact h
  · have hlt : pos n l < l.length := by omega
    have := pos_ge (n := n) (List.getElem?_eq_getElem hlt)
    have := h1 _ _ h (List.getElem?_eq_getElem hlt)
    omega
theorem Asc.tail {n : Int} {l : List Int} (h : Asc l) {i : Nat} {t : Int} (hi : pos n l ≤ i) (ht : l[i]? = some t) : n ≤ t := by
  have hlt : pos n l < l.length := by have := (List.getElem?_eq_some_iff.1 ht).1; omega
  have h1 := pos_ge (n := n) (List.getElem?_eq_getElem hlt)
  have := h _ _ _ _ hi (List.getElem?_eq_getElem hlt) ht
  omega

/-! ### piles -/
def put (n : Int) (l : List Int) : List Int := if pos n l = l.length then l ++ [n] else l.set (pos n l) n
def piles (l : List Int) : List Int := l.foldl (fun t n => put n t) []
theorem piles_snoc (l : List Int) (n : Int) : piles (l ++ [n]) = put n (piles l) := by simp [piles]
theorem put_length (n : Int) (l : List Int) : (put n l).length = if pos n l = l.length then l.length + 1 else l.length := by
  unfold put; split <;> simp
theorem put_get (n : Int) (l : List Int) (i : Nat) : (put n l)[i]? = if i = pos n l then some n else l[i]? := by
  unfold put
  by_cases h : pos n l = l.length
  · rw [if_pos h]
    by_cases hi : i = pos n l
    · rw [if_pos hi, hi, h]; simp
    · rw [if_neg hi]
      rcases Nat.lt_or_ge i l.length with hlt | hge
      · rw [List.getElem?_append_left hlt]
      · rw [List.getElem?_eq_none (by simp; omega), List.getElem?_eq_none hge]
  · have := pos_le n l
    rw [if_neg h]
    by_cases hi : i = pos n l
    · rw [if_pos hi, hi, List.getElem?_set_self (by omega)]
    · rw [if_neg hi, List.getElem?_set_ne (fun e => hi e.symm)]
theorem put_rises {n : Int} {l : List Int} (h : Rises l) : Rises (put n l) := by
  intro i j s t hij hs ht
  rw [put_get] at hs ht
  by_cases hi : i = pos n l
  · rw [if_pos hi] at hs
    rw [if_neg (by omega)] at ht
    simp at hs
    have hlt : pos n l < l.length := by have := (List.getElem?_eq_some_iff.1 ht).1; omega
    have h1 := pos_ge (n := n) (List.getElem?_eq_getElem hlt)
    have := h (pos n l) j _ _ (by omega) (List.getElem?_eq_getElem hlt) ht
    omega
  · rw [if_neg hi] at hs
    by_cases hj : j = pos n l
    · rw [if_pos hj] at ht
      simp at ht
      have := pos_lt (n := n) (by omega : i < pos n l) hs
      omega
    · rw [if_neg hj] at ht
      exact h i j s t hij hs ht
theorem piles_rises (l : List Int) : Rises (piles l) := by
  have : ∀ (m : List Int) (t : List Int), Rises t → Rises (m.foldl (fun t n => put n t) t) := by
    intro m
    induction m with
    | nil => intro t h; exact h
    | cons n m ih => intro t h; exact ih _ (put_rises h)
  exact this l [] (by intro i j s t _ h; simp at h)
theorem put_len_le (n : Int) (l : List Int) : (put n l).length ≤ l.length + 1 := by rw [put_length]; split <;> omega
theorem piles_le (l : List Int) : (piles l).length ≤ l.length := by
  have : ∀ (m : List Int) (t : List Int), (m.foldl (fun t n => put n t) t).length ≤ t.length + m.length := by
    intro m
    induction m with
    | nil => intro t; simp
    | cons n m ih =>
      intro t
      have := ih (put n t)
      have := put_len_le n t
      simp only [List.foldl_cons, List.length_cons]
      omega
  have := this l []
  simp only [List.length_nil, Nat.zero_add] at this
  exact this
end Go.Proofs.Ytlchgjlinhakdaa.Rs
