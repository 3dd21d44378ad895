/-
  What rise.Fall computes, in plain Lean.
-/
import Derived.Test.YtlchgjlinhakdaaRsPlain
namespace Go.Proofs.Ytlchgjlinhakdaa.Rs
open List
set_option linter.unusedVariables false

theorem snocInd {α : Type} {P : List α → Prop} (h0 : P []) (h1 : ∀ l x, P l → P (l ++ [x])) (l : List α) : P l := by
  have : ∀ m : List α, P m.reverse := by
    intro m
    induction m with
    | nil => exact h0
    | cons x m ih => rw [List.reverse_cons]; exact h1 _ _ ih
  simpa using this l.reverse
def best (n : Int) (ps : List (Int × Nat)) : Nat := ps.foldl (fun m p => if n ≤ p.1 then max m p.2 else m) 0
def falls (l : List Int) : List (Int × Nat) := l.foldl (fun ps n => ps ++ [(n, best n ps + 1)]) []
def fall (l : List Int) : Nat := (falls l).foldl (fun m p => max m p.2) 0
theorem falls_snoc (l : List Int) (n : Int) : falls (l ++ [n]) = falls l ++ [(n, best n (falls l) + 1)] := by simp [falls]
theorem best_snoc (n : Int) (ps : List (Int × Nat)) (p : Int × Nat) : best n (ps ++ [p]) = if n ≤ p.1 then max (best n ps) p.2 else best n ps := by simp [best]
theorem fall_snoc (l : List Int) (n : Int) : fall (l ++ [n]) = max (fall l) (best n (falls l) + 1) := by simp [fall, falls_snoc]
theorem falls_length (l : List Int) : (falls l).length = l.length := by
  refine snocInd (P := fun l => (falls l).length = l.length) rfl ?_ l
  intro l n ih
  rw [falls_snoc]; simp [ih]
theorem falls_append (a b : List Int) : ∃ s, falls (a ++ b) = falls a ++ s := by
  refine snocInd (P := fun b => ∃ s, falls (a ++ b) = falls a ++ s) ⟨[], by simp⟩ ?_ b
  rintro b n ⟨s, hs⟩
  exact ⟨s ++ [(n, best n (falls (a ++ b)) + 1)], by rw [← List.append_assoc, falls_snoc, hs, List.append_assoc]⟩
theorem falls_take (l : List Int) (k : Nat) : falls (l.take k) = (falls l).take k := by
  obtain ⟨s, hs⟩ := falls_append (l.take k) (l.drop k)
  rw [List.take_append_drop] at hs
  rcases Nat.lt_or_ge k l.length with h | h
  · have hl : (falls (l.take k)).length = k := by rw [falls_length, List.length_take]; omega
    have : (falls l).take k = falls (l.take k) := by rw [hs, List.take_append_of_le_length (by omega), List.take_of_length_le (by omega)]
    exact this.symm
  · rw [List.take_of_length_le h, List.take_of_length_le (by rw [falls_length]; exact h)]
theorem falls_get {l : List Int} {k : Nat} {n : Int} (h : l[k]? = some n) : (falls l)[k]? = some (n, best n ((falls l).take k) + 1) := by
  have hk : k < l.length := (List.getElem?_eq_some_iff.1 h).1
  have e : l.take (k + 1) = l.take k ++ [n] := by rw [List.take_add_one, h]; rfl
  have h1 := falls_take l (k + 1)
  rw [e, falls_snoc, falls_take] at h1
  have h2 : ((falls l).take (k + 1))[k]? = (falls l)[k]? := List.getElem?_take_of_lt (by omega)
  rw [← h2, ← h1, List.getElem?_append_right (by rw [List.length_take, falls_length]; omega)]
  rw [show k - ((falls l).take k).length = 0 by rw [List.length_take, falls_length]; omega]
  rfl
theorem best_le {n : Int} {ps : List (Int × Nat)} {B : Nat} (h : ∀ p ∈ ps, p.2 ≤ B) : best n ps ≤ B := by
  refine snocInd (P := fun ps => (∀ p ∈ ps, p.2 ≤ B) → best n ps ≤ B) (fun _ => Nat.zero_le _) ?_ ps h
  intro ps p ih h
  have h1 := ih fun q hq => h q (by simp [hq])
  have h2 := h p (by simp)
  rw [best_snoc]
  split <;> omega
theorem falls_le (l : List Int) : ∀ p ∈ falls l, p.2 ≤ l.length := by
  refine snocInd (P := fun l => ∀ p ∈ falls l, p.2 ≤ l.length) (by simp [falls]) ?_ l
  intro l n ih p hp
  rw [falls_snoc] at hp
  simp only [List.mem_append, List.mem_singleton] at hp
  rw [List.length_append, List.length_singleton]
  rcases hp with hp | rfl
  · have := ih p hp; omega
  · have := best_le (n := n) ih; show best n (falls l) + 1 ≤ _; omega
theorem fall_le (l : List Int) : fall l ≤ l.length := by
  refine snocInd (P := fun l => fall l ≤ l.length) (Nat.zero_le _) ?_ l
  intro l n ih
  rw [fall_snoc, List.length_append, List.length_singleton]
  have := best_le (n := n) (falls_le l)
  omega
/-- the row while place k is being found -/
def mrow (F : List (Int × Nat)) (k : Nat) : List Int := (F.take k).map (fun p => (p.2 : Int)) ++ List.replicate (F.length - k) 0
theorem mrow_length (F : List (Int × Nat)) {k : Nat} (h : k ≤ F.length) : (mrow F k).length = F.length := by simp [mrow]; omega
theorem mrow_zero (F : List (Int × Nat)) : mrow F 0 = List.replicate F.length 0 := by simp [mrow]
theorem mrow_all (F : List (Int × Nat)) : mrow F F.length = F.map (fun p => (p.2 : Int)) := by simp [mrow]
theorem mrow_lt {F : List (Int × Nat)} {k j : Nat} {p : Int × Nat} (h : j < k) (hj : F[j]? = some p) : (mrow F k)[j]? = some (p.2 : Int) := by
  have hl : j < F.length := (List.getElem?_eq_some_iff.1 hj).1
  unfold mrow
  rw [List.getElem?_append_left (by simp; omega), List.getElem?_map, List.getElem?_take_of_lt h, hj]
  rfl
theorem mrow_at {F : List (Int × Nat)} {k : Nat} (h : k < F.length) : (mrow F k)[k]? = some 0 := by
  unfold mrow
  rw [List.getElem?_append_right (by simp; omega), List.getElem?_replicate, if_pos (by simp; omega)]
theorem mrow_set0 {F : List (Int × Nat)} {k : Nat} (h : k < F.length) : (mrow F k).set k 0 = mrow F k := by
  apply List.ext_getElem?
  intro i
  by_cases hi : i = k
  · subst hi
    rw [List.getElem?_set_self (by rw [mrow_length F (by omega)]; exact h), mrow_at h]
  · rw [List.getElem?_set_ne (fun e => hi e.symm)]
theorem mrow_next {F : List (Int × Nat)} {k : Nat} {p : Int × Nat} (h : F[k]? = some p) : (mrow F k).set k (p.2 : Int) = mrow F (k + 1) := by
  have hl : k < F.length := (List.getElem?_eq_some_iff.1 h).1
  apply List.ext_getElem?
  intro i
  by_cases hi : i = k
  · subst hi
    rw [List.getElem?_set_self (by rw [mrow_length F (by omega)]; exact hl), mrow_lt (by omega) h]
  · rw [List.getElem?_set_ne (fun e => hi e.symm)]
    rcases Nat.lt_or_ge i F.length with hlt | hge
    · rcases Nat.lt_or_ge i k with h1 | h1
      · rw [mrow_lt h1 (List.getElem?_eq_getElem hlt), mrow_lt (by omega) (List.getElem?_eq_getElem hlt)]
      · unfold mrow
        rw [List.getElem?_append_right (by simp; omega), List.getElem?_append_right (by simp; omega), List.getElem?_replicate, List.getElem?_replicate, if_pos (by simp; omega), if_pos (by simp; omega)]
    · rw [List.getElem?_eq_none (by rw [mrow_length F (by omega)]; exact hge), List.getElem?_eq_none (by rw [mrow_length F (by omega)]; exact hge)]
theorem set_set' {α : Type} (l : List α) (k : Nat) (a b : α) : (l.set k a).set k b = l.set k b := by simp

/-- the greatest number -/
def mx : List Int → Int
  | [] => 0
  | x :: r => r.foldl (fun m y => if m < y then y else m) x
theorem mx_snoc (l : List Int) (y : Int) (h : l ≠ []) : mx (l ++ [y]) = if mx l < y then y else mx l := by
  cases l with
  | nil => exact absurd rfl h
  | cons x r => show (r ++ [y]).foldl _ x = _; rw [List.foldl_append]; rfl
theorem mx_cast : ∀ (r : List Nat) (x : Nat), (r.map (fun (n : Nat) => (n : Int))).foldl (fun m y => if m < y then y else m) (x : Int) = ((r.foldl max x : Nat) : Int) := by
  intro r
  induction r with
  | nil => intro x; rfl
  | cons y r ih =>
    intro x
    simp only [List.map_cons, List.foldl_cons]
    rw [← ih (max x y)]
    congr 1
    split <;> omega
theorem mx_fall (l : List Int) : mx ((falls l).map (fun p => (p.2 : Int)) ++ [0]) = (fall l : Int) := by
  have e : (falls l).map (fun p => (p.2 : Int)) = ((falls l).map Prod.snd).map (fun (n : Nat) => (n : Int)) := by simp
  have f : fall l = ((falls l).map Prod.snd).foldl max 0 := by unfold fall; rw [List.foldl_map]
  rw [e, f]
  generalize (falls l).map Prod.snd = m
  cases m with
  | nil => rfl
  | cons x r =>
    rw [mx_snoc _ _ (by simp)]
    have h : mx ((x :: r).map (fun (n : Nat) => (n : Int))) = ((r.foldl max x : Nat) : Int) := mx_cast r x
    rw [h, if_neg (by omega)]
    simp
end Go.Proofs.Ytlchgjlinhakdaa.Rs
