/-
  Runs of a text, in plain lists: what the loop of Write comes to, that expanding brings the text back, that the runs are the only ones; joining and turning. No program in sight, no condition.
-/
import Derived.Test.YtfjjjkfldekooaaBase
namespace Go.Proofs.Ytfjjjkfldekooaa.Rn
open List
set_option linter.unusedVariables false

abbrev R := UInt8 × Nat
def cons1 (c : UInt8) : List R → List R
  | [] => [(c, 1)]
  | (d, n) :: l => if c = d then (d, n + 1) :: l else (c, 1) :: (d, n) :: l
def runsOf : List UInt8 → List R
  | [] => []
  | c :: s => cons1 c (runsOf s)
theorem cons1_cons (c d : UInt8) (n : Nat) (l : List R) : cons1 c ((d, n) :: l) = if c = d then (d, n + 1) :: l else (c, 1) :: (d, n) :: l := rfl
def push : List R → UInt8 → List R
  | [], c => [(c, 1)]
  | [(d, n)], c => if d = c then [(d, n + 1)] else [(d, n), (c, 1)]
  | p :: q :: l, c => p :: push (q :: l) c
theorem push_cons1 (d c : UInt8) : ∀ (l : List R), cons1 d (push l c) = push (cons1 d l) c
  | [] => by
    by_cases h : d = c
    · subst h; simp [cons1, push]
    · simp [cons1, push, h]
  | [(e, n)] => by
    by_cases h : e = c <;> by_cases h2 : d = e
    · subst h; subst h2; simp [cons1, push]
    · subst h; simp [cons1, push, h2]
    · subst h2; simp [cons1, push, h]
    · simp [cons1, push, h, h2]
  | (e, n) :: q :: l => by
    by_cases h2 : d = e
    · simp [cons1, push, h2]
    · simp [cons1, push, h2]
theorem runsOf_snoc (s : List UInt8) (c : UInt8) : runsOf (s ++ [c]) = push (runsOf s) c := by
  induction s with
  | nil => rfl
  | cons d s ih => rw [List.cons_append, runsOf, ih, push_cons1]; rfl
theorem push_snoc (d : UInt8) (n : Nat) (c : UInt8) : ∀ (l : List R), push (l ++ [(d, n)]) c = if d = c then l ++ [(d, n + 1)] else l ++ [(d, n), (c, 1)]
  | [] => by simp [push]
  | [p] => by
    have := push_snoc d n c []
    simp only [List.nil_append] at this
    show p :: push [(d, n)] c = _
    rw [this]; split <;> rfl
  | p :: q :: l => by
    have := push_snoc d n c (q :: l)
    simp only [List.cons_append] at this ⊢
    rw [push, this]; split <;> rfl
def expand (l : List R) : List UInt8 := l.flatMap fun p => List.replicate p.2 p.1
theorem expand_cons (p : R) (l : List R) : expand (p :: l) = List.replicate p.2 p.1 ++ expand l := by simp [expand]
theorem expand_append (a b : List R) : expand (a ++ b) = expand a ++ expand b := by simp [expand]
def Good : List R → Prop
  | [] => True
  | [p] => 1 ≤ p.2
  | p :: q :: l => 1 ≤ p.2 ∧ p.1 ≠ q.1 ∧ Good (q :: l)
theorem Good.head {p : R} {l : List R} (h : Good (p :: l)) : 1 ≤ p.2 := by
  cases l with
  | nil => exact h
  | cons q l => exact h.1
theorem Good.tail {p : R} {l : List R} (h : Good (p :: l)) : Good l := by
  cases l with
  | nil => trivial
  | cons q l => exact h.2.2
theorem good_cons1 (c : UInt8) : ∀ (l : List R), Good l → Good (cons1 c l)
  | [], _ => Nat.le_refl 1
  | (d, n) :: l, h => by
    rw [cons1_cons]
    by_cases hc : c = d
    · rw [if_pos hc]
      cases l with
      | nil => exact Nat.le_add_left 1 n
      | cons q l => exact ⟨Nat.le_add_left 1 n, h.2.1, h.2.2⟩
    · rw [if_neg hc]; exact ⟨Nat.le_refl 1, hc, h⟩
theorem good_runsOf (s : List UInt8) : Good (runsOf s) := by
  induction s with
  | nil => trivial
  | cons c s ih => exact good_cons1 c _ ih
theorem expand_cons1 (c : UInt8) : ∀ (l : List R), expand (cons1 c l) = c :: expand l
  | [] => rfl
  | (d, n) :: l => by
    rw [cons1_cons]
    by_cases hc : c = d
    · rw [if_pos hc, expand_cons, expand_cons, hc]; simp [List.replicate_succ]
    · rw [if_neg hc, expand_cons]; simp
theorem expand_runsOf (s : List UInt8) : expand (runsOf s) = s := by
  induction s with
  | nil => rfl
  | cons c s ih => rw [runsOf, expand_cons1, ih]
theorem cons1_rep (c : UInt8) (t : List UInt8) (hne : ∀ p, (runsOf t).head? = some p → c ≠ p.1) : ∀ k, runsOf (List.replicate (k + 1) c ++ t) = (c, k + 1) :: runsOf t := by
  intro k
  induction k with
  | zero =>
    show cons1 c (runsOf t) = _
    cases h : runsOf t with
    | nil => rfl
    | cons p l =>
      obtain ⟨d, n⟩ := p
      have := hne (d, n) (by rw [h]; rfl)
      simp only at this
      rw [cons1_cons]
      rw [if_neg this]
  | succ k ih =>
    rw [List.replicate_succ, List.cons_append]
    show cons1 c _ = _
    rw [ih]
    rw [cons1_cons]
    rw [if_pos rfl]
theorem runsOf_expand : ∀ (l : List R), Good l → runsOf (expand l) = l
  | [], _ => rfl
  | (c, n) :: l, h => by
    have ih := runsOf_expand l h.tail
    have h1 := h.head
    obtain ⟨k, rfl⟩ : ∃ k, n = k + 1 := ⟨n - 1, by simp only at h1; omega⟩
    rw [expand_cons]
    show runsOf (List.replicate (k + 1) c ++ expand l) = _
    rw [cons1_rep c (expand l) ?_ k, ih]
    rw [ih]
    intro p hp
    cases l with
    | nil => simp at hp
    | cons q l => simp at hp; subst hp; exact h.2.1
theorem push_reverse (c : UInt8) : ∀ (l : List R), push l.reverse c = (cons1 c l).reverse
  | [] => rfl
  | (d, n) :: l => by
    rw [List.reverse_cons, push_snoc]
    rw [cons1_cons]
    by_cases hc : c = d
    · rw [if_pos hc, if_pos hc.symm, List.reverse_cons]
    · rw [if_neg hc, if_neg (fun e => hc e.symm), List.reverse_cons, List.reverse_cons, List.append_assoc]; rfl
theorem runsOf_reverse (s : List UInt8) : runsOf s.reverse = (runsOf s).reverse := by
  induction s with
  | nil => rfl
  | cons c s ih => rw [List.reverse_cons, runsOf_snoc, ih, push_reverse]; rfl
def total (l : List R) : Nat := (l.map (·.2)).sum
theorem expand_length (l : List R) : (expand l).length = total l := by
  induction l with
  | nil => rfl
  | cons p l ih => rw [expand_cons, List.length_append, ih, List.length_replicate]; simp [total]
theorem total_runsOf (s : List UInt8) : total (runsOf s) = s.length := by rw [← expand_length, expand_runsOf]
theorem le_total {l : List R} {p : R} (h : p ∈ l) : p.2 ≤ total l := by
  induction l with
  | nil => simp at h
  | cons q l ih =>
    have e : total (q :: l) = q.2 + total l := by simp [total]
    rw [e]
    rcases List.mem_cons.1 h with rfl | h
    · omega
    · have := ih h; omega
theorem Good.all : ∀ {l : List R}, Good l → ∀ p ∈ l, 1 ≤ p.2 := by
  intro l
  induction l with
  | nil => intro _ p h; simp at h
  | cons q l ih =>
    intro h p hp
    rcases List.mem_cons.1 hp with rfl | hp
    · exact h.head
    · exact ih h.tail p hp
theorem Good.length_le {l : List R} (h : Good l) : l.length ≤ total l := by
  induction l with
  | nil => exact Nat.le_refl _
  | cons q l ih =>
    have e : total (q :: l) = q.2 + total l := by simp [total]
    have := ih h.tail
    have := h.head
    rw [e, List.length_cons]; omega
theorem runsOf_length_le (s : List UInt8) : (runsOf s).length ≤ s.length := by
  have := (good_runsOf s).length_le
  rwa [total_runsOf] at this
/-! ### joining -/
theorem cons1_length (c : UInt8) (l : List R) : (cons1 c l).length = (if (l.head?.map (·.1)) = some c then 0 else 1) + l.length := by
  cases l with
  | nil => rfl
  | cons p l =>
    obtain ⟨d, n⟩ := p
    rw [cons1_cons]
    by_cases hc : c = d
    · simp [hc]
    · have : ¬ d = c := fun e => hc e.symm
      simp [hc, this]; omega
theorem runsOf_head (s : List UInt8) : (runsOf s).head?.map (·.1) = s.head? := by
  cases s with
  | nil => rfl
  | cons c s =>
    rw [runsOf]
    cases runsOf s with
    | nil => rfl
    | cons p l =>
      obtain ⟨d, n⟩ := p
      rw [cons1_cons]
      by_cases hc : c = d
      · simp [hc]
      · simp [hc]
theorem runsOf_cons_length (c : UInt8) (s : List UInt8) : (runsOf (c :: s)).length = (if s.head? = some c then 0 else 1) + (runsOf s).length := by
  rw [runsOf, cons1_length, runsOf_head]
theorem join_length : ∀ (a b : List UInt8), (runsOf (a ++ b)).length + (if a ≠ [] ∧ b ≠ [] ∧ a.getLast? = b.head? then 1 else 0) = (runsOf a).length + (runsOf b).length
  | [], b => by simp [runsOf]
  | [c], b => by
    rw [List.singleton_append, runsOf_cons_length]
    cases b with
    | nil => simp [runsOf, cons1]
    | cons d b =>
      by_cases h : d = c
      · subst h; simp [runsOf, cons1]; omega
      · have h' : ¬ c = d := fun e => h e.symm
        simp [runsOf, cons1, h, h']
  | c :: d :: a, b => by
    have ih := join_length (d :: a) b
    rw [List.cons_append, runsOf_cons_length, runsOf_cons_length]
    have e1 : (d :: a ++ b).head? = some d := rfl
    have e2 : (d :: a).head? = some d := rfl
    have e3 : (c :: d :: a).getLast? = (d :: a).getLast? := by simp [List.getLast?_cons_cons]
    rw [e1, e2, e3]
    simp only [ne_eq, reduceCtorEq, not_false_eq_true, true_and] at ih ⊢
    omega
/-! ### Read -/
abbrev Z := UInt8 × Int
def toN (l : List Z) : List R := l.map fun p => (p.1, p.2.toNat)
def ofN (l : List R) : List Z := l.map fun p => (p.1, (p.2 : Int))
theorem toN_ofN (l : List R) : toN (ofN l) = l := by simp [toN, ofN, Function.comp_def]
def rd : Option UInt8 → List UInt8 → List Z → List UInt8 × Int
  | _, out, [] => (out, 0)
  | prev, out, (c, n) :: l =>
    if ¬ (1 ≤ n ∧ n ≤ 1000) then ([], 1)
    else if prev = some c then ([], 6)
    else if 1000 < (out.length : Int) + n then ([], 4)
    else rd (some c) (out ++ List.replicate n.toNat c) l
theorem rd_ok : ∀ (l : List Z) (prev : Option UInt8) (out : List UInt8), (rd prev out l).2 = 0 → out.length ≤ 1000 →
    (rd prev out l).1 = out ++ expand (toN l) ∧ Good (toN l) ∧ ofN (toN l) = l ∧ (∀ p, l.head? = some p → prev ≠ some p.1) ∧ (rd prev out l).1.length ≤ 1000
  | [], prev, out, h, ho => ⟨by simp [rd, toN, expand], trivial, rfl, by simp, by simpa [rd] using ho⟩
  | (c, n) :: l, prev, out, h, ho => by
    unfold rd at h ⊢
    by_cases h1 : ¬ (1 ≤ n ∧ n ≤ 1000)
    · rw [if_pos h1] at h; simp at h
    rw [if_neg h1] at h ⊢
    by_cases h2 : prev = some c
    · rw [if_pos h2] at h; simp at h
    rw [if_neg h2] at h ⊢
    by_cases h3 : 1000 < (out.length : Int) + n
    · rw [if_pos h3] at h; simp at h
    rw [if_neg h3] at h ⊢
    obtain ⟨e1, e2, e3, e4, e5⟩ := rd_ok l (some c) _ h (by rw [List.length_append, List.length_replicate]; omega)
    refine ⟨?_, ?_, ?_, ?_, e5⟩
    · rw [e1, List.append_assoc]
      congr 1
    · show Good ((c, n.toNat) :: toN l)
      cases l with
      | nil => show 1 ≤ n.toNat; omega
      | cons q l => exact ⟨by show 1 ≤ n.toNat; omega, fun e => e4 q rfl (by rw [show c = q.1 from e]), e2⟩
    · show (c, (n.toNat : Int)) :: ofN (toN l) = _
      rw [e3, show (n.toNat : Int) = n by omega]
    · intro p hp
      simp at hp
      subst hp
      exact h2
theorem rd_bad : ∀ (l : List Z) (prev : Option UInt8) (out : List UInt8), (rd prev out l).2 ≠ 0 → (rd prev out l).1 = []
  | [], prev, out, h => absurd rfl h
  | (c, n) :: l, prev, out, h => by
    unfold rd at h ⊢
    by_cases h1 : ¬ (1 ≤ n ∧ n ≤ 1000)
    · rw [if_pos h1]
    rw [if_neg h1] at h ⊢
    by_cases h2 : prev = some c
    · rw [if_pos h2]
    rw [if_neg h2] at h ⊢
    by_cases h3 : 1000 < (out.length : Int) + n
    · rw [if_pos h3]
    rw [if_neg h3] at h ⊢
    exact rd_bad l _ _ h
theorem rd_good : ∀ (l : List R) (prev : Option UInt8) (out : List UInt8), Good l → (∀ p, l.head? = some p → prev ≠ some p.1) → out.length + total l ≤ 1000 → rd prev out (ofN l) = (out ++ expand l, 0)
  | [], prev, out, _, _, _ => by simp [rd, ofN, expand]
  | (c, n) :: l, prev, out, hg, hp, ht => by
    have e : total ((c, n) :: l) = n + total l := by simp [total]
    have h1 := hg.head
    simp only at h1
    rw [e] at ht
    show rd prev out ((c, (n : Int)) :: ofN l) = _
    unfold rd
    rw [if_neg (by omega), if_neg (hp (c, n) rfl), if_neg (by omega), Int.toNat_natCast]
    rw [rd_good l (some c) _ hg.tail ?_ (by rw [List.length_append, List.length_replicate]; omega)]
    · rw [expand_cons, List.append_assoc]
    · intro p hp' e2
      cases l with
      | nil => simp at hp'
      | cons q l => simp at hp'; subst hp'; exact hg.2.1 (Option.some.inj e2)
theorem read_runs (s : List UInt8) (h : s.length ≤ 1000) : rd none [] (ofN (runsOf s)) = (s, 0) := by
  rw [rd_good _ none [] (good_runsOf s) (by simp) (by rw [total_runsOf]; simpa using h), expand_runsOf]; rfl
theorem runs_read (l : List Z) (h : (rd none [] l).2 = 0) : ofN (runsOf (rd none [] l).1) = l ∧ (rd none [] l).1.length ≤ 1000 := by
  obtain ⟨e1, e2, e3, _, e5⟩ := rd_ok l none [] h (by simp)
  refine ⟨?_, e5⟩
  rw [e1, List.nil_append, runsOf_expand _ e2, e3]
end Go.Proofs.Ytfjjjkfldekooaa.Rn
