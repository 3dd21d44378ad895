/-
  Edit distance in plain lists: the recursion is the least number of changes; it is a metric; what both begin or end with makes nothing. No program in sight, no condition.
-/
namespace Go.Proofs.YtjlgjadkcpdpmaaDoor.Ed

/-- a row of the table: f is the row behind it -/
def levRow (f : List UInt8 → Nat) (n : Nat) (x : UInt8) : List UInt8 → Nat
  | [] => n
  | y :: b => if x = y then f b else 1 + min (f b) (min (levRow f n x b) (f (y :: b)))
/-- how far two texts are -/
def lev : List UInt8 → List UInt8 → Nat
  | [] => fun b => b.length
  | x :: a => levRow (lev a) (a.length + 1) x

theorem lev_nil (b : List UInt8) : lev [] b = b.length := rfl
theorem lev_nil_right (a : List UInt8) : lev a [] = a.length := by cases a <;> rfl
theorem lev_cons (x y : UInt8) (a b : List UInt8) : lev (x :: a) (y :: b) = if x = y then lev a b else 1 + min (lev a b) (min (lev (x :: a) b) (lev a (y :: b))) := rfl
theorem lev_same (x : UInt8) (a b : List UInt8) : lev (x :: a) (x :: b) = lev a b := by rw [lev_cons, if_pos rfl]

/-- one byte more makes one more, at most; one less too -/
theorem lev_near : ∀ (n : Nat) (a b : List UInt8), a.length + b.length ≤ n →
    (∀ y, lev a (y :: b) ≤ lev a b + 1 ∧ lev a b ≤ lev a (y :: b) + 1) ∧ (∀ x, lev (x :: a) b ≤ lev a b + 1 ∧ lev a b ≤ lev (x :: a) b + 1) := by
  intro n
  induction n with
  | zero =>
    intro a b h
    have ha : a = [] := List.eq_nil_of_length_eq_zero (by omega)
    have hb : b = [] := List.eq_nil_of_length_eq_zero (by omega)
    subst ha; subst hb
    simp [lev, levRow]
  | succ n ih =>
    intro a b h
    constructor
    · intro y
      cases a with
      | nil => simp [lev]; omega
      | cons x a =>
        rw [lev_cons]
        have h1 := (ih a b (by simp at h; omega)).2 x
        by_cases e : x = y
        · rw [if_pos e]; omega
        · rw [if_neg e]
          have h2 := (ih a b (by simp at h; omega)).1 y
          omega
    · intro x
      cases b with
      | nil => simp [lev_nil_right]; omega
      | cons y b =>
        rw [lev_cons]
        have h1 := (ih a b (by simp at h; omega)).1 y
        by_cases e : x = y
        · rw [if_pos e]; omega
        · rw [if_neg e]
          have h2 := (ih a b (by simp at h; omega)).2 x
          omega
theorem lev_ins (a b : List UInt8) (y : UInt8) : lev a (y :: b) ≤ lev a b + 1 ∧ lev a b ≤ lev a (y :: b) + 1 := (lev_near _ a b (Nat.le_refl _)).1 y
theorem lev_del (a b : List UInt8) (x : UInt8) : lev (x :: a) b ≤ lev a b + 1 ∧ lev a b ≤ lev (x :: a) b + 1 := (lev_near _ a b (Nat.le_refl _)).2 x

/-- n changes lead from one text to the other one: the least relation that has these five ways -/
def Edit (a b : List UInt8) (n : Nat) : Prop :=
  ∀ P : List UInt8 → List UInt8 → Nat → Prop, P [] [] 0 → (∀ x a b n, P a b n → P (x :: a) (x :: b) n) → (∀ x y a b n, P a b n → P (x :: a) (y :: b) (n + 1)) →
    (∀ y a b n, P a b n → P a (y :: b) (n + 1)) → (∀ x a b n, P a b n → P (x :: a) b (n + 1)) → P a b n
theorem Edit.nil : Edit [] [] 0 := fun _ h _ _ _ _ => h
theorem Edit.keep {a b : List UInt8} {n : Nat} (x : UInt8) (h : Edit a b n) : Edit (x :: a) (x :: b) n := fun P h1 h2 h3 h4 h5 => h2 x a b n (h P h1 h2 h3 h4 h5)
theorem Edit.sub {a b : List UInt8} {n : Nat} (x y : UInt8) (h : Edit a b n) : Edit (x :: a) (y :: b) (n + 1) := fun P h1 h2 h3 h4 h5 => h3 x y a b n (h P h1 h2 h3 h4 h5)
theorem Edit.ins {a b : List UInt8} {n : Nat} (y : UInt8) (h : Edit a b n) : Edit a (y :: b) (n + 1) := fun P h1 h2 h3 h4 h5 => h4 y a b n (h P h1 h2 h3 h4 h5)
theorem Edit.del {a b : List UInt8} {n : Nat} (x : UInt8) (h : Edit a b n) : Edit (x :: a) b (n + 1) := fun P h1 h2 h3 h4 h5 => h5 x a b n (h P h1 h2 h3 h4 h5)
theorem Edit.ind {P : List UInt8 → List UInt8 → Nat → Prop} (h1 : P [] [] 0) (h2 : ∀ x a b n, Edit a b n → P a b n → P (x :: a) (x :: b) n)
    (h3 : ∀ x y a b n, Edit a b n → P a b n → P (x :: a) (y :: b) (n + 1)) (h4 : ∀ y a b n, Edit a b n → P a b n → P a (y :: b) (n + 1)) (h5 : ∀ x a b n, Edit a b n → P a b n → P (x :: a) b (n + 1))
    {a b : List UInt8} {n : Nat} (h : Edit a b n) : P a b n := by
  refine (h (fun a b n => Edit a b n ∧ P a b n) ⟨.nil, h1⟩ ?_ ?_ ?_ ?_).2
  · intro x a b n ⟨e, p⟩; exact ⟨e.keep x, h2 x a b n e p⟩
  · intro x y a b n ⟨e, p⟩; exact ⟨e.sub x y, h3 x y a b n e p⟩
  · intro y a b n ⟨e, p⟩; exact ⟨e.ins y, h4 y a b n e p⟩
  · intro x a b n ⟨e, p⟩; exact ⟨e.del x, h5 x a b n e p⟩

theorem lev_le {a b : List UInt8} {n : Nat} (h : Edit a b n) : lev a b ≤ n := by
  refine Edit.ind (P := fun a b n => lev a b ≤ n) ?_ ?_ ?_ ?_ ?_ h
  · simp [lev]
  · intro x a b n _ ih; rw [lev_same]; exact ih
  · intro x y a b n _ ih
    rw [lev_cons]
    split <;> omega
  · intro y a b n _ ih; have := (lev_ins a b y).1; omega
  · intro x a b n _ ih; have := (lev_del a b x).1; omega
theorem edit_left : ∀ a : List UInt8, Edit a [] a.length
  | [] => .nil
  | x :: a => .del x (edit_left a)
theorem edit_right : ∀ b : List UInt8, Edit [] b b.length
  | [] => .nil
  | y :: b => .ins y (edit_right b)
theorem edit_lev : ∀ (n : Nat) (a b : List UInt8), a.length + b.length ≤ n → Edit a b (lev a b) := by
  intro n
  induction n with
  | zero =>
    intro a b h
    have ha : a = [] := List.eq_nil_of_length_eq_zero (by omega)
    have hb : b = [] := List.eq_nil_of_length_eq_zero (by omega)
    subst ha; subst hb
    exact .nil
  | succ n ih =>
    intro a b h
    cases a with
    | nil => exact edit_right b
    | cons x a =>
      cases b with
      | nil => rw [lev_nil_right]; exact edit_left _
      | cons y b =>
        rw [lev_cons]
        simp at h
        by_cases e : x = y
        · rw [if_pos e, e]; exact .keep y (ih a b (by omega))
        · rw [if_neg e]
          have h1 := Edit.sub x y (ih a b (by omega))
          have h2 := Edit.ins y (ih (x :: a) b (by simp; omega))
          have h3 := Edit.del x (ih a (y :: b) (by simp; omega))
          have hm : 1 + min (lev a b) (min (lev (x :: a) b) (lev a (y :: b))) = lev a b + 1 ∨ 1 + min (lev a b) (min (lev (x :: a) b) (lev a (y :: b))) = lev (x :: a) b + 1 ∨ 1 + min (lev a b) (min (lev (x :: a) b) (lev a (y :: b))) = lev a (y :: b) + 1 := by omega
          rcases hm with hm | hm | hm <;> rw [hm]
          · exact h1
          · exact h2
          · exact h3
theorem edit_of (a b : List UInt8) : Edit a b (lev a b) := edit_lev _ a b (Nat.le_refl _)

theorem Edit.symm {a b : List UInt8} {n : Nat} (h : Edit a b n) : Edit b a n :=
  Edit.ind (P := fun a b n => Edit b a n) .nil (fun x _ _ _ _ ih => ih.keep x) (fun x y _ _ _ _ ih => ih.sub y x) (fun y _ _ _ _ ih => ih.del y) (fun x _ _ _ _ ih => ih.ins x) h
theorem Edit.append {a b c d : List UInt8} {n m : Nat} (h : Edit a b n) (k : Edit c d m) : Edit (a ++ c) (b ++ d) (n + m) := by
  refine Edit.ind (P := fun a b n => Edit (a ++ c) (b ++ d) (n + m)) ?_ ?_ ?_ ?_ ?_ h
  · simpa using k
  · intro x a b n _ ih; exact ih.keep x
  · intro x y a b n _ ih; rw [show n + 1 + m = (n + m) + 1 by omega]; exact ih.sub x y
  · intro y a b n _ ih; rw [show n + 1 + m = (n + m) + 1 by omega]; exact ih.ins y
  · intro x a b n _ ih; rw [show n + 1 + m = (n + m) + 1 by omega]; exact ih.del x
theorem Edit.reverse {a b : List UInt8} {n : Nat} (h : Edit a b n) : Edit a.reverse b.reverse n := by
  refine Edit.ind (P := fun a b n => Edit a.reverse b.reverse n) .nil ?_ ?_ ?_ ?_ h
  · intro x a b n _ ih; simpa using ih.append (Edit.nil.keep x)
  · intro x y a b n _ ih; simpa using ih.append (Edit.nil.sub x y)
  · intro y a b n _ ih; simpa using ih.append (Edit.nil.ins y)
  · intro x a b n _ ih; simpa using ih.append (Edit.nil.del x)
/-- from a text that begins with x, where its rest is known: the ways to go on -/
theorem Edit.via {w : UInt8} {a b : List UInt8} {n : Nat} (x : UInt8) (s : Nat) (ih : ∀ {c : List UInt8} {m : Nat}, Edit b c m → ∃ k, k ≤ n + m ∧ Edit a c k)
    (hw : ∀ {c : List UInt8} {k : Nat}, Edit a c k → ∃ j, j ≤ k + s ∧ Edit (w :: a) (x :: c) j) (hd : ∀ {c : List UInt8} {k : Nat}, Edit a c k → Edit (w :: a) c (k + 1))
    {c : List UInt8} {m : Nat} (h : Edit (x :: b) c m) : ∃ k, k ≤ n + s + m ∧ Edit (w :: a) c k := by
  have key : ∀ {b2 c : List UInt8} {m : Nat}, Edit b2 c m → b2 = x :: b → ∃ k, k ≤ n + s + m ∧ Edit (w :: a) c k := by
    intro b2 c m h
    refine Edit.ind (P := fun b2 c m => b2 = x :: b → ∃ k, k ≤ n + s + m ∧ Edit (w :: a) c k) ?_ ?_ ?_ ?_ ?_ h
    · intro e; cases e
    · intro y b3 c m h3 _ e
      injection e with e1 e2; subst e1; subst e2
      obtain ⟨k, hk, e⟩ := ih h3
      obtain ⟨j, hj, e4⟩ := hw e
      exact ⟨j, by omega, e4⟩
    · intro y z b3 c m h3 _ e
      injection e with e1 e2; subst e1; subst e2
      obtain ⟨k, hk, e⟩ := ih h3
      exact ⟨k + 1, by omega, e.sub w z⟩
    · intro z b3 c m _ ih3 e
      obtain ⟨k, hk, e⟩ := ih3 e
      exact ⟨k + 1, by omega, e.ins z⟩
    · intro y b3 c m h3 _ e
      injection e with e1 e2; subst e1; subst e2
      obtain ⟨k, hk, e⟩ := ih h3
      exact ⟨k + 1, by omega, hd e⟩
  exact key h rfl
theorem Edit.trans {a b : List UInt8} {n : Nat} (h : Edit a b n) : ∀ {c : List UInt8} {m : Nat}, Edit b c m → ∃ k, k ≤ n + m ∧ Edit a c k := by
  refine Edit.ind (P := fun a b n => ∀ {c : List UInt8} {m : Nat}, Edit b c m → ∃ k, k ≤ n + m ∧ Edit a c k) ?_ ?_ ?_ ?_ ?_ h
  · intro c m h; exact ⟨m, by omega, h⟩
  · intro x a b n _ ih c m h2
    obtain ⟨k, hk, e⟩ := Edit.via (w := x) x 0 ih (fun e => ⟨_, Nat.le_refl _, e.keep x⟩) (fun e => e.del x) h2
    exact ⟨k, by omega, e⟩
  · intro w x a b n _ ih c m h2
    obtain ⟨k, hk, e⟩ := Edit.via (w := w) x 1 ih (fun e => ⟨_, Nat.le_refl _, e.sub w x⟩) (fun e => e.del w) h2
    exact ⟨k, by omega, e⟩
  · intro x a b n _ ih c m h2
    have key : ∀ {b2 c : List UInt8} {m : Nat}, Edit b2 c m → b2 = x :: b → ∃ k, k ≤ n + 1 + m ∧ Edit a c k := by
      intro b2 c m h
      refine Edit.ind (P := fun b2 c m => b2 = x :: b → ∃ k, k ≤ n + 1 + m ∧ Edit a c k) ?_ ?_ ?_ ?_ ?_ h
      · intro e; cases e
      · intro y b3 c m h3 _ e
        injection e with e1 e2; subst e1; subst e2
        obtain ⟨k, hk, e⟩ := ih h3
        exact ⟨k + 1, by omega, e.ins y⟩
      · intro y z b3 c m h3 _ e
        injection e with e1 e2; subst e1; subst e2
        obtain ⟨k, hk, e⟩ := ih h3
        exact ⟨k + 1, by omega, e.ins z⟩
      · intro z b3 c m _ ih3 e
        obtain ⟨k, hk, e⟩ := ih3 e
        exact ⟨k + 1, by omega, e.ins z⟩
      · intro y b3 c m h3 _ e
        injection e with e1 e2; subst e1; subst e2
        obtain ⟨k, hk, e⟩ := ih h3
        exact ⟨k, by omega, e⟩
    exact key h2 rfl
  · intro x a b n _ ih c m h2
    obtain ⟨k, hk, e⟩ := ih h2
    exact ⟨k + 1, by omega, e.del x⟩

theorem lev_symm (a b : List UInt8) : lev a b = lev b a := Nat.le_antisymm (lev_le (edit_of b a).symm) (lev_le (edit_of a b).symm)
theorem lev_triangle (a b c : List UInt8) : lev a c ≤ lev a b + lev b c := by
  obtain ⟨k, hk, e⟩ := (edit_of a b).trans (edit_of b c)
  exact Nat.le_trans (lev_le e) hk
theorem edit_zero {a b : List UInt8} {n : Nat} (h : Edit a b n) : n = 0 → a = b := by
  refine Edit.ind (P := fun a b n => n = 0 → a = b) (fun _ => rfl) (fun x a b n _ ih h => by rw [ih h]) (fun _ _ _ _ _ _ _ h => by omega) (fun _ _ _ _ _ _ h => by omega) (fun _ _ _ _ _ _ h => by omega) h
theorem lev_self (a : List UInt8) : lev a a = 0 := by
  induction a with
  | nil => rfl
  | cons x a ih => rw [lev_same]; exact ih
theorem lev_zero (a b : List UInt8) : lev a b = 0 ↔ a = b := ⟨fun h => edit_zero (edit_of a b) h, fun h => by rw [h, lev_self]⟩
theorem lev_reverse (a b : List UInt8) : lev a.reverse b.reverse = lev a b := by
  apply Nat.le_antisymm (lev_le (edit_of a b).reverse)
  have := lev_le (edit_of a.reverse b.reverse).reverse
  simpa using this
theorem lev_prefix (c a b : List UInt8) : lev (c ++ a) (c ++ b) = lev a b := by
  induction c with
  | nil => rfl
  | cons x c ih => rw [List.cons_append, List.cons_append, lev_same]; exact ih
theorem lev_suffix (a b c : List UInt8) : lev (a ++ c) (b ++ c) = lev a b := by
  rw [← lev_reverse (a ++ c), List.reverse_append, List.reverse_append, lev_prefix, lev_reverse]
theorem edit_length {a b : List UInt8} {n : Nat} (h : Edit a b n) : a.length ≤ b.length + n ∧ b.length ≤ a.length + n := by
  refine Edit.ind (P := fun a b n => a.length ≤ b.length + n ∧ b.length ≤ a.length + n) (by simp) ?_ ?_ ?_ ?_ h
  · intro x a b n _ ih; simp; omega
  · intro x y a b n _ ih; simp; omega
  · intro y a b n _ ih; simp; omega
  · intro x a b n _ ih; simp; omega
theorem lev_low (a b : List UInt8) : a.length ≤ b.length + lev a b ∧ b.length ≤ a.length + lev a b := edit_length (edit_of a b)
theorem lev_high : ∀ (a b : List UInt8), lev a b ≤ max a.length b.length
  | [], b => by rw [lev_nil]; omega
  | x :: a, [] => by rw [lev_nil_right]; omega
  | x :: a, y :: b => by
    have h := lev_high a b
    have h2 := lev_le (Edit.sub x y (edit_of a b))
    simp; omega

/-! ### one byte -/
theorem lev_insert (u v : List UInt8) (c : UInt8) : lev (u ++ v) (u ++ c :: v) = 1 := by
  rw [lev_prefix]
  have h1 := (lev_ins v v c).1
  have h2 := lev_low v (c :: v)
  rw [lev_self] at h1
  simp at h2
  omega
theorem lev_remove (u v : List UInt8) (c : UInt8) : lev (u ++ c :: v) (u ++ v) = 1 := by rw [lev_symm, lev_insert]
theorem lev_change (u v : List UInt8) (x c : UInt8) : lev (u ++ x :: v) (u ++ c :: v) = if x = c then 0 else 1 := by
  rw [lev_prefix]
  by_cases h : x = c
  · rw [if_pos h, h, lev_self]
  · rw [if_neg h]
    have h1 := lev_le (Edit.sub x c (edit_of v v))
    rw [lev_self] at h1
    have h2 : lev (x :: v) (c :: v) ≠ 0 := fun h0 => h (by have := (lev_zero _ _).1 h0; injection this)
    omega
end Go.Proofs.YtjlgjadkcpdpmaaDoor.Ed
