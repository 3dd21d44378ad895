/-
  The shape of a list: Schensted's theorem, by the moves of Knuth. In plain Lean.
-/
import Derived.Test.YtlchgjlinhakdaaRsMax
import Derived.Test.YtlchgjlinhakdaaRsRows
namespace Go.Proofs.Ytlchgjlinhakdaa.Rs
open List
set_option linter.unusedVariables false

/-! ### one list does as well as another one, wherever both stand -/
def Dom (R : Int → Int → Prop) (u v : List Int) : Prop := ∀ s, s <+ u → s.Pairwise R → ∃ s', s' <+ v ∧ s'.Pairwise R ∧ s'.length = s.length ∧ (∀ a, (∀ b ∈ s, R a b) → ∀ b ∈ s', R a b) ∧ (∀ c, (∀ b ∈ s, R b c) → ∀ b ∈ s', R b c)
section
variable {R : Int → Int → Prop}
theorem Dom.refl (u : List Int) : Dom R u u := fun s h1 h2 => ⟨s, h1, h2, rfl, fun a h => h, fun a h => h⟩
theorem Dom.trans {u v w : List Int} (h : Dom R u v) (g : Dom R v w) : Dom R u w := by
  intro s h1 h2
  obtain ⟨s', a1, a2, a3, a4, a5⟩ := h s h1 h2
  obtain ⟨s'', b1, b2, b3, b4, b5⟩ := g s' a1 a2
  exact ⟨s'', b1, b2, b3.trans a3, fun a h => b4 a (a4 a h), fun c h => b5 c (a5 c h)⟩
theorem Dom.ctx {u v : List Int} (h : Dom R u v) (a c : List Int) : Dom R (a ++ u ++ c) (a ++ v ++ c) := by
  intro s h1 h2
  obtain ⟨s12, s3, rfl, h12, h3⟩ := List.sublist_append_iff.1 h1
  obtain ⟨s1, s2, rfl, hs1, hs2⟩ := List.sublist_append_iff.1 h12
  rw [List.pairwise_append] at h2
  obtain ⟨p12, p3, p123⟩ := h2
  rw [List.pairwise_append] at p12
  obtain ⟨p1, p2, px⟩ := p12
  obtain ⟨t, t1, t2, t3, t4, t5⟩ := h s2 hs2 p2
  refine ⟨s1 ++ t ++ s3, (hs1.append t1).append h3, ?_, by simp [t3], ?_, ?_⟩
  · rw [List.pairwise_append]
    refine ⟨List.pairwise_append.2 ⟨p1, t2, fun x hx y hy => t4 x (fun b hb => px x hx b hb) y hy⟩, p3, fun x hx y hy => ?_⟩
    rcases List.mem_append.1 hx with hx | hx
    · exact p123 x (by simp [hx]) y hy
    · exact t5 y (fun b hb => p123 b (by simp [hb]) y hy) x hx
  · intro x hx y hy
    rcases List.mem_append.1 hy with hy | hy
    · rcases List.mem_append.1 hy with hy | hy
      · exact hx y (by simp [hy])
      · exact t4 x (fun b hb => hx b (by simp [hb])) y hy
    · exact hx y (by simp [hy])
  · intro x hx y hy
    rcases List.mem_append.1 hy with hy | hy
    · rcases List.mem_append.1 hy with hy | hy
      · exact hx y (by simp [hy])
      · exact t5 x (fun b hb => hx b (by simp [hb])) y hy
    · exact hx y (by simp [hy])
theorem Dom.most {u v : List Int} (h : Dom R u v) (g : Dom R v u) {k : Nat} (m : Most R u k) : Most R v k := by
  obtain ⟨⟨s, s1, s2, s3⟩, h2⟩ := m
  obtain ⟨s', t1, t2, t3, _⟩ := h s s1 s2
  refine ⟨⟨s', t1, t2, t3.trans s3⟩, fun x x1 x2 => ?_⟩
  obtain ⟨x', y1, y2, y3, _⟩ := g x x1 x2
  rw [← y3]
  exact h2 x' y1 y2
end
/-- both ways, numbers that fall, and numbers that do not fall -/
structure Eqv (u v : List Int) : Prop where
  d1 : Dom (fun a b => b < a) u v
  d2 : Dom (fun a b => b < a) v u
  w1 : Dom (fun a b => a ≤ b) u v
  w2 : Dom (fun a b => a ≤ b) v u
theorem Eqv.refl (u : List Int) : Eqv u u := ⟨.refl u, .refl u, .refl u, .refl u⟩
theorem Eqv.trans {u v w : List Int} (h : Eqv u v) (g : Eqv v w) : Eqv u w := ⟨h.d1.trans g.d1, g.d2.trans h.d2, h.w1.trans g.w1, g.w2.trans h.w2⟩
theorem Eqv.ctx {u v : List Int} (h : Eqv u v) (a c : List Int) : Eqv (a ++ u ++ c) (a ++ v ++ c) := ⟨h.d1.ctx a c, h.d2.ctx a c, h.w1.ctx a c, h.w2.ctx a c⟩
theorem sub3 {p q r : Int} {s : List Int} (h : s <+ [p, q, r]) : s = [] ∨ s = [p] ∨ s = [q] ∨ s = [r] ∨ s = [p, q] ∨ s = [p, r] ∨ s = [q, r] ∨ s = [p, q, r] := by
  cases h with
  | cons _ h =>
    cases h with
    | cons _ h =>
      cases h with
      | cons _ h => cases h; simp
      | cons_cons _ h => cases h; simp
    | cons_cons _ h =>
      cases h with
      | cons _ h => cases h; simp
      | cons_cons _ h => cases h; simp
  | cons_cons _ h =>
    cases h with
    | cons _ h =>
      cases h with
      | cons _ h => cases h; simp
      | cons_cons _ h => cases h; simp
    | cons_cons _ h =>
      cases h with
      | cons _ h => cases h; simp
      | cons_cons _ h => cases h; simp
theorem sub_0 (l : List Int) : [] <+ l := List.nil_sublist l
theorem sub_p (p q r : Int) : [p] <+ [p, q, r] := (sub_0 _).cons_cons p
theorem sub_q (p q r : Int) : [q] <+ [p, q, r] := ((sub_0 _).cons_cons q).cons p
theorem sub_r (p q r : Int) : [r] <+ [p, q, r] := (((sub_0 _).cons_cons r).cons q).cons p
theorem sub_pq (p q r : Int) : [p, q] <+ [p, q, r] := ((sub_0 _).cons_cons q).cons_cons p
theorem sub_pr (p q r : Int) : [p, r] <+ [p, q, r] := (((sub_0 _).cons_cons r).cons q).cons_cons p
theorem sub_qr (p q r : Int) : [q, r] <+ [p, q, r] := (((sub_0 _).cons_cons r).cons_cons q).cons p
/-- x < y ≤ z -/
theorem move1 {x y z : Int} (h1 : x < y) (h2 : y ≤ z) : Eqv [y, z, x] [y, x, z] := by
  refine ⟨?_, ?_, ?_, ?_⟩
  all_goals
    intro s hs hp
    rcases sub3 hs with rfl | rfl | rfl | rfl | rfl | rfl | rfl | rfl
  all_goals simp only [List.pairwise_cons, List.mem_cons, List.not_mem_nil, or_false, forall_eq_or_imp, forall_eq, List.Pairwise.nil, and_true, false_imp_iff, implies_true] at hp
  all_goals
    first
    | exact ⟨[], sub_0 _, by simp, rfl, fun a h => h, fun a h => h⟩
    | exact ⟨[x], by first | exact sub_p _ _ _ | exact sub_q _ _ _ | exact sub_r _ _ _, by simp, rfl, fun a h => h, fun a h => h⟩
    | exact ⟨[y], by first | exact sub_p _ _ _ | exact sub_q _ _ _ | exact sub_r _ _ _, by simp, rfl, fun a h => h, fun a h => h⟩
    | exact ⟨[z], by first | exact sub_p _ _ _ | exact sub_q _ _ _ | exact sub_r _ _ _, by simp, rfl, fun a h => h, fun a h => h⟩
    | (exfalso; omega)
    | (refine ⟨[y, z], by first | exact sub_pq _ _ _ | exact sub_pr _ _ _ | exact sub_qr _ _ _, by simp; omega, rfl, fun a h => ?_, fun a h => ?_⟩ <;> simp only [List.mem_cons, List.not_mem_nil, or_false, forall_eq_or_imp, forall_eq] at h ⊢ <;> omega)
    | (refine ⟨[y, x], by first | exact sub_pq _ _ _ | exact sub_pr _ _ _ | exact sub_qr _ _ _, by simp; omega, rfl, fun a h => ?_, fun a h => ?_⟩ <;> simp only [List.mem_cons, List.not_mem_nil, or_false, forall_eq_or_imp, forall_eq] at h ⊢ <;> omega)
/-- x ≤ y < z -/
theorem move2 {x y z : Int} (h1 : x ≤ y) (h2 : y < z) : Eqv [x, z, y] [z, x, y] := by
  refine ⟨?_, ?_, ?_, ?_⟩
  all_goals
    intro s hs hp
    rcases sub3 hs with rfl | rfl | rfl | rfl | rfl | rfl | rfl | rfl
  all_goals simp only [List.pairwise_cons, List.mem_cons, List.not_mem_nil, or_false, forall_eq_or_imp, forall_eq, List.Pairwise.nil, and_true, false_imp_iff, implies_true] at hp
  all_goals
    first
    | exact ⟨[], sub_0 _, by simp, rfl, fun a h => h, fun a h => h⟩
    | exact ⟨[x], by first | exact sub_p _ _ _ | exact sub_q _ _ _ | exact sub_r _ _ _, by simp, rfl, fun a h => h, fun a h => h⟩
    | exact ⟨[y], by first | exact sub_p _ _ _ | exact sub_q _ _ _ | exact sub_r _ _ _, by simp, rfl, fun a h => h, fun a h => h⟩
    | exact ⟨[z], by first | exact sub_p _ _ _ | exact sub_q _ _ _ | exact sub_r _ _ _, by simp, rfl, fun a h => h, fun a h => h⟩
    | (exfalso; omega)
    | (refine ⟨[z, y], by first | exact sub_pq _ _ _ | exact sub_pr _ _ _ | exact sub_qr _ _ _, by simp; omega, rfl, fun a h => ?_, fun a h => ?_⟩ <;> simp only [List.mem_cons, List.not_mem_nil, or_false, forall_eq_or_imp, forall_eq] at h ⊢ <;> omega)
    | (refine ⟨[x, y], by first | exact sub_pq _ _ _ | exact sub_pr _ _ _ | exact sub_qr _ _ _, by simp; omega, rfl, fun a h => ?_, fun a h => ?_⟩ <;> simp only [List.mem_cons, List.not_mem_nil, or_false, forall_eq_or_imp, forall_eq] at h ⊢ <;> omega)
/-- x goes ahead of what is greater and stands ahead of it -/
theorem slide1 {x : Int} : ∀ (q : List Int) (y : Int), x < y → (y :: q).Pairwise (fun a b => a ≤ b) → Eqv ((y :: q) ++ [x]) (y :: x :: q) := by
  intro q
  induction q with
  | nil => intro y _ _; exact Eqv.refl _
  | cons z q ih =>
    intro y hxy hp
    rw [List.pairwise_cons] at hp
    have hyz : y ≤ z := hp.1 z (by simp)
    have h1 := (ih z (by omega) hp.2).ctx [y] []
    have h2 := (move1 hxy hyz).ctx [] q
    simp only [List.append_nil, List.nil_append, List.cons_append] at h1 h2
    exact h1.trans h2
/-- b goes ahead of what is no greater than x -/
theorem slide2 {x b : Int} (hxb : x < b) : ∀ (p : List Int), (∀ a ∈ p, a ≤ x) → p.Pairwise (fun a b => a ≤ b) → Eqv (p ++ [b, x]) (b :: (p ++ [x])) := by
  intro p
  induction p with
  | nil => intro _ _; exact Eqv.refl _
  | cons y p ih =>
    intro hle hp
    rw [List.pairwise_cons] at hp
    have h1 := (ih (fun a ha => hle a (by simp [ha])) hp.2).ctx [y] []
    have hyx := hle y (by simp)
    simp only [List.append_nil, List.cons_append, List.nil_append] at h1 ⊢
    refine h1.trans ?_
    cases p with
    | nil => exact move2 hyx hxb
    | cons w p =>
      have hyw : y ≤ w := hp.1 w (by simp)
      have hwx := hle w (by simp)
      have h2 := (move2 hyw (by omega : w < b)).ctx [] (p ++ [x])
      simpa using h2
/-- a row and a number behind it: what is bumped, ahead of the new row -/
theorem bump {p q : List Int} {b x : Int} (hp : ∀ a ∈ p, a ≤ x) (hxb : x < b) (h : (p ++ b :: q).Pairwise (fun a b => a ≤ b)) : Eqv ((p ++ b :: q) ++ [x]) (b :: (p ++ x :: q)) := by
  rw [List.pairwise_append] at h
  have h1 := (slide1 q b hxb h.2.1).ctx p []
  have h2 := (slide2 hxb p hp h.1).ctx [] q
  simp only [List.append_nil, List.nil_append, List.append_assoc, List.cons_append] at h1 h2 ⊢
  exact h1.trans h2
/-! ### the word of rows: the last row first -/
def word : List (List Int) → List Int
  | [] => []
  | row :: rows => word rows ++ row
theorem asc_pairwise {l : List Int} (h : Asc l) : l.Pairwise (fun a b => a ≤ b) := by
  rw [List.pairwise_iff_getElem]
  intro i j hi hj hij
  exact h i j _ _ (by omega) (List.getElem?_eq_getElem hi) (List.getElem?_eq_getElem hj)
theorem ins_word : ∀ (rows : List (List Int)) (n : Int), (∀ row ∈ rows, Asc row) → Eqv (word rows ++ [n]) (word (ins n rows)) := by
  intro rows
  induction rows with
  | nil => intro n _; exact Eqv.refl _
  | cons row rows ih =>
    intro n h
    unfold ins
    by_cases hp : pos (n + 1) row = row.length
    · rw [if_pos hp]
      show Eqv (word rows ++ row ++ [n]) (word rows ++ (row ++ [n]))
      rw [List.append_assoc]
      exact Eqv.refl _
    · rw [if_neg hp]
      have hlt : pos (n + 1) row < row.length := by have := pos_le (n + 1) row; omega
      have hb := pos_ge (n := n + 1) (List.getElem?_eq_getElem hlt)
      have hgd : row.getD (pos (n + 1) row) 0 = row[pos (n + 1) row] := by rw [List.getD_eq_getElem?_getD, List.getElem?_eq_getElem hlt]; rfl
      have hrow : row = row.take (pos (n + 1) row) ++ row[pos (n + 1) row] :: row.drop (pos (n + 1) row + 1) := by
        rw [← List.drop_eq_getElem_cons hlt, List.take_append_drop]
      have hset : row.set (pos (n + 1) row) n = row.take (pos (n + 1) row) ++ n :: row.drop (pos (n + 1) row + 1) := set_split hlt
      have hlow : ∀ a ∈ row.take (pos (n + 1) row), a ≤ n := by
        intro a ha
        obtain ⟨i, hi⟩ := List.getElem?_of_mem ha
        have hil : i < pos (n + 1) row := by have := (List.getElem?_eq_some_iff.1 hi).1; rw [List.length_take] at this; omega
        rw [List.getElem?_take_of_lt hil] at hi
        have := pos_lt hil hi
        omega
      have hasc := asc_pairwise (h row (by simp))
      rw [hgd, hset]
      have h1 : Eqv (row ++ [n]) (row[pos (n + 1) row] :: (row.take (pos (n + 1) row) ++ n :: row.drop (pos (n + 1) row + 1))) := by
        have := bump hlow (by omega : n < row[pos (n + 1) row]) (by rw [← hrow]; exact hasc)
        rwa [← hrow] at this
      have h2 := h1.ctx (word rows) []
      have h3 := (ih row[pos (n + 1) row] (fun r hr => h r (by simp [hr]))).ctx [] (row.take (pos (n + 1) row) ++ n :: row.drop (pos (n + 1) row + 1))
      simp only [List.append_nil, List.nil_append] at h2 h3
      show Eqv (word rows ++ row ++ [n]) (word (ins row[pos (n + 1) row] rows) ++ _)
      refine Eqv.trans ?_ h3
      rw [List.append_assoc, List.append_assoc]
      exact h2
end Go.Proofs.Ytlchgjlinhakdaa.Rs
