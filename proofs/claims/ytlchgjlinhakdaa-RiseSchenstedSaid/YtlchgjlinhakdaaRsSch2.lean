/-
  The shape of a list: as many rows as numbers that fall, a first row as long as numbers that do not fall, no row longer than the one ahead. In plain Lean.
-/
import Derived.Test.YtlchgjlinhakdaaRsSch
namespace Go.Proofs.Ytlchgjlinhakdaa.Rs
open List
set_option linter.unusedVariables false

/-- below each number of a row stands a greater one, or none -/
def Col (r1 r2 : List Int) : Prop := r2.length ≤ r1.length ∧ ∀ (c : Nat) (a b : Int), r1[c]? = some a → r2[c]? = some b → a < b
def Heads (r : List Int) : List (List Int) → Prop
  | [] => True
  | r2 :: _ => Col r r2
def Cols : List (List Int) → Prop
  | [] => True
  | r :: rs => Heads r rs ∧ Cols rs
theorem heads_snoc {row : List Int} {rows : List (List Int)} (h : Heads row rows) (n : Int) : Heads (row ++ [n]) rows := by
  cases rows with
  | nil => trivial
  | cons r2 rs =>
    obtain ⟨h1, h2⟩ := h
    refine ⟨by simp; omega, fun c a b ha hb => ?_⟩
    have hc := (List.getElem?_eq_some_iff.1 hb).1
    rw [List.getElem?_append_left (by omega)] at ha
    exact h2 c a b ha hb
theorem heads_bump {row : List Int} {rows : List (List Int)} {n b : Int} (hasc : Asc row) (hr : ∀ r ∈ rows, Asc r) (h : Heads row rows) (hb : row[pos (n + 1) row]? = some b) : Heads (row.set (pos (n + 1) row) n) (ins b rows) := by
  have hlt := (List.getElem?_eq_some_iff.1 hb).1
  have hnb := pos_ge hb
  -- a number of the new row
  have hnew : ∀ (c : Nat) (a : Int), (row.set (pos (n + 1) row) n)[c]? = some a → (c = pos (n + 1) row ∧ a = n) ∨ (c ≠ pos (n + 1) row ∧ row[c]? = some a) := by
    intro c a ha
    by_cases e : c = pos (n + 1) row
    · rw [e, List.getElem?_set_self hlt] at ha
      exact .inl ⟨e, (Option.some.inj ha).symm⟩
    · rw [List.getElem?_set_ne (fun x => e x.symm)] at ha
      exact .inr ⟨e, ha⟩
  cases rows with
  | nil =>
    refine ⟨by rw [List.length_set]; simp; omega, fun c a b' ha hb' => ?_⟩
    have hc : c = 0 := by have := (List.getElem?_eq_some_iff.1 hb').1; simp at this; omega
    subst hc
    simp at hb'
    subst hb'
    rcases hnew 0 a ha with ⟨e, rfl⟩ | ⟨e, h1⟩
    · omega
    · have := pos_lt (n := n + 1) (by omega : 0 < pos (n + 1) row) h1
      omega
  | cons r2 rs =>
    obtain ⟨h1, h2⟩ := h
    -- b goes no farther to the right
    have hle : pos (b + 1) r2 ≤ pos (n + 1) row := by
      rcases Nat.lt_or_ge (pos (n + 1) row) (pos (b + 1) r2) with hgt | hge
      · have hl2 : pos (n + 1) row < r2.length := Nat.lt_of_lt_of_le hgt (pos_le _ _)
        have h3 := pos_lt hgt (List.getElem?_eq_getElem hl2)
        have h4 := h2 _ _ _ hb (List.getElem?_eq_getElem hl2)
        omega
      · exact hge
    have hval : ∀ (c : Nat) (a b' : Int), (row.set (pos (n + 1) row) n)[c]? = some a → ((c = pos (b + 1) r2 ∧ b' = b) ∨ r2[c]? = some b') → a < b' := by
      intro c a b' ha hb'
      rcases hnew c a ha with ⟨e, rfl⟩ | ⟨e, g1⟩
      · rcases hb' with ⟨_, rfl⟩ | g2
        · omega
        · have := h2 c b b' (by rw [e]; exact hb) g2
          omega
      · rcases hb' with ⟨g3, rfl⟩ | g2
        · have := pos_lt (n := n + 1) (by omega : c < pos (n + 1) row) g1
          omega
        · exact h2 c a b' g1 g2
    unfold ins
    by_cases hp : pos (b + 1) r2 = r2.length
    · rw [if_pos hp]
      refine ⟨by rw [List.length_set]; simp; omega, fun c a b' ha hb' => hval c a b' ha ?_⟩
      rw [List.getElem?_append] at hb'
      by_cases hc : c < r2.length
      · rw [if_pos hc] at hb'; exact .inr hb'
      · rw [if_neg hc] at hb'
        have h5 := (List.getElem?_eq_some_iff.1 hb').1
        simp at h5
        have h6 : b' = b := by simpa using List.mem_of_getElem? hb'
        exact .inl ⟨by omega, h6⟩
    · rw [if_neg hp]
      refine ⟨by rw [List.length_set, List.length_set]; exact h1, fun c a b' ha hb' => hval c a b' ha ?_⟩
      have hl2 : pos (b + 1) r2 < r2.length := by have := pos_le (b + 1) r2; omega
      by_cases e : c = pos (b + 1) r2
      · rw [e, List.getElem?_set_self hl2] at hb'
        exact .inl ⟨e, (Option.some.inj hb').symm⟩
      · rw [List.getElem?_set_ne (fun x => e x.symm)] at hb'
        exact .inr hb'
structure Tabl (rows : List (List Int)) : Prop where
  asc : ∀ row ∈ rows, Asc row
  ne : ∀ row ∈ rows, row ≠ []
  col : Cols rows
theorem Tabl.tail {r : List Int} {rows : List (List Int)} (h : Tabl (r :: rows)) : Tabl rows := ⟨fun x hx => h.asc x (by simp [hx]), fun x hx => h.ne x (by simp [hx]), h.col.2⟩
theorem Tabl.ins : ∀ {rows : List (List Int)} {n : Int}, Tabl rows → Tabl (ins n rows) := by
  intro rows
  induction rows with
  | nil =>
    intro n _
    refine ⟨fun r hr => ?_, fun r hr => ?_, trivial, trivial⟩
    · obtain rfl : r = [n] := by simpa [Rs.ins] using hr
      exact asc_snoc (n := n) (l := []) (by intro i j s t _ h; simp at h) rfl
    · obtain rfl : r = [n] := by simpa [Rs.ins] using hr
      simp
  | cons row rows ih =>
    intro n h
    have hasc := h.asc row (by simp)
    unfold Rs.ins
    by_cases hp : pos (n + 1) row = row.length
    · rw [if_pos hp]
      refine ⟨fun r hr => ?_, fun r hr => ?_, heads_snoc h.col.1 n, h.col.2⟩
      · rcases List.mem_cons.1 hr with rfl | hr
        · exact asc_snoc hasc hp
        · exact h.asc r (by simp [hr])
      · rcases List.mem_cons.1 hr with rfl | hr
        · simp
        · exact h.ne r (by simp [hr])
    · rw [if_neg hp]
      have hlt : pos (n + 1) row < row.length := by have := pos_le (n + 1) row; omega
      have hb : row[pos (n + 1) row]? = some (row.getD (pos (n + 1) row) 0) := by rw [List.getD_eq_getElem?_getD, List.getElem?_eq_getElem hlt]; rfl
      have hi := ih (n := row.getD (pos (n + 1) row) 0) h.tail
      refine ⟨fun r hr => ?_, fun r hr => ?_, heads_bump hasc h.tail.asc h.col.1 hb, hi.col⟩
      · rcases List.mem_cons.1 hr with rfl | hr
        · exact asc_set hasc
        · exact hi.asc r hr
      · rcases List.mem_cons.1 hr with rfl | hr
        · intro e
          have := congrArg List.length e
          rw [List.length_set] at this
          simp at this
          exact h.ne row (by simp) this
        · exact hi.ne r hr
theorem tabl_rowsOf (l : List Int) : Tabl (rowsOf l) := by
  refine snocInd (P := fun l => Tabl (rowsOf l)) ⟨by simp [rowsOf], by simp [rowsOf], trivial⟩ ?_ l
  intro l n ih
  show Tabl (rowsOf (l ++ [n]))
  rw [rowsOf_snoc]
  exact ih.ins
theorem eqv_word (l : List Int) : Eqv l (word (rowsOf l)) := by
  refine snocInd (P := fun l => Eqv l (word (rowsOf l))) (Eqv.refl _) ?_ l
  intro l n ih
  show Eqv (l ++ [n]) (word (rowsOf (l ++ [n])))
  rw [rowsOf_snoc]
  have h1 := ih.ctx [] [n]
  simp only [List.nil_append] at h1
  exact h1.trans (ins_word _ _ (tabl_rowsOf l).asc)

/-! ### as many rows as numbers that fall -/
theorem one_of {s row : List Int} (hs : s <+ row) (hasc : Asc row) (hp : s.Pairwise (fun a b => b < a)) : s.length ≤ 1 := by
  have h2 := (asc_pairwise hasc).sublist hs
  cases s with
  | nil => simp
  | cons x s =>
    cases s with
    | nil => simp
    | cons y s =>
      rw [List.pairwise_cons] at hp h2
      have := hp.1 y (by simp)
      have := h2.1 y (by simp)
      omega
theorem word_le : ∀ (rows : List (List Int)), (∀ row ∈ rows, Asc row) → ∀ s, s <+ word rows → s.Pairwise (fun a b => b < a) → s.length ≤ rows.length := by
  intro rows
  induction rows with
  | nil => intro _ s hs _; have := hs.length_le; simpa [word] using this
  | cons row rows ih =>
    intro h s hs hp
    obtain ⟨s1, s2, rfl, h1, h2⟩ := List.sublist_append_iff.1 hs
    rw [List.pairwise_append] at hp
    have a1 := ih (fun r hr => h r (by simp [hr])) s1 h1 hp.1
    have a2 := one_of h2 (h row (by simp)) hp.2.1
    simp only [List.length_append, List.length_cons]
    omega
theorem word_ex : ∀ (rows : List (List Int)), Tabl rows → ∃ s, s <+ word rows ∧ s.Pairwise (fun a b => b < a) ∧ s.length = rows.length ∧ ∀ row rest x, rows = row :: rest → row[0]? = some x → ∀ a ∈ s, x ≤ a := by
  intro rows
  induction rows with
  | nil => intro _; exact ⟨[], List.nil_sublist _, List.Pairwise.nil, rfl, by simp⟩
  | cons row rows ih =>
    intro h
    obtain ⟨s, s1, s2, s3, s4⟩ := ih h.tail
    obtain ⟨x, rest, hx⟩ : ∃ x rest, row = x :: rest := List.exists_cons_of_ne_nil (h.ne row (by simp))
    have hgt : ∀ a ∈ s, x < a := by
      intro a ha
      cases rows with
      | nil => have := s1.length_le; simp [word] at this; subst this; simp at ha
      | cons r2 rs =>
        obtain ⟨y, rest2, hy⟩ : ∃ y rest, r2 = y :: rest := List.exists_cons_of_ne_nil (h.ne r2 (by simp))
        have h1 := s4 r2 rs y rfl (by rw [hy]; rfl) a ha
        have h2 := h.col.1.2 0 x y (by rw [hx]; rfl) (by rw [hy]; rfl)
        omega
    refine ⟨s ++ [x], s1.append (by rw [hx]; exact (List.nil_sublist _).cons_cons x), ?_, by simp [s3], ?_⟩
    · rw [List.pairwise_append]
      exact ⟨s2, by simp, fun a ha b hb => by obtain rfl : b = x := by simpa using hb
                                              exact hgt a ha⟩
    · intro row' rest' x' e hx' a ha
      obtain ⟨rfl, rfl⟩ := List.cons.inj e
      rw [hx] at hx'
      obtain rfl : x = x' := by simpa using hx'
      rcases List.mem_append.1 ha with ha | ha
      · have := hgt a ha; omega
      · have : a = x := by simpa using ha
        omega
theorem rows_most (l : List Int) : Most (fun a b => b < a) l (rowsOf l).length := by
  have h := eqv_word l
  refine Dom.most h.d2 h.d1 ?_
  obtain ⟨s, s1, s2, s3, _⟩ := word_ex _ (tabl_rowsOf l)
  exact ⟨⟨s, s1, s2, s3⟩, word_le _ (tabl_rowsOf l).asc⟩
theorem rows_piles (l : List Int) : (rowsOf l).length = (piles l.reverse).length := (rows_most l).uniq (lis_piles l.reverse).reverse
/-! ### the first row -/
def first : List (List Int) → List Int
  | [] => []
  | r :: _ => r
theorem first_ins (n : Int) (rows : List (List Int)) : first (ins n rows) = putD 1 n (first rows) := by
  cases rows with
  | nil => rfl
  | cons r rs =>
    unfold ins putD
    by_cases h : pos (n + 1) r = r.length
    · rw [if_pos h]; show r ++ [n] = if pos (n + 1) r = r.length then _ else _; rw [if_pos h]; rfl
    · rw [if_neg h]; show r.set _ n = if pos (n + 1) r = r.length then _ else _; rw [if_neg h]; rfl
theorem first_rows (l : List Int) : first (rowsOf l) = pilesD 1 l := by
  refine snocInd (P := fun l => first (rowsOf l) = pilesD 1 l) rfl ?_ l
  intro l n ih
  show first (rowsOf (l ++ [n])) = pilesD 1 (l ++ [n])
  rw [rowsOf_snoc, pilesD_snoc, first_ins, ih]
theorem first_fall (l : List Int) : (first (rowsOf l)).length = fall l.reverse := by
  have h := most_piles (d := 1) (by omega) l
  have e : RD 1 = fun a b => a ≤ b := by
    funext a b
    unfold RD
    exact propext ⟨fun h => by omega, fun h => by omega⟩
  rw [← first_rows, e] at h
  exact h.uniq (lds_fall l.reverse).reverse
/-! ### all rows together; no row is longer than the one ahead -/
theorem ins_sum (rows : List (List Int)) : ∀ n, ((ins n rows).map List.length).sum = (rows.map List.length).sum + 1 := by
  induction rows with
  | nil => intro n; rfl
  | cons r rs ih =>
    intro n
    unfold ins
    split
    · simp; omega
    · have := ih (r.getD (pos (n + 1) r) 0); simp only [List.map_cons, List.sum_cons, List.length_set]; omega
theorem rows_sum (l : List Int) : ((rowsOf l).map List.length).sum = l.length := by
  refine snocInd (P := fun l => ((rowsOf l).map List.length).sum = l.length) rfl ?_ l
  intro l n ih
  show ((rowsOf (l ++ [n])).map List.length).sum = (l ++ [n]).length
  rw [rowsOf_snoc, ins_sum, ih]; simp
theorem cols_le : ∀ {rows : List (List Int)}, Cols rows → ∀ (i : Nat) (a b : List Int), rows[i]? = some a → rows[i + 1]? = some b → b.length ≤ a.length := by
  intro rows
  induction rows with
  | nil => intro _ i a b h; simp at h
  | cons r rs ih =>
    intro h i a b ha hb
    cases i with
    | zero =>
      cases rs with
      | nil => simp at hb
      | cons r2 rs =>
        simp at ha hb
        subst ha
        subst hb
        exact h.1.1
    | succ i => exact ih h.2 i a b (by simpa using ha) (by simpa using hb)
theorem shape_length (l : List Int) : (shape l).length = (rowsOf l).length := by simp [shape]
theorem shape_pos (l : List Int) : ∀ x ∈ shape l, 1 ≤ x := by
  intro x hx
  obtain ⟨r, hr, rfl⟩ := List.mem_map.1 hx
  have := List.length_pos_iff.2 ((tabl_rowsOf l).ne r hr)
  omega
theorem shape_falls (l : List Int) (i : Nat) (x y : Int) (hx : (shape l)[i]? = some x) (hy : (shape l)[i + 1]? = some y) : y ≤ x := by
  unfold shape at hx hy
  rw [List.getElem?_map] at hx hy
  obtain ⟨a, ha, rfl⟩ := Option.map_eq_some_iff.1 hx
  obtain ⟨b, hb, rfl⟩ := Option.map_eq_some_iff.1 hy
  have := cols_le (tabl_rowsOf l).col i a b ha hb
  omega
theorem shape_sum (l : List Int) : (shape l).foldl (· + ·) 0 = (l.length : Int) := by
  have key : ∀ (m : List (List Int)) (c : Nat), (m.map fun r => (r.length : Int)).foldl (· + ·) (c : Int) = ((c + (m.map List.length).sum : Nat) : Int) := by
    intro m
    induction m with
    | nil => intro c; simp
    | cons r m ih =>
      intro c
      simp only [List.map_cons, List.foldl_cons, List.sum_cons]
      have := ih (c + r.length)
      rw [show ((c + r.length : Nat) : Int) = (c : Int) + (r.length : Int) by omega] at this
      rw [this]
      congr 1
      omega
  have := key (rowsOf l) 0
  rw [rows_sum, Nat.zero_add] at this
  exact this
theorem shape_first (l : List Int) (h : l ≠ []) : (shape l)[0]? = some (fall l.reverse : Int) := by
  have hs := rows_sum l
  have hl := List.length_pos_iff.2 h
  have hf := first_fall l
  cases hr : rowsOf l with
  | nil => rw [hr] at hs; simp at hs; omega
  | cons r rs =>
    unfold shape
    rw [hr] at hf ⊢
    show some (r.length : Int) = _
    rw [← hf]; rfl
end Go.Proofs.Ytlchgjlinhakdaa.Rs
