/-
  Rows of numbers in a slice of slices, all of the call's own; what package rise's Shape computes.
-/
import Derived.Test.YtlchgjlinhakdaaDoorRsPlain
import Derived.Test.YtlchgjlinhakdaaDoorOwn
namespace Go.Proofs.YtlchgjlinhakdaaDoor.Rs
open Go.RowKit
set_option linter.unusedVariables false

/-! ### plain -/
/-- a number put into rows -/
def ins (n : Int) : List (List Int) → List (List Int)
  | [] => [[n]]
  | row :: rows => if pos (n + 1) row = row.length then (row ++ [n]) :: rows else row.set (pos (n + 1) row) n :: ins (row.getD (pos (n + 1) row) 0) rows
def rowsOf (l : List Int) : List (List Int) := l.foldl (fun r n => ins n r) []
theorem rowsOf_snoc (l : List Int) (n : Int) : rowsOf (l ++ [n]) = ins n (rowsOf l) := by simp [rowsOf]
def shape (l : List Int) : List Int := (rowsOf l).map fun r => (r.length : Int)

/-- rows as they are at any time: short, ascending, of small numbers -/
structure Good (k : Nat) (rows : List (List Int)) : Prop where
  len : rows.length ≤ k
  row : ∀ row ∈ rows, row.length ≤ k ∧ Asc row ∧ ∀ x ∈ row, 0 ≤ x ∧ x ≤ 1000
theorem asc_snoc {n : Int} {l : List Int} (h : Asc l) (hp : pos (n + 1) l = l.length) : Asc (l ++ [n]) := by
  intro i j s t hij hs ht
  rw [List.getElem?_append] at hs ht
  by_cases hj : j < l.length
  · rw [if_pos hj] at ht
    rw [if_pos (by omega)] at hs
    exact h i j s t hij hs ht
  · rw [if_neg hj] at ht
    have ht' : t = n := by simpa using List.mem_of_getElem? ht
    subst ht'
    by_cases hi : i < l.length
    · rw [if_pos hi] at hs
      have := pos_lt (n := t + 1) (by omega : i < pos (t + 1) l) hs
      omega
    · rw [if_neg hi] at hs
      have hs' : s = t := by simpa using List.mem_of_getElem? hs
      omega
theorem asc_set {n : Int} {l : List Int} (h : Asc l) : Asc (l.set (pos (n + 1) l) n) := by
  intro i j s t hij hs ht
  rw [List.getElem?_set] at hs ht
  by_cases hi : pos (n + 1) l = i
  · rw [if_pos hi] at hs
    by_cases hl : pos (n + 1) l < l.length
    · rw [if_pos hl] at hs
      simp at hs
      by_cases hj : pos (n + 1) l = j
      · rw [if_pos hj, if_pos hl] at ht
        simp at ht
        omega
      · rw [if_neg hj] at ht
        have := h.tail (n := n + 1) (by omega : pos (n + 1) l ≤ j) ht
        omega
    · rw [if_neg hl] at hs; cases hs
  · rw [if_neg hi] at hs
    by_cases hj : pos (n + 1) l = j
    · rw [if_pos hj] at ht
      by_cases hl : pos (n + 1) l < l.length
      · rw [if_pos hl] at ht
        simp at ht
        have := pos_lt (n := n + 1) (by omega : i < pos (n + 1) l) hs
        omega
      · rw [if_neg hl] at ht; cases ht
    · rw [if_neg hj] at ht
      exact h i j s t hij hs ht
theorem Good.nil : Good 0 [] := ⟨Nat.le_refl _, by simp⟩
theorem Good.mono {k k' : Nat} {rows : List (List Int)} (h : Good k rows) (hk : k ≤ k') : Good k' rows := ⟨by have := h.len; omega, fun row hr => ⟨by have := (h.row row hr).1; omega, (h.row row hr).2⟩⟩
theorem Good.set_ {k : Nat} {rows : List (List Int)} {row : List Int} (h : Good k rows) {r : Nat} (hr : rows[r]? = some row) {n : Int} (hn : 0 ≤ n ∧ n ≤ 1000) : Good k (rows.set r (row.set (pos (n + 1) row) n)) := by
  refine ⟨by rw [List.length_set]; exact h.len, fun row' hm => ?_⟩
  rcases List.mem_or_eq_of_mem_set hm with h1 | rfl
  · exact h.row row' h1
  · have := h.row row (List.mem_of_getElem? hr)
    refine ⟨by rw [List.length_set]; exact this.1, asc_set this.2.1, fun x hx => ?_⟩
    rcases List.mem_or_eq_of_mem_set hx with h2 | rfl
    · exact this.2.2 x h2
    · exact hn
theorem Good.tail {k : Nat} {row : List Int} {rows : List (List Int)} (h : Good k (row :: rows)) : Good k rows := ⟨by have := h.len; simp at this; omega, fun r hr => h.row r (List.mem_cons_of_mem _ hr)⟩
theorem Good.ins_row {k : Nat} : ∀ {rows : List (List Int)} {n : Int}, (∀ row ∈ rows, row.length ≤ k ∧ Asc row ∧ ∀ x ∈ row, 0 ≤ x ∧ x ≤ 1000) → 0 ≤ n ∧ n ≤ 1000 → ∀ row ∈ ins n rows, row.length ≤ k + 1 ∧ Asc row ∧ ∀ x ∈ row, 0 ≤ x ∧ x ≤ 1000 := by
  intro rows
  induction rows with
  | nil =>
    intro n _ hn row hm
    simp [ins] at hm
    subst hm
    refine ⟨by simp, ?_, by simpa using hn⟩
    intro i j s t _ hs ht
    have := List.mem_of_getElem? hs
    have := List.mem_of_getElem? ht
    simp_all
  | cons r0 rows ih =>
    intro n h hn row hm
    have h0 := h r0 (by simp)
    unfold ins at hm
    by_cases hp : pos (n + 1) r0 = r0.length
    · rw [if_pos hp] at hm
      rcases List.mem_cons.1 hm with rfl | hm
      · refine ⟨by simp; exact h0.1, asc_snoc h0.2.1 hp, fun x hx => ?_⟩
        rcases List.mem_append.1 hx with h1 | h1
        · exact h0.2.2 x h1
        · have : x = n := by simpa using h1
          rw [this]; exact hn
      · have := h row (List.mem_cons_of_mem _ hm)
        exact ⟨by omega, this.2⟩
    · rw [if_neg hp] at hm
      have hlt : pos (n + 1) r0 < r0.length := by have := pos_le (n + 1) r0; omega
      rcases List.mem_cons.1 hm with rfl | hm
      · refine ⟨by rw [List.length_set]; omega, asc_set h0.2.1, fun x hx => ?_⟩
        rcases List.mem_or_eq_of_mem_set hx with h1 | rfl
        · exact h0.2.2 x h1
        · exact hn
      · refine ih (fun r hr => h r (List.mem_cons_of_mem _ hr)) ?_ row hm
        rw [List.getD_eq_getElem?_getD, List.getElem?_eq_getElem hlt]
        exact h0.2.2 _ (List.getElem_mem hlt)
theorem ins_length (n : Int) (rows : List (List Int)) : (ins n rows).length ≤ rows.length + 1 := by
  induction rows generalizing n with
  | nil => simp [ins]
  | cons r rows ih =>
    unfold ins
    split
    · simp
    · have := ih (r.getD (pos (n + 1) r) 0); simp only [List.length_cons]; omega
theorem Good.ins {k : Nat} {rows : List (List Int)} {n : Int} (h : Good k rows) (hn : 0 ≤ n ∧ n ≤ 1000) : Good (k + 1) (ins n rows) :=
  ⟨by have := ins_length n rows; have := h.len; omega, Good.ins_row h.row hn⟩
/-- how far a number has come -/
theorem ins_new {rows T : List (List Int)} {n : Int} (h : rows.take rows.length ++ Rs.ins n (rows.drop rows.length) = T) : rows ++ [[n]] = T := by
  rw [← h, List.take_length, List.drop_length]; rfl
theorem drop_at {α : Type} {l : List α} {r : Nat} {a : α} (h : l[r]? = some a) : l.drop r = a :: l.drop (r + 1) := by
  obtain ⟨hl, rfl⟩ := List.getElem?_eq_some_iff.1 h
  exact List.drop_eq_getElem_cons hl
theorem set_split {α : Type} {l : List α} {r : Nat} {a : α} (h : r < l.length) : l.set r a = l.take r ++ a :: l.drop (r + 1) := by
  rw [List.set_eq_take_append_cons_drop, if_pos h]
theorem ins_end {rows T : List (List Int)} {n : Int} {r : Nat} {row : List Int} (hr : rows[r]? = some row) (hp : pos (n + 1) row = row.length) (h : rows.take r ++ Rs.ins n (rows.drop r) = T) : rows.set r (row ++ [n]) = T := by
  rw [set_split (List.getElem?_eq_some_iff.1 hr).1, ← h, drop_at hr]
  show _ = _ ++ (if _ then _ else _)
  rw [if_pos hp]
theorem ins_on {rows T : List (List Int)} {n m : Int} {r : Nat} {row : List Int} (hr : rows[r]? = some row) (hp : ¬ pos (n + 1) row = row.length) (hm : row[pos (n + 1) row]? = some m) (h : rows.take r ++ Rs.ins n (rows.drop r) = T) :
    (rows.set r (row.set (pos (n + 1) row) n)).take (r + 1) ++ Rs.ins m ((rows.set r (row.set (pos (n + 1) row) n)).drop (r + 1)) = T := by
  have hl := (List.getElem?_eq_some_iff.1 hr).1
  rw [set_split hl, ← h, drop_at hr]
  have ht : (rows.take r).length = r := by rw [List.length_take]; omega
  rw [List.take_append, List.drop_append, ht, show (rows.take r).take (r + 1) = rows.take r from List.take_of_length_le (by omega), show (rows.take r).drop (r + 1) = [] from List.drop_of_length_le (by omega)]
  rw [show r + 1 - r = 1 by omega]
  show _ = _ ++ (if _ then _ else _)
  rw [if_neg hp, List.getD_eq_getElem?_getD, hm]
  simp

/-- a row's slice -/
def rowV (row : List Int) (p : Nat × Nat) : Value := .slice (some ⟨p.1, 0, none⟩) row.length p.2
structure SR (B : Nat) (w : World) (v : Value) (rows : List (List Int)) (gs : List (Nat × Nat)) : Prop where
  len : gs.length = rows.length
  own : w.ownsRow B 22 1 v rows.length (List.zipWith rowV rows gs)
  row : ∀ (r : Nat) row p, rows[r]? = some row → gs[r]? = some p → w.ownsRow B 3 1 (rowV row p) row.length (ints row)
  apart : ∀ (r r' : Nat) p p', r ≠ r' → gs[r]? = some p → gs[r']? = some p' → p.1 ≠ p'.1
  out : ∀ (r : Nat) p, gs[r]? = some p → v.ownBlock ≠ some p.1
section
variable {B : Nat} {w w' : World} {v : Value} {rows : List (List Int)} {gs : List (Nat × Nat)}
theorem SR.below (h : SR B w v rows gs) (hb : Below w.heap.size w w') : SR B w' v rows gs :=
  ⟨h.len, own_below h.own hb, fun r row p h1 h2 => own_below (h.row r row p h1 h2) hb, h.apart, h.out⟩
theorem SR.nil (B : Nat) (w : World) : SR B w (.slice none 0 0) [] [] :=
  ⟨rfl, World.ownsRow_nil _ _ _ _, fun r row p h => by simp at h, fun r r' p p' _ h => by simp at h, fun r p h => by simp at h⟩
theorem SR.pair (h : SR B w v rows gs) {r : Nat} {row : List Int} (hr : rows[r]? = some row) : ∃ p, gs[r]? = some p := by
  have : r < rows.length := (List.getElem?_eq_some_iff.1 hr).1
  exact ⟨_, List.getElem?_eq_getElem (by rw [h.len]; exact this)⟩
theorem SR.cell (h : SR B w v rows gs) {g cap : Nat} (hv : v = .slice (some ⟨g, 0, none⟩) rows.length cap) {r : Nat} {row : List Int} {p : Nat × Nat} (hr : rows[r]? = some row) (hp : gs[r]? = some p) : w.cell? ⟨g, r, none⟩ = some (rowV row p) := by
  have := h.own
  rw [hv] at this
  exact own_cell this (by rw [List.getElem?_zipWith, hr, hp])
theorem SR.lt (h : SR B w v rows gs) {r : Nat} {row : List Int} {p : Nat × Nat} (hr : rows[r]? = some row) (hp : gs[r]? = some p) : B ≤ p.1 ∧ p.1 < w.heap.size := (h.row r row p hr hp).lt p.1 rfl
theorem zip_set (rows : List (List Int)) (gs : List (Nat × Nat)) (r : Nat) (row : List Int) (p : Nat × Nat) : List.zipWith rowV (rows.set r row) (gs.set r p) = (List.zipWith rowV rows gs).set r (rowV row p) := by
  apply List.ext_getElem?
  intro i
  rw [List.getElem?_zipWith, List.getElem?_set, List.getElem?_set, List.getElem?_set, List.getElem?_zipWith, List.length_zipWith]
  by_cases hi : r = i
  · subst hi
    simp only [if_true]
    by_cases h1 : r < rows.length <;> by_cases h2 : r < gs.length <;> simp [h1, h2] <;> omega
  · simp only [if_neg hi]
theorem set_self {α : Type} {l : List α} {r : Nat} {a : α} (h : l[r]? = some a) : l.set r a = l := by
  apply List.ext_getElem?
  intro i
  rw [List.getElem?_set]
  by_cases hi : r = i
  · subst hi
    have := (List.getElem?_eq_some_iff.1 h).1
    rw [if_pos rfl, if_pos this, h]
  · rw [if_neg hi]
/-- a number of a row is stored -/
theorem SR.store (h : SR B w v rows gs) {r : Nat} {row : List Int} {p : Nat × Nat} (hr : rows[r]? = some row) (hp : gs[r]? = some p) (i : Nat) (n : Int) :
    SR B (w.setCell ⟨p.1, i, none⟩ (.int .i64 n)) v (rows.set r (row.set i n)) gs := by
  refine ⟨by rw [List.length_set]; exact h.len, ?_, ?_, h.apart, h.out⟩
  · have e : List.zipWith rowV (rows.set r (row.set i n)) gs = List.zipWith rowV rows gs := by
      have h1 := zip_set rows gs r (row.set i n) p
      rw [set_self hp] at h1
      rw [h1]
      refine set_self ?_
      rw [List.getElem?_zipWith, hr, hp]
      simp [rowV]
    rw [List.length_set, e]
    exact ownsRow_setCell_other h.own (a := ⟨p.1, i, none⟩) (h.out r p hp) _
  · intro r' row' p' h1 h2
    by_cases e : r = r'
    · subst e
      rw [hp] at h2
      obtain rfl := Option.some.inj h2
      have hlt := (List.getElem?_eq_some_iff.1 hr).1
      rw [List.getElem?_set_self hlt] at h1
      obtain rfl := Option.some.inj h1
      have ho := own_set (h.row r row p hr hp) i (.int .i64 n)
      unfold ints at ho ⊢
      unfold rowV
      rw [List.length_set, List.map_set]
      exact ho
    · rw [List.getElem?_set_ne e] at h1
      refine ownsRow_setCell_other (h.row r' row' p' h1 h2) (a := ⟨p.1, i, none⟩) ?_ _
      show some p'.1 ≠ some p.1
      have := h.apart r r' p p' e hp h2
      intro e2
      exact this (Option.some.inj e2).symm
/-- a row has grown, and its slice is stored -/
theorem SR.grow (h : SR B w v rows gs) {g cap : Nat} (hv : v = .slice (some ⟨g, 0, none⟩) rows.length cap) {r : Nat} {row : List Int} {p : Nat × Nat} (hr : rows[r]? = some row) (hp : gs[r]? = some p) {n : Int} {W w2 : World}
    (hW : Below w.heap.size w W) {g2 cap2 : Nat} (hg : W.grownBy w2 (some p.1)) (hown : w2.ownsRow B 3 1 (.slice (some ⟨g2, 0, none⟩) (row.length + 1) cap2) (row.length + 1) (ints row ++ [.int .i64 n])) (hat : p.1 = g2 ∨ w.heap.size ≤ g2) :
    SR B (w2.setCell ⟨g, r, none⟩ (.slice (some ⟨g2, 0, none⟩) (row.length + 1) cap2)) v (rows.set r (row ++ [n])) (gs.set r (g2, cap2)) := by
  have hW' := h.below hW
  have hlt := (List.getElem?_eq_some_iff.1 hr).1
  have hltg : r < gs.length := by rw [h.len]; exact hlt
  have hvb : v.ownBlock = some g := by rw [hv]; rfl
  have hgp : g ≠ p.1 := fun e => h.out r p hp (by rw [hvb, e])
  have hglt : g < w.heap.size := (h.own.lt g hvb).2
  have hg2 : g2 ≠ g := by
    rcases hat with e | e
    · rw [← e]; exact Ne.symm hgp
    · omega
  have hkept : ∀ {E : TypeId} {u : Value} {m : Nat} {ys : List Value}, W.ownsRow B E 1 u m ys → u.ownBlock ≠ some p.1 → w2.ownsRow B E 1 u m ys := by
    intro E u m ys ho hne
    refine ho.kept hg ?_
    exact .inr hne
  refine ⟨by rw [List.length_set, List.length_set]; exact h.len, ?_, ?_, ?_, ?_⟩
  · have ho := hkept hW'.own (h.out r p hp)
    rw [hv] at ho
    have := own_set ho r (.slice (some ⟨g2, 0, none⟩) (row.length + 1) cap2)
    rw [List.length_set, hv, zip_set]
    have e : rowV (row ++ [n]) (g2, cap2) = .slice (some ⟨g2, 0, none⟩) (row.length + 1) cap2 := by simp [rowV]
    rw [e]
    exact this
  · intro r' row' p' h1 h2
    by_cases e : r = r'
    · subst e
      rw [List.getElem?_set_self hltg] at h2
      rw [List.getElem?_set_self hlt] at h1
      obtain rfl := Option.some.inj h2
      obtain rfl := Option.some.inj h1
      have e1 : ints (row ++ [n]) = ints row ++ [.int .i64 n] := by simp [ints]
      have e2 : (row ++ [n]).length = row.length + 1 := by simp
      unfold rowV
      rw [e1, e2]
      exact ownsRow_setCell_other hown (a := ⟨g, r, none⟩) (by show some g2 ≠ some g; intro e; exact hg2 (Option.some.inj e)) _
    · rw [List.getElem?_set_ne e] at h1 h2
      have ho := hkept (hW'.row r' row' p' h1 h2) (by show some p'.1 ≠ some p.1; intro e2; exact h.apart r r' p p' e hp h2 (Option.some.inj e2).symm)
      refine ownsRow_setCell_other ho (a := ⟨g, r, none⟩) ?_ _
      show some p'.1 ≠ some g
      intro e2
      exact h.out r' p' h2 (by rw [hvb]; exact e2.symm)
  · intro r1 r2 p1 p2 hne h1 h2
    rw [List.getElem?_set] at h1 h2
    by_cases e1 : r = r1
    · subst e1
      rw [if_pos rfl, if_pos hltg] at h1
      rw [if_neg hne] at h2
      obtain rfl := Option.some.inj h1
      obtain ⟨row2, hrow2⟩ : ∃ row2, rows[r2]? = some row2 := ⟨_, List.getElem?_eq_getElem (by rw [← h.len]; exact (List.getElem?_eq_some_iff.1 h2).1)⟩
      have hl2 := (h.lt hrow2 h2).2
      have ha := h.apart r r2 p p2 hne hp h2
      show g2 ≠ p2.1
      rcases hat with e | e <;> omega
    · rw [if_neg e1] at h1
      by_cases e2 : r = r2
      · subst e2
        rw [if_pos rfl, if_pos hltg] at h2
        obtain rfl := Option.some.inj h2
        obtain ⟨row1, hrow1⟩ : ∃ row1, rows[r1]? = some row1 := ⟨_, List.getElem?_eq_getElem (by rw [← h.len]; exact (List.getElem?_eq_some_iff.1 h1).1)⟩
        have hl1 := (h.lt hrow1 h1).2
        have ha := h.apart r1 r p1 p hne h1 hp
        show p1.1 ≠ g2
        rcases hat with e | e <;> omega
      · rw [if_neg e2] at h2
        exact h.apart r1 r2 p1 p2 hne h1 h2
  · intro r1 p1 h1
    rw [List.getElem?_set] at h1
    by_cases e1 : r = r1
    · subst e1
      rw [if_pos rfl, if_pos hltg] at h1
      obtain rfl := Option.some.inj h1
      rw [hvb]
      intro e
      exact hg2 (Option.some.inj e).symm
    · rw [if_neg e1] at h1
      exact h.out r1 p1 h1
/-- a new row behind all -/
theorem SR.push (h : SR B w v rows gs) {n : Int} {o : Obj} {w2 : World} {g2 cap2 : Nat} (hB : B ≤ w.heap.size)
    (hg : ((w.alloc (.cells #[.int .i64 n] 3)).alloc o).grownBy w2 v.ownBlock)
    (hown : w2.ownsRow B 22 1 (.slice (some ⟨g2, 0, none⟩) (rows.length + 1) cap2) (rows.length + 1) (List.zipWith rowV rows gs ++ [.slice (some ⟨w.heap.size, 0, none⟩) 1 1])) (hat : v.ownBlock = some g2 ∨ g2 = w.heap.size + 2) :
    SR B w2 (.slice (some ⟨g2, 0, none⟩) (rows.length + 1) cap2) (rows ++ [[n]]) (gs ++ [(w.heap.size, 1)]) := by
  have hW : Below w.heap.size w ((w.alloc (.cells #[.int .i64 n] 3)).alloc o) := bmore (bnew _ _) _
  have hW' := h.below hW
  have hvlt : ∀ b, v.ownBlock = some b → b < w.heap.size := fun b hb => (h.own.lt b hb).2
  have hplt : ∀ (r : Nat) (p : Nat × Nat), gs[r]? = some p → p.1 < w.heap.size := fun r p hp => by
    obtain ⟨row, hrow⟩ : ∃ row, rows[r]? = some row := ⟨_, List.getElem?_eq_getElem (by rw [← h.len]; exact (List.getElem?_eq_some_iff.1 hp).1)⟩
    exact (h.lt hrow hp).2
  refine ⟨by simp [h.len], ?_, ?_, ?_, ?_⟩
  · rw [List.length_append, List.zipWith_append h.len.symm]
    exact hown
  · intro r row p h1 h2
    rw [List.getElem?_append] at h1 h2
    rw [h.len] at h2
    by_cases hr : r < rows.length
    · rw [if_pos hr] at h1 h2
      exact (hW'.row r row p h1 h2).kept hg (.inr fun e => h.out r p h2 e.symm)
    · rw [if_neg hr] at h1 h2
      have hz : r - rows.length = 0 := by
        have := (List.getElem?_eq_some_iff.1 h1).1
        simp at this
        omega
      rw [hz] at h1 h2
      obtain rfl := Option.some.inj h1
      obtain rfl := Option.some.inj h2
      refine ⟨by simp [ints], .inr ⟨w.heap.size, 1, #[.int .i64 n], rfl, hB, ?_, by simp, by unfold maxLen; omega, by simp, by simp [ints]⟩⟩
      rw [hg.block w.heap.size (by simp; omega) (fun e => by have := hvlt _ e.symm; omega), Below.heap_alloc _ _ _ (by simp)]
      exact heap_alloc_new w _
  · intro r1 r2 p1 p2 hne h1 h2
    rw [List.getElem?_append] at h1 h2
    by_cases hr1 : r1 < gs.length <;> by_cases hr2 : r2 < gs.length
    · rw [if_pos hr1] at h1
      rw [if_pos hr2] at h2
      exact h.apart r1 r2 p1 p2 hne h1 h2
    · rw [if_pos hr1] at h1
      rw [if_neg hr2] at h2
      have := hplt r1 p1 h1
      have hz : p2 = (w.heap.size, 1) := by simpa using List.mem_of_getElem? h2
      rw [hz]; show p1.1 ≠ w.heap.size; omega
    · rw [if_neg hr1] at h1
      rw [if_pos hr2] at h2
      have := hplt r2 p2 h2
      have hz : p1 = (w.heap.size, 1) := by simpa using List.mem_of_getElem? h1
      rw [hz]; show w.heap.size ≠ p2.1; omega
    · rw [if_neg hr1] at h1
      rw [if_neg hr2] at h2
      have a1 := (List.getElem?_eq_some_iff.1 h1).1
      have a2 := (List.getElem?_eq_some_iff.1 h2).1
      simp at a1 a2
      omega
  · intro r p h1
    rw [List.getElem?_append] at h1
    show some g2 ≠ some p.1
    intro e
    have e := Option.some.inj e
    by_cases hr : r < gs.length
    · rw [if_pos hr] at h1
      have := hplt r p h1
      rcases hat with h2 | h2
      · exact h.out r p h1 (by rw [h2, e])
      · omega
    · rw [if_neg hr] at h1
      have hz : p = (w.heap.size, 1) := by simpa using List.mem_of_getElem? h1
      rw [hz] at e
      rcases hat with h2 | h2
      · have := hvlt _ h2; have : g2 = w.heap.size := e; omega
      · have : g2 = w.heap.size := e; omega
end
theorem infoSl : (Tryd.prog.info? 22).map (fun i => (i.zero, i.size, i.bytes)) = some (some (.slice none 0 0), 1, 24) := by kernel_rfl
theorem slice_oneCell (A : Option Addr) (n c : Nat) : ∀ u ∈ [Value.slice A n c], u.oneCell' = true := by intro u hu; simp at hu; subst hu; rfl
end Go.Proofs.YtlchgjlinhakdaaDoor.Rs
