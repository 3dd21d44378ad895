/-
  A block of one-cell values, and make of a slice of slices.
-/
import Derived.Test.YtjlgjadkcpdpmaaDoorCoPlain
import Derived.Test.YtjlgjadkcpdpmaaDoorBlk
namespace Go.Proofs.YtjlgjadkcpdpmaaDoor.Co
open Go.RowKit
set_option linter.unusedVariables false

/-- block g is just the row of slices l -/
def SBlk (w : World) (g : Nat) (l : List Value) : Prop := w.heap[g]? = some (.cells l.toArray 34 (0, 0))
section
variable {w w' : World} {g : Nat} {l : List Value}
theorem SBlk.lt (h : SBlk w g l) : g < w.heap.size := by
  rcases Nat.lt_or_ge g w.heap.size with hlt | hge
  · exact hlt
  · unfold SBlk at h; rw [Array.getElem?_eq_none hge] at h; cases h
theorem SBlk.cell (h : SBlk w g l) {i : Nat} {v : Value} (hn : l[i]? = some v) : w.cell? ⟨g, i, none⟩ = some v := by
  rw [cell_of_row w g i _ _ (0, 0) h]
  simpa using hn
theorem SBlk.frozen (h : SBlk w g l) (i : Nat) : w.frozen? ⟨g, i, none⟩ = false := by
  unfold SBlk at h
  simp [World.frozen?, h]
theorem SBlk.set_ (h : SBlk w g l) (i : Nat) (v : Value) : SBlk (w.setCell ⟨g, i, none⟩ v) g (l.set i v) := by
  unfold SBlk at h ⊢
  simp [World.setCell, Array.getElem?_modify, h]
theorem SBlk.below {B : Nat} (h : SBlk w g l) (hb : Below B w w') (hB : g < B) : SBlk w' g l := (hb.block g hB).trans h
theorem SBlk.alloc (h : SBlk w g l) (o : Obj) : SBlk (w.alloc o) g l := (Below.heap_alloc w o g h.lt).trans h
theorem SBlk.drewN (h : SBlk w g l) (n : Nat) : SBlk (w.drewN n) g l := h
theorem SBlk.far (h : SBlk w g l) {p : Addr} (hp : g ≠ p.block) (u : Value) : SBlk (w.setCell p u) g l := (Below.heap_setCell w p u g hp).trans h
theorem SBlk.new (w : World) (l : List Value) : SBlk (w.alloc (.cells l.toArray 34)) w.heap.size l := heap_alloc_new w _
end
theorem infoSl : (Tryd.prog.info? 34).map (fun i => (i.zero, i.size, i.bytes)) = some (some (.slice none 0 0), 1, 24) := by kernel_rfl
theorem made_sl (n : Nat) : madeCells (Value.slice none 0 0).cells n = (List.replicate n (Value.slice none 0 0)).toArray := by
  apply Array.toList_inj.1
  show (madeCells #[Value.slice none 0 0] n).toList = List.replicate n (Value.slice none 0 0)
  rw [toList_madeCells_one]
/-- make([][]int, n) -/
theorem run_make_sl (w : World) (z : Int) (n : Nat) (hz : z = (n : Int)) (hn : n ≤ 1000000) :
    (Instr.makeSlice 35 (.int .i64 z) (.int .i64 z)).run Tryd.prog w = .ok (.slice (some ⟨w.heap.size, 0, none⟩) n n) (w.alloc (.cells (List.replicate n (Value.slice none 0 0)).toArray 34)) := by
  subst hz
  obtain ⟨i0, hi, hz0, hz1, hz2⟩ := info_parts infoSl
  have h := run_make (P := Tryd.prog) w 35 34 i0 (.slice none 0 0) Tryd.underlying35 hi hz0 .i64 .i64 (n : Int) (n : Int) (by omega) (Int.le_refl _) (by rw [hz2]; omega) (by omega)
  rw [h, hz1]
  simp only [Int.toNat_natCast, Nat.mul_one]
  exact congrArg (fun cs => Result.ok (Value.slice (some ⟨w.heap.size, 0, none⟩) n n) (w.alloc (.cells cs 34))) (made_sl n)

/-- row i of the table lies in block G + 1 + (n - i) -/
def rowAt (G n m i : Nat) : Value := .slice (some ⟨G + 1 + (n - i), 0, none⟩) (m + 1) (m + 1)
/-- the rows from i on are laid, the row i of them from j on -/
structure Tab (w : World) (G : Nat) (a b : List UInt8) (i j : Nat) : Prop where
  outer : ∃ l, SBlk w G l ∧ l.length = a.length + 1 ∧ ∀ i', i ≤ i' → i' ≤ a.length → l[i']? = some (rowAt G a.length b.length i')
  rows : ∀ i', i ≤ i' → i' ≤ a.length → ∃ r, IBlk w (G + 1 + (a.length - i')) r ∧ r.length = b.length + 1 ∧ ∀ j', (i < i' ∨ j ≤ j') → j' ≤ b.length → r[j']? = some (lcs (a.drop i') (b.drop j') : Int)
  size : i ≤ a.length → G + 1 + (a.length - i) < w.heap.size
section
variable {w : World} {G : Nat} {a b : List UInt8} {i j : Nat}
theorem Tab.drewN (h : Tab w G a b i j) (n : Nat) : Tab (w.drewN n) G a b i j := ⟨h.outer, h.rows, h.size⟩
/-- a row's slice -/
theorem Tab.slice (h : Tab w G a b i j) {i' : Nat} (h1 : i ≤ i') (h2 : i' ≤ a.length) : w.cell? ⟨G, i', none⟩ = some (rowAt G a.length b.length i') := by
  obtain ⟨l, hl, _, hc⟩ := h.outer
  exact hl.cell (hc i' h1 h2)
/-- a number -/
theorem Tab.num (h : Tab w G a b i j) {i' j' : Nat} (h1 : i ≤ i') (h2 : i' ≤ a.length) (h3 : i < i' ∨ j ≤ j') (h4 : j' ≤ b.length) :
    w.cell? ⟨G + 1 + (a.length - i'), j', none⟩ = some (.int .i64 (lcs (a.drop i') (b.drop j') : Int)) := by
  obtain ⟨r, hr, _, hc⟩ := h.rows i' h1 h2
  exact hr.cell (hc j' h3 h4)
theorem Tab.frozen (h : Tab w G a b i j) (hi : i ≤ a.length) (k : Nat) : w.frozen? ⟨G + 1 + (a.length - i), k, none⟩ = false := by
  obtain ⟨r, hr, _, _⟩ := h.rows i (Nat.le_refl _) hi
  exact hr.frozen k
theorem Tab.set_ (h : Tab w G a b i (j + 1)) (hi : i ≤ a.length) (hj : j < b.length) {n : Int} (hn : n = (lcs (a.drop i) (b.drop j) : Int)) :
    Tab (w.setCell ⟨G + 1 + (a.length - i), j, none⟩ (.int .i64 n)) G a b i j := by
  obtain ⟨l, hl, hll, hlc⟩ := h.outer
  refine ⟨⟨l, hl.far (by show G ≠ G + 1 + (a.length - i); omega) _, hll, hlc⟩, ?_, fun hi' => by have := h.size hi'; simpa [World.setCell] using this⟩
  intro i' h1 h2
  obtain ⟨r, hr, hrl, hrc⟩ := h.rows i' h1 h2
  by_cases he : i' = i
  · subst he
    refine ⟨r.set j n, hr.set_ j n, by rw [List.length_set]; exact hrl, ?_⟩
    intro j' h3 h4
    by_cases hjj : j' = j
    · subst hjj
      rw [List.getElem?_set_self (by omega), hn]
    · rw [List.getElem?_set_ne (fun e => hjj e.symm)]
      exact hrc j' (by omega) h4
  · exact ⟨r, hr.far (by show G + 1 + (a.length - i') ≠ G + 1 + (a.length - i); omega) _, hrl, fun j' h3 h4 => hrc j' (by omega) h4⟩
/-- a new row, of noughts, is laid and its slice is stored -/
theorem Tab.row (h : Tab w G a b (i + 1) 0) (hi : i ≤ a.length) (hs : w.heap.size = G + 1 + (a.length - i)) (ho : ∃ l, SBlk w G l ∧ l.length = a.length + 1) :
    Tab ((w.alloc (.cells (ints (List.replicate (b.length + 1) 0)).toArray 3)).setCell ⟨G, i, none⟩ (rowAt G a.length b.length i)) G a b i b.length := by
  obtain ⟨l, hl, hll, hlc⟩ := h.outer
  refine ⟨⟨l.set i (rowAt G a.length b.length i), (hl.alloc _).set_ i _, by rw [List.length_set]; exact hll, ?_⟩, ?_, ?_⟩
  · intro i' h1 h2
    by_cases he : i' = i
    · subst he
      rw [List.getElem?_set_self (by omega)]
    · rw [List.getElem?_set_ne (fun e => he e.symm)]
      exact hlc i' (by omega) h2
  · intro i' h1 h2
    by_cases he : i' = i
    · subst he
      have hn := IBlk.new w (List.replicate (b.length + 1) 0)
      rw [hs] at hn
      refine ⟨_, hn.far (by show G + 1 + (a.length - i') ≠ G; omega) _, by simp, ?_⟩
      intro j' h3 h4
      have : j' = b.length := by omega
      subst this
      rw [List.drop_eq_nil_of_le (Nat.le_refl _), lcs_nil_right]
      simp
    · obtain ⟨r, hr, hrl, hrc⟩ := h.rows i' (by omega) h2
      exact ⟨r, (hr.alloc _).far (by show G + 1 + (a.length - i') ≠ G; omega) _, hrl, fun j' h3 h4 => hrc j' (by omega) h4⟩
  · intro _
    simp [World.setCell]
    omega
/-- the last row: noughts are right -/
theorem Tab.row0 (h : Tab w G a b (a.length + 1) 0) (hs : w.heap.size = G + 1) :
    Tab ((w.alloc (.cells (ints (List.replicate (b.length + 1) 0)).toArray 3)).setCell ⟨G, a.length, none⟩ (rowAt G a.length b.length a.length)) G a b a.length 0 := by
  have h0 := Tab.row (i := a.length) h (Nat.le_refl _) (by omega) (h.outer.imp fun l h => ⟨h.1, h.2.1⟩)
  refine ⟨h0.outer, ?_, h0.size⟩
  intro i' h1 h2
  obtain rfl : i' = a.length := by omega
  have hn := IBlk.new w (List.replicate (b.length + 1) 0)
  rw [hs] at hn
  refine ⟨List.replicate (b.length + 1) 0, ?_, by simp, ?_⟩
  · have e : G + 1 + (a.length - a.length) = G + 1 := by omega
    rw [e]
    exact hn.far (by show G + 1 ≠ G; omega) _
  · intro j' h3 h4
    rw [List.drop_eq_nil_of_le (Nat.le_refl a.length), lcs_nil, List.getElem?_replicate, if_pos (by omega)]
    rfl
end
end Go.Proofs.YtjlgjadkcpdpmaaDoor.Co
