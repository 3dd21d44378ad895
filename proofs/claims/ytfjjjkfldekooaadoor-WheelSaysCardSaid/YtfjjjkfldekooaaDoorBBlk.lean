/-
  Blocks of booleans that the call itself made.
-/
import Derived.Test.YtfjjjkfldekooaaDoorIBlk
namespace Go.Proofs.YtfjjjkfldekooaaDoor
open Go.RowKit
set_option linter.unusedVariables false

def bools (l : List Bool) : List Value := l.map Value.bool
theorem bools_get (l : List Bool) (k : Nat) : (bools l)[k]? = (l[k]?).map Value.bool := by simp [bools]
/-- block g is just the row of booleans l -/
def BBlk (w : World) (g : Nat) (l : List Bool) : Prop := w.heap[g]? = some (.cells (bools l).toArray 4 (0, 0))
section
variable {w w' : World} {g : Nat} {l : List Bool}
theorem BBlk.lt (h : BBlk w g l) : g < w.heap.size := by
  rcases Nat.lt_or_ge g w.heap.size with hlt | hge
  · exact hlt
  · unfold BBlk at h; rw [Array.getElem?_eq_none hge] at h; cases h
theorem BBlk.cell (h : BBlk w g l) {i : Nat} {n : Bool} (hn : l[i]? = some n) : w.cell? ⟨g, i, none⟩ = some (.bool n) := by
  rw [cell_of_row w g i _ _ (0, 0) h]
  simp [bools_get, hn]
theorem BBlk.frozen (h : BBlk w g l) (i : Nat) : w.frozen? ⟨g, i, none⟩ = false := by
  unfold BBlk at h
  simp [World.frozen?, h]
theorem BBlk.set_ (h : BBlk w g l) (i : Nat) (n : Bool) : BBlk (w.setCell ⟨g, i, none⟩ (.bool n)) g (l.set i n) := by
  unfold BBlk at h ⊢
  simp [World.setCell, Array.getElem?_modify, h, bools, List.map_set]
theorem BBlk.kept {row : Option Nat} (h : BBlk w g l) (hg : w.grownBy w' row) (hne : some g ≠ row) : BBlk w' g l := (hg.block g h.lt hne).trans h
theorem BBlk.alloc (h : BBlk w g l) (o : Obj) : BBlk (w.alloc o) g l := (Below.heap_alloc w o g h.lt).trans h
theorem BBlk.drewN (h : BBlk w g l) (n : Nat) : BBlk (w.drewN n) g l := h
theorem BBlk.below {B : Nat} (h : BBlk w g l) (hb : Below B w w') (hB : g < B) : BBlk w' g l := (hb.block g hB).trans h
theorem BBlk.new (w : World) (l : List Bool) : BBlk (w.alloc (.cells (bools l).toArray 4)) w.heap.size l := heap_alloc_new w _
end
theorem infoBool : (Tryd.prog.info? 4).map (fun i => (i.zero, i.size, i.bytes)) = some (some (.bool false), 1, 1) := by kernel_rfl
theorem made_bools (n : Nat) : madeCells (Value.bool false).cells n = (bools (List.replicate n false)).toArray := by
  apply Array.toList_inj.1
  show (madeCells #[Value.bool false] n).toList = bools (List.replicate n false)
  rw [toList_madeCells_one]
  simp [bools]
/-- make([]bool, n) -/
theorem run_make_bools (w : World) (z : Int) (n : Nat) (hz : z = (n : Int)) (hn : n ≤ 1000000) :
    (Instr.makeSlice 57 (.int .i64 z) (.int .i64 z)).run Tryd.prog w = .ok (.slice (some ⟨w.heap.size, 0, none⟩) n n) (w.alloc (.cells (bools (List.replicate n false)).toArray 4)) := by
  subst hz
  obtain ⟨i0, hi, hz0, hz1, hz2⟩ := info_parts infoBool
  have h := run_make (P := Tryd.prog) w 57 4 i0 (.bool false) Tryd.underlying57 hi hz0 .i64 .i64 (n : Int) (n : Int) (by omega) (Int.le_refl _) (by rw [hz2]; omega) (by omega)
  rw [h, hz1]
  simp only [Int.toNat_natCast, Nat.mul_one]
  exact congrArg (fun cs => Result.ok (Value.slice (some ⟨w.heap.size, 0, none⟩) n n) (w.alloc (.cells cs 4))) (made_bools n)
end Go.Proofs.YtfjjjkfldekooaaDoor
