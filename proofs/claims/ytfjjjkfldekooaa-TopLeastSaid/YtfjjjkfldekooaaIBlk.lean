/-
  Blocks of numbers that the call itself made.
-/
import Derived.Test.YtfjjjkfldekooaaBase
namespace Go.Proofs.Ytfjjjkfldekooaa
open Go.RowKit
set_option linter.unusedVariables false

/-- block g is just the row of numbers l -/
def IBlk (w : World) (g : Nat) (l : List Int) : Prop := w.heap[g]? = some (.cells (ints l).toArray 3 (0, 0))
section
variable {w w' : World} {g : Nat} {l : List Int}
theorem IBlk.lt (h : IBlk w g l) : g < w.heap.size := by
  rcases Nat.lt_or_ge g w.heap.size with hlt | hge
  · exact hlt
  · unfold IBlk at h; rw [Array.getElem?_eq_none hge] at h; cases h
theorem IBlk.cell (h : IBlk w g l) {i : Nat} {n : Int} (hn : l[i]? = some n) : w.cell? ⟨g, i, none⟩ = some (.int .i64 n) := by
  rw [cell_of_row w g i _ _ (0, 0) h]
  simp [ints_get, hn]
theorem IBlk.frozen (h : IBlk w g l) (i : Nat) : w.frozen? ⟨g, i, none⟩ = false := by
  unfold IBlk at h
  simp [World.frozen?, h]
theorem IBlk.set_ (h : IBlk w g l) (i : Nat) (n : Int) : IBlk (w.setCell ⟨g, i, none⟩ (.int .i64 n)) g (l.set i n) := by
  unfold IBlk at h ⊢
  simp [World.setCell, Array.getElem?_modify, h, ints, List.map_set]
theorem IBlk.kept {row : Option Nat} (h : IBlk w g l) (hg : w.grownBy w' row) (hne : some g ≠ row) : IBlk w' g l := (hg.block g h.lt hne).trans h
theorem IBlk.below {B : Nat} (h : IBlk w g l) (hb : Below B w w') (hB : g < B) : IBlk w' g l := (hb.block g hB).trans h
theorem IBlk.alloc (h : IBlk w g l) (o : Obj) : IBlk (w.alloc o) g l := (Below.heap_alloc w o g h.lt).trans h
theorem IBlk.drew (h : IBlk w g l) : IBlk w.drew g l := h
theorem IBlk.drewN (h : IBlk w g l) (n : Nat) : IBlk (w.drewN n) g l := h
theorem IBlk.far (h : IBlk w g l) {p : Addr} (hp : g ≠ p.block) (u : Value) : IBlk (w.setCell p u) g l := (Below.heap_setCell w p u g hp).trans h
theorem IBlk.new (w : World) (l : List Int) : IBlk (w.alloc (.cells (ints l).toArray 3)) w.heap.size l := heap_alloc_new w _
theorem IBlk.reads (h : IBlk w g l) : Reads w (some ⟨g, 0, none⟩) l.length 1 (ints l) :=
  ⟨by simp [ints], fun _ => ⟨g, 0, rfl, h.lt, fun j u hu => by
    rw [ints_get] at hu
    obtain ⟨c, hc, rfl⟩ := Option.map_eq_some_iff.1 hu
    rw [Nat.zero_add]
    exact h.cell hc⟩⟩
end
theorem infoI64 : (Try.prog.info? 3).map (fun i => (i.zero, i.size, i.bytes)) = some (some (.int .i64 0), 1, 8) := by kernel_rfl
theorem made_ints (n : Nat) : madeCells (Value.int .i64 0).cells n = (ints (List.replicate n 0)).toArray := by
  apply Array.toList_inj.1
  show (madeCells #[Value.int .i64 0] n).toList = ints (List.replicate n 0)
  rw [toList_madeCells_one]
  simp [ints]
/-- make([]int, n) -/
theorem run_make_ints (w : World) (z : Int) (n : Nat) (hz : z = (n : Int)) (hn : n ≤ 1000000) :
    (Instr.makeSlice 30 (.int .i64 z) (.int .i64 z)).run Try.prog w = .ok (.slice (some ⟨w.heap.size, 0, none⟩) n n) (w.alloc (.cells (ints (List.replicate n 0)).toArray 3)) := by
  subst hz
  obtain ⟨i0, hi, hz0, hz1, hz2⟩ := info_parts infoI64
  have h := run_make (P := Try.prog) w 30 3 i0 (.int .i64 0) Try.underlying30 hi hz0 .i64 .i64 (n : Int) (n : Int) (by omega) (Int.le_refl _) (by rw [hz2]; omega) (by omega)
  rw [h, hz1]
  have e : ((n : Int)).toNat * 1 = n := by omega
  simp only [Int.toNat_natCast, Nat.mul_one]
  exact congrArg (fun cs => Result.ok (Value.slice (some ⟨w.heap.size, 0, none⟩) n n) (w.alloc (.cells cs 3))) (made_ints n)
end Go.Proofs.Ytfjjjkfldekooaa
