/-
  Blocks of texts that the call itself made.
-/
import Derived.Test.YtfjjjkfldekooaaBs
namespace Go.Proofs.Ytfjjjkfldekooaa
open Go.RowKit
set_option linter.unusedVariables false

/-- a list of bytes as a text -/
def ba (c : List UInt8) : ByteArray := ⟨c.toArray⟩
theorem bs_ba (c : List UInt8) : bs (ba c) = c := by simp [bs, ba]
theorem ba_bs (s : ByteArray) : ba (bs s) = s := bs_inj (bs_ba _)
theorem ba_size (c : List UInt8) : (ba c).size = c.length := by rw [← bs_length, bs_ba]
theorem map_bs_ba (l : List (List UInt8)) : (l.map ba).map bs = l := by rw [List.map_map, show (bs ∘ ba : List UInt8 → List UInt8) = id from funext bs_ba, List.map_id]
/-- block g is just the row of texts l -/
def SBlk (w : World) (g : Nat) (l : List (List UInt8)) : Prop := w.heap[g]? = some (.cells (texts (l.map ba)).toArray 9 (0, 0))
section
variable {w w' : World} {g : Nat} {l : List (List UInt8)}
theorem SBlk.lt (h : SBlk w g l) : g < w.heap.size := by
  rcases Nat.lt_or_ge g w.heap.size with hlt | hge
  · exact hlt
  · unfold SBlk at h; rw [Array.getElem?_eq_none hge] at h; cases h
theorem SBlk.cell (h : SBlk w g l) {i : Nat} {c : List UInt8} (hn : l[i]? = some c) : w.cell? ⟨g, i, none⟩ = some (.string (ba c)) := by
  rw [cell_of_row w g i _ _ (0, 0) h]
  simp [texts_get, hn]
theorem SBlk.frozen (h : SBlk w g l) (i : Nat) : w.frozen? ⟨g, i, none⟩ = false := by
  unfold SBlk at h
  simp [World.frozen?, h]
theorem SBlk.set_ (h : SBlk w g l) (i : Nat) (c : List UInt8) : SBlk (w.setCell ⟨g, i, none⟩ (.string (ba c))) g (l.set i c) := by
  unfold SBlk at h ⊢
  simp [World.setCell, Array.getElem?_modify, h, texts, List.map_set]
theorem SBlk.kept {row : Option Nat} (h : SBlk w g l) (hg : w.grownBy w' row) (hne : some g ≠ row) : SBlk w' g l := (hg.block g h.lt hne).trans h
theorem SBlk.below {B : Nat} (h : SBlk w g l) (hb : Below B w w') (hB : g < B) : SBlk w' g l := (hb.block g hB).trans h
theorem SBlk.alloc (h : SBlk w g l) (o : Obj) : SBlk (w.alloc o) g l := (Below.heap_alloc w o g h.lt).trans h
theorem SBlk.drewN (h : SBlk w g l) (n : Nat) : SBlk (w.drewN n) g l := h
theorem SBlk.far (h : SBlk w g l) {p : Addr} (hp : g ≠ p.block) (u : Value) : SBlk (w.setCell p u) g l := (Below.heap_setCell w p u g hp).trans h
theorem SBlk.new (w : World) (l : List (List UInt8)) : SBlk (w.alloc (.cells (texts (l.map ba)).toArray 9)) w.heap.size l := heap_alloc_new w _
theorem SBlk.reads (h : SBlk w g l) : Reads w (some ⟨g, 0, none⟩) l.length 1 (texts (l.map ba)) :=
  ⟨by simp [texts], fun _ => ⟨g, 0, rfl, h.lt, fun j u hu => by
    rw [texts_get, List.getElem?_map, Option.map_map] at hu
    obtain ⟨c, hc, rfl⟩ := Option.map_eq_some_iff.1 hu
    rw [Nat.zero_add]
    exact h.cell hc⟩⟩
end
theorem infoStr : (Try.prog.info? 9).map (fun i => (i.zero, i.size, i.bytes)) = some (some (.string ⟨#[]⟩), 1, 16) := by kernel_rfl
theorem made_texts (n : Nat) : madeCells (Value.string ⟨#[]⟩).cells n = (texts ((List.replicate n []).map ba)).toArray := by
  apply Array.toList_inj.1
  show (madeCells #[Value.string ⟨#[]⟩] n).toList = texts ((List.replicate n []).map ba)
  rw [toList_madeCells_one]
  simp [texts, ba]
/-- make([]string, n) -/
theorem run_make_texts (w : World) (z : Int) (n : Nat) (hz : z = (n : Int)) (hn : n ≤ 1000000) :
    (Instr.makeSlice 47 (.int .i64 z) (.int .i64 z)).run Try.prog w = .ok (.slice (some ⟨w.heap.size, 0, none⟩) n n) (w.alloc (.cells (texts ((List.replicate n []).map ba)).toArray 9)) := by
  subst hz
  obtain ⟨i0, hi, hz0, hz1, hz2⟩ := info_parts infoStr
  have h := run_make (P := Try.prog) w 47 9 i0 (.string ⟨#[]⟩) Try.underlying47 hi hz0 .i64 .i64 (n : Int) (n : Int) (by omega) (Int.le_refl _) (by rw [hz2]; omega) (by omega)
  rw [h, hz1]
  simp only [Int.toNat_natCast, Nat.mul_one]
  exact congrArg (fun cs => Result.ok (Value.slice (some ⟨w.heap.size, 0, none⟩) n n) (w.alloc (.cells cs 9))) (made_texts n)
end Go.Proofs.Ytfjjjkfldekooaa
