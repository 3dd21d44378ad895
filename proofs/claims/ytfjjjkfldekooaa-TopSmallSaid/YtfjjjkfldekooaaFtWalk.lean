/-
  The walks of package front's functions: each returns what the plain functions (Ft) say.
-/
import Derived.Test.YtfjjjkfldekooaaBase
import Derived.Test.YtfjjjkfldekooaaFtPlain
import Derived.Lib.BytesEntry
import Derived.Lib.IndexLaws
import Derived.Laws.CopyOwn
import Derived.Laws.IdiomStrings
import Derived.Deep.RegionLaw
namespace Go.Proofs.Ytfjjjkfldekooaa.Ft
open Go.RowKit

def u8s (l : List UInt8) : List Value := l.map fun c => .int .u8 (c.toNat : Int)
theorem u8s_length (l : List UInt8) : (u8s l).length = l.length := by simp [u8s]
theorem u8s_get (l : List UInt8) (k : Nat) : (u8s l)[k]? = (l[k]?).map fun c => Value.int .u8 (c.toNat : Int) := by simp [u8s]
theorem info8 : (Try.prog.info? 5).map (fun i => (i.zero, i.size, i.bytes)) = some (some (.int .u8 0), 1, 1) := by kernel_rfl
theorem size8 : (Try.prog.info? 5).map (·.size) = some 1 := by kernel_rfl
theorem info64 : (Try.prog.info? 3).map (fun i => (i.zero, i.size, i.bytes)) = some (some (.int .i64 0), 1, 8) := by kernel_rfl

/-- block g is just the row of bytes l -/
def Blk (w : World) (g : Nat) (l : List UInt8) : Prop := w.heap[g]? = some (.cells (u8s l).toArray 5 (0, 0))
theorem Blk.lt {w : World} {g : Nat} {l : List UInt8} (h : Blk w g l) : g < w.heap.size := by
  rcases Nat.lt_or_ge g w.heap.size with hlt | hge
  · exact hlt
  · unfold Blk at h; rw [Array.getElem?_eq_none hge] at h; cases h
theorem Blk.cell {w : World} {g : Nat} {l : List UInt8} (h : Blk w g l) {i : Nat} {c : UInt8} (hc : l[i]? = some c) : w.cell? ⟨g, i, none⟩ = some (.int .u8 (c.toNat : Int)) := by
  rw [cell_of_row w g i _ _ (0, 0) h]
  simp [u8s_get, hc]
theorem Blk.frozen {w : World} {g : Nat} {l : List UInt8} (h : Blk w g l) (i : Nat) : w.frozen? ⟨g, i, none⟩ = false := by
  unfold Blk at h
  simp [World.frozen?, h]
theorem Blk.set_ {w : World} {g : Nat} {l : List UInt8} (h : Blk w g l) (i : Nat) (c : UInt8) : Blk (w.setCell ⟨g, i, none⟩ (.int .u8 (c.toNat : Int))) g (l.set i c) := by
  unfold Blk at h ⊢
  simp [World.setCell, Array.getElem?_modify, h, u8s, List.map_set]
theorem Blk.kept {w w' : World} {g : Nat} {l : List UInt8} {row : Option Nat} (h : Blk w g l) (hg : w.grownBy w' row) (hne : some g ≠ row) : Blk w' g l := (hg.block g h.lt hne).trans h
theorem Blk.below {w w' : World} {g : Nat} {l : List UInt8} (h : Blk w g l) (hb : Below w.heap.size w w') : Blk w' g l := (hb.block g h.lt).trans h
theorem Blk.alloc {w : World} {g : Nat} {l : List UInt8} (h : Blk w g l) (o : Obj) : Blk (w.alloc o) g l := (Below.heap_alloc w o g h.lt).trans h
theorem Blk.reads {w : World} {g : Nat} {l : List UInt8} (h : Blk w g l) : Reads w (some ⟨g, 0, none⟩) l.length 1 (u8s l) :=
  ⟨by simp [u8s], fun _ => ⟨g, 0, rfl, h.lt, fun j u hu => by
    rw [u8s_get] at hu
    obtain ⟨c, hc, rfl⟩ := Option.map_eq_some_iff.1 hu
    rw [Nat.zero_add]
    exact h.cell hc⟩⟩

/-! ### fresh -/
def zeros : List UInt8 := List.replicate 256 0
def upto (k : Nat) : List UInt8 := (List.range k).map UInt8.ofNat ++ List.replicate (256 - k) 0
theorem upto_set (k : Nat) (h : k < 256) : (upto k).set k (UInt8.ofNat k) = upto (k + 1) := by
  unfold upto
  rw [List.set_append_right _ _ (by simp), List.range_succ, show 256 - k = (256 - (k + 1)) + 1 by omega, List.replicate_succ]
  simp
theorem upto_all : upto 256 = allB := by simp [upto, allB]
theorem upto0 : upto 0 = List.replicate 256 0 := by unfold upto; rw [List.range_zero, List.map_nil, List.nil_append, Nat.sub_zero]
theorem made8 (n : Nat) : madeCells (Value.int .u8 0).cells n = (u8s (List.replicate n 0)).toArray := by
  apply Array.toList_inj.1
  show (madeCells #[Value.int .u8 0] n).toList = u8s (List.replicate n 0)
  rw [toList_madeCells_one]
  simp [u8s]
theorem run_make256 (w : World) : (Instr.makeSlice 53 (.int .i64 256) (.int .i64 256)).run Try.prog w = .ok (.slice (some ⟨w.heap.size, 0, none⟩) 256 256) (w.alloc (.cells (u8s (upto 0)).toArray 5)) := by
  obtain ⟨i0, hi, hz0, hz1, hz2⟩ := info_parts info8
  have h := run_make (P := Try.prog) w 53 5 i0 (.int .u8 0) Try.underlying53 hi hz0 .i64 .i64 256 256 (by omega) (Int.le_refl _) (by rw [hz2]; omega) (by omega)
  rw [h]
  rw [hz1, upto0]
  exact congrArg (fun cs => Result.ok (Value.slice (some ⟨w.heap.size, 0, none⟩) 256 256) (w.alloc (.cells cs 5))) (made8 256)

set_option maxHeartbeats 400000 in
set_option maxRecDepth 100000 in
theorem fresh_any (w : World) : Calls Try.prog 37 #[] w fun e w' => e = .returned (.slice (some ⟨w.heap.size, 0, none⟩) 256 256) ∧ Blk w' w.heap.size allB ∧ Below w.heap.size w w' := by
  have hmk := run_make256
  go_enter Try.func37, Try.ntmps37
  go_wp2
  have h0 : Blk (w.alloc (.cells (u8s (upto 0)).toArray 5)) w.heap.size (upto 0) := heap_alloc_new w _
  generalize u8s (upto 0) = us at *
  go_loopw [6] (fun i wr => ∃ k : Nat, k ≤ 256 ∧ i = .int .i64 k ∧ Blk wr w.heap.size (upto k) ∧ Below w.heap.size w wr) (fun i _ => 256 - (intOf i).toNat)
  case atStart => exact ⟨0, by omega, rfl, h0, bnew _ _⟩
  case round =>
    obtain ⟨k, hk, rfl, hblk, hbel⟩ := hrel
    clear h0
    by_cases hlt : k < 256
    · obtain ⟨c, hc⟩ : ∃ c, (upto k)[k]? = some c := ⟨_, List.getElem?_eq_getElem (by simp [upto]; omega)⟩
      have hcell := hblk.cell hc
      have hfr := hblk.frozen k
      have hb := Lib.hid (hblk.set_ k (UInt8.ofNat k))
      clear hblk
      go_wp2
      go_roundw
      case rel => 
        refine ⟨k + 1, by omega, by go_num, ?_, hbel.setCell (Nat.le_refl _) _⟩
        have := hb.out
        rw [upto_set k hlt] at this
        have e : ((UInt8.ofNat k).toNat : Int) = (k : Int) := by simp; omega
        rw [e] at this
        exact this
      case measure => simp [intOf]; omega
    · obtain rfl : k = 256 := by omega
      rw [upto_all] at hblk
      go_wp2
      go_ret
      exact ⟨rfl, hblk, hbel⟩

/-! ### move -/
theorem step_copy_blk {P : Program} {ops : Array Oper} {o : Oper} {a : Act} {w : World} {K : Act → World → Prop} {Q : Exit → Act → World → Prop} {E : Prop} (hgd : o.guard = none) (d s : Operand) (dT sT : TypeId)
    (ho : o.op = .call { callee := .builtin .copy, args := #[d, s], argTypes := #[dT, sT] }) (elem : TypeId) (hu : P.underlying dT = some (.slice elem)) (hsz : (P.info? elem).map (·.size) = some 1)
    (dp sp : Option Addr) (dLen dCap sLen sCap : Nat) (hd : a.eval d = .slice dp dLen dCap) (hs : a.eval s = .slice sp sLen sCap)
    (g off : Nat) (cur : List Value) (t : TypeId) (hg : w.heap[g]? = some (.cells cur.toArray t (0, 0))) (cs : List Value) (hn : cs.length = Nat.min sLen dLen)
    (hpos : 0 < cs.length → dp = some ⟨g, off, none⟩ ∧ ∃ ad, sp = some ad ∧ ∀ (j : Nat) v, cs[j]? = some v → w.cell? (ad.add j) = some v)
    (hfit : off + cs.length ≤ cur.length) (h1 : ∀ v ∈ cs, v.oneCell' = true)
    (h : ∀ w', RowKit.Hid (w'.heap[g]? = some (.cells (splice cur off cs).toArray t (0, 0))) → w.grownBy w' (some g) → K (a.put o.dst (goInt cs.length)) w') :
    if Region.wanted o (yielded ops a.tmps) = true then Oper.wp P o a w K Q else E := by
  have hw : Region.wanted o (yielded ops a.tmps) = true := by simp [Region.wanted, hgd]
  rw [if_pos hw]
  by_cases h0 : cs.length = 0
  · obtain rfl : cs = [] := List.eq_nil_of_length_eq_zero h0
    have hrun := run_copy_none (P := P) w dT sT o.type elem dp sp dLen dCap sLen sCap hu hsz (by simpa using hn.symm)
    unfold Oper.wp
    simp [execOp, ho, resolve, invoke, builtin, hd, hs, hrun, Result.andThen]
    exact h w (show _ = _ by simpa [splice] using hg) (World.grownBy.refl _ _)
  · obtain ⟨rfl, ad, rfl, hsrc⟩ := hpos (by omega)
    have hrun := run_copy_row (P := P) w dT sT o.type elem g off dLen dCap ad sLen sCap cur.toArray t cs hu hsz hg hn hsrc (by simpa using hfit) h1
    unfold Oper.wp
    simp [execOp, ho, resolve, invoke, builtin, hd, hs, hrun, Result.andThen]
    exact h _ (show _ = _ by simpa [splice] using setRow_heap w g _ _ t _ hg) ⟨rfl, rfl, rfl, by simp [World.setRow], fun k _ hk => setRow_other w g k _ (fun e => hk (by rw [e]))⟩
theorem grown_drew {w w' : World} {row : Option Nat} (h : w.drew.grownBy w' row) : w.grownBy w' row := ⟨h.os, h.tape, h.output, h.size, h.block⟩
theorem grown_set {w w' : World} {g i : Nat} (h : w.grownBy w' (some g)) (v : Value) : w.grownBy (w'.setCell ⟨g, i, none⟩ v) (some g) := by
  refine ⟨h.os, h.tape, h.output, by simpa using h.size, fun k hk hne => ?_⟩
  rw [← h.block k hk hne]
  exact Below.heap_setCell w' ⟨g, i, none⟩ v k (fun e => hne (by rw [e]))
theorem u8s_oneCell (l : List UInt8) : ∀ u ∈ u8s l, u.oneCell' = true := by
  intro u hu
  simp only [u8s, List.mem_map] at hu
  obtain ⟨c, _, rfl⟩ := hu
  rfl
theorem splice_mv (row : List UInt8) (i : Nat) (h : i < row.length) : splice (u8s row) 1 (u8s (row.take i)) = u8s ((row.take 1 ++ (row.take i ++ row.drop (i + 1)))) := by
  unfold splice
  rw [u8s_length, List.length_take, Nat.min_eq_left (by omega), Nat.add_comm 1 i]
  simp [u8s, List.map_take, List.map_drop]
theorem set_mv (row : List UInt8) (i : Nat) (h : i < row.length) : (row.take 1 ++ (row.take i ++ row.drop (i + 1))).set 0 (row.getD i 0) = mv row i := by
  cases row with
  | nil => simp at h
  | cons c r => simp [mv]

set_option maxHeartbeats 400000 in
theorem move_any (w : World) (g : Nat) (row : List UInt8) (i : Nat) (hrow : row.length = 256) (hi : i < 256) (hblk : Blk w g row) :
    Calls Try.prog 39 #[.slice (some ⟨g, 0, none⟩) 256 256, .int .i64 i] w fun e w' => e = .returned (.int .u8 ((row.getD i 0).toNat : Int)) ∧ Blk w' g (mv row i) ∧ w.grownBy w' (some g) := by
  obtain ⟨c, hc⟩ : ∃ c, row[i]? = some c := ⟨_, List.getElem?_eq_getElem (by omega)⟩
  have hgd : row.getD i 0 = c := by simp [List.getD_eq_getElem?_getD, hc]
  have hs1 := splice_mv row i (by omega)
  have hs2 := set_mv row i (by omega)
  rw [hgd] at hs2 ⊢
  have hcell := hblk.cell hc
  have H1 := Lib.hid hs1; have H2 := Lib.hid hs2; have HB := Lib.hid hblk; have HL := Lib.hid hrow
  clear hs1 hs2 hc hgd hrow
  go_enter Try.func39, Try.ntmps39
  go_wp2
  have hpos : 0 < (u8s (row.take i)).length → some (⟨g, 1, none⟩ : Addr) = some ⟨g, 1, none⟩ ∧ ∃ ad : Addr, some (⟨g, 0, none⟩ : Addr) = some ad ∧ ∀ (j : Nat) v, (u8s (row.take i))[j]? = some v → w.drew.cell? (ad.add j) = some v := by
    intro _
    refine ⟨rfl, _, rfl, fun j v hv => ?_⟩
    rw [u8s_get] at hv
    obtain ⟨x, hx, rfl⟩ := Option.map_eq_some_iff.1 hv
    have e : (⟨g, 0, none⟩ : Addr).add j = ⟨g, j, none⟩ := by unfold Addr.add; split <;> simp_all
    rw [e]
    refine HB.out.cell (w := w) ?_
    rw [List.getElem?_take] at hx
    split at hx
    · exact hx
    · cases hx
  have hlen : (u8s (row.take i)).length = i := by rw [u8s_length, List.length_take, HL.out]; omega
  have hlen2 : (u8s row).length = 256 := by rw [u8s_length, HL.out]
  have hfit : 1 + (u8s (row.take i)).length ≤ (u8s row).length := by rw [hlen, hlen2]; omega
  have HP := Lib.hid hpos; have HE := Lib.hid (hlen.trans (Nat.min_self i).symm); have HF := Lib.hid hfit
  clear hpos hlen hlen2 hfit
  have k1 : (0 : Int) ≤ (i : Int) + 1 := by omega
  have k2 : (i : Int) + 1 ≤ 256 := by omega
  have k3 : (1 : Int) ≤ (i : Int) + 1 := by omega
  have k4 : (i : Int) ≤ 256 := by omega
  have q1 : IntKind.i64.wrap ((i : Int) + 1) = (i : Int) + 1 := IntWalk.i64_in _ (by omega)
  have q2 : max ((i : Int) + 1) 0 = (i : Int) + 1 := by omega
  have q3 : ((i : Int) + 1).toNat = i + 1 := by omega
  have q4 : max (i : Int) 0 = (i : Int) := by omega
  go_region_law (refine step_copy_blk rfl (.tmp 13) (.tmp 16) 53 53 ?_ 5 Try.underlying53 size8 (some ⟨g, 1, none⟩) (some ⟨g, 0, none⟩) i 255 i 256 ?_ ?_ g 1 (u8s row) 5 ?_ (u8s (row.take i)) HE.out ?_ HF.out (u8s_oneCell _) ?_; (focus rfl); (focus (simp [go_sem]; done)); (focus (simp [go_sem]; done)); exact HB.out; exact HP.out; intro w1 hb1 hg1)
  clear q1 q2 q3 q4 k1 k2 k3 k4
  have hb2 := hb1.out
  rw [H1.out] at hb2
  have HB1 : Blk w1 g (row.take 1 ++ (row.take i ++ row.drop (i + 1))) := hb2
  have hcell1 := HB1.cell (i := 0) (c := (row.take 1 ++ (row.take i ++ row.drop (i + 1))).getD 0 0) (by
    rw [List.getD_eq_getElem?_getD, List.getElem?_eq_getElem (by have := HL.out; simp; omega)]; rfl)
  have hfr := HB1.frozen 0
  have HN := Lib.hid (HB1.set_ 0 c)
  clear hb2 hb1 hblk hcell HB1
  go_wp2
  go_ret
  refine ⟨rfl, ?_, grown_set (grown_drew hg1) _⟩
  have := HN.out
  rw [H2.out] at this
  exact this

/-! ### IndexByte -/
theorem index_some (l : List UInt8) (c : UInt8) (h : c ∈ l) : Lib.indexByte l c = (l.idxOf c : Int) := by
  induction l with
  | nil => simp at h
  | cons b l ih =>
    unfold Lib.indexByte
    by_cases e : b = c
    · simp [e]
    · have hm : c ∈ l := by simpa [Ne.symm e] using h
      rw [ih hm]
      have h1 : (b == c) = false := by simpa using e
      have h2 : (((l.idxOf c : Nat) : Int) == -1) = false := by rw [beq_eq_false_iff_ne]; omega
      rw [h1, h2, List.idxOf_cons, h1]
      simp
set_option maxRecDepth 100000 in
theorem index_any (w : World) (g : Nat) (row : List UInt8) (c : UInt8) (hrow : row.length = 256) (hc : c ∈ row) (hblk : Blk w g row) :
    Calls Try.prog 38 #[.slice (some ⟨g, 0, none⟩) 256 256, .int .u8 (c.toNat : Int)] w fun e w' => e = .returned (.int .i64 (row.idxOf c : Int)) ∧ w = w' := by
  have hrun := Lib.run_indexByteSlice (P := Try.prog) w g 0 256 256 (row.map fun x => (x.toNat : Int)) (by simpa using hrow) (fun i hi => by
    rw [Nat.zero_add]
    have hi' : i < row.length := by omega
    rw [hblk.cell (List.getElem?_eq_getElem hi')]
    simp [List.getD_eq_getElem?_getD, List.getElem?_eq_getElem hi']) (c.toNat : Int)
  have e : Lib.bytesOf (row.map fun x => (x.toNat : Int)) = row := by simp [Lib.bytesOf, Function.comp_def]
  have e2 : ((c.toNat : Int)).toNat.toUInt8 = c := by simp
  rw [e, e2, index_some row c hc] at hrun
  go_enter Try.func38, Try.ntmps38
  go_wp2
  rw [run_callFunc_extern Try.func56 (by kernel_rfl) (by kernel_rfl) (by kernel_rfl) (e := Extern.BytealgIndexByte.indexByte) (by kernel_rfl), hrun]
  simp only [Result.andThen]
  rw [Oper.upon_value]
  go_wp2
  go_ret
  exact ⟨rfl, rfl⟩
end Go.Proofs.Ytfjjjkfldekooaa.Ft
