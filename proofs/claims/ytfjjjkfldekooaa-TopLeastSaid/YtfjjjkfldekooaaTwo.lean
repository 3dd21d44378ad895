/-
  Two own rows behind two boxed variables, while the body of a range over the ends of a text appends to both.
-/
import Derived.Test.YtfjjjkfldekooaaApp1
import Derived.Test.YtfjjjkfldekooaaLate
import Derived.Test.YtfjjjkfldekooaaEnds
namespace Go.Proofs.Ytfjjjkfldekooaa
open Go.RowKit
set_option linter.unusedVariables false
set_option linter.unusedSimpArgs false

theorem grown_cell {W W' : World} {row : Option Nat} {g i : Nat} {u : Value} (hg : W.grownBy W' row) (hne : some g ≠ row) (h : W.cell? ⟨g, i, none⟩ = some u) : W'.cell? ⟨g, i, none⟩ = some u := by
  have hlt := World.block_lt_of_cell? W _ h
  have := hg.block g hlt hne
  unfold World.cell? at h ⊢
  simp only at h ⊢
  rw [this]
  exact h

/-- the world w: where the function began; W0: where the round began; the boxes hold x5, x6; the rows are vo (lo), vr (lr) -/
structure Two (w W0 : World) (s : ByteArray) (b5 b6 bE base : Nat) (x5 x6 vo vr : Value) (lo lr : List Int) (W : World) : Prop where
  o5 : w.heap.size < b5
  o6 : b5 < b6
  oE : b6 < bE
  ob : bE < base
  box1 : Boxed W w.heap.size 9 (.string s)
  box5 : Boxed W b5 30 x5
  box6 : Boxed W b6 30 x6
  own1 : W.ownsRow base 3 1 vo lo.length (ints lo)
  own2 : W.ownsRow base 3 1 vr lr.length (ints lr)
  apart : vo.ownBlock = none ∨ vo.ownBlock ≠ vr.ownBlock
  below : Below w.heap.size w W
  keeps : KeepsFrom base W0 W
  boxE : W.heap[bE]? = W0.heap[bE]?
  ltE : bE < W0.heap.size
  lt : base ≤ W.heap.size
namespace Two
variable {w W0 W : World} {s : ByteArray} {b5 b6 bE base : Nat} {x5 x6 vo vr : Value} {lo lr : List Int}
theorem drew (h : Two w W0 s b5 b6 bE base x5 x6 vo vr lo lr W) : Two w W0 s b5 b6 bE base x5 x6 vo vr lo lr W.drew :=
  { h with box1 := h.box1, box5 := h.box5, box6 := h.box6, own1 := h.own1, own2 := h.own2, below := h.below.drew, keeps := h.keeps.trans ((KeepsOthers.drew W).from _), boxE := h.boxE, lt := h.lt }
theorem alloc (h : Two w W0 s b5 b6 bE base x5 x6 vo vr lo lr W) (o : Obj) : Two w W0 s b5 b6 bE base x5 x6 vo vr lo lr (W.alloc o) :=
  { h with
    box1 := h.box1.alloc o, box5 := h.box5.alloc o, box6 := h.box6.alloc o, own1 := h.own1.alloc o, own2 := h.own2.alloc o, below := bmore h.below o, keeps := h.keeps.trans ((KeepsOthers.alloc W o).from _)
    boxE := (Below.heap_alloc W o bE (by have := h.lt; have := h.ob; omega)).trans h.boxE, lt := by have := h.lt; simp; omega }
theorem far1 (h : Two w W0 s b5 b6 bE base x5 x6 vo vr lo lr W) {k : Nat} (hk : k < base) : some k ≠ vo.ownBlock := fun e => by have := (h.own1.lt k e.symm).1; omega
theorem far2 (h : Two w W0 s b5 b6 bE base x5 x6 vo vr lo lr W) {k : Nat} (hk : k < base) : some k ≠ vr.ownBlock := fun e => by have := (h.own2.lt k e.symm).1; omega
theorem new1 (h : Two w W0 s b5 b6 bE base x5 x6 vo vr lo lr W) {k : Nat} (hk : W.heap.size ≤ k) : some k ≠ vo.ownBlock := fun e => by have := (h.own1.lt k e.symm).2; omega
theorem new2 (h : Two w W0 s b5 b6 bE base x5 x6 vo vr lo lr W) {k : Nat} (hk : W.heap.size ≤ k) : some k ≠ vr.ownBlock := fun e => by have := (h.own2.lt k e.symm).2; omega
theorem row_cells {e : TypeId} {v : Value} {n : Nat} {xs : List Value} (h : W.ownsRow base e 1 v n xs) (j : Nat) (o : Obj) (hj : v.ownBlock = some j) (ho : W.heap[j]? = some o) : o.isCells = true := by
  rcases h.2 with ⟨rfl, _⟩ | ⟨g, cap, cur, rfl, _, hh, _⟩
  · simp [Value.ownBlock] at hj
  · simp [Value.ownBlock] at hj
    subst hj
    rw [hh] at ho
    cases ho
    rfl
theorem app1 (h : Two w W0 s b5 b6 bE base x5 x6 vo vr lo lr W) {g cap : Nat} {x : Int} {W' : World} (ho : W'.ownsRow base 3 1 (.slice (some ⟨g, 0, none⟩) (lo.length + 1) cap) (lo.length + 1) (ints lo ++ [.int .i64 x])) (hg : W.grownBy W' vo.ownBlock) (hn : vo.ownBlock = some g ∨ W.heap.size ≤ g) :
    Two w W0 s b5 b6 bE base x5 x6 (.slice (some ⟨g, 0, none⟩) (lo.length + 1) cap) vr (lo ++ [x]) lr W' :=
  { h with
    box1 := h.box1.kept hg (h.far1 (by have := h.o5; have := h.o6; have := h.oE; have := h.ob; omega)), box5 := h.box5.kept hg (h.far1 (by have := h.o6; have := h.oE; have := h.ob; omega)), box6 := h.box6.kept hg (h.far1 (by have := h.oE; have := h.ob; omega))
    own1 := by rw [List.length_append, show ints (lo ++ [x]) = ints lo ++ [.int .i64 x] by simp [ints]]; exact ho
    own2 := h.own2.kept hg (by rcases h.apart with e | e
                               · rw [e]; cases vr.ownBlock <;> simp
                               · exact .inr (fun h => e h.symm))
    apart := .inr (fun e => by
      rcases hn with hn | hn
      · rcases h.apart with e2 | e2
        · rw [e2] at hn; cases hn
        · exact e2 (hn.trans e)
      · exact h.new2 hn e)
    below := h.below.grown hg h.below.size (fun k hk => by have := (h.own1.lt k hk).1; have := h.o5; have := h.o6; have := h.oE; have := h.ob; omega)
    keeps := h.keeps.trans ((KeepsOthers.of_grownBy hg (fun j o hj ho => row_cells h.own1 j o hj ho)).from _)
    boxE := (hg.block bE (by have := h.lt; have := h.ob; omega) (h.far1 h.ob)).trans h.boxE
    lt := Nat.le_trans h.lt hg.size }
theorem app2 (h : Two w W0 s b5 b6 bE base x5 x6 vo vr lo lr W) {g cap : Nat} {x : Int} {W' : World} (ho : W'.ownsRow base 3 1 (.slice (some ⟨g, 0, none⟩) (lr.length + 1) cap) (lr.length + 1) (ints lr ++ [.int .i64 x])) (hg : W.grownBy W' vr.ownBlock) (hn : vr.ownBlock = some g ∨ W.heap.size ≤ g) :
    Two w W0 s b5 b6 bE base x5 x6 vo (.slice (some ⟨g, 0, none⟩) (lr.length + 1) cap) lo (lr ++ [x]) W' :=
  { h with
    box1 := h.box1.kept hg (h.far2 (by have := h.o5; have := h.o6; have := h.oE; have := h.ob; omega)), box5 := h.box5.kept hg (h.far2 (by have := h.o6; have := h.oE; have := h.ob; omega)), box6 := h.box6.kept hg (h.far2 (by have := h.oE; have := h.ob; omega))
    own2 := by rw [List.length_append, show ints (lr ++ [x]) = ints lr ++ [.int .i64 x] by simp [ints]]; exact ho
    own1 := h.own1.kept hg h.apart
    apart := by
      rcases h.apart with e2 | e2
      · exact .inl e2
      · rcases hn with hn | hn
        · exact .inr (fun e => e2 (e.trans hn.symm))
        · exact .inr (fun e => h.new1 hn e.symm)
    below := h.below.grown hg h.below.size (fun k hk => by have := (h.own2.lt k hk).1; have := h.o5; have := h.o6; have := h.oE; have := h.ob; omega)
    keeps := h.keeps.trans ((KeepsOthers.of_grownBy hg (fun j o hj ho => row_cells h.own2 j o hj ho)).from _)
    boxE := (hg.block bE (by have := h.lt; have := h.ob; omega) (h.far2 h.ob)).trans h.boxE
    lt := Nat.le_trans h.lt hg.size }
theorem set5 (h : Two w W0 s b5 b6 bE base x5 x6 vo vr lo lr W) (u : Value) : Two w W0 s b5 b6 bE base u x6 vo vr lo lr (W.setCell ⟨b5, 0, none⟩ u) :=
  have hg := grownBy_setCell' W b5 u
  have h5 : b5 < base := by have := h.o6; have := h.oE; have := h.ob; omega
  { h with
    box1 := h.box1.other (by have := h.o5; omega) u, box5 := h.box5.set u, box6 := h.box6.other (by have := h.o6; omega) u
    own1 := h.own1.kept hg (.inr (h.far1 h5).symm), own2 := h.own2.kept hg (.inr (h.far2 h5).symm)
    below := h.below.setCell (p := ⟨b5, 0, none⟩) (by have := h.o5; simp; omega) _, keeps := h.keeps.trans ((KeepsOthers.setCell W _ u).from _)
    boxE := (hg.block bE (by have := h.lt; have := h.ob; omega) (by have := h.o6; have := h.oE; simp; omega)).trans h.boxE, lt := Nat.le_trans h.lt hg.size }
theorem set6 (h : Two w W0 s b5 b6 bE base x5 x6 vo vr lo lr W) (u : Value) : Two w W0 s b5 b6 bE base x5 u vo vr lo lr (W.setCell ⟨b6, 0, none⟩ u) :=
  have hg := grownBy_setCell' W b6 u
  have h6 : b6 < base := by have := h.oE; have := h.ob; omega
  { h with
    box1 := h.box1.other (by have := h.o5; have := h.o6; omega) u, box6 := h.box6.set u, box5 := h.box5.other (by have := h.o6; omega) u
    own1 := h.own1.kept hg (.inr (h.far1 h6).symm), own2 := h.own2.kept hg (.inr (h.far2 h6).symm)
    below := h.below.setCell (p := ⟨b6, 0, none⟩) (by have := h.o5; have := h.o6; simp; omega) _, keeps := h.keeps.trans ((KeepsOthers.setCell W _ u).from _)
    boxE := (hg.block bE (by have := h.lt; have := h.ob; omega) (by have := h.oE; simp; omega)).trans h.boxE, lt := Nat.le_trans h.lt hg.size }
end Two
end Go.Proofs.Ytfjjjkfldekooaa
