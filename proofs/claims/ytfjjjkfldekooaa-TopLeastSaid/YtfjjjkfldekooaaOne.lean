/-
  One own row of texts behind a boxed variable, while the body of a range over the ends of a text appends to it.
-/
import Derived.Test.YtfjjjkfldekooaaTwo
import Derived.Test.YtfjjjkfldekooaaBs
namespace Go.Proofs.Ytfjjjkfldekooaa
open Go.RowKit
set_option linter.unusedVariables false
set_option linter.unusedSimpArgs false

/-- the world w: where the function began; W0: where the round began; the box holds x6; the row is vo (lo) -/
structure One (w W0 : World) (s : ByteArray) (b6 bE base : Nat) (x6 vo : Value) (lo : List ByteArray) (W : World) : Prop where
  o6 : w.heap.size < b6
  oE : b6 < bE
  ob : bE < base
  box1 : Boxed W w.heap.size 9 (.string s)
  box6 : Boxed W b6 47 x6
  own1 : W.ownsRow base 9 1 vo lo.length (texts lo)
  below : Below w.heap.size w W
  keeps : KeepsFrom base W0 W
  boxE : W.heap[bE]? = W0.heap[bE]?
  ltE : bE < W0.heap.size
  lt : base ≤ W.heap.size
namespace One
variable {w W0 W : World} {s : ByteArray} {b6 bE base : Nat} {x6 vo : Value} {lo : List ByteArray}
theorem drew (h : One w W0 s b6 bE base x6 vo lo W) : One w W0 s b6 bE base x6 vo lo W.drew :=
  { h with box1 := h.box1, box6 := h.box6, own1 := h.own1, below := h.below.drew, keeps := h.keeps.trans ((KeepsOthers.drew W).from _), boxE := h.boxE, lt := h.lt }
theorem alloc (h : One w W0 s b6 bE base x6 vo lo W) (o : Obj) : One w W0 s b6 bE base x6 vo lo (W.alloc o) :=
  { h with
    box1 := h.box1.alloc o, box6 := h.box6.alloc o, own1 := h.own1.alloc o, below := bmore h.below o, keeps := h.keeps.trans ((KeepsOthers.alloc W o).from _)
    boxE := (Below.heap_alloc W o bE (by have := h.lt; have := h.ob; omega)).trans h.boxE, lt := by have := h.lt; simp; omega }
theorem far1 (h : One w W0 s b6 bE base x6 vo lo W) {k : Nat} (hk : k < base) : some k ≠ vo.ownBlock := fun e => by have := (h.own1.lt k e.symm).1; omega
theorem app1 (h : One w W0 s b6 bE base x6 vo lo W) {g cap : Nat} {x : ByteArray} {W' : World} (ho : W'.ownsRow base 9 1 (.slice (some ⟨g, 0, none⟩) (lo.length + 1) cap) (lo.length + 1) (texts lo ++ [.string x])) (hg : W.grownBy W' vo.ownBlock) :
    One w W0 s b6 bE base x6 (.slice (some ⟨g, 0, none⟩) (lo.length + 1) cap) (lo ++ [x]) W' :=
  { h with
    box1 := h.box1.kept hg (h.far1 (by have := h.o6; have := h.oE; have := h.ob; omega)), box6 := h.box6.kept hg (h.far1 (by have := h.oE; have := h.ob; omega))
    own1 := by rw [List.length_append, show texts (lo ++ [x]) = texts lo ++ [.string x] by simp [texts]]; exact ho
    below := h.below.grown hg h.below.size (fun k hk => by have := (h.own1.lt k hk).1; have := h.o6; have := h.oE; have := h.ob; omega)
    keeps := h.keeps.trans ((KeepsOthers.of_grownBy hg (fun j o hj ho => Two.row_cells h.own1 j o hj ho)).from _)
    boxE := (hg.block bE (by have := h.lt; have := h.ob; omega) (h.far1 h.ob)).trans h.boxE
    lt := Nat.le_trans h.lt hg.size }
theorem set6 (h : One w W0 s b6 bE base x6 vo lo W) (u : Value) : One w W0 s b6 bE base u vo lo (W.setCell ⟨b6, 0, none⟩ u) :=
  have hg := grownBy_setCell' W b6 u
  have h6 : b6 < base := by have := h.oE; have := h.ob; omega
  { h with
    box1 := h.box1.other (by have := h.o6; omega) u, box6 := h.box6.set u
    own1 := h.own1.kept hg (.inr (h.far1 h6).symm)
    below := h.below.setCell (p := ⟨b6, 0, none⟩) (by have := h.o6; simp; omega) _, keeps := h.keeps.trans ((KeepsOthers.setCell W _ u).from _)
    boxE := (hg.block bE (by have := h.lt; have := h.ob; omega) (by have := h.oE; simp; omega)).trans h.boxE, lt := Nat.le_trans h.lt hg.size }
theorem self (h : One w W0 s b6 bE base x6 vo lo W) : One w W s b6 bE base x6 vo lo W :=
  { h with keeps := KeepsFrom.refl _ _, boxE := rfl, ltE := by have := h.lt; have := h.ob; omega }
theorem own_ {W' : World} {row : Option Nat} (h : One w W s b6 bE base vo vo lo W) (hg : W.grownBy W' row) (hr : ∀ r, row = some r → base ≤ r ∧ ∃ o : Obj, W.heap[r]? = some o ∧ o.isCells = false) :
    One w W' s b6 bE base vo vo lo W' := by
  have far : ∀ k, k < base → some k ≠ row := fun k hk e => by have := (hr k e.symm).1; omega
  have own : ∀ {v : Value} {n : Nat} {xs : List Value}, W.ownsRow base 9 1 v n xs → v.ownBlock = none ∨ v.ownBlock ≠ row := fun {v n xs} hw => by
    cases hv : v.ownBlock with
    | none => exact .inl rfl
    | some j =>
      refine .inr fun e => ?_
      obtain ⟨_, o, ho, hc⟩ := hr j e.symm
      rw [Two.row_cells hw j o hv ho] at hc
      cases hc
  exact { h with
    box1 := h.box1.kept hg (far _ (by have := h.o6; have := h.oE; have := h.ob; omega)), box6 := h.box6.kept hg (far _ (by have := h.oE; have := h.ob; omega))
    own1 := h.own1.kept hg (own h.own1)
    below := h.below.grown hg h.below.size (fun k hk => by have := (hr k hk).1; have := h.o6; have := h.oE; have := h.ob; omega)
    keeps := KeepsFrom.refl _ _, boxE := rfl, ltE := Nat.lt_of_lt_of_le h.ltE hg.size, lt := Nat.le_trans h.lt hg.size }
end One
theorem one_start (w : World) (s : ByteArray) (b6 bE : Nat) (h6 : b6 = w.heap.size + 1 + 1) (hE : bE = b6 + 1) (W : World) (hW : W = (((w.alloc (.cells #[.string s] 9)).alloc (.cells #[.string s] 9)).alloc (.cells #[.slice none 0 0] 47)).alloc (.cells #[.string s] 9)) :
    One w W s b6 bE (bE + 1) (.slice none 0 0) (.slice none 0 0) [] W ∧ W.heap.size = bE + 1 ∧ W.heap[bE]? = some (.cells #[.string s] 9 (0, 0)) := by
  subst hE h6 hW
  refine ⟨⟨by omega, by omega, by omega, (((Boxed.new w _ _).alloc _).alloc _).alloc _, ?_, World.ownsRow_nil _ _ _ _, bmore (bmore (bmore (bmore (Below.refl _ _) _) _) _) _, KeepsFrom.refl _ _, rfl, by simp, by simp⟩, by simp, ?_⟩
  · have := (Boxed.new ((w.alloc (.cells #[.string s] 9)).alloc (.cells #[.string s] 9)) 47 (.slice none 0 0)).alloc (.cells #[.string s] 9)
    simpa using this
  · have := heap_alloc_new (((w.alloc (.cells #[.string s] 9)).alloc (.cells #[.string s] 9)).alloc (.cells #[.slice none 0 0] 47)) (.cells #[.string s] 9)
    simpa using this
end Go.Proofs.Ytfjjjkfldekooaa
