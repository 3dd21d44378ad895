/-
  The start of suffix.Order's rounds.
-/
import Derived.Test.YtfjjjkfldekooaaSfSt
import Derived.Test.YtfjjjkfldekooaaTwo
import Derived.Test.YtfjjjkfldekooaaOwn
namespace Go.Proofs.Ytfjjjkfldekooaa
open Go.RowKit Go.Shelf
set_option linter.unusedVariables false
set_option linter.unusedSimpArgs false

def bts (s : ByteArray) (i : Nat) : Int := ((s.data.toList[i]?.getD 0).toNat : Int)
def fidx {n : Nat} (l : List (Fin n)) : List Int := l.map fun i => (i.val : Int)
def fbts (s : ByteArray) (l : List (Fin s.size)) : List Int := l.map fun i => bts s i.val
theorem fbts_all (s : ByteArray) : fbts s (List.finRange s.size) = s.data.toList.map fun x => (x.toNat : Int) := by
  refine List.ext_getElem? fun i => ?_
  unfold fbts
  rw [List.getElem?_map, List.getElem?_map]
  by_cases h : i < s.size
  · rw [List.getElem?_eq_getElem (by simpa using h), List.getElem?_eq_getElem (by simpa using h), List.getElem_finRange]
    simp only [Option.map_some, bts]
    rw [List.getElem?_eq_getElem (by simpa using h)]
    rfl
  · rw [List.getElem?_eq_none (by simpa using h), List.getElem?_eq_none (by simpa using h)]
    rfl
def dStart (n : Nat) (hn : n ≤ 24) : Array (Fin 24) := ((List.finRange n).map fun i => (⟨i.val, by omega⟩ : Fin 24)).toArray
theorem dStart_size (n : Nat) (hn : n ≤ 24) : (dStart n hn).size = n := by simp [dStart]
theorem dN_start (n : Nat) (hn : n ≤ 24) : dN (dStart n hn) = List.range n := by
  refine List.ext_getElem? fun i => ?_
  unfold dN dStart
  by_cases h : i < n
  · rw [List.getElem?_eq_getElem (by simpa using h), List.getElem?_eq_getElem (by simpa using h)]
    simp
  · rw [List.getElem?_eq_none (by simpa using h), List.getElem?_eq_none (by simpa using h)]
theorem ost_start (s : ByteArray) (w W : World) (b5 b6 bE D : Nat) (vo vr : Value) (hs : s.size ≤ 24) (h0 : 0 < s.size) (hT : Two w W s b5 b6 bE (bE + 1) vo vr vo vr (fidx (List.finRange s.size)) (fbts s (List.finRange s.size)) W)
    (hdef : W.heap[D]? = some (.deferred (some []))) (hlD : w.heap.size ≤ D) :
    ∃ g co gr cr, vo = .slice (some ⟨g, 0, none⟩) s.size co ∧ OSt w s b5 b6 W.heap.size (W.heap.size + 1) D g co gr cr 1 (dStart s.size hs) (s.data.toList.map fun x => (x.toNat : Int))
      ((W.alloc (.cells #[.func (.func 42) #[] #[.pointer (some ⟨b6, 0, none⟩)]] 71)).alloc (.cells #[.int .i64 1] 3)) := by
  have l1 : (fidx (List.finRange s.size)).length = s.size := by simp [fidx]
  have l2 : (fbts s (List.finRange s.size)).length = s.size := by simp [fbts]
  have o1 := hT.own1
  have o2 := hT.own2
  rw [l1] at o1
  rw [l2] at o2
  obtain ⟨g, co, rfl, hg1, hg2⟩ := own_some o1 h0
  obtain ⟨gr, cr, rfl, hr1, hr2⟩ := own_some o2 h0
  have hne : gr ≠ g := by
    rcases hT.apart with h | h
    · cases h
    · intro e; exact h (by simp [Value.ownBlock, e])
  have hcells : ∀ {k : Nat}, (∃ (c : Array Value) (t : TypeId) (f : Nat × Nat), W.heap[k]? = some (.cells c t f)) → D ≠ k := by
    rintro k ⟨c, t, f, hc⟩ rfl
    rw [hdef] at hc; cases hc
  have hDg : D ≠ g := by
    rcases o1.2 with ⟨h, _⟩ | ⟨g', cap', cur, hv, _, hh, _⟩
    · cases h
    · simp only [Value.slice.injEq, Option.some.injEq, Addr.mk.injEq, and_true, true_and] at hv
      rw [hv.1]
      exact hcells ⟨_, _, _, hh⟩
  have h5 := hT.o5; have h6 := hT.o6; have hE := hT.oE; have hl := hT.lt; have hlt5 := hT.box5.lt; have hlt6 := hT.box6.lt; have hlt1 := hT.box1.lt
  have hD : D < W.heap.size := (Array.getElem?_eq_some_iff.1 hdef).1
  have b1 := hT.box1; have b5' := hT.box5; have b6' := hT.box6
  refine ⟨g, co, gr, cr, rfl, ?_⟩
  generalize hW8 : W.alloc (.cells #[.func (.func 42) #[] #[.pointer (some ⟨b6, 0, none⟩)]] 71) = W8
  have hs8 : W8.heap.size = W.heap.size + 1 := by rw [← hW8]; simp
  have hb8 : Below W.heap.size W W8 := by rw [← hW8]; exact (Below.refl _ _).alloc (Nat.le_refl _) _
  have c8 : Boxed W8 W.heap.size 71 (atV b6) := by rw [← hW8]; exact Boxed.new _ _ _
  have hb9 : Below W8.heap.size W8 (W8.alloc (.cells #[.int .i64 1] 3)) := (Below.refl _ _).alloc (Nat.le_refl _) _
  have hb := hb8.trans (hb9.mono (by omega))
  generalize hW9 : W8.alloc (.cells #[.int .i64 1] 3) = W9 at *
  have hs9 : W9.heap.size = W.heap.size + 2 := by rw [← hW9]; simp; omega
  exact
    { box1 := (hb.cell hlt1).trans b1.cell
      box5 := (hb.cell hlt5).trans b5'.cell
      box6 := (hb.block _ hlt6).trans b6'
      box8 := (hb9.cell (by show W.heap.size < _; omega)).trans c8.cell
      box9 := by rw [← hW9, ← hs8]; exact Boxed.new _ _ _
      size := dStart_size _ _
      row := fun j hj => by
        rw [dStart_size] at hj
        refine ⟨?_, ?_⟩
        · rw [Nat.zero_add, (hb.cell (p := ⟨g, j, none⟩) hg2), getElem!_pos _ j (by rw [dStart_size]; exact hj)]
          refine own_cell o1 ?_
          rw [ints_get, fidx, List.getElem?_map, List.getElem?_eq_getElem (by simpa using hj)]
          simp [encF, dStart]
        · rw [hb.frozen (p := ⟨g, 0 + j, none⟩) hg2]; exact own_frozen o1 _
      len := by simp
      ranks := fun j u hu => by
        rw [hb.cell (p := ⟨gr, j, none⟩) hr2]
        refine own_cell o2 ?_
        rw [ints_get, fbts_all, hu]; rfl
      lt1 := by omega, lt5 := by omega, lt8 := by omega, ltg := by omega, ltr := by omega
      ne1 := by omega, ne5 := by omega, ne6 := by omega, ne8 := by omega, ne9 := by omega, ner := hne
      n61 := by omega, n65 := by omega, n68 := by omega, n69 := by omega, n6r := by omega
      dfr := (hb.block _ hD).trans hdef
      nDg := hDg, nD6 := hcells ⟨_, _, _, b6'⟩, nD9 := by omega
      lo6 := by omega, loD := hlD, log := by omega
      below := hT.below.trans (hb.mono (by omega)) }
end Go.Proofs.Ytfjjjkfldekooaa
