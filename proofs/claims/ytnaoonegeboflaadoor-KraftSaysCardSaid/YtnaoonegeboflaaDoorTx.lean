/-
  An argument that is a slice of texts, opened.
-/
import Derived.Test.YtnaoonegeboflaaDoorBs
import Derived.SliceStrings
import Derived.SizedLaws
namespace Go.Proofs.YtnaoonegeboflaaDoor
open Go.ChangeShapes Go.WideShapes Go.RowKit
set_option linter.unusedVariables false

theorem Reads.of_texts {w : World} {x : Addr} {zs : List ByteArray} {n : Nat} (hn : n ≤ zs.length) (h : ∀ i, i < zs.length → w.cell? (x.add i) = some (.string (zs.getD i ByteArray.empty))) :
    Reads w (some x) (zs.take n).length 1 (texts (zs.take n)) := by
  refine ⟨by simp [texts], fun h0 => ?_⟩
  have hlen : (zs.take n).length = n := by simp; omega
  rw [hlen] at h0
  obtain ⟨b, o, spot⟩ := x
  have hc := h 0 (by omega)
  have hspot : spot = none := by simpa [Addr.add] using World.cell?_spot hc
  subst hspot
  have hadd : ∀ j, (⟨b, o, none⟩ : Addr).add j = ⟨b, o + j, none⟩ := by
    intro j
    unfold Addr.add
    by_cases h0 : j = 0 <;> simp [h0]
  refine ⟨b, o, rfl, World.block_lt_of_cell? w _ hc, fun j u hu => ?_⟩
  have hj : j < n := by
    have := (List.getElem?_eq_some_iff.1 hu).1
    rw [texts_length, hlen] at this
    exact this
  have := h j (by omega)
  rw [texts_get, List.getElem?_take_of_lt hj, List.getElem?_eq_getElem (by omega)] at hu
  simp only [Option.map_some, Option.some.injEq] at hu
  rw [← hu, ← hadd j, this, List.getD_eq_getElem?_getD, List.getElem?_eq_getElem (show j < zs.length by omega)]
  rfl
theorem open_texts {H : Type} {enc : TypeId × Value → H} {W : World} {A : Option Addr} {len cap : Nat} {d : DataW H} {p : List MemPlace} {ts : List TypeId} {ds : List (DataW H)} {j : Nat}
    (hsz : (DataW.weightsEach Tryd.prog ts ds).all (· ≤ reachBytes) = true) (ht : ts[j]? = some 28) (hd : ds[j]? = some d)
    (h : DataW.Trod enc Tryd.prog W 0 (fun _ => true) true 28 (.slice A len cap) d p) :
    ∃ zs : List ByteArray, zs.length = len ∧ zs.length * 16 ≤ 140737488351232 ∧ (∀ q ∈ zs, q.size ≤ maxLen) ∧ Reads W A zs.length 1 (texts zs) ∧ zs.length ≤ cap := by
  obtain ⟨fuel, hf⟩ := h
  rcases open_strings Tryd.underlying28 Tryd.underlying9 (by kernel_rfl) hf with ⟨hcs, _⟩ | ⟨a, l, c, ss, hcs, _, hl, hm, hz, hx, hcell, hw⟩
  · simp [Value.cells] at hcs
    obtain ⟨rfl, rfl, rfl⟩ := hcs
    exact ⟨[], rfl, by simp, by simp, Reads.nil _ _, Nat.zero_le _⟩
  · simp [Value.cells] at hcs
    obtain ⟨rfl, rfl, rfl⟩ := hcs
    have hz' : ss.length = cap := by simpa using hz
    have hd' := (Prod.mk.injEq _ _ _ _ ▸ hx).1
    have hw2 := sized_slice hsz (j := j) (t := 28) (e := 9) ht (hd.trans (congrArg some hd')) Tryd.underlying28
    rw [show Tryd.prog.bytesOf 9 = 16 by kernel_rfl] at hw2
    simp only [ChangeShapes.strs, List.length_map, List.length_take, List.length_drop, reachBytes] at hw2
    exact ⟨ss.take len, by simp; omega, by simp; omega, fun n hn => hw n (List.mem_of_mem_take hn), Reads.of_texts (by omega) hcell, by simp; omega⟩
end Go.Proofs.YtnaoonegeboflaaDoor
