/-
  An argument that is a slice of pieces, opened: its cells as a list of numbers and signs.
-/
import Derived.Test.YtacmkogdfienmaaDoorLpRead
import Derived.Deep.SlicePairs
import Derived.SizedLaws
namespace Go.Proofs.YtacmkogdfienmaaDoor
open Go.ChangeShapes Go.WideShapes Go.RowKit Go.Deep Lp
set_option linter.unusedVariables false

theorem open_pieces {H : Type} {enc : TypeId × Value → H} {W : World} {A : Option Addr} {len cap : Nat} {d : DataW H} {p : List MemPlace} {ts : List TypeId} {ds : List (DataW H)} {j : Nat}
    (hsz : (DataW.weightsEach Tryd.prog ts ds).all (· ≤ reachBytes) = true) (ht : ts[j]? = some 22) (hd : ds[j]? = some d)
    (h : DataW.Trod enc Tryd.prog W 0 (fun _ => true) true 22 (.slice A len cap) d p) :
    ∃ zs : List (Int × UInt8), zs.length = len ∧ zs.length * 16 ≤ 140737488351232 ∧ (∀ q ∈ zs, Wf q) ∧ Reads W A zs.length 2 (icells zs) ∧ zs.length ≤ cap := by
  obtain ⟨fuel, hf⟩ := h
  rcases open_slice_pairs Tryd.underlying22 Tryd.underlying39 (by kernel_rfl) rfl rfl (by kernel_rfl) (by kernel_rfl) hf with ⟨hcs, _⟩ | ⟨a, l, c, m, n, V0, V1, D0, D1, P0, P1, hcs, _, hl, hm, hmm, hx, hi⟩
  · simp [Value.cells] at hcs
    obtain ⟨rfl, rfl, rfl⟩ := hcs
    exact ⟨[], rfl, by simp, by simp, Reads.nil _ _, Nat.zero_le _⟩
  · simp [Value.cells] at hcs
    obtain ⟨rfl, rfl, rfl⟩ := hcs
    have hm' : m = cap := by simpa using hmm
    subst hm'
    have hd' := (Prod.mk.injEq _ _ _ _ ▸ hx).1
    have hw := sized_slice hsz (j := j) (t := 22) (e := 39) ht (hd.trans (congrArg some hd')) Tryd.underlying22
    rw [show Tryd.prog.bytesOf 39 = 16 by kernel_rfl] at hw
    simp only [List.length_map, List.length_range, reachBytes] at hw
    have each : ∀ i, i < len → ∃ q : Int × UInt8, Wf q ∧ W.cell? (a.add (i * 2)) = some (.int .i64 q.1) ∧ W.cell? (a.add (i * 2 + 1)) = some (.int .u8 (q.2.toNat : Int)) := by
      intro i hil
      obtain ⟨h1, h2, h3, h4⟩ := hi i (by omega)
      obtain ⟨z0, e0, _, w0⟩ := DataW.trod_int Tryd.underlying3 h3
      obtain ⟨z1, e1, _, w1⟩ := DataW.trod_int Tryd.underlying5 h4
      have e0' : V0 i = .int .i64 z0 := by simpa using e0
      have e1' : V1 i = .int .u8 z1 := by simpa using e1
      have b0 : -9223372036854775808 ≤ z0 ∧ z0 ≤ 9223372036854775807 := by simpa [Lit.wf, IntKind.min, IntKind.max, IntKind.signed, IntKind.bits] using w0
      have b1 : 0 ≤ z1 ∧ z1 ≤ 255 := by simpa [Lit.wf, IntKind.min, IntKind.max, IntKind.signed, IntKind.bits] using w1
      refine ⟨(z0, UInt8.ofNat z1.toNat), b0, ?_, ?_⟩
      · rw [h1, e0']
      · rw [h2, e1', show (((UInt8.ofNat z1.toNat).toNat : Nat) : Int) = z1 by rw [UInt8.toNat_ofNat']; omega]
    obtain ⟨f, hfq⟩ := choose_lt each
    refine ⟨(List.range len).map f, by simp, by simp; omega, ?_, ?_, by simp; omega⟩
    · intro q hq
      obtain ⟨i, hi', rfl⟩ := List.mem_map.1 hq
      exact (hfq i (List.mem_range.1 hi')).1
    · refine ⟨by rw [icells_length], fun h0 => ?_⟩
      have hlen : ((List.range len).map f).length = len := by simp
      rw [hlen] at h0
      obtain ⟨b, o, spot⟩ := a
      have hc := (hfq 0 h0).2.1
      have hspot : spot = none := by simpa [Addr.add] using World.cell?_spot hc
      subst hspot
      have hadd : ∀ k, (⟨b, o, none⟩ : Addr).add k = ⟨b, o + k, none⟩ := by
        intro k
        unfold Addr.add
        by_cases h0 : k = 0 <;> simp [h0]
      refine ⟨b, o, rfl, World.block_lt_of_cell? W _ hc, fun k u hu => ?_⟩
      have hk : k < len * 2 := by
        have := (List.getElem?_eq_some_iff.1 hu).1
        rw [icells_length, hlen] at this
        exact this
      obtain ⟨i, hi2⟩ : ∃ i, k = i * 2 ∨ k = i * 2 + 1 := ⟨k / 2, by omega⟩
      rw [← hadd]
      have hget : ((List.range len).map f)[i]? = some (f i) := by
        rw [List.getElem?_map, List.getElem?_range (by omega)]; rfl
      rcases hi2 with rfl | rfl
      · rw [icells_get0, hget] at hu
        rw [← Option.some.inj hu]
        exact (hfq i (by omega)).2.1
      · rw [icells_get1, hget] at hu
        rw [← Option.some.inj hu]
        exact (hfq i (by omega)).2.2
end Go.Proofs.YtacmkogdfienmaaDoor
