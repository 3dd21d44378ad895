/-
  The walk of slices.Delete of one heap (package huff): an own row stays an own row.
-/
import Derived.Test.YtnaoonegeboflaaBase
import Derived.Test.YtnaoonegeboflaaOwn
import Derived.Deep.RegionLaw
import Derived.Lib.SliceRun
import Derived.Deep.Upon
namespace Go.Proofs.Ytnaoonegeboflaa.Hf
open Go.RowKit
set_option linter.unusedVariables false
set_option linter.unusedSimpArgs false

theorem infoH : (Try.prog.info? 53).map (fun i => (i.zero, i.size, i.bytes)) = some (some (.agg #[.int .i64 0, .slice none 0 0]), 2, 32) := by kernel_rfl

theorem setCell_block {w : World} {g o : Nat} {cur : Array Value} {e : TypeId} {fz : Nat × Nat} (h : w.heap[g]? = some (.cells cur e fz)) (v : Value) : ∃ cur', (w.setCell ⟨g, o, none⟩ v).heap[g]? = some (.cells cur' e fz) ∧ cur'.size = cur.size := by
  refine ⟨_, by simp [World.setCell, Array.getElem?_modify, h]; rfl, by simp⟩
theorem setCells_block {g : Nat} {e : TypeId} {fz : Nat × Nat} : ∀ (vs : List Value) (o : Nat) (w : World) (cur : Array Value), w.heap[g]? = some (.cells cur e fz) → ∃ cur', (w.setCells g o vs).heap[g]? = some (.cells cur' e fz) ∧ cur'.size = cur.size
  | [], _, _, cur, h => ⟨cur, h, rfl⟩
  | v :: vs, o, w, cur, h => by
    obtain ⟨c1, h1, h2⟩ := setCell_block (o := o) h v
    obtain ⟨c2, h3, h4⟩ := setCells_block vs (o + 1) _ c1 h1
    exact ⟨c2, h3, h4.trans h2⟩
theorem own_of_cells {w : World} {base g n cap size : Nat} {e : TypeId} {cur : Array Value} {xs : List Value} (hh : w.heap[g]? = some (.cells cur e (0, 0))) (hb : base ≤ g) (h1 : n ≤ cap) (h2 : cap ≤ maxLen) (h3 : cur.size = cap * size) (hx : xs.length = n * size) (hc : ∀ j u, xs[j]? = some u → w.cell? ⟨g, j, none⟩ = some u) :
    w.ownsRow base e size (.slice (some ⟨g, 0, none⟩) n cap) n xs := by
  refine ⟨hx, .inr ⟨g, cap, cur, rfl, hb, hh, h1, h2, h3, ?_⟩⟩
  have hle : n * size ≤ cap * size := Nat.mul_le_mul_right _ h1
  apply List.ext_getElem?
  intro j
  rcases Nat.lt_or_ge j (n * size) with hj | hj
  · obtain ⟨u, hu⟩ : ∃ u, xs[j]? = some u := ⟨_, List.getElem?_eq_getElem (by omega)⟩
    have := hc j u hu
    rw [cell_of_row w g j cur e (0, 0) hh] at this
    rw [hu, List.getElem?_take, if_pos hj, ← this]
    simp
  · rw [List.getElem?_take, if_neg (by omega), List.getElem?_eq_none (by omega)]
theorem setCells_rest (g : Nat) : ∀ (vs : List Value) (o : Nat) (w : World), (w.setCells g o vs).os = w.os ∧ (w.setCells g o vs).tape = w.tape ∧ (w.setCells g o vs).output = w.output ∧ (w.setCells g o vs).heap.size = w.heap.size ∧ ∀ k, k ≠ g → (w.setCells g o vs).heap[k]? = w.heap[k]?
  | [], _, w => ⟨rfl, rfl, rfl, rfl, fun _ _ => rfl⟩
  | v :: vs, o, w => by
    obtain ⟨h1, h2, h3, h4, h5⟩ := setCells_rest g vs (o + 1) (w.setCell ⟨g, o, none⟩ v)
    refine ⟨h1.trans rfl, h2.trans rfl, h3.trans rfl, h4.trans (by simp [World.setCell]), fun k hk => (h5 k hk).trans (Below.heap_setCell w ⟨g, o, none⟩ v k hk)⟩
theorem grown_setCells (w : World) (g o : Nat) (vs : List Value) : w.grownBy (w.setCells g o vs) (some g) := by
  obtain ⟨h1, h2, h3, h4, h5⟩ := setCells_rest g vs o w
  exact ⟨h1, h2, h3, by omega, fun k _ hk => h5 k (fun e => hk (by rw [e]))⟩
theorem cells_row {w : World} {base g n cap size : Nat} {e : TypeId} {xs : List Value} (h : w.ownsRow base e size (.slice (some ⟨g, 0, none⟩) n cap) n xs) {i : Nat} {u : Value} (hu : xs[i]? = some u) : w.cell? ⟨g, i, none⟩ = some u := by
  have hi : i < n * size := by
    have := (List.getElem?_eq_some_iff.1 hu).1
    have := h.1
    omega
  have := h.cellAt i hi
  rw [this]; exact hu
theorem frozen_row {w : World} {base g n cap size : Nat} {e : TypeId} {xs : List Value} (h : w.ownsRow base e size (.slice (some ⟨g, 0, none⟩) n cap) n xs) (i : Nat) : w.frozen? ⟨g, i, none⟩ = false := by
  rcases h.2 with ⟨h0, _⟩ | ⟨g', cap', cur, hv, hb, hh, h1, h2, h3, h4⟩
  · cases h0
  · simp only [Value.slice.injEq, Option.some.injEq, Addr.mk.injEq, and_true, true_and] at hv
    obtain ⟨rfl, rfl⟩ := hv
    simp [World.frozen?, hh]

theorem zeroH (w : World) : (zeroValue 53).run Try.prog w = .ok (.agg #[.int .i64 0, .slice none 0 0]) w := by kernel_rfl
theorem run_clear_heap (w : World) (g o c : Nat) (ty : TypeId) (hc : ∀ j, j < 2 → (w.cell? ⟨g, o + j, none⟩).isSome = true) (hf : ∀ j, j < 2 → w.frozen? ⟨g, o + j, none⟩ = false) :
    (Builtin.clear_ #[51] ty #[.slice (some ⟨g, o, none⟩) 1 c]).run Try.prog w = .ok (.tuple #[]) (w.setCells g o [.int .i64 0, .slice none 0 0]) := by
  have hzc : (Builtin.zeroCells (Value.agg #[.int .i64 0, .slice none 0 0]).cells 1).toList = [.int .i64 0, .slice none 0 0] := by kernel_rfl
  have hst := run_storeCells_cells (P := Try.prog) g o [.int .i64 0, .slice none 0 0] 0 w (by simpa using hc) (by simpa using hf) (by intro v hv'; simp at hv'; rcases hv' with rfl | rfl <;> rfl)
  simp only [Nat.add_zero] at hst
  simp [Builtin.clear_, run_underlying Try.underlying51, zeroH, hzc, hst]

set_option maxHeartbeats 4000000 in
set_option maxRecDepth 100000 in
theorem delete_any (w : World) (base g n cap k : Nat) (xs : List Value) (hk : k < n) (hn : n ≤ 1000) (hown : w.ownsRow base 53 2 (.slice (some ⟨g, 0, none⟩) n cap) n xs) (h1 : ∀ u ∈ xs, u.oneCell' = true) :
    Calls Try.prog 27 #[.slice (some ⟨g, 0, none⟩) n cap, .int .i64 (k : Int), .int .i64 ((k : Int) + 1)] w fun e w' => e = .returned (.slice (some ⟨g, 0, none⟩) (n - 1) cap) ∧
      w'.ownsRow base 53 2 (.slice (some ⟨g, 0, none⟩) (n - 1) cap) (n - 1) (xs.take (k * 2) ++ xs.drop (k * 2 + 2)) ∧ w.drew.grownBy w' (some g) := by
  obtain ⟨i0, hi, hz0, hz1, hz2⟩ := info_parts infoH
  obtain ⟨cur, hbg, hh, hnc, hcm, hcs, htk⟩ : ∃ cur, base ≤ g ∧ w.heap[g]? = some (.cells cur 53 (0, 0)) ∧ n ≤ cap ∧ cap ≤ maxLen ∧ cur.size = cap * 2 ∧ cur.toList.take (n * 2) = xs := by
    rcases hown.2 with ⟨h0, _⟩ | ⟨g', cap', cur, hv, hb, hh, h1, h2, h3, h4⟩
    · cases h0
    · simp only [Value.slice.injEq, Option.some.injEq, Addr.mk.injEq, and_true, true_and] at hv
      obtain ⟨rfl, rfl⟩ := hv
      exact ⟨cur, hb, hh, h1, h2, h3, h4⟩
  have hxl : xs.length = n * 2 := hown.1
  unfold maxLen at hcm
  have b1 : (k : Int) ≤ (k : Int) + 1 := by omega
  have b2 : (k : Int) + 1 ≤ (n : Int) := by omega
  have b3 : (n : Int) ≤ (cap : Int) := by omega
  have b4 : (0 : Int) ≤ (k : Int) + 1 := by omega
  have b5 : (k : Int) ≤ (cap : Int) := by omega
  have b6 : (k : Int) + 1 ≤ (cap : Int) := by omega
  have b7 : ((k : Int) == (k : Int) + 1) = false := by rw [beq_eq_false_iff_ne]; omega
  have hcell : ∀ j u, xs[j]? = some u → w.cell? ⟨g, j, none⟩ = some u := fun j u h => cells_row hown h
  have hfr := frozen_row hown
  obtain ⟨news, hnews⟩ : ∃ news, news = xs.drop ((k + 1) * 2) := ⟨_, rfl⟩
  have hnl : news.length = (n - (k + 1)) * 2 := by rw [hnews, List.length_drop, hxl]; omega
  obtain ⟨A, hA, hsrc⟩ : ∃ A : Addr, (if cap = k + 1 then (some (⟨g, 0, none⟩ : Addr)) else some ⟨g, (k + 1) * 2, none⟩) = some A ∧ Hid (∀ j u, news[j]? = some u → w.drew.cell? (A.add j) = some u) := by
    by_cases h : cap = k + 1
    · refine ⟨⟨g, 0, none⟩, by simp [h], Lib.hid (fun t u hu => ?_)⟩
      have h0 : news.length = 0 := by rw [hnl]; omega
      rw [List.length_eq_zero_iff.1 h0] at hu
      simp at hu
    · refine ⟨⟨g, (k + 1) * 2, none⟩, by simp [h], Lib.hid (fun t u hu => ?_)⟩
      rw [hnews, List.getElem?_drop] at hu
      have := hcell _ _ hu
      rw [Addr.add_lit]
      exact this
  have s1 : Hid (news.length = (n - (k + 1)) * 2) := Lib.hid hnl
  have s2 : Hid (∀ u ∈ news, u.oneCell' = true) := Lib.hid (fun u hu => h1 u (List.mem_of_mem_drop (by rw [← hnews]; exact hu)))
  have hsome : ∀ j, j < n * 2 → (w.cell? ⟨g, j, none⟩).isSome = true := fun j hj => by
    rw [hcell j _ (List.getElem?_eq_getElem (by omega))]; rfl
  have s3 : Hid (∀ t, t < news.length → (w.drew.cell? ⟨g, 0 + k * 2 + t, none⟩).isSome = true ∧ w.drew.frozen? ⟨g, 0 + k * 2 + t, none⟩ = false) := Lib.hid (by
    intro t ht
    rw [hnl] at ht
    exact ⟨hsome _ (by omega), hfr _⟩)
  obtain ⟨W1, hW1⟩ : ∃ W1, W1 = w.drew.setCells g (0 + k * 2) news := ⟨_, rfl⟩
  have hW : Hid (W1 = w.drew.setCells g (0 + k * 2) news) := Lib.hid hW1
  have hcl : ∀ ty, (Builtin.clear_ #[51] ty #[.slice (some ⟨g, (k + (n - (k + 1))) * 2, none⟩) (n - (k + (n - (k + 1)))) (cap - (k + (n - (k + 1))))]).run Try.prog W1 = .ok (.tuple #[]) (W1.setCells g ((k + (n - (k + 1))) * 2) [.int .i64 0, .slice none 0 0]) := by
    intro ty
    rw [show n - (k + (n - (k + 1))) = 1 by omega]
    refine run_clear_heap W1 g _ _ ty (fun j hj => ?_) (fun j hj => ?_)
    · rw [hW1, World.cell?_setCells_out _ _ _ _ _ (fun _ _ => .inr (by rw [hnl]; simp only; omega))]
      exact hsome _ (by omega)
    · rw [hW1, World.frozen?_setCells]
      exact hfr _
  have hend : Hid (∃ W2, W2 = W1.setCells g ((k + (n - (k + 1))) * 2) [.int .i64 0, .slice none 0 0] ∧ W2.ownsRow base 53 2 (.slice (some ⟨g, 0, none⟩) (n - 1) cap) (n - 1) (xs.take (k * 2) ++ xs.drop (k * 2 + 2)) ∧ w.drew.grownBy W2 (some g)) := Lib.hid (by
    refine ⟨_, rfl, ?_, ?_⟩
    · obtain ⟨c1, hc1, hs1⟩ := setCells_block news (0 + k * 2) w.drew cur hh
      rw [← hW1] at hc1
      obtain ⟨c2, hc2, hs2⟩ := setCells_block [.int .i64 0, .slice none 0 0] ((k + (n - (k + 1))) * 2) W1 c1 hc1
      refine own_of_cells hc2 hbg (by omega) (by unfold maxLen; omega) (by omega) (by simp; omega) (fun j u hu => ?_)
      have hj : j < (n - 1) * 2 := by
        have := (List.getElem?_eq_some_iff.1 hu).1
        simp at this; omega
      rw [World.cell?_setCells_out _ _ _ _ _ (fun _ _ => .inl (by simp only; omega)), hW1]
      rcases Nat.lt_or_ge j (k * 2) with h | h
      · rw [World.cell?_setCells_out _ _ _ _ _ (fun _ _ => .inl (by simp only; omega))]
        rw [List.getElem?_append_left (by simp; omega), List.getElem?_take, if_pos h] at hu
        exact hcell j u hu
      · rw [List.getElem?_append_right (by simp; omega), List.length_take, List.getElem?_drop, Nat.min_eq_left (by omega)] at hu
        have hin := World.cell?_setCells_in g news (0 + k * 2) w.drew (fun t ht => (s3.out t ht).1) (j - k * 2) (by rw [hnl]; omega)
        rw [show 0 + k * 2 + (j - k * 2) = j by omega] at hin
        rw [hin, ← hu]
        have e : news[j - k * 2]? = xs[(k + 1) * 2 + (j - k * 2)]? := by rw [hnews, List.getElem?_drop]
        rw [List.getElem?_eq_getElem (by rw [hnl]; omega)] at e
        rw [e]
        congr 1; omega
    · rw [hW1]
      exact World.grownBy.trans (grown_setCells _ _ _ _) (grown_setCells _ _ _ _))
  have hne : ¬ cap = k + (n - (k + 1)) := by omega
  have c1 : (k : Int) + ((n - (k + 1) : Nat) : Int) ≤ (n : Int) := by omega
  have c2 : (0 : Int) ≤ (k : Int) + ((n - (k + 1) : Nat) : Int) := by omega
  have c3 : k + (n - (k + 1)) ≤ n := by omega
  have c4 : k + (n - (k + 1)) ≤ cap := by omega
  have hroom : k + (n - (k + 1)) ≤ cap := by omega
  have hnn := Lib.hid (show k + (n - (k + 1)) = n - 1 by omega)
  clear hcell hfr hsome hW1 hnews hnl hh htk hcs hxl hown
  go_enter Try.func27, Try.ntmps27
  go_wp2_with fail
  go_region_law (refine step_append_room rfl (.tmp 22) (.tmp 25) 51 rfl 53 i0 2 Try.underlying51 hi hz1 g 0 k cap (by simp [Act.eval, Act.put]) A (n - (k + 1)) (cap - (k + 1)) news (by simp [Act.eval, Act.put, hA]) s1.out hsrc.out s2.out hroom s3.out ?_; rw [← hW.out])
  go_wp2
  go_ret
  obtain ⟨W2, hw2, ho, hg⟩ := hend.out
  rw [← hw2, hnn.out]
  exact ⟨rfl, ho, hg⟩
end Go.Proofs.Ytnaoonegeboflaa.Hf
