/-
  The walks of slices.Grow of nothing and slices.Concat of two lists of numbers.
-/
import Derived.Test.YtnaoonegeboflaaHfTake
import Derived.Lib.AppendZerosOnto
import Derived.Lib.Walk
namespace Go.Proofs.Ytnaoonegeboflaa.Hf
open Go.RowKit
set_option linter.unusedVariables false
set_option linter.unusedSimpArgs false

theorem grow_nil (n : Nat) (w : World) (h0 : 0 < n) (hn : n ≤ 1000) :
    Calls Try.prog 39 #[.slice none 0 0, .int .i64 (n : Int)] w fun e w' => ∃ cap, e = .returned (.slice (some ⟨w.heap.size, 0, none⟩) 0 cap) ∧ w'.ownsRow w.heap.size 3 1 (.slice (some ⟨w.heap.size, 0, none⟩) 0 cap) 0 [] ∧ Below w.heap.size w w' := by
  obtain ⟨i0, hi, hz0, hz1, hz2⟩ := info_parts infoI
  have hold : (Builtin.firstCells i0.size 0 (.slice none 0 0)).run Try.prog w.drew = .ok ([] : List Value).toArray w.drew := run_firstCells_none w.drew i0.size 0 0 0
  have hrz : ∀ ty, (Builtin.append_ #[23, 3] ty #[.slice none 0 0, .int .i64 (n : Int)]).run Try.prog w = _ := fun ty =>
    Lib.run_append_grow_zeros w 23 3 ty 3 i0 (.int .i64 0) .i64 .i64 Try.underlying23 Try.underlying3 hi hz0 none 0 0 [] hold n h0 (by omega) (by omega) (by omega) (by rw [hz2]; omega) (growslice_fits (by omega) (by rw [hz2]; omega))
  have hG1 : 0 + n ≤ grownCap w (0 + n) 0 3 := grownCap_ge w _ _ _
  have hG2 := grownCap_le_maxLen w (0 + n) 0 3 (by unfold maxLen; omega)
  generalize hG : grownCap w (0 + n) 0 3 = G at *
  have wr1 : IntKind.i64.wrap (n : Int) = (n : Int) := IntWalk.i64_in _ (by omega)
  have hn0 : ¬ ((n : Int) < 0) := by omega
  have hn1 : (0 : Int) < (n : Int) := by omega
  rw [Nat.zero_add] at hrz hG1
  have hG3 : (0 : Int) ≤ (G : Int) := by omega
  have HG1 := Lib.hid hG1; have HG2 := Lib.hid hG2
  clear hG hold hG1 hG2
  unfold maxLen at HG2
  go_enter Try.func39, Try.ntmps39
  go_wp2_with (at_builtin; refine Lib.wpList_append_run _ rfl _ _ _ _ rfl _ _ rfl rfl _ _ (hrz _) ?_)
  go_ret
  refine ⟨G, rfl, ⟨rfl, .inr ⟨w.heap.size, G, _, rfl, Nat.le_refl _, heap_alloc_new w.drew _, Nat.zero_le _, by unfold maxLen; have := HG2.out; omega, ?_, by simp⟩⟩, bmore (Below.refl _ _).drew _⟩
  have h1 : ∀ m, (Builtin.zeroCells #[Value.int .i64 0] m).size = m := fun m => by simp [Builtin.zeroCells]
  have := HG1.out
  simp [Value.cells, h1]
  omega

set_option maxHeartbeats 4000000 in
set_option maxRecDepth 100000 in
theorem concat_any (b : Nat) (A1 A2 : Option Addr) (n1 n2 c1 c2 : Nat) (l1 l2 : List Int) (w : World) (h1 : 0 < n1) (h2 : 0 < n2) (hn : n1 + n2 ≤ 1000)
    (x0 : w.cell? ⟨b, 0, none⟩ = some (.slice A1 n1 c1)) (x1 : w.cell? ⟨b, 1, none⟩ = some (.slice A2 n2 c2)) (r1 : Reads w A1 n1 1 (ints l1)) (r2 : Reads w A2 n2 1 (ints l2)) (hbl : b < w.heap.size) :
    Calls Try.prog 28 #[.slice (some ⟨b, 0, none⟩) 2 2] w fun e w' => ∃ g cap, e = .returned (.slice (some ⟨g, 0, none⟩) (n1 + n2) cap) ∧ w'.ownsRow w.heap.size 3 1 (.slice (some ⟨g, 0, none⟩) (n1 + n2) cap) (n1 + n2) (ints (l1 ++ l2)) ∧ Below w.heap.size w w' := by
  obtain ⟨i0, hi, hz0, hz1, hz2⟩ := info_parts infoI
  have wr1 : IntKind.i64.wrap (n1 : Int) = (n1 : Int) := IntWalk.i64_in _ (by omega)
  have wr2 : IntKind.i64.wrap ((n1 : Int) + (n2 : Int)) = (n1 : Int) + (n2 : Int) := IntWalk.i64_in _ (by omega)
  have k1 : ¬ ((n1 : Int) < 0) := by omega
  have k2 : ¬ ((n1 : Int) + (n2 : Int) < 0) := by omega
  have HGR := Lib.hid (fun w => grow_nil (n1 + n2) w (by omega) (by omega))
  rw [show ((n1 + n2 : Nat) : Int) = (n1 : Int) + (n2 : Int) by push_cast; rfl] at HGR
  obtain ⟨b1, o1, rfl, hb1, hc1⟩ := r1.2 h1
  obtain ⟨b2, o2, rfl, hb2, hc2⟩ := r2.2 h2
  have hl1 : (ints l1).length = n1 * 1 := r1.1
  have hl2 : (ints l2).length = n2 * 1 := r2.1
  have H1 := Lib.hid hl1; have H2 := Lib.hid hl2; have HC1 := Lib.hid hc1; have HC2 := Lib.hid hc2
  clear hl1 hl2 hc1 hc2 r1 r2
  go_enter Try.func28, Try.ntmps28
  go_wp2
  refine wp_loop_rounds 3 ?_
  rw [rounds_succ]
  go_wp2
  rw [rounds_succ]
  go_wp2
  rw [rounds_succ]
  go_wp2_with fail
  refine (HGR.out _).mono ?_
  rintro e w1 ⟨cap, rfl, hown, hbel⟩
  have x0' : w1.cell? ⟨b, 0, none⟩ = some (.slice (some ⟨b1, o1, none⟩) n1 c1) := (hbel.cell (p := ⟨b, 0, none⟩) hbl).trans x0
  have x1' : w1.cell? ⟨b, 1, none⟩ = some (.slice (some ⟨b2, o2, none⟩) n2 c2) := (hbel.cell (p := ⟨b, 1, none⟩) hbl).trans x1
  have HS1 := Lib.hid (show ∀ j u, (ints l1)[j]? = some u → w1.cell? ((⟨b1, o1, none⟩ : Addr).add j) = some u from fun j u hu => by
    rw [Addr.add_lit]; exact (hbel.cell (p := ⟨b1, o1 + j, none⟩) hb1).trans (HC1.out j u hu))
  have HBL := Lib.hid hbel
  have hsz1 := hbel.size
  clear x0 x1 hbel HC1
  go_wp2
  refine wp_loop_rounds 3 ?_
  rw [rounds_succ]
  go_wp2_with (at_builtin; go_must (refine append_own _ rfl _ _ 23 rfl w.heap.size 3 i0 _ 1 8 Try.underlying23 hi hz0 hz1 hz2 rfl (by decide) _ 0 [] rfl hown ⟨b1, o1, none⟩ n1 c1 (ints l1) rfl H1.out HS1.out (fun u hu => by obtain ⟨x, _, rfl⟩ := List.mem_map.1 hu; rfl) (by unfold maxLen; omega) (by omega) (by omega) h1 ?_); intro g1 cap1 w2 hown2 hg1 hg1' hgrow2)
  rw [Nat.zero_add, List.nil_append] at hown2
  have hbel2 : Below w.heap.size w w2 := HBL.out.grown hgrow2 hsz1 (by intro j hj; cases hj; exact Nat.le_refl _)
  have hsz2 := hbel2.size
  have x1'' : w2.cell? ⟨b, 1, none⟩ = some (.slice (some ⟨b2, o2, none⟩) n2 c2) := by
    have := hgrow2.cell (a := ⟨b, 1, none⟩) x1' (by intro e; cases e; exact absurd hbl (Nat.lt_irrefl _))
    exact this
  have HS2 := Lib.hid (show ∀ j u, (ints l2)[j]? = some u → w2.cell? ((⟨b2, o2, none⟩ : Addr).add j) = some u from fun j u hu => by
    rw [Addr.add_lit]; exact (hbel2.cell (p := ⟨b2, o2 + j, none⟩) hb2).trans (HC2.out j u hu))
  have HB2 := Lib.hid hbel2
  clear x0' x1' hgrow2 hown HBL HC2 hbel2
  go_wp2
  rw [rounds_succ]
  go_wp2_with (at_builtin; go_must (refine append_own _ rfl _ _ 23 rfl w.heap.size 3 i0 _ 1 8 Try.underlying23 hi hz0 hz1 hz2 rfl (by decide) _ n1 (ints l1) rfl hown2 ⟨b2, o2, none⟩ n2 c2 (ints l2) rfl H2.out HS2.out (fun u hu => by obtain ⟨x, _, rfl⟩ := List.mem_map.1 hu; rfl) (by unfold maxLen; omega) (by omega) (by omega) h2 ?_); intro g2 cap2 w3 hown3 hg2 hg2' hgrow3)
  have hbel3 : Below w.heap.size w w3 := HB2.out.grown hgrow3 hsz2 (by intro j hj; cases hj; exact hg1)
  have HO3 := Lib.hid hown3; have HB3 := Lib.hid hbel3
  clear hgrow3 hown3 hbel3
  go_wp2
  rw [rounds_succ]
  go_wp2
  go_ret
  refine ⟨g2, cap2, rfl, ?_, HB3.out⟩
  have := HO3.out
  rw [ints, ints, ← List.map_append] at this
  exact this
end Go.Proofs.Ytnaoonegeboflaa.Hf
