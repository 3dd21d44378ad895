/-
  The walks of the reference's all, front, Front and Unfront (letterbeckref2).
-/
import Derived.Test.YtleealmeilpkmaaDoorFtTB
import Derived.Maps.AppendAt
namespace Go.Proofs.YtleealmeilpkmaaDoor.Ft
open Go.RowKit
set_option linter.unusedVariables false

theorem row_below {w w' : World} {base : Nat} {e : TypeId} {size : Nat} {v : Value} {n : Nat} {xs : List Value} (h : w.ownsRow base e size v n xs) (hb : Below w.heap.size w w') : w'.ownsRow base e size v n xs := by
  refine ⟨h.1, ?_⟩
  rcases h.2 with h0 | ⟨g, cap, cur, h1, h2, h3, h4⟩
  · exact .inl h0
  · refine .inr ⟨g, cap, cur, h1, h2, ?_, h4⟩
    rcases Nat.lt_or_ge g w.heap.size with hlt | hge
    · exact (hb.block g hlt).trans h3
    · rw [Array.getElem?_eq_none hge] at h3; cases h3
theorem row_new (w : World) (c : UInt8) : (w.alloc (.cells #[.int .u8 (c.toNat : Int)] 5)).ownsRow w.heap.size 5 1 (.slice (some ⟨w.heap.size, 0, none⟩) 1 1) 1 (u8s [c]) :=
  ⟨rfl, .inr ⟨w.heap.size, 1, #[.int .u8 (c.toNat : Int)], rfl, Nat.le_refl _, heap_alloc_new w _, by decide, by decide, rfl, rfl⟩⟩
theorem reads_cells {w : World} {g n : Nat} {l : List UInt8} (h : Reads w (some ⟨g, 0, none⟩) n 1 (u8s l)) {i : Nat} {c : UInt8} (hc : l[i]? = some c) (hn : 0 < n) : w.cell? ⟨g, i, none⟩ = some (.int .u8 (c.toNat : Int)) := by
  obtain ⟨b, o, e, _, hcs⟩ := h.2 hn
  simp only [Option.some.injEq, Addr.mk.injEq, and_true] at e
  obtain ⟨rfl, rfl⟩ := e
  have := hcs i (.int .u8 (c.toNat : Int)) (by rw [u8s_get, hc]; rfl)
  rwa [Nat.zero_add] at this
theorem addr_add (g i j : Nat) : (⟨g, i, none⟩ : Addr).add j = ⟨g, i + j, none⟩ := by unfold Addr.add; split <;> simp_all

set_option maxRecDepth 100000 in
set_option maxHeartbeats 1000000 in
theorem all_any (w : World) : Calls Tryd.prog 12 #[] w fun e w' => ∃ g cap, e = .returned (.slice (some ⟨g, 0, none⟩) 256 cap) ∧ w.heap.size ≤ g ∧ g < w'.heap.size ∧ w'.ownsRow w.heap.size 5 1 (.slice (some ⟨g, 0, none⟩) 256 cap) 256 (u8s allB) ∧ Below w.heap.size w w' := by
  obtain ⟨i0, hi, hz0, hz1, hz2⟩ := info_parts info8
  have hs : ∀ k, k < 256 → allB.take (k + 1) = allB.take k ++ [UInt8.ofNat k] := by
    intro k hk
    unfold allB
    rw [List.take_add_one, List.getElem?_map, List.getElem?_range hk]
    rfl
  have hfin : allB.take 256 = allB := List.take_of_length_le (by simp [allB])
  have HS := Lib.hid hs; have HF := Lib.hid hfin
  clear hs hfin
  go_enter Tryd.func12, Tryd.ntmps12
  go_wp2
  go_loopw [1, 2] (fun v i wr => ∃ k : Nat, k ≤ 256 ∧ i = .int .i64 k ∧ wr.ownsRow w.heap.size 5 1 v k (u8s (allB.take k)) ∧ Below w.heap.size w wr) (fun _ i _ => 256 - (intOf i).toNat)
  case atStart => exact ⟨0, by omega, rfl, World.ownsRow_nil _ _ _ _, Below.refl _ _⟩
  case round =>
    obtain ⟨k, hk, rfl, hown, hbel⟩ := hrel
    have hsz := hbel.size
    by_cases hlt : k < 256
    · have hT := HS.out k hlt
      have HT := Lib.hid hT
      clear hT
      have hb := Lib.hid hbel
      go_wp2_with (at_builtin; go_must (refine append_own _ rfl _ _ 36 rfl w.heap.size 5 i0 _ 1 1 Tryd.underlying36 hi hz0 hz1 hz2 rfl (by decide) _ _ _ rfl (hown.alloc _) ⟨wr.heap.size, 0, none⟩ 1 1 [.int .u8 (k : Int)] rfl rfl (cell_one_new _ _ _) (byte_oneCell _) (by unfold maxLen; omega) (by omega) (by simp; omega) (by decide) ?_); intro g2 cap2 w2 hown2 hg2 hg2' hgrow2)
      go_roundw
      case rel =>
        refine ⟨k + 1, by omega, by go_num, ?_, (hb.out.alloc hsz _).grown hgrow2 (by simp; omega) (fun j hj => (hown.lt j hj).1)⟩
        rw [HT.out]
        have e : ((UInt8.ofNat k).toNat : Int) = (k : Int) := by simp; omega
        rw [show u8s (allB.take k ++ [UInt8.ofNat k]) = u8s (allB.take k) ++ [.int .u8 (k : Int)] by simp only [u8s, List.map_append, List.map_cons, List.map_nil, e]]
        exact hown2
      case measure => simp [intOf]; omega
    · obtain rfl : k = 256 := by omega
      rw [HF.out] at hown
      obtain ⟨g, cap, e, hg, hg'⟩ := own_some hown (by omega)
      subst e
      have HO := Lib.hid hown
      clear hown
      go_wp2
      go_ret
      exact ⟨g, cap, rfl, hg, hg', HO.out, hbel⟩

set_option maxRecDepth 100000 in
set_option maxHeartbeats 1000000 in
theorem front_any (w : World) (g cap : Nat) (row : List UInt8) (i : Nat) (hrow : row.length = 256) (hi : i < 256) (hg : g < w.heap.size) (hcap : 256 ≤ cap) (hr : Reads w (some ⟨g, 0, none⟩) 256 1 (u8s row)) :
    Calls Tryd.prog 13 #[.slice (some ⟨g, 0, none⟩) 256 cap, .int .i64 i] w fun e w' => ∃ g2 cap2, e = .returned (.slice (some ⟨g2, 0, none⟩) 256 cap2) ∧ w.heap.size ≤ g2 ∧ g2 < w'.heap.size ∧ w'.ownsRow w.heap.size 5 1 (.slice (some ⟨g2, 0, none⟩) 256 cap2) 256 (u8s (mv row i)) ∧ Below w.heap.size w w' := by
  obtain ⟨i0, hinf, hz0, hz1, hz2⟩ := info_parts info8
  obtain ⟨c, hc⟩ : ∃ c, row[i]? = some c := ⟨_, List.getElem?_eq_getElem (by omega)⟩
  have hgd : row.getD i 0 = c := by simp [List.getD_eq_getElem?_getD, hc]
  have hmv : u8s (mv row i) = u8s [c] ++ u8s (row.take i) ++ u8s (row.drop (i + 1)) := by
    unfold mv
    rw [hgd]
    simp [u8s]
  have c0 := reads_cells hr hc (by omega)
  have hcells := fun (w' : World) (hb : Below w.heap.size w w') (j : Nat) (x : UInt8) (hx : row[j]? = some x) => reads_cells (hr.below hb) hx (by omega)
  have HC := Lib.hid hcells; have HM := Lib.hid hmv; have HL := Lib.hid hrow
  have k1 : (i : Int) ≤ (cap : Int) := by omega
  have k2 : (i : Int) + 1 ≤ 256 := by omega
  have q1 : IntKind.i64.wrap ((i : Int) + 1) = (i : Int) + 1 := IntWalk.i64_in _ (by omega)
  clear hcells hmv hr hc hgd hrow
  go_enter Tryd.func13, Tryd.ntmps13
  have hn1 : ∀ (j : Nat) (u : Value), (u8s (row.take i))[j]? = some u → (w.alloc (.cells #[.int .u8 (c.toNat : Int)] 5)).cell? ((⟨g, 0, none⟩ : Addr).add j) = some u := by
    intro j u hu
    rw [u8s_get, List.getElem?_take] at hu
    split at hu
    · obtain ⟨x, hx, rfl⟩ := Option.map_eq_some_iff.1 hu
      rw [addr_add, Nat.zero_add]
      exact HC.out _ (bnew _ _) j x hx
    · cases hu
  have hn2 : ∀ (w' : World), Below w.heap.size w w' → ∀ (j : Nat) (u : Value), (u8s (row.drop (i + 1)))[j]? = some u → w'.cell? ((⟨g, i + 1, none⟩ : Addr).add j) = some u := by
    intro w' hb j u hu
    rw [u8s_get, List.getElem?_drop] at hu
    obtain ⟨x, hx, rfl⟩ := Option.map_eq_some_iff.1 hu
    rw [addr_add]
    exact HC.out _ hb _ x hx
  have l1 : (u8s (row.take i)).length = i * 1 := by rw [u8s_length, List.length_take, HL.out]; omega
  have l2 : (u8s (row.drop (i + 1))).length = (255 - i) * 1 := by rw [u8s_length, List.length_drop, HL.out]; omega
  have HN1 := Lib.hid hn1; have L1 := Lib.hid l1; have L2 := Lib.hid l2; have HN2 := Lib.hid hn2
  clear hn1 l1 l2 hn2
  by_cases hq : cap = i + 1
  · have hi255 : i = 255 := by omega
    subst hi255
    subst hq
    have hn3 : ∀ (w' : World) (j : Nat) (u : Value), (u8s (row.drop (255 + 1)))[j]? = some u → w'.cell? ((⟨g, 0, none⟩ : Addr).add j) = some u := by
      intro w' j u hu
      have := (List.getElem?_eq_some_iff.1 hu).1
      rw [L2.out] at this
      omega
    have HN3 := Lib.hid hn3
    clear hn3 HN2
    go_wp2_with (first
      | (at_builtin; (refine wpList_append_own_at _ rfl _ _ 36 rfl w.heap.size 5 i0 _ 1 1 Tryd.underlying36 hinf hz0 hz1 hz2 rfl (by decide) _ 1 (u8s [c]) rfl (row_new w c) ⟨g, 0, none⟩ 255 256 (u8s (row.take 255)) rfl L1.out HN1.out (u8s_oneCell _) (by unfold maxLen; omega) (by omega) (by simp) ?_); intro v1 w1 hown1 hgrow1 _ _; have hb1 : Below w.heap.size w w1 := (bnew w (.cells #[.int .u8 (c.toNat : Int)] 5)).grown hgrow1 (by simp) (fun j hj => by cases hj; exact Nat.le_refl _); obtain ⟨A1, c1, e⟩ := own_slice hown1; subst e)
      | (at_builtin; go_must (refine wpList_append_own_at _ rfl _ _ 36 rfl w.heap.size 5 i0 _ 1 1 Tryd.underlying36 hinf hz0 hz1 hz2 rfl (by decide) _ _ _ rfl hown1 ⟨g, 0, none⟩ 0 0 (u8s (row.drop (255 + 1))) rfl L2.out (HN3.out _) (u8s_oneCell _) (by unfold maxLen; omega) (by omega) hb1.size ?_); intro v2 w2 hown2 hgrow2 _ _))
    obtain ⟨g2, cap2, e, h1, h2⟩ := own_some hown2 (by omega)
    subst e
    go_ret
    refine ⟨g2, cap2, rfl, h1, h2, ?_, hb1.grown hgrow2 hb1.size (fun j hj => (hown1.lt j hj).1)⟩
    rw [HM.out]
    exact hown2
  · go_wp2_with (first
      | (at_builtin; (refine wpList_append_own_at _ rfl _ _ 36 rfl w.heap.size 5 i0 _ 1 1 Tryd.underlying36 hinf hz0 hz1 hz2 rfl (by decide) _ 1 (u8s [c]) rfl (row_new w c) ⟨g, 0, none⟩ i cap (u8s (row.take i)) rfl L1.out HN1.out (u8s_oneCell _) (by unfold maxLen; omega) (by omega) (by simp) ?_); intro v1 w1 hown1 hgrow1 _ _; have hb1 : Below w.heap.size w w1 := (bnew w (.cells #[.int .u8 (c.toNat : Int)] 5)).grown hgrow1 (by simp) (fun j hj => by cases hj; exact Nat.le_refl _); obtain ⟨A1, c1, e⟩ := own_slice hown1; subst e)
      | (at_builtin; go_must (refine wpList_append_own_at _ rfl _ _ 36 rfl w.heap.size 5 i0 _ 1 1 Tryd.underlying36 hinf hz0 hz1 hz2 rfl (by decide) _ _ _ rfl hown1 ⟨g, i + 1, none⟩ (255 - i) (cap - (i + 1)) (u8s (row.drop (i + 1))) rfl L2.out (HN2.out _ hb1) (u8s_oneCell _) (by unfold maxLen; omega) (by omega) hb1.size ?_); intro v2 w2 hown2 hgrow2 _ _))
    rw [show 1 + i + (255 - i) = 256 by omega] at hown2
    obtain ⟨g2, cap2, e, h1, h2⟩ := own_some hown2 (by omega)
    subst e
    go_ret
    refine ⟨g2, cap2, rfl, h1, h2, ?_, hb1.grown hgrow2 hb1.size (fun j hj => (hown1.lt j hj).1)⟩
    rw [HM.out]
    exact hown2
end Go.Proofs.YtleealmeilpkmaaDoor.Ft
