/-
  The walk of huff.Long.
-/
import Derived.Test.YtnaoonegeboflaaHfRel
import Derived.Deep.RegionHeld3
namespace Go.Proofs.Ytnaoonegeboflaa.Hf
open Go.RowKit
set_option linter.unusedVariables false
set_option linter.unusedSimpArgs false

/-- the first k heaps -/
def first (ws : List Int) (k : Nat) : List Heap := (start ws).1.take k
theorem first_succ {ws : List Int} {k : Nat} {x : Int} (h : ws[k]? = some x) : first ws (k + 1) = first ws k ++ [(x, [k])] := by
  obtain ⟨hk, rfl⟩ := List.getElem?_eq_some_iff.1 h
  unfold first
  rw [List.take_succ_eq_append_getElem (by simpa [start] using hk)]
  simp [start]
theorem first_length {ws : List Int} {k : Nat} (h : k ≤ ws.length) : (first ws k).length = k := by simp [first, start]; omega
theorem first_all (ws : List Int) : first ws ws.length = (start ws).1 := by
  unfold first
  rw [List.take_of_length_le (by simp [start])]

set_option maxHeartbeats 8000000 in
set_option maxRecDepth 100000 in
theorem long_ok (A : Option Addr) (c : Nat) (ws : List Int) (w : World) (hr : Reads w A ws.length 1 (ints ws)) (hck : ck ws = 0) :
    Calls Try.prog 13 #[.slice A ws.length c] w fun e w' => ∃ G, e = .returned (.tuple #[.slice (some ⟨G, 0, none⟩) ws.length ws.length, .nilIface]) ∧ IBlk w' G (lens ws) ∧ w.heap.size ≤ G ∧ Below w.heap.size w w' := by
  obtain ⟨hl0, hl10, hin⟩ : ws.length ≠ 0 ∧ ws.length ≤ 10 ∧ ∀ x ∈ ws, 0 ≤ x ∧ x ≤ 1000 := by
    unfold ck at hck
    split at hck
    · cases hck
    · rename_i h0
      split at hck
      · cases hck
      · rename_i h10
        split at hck
        · rename_i ha
          refine ⟨h0, by omega, fun x hx => ?_⟩
          have := List.all_eq_true.1 ha x hx
          unfold inR at this
          exact of_decide_eq_true this
        · cases hck
  obtain ⟨i0, hi, hz0, hz1, hz2⟩ := info_parts infoH
  have HCK := Lib.hid (fun w' (h : Reads w' A ws.length 1 (ints ws)) => check_any A c ws w' h (by unfold maxLen; omega))
  rw [hck, show errV 0 = .nilIface from rfl] at HCK
  have hmk := fun w => run_make_ints w (ws.length : Int) ws.length rfl (by omega)
  have HIN := Lib.hid hin
  have HRD := Lib.hid hr
  clear hin hck hr
  go_enter Try.func13, Try.ntmps13
  go_wp2_with fail
  refine (HCK.out _ HRD.out).mono ?_
  rintro e w0 ⟨rfl, rfl⟩
  have hst := Lib.hid (show LRel w0 ((w0.alloc (.cells (ints (List.replicate ws.length 0)).toArray 3)).alloc (.cells #[.slice none 0 0] 51)) (w0.heap.size + 1) w0.heap.size (first ws 0) (List.replicate ws.length 0) (.slice none 0 0) [] from by
    have hs1 : (w0.alloc (.cells (ints (List.replicate ws.length 0)).toArray 3)).heap.size = w0.heap.size + 1 := by simp
    refine ⟨?_, World.ownsRow_nil _ _ _ _, trivial, (IBlk.new w0 _).alloc _, bmore (bnew w0 _) _, Nat.le_refl _, Nat.lt_succ_self _⟩
    have := heap_alloc_new (w0.alloc (.cells (ints (List.replicate ws.length 0)).toArray 3)) (.cells #[.slice none 0 0] 51)
    rw [hs1] at this
    exact this)
  go_wp2
  obtain ⟨G, hG⟩ : ∃ G, G = w0.heap.size := ⟨_, rfl⟩
  obtain ⟨X, hX⟩ : ∃ X, X = w0.heap.size + 1 := ⟨_, rfl⟩
  rw [← hX, ← hG] at hst ⊢
  clear hG hX hmk
  generalize ((w0.alloc (.cells (ints (List.replicate ws.length 0)).toArray 3)).alloc (.cells #[.slice none 0 0] 51)) = wi at *
  go_loopw [7, 8, 25] (fun x y kv wr => ∃ (k : Nat) (hv : Value) (L : List Hp), k ≤ ws.length ∧ kv = .int .i64 (k : Int) ∧ LRel w0 wr X G (first ws k) (List.replicate ws.length 0) hv L) (fun _ _ k _ => ws.length - (intOf k).toNat)
  case atStart => exact ⟨0, _, _, Nat.zero_le _, rfl, hst.out⟩
  case round =>
    clear hst
    obtain ⟨k, hv, L, hk, rfl, hrel⟩ := hrel
    have hlen : L.length = k := by rw [hrel.all.len, first_length hk]
    by_cases hlt : k < ws.length
    · obtain ⟨b, o, rfl, hb, hc⟩ := (HRD.out.below hrel.below).2 (by omega)
      obtain ⟨x, hx⟩ : ∃ x, ws[k]? = some x := ⟨_, List.getElem?_eq_getElem hlt⟩
      have c0 := hc k (.int .i64 x) (by rw [ints_get, hx]; rfl)
      have kk : (k : Int) < (ws.length : Int) := by omega
      have hcX : wr.cell? ⟨X, 0, none⟩ = some hv := row_cell hrel.cell rfl
      have hfX : wr.frozen? ⟨X, 0, none⟩ = false := row_frozen hrel.cell
      have hXl := lt_of_some hrel.cell
      have HF := Lib.hid (first_succ hx)
      have HR := Lib.hid hrel
      have HL := Lib.hid hlen
      have hsz := hrel.below.size
      have HC := Lib.hid hc
      clear hrel hx hlen hc
      have HA := Lib.hid ((HR.out.alloc (.cells #[.int .i64 (k : Int)] 3)).alloc (.cells #[.int .i64 x, .slice (some ⟨wr.heap.size, 0, none⟩) 1 1] 53))
      have HO := Lib.hid (show ((wr.alloc (.cells #[.int .i64 (k : Int)] 3)).alloc (.cells #[.int .i64 x, .slice (some ⟨wr.heap.size, 0, none⟩) 1 1] 53)).ownsRow w0.heap.size 53 2 hv k (rc L) from by have := HA.out.own; rw [HL.out] at this; exact this)
      have HN := Lib.hid (show ∀ (j : Nat) (u : Value), [Value.int .i64 x, .slice (some ⟨wr.heap.size, 0, none⟩) 1 1][j]? = some u → ((wr.alloc (.cells #[.int .i64 (k : Int)] 3)).alloc (.cells #[.int .i64 x, .slice (some ⟨wr.heap.size, 0, none⟩) 1 1] 53)).cell? ((⟨wr.heap.size + 1, 0, none⟩ : Addr).add j) = some u from fun j u hu => by
        rw [Addr.add_lit]
        have hh := heap_alloc_new (wr.alloc (.cells #[.int .i64 (k : Int)] 3)) (.cells #[.int .i64 x, .slice (some ⟨wr.heap.size, 0, none⟩) 1 1] 53)
        have hz : (wr.alloc (.cells #[.int .i64 (k : Int)] 3)).heap.size = wr.heap.size + 1 := by simp
        rw [hz] at hh
        rw [cell_of_row _ (wr.heap.size + 1) (0 + j) _ _ (0, 0) hh]
        simpa using hu)
      have HT := Lib.hid (show At ((wr.alloc (.cells #[.int .i64 (k : Int)] 3)).alloc (.cells #[.int .i64 x, .slice (some ⟨wr.heap.size, 0, none⟩) 1 1] 53)) G (x, .slice (some ⟨wr.heap.size, 0, none⟩) 1 1) (x, [k]) from by
        refine ⟨rfl, ?_⟩
        have hh := heap_alloc_new wr (.cells #[.int .i64 (k : Int)] 3)
        have hG := HR.out.out.lt
        refine World.ownsRow.alloc (w := wr.alloc _) ⟨rfl, .inr ⟨wr.heap.size, 1, _, rfl, hG, hh, Nat.le_refl _, by unfold maxLen; decide, rfl, rfl⟩⟩ _)
      have hXA : ((wr.alloc (.cells #[.int .i64 (k : Int)] 3)).alloc (.cells #[.int .i64 x, .slice (some ⟨wr.heap.size, 0, none⟩) 1 1] 53)).heap.size = wr.heap.size + 2 := by simp
      have hb1 : w0.heap.size ≤ ((wr.alloc (.cells #[.int .i64 (k : Int)] 3)).alloc (.cells #[.int .i64 x, .slice (some ⟨wr.heap.size, 0, none⟩) 1 1] 53)).heap.size := by omega
      clear hfX
      go_wp2_with (at_builtin; go_must (refine append_own _ rfl _ _ 51 rfl w0.heap.size 53 i0 _ 2 32 Try.underlying51 hi hz0 hz1 hz2 rfl (by decide) hv k (rc L) rfl HO.out ⟨wr.heap.size + 1, 0, none⟩ 1 1 _ rfl rfl HN.out (fun u hu => by simp at hu; rcases hu with rfl | rfl <;> rfl) (by unfold maxLen; omega) (by omega) hb1 (by decide) ?_); intro g cap w2 hown2 hg1 hg1' hgrow; rw [show rc L ++ [Value.int .i64 x, .slice (some ⟨wr.heap.size, 0, none⟩) 1 1] = rc (L ++ [(x, .slice (some ⟨wr.heap.size, 0, none⟩) 1 1)]) from by rw [rc_append]; rfl] at hown2; have hX2 := row_cell ((hgrow.block X (lt_of_some HA.out.cell) (fun e => HA.out.X_blk e.symm)).trans HA.out.cell) (i := 0) rfl; have hF2 := row_frozen (i := 0) ((hgrow.block X (lt_of_some HA.out.cell) (fun e => HA.out.X_blk e.symm)).trans HA.out.cell); have HP := Lib.hid (HA.out.push HT.out hgrow (by rw [List.length_append, HL.out]; rfl) hown2); clear hown2 hgrow)
      refine ⟨⟨k + 1, _, _, by omega, by go_num, by rw [HF.out]; exact HP.out⟩, by simp [intOf]; omega⟩
    · obtain rfl : k = ws.length := by omega
      have kk : ¬ ((ws.length : Int) < (ws.length : Int)) := by omega
      have HR := Lib.hid hrel
      have HL := Lib.hid hlen
      clear hrel hlen
      have hst := Lib.hid (show LRel w0 wr X G (run ws 0).1 (run ws 0).2 hv L from by have := HR.out; rw [first_all] at this; exact this)
      clear HR HL
      go_wp2_with fail
      go_loopw [10, 11, 12, 14, 39, 40, 41, 42, 43, 44, 45, 46, 47, 48, 49, 50, 51, 52, 53, 54, 55, 56, 57, 58, 59, 60, 61, 62, 63, 64, 65, 66, 67, 68, 69, 70, 71, 72, 73, 74, 75] (fun _ _ _ _ _ _ _ _ _ _ _ _ _ _ _ _ _ _ _ _ _ _ _ _ _ _ _ _ _ _ _ _ _ _ _ _ _ _ _ _ _ wr => ∃ (t : Nat) (hv : Value) (L : List Hp), t < ws.length ∧ LRel w0 wr X G (run ws t).1 (run ws t).2 hv L) (fun _ _ _ _ _ _ _ _ _ _ _ _ _ _ _ _ _ _ _ _ _ _ _ _ _ _ _ _ _ _ _ _ _ _ _ _ _ _ _ _ _ w => lenAt w X)
      case atStart => exact ⟨0, _, _, by omega, hst.out⟩
      case round =>
        clear hst
        obtain ⟨t, hv, L, ht, hrel⟩ := hrel
        have hll : L.length = ws.length - t := by rw [hrel.all.len, run_length ws t ht]
        have hlen : lenAt wr X = L.length := hrel.len
        by_cases hlt : 1 < L.length
        · obtain ⟨g, cap, rfl, hg, hgl⟩ := own_some hrel.own (by omega)
          have kk : (1 : Int) < (L.length : Int) := by omega
          have hcX : wr.cell? ⟨X, 0, none⟩ = some (.slice (some ⟨g, 0, none⟩) L.length cap) := row_cell hrel.cell rfl
          have HR := Lib.hid hrel
          have HLEN := Lib.hid hlen
          clear hrel hlen
          go_wp2_with fail
          refine (take_any _ X g cap _ L (by omega) (by omega) HR.out.cell HR.out.own HR.out.all.slices).mono ?_
          rintro e w1 ⟨p, hp, rfl, hX1, ho1, hb1⟩
          obtain ⟨hr1, x, hx, hat1⟩ := HR.out.took rfl hp hX1 ho1 hb1
          have hl1 : (L.eraseIdx (lt0 (L.map (·.1)))).length = L.length - 1 := by
            have := (List.getElem?_eq_some_iff.1 hp).1
            exact List.length_eraseIdx_of_lt this
          have HR1 := Lib.hid hr1; have HA1 := Lib.hid hat1; have HX := Lib.hid hx; have HL1 := Lib.hid hl1
          clear hp hX1 ho1 hb1 hr1 hat1 hx hl1 hcX
          go_wp2_with fail
          generalize hL1 : L.eraseIdx (lt0 (L.map (·.1))) = L1 at *
          have hlt1 : 0 < L1.length := by have := HL1.out; omega
          rw [← HL1.out] at HR1
          refine (take_any _ X g cap _ L1 hlt1 (by have := HL1.out; omega) HR1.out.cell HR1.out.own HR1.out.all.slices).mono ?_
          rintro e w2 ⟨q, hq, rfl, hX2, ho2, hb2⟩
          obtain ⟨hr2, y, hy, hat2⟩ := HR1.out.took rfl hq hX2 ho2 hb2
          have hfine := run_fine (fun x hx => HIN.out x hx) t ht
          have hwL : L.map (·.1) = wts (run ws t).1 := HR.out.all.wts
          have hwL1 : L1.map (·.1) = wts ((run ws t).1.eraseIdx (lt0 (L.map (·.1)))) := HR1.out.all.wts
          have hmx : x ∈ (run ws t).1 := List.mem_of_getElem? HX.out
          have hmy : y ∈ (run ws t).1 := (List.eraseIdx_sublist _ _).subset (List.mem_of_getElem? hy)
          have hstep : step (run ws t) = (((run ws t).1.eraseIdx (lt0 (L.map (·.1)))).eraseIdx (lt0 (L1.map (·.1))) ++ [(x.1 + y.1, x.2 ++ y.2)], bump (run ws t).2 (x.2 ++ y.2)) := by
            unfold step
            have hx' := HX.out
            have hy' := hy
            rw [hwL1, hwL] at hy'
            rw [hwL1, hwL]
            rw [hwL] at hx'
            simp only
            rw [List.getD_eq_getElem?_getD, hx', List.getD_eq_getElem?_getD, hy']
            rfl
          have HS := Lib.hid hstep
          obtain ⟨hx0, hxn, hx1⟩ := hfine.has x hmx
          obtain ⟨hy0, hyn, hy1⟩ := hfine.has y hmy
          have hsums : x.1 ≤ 10000 ∧ y.1 ≤ 10000 ∧ x.2.length + y.2.length ≤ ws.length := by
            have := fine_two hfine HX.out hy
            omega
          have hl2 : (L1.eraseIdx (lt0 (L1.map (·.1)))).length = L.length - 2 := by
            have := (List.getElem?_eq_some_iff.1 hq).1
            rw [List.length_eraseIdx_of_lt this, HL1.out]; omega
          have HL2 := Lib.hid hl2
          obtain ⟨gp, cp, rfl, hrp⟩ := (HA1.out.ik (IK.but2 hb2 HR1.out.cell (own_heap HR1.out.own hlt1).choose_spec (by decide) (by decide))).reads hx0
          obtain ⟨gq, cq, rfl, hrq⟩ := hat2.reads hy0
          have HR2 := Lib.hid hr2; have HA2 := Lib.hid hat2; have HRP := Lib.hid hrp; have HRQ := Lib.hid hrq
          clear hq hX2 ho2 hb2 hr2 hat2 hy hstep hmx hmy hwL hwL1 hfine hl2 hrp hrq
          go_wp2_with fail
          have HW := Lib.hid ((HR2.out.alloc (.cells #[.int .i64 x.1, .slice (some ⟨gp, 0, none⟩) x.2.length cp] 53)).alloc (.cells #[.int .i64 y.1, .slice (some ⟨gq, 0, none⟩) y.2.length cq] 53))
          have bb := bmore (bnew w2 (.cells #[.int .i64 x.1, .slice (some ⟨gp, 0, none⟩) x.2.length cp] 53)) (.cells #[.int .i64 y.1, .slice (some ⟨gq, 0, none⟩) y.2.length cq] 53)
          have HP := Lib.hid (HRP.out.below bb); have HQ := Lib.hid (HRQ.out.below bb)
          have z1 : (w2.alloc (.cells #[.int .i64 x.1, .slice (some ⟨gp, 0, none⟩) x.2.length cp] 53)).heap.size = w2.heap.size + 1 := by simp
          have h1 := ((bnew (w2.alloc (.cells #[.int .i64 x.1, .slice (some ⟨gp, 0, none⟩) x.2.length cp] 53)) (.cells #[.int .i64 y.1, .slice (some ⟨gq, 0, none⟩) y.2.length cq] 53)).block w2.heap.size (by omega)).trans (heap_alloc_new w2 _)
          have h2 := heap_alloc_new (w2.alloc (.cells #[.int .i64 x.1, .slice (some ⟨gp, 0, none⟩) x.2.length cp] 53)) (.cells #[.int .i64 y.1, .slice (some ⟨gq, 0, none⟩) y.2.length cq] 53)
          rw [z1] at h2
          have c10 := row_cell (i := 0) (v := .int .i64 x.1) h1 rfl
          have c11 := row_cell (i := 1) (v := .slice (some ⟨gp, 0, none⟩) x.2.length cp) h1 rfl
          have c20 := row_cell (i := 0) (v := .int .i64 y.1) h2 rfl
          have c21 := row_cell (i := 1) (v := .slice (some ⟨gq, 0, none⟩) y.2.length cq) h2 rfl
          have z2 : ((w2.alloc (.cells #[.int .i64 x.1, .slice (some ⟨gp, 0, none⟩) x.2.length cp] 53)).alloc (.cells #[.int .i64 y.1, .slice (some ⟨gq, 0, none⟩) y.2.length cq] 53)).heap.size = w2.heap.size + 2 := by simp
          clear bb h1 h2 HRP HRQ HR2 HA2 z1
          generalize (w2.alloc (.cells #[.int .i64 x.1, .slice (some ⟨gp, 0, none⟩) x.2.length cp] 53)).alloc (.cells #[.int .i64 y.1, .slice (some ⟨gq, 0, none⟩) y.2.length cq] 53) = W at *
          have HCAT := Lib.hid (show ∀ (w' : World) (b : Nat), Below W.heap.size W w' → w'.cell? ⟨b, 0, none⟩ = some (.slice (some ⟨gp, 0, none⟩) x.2.length cp) → w'.cell? ⟨b, 1, none⟩ = some (.slice (some ⟨gq, 0, none⟩) y.2.length cq) → b < w'.heap.size →
              Calls Try.prog 28 #[.slice (some ⟨b, 0, none⟩) 2 2] w' fun e w3 => ∃ g cap, e = .returned (.slice (some ⟨g, 0, none⟩) (x.2.length + y.2.length) cap) ∧ At w3 G (x.1 + y.1, .slice (some ⟨g, 0, none⟩) (x.2.length + y.2.length) cap) (x.1 + y.1, x.2 ++ y.2) ∧ Below w'.heap.size w' w3 from by
            intro w' b hbl hc0 hc1 hb
            have hc := concat_any b (some ⟨gp, 0, none⟩) (some ⟨gq, 0, none⟩) x.2.length y.2.length cp cq (nats x.2) (nats y.2) w'
              (List.length_pos_iff.2 hx0) (List.length_pos_iff.2 hy0) (by omega) hc0 hc1 (HP.out.below hbl) (HQ.out.below hbl) hb
            refine hc.mono ?_
            rintro e w3 ⟨g', cap', rfl, h1, h2⟩
            refine ⟨g', cap', rfl, ⟨rfl, ?_⟩, h2⟩
            have : nats x.2 ++ nats y.2 = nats (x.2 ++ y.2) := by simp [nats]
            rw [this] at h1
            have hG := HW.out.out.lt
            have hs := hbl.size
            rw [← List.length_append] at h1 ⊢
            exact own_base h1 (by omega))
          have wr1 : IntKind.i64.wrap (x.1 + y.1) = x.1 + y.1 := IntWalk.i64_in _ (by omega)
          have hR : w2.heap.size + 2 ≤ W.heap.size := by omega
          generalize ((run ws t).1.eraseIdx (lt0 (L.map (·.1)))).eraseIdx (lt0 (L1.map (·.1))) = hs2 at HW HS
          generalize L1.eraseIdx (lt0 (L1.map (·.1))) = L2 at HW HL2
          generalize (Value.slice (some ⟨g, 0, none⟩) (L1.length - 1) cap) = v2 at HW
          obtain ⟨o2, ho2e⟩ : ∃ o2, (run ws t).2 = o2 := ⟨_, rfl⟩
          have HO2 := Lib.hid ho2e
          rw [ho2e] at HW HS
          clear ho2e
          have HD := Lib.hid (HLD.start HW.out)
          clear HP HQ HW HR1 HA1 HX HR
          have S0 := Lib.hid (show W.cell? ⟨w2.heap.size, 0, none⟩ = some (.int .i64 x.1) ∧ W.cell? ⟨w2.heap.size + 1, 0, none⟩ = some (.int .i64 y.1) ∧ W.cell? ⟨w2.heap.size, 1, none⟩ = some (.slice (some ⟨gp, 0, none⟩) x.2.length cp) ∧ W.cell? ⟨w2.heap.size + 1, 1, none⟩ = some (.slice (some ⟨gq, 0, none⟩) y.2.length cq) ∧ HLD w0 W W X G hs2 o2 v2 L2 from ⟨c10, c20, c11, c21, HD.out⟩)
          go_region_held3 (fun w' => w'.cell? ⟨w2.heap.size, 0, none⟩ = some (.int .i64 x.1) ∧ w'.cell? ⟨w2.heap.size + 1, 0, none⟩ = some (.int .i64 y.1) ∧ w'.cell? ⟨w2.heap.size, 1, none⟩ = some (.slice (some ⟨gp, 0, none⟩) x.2.length cp) ∧ w'.cell? ⟨w2.heap.size + 1, 1, none⟩ = some (.slice (some ⟨gq, 0, none⟩) y.2.length cq) ∧ HLD w0 W w' X G hs2 o2 v2 L2)
            (first | exact S0.out | exact keep_same S0.out | exact SS | exact keep_alloc hR _ SS | exact keep_alloc hR _ (by assumption) | exact keep_far hR _ _ (keep_far hR _ _ SS h12 (by omega)) h13 (by omega))
            (first
              | (go_at_call 28; refine (HCAT.out _ _ (by exact (bnew W _).drew) (by exact row_cell (lie1 z2).1 rfl) (by exact row_cell (lie1 z2).1 rfl) (by exact (lie1 z2).2)).mono ?_; rintro e w3 ⟨g3, cap3, rfl, ha3, hb3⟩; have SS := keep_more hR S0.out (bnext (bnew W _).drew hb3); clear hb3)
              | (go_at_call 28; refine (HCAT.out _ _ (by exact (bmore (bnew W _) _).drew) (by exact row_cell (lie2 z2).1 rfl) (by exact row_cell (lie2 z2).1 rfl) (by exact (lie2 z2).2.1)).mono ?_; rintro e w3 ⟨g3, cap3, rfl, ha3, hb3⟩; have SS := keep_more hR S0.out (bnext (bmore (bnew W _) _).drew hb3); have h12 := (hb3.block _ (Nat.lt_of_succ_lt (lie2 z2).2.1)).trans (lie2 z2).2.2; obtain ⟨s0, f0, s1, f1, h13, h14⟩ := put_heap h12 (.int .i64 (x.1 + y.1)) (.slice (some ⟨g3, 0, none⟩) (x.2.length + y.2.length) cap3))
              | (go_at_call 28; refine (HCAT.out _ _ (by exact (bmore (bnew W _) _).drew) (by exact row_cell (lie2 z2).2.2 rfl) (by exact row_cell (lie2 z2).2.2 rfl) (by exact Nat.lt_of_succ_lt (lie2 z2).2.1)).mono ?_; rintro e w3 ⟨g3, cap3, rfl, ha3, hb3⟩; have SS := keep_more hR S0.out (bnext (bmore (bnew W _) _).drew hb3); have h12 := (hb3.block _ (lie2 z2).2.1).trans (lie2 z2).1; obtain ⟨s0, f0, s1, f1, h13, h14⟩ := put_heap h12 (.int .i64 (x.1 + y.1)) (.slice (some ⟨g3, 0, none⟩) (x.2.length + y.2.length) cap3)))
          all_goals
            first
              | have FN := fin_set (p := (x.1 + y.1, .slice (some ⟨g3, 0, none⟩) (x.2.length + y.2.length) cap3)) SS.2.2.2.2 ha3 h12 (by omega)
              | have FN := fin_alloc (p := (x.1 + y.1, .slice (some ⟨g3, 0, none⟩) (x.2.length + y.2.length) cap3)) SS.2.2.2.2 ha3
            (try clear h12 h13 h14 s0 f0 s1 f1)
            (try clear hb3)
            clear SS ha3 S0 HD HCAT c10 c11 c20 c21
            simp only at FN
            first
              | (obtain ⟨wf, hwf⟩ : ∃ z, z = (w3.setCell ⟨w2.heap.size + 2, 0, none⟩ (.int .i64 (x.1 + y.1))).setCell ⟨w2.heap.size + 2, 1, none⟩ (.slice (some ⟨g3, 0, none⟩) (x.2.length + y.2.length) cap3) := ⟨_, rfl⟩; rw [← hwf] at FN ⊢; clear hwf; obtain ⟨R3, hR3⟩ : ∃ z, z = w2.heap.size + 2 := ⟨_, rfl⟩; rw [← hR3] at FN ⊢; clear hR3)
              | (obtain ⟨wf, hwf⟩ : ∃ z, z = (w3.setCell ⟨w2.heap.size + 2 + 1, 0, none⟩ (.int .i64 (x.1 + y.1))).setCell ⟨w2.heap.size + 2 + 1, 1, none⟩ (.slice (some ⟨g3, 0, none⟩) (x.2.length + y.2.length) cap3) := ⟨_, rfl⟩; rw [← hwf] at FN ⊢; clear hwf; obtain ⟨R3, hR3⟩ : ∃ z, z = w2.heap.size + 2 + 1 := ⟨_, rfl⟩; rw [← hR3] at FN ⊢; clear hR3)
              | (obtain ⟨wf, hwf⟩ : ∃ z, z = (w3.setCell ⟨w2.heap.size + 3, 0, none⟩ (.int .i64 (x.1 + y.1))).setCell ⟨w2.heap.size + 3, 1, none⟩ (.slice (some ⟨g3, 0, none⟩) (x.2.length + y.2.length) cap3) := ⟨_, rfl⟩; rw [← hwf] at FN ⊢; clear hwf; obtain ⟨R3, hR3⟩ : ∃ z, z = w2.heap.size + 3 := ⟨_, rfl⟩; rw [← hR3] at FN ⊢; clear hR3)
              | (obtain ⟨wf, hwf⟩ : ∃ z, z = w3.alloc (.cells #[.int .i64 (x.1 + y.1), .slice (some ⟨g3, 0, none⟩) (x.2.length + y.2.length) cap3] 53) := ⟨_, rfl⟩; rw [← hwf] at FN ⊢; clear hwf; obtain ⟨R3, hR3⟩ : ∃ z, z = w3.heap.size := ⟨_, rfl⟩; rw [← hR3] at FN ⊢; clear hR3)
            have hN1 : (x.2 ++ y.2).length = x.2.length + y.2.length := List.length_append
            have hin2 : ∀ i ∈ x.2 ++ y.2, i < ws.length := fun i hi => by
              rcases List.mem_append.1 hi with h | h
              · exact hxn i h
              · exact hyn i h
            clear hx0 hy0 hxn hyn wr1
            generalize hN2 : x.2.length + y.2.length = N at *
            generalize x.2 ++ y.2 = is at *
            generalize x.1 + y.1 = sm at *
            have e1 := row_cell (i := 1) (v := .slice (some ⟨g3, 0, none⟩) N cap3) FN.cell rfl
            have FH := Lib.hid FN
            have HN1 := Lib.hid hN1
            have HIN2 := Lib.hid hin2
            have HBD := Lib.hid (fun i => run_bound (fun x hx => HIN.out x hx) i t ht)
            have HOL := Lib.hid (run_outs ws t)
            rw [HO2.out] at HBD HOL
            have hNle : N ≤ 10 := by omega
            clear FN hN1 hin2 hN2
            go_wp2_with fail
            go_loopw [14, 61, 62, 63, 64, 65, 66, 67, 68, 69, 70, 71] (fun _ kv _ _ _ _ _ _ _ _ _ _ wr => ∃ j : Nat, j ≤ N ∧ kv = .int .i64 (j : Int) ∧ Fin w0 W wr X G R3 hs2 (bump o2 (is.take j)) v2 L2 (sm, .slice (some ⟨g3, 0, none⟩) N cap3) (sm, is)) (fun _ k _ _ _ _ _ _ _ _ _ _ _ => N - (intOf k).toNat)
            case atStart => exact ⟨0, Nat.zero_le _, rfl, by rw [List.take_zero]; exact FH.out⟩
            case round =>
              clear FH
              obtain ⟨j, hj, rfl, hf⟩ := hrel
              have hw3 : wr.ownsRow (G + 1) 3 1 (.slice (some ⟨g3, 0, none⟩) N cap3) N (ints (nats is)) := by
                have := hf.at3.2
                rw [HN1.out] at this
                exact this
              by_cases hlt : j < N
              · obtain ⟨i, hi⟩ : ∃ i, is[j]? = some i := ⟨_, List.getElem?_eq_getElem (by rw [HN1.out]; exact hlt)⟩
                have hil := HIN2.out i (List.mem_of_getElem? hi)
                have c0 : wr.cell? ⟨g3, j, none⟩ = some (.int .i64 (i : Int)) := own_cell hw3 (by rw [ints_get, nats_get, hi]; rfl)
                have hbl : i < (bump o2 (is.take j)).length := by rw [bump_length, HOL.out]; exact hil
                have hgo : (bump o2 (is.take j))[i]? = some ((bump o2 (is.take j)).getD i 0) := by
                  rw [List.getD_eq_getElem?_getD, List.getElem?_eq_getElem hbl]; rfl
                have c1 : wr.cell? ⟨G, i, none⟩ = some (.int .i64 ((bump o2 (is.take j)).getD i 0)) := hf.rel.out.cell hgo
                have f1 : wr.frozen? ⟨G, i, none⟩ = false := hf.rel.out.frozen i
                have hb1 := bump_bound (is.take j) i o2
                have hb2 := HBD.out i
                have htn : (t : Int) * (ws.length : Int) ≤ 10 * 10 := Int.mul_le_mul (by omega) (by omega) (by omega) (by omega)
                have hlj : ((is.take j).length : Int) ≤ 10 := by rw [List.length_take]; omega
                have hbs : bump o2 (is.take (j + 1)) = (bump o2 (is.take j)).set i ((bump o2 (is.take j)).getD i 0 + 1) := by
                  rw [List.take_add_one, hi, Option.toList_some, bump_snoc]
                have HB := Lib.hid hbs
                have HF := Lib.hid hf
                have kk : (j : Int) < (N : Int) := by omega
                have k1 : (i : Int) < (ws.length : Int) := by omega
                clear hbs hf hw3 hgo hbl hi
                generalize bump o2 (is.take j) = ob at *
                have wr1 : IntKind.i64.wrap (ob.getD i 0 + 1) = ob.getD i 0 + 1 := IntWalk.i64_in _ (by omega)
                generalize ob.getD i 0 = vi at *
                clear hb1 hb2 htn hlj
                go_wp2_with fail
                refine ⟨⟨j + 1, by omega, by go_num, ?_⟩, by simp [intOf]; omega⟩
                rw [HB.out]
                exact HF.out.bump_ i _
              · obtain rfl : j = N := by omega
                have kk : ¬ ((j : Int) < (j : Int)) := by omega
                have HF := Lib.hid hf
                clear hf
                have hX := row_cell (i := 0) (v := v2) HF.out.rel.cell rfl
                have d0 := row_cell (i := 0) (v := .int .i64 sm) HF.out.cell rfl
                have d1 := row_cell (i := 1) (v := .slice (some ⟨g3, 0, none⟩) j cap3) HF.out.cell rfl
                have HA := Lib.hid (HF.out.alloc (.cells #[.int .i64 sm, .slice (some ⟨g3, 0, none⟩) j cap3] 53))
                have HO := Lib.hid (show (wr.alloc (.cells #[.int .i64 sm, .slice (some ⟨g3, 0, none⟩) j cap3] 53)).ownsRow w0.heap.size 53 2 v2 (L.length - 2) (rc L2) from by have := HA.out.rel.own; rw [HL2.out] at this; exact this)
                have HN := Lib.hid (show ∀ (k : Nat) (u : Value), [Value.int .i64 sm, .slice (some ⟨g3, 0, none⟩) j cap3][k]? = some u → (wr.alloc (.cells #[.int .i64 sm, .slice (some ⟨g3, 0, none⟩) j cap3] 53)).cell? ((⟨wr.heap.size, 0, none⟩ : Addr).add k) = some u from fun k u hu => by
                  rw [Addr.add_lit, cell_of_row _ wr.heap.size (0 + k) _ _ (0, 0) (heap_alloc_new wr _)]
                  simpa using hu)
                have hb1 : w0.heap.size ≤ (wr.alloc (.cells #[.int .i64 sm, .slice (some ⟨g3, 0, none⟩) j cap3] 53)).heap.size := HA.out.rel.below.size
                have hX2 : (wr.alloc (.cells #[.int .i64 sm, .slice (some ⟨g3, 0, none⟩) j cap3] 53)).cell? ⟨X, 0, none⟩ = some v2 := row_cell (i := 0) HA.out.rel.cell rfl
                clear e1
                go_wp2_with (at_builtin; go_must (refine append_own _ rfl _ _ 51 rfl w0.heap.size 53 i0 _ 2 32 Try.underlying51 hi hz0 hz1 hz2 rfl (by decide) v2 (L.length - 2) (rc L2) rfl HO.out ⟨wr.heap.size, 0, none⟩ 1 1 _ rfl rfl HN.out (fun u hu => by simp at hu; rcases hu with rfl | rfl <;> rfl) (by unfold maxLen; omega) (by omega) hb1 (by decide) ?_); intro g5 cap5 w5 hown5 hg5 hg5' hgrow; rw [show rc L2 ++ [Value.int .i64 sm, .slice (some ⟨g3, 0, none⟩) j cap3] = rc (L2 ++ [(sm, .slice (some ⟨g3, 0, none⟩) j cap3)]) from by rw [rc_append]; rfl] at hown5; have hX5 := row_cell ((hgrow.block X (lt_of_some HA.out.rel.cell) (fun e => HA.out.rel.X_blk e.symm)).trans HA.out.rel.cell) (i := 0) rfl; have hF5 := row_frozen (i := 0) ((hgrow.block X (lt_of_some HA.out.rel.cell) (fun e => HA.out.rel.X_blk e.symm)).trans HA.out.rel.cell); have HP := Lib.hid (HA.out.rel.push HA.out.at3 hgrow (by rw [List.length_append, HL2.out]; rfl) hown5); clear hown5 hgrow)
                rw [hll] at HP
                refine ⟨⟨t + 1, .slice (some ⟨g5, 0, none⟩) (ws.length - t - 2 + 1) cap5, L2 ++ [(sm, .slice (some ⟨g3, 0, none⟩) j cap3)], by omega, ?_⟩, ?_⟩
                · rw [run, HS.out]
                  have := HP.out
                  rw [List.take_of_length_le (by rw [HN1.out]; exact Nat.le_refl _)] at this
                  exact this
                · rw [HP.out.len, HLEN.out, List.length_append, HL2.out]
                  simp only [List.length_singleton]
                  omega
        · have kk : ¬ ((1 : Int) < (L.length : Int)) := by omega
          obtain ⟨A0, cap0, hv0⟩ := own_slice hrel.own
          subst hv0
          have hcX : wr.cell? ⟨X, 0, none⟩ = some (.slice A0 L.length cap0) := row_cell hrel.cell rfl
          have HR := Lib.hid hrel
          have HT := Lib.hid (show t = ws.length - 1 by omega)
          clear hrel
          go_wp2_with fail
          go_ret2
          refine ⟨G, rfl, ?_, HR.out.geG, HR.out.below⟩
          have := HR.out.out
          rw [HT.out] at this
          exact this
end Go.Proofs.Ytnaoonegeboflaa.Hf
