/-
  The walk of the reference's Huff.
-/
import Derived.Test.YtdafkkhbfgpcoaaDoorHfRefA
namespace Go.Proofs.YtdafkkhbfgpcoaaDoor.Hf
open Go.RowKit
set_option linter.unusedVariables false
set_option linter.unusedSimpArgs false

structure RRel (w wr : World) (G : Nat) (hs : List Heap) (outs : List Int) (hv : Value) (L : List Hp) : Prop where
  own : wr.ownsRow w.heap.size 41 2 hv L.length (rc L)
  all : AllAt wr G L hs
  out : IBlk wr G outs
  below : Below w.heap.size w wr
  geG : w.heap.size ≤ G
section
variable {w wr : World} {G : Nat} {hs : List Heap} {outs : List Int} {hv : Value} {L : List Hp}
theorem RRel.out_blk (h : RRel w wr G hs outs hv L) : hv.ownBlock ≠ some G := own_block_ne h.own h.out (by decide)
theorem RRel.more {w2 : World} (h : RRel w wr G hs outs hv L) (hb : Below wr.heap.size wr w2) : RRel w w2 G hs outs hv L :=
  ⟨own_below h.own hb, h.all.ik (IK.of_below hb), h.out.below hb h.out.lt, h.below.trans (hb.mono h.below.size), h.geG⟩
theorem RRel.alloc (h : RRel w wr G hs outs hv L) (o : Obj) : RRel w (wr.alloc o) G hs outs hv L := h.more (bnew wr o)
theorem RRel.bump_ (h : RRel w wr G hs outs hv L) (j : Nat) (n : Int) : RRel w (wr.setCell ⟨G, j, none⟩ (.int .i64 n)) G hs (outs.set j n) hv L :=
  ⟨h.own.kept (grown_set wr G j _) (.inr h.out_blk), h.all.ik (IK.set h.out (.inr rfl) _), h.out.set_ j n, h.below.setCell (p := ⟨G, j, none⟩) h.geG _, h.geG⟩
theorem RRel.push {w2 : World} {g cap n : Nat} {p : Hp} {hp : Heap} (h : RRel w wr G hs outs hv L) (ha : At wr G p hp) (hg : wr.grownBy w2 hv.ownBlock) (hn : n = (L ++ [p]).length) (ho : w2.ownsRow w.heap.size 41 2 (.slice (some ⟨g, 0, none⟩) n cap) n (rc (L ++ [p]))) :
    RRel w w2 G (hs ++ [hp]) outs (.slice (some ⟨g, 0, none⟩) n cap) (L ++ [p]) := by
  have hik : IK G wr w2 := IK.grown hg h.own (by decide)
  exact ⟨by rw [← hn]; exact ho, (h.all.ik hik).snoc (ha.ik hik), (hg.block G h.out.lt (fun e => h.out_blk e.symm)).trans h.out, h.below.grown hg h.below.size (fun k hk => own_block_ge h.own hk), h.geG⟩
theorem RRel.took {w2 : World} {v : Value} {i : Nat} {p : Hp} (h : RRel w wr G hs outs hv L) (hp : L[i]? = some p) (ho : w2.ownsRow wr.heap.size 41 2 v (L.length - 1) (rc (L.eraseIdx i))) (hb : Below wr.heap.size wr w2) :
    RRel w w2 G (hs.eraseIdx i) outs v (L.eraseIdx i) ∧ ∃ x, hs[i]? = some x ∧ At w2 G p x := by
  have hlt : i < L.length := (List.getElem?_eq_some_iff.1 hp).1
  have hl : (L.eraseIdx i).length = L.length - 1 := List.length_eraseIdx_of_lt hlt
  obtain ⟨x, hx, hat⟩ := h.all.get i p hp
  have h2 := h.more hb
  exact ⟨⟨by rw [hl]; exact own_base ho h.below.size, h2.all.erase i, h2.out, h2.below, h2.geG⟩, x, hx, hat.ik (IK.of_below hb)⟩
theorem AllAt.slice_at {L : List Hp} {hs : List Heap} (a : AllAt wr G L hs) {i : Nat} {p : Hp} (hp : L[i]? = some p) : ∃ A m c, p = (p.1, .slice A m c) := by
  obtain ⟨x, _, hat⟩ := a.get i p hp
  obtain ⟨A, m, c, e⟩ := hat.slice
  exact ⟨A, m, c, by rw [← e]⟩
end
/-- what the counting keeps -/
structure RFin (w wr : World) (G R1 R3 B : Nat) (hs : List Heap) (outs : List Int) (hv : Value) (L : List Hp) (x y : Int) (vx vy v9 : Value) (is : List Nat) : Prop where
  rel : RRel w wr G hs outs hv L
  own : wr.ownsRow B 3 1 v9 is.length (ints (nats is))
  gtB : G < B
  c1 : wr.heap[R1]? = some (.cells #[.int .i64 x, vx] 41 (0, 0))
  c3 : wr.heap[R3]? = some (.cells #[.int .i64 y, vy] 41 (0, 0))
theorem RFin.bump_ {w wr : World} {G R1 R3 B : Nat} {hs : List Heap} {outs : List Int} {hv : Value} {L : List Hp} {x y : Int} {vx vy v9 : Value} {is : List Nat} (f : RFin w wr G R1 R3 B hs outs hv L x y vx vy v9 is) (j : Nat) (n : Int) : RFin w (wr.setCell ⟨G, j, none⟩ (.int .i64 n)) G R1 R3 B hs (outs.set j n) hv L x y vx vy v9 is :=
  ⟨f.rel.bump_ j n, f.own.kept (grown_set wr G j _) (.inr fun e => by have := own_block_ge f.own e; have := f.gtB; omega), f.gtB,
    (heap_far (p := ⟨G, j, none⟩) (fun (e : R1 = G) => ty_ne (e ▸ f.c1) f.rel.out (by decide))).trans f.c1, (heap_far (p := ⟨G, j, none⟩) (fun (e : R3 = G) => ty_ne (e ▸ f.c3) f.rel.out (by decide))).trans f.c3⟩
/-- how long a slice's value says it is -/
def lenOf : Value → Nat
  | .slice _ n _ => n
  | _ => 0
theorem addr_reads {w : World} {g n : Nat} {l : List Int} (h : Reads w (some ⟨g, 0, none⟩) n 1 (ints l)) (h0 : 0 < n) : ∀ (k : Nat) (u : Value), (ints l)[k]? = some u → w.cell? ((⟨g, 0, none⟩ : Addr).add k) = some u := fun k u hu => by
  obtain ⟨b, o, e, _, hc⟩ := h.2 h0
  simp only [Option.some.injEq, Addr.mk.injEq, and_true] at e
  obtain ⟨rfl, rfl⟩ := e
  rw [Addr.add_lit]; exact hc k u hu
theorem firstR_succ {ws : List Int} {k : Nat} {x : Int} (h : ws[k]? = some x) : (start ws).1.take (k + 1) = (start ws).1.take k ++ [(x, [k])] := by
  obtain ⟨hk, rfl⟩ := List.getElem?_eq_some_iff.1 h
  rw [List.take_succ_eq_append_getElem (by simpa [start] using hk)]
  simp [start]

set_option maxHeartbeats 1000000 in
set_option maxRecDepth 100000 in
theorem refhuff_ok (A : Option Addr) (c : Nat) (ws : List Int) (w : World) (hr : Reads w A ws.length 1 (ints ws)) (hl0 : 1 ≤ ws.length) (hl10 : ws.length ≤ 10) (hin : ∀ x ∈ ws, 0 ≤ x ∧ x ≤ 1000) :
    Calls Tryd.prog 7 #[.slice A ws.length c] w fun e w' => ∃ G, e = .returned (.slice (some ⟨G, 0, none⟩) ws.length ws.length) ∧ IBlk w' G (lens ws) ∧ w.heap.size ≤ G ∧ Below w.heap.size w w' := by
  obtain ⟨i0, hi, hz0, hz1, hz2⟩ := info_parts infoR
  obtain ⟨j0, hj, hq0, hq1, hq2⟩ := info_parts infoI
  have hmk := fun w => run_make_ints w (ws.length : Int) ws.length rfl (by omega)
  have HIN := Lib.hid hin
  have HRD := Lib.hid hr
  clear hin hr
  go_enter Tryd.func7, Tryd.ntmps7
  go_wp2_with fail
  have hst := Lib.hid (show RRel w (w.alloc (.cells (ints (List.replicate ws.length 0)).toArray 3)) w.heap.size ((start ws).1.take 0) (List.replicate ws.length 0) (.slice none 0 0) [] from
    ⟨World.ownsRow_nil _ _ _ _, trivial, IBlk.new w _, bnew w _, Nat.le_refl _⟩)
  obtain ⟨G, hG⟩ : ∃ G, G = w.heap.size := ⟨_, rfl⟩
  rw [← hG] at hst ⊢
  have HG := Lib.hid hG
  clear hG hmk
  generalize w.alloc (.cells (ints (List.replicate ws.length 0)).toArray 3) = wi at *
  go_loopw [4, 5, 14, 15, 16, 17, 18, 19, 20, 21, 22, 23, 24, 25, 26, 27, 28, 29] (fun hv kv _ _ _ _ _ _ _ _ _ _ _ _ _ _ _ _ wr => ∃ (k : Nat) (L : List Hp), k ≤ ws.length ∧ kv = .int .i64 (k : Int) ∧ RRel w wr G ((start ws).1.take k) (List.replicate ws.length 0) hv L) (fun _ kv _ _ _ _ _ _ _ _ _ _ _ _ _ _ _ _ _ => ws.length - (intOf kv).toNat)
  case atStart => exact ⟨0, _, Nat.zero_le _, rfl, hst.out⟩
  case round =>
    clear hst
    obtain ⟨k, L, hk, rfl, hrel⟩ := hrel
    have hlen : L.length = k := by rw [hrel.all.len]; simp [start]; omega
    by_cases hlt : k < ws.length
    · obtain ⟨b, o, rfl, hb, hc⟩ := (HRD.out.below hrel.below).2 (by omega)
      obtain ⟨x, hx⟩ : ∃ x, ws[k]? = some x := ⟨_, List.getElem?_eq_getElem hlt⟩
      have c0 := hc k (.int .i64 x) (by rw [ints_get, hx]; rfl)
      have kk : (k : Int) < (ws.length : Int) := by omega
      have HF := Lib.hid (firstR_succ hx)
      have hsz := hrel.below.size
      have HL := Lib.hid hlen
      have HA := Lib.hid ((hrel.alloc (.cells #[.int .i64 (k : Int)] 3)).alloc (.cells #[.int .i64 x, .slice (some ⟨wr.heap.size, 0, none⟩) 1 1] 41))
      have HT := Lib.hid (show At ((wr.alloc (.cells #[.int .i64 (k : Int)] 3)).alloc (.cells #[.int .i64 x, .slice (some ⟨wr.heap.size, 0, none⟩) 1 1] 41)) G (x, .slice (some ⟨wr.heap.size, 0, none⟩) 1 1) (x, [k]) from by
        refine ⟨rfl, ?_⟩
        have hh := heap_alloc_new wr (.cells #[.int .i64 (k : Int)] 3)
        have hG := hrel.out.lt
        refine World.ownsRow.alloc (w := wr.alloc _) ⟨rfl, .inr ⟨wr.heap.size, 1, _, rfl, hG, hh, Nat.le_refl _, by unfold maxLen; decide, rfl, rfl⟩⟩ _)
      have hn := cells2_new (wr.alloc (.cells #[.int .i64 (k : Int)] 3)) (.int .i64 x) (.slice (some ⟨wr.heap.size, 0, none⟩) 1 1) 41
      have hz : (wr.alloc (.cells #[.int .i64 (k : Int)] 3)).heap.size = wr.heap.size + 1 := by simp
      rw [hz] at hn
      have HN := Lib.hid hn
      have hb1 : w.heap.size ≤ ((wr.alloc (.cells #[.int .i64 (k : Int)] 3)).alloc (.cells #[.int .i64 x, .slice (some ⟨wr.heap.size, 0, none⟩) 1 1] 41)).heap.size := HA.out.below.size
      have HO := Lib.hid (show ((wr.alloc (.cells #[.int .i64 (k : Int)] 3)).alloc (.cells #[.int .i64 x, .slice (some ⟨wr.heap.size, 0, none⟩) 1 1] 41)).ownsRow w.heap.size 41 2 _ k (rc L) from by have := HA.out.own; rw [hlen] at this; exact this)
      clear hrel hx hlen hc hn hz
      go_wp2_with (at_builtin; go_must (refine append_own _ rfl _ _ 39 rfl w.heap.size 41 i0 _ 2 32 Tryd.underlying39 hi hz0 hz1 hz2 rfl (by decide) _ k (rc L) rfl HO.out ⟨wr.heap.size + 1, 0, none⟩ 1 1 [.int .i64 x, .slice (some ⟨wr.heap.size, 0, none⟩) 1 1] rfl rfl HN.out (two_one _ _ _ _) (by unfold maxLen; omega) (by omega) hb1 (by decide) ?_); intro g cap w2 hown2 hg1 hg1' hgrow)
      rw [show rc L ++ [Value.int .i64 x, .slice (some ⟨wr.heap.size, 0, none⟩) 1 1] = rc (L ++ [(x, .slice (some ⟨wr.heap.size, 0, none⟩) 1 1)]) from by rw [rc_append]; rfl] at hown2
      exact ⟨⟨k + 1, _, by omega, by go_num, by rw [HF.out]; exact HA.out.push HT.out hgrow (by rw [List.length_append, HL.out]; rfl) hown2⟩, by simp [intOf]; omega⟩
    · obtain rfl : k = ws.length := by omega
      have kk : ¬ ((ws.length : Int) < (ws.length : Int)) := by omega
      have hst := Lib.hid (show RRel w wr G (run ws 0).1 (run ws 0).2 _ L from by have := hrel; rw [List.take_of_length_le (by simp [start])] at this; exact this)
      clear hrel hlen
      go_wp2_with fail
      go_loopw [4, 6, 7, 8, 9, 10, 30, 31, 32, 33, 34, 35, 36, 37, 38, 39, 40, 41, 42, 43, 44, 45, 46, 47, 48, 49, 50, 51, 52, 53, 54, 55, 56, 57, 58, 59, 60, 61, 62, 63, 64, 65, 66, 67, 68, 69, 70, 71, 72, 73, 74, 75, 76, 77, 78, 79, 80, 81, 82, 83] (fun hv _ _ _ _ _ _ _ _ _ _ _ _ _ _ _ _ _ _ _ _ _ _ _ _ _ _ _ _ _ _ _ _ _ _ _ _ _ _ _ _ _ _ _ _ _ _ _ _ _ _ _ _ _ _ _ _ _ _ _ wr => ∃ (t : Nat) (L : List Hp), t < ws.length ∧ RRel w wr G (run ws t).1 (run ws t).2 hv L) (fun hv _ _ _ _ _ _ _ _ _ _ _ _ _ _ _ _ _ _ _ _ _ _ _ _ _ _ _ _ _ _ _ _ _ _ _ _ _ _ _ _ _ _ _ _ _ _ _ _ _ _ _ _ _ _ _ _ _ _ _ _ => lenOf hv)
      case atStart => exact ⟨0, _, by omega, hst.out⟩
      case round =>
        clear hst
        obtain ⟨t, L, ht, hrel⟩ := hrel
        have hll : L.length = ws.length - t := by rw [hrel.all.len, run_length ws t ht]
        have hL10 : L.length ≤ 10 := by omega
        have HLL := Lib.hid hll
        clear hll
        by_cases hlt : 1 < L.length
        · obtain ⟨g, cap, rfl, hg, hgl⟩ := own_some hrel.own (by omega)
          have kk : (1 : Int) < (L.length : Int) := by omega
          have HR := Lib.hid hrel
          clear hrel
          go_wp2_with fail
          refine (lightest_any g cap L _ (by omega) (by omega) (Reads.of_own HR.out.own)).mono ?_
          rintro e w1 ⟨rfl, hb1⟩
          have HR1 := Lib.hid (HR.out.more hb1)
          have hi1 : lt0 (L.map (·.1)) < L.length := by have := lt0_lt (l := L.map (·.1)) (by rw [List.length_map]; omega); rwa [List.length_map] at this
          have hwL : L.map (·.1) = wts (run ws t).1 := HR.out.all.wts
          have HWL := Lib.hid hwL
          obtain ⟨i, hie⟩ : ∃ i, i = lt0 (L.map (·.1)) := ⟨_, rfl⟩
          rw [← hie] at hi1 ⊢
          have HIE := Lib.hid hie
          clear hie hwL hb1 HR
          obtain ⟨p, hp⟩ : ∃ p, L[i]? = some p := ⟨_, List.getElem?_eq_getElem hi1⟩
          obtain ⟨Ap, mp, cp, hpe⟩ := HR1.out.all.slice_at hp
          have c0 : w1.cell? ⟨g, i * 2, none⟩ = some (.int .i64 p.1) := cells_row HR1.out.own (by rw [(rc_get L i).1, hp]; rfl)
          have c1 : w1.cell? ⟨g, i * 2 + 1, none⟩ = some (.slice Ap mp cp) := cells_row HR1.out.own (by rw [(rc_get L i).2, hp, hpe]; rfl)
          have k1 : (i : Int) < (L.length : Int) := by omega
          have HP := Lib.hid hp; have HPE := Lib.hid hpe
          clear hp hpe
          go_wp2_with fail
          have HR1a := Lib.hid (HR1.out.alloc (.cells #[.int .i64 p.1, .slice Ap mp cp] 41))
          refine (without_any g cap i L _ hi1 (by omega) (Reads.of_own HR1a.out.own) HR1a.out.all.slices).mono ?_
          rintro e w2 ⟨v2, rfl, hown2, hb2⟩
          have hl1 : (L.eraseIdx i).length = L.length - 1 := List.length_eraseIdx_of_lt hi1
          obtain ⟨hr2, x, hx, hat2⟩ := HR1a.out.took HP.out hown2 hb2
          have hc2 := (hb2.block w1.heap.size (by simp)).trans (heap_alloc_new w1 _)
          have HC2 := Lib.hid hc2
          obtain ⟨L1, hL1⟩ : ∃ L1, L1 = L.eraseIdx i := ⟨_, rfl⟩
          rw [← hL1] at hr2 hl1
          obtain ⟨g1, cap1, rfl, hg1, hgl1⟩ := own_some hr2.own (by omega)
          have HR2 := Lib.hid hr2; have HA2 := Lib.hid hat2; have HX := Lib.hid hx
          have HL1 := Lib.hid hl1; have HLE := Lib.hid hL1
          have h11 : 0 < L1.length := by omega
          have h1n : L1.length ≤ 10 := by omega
          clear hown2 hb2 hr2 hat2 hx hc2 HR1 HR1a c0 c1 hl1 hL1
          go_wp2_with fail
          refine (lightest_any g1 cap1 L1 _ h11 (by omega) (Reads.of_own HR2.out.own)).mono ?_
          rintro e w3 ⟨rfl, hb3⟩
          have HR3 := Lib.hid (HR2.out.more hb3)
          have HA3 := Lib.hid (HA2.out.ik (IK.of_below hb3))
          have HC3 := Lib.hid ((hb3.block w1.heap.size (lt_of_some HC2.out)).trans HC2.out)
          have hi2 : lt0 (L1.map (·.1)) < L1.length := by have := lt0_lt (l := L1.map (·.1)) (by rw [List.length_map]; omega); rwa [List.length_map] at this
          have HWL1 := Lib.hid HR2.out.all.wts
          obtain ⟨j, hje⟩ : ∃ j, j = lt0 (L1.map (·.1)) := ⟨_, rfl⟩
          rw [← hje] at hi2 ⊢
          have HJE := Lib.hid hje
          obtain ⟨q, hq⟩ : ∃ q, L1[j]? = some q := ⟨_, List.getElem?_eq_getElem hi2⟩
          obtain ⟨Aq, mq, cq, hqe⟩ := HR3.out.all.slice_at hq
          have c0 : w3.cell? ⟨g1, j * 2, none⟩ = some (.int .i64 q.1) := cells_row HR3.out.own (by rw [(rc_get L1 j).1, hq]; rfl)
          have c1 : w3.cell? ⟨g1, j * 2 + 1, none⟩ = some (.slice Aq mq cq) := cells_row HR3.out.own (by rw [(rc_get L1 j).2, hq, hqe]; rfl)
          have k2 : (j : Int) < (L1.length : Int) := by omega
          have HQ := Lib.hid hq; have HQE := Lib.hid hqe
          clear hje hb3 HR2 HA2 HC2 hq hqe
          go_wp2_with fail
          have HR3a := Lib.hid (HR3.out.alloc (.cells #[.int .i64 q.1, .slice Aq mq cq] 41))
          refine (without_any g1 cap1 j L1 _ hi2 (by omega) (Reads.of_own HR3a.out.own) HR3a.out.all.slices).mono ?_
          rintro e w4 ⟨v4, rfl, hown4, hb4⟩
          have hl2 : (L1.eraseIdx j).length = L1.length - 1 := List.length_eraseIdx_of_lt hi2
          obtain ⟨hr4, y, hy, hat4⟩ := HR3a.out.took HQ.out hown4 hb4
          have hs3 : w3.heap.size < (w3.alloc (.cells #[.int .i64 q.1, .slice Aq mq cq] 41)).heap.size := by simp
          have hd1 := (hb4.block w3.heap.size hs3).trans (heap_alloc_new w3 _)
          have hb34 := bnext (bnew w3 _) hb4
          have hd0 := (hb34.block w1.heap.size (lt_of_some HC3.out)).trans HC3.out
          have hatp := HA3.out.ik (IK.of_below hb34)
          have hfine := run_fine (fun x hx => HIN.out x hx) t ht
          have hmx : x ∈ (run ws t).1 := List.mem_of_getElem? HX.out
          have hmy : y ∈ (run ws t).1 := (List.eraseIdx_sublist _ _).subset (List.mem_of_getElem? hy)
          have hstep : step (run ws t) = (((run ws t).1.eraseIdx i).eraseIdx j ++ [(x.1 + y.1, x.2 ++ y.2)], bump (run ws t).2 (x.2 ++ y.2)) := by
            unfold step
            have hx' := HX.out
            have hie := HIE.out
            rw [HWL.out] at hie
            have hje := HJE.out
            rw [HWL1.out] at hje
            simp only
            rw [← hie, ← hje, List.getD_eq_getElem?_getD, hx', List.getD_eq_getElem?_getD, hy]
            rfl
          obtain ⟨hx0, hxn, hx1⟩ := hfine.has x hmx
          obtain ⟨hy0, hyn, hy1⟩ := hfine.has y hmy
          have hsums : x.1 ≤ 10000 ∧ y.1 ≤ 10000 ∧ x.2.length + y.2.length ≤ ws.length := by
            have := fine_two hfine HX.out hy
            omega
          have hin2 : ∀ i ∈ x.2 ++ y.2, i < ws.length := fun i hi => by
            rcases List.mem_append.1 hi with h | h
            · exact hxn i h
            · exact hyn i h
          have hbd := fun i => run_bound (fun x hx => HIN.out x hx) i t ht
          have hol := run_outs ws t
          have hrun : run ws (t + 1) = step (run ws t) := rfl
          have hlt2 : t + 1 < ws.length := by have := HLL.out; omega
          obtain ⟨gp, cp', hpe, hrp⟩ := hatp.reads hx0
          obtain ⟨gq, cq', hqe, hrq⟩ := hat4.reads hy0
          have hA1 : p.1 = x.1 ∧ Value.slice Ap mp cp = .slice (some ⟨gp, 0, none⟩) x.2.length cp' := by
            have := HPE.out.symm.trans hpe
            simp only [Prod.mk.injEq] at this; exact this
          have hA2 : q.1 = y.1 ∧ Value.slice Aq mq cq = .slice (some ⟨gq, 0, none⟩) y.2.length cq' := by
            have := HQE.out.symm.trans hqe
            simp only [Prod.mk.injEq] at this; exact this
          rw [hA1.1, hA1.2] at hd0
          rw [hA2.1, hA2.2] at hd1
          obtain ⟨L2, hL2⟩ : ∃ L2, L2 = L1.eraseIdx j := ⟨_, rfl⟩
          rw [← hL2] at hr4 hl2
          obtain ⟨A4, c4, hv4⟩ := own_slice hr4.own
          have hl2' : L2.length = L.length - 2 := by rw [hl2, HL1.out]; omega
          rw [hstep] at hrun
          generalize ((run ws t).1.eraseIdx i).eraseIdx j = hs2 at hr4 hrun
          generalize (run ws t).2 = o2 at hr4 hrun hbd hol
          have HR4 := Lib.hid hr4; have HRUN := Lib.hid hrun; have HRP := Lib.hid hrp; have HRQ := Lib.hid hrq; have HD0 := Lib.hid hd0; have HD1 := Lib.hid hd1
          have HIN2 := Lib.hid hin2; have HBD := Lib.hid hbd; have HOL := Lib.hid hol; have HL2 := Lib.hid hl2'
          have hlx : 0 < x.2.length := List.length_pos_iff.2 hx0
          have hly : 0 < y.2.length := List.length_pos_iff.2 hy0
          subst hv4
          clear hr4 hrun hrp hrq hd0 hd1 hin2 hbd hol hl2' hl2 hL2 hown4 hb4 hb34 hat4 hatp hfine hmx hmy hy hstep hxn hyn hx0 hy0 hpe hqe hA1 hA2 HR3 HR3a HA3 HC3 c0 c1 HX HWL HWL1 HIE HJE HP HPE HQ HQE HLE HL1 HRD HIN
          have e11 := row_cell (i := 1) (v := .slice (some ⟨gp, 0, none⟩) x.2.length cp') HD0.out rfl
          have HRPA := Lib.hid (show ∀ (k : Nat) (u : Value), (ints (nats x.2))[k]? = some u → w4.cell? ((⟨gp, 0, none⟩ : Addr).add k) = some u from fun k u hu => by
            obtain ⟨b, o, e, _, hc⟩ := HRP.out.2 hlx
            simp only [Option.some.injEq, Addr.mk.injEq, and_true] at e
            obtain ⟨rfl, rfl⟩ := e
            rw [Addr.add_lit]; exact hc k u hu)
          have hlnx : (ints (nats x.2)).length = x.2.length * 1 := by simp [ints, nats]
          have hlny : (ints (nats y.2)).length = y.2.length * 1 := by simp [ints, nats]
          have HGB := Lib.hid HR4.out.out.lt
          go_wp2_with (first
            | (at_builtin; (refine append_own _ rfl _ _ 22 rfl w4.heap.size 3 j0 _ 1 8 Tryd.underlying22 hj hq0 hq1 hq2 rfl (by decide) (.slice none 0 0) 0 [] rfl (World.ownsRow_nil _ _ _ _) ⟨gp, 0, none⟩ x.2.length cp' (ints (nats x.2)) rfl hlnx HRPA.out (fun u hu => by obtain ⟨z, _, rfl⟩ := List.mem_map.1 hu; rfl) (by unfold maxLen; omega) (by omega) (Nat.le_refl _) hlx ?_); intro g8 cap8 w5 hown5 hg8 hg8' hgrow5; rw [Nat.zero_add, List.nil_append] at hown5; rw [Nat.zero_add]; have hb5 : Below w4.heap.size w4 w5 := (Below.refl _ _).grown hgrow5 (Nat.le_refl _) (fun k hk => by cases hk); have HO5 := Lib.hid hown5; have e31 : w5.cell? ⟨w3.heap.size, 1, none⟩ = some (.slice (some ⟨gq, 0, none⟩) y.2.length cq') := (hb5.cell (p := ⟨w3.heap.size, 1, none⟩) (lt_of_some HD1.out)).trans (row_cell (i := 1) HD1.out rfl); have HRQA := Lib.hid (addr_reads (HRQ.out.below hb5) hly); have hsz5 := hb5.size; have HB5 := Lib.hid hb5; clear hown5 hgrow5 e11 hb5)
            | (at_builtin; go_must (refine append_own _ rfl _ _ 22 rfl w4.heap.size 3 j0 _ 1 8 Tryd.underlying22 hj hq0 hq1 hq2 rfl (by decide) (.slice (some ⟨g8, 0, none⟩) x.2.length cap8) x.2.length (ints (nats x.2)) rfl HO5.out ⟨gq, 0, none⟩ y.2.length cq' (ints (nats y.2)) rfl hlny HRQA.out (fun u hu => by obtain ⟨z, _, rfl⟩ := List.mem_map.1 hu; rfl) (by unfold maxLen; omega) (by omega) hsz5 hly ?_); intro g9 cap9 w6 hown6 hg9 hg9' hgrow6))
          have hb6 : Below w4.heap.size w4 w6 := HB5.out.grown hgrow6 hsz5 (fun k hk => own_block_ge HO5.out hk)
          have hNl : (x.2 ++ y.2).length = x.2.length + y.2.length := List.length_append
          have hst := Lib.hid (show RFin w w6 G w1.heap.size w3.heap.size w4.heap.size hs2 o2 _ L2 x.1 y.1 _ _ (.slice (some ⟨g9, 0, none⟩) (x.2.length + y.2.length) cap9) (x.2 ++ y.2) from
            ⟨HR4.out.more hb6, by rw [hNl]; rw [show ints (nats x.2) ++ ints (nats y.2) = ints (nats (x.2 ++ y.2)) from by simp [ints, nats]] at hown6; exact hown6, HGB.out, (hb6.block _ (lt_of_some HD0.out)).trans HD0.out, (hb6.block _ (lt_of_some HD1.out)).trans HD1.out⟩)
          have wr1 : IntKind.i64.wrap (x.1 + y.1) = x.1 + y.1 := IntWalk.i64_in _ (by omega)
          have HN1 := Lib.hid hNl
          have hNle : x.2.length + y.2.length ≤ 10 := by omega
          clear hown6 hgrow6 hb6 e31 HRQA HB5 HO5 HRPA HD0 HD1 HRP HRQ HR4 hNl hlnx hlny hlx hly hsums
          generalize x.2 ++ y.2 = is at *
          generalize x.2.length + y.2.length = N at *
          generalize w1.heap.size = R1 at *
          generalize w3.heap.size = R3 at *
          generalize w4.heap.size = B at *
          go_wp2_with fail
          go_loopw [10, 59, 60, 61, 62, 63, 64, 65, 66, 67, 68, 69, 70, 71, 72, 73] (fun kv _ _ _ _ _ _ _ _ _ _ _ _ _ _ _ wr => ∃ k : Nat, k ≤ N ∧ kv = .int .i64 (k : Int) ∧ RFin w wr G R1 R3 B hs2 (bump o2 (is.take k)) (.slice A4 L2.length c4) L2 x.1 y.1 (.slice (some ⟨gp, 0, none⟩) x.2.length cp') (.slice (some ⟨gq, 0, none⟩) y.2.length cq') (.slice (some ⟨g9, 0, none⟩) N cap9) is) (fun kv _ _ _ _ _ _ _ _ _ _ _ _ _ _ _ _ => N - (intOf kv).toNat)
          case atStart => exact ⟨0, Nat.zero_le _, rfl, by rw [List.take_zero]; exact hst.out⟩
          case round =>
            clear hst
            obtain ⟨k, hk, rfl, hf⟩ := hrel
            have hw3 : wr.ownsRow B 3 1 (.slice (some ⟨g9, 0, none⟩) N cap9) N (ints (nats is)) := by
              have := hf.own
              rw [HN1.out] at this
              exact this
            by_cases hlt3 : k < N
            · obtain ⟨i, hi⟩ : ∃ i, is[k]? = some i := ⟨_, List.getElem?_eq_getElem (by rw [HN1.out]; exact hlt3)⟩
              have hil := HIN2.out i (List.mem_of_getElem? hi)
              have c0 : wr.cell? ⟨g9, k, none⟩ = some (.int .i64 (i : Int)) := own_cell hw3 (by rw [ints_get, nats_get, hi]; rfl)
              have hbl : i < (bump o2 (is.take k)).length := by rw [bump_length, HOL.out]; exact hil
              have hgo : (bump o2 (is.take k))[i]? = some ((bump o2 (is.take k)).getD i 0) := by
                rw [List.getD_eq_getElem?_getD, List.getElem?_eq_getElem hbl]; rfl
              have c1 : wr.cell? ⟨G, i, none⟩ = some (.int .i64 ((bump o2 (is.take k)).getD i 0)) := hf.rel.out.cell hgo
              have f1 : wr.frozen? ⟨G, i, none⟩ = false := hf.rel.out.frozen i
              have hb1 := bump_bound (is.take k) i o2
              have hb2 := HBD.out i
              have htn : (t : Int) * (ws.length : Int) ≤ 10 * 10 := Int.mul_le_mul (by omega) (by omega) (by omega) (by omega)
              have hlj : ((is.take k).length : Int) ≤ 10 := by rw [List.length_take]; omega
              have hbs : bump o2 (is.take (k + 1)) = (bump o2 (is.take k)).set i ((bump o2 (is.take k)).getD i 0 + 1) := by
                rw [List.take_add_one, hi, Option.toList_some, bump_snoc]
              have HB := Lib.hid hbs
              have HF := Lib.hid hf
              have kk : (k : Int) < (N : Int) := by omega
              have k1 : (i : Int) < (ws.length : Int) := by omega
              clear hbs hf hw3 hgo hbl hi
              generalize bump o2 (is.take k) = ob at *
              have wr2 : IntKind.i64.wrap (ob.getD i 0 + 1) = ob.getD i 0 + 1 := IntWalk.i64_in _ (by omega)
              generalize ob.getD i 0 = vi at *
              clear hb1 hb2 htn hlj
              go_wp2_with fail
              refine ⟨⟨k + 1, by omega, by go_num, ?_⟩, by simp [intOf]; omega⟩
              rw [HB.out]
              exact HF.out.bump_ i _
            · obtain rfl : k = N := by omega
              have kk : ¬ ((k : Int) < (k : Int)) := by omega
              have e10 := row_cell (i := 0) (v := .int .i64 x.1) hf.c1 rfl
              have e30 := row_cell (i := 0) (v := .int .i64 y.1) hf.c3 rfl
              have HF := Lib.hid hf
              have HA := Lib.hid (hf.rel.alloc (.cells #[.int .i64 (x.1 + y.1), .slice (some ⟨g9, 0, none⟩) k cap9] 41))
              have HT := Lib.hid (show At (wr.alloc (.cells #[.int .i64 (x.1 + y.1), .slice (some ⟨g9, 0, none⟩) k cap9] 41)) G (x.1 + y.1, .slice (some ⟨g9, 0, none⟩) k cap9) (x.1 + y.1, is) from
                ⟨rfl, own_base (hf.own.alloc _) hf.gtB⟩)
              have HO := Lib.hid (show (wr.alloc (.cells #[.int .i64 (x.1 + y.1), .slice (some ⟨g9, 0, none⟩) k cap9] 41)).ownsRow w.heap.size 41 2 (.slice A4 L2.length c4) L2.length (rc L2) from HA.out.own)
              have hb1 : w.heap.size ≤ (wr.alloc (.cells #[.int .i64 (x.1 + y.1), .slice (some ⟨g9, 0, none⟩) k cap9] 41)).heap.size := HA.out.below.size
              have hl2n : L2.length ≤ 10 := by have := HL2.out; omega
              clear hf hw3
              go_wp2_with (at_builtin; go_must (refine append_own _ rfl _ _ 39 rfl w.heap.size 41 i0 _ 2 32 Tryd.underlying39 hi hz0 hz1 hz2 rfl (by decide) (.slice A4 L2.length c4) L2.length (rc L2) rfl HO.out ⟨wr.heap.size, 0, none⟩ 1 1 [.int .i64 (x.1 + y.1), .slice (some ⟨g9, 0, none⟩) k cap9] rfl rfl (cells2_new _ _ _ _) (two_one _ _ _ _) (by unfold maxLen; omega) (by omega) hb1 (by decide) ?_); intro g11 cap11 w9 hown9 hg11 hg11' hgrow9)
              rw [show rc L2 ++ [Value.int .i64 (x.1 + y.1), .slice (some ⟨g9, 0, none⟩) k cap9] = rc (L2 ++ [(x.1 + y.1, .slice (some ⟨g9, 0, none⟩) k cap9)]) from by rw [rc_append]; rfl] at hown9
              have hp9 := HA.out.push HT.out hgrow9 (by rw [List.length_append]; rfl) hown9
              rw [List.take_of_length_le (by rw [HN1.out]; exact Nat.le_refl _)] at hp9
              refine ⟨⟨t + 1, L2 ++ [(x.1 + y.1, .slice (some ⟨g9, 0, none⟩) k cap9)], hlt2, ?_⟩, ?_⟩
              · rw [HRUN.out]; exact hp9
              · simp only [lenOf, List.getD_eq_getElem?_getD]
                have := HL2.out
                omega
        · obtain ⟨A0, cap0, hv0⟩ := own_slice hrel.own
          subst hv0
          have kk : ¬ ((1 : Int) < (L.length : Int)) := by omega
          have HT := Lib.hid (show t = ws.length - 1 by have := HLL.out; omega)
          have HR := Lib.hid hrel
          clear hrel
          go_wp2_with fail
          go_ret
          refine ⟨G, rfl, ?_, by have := HG.out; omega, HR.out.below⟩
          have := HR.out.out
          rw [HT.out] at this
          exact this
end Go.Proofs.YtdafkkhbfgpcoaaDoor.Hf
