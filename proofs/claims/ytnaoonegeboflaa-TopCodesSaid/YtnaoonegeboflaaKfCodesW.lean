/-
  The walk of kraft.Codes: codes of given lengths.
-/
import Derived.Test.YtnaoonegeboflaaKfCodes
namespace Go.Proofs.Ytnaoonegeboflaa.Kf
open Go.RowKit
set_option linter.unusedVariables false
set_option linter.unusedSimpArgs false

structure CR (w wr : World) (X O G : Nat) (A : Option Addr) (c : Nat) (l : List Int) (outs : List (List UInt8)) : Prop where
  box : wr.heap[X]? = some (.cells #[.slice A l.length c] 23 (0, 0))
  ord : IBlk wr O (ordOf l)
  out : SBlk wr G outs
  below : Below w.heap.size w wr
  geX : w.heap.size ≤ X
  ltO : X < O
  ltG : O < G
section
variable {w wr w2 : World} {X O G c : Nat} {A : Option Addr} {l : List Int} {outs : List (List UInt8)}
theorem CR.lt (h : CR w wr X O G A c l outs) : G < wr.heap.size := h.out.lt
theorem CR.more (h : CR w wr X O G A c l outs) (hb : Below wr.heap.size wr w2) : CR w w2 X O G A c l outs :=
  ⟨(hb.block X (by have := h.lt; have := h.ltO; have := h.ltG; omega)).trans h.box, h.ord.below hb (by have := h.lt; have := h.ltG; omega), h.out.below hb h.lt, bnext h.below hb, h.geX, h.ltO, h.ltG⟩
theorem CR.put (h : CR w wr X O G A c l outs) (i : Nat) (s : List UInt8) : CR w (wr.setCell ⟨G, i, none⟩ (.string (ba s))) X O G A c l (outs.set i s) :=
  ⟨(Below.heap_setCell wr ⟨G, i, none⟩ _ X (by have := h.ltO; have := h.ltG; show X ≠ G; omega)).trans h.box, h.ord.far (p := ⟨G, i, none⟩) (by have := h.ltG; show O ≠ G; omega) _, h.out.set_ i s, h.below.setCell (p := ⟨G, i, none⟩) (by have := h.geX; have := h.ltO; have := h.ltG; show w.heap.size ≤ G; omega) _, h.geX, h.ltO, h.ltG⟩
theorem CR.boxCell (h : CR w wr X O G A c l outs) : wr.cell? ⟨X, 0, none⟩ = some (.slice A l.length c) := by rw [cell_of_row wr X 0 _ _ (0, 0) h.box]; rfl
end
theorem cstep_take (l : List Int) {k : Nat} {i : Int} (hk : (ordOf l)[k]? = some i) : ((ordOf l).take (k + 1)).foldl (cstep l) (0, List.replicate l.length []) = cstep l (((ordOf l).take k).foldl (cstep l) (0, List.replicate l.length [])) i := by
  rw [List.take_add_one, hk, List.foldl_append]
  rfl

theorem idx_set (n k : Nat) (hk : k < n) : (idx k ++ List.replicate (n - k) 0).set k (k : Int) = idx (k + 1) ++ List.replicate (n - (k + 1)) 0 := by
  rw [List.set_append_right _ _ (by rw [idx_length]; exact Nat.le_refl _), idx_length, Nat.sub_self]
  obtain ⟨m, hm⟩ : ∃ m, n - k = m + 1 := ⟨n - k - 1, by omega⟩
  rw [hm, List.replicate_succ, List.set_cons_zero, show n - (k + 1) = m by omega]
  unfold idx
  rw [List.range_succ, List.map_append]
  simp

theorem lt_of_some3 {w : World} {g : Nat} {o : Obj} (h : w.heap[g]? = some o) : g < w.heap.size := by
  rcases Nat.lt_or_ge g w.heap.size with hlt | hge
  · exact hlt
  · rw [Array.getElem?_eq_none hge] at h; cases h
set_option maxHeartbeats 4000000 in
theorem codes_ok (A : Option Addr) (c : Nat) (l : List Int) (w : World) (hr : Reads w A l.length 1 (ints l)) (h : ckL l = 0) (h4 : roomOf l ≤ 4096) :
    Calls Try.prog 14 #[.slice A l.length c] w fun e w' => ∃ G, e = .returned (.tuple #[.slice (some ⟨G, 0, none⟩) l.length l.length, .nilIface]) ∧ SBlk w' G (codesOf l) ∧ w.heap.size ≤ G ∧ Below w.heap.size w w' := by
  obtain ⟨hl, hin⟩ := ckL_ok h
  have hro := fun w' hr' => kroom_ok A c l w' hr' h
  have hro2 : ¬ (4096 : Int) < ((roomOf l : Nat) : Int) := by omega
  have hmi := fun w => run_make_ints w (l.length : Int) l.length rfl (by omega)
  have hms := fun w => run_make_texts w (l.length : Int) l.length rfl (by omega)
  obtain ⟨R, hR⟩ : ∃ R, R = codesOf l := ⟨_, rfl⟩
  rw [← hR]
  have HRR := Lib.hid hR
  have HIN := Lib.hid hin
  have HR := Lib.hid hr
  have HRO := Lib.hid hro
  clear h4 h hin hr hro hR
  generalize roomOf l = rm at *
  go_enter Try.func14, Try.ntmps14
  go_wp2_with fail
  refine (HRO.out _ (HR.out.below (bnew _ _))).mono ?_
  rintro e w1 ⟨rfl, rfl⟩
  have hX := heap_alloc_new w (.cells #[.slice A l.length c] 23)
  go_wp2_with fail
  have hO := IBlk.new (w.alloc (.cells #[.slice A l.length c] 23)) (List.replicate l.length 0)
  have hX2 := (Below.heap_alloc (w.alloc (.cells #[.slice A l.length c] 23)) (.cells (ints (List.replicate l.length 0)).toArray 3) w.heap.size (by simp)).trans hX
  have hb2 : Below w.heap.size w ((w.alloc (.cells #[.slice A l.length c] 23)).alloc (.cells (ints (List.replicate l.length 0)).toArray 3)) := bmore (bnew _ _) _
  have hXO : w.heap.size < (w.alloc (.cells #[.slice A l.length c] 23)).heap.size := by simp
  generalize ((w.alloc (.cells #[.slice A l.length c] 23)).alloc (.cells (ints (List.replicate l.length 0)).toArray 3)) = w2 at *
  rw [show (w.alloc (.cells #[.slice A l.length c] 23)).heap.size = w.heap.size + 1 by simp] at hO
  have HX2 := Lib.hid hX2
  have HB2 := Lib.hid hb2
  have HO := Lib.hid hO
  clear hX hX2 hO hb2 hXO
  go_loopw [7, 30] (fun _ kv wr => ∃ k : Nat, k ≤ l.length ∧ kv = .int .i64 (k : Int) ∧ IBlk wr (w.heap.size + 1) (idx k ++ List.replicate (l.length - k) 0) ∧ wr.heap[w.heap.size]? = some (.cells #[.slice A l.length c] 23 (0, 0)) ∧ Below w.heap.size w wr) (fun _ kv _ => l.length - (intOf kv).toNat)
  case atStart => exact ⟨0, Nat.zero_le _, rfl, HO.out, HX2.out, HB2.out⟩
  case round =>
    obtain ⟨k, hk, rfl, hO, hX, hb⟩ := hrel
    have HO := Lib.hid hO; have HX := Lib.hid hX; have HB := Lib.hid hb
    clear hX hb HX2 HB2
    by_cases hlt : k < l.length
    · have kk : (k : Int) < (l.length : Int) := by omega
      have hlen : k < (idx k ++ List.replicate (l.length - k) 0).length := by simp [idx_length]; omega
      obtain ⟨z, hz⟩ : ∃ z, (idx k ++ List.replicate (l.length - k) 0)[k]? = some z := ⟨_, List.getElem?_eq_getElem hlen⟩
      have c0 : wr.cell? ⟨w.heap.size + 1, k, none⟩ = some (.int .i64 z) := hO.cell hz
      have f0 := hO.frozen k
      clear hO hlen hz
      go_wp2_with fail
      refine ⟨⟨k + 1, by omega, by go_num, ?_, (Below.heap_setCell wr ⟨w.heap.size + 1, k, none⟩ _ w.heap.size (by show w.heap.size ≠ w.heap.size + 1; omega)).trans HX.out, HB.out.setCell (p := ⟨w.heap.size + 1, k, none⟩) (by show w.heap.size ≤ w.heap.size + 1; omega) _⟩, by simp [intOf]; omega⟩
      rw [← idx_set _ _ hlt]
      exact HO.out.set_ k _
    · have kk : ¬ (k : Int) < (l.length : Int) := by omega
      obtain rfl : k = l.length := by omega
      rw [Nat.sub_self, List.replicate_zero, List.append_nil] at hO
      have hcmp := cmp_codes w.heap.size (w.heap.size + 1) l.length c A l wr hl HX.out (by omega) (HR.out.below HB.out) (fun h0 b o e => by
        obtain ⟨b', o', e', hb', _⟩ := HR.out.2 h0
        rw [e'] at e
        simp only [Option.some.injEq, Addr.mk.injEq, and_true] at e
        omega) HIN.out
      have hsort := sortstable_small (w.heap.size + 1) w.heap.size l.length l.length (idx l.length) (cmpL l) (fun x => 0 ≤ x ∧ x < (l.length : Int)) wr (by omega) (idx_length _) hO (fun x hx => idx_mem hx) hcmp
      have HS := Lib.hid hsort
      clear hO hcmp hsort HO
      go_wp2_with fail
      refine HS.out.mono ?_
      rintro e w3 ⟨rfl, hO3, hg3⟩
      have hX3 := (hg3.block w.heap.size (by have := lt_of_some3 HX.out; exact this) (by simp)).trans HX.out
      have hb3 : Below w.heap.size w w3 := HB.out.grown hg3 HB.out.size (fun k hk => by cases hk; omega)
      have cX : w3.cell? ⟨w.heap.size, 0, none⟩ = some (.slice A l.length c) := by rw [cell_of_row w3 _ 0 _ _ (0, 0) hX3]; rfl
      have HO3 := Lib.hid hO3; have HX3 := Lib.hid hX3; have HB3 := Lib.hid hb3
      have hlt3 := hO3.lt
      clear hO3 hX3 hb3 hg3 HS HX HB
      go_wp2_with fail
      have hcr : CR w (w3.alloc (.cells (texts (List.replicate l.length (ba []))).toArray 9)) w.heap.size (w.heap.size + 1) w3.heap.size A c l (List.replicate l.length []) := by
        have hn := SBlk.new w3 (List.replicate l.length [])
        rw [List.map_replicate] at hn
        exact ⟨(Below.heap_alloc w3 _ _ (by have := HB3.out.size; omega)).trans HX3.out, HO3.out.alloc _, hn, bmore HB3.out _, Nat.le_refl _, by omega, hlt3⟩
      have hGg : w.heap.size ≤ w3.heap.size := HB3.out.size
      generalize (w3.alloc (.cells (texts (List.replicate l.length (ba []))).toArray 9)) = w4 at *
      generalize w3.heap.size = G at *
      generalize w.heap.size + 1 = O at *
      have HCR := Lib.hid hcr
      clear hcr HX3 HO3 HB3 cX hlt3 hmi hms
      go_loopw [9, 11, 12, 13, 46, 54] (fun nv _ _ _ kv _ wr => ∃ (k nx : Nat) (outs : List (List UInt8)), k ≤ l.length ∧ kv = .int .i64 (k : Int) ∧ nv = .int .i64 (nx : Int) ∧ nx ≤ k * 2048 ∧ Hid (CR w wr w.heap.size O G A c l outs ∧ ((ordOf l).take k).foldl (cstep l) (0, List.replicate l.length []) = (nx, outs))) (fun _ _ _ _ kv _ _ => l.length - (intOf kv).toNat)
      case atStart => exact ⟨0, 0, _, Nat.zero_le _, rfl, rfl, Nat.le_refl _, Lib.hid ⟨HCR.out, rfl⟩⟩
      case round =>
        clear HCR
        obtain ⟨k, nx, outs, hk, rfl, rfl, hnx, HS⟩ := hrel
        by_cases hlt : k < l.length
        · have kk : (k : Int) < (l.length : Int) := by omega
          obtain ⟨z, hz⟩ : ∃ z, (ordOf l)[k]? = some z := ⟨_, List.getElem?_eq_getElem (by rw [ord_length]; exact hlt)⟩
          have hzb := ord_mem (List.mem_of_getElem? hz)
          obtain ⟨i, rfl⟩ : ∃ i : Nat, z = (i : Int) := ⟨z.toNat, by omega⟩
          have hil : i < l.length := by omega
          have c0 := HS.out.1.ord.cell hz
          have cX := HS.out.1.boxCell
          obtain ⟨b, o, rfl, hb, hcc⟩ := (HR.out.below HS.out.1.below).2 (by omega)
          obtain ⟨x, hx⟩ : ∃ x, l[i]? = some x := ⟨_, List.getElem?_eq_getElem hil⟩
          have c1 := hcc i (.int .i64 x) (by rw [ints_get, hx]; rfl)
          have hxb := HIN.out x (List.mem_of_getElem? hx)
          obtain ⟨d, rfl⟩ : ∃ d : Nat, x = (d : Int) := ⟨x.toNat, by omega⟩
          have hd1 : 1 ≤ d := by omega
          have hd12 : d ≤ 12 := by omega
          have kki : (i : Int) < (l.length : Int) := by omega
          have hla : lenAt l (i : Int) = (d : Int) := by unfold lenAt; rw [Int.toNat_natCast, List.getD_eq_getElem?_getD, hx]; rfl
          have hst := cstep_take l hz
          rw [HS.out.2] at hst
          unfold cstep at hst
          simp only [hla, Int.toNat_natCast] at hst
          have HST := Lib.hid hst
          have HC1 := Lib.hid c1
          have hXl : w.heap.size < wr.heap.size := by have := HS.out.1.lt; have := HS.out.1.ltO; have := HS.out.1.ltG; omega
          clear hz hzb hcc hx hxb hla hst
          go_wp2_with fail
          obtain ⟨wo, hwo⟩ : ∃ wo, wo = wr := ⟨_, rfl⟩
          subst hwo
          go_loopw [13, 54] (fun _ jv wx => ∃ j : Nat, j ≤ d ∧ jv = .int .i64 (j : Int) ∧ Sb.Is wx (wo.heap.size + 1) wo.heap.size (code nx j) ∧ Below wo.heap.size wo wx ∧ wo.heap.size + 1 ≤ wx.heap.size) (fun _ jv _ => d - (intOf jv).toNat)
          case atStart => exact ⟨0, Nat.zero_le _, rfl, Sb.Is.new _ _, bnew _ _, by simp⟩
          case round =>
            obtain ⟨j, hj, rfl, his, hbe, hsz⟩ := hrel
            have HIS := Lib.hid his
            have HBE := Lib.hid hbe
            by_cases hltj : j < d
            · have kkj : (j : Int) < (d : Int) := by omega
              have hwb := fun n h => Sb.write_byte _ (wo.heap.size + 1) wo.heap.size (code nx j) (UInt8.ofNat (48 + bit nx j)) n h his (by omega) hsz (by rw [code_length]; omega)
              have HCS := Lib.hid (code_succ nx j)
              have HW := Lib.hid hwb
              obtain ⟨e, he⟩ : ∃ e : Nat, e = 11 - j := ⟨_, rfl⟩
              have hje : (11 : Int) - (j : Int) = (e : Int) := by omega
              have he11 : e ≤ 11 := by omega
              have hbit : bits .and .i64 ((nx : Int) / 2 ^ e) 1 = ((bit nx j : Nat) : Int) := by
                have hq : (nx : Int) / 2 ^ e = ((nx / 2 ^ e : Nat) : Int) := by simp
                rw [hq, bits_one _ (Nat.le_trans (Nat.div_le_self _ _) (by omega)), he]
                rfl
              have hb2 : bit nx j = 0 ∨ bit nx j = 1 := by unfold bit; omega
              clear hwb his hbe he
              generalize bit nx j = q at *
              rcases hb2 with rfl | rfl
              all_goals
                go_wp2_with fail
                refine (HW.out _ rfl).mono ?_
                rintro e w6 ⟨rfl, hI, hB⟩
                have HI := Lib.hid hI
                have HBU := Lib.hid hB
                clear hI hB
                go_wp2_with fail
                refine ⟨⟨j + 1, by omega, by go_num, by rw [HCS.out]; exact HI.out, HBE.out.trans (HBU.out.below (by omega) (Nat.le_refl _)), by have := HBU.out.size; omega⟩, by simp [intOf]; omega⟩
            · obtain rfl : j = d := by omega
              have kkj : ¬ (j : Int) < (j : Int) := by omega
              have HC0 := Lib.hid HS.out.1
              have hol := congrArg (fun (s : Nat × List (List UInt8)) => s.2.length) HS.out.2
              simp only [cfold_length, List.length_replicate] at hol
              obtain ⟨s0, hs0⟩ : ∃ s0, outs[i]? = some s0 := ⟨_, List.getElem?_eq_getElem (by rw [← hol]; exact hil)⟩
              have HS0 := Lib.hid hs0
              have hbw : b < w.heap.size := by
                obtain ⟨b', o', e', hb', _⟩ := HR.out.2 (by omega)
                simp only [Option.some.injEq, Addr.mk.injEq, and_true] at e'
                omega
              have hXG : ¬ w.heap.size = G := by have := HC0.out.ltO; have := HC0.out.ltG; omega
              have hbG : ¬ b = G := by have := HC0.out.ltO; have := HC0.out.ltG; omega
              clear his hbe HS c0 c1 cX hol hs0
              go_wp2_with fail
              refine (Sb.string_any _ (wo.heap.size + 1) wo.heap.size (code nx j) HIS.out (by omega) hsz).mono ?_
              rintro e w6 ⟨rfl, hB⟩
              have hb6 : Below wo.heap.size wo w6 := HBE.out.trans (hB.below (by omega) (Nat.le_refl _))
              have hc6 := HC0.out.more hb6
              have cG : w6.cell? ⟨G, i, none⟩ = some (.string (ba s0)) := hc6.out.cell HS0.out
              have fG := hc6.out.frozen i
              have cX := hc6.boxCell
              have c1 : w6.cell? ⟨b, o + i, none⟩ = some (.int .i64 (j : Int)) := (hb6.cell (p := ⟨b, o + i, none⟩) hb).trans HC1.out
              have HC6 := Lib.hid hc6
              obtain ⟨f, hf⟩ : ∃ f : Nat, f = 12 - j := ⟨_, rfl⟩
              have hjf : (12 : Int) - (j : Int) = (f : Int) := by omega
              have hf11 : f ≤ 11 := by omega
              have hst := HST.out
              rw [hjf, Int.toNat_natCast] at hst
              have HST2 := Lib.hid hst
              have hsz6 := hb6.size
              clear hB hb6 hc6 hf hst HST
              go_wp2_with fail
              have hple := pow_low f hf11
              have hst := HST2.out
              rw [wrap_pow f hf11, wrap_sum nx (2 ^ f) (by omega) hple]
              generalize 2 ^ f = p at *
              exact ⟨⟨k + 1, nx + p, outs.set i (code nx j), by omega, by go_num, rfl, by omega, Lib.hid ⟨HC6.out.put i _, hst⟩⟩, by simp [intOf]; omega⟩
        · have kk : ¬ (k : Int) < (l.length : Int) := by omega
          have hke := Lib.hid (show k = l.length by omega)
          go_wp2_with fail
          go_ret2
          refine ⟨G, rfl, ?_, hGg, HS.out.1.below⟩
          have := HS.out.2
          rw [List.take_of_length_le (by rw [ord_length]; omega)] at this
          rw [HRR.out]
          unfold codesOf
          rw [this]
          exact HS.out.1.out

theorem codes_no (A : Option Addr) (c : Nat) (l : List Int) (w : World) (hr : Reads w A l.length 1 (ints l)) (hm : l.length ≤ maxLen) (h : ckL l ≠ 0) :
    Calls Try.prog 14 #[.slice A l.length c] w fun e w' => e = .returned (.tuple #[.slice none 0 0, .iface 57 (.int .i64 (ckL l))]) ∧ Below w.heap.size w w' := by
  have hro := fun w' hr' => kroom_no A c l w' hr' hm h
  generalize ckL l = K at *
  have HRO := Lib.hid hro
  have HR := Lib.hid hr
  clear hro hr h hm
  go_enter Try.func14, Try.ntmps14
  go_wp2_with fail
  refine (HRO.out _ (HR.out.below (bnew _ _))).mono ?_
  rintro e w1 ⟨rfl, rfl⟩
  go_wp2_with fail
  go_ret2
  exact ⟨rfl, bnew _ _⟩
theorem codes_full (A : Option Addr) (c : Nat) (l : List Int) (w : World) (hr : Reads w A l.length 1 (ints l)) (h : ckL l = 0) (h4 : 4096 < roomOf l) :
    Calls Try.prog 14 #[.slice A l.length c] w fun e w' => e = .returned (.tuple #[.slice none 0 0, .iface 57 (.int .i64 6)]) ∧ Below w.heap.size w w' := by
  have hro := fun w' hr' => kroom_ok A c l w' hr' h
  have hro2 : (4096 : Int) < ((roomOf l : Nat) : Int) := by omega
  generalize roomOf l = K at *
  have HRO := Lib.hid hro
  have HR := Lib.hid hr
  clear hro hr h h4
  go_enter Try.func14, Try.ntmps14
  go_wp2_with fail
  refine (HRO.out _ (HR.out.below (bnew _ _))).mono ?_
  rintro e w1 ⟨rfl, rfl⟩
  go_wp2_with fail
  go_ret2
  exact ⟨rfl, bnew _ _⟩
end Go.Proofs.Ytnaoonegeboflaa.Kf
