/-
  The walk of the reference's Shape (letterbeckref2).
-/
import Derived.Test.YtlchgjlinhakdaaDoorRsRefW
import Derived.Test.YtlchgjlinhakdaaDoorRsShape
namespace Go.Proofs.YtlchgjlinhakdaaDoor.Rs
open Go.RowKit
set_option linter.unusedVariables false

theorem HRel.drew {w wr : World} {v : Value} {rows : List (List Int)} {gs : List (Nat × Nat)} (h : HRel w wr v rows gs) (q : Nat) : HRel w (wr.drewN q) v rows gs :=
  ⟨h.sr.below (below_drewN _ _), bdrew h.below _⟩
set_option maxRecDepth 20000 in
set_option maxHeartbeats 4000000 in
theorem refshape_any (A : Option Addr) (cap : Nat) (l : List Int) (w : World) (hr : Reads w A l.length 1 (ints l)) (h : chk l = 0) :
    Calls Tryd.prog 9 #[.slice A l.length cap] w (OwnedOne w (shape l)) := by
  have hlen := (chk_ok h).1
  have hall := (chk_ok h).2
  have hgood := fun k => good_rowsOf (l.take k) (fun n hn => hall n (List.mem_of_mem_take hn))
  have HALL := Lib.hid hall
  have HGOOD := Lib.hid hgood
  clear hall hgood
  obtain ⟨i0, hi, hz0, hz1, hz2⟩ := info_parts infoI
  obtain ⟨i1, hj, hy0, hy1, hy2⟩ := info_parts infoSl
  have H := Lib.hid h
  clear h
  go_enter Tryd.func9, Tryd.ntmps9
  go_wp2
  go_loopw [3, 4] (fun v i wr => ∃ (k : Nat) (gs : List (Nat × Nat)), k ≤ l.length ∧ i = .int .i64 k ∧ HRel w wr v (rowsOf (l.take k)) gs) (fun _ i _ => l.length - (intOf i).toNat)
  case atStart => exact ⟨0, [], Nat.zero_le _, rfl, ⟨SR.nil _ _, Below.refl _ _⟩⟩
  case round =>
    obtain ⟨k, gs, hk, rfl, hrel⟩ := hrel
    have hgk := HGOOD.out k
    rw [List.length_take, show min k l.length = k by omega] at hgk
    by_cases hlt : k < l.length
    · obtain ⟨b, o, rfl, hb, hc⟩ := (hr.below hrel.below).2 (by omega)
      obtain ⟨n, hn⟩ : ∃ n, l[k]? = some n := ⟨_, List.getElem?_eq_getElem hlt⟩
      have hn01 := HALL.out n (List.mem_of_getElem? hn)
      have c0 := hc k (.int .i64 n) (by rw [ints_get, hn]; rfl)
      have htk : rowsOf (l.take (k + 1)) = ins n (rowsOf (l.take k)) := by
        rw [List.take_add_one, hn]
        exact rowsOf_snoc _ _
      have HT := Lib.hid htk
      generalize rowsOf (l.take k) = rows0 at *
      obtain ⟨T, hTK⟩ : ∃ T, T = rowsOf (l.take (k + 1)) := ⟨_, rfl⟩
      have hstart : rows0.take 0 ++ ins n (rows0.drop 0) = T := by rw [hTK]; exact HT.out.symm
      have HTK := Lib.hid hTK
      clear hTK
      have HST := Lib.hid hstart
      have HR := Lib.hid hrel
      have HGK := Lib.hid hgk
      clear hc hn htk hstart hrel hgk HT
      go_wp2
      obtain ⟨wo, rfl⟩ : ∃ wo : World, wo = wr := ⟨_, rfl⟩
      go_loopw [3, 5, 6] (fun v x r wr => ∃ (rows : List (List Int)) (gs : List (Nat × Nat)) (m : Int) (R : Nat), x = .int .i64 m ∧ r = .int .i64 R ∧ R ≤ rows.length ∧ 0 ≤ m ∧ m ≤ 1000 ∧ Good k rows ∧ rows.take R ++ ins m (rows.drop R) = T ∧ HRel w wr v rows gs) (fun v _ r _ => slen v - (intOf r).toNat)
      case atStart => exact ⟨rows0, gs, n, 0, rfl, rfl, Nat.zero_le _, hn01.1, hn01.2, HGK.out, HST.out, HR.out⟩
      case round =>
        clear HR HST HGK c0 hn01
        obtain ⟨rows, gs, m, R, rfl, rfl, hR, hm0, hm1, hgood, hins, hrel⟩ := hrel
        have hbel := hrel.below
        have hsz := hbel.size
        have hrl := hgood.len
        by_cases hRl : R = rows.length
        · subst hRl
          have hT := ins_new hins
          obtain ⟨A', cap', e⟩ := own_slice hrel.sr.own
          subst e
          have HTT := Lib.hid hT
          have HR := Lib.hid hrel
          have hown := hrel.sr.own
          clear hT hins hrel
          go_wp2_with (at_builtin; go_must (refine wpList_append_lies _ rfl _ _ 40 rfl w.heap.size 22 i1 _ 1 24 Tryd.underlying40 hj hy0 hy1 hy2 rfl (by omega) _ _ _ rfl ((hown.alloc _).alloc _) ⟨wr.heap.size + 1, 0, none⟩ 1 1 [.slice (some ⟨wr.heap.size, 0, none⟩) 1 1] rfl rfl (by simpa using cell_one_new (wr.alloc _) _ _) (slice_oneCell _ _ _) (by omega) (by unfold maxLen; omega) (by omega) (by simp; omega) (wr.heap.size + 2) (by simp) ?_); intro g2 cap2 w2 hown2 hgrow2 hat2 hlt2)
          refine ⟨⟨k + 1, gs ++ [(wr.heap.size, 1)], by omega, by go_num, ?_, ?_⟩, by simp [intOf]; omega⟩
          · rw [← HTK.out, ← HTT.out]
            exact HR.out.sr.push hsz hgrow2 hown2 hat2
          · exact ((hbel.alloc hsz _).alloc (by simp; omega) _).grown hgrow2 (by simp; omega) (fun j hj => (hown.lt j hj).1)
        · obtain ⟨row, hrow⟩ : ∃ row, rows[R]? = some row := ⟨_, List.getElem?_eq_getElem (by omega)⟩
          obtain ⟨p, hp⟩ := hrel.sr.pair hrow
          obtain ⟨g, cap', e, _, hgl⟩ := own_some hrel.sr.own (by omega)
          subst e
          have hrk := hgood.row row (List.mem_of_getElem? hrow)
          have g1 : ((R : Int) == (rows.length : Int)) = false := by rw [beq_eq_false_iff_ne]; omega
          have g2 : (0 : Int) ≤ (R : Int) := by omega
          have g3 : (R : Int) < (rows.length : Int) := by omega
          have hple := pos_le (m + 1) row
          have hrl1 := hrk.1
          have HR := Lib.hid hrel
          have HG := Lib.hid hgood
          have HI := Lib.hid hins
          have hgp : g ≠ p.1 := fun e => hrel.sr.out R p hp (by rw [← e]; rfl)
          have HGP := Lib.hid hgp
          have HRW := Lib.hid hrow
          have HP := Lib.hid hp
          clear hgp hrk hrel hgood hins hrow hp hgl hbel hsz
          go_wp2
          obtain ⟨wm, hwm⟩ : ∃ wm : World, wm = wr := ⟨_, rfl⟩
          go_loopw [7] (fun i wr => ∃ J : Nat, J ≤ pos (m + 1) row ∧ i = .int .i64 J ∧ HRel w wr (.slice (some ⟨g, 0, none⟩) rows.length cap') rows gs) (fun i _ => row.length - (intOf i).toNat)
          case atStart => exact ⟨0, Nat.zero_le _, rfl, HR.out⟩
          case round =>
            clear HR hwm
            obtain ⟨J, hJ, rfl, hrel⟩ := hrel
            have hbel := hrel.below
            have hsz := hbel.size
            have cr := hrel.sr.cell rfl HRW.out HP.out
            unfold rowV at cr
            have hgB := (hrel.sr.own.lt g rfl).1
            have hgl := (hrel.sr.own.lt g rfl).2
            have hpB := (hrel.sr.lt HRW.out HP.out).1
            have hfg := own_frozen hrel.sr.own R
            by_cases hJl : J < row.length
            · obtain ⟨y, hy⟩ : ∃ y, row[J]? = some y := ⟨_, List.getElem?_eq_getElem hJl⟩
              have hst := pos_step hJ hy
              have gJ : (J : Int) < (row.length : Int) := by omega
              have cy := own_cell (hrel.sr.row R row p HRW.out HP.out) (i := J) (u := .int .i64 y) (by rw [ints_get, hy]; rfl)
              have fy := own_frozen (hrel.sr.row R row p HRW.out HP.out) J
              by_cases hym : y ≤ m
              · have hJ2 := hst.2 (by omega)
                have HR := Lib.hid hrel
                clear hst hy hrel
                go_wp2
                go_roundw
                case rel => exact ⟨J + 1, by omega, by go_num, HR.out⟩
                case measure => simp [intOf]; omega
              · have hpe : pos (m + 1) row = J := by
                  have : ¬ J < pos (m + 1) row := fun h => hym (by have := hst.1 h; omega)
                  omega
                have HT := Lib.hid (ins_on HRW.out (by omega) (by rw [hpe]; exact hy) HI.out)
                have HGS := Lib.hid (HG.out.set_ HRW.out (n := m) ⟨hm0, hm1⟩)
                rw [hpe] at HT HGS
                have hm'b := (HG.out.row row (List.mem_of_getElem? HRW.out)).2.2 y (List.mem_of_getElem? hy)
                have gE : ((J : Int) == (row.length : Int)) = false := by rw [beq_eq_false_iff_ne]; omega
                have g0 : (0 : Int) ≤ (J : Int) := by omega
                have HR := Lib.hid hrel
                clear hst hy hrel hpe hJ hple
                go_wp2
                go_roundw
                case rel =>
                  refine ⟨rows.set R (row.set J m), gs, y, R + 1, rfl, by go_num, by rw [List.length_set]; omega, hm'b.1, hm'b.2, HGS.out, HT.out, ?_, ?_⟩
                  · exact HR.out.sr.store HRW.out HP.out J m
                  · exact hbel.setCell (by show w.heap.size ≤ p.1; exact hpB) _
                case measure => simp [intOf, slen]; omega
            · have hpe : pos (m + 1) row = row.length := by omega
              obtain rfl : J = row.length := by omega
              have HT := Lib.hid (ins_end HRW.out hpe HI.out)
              have gE : ((row.length : Int) == (row.length : Int)) = true := by rw [beq_iff_eq]
              have HR := Lib.hid hrel
              have hrow1 := hrel.sr.row R row p HRW.out HP.out
              clear hrel hJ hple
              go_wp2_with (at_builtin; go_must (refine wpList_append_lies _ rfl _ _ 22 rfl w.heap.size 3 i0 _ 1 8 Tryd.underlying22 hi hz0 hz1 hz2 rfl (by omega) _ _ _ rfl (hrow1.alloc _) ⟨wr.heap.size, 0, none⟩ 1 1 [.int .i64 m] rfl rfl (cell_one_new _ _ _) (int_oneCell _) (by omega) (by unfold maxLen; omega) (by omega) (by simp; omega) (wr.heap.size + 1) (by simp) ?_); intro g2 cap2 w2 hown2 hgrow2 hat2 hlt2; have hbk := (hgrow2.block g (by simp; omega) (fun e => HGP.out (Option.some.inj (show some g = some p.1 from e)))).trans (Below.heap_alloc wr (.cells #[.int .i64 m] 3) g (by omega)); have cg2 := (World.cell?_of_block (a := ⟨g, R, none⟩) hbk).trans cr; have fg2 := (World.frozen?_of_block (a := ⟨g, R, none⟩) hbk).trans hfg; clear hbk)
              refine ⟨⟨k + 1, gs.set R (g2, cap2), by omega, by go_num, ?_, ?_⟩, by simp [intOf]; omega⟩
              · rw [← HTK.out, ← HT.out]
                exact HR.out.sr.grow rfl HRW.out HP.out (bnew _ _) hgrow2 hown2 (by
                  rcases hat2 with e | e
                  · exact .inl (Option.some.inj (show some p.1 = some g2 from e))
                  · right; omega)
              · exact ((hbel.alloc (by omega) _).grown hgrow2 (by simp; omega) (fun j hj => by have e := Option.some.inj (show some p.1 = some j from hj); omega)).setCell (by show w.heap.size ≤ g; exact hgB) _
    · obtain rfl : k = l.length := by omega
      rw [List.take_of_length_le (Nat.le_refl _)] at hrel hgk
      obtain ⟨SH, hSH⟩ : ∃ SH, SH = shape l := ⟨_, rfl⟩
      have hsr := hrel.sr
      have hbel := hrel.below
      have hsh : SH = (rowsOf l).map fun r => (r.length : Int) := hSH
      have hlr := hgk.len
      have hrk := fun row hr => (hgk.row row hr).1
      generalize rowsOf l = rows at *
      obtain ⟨A', cap', e⟩ := own_slice hsr.own
      subst e
      have HSH := Lib.hid hSH
      have HS2 := Lib.hid hsh
      have HSR := Lib.hid hsr
      have HRK := Lib.hid hrk
      clear hrel hsr hsh hSH hgk hrk
      go_wp2
      obtain ⟨wo, rfl⟩ : ∃ wo : World, wo = wr := ⟨_, rfl⟩
      go_loopw [9, 10] (fun v i wr => ∃ k : Nat, k ≤ rows.length ∧ i = .int .i64 k ∧ wr.ownsRow wo.heap.size 3 1 v k (ints (SH.take k)) ∧ Below wo.heap.size wo wr) (fun _ i _ => rows.length - (intOf i).toNat)
      case atStart => exact ⟨0, Nat.zero_le _, rfl, World.ownsRow_nil _ _ _ _, Below.refl _ _⟩
      case round =>
        obtain ⟨k, hk, rfl, hown, hb2⟩ := hrel
        have hso := hb2.size
        by_cases hlt2 : k < rows.length
        · obtain ⟨row, hrow⟩ : ∃ row, rows[k]? = some row := ⟨_, List.getElem?_eq_getElem hlt2⟩
          obtain ⟨p, hp⟩ := HSR.out.pair hrow
          obtain ⟨g, cap', e, _, hgl⟩ := own_some HSR.out.own (by omega)
          simp only [Value.slice.injEq, true_and] at e
          obtain ⟨rfl, rfl⟩ := e
          have cr := (HSR.out.below hb2).cell rfl hrow hp
          unfold rowV at cr
          have hr20 := HRK.out row (List.mem_of_getElem? hrow)
          have htk : SH.take (k + 1) = SH.take k ++ [(row.length : Int)] := by
            rw [List.take_add_one, HS2.out, List.getElem?_map, hrow]; rfl
          have HT := Lib.hid htk
          have HB2 := Lib.hid hb2
          clear htk hrow hp hb2
          go_wp2_with (at_builtin; go_must (refine append_own _ rfl _ _ 22 rfl wo.heap.size 3 i0 _ 1 8 Tryd.underlying22 hi hz0 hz1 hz2 rfl (by decide) _ _ _ rfl (hown.alloc _) ⟨wr.heap.size, 0, none⟩ 1 1 [.int .i64 (row.length : Int)] rfl rfl (cell_one_new _ _ _) (int_oneCell _) (by unfold maxLen; omega) (by omega) (by simp; omega) (by decide) ?_); intro g2 cap2 w2 hown2 hg2 hg2' hgrow2)
          go_roundw
          case rel => exact ⟨k + 1, by omega, by go_num, by rw [HT.out]; simpa [ints] using hown2, (HB2.out.alloc hso _).grown hgrow2 (by simp; omega) (fun j hj => (hown.lt j hj).1)⟩
          case measure => simp [intOf]; omega
        · obtain rfl : k = rows.length := by omega
          have hsl : SH.length = rows.length := by rw [HS2.out, List.length_map]
          rw [List.take_of_length_le (by omega)] at hown
          obtain ⟨A2, cap2, e⟩ := own_slice hown
          subst e
          have hfin : wr.ownsRow w.heap.size 3 1 (.slice A2 rows.length cap2) SH.length (ints SH) := by rw [hsl]; exact own_base hown hbel.size
          have HF := Lib.hid hfin
          have HB := Lib.hid (hbel.trans (hb2.mono hbel.size))
          clear hfin hown hsl
          go_wp2
          go_ret
          refine ⟨_, rfl, ?_, HB.out⟩
          rw [← HSH.out]
          exact HF.out
end Go.Proofs.YtlchgjlinhakdaaDoor.Rs
