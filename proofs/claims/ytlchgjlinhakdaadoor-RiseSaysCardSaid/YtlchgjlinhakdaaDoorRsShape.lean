/-
  The walk of rise.Shape.
-/
import Derived.Test.YtlchgjlinhakdaaDoorRsRows
import Derived.Test.YtlchgjlinhakdaaDoorRsPiles
import Derived.Deep.AppendLies
namespace Go.Proofs.YtlchgjlinhakdaaDoor.Rs
open Go.RowKit
set_option linter.unusedVariables false

theorem good_rowsOf : ∀ (l : List Int), (∀ n ∈ l, 0 ≤ n ∧ n ≤ 1000) → Good l.length (rowsOf l) := by
  have : ∀ (l : List Int) (k : Nat) (r : List (List Int)), Good k r → (∀ n ∈ l, 0 ≤ n ∧ n ≤ 1000) → Good (k + l.length) (l.foldl (fun r n => ins n r) r) := by
    intro l
    induction l with
    | nil => intro k r h _; exact h
    | cons n l ih =>
      intro k r h hall
      have := ih (k + 1) (ins n r) (h.ins (hall n (by simp))) (fun m hm => hall m (by simp [hm]))
      rw [List.length_cons, show k + (l.length + 1) = k + 1 + l.length by omega]
      exact this
  intro l h
  have := this l 0 [] Good.nil h
  rwa [Nat.zero_add] at this
def slen : Value → Nat
  | .slice _ n _ => n
  | _ => 0
/-- what holds at the heads of Shape's loops -/
structure HRel (w wr : World) (v : Value) (rows : List (List Int)) (gs : List (Nat × Nat)) : Prop where
  sr : SR w.heap.size wr v rows gs
  below : Below w.heap.size w wr

theorem shape_no (A : Option Addr) (cap : Nat) (l : List Int) (w : World) (hr : Reads w A l.length 1 (ints l)) (hm : l.length ≤ maxLen) (h : chk l ≠ 0) :
    Calls Tryd.prog 14 #[.slice A l.length cap] w fun e w' => e = .returned (.tuple #[.slice none 0 0, .iface 37 (.int .i64 (chk l))]) ∧ Below w.heap.size w w' := by
  go_enter Tryd.func14, Tryd.ntmps14
  go_wp2_with (go_at_call 6; refine (check_no A cap l _ hr hm h).mono ?_; rintro e w' ⟨rfl, rfl⟩)
  go_ret2
  exact ⟨rfl, Below.refl _ _⟩

set_option maxHeartbeats 4000000 in
theorem shape_ok (A : Option Addr) (cap : Nat) (l : List Int) (w : World) (hr : Reads w A l.length 1 (ints l)) (h : chk l = 0) :
    Calls Tryd.prog 14 #[.slice A l.length cap] w (Owned w (shape l)) := by
  have hlen := (chk_ok h).1
  have hall := (chk_ok h).2
  have hgood := fun k => good_rowsOf (l.take k) (fun n hn => hall n (List.mem_of_mem_take hn))
  have HALL := Lib.hid hall
  have HGOOD := Lib.hid hgood
  clear hall hgood
  obtain ⟨i0, hi, hz0, hz1, hz2⟩ := info_parts infoI
  obtain ⟨i1, hj, hy0, hy1, hy2⟩ := info_parts infoSl
  go_enter Tryd.func14, Tryd.ntmps14
  go_wp2_with (go_at_call 6; refine (check_ok A cap l _ hr h).mono ?_; rintro e w' ⟨rfl, rfl⟩)
  have H := Lib.hid h
  clear h
  go_loopw [5, 20] (fun v i wr => ∃ (k : Nat) (gs : List (Nat × Nat)), k ≤ l.length ∧ i = .int .i64 k ∧ HRel w wr v (rowsOf (l.take k)) gs) (fun _ i _ => l.length - (intOf i).toNat)
  case atStart => exact ⟨0, [], Nat.zero_le _, rfl, ⟨SR.nil _ _, Below.refl _ _⟩⟩
  case round =>
    obtain ⟨k, gs, hk, rfl, hrel⟩ := hrel
    have hgk := HGOOD.out k
    rw [List.length_take, show min k l.length = k by omega] at hgk
    by_cases hlt : k < l.length
    · obtain ⟨b, o, rfl, hb, hc⟩ := (hr.below hrel.below).2 (by omega)
      obtain ⟨n, hn⟩ : ∃ n, l[k]? = some n := ⟨_, List.getElem?_eq_getElem hlt⟩
      have hn01 := HALL.out n (List.mem_of_getElem? hn)
      have c0 := hc k (.int .i64 n) (by rw [ints_get, hn]; rfl)
      have htk : rowsOf (l.take (k + 1)) = ins n (rowsOf (l.take k)) := by
        rw [List.take_add_one, hn]
        exact rowsOf_snoc _ _
      have HT := Lib.hid htk
      generalize rowsOf (l.take k) = rows0 at *
      obtain ⟨T, hTK⟩ : ∃ T, T = rowsOf (l.take (k + 1)) := ⟨_, rfl⟩
      have hstart : rows0.take 0 ++ ins n (rows0.drop 0) = T := by rw [hTK]; exact HT.out.symm
      have HTK := Lib.hid hTK
      clear hTK
      have HST := Lib.hid hstart
      have HR := Lib.hid hrel
      have HGK := Lib.hid hgk
      clear hc hn htk hstart hrel hgk HT
      go_wp2
      obtain ⟨wo, rfl⟩ : ∃ wo : World, wo = wr := ⟨_, rfl⟩
      go_loopw [5, 7, 8] (fun v x r wr => ∃ (rows : List (List Int)) (gs : List (Nat × Nat)) (m : Int) (R : Nat), x = .int .i64 m ∧ r = .int .i64 R ∧ R ≤ rows.length ∧ 0 ≤ m ∧ m ≤ 1000 ∧ Good k rows ∧ rows.take R ++ ins m (rows.drop R) = T ∧ HRel w wr v rows gs) (fun v _ r _ => slen v - (intOf r).toNat)
      case atStart => exact ⟨rows0, gs, n, 0, rfl, rfl, Nat.zero_le _, hn01.1, hn01.2, HGK.out, HST.out, HR.out⟩
      case round =>
        clear HR HST HGK c0 hn01
        obtain ⟨rows, gs, m, R, rfl, rfl, hR, hm0, hm1, hgood, hins, hrel⟩ := hrel
        have hbel := hrel.below
        have hsz := hbel.size
        have hrl := hgood.len
        by_cases hRl : R = rows.length
        · subst hRl
          have hT := ins_new hins
          obtain ⟨A', cap', e⟩ := own_slice hrel.sr.own
          subst e
          have HTT := Lib.hid hT
          have HR := Lib.hid hrel
          have hown := hrel.sr.own
          clear hT hins hrel
          go_wp2_with (at_builtin; go_must (refine wpList_append_lies _ rfl _ _ 40 rfl w.heap.size 22 i1 _ 1 24 Tryd.underlying40 hj hy0 hy1 hy2 rfl (by omega) _ _ _ rfl ((hown.alloc _).alloc _) ⟨wr.heap.size + 1, 0, none⟩ 1 1 [.slice (some ⟨wr.heap.size, 0, none⟩) 1 1] rfl rfl (by simpa using cell_one_new (wr.alloc _) _ _) (slice_oneCell _ _ _) (by omega) (by unfold maxLen; omega) (by omega) (by simp; omega) (wr.heap.size + 2) (by simp) ?_); intro g2 cap2 w2 hown2 hgrow2 hat2 hlt2)
          refine ⟨⟨k + 1, gs ++ [(wr.heap.size, 1)], by omega, by go_num, ?_, ?_⟩, by simp [intOf]; omega⟩
          · rw [← HTK.out, ← HTT.out]
            exact HR.out.sr.push hsz hgrow2 hown2 hat2
          · exact ((hbel.alloc hsz _).alloc (by simp; omega) _).grown hgrow2 (by simp; omega) (fun j hj => (hown.lt j hj).1)
        · obtain ⟨row, hrow⟩ : ∃ row, rows[R]? = some row := ⟨_, List.getElem?_eq_getElem (by omega)⟩
          obtain ⟨p, hp⟩ := hrel.sr.pair hrow
          obtain ⟨g, cap', e, _, hgl⟩ := own_some hrel.sr.own (by omega)
          subst e
          have cr := hrel.sr.cell rfl hrow hp
          unfold rowV at cr
          have hrk := hgood.row row (List.mem_of_getElem? hrow)
          have hs := Lib.hid (fun w' hb' => search_any (some ⟨p.1, 0, none⟩) p.2 row (m + 1) w' ((Reads.of_own (hrel.sr.row R row p hrow hp)).below hb') (by omega) hrk.2.1)
          have g1 : ((R : Int) == (rows.length : Int)) = false := by rw [beq_eq_false_iff_ne]; omega
          have g2 : (0 : Int) ≤ (R : Int) := by omega
          have g3 : (R : Int) < (rows.length : Int) := by omega
          have hple := pos_le (m + 1) row
          have hrl1 := hrk.1
          have HR := Lib.hid hrel
          have HG := Lib.hid hgood
          have HI := Lib.hid hins
          have hgp : g ≠ p.1 := fun e => hrel.sr.out R p hp (by rw [← e]; rfl)
          have hfg := own_frozen hrel.sr.own R
          have hgB := (hrel.sr.own.lt g rfl).1
          have hpB := (hrel.sr.lt hrow hp).1
          have HGP := Lib.hid hgp
          have HRW := Lib.hid hrow
          have HP := Lib.hid hp
          clear hgp hrk hrel hgood hins hrow hp
          by_cases hpe : pos (m + 1) row = row.length
          · have HT := Lib.hid (ins_end HRW.out hpe HI.out)
            have hpos : ((pos (m + 1) row : Int) == (row.length : Int)) = true := by rw [beq_iff_eq, hpe]
            clear hpe
            generalize pos (m + 1) row = P at *
            go_wp2_with (first
              | (go_at_call 19; refine (hs.out _ (Below.refl _ _)).mono ?_; rintro e w1 ⟨rfl, hb1⟩; have cr1 := (hb1.cell (p := ⟨g, R, none⟩) hgl).trans cr; have hrow1 := (HR.out.sr.below hb1).row R row p HRW.out HP.out; have hs1 := hb1.size)
              | (at_builtin; go_must (refine wpList_append_lies _ rfl _ _ 22 rfl w.heap.size 3 i0 _ 1 8 Tryd.underlying22 hi hz0 hz1 hz2 rfl (by omega) _ _ _ rfl (hrow1.alloc _) ⟨w1.heap.size, 0, none⟩ 1 1 [.int .i64 m] rfl rfl (cell_one_new _ _ _) (int_oneCell _) (by omega) (by unfold maxLen; omega) (by omega) (by simp; omega) (w1.heap.size + 1) (by simp) ?_); intro g2 cap2 w2 hown2 hgrow2 hat2 hlt2; have hbk := (hgrow2.block g (by simp; omega) (fun e => HGP.out (Option.some.inj (show some g = some p.1 from e)))).trans (Below.heap_alloc w1 (.cells #[.int .i64 m] 3) g (by omega)); have cg2 := (World.cell?_of_block (a := ⟨g, R, none⟩) hbk).trans cr1; have fg2 := (World.frozen?_of_block (a := ⟨g, R, none⟩) hbk).trans ((hb1.frozen (p := ⟨g, R, none⟩) hgl).trans hfg); clear hbk))
            refine ⟨⟨k + 1, gs.set R (g2, cap2), by omega, by go_num, ?_, ?_⟩, by simp [intOf]; omega⟩
            · rw [← HTK.out, ← HT.out]
              exact HR.out.sr.grow rfl HRW.out HP.out (hb1.alloc hs1 _) hgrow2 hown2 (by
                rcases hat2 with e | e
                · exact .inl (Option.some.inj (show some p.1 = some g2 from e))
                · right; omega)
            · exact (((bnext hbel hb1).alloc (by omega) _).grown hgrow2 (by simp; omega) (fun j hj => by have e := Option.some.inj (show some p.1 = some j from hj); omega)).setCell (by show w.heap.size ≤ g; exact hgB) _
          · obtain ⟨m', hm'⟩ : ∃ m', row[pos (m + 1) row]? = some m' := ⟨_, List.getElem?_eq_getElem (by omega)⟩
            have HT := Lib.hid (ins_on HRW.out hpe hm' HI.out)
            have HGS := Lib.hid (HG.out.set_ HRW.out (n := m) ⟨hm0, hm1⟩)
            have hm'b := (HG.out.row row (List.mem_of_getElem? HRW.out)).2.2 m' (List.mem_of_getElem? hm')
            have hpos : ((pos (m + 1) row : Int) == (row.length : Int)) = false := by rw [beq_eq_false_iff_ne]; omega
            have hPl : pos (m + 1) row < row.length := by omega
            have HM := Lib.hid hm'
            clear hpe hm'
            generalize pos (m + 1) row = P at *
            go_wp2_with (go_at_call 19; refine (hs.out _ (Below.refl _ _)).mono ?_; rintro e w1 ⟨rfl, hb1⟩; have cr1 := (hb1.cell (p := ⟨g, R, none⟩) hgl).trans cr; have hrow1 := (HR.out.sr.below hb1).row R row p HRW.out HP.out; have hs1 := hb1.size; have cm1 := own_cell hrow1 (i := P) (u := .int .i64 m') (by rw [ints_get, HM.out]; rfl); have fm1 := own_frozen hrow1 P; clear hrow1)
            have i1 : (0 : Int) ≤ (P : Int) := by omega
            have i2 : (P : Int) < (row.length : Int) := by omega
            go_region
            all_goals
              go_wp2
              go_roundw
              case rel =>
                refine ⟨rows.set R (row.set P m), gs, m', R + 1, rfl, by go_num, by rw [List.length_set]; omega, hm'b.1, hm'b.2, HGS.out, HT.out, ?_, ?_⟩
                · exact (HR.out.sr.below (bdrew hb1 1)).store HRW.out HP.out P m
                · exact (bdrew (bnext hbel hb1) 1).setCell (by show w.heap.size ≤ p.1; exact hpB) _
              case measure => simp [intOf, slen]; omega
    · obtain rfl : k = l.length := by omega
      rw [List.take_of_length_le (Nat.le_refl _)] at hrel hgk
      obtain ⟨SH, hSH⟩ : ∃ SH, SH = shape l := ⟨_, rfl⟩
      have hsr := hrel.sr
      have hbel := hrel.below
      have hsh : SH = (rowsOf l).map fun r => (r.length : Int) := hSH
      have hlr := hgk.len
      have hrk := fun row hr => (hgk.row row hr).1
      generalize rowsOf l = rows at *
      obtain ⟨A', cap', e⟩ := own_slice hsr.own
      subst e
      have HSH := Lib.hid hSH
      have HS2 := Lib.hid hsh
      have HSR := Lib.hid hsr
      have HRK := Lib.hid hrk
      clear hrel hsr hsh hSH hgk hrk
      go_wp2
      obtain ⟨wo, rfl⟩ : ∃ wo : World, wo = wr := ⟨_, rfl⟩
      go_loopw [10, 76] (fun v i wr => ∃ k : Nat, k ≤ rows.length ∧ i = .int .i64 k ∧ wr.ownsRow wo.heap.size 3 1 v k (ints (SH.take k)) ∧ Below wo.heap.size wo wr) (fun _ i _ => rows.length - (intOf i).toNat)
      case atStart => exact ⟨0, Nat.zero_le _, rfl, World.ownsRow_nil _ _ _ _, Below.refl _ _⟩
      case round =>
        obtain ⟨k, hk, rfl, hown, hb2⟩ := hrel
        have hso := hb2.size
        by_cases hlt2 : k < rows.length
        · obtain ⟨row, hrow⟩ : ∃ row, rows[k]? = some row := ⟨_, List.getElem?_eq_getElem hlt2⟩
          obtain ⟨p, hp⟩ := HSR.out.pair hrow
          obtain ⟨g, cap', e, _, hgl⟩ := own_some HSR.out.own (by omega)
          simp only [Value.slice.injEq, true_and] at e
          obtain ⟨rfl, rfl⟩ := e
          have cr := (HSR.out.below hb2).cell rfl hrow hp
          unfold rowV at cr
          have hr20 := HRK.out row (List.mem_of_getElem? hrow)
          have htk : SH.take (k + 1) = SH.take k ++ [(row.length : Int)] := by
            rw [List.take_add_one, HS2.out, List.getElem?_map, hrow]; rfl
          have HT := Lib.hid htk
          have HB2 := Lib.hid hb2
          clear htk hrow hp hb2
          go_wp2_with (at_builtin; go_must (refine append_own _ rfl _ _ 22 rfl wo.heap.size 3 i0 _ 1 8 Tryd.underlying22 hi hz0 hz1 hz2 rfl (by decide) _ _ _ rfl (hown.alloc _) ⟨wr.heap.size, 0, none⟩ 1 1 [.int .i64 (row.length : Int)] rfl rfl (cell_one_new _ _ _) (int_oneCell _) (by unfold maxLen; omega) (by omega) (by simp; omega) (by decide) ?_); intro g2 cap2 w2 hown2 hg2 hg2' hgrow2)
          go_roundw
          case rel => exact ⟨k + 1, by omega, by go_num, by rw [HT.out]; simpa [ints] using hown2, (HB2.out.alloc hso _).grown hgrow2 (by simp; omega) (fun j hj => (hown.lt j hj).1)⟩
          case measure => simp [intOf]; omega
        · obtain rfl : k = rows.length := by omega
          have hsl : SH.length = rows.length := by rw [HS2.out, List.length_map]
          rw [List.take_of_length_le (by omega)] at hown
          obtain ⟨A2, cap2, e⟩ := own_slice hown
          subst e
          have hfin : wr.ownsRow w.heap.size 3 1 (.slice A2 rows.length cap2) SH.length (ints SH) := by rw [hsl]; exact own_base hown hbel.size
          have HF := Lib.hid hfin
          have HB := Lib.hid (hbel.trans (hb2.mono hbel.size))
          clear hfin hown hsl
          go_wp2
          go_ret2
          refine ⟨_, rfl, ?_, HB.out⟩
          rw [← HSH.out]
          exact HF.out
end Go.Proofs.YtlchgjlinhakdaaDoor.Rs
