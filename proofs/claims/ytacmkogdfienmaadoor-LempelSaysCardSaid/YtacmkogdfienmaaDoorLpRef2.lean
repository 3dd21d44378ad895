/-
  The walk of the reference's Pieces (letterbeckref2).
-/
import Derived.Test.YtacmkogdfienmaaDoorLpBest
import Derived.Test.YtacmkogdfienmaaDoorLpRef
import Derived.Test.YtacmkogdfienmaaDoorPre
namespace Go.Proofs.YtacmkogdfienmaaDoor.Lp
open Go.RowKit
set_option linter.unusedVariables false

theorem own_apart {w : World} {b1 b2 s1 s2 n1 n2 : Nat} {e1 e2 : TypeId} {v1 v2 : Value} {x1 x2 : List Value} (h1 : w.ownsRow b1 e1 s1 v1 n1 x1) (h2 : w.ownsRow b2 e2 s2 v2 n2 x2) (hne : e1 ≠ e2) : v1.ownBlock = none ∨ v1.ownBlock ≠ v2.ownBlock := by
  rcases h1.2 with ⟨rfl, _⟩ | ⟨g, cap, cur, rfl, hg, hh, hr⟩
  · exact .inl rfl
  · rcases h2.2 with ⟨rfl, _⟩ | ⟨g', cap', cur', rfl, hg', hh', hr'⟩
    · exact .inr (fun e => by cases e)
    · refine .inr fun e => ?_
      injection e with e
      subst e
      rw [hh] at hh'
      injection hh' with h
      injection h with _ h
      exact hne h
theorem row_lt {w : World} {b s n : Nat} {e : TypeId} {v : Value} {xs : List Value} (h : w.ownsRow b e s v n xs) (hn : 0 < n) : ∃ g cap, v = .slice (some ⟨g, 0, none⟩) n cap ∧ b ≤ g ∧ g < w.heap.size := by
  obtain ⟨g, cap, rfl, h1, h2⟩ := own_some h hn
  exact ⟨g, cap, rfl, h1, h2⟩
theorem tyne : (39 : TypeId) ≠ 9 := by decide

theorem index_at (s : ByteArray) (K : Nat) (z : UInt8) (h : K < s.size) (hz : s[K] = z) (w : World) : (Instr.index 9 (.string s) (.int .i64 (K : Int))).run Tryd.prog w = .ok (.int .u8 (z.toNat : Int)) w := by
  rw [run_index_string w _ s _ _ Tryd.underlying9, dif_pos ⟨by omega, by omega⟩]
  subst hz
  simp
theorem text_len {l : List Pc} (hv : Valid l) : ∀ b, b ≤ l.length → ((texts l).getD b []).length ≤ b := by
  intro b
  induction b using Nat.strongRecOn with
  | _ b ih =>
    intro hb
    cases b with
    | zero => rw [getD_zero]; simp
    | succ b =>
      obtain ⟨p, hp, hpl, hpe⟩ := texts_ne_nil (l := l) (b := b) (by omega) hv
      have := ih p.1 (by omega) (by omega)
      rw [hpe]
      simp only [List.length_append, List.length_singleton]
      omega

structure QRel (w wr : World) (o t : Value) (l : List Pc) : Prop where
  out : wr.ownsRow w.heap.size 39 2 o l.length (cells l)
  txt : wr.ownsRow w.heap.size 9 1 t (l.length + 1) ((texts l).map strV)
  below : Below w.heap.size w wr
theorem own_drewN {w : World} {b s n : Nat} {e : TypeId} {v : Value} {xs : List Value} (h : w.ownsRow b e s v n xs) (q : Nat) : (w.drewN q).ownsRow b e s v n xs := h
theorem QRel.drewN {w wr : World} {o t : Value} {l : List Pc} (h : QRel w wr o t l) (q : Nat) : QRel w (wr.drewN q) o t l := ⟨own_drewN h.out q, own_drewN h.txt q, bdrew h.below q⟩

set_option maxRecDepth 100000 in
set_option maxHeartbeats 4000000 in
theorem refpieces_any (s : ByteArray) (w : World) (hs : s.size ≤ 1000) :
    Calls Tryd.prog 5 #[.string s] w fun e w' => ∃ A cap, e = .returned (.slice A (pieces s.data.toList).length cap) ∧ w'.ownsRow w.heap.size 39 2 (.slice A (pieces s.data.toList).length cap) (pieces s.data.toList).length (cells (pieces s.data.toList)) ∧ Below w.heap.size w w' := by
  obtain ⟨i0, hi, hz0, hz1, hz2⟩ := info_parts infoK
  obtain ⟨j0, hj, hy0, hy1, hy2⟩ := info_parts infoS
  have hL : s.data.toList.length = s.size := by simp
  have HL := Lib.hid hL; clear hL
  go_enter Tryd.func5, Tryd.ntmps5
  go_wp2
  go_loopw [0, 3, 4] (fun sv o t wr => ∃ (k : Nat) (r : ByteArray) (o0 : Value), k ≤ s.size ∧ o0 = o ∧ sv = .string r ∧ Hid (bs r = s.data.toList.drop k) ∧ Hid ((st s.data.toList k).1 = 0) ∧ QRel w wr o t (st s.data.toList k).2)
    (fun sv _ _ _ => match sv with | .string r => r.size | _ => 0)
  case atStart => exact ⟨0, s, _, Nat.zero_le _, rfl, rfl, Lib.hid rfl, Lib.hid rfl, ⟨World.ownsRow_nil _ _ _ _, World.ownsRow_lit w _ 1 (Nat.le_refl _) (by decide) rfl, (Below.refl _ _).alloc (Nat.le_refl _) _⟩⟩
  case round =>
    obtain ⟨k, r, o, hk, rfl, rfl, HB, HZ, hrel⟩ := hrel
    have hrs : r.size = s.size - k := by
      have := congrArg List.length HB.out
      rw [bs_length, List.length_drop, HL.out] at this
      exact this
    by_cases hlt : k < s.size
    · obtain ⟨b, j, hb1, hb2, hb3, hb4, hb5⟩ := next_piece s.data.toList k (by rw [HL.out]; exact hlt) HZ.out
      have hlen := texts_length (st s.data.toList k).2
      have hll := st_length s.data.toList k (by rw [HL.out]; exact hk)
      have HT := Lib.hid (text_len (st_ok s.data.toList k (by rw [HL.out]; exact hk)).valid)
      generalize (st s.data.toList k).2 = l at *
      rw [HL.out] at hb4
      obtain ⟨m, hm⟩ : ∃ m, r.size = m + 1 := ⟨r.size - 1, by omega⟩
      have hx : (s.data.toList.drop k).dropLast = bs (r.extract 0 m) := by
        rw [bs_to, HB.out, List.dropLast_eq_take, List.length_drop, HL.out]
        congr 1; omega
      rw [hx] at hb1
      have H1 := Lib.hid hb1; have H3 := Lib.hid hb3; have H5 := Lib.hid hb5; have HR := Lib.hid hrel; have HRS := Lib.hid hrs; have HM := Lib.hid hm
      have k1 : (0 : Int) < (r.size : Int) := by omega
      have k2 : r.size ≤ 1000 := by omega
      obtain ⟨g, cap, rfl, hg, hg'⟩ := own_some hrel.txt (by omega)
      clear hb1 hb3 hb5 hrel hx hrs hm
      go_wp2
      obtain ⟨wo, hwo⟩ : ∃ wo : World, wo = wr := ⟨_, rfl⟩
      go_loopw [5, 6] (fun bv iv wr => ∃ i : Nat, i ≤ l.length + 1 ∧ iv = .int .i64 (i : Int) ∧ bv = .int .i64 (best (bs (r.extract 0 m)) (texts l) i : Int) ∧ QRel w wr o (.slice (some ⟨g, 0, none⟩) (l.length + 1) cap) l) (fun _ i _ => l.length + 1 - (intOf i).toNat)
      case atStart => exact ⟨0, Nat.zero_le _, rfl, rfl, HR.out⟩
      case round =>
        clear HR hwo
        obtain ⟨i, hii, rfl, rfl, hrel⟩ := hrel
        by_cases hil : i < l.length + 1
        · have hbs := best_spec (bs (r.extract 0 m)) (texts l) (getD_zero l) (by omega) i (by omega)
          have hbn : best (bs (r.extract 0 m)) (texts l) (i + 1) = if ((texts l).getD i []).isPrefixOf (bs (r.extract 0 m)) && decide (((texts l).getD (best (bs (r.extract 0 m)) (texts l) i) []).length < ((texts l).getD i []).length) then i else best (bs (r.extract 0 m)) (texts l) i := rfl
          have hbl : best (bs (r.extract 0 m)) (texts l) i < l.length + 1 := by rw [← hlen]; exact hbs.1
          have hcell : ∀ n, n < l.length + 1 → wr.cell? ⟨g, n, none⟩ = some (.string ⟨((texts l).getD n []).toArray⟩) := by
            intro n hn
            rw [hrel.txt.cellAt n (by omega)]
            simp [strV, List.getD_eq_getElem?_getD, List.getElem?_eq_getElem (show n < (texts l).length by omega)]
          have c1 := hcell i hil
          have c2 := hcell _ hbl
          have hti := HT.out i (by omega)
          have htb := HT.out _ (show best (bs (r.extract 0 m)) (texts l) i ≤ l.length by omega)
          have hbeg := fun w => begins_any (r.extract 0 m) ⟨((texts l).getD i []).toArray⟩ w (by unfold maxLen; rw [ByteArray.size_extract]; omega) (by unfold maxLen; show ((texts l).getD i []).toArray.size ≤ _; rw [List.size_toArray]; omega)
          have HG := Lib.hid hbeg
          have HN := Lib.hid hbn
          clear hbs hbn hcell hbeg
          have HR2 := Lib.hid hrel; clear hrel
          generalize best (bs (r.extract 0 m)) (texts l) i = B at *
          generalize (texts l).getD i [] = ti at *
          generalize (texts l).getD B [] = tb at *
          have k3 : (i : Int) < (l.length : Int) + 1 := by omega
          have k4 : (B : Int) < (l.length : Int) + 1 := by omega
          have k5 : (0 : Int) ≤ (i : Int) := by omega
          have k6 : (0 : Int) ≤ (B : Int) := by omega
          have hm1 : (r.size : Int) - 1 = (m : Int) := by have := HM.out; omega
          have wr1 : IntKind.i64.wrap (m : Int) = (m : Int) := IntWalk.i64_in _ (by omega)
          have k7 : (0 : Int) ≤ (m : Int) := by omega
          have k8 : (m : Int) ≤ (r.size : Int) := by omega
          have hbeg2 : ∀ (b : Bool), ti.isPrefixOf (bs (r.extract 0 m)) = b → ∀ w, Calls Tryd.prog 11 #[.string (r.extract 0 m), .string ⟨ti.toArray⟩] w fun e w' => e = .returned (.bool b) ∧ w' = w := by
            intro b hb w
            have := HG.out w
            rw [show bs ⟨ti.toArray⟩ = ti from rfl, hb] at this
            exact this.mono fun _ _ h => ⟨h.1, h.2.symm⟩
          have HG1 := Lib.hid hbeg2
          clear hbeg2
          by_cases hp : ti.isPrefixOf (bs (r.extract 0 m)) = true
          · have HG2 := Lib.hid (HG1.out true hp)
            have HP := Lib.hid hp; clear hp HG HG1
            by_cases hlt2 : tb.length < ti.length
            · have q1 : (tb.length : Int) < (ti.length : Int) := by omega
              have HE := Lib.hid (HN.out.trans (if_pos (by rw [HP.out, decide_eq_true hlt2]; rfl)))
              clear hlt2
              go_wp2
              go_quiet (first | (go_at_call 11; refine Calls.quiet_of_same (HG2.out _)))
              go_wp2
              refine ⟨⟨i + 1, by omega, by go_num, by rw [HE.out], HR2.out.drewN nq⟩, by simp [intOf]; omega⟩
            · have q1 : decide ((tb.length : Int) < (ti.length : Int)) = false := decide_eq_false (by omega)
              have HE := Lib.hid (HN.out.trans (if_neg (by rw [decide_eq_false hlt2, Bool.and_false]; exact Bool.false_ne_true)))
              have HL2 := Lib.hid hlt2
              clear hlt2
              go_wp2
              go_quiet (first | (go_at_call 11; refine Calls.quiet_of_same (HG2.out _)))
              have hlt2 := HL2.out
              go_wp2
              refine ⟨⟨i + 1, by omega, by go_num, by rw [HE.out], HR2.out.drewN nq⟩, by simp [intOf]; omega⟩
          · have hp' : ti.isPrefixOf (bs (r.extract 0 m)) = false := Bool.eq_false_iff.2 hp
            have HG2 := Lib.hid (HG1.out false hp')
            have HE := Lib.hid (HN.out.trans (if_neg (by rw [hp', Bool.false_and]; exact Bool.false_ne_true)))
            clear hp hp' HG HG1
            · go_wp2
              go_quiet (first | (go_at_call 11; refine Calls.quiet_of_same (HG2.out _)))
              go_wp2
              refine ⟨⟨i + 1, by omega, by go_num, by rw [HE.out], HR2.out.drewN nq⟩, by simp [intOf]; omega⟩
        · obtain rfl : i = l.length + 1 := by omega
          have hbe : best (bs (r.extract 0 m)) (texts l) (l.length + 1) = b := by rw [← hlen]; exact H1.out.symm
          rw [hbe]
          have c2 : wr.cell? ⟨g, b, none⟩ = some (.string ⟨((texts l).getD b []).toArray⟩) := by
            rw [hrel.txt.cellAt b (by omega)]
            simp [strV, List.getD_eq_getElem?_getD, List.getElem?_eq_getElem (show b < (texts l).length by omega)]
          have hrs := HRS.out
          have htb : ((texts l).getD b []).length = j := by rw [H3.out, List.length_take, List.length_drop, HL.out]; omega
          have hjr : j < r.size := by omega
          have hbj : bs r = s.data.toList.drop k := HB.out
          have hz : r[j] = s.data.toList.getD (k + j) 0 := by
            have e : (bs r).getD j 0 = r[j] := by
              show r.data.toList.getD j 0 = _
              rw [List.getD_eq_getElem?_getD, List.getElem?_eq_getElem (by simpa using hjr)]
              simp [ByteArray.getElem_eq_getElem_data]
            rw [← e, hbj, drop_getD]
          have q1 := index_at r j r[j] hjr rfl
          have htx : strV ((texts l).getD b [] ++ [s.data.toList.getD (k + j) 0]) = .string (r.extract 0 (j + 1)) := by
            rw [H3.out, ← drop_getD, ← take_get _ _ (by rw [List.length_drop, HL.out]; omega), ← hbj, ← bs_to]
            rfl
          have hts : texts (l ++ [(b, s.data.toList.getD (k + j) 0)]) = texts l ++ [(texts l).getD b [] ++ [s.data.toList.getD (k + j) 0]] := texts_snoc l _
          rw [hz] at q1
          generalize s.data.toList.getD (k + j) 0 = z at *
          have hrd : bs (r.extract (j + 1) r.size) = s.data.toList.drop (k + j + 1) := by rw [bs_from, hbj, List.drop_drop, Nat.add_assoc]
          have HTX := Lib.hid htx; have HTS := Lib.hid hts; have HRD := Lib.hid hrd
          have hsz := hrel.below.size
          have hap := own_apart hrel.txt hrel.out tyne.symm
          have HR2 := Lib.hid hrel
          generalize (texts l).getD b [] = tb at *
          have k3 : (b : Int) < (l.length : Int) + 1 := by omega
          have k6 : (0 : Int) ≤ (b : Int) := by omega
          have k7 : (j : Int) < (r.size : Int) := by omega
          have k8 : (j : Int) + 1 ≤ (r.size : Int) := by omega
          have k9 : (0 : Int) ≤ (j : Int) + 1 := by omega
          have wr1 : IntKind.i64.wrap ((j : Int) + 1) = (j : Int) + 1 := IntWalk.i64_in _ (by omega)
          have HAP := Lib.hid hap
          clear hbe hrs hbj hz htx hts hrd hap hrel hjr
          go_wp2_with (first
            | (at_builtin; refine append_own _ rfl _ _ 22 rfl w.heap.size 39 i0 _ 2 16 Tryd.underlying22 hi hz0 hz1 hz2 rfl (by decide) _ _ _ rfl (HR2.out.out.alloc _) ⟨wr.heap.size, 0, none⟩ 1 1 [.int .i64 (b : Int), .int .u8 (z.toNat : Int)] rfl rfl (cell_two_new _ _ _ _) (two_oneCell _ _) (by unfold maxLen; omega) (by omega) (by simp; omega) (by decide) ?_; intro g1 cap1 w1 hown1 hg1 hg1' hgrow1; have htxt := (HR2.out.txt.alloc _).kept hgrow1 HAP.out; have hsz1 := hgrow1.size; simp at hsz1)
            | (at_builtin; go_must (refine append_own _ rfl _ _ 36 rfl w.heap.size 9 j0 _ 1 16 Tryd.underlying36 hj hy0 hy1 hy2 rfl (by decide) _ _ _ rfl (htxt.alloc _) ⟨w1.heap.size, 0, none⟩ 1 1 [.string (r.extract 0 (j + 1))] rfl rfl (cell_one_new _ _ _) (by simp [Value.oneCell']) (by unfold maxLen; omega) (by omega) (by simp; omega) (by decide) ?_); intro g2 cap2 w2 hown2 hg2 hg2' hgrow2))
          have hb5 := (((HR2.out.below.alloc hsz _).grown hgrow1 (by simp; omega) (fun i hi => (HR2.out.out.lt i hi).1)).alloc (by omega) _).grown hgrow2 (by simp; omega) (fun i hi => (htxt.lt i hi).1)
          have hap2 := own_apart hown1 htxt tyne
          have ho2 := (hown1.alloc _).kept hgrow2 hap2
          refine ⟨⟨k + j + 1, _, _, by omega, rfl, rfl, HRD, Lib.hid (by rw [H5.out]), ?_, ?_, ?_⟩, ?_⟩
          · rw [H5.out, cells_snoc]
            simpa using ho2
          · rw [H5.out]
            simp only [List.length_append, List.length_singleton]
            rw [HTS.out, List.map_append, List.map_singleton, HTX.out]
            exact hown2
          · exact hb5
          · show (r.extract (j + 1) r.size).size < r.size
            rw [ByteArray.size_extract]
            omega
    · obtain rfl : k = s.size := by omega
      have h0 : ¬ (0 : Int) < (r.size : Int) := by omega
      have HR2 := Lib.hid hrel
      clear hrs hrel
      go_wp2
      go_ret
      rw [pieces_at HL.out]
      obtain ⟨A, cap, e⟩ := own_slice HR2.out.out
      rw [e]
      exact ⟨A, cap, rfl, by rw [← e]; exact HR2.out.out, HR2.out.below⟩
end Go.Proofs.YtacmkogdfienmaaDoor.Lp
