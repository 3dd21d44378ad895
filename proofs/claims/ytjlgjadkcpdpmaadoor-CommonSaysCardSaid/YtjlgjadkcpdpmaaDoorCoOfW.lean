/-
  The walk of common.Of.
-/
import Derived.Test.YtjlgjadkcpdpmaaDoorCoLong
import Derived.Test.YtjlgjadkcpdpmaaDoorCoBest
import Derived.Test.YtjlgjadkcpdpmaaDoorByt
namespace Go.Proofs.YtjlgjadkcpdpmaaDoor.Co
open Go.RowKit
set_option linter.unusedVariables false

theorem of_no (a b : ByteArray) (w : World) (h : ¬ (a.size ≤ 24 ∧ b.size ≤ 24)) :
    Calls Tryd.prog 9 #[.string a, .string b] w fun e w' => e = .returned (.tuple #[.string ByteArray.empty, .iface 39 (.int .i64 4)]) ∧ Below w.heap.size w w' := by
  go_enter Tryd.func9, Tryd.ntmps9
  go_wp2_with (go_at_call 17; refine (long2_no a b w.heap.size 24 _ (by simp) (by simp) (by omega)).mono ?_; rintro e w' ⟨rfl, rfl⟩)
  go_ret2
  exact ⟨rfl, bnew _ _⟩

/-- what holds at the head of the outer loop -/
structure ORel (a b : ByteArray) (w wr : World) (G X I J : Nat) (v : Value) : Prop where
  tab : Tab wr G (bs a) (bs b) 0 0
  gx : G + 1 + a.size < X
  xs : X ≤ wr.heap.size
  wx : w.heap.size ≤ G
  below : Below w.heap.size w wr
  hi : I ≤ a.size
  hj : J ≤ b.size
  own : ∃ g : List UInt8, wr.ownsRow X 5 1 v g.length (u8s g) ∧ g.length + lcs ((bs a).drop I) ((bs b).drop J) ≤ 24 ∧ ∀ g', Least ((bs a).drop I) ((bs b).drop J) g' → Least (bs a) (bs b) (g ++ g')

theorem ORel.drewN {a b : ByteArray} {w wr : World} {G X I J : Nat} {v : Value} (h : ORel a b w wr G X I J v) (n : Nat) : ORel a b w (wr.drewN n) G X I J v :=
  ⟨h.tab.drewN n, h.gx, h.xs, h.wx, bdrew h.below n, h.hi, h.hj, h.own⟩
theorem ORel.next {a b : ByteArray} {w wr w2 : World} {G X I J I' J' : Nat} {v v' : Value} (h : ORel a b w wr G X I J v) (hb : Below X wr w2) {g : List UInt8} {x : UInt8}
    (hown : w2.ownsRow X 5 1 v' (g.length + 1) (u8s (g ++ [x]))) (hl : ∀ g', Least ((bs a).drop I') ((bs b).drop J') g' → Least (bs a) (bs b) ((g ++ [x]) ++ g'))
    (hsz : g.length + 1 + lcs ((bs a).drop I') ((bs b).drop J') ≤ 24) {g2 : Nat} (hg2 : g2 < w2.heap.size) (hi : I' ≤ a.size) (hj : J' ≤ b.size) : ORel a b w w2 G X I' J' v' :=
  ⟨h.tab.belowX hb (by rw [bs_length]; exact h.gx), h.gx, Nat.le_trans h.xs hb.size, h.wx, h.below.trans (hb.mono (by have := h.gx; have := h.wx; omega)), hi, hj, g ++ [x], by simpa using hown, by simpa using hsz, hl⟩
theorem bs_get (s : ByteArray) (k : Nat) (h : k < s.size) : (bs s)[k]? = some s[k] := by
  have := getD_byte s k h
  have hl : k < (bs s).length := by rw [bs_length]; exact h
  rw [List.getElem?_eq_getElem hl]
  rfl
/-- in the inner loops: the block of 'next' alone is written -/
structure IRel (wr wq : World) (ni nj : Int) : Prop where
  blk : wq.heap[wr.heap.size]? = some (.cells #[.int .i64 ni, .int .i64 nj] 42 (0, 0))
  below : Below wr.heap.size wr wq
  size : wq.heap.size = wr.heap.size + 1

theorem IRel.drew {wo wr : World} {ni nj : Int} (h : IRel wo wr ni nj) (n : Nat) : IRel wo (wr.drewN n) ni nj := ⟨h.blk, bdrew h.below _, h.size⟩
theorem IRel.set_ {wo wr : World} {ni nj : Int} (h : IRel wo wr ni nj) (x y : Int) : IRel wo ((wr.setCell ⟨wo.heap.size, 0, none⟩ (.int .i64 x)).setCell ⟨wo.heap.size, 1, none⟩ (.int .i64 y)) x y := by
  obtain ⟨h1, h2, h3⟩ := h
  refine ⟨?_, (h2.setCell (Nat.le_refl _) _).setCell (Nat.le_refl _) _, by simp [World.setCell, h3]⟩
  simp [World.setCell, Array.getElem?_modify, h1]

set_option maxHeartbeats 4000000 in
set_option maxRecDepth 100000 in
theorem of_ok (a b : ByteArray) (w : World) (ha : a.size ≤ 24) (hb : b.size ≤ 24) :
    Calls Tryd.prog 9 #[.string a, .string b] w fun e w' => ∃ g, e = .returned (.tuple #[.string ⟨g.toArray⟩, .nilIface]) ∧ Least (bs a) (bs b) g ∧ Below w.heap.size w w' := by
  obtain ⟨i0, hi, hz0, hz1, hz2⟩ := info_parts info8
  go_enter Tryd.func9, Tryd.ntmps9
  go_wp2_with (go_at_call 17; refine (long2_ok a b w.heap.size 24 _ (by simp) (by simp) (by omega) (by omega)).mono ?_; rintro e w' ⟨rfl, rfl⟩)
  refine (table_ok a b _ ha hb).mono ?_
  rintro e w1 ⟨G, rfl, hG, hT, hb1⟩
  have hL : (bs a).length = a.size := bs_length a
  have hM : (bs b).length = b.size := bs_length b
  have hstart : ORel a b w w1 G w1.heap.size 0 0 (.slice none 0 0) := by
    have h1 := hT.size (Nat.zero_le _)
    rw [hL] at h1
    refine ⟨hT, by omega, Nat.le_refl _, by simp at hG; omega, bnext (bnew _ _) hb1, by omega, by omega, [], ⟨rfl, .inl ⟨rfl, rfl⟩⟩, ?_, fun g' h => h⟩
    have := lcs_le (bs a) (bs b)
    simp
    omega
  have HS := Lib.hid hstart
  clear hstart hT hb1 hG
  generalize w1.heap.size = X at *
  go_wp2_with fail
  go_loopw [8, 9, 10] (fun v i j wr => ∃ I J : Nat, i = .int .i64 I ∧ j = .int .i64 J ∧ ORel a b w wr G X I J v) (fun _ i _ _ => a.size - (intOf i).toNat)
  case atStart => exact ⟨0, 0, rfl, rfl, HS.out⟩
  case round =>
    clear HS
    obtain ⟨I, J, rfl, rfl, hrel⟩ := hrel
    have sl0 := hrel.tab.slice (i' := I) (Nat.zero_le _) (by rw [hL]; exact hrel.hi)
    have n00 := hrel.tab.num (i' := I) (j' := J) (Nat.zero_le _) (by rw [hL]; exact hrel.hi) (.inr (Nat.zero_le _)) (by rw [hM]; exact hrel.hj)
    have hI := hrel.hi
    have hJ := hrel.hj
    unfold rowAt at sl0
    rw [hL, hM] at sl0
    rw [hL] at n00
    have i1 : (I : Int) < (a.size : Int) + 1 := by omega
    have j1 : (J : Int) < (b.size : Int) + 1 := by omega
    have HL := Lib.hid hL
    have HM := Lib.hid hM
    have HR := Lib.hid hrel
    clear hL hM hrel
    by_cases hpos : 0 < lcs ((bs a).drop I) ((bs b).drop J)
    · obtain ⟨T, hT⟩ : ∃ T, T = lcs ((bs a).drop I) ((bs b).drop J) := ⟨_, rfl⟩
      rw [← hT] at n00 hpos
      have HT := Lib.hid hT
      clear hT
      have hI0 : IRel wr (wr.alloc (.cells #[.int .i64 0, .int .i64 0] 42)) 0 0 := ⟨heap_alloc_new wr _, bnew _ _, by simp⟩
      have HI0 := Lib.hid hI0
      clear hI0
      go_wp2
      obtain ⟨wo, rfl⟩ : ∃ wo : World, wo = wr := ⟨_, rfl⟩
      go_loopw [11, 13] (fun v k wq => ∃ (K : Nat) (B ni nj : Int), v = .int .i64 B ∧ k = .int .i64 K ∧ I ≤ K ∧ K ≤ a.size ∧ Best (bs a) (bs b) I J T K J B ni nj ∧ IRel wo wq ni nj) (fun _ k _ => a.size - (intOf k).toNat)
      case atStart => exact ⟨I, -1, 0, 0, rfl, rfl, Nat.le_refl _, hI, Best.start _ _ _ _ _ _ _, HI0.out⟩
      case round =>
        clear HI0
        obtain ⟨K, B, ni, nj, rfl, rfl, hIK, hK, hbest, hirel⟩ := hrel
        have HB := Lib.hid hbest
        have HI := Lib.hid hirel
        clear hbest hirel
        by_cases hlt : K < a.size
        · go_wp2
          obtain ⟨wi, rfl⟩ : ∃ wi : World, wi = wr := ⟨_, rfl⟩
          go_loopw [11, 14] (fun v m wq => ∃ (M : Nat) (B ni nj : Int), v = .int .i64 B ∧ m = .int .i64 M ∧ J ≤ M ∧ M ≤ b.size ∧ Best (bs a) (bs b) I J T K M B ni nj ∧ IRel wo wq ni nj) (fun _ m _ => b.size - (intOf m).toNat)
          case atStart => exact ⟨J, B, ni, nj, rfl, rfl, Nat.le_refl _, hJ, HB.out, HI.out⟩
          case round =>
            clear HB HI
            obtain ⟨M, B, ni, nj, rfl, rfl, hJM, hM, hbest, hirel⟩ := hrel
            have hblk := hirel.blk
            have htab := HR.out.tab.below hirel.below
            have HB := Lib.hid hbest
            have HI := Lib.hid hirel
            clear hbest hirel
            by_cases hlm : M < b.size
            · have sI := htab.slice (i' := I) (Nat.zero_le _) (by rw [HL.out]; exact hI)
              have sK := htab.slice (i' := K + 1) (Nat.zero_le _) (by rw [HL.out]; omega)
              have nIJ := htab.num (i' := I) (j' := J) (Nat.zero_le _) (by rw [HL.out]; exact hI) (.inr (Nat.zero_le _)) (by rw [HM.out]; exact hJ)
              have nKM := htab.num (i' := K + 1) (j' := M + 1) (Nat.zero_le _) (by rw [HL.out]; omega) (.inr (Nat.zero_le _)) (by rw [HM.out]; omega)
              unfold rowAt at sI sK
              rw [HL.out, HM.out] at sI sK
              rw [HL.out] at nIJ nKM
              rw [← HT.out] at nIJ
              have ga := bs_get a K hlt
              have gb := bs_get b M hlm
              have q1 := index_at a K _ hlt rfl
              have q2 := index_at b M _ hlm rfl
              have hle := lcs_le ((bs a).drop (K + 1)) ((bs b).drop (M + 1))
              simp only [List.length_drop] at hle
              rw [HL.out, HM.out] at hle
              have hval : ∀ z, Valid (bs a) (bs b) T K M z → (bs a)[K]? = some z ∧ (bs b)[M]? = some z ∧ 1 + lcs ((bs a).drop (K + 1)) ((bs b).drop (M + 1)) = T := fun z h => h
              have hmk : ∀ z, (bs a)[K]? = some z → (bs b)[M]? = some z → 1 + lcs ((bs a).drop (K + 1)) ((bs b).drop (M + 1)) = T → Valid (bs a) (bs b) T K M z := fun z h1 h2 h3 => ⟨h1, h2, h3⟩
              generalize lcs ((bs a).drop (K + 1)) ((bs b).drop (M + 1)) = L11 at *
              have hL24 : L11 ≤ 24 := by omega
              have w1 : IntKind.i64.wrap ((K : Int) + 1) = (K : Int) + 1 := IntWalk.i64_in _ (by omega)
              have w2 : IntKind.i64.wrap ((M : Int) + 1) = (M : Int) + 1 := IntWalk.i64_in _ (by omega)
              have w3 : IntKind.i64.wrap ((1 : Int) + (L11 : Int)) = (1 : Int) + (L11 : Int) := IntWalk.i64_in _ (by omega)
              have k0 : (0 : Int) ≤ (K : Int) + 1 := by omega
              have k1 : (0 : Int) ≤ (M : Int) + 1 := by omega
              have k2 : (K : Int) + 1 < (a.size : Int) + 1 := by omega
              have k3 : (M : Int) + 1 < (b.size : Int) + 1 := by omega
              have k4 : (0 : Int) ≤ (I : Int) := by omega
              have k5 : (0 : Int) ≤ (J : Int) := by omega
              generalize a[K] = x at *
              generalize b[M] = y at *
              have HVAL := Lib.hid hval
              have HMK := Lib.hid hmk
              have GA := Lib.hid ga
              have GB := Lib.hid gb
              clear htab hval hmk ga gb hle sl0 n00
              generalize G + 1 + (a.size - I) = B1 at *
              generalize G + 1 + (a.size - (K + 1)) = B2 at *
              by_cases hxy : x = y
              · subst hxy
                by_cases hT1 : 1 + L11 = T
                · have r2 : ((1 : Int) + (L11 : Int) == (T : Int)) = true := by rw [beq_iff_eq]; omega
                  have HV := Lib.hid (HMK.out x GA.out GB.out hT1)
                  have hx256 := x.toNat_lt
                  clear hT1
                  have c0 : wr.cell? ⟨wo.heap.size, 0, none⟩ = some (.int .i64 ni) := by rw [cell_of_row wr _ 0 _ _ (0, 0) hblk]; rfl
                  have c1 : wr.cell? ⟨wo.heap.size, 1, none⟩ = some (.int .i64 nj) := by rw [cell_of_row wr _ 1 _ _ (0, 0) hblk]; rfl
                  have fr : ∀ o, wr.frozen? ⟨wo.heap.size, o, none⟩ = false := fun o => by simp [World.frozen?, hblk]
                  have fr0 := fr 0
                  have fr1 := fr 1
                  have HBLK := Lib.hid hblk
                  clear hblk fr
                  by_cases hB0 : B < 0
                  · have r3 : decide (B < 0) = true := decide_eq_true hB0
                    go_wp2
                    go_quiet (fail)
                    go_wp2
                    refine ⟨⟨M + 1, (x.toNat : Int), (K : Int) + 1, (M : Int) + 1, rfl, by go_num, by omega, by omega, HB.out.take HV.out hIK hJM (.inl (by omega)), (HI.out.drew nq).set_ _ _⟩, ?_⟩
                    simp [intOf]; omega
                  · have r3 : decide (B < 0) = false := decide_eq_false hB0
                    by_cases hBx : (x.toNat : Int) < B
                    · have r4 : decide ((x.toNat : Int) < B) = true := decide_eq_true hBx
                      go_wp2
                      go_quiet (fail)
                      go_wp2
                      refine ⟨⟨M + 1, (x.toNat : Int), (K : Int) + 1, (M : Int) + 1, rfl, by go_num, by omega, by omega, HB.out.take HV.out hIK hJM (.inr hBx), (HI.out.drew nq).set_ _ _⟩, ?_⟩
                      simp [intOf]; omega
                    · have r4 : decide ((x.toNat : Int) < B) = false := decide_eq_false hBx
                      go_wp2
                      go_quiet (fail)
                      go_wp2
                      go_roundw
                      case rel => exact ⟨M + 1, B, ni, nj, rfl, by go_num, by omega, by omega, HB.out.keep GA.out (by omega) (by omega), ⟨HI.out.blk, bdrew HI.out.below _, HI.out.size⟩⟩
                      case measure => simp [intOf]; omega
                · have r2 : ((1 : Int) + (L11 : Int) == (T : Int)) = false := by rw [beq_eq_false_iff_ne]; omega
                  have HSK := Lib.hid (HB.out.skip fun z v => hT1 (HVAL.out z v).2.2)
                  clear hT1 hblk
                  go_wp2
                  go_quiet (fail)
                  go_wp2
                  go_roundw
                  case rel => exact ⟨M + 1, B, ni, nj, rfl, by go_num, by omega, by omega, HSK.out, ⟨HI.out.blk, bdrew HI.out.below _, HI.out.size⟩⟩
                  case measure => simp [intOf]; omega
              · have hne : ¬ (x.toNat = y.toNat) := fun h => hxy (UInt8.toNat_inj.1 h)
                have r1 : ((x.toNat : Int) == (y.toNat : Int)) = false := by rw [beq_eq_false_iff_ne]; intro h; exact hne (by omega)
                have HSK := Lib.hid (HB.out.skip fun z v => hxy (by
                  have h1 := (HVAL.out z v).1
                  have h2 := (HVAL.out z v).2.1
                  rw [GA.out] at h1
                  rw [GB.out] at h2
                  exact (Option.some.inj h1).trans (Option.some.inj h2).symm))
                clear hxy hblk
                go_wp2
                go_quiet (fail)
                go_wp2
                go_roundw
                case rel => exact ⟨M + 1, B, ni, nj, rfl, by go_num, by omega, by omega, HSK.out, ⟨HI.out.blk, bdrew HI.out.below _, HI.out.size⟩⟩
                case measure => simp [intOf]; omega
            · obtain rfl : M = b.size := by omega
              clear hblk htab
              have hrow := HB.out
              rw [← HM.out] at hrow
              have HROW := Lib.hid hrow.row
              clear hrow
              go_wp2
              go_roundw
              case rel => exact ⟨K + 1, B, ni, nj, rfl, by go_num, by omega, by omega, HROW.out, HI.out⟩
              case measure => simp [intOf]; omega
        · obtain rfl : K = a.size := by omega
          have hd := Best.done (a := bs a) (b := bs b) (i := I) (j := J) (best := B) (ni := ni) (nj := nj) (by rw [HL.out, ← HT.out]; exact HB.out) (by rw [← HT.out]; exact hpos)
          rw [HL.out, HM.out] at hd
          obtain ⟨K', M', x, rfl, rfl, rfl, hK', hM', hIK', hJM', hok, hmin, hda, hdb⟩ := hd
          obtain ⟨g, hown, hsz, hleast⟩ := HR.out.own
          have hl1 : 1 + lcs ((bs a).drop (K' + 1)) ((bs b).drop (M' + 1)) = lcs ((bs a).drop I) ((bs b).drop J) := by
            rw [hda, hdb]
            simp only [okB, Bool.and_eq_true, decide_eq_true_iff, beq_iff_eq] at hok
            exact hok.2
          have hleast' : ∀ g', Least ((bs a).drop (K' + 1)) ((bs b).drop (M' + 1)) g' → Least (bs a) (bs b) ((g ++ [x]) ++ g') := fun g' h => by
            rw [List.append_assoc]
            exact hleast (x :: g') ⟨hok, hmin, by rw [← hda, ← hdb]; exact h⟩
          have hlt := fun j hj => hown.lt j hj
          have hblk := HI.out.blk
          have hsw := HI.out.size
          have hown1 := own_below hown HI.out.below
          have hg24 : g.length ≤ 23 := by omega
          have hx256 := x.toNat_lt
          have hsz' : g.length + 1 + lcs ((bs a).drop (K' + 1)) ((bs b).drop (M' + 1)) ≤ 24 := by omega
          have HLE := Lib.hid hleast'
          have HLT := Lib.hid hlt
          have HBLK := Lib.hid hblk
          have HSW := Lib.hid hsw
          have HSZ := Lib.hid hsz'
          have hX1 : X ≤ wr.heap.size := Nat.le_trans HR.out.xs HI.out.below.size
          clear hok hmin hda hdb hl1 hleast hleast' hlt hblk hsw hsz' sl0 n00 hown hsz
          go_wp2_with (at_builtin; go_must (refine append_own _ rfl _ _ 41 rfl X 5 i0 _ 1 1 Tryd.underlying41 hi hz0 hz1 hz2 rfl (by decide) _ _ _ rfl (hown1.alloc _) ⟨wr.heap.size, 0, none⟩ 1 1 [.int .u8 (x.toNat : Int)] rfl rfl (cell_one_new _ _ _) (byte_oneCell _) (by unfold maxLen; omega) (by omega) (by simp; omega) (by decide) ?_); intro g2 cap2 w2 hown2 hg2 hg2' hgrow2)
          have hne : some wo.heap.size ≠ u8.ownBlock := fun e => by have := (HLT.out _ e.symm).2; omega
          have hs1 := HSW.out
          have hblk2 := (hgrow2.block wo.heap.size (by simp; omega) hne).trans ((Below.heap_alloc wr (.cells #[.int .u8 (x.toNat : Int)] 5) wo.heap.size (by omega)).trans HBLK.out)
          have c0 : w2.cell? ⟨wo.heap.size, 0, none⟩ = some (.int .i64 ((K' : Int) + 1)) := by rw [cell_of_row w2 _ 0 _ _ (0, 0) hblk2]; rfl
          have c1 : w2.cell? ⟨wo.heap.size, 1, none⟩ = some (.int .i64 ((M' : Int) + 1)) := by rw [cell_of_row w2 _ 1 _ _ (0, 0) hblk2]; rfl
          have hbX : Below X wo w2 := ((HI.out.below.mono HR.out.xs).alloc hX1 _).grown hgrow2 (by simp; omega) (fun j hj => (HLT.out j hj).1)
          have HO := Lib.hid (HR.out.next hbX (by simpa [u8s] using hown2) HLE.out HSZ.out hg2' (by omega) hM')
          clear hblk2 hbX hne hs1 hown2 hown1
          go_quiet (fail)
          go_wp2
          go_roundw
          case rel => exact ⟨K' + 1, M' + 1, by go_num, by go_num, HO.out.drewN _⟩
          case measure => simp [intOf]; omega
    · have hz : lcs ((bs a).drop I) ((bs b).drop J) = 0 := by omega
      rw [hz] at n00
      obtain ⟨g, hown, hsz, hleast⟩ := HR.out.own
      obtain ⟨A', cap', e⟩ := own_slice hown
      subst e
      have hcv := bytes_string _ rfl hown
      have HG := Lib.hid (hleast [] hz)
      clear hown hleast
      go_wp2
      go_ret2
      exact ⟨g, rfl, by have := HG.out; rwa [List.append_nil] at this, HR.out.below⟩
end Go.Proofs.YtjlgjadkcpdpmaaDoor.Co
