/-
  The walks of slices.Max and rise.Fall.
-/
import Derived.Test.YtlchgjlinhakdaaDoorRsPiles
import Derived.Test.YtlchgjlinhakdaaDoorRsFall
import Derived.Test.YtlchgjlinhakdaaDoorIBlk
namespace Go.Proofs.YtlchgjlinhakdaaDoor.Rs
open Go.RowKit
set_option linter.unusedVariables false

theorem max_any (A : Option Addr) (cap : Nat) (l : List Int) (w : World) (hr : Reads w A l.length 1 (ints l)) (h0 : l ≠ []) (hm : l.length ≤ 1000) :
    Calls Tryd.prog 18 #[.slice A l.length cap] w fun e w' => e = .returned (.int .i64 (mx l)) ∧ w = w' := by
  have hl : 0 < l.length := List.length_pos_iff.2 h0
  obtain ⟨b, o, rfl, hb, hc⟩ := hr.2 hl
  obtain ⟨x, hx⟩ : ∃ x, l[0]? = some x := ⟨_, List.getElem?_eq_getElem hl⟩
  have c0 := hc 0 (.int .i64 x) (by rw [ints_get, hx]; rfl)
  rw [Nat.add_zero] at c0
  have h1 : mx (l.take 1) = x := by rw [List.take_add_one, hx]; rfl
  obtain ⟨r, hR⟩ : ∃ r, r = mx l := ⟨_, rfl⟩
  rw [← hR]
  have H1 := Lib.hid h1
  have HR := Lib.hid hR
  have HC := Lib.hid hc
  have l1 : (0 : Int) < (l.length : Int) := by omega
  have l2 : ¬ ((l.length : Int) < 1) := by omega
  clear h1 hR hc hx h0
  go_enter Tryd.func18, Tryd.ntmps18
  go_wp2
  go_loop [3, 4] (fun m i => ∃ k : Nat, 1 ≤ k ∧ k ≤ l.length ∧ i = .int .i64 k ∧ m = .int .i64 (mx (l.take k))) (fun _ i => l.length - (intOf i).toNat)
  case atStart => exact ⟨1, by omega, by omega, rfl, by rw [H1.out]⟩
  case round =>
    obtain ⟨k, hk1, hk, rfl, rfl⟩ := hrel
    by_cases hlt : k < l.length
    · obtain ⟨n, hn⟩ : ∃ n, l[k]? = some n := ⟨_, List.getElem?_eq_getElem hlt⟩
      have ck := HC.out k (.int .i64 n) (by rw [ints_get, hn]; rfl)
      have hs : mx (l.take (k + 1)) = if mx (l.take k) < n then n else mx (l.take k) := by
        rw [List.take_add_one, hn]
        exact mx_snoc _ _ (List.ne_nil_of_length_pos (by rw [List.length_take]; omega))
      have HS := Lib.hid hs
      clear hs hn
      generalize mx (l.take k) = m at *
      go_wp2
      go_round
      case rel => exact ⟨k + 1, by omega, by omega, by go_num, by rw [HS.out]⟩
      case measure => simp [intOf]; omega
    · have : r = mx (l.take k) := by rw [HR.out, List.take_of_length_le (by omega)]
      subst this
      go_wp2
      go_ret
      exact ⟨rfl, rfl⟩

theorem fall_no (A : Option Addr) (cap : Nat) (l : List Int) (w : World) (hr : Reads w A l.length 1 (ints l)) (hm : l.length ≤ maxLen) (h : chk l ≠ 0) :
    Calls Tryd.prog 11 #[.slice A l.length cap] w fun e w' => e = .returned (.tuple #[.int .i64 0, .iface 37 (.int .i64 (chk l))]) ∧ Below w.heap.size w w' := by
  go_enter Tryd.func11, Tryd.ntmps11
  go_wp2_with (go_at_call 6; refine (check_no A cap l _ hr hm h).mono ?_; rintro e w' ⟨rfl, rfl⟩)
  go_ret2
  exact ⟨rfl, Below.refl _ _⟩

theorem iblk_owned {w : World} {g : Nat} {l : List Int} (h : IBlk w g l) (hm : l.length ≤ maxLen) : w.ownsRow g 3 1 (.slice (some ⟨g, 0, none⟩) l.length l.length) l.length (ints l) :=
  ⟨by simp [ints], .inr ⟨g, l.length, (ints l).toArray, rfl, Nat.le_refl _, h, Nat.le_refl _, hm, by simp [ints], by simp only [Nat.mul_one]; exact List.take_of_length_le (by simp [ints])⟩⟩
/-- what holds at the head of Fall's loops -/
structure FRel (w wr : World) (row : List Int) : Prop where
  blk : IBlk wr w.heap.size row
  below : Below w.heap.size w wr

set_option maxHeartbeats 2000000 in
theorem fall_ok (A : Option Addr) (cap : Nat) (l : List Int) (w : World) (hr : Reads w A l.length 1 (ints l)) (hcap : l.length ≤ cap) (h : chk l = 0) :
    Calls Tryd.prog 11 #[.slice A l.length cap] w fun e w' => e = .returned (.tuple #[.int .i64 (fall l), .nilIface]) ∧ Below w.heap.size w w' := by
  have hlen := (chk_ok h).1
  obtain ⟨i0, hi, hz0, hz1, hz2⟩ := info_parts infoI
  have hmk := fun w => run_make_ints w (l.length : Int) l.length rfl (by omega)
  have hmx := mx_fall l
  obtain ⟨r, hR⟩ : ∃ r, r = fall l := ⟨_, rfl⟩
  rw [← hR] at hmx ⊢
  clear hR
  obtain ⟨F, hF⟩ : ∃ F, F = falls l := ⟨_, rfl⟩
  have hfl := falls_length l
  have hget := fun k n => falls_get (l := l) (k := k) (n := n)
  have hle := falls_le l
  rw [← hF] at hmx hfl hle
  simp only [← hF] at hget
  clear hF
  have HMX := Lib.hid hmx
  have HFL := Lib.hid hfl
  have HG := Lib.hid hget
  have HLE := Lib.hid hle
  have hn := IBlk.new w (List.replicate l.length 0)
  rw [← hfl, ← mrow_zero] at hn
  have HN := Lib.hid hn
  clear hmx hfl hget hle hn
  go_enter Tryd.func11, Tryd.ntmps11
  go_wp2_with (go_at_call 6; refine (check_ok A cap l _ hr h).mono ?_; rintro e w' ⟨rfl, rfl⟩)
  have H := Lib.hid h
  clear h
  go_loopw [20] (fun i wr => ∃ k : Nat, k ≤ l.length ∧ i = .int .i64 k ∧ FRel w wr (mrow F k)) (fun i _ => l.length - (intOf i).toNat)
  case atStart => exact ⟨0, Nat.zero_le _, rfl, ⟨by have := HN.out; rw [mrow_zero, HFL.out] at this ⊢; exact this, bnew _ _⟩⟩
  case round =>
    obtain ⟨k, hk, rfl, hrel⟩ := hrel
    clear hmk
    by_cases hlt : k < l.length
    · obtain ⟨b, o, rfl, hb, hc⟩ := hr.2 (by omega)
      obtain ⟨n, hn⟩ : ∃ n, l[k]? = some n := ⟨_, List.getElem?_eq_getElem hlt⟩
      have hgk := HG.out k n hn
      have hb' := Nat.lt_of_lt_of_le hb hrel.below.size
      have hcw := fun (wq : World) (hbq : Below w.heap.size w wq) (j : Nat) (m : Int) (hm : l[j]? = some m) => (hbq.cell (p := ⟨b, o + j, none⟩) hb).trans (hc j (.int .i64 m) (by rw [ints_get, hm]; rfl))
      have c0 := hcw wr hrel.below k n hn
      have HCW := Lib.hid hcw
      have HGK := Lib.hid hgk
      have hkF : k < F.length := by rw [HFL.out]; exact hlt
      have hstart : FRel w wr ((mrow F k).set k (best n (F.take 0))) := by
        rw [show ((best n (F.take 0) : Nat) : Int) = 0 from rfl, mrow_set0 hkF]
        exact hrel
      have HST := Lib.hid hstart
      have HKF := Lib.hid hkF
      clear hcw hgk hn hc hrel hstart hkF
      have hkc : (k : Int) ≤ (cap : Int) := by omega
      go_wp2
      obtain ⟨wo, rfl⟩ : ∃ wo : World, wo = wr := ⟨_, rfl⟩
      go_loopw [29] (fun i wr => ∃ J : Nat, J ≤ k ∧ i = .int .i64 J ∧ FRel w wr ((mrow F k).set k (best n (F.take J)))) (fun i _ => k - (intOf i).toNat)
      case atStart => exact ⟨0, by omega, rfl, HST.out⟩
      case round =>
        clear HST c0
        obtain ⟨J, hJ, rfl, hrel⟩ := hrel
        have hkl : (mrow F k).length = F.length := mrow_length F (by have := HKF.out; omega)
        by_cases hlj : J < k
        · obtain ⟨m, hm⟩ : ∃ m, l[J]? = some m := ⟨_, List.getElem?_eq_getElem (by omega)⟩
          have cJ := HCW.out wr hrel.below J m hm
          have hgJ := HG.out J m hm
          have hbst : best n (F.take (J + 1)) = if n ≤ m then max (best n (F.take J)) (best m (F.take J) + 1) else best n (F.take J) := by
            rw [List.take_add_one, hgJ]
            exact best_snoc _ _ _
          have hb1 : best n (F.take J) ≤ l.length := best_le fun p hp => HLE.out p (List.mem_of_mem_take hp)
          have hb2 : best m (F.take J) ≤ l.length := best_le fun p hp => HLE.out p (List.mem_of_mem_take hp)
          have d1 := hrel.blk.cell (i := k) (n := (best n (F.take J) : Int)) (by rw [List.getElem?_set_self (by rw [hkl]; exact HKF.out)])
          have d2 := hrel.blk.cell (i := J) (n := ((best m (F.take J) + 1 : Nat) : Int)) (by rw [List.getElem?_set_ne (by omega)]; exact mrow_lt hlj hgJ)
          have fr := hrel.blk.frozen k
          have hset := fun (x : Int) => hrel.blk.set_ k x
          simp only [set_set'] at hset
          have hbel := hrel.below
          have HB := Lib.hid hbst
          have HS := Lib.hid hset
          have HR := Lib.hid hrel
          clear hbst hset hrel hm hgJ hkl
          generalize best n (F.take J) = p at *
          generalize best m (F.take J) + 1 = q at *
          have g0 : (0 : Int) ≤ (k : Int) := by omega
          have g1 : (k : Int) < (l.length : Int) := by omega
          have g2 : (J : Int) < (l.length : Int) := by omega
          by_cases hnm : n ≤ m
          · have hb3 := HB.out
            rw [if_pos hnm] at hb3
            have HB3 := Lib.hid hb3
            clear hb3
            go_wp2
            go_region
            all_goals
              go_wp2
              go_roundw
              case rel =>
                refine ⟨J + 1, by omega, by go_num, ?_, (hbel.drew).setCell (Nat.le_refl _) _⟩
                rw [HB3.out, show ((max p q : Nat) : Int) = if p < q then (q : Int) else (p : Int) by split <;> omega]
                exact HS.out _
              case measure => simp [intOf]; omega
          · have hb3 := HB.out
            rw [if_neg hnm] at hb3
            have HB3 := Lib.hid hb3
            clear hb3
            go_wp2
            go_roundw
            case rel => exact ⟨J + 1, by omega, by go_num, by rw [HB3.out]; exact HR.out⟩
            case measure => simp [intOf]; omega
        · obtain rfl : J = k := by omega
          have c1 := hrel.blk.cell (i := J) (n := (best n (F.take J) : Int)) (by rw [List.getElem?_set_self (by rw [hkl]; exact HKF.out)])
          have fr := hrel.blk.frozen J
          have hset := hrel.blk.set_ J ((best n (F.take J) + 1 : Nat) : Int)
          rw [set_set', mrow_next HGK.out] at hset
          have hb1 : best n (F.take J) ≤ l.length := best_le fun p hp => HLE.out p (List.mem_of_mem_take hp)
          have hbel := hrel.below
          have HS := Lib.hid hset
          clear hset hrel hkl
          generalize best n (F.take J) = p at *
          go_wp2
          go_roundw
          case rel => exact ⟨J + 1, by omega, by go_num, HS.out, hbel.setCell (Nat.le_refl _) _⟩
          case measure => simp [intOf]; omega
    · obtain rfl : k = l.length := by omega
      have hblk := hrel.blk
      have hbel := hrel.below
      rw [← HFL.out, mrow_all] at hblk
      have hown := iblk_owned hblk (by rw [List.length_map, HFL.out]; unfold maxLen; omega)
      rw [List.length_map, HFL.out] at hown
      have HO := Lib.hid hown
      have hmax : ∀ (g2 cap2 : Nat) (w2 : World), w2.ownsRow w.heap.size 3 1 (.slice (some ⟨g2, 0, none⟩) (l.length + 1) cap2) (l.length + 1) (ints (F.map (fun (p : Int × Nat) => (p.2 : Int))) ++ [.int .i64 0]) →
          Calls Tryd.prog 18 #[.slice (some ⟨g2, 0, none⟩) (l.length + 1) cap2] w2 fun e w' => e = .returned (.int .i64 r) ∧ w2 = w' := by
        intro g2 cap2 w2 ho
        have e : ints (F.map (fun (p : Int × Nat) => (p.2 : Int))) ++ [.int .i64 0] = ints (F.map (fun (p : Int × Nat) => (p.2 : Int)) ++ [0]) := by simp [ints]
        rw [e] at ho
        have hlen' : (F.map (fun (p : Int × Nat) => (p.2 : Int)) ++ [0]).length = l.length + 1 := by rw [List.length_append, List.length_map, HFL.out]; rfl
        have := max_any (some ⟨g2, 0, none⟩) cap2 (F.map (fun (p : Int × Nat) => (p.2 : Int)) ++ [0]) w2 (by rw [hlen']; exact Reads.of_own ho) (by simp) (by omega)
        rw [hlen', HMX.out] at this
        exact this
      have hmax2 := Lib.hid hmax
      clear hrel hblk hown hmax
      go_wp2_with (first
        | (at_builtin; go_must (refine append_own _ rfl _ _ 22 rfl w.heap.size 3 i0 _ 1 8 Tryd.underlying22 hi hz0 hz1 hz2 rfl (by decide) _ _ _ rfl (HO.out.alloc _) ⟨wr.heap.size, 0, none⟩ 1 1 [.int .i64 0] rfl rfl (cell_one_new _ _ _) (int_oneCell _) (by unfold maxLen; omega) (by omega) (by have := hbel.size; simp; omega) (by decide) ?_); intro g2 cap2 w2 hown2 hg2 hg2' hgrow2)
        | (go_at_call 18; refine (hmax2.out g2 cap2 w2 hown2).mono ?_; rintro e w3 ⟨rfl, rfl⟩))
      go_ret2
      exact ⟨rfl, Below.grown (bmore hbel (.cells #[.int .i64 0] 3)) hgrow2 (by have := hbel.size; simp; omega) (fun j hj => by cases hj; exact Nat.le_refl _)⟩
end Go.Proofs.YtlchgjlinhakdaaDoor.Rs
