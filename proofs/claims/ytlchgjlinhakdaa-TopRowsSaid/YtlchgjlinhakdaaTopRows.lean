/-
  The walk of the law TopRows: for every two numbers and every list; no condition.
-/
import Derived.Test.YtlchgjlinhakdaaDyWalk
namespace Go.Proofs.Ytlchgjlinhakdaa.topRows
open Go.RowKit Rs Dy
set_option linter.unusedVariables false
theorem topin_any (n lo hi : Int) (w : World) : Calls Try.prog 17 #[.int .i64 n, .int .i64 lo, .int .i64 hi] w fun e w' => e = .returned (.bool (decide (lo ≤ n ∧ n ≤ hi))) ∧ w = w' := by
  by_cases h1 : lo ≤ n <;> by_cases h2 : n ≤ hi
  all_goals
    go_enter Try.func17, Try.ntmps17
    go_wp2
    go_ret
    exact ⟨by simp [h1, h2], rfl⟩
theorem topin_yes {n lo hi : Int} (h1 : lo ≤ n) (h2 : n ≤ hi) (w : World) : Calls Try.prog 17 #[.int .i64 n, .int .i64 lo, .int .i64 hi] w fun e w' => e = .returned (.bool true) ∧ w = w' := by
  have := topin_any n lo hi w
  rwa [decide_eq_true ⟨h1, h2⟩] at this
theorem at_one (w : World) : Calls Try.prog 15 #[.int .i64 1, .int .i64 0] w fun e w' => e = .returned (.tuple #[.string ⟨#[40, 41]⟩, .nilIface]) ∧ w = w' := by
  have h := at_ok 1 0 w (by omega) (by decide)
  have e : gen (2 * 1) 0 0 = [40, 41] := by decide
  rw [e] at h
  exact h
theorem chk_deep (L : List UInt8) (hL : L.length ≤ 16) (hb : Bal 0 L) : chk (deep 0 L) = 0 := by
  unfold chk
  rw [if_neg (by rw [deep_length]; omega), if_pos]
  rw [List.all_eq_true]
  intro x hx
  obtain ⟨k, hk⟩ := List.getElem?_of_mem hx
  have hkl : k < L.length := by
    have := (List.getElem?_eq_some_iff.1 hk).1
    rwa [deep_length] at this
  have := deep_at L 0 k L[k] (List.getElem?_eq_getElem hkl)
  rw [hk] at this
  have e := Option.some.inj this.1
  have hb2 := bal_opn L 0 (k + 1) (Int.le_refl _) hb (by omega)
  rw [e]
  exact decide_eq_true (by omega)
set_option maxHeartbeats 4000000 in
theorem walk_ok (w : World) (m p : Nat) (hm : m ≤ 8) (hp : p < W (2 * m) 0) (A : Option Addr) (cap : Nat) (l : List Int) (hlm : l.length ≤ maxLen) (hr : Reads w A l.length 1 (ints l)) :
    Calls Try.prog 7 #[.int .i64 m, .int .i64 p, .slice A l.length cap] w fun e w' => e = .returned (.bool true) ∧ Below w.heap.size w w' := by
  obtain ⟨i0, hi, hz0, hz1, hz2⟩ := info_parts infoI
  have hat := fun w => at_ok m p w hm hp
  have hbal := bal_gen (2 * m) 0 p hp
  have hgl := gen_length (2 * m) 0 p
  generalize gen (2 * m) 0 p = L at *
  obtain ⟨N, hN⟩ : ∃ N, N = 2 * m := ⟨_, rfl⟩
  rw [← hN] at hgl
  have hN16 : N ≤ 16 := by omega
  obtain ⟨B, hB⟩ : ∃ B : ByteArray, B = ⟨L.toArray⟩ := ⟨_, rfl⟩
  have hBs : B.size = N := by
    rw [hB]
    show L.toArray.size = N
    simpa using hgl
  have hBl : B.data.toList = L := by rw [hB]
  have hck := fun w => check_ok B w (by omega) (by rw [hBl]; exact hbal)
  have hget : ∀ k (hk : k < N), ∃ c, L[k]? = some c ∧ ∀ w, (Instr.index 9 (.string B) (.int .i64 (k : Int))).run Try.prog w = .ok (.int .u8 (c.toNat : Int)) w := by
    intro k hk
    refine ⟨L[k]'(by omega), List.getElem?_eq_getElem (by omega), fun w => index_at B k _ (by omega) ?_ w⟩
    subst hB
    rfl
  unfold strV at hat
  rw [← hB] at hat
  have hdl := deep_length L 0
  rw [hgl] at hdl
  have hdat := fun k c h => deep_at L 0 k c h
  have hopn := fun k h => bal_opn L 0 k (Int.le_refl _) hbal h
  rw [hgl] at hopn
  have hchk := chk_deep L (by omega) hbal
  have hris := deep_rises L hbal
  have hK16 := piles_le (deep 0 L)
  rw [hdl] at hK16
  have HAT := Lib.hid hat; have HCK := Lib.hid hck; have HGET := Lib.hid hget; have HDAT := Lib.hid hdat; have HOPN := Lib.hid hopn
  clear hat hck hget hdat hopn hbal hB hBl hp
  generalize deep 0 L = D at *
  have hlong := fun A' c' w' hr' => long_ok A' c' D w' hr' hchk
  rw [hdl] at hlong
  obtain ⟨K, hK⟩ : ∃ K, K = (piles D).length := ⟨_, rfl⟩
  obtain ⟨M, hM⟩ : ∃ M, M = mxI D := ⟨_, rfl⟩
  have hM0 := (mxI_spec D).1
  rw [← hM, ← hK] at hris
  rw [← hM] at hM0
  rw [← hK] at hK16
  simp only [← hK] at hlong
  obtain ⟨r1, r2⟩ := hris
  have HMM := Lib.hid hM
  clear hK hM
  have HLONG := Lib.hid hlong
  have HDL := Lib.hid hdl
  clear hlong hchk hdl
  have hmul : IntKind.i64.wrap (2 * (m : Int)) = (N : Int) := by rw [IntWalk.i64_in _ (by omega)]; omega
  have hmul2 : 2 * (m : Int) = (N : Int) := by omega
  have HN := Lib.hid hN
  clear hN
  have hr1 := Lib.hid (fun w' (hb : Below w.heap.size w w') => hr.below hb)
  by_cases hc : chk l = 0
  case' pos =>
    have F1 := Lib.hid (fun w' (hb : Below w.heap.size w w') => long_ok A cap l w' (hr.below hb) hc)
    have F2 := Lib.hid (fun w' (hb : Below w.heap.size w w') => piles_ok A cap l w' (hr.below hb) hc)
    clear hr hc
    generalize piles l = P at *
    go_enter Try.func7, Try.ntmps7
    go_wp2_with fail
    refine (HAT.out _).mono ?_
    rintro e w1 ⟨rfl, rfl⟩
    go_wp2_with fail
    refine (at_one _).mono ?_
    rintro e w1 ⟨rfl, rfl⟩
    go_wp2_with fail
    refine (F1.out _ (Below.refl _ _)).mono ?_
    rintro e w2 ⟨rfl, hb2⟩
    go_wp2_with fail
    refine (F2.out _ hb2).mono ?_
    rintro e w3 ⟨v3, rfl, ho3, hb⟩
    obtain ⟨A3, c3, e⟩ := own_slice ho3
    subst e
    have hb4 := bnext hb2 hb
    clear ho3 hb hb2
  case' neg =>
    have F1 := Lib.hid (fun w' (hb : Below w.heap.size w w') => long_no A cap l w' (hr.below hb) hlm hc)
    clear hr
    generalize chk l = K at *
    clear hc
    go_enter Try.func7, Try.ntmps7
    go_wp2_with fail
    refine (HAT.out _).mono ?_
    rintro e w1 ⟨rfl, rfl⟩
    go_wp2_with fail
    refine (at_one _).mono ?_
    rintro e w1 ⟨rfl, rfl⟩
    go_wp2_with fail
    refine (F1.out _ (Below.refl _ _)).mono ?_
    rintro e w2 ⟨rfl, hb4⟩
  all_goals
    go_wp2_with fail
    refine (HCK.out _).mono ?_
    rintro e w5 ⟨rfl, hb⟩
    have hb5 := bnext hb4 hb
    clear hb hb4
    go_wp2
    go_loopw [15, 16, 17, 18] (fun v op mo i wr => ∃ (k : Nat) (v0 : Value), k ≤ N ∧ i = .int .i64 k ∧ v0 = v ∧ op = .int .i64 (opn 0 L k) ∧ mo = .int .i64 (mxI (D.take k)) ∧ wr.ownsRow w5.heap.size 3 1 v0 k (ints (D.take k)) ∧ Below w5.heap.size w5 wr) (fun _ _ _ i _ => N - (intOf i).toNat)
    case atStart => exact ⟨0, _, Nat.zero_le _, rfl, rfl, rfl, rfl, World.ownsRow_nil _ _ _ _, Below.refl _ _⟩
    case round =>
      obtain ⟨k, v, hk, rfl, rfl, rfl, rfl, hown, hbel⟩ := hrel
      have hsz := hbel.size
      by_cases hlt : k < N
      · obtain ⟨c, hc, q1⟩ := HGET.out k hlt
        obtain ⟨hd1, hd2⟩ := HDAT.out k c hc
        have ho0 := HOPN.out k (by omega)
        have ho1 := HOPN.out (k + 1) (by omega)
        have htk : D.take (k + 1) = D.take k ++ [opn 0 L (k + 1)] := by rw [List.take_add_one, hd1]; rfl
        have hmx : mxI (D.take (k + 1)) = if mxI (D.take k) < opn 0 L (k + 1) then opn 0 L (k + 1) else mxI (D.take k) := by rw [htk, mxI_snoc]
        have hints : ints (D.take (k + 1)) = ints (D.take k) ++ [.int .i64 (opn 0 L (k + 1))] := by rw [htk]; simp [ints]
        have HM := Lib.hid hmx; have HI := Lib.hid hints; have HD := Lib.hid hd2
        clear hc hd1 hd2 htk hmx hints
        obtain ⟨y, hyy⟩ : ∃ y, opn 0 L (k + 1) = y := ⟨_, rfl⟩
        rw [hyy] at HM HI HD ho1
        have HY := Lib.hid hyy
        clear hyy
        generalize opn 0 L k = x at *
        generalize mxI (D.take k) = T at *
        have hy0 : 0 ≤ y ∧ y ≤ 1000 := by omega
        by_cases hc40 : c = 40
        · have hy := HD.out
          rw [if_pos hc40] at hy
          have heq : ((c.toNat : Int) == 40) = true := by rw [hc40]; rfl
          subst hy
          clear hc40
          by_cases hMy : T < x + 1
          · have hm2 := HM.out
            rw [if_pos hMy] at hm2
            have HM2 := Lib.hid hm2
            clear hm2
            go_wp2_with (first
              | (go_at_call 17; refine (topin_yes (by omega) (by omega) _).mono ?_; rintro e w' ⟨rfl, rfl⟩)
              | (at_builtin; go_must (refine append_own _ rfl _ _ 22 rfl w5.heap.size 3 i0 _ 1 8 Try.underlying22 hi hz0 hz1 hz2 rfl (by decide) _ _ _ rfl (hown.alloc _) ⟨wr.heap.size, 0, none⟩ 1 1 [.int .i64 (x + 1)] rfl rfl (cell_one_new _ _ _) (int_oneCell _) (by unfold maxLen; omega) (by omega) (by simp; omega) (by decide) ?_); intro g2 cap2 w2 hown2 hg2 hg2' hgrow2))
            exact ⟨⟨k + 1, _, by omega, by go_num, rfl, by rw [HY.out], by rw [HM2.out], by rw [HI.out]; exact hown2, (hbel.alloc hsz _).grown hgrow2 (by simp; omega) (fun j hj => (hown.lt j hj).1)⟩, by simp [intOf]; omega⟩
          · have hm2 := HM.out
            rw [if_neg hMy] at hm2
            have HM2 := Lib.hid hm2
            clear hm2
            go_wp2_with (first
              | (go_at_call 17; refine (topin_yes (by omega) (by omega) _).mono ?_; rintro e w' ⟨rfl, rfl⟩)
              | (at_builtin; go_must (refine append_own _ rfl _ _ 22 rfl w5.heap.size 3 i0 _ 1 8 Try.underlying22 hi hz0 hz1 hz2 rfl (by decide) _ _ _ rfl (hown.alloc _) ⟨wr.heap.size, 0, none⟩ 1 1 [.int .i64 (x + 1)] rfl rfl (cell_one_new _ _ _) (int_oneCell _) (by unfold maxLen; omega) (by omega) (by simp; omega) (by decide) ?_); intro g2 cap2 w2 hown2 hg2 hg2' hgrow2))
            exact ⟨⟨k + 1, _, by omega, by go_num, rfl, by rw [HY.out], by rw [HM2.out], by rw [HI.out]; exact hown2, (hbel.alloc hsz _).grown hgrow2 (by simp; omega) (fun j hj => (hown.lt j hj).1)⟩, by simp [intOf]; omega⟩
        · have hy := HD.out
          rw [if_neg hc40] at hy
          have heq : ((c.toNat : Int) == 40) = false := by
            have : ¬ c.toNat = 40 := fun h => hc40 (UInt8.toNat_inj.1 h)
            rw [beq_eq_false_iff_ne]; omega
          subst hy
          clear hc40
          by_cases hMy : T < x - 1
          · have hm2 := HM.out
            rw [if_pos hMy] at hm2
            have HM2 := Lib.hid hm2
            clear hm2
            go_wp2_with (first
              | (go_at_call 17; refine (topin_yes (by omega) (by omega) _).mono ?_; rintro e w' ⟨rfl, rfl⟩)
              | (at_builtin; go_must (refine append_own _ rfl _ _ 22 rfl w5.heap.size 3 i0 _ 1 8 Try.underlying22 hi hz0 hz1 hz2 rfl (by decide) _ _ _ rfl (hown.alloc _) ⟨wr.heap.size, 0, none⟩ 1 1 [.int .i64 (x - 1)] rfl rfl (cell_one_new _ _ _) (int_oneCell _) (by unfold maxLen; omega) (by omega) (by simp; omega) (by decide) ?_); intro g2 cap2 w2 hown2 hg2 hg2' hgrow2))
            exact ⟨⟨k + 1, _, by omega, by go_num, rfl, by rw [HY.out], by rw [HM2.out], by rw [HI.out]; exact hown2, (hbel.alloc hsz _).grown hgrow2 (by simp; omega) (fun j hj => (hown.lt j hj).1)⟩, by simp [intOf]; omega⟩
          · have hm2 := HM.out
            rw [if_neg hMy] at hm2
            have HM2 := Lib.hid hm2
            clear hm2
            go_wp2_with (first
              | (go_at_call 17; refine (topin_yes (by omega) (by omega) _).mono ?_; rintro e w' ⟨rfl, rfl⟩)
              | (at_builtin; go_must (refine append_own _ rfl _ _ 22 rfl w5.heap.size 3 i0 _ 1 8 Try.underlying22 hi hz0 hz1 hz2 rfl (by decide) _ _ _ rfl (hown.alloc _) ⟨wr.heap.size, 0, none⟩ 1 1 [.int .i64 (x - 1)] rfl rfl (cell_one_new _ _ _) (int_oneCell _) (by unfold maxLen; omega) (by omega) (by simp; omega) (by decide) ?_); intro g2 cap2 w2 hown2 hg2 hg2' hgrow2))
            exact ⟨⟨k + 1, _, by omega, by go_num, rfl, by rw [HY.out], by rw [HM2.out], by rw [HI.out]; exact hown2, (hbel.alloc hsz _).grown hgrow2 (by simp; omega) (fun j hj => (hown.lt j hj).1)⟩, by simp [intOf]; omega⟩
      · obtain rfl : k = N := by omega
        have e1 : D.take k = D := List.take_of_length_le (by rw [HDL.out]; exact Nat.le_refl _)
        have e2 : mxI (D.take k) = M := by rw [e1, HMM.out]
        rw [e1] at hown
        rw [e2]
        obtain ⟨A', cap', e⟩ := own_slice hown
        subst e
        have HL := Lib.hid (HLONG.out A' cap' _ (Reads.of_own hown))
        clear e1 e2 hown
        go_wp2_with fail
        refine HL.out.mono ?_
        rintro e w9 ⟨rfl, hb⟩
        go_wp2
        go_ret
        exact ⟨by first | rfl | exact ret_bool (by simp; omega), bnext hb5 (bnext hbel hb)⟩
theorem walk (w : World) (n : Int) (hn : -9223372036854775808 ≤ n ∧ n ≤ 9223372036854775807) (p : Int) (hp : -9223372036854775808 ≤ p ∧ p ≤ 9223372036854775807) (A : Option Addr) (cap : Nat) (l : List Int) (hs : l.length * 8 ≤ 140737488351232) (hrg : ∀ n ∈ l, -9223372036854775808 ≤ n ∧ n ≤ 9223372036854775807) (hi : Reads w A l.length 1 (l.map (Value.int .i64)) ∧ l.length ≤ cap) :
    Calls Try.prog 7 #[.int .i64 n, .int .i64 p, .slice A l.length cap] w fun e w' => e = .returned (.bool true) ∧ Below w.heap.size w w' := by
  obtain ⟨hr, hcap⟩ := hi
  have hlm : l.length ≤ maxLen := by unfold maxLen; omega
  by_cases h : 0 ≤ n ∧ n ≤ 8 ∧ 0 ≤ p ∧ p ≤ (W (2 * n.toNat) 0 : Nat) - 1
  · obtain ⟨m, rfl⟩ := Int.eq_ofNat_of_zero_le h.1
    obtain ⟨q, rfl⟩ := Int.eq_ofNat_of_zero_le h.2.2.1
    rw [Int.toNat_natCast] at h
    exact walk_ok w m q (by omega) (by omega) A cap l hlm hr
  · have HAT := Lib.hid (fun w => at_no n p w h)
    clear h hn hp hrg
    by_cases hc : chk l = 0
    · have F1 := Lib.hid (fun w' (hb : Below w.heap.size w w') => long_ok A cap l w' (hr.below hb) hc)
      have F2 := Lib.hid (fun w' (hb : Below w.heap.size w w') => piles_ok A cap l w' (hr.below hb) hc)
      clear hr hc
      generalize piles l = P at *
      go_enter Try.func7, Try.ntmps7
      go_wp2_with fail
      refine (HAT.out _).mono ?_
      rintro e w1 ⟨rfl, rfl⟩
      go_wp2_with fail
      refine (at_one _).mono ?_
      rintro e w1 ⟨rfl, rfl⟩
      go_wp2_with fail
      refine (F1.out _ (Below.refl _ _)).mono ?_
      rintro e w2 ⟨rfl, hb2⟩
      go_wp2_with fail
      refine (F2.out _ hb2).mono ?_
      rintro e w3 ⟨v3, rfl, ho3, hb⟩
      obtain ⟨A3, c3, e⟩ := own_slice ho3
      subst e
      go_wp2
      go_ret
      exact ⟨rfl, bnext hb2 hb⟩
    · have F1 := Lib.hid (fun w' (hb : Below w.heap.size w w') => long_no A cap l w' (hr.below hb) hlm hc)
      clear hr
      generalize chk l = K at *
      clear hc
      go_enter Try.func7, Try.ntmps7
      go_wp2_with fail
      refine (HAT.out _).mono ?_
      rintro e w1 ⟨rfl, rfl⟩
      go_wp2_with fail
      refine (at_one _).mono ?_
      rintro e w1 ⟨rfl, rfl⟩
      go_wp2_with fail
      refine (F1.out _ (Below.refl _ _)).mono ?_
      rintro e w2 ⟨rfl, hb4⟩
      go_wp2
      go_ret
      exact ⟨rfl, hb4⟩
end Go.Proofs.Ytlchgjlinhakdaa.topRows
