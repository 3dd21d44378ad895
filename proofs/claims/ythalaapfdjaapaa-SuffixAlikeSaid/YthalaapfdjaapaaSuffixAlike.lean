/-
  The walk of the law SuffixAlike, for every text; no condition.
-/
import Derived.Test.YthalaapfdjaapaaSuffixOrder
import Derived.StillTailTactics
namespace Go.Proofs.Ythalaapfdjaapaa.suffixAlike
open Go.RowKit
set_option linter.unusedVariables false
set_option linter.unusedSimpArgs false

set_option maxHeartbeats 1000000 in
set_option maxRecDepth 100000 in
theorem walk_no (w : World) (s : ByteArray) (hs : 24 < s.size) :
    Calls Try.prog 4 #[.string s] w fun e w' => e = .returned (.bool true) ∧ Below w.heap.size w w' := by
  have HF := Lib.hid sfact_any
  have HN := Lib.hid (fun (W : World) => order_no s W hs)
  have HA := Lib.hid (fun (W : World) => alike_no s W hs)
  go_enter Try.func4, Try.ntmps4
  go_wp2_with fail
  refine (HF.out _).mono ?_
  rintro e w1 ⟨rfl, hb1⟩
  go_wp2_with fail
  refine (HN.out _).mono ?_
  rintro e w2 ⟨rfl, hb2⟩
  go_wp2_with fail
  refine (HA.out _).mono ?_
  rintro e w3 ⟨rfl, hb3⟩
  go_wp2_with fail
  go_ret
  exact ⟨rfl, bnext hb1 (bnext hb2 hb3)⟩

set_option maxHeartbeats 1000000 in
set_option maxRecDepth 100000 in
theorem walk_nil (w : World) (s : ByteArray) (hs : s.size = 0) :
    Calls Try.prog 4 #[.string s] w fun e w' => e = .returned (.bool true) ∧ Below w.heap.size w w' := by
  have HF := Lib.hid sfact_any
  have HN := Lib.hid (fun (W : World) => order_all s W (by omega))
  have HA := Lib.hid (fun (W : World) => alike_any s W (by omega))
  rw [hs] at HN HA
  have hmk := fun W => run_make_ints W 1 1 rfl (by omega)
  go_enter Try.func4, Try.ntmps4
  go_wp2_with fail
  refine (HF.out _).mono ?_
  rintro e w1 ⟨rfl, hb1⟩
  go_wp2_with fail
  refine (HN.out _).mono ?_
  rintro e w2 ⟨A, c, rfl, hr2, hb2⟩
  go_wp2_with fail
  refine (HA.out _).mono ?_
  rintro e w3 ⟨B, d, rfl, hr3, hb3⟩
  go_wp2_with fail
  refine wp_loop_rounds 1 ?_
  rw [rounds_succ]
  go_wp2_with fail
  refine wp_loop_rounds 1 ?_
  rw [rounds_succ]
  go_wp2_with fail
  go_ret
  exact ⟨rfl, bnext hb1 (bnext hb2 (bnext hb3 (bnew _ _)))⟩

set_option maxHeartbeats 1000000 in
set_option maxRecDepth 100000 in
theorem walk_ok (w : World) (s : ByteArray) (hs : s.size ≤ 24) (h0 : 0 < s.size) :
    Calls Try.prog 4 #[.string s] w fun e w' => e = .returned (.bool true) ∧ Below w.heap.size w w' := by
  have HF := Lib.hid sfact_any
  obtain ⟨l, hl⟩ : ∃ l, l = s.data.toList := ⟨_, rfl⟩
  have hln : l.length = s.size := by rw [hl]; simp
  have hO := ordOf_is l
  have HN := Lib.hid (fun (W : World) => order_all s W hs)
  have HA := Lib.hid (fun (W : World) => alike_any s W hs)
  rw [← hl] at HN HA
  have hag := alikeOf_get l
  obtain ⟨al, hal⟩ : ∃ al, al = alikeOf l := ⟨_, rfl⟩
  obtain ⟨o, ho⟩ : ∃ o, o = ordOf l := ⟨_, rfl⟩
  obtain ⟨n1, hn1⟩ : ∃ n1, n1 = s.size - 1 := ⟨_, rfl⟩
  rw [← ho] at HN hO hag
  rw [← hal] at HA hag
  rw [← hn1] at HA
  have hol : o.length = s.size := by rw [hO.length, hln]
  have hmk := fun W => run_make_ints W ((s.size : Int) + 1) (s.size + 1) (by omega) (by omega)
  have kn : ((n1 : Int) != (s.size : Int) - 1) = false := by rw [bne_eq_false_iff_eq]; omega
  have HN1 := Lib.hid hn1
  have e5 : IntKind.i64.wrap ((s.size : Int) - 1) = (s.size : Int) - 1 := IntWalk.i64_in _ (by omega)
  clear ho hal hn1 hl
  go_enter Try.func4, Try.ntmps4
  go_wp2_with fail
  refine (HF.out _).mono ?_
  rintro e w1 ⟨rfl, hb1⟩
  go_wp2_with fail
  refine (HN.out _).mono ?_
  rintro e w2 ⟨A, c, rfl, hr2, hb2⟩
  go_wp2_with fail
  refine (HA.out _).mono ?_
  rintro e w3 ⟨B, d, rfl, hr3, hb3⟩
  have hr2 := hr2.below hb3
  have HB := Lib.hid (bnext hb1 (bnext hb2 hb3))
  clear HF HN HA hb1 hb2 hb3
  go_wp2_with fail
  have hb0 : Below w3.heap.size w3 (w3.alloc (.cells (ints (List.replicate (s.size + 1) 0)).toArray 3)) := (Below.refl _ _).alloc (Nat.le_refl _) _
  have hn0 := IBlk.new w3 (List.replicate (s.size + 1) 0)
  go_loopw [9, 71, 72, 73, 74, 75, 76, 77, 78, 79, 80, 81, 82, 83, 84, 85, 86, 87, 88, 89, 90, 91, 92, 93, 94, 95, 96, 97, 98, 99, 100, 101, 102, 103, 104, 105, 106, 107, 108, 109, 110, 111, 112, 113, 114] (fun v _ _ _ _ _ _ _ _ _ _ _ _ _ _ _ _ _ _ _ _ _ _ _ _ _ _ _ _ _ _ _ _ _ _ _ _ _ _ _ _ _ _ _ _ wr => ∃ (t : Nat) (fa : List Int), v = .int .i64 (t : Int) ∧ 1 ≤ t ∧ t ≤ s.size ∧ Below w3.heap.size w3 wr ∧ IBlk wr w3.heap.size fa ∧ fa.length = s.size + 1 ∧ ∀ p i, p < t → o[p]? = some i → fa[i]? = some (far l o p : Int)) (fun v _ _ _ _ _ _ _ _ _ _ _ _ _ _ _ _ _ _ _ _ _ _ _ _ _ _ _ _ _ _ _ _ _ _ _ _ _ _ _ _ _ _ _ _ _ => s.size - (intOf v).toNat)
  case atStart => exact ⟨1, _, rfl, by omega, by omega, hb0, hn0, by simp, fun p i hp hi => by
    obtain rfl : p = 0 := by omega
    rw [List.getElem?_replicate, if_pos (by have := hO.lt hi; omega)]; rfl⟩
  case round =>
    obtain ⟨t, fa, rfl, ht1, htn, hb, hn, hfl, hfa⟩ := hrel
    clear hb0 hn0 hmk
    by_cases hlt : t < s.size
    · have kk : (t : Int) < (s.size : Int) := by omega
      have e1 : IntKind.i64.wrap ((t : Int) + 1) = (t : Int) + 1 := IntWalk.i64_in _ (by omega)
      obtain ⟨b, of, rfl, hbl, hc⟩ := (hr2.below hb).2 (by omega)
      obtain ⟨b2, of2, rfl, hbl2, hc2⟩ := (hr3.below hb).2 (by have := HN1.out; omega)
      obtain ⟨i, hi⟩ : ∃ i, o[t]? = some i := ⟨_, List.getElem?_eq_getElem (by omega)⟩
      obtain ⟨p, hp⟩ : ∃ p, p = t - 1 := ⟨_, rfl⟩
      have htp : p + 1 = t := by omega
      have hfp := hag p (by omega)
      rw [htp] at hfp
      have hff := far_last hO hi
      obtain ⟨f, hf⟩ : ∃ f, f = far l o t := ⟨_, rfl⟩
      rw [← hf] at hfp hff
      have c0 := hc t (.int .i64 (i : Int)) (by rw [ints_get, natsI_get, hi]; rfl)
      have c2 := hc2 p (.int .i64 (f : Int)) (by rw [ints_get, natsI_get, hfp]; rfl)
      have hin := hO.lt hi
      have e2 : (t : Int) - 1 = (p : Int) := by omega
      have e3 : IntKind.i64.wrap ((t : Int) - 1) = (p : Int) := by rw [e2]; exact IntWalk.i64_in _ (by omega)
      have k2 : (p : Int) < (n1 : Int) := by have := HN1.out; omega
      have ki : (i : Int) < (s.size : Int) := by omega
      have ki2 : (i : Int) < ((s.size + 1 : Nat) : Int) := by omega
      have ki3 : (i : Int) < (s.size : Int) + 1 := by omega
      obtain ⟨x, hx⟩ : ∃ x, fa[i]? = some x := ⟨_, List.getElem?_eq_getElem (by omega)⟩
      have c3 := hn.cell hx
      have f3 := hn.frozen i
      have HI := Lib.hid (fun W => in_yes (n := (i : Int)) (lo := 0) (hi := (s.size : Int) - 1) (by omega) (by omega) W)
      have HJ := Lib.hid (fun W => in_yes (n := (f : Int)) (lo := 0) (hi := (s.size : Int) - 1 - (i : Int) + 1) (by omega) (by omega) W)
      have e6 : IntKind.i64.wrap ((s.size : Int) - 1 - (i : Int)) = (s.size : Int) - 1 - (i : Int) := IntWalk.i64_in _ (by omega)
      have e7 : IntKind.i64.wrap ((s.size : Int) - 1 - (i : Int) + 1) = (s.size : Int) - 1 - (i : Int) + 1 := IntWalk.i64_in _ (by omega)
      have HO := Lib.hid hO; have HP := Lib.hid htp; have HE := Lib.hid hf; have HFA := Lib.hid hfa; have HIT := Lib.hid hi
      clear hO hag hc hc2 hi hp htp hfp hff hf hx hfa
      go_wp2
      go_quiet (first
        | (go_at_call_has 11 (Value.int .i64 (i : Int)); refine Calls.quiet_of_same (HI.out _))
        | (go_at_call_has 11 (Value.int .i64 (f : Int)); refine Calls.quiet_of_same (HJ.out _)))
      have HW := Lib.hid (show Below w3.heap.size w3 ((wr.drewN nq).setCell ⟨w3.heap.size, i, none⟩ (.int .i64 (f : Int))).drew from ((bdrew hb nq).setCell (p := ⟨w3.heap.size, i, none⟩) (Nat.le_refl _) _).drew)
      have HNN := Lib.hid (show IBlk ((wr.drewN nq).setCell ⟨w3.heap.size, i, none⟩ (.int .i64 (f : Int))).drew w3.heap.size (fa.set i (f : Int)) from (IBlk.drewN hn nq).set_ i (f : Int))
      have d0 : (wr.drewN nq).cell? ⟨b, of + t, none⟩ = some (.int .i64 (i : Int)) := c0
      have d2 : (wr.drewN nq).cell? ⟨b2, of2 + p, none⟩ = some (.int .i64 (f : Int)) := c2
      have d3 : (wr.drewN nq).cell? ⟨w3.heap.size, i, none⟩ = some (.int .i64 x) := c3
      have g3 : (wr.drewN nq).frozen? ⟨w3.heap.size, i, none⟩ = false := f3
      clear hb hn c0 c2 c3 f3
      generalize wr.drewN nq = W5 at HW HNN d0 d2 d3 g3 ⊢
      clear e2
      go_wp2
      go_still_tail 11, (by kernel_rfl)
      go_wp2
      go_roundw
      case rel =>
        refine ⟨t + 1, _, by simp, by omega, by omega, HW.out, HNN.out, by simp [hfl], ?_⟩
        intro q j hq hj
        by_cases hqt : q = t
        · subst hqt
          rw [HIT.out] at hj
          cases hj
          rw [List.getElem?_set_self (by omega), HE.out]
        · have hij : i ≠ j := by
            rintro rfl
            exact hqt (HO.out.inj hj HIT.out)
          rw [List.getElem?_set_ne hij]
          exact HFA.out q j (by omega) hj
      case measure => simp [intOf]; omega
    · obtain rfl : t = s.size := by omega
      have kk : ¬ (s.size : Int) < (s.size : Int) := by omega
      obtain ⟨wo, hwo⟩ : ∃ wo, wo = wr := ⟨_, rfl⟩
      rw [← hwo] at hb hn
      subst hwo
      go_wp2_with fail
      go_loopw [10, 115, 116, 117, 118, 119, 120, 121, 122, 123, 124, 125, 126, 127, 128, 129, 130, 131, 132] (fun v _ _ _ _ _ _ _ _ _ _ _ _ _ _ _ _ _ _ wx => ∃ i : Nat, v = .int .i64 (i : Int) ∧ i < s.size ∧ ∃ q, wx = wo.drewN q) (fun v _ _ _ _ _ _ _ _ _ _ _ _ _ _ _ _ _ _ _ => s.size - (intOf v).toNat)
      case atStart => exact ⟨0, rfl, by omega, 0, rfl⟩
      case round =>
        obtain ⟨i, rfl, hin, q, hq⟩ := hrel
        have hb' : Below w3.heap.size w3 wr := by rw [hq]; exact bdrew hb q
        have hn' : IBlk wr w3.heap.size fa := by rw [hq]; exact IBlk.drewN hn q
        have HQ := Lib.hid hq
        clear hq
        have e1 : IntKind.i64.wrap ((i : Int) + 1) = (i : Int) + 1 := IntWalk.i64_in _ (by omega)
        by_cases hlt2 : i + 1 < s.size
        · have k1 : (i : Int) + 1 < (s.size : Int) := by omega
          obtain ⟨p, _, hp⟩ := hO.place (by omega : i < l.length)
          obtain ⟨r, _, hr⟩ := hO.place (by omega : i + 1 < l.length)
          have hka := kasai hO hp hr
          have c0 := hn'.cell (hfa p i (by have := (List.getElem?_eq_some_iff.1 hp).1; omega) hp)
          have c1 := hn'.cell (hfa r (i + 1) (by have := (List.getElem?_eq_some_iff.1 hr).1; omega) hr)
          have hf1 := far_last hO hp
          have hf2 := far_last hO hr
          generalize far l o p = fp at *
          generalize far l o r = fr at *
          obtain ⟨i2, hi2⟩ : ∃ i2, i2 = i + 1 := ⟨_, rfl⟩
          have e8 : (i : Int) + 1 = (i2 : Int) := by omega
          rw [← hi2] at c1
          have e9 : IntKind.i64.wrap ((fp : Int) - 1) = (fp : Int) - 1 := IntWalk.i64_in _ (by omega)
          have k5 : (i2 : Int) < (s.size : Int) := by omega
          have k6 : (i2 : Int) < ((s.size + 1 : Nat) : Int) := by omega
          have k7 : ¬ ((fr : Int) < (fp : Int) - 1) := by omega
          have HI2 := Lib.hid hi2
          clear hO hfa hp hr hi2 hag
          go_wp2
          go_quiet (fail)
          go_wp2
          go_roundw
          case rel => exact ⟨i + 1, by simp [HI2.out], by omega, q + nq, by rw [HQ.out, World.drewN_drewN]⟩
          case measure => simp [intOf]; omega
        · have k1 : ¬ (i : Int) + 1 < (s.size : Int) := by omega
          clear hO hfa hag
          go_wp2
          go_ret
          exact ⟨rfl, bnext HB.out hb'⟩
theorem walk (w : World) (s : ByteArray) (s0 : s.size ≤ 140737488351232) :
    Calls Try.prog 4 #[.string s] w fun e w' => e = .returned (.bool true) ∧ Below w.heap.size w w' := by
  by_cases hs : s.size ≤ 24
  · by_cases h0 : 0 < s.size
    · exact walk_ok w s hs h0
    · exact walk_nil w s (by omega)
  · exact walk_no w s (by omega)
end Go.Proofs.Ythalaapfdjaapaa.suffixAlike
