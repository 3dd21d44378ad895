/-
  The walk of the law SuffixTwice, for every text and all numbers; no condition.
-/
import Derived.Test.YthalaapfdjaapaaSuffixOrder
import Derived.Test.YthalaapfdjaapaaSfTw
import Derived.Test.YthalaapfdjaapaaStd
namespace Go.Proofs.Ythalaapfdjaapaa.suffixTwice
open Go.RowKit
set_option linter.unusedVariables false
set_option linter.unusedSimpArgs false

theorem bs_sub (s : ByteArray) (a k : Nat) : bs (s.extract a (a + k)) = ((bs s).drop a).take k := by
  show (s.extract a (a + k)).data.toList = (s.data.toList.drop a).take k
  rw [Lib.extract_data, Nat.add_sub_cancel_left]
theorem places_times (l t : List UInt8) : (places l t).length = times l t := by simp [places, placesTo, times]
def anyTw (l : List UInt8) (M j : Nat) : Bool := (List.range j).any fun i => decide (2 ≤ times l ((l.drop i).take M))
theorem anyTw_succ (l : List UInt8) (M j : Nat) : anyTw l M (j + 1) = (anyTw l M j || decide (2 ≤ times l ((l.drop j).take M))) := by
  unfold anyTw
  rw [List.range_succ, List.any_append]
  simp

set_option maxHeartbeats 1000000 in
set_option maxRecDepth 100000 in
theorem walk_no (w : World) (s : ByteArray) (i k : Int) (hs : 24 < s.size) :
    Calls Try.prog 6 #[.string s, .int .i64 i, .int .i64 k] w fun e w' => e = .returned (.bool true) ∧ Below w.heap.size w w' := by
  have HF := Lib.hid sfact_any
  have HA := Lib.hid (fun (W : World) => alike_no s W hs)
  go_enter Try.func6, Try.ntmps6
  go_wp2_with fail
  refine (HF.out _).mono ?_
  rintro e w1 ⟨rfl, hb1⟩
  go_wp2_with fail
  refine (HA.out _).mono ?_
  rintro e w2 ⟨rfl, hb2⟩
  go_wp2_with fail
  go_ret
  exact ⟨rfl, bnext hb1 hb2⟩

set_option maxHeartbeats 1000000 in
set_option maxRecDepth 100000 in
theorem walk_ok (w : World) (s : ByteArray) (hs : s.size ≤ 24) (i k : Int) :
    Calls Try.prog 6 #[.string s, .int .i64 i, .int .i64 k] w fun e w' => e = .returned (.bool true) ∧ Below w.heap.size w w' := by
  have HF := Lib.hid sfact_any
  obtain ⟨l, hl⟩ : ∃ l, l = s.data.toList := ⟨_, rfl⟩
  have hln : l.length = s.size := by rw [hl]; simp
  have HA := Lib.hid (fun (W : World) => alike_any s W hs)
  rw [← hl] at HA
  have hml := most_le l
  have hmt := most_twice l
  have htm := twice_most l
  have hall := alikeOf_length l
  obtain ⟨al, hal⟩ : ∃ al, al = alikeOf l := ⟨_, rfl⟩
  obtain ⟨n1, hn1⟩ : ∃ n1, n1 = s.size - 1 := ⟨_, rfl⟩
  rw [← hal] at HA hml hmt htm hall
  rw [← hn1] at HA
  rw [hln, ← hn1] at hall
  have hS := fun (a K : Nat) (W : World) => stands_any s (s.extract a (a + K)) W (by omega) (by simp [maxLen]; omega)
  have hS2 : ∀ (a K m : Nat) (_ : m = a + K) (W : World), Calls Try.prog 16 #[.string s, .string (s.extract a m)] W fun e w' => ∃ A cap, e = .returned (.slice A (times l ((l.drop a).take K)) cap) ∧ Below W.heap.size W w' := by
    rintro a K m rfl W
    refine (hS a K W).mono ?_
    rintro e w' ⟨A, cap, rfl, _, hb⟩
    refine ⟨A, cap, ?_, hb⟩
    rw [places_times, bs_sub, show bs s = l from hl.symm]
  have HS := Lib.hid hS2
  have HN1 := Lib.hid hn1
  have HL := Lib.hid hl
  clear hal hn1 hl hS hS2
  go_enter Try.func6, Try.ntmps6
  go_wp2_with fail
  refine (HF.out _).mono ?_
  rintro e w1 ⟨rfl, hb1⟩
  go_wp2_with fail
  refine (HA.out _).mono ?_
  rintro e w2 ⟨A, c, rfl, hrd, hb2⟩
  clear HF HA
  have hb := bnext hb1 hb2
  clear hb1 hb2
  go_wp2_with fail
  go_loopw [10, 11, 27, 28, 29, 30, 31, 32, 33, 34, 35, 36, 37, 38, 39, 40, 41, 42] (fun v10 v11 _ _ _ _ _ _ _ _ _ _ _ _ _ _ _ _ wr => ∃ t M : Nat, v10 = .int .i64 (M : Int) ∧ v11 = .int .i64 (t : Int) ∧ t ≤ n1 ∧ M = most (al.take t) ∧ wr = w2) (fun _ v11 _ _ _ _ _ _ _ _ _ _ _ _ _ _ _ _ _ => n1 - (intOf v11).toNat)
  case atStart => exact ⟨0, 0, rfl, rfl, by omega, by simp [most], rfl⟩
  case round =>
    obtain ⟨t, M, rfl, rfl, htn, hM, hwr⟩ := hrel
    have hrd := hrd
    rw [← hwr] at hrd
    by_cases hlt : t < n1
    · have kk : (t : Int) < (n1 : Int) := by omega
      have k24 : (t : Int) ≤ 24 := by have := HN1.out; omega
      obtain ⟨b, of, rfl, hbl, hc⟩ := hrd.2 (by omega)
      obtain ⟨x, hx⟩ : ∃ x, al[t]? = some x := ⟨_, List.getElem?_eq_getElem (by omega)⟩
      have c0 := hc t (.int .i64 (x : Int)) (by rw [ints_get, natsI_get, hx]; rfl)
      have hM2 : most (al.take (t + 1)) = Nat.max M x := by
        rw [List.take_add_one, hx, hM]
        exact most_snoc _ _
      have HM2 := Lib.hid hM2
      have HW := Lib.hid hwr
      clear hM2 hM hml hmt htm hall hc hx hwr
      by_cases hxM : M < x
      · have k1 : (M : Int) < (x : Int) := by omega
        go_wp2
        exact ⟨⟨t + 1, x, rfl, by simp, by omega, by rw [HM2.out]; exact (Nat.max_eq_right (by omega)).symm, HW.out⟩, by simp [intOf]; omega⟩
      · have k1 : ¬ (M : Int) < (x : Int) := by omega
        go_wp2
        exact ⟨⟨t + 1, M, rfl, by simp, by omega, by rw [HM2.out]; exact (Nat.max_eq_left (by omega)).symm, HW.out⟩, by simp [intOf]; omega⟩
    · obtain rfl : t = n1 := by omega
      have kk : ¬ (t : Int) < (t : Int) := by omega
      rw [List.take_of_length_le (by omega)] at hM
      subst hM
      have hb : Below w.heap.size w wr := by rw [hwr]; exact hb
      obtain ⟨wo, hwo⟩ : ∃ wo, wo = wr := ⟨_, rfl⟩
      rw [← hwo] at hb hrd
      have HWO := Lib.hid hwr
      clear hwr
      subst hwo
      have HAL := Lib.hid hall
      clear hall
      obtain ⟨M, hM⟩ : ∃ M, M = most al := ⟨_, rfl⟩
      rw [← hM] at hml hmt htm ⊢
      have kM : ¬ ((s.size : Int) < (M : Int)) := by omega
      have HT := Lib.hid htm
      have HMT := Lib.hid hmt
      clear hM htm hmt
      -- what is left behind the second loop
      by_cases hM0 : M = 0
      · subst hM0
        have HP := Lib.hid (show True from trivial)
        go_wp2_with fail
        refine wp_loop_rounds 1 ?_
        rw [rounds_succ]
        have HBX := Lib.hid hb
        go_wp2_with fail
        by_cases hi : 0 ≤ i ∧ i ≤ (s.size : Int)
        · refine (in_yes hi.1 hi.2 _).mono ?_
          rintro e w5 ⟨rfl, rfl⟩
          obtain ⟨I, rfl⟩ := Int.eq_ofNat_of_zero_le hi.1
          have e3 : IntKind.i64.wrap ((s.size : Int) - (I : Int)) = (s.size : Int) - (I : Int) := IntWalk.i64_in _ (by omega)
          go_wp2_with fail
          by_cases hk : 1 ≤ k ∧ k ≤ (s.size : Int) - (I : Int)
          · refine (in_yes hk.1 hk.2 _).mono ?_
            rintro e w6 ⟨rfl, rfl⟩
            obtain ⟨K, rfl⟩ := Int.eq_ofNat_of_zero_le (show 0 ≤ k by omega)
            obtain ⟨m, hm⟩ : ∃ m, m = I + K := ⟨_, rfl⟩
            have kK : 1 ≤ K := by omega
            have e4 : (I : Int) + (K : Int) = (m : Int) := by omega
            have k4 : (m : Int) ≤ (s.size : Int) := by omega
            have k5 : (I : Int) ≤ (m : Int) := by omega
            have hst := HS.out I K m hm
            have hle := HT.out I K (by omega) (by omega)
            obtain ⟨T, hT⟩ : ∃ T, T = times l ((l.drop I).take K) := ⟨_, rfl⟩
            rw [← hT] at hst hle
            have HST := Lib.hid hst
            have HLE := Lib.hid hle
            clear hst hle hT hm hi hk
            go_wp2_with fail
            refine (HST.out _).mono ?_
            rintro e w7 ⟨B, d, rfl, hb7⟩
            by_cases hT2 : T < 2
            · have k6 : (T : Int) < 2 := by omega
              go_wp2_with fail
              go_ret
              exact ⟨rfl, bnext HBX.out hb7⟩
            · exact absurd (HLE.out (by omega)) (by omega)
          · refine (in_no hk _).mono ?_
            rintro e w6 ⟨rfl, rfl⟩
            go_wp2_with fail
            go_ret
            exact ⟨rfl, HBX.out⟩
        · refine (in_no hi _).mono ?_
          rintro e w5 ⟨rfl, rfl⟩
          go_wp2_with fail
          go_ret
          exact ⟨rfl, HBX.out⟩
      · have kM0 : ((M : Int) == 0) = false := by rw [beq_eq_false_iff_ne]; omega
        have kM1 : 0 < M := by omega
        go_wp2_with fail
        go_loopw [12, 13, 49, 50, 51, 52, 53, 54, 55, 56, 57, 58, 59, 60, 61, 62, 63, 64, 65, 66, 67, 68, 69, 70, 71, 72, 73] (fun v12 v13 _ _ _ _ _ _ _ _ _ _ _ _ _ _ _ _ _ _ _ _ _ _ _ _ _ wx => ∃ j : Nat, v13 = .int .i64 (j : Int) ∧ v12 = .bool (anyTw l M j) ∧ j + M ≤ s.size + 1 ∧ Below w.heap.size w wx) (fun _ v13 _ _ _ _ _ _ _ _ _ _ _ _ _ _ _ _ _ _ _ _ _ _ _ _ _ _ => s.size - (intOf v13).toNat)
        case atStart => exact ⟨0, rfl, by simp [anyTw], by omega, hb⟩
        case round =>
          obtain ⟨j, rfl, rfl, hjn, hbx⟩ := hrel
          obtain ⟨m, hm⟩ : ∃ m, m = j + M := ⟨_, rfl⟩
          have e1 : (j : Int) + (M : Int) = (m : Int) := by omega
          have e2 : IntKind.i64.wrap ((j : Int) + 1) = (j : Int) + 1 := IntWalk.i64_in _ (by omega)
          by_cases hlt2 : j + M ≤ s.size
          · have k1 : (m : Int) ≤ (s.size : Int) := by omega
            have k2 : (j : Int) ≤ (m : Int) := by omega
            have hsu := anyTw_succ l M j
            obtain ⟨b, hbb⟩ : ∃ b, b = anyTw l M j := ⟨_, rfl⟩
            rw [← hbb] at hsu ⊢
            have HSU := Lib.hid hsu
            clear hsu hbb
            cases b
            · have hst := HS.out j M m hm
              obtain ⟨T, hT⟩ : ∃ T, T = times l ((l.drop j).take M) := ⟨_, rfl⟩
              rw [← hT] at HSU hst
              have HST := Lib.hid hst
              clear hst hT hm
              go_wp2_with fail
              refine (HST.out _).mono ?_
              rintro e w7 ⟨B, d, rfl, hb7⟩
              have hb8 := bnext hbx hb7
              by_cases hT2 : 1 < T
              · have k6 : (1 : Int) < (T : Int) := by omega
                go_wp2_with fail
                go_roundw
                case rel => exact ⟨j + 1, by simp, by rw [HSU.out]; simp; omega, by omega, hb8⟩
                case measure => simp [intOf]; omega
              · have k6 : ¬ (1 : Int) < (T : Int) := by omega
                go_wp2_with fail
                go_roundw
                case rel => exact ⟨j + 1, by simp, by rw [HSU.out]; simp; omega, by omega, hb8⟩
                case measure => simp [intOf]; omega
            · clear hm
              go_wp2_with fail
              go_roundw
              case rel => exact ⟨j + 1, by simp, by rw [HSU.out]; rfl, by omega, hbx⟩
              case measure => simp [intOf]; omega
          · have k1 : ¬ (m : Int) ≤ (s.size : Int) := by omega
            have kb : (m : Int) ≤ 100 := by omega
            have hyes : anyTw l M j = true := by
              obtain ⟨j', hj', h2⟩ := HMT.out kM1
              unfold anyTw
              rw [List.any_eq_true]
              exact ⟨j', List.mem_range.2 (by omega), by simpa using h2⟩
            rw [hyes]
            have HBX := Lib.hid hbx
            clear hyes hm
            go_wp2_with fail
            by_cases hi : 0 ≤ i ∧ i ≤ (s.size : Int)
            · refine (in_yes hi.1 hi.2 _).mono ?_
              rintro e w5 ⟨rfl, rfl⟩
              obtain ⟨I, rfl⟩ := Int.eq_ofNat_of_zero_le hi.1
              have e3 : IntKind.i64.wrap ((s.size : Int) - (I : Int)) = (s.size : Int) - (I : Int) := IntWalk.i64_in _ (by omega)
              go_wp2_with fail
              by_cases hk : 1 ≤ k ∧ k ≤ (s.size : Int) - (I : Int)
              · refine (in_yes hk.1 hk.2 _).mono ?_
                rintro e w6 ⟨rfl, rfl⟩
                obtain ⟨K, rfl⟩ := Int.eq_ofNat_of_zero_le (show 0 ≤ k by omega)
                obtain ⟨m, hm⟩ : ∃ m, m = I + K := ⟨_, rfl⟩
                have kK : 1 ≤ K := by omega
                have e4 : (I : Int) + (K : Int) = (m : Int) := by omega
                have k4 : (m : Int) ≤ (s.size : Int) := by omega
                have k5 : (I : Int) ≤ (m : Int) := by omega
                have hst := HS.out I K m hm
                have hle := HT.out I K (by omega) (by omega)
                obtain ⟨T, hT⟩ : ∃ T, T = times l ((l.drop I).take K) := ⟨_, rfl⟩
                rw [← hT] at hst hle
                have HST := Lib.hid hst
                have HLE := Lib.hid hle
                clear hst hle hT hm hi hk
                go_wp2_with fail
                refine (HST.out _).mono ?_
                rintro e w7 ⟨B, d, rfl, hb7⟩
                by_cases hT2 : T < 2
                · have k6 : (T : Int) < 2 := by omega
                  go_wp2_with fail
                  go_ret
                  exact ⟨rfl, bnext HBX.out hb7⟩
                · have k6 : ¬ (T : Int) < 2 := by omega
                  have k7 := HLE.out (by omega)
                  have k8 : (K : Int) ≤ (M : Int) := by omega
                  go_wp2_with fail
                  go_ret
                  exact ⟨rfl, bnext HBX.out hb7⟩
              · refine (in_no hk _).mono ?_
                rintro e w6 ⟨rfl, rfl⟩
                go_wp2_with fail
                go_ret
                exact ⟨rfl, HBX.out⟩
            · refine (in_no hi _).mono ?_
              rintro e w5 ⟨rfl, rfl⟩
              go_wp2_with fail
              go_ret
              exact ⟨rfl, HBX.out⟩
theorem walk (w : World) (s : ByteArray) (s0 : s.size ≤ 140737488351232) (i : Int) (si : -9223372036854775808 ≤ i ∧ i ≤ 9223372036854775807) (k : Int) (sk : -9223372036854775808 ≤ k ∧ k ≤ 9223372036854775807) :
    Calls Try.prog 6 #[.string s, .int .i64 i, .int .i64 k] w fun e w' => e = .returned (.bool true) ∧ Below w.heap.size w w' := by
  by_cases hs : s.size ≤ 24
  · exact walk_ok w s hs i k
  · exact walk_no w s i k (by omega)
end Go.Proofs.Ythalaapfdjaapaa.suffixTwice
