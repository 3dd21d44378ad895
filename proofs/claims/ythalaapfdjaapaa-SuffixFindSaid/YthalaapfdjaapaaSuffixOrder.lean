/-
  The walk of the law SuffixOrder, for every text; no condition.
-/
import Derived.Test.YthalaapfdjaapaaSfFact
namespace Go.Proofs.Ythalaapfdjaapaa
open Go.RowKit
set_option linter.unusedVariables false
set_option linter.unusedSimpArgs false

theorem in_any (n lo hi : Int) (w : World) : Calls Try.prog 11 #[.int .i64 n, .int .i64 lo, .int .i64 hi] w fun e w' => e = .returned (.bool (decide (lo ≤ n ∧ n ≤ hi))) ∧ w' = w := by
  by_cases h1 : lo ≤ n <;> by_cases h2 : n ≤ hi
  all_goals
    go_enter Try.func11, Try.ntmps11
    go_wp2
    go_ret
    exact ⟨by simp [h1, h2], rfl⟩
theorem in_yes {n lo hi : Int} (h1 : lo ≤ n) (h2 : n ≤ hi) (w : World) : Calls Try.prog 11 #[.int .i64 n, .int .i64 lo, .int .i64 hi] w fun e w' => e = .returned (.bool true) ∧ w' = w := by
  have := in_any n lo hi w
  rwa [decide_eq_true ⟨h1, h2⟩] at this
theorem in_no {n lo hi : Int} (h : ¬ (lo ≤ n ∧ n ≤ hi)) (w : World) : Calls Try.prog 11 #[.int .i64 n, .int .i64 lo, .int .i64 hi] w fun e w' => e = .returned (.bool false) ∧ w' = w := by
  have := in_any n lo hi w
  rwa [decide_eq_false h] at this

namespace suffixOrder
set_option maxHeartbeats 1000000 in
set_option maxRecDepth 100000 in
theorem walk (w : World) (s : ByteArray) (s0 : s.size ≤ 140737488351232) :
    Calls Try.prog 3 #[.string s] w fun e w' => e = .returned (.bool true) ∧ Below w.heap.size w w' := by
  have HF := Lib.hid sfact_any
  by_cases hs : s.size ≤ 24
  · obtain ⟨l, hl⟩ : ∃ l, l = s.data.toList := ⟨_, rfl⟩
    have hln : l.length = s.size := by rw [hl]; simp
    have hO := ordOf_is l
    have HAL := Lib.hid (fun (W : World) => order_all s W hs)
    rw [← hl] at HAL
    obtain ⟨o, ho⟩ : ∃ o, o = ordOf l := ⟨_, rfl⟩
    rw [← ho] at HAL hO
    have hol : o.length = s.size := by rw [hO.length, hln]
    clear ho
    go_enter Try.func3, Try.ntmps3
    go_wp2_with fail
    refine (HF.out _).mono ?_
    rintro e w1 ⟨rfl, hb1⟩
    go_wp2_with fail
    refine (HAL.out _).mono ?_
    rintro e w2 ⟨A, c, rfl, hrd, hb2⟩
    clear HF HAL
    have hb := bnext hb1 hb2
    go_wp2_with fail
    go_loopw [6, 25, 26, 27, 28, 29, 30, 31, 32, 33, 34, 35, 36, 37, 38, 39, 40, 41, 42, 43, 44, 45, 46, 47, 48, 49, 50, 51, 52, 53, 54, 55, 56, 57, 58, 59, 60, 61, 62, 63, 64, 65, 66, 67, 68, 69, 70, 71, 72] (fun v _ _ _ _ _ _ _ _ _ _ _ _ _ _ _ _ _ _ _ _ _ _ _ _ _ _ _ _ _ _ _ _ _ _ _ _ _ _ _ _ _ _ _ _ _ _ _ _ wr => ∃ t : Nat, v = .int .i64 (t : Int) ∧ t ≤ s.size ∧ ∃ q, wr = w2.drewN q) (fun v _ _ _ _ _ _ _ _ _ _ _ _ _ _ _ _ _ _ _ _ _ _ _ _ _ _ _ _ _ _ _ _ _ _ _ _ _ _ _ _ _ _ _ _ _ _ _ _ _ => s.size - (intOf v).toNat)
    case atStart => exact ⟨0, rfl, by omega, 0, rfl⟩
    case round =>
      obtain ⟨t, rfl, ht, q, hq⟩ := hrel
      have hrd := hrd.below (show Below w2.heap.size w2 wr by rw [hq]; exact bdrew (Below.refl _ _) _)
      have HQ := Lib.hid hq
      clear hq
      by_cases hlt : t < s.size
      · have kk : (t : Int) < (s.size : Int) := by omega
        have e1 : IntKind.i64.wrap ((t : Int) + 1) = (t : Int) + 1 := IntWalk.i64_in _ (by omega)
        obtain ⟨b, of, rfl, hbl, hc⟩ := hrd.2 (by omega)
        obtain ⟨i, hi⟩ : ∃ i, o[t]? = some i := ⟨_, List.getElem?_eq_getElem (by omega)⟩
        have c0 := hc t (.int .i64 (i : Int)) (by rw [ints_get, natsI_get, hi]; rfl)
        have hin := hO.lt hi
        have e5 : IntKind.i64.wrap ((s.size : Int) - 1) = (s.size : Int) - 1 := IntWalk.i64_in _ (by omega)
        have ki : (i : Int) ≤ (s.size : Int) := by omega
        have HI := Lib.hid (fun W => in_yes (n := (i : Int)) (lo := 0) (hi := (s.size : Int) - 1) (by omega) (by omega) W)
        by_cases ht0 : t = 0
        · subst ht0
          rw [Nat.add_zero] at c0
          have HO := Lib.hid hO
          clear hO hc hi
          go_wp2
          go_quiet (first | (go_at_call_has 11 (Value.int .i64 (i : Int)); refine Calls.quiet_of_same (HI.out _)))
          go_wp2
          go_roundw
          case rel => exact ⟨1, by simp, by omega, q + nq, by rw [HQ.out, World.drewN_drewN]⟩
          case measure => simp [intOf]; omega
        · obtain ⟨p, hp⟩ : ∃ p, p = t - 1 := ⟨_, rfl⟩
          have e2 : (t : Int) - 1 = (p : Int) := by omega
          have k1 : 0 < t := by omega
          have k2 : (p : Int) < (s.size : Int) := by omega
          obtain ⟨j, hj⟩ : ∃ j, o[p]? = some j := ⟨_, List.getElem?_eq_getElem (by omega)⟩
          have c1 := hc p (.int .i64 (j : Int)) (by rw [ints_get, natsI_get, hj]; rfl)
          have hjn := hO.lt hj
          have kj : (j : Int) ≤ (s.size : Int) := by omega
          have HJ := Lib.hid (fun W => in_yes (n := (j : Int)) (lo := 0) (hi := (s.size : Int) - 1) (by omega) (by omega) W)
          have hbf := hO.bef_of hj hi (by omega)
          have hB := fun W : World => before_any (s.extract j s.size) (s.extract i s.size) W (by simp; omega) (by simp; omega)
          rw [bs_from, bs_from, show bs s = l from hl.symm, hbf] at hB
          have HB := Lib.hid hB
          have HO := Lib.hid hO
          clear hO hc hi hj hB hbf hp
          go_wp2
          go_quiet (first
            | (go_at_call_has 11 (Value.int .i64 (i : Int)); refine Calls.quiet_of_same (HI.out _))
            | (go_at_call_has 11 (Value.int .i64 (j : Int)); refine Calls.quiet_of_same (HJ.out _))
            | (go_at_call 12; refine Calls.quiet_of (HB.out _)))
          go_wp2
          go_roundw
          case rel => exact ⟨t + 1, by simp, by omega, q + nq, by rw [HQ.out, World.drewN_drewN]⟩
          case measure => simp [intOf]; omega
      · obtain rfl : t = s.size := by omega
        have kk : ¬ (s.size : Int) < (s.size : Int) := by omega
        go_wp2
        go_ret
        exact ⟨rfl, by rw [HQ.out]; exact bdrew hb _⟩
  · have HN := Lib.hid (fun (W : World) => order_no s W (by omega))
    go_enter Try.func3, Try.ntmps3
    go_wp2_with fail
    refine (HF.out _).mono ?_
    rintro e w1 ⟨rfl, hb1⟩
    go_wp2_with fail
    refine (HN.out _).mono ?_
    rintro e w2 ⟨rfl, hb2⟩
    go_wp2_with fail
    go_ret
    exact ⟨rfl, bnext hb1 hb2⟩
end suffixOrder
end Go.Proofs.Ythalaapfdjaapaa
