/-
  The walks of the reference's Power, Room and Lengths.
-/
import Derived.Test.YtnaoonegeboflaaDoorHfRoomP
namespace Go.Proofs.YtnaoonegeboflaaDoor
open Go.RowKit
set_option linter.unusedVariables false
set_option linter.unusedSimpArgs false

theorem power_any (n : Nat) (hn : n ≤ 12) (w : World) : Calls Tryd.prog 26 #[.int .i64 (n : Int)] w fun e w' => e = .returned (.int .i64 ((2 ^ n : Nat) : Int)) ∧ w = w' := by
  have HB := Lib.hid (fun k (h : k ≤ n) => Nat.pow_le_pow_right (n := 2) (by decide) (Nat.le_trans h hn))
  go_enter Tryd.func26, Tryd.ntmps26
  go_wp2
  go_loop [3, 4, 5, 6, 7, 8, 9, 10, 11] (fun p i _ _ _ _ _ _ _ => ∃ k : Nat, k ≤ n ∧ i = .int .i64 k ∧ ∃ m : Nat, p = .int .i64 (m : Int) ∧ Hid (m = 2 ^ k)) (fun _ i _ _ _ _ _ _ _ => n - (intOf i).toNat)
  case atStart => exact ⟨0, Nat.zero_le _, rfl, 1, rfl, Lib.hid rfl⟩
  case round =>
    obtain ⟨k, hk, rfl, m, rfl, HM⟩ := hrel
    have hb := HB.out k hk
    rw [← HM.out] at hb
    have hb2 : m ≤ 4096 := hb
    clear hb
    have wr : IntKind.i64.wrap (2 * (m : Int)) = 2 * (m : Int) := IntWalk.i64_in _ (by omega)
    by_cases hlt : k < n
    · have kk : (k : Int) < (n : Int) := by omega
      go_wp2
      refine ⟨⟨k + 1, by omega, by go_num, 2 * m, by go_num, Lib.hid (by rw [HM.out, Nat.pow_succ]; omega)⟩, by simp [intOf]; omega⟩
    · obtain rfl : k = n := by omega
      have kk : ¬ (k : Int) < (k : Int) := by omega
      go_wp2
      go_ret
      exact ⟨by rw [HM.out]; rfl, rfl⟩

/-- the room of codes so long -/
theorem lengths_any (A : Option Addr) (c : Nat) (l : List Int) (w : World) (hr : Reads w A l.length 1 (ints l)) (hm : l.length ≤ maxLen) :
    Calls Tryd.prog 10 #[.slice A l.length c] w fun e w' => e = .returned (.int .i64 (ckL l)) ∧ w = w' := by
  have HA := Lib.hid (refall_any A c l 1 12 w hr hm)
  unfold maxLen at hm
  by_cases h : 10 < l.length
  · have hk : ckL l = 4 := if_pos h
    have k1 : (10 : Int) < (l.length : Int) := by omega
    rw [hk]
    go_enter Tryd.func10, Tryd.ntmps10
    go_wp2
    go_ret
    exact ⟨rfl, rfl⟩
  · have k1 : ¬ (10 : Int) < (l.length : Int) := by omega
    have hk : ckL l = if l.all (inn 1 12) then 0 else 1 := if_neg h
    rw [hk]
    generalize l.all (inn 1 12) = b at *
    cases b
    · go_enter Tryd.func10, Tryd.ntmps10
      go_wp2_with fail
      refine HA.out.mono ?_
      rintro e w' ⟨rfl, rfl⟩
      go_wp2_with fail
      go_ret
      exact ⟨rfl, rfl⟩
    · go_enter Tryd.func10, Tryd.ntmps10
      go_wp2_with fail
      refine HA.out.mono ?_
      rintro e w' ⟨rfl, rfl⟩
      go_wp2_with fail
      go_ret
      exact ⟨rfl, rfl⟩

theorem room_any (A : Option Addr) (c : Nat) (l : List Int) (w : World) (hr : Reads w A l.length 1 (ints l)) (hl : l.length ≤ 100) (hb : ∀ x ∈ l, 1 ≤ x ∧ x ≤ 12) :
    Calls Tryd.prog 12 #[.slice A l.length c] w fun e w' => e = .returned (.int .i64 ((roomOf l : Nat) : Int)) ∧ w = w' := by
  have HB := Lib.hid hb
  obtain ⟨R, hR⟩ : ∃ R, R = roomOf l := ⟨_, rfl⟩
  rw [← hR]
  have HR := Lib.hid hR
  clear hb hR
  go_enter Tryd.func12, Tryd.ntmps12
  go_wp2
  go_loop [3, 4, 5, 6, 7, 8, 9, 10, 11, 12, 13, 14, 15, 16, 17, 18] (fun p i _ _ _ _ _ _ _ _ _ _ _ _ _ _ => ∃ k : Nat, k ≤ l.length ∧ i = .int .i64 k ∧ ∃ m : Nat, p = .int .i64 (m : Int) ∧ Hid (m = roomOf (l.take k)) ∧ m ≤ k * 4096) (fun _ i _ _ _ _ _ _ _ _ _ _ _ _ _ _ => l.length - (intOf i).toNat)
  case atStart => exact ⟨0, Nat.zero_le _, rfl, 0, rfl, Lib.hid rfl, by omega⟩
  case round =>
    obtain ⟨k, hk, rfl, m, rfl, HM, hm⟩ := hrel
    by_cases hlt : k < l.length
    · obtain ⟨b, o, rfl, hbl, hc⟩ := hr.2 (by omega)
      obtain ⟨x, hx⟩ : ∃ x, l[k]? = some x := ⟨_, List.getElem?_eq_getElem hlt⟩
      have c0 := hc k (.int .i64 x) (by rw [ints_get, hx]; rfl)
      have hxb := HB.out x (List.mem_of_getElem? hx)
      have hrs : roomOf (l.take (k + 1)) = roomOf (l.take k) + 2 ^ (12 - x).toNat := by
        rw [List.take_add_one, hx, roomOf_append]; simp [roomOf]
      have HRS := Lib.hid hrs
      have h2 : 2 ^ (12 - x).toNat ≤ 2 ^ 12 := Nat.pow_le_pow_right (by decide) (by omega)
      have h3 : 2 ^ (12 - x).toNat ≤ 4096 := h2
      obtain ⟨d, hd⟩ : ∃ d : Nat, (12 - x).toNat = d := ⟨_, rfl⟩
      have HP := Lib.hid (fun w => power_any d (by omega) w)
      have hd2 : 12 - x = (d : Int) := by omega
      have wr1 : IntKind.i64.wrap (12 - x) = (d : Int) := by rw [hd2]; exact IntWalk.i64_in _ (by omega)
      rw [hd] at h3 HRS
      generalize 2 ^ d = q at *
      have wr2 : IntKind.i64.wrap ((m : Int) + (q : Int)) = (m : Int) + (q : Int) := IntWalk.i64_in _ (by omega)
      have kk : (k : Int) < (l.length : Int) := by omega
      clear hx hc hrs h2 hd hd2
      go_wp2_with fail
      refine (HP.out _).mono ?_
      rintro e w' ⟨rfl, rfl⟩
      go_wp2_with fail
      refine ⟨⟨k + 1, by omega, by go_num, m + q, by go_num, Lib.hid (by rw [HRS.out, HM.out]), by omega⟩, by simp [intOf]; omega⟩
    · have hke := Lib.hid (show k = l.length by omega)
      have kk : ¬ (k : Int) < (l.length : Int) := by omega
      go_wp2
      go_ret
      have := HM.out
      rw [hke.out, List.take_length, ← HR.out] at this
      exact ⟨by rw [this]; rfl, rfl⟩
end Go.Proofs.YtnaoonegeboflaaDoor
