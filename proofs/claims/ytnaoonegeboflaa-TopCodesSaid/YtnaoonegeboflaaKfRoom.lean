/-
  The walks of kraft.Check and kraft.Room.
-/
import Derived.Test.YtnaoonegeboflaaHfRoomP
import Derived.Test.YtnaoonegeboflaaTrChk
namespace Go.Proofs.Ytnaoonegeboflaa.Kf
open Go.RowKit
set_option linter.unusedVariables false
set_option linter.unusedSimpArgs false

theorem within_any (a b c : Int) (w : World) : Calls Try.prog 38 #[.int .i64 a, .int .i64 b, .int .i64 c] w fun e w' => e = .returned (.bool (inn b c a)) ∧ w = w' := by
  by_cases h1 : b ≤ a
  · by_cases h2 : a ≤ c
    · go_enter Try.func38, Try.ntmps38
      go_wp2
      go_ret
      exact ⟨ret_bool (by unfold inn; simp [h1, h2]), rfl⟩
    · go_enter Try.func38, Try.ntmps38
      go_wp2
      go_ret
      exact ⟨ret_bool (by unfold inn; simp [h1, h2]), rfl⟩
  · go_enter Try.func38, Try.ntmps38
    go_wp2
    go_ret
    exact ⟨ret_bool (by unfold inn; simp; omega), rfl⟩

theorem kcheck_any (A : Option Addr) (c : Nat) (l : List Int) (w : World) (hr : Reads w A l.length 1 (ints l)) (hm : l.length ≤ maxLen) :
    Calls Try.prog 24 #[.slice A l.length c] w fun e w' => e = .returned (errT (ckL l)) ∧ w = w' := by
  unfold maxLen at hm
  by_cases h10 : 10 < l.length
  · have hk : ckL l = 4 := if_pos h10
    rw [hk]
    have k1 : (10 : Int) < (l.length : Int) := by omega
    go_enter Try.func24, Try.ntmps24
    go_wp2
    go_ret
    exact ⟨rfl, rfl⟩
  · have hk : ckL l = if l.all (inn 1 12) then 0 else 1 := if_neg h10
    rw [hk]
    have k1 : ¬ (10 : Int) < (l.length : Int) := by omega
    obtain ⟨R, hR⟩ : ∃ R : Int, R = if l.all (inn 1 12) then 0 else 1 := ⟨_, rfl⟩
    rw [← hR]
    have HRR := Lib.hid hR
    clear hk hR
    go_enter Try.func24, Try.ntmps24
    go_wp2
    go_loop [4, 11] (fun x kv => ∃ k : Nat, k ≤ l.length ∧ kv = .int .i64 (k : Int) ∧ Hid ((l.take k).all (inn 1 12) = true)) (fun _ k => l.length - (intOf k).toNat)
    case atStart => exact ⟨0, Nat.zero_le _, rfl, Lib.hid (by simp)⟩
    case round =>
      obtain ⟨k, hk, rfl, HA⟩ := hrel
      by_cases hlt : k < l.length
      · obtain ⟨b, o, rfl, hb, hc⟩ := hr.2 (by omega)
        obtain ⟨x, hx⟩ : ∃ x, l[k]? = some x := ⟨_, List.getElem?_eq_getElem hlt⟩
        have c0 := hc k (.int .i64 x) (by rw [ints_get, hx]; rfl)
        have kk : (k : Int) < (l.length : Int) := by omega
        have HX := Lib.hid hx
        clear hc hx
        cases hin : inn 1 12 x
        · have HF := Lib.hid (show l.all (inn 1 12) = false from by
            rw [List.all_eq_false]
            exact ⟨x, List.mem_of_getElem? HX.out, by rw [hin]; decide⟩)
          go_wp2_with (go_at_call 38; refine (within_any _ _ _ _).mono ?_; rw [hin]; rintro e w' ⟨rfl, rfl⟩)
          go_ret
          have hR := HRR.out
          rw [HF.out] at hR
          rw [hR]
          exact ⟨rfl, rfl⟩
        · have HA2 := Lib.hid (show (l.take (k + 1)).all (inn 1 12) = true from by
            rw [List.take_add_one, HX.out, List.all_append, HA.out]
            simp [hin])
          go_wp2_with (go_at_call 38; refine (within_any _ _ _ _).mono ?_; rw [hin]; rintro e w' ⟨rfl, rfl⟩)
          exact ⟨⟨k + 1, by omega, by go_num, HA2⟩, by simp [intOf]; omega⟩
      · have hke := Lib.hid (show k = l.length by omega)
        have hkn : ¬ (k : Int) < (l.length : Int) := by omega
        go_wp2
        go_ret
        have := HA.out
        rw [hke.out, List.take_length] at this
        have hR := HRR.out
        rw [this] at hR
        rw [hR]
        exact ⟨rfl, rfl⟩

theorem kroom_no (A : Option Addr) (c : Nat) (l : List Int) (w : World) (hr : Reads w A l.length 1 (ints l)) (hm : l.length ≤ maxLen) (h : ckL l ≠ 0) :
    Calls Try.prog 12 #[.slice A l.length c] w fun e w' => e = .returned (.tuple #[.int .i64 0, .iface 57 (.int .i64 (ckL l))]) ∧ w = w' := by
  have hk := kcheck_any A c l w hr hm
  rw [show errT (ckL l) = .iface 57 (.int .i64 (ckL l)) from if_neg h] at hk
  generalize ckL l = K at *
  have H := Lib.hid hk
  clear hk h hr
  go_enter Try.func12, Try.ntmps12
  go_wp2_with fail
  refine H.out.mono ?_
  rintro e w' ⟨rfl, rfl⟩
  go_wp2_with fail
  go_ret2
  exact ⟨rfl, rfl⟩
theorem roomOf_take {l : List Int} {k : Nat} {x : Int} (h : l[k]? = some x) : roomOf (l.take (k + 1)) = roomOf (l.take k) + 2 ^ (12 - x).toNat := by
  rw [List.take_add_one, h, roomOf_append]
  rfl
theorem wrap_pow (d : Nat) (hd : d ≤ 11) : wrap64 (2 ^ d) = ((2 ^ d : Nat) : Int) := by
  have h : ∀ d ∈ List.range 12, wrap64 (2 ^ d) = ((2 ^ d : Nat) : Int) := by decide +kernel
  exact h d (List.mem_range.2 (by omega))
theorem pow_low (d : Nat) (hd : d ≤ 11) : 2 ^ d ≤ 2048 := Nat.pow_le_pow_right (n := 2) (by decide) hd
theorem wrap_sum (s p : Nat) (hs : s ≤ 40960) (hp : p ≤ 2048) : wrap64 ((s : Int) + (p : Int)) = ((s + p : Nat) : Int) := by
  rw [IntWalk.wrap64_in _ (by omega)]; omega
theorem kroom_ok (A : Option Addr) (c : Nat) (l : List Int) (w : World) (hr : Reads w A l.length 1 (ints l)) (h : ckL l = 0) :
    Calls Try.prog 12 #[.slice A l.length c] w fun e w' => e = .returned (.tuple #[.int .i64 ((roomOf l : Nat) : Int), .nilIface]) ∧ w = w' := by
  obtain ⟨hl, hin⟩ := ckL_ok h
  have hk := kcheck_any A c l w hr (by unfold maxLen; omega)
  rw [h, show errT 0 = .nilIface from rfl] at hk
  have H := Lib.hid hk
  have HB := Lib.hid hin
  have HBD := Lib.hid (fun k => roomOf_le (l := l.take k) fun x hx => (hin x (List.mem_of_mem_take hx)).1)
  obtain ⟨R, hR⟩ : ∃ R, R = roomOf l := ⟨_, rfl⟩
  rw [← hR]
  have HRR := Lib.hid hR
  clear hk h hin hR
  go_enter Try.func12, Try.ntmps12
  go_wp2_with fail
  refine H.out.mono ?_
  rintro e w' ⟨rfl, rfl⟩
  go_wp2_with fail
  go_loop [5, 7, 15] (fun sv _ kv => ∃ k s : Nat, k ≤ l.length ∧ kv = .int .i64 (k : Int) ∧ sv = .int .i64 (s : Int) ∧ Hid (s = roomOf (l.take k)) ∧ s ≤ 40960) (fun _ _ k => l.length - (intOf k).toNat)
  case atStart => exact ⟨0, 0, Nat.zero_le _, rfl, rfl, Lib.hid (by simp [roomOf]), by omega⟩
  case round =>
    obtain ⟨k, s, hk, rfl, rfl, HS, hs⟩ := hrel
    by_cases hlt : k < l.length
    · obtain ⟨b, o, rfl, hb, hc⟩ := hr.2 (by omega)
      obtain ⟨x, hx⟩ : ∃ x, l[k]? = some x := ⟨_, List.getElem?_eq_getElem hlt⟩
      have c0 := hc k (.int .i64 x) (by rw [ints_get, hx]; rfl)
      have kk : (k : Int) < (l.length : Int) := by omega
      have hxb := HB.out x (List.mem_of_getElem? hx)
      have ht := roomOf_take hx
      rw [← HS.out] at ht
      have hbd := HBD.out (k + 1)
      rw [ht, List.length_take] at hbd
      have hs2 : s + 2 ^ (12 - x).toNat ≤ 40960 := by omega
      have HT := Lib.hid ht
      clear hc hx ht hbd
      obtain ⟨d, hd⟩ : ∃ d : Nat, 12 - x = (d : Int) := ⟨(12 - x).toNat, by omega⟩
      have hd11 : d ≤ 11 := by omega
      obtain rfl : x = 12 - (d : Int) := by omega
      rw [hd, Int.toNat_natCast] at HT hs2
      have hw : IntKind.i64.wrap (12 - (12 - (d : Int))) = (d : Int) := by rw [IntWalk.i64_in _ (by omega)]; omega
      go_wp2_with fail
      have hple := pow_low d hd11
      rw [wrap_pow d hd11]
      generalize 2 ^ d = p at *
      rw [wrap_sum s p hs hple]
      refine ⟨⟨k + 1, s + p, by omega, by go_num, rfl, Lib.hid HT.out.symm, hs2⟩, by simp [intOf]; omega⟩
    · have kk : ¬ (k : Int) < (l.length : Int) := by omega
      have hke := Lib.hid (show k = l.length by omega)
      go_wp2_with fail
      go_ret2
      have := HS.out
      rw [hke.out, List.take_length, ← HRR.out] at this
      rw [this]
      exact ⟨rfl, rfl⟩
end Go.Proofs.Ytnaoonegeboflaa.Kf
