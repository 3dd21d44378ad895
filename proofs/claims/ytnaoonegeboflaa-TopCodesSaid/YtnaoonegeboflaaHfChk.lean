/-
  The walk of huff.Check.
-/
import Derived.Test.YtnaoonegeboflaaHfCat
import Derived.Test.YtnaoonegeboflaaIBlk
namespace Go.Proofs.Ytnaoonegeboflaa.Hf
open Go.RowKit
set_option linter.unusedVariables false
set_option linter.unusedSimpArgs false

theorem within_any (n lo hi : Int) (w : World) : Calls Try.prog 38 #[.int .i64 n, .int .i64 lo, .int .i64 hi] w fun e w' => e = .returned (.bool (decide (lo ≤ n ∧ n ≤ hi))) ∧ w = w' := by
  by_cases h1 : lo ≤ n <;> by_cases h2 : n ≤ hi
  all_goals
    go_enter Try.func38, Try.ntmps38
    go_wp2
    go_ret
    exact ⟨by simp [h1, h2], rfl⟩
def errV (n : Int) : Value := if n = 0 then .nilIface else .iface 57 (.int .i64 n)
def inR (n : Int) : Bool := decide (0 ≤ n ∧ n ≤ 1000)
def ck (l : List Int) : Int := if l.length = 0 then 5 else if 10 < l.length then 4 else if l.all inR then 0 else 1
theorem all_take_succ {l : List Int} {f : Int → Bool} {k : Nat} {x : Int} (h : (l.take k).all f = true) (hx : l[k]? = some x) (hf : f x = true) : (l.take (k + 1)).all f = true := by
  rw [List.take_add_one, hx, List.all_append, h]
  simp [hf]

set_option maxHeartbeats 1000000 in
theorem check_any (A : Option Addr) (c : Nat) (l : List Int) (w : World) (hr : Reads w A l.length 1 (ints l)) (hm : l.length ≤ maxLen) :
    Calls Try.prog 25 #[.slice A l.length c] w fun e w' => e = .returned (errV (ck l)) ∧ w' = w := by
  have hm2 : l.length ≤ 9223372036854775807 := by unfold maxLen at hm; omega
  clear hm
  by_cases h0 : l.length = 0
  · have hk : ck l = 5 := by unfold ck; rw [if_pos h0]
    rw [hk, h0]
    go_enter Try.func25, Try.ntmps25
    go_wp2
    go_ret
    exact ⟨rfl, rfl⟩
  · by_cases h10 : 10 < l.length
    · have hk : ck l = 4 := by unfold ck; rw [if_neg h0, if_pos h10]
      rw [hk]
      have k1 : (10 : Int) < (l.length : Int) := by omega
      have k2 : ((l.length : Int) == 0) = false := by rw [beq_eq_false_iff_ne]; omega
      go_enter Try.func25, Try.ntmps25
      go_wp2
      go_ret
      exact ⟨rfl, rfl⟩
    · have hk : ck l = if l.all inR then 0 else 1 := by unfold ck; rw [if_neg h0, if_neg h10]
      rw [hk]
      have k1 : ¬ (10 : Int) < (l.length : Int) := by omega
      have k2 : ((l.length : Int) == 0) = false := by rw [beq_eq_false_iff_ne]; omega
      obtain ⟨b, o, rfl, hb, hc⟩ := hr.2 (by omega)
      have HC := Lib.hid hc
      obtain ⟨R, hR⟩ : ∃ R : Int, R = if l.all inR then 0 else 1 := ⟨_, rfl⟩
      rw [← hR]
      have HRR := Lib.hid hR
      clear hr hc hk hR
      go_enter Try.func25, Try.ntmps25
      go_wp2
      go_loop [4, 15] (fun x kv => ∃ k : Nat, k ≤ l.length ∧ kv = .int .i64 (k : Int) ∧ Hid ((l.take k).all inR = true)) (fun _ k => l.length - (intOf k).toNat)
      case atStart => exact ⟨0, Nat.zero_le _, rfl, Lib.hid (by simp)⟩
      case round =>
        obtain ⟨k, hk, rfl, HA⟩ := hrel
        by_cases hlt : k < l.length
        · obtain ⟨x, hx⟩ : ∃ x, l[k]? = some x := ⟨_, List.getElem?_eq_getElem hlt⟩
          have c0 := HC.out k (.int .i64 x) (by rw [ints_get, hx]; rfl)
          have kk : (k : Int) < (l.length : Int) := by omega
          by_cases hin : 0 ≤ x ∧ x ≤ 1000
          · have hd : decide ((0 : Int) ≤ x ∧ x ≤ 1000) = true := decide_eq_true hin
            have HA2 := Lib.hid (all_take_succ HA.out hx (by unfold inR; exact hd))
            clear hin hx
            go_wp2_with (go_at_call 38; refine (within_any _ _ _ _).mono ?_; rintro e w' ⟨rfl, rfl⟩)
            exact ⟨⟨k + 1, by omega, by go_num, HA2⟩, by simp [intOf]; omega⟩
          · have hd : decide ((0 : Int) ≤ x ∧ x ≤ 1000) = false := decide_eq_false hin
            have hf : l.all inR = false := by
              rw [Bool.eq_false_iff]
              intro h
              have := List.all_eq_true.1 h x (List.mem_of_getElem? hx)
              unfold inR at this
              rw [hd] at this; cases this
            have HF := Lib.hid hf
            clear hin hx hf
            go_wp2_with (go_at_call 38; refine (within_any _ _ _ _).mono ?_; rintro e w' ⟨rfl, rfl⟩)
            go_ret
            have hR := HRR.out
            rw [HF.out] at hR
            rw [hR]
            exact ⟨rfl, rfl⟩
        · have hke := Lib.hid (show k = l.length by omega)
          have hkn : ¬ (k : Int) < (l.length : Int) := by omega
          go_wp2
          go_ret
          have := HA.out
          rw [hke.out, List.take_length] at this
          have hR := HRR.out
          rw [this] at hR
          rw [hR]
          exact ⟨rfl, rfl⟩
end Go.Proofs.Ytnaoonegeboflaa.Hf
