/-
  The walks of the reference's All (letterbeckref2).
-/
import Derived.Test.YtnaoonegeboflaaRefIn
namespace Go.Proofs.Ytnaoonegeboflaa
open Go.RowKit
set_option linter.unusedVariables false

def inn (lo hi n : Int) : Bool := decide (lo ≤ n ∧ n ≤ hi)
theorem refall_any (A : Option Addr) (cap : Nat) (l : List Int) (lo hi : Int) (w : World) (hr : Reads w A l.length 1 (ints l)) (hm : l.length ≤ maxLen) :
    Calls Try.prog 8 #[.slice A l.length cap, .int .i64 lo, .int .i64 hi] w fun e w' => e = .returned (.bool (l.all (inn lo hi))) ∧ w = w' := by
  unfold maxLen at hm
  obtain ⟨r, hR⟩ : ∃ r, r = l.all (inn lo hi) := ⟨_, rfl⟩
  rw [← hR]
  have HR := Lib.hid hR; clear hR
  go_enter Try.func8, Try.ntmps8
  go_wp2
  go_loop [7] (fun i => ∃ k : Nat, k ≤ l.length ∧ i = .int .i64 k ∧ Hid ((l.take k).all (inn lo hi) = true)) (fun i => l.length - (intOf i).toNat)
  case atStart => exact ⟨0, Nat.zero_le _, rfl, Lib.hid rfl⟩
  case round =>
    obtain ⟨k, hk, rfl, HK⟩ := hrel
    by_cases hlt : k < l.length
    · obtain ⟨b, o, rfl, hb, hc⟩ := hr.2 (by omega)
      obtain ⟨n, hn⟩ : ∃ n, l[k]? = some n := ⟨_, List.getElem?_eq_getElem hlt⟩
      have c0 := hc k (.int .i64 n) (by rw [ints_get, hn]; rfl)
      have HN := Lib.hid hn
      clear hc hn
      cases hok : inn lo hi n
      · have hd : decide (lo ≤ n ∧ n ≤ hi) = false := hok
        have HOK := Lib.hid hok
        clear hok
        go_wp2_with (go_at_call 21; refine (refin_any _ _ _ _).mono ?_; rintro e w' ⟨rfl, rfl⟩)
        go_ret
        refine ⟨ret_bool ?_, rfl⟩
        rw [HR.out]
        symm
        rw [List.all_eq_false]
        exact ⟨n, List.mem_of_getElem? HN.out, by rw [HOK.out]; decide⟩
      · have hd : decide (lo ≤ n ∧ n ≤ hi) = true := hok
        have HOK := Lib.hid hok
        clear hok
        go_wp2_with (go_at_call 21; refine (refin_any _ _ _ _).mono ?_; rintro e w' ⟨rfl, rfl⟩)
        go_round
        case rel =>
          refine ⟨k + 1, by omega, by go_num, Lib.hid ?_⟩
          rw [List.take_add_one, HN.out, List.all_append, HK.out]
          simp [HOK.out]
        case measure => simp [intOf]; omega
    · go_wp2
      go_ret
      refine ⟨ret_bool ?_, rfl⟩
      rw [HR.out]
      have := HK.out
      rw [List.take_of_length_le (by omega)] at this
      rw [this]
end Go.Proofs.Ytnaoonegeboflaa
