/-
  The walks of slices.Index at texts.
-/
import Derived.Test.YtfjjjkfldekooaaBs
namespace Go.Proofs.Ytfjjjkfldekooaa
open Go.RowKit
set_option linter.unusedVariables false
set_option linter.unusedSimpArgs false

theorem index_text (A : Option Addr) (c : Nat) (l : List ByteArray) (s : ByteArray) (w : World) (hr : Reads w A l.length 1 (texts l)) (hm : l.length ≤ maxLen) :
    Calls Try.prog 28 #[.slice A l.length c, .string s] w fun e w' => (∃ n : Int, e = .returned (.int .i64 n) ∧ ((n = -1 ∧ s ∉ l) ∨ ∃ k : Nat, n = (k : Int) ∧ l[k]? = some s ∧ s ∉ l.take k)) ∧ w = w' := by
  unfold maxLen at hm
  go_enter Try.func28, Try.ntmps28
  go_wp2
  go_loop [5, 8] (fun _ kv => ∃ k : Nat, k ≤ l.length ∧ kv = .int .i64 (k : Int) ∧ Hid (s ∉ l.take k)) (fun _ k => l.length - (intOf k).toNat)
  case atStart => exact ⟨0, Nat.zero_le _, rfl, Lib.hid (by simp)⟩
  case round =>
    obtain ⟨k, hk, rfl, HA⟩ := hrel
    by_cases hlt : k < l.length
    · obtain ⟨b, o, rfl, hb, hc⟩ := hr.2 (by omega)
      obtain ⟨x, hx⟩ : ∃ x, l[k]? = some x := ⟨_, List.getElem?_eq_getElem hlt⟩
      have c0 := hc k (.string x) (by rw [texts_get, hx]; rfl)
      have kk : (k : Int) < (l.length : Int) := by omega
      have HX := Lib.hid hx
      clear hc hx
      by_cases hin : s = x
      · have h1 : (s.toList == x.toList) = true := by rw [hin]; exact beq_self_eq_true _
        have HS := Lib.hid hin
        clear hin
        go_wp2
        go_ret
        exact ⟨⟨_, rfl, .inr ⟨k, rfl, by rw [HX.out, HS.out], HA.out⟩⟩, rfl⟩
      · have h1 : (s.toList == x.toList) = false := by rw [bs_beq, beq_eq_false_iff_ne]; exact fun h => hin (bs_inj h)
        have HS := Lib.hid hin
        clear hin
        go_wp2
        refine ⟨⟨k + 1, by omega, by go_num, Lib.hid ?_⟩, by simp [intOf]; omega⟩
        rw [List.take_add_one, HX.out]
        intro h
        rcases List.mem_append.1 h with h | h
        · exact HA.out h
        · exact HS.out (by simpa using h)
    · have kk : ¬ (k : Int) < (l.length : Int) := by omega
      have hke := Lib.hid (show k = l.length by omega)
      go_wp2
      go_ret
      have := HA.out
      rw [hke.out, List.take_length] at this
      exact ⟨⟨_, rfl, .inl ⟨rfl, this⟩⟩, rfl⟩

end Go.Proofs.Ytfjjjkfldekooaa
