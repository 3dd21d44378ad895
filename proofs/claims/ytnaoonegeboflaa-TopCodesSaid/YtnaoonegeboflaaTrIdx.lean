/-
  The walks of slices.Index and slices.Contains at texts.
-/
import Derived.Test.YtnaoonegeboflaaBs
namespace Go.Proofs.Ytnaoonegeboflaa
open Go.RowKit
set_option linter.unusedVariables false
set_option linter.unusedSimpArgs false

theorem index_text (A : Option Addr) (c : Nat) (l : List ByteArray) (s : ByteArray) (w : World) (hr : Reads w A l.length 1 (texts l)) (hm : l.length ≤ maxLen) :
    Calls Try.prog 43 #[.slice A l.length c, .string s] w fun e w' => (∃ n : Int, e = .returned (.int .i64 n) ∧ ((n = -1 ∧ s ∉ l) ∨ ∃ k : Nat, n = (k : Int) ∧ l[k]? = some s ∧ s ∉ l.take k)) ∧ w = w' := by
  unfold maxLen at hm
  go_enter Try.func43, Try.ntmps43
  go_wp2
  go_loop [5, 8] (fun _ kv => ∃ k : Nat, k ≤ l.length ∧ kv = .int .i64 (k : Int) ∧ Hid (s ∉ l.take k)) (fun _ k => l.length - (intOf k).toNat)
  case atStart => exact ⟨0, Nat.zero_le _, rfl, Lib.hid (by simp)⟩
  case round =>
    obtain ⟨k, hk, rfl, HA⟩ := hrel
    by_cases hlt : k < l.length
    · obtain ⟨b, o, rfl, hb, hc⟩ := hr.2 (by omega)
      obtain ⟨x, hx⟩ : ∃ x, l[k]? = some x := ⟨_, List.getElem?_eq_getElem hlt⟩
      have c0 := hc k (.string x) (by rw [texts_get, hx]; rfl)
      have kk : (k : Int) < (l.length : Int) := by omega
      have HX := Lib.hid hx
      clear hc hx
      by_cases hin : s = x
      · have h1 : (s.toList == x.toList) = true := by rw [hin]; exact beq_self_eq_true _
        have HS := Lib.hid hin
        clear hin
        go_wp2
        go_ret
        exact ⟨⟨_, rfl, .inr ⟨k, rfl, by rw [HX.out, HS.out], HA.out⟩⟩, rfl⟩
      · have h1 : (s.toList == x.toList) = false := by rw [bs_beq, beq_eq_false_iff_ne]; exact fun h => hin (bs_inj h)
        have HS := Lib.hid hin
        clear hin
        go_wp2
        refine ⟨⟨k + 1, by omega, by go_num, Lib.hid ?_⟩, by simp [intOf]; omega⟩
        rw [List.take_add_one, HX.out]
        intro h
        rcases List.mem_append.1 h with h | h
        · exact HA.out h
        · exact HS.out (by simpa using h)
    · have kk : ¬ (k : Int) < (l.length : Int) := by omega
      have hke := Lib.hid (show k = l.length by omega)
      go_wp2
      go_ret
      have := HA.out
      rw [hke.out, List.take_length] at this
      exact ⟨⟨_, rfl, .inl ⟨rfl, this⟩⟩, rfl⟩

theorem contains_text (A : Option Addr) (c : Nat) (l : List ByteArray) (s : ByteArray) (w : World) (hr : Reads w A l.length 1 (texts l)) (hm : l.length ≤ maxLen) :
    Calls Try.prog 35 #[.slice A l.length c, .string s] w fun e w' => e = .returned (.bool ((l.map bs).contains (bs s))) ∧ w = w' := by
  have hc := index_text A c l s w hr hm
  go_enter Try.func35, Try.ntmps35
  go_wp2_with fail
  refine hc.mono ?_
  rintro e w' ⟨⟨n, rfl, h⟩, rfl⟩
  go_wp2
  go_ret
  refine ⟨ret_bool ?_, rfl⟩
  rw [Bool.eq_iff_iff, List.contains_iff_mem]
  rcases h with ⟨rfl, h⟩ | ⟨k, rfl, h, _⟩
  · constructor
    · intro h2; simp at h2
    · intro h2
      obtain ⟨y, hy, e⟩ := List.mem_map.1 h2
      exact absurd (bs_inj e ▸ hy) h
  · constructor
    · intro _; exact List.mem_map_of_mem (List.mem_of_getElem? h)
    · intro _; simp
end Go.Proofs.Ytnaoonegeboflaa
