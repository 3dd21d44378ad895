/-
  The walk of the comparison of two lists of numbers (letterbecksame.Ints), for every two slices that can be read.
-/
import Derived.Test.YtnaoonegeboflaaBase
namespace Go.Proofs.Ytnaoonegeboflaa
open Go.RowKit

theorem ints_any (A B : Option Addr) (c d : Nat) (l m : List Int) (w : World) (hl : Reads w A l.length 1 (ints l)) (hm : Reads w B m.length 1 (ints m)) (h1 : l.length ≤ maxLen) :
    Calls Try.prog 10 #[.slice A l.length c, .slice B m.length d] w fun e w' => e = .returned (.bool (decide (l = m))) ∧ Below w.heap.size w w' := by
  unfold maxLen at h1
  by_cases hlen : l.length = m.length
  · obtain ⟨n, hn⟩ : ∃ n, n = l.length := ⟨_, rfl⟩
    have e1 := Lib.hid hn.symm; have e2 := Lib.hid (hlen.symm.trans hn.symm)
    rw [e1.out] at hl h1
    rw [e2.out] at hm
    rw [e1.out, e2.out]
    clear hn hlen
    go_enter Try.func10, Try.ntmps10
    go_wp2
    go_loopw [5] (fun i wr => ∃ k : Nat, k ≤ n ∧ i = .int .i64 k ∧ Hid (l.take k = m.take k) ∧ Below w.heap.size w wr)
      (fun i _ => n - (intOf i).toNat)
    case atStart => exact ⟨0, Nat.zero_le _, rfl, Lib.hid (by simp), Below.refl _ _⟩
    case round =>
      obtain ⟨k, hk, rfl, HK, hbel⟩ := hrel
      by_cases hlt : k < n
      · obtain ⟨b, o, rfl, hb, hc⟩ := (hl.below hbel).2 (by omega)
        obtain ⟨b', o', rfl, hb', hc'⟩ := (hm.below hbel).2 (by omega)
        obtain ⟨x, hp⟩ : ∃ p, l[k]? = some p := ⟨_, List.getElem?_eq_getElem (by rw [e1.out]; exact hlt)⟩
        obtain ⟨y, hq⟩ : ∃ p, m[k]? = some p := ⟨_, List.getElem?_eq_getElem (by rw [e2.out]; exact hlt)⟩
        have c0 := hc k (.int .i64 x) (by rw [ints_get, hp]; rfl)
        have d0 := hc' k (.int .i64 y) (by rw [ints_get, hq]; rfl)
        have HP := Lib.hid hp; have HQ := Lib.hid hq; clear hp hq hc hc'
        by_cases he : x = y
        · have hr : (x != y) = false := by simpa using he
          have HE := Lib.hid he; clear he
          go_wp2
          go_quiet (fail)
          go_wp2
          go_roundw
          case rel => exact ⟨k + 1, by omega, by go_num, Lib.hid (take_succ_eq' HK.out HP.out HQ.out HE.out), bdrew hbel _⟩
          case measure => simp [intOf]; omega
        · have hr : (x != y) = true := by simpa using he
          have HE := Lib.hid he; clear he
          go_wp2
          go_quiet (fail)
          go_wp2
          go_ret
          refine ⟨ret_bool (decide_eq_false fun h => ?_).symm, bdrew hbel _⟩
          rw [h] at HP
          exact HE.out (Option.some.inj (HP.out.symm.trans HQ.out))
      · have hge : n ≤ k := by omega
        go_wp2
        go_ret
        refine ⟨?_, hbel⟩
        have := HK.out
        rw [List.take_of_length_le (by rw [e1.out]; omega), List.take_of_length_le (by rw [e2.out]; omega)] at this
        exact ret_bool (decide_eq_true this).symm
  · have hlen' : (l.length == m.length) = false := by simpa using hlen
    have hlen'' : (l.length != m.length) = true := by simpa using hlen
    have hne : l ≠ m := fun h => hlen (by rw [h])
    have HN := Lib.hid hne
    clear hlen hne
    go_enter Try.func10, Try.ntmps10
    go_wp2
    go_ret
    exact ⟨ret_bool (decide_eq_false HN.out).symm, Below.refl _ _⟩
end Go.Proofs.Ytnaoonegeboflaa
