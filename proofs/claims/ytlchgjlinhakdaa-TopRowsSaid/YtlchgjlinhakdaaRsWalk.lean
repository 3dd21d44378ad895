/-
  The walks of rise.Check, sort.SearchInts, rise.Piles, rise.Long.
-/
import Derived.Test.YtlchgjlinhakdaaRsPlain
import Derived.Test.YtlchgjlinhakdaaOwn
import Derived.Deep.LoopGhost
namespace Go.Proofs.Ytlchgjlinhakdaa.Rs
open Go.RowKit
set_option linter.unusedVariables false

theorem within_any (n lo hi : Int) (w : World) : Calls Try.prog 23 #[.int .i64 n, .int .i64 lo, .int .i64 hi] w fun e w' => e = .returned (.bool (decide (lo ≤ n ∧ n ≤ hi))) ∧ w = w' := by
  by_cases h1 : lo ≤ n <;> by_cases h2 : n ≤ hi
  all_goals
    go_enter Try.func23, Try.ntmps23
    go_wp2
    go_ret
    exact ⟨by simp [h1, h2], rfl⟩
def okN (n : Int) : Bool := decide (0 ≤ n ∧ n ≤ 1000)
/-- what is wrong with a list -/
def chk (l : List Int) : Int := if 20 < l.length then 4 else if l.all okN = true then 0 else 1
def errV (n : Int) : Value := if n = 0 then .nilIface else .iface 43 (.int .i64 n)

theorem check_no4 (A : Option Addr) (cap : Nat) (l : List Int) (w : World) (h : 20 < l.length) (hm : l.length ≤ maxLen) :
    Calls Try.prog 19 #[.slice A l.length cap] w fun e w' => e = .returned (.iface 43 (.int .i64 4)) ∧ w = w' := by
  unfold maxLen at hm
  have h1 : (20 : Int) < l.length := by omega
  go_enter Try.func19, Try.ntmps19
  go_wp2
  go_ret
  exact ⟨rfl, rfl⟩
theorem check_small (A : Option Addr) (cap : Nat) (l : List Int) (w : World) (hr : Reads w A l.length 1 (ints l)) (hm : l.length ≤ 20) (r : Int) (hR : r = if l.all okN = true then 0 else 1) :
    Calls Try.prog 19 #[.slice A l.length cap] w fun e w' => e = .returned (errV r) ∧ w = w' := by
  have HR := Lib.hid hR; clear hR
  go_enter Try.func19, Try.ntmps19
  go_wp2
  go_loop [11] (fun i => ∃ k : Nat, k ≤ l.length ∧ i = .int .i64 k ∧ Hid ((l.take k).all okN = true)) (fun i => l.length - (intOf i).toNat)
  case atStart => exact ⟨0, Nat.zero_le _, rfl, Lib.hid rfl⟩
  case round =>
    obtain ⟨k, hk, rfl, HK⟩ := hrel
    by_cases hlt : k < l.length
    · obtain ⟨b, o, rfl, hb, hc⟩ := hr.2 (by omega)
      obtain ⟨n, hn⟩ : ∃ n, l[k]? = some n := ⟨_, List.getElem?_eq_getElem hlt⟩
      have c0 := hc k (.int .i64 n) (by rw [ints_get, hn]; rfl)
      have HN := Lib.hid hn
      clear hc hn
      cases hok : okN n
      · have hd : decide (0 ≤ n ∧ n ≤ 1000) = false := hok
        have HOK := Lib.hid hok
        clear hok
        go_wp2_with (go_at_call 23; refine (within_any _ _ _ _).mono ?_; rintro e w' ⟨rfl, rfl⟩)
        go_ret
        refine ⟨?_, rfl⟩
        have : r = 1 := by
          rw [HR.out, if_neg]
          intro hall
          rw [List.all_eq_true] at hall
          have := hall n (List.mem_of_getElem? HN.out)
          rw [HOK.out] at this
          cases this
        rw [this]
        rfl
      · have hd : decide (0 ≤ n ∧ n ≤ 1000) = true := hok
        have HOK := Lib.hid hok
        clear hok
        go_wp2_with (go_at_call 23; refine (within_any _ _ _ _).mono ?_; rintro e w' ⟨rfl, rfl⟩)
        go_round
        case rel =>
          refine ⟨k + 1, by omega, by go_num, Lib.hid ?_⟩
          rw [List.take_add_one, HN.out, List.all_append, HK.out]
          simp [HOK.out]
        case measure => simp [intOf]; omega
    · go_wp2
      go_ret
      refine ⟨?_, rfl⟩
      have : r = 0 := by
        rw [HR.out, if_pos]
        have := HK.out
        rwa [List.take_of_length_le (by omega)] at this
      rw [this]
      rfl
theorem check_any (A : Option Addr) (cap : Nat) (l : List Int) (w : World) (hr : Reads w A l.length 1 (ints l)) (hm : l.length ≤ maxLen) :
    Calls Try.prog 19 #[.slice A l.length cap] w fun e w' => e = .returned (errV (chk l)) ∧ w = w' := by
  unfold chk
  by_cases h : 20 < l.length
  · rw [if_pos h]; exact check_no4 A cap l w h hm
  · rw [if_neg h]; exact check_small A cap l w hr (by omega) _ rfl
theorem chk_ok {l : List Int} (h : chk l = 0) : l.length ≤ 20 ∧ ∀ n ∈ l, 0 ≤ n ∧ n ≤ 1000 := by
  unfold chk at h
  by_cases h1 : 20 < l.length
  · rw [if_pos h1] at h; omega
  · rw [if_neg h1] at h
    by_cases h2 : l.all okN = true
    · refine ⟨by omega, fun n hn => ?_⟩
      rw [List.all_eq_true] at h2
      exact of_decide_eq_true (h2 n hn)
    · rw [if_neg h2] at h; omega
theorem chk_cases (l : List Int) : chk l = 0 ∨ chk l = 1 ∨ chk l = 4 := by
  unfold chk; split
  · simp
  · split <;> simp
theorem check_ok (A : Option Addr) (cap : Nat) (l : List Int) (w : World) (hr : Reads w A l.length 1 (ints l)) (h : chk l = 0) :
    Calls Try.prog 19 #[.slice A l.length cap] w fun e w' => e = .returned .nilIface ∧ w = w' := by
  have := check_any A cap l w hr (by have := (chk_ok h).1; unfold maxLen; omega)
  rw [h] at this
  exact this
theorem check_no (A : Option Addr) (cap : Nat) (l : List Int) (w : World) (hr : Reads w A l.length 1 (ints l)) (hm : l.length ≤ maxLen) (h : chk l ≠ 0) :
    Calls Try.prog 19 #[.slice A l.length cap] w fun e w' => e = .returned (.iface 43 (.int .i64 (chk l))) ∧ w = w' := by
  have := check_any A cap l w hr hm
  unfold errV at this
  rw [if_neg h] at this
  exact this

/-! ### sort.SearchInts -/
theorem clos_any (i b o cap len pa pb : Nat) (y n : Int) (w : World) (ha : w.cell? ⟨pa, 0, none⟩ = some (.slice (some ⟨b, o, none⟩) len cap)) (hn : w.cell? ⟨pb, 0, none⟩ = some (.int .i64 n)) (hi : i < len) (hy : w.cell? ⟨b, o + i, none⟩ = some (.int .i64 y)) :
    Calls Try.prog 27 #[.int .i64 i, .pointer (some ⟨pa, 0, none⟩), .pointer (some ⟨pb, 0, none⟩)] w fun e w' => e = .returned (.bool (decide (n ≤ y))) ∧ ∃ q, w' = w.drewN q := by
  have hiz : (i : Int) < (len : Int) := by omega
  go_enter Try.func27, Try.ntmps27
  go_wp2
  go_quiet (fail)
  go_wp2
  go_ret
  exact ⟨rfl, _, rfl⟩
/-- what is known at a round of the search -/
structure Halves (l : List Int) (n : Int) (lo hi : Nat) : Prop where
  lo : ∀ i t, i < lo → l[i]? = some t → t < n
  hi : ∀ i t, hi ≤ i → l[i]? = some t → n ≤ t
theorem Halves.up {l : List Int} {n : Int} {lo hi m : Nat} {y : Int} (h : Halves l n lo hi) (ha : Asc l) (hm : l[m]? = some y) (hy : y < n) : Halves l n (m + 1) hi :=
  ⟨fun i t hi ht => by have := ha i m t y (by omega) ht hm; omega, h.hi⟩
theorem Halves.down {l : List Int} {n : Int} {lo hi m : Nat} {y : Int} (h : Halves l n lo hi) (ha : Asc l) (hm : l[m]? = some y) (hy : n ≤ y) : Halves l n lo m :=
  ⟨h.lo, fun i t hi ht => by have := ha m i y t hi hm ht; omega⟩
set_option maxHeartbeats 1000000 in
theorem search_halves (A : Option Addr) (cap : Nat) (l : List Int) (n : Int) (pa pb : Nat) (w : World) (hr : Reads w A l.length 1 (ints l)) (hm : l.length ≤ 1000) (hasc : Asc l)
    (ha : w.cell? ⟨pa, 0, none⟩ = some (.slice A l.length cap)) (hn : w.cell? ⟨pb, 0, none⟩ = some (.int .i64 n)) :
    Calls Try.prog 26 #[.int .i64 l.length, .func (Fn.func 27) #[] #[.pointer (some ⟨pa, 0, none⟩), .pointer (some ⟨pb, 0, none⟩)]] w fun e w' => e = .returned (.int .i64 (pos n l)) ∧ ∃ q, w' = w.drewN q := by
  have HA := Lib.hid hasc
  clear hasc
  obtain ⟨p, hp⟩ : ∃ p, p = pos n l := ⟨_, rfl⟩
  rw [← hp]
  have HP := Lib.hid hp
  clear hp
  go_enter Try.func26, Try.ntmps26
  go_wp2
  go_loopg [5, 6] l.length (fun kx s5 s6 wr => ∃ (lo hi q : Nat), s5 = .int .i64 lo ∧ s6 = .int .i64 hi ∧ lo ≤ hi ∧ hi ≤ l.length ∧ hi - lo ≤ kx ∧ wr = w.drewN q ∧ Hid (Halves l n lo hi))
  case atStart => exact ⟨0, l.length, 0, rfl, rfl, Nat.zero_le _, Nat.le_refl _, by omega, rfl, Lib.hid ⟨fun i t h => by omega, fun i t h ht => by have := (List.getElem?_eq_some_iff.1 ht).1; omega⟩⟩
  case round =>
    obtain ⟨lo, hi, q, rfl, rfl, hlh, hin, hg, rfl, HH⟩ := hrel
    by_cases hlt : lo < hi
    · have hmid : (lo + hi) / 2 < l.length := by omega
      obtain ⟨y, hy⟩ : ∃ y, l[(lo + hi) / 2]? = some y := ⟨_, List.getElem?_eq_getElem hmid⟩
      obtain ⟨b, o, rfl, hb, hc⟩ := hr.2 (by omega)
      have hc' := clos_any ((lo + hi) / 2) b o cap l.length pa pb y n (w.drewN q) ha hn hmid (hc _ (.int .i64 y) (by rw [ints_get, hy]; rfl))
      rw [show (((lo + hi) / 2 : Nat) : Int) = ((lo : Int) + (hi : Int)) / 2 by omega] at hc'
      have HY := Lib.hid hy
      clear hy hc
      by_cases hny : n ≤ y
      · rw [decide_eq_true hny] at hc'
        have HC := Lib.hid hc'
        clear hc'
        go_wp2_with (go_at_call 27; refine HC.out.mono ?_; rintro e w' ⟨rfl, nq, rfl⟩)
        go_roundg ((lo + hi) / 2 - lo)
        case measure => omega
        case rel => exact ⟨lo, (lo + hi) / 2, q + nq, rfl, by rw [show ((lo : Int) + (hi : Int)) / 2 = (((lo + hi) / 2 : Nat) : Int) by omega], by omega, by omega, Nat.le_refl _, rfl, Lib.hid (HH.out.down HA.out HY.out hny)⟩
      · rw [decide_eq_false hny] at hc'
        have HC := Lib.hid hc'
        clear hc'
        go_wp2_with (go_at_call 27; refine HC.out.mono ?_; rintro e w' ⟨rfl, nq, rfl⟩)
        go_roundg (hi - ((lo + hi) / 2 + 1))
        case measure => omega
        case rel => exact ⟨(lo + hi) / 2 + 1, hi, q + nq, by rw [show ((lo : Int) + (hi : Int)) / 2 + 1 = (((lo + hi) / 2 + 1 : Nat) : Int) by omega], rfl, by omega, by omega, Nat.le_refl _, rfl, Lib.hid (HH.out.up HA.out HY.out (by omega))⟩
    · obtain rfl : hi = lo := by omega
      have hp : p = hi := by
        rw [HP.out]
        exact (pos_unique hin HH.out.lo HH.out.hi).symm
      subst hp
      go_wp2
      go_ret
      exact ⟨rfl, _, rfl⟩
theorem search_any (A : Option Addr) (cap : Nat) (l : List Int) (n : Int) (w : World) (hr : Reads w A l.length 1 (ints l)) (hm : l.length ≤ 1000) (hasc : Asc l) :
    Calls Try.prog 21 #[.slice A l.length cap, .int .i64 n] w fun e w' => e = .returned (.int .i64 (pos n l)) ∧ Below w.heap.size w w' := by
  have hb : Below w.heap.size w ((w.alloc (.cells #[.slice A l.length cap] 22)).alloc (.cells #[.int .i64 n] 3)) := bmore (bnew _ _) _
  have hr' := hr.below hb
  have HS := Lib.hid (search_halves A cap l n w.heap.size (w.heap.size + 1) _ hr' hm hasc)
  have HB := Lib.hid hb
  clear hasc hr' hb hr
  go_enter Try.func21, Try.ntmps21
  go_wp2_with (go_at_call 26; refine (HS.out (by simp) (by simp)).mono ?_; rintro e w' ⟨rfl, nq, rfl⟩)
  go_ret
  exact ⟨rfl, bdrew HB.out _⟩
end Go.Proofs.Ytlchgjlinhakdaa.Rs
