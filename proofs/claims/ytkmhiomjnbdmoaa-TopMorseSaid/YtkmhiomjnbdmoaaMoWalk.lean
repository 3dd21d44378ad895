/-
  The walk of morse.Word.
-/
import Derived.Test.YtkmhiomjnbdmoaaSb
import Derived.Test.YtkmhiomjnbdmoaaMoPlain
namespace Go.Proofs.Ytkmhiomjnbdmoaa.Mo
open Go.RowKit
set_option linter.unusedVariables false

theorem within_any (n lo hi : Int) (w : World) : Calls Try.prog 10 #[.int .i64 n, .int .i64 lo, .int .i64 hi] w fun e w' => e = .returned (.bool (decide (lo ≤ n ∧ n ≤ hi))) ∧ w = w' := by
  by_cases h1 : lo ≤ n <;> by_cases h2 : n ≤ hi
  all_goals
    go_enter Try.func10, Try.ntmps10
    go_wp2
    go_ret
    exact ⟨by simp [h1, h2], rfl⟩

structure MRel (w wr : World) (k : Nat) : Prop where
  is : Sb.Is wr (w.heap.size + 1) w.heap.size (word k)
  below : Below w.heap.size w wr
  size : w.heap.size + 1 ≤ wr.heap.size
theorem MRel.put {w wr w' : World} {k : Nat} (h : MRel w wr k) (h1 : Sb.Is w' (w.heap.size + 1) w.heap.size (word k ++ [wd k])) (h2 : Sb.But (w.heap.size + 1) w.heap.size wr w') : MRel w w' (k + 1) :=
  ⟨by rw [word_succ]; exact h1, h.below.trans (h2.below (by omega) (Nat.le_refl _)), by have := h2.size; have := h.size; omega⟩

set_option maxHeartbeats 2000000 in
set_option maxRecDepth 100000 in
theorem word_any (n : Nat) (hn : n ≤ 200) (w : World) :
    Calls Try.prog 4 #[.int .i64 (n : Int)] w fun e w' => e = .returned (.tuple #[.string ⟨(word n).toArray⟩, .nilIface]) ∧ Below w.heap.size w w' := by
  have hw : (n : Int) ≤ 200 := by omega
  go_enter Try.func4, Try.ntmps4
  go_wp2_with (go_at_call 10; refine (within_any _ _ _ _).mono ?_; rintro e w' ⟨rfl, rfl⟩)
  go_loopw [5, 6, 13] (fun a b i wr => ∃ k : Nat, k ≤ n ∧ i = .int .i64 (k : Int) ∧ MRel w wr k) (fun _ _ i _ => n - (intOf i).toNat)
  case atStart => exact ⟨0, Nat.zero_le _, rfl, Sb.Is.new _ _, bnew _ _, by simp⟩
  case round =>
    obtain ⟨k, hk, rfl, hrel⟩ := hrel
    by_cases hlt : k < n
    · go_wp2
      go_loop [5, 6] (fun iv ov => ∃ f i o : Nat, i ≤ f ∧ o < 2 ∧ Hid (pf f i o = par k) ∧ i ≤ 200 ∧ iv = .int .i64 (i : Int) ∧ ov = .int .i64 (o : Int)) (fun i _ => (intOf i).toNat)
      case atStart => exact ⟨k, k, 0, Nat.le_refl _, by decide, Lib.hid rfl, by omega, rfl, rfl⟩
      case round =>
        obtain ⟨f, i, o, hf, ho, HP, hi, rfl, rfl⟩ := hrel
        rcases Nat.eq_zero_or_pos i with rfl | hi0
        · have he : o = par k := by have := HP.out; rwa [pf_zero] at this
          have hsz := hrel.size
          have hm := word_length k
          have hwd : wd k = UInt8.ofNat (48 + o) := by rw [he]; rfl
          have hwb := fun n h => Sb.write_byte wr (w.heap.size + 1) w.heap.size (word k) (wd k) n h hrel.is (by omega) hsz (by omega)
          have HW := Lib.hid hwb
          have HWD := Lib.hid hwd
          have HR := Lib.hid hrel
          clear hwb hwd hrel he HP
          have h01 : o = 0 ∨ o = 1 := by omega
          rcases h01 with rfl | rfl
          all_goals
            go_wp2_with fail
            refine (HW.out _ (by rw [HWD.out]; rfl)).mono ?_
            rintro e w2 ⟨rfl, hI, hB⟩
            go_wp2
            refine ⟨⟨k + 1, by omega, by go_num, HR.out.put hI hB⟩, by simp [intOf]; omega⟩
        · obtain ⟨f', hf', hpf⟩ := pf_step f i o hf (by omega)
          have hd : (i : Int).tdiv 2 = ((i / 2 : Nat) : Int) := by rw [Int.ofNat_tdiv]; rfl
          have hin : (0 : Int) < (i : Int) := by omega
          have wr1 : IntKind.i64.wrap ((i / 2 : Nat) : Int) = ((i / 2 : Nat) : Int) := IntWalk.i64_in _ (by omega)
          have HP2 := Lib.hid (hpf.symm.trans HP.out)
          have HF := Lib.hid hf'
          clear hpf hf'
          have h01 : o = 0 ∨ o = 1 := by omega
          have h02 : i % 2 = 0 ∨ i % 2 = 1 := by omega
          rcases h01 with rfl | rfl <;> rcases h02 with h | h
          all_goals
            have hr : (i : Int).tmod 2 = ((i % 2 : Nat) : Int) := by rw [Int.ofNat_tmod]; rfl
            rw [h] at hr
            have H := Lib.hid h
            clear h
            go_wp2
            have h := H.out
            first
              | (have e : (0 + i) % 2 = 0 := by omega
                 refine ⟨⟨f', i / 2, (0 + i) % 2, HF.out, Nat.mod_lt _ (by decide), HP2, by omega, by simp, by rw [e]; rfl⟩, by simp [intOf]; omega⟩)
              | (have e : (0 + i) % 2 = 1 := by omega
                 refine ⟨⟨f', i / 2, (0 + i) % 2, HF.out, Nat.mod_lt _ (by decide), HP2, by omega, by simp, by rw [e]; rfl⟩, by simp [intOf]; omega⟩)
              | (have e : (1 + i) % 2 = 1 := by omega
                 refine ⟨⟨f', i / 2, (1 + i) % 2, HF.out, Nat.mod_lt _ (by decide), HP2, by omega, by simp, by rw [e]; rfl⟩, by simp [intOf]; omega⟩)
              | (have e : (1 + i) % 2 = 0 := by omega
                 refine ⟨⟨f', i / 2, (1 + i) % 2, HF.out, Nat.mod_lt _ (by decide), HP2, by omega, by simp, by rw [e]; rfl⟩, by simp [intOf]; omega⟩)
    · obtain rfl : k = n := by omega
      have hsz := hrel.size
      have HR := Lib.hid hrel
      clear hrel
      go_wp2_with fail
      refine (Sb.string_any wr (w.heap.size + 1) w.heap.size (word k) HR.out.is (by omega) hsz).mono ?_
      rintro e w2 ⟨rfl, hB⟩
      go_wp2
      go_ret2
      exact ⟨rfl, HR.out.below.trans (hB.below (by omega) (Nat.le_refl _))⟩

theorem word_no (n : Int) (hn : ¬ (0 ≤ n ∧ n ≤ 200)) (w : World) :
    Calls Try.prog 4 #[.int .i64 n] w fun e w' => e = .returned (.tuple #[.string ⟨#[]⟩, .iface 38 (.int .i64 1)]) ∧ Below w.heap.size w w' := by
  have hw : decide ((0 : Int) ≤ n ∧ n ≤ 200) = false := decide_eq_false hn
  go_enter Try.func4, Try.ntmps4
  go_wp2_with (go_at_call 10; refine (within_any _ _ _ _).mono ?_; rintro e w' ⟨rfl, rfl⟩)
  go_ret2
  exact ⟨rfl, Below.refl _ _⟩
end Go.Proofs.Ytkmhiomjnbdmoaa.Mo
