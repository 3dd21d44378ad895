/-
  The walk of the law TopCodes where there are no weights, or too few or too many.
-/
import Derived.Test.YtnaoonegeboflaaTcPlain
namespace Go.Proofs.Ytnaoonegeboflaa.topCodes
open Go.RowKit Hf Kf Tc
set_option linter.unusedVariables false
set_option linter.unusedSimpArgs false

theorem in_any (n lo hi : Int) (w : World) : Calls Try.prog 15 #[.int .i64 n, .int .i64 lo, .int .i64 hi] w fun e w' => e = .returned (.bool (decide (lo ≤ n ∧ n ≤ hi))) ∧ w = w' := by
  by_cases h1 : lo ≤ n <;> by_cases h2 : n ≤ hi
  all_goals
    go_enter Try.func15, Try.ntmps15
    go_wp2
    go_ret
    exact ⟨by simp [h1, h2], rfl⟩
theorem in_is (n lo hi : Int) (b : Bool) (h : decide (lo ≤ n ∧ n ≤ hi) = b) (w : World) : Calls Try.prog 15 #[.int .i64 n, .int .i64 lo, .int .i64 hi] w fun e w' => e = .returned (.bool b) ∧ w = w' := by
  subst h; exact in_any n lo hi w
theorem long_two (w : World) (g : Nat) (hr : Reads w (some ⟨g, 0, none⟩) 2 1 (ints [1, 2])) :
    Calls Try.prog 13 #[.slice (some ⟨g, 0, none⟩) 2 2] w fun e w' => ∃ G, e = .returned (.tuple #[.slice (some ⟨G, 0, none⟩) 2 2, .nilIface]) ∧ IBlk w' G [1, 1] ∧ w.heap.size ≤ G ∧ Below w.heap.size w w' := by
  have h := long_ok (some ⟨g, 0, none⟩) 2 [1, 2] w hr (by decide +kernel)
  rw [show lens [1, 2] = [1, 1] by decide +kernel] at h
  exact h

set_option maxHeartbeats 1000000 in
theorem walk_no (w : World) (A : Option Addr) (c : Nat) (l : List Int) (hr : Reads w A l.length 1 (ints l)) (hm : l.length ≤ maxLen) (hck : ck l ≠ 0) (B : Option Addr) (n d : Nat) :
    Calls Try.prog 5 #[.slice A l.length c, .slice B n d] w fun e w' => e = .returned (.bool true) ∧ Below w.heap.size w w' := by
  have HL := Lib.hid (fun W (h : Below w.heap.size w W) => long_no A c l W (hr.below h) hm hck)
  generalize ck l = E at *
  clear hr hck hm
  go_enter Try.func5, Try.ntmps5
  go_wp2_with fail
  refine (HL.out _ (Below.refl _ _)).mono ?_
  rintro e w1 ⟨rfl, rfl⟩
  go_wp2_with fail
  refine (long_two _ _ (reads_new w 3 (ints [1, 2]) 2 1 rfl)).mono ?_
  rintro e w2 ⟨G, rfl, hG, hGg, hb2⟩
  have hb := bnext (bnew _ _) hb2
  clear hb2
  go_wp2_with fail
  refine (ints_any (some ⟨G, 0, none⟩) (some ⟨w2.heap.size, 0, none⟩) 2 2 [1, 1] [1, 1] _ (hG.alloc _).reads (reads_new w2 3 (ints [1, 1]) 2 1 rfl) (by decide)).mono ?_
  rintro e w3 ⟨rfl, hb3⟩
  go_wp2_with fail
  go_ret
  exact ⟨rfl, bnext (bmore hb _) hb3⟩
set_option maxHeartbeats 1000000 in
theorem walk_few (w : World) (A : Option Addr) (c : Nat) (l : List Int) (hr : Reads w A l.length 1 (ints l)) (hck : ck l = 0) (hf : l.length < 2 ∨ 6 < l.length) (B : Option Addr) (n d : Nat) :
    Calls Try.prog 5 #[.slice A l.length c, .slice B n d] w fun e w' => e = .returned (.bool true) ∧ Below w.heap.size w w' := by
  have HL := Lib.hid (fun W (h : Below w.heap.size w W) => long_ok A c l W (hr.below h) hck)
  have h10 := (ck_ok hck).2.1
  generalize lens l = m at *
  clear hr hck
  by_cases hlo : l.length < 2
  · have k1 : (l.length : Int) < 2 := by omega
    clear hf hlo
    go_enter Try.func5, Try.ntmps5
    go_wp2_with fail
    refine (HL.out _ (Below.refl _ _)).mono ?_
    rintro e w1 ⟨G1, rfl, _, _, hb1⟩
    go_wp2_with fail
    refine (long_two _ _ (reads_new w1 3 (ints [1, 2]) 2 1 rfl)).mono ?_
    rintro e w2 ⟨G, rfl, hG, hGg, hb2⟩
    have hb := bnext (bmore hb1 _) hb2
    clear hb2 hb1
    go_wp2_with fail
    refine (ints_any (some ⟨G, 0, none⟩) (some ⟨w2.heap.size, 0, none⟩) 2 2 [1, 1] [1, 1] _ (hG.alloc _).reads (reads_new w2 3 (ints [1, 1]) 2 1 rfl) (by decide)).mono ?_
    rintro e w3 ⟨rfl, hb3⟩
    go_wp2_with fail
    go_ret
    exact ⟨rfl, bnext (bmore hb _) hb3⟩
  · have k1 : ¬ (l.length : Int) < 2 := by omega
    have k2 : (6 : Int) < (l.length : Int) := by omega
    clear hf hlo
    go_enter Try.func5, Try.ntmps5
    go_wp2_with fail
    refine (HL.out _ (Below.refl _ _)).mono ?_
    rintro e w1 ⟨G1, rfl, _, _, hb1⟩
    go_wp2_with fail
    refine (long_two _ _ (reads_new w1 3 (ints [1, 2]) 2 1 rfl)).mono ?_
    rintro e w2 ⟨G, rfl, hG, hGg, hb2⟩
    have hb := bnext (bmore hb1 _) hb2
    clear hb2 hb1
    go_wp2_with fail
    refine (ints_any (some ⟨G, 0, none⟩) (some ⟨w2.heap.size, 0, none⟩) 2 2 [1, 1] [1, 1] _ (hG.alloc _).reads (reads_new w2 3 (ints [1, 1]) 2 1 rfl) (by decide)).mono ?_
    rintro e w3 ⟨rfl, hb3⟩
    go_wp2_with fail
    go_ret
    exact ⟨rfl, bnext (bmore hb _) hb3⟩
end Go.Proofs.Ytnaoonegeboflaa.topCodes
