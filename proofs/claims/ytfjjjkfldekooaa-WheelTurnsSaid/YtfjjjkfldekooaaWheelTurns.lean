/-
  The walk of the law WheelTurns, for every text and every place; the library's variable holds some number.
-/
import Derived.Test.YtfjjjkfldekooaaWhFact
import Derived.Test.YtfjjjkfldekooaaWhSame
namespace Go.Proofs.Ytfjjjkfldekooaa.wheelTurns
open Go.RowKit
set_option linter.unusedVariables false
set_option linter.unusedSimpArgs false

theorem in_any (n lo hi : Int) (w : World) : Calls Try.prog 12 #[.int .i64 n, .int .i64 lo, .int .i64 hi] w fun e w' => e = .returned (.bool (decide (lo ≤ n ∧ n ≤ hi))) ∧ w = w' := by
  by_cases h1 : lo ≤ n <;> by_cases h2 : n ≤ hi
  all_goals
    go_enter Try.func12, Try.ntmps12
    go_wp2
    go_ret
    exact ⟨ret_bool (by simp [h1, h2]), rfl⟩
theorem in_is {n lo hi : Int} {b : Bool} (h : decide (lo ≤ n ∧ n ≤ hi) = b) (w : World) : Calls Try.prog 12 #[.int .i64 n, .int .i64 lo, .int .i64 hi] w fun e w' => e = .returned (.bool b) ∧ w = w' := by
  rw [← h]
  exact in_any n lo hi w

set_option maxHeartbeats 1000000 in
set_option maxRecDepth 100000 in
theorem walk_far (w : World) (s : ByteArray) (i : Int) (hs : 24 < s.size) :
    Calls Try.prog 5 #[.string s, .int .i64 i] w fun e w' => e = .returned (.bool true) ∧ Below w.heap.size w w' := by
  have HF := Lib.hid wfact_any
  have HT := Lib.hid (fun (W : World) => there_no s W hs)
  go_enter Try.func5, Try.ntmps5
  go_wp2_with fail
  refine (HF.out _).mono ?_
  rintro e w1 ⟨rfl, hb1⟩
  go_wp2_with fail
  refine (HT.out _).mono ?_
  rintro e w2 ⟨rfl, hb2⟩
  go_wp2_with fail
  go_ret
  exact ⟨rfl, bnext hb1 hb2⟩
set_option maxHeartbeats 1000000 in
set_option maxRecDepth 100000 in
theorem walk_out (w : World) (s : ByteArray) (i : Int) (hs : s.size ≤ 24) (hi : ¬ (0 ≤ i ∧ i ≤ (s.size : Int) - 1)) :
    Calls Try.prog 5 #[.string s, .int .i64 i] w fun e w' => e = .returned (.bool true) ∧ Below w.heap.size w w' := by
  have HF := Lib.hid wfact_any
  have HT := Lib.hid (fun (W : World) => there_le s W hs)
  have e1 : IntKind.i64.wrap ((s.size : Int) - 1) = (s.size : Int) - 1 := IntWalk.i64_in _ (by omega)
  have HI := Lib.hid (fun (W : World) => in_is (b := false) (decide_eq_false hi) W)
  clear hi
  go_enter Try.func5, Try.ntmps5
  go_wp2_with fail
  refine (HF.out _).mono ?_
  rintro e w1 ⟨rfl, hb1⟩
  go_wp2_with fail
  refine (HT.out _).mono ?_
  rintro e w2 ⟨⟨k, rfl⟩, hb2⟩
  go_wp2_with (go_at_call 12; refine (HI.out _).mono ?_; rintro e w3 ⟨rfl, rfl⟩)
  go_ret
  exact ⟨rfl, bnext hb1 hb2⟩
set_option maxHeartbeats 1000000 in
set_option maxRecDepth 100000 in
theorem walk_ok (w : World) (s : ByteArray) (i : Nat) (hs : s.size ≤ 24) (hi : i < s.size) (m : Int) (hm : w.cell? ⟨0, 0, none⟩ = some (.int .i64 m)) :
    Calls Try.prog 5 #[.string s, .int .i64 (i : Int)] w fun e w' => e = .returned (.bool true) ∧ Below w.heap.size w w' := by
  have hlt : 0 < w.heap.size := by
    refine Nat.pos_of_ne_zero fun e => ?_
    unfold World.cell? at hm
    rw [Array.getElem?_eq_none (by omega)] at hm
    cases hm
  have HF := Lib.hid wfact_any
  obtain ⟨t, ht⟩ : ∃ t : ByteArray, t = ⟨(lasts s).toArray⟩ := ⟨_, rfl⟩
  have hT := fun (W : World) => there_le s W hs
  have hT2 := fun (W : World) => there_le (trn s i) W (by rw [trn_size s i (by omega)]; exact hs)
  rw [lasts_trn s i (by omega), ← ht] at hT2
  have hBk := fun (W : World) => back_at s i W hs hi
  rw [← ht] at hT hBk
  have e1 : IntKind.i64.wrap ((s.size : Int) - 1) = (s.size : Int) - 1 := IntWalk.i64_in _ (by omega)
  have HI := Lib.hid (fun (W : World) => in_is (b := true) (decide_eq_true (show (0 : Int) ≤ (i : Int) ∧ (i : Int) ≤ (s.size : Int) - 1 by omega)) W)
  have HR := Lib.hid (fun (W : World) => refturn_any s i W (by omega) (by omega))
  have HS : Hid (∀ (j : Nat) (W : World), j < s.size → W.cell? ⟨0, 0, none⟩ = some (.int .i64 m) → Calls Try.prog 14 #[.string (trn s j), .string s] W fun e w' => e = .returned (.tuple #[.bool true, .nilIface]) ∧ Below W.heap.size W w') := Lib.hid (fun j W hj hW => by
    have h := same_any (trn s j) s m W (by rw [trn_size s j (by omega)]; exact hs) (by rw [trn_size s j (by omega)]) hW
    rw [bs_trn, turn_stands (bs s) j (by rw [bs_length]; omega)] at h
    exact h)
  have HM := Lib.hid hm; have HT := Lib.hid hT; have HT2 := Lib.hid hT2; have HBk := Lib.hid hBk
  clear hm hT hT2 hBk ht
  go_enter Try.func5, Try.ntmps5
  go_wp2_with fail
  refine (HF.out _).mono ?_
  rintro e w1 ⟨rfl, hb1⟩
  go_wp2_with fail
  refine (HT.out _).mono ?_
  rintro e w2 ⟨⟨k, rfl⟩, hb2⟩
  have hb12 := bnext hb1 hb2
  clear hb1 hb2
  go_wp2_with (go_at_call 12; refine (HI.out _).mono ?_; rintro e w3 ⟨rfl, rfl⟩)
  refine (HR.out _).mono ?_
  rintro e w4 ⟨rfl, q, rfl⟩
  go_wp2_with fail
  refine (HT2.out _).mono ?_
  rintro e w5 ⟨⟨k5, rfl⟩, hb5⟩
  go_wp2_with fail
  refine (HBk.out _).mono ?_
  rintro e w6 ⟨⟨j, u, hj, rfl, _, rfl⟩, hb6⟩
  have hb26 := bnext hb12 (bnext (bdrew (Below.refl _ _) q) (bnext hb5 hb6))
  have hm6 := (hb26.cell (p := ⟨0, 0, none⟩) hlt).trans HM.out
  clear hb12 hb5 hb6
  go_wp2_with fail
  refine (HS.out j _ hj hm6).mono ?_
  rintro e w7 ⟨rfl, hb7⟩
  go_wp2_with fail
  go_ret
  exact ⟨by simp, bnext hb26 hb7⟩
theorem walk (w : World) (s : ByteArray) (_hs : s.size ≤ 140737488351232) (i : Int) (hm : ∃ m, w.cell? ⟨0, 0, none⟩ = some (.int .i64 m)) :
    Calls Try.prog 5 #[.string s, .int .i64 i] w fun e w' => e = .returned (.bool true) ∧ Below w.heap.size w w' := by
  by_cases hs : s.size ≤ 24
  · by_cases hi : 0 ≤ i ∧ i ≤ (s.size : Int) - 1
    · obtain ⟨k, rfl⟩ : ∃ k : Nat, i = (k : Int) := ⟨i.toNat, by omega⟩
      obtain ⟨m, hm⟩ := hm
      exact walk_ok w s k hs (by omega) m hm
    · exact walk_out w s i hs hi
  · exact walk_far w s i (by omega)
end Go.Proofs.Ytfjjjkfldekooaa.wheelTurns
