/-
  The walk of the law WheelSays, for every text, every other text and every place; the library's variable as it is laid.
-/
import Derived.Test.YtfjjjkfldekooaaDoorWhUnw
import Derived.Test.YtfjjjkfldekooaaDoorWhBackNo
import Derived.Test.YtfjjjkfldekooaaDoorWhNo
import Derived.Test.YtfjjjkfldekooaaDoorAs
namespace Go.Proofs.YtfjjjkfldekooaaDoor.wheelSays
open Go.RowKit
set_option linter.unusedVariables false
set_option linter.unusedSimpArgs false

theorem law_long (s : ByteArray) (m : Int) (w : World) : Calls Tryd.prog 4 #[.string s, .int .i64 m] w fun e w' => e = .returned (.int .i64 (if m < (s.size : Int) then 4 else 0)) ∧ w = w' := by
  by_cases h : m < (s.size : Int)
  · rw [if_pos h]
    go_enter Tryd.func4, Tryd.ntmps4
    go_wp2
    go_ret
    exact ⟨rfl, rfl⟩
  · rw [if_neg h]
    go_enter Tryd.func4, Tryd.ntmps4
    go_wp2
    go_ret
    exact ⟨rfl, rfl⟩
theorem long_yes (s : ByteArray) (w : World) (h : s.size ≤ 24) : Calls Tryd.prog 4 #[.string s, .int .i64 24] w fun e w' => e = .returned (.int .i64 0) ∧ w = w' := by
  have := law_long s 24 w
  rwa [if_neg (by omega)] at this
theorem long_no (s : ByteArray) (w : World) (h : 24 < s.size) : Calls Tryd.prog 4 #[.string s, .int .i64 24] w fun e w' => e = .returned (.int .i64 4) ∧ w = w' := by
  have := law_long s 24 w
  rwa [if_pos (by omega)] at this
theorem in_any (n lo hi : Int) (w : World) : Calls Tryd.prog 8 #[.int .i64 n, .int .i64 lo, .int .i64 hi] w fun e w' => e = .returned (.bool (decide (lo ≤ n ∧ n ≤ hi))) ∧ w = w' := by
  by_cases h1 : lo ≤ n <;> by_cases h2 : n ≤ hi
  all_goals
    go_enter Tryd.func8, Tryd.ntmps8
    go_wp2
    go_ret
    exact ⟨ret_bool (by simp [h1, h2]), rfl⟩
theorem in_is {n lo hi : Int} {b : Bool} (h : decide (lo ≤ n ∧ n ≤ hi) = b) (w : World) : Calls Tryd.prog 8 #[.int .i64 n, .int .i64 lo, .int .i64 hi] w fun e w' => e = .returned (.bool b) ∧ w = w' := by
  rw [← h]
  exact in_any n lo hi w
theorem there_place (s : ByteArray) (w : World) (hs : s.size ≤ 24) :
    Calls Tryd.prog 6 #[.string s] w fun e w' => (∃ j : Nat, e = .returned (.tuple #[.string ⟨(lasts s).toArray⟩, .int .i64 (j : Int), .nilIface]) ∧ Place s j) ∧ Below w.heap.size w w' := by
  by_cases h0 : s.size = 0
  · refine (there_nil s w h0).mono ?_
    rintro e w' ⟨rfl, hb⟩
    rw [lasts_nil s h0]
    exact ⟨⟨0, rfl, .inl ⟨h0, rfl⟩⟩, hb⟩
  · refine (there_ok s w hs (by omega)).mono ?_
    rintro e w' ⟨⟨k, rfl, j, rfl, h1, h2⟩, hb⟩
    exact ⟨⟨j, rfl, .inr ⟨h1, h2⟩⟩, hb⟩
theorem from_exists (t : ByteArray) (hs : t.size ≤ 24) : ∃ F, IsFrom (bs t) F := by
  obtain ⟨F, hF, _⟩ := from_sorted t hs (srt (Kf.cmpB t) ((List.range t.size).map fun i : Nat => (i : Int))) (srt_perm _ _) (srt_sorted (keyB t) (Kf.cmpB t) _ (idx_order t t.size hs))
  exact ⟨F, hF⟩
theorem out_zero (t : ByteArray) (F : List Nat) (ht : t.size = 0) : outB t F 0 = ⟨#[]⟩ ∧ lasts (outB t F 0) = bs t := by
  have hou : outB t F 0 = ⟨#[]⟩ := bs_inj (List.eq_nil_of_length_eq_zero (by rw [bs_length, outB_size, ht]))
  refine ⟨hou, ?_⟩
  rw [hou, lasts_nil _ rfl]
  exact (List.eq_nil_of_length_eq_zero (by rw [bs_length, ht])).symm
theorem unw_zero (t : ByteArray) (W : World) (ht : t.size = 0) : Calls Tryd.prog 9 #[.string t, .int .i64 0] W fun e w' => e = .returned (.tuple #[.string ⟨#[]⟩, .bool true]) ∧ Below W.heap.size W w' := by
  obtain ⟨F, hF⟩ := from_exists t (by omega)
  have h := Unw.refunwheel_any t F 0 W hF (by omega) (.inr ht)
  rw [decide_eq_true (out_zero t F ht).2, (out_zero t F ht).1] at h
  exact h
theorem back_zero (t : ByteArray) (W : World) (ht : t.size = 0) : Calls Tryd.prog 10 #[.string t, .int .i64 0] W fun e w' => e = .returned (.tuple #[.string ⟨#[]⟩, .nilIface]) ∧ Below W.heap.size W w' := by
  have h := back_ok t 0 W (by omega) (.inr rfl)
  refine h.mono ?_
  rintro e w' ⟨⟨F', hF', rfl⟩, hb⟩
  unfold backV
  rw [if_pos (out_zero t F' ht).2, (out_zero t F' ht).1]
  exact ⟨rfl, hb⟩

set_option maxHeartbeats 1000000 in
set_option maxRecDepth 100000 in
theorem walk_A5 (w : World) (s t : ByteArray) (at_ : Int) (hs : s.size ≤ 24) (ht : t.size = 0) (hk : at_ = 0) (hg : As.Laid w) :
    Calls Tryd.prog 3 #[.string s, .string t, .int .i64 at_] w fun e w' => e = .returned (.bool true) ∧ Below w.heap.size w w' := by
  have HG := Lib.hid (fun (w' : World) (hb : Below w.heap.size w w') => hg.below hb)
  have HL1 := Lib.hid (fun (W : World) => long_yes s W hs)
  have HW1 := Lib.hid (fun (W : World) => refwheel_any s W hs)
  have HT1 := Lib.hid (fun (W : World) => there_place s W hs)
  subst hk
  have HL2 := Lib.hid (fun (W : World) => long_yes t W (by omega))
  have HI := Lib.hid (fun (W : World) => in_is (n := 0) (lo := 0) (hi := (t.size : Int) - 1) (b := false) (decide_eq_false (by omega)) W)
  have e1 : IntKind.i64.wrap ((t.size : Int) - 1) = (t.size : Int) - 1 := IntWalk.i64_in _ (by omega)
  have k0 : ((t.size : Int) == 0) = true := by rw [ht]; rfl
  have HU := Lib.hid (fun (W : World) => unw_zero t W ht)
  have HB2 := Lib.hid (fun (W : World) => back_zero t W ht)
  clear ht
  clear hg hs
  go_enter Tryd.func3, Tryd.ntmps3
  go_wp2_with fail
  refine (HL1.out _).mono ?_
  rintro e w0 ⟨rfl, rfl⟩
  go_wp2_with fail
  refine (HW1.out _).mono ?_
  rintro e w1 ⟨⟨j1, rfl, hp1⟩, hb1⟩
  go_wp2_with fail
  refine (HT1.out _).mono ?_
  rintro e w2 ⟨⟨j2, rfl, hp2⟩, hb2⟩
  obtain rfl : j1 = j2 := place_one hp1 hp2
  clear hp1 hp2
  have hb12 := bnext hb1 hb2
  obtain ⟨x1, hx1⟩ : ∃ x1 : ByteArray, x1 = ⟨(lasts s).toArray⟩ := ⟨_, rfl⟩
  rw [← hx1]
  clear hx1
  go_wp2_with fail
  refine (As.error_ok _).mono ?_
  rintro e w3 ⟨rfl, hb3⟩
  have hb13 := bnext hb12 hb3
  go_wp2_with fail
  refine (HL2.out _).mono ?_
  rintro e w4 ⟨rfl, rfl⟩
  go_wp2_with fail
  refine (HI.out _).mono ?_
  rintro e w5 ⟨rfl, rfl⟩
  go_wp2_with fail
  refine (HU.out _).mono ?_
  rintro e w6 ⟨rfl, hb6⟩
  go_wp2_with fail
  refine (HB2.out _).mono ?_
  rintro e w7 ⟨rfl, hb7⟩
  go_wp2_with fail
  refine (As.error_ok _).mono ?_
  rintro e w8 ⟨rfl, hb8⟩
  go_wp2_with fail
  go_ret
  exact ⟨by simp, bnext hb13 (bnext hb6 (bnext hb7 hb8))⟩

set_option maxHeartbeats 1000000 in
set_option maxRecDepth 100000 in
theorem walk_A1 (w : World) (s t : ByteArray) (at_ : Int) (hs : s.size ≤ 24) (ht : 24 < t.size) (hg : As.Laid w) :
    Calls Tryd.prog 3 #[.string s, .string t, .int .i64 at_] w fun e w' => e = .returned (.bool true) ∧ Below w.heap.size w w' := by
  have HG := Lib.hid (fun (w' : World) (hb : Below w.heap.size w w') => hg.below hb)
  have HL1 := Lib.hid (fun (W : World) => long_yes s W hs)
  have HW1 := Lib.hid (fun (W : World) => refwheel_any s W hs)
  have HT1 := Lib.hid (fun (W : World) => there_place s W hs)
  have HL2 := Lib.hid (fun (W : World) => long_no t W ht)
  have HB2 := Lib.hid (fun (W : World) => back_no t at_ W ht)
  clear ht
  clear hg hs
  go_enter Tryd.func3, Tryd.ntmps3
  go_wp2_with fail
  refine (HL1.out _).mono ?_
  rintro e w0 ⟨rfl, rfl⟩
  go_wp2_with fail
  refine (HW1.out _).mono ?_
  rintro e w1 ⟨⟨j1, rfl, hp1⟩, hb1⟩
  go_wp2_with fail
  refine (HT1.out _).mono ?_
  rintro e w2 ⟨⟨j2, rfl, hp2⟩, hb2⟩
  obtain rfl : j1 = j2 := place_one hp1 hp2
  clear hp1 hp2
  have hb12 := bnext hb1 hb2
  obtain ⟨x1, hx1⟩ : ∃ x1 : ByteArray, x1 = ⟨(lasts s).toArray⟩ := ⟨_, rfl⟩
  rw [← hx1]
  clear hx1
  go_wp2_with fail
  refine (As.error_ok _).mono ?_
  rintro e w3 ⟨rfl, hb3⟩
  have hb13 := bnext hb12 hb3
  go_wp2_with fail
  refine (HL2.out _).mono ?_
  rintro e w4 ⟨rfl, rfl⟩
  go_wp2_with fail
  refine (HB2.out _).mono ?_
  rintro e w5 ⟨rfl, hb5⟩
  go_wp2_with fail
  refine (As.error_no 4 (by decide) _ (HG.out _ (bnext hb13 hb5))).mono ?_
  rintro e w6 ⟨rfl, hb6⟩
  go_wp2_with fail
  go_ret
  exact ⟨by simp, bnext hb13 (bnext hb5 hb6)⟩

set_option maxHeartbeats 1000000 in
set_option maxRecDepth 100000 in
theorem walk_A2 (w : World) (s t : ByteArray) (at_ : Int) (hs : s.size ≤ 24) (ht : t.size ≤ 24) (hat : at_ < 0 ∨ (0 < at_ ∧ (t.size : Int) ≤ at_)) (hg : As.Laid w) :
    Calls Tryd.prog 3 #[.string s, .string t, .int .i64 at_] w fun e w' => e = .returned (.bool true) ∧ Below w.heap.size w w' := by
  have HG := Lib.hid (fun (w' : World) (hb : Below w.heap.size w w') => hg.below hb)
  have HL1 := Lib.hid (fun (W : World) => long_yes s W hs)
  have HW1 := Lib.hid (fun (W : World) => refwheel_any s W hs)
  have HT1 := Lib.hid (fun (W : World) => there_place s W hs)
  have HL2 := Lib.hid (fun (W : World) => long_yes t W ht)
  have HB2 := Lib.hid (fun (W : World) => back_range t at_ W ht hat)
  have HI := Lib.hid (fun (W : World) => in_is (n := at_) (lo := 0) (hi := (t.size : Int) - 1) (b := false) (decide_eq_false (by omega)) W)
  have e1 : IntKind.i64.wrap ((t.size : Int) - 1) = (t.size : Int) - 1 := IntWalk.i64_in _ (by omega)
  clear hg hs
  go_enter Tryd.func3, Tryd.ntmps3
  go_wp2_with fail
  refine (HL1.out _).mono ?_
  rintro e w0 ⟨rfl, rfl⟩
  go_wp2_with fail
  refine (HW1.out _).mono ?_
  rintro e w1 ⟨⟨j1, rfl, hp1⟩, hb1⟩
  go_wp2_with fail
  refine (HT1.out _).mono ?_
  rintro e w2 ⟨⟨j2, rfl, hp2⟩, hb2⟩
  obtain rfl : j1 = j2 := place_one hp1 hp2
  clear hp1 hp2
  have hb12 := bnext hb1 hb2
  obtain ⟨x1, hx1⟩ : ∃ x1 : ByteArray, x1 = ⟨(lasts s).toArray⟩ := ⟨_, rfl⟩
  rw [← hx1]
  clear hx1
  go_wp2_with fail
  refine (As.error_ok _).mono ?_
  rintro e w3 ⟨rfl, hb3⟩
  have hb13 := bnext hb12 hb3
  go_wp2_with fail
  refine (HL2.out _).mono ?_
  rintro e w4 ⟨rfl, rfl⟩
  go_wp2_with fail
  refine (HI.out _).mono ?_
  rintro e w5 ⟨rfl, rfl⟩
  have kz : ¬ ((t.size : Int) = 0 ∧ at_ = 0) := by omega
  have kz1 : (t.size : Int) = 0 → ¬ at_ = 0 := by omega
  by_cases hz : (t.size : Int) = 0
  · skip
    have kz2 : (at_ == 0) = false := beq_eq_false_iff_ne.2 (kz1 hz)
    have kz3 : ((t.size : Int) == 0) = true := by rw [hz]; rfl
    clear kz kz1
    go_wp2_with fail
    refine (HB2.out _).mono ?_
    rintro e w6 ⟨rfl, hb6⟩
    go_wp2_with fail
    refine (As.error_no 1 (by decide) _ (HG.out _ (bnext hb13 hb6))).mono ?_
    rintro e w7 ⟨rfl, hb7⟩
    go_wp2_with fail
    go_ret
    exact ⟨by simp, bnext hb13 (bnext hb6 hb7)⟩
  · skip
    have kz3 : ((t.size : Int) == 0) = false := beq_eq_false_iff_ne.2 hz
    clear kz kz1
    go_wp2_with fail
    refine (HB2.out _).mono ?_
    rintro e w6 ⟨rfl, hb6⟩
    go_wp2_with fail
    refine (As.error_no 1 (by decide) _ (HG.out _ (bnext hb13 hb6))).mono ?_
    rintro e w7 ⟨rfl, hb7⟩
    go_wp2_with fail
    go_ret
    exact ⟨by simp, bnext hb13 (bnext hb6 hb7)⟩

set_option maxHeartbeats 1000000 in
set_option maxRecDepth 100000 in
theorem walk_A3 (w : World) (s t : ByteArray) (at_ : Int) (hs : s.size ≤ 24) (ht : t.size ≤ 24) (k : Nat) (hk : at_ = (k : Int)) (hks : k < t.size) (F : List Nat) (hF : IsFrom (bs t) F) (hL : lasts (outB t F k) = bs t) (hg : As.Laid w) :
    Calls Tryd.prog 3 #[.string s, .string t, .int .i64 at_] w fun e w' => e = .returned (.bool true) ∧ Below w.heap.size w w' := by
  have HG := Lib.hid (fun (w' : World) (hb : Below w.heap.size w w') => hg.below hb)
  have HL1 := Lib.hid (fun (W : World) => long_yes s W hs)
  have HW1 := Lib.hid (fun (W : World) => refwheel_any s W hs)
  have HT1 := Lib.hid (fun (W : World) => there_place s W hs)
  subst hk
  have HL2 := Lib.hid (fun (W : World) => long_yes t W ht)
  have HI := Lib.hid (fun (W : World) => in_is (n := (k : Int)) (lo := 0) (hi := (t.size : Int) - 1) (b := true) (decide_eq_true (by omega)) W)
  have e1 : IntKind.i64.wrap ((t.size : Int) - 1) = (t.size : Int) - 1 := IntWalk.i64_in _ (by omega)
  have hU := fun (W : World) => Unw.refunwheel_any t F k W hF ht (.inl hks)
  rw [decide_eq_true hL] at hU
  obtain ⟨u, hu⟩ : ∃ u, u = outB t F k := ⟨_, rfl⟩
  rw [← hu] at hU
  have HU := Lib.hid hU
  have HB2 : Hid (∀ W : World, Calls Tryd.prog 10 #[.string t, .int .i64 (k : Int)] W fun e w' => e = .returned (.tuple #[.string u, .nilIface]) ∧ Below W.heap.size W w') := Lib.hid (fun W => by
    refine (back_ok t k W ht (.inl hks)).mono ?_
    rintro e w' ⟨⟨F', hF', rfl⟩, hb⟩
    rw [hF'.unique hF]
    unfold backV
    rw [if_pos hL, ← hu]
    exact ⟨rfl, hb⟩)
  clear hU hu hL hF
  clear hg hs
  go_enter Tryd.func3, Tryd.ntmps3
  go_wp2_with fail
  refine (HL1.out _).mono ?_
  rintro e w0 ⟨rfl, rfl⟩
  go_wp2_with fail
  refine (HW1.out _).mono ?_
  rintro e w1 ⟨⟨j1, rfl, hp1⟩, hb1⟩
  go_wp2_with fail
  refine (HT1.out _).mono ?_
  rintro e w2 ⟨⟨j2, rfl, hp2⟩, hb2⟩
  obtain rfl : j1 = j2 := place_one hp1 hp2
  clear hp1 hp2
  have hb12 := bnext hb1 hb2
  obtain ⟨x1, hx1⟩ : ∃ x1 : ByteArray, x1 = ⟨(lasts s).toArray⟩ := ⟨_, rfl⟩
  rw [← hx1]
  clear hx1
  go_wp2_with fail
  refine (As.error_ok _).mono ?_
  rintro e w3 ⟨rfl, hb3⟩
  have hb13 := bnext hb12 hb3
  go_wp2_with fail
  refine (HL2.out _).mono ?_
  rintro e w4 ⟨rfl, rfl⟩
  go_wp2_with fail
  refine (HI.out _).mono ?_
  rintro e w5 ⟨rfl, rfl⟩
  go_wp2_with fail
  refine (HU.out _).mono ?_
  rintro e w6 ⟨rfl, hb6⟩
  go_wp2_with fail
  refine (HB2.out _).mono ?_
  rintro e w7 ⟨rfl, hb7⟩
  go_wp2_with fail
  refine (As.error_ok _).mono ?_
  rintro e w8 ⟨rfl, hb8⟩
  go_wp2_with fail
  go_ret
  exact ⟨by simp, bnext hb13 (bnext hb6 (bnext hb7 hb8))⟩

set_option maxHeartbeats 1000000 in
set_option maxRecDepth 100000 in
theorem walk_A4 (w : World) (s t : ByteArray) (at_ : Int) (hs : s.size ≤ 24) (ht : t.size ≤ 24) (k : Nat) (hk : at_ = (k : Int)) (hks : k < t.size) (F : List Nat) (hF : IsFrom (bs t) F) (hL : ¬ lasts (outB t F k) = bs t) (hg : As.Laid w) :
    Calls Tryd.prog 3 #[.string s, .string t, .int .i64 at_] w fun e w' => e = .returned (.bool true) ∧ Below w.heap.size w w' := by
  have HG := Lib.hid (fun (w' : World) (hb : Below w.heap.size w w') => hg.below hb)
  have HL1 := Lib.hid (fun (W : World) => long_yes s W hs)
  have HW1 := Lib.hid (fun (W : World) => refwheel_any s W hs)
  have HT1 := Lib.hid (fun (W : World) => there_place s W hs)
  subst hk
  have HL2 := Lib.hid (fun (W : World) => long_yes t W ht)
  have HI := Lib.hid (fun (W : World) => in_is (n := (k : Int)) (lo := 0) (hi := (t.size : Int) - 1) (b := true) (decide_eq_true (by omega)) W)
  have e1 : IntKind.i64.wrap ((t.size : Int) - 1) = (t.size : Int) - 1 := IntWalk.i64_in _ (by omega)
  have hU := fun (W : World) => Unw.refunwheel_any t F k W hF ht (.inl hks)
  rw [decide_eq_false hL] at hU
  obtain ⟨u, hu⟩ : ∃ u, u = outB t F k := ⟨_, rfl⟩
  rw [← hu] at hU
  have HU := Lib.hid hU
  have HB2 : Hid (∀ W : World, Calls Tryd.prog 10 #[.string t, .int .i64 (k : Int)] W fun e w' => e = .returned (.tuple #[.string ⟨#[]⟩, .iface 52 (.int .i64 6)]) ∧ Below W.heap.size W w') := Lib.hid (fun W => by
    refine (back_ok t k W ht (.inl hks)).mono ?_
    rintro e w' ⟨⟨F', hF', rfl⟩, hb⟩
    rw [hF'.unique hF]
    unfold backV
    rw [if_neg hL]
    exact ⟨rfl, hb⟩)
  clear hU hu hL hF
  clear hg hs
  go_enter Tryd.func3, Tryd.ntmps3
  go_wp2_with fail
  refine (HL1.out _).mono ?_
  rintro e w0 ⟨rfl, rfl⟩
  go_wp2_with fail
  refine (HW1.out _).mono ?_
  rintro e w1 ⟨⟨j1, rfl, hp1⟩, hb1⟩
  go_wp2_with fail
  refine (HT1.out _).mono ?_
  rintro e w2 ⟨⟨j2, rfl, hp2⟩, hb2⟩
  obtain rfl : j1 = j2 := place_one hp1 hp2
  clear hp1 hp2
  have hb12 := bnext hb1 hb2
  obtain ⟨x1, hx1⟩ : ∃ x1 : ByteArray, x1 = ⟨(lasts s).toArray⟩ := ⟨_, rfl⟩
  rw [← hx1]
  clear hx1
  go_wp2_with fail
  refine (As.error_ok _).mono ?_
  rintro e w3 ⟨rfl, hb3⟩
  have hb13 := bnext hb12 hb3
  go_wp2_with fail
  refine (HL2.out _).mono ?_
  rintro e w4 ⟨rfl, rfl⟩
  go_wp2_with fail
  refine (HI.out _).mono ?_
  rintro e w5 ⟨rfl, rfl⟩
  go_wp2_with fail
  refine (HU.out _).mono ?_
  rintro e w6 ⟨rfl, hb6⟩
  go_wp2_with fail
  refine (HB2.out _).mono ?_
  rintro e w7 ⟨rfl, hb7⟩
  go_wp2_with fail
  refine (As.error_no 6 (by decide) _ (HG.out _ (bnext hb13 (bnext hb6 hb7)))).mono ?_
  rintro e w8 ⟨rfl, hb8⟩
  go_wp2_with fail
  go_ret
  exact ⟨by simp, bnext hb13 (bnext hb6 (bnext hb7 hb8))⟩
end Go.Proofs.YtfjjjkfldekooaaDoor.wheelSays
