/-
  The walk of the law WheelSays, for every text, every other text and every place; the library's variable as it is laid.
-/
import Derived.Test.YtfjjjkfldekooaaDoorWheelSays1
namespace Go.Proofs.YtfjjjkfldekooaaDoor.wheelSays
open Go.RowKit
set_option linter.unusedVariables false
set_option linter.unusedSimpArgs false

set_option maxHeartbeats 1000000 in
set_option maxRecDepth 100000 in
theorem walk_B5 (w : World) (s t : ByteArray) (at_ : Int) (hs : 24 < s.size) (ht : t.size = 0) (hk : at_ = 0) (hg : As.Laid w) :
    Calls Tryd.prog 3 #[.string s, .string t, .int .i64 at_] w fun e w' => e = .returned (.bool true) ∧ Below w.heap.size w w' := by
  have HG := Lib.hid (fun (w' : World) (hb : Below w.heap.size w w') => hg.below hb)
  have HL1 := Lib.hid (fun (W : World) => long_no s W hs)
  have HT1 := Lib.hid (fun (W : World) => there_no s W hs)
  subst hk
  have HL2 := Lib.hid (fun (W : World) => long_yes t W (by omega))
  have HI := Lib.hid (fun (W : World) => in_is (n := 0) (lo := 0) (hi := (t.size : Int) - 1) (b := false) (decide_eq_false (by omega)) W)
  have e1 : IntKind.i64.wrap ((t.size : Int) - 1) = (t.size : Int) - 1 := IntWalk.i64_in _ (by omega)
  have k0 : ((t.size : Int) == 0) = true := by rw [ht]; rfl
  have HU := Lib.hid (fun (W : World) => unw_zero t W ht)
  have HB2 := Lib.hid (fun (W : World) => back_zero t W ht)
  clear ht
  clear hg hs
  go_enter Tryd.func3, Tryd.ntmps3
  go_wp2_with fail
  refine (HL1.out _).mono ?_
  rintro e w0 ⟨rfl, rfl⟩
  go_wp2_with fail
  refine (HT1.out _).mono ?_
  rintro e w2 ⟨rfl, hb12⟩
  go_wp2_with fail
  refine (As.error_no 4 (by decide) _ (HG.out _ hb12)).mono ?_
  rintro e w3 ⟨rfl, hb3⟩
  have hb13 := bnext hb12 hb3
  go_wp2_with fail
  refine (HL2.out _).mono ?_
  rintro e w4 ⟨rfl, rfl⟩
  go_wp2_with fail
  refine (HI.out _).mono ?_
  rintro e w5 ⟨rfl, rfl⟩
  go_wp2_with fail
  refine (HU.out _).mono ?_
  rintro e w6 ⟨rfl, hb6⟩
  go_wp2_with fail
  refine (HB2.out _).mono ?_
  rintro e w7 ⟨rfl, hb7⟩
  go_wp2_with fail
  refine (As.error_ok _).mono ?_
  rintro e w8 ⟨rfl, hb8⟩
  go_wp2_with fail
  go_ret
  exact ⟨by simp, bnext hb13 (bnext hb6 (bnext hb7 hb8))⟩

set_option maxHeartbeats 1000000 in
set_option maxRecDepth 100000 in
theorem walk_B1 (w : World) (s t : ByteArray) (at_ : Int) (hs : 24 < s.size) (ht : 24 < t.size) (hg : As.Laid w) :
    Calls Tryd.prog 3 #[.string s, .string t, .int .i64 at_] w fun e w' => e = .returned (.bool true) ∧ Below w.heap.size w w' := by
  have HG := Lib.hid (fun (w' : World) (hb : Below w.heap.size w w') => hg.below hb)
  have HL1 := Lib.hid (fun (W : World) => long_no s W hs)
  have HT1 := Lib.hid (fun (W : World) => there_no s W hs)
  have HL2 := Lib.hid (fun (W : World) => long_no t W ht)
  have HB2 := Lib.hid (fun (W : World) => back_no t at_ W ht)
  clear ht
  clear hg hs
  go_enter Tryd.func3, Tryd.ntmps3
  go_wp2_with fail
  refine (HL1.out _).mono ?_
  rintro e w0 ⟨rfl, rfl⟩
  go_wp2_with fail
  refine (HT1.out _).mono ?_
  rintro e w2 ⟨rfl, hb12⟩
  go_wp2_with fail
  refine (As.error_no 4 (by decide) _ (HG.out _ hb12)).mono ?_
  rintro e w3 ⟨rfl, hb3⟩
  have hb13 := bnext hb12 hb3
  go_wp2_with fail
  refine (HL2.out _).mono ?_
  rintro e w4 ⟨rfl, rfl⟩
  go_wp2_with fail
  refine (HB2.out _).mono ?_
  rintro e w5 ⟨rfl, hb5⟩
  go_wp2_with fail
  refine (As.error_no 4 (by decide) _ (HG.out _ (bnext hb13 hb5))).mono ?_
  rintro e w6 ⟨rfl, hb6⟩
  go_wp2_with fail
  go_ret
  exact ⟨by simp, bnext hb13 (bnext hb5 hb6)⟩

set_option maxHeartbeats 1000000 in
set_option maxRecDepth 100000 in
theorem walk_B2 (w : World) (s t : ByteArray) (at_ : Int) (hs : 24 < s.size) (ht : t.size ≤ 24) (hat : at_ < 0 ∨ (0 < at_ ∧ (t.size : Int) ≤ at_)) (hg : As.Laid w) :
    Calls Tryd.prog 3 #[.string s, .string t, .int .i64 at_] w fun e w' => e = .returned (.bool true) ∧ Below w.heap.size w w' := by
  have HG := Lib.hid (fun (w' : World) (hb : Below w.heap.size w w') => hg.below hb)
  have HL1 := Lib.hid (fun (W : World) => long_no s W hs)
  have HT1 := Lib.hid (fun (W : World) => there_no s W hs)
  have HL2 := Lib.hid (fun (W : World) => long_yes t W ht)
  have HB2 := Lib.hid (fun (W : World) => back_range t at_ W ht hat)
  have HI := Lib.hid (fun (W : World) => in_is (n := at_) (lo := 0) (hi := (t.size : Int) - 1) (b := false) (decide_eq_false (by omega)) W)
  have e1 : IntKind.i64.wrap ((t.size : Int) - 1) = (t.size : Int) - 1 := IntWalk.i64_in _ (by omega)
  clear hg hs
  go_enter Tryd.func3, Tryd.ntmps3
  go_wp2_with fail
  refine (HL1.out _).mono ?_
  rintro e w0 ⟨rfl, rfl⟩
  go_wp2_with fail
  refine (HT1.out _).mono ?_
  rintro e w2 ⟨rfl, hb12⟩
  go_wp2_with fail
  refine (As.error_no 4 (by decide) _ (HG.out _ hb12)).mono ?_
  rintro e w3 ⟨rfl, hb3⟩
  have hb13 := bnext hb12 hb3
  go_wp2_with fail
  refine (HL2.out _).mono ?_
  rintro e w4 ⟨rfl, rfl⟩
  go_wp2_with fail
  refine (HI.out _).mono ?_
  rintro e w5 ⟨rfl, rfl⟩
  have kz : ¬ ((t.size : Int) = 0 ∧ at_ = 0) := by omega
  have kz1 : (t.size : Int) = 0 → ¬ at_ = 0 := by omega
  by_cases hz : (t.size : Int) = 0
  · skip
    have kz2 : (at_ == 0) = false := beq_eq_false_iff_ne.2 (kz1 hz)
    have kz3 : ((t.size : Int) == 0) = true := by rw [hz]; rfl
    clear kz kz1
    go_wp2_with fail
    refine (HB2.out _).mono ?_
    rintro e w6 ⟨rfl, hb6⟩
    go_wp2_with fail
    refine (As.error_no 1 (by decide) _ (HG.out _ (bnext hb13 hb6))).mono ?_
    rintro e w7 ⟨rfl, hb7⟩
    go_wp2_with fail
    go_ret
    exact ⟨by simp, bnext hb13 (bnext hb6 hb7)⟩
  · skip
    have kz3 : ((t.size : Int) == 0) = false := beq_eq_false_iff_ne.2 hz
    clear kz kz1
    go_wp2_with fail
    refine (HB2.out _).mono ?_
    rintro e w6 ⟨rfl, hb6⟩
    go_wp2_with fail
    refine (As.error_no 1 (by decide) _ (HG.out _ (bnext hb13 hb6))).mono ?_
    rintro e w7 ⟨rfl, hb7⟩
    go_wp2_with fail
    go_ret
    exact ⟨by simp, bnext hb13 (bnext hb6 hb7)⟩

set_option maxHeartbeats 1000000 in
set_option maxRecDepth 100000 in
theorem walk_B3 (w : World) (s t : ByteArray) (at_ : Int) (hs : 24 < s.size) (ht : t.size ≤ 24) (k : Nat) (hk : at_ = (k : Int)) (hks : k < t.size) (F : List Nat) (hF : IsFrom (bs t) F) (hL : lasts (outB t F k) = bs t) (hg : As.Laid w) :
    Calls Tryd.prog 3 #[.string s, .string t, .int .i64 at_] w fun e w' => e = .returned (.bool true) ∧ Below w.heap.size w w' := by
  have HG := Lib.hid (fun (w' : World) (hb : Below w.heap.size w w') => hg.below hb)
  have HL1 := Lib.hid (fun (W : World) => long_no s W hs)
  have HT1 := Lib.hid (fun (W : World) => there_no s W hs)
  subst hk
  have HL2 := Lib.hid (fun (W : World) => long_yes t W ht)
  have HI := Lib.hid (fun (W : World) => in_is (n := (k : Int)) (lo := 0) (hi := (t.size : Int) - 1) (b := true) (decide_eq_true (by omega)) W)
  have e1 : IntKind.i64.wrap ((t.size : Int) - 1) = (t.size : Int) - 1 := IntWalk.i64_in _ (by omega)
  have hU := fun (W : World) => Unw.refunwheel_any t F k W hF ht (.inl hks)
  rw [decide_eq_true hL] at hU
  obtain ⟨u, hu⟩ : ∃ u, u = outB t F k := ⟨_, rfl⟩
  rw [← hu] at hU
  have HU := Lib.hid hU
  have HB2 : Hid (∀ W : World, Calls Tryd.prog 10 #[.string t, .int .i64 (k : Int)] W fun e w' => e = .returned (.tuple #[.string u, .nilIface]) ∧ Below W.heap.size W w') := Lib.hid (fun W => by
    refine (back_ok t k W ht (.inl hks)).mono ?_
    rintro e w' ⟨⟨F', hF', rfl⟩, hb⟩
    rw [hF'.unique hF]
    unfold backV
    rw [if_pos hL, ← hu]
    exact ⟨rfl, hb⟩)
  clear hU hu hL hF
  clear hg hs
  go_enter Tryd.func3, Tryd.ntmps3
  go_wp2_with fail
  refine (HL1.out _).mono ?_
  rintro e w0 ⟨rfl, rfl⟩
  go_wp2_with fail
  refine (HT1.out _).mono ?_
  rintro e w2 ⟨rfl, hb12⟩
  go_wp2_with fail
  refine (As.error_no 4 (by decide) _ (HG.out _ hb12)).mono ?_
  rintro e w3 ⟨rfl, hb3⟩
  have hb13 := bnext hb12 hb3
  go_wp2_with fail
  refine (HL2.out _).mono ?_
  rintro e w4 ⟨rfl, rfl⟩
  go_wp2_with fail
  refine (HI.out _).mono ?_
  rintro e w5 ⟨rfl, rfl⟩
  go_wp2_with fail
  refine (HU.out _).mono ?_
  rintro e w6 ⟨rfl, hb6⟩
  go_wp2_with fail
  refine (HB2.out _).mono ?_
  rintro e w7 ⟨rfl, hb7⟩
  go_wp2_with fail
  refine (As.error_ok _).mono ?_
  rintro e w8 ⟨rfl, hb8⟩
  go_wp2_with fail
  go_ret
  exact ⟨by simp, bnext hb13 (bnext hb6 (bnext hb7 hb8))⟩

set_option maxHeartbeats 1000000 in
set_option maxRecDepth 100000 in
theorem walk_B4 (w : World) (s t : ByteArray) (at_ : Int) (hs : 24 < s.size) (ht : t.size ≤ 24) (k : Nat) (hk : at_ = (k : Int)) (hks : k < t.size) (F : List Nat) (hF : IsFrom (bs t) F) (hL : ¬ lasts (outB t F k) = bs t) (hg : As.Laid w) :
    Calls Tryd.prog 3 #[.string s, .string t, .int .i64 at_] w fun e w' => e = .returned (.bool true) ∧ Below w.heap.size w w' := by
  have HG := Lib.hid (fun (w' : World) (hb : Below w.heap.size w w') => hg.below hb)
  have HL1 := Lib.hid (fun (W : World) => long_no s W hs)
  have HT1 := Lib.hid (fun (W : World) => there_no s W hs)
  subst hk
  have HL2 := Lib.hid (fun (W : World) => long_yes t W ht)
  have HI := Lib.hid (fun (W : World) => in_is (n := (k : Int)) (lo := 0) (hi := (t.size : Int) - 1) (b := true) (decide_eq_true (by omega)) W)
  have e1 : IntKind.i64.wrap ((t.size : Int) - 1) = (t.size : Int) - 1 := IntWalk.i64_in _ (by omega)
  have hU := fun (W : World) => Unw.refunwheel_any t F k W hF ht (.inl hks)
  rw [decide_eq_false hL] at hU
  obtain ⟨u, hu⟩ : ∃ u, u = outB t F k := ⟨_, rfl⟩
  rw [← hu] at hU
  have HU := Lib.hid hU
  have HB2 : Hid (∀ W : World, Calls Tryd.prog 10 #[.string t, .int .i64 (k : Int)] W fun e w' => e = .returned (.tuple #[.string ⟨#[]⟩, .iface 52 (.int .i64 6)]) ∧ Below W.heap.size W w') := Lib.hid (fun W => by
    refine (back_ok t k W ht (.inl hks)).mono ?_
    rintro e w' ⟨⟨F', hF', rfl⟩, hb⟩
    rw [hF'.unique hF]
    unfold backV
    rw [if_neg hL]
    exact ⟨rfl, hb⟩)
  clear hU hu hL hF
  clear hg hs
  go_enter Tryd.func3, Tryd.ntmps3
  go_wp2_with fail
  refine (HL1.out _).mono ?_
  rintro e w0 ⟨rfl, rfl⟩
  go_wp2_with fail
  refine (HT1.out _).mono ?_
  rintro e w2 ⟨rfl, hb12⟩
  go_wp2_with fail
  refine (As.error_no 4 (by decide) _ (HG.out _ hb12)).mono ?_
  rintro e w3 ⟨rfl, hb3⟩
  have hb13 := bnext hb12 hb3
  go_wp2_with fail
  refine (HL2.out _).mono ?_
  rintro e w4 ⟨rfl, rfl⟩
  go_wp2_with fail
  refine (HI.out _).mono ?_
  rintro e w5 ⟨rfl, rfl⟩
  go_wp2_with fail
  refine (HU.out _).mono ?_
  rintro e w6 ⟨rfl, hb6⟩
  go_wp2_with fail
  refine (HB2.out _).mono ?_
  rintro e w7 ⟨rfl, hb7⟩
  go_wp2_with fail
  refine (As.error_no 6 (by decide) _ (HG.out _ (bnext hb13 (bnext hb6 hb7)))).mono ?_
  rintro e w8 ⟨rfl, hb8⟩
  go_wp2_with fail
  go_ret
  exact ⟨by simp, bnext hb13 (bnext hb6 (bnext hb7 hb8))⟩

theorem walk (w : World) (s : ByteArray) (_h0 : s.size ≤ 140737488351232) (t : ByteArray) (_h1 : t.size ≤ 140737488351232) (at_ : Int) (_h2 : -9223372036854775808 ≤ at_ ∧ at_ ≤ 9223372036854775807) (hg : As.Laid w) :
    Calls Tryd.prog 3 #[.string s, .string t, .int .i64 at_] w fun e w' => e = .returned (.bool true) ∧ Below w.heap.size w w' := by
  have hc : 24 < t.size ∨ t.size ≤ 24 ∧ ((at_ < 0 ∨ (0 < at_ ∧ (t.size : Int) ≤ at_)) ∨ (t.size = 0 ∧ at_ = 0) ∨ ∃ k : Nat, at_ = (k : Int) ∧ k < t.size) := by
    by_cases h : 24 < t.size
    · exact .inl h
    · refine .inr ⟨by omega, ?_⟩
      by_cases h1 : at_ < 0
      · exact .inl (.inl h1)
      · obtain ⟨k, rfl⟩ : ∃ k : Nat, at_ = (k : Int) := ⟨at_.toNat, by omega⟩
        by_cases h2 : k < t.size
        · exact .inr (.inr ⟨k, rfl, h2⟩)
        · by_cases h3 : k = 0
          · exact .inr (.inl ⟨by omega, by omega⟩)
          · exact .inl (.inr ⟨by omega, by omega⟩)
  rcases Nat.lt_or_ge 24 s.size with hs | hs
  · rcases hc with ht | ⟨ht, hat | ⟨h1, h2⟩ | ⟨k, hk, hks⟩⟩
    · exact walk_B1 w s t at_ hs ht hg
    · exact walk_B2 w s t at_ hs ht hat hg
    · exact walk_B5 w s t at_ hs h1 h2 hg
    · obtain ⟨F, hF⟩ := from_exists t ht
      by_cases hL : lasts (outB t F k) = bs t
      · exact walk_B3 w s t at_ hs ht k hk hks F hF hL hg
      · exact walk_B4 w s t at_ hs ht k hk hks F hF hL hg
  · rcases hc with ht | ⟨ht, hat | ⟨h1, h2⟩ | ⟨k, hk, hks⟩⟩
    · exact walk_A1 w s t at_ hs ht hg
    · exact walk_A2 w s t at_ hs ht hat hg
    · exact walk_A5 w s t at_ hs h1 h2 hg
    · obtain ⟨F, hF⟩ := from_exists t ht
      by_cases hL : lasts (outB t F k) = bs t
      · exact walk_A3 w s t at_ hs ht k hk hks F hF hL hg
      · exact walk_A4 w s t at_ hs ht k hk hks F hF hL hg
end Go.Proofs.YtfjjjkfldekooaaDoor.wheelSays
