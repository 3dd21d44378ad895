/-
  The walk of the law RiseErdos: it returns true for every list.
-/
import Derived.Test.YtlchgjlinhakdaaRsLaw
namespace Go.Proofs.Ytlchgjlinhakdaa.Rs
open Go.RowKit
set_option linter.unusedVariables false

set_option maxHeartbeats 2000000 in
theorem walkErdos (w : World) (A : Option Addr) (cap : Nat) (l : List Int) (s : l.length * 8 ≤ 140737488351232) (f : ∀ n ∈ l, -9223372036854775808 ≤ n ∧ n ≤ 9223372036854775807) (i : Reads w A l.length 1 (l.map (Value.int .i64)) ∧ l.length ≤ cap) :
    Calls Try.prog 3 #[.slice A l.length cap] w fun e w' => e = .returned (.bool true) ∧ Below w.heap.size w w' := by
  obtain ⟨hr, hcap⟩ := i
  clear f
  by_cases h : chk l = 0
  · have hlen := (chk_ok h).1
    have h1 := piles_le l
    have h2 := fall_le l
    have h3 := erdos l
    have L1 := fun w hr => long_ok A cap l w hr h
    have L2 := fun w hr => fall_ok A cap l w hr hcap h
    generalize (piles l).length = n at *
    generalize fall l = m at *
    have n20 : n ≤ 20 := by omega
    have m20 : m ≤ 20 := by omega
    have hmul : n * m ≤ 400 := Nat.mul_le_mul n20 m20
    have HL1 := Lib.hid L1; have HL2 := Lib.hid L2
    clear L1 L2
    have e0 : (n : Int) * (m : Int) = ((n * m : Nat) : Int) := by simp
    generalize n * m = q at *
    have w0 : IntKind.i64.wrap ((n : Int) * (m : Int)) = (q : Int) := by rw [e0]; exact IntWalk.i64_in _ (by omega)
    have E0 := Lib.hid e0
    clear e0
    go_enter Try.func3, Try.ntmps3
    go_wp2_with fail
    refine (fact_any _).mono ?_
    rintro e w1 ⟨rfl, hb1⟩
    go_wp2_with fail
    refine (HL1.out _ (hr.below hb1)).mono ?_
    rintro e w2 ⟨rfl, hb2⟩
    go_wp2_with fail
    refine (HL2.out _ (hr.below (bnext hb1 hb2))).mono ?_
    rintro e w3 ⟨rfl, hb3⟩
    have hb := bnext (bnext hb1 hb2) hb3
    clear hb1 hb2 hb3 HL1 HL2
    go_wp2_with fail
    refine (in_yes (by omega) (by omega) _).mono ?_
    rintro e w4 ⟨rfl, rfl⟩
    go_wp2_with fail
    refine (in_yes (by omega) (by omega) _).mono ?_
    rintro e w5 ⟨rfl, rfl⟩
    go_wp2_with fail
    go_ret
    refine ⟨?_, hb⟩
    first
    | rfl
    | exact ret_bool (by rw [E0.out]; simp; try omega)
  · have hm : l.length ≤ maxLen := by unfold maxLen; omega
    have HL1 := Lib.hid (fun w hr => long_no A cap l w hr hm h)
    have HL2 := Lib.hid (fun w hr => fall_no A cap l w hr hm h)
    go_enter Try.func3, Try.ntmps3
    go_wp2_with fail
    refine (fact_any _).mono ?_
    rintro e w1 ⟨rfl, hb1⟩
    go_wp2_with fail
    refine (HL1.out _ (hr.below hb1)).mono ?_
    rintro e w2 ⟨rfl, hb2⟩
    go_wp2_with fail
    refine (HL2.out _ (hr.below (bnext hb1 hb2))).mono ?_
    rintro e w3 ⟨rfl, hb3⟩
    go_wp2_with fail
    go_ret
    exact ⟨by first | rfl | exact ret_bool (by simp), bnext (bnext hb1 hb2) hb3⟩
end Go.Proofs.Ytlchgjlinhakdaa.Rs
namespace Go.Proofs.Ytlchgjlinhakdaa.riseErdos
abbrev walk := @Rs.walkErdos
end Go.Proofs.Ytlchgjlinhakdaa.riseErdos
