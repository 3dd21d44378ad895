/-
  The walk of the law RisePiles: it returns true for every list.
-/
import Derived.Test.YtlchgjlinhakdaaRsLaw
namespace Go.Proofs.Ytlchgjlinhakdaa.Rs
open Go.RowKit
set_option linter.unusedVariables false

set_option maxHeartbeats 2000000 in
theorem walkPiles (w : World) (A : Option Addr) (cap : Nat) (l : List Int) (s : l.length * 8 ≤ 140737488351232) (f : ∀ n ∈ l, -9223372036854775808 ≤ n ∧ n ≤ 9223372036854775807) (i : Reads w A l.length 1 (l.map (Value.int .i64)) ∧ l.length ≤ cap) :
    Calls Try.prog 4 #[.slice A l.length cap] w fun e w' => e = .returned (.bool true) ∧ Below w.heap.size w w' := by
  obtain ⟨hr, hcap⟩ := i
  clear f
  by_cases h : chk l = 0
  · have hlen := (chk_ok h).1
    have h1 := piles_le l
    have L1 := fun w hr => piles_ok A cap l w hr h
    have L2 := fun w hr => long_ok A cap l w hr h
    have hri := piles_rises l
    generalize piles l = t at *
    have HL1 := Lib.hid L1; have HL2 := Lib.hid L2; have HRI := Lib.hid hri
    clear L1 L2 hri
    have t20 : t.length ≤ 20 := by omega
    go_enter Try.func4, Try.ntmps4
    go_wp2_with fail
    refine (fact_any _).mono ?_
    rintro e w1 ⟨rfl, hb1⟩
    go_wp2_with fail
    refine (HL1.out _ (hr.below hb1)).mono ?_
    rintro e w2 ⟨v, rfl, hown, hb2⟩
    obtain ⟨A', cap', e⟩ := own_slice hown
    subst e
    have hrt := Reads.of_own hown
    clear hown
    go_wp2_with fail
    refine (HL2.out _ (hr.below (bnext hb1 hb2))).mono ?_
    rintro e w3 ⟨rfl, hb3⟩
    have hb := bnext (bnext hb1 hb2) hb3
    have hrt3 := hrt.below hb3
    clear hb1 hb2 hb3 HL1 HL2 hrt
    go_wp2_with fail
    go_loopw [7] (fun i wr => ∃ k : Nat, 1 ≤ k ∧ (k ≤ t.length ∨ k = 1) ∧ i = .int .i64 k ∧ Reads wr A' t.length 1 (ints t) ∧ Below w.heap.size w wr) (fun i _ => t.length - (intOf i).toNat)
    case atStart => exact ⟨1, by omega, by omega, rfl, hrt3, hb⟩
    case round =>
      clear hrt3 hb
      obtain ⟨k, hk1, hk, rfl, hrt, hb⟩ := hrel
      by_cases hlt : k < t.length
      · obtain ⟨b, o, rfl, hbl, hc⟩ := hrt.2 (by omega)
        obtain ⟨j, rfl⟩ : ∃ j, k = j + 1 := ⟨k - 1, by omega⟩
        obtain ⟨x, hx⟩ : ∃ x, t[j]? = some x := ⟨_, List.getElem?_eq_getElem (by omega)⟩
        obtain ⟨y, hy⟩ : ∃ y, t[j + 1]? = some y := ⟨_, List.getElem?_eq_getElem (by omega)⟩
        have cx := hc j (.int .i64 x) (by rw [ints_get, hx]; rfl)
        have cy := hc (j + 1) (.int .i64 y) (by rw [ints_get, hy]; rfl)
        have hxy := HRI.out j (j + 1) x y (by omega) hx hy
        have w0 : IntKind.i64.wrap (((j + 1 : Nat) : Int) - 1) = (j : Int) := by rw [IntWalk.i64_in _ (by omega)]; omega
        have e0 : ((j + 1 : Nat) : Int) - 1 = (j : Int) := by omega
        have g1 : (0 : Int) ≤ (j : Int) := by omega
        have g2 : (j : Int) < (t.length : Int) := by omega
        have g3 : ((j + 1 : Nat) : Int) < (t.length : Int) := by omega
        have g4 : ¬ (y ≤ x) := by omega
        clear hx hy hc
        go_wp2
        go_quiet (fail)
        go_wp2
        go_roundw
        case rel => exact ⟨j + 1 + 1, by omega, by omega, by go_num, hrt.below (below_drewN _ _), bdrew hb _⟩
        case measure => simp [intOf]; omega
      · go_wp2
        go_ret
        exact ⟨rfl, hb⟩
  · have hm : l.length ≤ maxLen := by unfold maxLen; omega
    have HL1 := Lib.hid (fun w hr => piles_no A cap l w hr hm h)
    go_enter Try.func4, Try.ntmps4
    go_wp2_with fail
    refine (fact_any _).mono ?_
    rintro e w1 ⟨rfl, hb1⟩
    go_wp2_with fail
    refine (HL1.out _ (hr.below hb1)).mono ?_
    rintro e w2 ⟨rfl, hb2⟩
    go_wp2_with fail
    go_ret
    exact ⟨by first | rfl | exact ret_bool (by simp), bnext hb1 hb2⟩
end Go.Proofs.Ytlchgjlinhakdaa.Rs
namespace Go.Proofs.Ytlchgjlinhakdaa.risePiles
abbrev walk := @Rs.walkPiles
end Go.Proofs.Ytlchgjlinhakdaa.risePiles
