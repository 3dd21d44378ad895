/-
  The walk of letterbecksame.Texts: whether two lists of texts are the same.
-/
import Derived.Test.YtnaoonegeboflaaDoorBs
namespace Go.Proofs.YtnaoonegeboflaaDoor
open Go.RowKit
set_option linter.unusedVariables false
set_option linter.unusedSimpArgs false

open Classical in
/-- are two lists of texts the same? -/
noncomputable def sameT (l m : List ByteArray) : Bool := decide (l = m)
theorem sameT_iff (l m : List ByteArray) : sameT l m = true ↔ l = m := by unfold sameT; exact decide_eq_true_iff
theorem sameT_self (l : List ByteArray) : sameT l l = true := (sameT_iff l l).2 rfl
theorem bool_no {R : Bool} {p : Prop} (h : R = true ↔ p) (hp : ¬ p) : R = false := by
  cases R
  · rfl
  · exact absurd (h.1 rfl) hp

theorem texts_any (A B : Option Addr) (c d : Nat) (l m : List ByteArray) (w : World) (hl : Reads w A l.length 1 (texts l)) (hm : Reads w B m.length 1 (texts m)) (h1 : l.length ≤ 1000000) (h2 : m.length ≤ 1000000) :
    Calls Tryd.prog 14 #[.slice A l.length c, .slice B m.length d] w fun e w' => e = .returned (.bool (sameT l m)) ∧ Below w.heap.size w w' := by
  obtain ⟨R, hR⟩ : ∃ R, R = sameT l m := ⟨_, rfl⟩
  rw [← hR]
  have HRR := Lib.hid (show R = true ↔ l = m from by rw [hR]; exact sameT_iff l m)
  clear hR
  by_cases hlen : l.length = m.length
  · have hb : ((l.length : Int) != (m.length : Int)) = false := by rw [bne_eq_false_iff_eq]; omega
    have HL := Lib.hid hlen
    clear hlen
    go_enter Tryd.func14, Tryd.ntmps14
    go_wp2
    go_loopw [5, 17, 18, 19, 20, 21, 22, 23, 24, 25] (fun i _ _ _ _ _ _ _ _ _ wr => ∃ k : Nat, k ≤ l.length ∧ i = .int .i64 (k : Int) ∧ Hid (l.take k = m.take k) ∧ Below w.heap.size w wr) (fun i _ _ _ _ _ _ _ _ _ _ => l.length - (intOf i).toNat)
    case atStart => exact ⟨0, Nat.zero_le _, rfl, Lib.hid rfl, Below.refl _ _⟩
    case round =>
      obtain ⟨k, hk, rfl, HK, hbel⟩ := hrel
      by_cases hlt : k < l.length
      · have hlt2 : k < m.length := by have := HL.out; omega
        obtain ⟨b, o, rfl, hb1, hc1⟩ := (hl.below hbel).2 (by omega)
        obtain ⟨b2, o2, rfl, hb2, hc2⟩ := (hm.below hbel).2 (by omega)
        obtain ⟨x, hx⟩ : ∃ x, l[k]? = some x := ⟨_, List.getElem?_eq_getElem hlt⟩
        obtain ⟨y, hy⟩ : ∃ y, m[k]? = some y := ⟨_, List.getElem?_eq_getElem hlt2⟩
        have c0 := hc1 k (.string x) (by rw [texts_get, hx]; rfl)
        have c1 := hc2 k (.string y) (by rw [texts_get, hy]; rfl)
        have kk : (k : Int) < (l.length : Int) := by omega
        have kk2 : (k : Int) < (m.length : Int) := by omega
        have HX := Lib.hid hx; have HY := Lib.hid hy
        clear hc1 hc2 hx hy
        by_cases hxy : x = y
        · have e1 : (x.toList == y.toList) = true := by rw [hxy]; exact beq_self_eq_true _
          have HXY := Lib.hid hxy
          clear hxy
          go_wp2
          go_quiet (fail)
          go_wp2
          exact ⟨⟨k + 1, by omega, by go_num, Lib.hid (take_succ_eq' HK.out HX.out HY.out HXY.out), bdrew hbel _⟩, by simp [intOf]; omega⟩
        · have e1 : (x.toList == y.toList) = false := by
            rw [bs_beq, beq_eq_false_iff_ne]
            exact fun h => hxy (bs_inj h)
          have HXY := Lib.hid hxy
          clear hxy
          go_wp2
          go_quiet (fail)
          go_wp2
          go_ret
          rw [bool_no HRR.out (fun h => by
            have h1 := HX.out
            rw [h, HY.out] at h1
            exact absurd (Option.some.inj h1).symm HXY.out)]
          exact ⟨rfl, bdrew hbel _⟩
      · have hke := Lib.hid (show k = l.length by omega)
        have kk : ¬ (k : Int) < (l.length : Int) := by omega
        go_wp2
        go_ret
        have := HK.out
        rw [hke.out, List.take_length, HL.out, List.take_length] at this
        rw [HRR.out.2 this]
        exact ⟨rfl, hbel⟩
  · have hb : ((l.length : Int) != (m.length : Int)) = true := by rw [bne_iff_ne]; omega
    have HL := Lib.hid hlen
    clear hlen
    go_enter Tryd.func14, Tryd.ntmps14
    go_wp2
    go_ret
    rw [bool_no HRR.out fun h => absurd (congrArg List.length h) HL.out]
    exact ⟨rfl, Below.refl _ _⟩
end Go.Proofs.YtnaoonegeboflaaDoor
