/-
  The walk of kraftFact.
-/
import Derived.Test.YtnaoonegeboflaaDoorKfAp
import Derived.Test.YtnaoonegeboflaaDoorKfCodesW
import Derived.Test.YtnaoonegeboflaaDoorTxs
namespace Go.Proofs.YtnaoonegeboflaaDoor.Kf
open Go.RowKit
set_option linter.unusedVariables false
set_option linter.unusedSimpArgs false

theorem fact_yes : ¬ Dg [[48], [48, 49], [49, 49]] ([] : List UInt8) := by
  intro h
  have := h (fun t => t = [49]) ?_ ?_ ?_
  · cases this
  · intro i k x y t hik hx hy e
    match i, k with
    | 0, 0 => exact absurd rfl hik
    | 0, 1 => simp at hx hy; subst hx; subst hy; simpa using e.symm
    | 0, 2 => simp at hx hy; subst hx; subst hy; simp at e
    | 1, 0 => simp at hx hy; subst hx; subst hy; simp at e
    | 1, 1 => exact absurd rfl hik
    | 1, 2 => simp at hx hy; subst hx; subst hy; simp at e
    | 2, 0 => simp at hx hy; subst hx; subst hy; simp at e
    | 2, 1 => simp at hx hy; subst hx; subst hy; simp at e
    | 2, 2 => exact absurd rfl hik
    | 0, k + 3 => simp at hy
    | 1, k + 3 => simp at hy
    | 2, k + 3 => simp at hy
    | i + 3, k => simp at hx
  · intro a w t ha hw e
    subst ha
    simp at hw
    rcases hw with rfl | rfl | rfl <;> simp at e
    exact e.symm
  · intro a w t ha hw e
    subst ha
    simp at hw
    rcases hw with rfl | rfl | rfl <;> simp at e
theorem fact_no : Dg [[48], [48, 49], [49, 48]] ([] : List UInt8) := by
  have h1 : Dg [[48], [48, 49], [49, 48]] ([49] : List UInt8) := Dg.first (i := 0) (k := 1) (x := [48]) (y := [48, 49]) (by decide) rfl rfl rfl
  have h2 : Dg [[48], [48, 49], [49, 48]] ([48] : List UInt8) := h1.over (w := [49, 48]) (by simp) rfl
  exact h2.under (w := [48]) (by simp) rfl

theorem lit_words (w : World) (a b c : ByteArray) : Reads (w.alloc (.cells #[.string a, .string b, .string c] 9)) (some ⟨w.heap.size, 0, none⟩) 3 1 (texts [a, b, c]) := reads_new w 9 (texts [a, b, c]) 3 1 rfl
theorem kfact_any (w : World) : Calls Tryd.prog 5 #[] w fun e w' => e = .returned (.bool true) ∧ Below w.heap.size w w' := by
  have e1 : codesOf [2, 1, 2] = [[49, 48], [48], [49, 49]] := by decide +kernel
  have f1 := fun (w : World) (g : Nat) hr => codes_ok (some ⟨g, 0, none⟩) 3 [2, 1, 2] w hr (by decide +kernel) (by decide +kernel)
  have f2 := fun (w : World) (g : Nat) hr => apart_ok (some ⟨g, 0, none⟩) 3 [⟨#[48]⟩, ⟨#[48, 49]⟩, ⟨#[49, 49]⟩] w hr (by decide) (by decide) (by intro s hs; simp at hs; rcases hs with rfl | rfl | rfl <;> decide) (by decide +kernel)
  have f3 := fun (w : World) (g : Nat) hr => apart_ok (some ⟨g, 0, none⟩) 3 [⟨#[48]⟩, ⟨#[48, 49]⟩, ⟨#[49, 48]⟩] w hr (by decide) (by decide) (by intro s hs; simp at hs; rcases hs with rfl | rfl | rfl <;> decide) (by decide +kernel)
  rw [e1] at f1
  have F1 := Lib.hid f1; have F2 := Lib.hid f2; have F3 := Lib.hid f3
  clear f1 f2 f3 e1
  go_enter Tryd.func5, Tryd.ntmps5
  go_wp2_with fail
  refine (F1.out _ _ (reads_new w 3 (ints [2, 1, 2]) 3 1 rfl)).mono ?_
  rintro e w1 ⟨G, rfl, hG, hGg, hb1⟩
  have hb1' := bnext (bnew _ _) hb1
  go_wp2_with fail
  refine (F2.out _ _ (lit_words _ _ _ _)).mono ?_
  rintro e w2 ⟨b2, rfl, hi2, hb2⟩
  obtain rfl : b2 = true := hi2.2 fact_yes
  clear hi2
  have hb12 := bnext (bnew w1 _) hb2
  have hG2 := hG.below hb12 hG.lt
  have hb2' := bnext hb1' hb12
  go_wp2_with fail
  refine (F3.out _ _ (lit_words _ _ _ _)).mono ?_
  rintro e w3 ⟨b3, rfl, hi3, hb3⟩
  obtain rfl : b3 = false := by
    cases b3
    · rfl
    · exact absurd fact_no (hi3.1 rfl)
  clear hi3
  have hb23 := bnext (bnew w2 _) hb3
  have hG3 := hG2.below hb23 hG2.lt
  have hb3' := bnext hb2' hb23
  have hT := fun (w' : World) (hr1) (hr2) => texts_any (some ⟨G, 0, none⟩) (some ⟨w3.heap.size, 0, none⟩) 3 3 [ba [49, 48], ba [48], ba [49, 49]] [⟨#[49, 48]⟩, ⟨#[48]⟩, ⟨#[49, 49]⟩] w' hr1 hr2 (by decide) (by decide)
  have HT := Lib.hid hT
  have hr1 := (hG3.alloc (.cells #[.string ⟨#[49, 48]⟩, .string ⟨#[48]⟩, .string ⟨#[49, 49]⟩] 9)).reads
  clear hT hG hG2
  go_wp2_with fail
  refine (HT.out _ hr1 (lit_words _ _ _ _)).mono ?_
  rw [show sameT [ba [49, 48], ba [48], ba [49, 49]] [⟨#[49, 48]⟩, ⟨#[48]⟩, ⟨#[49, 49]⟩] = true from sameT_self _]
  rintro e w4 ⟨rfl, hb4⟩
  go_wp2_with fail
  go_ret
  exact ⟨rfl, bnext hb3' (bnext (bnew _ _) hb4)⟩
end Go.Proofs.YtnaoonegeboflaaDoor.Kf
