/-
  The walk of letterbeckref1.Before.
-/
import Derived.Test.YtjlgjadkcpdpmaaDoorCoOf
import Derived.Test.YtjlgjadkcpdpmaaDoorCoWithin
namespace Go.Proofs.YtjlgjadkcpdpmaaDoor.Co
open Go.RowKit
set_option linter.unusedVariables false

theorem before_same (x : UInt8) (a b : List UInt8) : before (x :: a) (x :: b) = before a b := by
  show (if x = x then before a b else _) = _
  rw [if_pos rfl]
theorem before_diff {x y : UInt8} (h : ¬ x = y) (a b : List UInt8) : before (x :: a) (y :: b) = decide (x.toNat < y.toNat) := by
  show (if x = y then before a b else _) = _
  rw [if_neg h]

set_option maxHeartbeats 2000000 in
theorem before_any (a b : ByteArray) (w : World) (ha : a.size ≤ 140737488351232) (hb : b.size ≤ 140737488351232) :
    Calls Tryd.prog 24 #[.string a, .string b] w fun e w' => e = .returned (.bool (before (bs a) (bs b))) ∧ Below w.heap.size w w' := by
  obtain ⟨r, hr⟩ : ∃ r, r = before (bs a) (bs b) := ⟨_, rfl⟩
  rw [← hr]
  have HR := Lib.hid hr
  clear hr
  go_enter Tryd.func24, Tryd.ntmps24
  go_wp2_with fail
  go_loopw [5] (fun i wr => ∃ I : Nat, i = .int .i64 I ∧ I ≤ a.size ∧ I ≤ b.size ∧ before ((bs a).drop I) ((bs b).drop I) = r ∧ Below w.heap.size w wr) (fun i _ => a.size - (intOf i).toNat)
  case atStart => exact ⟨0, rfl, by omega, by omega, by simp [HR.out], Below.refl _ _⟩
  case round =>
    obtain ⟨I, rfl, hA, hB, hg, hbel⟩ := hrel
    by_cases h1 : I < a.size
    · by_cases h2 : I < b.size
      · have q1 := index_at a I _ h1 rfl
        have q2 := index_at b I _ h2 rfl
        have g1 : (I : Int) < (a.size : Int) := by omega
        have g2 : (I : Int) < (b.size : Int) := by omega
        rw [bs_drop a I h1, bs_drop b I h2] at hg
        generalize a[I] = x at *
        generalize b[I] = y at *
        by_cases hxy : x = y
        · subst hxy
          rw [before_same] at hg
          have HG := Lib.hid hg
          clear hg
          go_wp2
          go_quiet (fail)
          go_wp2
          go_roundw
          case rel => exact ⟨I + 1, by go_num, by omega, by omega, HG.out, bdrew hbel _⟩
          case measure => simp [intOf]; omega
        · rw [before_diff hxy] at hg
          have hne : ¬ (x.toNat = y.toNat) := fun h => hxy (UInt8.toNat_inj.1 h)
          have HG := Lib.hid hg
          clear hg
          have r1 : ((x.toNat : Int) != (y.toNat : Int)) = true := by rw [bne_iff_ne]; intro h; exact hne (by omega)
          go_wp2
          go_quiet (fail)
          go_wp2
          go_quiet (fail)
          go_wp2
          go_ret
          refine ⟨?_, by first | exact hbel | exact bdrew hbel _ | exact bdrew (bdrew hbel _) _⟩
          rw [← HG.out]
          exact ret_bool (by simp)
      · have e : (bs b).drop I = [] := List.drop_eq_nil_of_le (by rw [bs_length]; omega)
        have hf : r = false := by rw [← hg, e]; cases (bs a).drop I <;> rfl
        have HF := Lib.hid hf
        clear hg e hf
        go_wp2
        go_ret
        refine ⟨?_, hbel⟩
        rw [HF.out]
        first | rfl | exact ret_bool (by simp; omega)
    · have e : (bs a).drop I = [] := List.drop_eq_nil_of_le (by rw [bs_length]; omega)
      have hf : r = decide (a.size < b.size) := by
        rw [← hg, e]
        by_cases h2 : I < b.size
        · rw [bs_drop b I h2, decide_eq_true (by omega)]; rfl
        · rw [List.drop_eq_nil_of_le (show (bs b).length ≤ I by rw [bs_length]; omega), decide_eq_false (by omega)]; rfl
      have HF := Lib.hid hf
      clear hg e hf
      by_cases h2 : a.size < b.size
      · go_wp2
        go_ret
        refine ⟨?_, hbel⟩
        rw [HF.out, decide_eq_true h2]
        first | rfl | exact ret_bool (by simp; omega)
      · go_wp2
        go_ret
        refine ⟨?_, hbel⟩
        rw [HF.out, decide_eq_false h2]
        first | rfl | exact ret_bool (by simp; omega)
end Go.Proofs.YtjlgjadkcpdpmaaDoor.Co
