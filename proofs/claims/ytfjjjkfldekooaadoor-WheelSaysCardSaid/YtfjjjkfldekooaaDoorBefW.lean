/-
  The walk of the reference's Before: the order of texts.
-/
import Derived.Test.YtfjjjkfldekooaaDoorBefP
import Derived.Test.YtfjjjkfldekooaaDoorBs
import Derived.Deep.QuietTactic
import Derived.BigQuiet
namespace Go.Proofs.YtfjjjkfldekooaaDoor
open Go.RowKit
set_option linter.unusedVariables false
set_option linter.unusedSimpArgs false

theorem bs_drop (s : ByteArray) (k : Nat) (h : k < s.size) : (bs s).drop k = s[k] :: (bs s).drop (k + 1) := by
  have hl : k < (bs s).length := by rw [bs_length]; exact h
  rw [List.drop_eq_getElem_cons hl]
  rfl
theorem index_at (s : ByteArray) (K : Nat) (z : UInt8) (h : K < s.size) (hz : s[K] = z) (w : World) : (Instr.index 9 (.string s) (.int .i64 (K : Int))).run Tryd.prog w = .ok (.int .u8 (z.toNat : Int)) w := by
  rw [run_index_string w _ s _ _ Tryd.underlying9, dif_pos ⟨by omega, by omega⟩]
  subst hz
  simp

set_option maxHeartbeats 2000000 in
theorem before_any (a b : ByteArray) (w : World) (ha : a.size ≤ 140737488351232) (hb : b.size ≤ 140737488351232) :
    Calls Tryd.prog 24 #[.string a, .string b] w fun e w' => e = .returned (.bool (bef (bs a) (bs b))) ∧ ∃ q, w' = w.drewN q := by
  obtain ⟨r, hr⟩ : ∃ r, r = bef (bs a) (bs b) := ⟨_, rfl⟩
  rw [← hr]
  have HR := Lib.hid hr
  clear hr
  go_enter Tryd.func24, Tryd.ntmps24
  go_wp2_with fail
  go_loopw [5] (fun i wr => ∃ I : Nat, i = .int .i64 I ∧ I ≤ a.size ∧ I ≤ b.size ∧ bef ((bs a).drop I) ((bs b).drop I) = r ∧ ∃ q, wr = w.drewN q) (fun i _ => a.size - (intOf i).toNat)
  case atStart => exact ⟨0, rfl, by omega, by omega, by simp [HR.out], 0, rfl⟩
  case round =>
    obtain ⟨I, rfl, hA, hB, hg, q, rfl⟩ := hrel
    by_cases h1 : I < a.size
    · by_cases h2 : I < b.size
      · have q1 := index_at a I _ h1 rfl
        have q2 := index_at b I _ h2 rfl
        have g1 : (I : Int) < (a.size : Int) := by omega
        have g2 : (I : Int) < (b.size : Int) := by omega
        rw [bs_drop a I h1, bs_drop b I h2] at hg
        generalize a[I] = x at *
        generalize b[I] = y at *
        by_cases hxy : x = y
        · subst hxy
          rw [bef_same] at hg
          have HG := Lib.hid hg
          clear hg
          go_wp2
          go_quiet (fail)
          go_wp2
          go_roundw
          case rel => exact ⟨I + 1, by go_num, by omega, by omega, HG.out, by first | exact ⟨_, rfl⟩ | exact ⟨_, World.drewN_drewN _ _ _⟩⟩
          case measure => simp [intOf]; omega
        · rw [bef_diff hxy] at hg
          have hne : ¬ (x.toNat = y.toNat) := fun h => hxy (UInt8.toNat_inj.1 h)
          have HG := Lib.hid hg
          clear hg
          have r1 : ((x.toNat : Int) != (y.toNat : Int)) = true := by rw [bne_iff_ne]; intro h; exact hne (by omega)
          go_wp2
          go_quiet (fail)
          go_wp2
          go_quiet (fail)
          go_wp2
          go_ret
          refine ⟨?_, by first | exact ⟨_, rfl⟩ | exact ⟨_, World.drewN_drewN _ _ _⟩ | exact ⟨_, by rw [World.drewN_drewN, World.drewN_drewN]⟩⟩
          rw [← HG.out]
          exact ret_bool (by simp)
      · have e : (bs b).drop I = [] := List.drop_eq_nil_of_le (by rw [bs_length]; omega)
        have hf : r = false := by rw [← hg, e]; cases (bs a).drop I <;> rfl
        have HF := Lib.hid hf
        clear hg e hf
        go_wp2
        go_ret
        refine ⟨?_, by first | exact ⟨_, rfl⟩ | exact ⟨_, World.drewN_drewN _ _ _⟩⟩
        rw [HF.out]
        first | rfl | exact ret_bool (by simp; omega)
    · have e : (bs a).drop I = [] := List.drop_eq_nil_of_le (by rw [bs_length]; omega)
      have hf : r = decide (a.size < b.size) := by
        rw [← hg, e]
        by_cases h2 : I < b.size
        · rw [bs_drop b I h2, decide_eq_true (by omega)]; rfl
        · rw [List.drop_eq_nil_of_le (show (bs b).length ≤ I by rw [bs_length]; omega), decide_eq_false (by omega)]; rfl
      have HF := Lib.hid hf
      clear hg e hf
      by_cases h2 : a.size < b.size
      · go_wp2
        go_ret
        refine ⟨?_, by first | exact ⟨_, rfl⟩ | exact ⟨_, World.drewN_drewN _ _ _⟩⟩
        rw [HF.out, decide_eq_true h2]
        first | rfl | exact ret_bool (by simp; omega)
      · go_wp2
        go_ret
        refine ⟨?_, by first | exact ⟨_, rfl⟩ | exact ⟨_, World.drewN_drewN _ _ _⟩⟩
        rw [HF.out, decide_eq_false h2]
        first | rfl | exact ret_bool (by simp; omega)


end Go.Proofs.YtfjjjkfldekooaaDoor
