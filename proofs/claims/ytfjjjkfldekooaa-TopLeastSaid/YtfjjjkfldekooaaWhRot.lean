/-
  The walk of the library's rotateCmpFunc at a row of numbers that the call itself made.
-/
import Derived.Test.YtfjjjkfldekooaaWhSwap
namespace Go.Proofs.Ytfjjjkfldekooaa
open Go.RowKit
set_option linter.unusedVariables false
set_option linter.unusedSimpArgs false

set_option maxHeartbeats 1000000 in
set_option maxRecDepth 100000 in
theorem rotate_any (G n c a m b : Nat) (za zm zb : Int) (P A B Q : List Int) (v : Value) (w : World) (hn : n ≤ 1000) (hl : (P ++ (A ++ (B ++ Q))).length = n) (hb : IBlk w G (P ++ (A ++ (B ++ Q)))) (hA : 0 < A.length) (hB : 0 < B.length)
    (ha : a = P.length) (hm : m = a + A.length) (hbb : b = m + B.length) (hza : za = (a : Int)) (hzm : zm = (m : Int)) (hzb : zb = (b : Int)) :
    Calls Try.prog 92 #[.slice (some ⟨G, 0, none⟩) n c, .int .i64 za, .int .i64 zm, .int .i64 zb, v] w fun e w' => e = .returned (.tuple #[]) ∧ IBlk w' G (P ++ (B ++ (A ++ Q))) ∧ w.grownBy w' (some G) := by
  subst hza hzm hzb
  have hbn : b ≤ n := by rw [← hl]; simp; omega
  have ham : a < m := by omega
  have hmb : m < b := by omega
  have HA := Lib.hid (show A.length = m - a by omega); have HB := Lib.hid (show B.length = b - m by omega); have HP := Lib.hid ha; have HIB := Lib.hid hb; have HL := Lib.hid hl
  obtain ⟨i0, hi0⟩ : ∃ i0, i0 = m - a := ⟨_, rfl⟩
  obtain ⟨j0, hj0⟩ : ∃ j0, j0 = b - m := ⟨_, rfl⟩
  have e1 : IntKind.i64.wrap ((m : Int) - (a : Int)) = (i0 : Int) := by rw [IntWalk.i64_in _ (by omega)]; omega
  have e2 : IntKind.i64.wrap ((b : Int) - (m : Int)) = (j0 : Int) := by rw [IntWalk.i64_in _ (by omega)]; omega
  have HI0 := Lib.hid hi0; have HJ0 := Lib.hid hj0
  clear hi0 hj0
  clear hA hB ha hm hbb hb hl
  go_enter Try.func92, Try.ntmps92
  go_wp2
  go_loopw [10, 11] (fun iv jv wr => ∃ (i j : Nat) (P' X Y Q' : List Int), iv = .int .i64 (i : Int) ∧ jv = .int .i64 (j : Int) ∧ 1 ≤ i ∧ 1 ≤ j ∧ i ≤ m ∧ m + j ≤ n ∧ Hid (X.length = i ∧ Y.length = j ∧ P'.length + i = m ∧ P' ++ (Y ++ (X ++ Q')) = P ++ (B ++ (A ++ Q))) ∧ IBlk wr G (P' ++ (X ++ (Y ++ Q'))) ∧ w.grownBy wr (some G)) (fun iv jv _ => (intOf iv).toNat + (intOf jv).toNat)
  case atStart =>
    have hi0 := HI0.out
    have hj0 := HJ0.out
    exact ⟨i0, j0, P, A, B, Q, rfl, rfl, by omega, by omega, by omega, by omega, Lib.hid ⟨by rw [HA.out, hi0], by rw [HB.out, hj0], by have := HP.out; omega, rfl⟩, HIB.out, grown_drew w 0 _⟩
  case round =>
    obtain ⟨i, j, P', X, Y, Q', rfl, rfl, hi, hj, him, hjn, HI, hbr, hgr⟩ := hrel
    have hll : (P' ++ (X ++ (Y ++ Q'))).length = n := by
      have := congrArg List.length HI.out.2.2.2
      rw [← HL.out]
      simp at this ⊢
      omega
    obtain ⟨p, hp⟩ : ∃ p, p + i = m := ⟨m - i, by omega⟩
    have e3 : IntKind.i64.wrap ((m : Int) - (i : Int)) = (p : Int) := by rw [IntWalk.i64_in _ (by omega)]; omega
    have HPI := Lib.hid hp
    have HLL := Lib.hid hll
    have HBR := Lib.hid hbr
    clear hll hbr
    rcases Nat.lt_trichotomy i j with hlt | heq | hgt
    · have k1 : ¬ (i : Int) = (j : Int) := by omega
      have k2 : ¬ (j : Int) < (i : Int) := by omega
      obtain ⟨d, hd⟩ : ∃ d, d + i = j := ⟨j - i, by omega⟩
      obtain ⟨s, hs⟩ : ∃ s, s = m + j := ⟨_, rfl⟩
      obtain ⟨r, hr⟩ : ∃ r, r + i = s := ⟨s - i, by omega⟩
      have e4 : IntKind.i64.wrap ((m : Int) + (j : Int)) = (s : Int) := by rw [IntWalk.i64_in _ (by omega)]; omega
      have e5 : IntKind.i64.wrap ((s : Int) - (i : Int)) = (r : Int) := by rw [IntWalk.i64_in _ (by omega)]; omega
      have e6 : IntKind.i64.wrap ((j : Int) - (i : Int)) = (d : Int) := by rw [IntWalk.i64_in _ (by omega)]; omega
      have hY := List.take_append_drop d Y
      have hY1 : (Y.take d).length = d := by have := HI.out.2.1; simp; omega
      have hY2 : (Y.drop d).length = i := by have := HI.out.2.1; simp; omega
      generalize Y.take d = Y1 at *
      generalize Y.drop d = Y2 at *
      have HY := Lib.hid hY; have HY1 := Lib.hid hY1; have HY2 := Lib.hid hY2
      have HC := Lib.hid (swaprange_any G n c i p r (p : Int) (r : Int) (i : Int) P' X Y1 Y2 Q' v wr hn (by have := HLL.out; rw [← hY] at this; simpa using this) (by have := HBR.out; rw [← hY] at this; simpa using this) HI.out.1 hY2 (by have := HI.out.2.2.1; omega) (by have := HI.out.2.2.1; omega) rfl rfl rfl)
      have HD := Lib.hid hd
      clear hY hY1 hY2 hd hs hr hp
      go_wp2_with fail
      refine HC.out.mono ?_
      rintro e w1 ⟨rfl, hb1, hg1⟩
      go_wp2
      have hI := HI.out
      have hd := HD.out
      refine ⟨⟨i, d, P', Y2, Y1, X ++ Q', rfl, by go_num, hi, by omega, him, by omega, Lib.hid ⟨HY2.out, HY1.out, hI.2.2.1, by rw [← hI.2.2.2, ← HY.out]; simp⟩, hb1, grown_trans hgr hg1⟩, by simp [intOf]; omega⟩
    · subst heq
      have k1 : (i : Int) = (i : Int) := rfl
      have HC := Lib.hid (swaprange_any G n c i p m (p : Int) (m : Int) (i : Int) P' X [] Y Q' v wr hn HLL.out HBR.out HI.out.1 HI.out.2.1 (by have := HI.out.2.2.1; omega) (by have := HI.out.2.2.1; simp; omega) rfl rfl rfl)
      clear k1 hp
      go_wp2_with fail
      refine HC.out.mono ?_
      rintro e w1 ⟨rfl, hb1, hg1⟩
      have hfin : IBlk w1 G (P ++ (B ++ (A ++ Q))) := by rw [← HI.out.2.2.2]; exact hb1
      clear hb1
      go_wp2
      go_end0
      exact ⟨rfl, hfin, grown_trans hgr hg1⟩
    · have k1 : ¬ (i : Int) = (j : Int) := by omega
      have k2 : (j : Int) < (i : Int) := by omega
      obtain ⟨d, hd⟩ : ∃ d, d + j = i := ⟨i - j, by omega⟩
      have e6 : IntKind.i64.wrap ((i : Int) - (j : Int)) = (d : Int) := by rw [IntWalk.i64_in _ (by omega)]; omega
      have hX := List.take_append_drop j X
      have hX1 : (X.take j).length = j := by have := HI.out.1; simp; omega
      have hX2 : (X.drop j).length = d := by have := HI.out.1; simp; omega
      generalize X.take j = X1 at *
      generalize X.drop j = X2 at *
      have HX := Lib.hid hX; have HX1 := Lib.hid hX1; have HX2 := Lib.hid hX2
      have HC := Lib.hid (swaprange_any G n c j p m (p : Int) (m : Int) (j : Int) P' X1 X2 Y Q' v wr hn (by have := HLL.out; rw [← hX] at this; simpa using this) (by have := HBR.out; rw [← hX] at this; simpa using this) hX1 HI.out.2.1 (by have := HI.out.2.2.1; omega) (by have := HI.out.2.2.1; omega) rfl rfl rfl)
      have HD := Lib.hid hd
      clear hX hX1 hX2 hd hp
      go_wp2_with fail
      refine HC.out.mono ?_
      rintro e w1 ⟨rfl, hb1, hg1⟩
      go_wp2
      have hI := HI.out
      have hd := HD.out
      refine ⟨⟨d, j, P' ++ Y, X2, X1, Q', by go_num, rfl, by omega, hj, by omega, by omega, Lib.hid ⟨HX2.out, HX1.out, by have := hI.2.2.1; have := hI.2.1; simp; omega, by rw [← hI.2.2.2, ← HX.out]; simp⟩, by simpa using hb1, grown_trans hgr hg1⟩, by simp [intOf]; omega⟩
end Go.Proofs.Ytfjjjkfldekooaa
