/-
  The walks of the library's swapRangeCmpFunc and rotateCmpFunc at a row of numbers that the call itself made.
-/
import Derived.Test.YtfjjjkfldekooaaWhSort
import Derived.Test.YtfjjjkfldekooaaWhMrgP
namespace Go.Proofs.Ytfjjjkfldekooaa
open Go.RowKit
set_option linter.unusedVariables false
set_option linter.unusedSimpArgs false

theorem swap_set (U V W : List Int) (x y : Int) {i j : Nat} (hi : i = U.length) (hj : j = U.length + 1 + V.length) :
    ((U ++ (x :: (V ++ (y :: W)))).set i y).set j x = U ++ (y :: (V ++ (x :: W))) := by
  subst hi; subst hj
  rw [List.set_append_right _ _ (Nat.le_refl _), Nat.sub_self, List.set_cons_zero, List.set_append_right _ _ (by omega), show U.length + 1 + V.length - U.length = V.length + 1 by omega, List.set_cons_succ, List.set_append_right _ _ (Nat.le_refl _), Nat.sub_self, List.set_cons_zero]
theorem swap_set' (U V W : List Int) (x y : Int) {i j : Nat} (hi : i = U.length) (hj : j = U.length + 1 + V.length) :
    ((U ++ (x :: (V ++ (y :: W)))).set j x).set i y = U ++ (y :: (V ++ (x :: W))) := by
  rw [← List.set_comm _ _ (by omega), swap_set U V W x y hi hj]
theorem swap_get1 (U V W : List Int) (x y : Int) {i : Nat} (hi : i = U.length) : (U ++ (x :: (V ++ (y :: W))))[i]? = some x := by
  subst hi
  rw [List.getElem?_append_right (Nat.le_refl _), Nat.sub_self]; rfl
theorem swap_get2 (U V W : List Int) (x y : Int) {j : Nat} (hj : j = U.length + 1 + V.length) : (U ++ (x :: (V ++ (y :: W))))[j]? = some y := by
  subst hj
  rw [List.getElem?_append_right (by omega), show U.length + 1 + V.length - U.length = V.length + 1 by omega, List.getElem?_cons_succ, List.getElem?_append_right (Nat.le_refl _), Nat.sub_self]; rfl

set_option maxHeartbeats 1000000 in
theorem swaprange_any (G n c N a b : Nat) (za zb zk : Int) (P A Mid B Q : List Int) (v : Value) (w : World) (hn : n ≤ 1000) (hl : (P ++ (A ++ (Mid ++ (B ++ Q)))).length = n) (hb : IBlk w G (P ++ (A ++ (Mid ++ (B ++ Q))))) (hA : A.length = N) (hB : B.length = N)
    (ha : a = P.length) (hbb : b = P.length + N + Mid.length) (hza : za = (a : Int)) (hzb : zb = (b : Int)) (hzk : zk = (N : Int)) :
    Calls Try.prog 102 #[.slice (some ⟨G, 0, none⟩) n c, .int .i64 za, .int .i64 zb, .int .i64 zk, v] w fun e w' => e = .returned (.tuple #[]) ∧ IBlk w' G (P ++ (B ++ (Mid ++ (A ++ Q)))) ∧ w.grownBy w' (some G) := by
  subst hza hzb hzk
  have hbn : b + N ≤ n := by rw [← hl]; simp; omega
  have han : a + N ≤ b := by omega
  have HA := Lib.hid hA; have HB := Lib.hid hB; have HP := Lib.hid ha; have HBB := Lib.hid hbb; have HIB := Lib.hid hb
  clear hA hB ha hbb hb hl
  go_enter Try.func102, Try.ntmps102
  go_wp2
  go_loopw [10] (fun iv wr => ∃ (k : Nat) (A1 A2 B1 B2 : List Int), iv = .int .i64 (k : Int) ∧ k ≤ N ∧ Hid (A = A1 ++ A2 ∧ B = B1 ++ B2 ∧ A1.length = k ∧ B1.length = k) ∧ IBlk wr G (P ++ (B1 ++ (A2 ++ (Mid ++ (A1 ++ (B2 ++ Q)))))) ∧ w.grownBy wr (some G)) (fun iv _ => N - (intOf iv).toNat)
  case atStart => exact ⟨0, [], A, [], B, rfl, by omega, Lib.hid ⟨rfl, rfl, rfl, rfl⟩, HIB.out, grown_drew w 0 _⟩
  case round =>
    obtain ⟨k, A1, A2, B1, B2, rfl, hk, HI, hbr, hgr⟩ := hrel
    by_cases hlt : k < N
    · have kk : (k : Int) < (N : Int) := by omega
      obtain ⟨x, A2', hA2⟩ : ∃ x A2', A2 = x :: A2' := by
        cases h : A2 with
        | nil => have := HI.out.1; have := HI.out.2.2.1; have := HA.out; simp_all
        | cons x t => exact ⟨x, t, rfl⟩
      obtain ⟨y, B2', hB2⟩ : ∃ y B2', B2 = y :: B2' := by
        cases h : B2 with
        | nil => have := HI.out.2.1; have := HI.out.2.2.2; have := HB.out; simp_all
        | cons x t => exact ⟨x, t, rfl⟩
      have hAl : A1.length + 1 + A2'.length = N := by rw [← HA.out, HI.out.1, hA2]; simp; omega
      have hA1 := HI.out.2.2.1
      have hB1 := HI.out.2.2.2
      have hb1 : IBlk wr G ((P ++ B1) ++ (x :: ((A2' ++ (Mid ++ A1)) ++ (y :: (B2' ++ Q))))) := by
        have := hbr
        rw [hA2, hB2] at this
        simpa using this
      have p1 : a + k = (P ++ B1).length := by rw [List.length_append, ← HP.out, hB1]
      have p2 : b + k = (P ++ B1).length + 1 + (A2' ++ (Mid ++ A1)).length := by simp; have := HBB.out; have := HP.out; omega
      have c0 := hb1.cell (swap_get1 _ _ _ x y p1)
      have c1 := hb1.cell (swap_get2 _ _ _ x y p2)
      have f0 := hb1.frozen (a + k)
      have f1 := hb1.frozen (b + k)
      have HS1 := Lib.hid (swap_set (P ++ B1) (A2' ++ (Mid ++ A1)) (B2' ++ Q) x y p1 p2)
      have HS2 := Lib.hid (swap_set' (P ++ B1) (A2' ++ (Mid ++ A1)) (B2' ++ Q) x y p1 p2)
      have HB1 := Lib.hid hb1
      have e1 : IntKind.i64.wrap ((a : Int) + (k : Int)) = (a : Int) + (k : Int) := IntWalk.i64_in _ (by omega)
      have e2 : IntKind.i64.wrap ((b : Int) + (k : Int)) = (b : Int) + (k : Int) := IntWalk.i64_in _ (by omega)
      have e3 : IntKind.i64.wrap ((k : Int) + 1) = (k : Int) + 1 := IntWalk.i64_in _ (by omega)
      have k1 : (a : Int) + (k : Int) < (n : Int) := by omega
      have k2 : (b : Int) + (k : Int) < (n : Int) := by omega
      have k3 : 0 ≤ (a : Int) + (k : Int) := by omega
      have k4 : 0 ≤ (b : Int) + (k : Int) := by omega
      have t1 : ((a : Int) + (k : Int)).toNat = a + k := by omega
      have t2 : ((b : Int) + (k : Int)).toNat = b + k := by omega
      have HX := Lib.hid hA2; have HY := Lib.hid hB2
      have HA1 := Lib.hid hA1; have HB1l := Lib.hid hB1
      clear hA2 hB2 hb1 p1 p2 hbr hAl hA1 hB1
      go_wp2
      go_region
      go_wp2
      refine ⟨⟨k + 1, A1 ++ [x], A2', B1 ++ [y], B2', by go_num, by omega, Lib.hid ⟨by rw [HI.out.1, HX.out]; simp, by rw [HI.out.2.1, HY.out]; simp, by simp [HA1.out], by simp [HB1l.out]⟩, ?_, ?_⟩, by simp [intOf]; omega⟩
      · have h1 := ((HB1.out.set_ (a + k) y).set_ (b + k) x).drew
        rw [HS1.out] at h1
        simpa using h1
      · exact grown_trans (grown_trans (grown_trans hgr (grown_drew _ _ _)) (grown_set' _ _ _ _)) (grown_set' _ _ _ _)
    · obtain rfl : k = N := by omega
      have kk : ¬ (k : Int) < (k : Int) := by omega
      have hA2 : A2 = [] := by have := HI.out.1; have := HI.out.2.2.1; have := HA.out; apply List.eq_nil_of_length_eq_zero; simp_all
      have hB2 : B2 = [] := by have := HI.out.2.1; have := HI.out.2.2.2; have := HB.out; apply List.eq_nil_of_length_eq_zero; simp_all
      have hfin : IBlk wr G (P ++ (B ++ (Mid ++ (A ++ Q)))) := by
        have := hbr
        rw [hA2, hB2] at this
        rw [HI.out.1, HI.out.2.1, hA2, hB2]
        simpa using this
      clear hbr hA2 hB2
      go_wp2
      go_end0
      exact ⟨rfl, hfin, hgr⟩
end Go.Proofs.Ytfjjjkfldekooaa
