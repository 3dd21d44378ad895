/-
  The walk of the library's symMergeCmpFunc where the row on the right is of one element.
-/
import Derived.Test.YtfjjjkfldekooaaWhSym1
namespace Go.Proofs.Ytfjjjkfldekooaa
open Go.RowKit
set_option linter.unusedVariables false
set_option linter.unusedSimpArgs false

def HalfY (cf : Int → Int → Int) (y : Int) (L : List Int) (p q : Nat) : Prop := Half (fun d => ¬ cf y (gI L d) < 0) 0 L.length p q
set_option maxHeartbeats 1000000 in
set_option maxRecDepth 100000 in
theorem symmerge_right (G X n c a m b : Nat) (za zm zb : Int) (pre L post : List Int) (y : Int) (cf : Int → Int → Int) (K : Int → Int) (Pd : Int → Prop) (w : World) (hn : n ≤ 1000) (hl : (pre ++ (L ++ ([y] ++ post))).length = n) (hb : IBlk w G (pre ++ (L ++ ([y] ++ post)))) (hPy : Pd y) (hPL : ∀ x ∈ L, Pd x) (hL1 : 1 < L.length)
    (hcmp : Cmp 31 X cf Pd G w) (hR : Runs2 K cf L [y]) (ha : a = pre.length) (hm : m = a + L.length) (hbb : b = m + 1) (hza : za = (a : Int)) (hzm : zm = (m : Int)) (hzb : zb = (b : Int)) :
    Calls Try.prog 73 #[.slice (some ⟨G, 0, none⟩) n c, .int .i64 za, .int .i64 zm, .int .i64 zb, .func (.func 31) #[] #[.pointer (some ⟨X, 0, none⟩)]] w fun e w' => e = .returned (.tuple #[]) ∧ ∃ M, Merged K L [y] M ∧ IBlk w' G (pre ++ (M ++ post)) ∧ w.grownBy w' (some G) := by
  subst hza hzm hzb
  have hbn : b ≤ n := by rw [← hl]; simp; omega
  have HR := Lib.hid hR; have HP := Lib.hid ha; have HBB := Lib.hid hbb; have HIB := Lib.hid hb; have HC := Lib.hid hcmp; have HPL := Lib.hid hPL; have HPY := Lib.hid hPy
  have hmb : m < b := by omega
  have ham : a + 1 < m := by omega
  obtain ⟨la, hla⟩ : ∃ la, la = m - a := ⟨_, rfl⟩
  have e0 : IntKind.i64.wrap ((m : Int) - (a : Int)) = (la : Int) := by rw [IntWalk.i64_in _ (by omega)]; omega
  have e00 : ((la : Int) == 1) = false := by simp; omega
  have e1 : IntKind.i64.wrap ((b : Int) - (m : Int)) = 1 := by rw [IntWalk.i64_in _ (by omega)]; omega
  have HM := Lib.hid hm
  clear hl hb hPy hPL hcmp hR ha hbb hm hL1 hla
  go_enter Try.func73, Try.ntmps73
  go_wp2
  go_loopg [14, 15] (m - a) (fun g v14 v15 wr => ∃ u t : Nat, t - u ≤ g ∧ v14 = .int .i64 (u : Int) ∧ v15 = .int .i64 (t : Int) ∧ a ≤ u ∧ u ≤ t ∧ t ≤ m ∧ Hid (HalfY cf y L (u - a) (t - a)) ∧ ∃ q, wr = w.drewN q)
  case atStart =>
    refine ⟨a, m, by omega, rfl, rfl, by omega, by omega, by omega, Lib.hid ?_, 0, rfl⟩
    have := Half.start (fun d => ¬ cf y (gI L d) < 0) (Nat.zero_le L.length)
    unfold HalfY
    rwa [show a - a = 0 by omega, show m - a = L.length by have := HM.out; omega]
  case round =>
    obtain ⟨u, t, hgk, rfl, rfl, hmu, hut, htb, HH, q, hwq⟩ := hrel
    have hgw : w.grownBy wr (some G) := by rw [hwq]; exact grown_drew _ _ _
    have HIBr : Hid (IBlk wr G (pre ++ (L ++ ([y] ++ post)))) := Lib.hid (by rw [hwq]; exact HIB.out.drewN q)
    have HWQ := Lib.hid hwq
    clear hwq
    by_cases hlt : u < t
    · have kk : (u : Int) < (t : Int) := by omega
      have e2 : IntKind.i64.wrap ((u : Int) + (t : Int)) = (u : Int) + (t : Int) := IntWalk.i64_in _ (by omega)
      have e3 : IntKind.u64.wrap ((u : Int) + (t : Int)) = (u : Int) + (t : Int) := IntWalk.u64_in _ (by omega)
      obtain ⟨h, hh⟩ : ∃ h, h = (u + t) / 2 := ⟨_, rfl⟩
      have hh1 : ((u : Int) + (t : Int)) / 2 = (h : Int) := by omega
      have hh2 : (u + t) / 2 = h := hh.symm
      have hhu : u ≤ h := by omega
      have hht : h < t := by omega
      have c0 := HIBr.out.cell (right_get pre L [y] post (j := 0) (by simp))
      have c1 := HIBr.out.cell (left_get pre L ([y] ++ post) (i := h - a) (by have := HM.out; omega))
      rw [show pre.length + L.length + 0 = m by have := HP.out; have := HM.out; omega, show gI [y] 0 = y from rfl] at c0
      rw [show pre.length + (h - a) = h by have := HP.out; omega] at c1
      have hq := fun (q : Nat) => HC.out _ (grown_trans hgw (grown_drew wr q _)) y (gI L (h - a)) HPY.out (HPL.out _ (gI_mem (by have := HM.out; omega)))
      have HQ := Lib.hid hq
      have e4 : IntKind.i64.wrap ((h : Int) + 1) = (h : Int) + 1 := IntWalk.i64_in _ (by omega)
      have e5 : IntKind.i64.wrap (h : Int) = (h : Int) := IntWalk.i64_in _ (by omega)
      have k1 : (h : Int) < (n : Int) := by omega
      have k2 : (m : Int) < (n : Int) := by omega
      have hmono := mono_one_right HR.out
      by_cases hc : cf y (gI L (h - a)) < 0
      · have HH2 : Hid (HalfY cf y L (u - a) (h - a)) := Lib.hid (Half.down (P := fun d => ¬ cf y (gI L d) < 0) HH.out (c := h - a) (fun a b h1 h2 h3 => hmono a b h1 h2 h3) (by omega) (by omega) (fun hn => hn hc))
        generalize cf y (gI L (h - a)) = d at *
        clear hmono hq hh
        go_wp2
        go_quiet (refine Calls.quiet_of (HQ.out _))
        go_wp2
        go_roundg (h - u)
        case measure => omega
        case rel =>
          exact ⟨u, h, by omega, rfl, rfl, by omega, by omega, by omega, HH2, _, by rw [HWQ.out]; exact World.drewN_drewN _ _ _⟩
      · have HH2 : Hid (HalfY cf y L (h - a + 1) (t - a)) := Lib.hid (Half.up (P := fun d => ¬ cf y (gI L d) < 0) HH.out (c := h - a) (fun a b h1 h2 h3 => hmono a b h1 h2 h3) (by omega) (by omega) hc)
        generalize cf y (gI L (h - a)) = d at *
        have hcd : decide (d < 0) = false := by simpa using hc
        clear hmono hq hh
        go_wp2
        go_quiet (refine Calls.quiet_of (HQ.out _))
        go_wp2
        go_roundg (t - (h + 1))
        case measure => omega
        case rel =>
          refine ⟨h + 1, t, by omega, by go_num, rfl, by omega, by omega, htb, Lib.hid ?_, _, by rw [HWQ.out]; exact World.drewN_drewN _ _ _⟩
          rw [show h + 1 - a = h - a + 1 by omega]
          exact HH2.out
    · obtain rfl : u = t := by omega
      have kk : ¬ (u : Int) < (u : Int) := by omega
      have hI := Half.le3 (P := fun d => ¬ cf y (gI L d) < 0) HH.out
      have HI := Lib.hid hI
      have hr1 := List.take_append_drop (u - a) L
      have HMg := Lib.hid (merged_one_right HR.out HH.out)
      have hr2 : (L.take (u - a)).length = u - a := by rw [List.length_take]; omega
      have hr3 : (L.drop (u - a)).length = m - u := by rw [List.length_drop]; have := HM.out; omega
      generalize L.take (u - a) = L1 at *
      generalize L.drop (u - a) = L2 at *
      have hb0 : IBlk wr G (pre ++ (L1 ++ (L2 ++ (y :: ([] ++ post))))) := by
        have := HIBr.out
        rw [← hr1] at this
        simpa using this
      have HB0 := Lib.hid hb0; have HR2 := Lib.hid hr2; have HR3 := Lib.hid hr3
      clear hb0 hr1 hr2 hr3 hI HH
      clear HWQ HIBr
      obtain ⟨w0, hw0⟩ : ∃ w0, w0 = wr := ⟨_, rfl⟩
      subst hw0
      go_wp2_with fail
      go_loopw [17] (fun v17 wr => ∃ (k : Nat) (A B : List Int), v17 = .int .i64 (k : Int) ∧ u ≤ k ∧ k ≤ m ∧ Hid (L2 = A ++ B ∧ A.length = k - u) ∧ IBlk wr G (pre ++ (L1 ++ (A ++ (y :: (B ++ post))))) ∧ w.grownBy wr (some G)) (fun v17 _ => (intOf v17).toNat)
      case atStart => exact ⟨m, L2, [], rfl, by omega, by omega, Lib.hid ⟨by simp, HR3.out⟩, HB0.out, hgw⟩
      case round =>
        obtain ⟨k, A, B, rfl, hak, hku, HA, hbr, hgr⟩ := hrel
        by_cases hlt2 : u < k
        · obtain ⟨k', rfl⟩ : ∃ k', k = k' + 1 := ⟨k - 1, by omega⟩
          have k2 : (u : Int) < ((k' + 1 : Nat) : Int) := by omega
          obtain ⟨A', x, hA⟩ : ∃ A' x, A = A' ++ [x] := by
            rcases List.eq_nil_or_concat A with h | ⟨l, x, e⟩
            · have h1 := HA.out.2; rw [h] at h1; simp at h1; omega
            · exact ⟨l, x, by simpa using e⟩
          have hA' : A'.length = k' - u := by have := HA.out.2; rw [hA, List.length_append] at this; simp at this; omega
          have p1 : k' = (pre ++ (L1 ++ A')).length := by rw [List.length_append, List.length_append, ← HP.out, HR2.out, hA']; omega
          have p2 : k' + 1 = (pre ++ (L1 ++ A')).length + 1 + ([] : List Int).length := by simp at p1 ⊢; omega
          have hb1 : IBlk wr G ((pre ++ (L1 ++ A')) ++ (x :: ([] ++ (y :: (B ++ post))))) := by
            have := hbr
            rw [hA] at this
            simpa using this
          have c0 := hb1.cell (swap_get1 _ _ _ x y p1)
          have c1 := hb1.cell (swap_get2 _ _ _ x y p2)
          have f0 := hb1.frozen k'
          have f1 := hb1.frozen (k' + 1)
          have HS1 := Lib.hid (swap_set (pre ++ (L1 ++ A')) [] (B ++ post) x y p1 p2)
          have HS2 := Lib.hid (swap_set' (pre ++ (L1 ++ A')) [] (B ++ post) x y p1 p2)
          have HB1 := Lib.hid hb1; have HAx := Lib.hid hA; have HA' := Lib.hid hA'
          have k5 : ((k' + 1 : Nat) : Int) - 1 = (k' : Int) := by omega
          have k6 : ((k' : Int) + 1) - 1 = (k' : Int) := by omega
          have e3 : IntKind.i64.wrap (k' : Int) = (k' : Int) := IntWalk.i64_in _ (by omega)
          have k3 : (k' : Int) + 1 < (n : Int) := by omega
          have k4 : (k' : Int) < (n : Int) := by omega
          have k7 : (u : Int) < (k' : Int) + 1 := by omega
          have k8 : u < k' + 1 := hlt2
          have k9 : u ≤ k' := by omega
          clear hA hA' hb1 p1 p2 hbr
          go_wp2
          go_region
          go_wp2
          refine ⟨⟨k', A', x :: B, by go_num, by omega, by omega, Lib.hid ⟨by rw [HA.out.1, HAx.out]; simp, HA'.out⟩, ?_, ?_⟩, by simp [intOf]⟩
          · have h1 := ((HB1.out.set_ (k' + 1) x).set_ k' y).drew
            rw [HS2.out] at h1
            simpa using h1
          · exact grown_trans (grown_trans (grown_trans hgr (grown_drew _ _ _)) (grown_set' _ _ _ _)) (grown_set' _ _ _ _)
        · have hk : k = u := by omega
          subst hk
          have k2 : ¬ (k : Int) < (k : Int) := by omega
          have hA : A = [] := by
            have h1 := HA.out.2
            apply List.eq_nil_of_length_eq_zero
            omega
          have hfin : IBlk wr G (pre ++ ((L1 ++ (y :: L2)) ++ post)) := by
            have := hbr
            rw [hA] at this
            rw [HA.out.1, hA]
            simpa using this
          have HF := Lib.hid hfin
          clear hfin hbr hA
          go_wp2
          refine bodyPost_ret (results_none rfl _ _ _) rfl ?_
          exact ⟨rfl, _, HMg.out, HF.out, hgr⟩
end Go.Proofs.Ytfjjjkfldekooaa
