/-
  The walk of the library's symMergeCmpFunc where one of the two rows is of one element.
-/
import Derived.Test.YtfjjjkfldekooaaWhRot
import Derived.Deep.LoopGhost
namespace Go.Proofs.Ytfjjjkfldekooaa
open Go.RowKit
set_option linter.unusedVariables false
set_option linter.unusedSimpArgs false

/-- the function value that compares -/
def cmpV (X : Nat) : Value := .func (.func 31) #[] #[.pointer (some ⟨X, 0, none⟩)]
theorem Cmp.at_ {g X : Nat} {cf : Int → Int → Int} {Pd : Int → Prop} {G : Nat} {w w1 : World} (h : Cmp g X cf Pd G w) (hg : w.grownBy w1 (some G)) : Cmp g X cf Pd G w1 :=
  fun w' h' x y hx hy => h w' (grown_trans hg h') x y hx hy

set_option maxHeartbeats 1000000 in
set_option maxRecDepth 100000 in
theorem symmerge_left (G X n c a m b : Nat) (za zm zb : Int) (pre R post : List Int) (x : Int) (cf : Int → Int → Int) (K : Int → Int) (Pd : Int → Prop) (w : World) (hn : n ≤ 1000) (hl : (pre ++ ([x] ++ (R ++ post))).length = n) (hb : IBlk w G (pre ++ ([x] ++ (R ++ post)))) (hPx : Pd x) (hPR : ∀ y ∈ R, Pd y)
    (hcmp : Cmp 31 X cf Pd G w) (hR : Runs2 K cf [x] R) (ha : a = pre.length) (hm : m = a + 1) (hbb : b = m + R.length) (hza : za = (a : Int)) (hzm : zm = (m : Int)) (hzb : zb = (b : Int)) :
    Calls Try.prog 73 #[.slice (some ⟨G, 0, none⟩) n c, .int .i64 za, .int .i64 zm, .int .i64 zb, .func (.func 31) #[] #[.pointer (some ⟨X, 0, none⟩)]] w fun e w' => e = .returned (.tuple #[]) ∧ ∃ M, Merged K [x] R M ∧ IBlk w' G (pre ++ (M ++ post)) ∧ w.grownBy w' (some G) := by
  subst hza hzm hzb
  have hbn : b ≤ n := by rw [← hl]; simp; omega
  have HR := Lib.hid hR; have HP := Lib.hid ha; have HBB := Lib.hid hbb; have HIB := Lib.hid hb; have HC := Lib.hid hcmp; have HPR := Lib.hid hPR; have HPX := Lib.hid hPx
  have hmb : m ≤ b := by omega
  have ham : a < m := by omega
  have e1 : IntKind.i64.wrap ((m : Int) - (a : Int)) = 1 := by rw [IntWalk.i64_in _ (by omega)]; omega
  have HM := Lib.hid hm
  clear hl hb hPx hPR hcmp hR ha hbb hm
  go_enter Try.func73, Try.ntmps73
  go_wp2
  go_loopw [10, 11] (fun v10 v11 wr => ∃ u t : Nat, v10 = .int .i64 (u : Int) ∧ v11 = .int .i64 (t : Int) ∧ m ≤ u ∧ u ≤ t ∧ t ≤ b ∧ Hid (Half (fun d => cf (gI R d) x < 0) 0 R.length (u - m) (t - m)) ∧ ∃ q, wr = w.drewN q) (fun v10 v11 _ => (intOf v11).toNat - (intOf v10).toNat)
  case atStart =>
    refine ⟨m, b, rfl, rfl, by omega, by omega, by omega, Lib.hid ?_, 0, rfl⟩
    have := Half.start (fun d => cf (gI R d) x < 0) (Nat.zero_le R.length)
    rwa [show m - m = 0 by omega, show b - m = R.length by have := HBB.out; omega]
  case round =>
    obtain ⟨u, t, rfl, rfl, hmu, hut, htb, HH, q, hwq⟩ := hrel
    have hgw : w.grownBy wr (some G) := by rw [hwq]; exact grown_drew _ _ _
    have HIBr : Hid (IBlk wr G (pre ++ ([x] ++ (R ++ post)))) := Lib.hid (by rw [hwq]; exact HIB.out.drewN q)
    have HWQ := Lib.hid hwq
    clear hwq
    by_cases hlt : u < t
    · have kk : (u : Int) < (t : Int) := by omega
      have e2 : IntKind.i64.wrap ((u : Int) + (t : Int)) = (u : Int) + (t : Int) := IntWalk.i64_in _ (by omega)
      have e3 : IntKind.u64.wrap ((u : Int) + (t : Int)) = (u : Int) + (t : Int) := IntWalk.u64_in _ (by omega)
      obtain ⟨h, hh⟩ : ∃ h, h = (u + t) / 2 := ⟨_, rfl⟩
      have hh1 : ((u : Int) + (t : Int)) / 2 = (h : Int) := by omega
      have hh2 : (u + t) / 2 = h := hh.symm
      have hhu : u ≤ h := by omega
      have hht : h < t := by omega
      have c0 := HIBr.out.cell (right_get pre [x] R post (j := h - m) (by have := HBB.out; omega))
      have c1 := HIBr.out.cell (left_get pre [x] (R ++ post) (i := 0) (by simp))
      rw [show pre.length + [x].length + (h - m) = h by have := HP.out; have := HM.out; simp; omega] at c0
      rw [show pre.length + 0 = a by have := HP.out; omega, show gI [x] 0 = x from rfl] at c1
      have hq := fun (q : Nat) => HC.out _ (grown_trans hgw (grown_drew wr q _)) (gI R (h - m)) x (HPR.out _ (gI_mem (by have := HBB.out; omega))) HPX.out
      have HQ := Lib.hid hq
      have e4 : IntKind.i64.wrap ((h : Int) + 1) = (h : Int) + 1 := IntWalk.i64_in _ (by omega)
      have e5 : IntKind.i64.wrap (h : Int) = (h : Int) := IntWalk.i64_in _ (by omega)
      have k1 : (h : Int) < (n : Int) := by omega
      have k2 : (a : Int) < (n : Int) := by omega
      have hmono := mono_one_left HR.out
      by_cases hc : cf (gI R (h - m)) x < 0
      · have HH2 := Lib.hid (HH.out.up (c := h - m) (fun a b h1 h2 h3 => hmono a b h1 h2 h3) (by omega) (by omega) hc)
        generalize cf (gI R (h - m)) x = d at *
        clear hmono hq hh
        go_wp2
        go_quiet (refine Calls.quiet_of (HQ.out _))
        go_wp2
        refine ⟨⟨h + 1, t, by go_num, rfl, by omega, by omega, htb, Lib.hid ?_, _, by rw [HWQ.out]; exact World.drewN_drewN _ _ _⟩, by simp [intOf]; omega⟩
        rw [show h + 1 - m = h - m + 1 by omega]
        exact HH2.out
      · have HH2 := Lib.hid (HH.out.down (c := h - m) (fun a b h1 h2 h3 => hmono a b h1 h2 h3) (by omega) (by omega) hc)
        generalize cf (gI R (h - m)) x = d at *
        clear hmono hq hh
        go_wp2
        go_quiet (refine Calls.quiet_of (HQ.out _))
        go_wp2
        exact ⟨⟨u, h, rfl, rfl, by omega, by omega, by omega, HH2, _, by rw [HWQ.out]; exact World.drewN_drewN _ _ _⟩, by simp [intOf]; omega⟩
    · obtain rfl : u = t := by omega
      have kk : ¬ (u : Int) < (u : Int) := by omega
      have hI := HH.out.le3
      have HI := Lib.hid hI
      have hr1 := List.take_append_drop (u - m) R
      have HMg := Lib.hid (merged_one_left HR.out HH.out)
      have hr2 : (R.take (u - m)).length = u - m := by rw [List.length_take]; omega
      generalize R.take (u - m) = R1 at *
      generalize R.drop (u - m) = R2 at *
      have hb0 : IBlk wr G (pre ++ ([] ++ (x :: (R1 ++ (R2 ++ post))))) := by
        have := HIBr.out
        rw [← hr1] at this
        simpa using this
      have e2 : IntKind.i64.wrap ((u : Int) - 1) = (u : Int) - 1 := IntWalk.i64_in _ (by omega)
      have HB0 := Lib.hid hb0; have HR2 := Lib.hid hr2
      clear hb0 hr1 hr2 hI HH
      clear HWQ HIBr
      obtain ⟨w0, hw0⟩ : ∃ w0, w0 = wr := ⟨_, rfl⟩
      subst hw0
      go_wp2_with fail
      go_loopw [13] (fun v13 wr => ∃ (k : Nat) (A B : List Int), v13 = .int .i64 (k : Int) ∧ a ≤ k ∧ k ≤ u - 1 ∧ Hid (R1 = A ++ B ∧ A.length = k - a) ∧ IBlk wr G (pre ++ (A ++ (x :: (B ++ (R2 ++ post))))) ∧ w.grownBy wr (some G)) (fun v13 _ => u - (intOf v13).toNat)
      case atStart => exact ⟨a, [], R1, rfl, by omega, by omega, Lib.hid ⟨rfl, by simp⟩, HB0.out, hgw⟩
      case round =>
        obtain ⟨k, A, B, rfl, hak, hku, HA, hbr, hgr⟩ := hrel
        by_cases hlt2 : k < u - 1
        · have k2 : (k : Int) < (u : Int) - 1 := by omega
          obtain ⟨y, B', hB⟩ : ∃ y B', B = y :: B' := by
            cases h : B with
            | nil => have h1 := HA.out; have h2 := HR2.out; rw [h, List.append_nil] at h1; rw [h1.1] at h2; have := h1.2; have := HM.out; omega
            | cons y t => exact ⟨y, t, rfl⟩
          have p1 : k = (pre ++ A).length := by rw [List.length_append, ← HP.out, HA.out.2]; omega
          have p2 : k + 1 = (pre ++ A).length + 1 + ([] : List Int).length := by simp at p1 ⊢; omega
          have hb1 : IBlk wr G ((pre ++ A) ++ (x :: ([] ++ (y :: (B' ++ (R2 ++ post)))))) := by
            have := hbr
            rw [hB] at this
            simpa using this
          have c0 := hb1.cell (swap_get1 _ _ _ x y p1)
          have c1 := hb1.cell (swap_get2 _ _ _ x y p2)
          have f0 := hb1.frozen k
          have f1 := hb1.frozen (k + 1)
          have HS1 := Lib.hid (swap_set (pre ++ A) [] (B' ++ (R2 ++ post)) x y p1 p2)
          have HS2 := Lib.hid (swap_set' (pre ++ A) [] (B' ++ (R2 ++ post)) x y p1 p2)
          have HB1 := Lib.hid hb1; have HB := Lib.hid hB
          have e3 : IntKind.i64.wrap ((k : Int) + 1) = (k : Int) + 1 := IntWalk.i64_in _ (by omega)
          have k3 : (k : Int) + 1 < (n : Int) := by omega
          have k4 : (k : Int) < (n : Int) := by omega
          clear hB hb1 p1 p2 hbr
          go_wp2
          go_region
          go_wp2
          refine ⟨⟨k + 1, A ++ [y], B', by go_num, by omega, by omega, Lib.hid ⟨by rw [HA.out.1, HB.out]; simp, by have := HA.out.2; simp; omega⟩, ?_, ?_⟩, by simp [intOf]; omega⟩
          · have h1 := ((HB1.out.set_ k y).set_ (k + 1) x).drew
            rw [HS1.out] at h1
            simpa using h1
          · exact grown_trans (grown_trans (grown_trans hgr (grown_drew _ _ _)) (grown_set' _ _ _ _)) (grown_set' _ _ _ _)
        · have hk : k = u - 1 := by omega
          have k2 : ¬ (k : Int) < (u : Int) - 1 := by omega
          have hB : B = [] := by
            have h1 := HA.out; have h2 := HR2.out
            rw [h1.1, List.length_append] at h2
            apply List.eq_nil_of_length_eq_zero
            have := HM.out
            omega
          have hfin : IBlk wr G (pre ++ ((R1 ++ (x :: R2)) ++ post)) := by
            have := hbr
            rw [hB] at this
            rw [HA.out.1, hB]
            simpa using this
          have HF := Lib.hid hfin
          clear hfin hbr hB hk
          go_wp2
          refine bodyPost_ret (results_none rfl _ _ _) rfl ?_
          exact ⟨rfl, _, HMg.out, HF.out, hgr⟩
end Go.Proofs.Ytfjjjkfldekooaa
