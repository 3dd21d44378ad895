/-
  The walk of the library's symMergeCmpFunc where both rows are of two elements or more; and of all of it.
-/
import Derived.Test.YtfjjjkfldekooaaWhSym2
namespace Go.Proofs.Ytfjjjkfldekooaa
open Go.RowKit
set_option linter.unusedVariables false
set_option linter.unusedSimpArgs false

def HalfM (cf : Int → Int → Int) (L R : List Int) (H p q : Nat) : Prop := Half (fun d => ¬ cf (gI R (H - 1 - d)) (gI L d) < 0) (H - R.length) (min L.length H) p q
/-- what is to be shown, for rows shorter than so many -/
def SymOk (X G n c : Nat) (cf : Int → Int → Int) (K : Int → Int) (Pd : Int → Prop) (N0 : Nat) : Prop :=
  ∀ (a m b : Nat) (pre L R post : List Int) (w : World), L.length + R.length < N0 → 0 < L.length → 0 < R.length → (pre ++ (L ++ (R ++ post))).length = n → IBlk w G (pre ++ (L ++ (R ++ post))) → (∀ x ∈ L, Pd x) → (∀ x ∈ R, Pd x) →
    Cmp 31 X cf Pd G w → Runs2 K cf L R → a = pre.length → m = a + L.length → b = m + R.length →
    Calls Try.prog 73 #[.slice (some ⟨G, 0, none⟩) n c, .int .i64 (a : Int), .int .i64 (m : Int), .int .i64 (b : Int), .func (.func 31) #[] #[.pointer (some ⟨X, 0, none⟩)]] w fun e w' => e = .returned (.tuple #[]) ∧ ∃ M, Merged K L R M ∧ IBlk w' G (pre ++ (M ++ post)) ∧ w.grownBy w' (some G)

set_option maxHeartbeats 1000000 in
set_option maxRecDepth 100000 in
theorem symmerge_mid1 (X G n c : Nat) (cf : Int → Int → Int) (K : Int → Int) (Pd : Int → Prop) (N0 : Nat) (IH : SymOk X G n c cf K Pd N0) (hn : n ≤ 1000)
    (a m b mid : Nat) (pre L R post : List Int) (w : World) (hN0 : L.length + R.length = N0) (hL1 : 1 < L.length) (hR1 : 1 < R.length) (hl : (pre ++ (L ++ (R ++ post))).length = n) (hb : IBlk w G (pre ++ (L ++ (R ++ post)))) (hPL : ∀ x ∈ L, Pd x) (hPR : ∀ x ∈ R, Pd x)
    (hcmp : Cmp 31 X cf Pd G w) (hR : Runs2 K cf L R) (ha : a = pre.length) (hm : m = a + L.length) (hbb : b = m + R.length) (hmid : mid = (a + b) / 2) (hmm : mid < m) :
    Calls Try.prog 73 #[.slice (some ⟨G, 0, none⟩) n c, .int .i64 (a : Int), .int .i64 (m : Int), .int .i64 (b : Int), .func (.func 31) #[] #[.pointer (some ⟨X, 0, none⟩)]] w fun e w' => e = .returned (.tuple #[]) ∧ ∃ M, Merged K L R M ∧ IBlk w' G (pre ++ (M ++ post)) ∧ w.grownBy w' (some G) := by
  have hbn : b ≤ n := by rw [← hl]; simp; omega
  have hmb : m + 1 < b := by omega
  have ham : a + 1 < m := by omega
  have hm1 : a < mid := by omega
  have hm2 : mid < b := by omega
  obtain ⟨la, hla⟩ : ∃ la, la = m - a := ⟨_, rfl⟩
  have e0 : IntKind.i64.wrap ((m : Int) - (a : Int)) = (la : Int) := by rw [IntWalk.i64_in _ (by omega)]; omega
  have e00 : ((la : Int) == 1) = false := by simp; omega
  obtain ⟨rb, hrb⟩ : ∃ rb, rb = b - m := ⟨_, rfl⟩
  have e1 : IntKind.i64.wrap ((b : Int) - (m : Int)) = (rb : Int) := by rw [IntWalk.i64_in _ (by omega)]; omega
  have e10 : ((rb : Int) == 1) = false := by simp; omega
  have e2 : IntKind.i64.wrap ((a : Int) + (b : Int)) = (a : Int) + (b : Int) := IntWalk.i64_in _ (by omega)
  have e3 : IntKind.u64.wrap ((a : Int) + (b : Int)) = (a : Int) + (b : Int) := IntWalk.u64_in _ (by omega)
  have e4 : ((a : Int) + (b : Int)) / 2 = (mid : Int) := by omega
  have e5 : IntKind.i64.wrap (mid : Int) = (mid : Int) := IntWalk.i64_in _ (by omega)
  obtain ⟨nn, hnn⟩ : ∃ nn, nn = mid + m := ⟨_, rfl⟩
  have e6 : IntKind.i64.wrap ((mid : Int) + (m : Int)) = (nn : Int) := by rw [IntWalk.i64_in _ (by omega)]; omega
  obtain ⟨p, hp⟩ : ∃ p, p = nn - 1 := ⟨_, rfl⟩
  have e7 : IntKind.i64.wrap ((nn : Int) - 1) = (p : Int) := by rw [IntWalk.i64_in _ (by omega)]; omega
  obtain ⟨H, hH⟩ : ∃ H, H = mid - a := ⟨_, rfl⟩
  obtain ⟨S, hS⟩ : ∃ S, S = nn - b := ⟨_, rfl⟩
  have e8 : IntKind.i64.wrap ((nn : Int) - (b : Int)) = (S : Int) := by rw [IntWalk.i64_in _ (by omega)]; omega
  have k0 : (mid : Int) < (m : Int) := by omega
  have hSa : S - a = H - R.length := by omega
  have hTa : mid - a = min L.length H := by omega
  have hST : S ≤ mid := by omega
  have haS : a ≤ S := by omega
  have hTm : mid ≤ m := by omega
  have hTmid : mid ≤ mid := by omega
  have hSb : nn ≤ S + b := by omega
  have hHH : H ≤ L.length + R.length := by omega
  have HR := Lib.hid hR; have HP := Lib.hid ha; have HBB := Lib.hid hbb; have HIB := Lib.hid hb; have HC := Lib.hid hcmp; have HPL := Lib.hid hPL; have HPR := Lib.hid hPR; have HL := Lib.hid hl
  have HM := Lib.hid hm; have HN := Lib.hid hnn; have HHm := Lib.hid hH; have HPp := Lib.hid hp; have HSa := Lib.hid hSa; have HTa := Lib.hid hTa; have HMID := Lib.hid hmid; have HN0 := Lib.hid hN0; have HIH := Lib.hid IH; have HHH := Lib.hid hHH
  have HLR := Lib.hid (show 1 < L.length ∧ 1 < R.length from ⟨hL1, hR1⟩)
  clear hl hb hPL hPR hcmp hR ha hbb hm hL1 hR1 hla hrb hnn hp hH hSa hTa hmid hN0 IH hHH hmm hS
  go_enter Try.func73, Try.ntmps73
  go_wp2
  go_loopg [20, 21] (mid - S) (fun g v20 v21 wr => ∃ u t : Nat, t - u ≤ g ∧ v20 = .int .i64 (u : Int) ∧ v21 = .int .i64 (t : Int) ∧ S ≤ u ∧ u ≤ t ∧ t ≤ mid ∧ Hid (HalfM cf L R H (u - a) (t - a)) ∧ ∃ q, wr = w.drewN q)
  case atStart =>
    refine ⟨S, mid, by omega, rfl, rfl, by omega, by omega, by omega, Lib.hid ?_, 0, rfl⟩
    unfold HalfM
    have h1 := HSa.out; have h2 := HTa.out
    rw [h1, h2]
    exact Half.start _ (by omega)
  case round =>
    obtain ⟨u, t, hgk, rfl, rfl, hmu, hut, htb, HH, q, hwq⟩ := hrel
    have hgw : w.grownBy wr (some G) := by rw [hwq]; exact grown_drew _ _ _
    have HIBr : Hid (IBlk wr G (pre ++ (L ++ (R ++ post)))) := Lib.hid (by rw [hwq]; exact HIB.out.drewN q)
    have HWQ := Lib.hid hwq
    clear hwq
    by_cases hlt : u < t
    · have kk : (u : Int) < (t : Int) := by omega
      have e12 : IntKind.i64.wrap ((u : Int) + (t : Int)) = (u : Int) + (t : Int) := IntWalk.i64_in _ (by omega)
      have e13 : IntKind.u64.wrap ((u : Int) + (t : Int)) = (u : Int) + (t : Int) := IntWalk.u64_in _ (by omega)
      obtain ⟨h, hh⟩ : ∃ h, h = (u + t) / 2 := ⟨_, rfl⟩
      have hh1 : ((u : Int) + (t : Int)) / 2 = (h : Int) := by omega
      have hh2 : (u + t) / 2 = h := hh.symm
      have hhu : u ≤ h := by omega
      have hht : h < t := by omega
      obtain ⟨ph, hph⟩ : ∃ ph, ph = p - h := ⟨_, rfl⟩
      have hph2 : ph = m + (H - 1 - (h - a)) ∧ H - 1 - (h - a) < R.length ∧ h - a < L.length ∧ ph < n ∧ h ≤ p := by
        have := HPp.out; have := HN.out; have := HHm.out; have := HBB.out; have := HM.out; have := HSa.out; have := HTa.out
        omega
      have e14 : IntKind.i64.wrap ((p : Int) - (h : Int)) = (ph : Int) := by rw [IntWalk.i64_in _ (by omega)]; omega
      have c0 := HIBr.out.cell (right_get pre L R post (j := H - 1 - (h - a)) hph2.2.1)
      have c1 := HIBr.out.cell (left_get pre L (R ++ post) (i := h - a) hph2.2.2.1)
      rw [show pre.length + L.length + (H - 1 - (h - a)) = ph by have := HP.out; have := HM.out; omega] at c0
      rw [show pre.length + (h - a) = h by have := HP.out; omega] at c1
      have hq := fun (q : Nat) => HC.out _ (grown_trans hgw (grown_drew wr q _)) (gI R (H - 1 - (h - a))) (gI L (h - a)) (HPR.out _ (gI_mem hph2.2.1)) (HPL.out _ (gI_mem hph2.2.2.1))
      have HQ := Lib.hid hq
      have e15 : IntKind.i64.wrap ((h : Int) + 1) = (h : Int) + 1 := IntWalk.i64_in _ (by omega)
      have e16 : IntKind.i64.wrap (h : Int) = (h : Int) := IntWalk.i64_in _ (by omega)
      have k1 : (h : Int) < (n : Int) := by omega
      have k2 : (ph : Int) < (n : Int) := by omega
      have k3 : h < n := by omega
      have k4 : ph < n := by omega
      have hmono := mono_mid HR.out HHH.out
      by_cases hc : cf (gI R (H - 1 - (h - a))) (gI L (h - a)) < 0
      · have HH2 : Hid (HalfM cf L R H (u - a) (h - a)) := Lib.hid (Half.down (P := fun d => ¬ cf (gI R (H - 1 - d)) (gI L d) < 0) HH.out (c := h - a) (fun a b h1 h2 h3 => hmono a b h1 h2 h3) (by omega) (by omega) (fun hn => hn hc))
        generalize cf (gI R (H - 1 - (h - a))) (gI L (h - a)) = d at *
        clear hmono hq hh hph hph2
        go_wp2
        go_quiet (refine Calls.quiet_of (HQ.out _))
        go_wp2
        go_roundg (h - u)
        case measure => omega
        case rel =>
          exact ⟨u, h, by omega, rfl, rfl, by omega, by omega, by omega, HH2, _, by rw [HWQ.out]; exact World.drewN_drewN _ _ _⟩
      · have HH2 : Hid (HalfM cf L R H (h - a + 1) (t - a)) := Lib.hid (Half.up (P := fun d => ¬ cf (gI R (H - 1 - d)) (gI L d) < 0) HH.out (c := h - a) (fun a b h1 h2 h3 => hmono a b h1 h2 h3) (by omega) (by omega) hc)
        generalize cf (gI R (H - 1 - (h - a))) (gI L (h - a)) = d at *
        have hcd : decide (d < 0) = false := by simpa using hc
        clear hmono hq hh hph hph2
        go_wp2
        go_quiet (refine Calls.quiet_of (HQ.out _))
        go_wp2
        go_roundg (t - (h + 1))
        case measure => omega
        case rel =>
          refine ⟨h + 1, t, by omega, by go_num, rfl, by omega, by omega, htb, Lib.hid ?_, _, by rw [HWQ.out]; exact World.drewN_drewN _ _ _⟩
          rw [show h + 1 - a = h - a + 1 by omega]
          exact HH2.out
    · obtain rfl : u = t := by omega
      have kk : ¬ (u : Int) < (u : Int) := by omega
      obtain ⟨en, hen⟩ : ∃ en, en = nn - u := ⟨_, rfl⟩
      have hen2 : en + u = mid + m := by have := HN.out; omega
      have e12 : IntKind.i64.wrap ((nn : Int) - (u : Int)) = (en : Int) := by rw [IntWalk.i64_in _ (by omega)]; omega
      have henm : m ≤ en := by omega
      have henb : en ≤ b := by omega
      have HMg := Lib.hid (fun M1 M2 => merged_split (M1 := M1) (M2 := M2) HR.out HHH.out (i := u - a) HH.out)
      have HS1 := Lib.hid (HR.out.sub (List.take_sublist (u - a) L) (List.take_sublist (H - (u - a)) R))
      have HS2 := Lib.hid (HR.out.sub (List.drop_sublist (u - a) L) (List.drop_sublist (H - (u - a)) R))
      have hr1 := List.take_append_drop (u - a) L
      have hr2 := List.take_append_drop (H - (u - a)) R
      have l1 : (L.take (u - a)).length = u - a := by rw [List.length_take]; have := HM.out; omega
      have l2 : (L.drop (u - a)).length = m - u := by rw [List.length_drop]; have := HM.out; omega
      have l3 : (R.take (H - (u - a))).length = mid - u := by rw [List.length_take]; have := HHm.out; have := HBB.out; omega
      have l4 : (R.drop (H - (u - a))).length = b - en := by rw [List.length_drop]; have := HHm.out; have := HBB.out; omega
      have hlen := HLR.out; have hN0 := HN0.out; have hmv := HM.out; have hbv := HBB.out
      have p1 : ∀ x ∈ L.take (u - a), Pd x := fun x hx => HPL.out x (List.mem_of_mem_take hx)
      have p2 : ∀ x ∈ L.drop (u - a), Pd x := fun x hx => HPL.out x (List.mem_of_mem_drop hx)
      have p3 : ∀ x ∈ R.take (H - (u - a)), Pd x := fun x hx => HPR.out x (List.mem_of_mem_take hx)
      have p4 : ∀ x ∈ R.drop (H - (u - a)), Pd x := fun x hx => HPR.out x (List.mem_of_mem_drop hx)
      generalize L.take (u - a) = L1 at *
      generalize L.drop (u - a) = L2 at *
      generalize R.take (H - (u - a)) = R1 at *
      generalize R.drop (H - (u - a)) = R2 at *
      have hlist : (pre ++ (L1 ++ (L2 ++ (R1 ++ (R2 ++ post))))).length = n := by rw [← HL.out, ← hr1, ← hr2]; simp
      have hll : pre.length + (u - a) + (m - u) + (mid - u) + (b - en) + post.length = n := by rw [← hlist]; simp [l1, l2, l3, l4]; omega
      have HB0 : Hid (IBlk wr G (pre ++ (L1 ++ (L2 ++ (R1 ++ (R2 ++ post)))))) := Lib.hid (by
        have := HIBr.out
        rw [← hr1, ← hr2] at this
        simpa using this)
      have HRot : Hid (u < m → u < mid → Calls Try.prog 92 #[.slice (some ⟨G, 0, none⟩) n c, .int .i64 (u : Int), .int .i64 (m : Int), .int .i64 (en : Int), .func (.func 31) #[] #[.pointer (some ⟨X, 0, none⟩)]] wr fun e w' => e = .returned (.tuple #[]) ∧ IBlk w' G (pre ++ (L1 ++ (R1 ++ (L2 ++ (R2 ++ post))))) ∧ wr.grownBy w' (some G)) := Lib.hid (fun h1 h2 => by
        have := rotate_any G n c u m en (u : Int) (m : Int) (en : Int) (pre ++ L1) L2 R1 (R2 ++ post) (.func (.func 31) #[] #[.pointer (some ⟨X, 0, none⟩)]) wr hn (by rw [← hlist]; simp) (by simpa using HB0.out) (by omega) (by omega) (by rw [List.length_append, ← HP.out]; omega) (by omega) (by omega) rfl rfl rfl
        simpa using this)
      have HRec1 : Hid (∀ w1, w.grownBy w1 (some G) → IBlk w1 G (pre ++ (L1 ++ (R1 ++ (L2 ++ (R2 ++ post))))) → a < u → u < mid → Calls Try.prog 73 #[.slice (some ⟨G, 0, none⟩) n c, .int .i64 (a : Int), .int .i64 (u : Int), .int .i64 (mid : Int), .func (.func 31) #[] #[.pointer (some ⟨X, 0, none⟩)]] w1 fun e w' => e = .returned (.tuple #[]) ∧ ∃ M, Merged K L1 R1 M ∧ IBlk w' G (pre ++ (M ++ (L2 ++ (R2 ++ post)))) ∧ w1.grownBy w' (some G)) := Lib.hid (fun w1 hg1 hb1 h1 h2 =>
        HIH.out a u mid pre L1 R1 (L2 ++ (R2 ++ post)) w1 (by omega) (by omega) (by omega) (by rw [← hlist]; simp; omega) hb1 p1 p3 (HC.out.at_ hg1) HS1.out HP.out (by omega) (by omega))
      have HRec2 : Hid (∀ w1 M1, w.grownBy w1 (some G) → M1.length = mid - a → IBlk w1 G (pre ++ (M1 ++ (L2 ++ (R2 ++ post)))) → u < m → en < b → Calls Try.prog 73 #[.slice (some ⟨G, 0, none⟩) n c, .int .i64 (mid : Int), .int .i64 (en : Int), .int .i64 (b : Int), .func (.func 31) #[] #[.pointer (some ⟨X, 0, none⟩)]] w1 fun e w' => e = .returned (.tuple #[]) ∧ ∃ M, Merged K L2 R2 M ∧ IBlk w' G (pre ++ (M1 ++ (M ++ post))) ∧ w1.grownBy w' (some G)) := Lib.hid (fun w1 M1 hg1 hM hb1 h1 h2 => by
        have := HIH.out mid en b (pre ++ M1) L2 R2 post w1 (by omega) (by omega) (by omega) (by simp [hM, l2, l4]; omega) (by simpa using hb1) p2 p4 (HC.out.at_ hg1) HS2.out (by rw [List.length_append, ← HP.out, hM]; omega) (by omega) (by omega)
        simpa using this)
      have HFin : Hid (∀ w' M1 M2, Merged K L1 R1 M1 → Merged K L2 R2 M2 → IBlk w' G (pre ++ (M1 ++ (M2 ++ post))) → w.grownBy w' (some G) → ∃ M, Merged K L R M ∧ IBlk w' G (pre ++ (M ++ post)) ∧ w.grownBy w' (some G)) := Lib.hid (fun w' M1 M2 h1 h2 h3 h4 => ⟨M1 ++ M2, HMg.out M1 M2 h1 h2, by simpa using h3, h4⟩)
      have HT1 : Hid (¬ (a < u ∧ u < mid) → Merged K L1 R1 (L1 ++ R1)) := Lib.hid (fun h => by
        by_cases h1 : a < u
        · have : R1 = [] := List.eq_nil_of_length_eq_zero (by omega)
          rw [this, List.append_nil]
          exact Merged.nil_right HS1.out.l
        · have : L1 = [] := List.eq_nil_of_length_eq_zero (by omega)
          rw [this, List.nil_append]
          exact Merged.nil_left HS1.out.r)
      have HT2 : Hid (¬ (u < m ∧ en < b) → Merged K L2 R2 (L2 ++ R2)) := Lib.hid (fun h => by
        by_cases h1 : u < m
        · have : R2 = [] := List.eq_nil_of_length_eq_zero (by omega)
          rw [this, List.append_nil]
          exact Merged.nil_right HS2.out.l
        · have : L2 = [] := List.eq_nil_of_length_eq_zero (by omega)
          rw [this, List.nil_append]
          exact Merged.nil_left HS2.out.r)
      have HSw : Hid (¬ (u < m ∧ u < mid) → IBlk wr G (pre ++ (L1 ++ (R1 ++ (L2 ++ (R2 ++ post)))))) := Lib.hid (fun h => by
        have := HB0.out
        by_cases h1 : u < m
        · have h2 : R1 = [] := List.eq_nil_of_length_eq_zero (by omega)
          rw [h2] at this ⊢
          exact this
        · have h2 : L2 = [] := List.eq_nil_of_length_eq_zero (by omega)
          rw [h2] at this ⊢
          exact this)
      have HLn : Hid (∀ M1, Merged K L1 R1 M1 → M1.length = mid - a) := Lib.hid (fun M1 h => by rw [h.length]; omega)
      clear hr1 hr2 l1 l2 l3 l4 hlen hN0 hmv hbv p1 p2 p3 p4 hlist hll HMg HS1 HS2 HIBr HB0 HH hen
      have qmo : ∀ q : Nat, q = q := fun _ => rfl
      clear qmo
      by_cases gB : u < m
      · by_cases gC : u < mid
        · by_cases gA : a < u
          · by_cases gD : en < b
            · skip
              have kB : (u : Int) < (m : Int) := by omega
              have kC : (u : Int) < (mid : Int) := by omega
              have kE : (m : Int) < (en : Int) := by omega
              have kA : (a : Int) < (u : Int) := by omega
              have kF : (mid : Int) < (en : Int) := by omega
              have kD : (en : Int) < (b : Int) := by omega
              have HR0 := Lib.hid (HRot.out (by omega) (by omega))
              go_wp2_with fail
              refine HR0.out.mono ?_
              rintro e w1 ⟨rfl, hb1, hg1⟩
              have hgg1 := grown_trans hgw hg1
              have HR1 := Lib.hid (HRec1.out _ hgg1 hb1 (by omega) (by omega))
              clear hb1
              go_wp2_with fail
              refine HR1.out.mono ?_
              rintro e w2 ⟨rfl, M1, hm1', hb2, hg2⟩
              have hgg2 := grown_trans hgg1 hg2
              have HM1 := Lib.hid hm1'
              clear hm1'
              have HR2 := Lib.hid (HRec2.out _ M1 hgg2 (HLn.out _ HM1.out) hb2 (by omega) (by omega))
              clear hb2
              go_wp2_with fail
              refine HR2.out.mono ?_
              rintro e w3 ⟨rfl, M2, hm2', hb4, hg3⟩
              have hgg3 := grown_trans hgg2 hg3
              have HF := Lib.hid (HFin.out _ _ _ HM1.out hm2' hb4 hgg3)
              clear hm2' hb4
              go_wp2
              go_end0
              exact ⟨rfl, HF.out⟩
            · skip
              have kB : (u : Int) < (m : Int) := by omega
              have kC : (u : Int) < (mid : Int) := by omega
              have kE : (m : Int) < (en : Int) := by omega
              have kA : (a : Int) < (u : Int) := by omega
              have kF : (mid : Int) < (en : Int) := by omega
              have kD : ¬ (en : Int) < (b : Int) := by omega
              have HR0 := Lib.hid (HRot.out (by omega) (by omega))
              go_wp2_with fail
              refine HR0.out.mono ?_
              rintro e w1 ⟨rfl, hb1, hg1⟩
              have hgg1 := grown_trans hgw hg1
              have HR1 := Lib.hid (HRec1.out _ hgg1 hb1 (by omega) (by omega))
              clear hb1
              go_wp2_with fail
              refine HR1.out.mono ?_
              rintro e w2 ⟨rfl, M1, hm1', hb2, hg2⟩
              have hgg2 := grown_trans hgg1 hg2
              have HM1 := Lib.hid hm1'
              clear hm1'
              have HM2 := Lib.hid (HT2.out (by omega))
              have HF := Lib.hid (HFin.out _ _ _ HM1.out HM2.out (by simpa using hb2) hgg2)
              clear hb2
              go_wp2
              go_end0
              exact ⟨rfl, HF.out⟩
          · by_cases gD : en < b
            · skip
              have kB : (u : Int) < (m : Int) := by omega
              have kC : (u : Int) < (mid : Int) := by omega
              have kE : (m : Int) < (en : Int) := by omega
              have kA : ¬ (a : Int) < (u : Int) := by omega
              have kF : (mid : Int) < (en : Int) := by omega
              have kD : (en : Int) < (b : Int) := by omega
              have HR0 := Lib.hid (HRot.out (by omega) (by omega))
              go_wp2_with fail
              refine HR0.out.mono ?_
              rintro e w1 ⟨rfl, hb1, hg1⟩
              have hgg1 := grown_trans hgw hg1
              have HM1 := Lib.hid (HT1.out (by omega))
              have hb3 := hb1
              rw [show pre ++ (L1 ++ (R1 ++ (L2 ++ (R2 ++ post)))) = pre ++ ((L1 ++ R1) ++ (L2 ++ (R2 ++ post))) by simp] at hb3
              have HR2 := Lib.hid (HRec2.out _ (L1 ++ R1) hgg1 (HLn.out _ HM1.out) hb3 (by omega) (by omega))
              clear hb3
              go_wp2_with fail
              refine HR2.out.mono ?_
              rintro e w3 ⟨rfl, M2, hm2', hb4, hg3⟩
              have hgg3 := grown_trans hgg1 hg3
              have HF := Lib.hid (HFin.out _ _ _ HM1.out hm2' hb4 hgg3)
              clear hm2' hb4
              go_wp2
              go_end0
              exact ⟨rfl, HF.out⟩
            · skip
              have kB : (u : Int) < (m : Int) := by omega
              have kC : (u : Int) < (mid : Int) := by omega
              have kE : (m : Int) < (en : Int) := by omega
              have kA : ¬ (a : Int) < (u : Int) := by omega
              have kF : (mid : Int) < (en : Int) := by omega
              have kD : ¬ (en : Int) < (b : Int) := by omega
              have HR0 := Lib.hid (HRot.out (by omega) (by omega))
              go_wp2_with fail
              refine HR0.out.mono ?_
              rintro e w1 ⟨rfl, hb1, hg1⟩
              have hgg1 := grown_trans hgw hg1
              have HM1 := Lib.hid (HT1.out (by omega))
              have hb3 := hb1
              rw [show pre ++ (L1 ++ (R1 ++ (L2 ++ (R2 ++ post)))) = pre ++ ((L1 ++ R1) ++ (L2 ++ (R2 ++ post))) by simp] at hb3
              have HM2 := Lib.hid (HT2.out (by omega))
              have HF := Lib.hid (HFin.out _ _ _ HM1.out HM2.out (by simpa using hb3) hgg1)
              clear hb3
              go_wp2
              go_end0
              exact ⟨rfl, HF.out⟩
        · skip
          have kB : (u : Int) < (m : Int) := by omega
          have kC : ¬ (u : Int) < (mid : Int) := by omega
          have kE : ¬ (m : Int) < (en : Int) := by omega
          have kA : (a : Int) < (u : Int) := by omega
          have kF : (mid : Int) < (en : Int) := by omega
          have kD : (en : Int) < (b : Int) := by omega
          have hbs := HSw.out (by omega)
          have HM1 := Lib.hid (HT1.out (by omega))
          have hb3 := hbs
          rw [show pre ++ (L1 ++ (R1 ++ (L2 ++ (R2 ++ post)))) = pre ++ ((L1 ++ R1) ++ (L2 ++ (R2 ++ post))) by simp] at hb3
          have HR2 := Lib.hid (HRec2.out _ (L1 ++ R1) hgw (HLn.out _ HM1.out) hb3 (by omega) (by omega))
          clear hb3
          go_wp2_with fail
          refine HR2.out.mono ?_
          rintro e w3 ⟨rfl, M2, hm2', hb4, hg3⟩
          have hgg3 := grown_trans hgw hg3
          have HF := Lib.hid (HFin.out _ _ _ HM1.out hm2' hb4 hgg3)
          clear hm2' hb4
          go_wp2
          go_end0
          exact ⟨rfl, HF.out⟩
      · exfalso; omega

set_option maxHeartbeats 1000000 in
set_option maxRecDepth 100000 in
theorem symmerge_mid2 (X G n c : Nat) (cf : Int → Int → Int) (K : Int → Int) (Pd : Int → Prop) (N0 : Nat) (IH : SymOk X G n c cf K Pd N0) (hn : n ≤ 1000)
    (a m b mid : Nat) (pre L R post : List Int) (w : World) (hN0 : L.length + R.length = N0) (hL1 : 1 < L.length) (hR1 : 1 < R.length) (hl : (pre ++ (L ++ (R ++ post))).length = n) (hb : IBlk w G (pre ++ (L ++ (R ++ post)))) (hPL : ∀ x ∈ L, Pd x) (hPR : ∀ x ∈ R, Pd x)
    (hcmp : Cmp 31 X cf Pd G w) (hR : Runs2 K cf L R) (ha : a = pre.length) (hm : m = a + L.length) (hbb : b = m + R.length) (hmid : mid = (a + b) / 2) (hmm : ¬ mid < m) :
    Calls Try.prog 73 #[.slice (some ⟨G, 0, none⟩) n c, .int .i64 (a : Int), .int .i64 (m : Int), .int .i64 (b : Int), .func (.func 31) #[] #[.pointer (some ⟨X, 0, none⟩)]] w fun e w' => e = .returned (.tuple #[]) ∧ ∃ M, Merged K L R M ∧ IBlk w' G (pre ++ (M ++ post)) ∧ w.grownBy w' (some G) := by
  have hbn : b ≤ n := by rw [← hl]; simp; omega
  have hmb : m + 1 < b := by omega
  have ham : a + 1 < m := by omega
  have hm1 : a < mid := by omega
  have hm2 : mid < b := by omega
  obtain ⟨la, hla⟩ : ∃ la, la = m - a := ⟨_, rfl⟩
  have e0 : IntKind.i64.wrap ((m : Int) - (a : Int)) = (la : Int) := by rw [IntWalk.i64_in _ (by omega)]; omega
  have e00 : ((la : Int) == 1) = false := by simp; omega
  obtain ⟨rb, hrb⟩ : ∃ rb, rb = b - m := ⟨_, rfl⟩
  have e1 : IntKind.i64.wrap ((b : Int) - (m : Int)) = (rb : Int) := by rw [IntWalk.i64_in _ (by omega)]; omega
  have e10 : ((rb : Int) == 1) = false := by simp; omega
  have e2 : IntKind.i64.wrap ((a : Int) + (b : Int)) = (a : Int) + (b : Int) := IntWalk.i64_in _ (by omega)
  have e3 : IntKind.u64.wrap ((a : Int) + (b : Int)) = (a : Int) + (b : Int) := IntWalk.u64_in _ (by omega)
  have e4 : ((a : Int) + (b : Int)) / 2 = (mid : Int) := by omega
  have e5 : IntKind.i64.wrap (mid : Int) = (mid : Int) := IntWalk.i64_in _ (by omega)
  obtain ⟨nn, hnn⟩ : ∃ nn, nn = mid + m := ⟨_, rfl⟩
  have e6 : IntKind.i64.wrap ((mid : Int) + (m : Int)) = (nn : Int) := by rw [IntWalk.i64_in _ (by omega)]; omega
  obtain ⟨p, hp⟩ : ∃ p, p = nn - 1 := ⟨_, rfl⟩
  have e7 : IntKind.i64.wrap ((nn : Int) - 1) = (p : Int) := by rw [IntWalk.i64_in _ (by omega)]; omega
  obtain ⟨H, hH⟩ : ∃ H, H = mid - a := ⟨_, rfl⟩
  have k0 : ¬ (mid : Int) < (m : Int) := by omega
  have hSa : a - a = H - R.length := by omega
  have hTa : m - a = min L.length H := by omega
  have hST : a ≤ m := by omega
  have haS : a ≤ a := by omega
  have hTm : m ≤ m := by omega
  have hTmid : m ≤ mid := by omega
  have hSb : nn ≤ a + b := by omega
  have hHH : H ≤ L.length + R.length := by omega
  have HR := Lib.hid hR; have HP := Lib.hid ha; have HBB := Lib.hid hbb; have HIB := Lib.hid hb; have HC := Lib.hid hcmp; have HPL := Lib.hid hPL; have HPR := Lib.hid hPR; have HL := Lib.hid hl
  have HM := Lib.hid hm; have HN := Lib.hid hnn; have HHm := Lib.hid hH; have HPp := Lib.hid hp; have HSa := Lib.hid hSa; have HTa := Lib.hid hTa; have HMID := Lib.hid hmid; have HN0 := Lib.hid hN0; have HIH := Lib.hid IH; have HHH := Lib.hid hHH
  have HLR := Lib.hid (show 1 < L.length ∧ 1 < R.length from ⟨hL1, hR1⟩)
  clear hl hb hPL hPR hcmp hR ha hbb hm hL1 hR1 hla hrb hnn hp hH hSa hTa hmid hN0 IH hHH hmm 
  go_enter Try.func73, Try.ntmps73
  go_wp2
  go_loopg [20, 21] (m - a) (fun g v20 v21 wr => ∃ u t : Nat, t - u ≤ g ∧ v20 = .int .i64 (u : Int) ∧ v21 = .int .i64 (t : Int) ∧ a ≤ u ∧ u ≤ t ∧ t ≤ m ∧ Hid (HalfM cf L R H (u - a) (t - a)) ∧ ∃ q, wr = w.drewN q)
  case atStart =>
    refine ⟨a, m, by omega, rfl, rfl, by omega, by omega, by omega, Lib.hid ?_, 0, rfl⟩
    unfold HalfM
    have h1 := HSa.out; have h2 := HTa.out
    rw [h1, h2]
    exact Half.start _ (by omega)
  case round =>
    obtain ⟨u, t, hgk, rfl, rfl, hmu, hut, htb, HH, q, hwq⟩ := hrel
    have hgw : w.grownBy wr (some G) := by rw [hwq]; exact grown_drew _ _ _
    have HIBr : Hid (IBlk wr G (pre ++ (L ++ (R ++ post)))) := Lib.hid (by rw [hwq]; exact HIB.out.drewN q)
    have HWQ := Lib.hid hwq
    clear hwq
    by_cases hlt : u < t
    · have kk : (u : Int) < (t : Int) := by omega
      have e12 : IntKind.i64.wrap ((u : Int) + (t : Int)) = (u : Int) + (t : Int) := IntWalk.i64_in _ (by omega)
      have e13 : IntKind.u64.wrap ((u : Int) + (t : Int)) = (u : Int) + (t : Int) := IntWalk.u64_in _ (by omega)
      obtain ⟨h, hh⟩ : ∃ h, h = (u + t) / 2 := ⟨_, rfl⟩
      have hh1 : ((u : Int) + (t : Int)) / 2 = (h : Int) := by omega
      have hh2 : (u + t) / 2 = h := hh.symm
      have hhu : u ≤ h := by omega
      have hht : h < t := by omega
      obtain ⟨ph, hph⟩ : ∃ ph, ph = p - h := ⟨_, rfl⟩
      have hph2 : ph = m + (H - 1 - (h - a)) ∧ H - 1 - (h - a) < R.length ∧ h - a < L.length ∧ ph < n ∧ h ≤ p := by
        have := HPp.out; have := HN.out; have := HHm.out; have := HBB.out; have := HM.out; have := HSa.out; have := HTa.out
        omega
      have e14 : IntKind.i64.wrap ((p : Int) - (h : Int)) = (ph : Int) := by rw [IntWalk.i64_in _ (by omega)]; omega
      have c0 := HIBr.out.cell (right_get pre L R post (j := H - 1 - (h - a)) hph2.2.1)
      have c1 := HIBr.out.cell (left_get pre L (R ++ post) (i := h - a) hph2.2.2.1)
      rw [show pre.length + L.length + (H - 1 - (h - a)) = ph by have := HP.out; have := HM.out; omega] at c0
      rw [show pre.length + (h - a) = h by have := HP.out; omega] at c1
      have hq := fun (q : Nat) => HC.out _ (grown_trans hgw (grown_drew wr q _)) (gI R (H - 1 - (h - a))) (gI L (h - a)) (HPR.out _ (gI_mem hph2.2.1)) (HPL.out _ (gI_mem hph2.2.2.1))
      have HQ := Lib.hid hq
      have e15 : IntKind.i64.wrap ((h : Int) + 1) = (h : Int) + 1 := IntWalk.i64_in _ (by omega)
      have e16 : IntKind.i64.wrap (h : Int) = (h : Int) := IntWalk.i64_in _ (by omega)
      have k1 : (h : Int) < (n : Int) := by omega
      have k2 : (ph : Int) < (n : Int) := by omega
      have k3 : h < n := by omega
      have k4 : ph < n := by omega
      have hmono := mono_mid HR.out HHH.out
      by_cases hc : cf (gI R (H - 1 - (h - a))) (gI L (h - a)) < 0
      · have HH2 : Hid (HalfM cf L R H (u - a) (h - a)) := Lib.hid (Half.down (P := fun d => ¬ cf (gI R (H - 1 - d)) (gI L d) < 0) HH.out (c := h - a) (fun a b h1 h2 h3 => hmono a b h1 h2 h3) (by omega) (by omega) (fun hn => hn hc))
        generalize cf (gI R (H - 1 - (h - a))) (gI L (h - a)) = d at *
        clear hmono hq hh hph hph2
        go_wp2
        go_quiet (refine Calls.quiet_of (HQ.out _))
        go_wp2
        go_roundg (h - u)
        case measure => omega
        case rel =>
          exact ⟨u, h, by omega, rfl, rfl, by omega, by omega, by omega, HH2, _, by rw [HWQ.out]; exact World.drewN_drewN _ _ _⟩
      · have HH2 : Hid (HalfM cf L R H (h - a + 1) (t - a)) := Lib.hid (Half.up (P := fun d => ¬ cf (gI R (H - 1 - d)) (gI L d) < 0) HH.out (c := h - a) (fun a b h1 h2 h3 => hmono a b h1 h2 h3) (by omega) (by omega) hc)
        generalize cf (gI R (H - 1 - (h - a))) (gI L (h - a)) = d at *
        have hcd : decide (d < 0) = false := by simpa using hc
        clear hmono hq hh hph hph2
        go_wp2
        go_quiet (refine Calls.quiet_of (HQ.out _))
        go_wp2
        go_roundg (t - (h + 1))
        case measure => omega
        case rel =>
          refine ⟨h + 1, t, by omega, by go_num, rfl, by omega, by omega, htb, Lib.hid ?_, _, by rw [HWQ.out]; exact World.drewN_drewN _ _ _⟩
          rw [show h + 1 - a = h - a + 1 by omega]
          exact HH2.out
    · obtain rfl : u = t := by omega
      have kk : ¬ (u : Int) < (u : Int) := by omega
      obtain ⟨en, hen⟩ : ∃ en, en = nn - u := ⟨_, rfl⟩
      have hen2 : en + u = mid + m := by have := HN.out; omega
      have e12 : IntKind.i64.wrap ((nn : Int) - (u : Int)) = (en : Int) := by rw [IntWalk.i64_in _ (by omega)]; omega
      have henm : m ≤ en := by omega
      have henb : en ≤ b := by omega
      have HMg := Lib.hid (fun M1 M2 => merged_split (M1 := M1) (M2 := M2) HR.out HHH.out (i := u - a) HH.out)
      have HS1 := Lib.hid (HR.out.sub (List.take_sublist (u - a) L) (List.take_sublist (H - (u - a)) R))
      have HS2 := Lib.hid (HR.out.sub (List.drop_sublist (u - a) L) (List.drop_sublist (H - (u - a)) R))
      have hr1 := List.take_append_drop (u - a) L
      have hr2 := List.take_append_drop (H - (u - a)) R
      have l1 : (L.take (u - a)).length = u - a := by rw [List.length_take]; have := HM.out; omega
      have l2 : (L.drop (u - a)).length = m - u := by rw [List.length_drop]; have := HM.out; omega
      have l3 : (R.take (H - (u - a))).length = mid - u := by rw [List.length_take]; have := HHm.out; have := HBB.out; omega
      have l4 : (R.drop (H - (u - a))).length = b - en := by rw [List.length_drop]; have := HHm.out; have := HBB.out; omega
      have hlen := HLR.out; have hN0 := HN0.out; have hmv := HM.out; have hbv := HBB.out
      have p1 : ∀ x ∈ L.take (u - a), Pd x := fun x hx => HPL.out x (List.mem_of_mem_take hx)
      have p2 : ∀ x ∈ L.drop (u - a), Pd x := fun x hx => HPL.out x (List.mem_of_mem_drop hx)
      have p3 : ∀ x ∈ R.take (H - (u - a)), Pd x := fun x hx => HPR.out x (List.mem_of_mem_take hx)
      have p4 : ∀ x ∈ R.drop (H - (u - a)), Pd x := fun x hx => HPR.out x (List.mem_of_mem_drop hx)
      generalize L.take (u - a) = L1 at *
      generalize L.drop (u - a) = L2 at *
      generalize R.take (H - (u - a)) = R1 at *
      generalize R.drop (H - (u - a)) = R2 at *
      have hlist : (pre ++ (L1 ++ (L2 ++ (R1 ++ (R2 ++ post))))).length = n := by rw [← HL.out, ← hr1, ← hr2]; simp
      have hll : pre.length + (u - a) + (m - u) + (mid - u) + (b - en) + post.length = n := by rw [← hlist]; simp [l1, l2, l3, l4]; omega
      have HB0 : Hid (IBlk wr G (pre ++ (L1 ++ (L2 ++ (R1 ++ (R2 ++ post)))))) := Lib.hid (by
        have := HIBr.out
        rw [← hr1, ← hr2] at this
        simpa using this)
      have HRot : Hid (u < m → u < mid → Calls Try.prog 92 #[.slice (some ⟨G, 0, none⟩) n c, .int .i64 (u : Int), .int .i64 (m : Int), .int .i64 (en : Int), .func (.func 31) #[] #[.pointer (some ⟨X, 0, none⟩)]] wr fun e w' => e = .returned (.tuple #[]) ∧ IBlk w' G (pre ++ (L1 ++ (R1 ++ (L2 ++ (R2 ++ post))))) ∧ wr.grownBy w' (some G)) := Lib.hid (fun h1 h2 => by
        have := rotate_any G n c u m en (u : Int) (m : Int) (en : Int) (pre ++ L1) L2 R1 (R2 ++ post) (.func (.func 31) #[] #[.pointer (some ⟨X, 0, none⟩)]) wr hn (by rw [← hlist]; simp) (by simpa using HB0.out) (by omega) (by omega) (by rw [List.length_append, ← HP.out]; omega) (by omega) (by omega) rfl rfl rfl
        simpa using this)
      have HRec1 : Hid (∀ w1, w.grownBy w1 (some G) → IBlk w1 G (pre ++ (L1 ++ (R1 ++ (L2 ++ (R2 ++ post))))) → a < u → u < mid → Calls Try.prog 73 #[.slice (some ⟨G, 0, none⟩) n c, .int .i64 (a : Int), .int .i64 (u : Int), .int .i64 (mid : Int), .func (.func 31) #[] #[.pointer (some ⟨X, 0, none⟩)]] w1 fun e w' => e = .returned (.tuple #[]) ∧ ∃ M, Merged K L1 R1 M ∧ IBlk w' G (pre ++ (M ++ (L2 ++ (R2 ++ post)))) ∧ w1.grownBy w' (some G)) := Lib.hid (fun w1 hg1 hb1 h1 h2 =>
        HIH.out a u mid pre L1 R1 (L2 ++ (R2 ++ post)) w1 (by omega) (by omega) (by omega) (by rw [← hlist]; simp; omega) hb1 p1 p3 (HC.out.at_ hg1) HS1.out HP.out (by omega) (by omega))
      have HRec2 : Hid (∀ w1 M1, w.grownBy w1 (some G) → M1.length = mid - a → IBlk w1 G (pre ++ (M1 ++ (L2 ++ (R2 ++ post)))) → u < m → en < b → Calls Try.prog 73 #[.slice (some ⟨G, 0, none⟩) n c, .int .i64 (mid : Int), .int .i64 (en : Int), .int .i64 (b : Int), .func (.func 31) #[] #[.pointer (some ⟨X, 0, none⟩)]] w1 fun e w' => e = .returned (.tuple #[]) ∧ ∃ M, Merged K L2 R2 M ∧ IBlk w' G (pre ++ (M1 ++ (M ++ post))) ∧ w1.grownBy w' (some G)) := Lib.hid (fun w1 M1 hg1 hM hb1 h1 h2 => by
        have := HIH.out mid en b (pre ++ M1) L2 R2 post w1 (by omega) (by omega) (by omega) (by simp [hM, l2, l4]; omega) (by simpa using hb1) p2 p4 (HC.out.at_ hg1) HS2.out (by rw [List.length_append, ← HP.out, hM]; omega) (by omega) (by omega)
        simpa using this)
      have HFin : Hid (∀ w' M1 M2, Merged K L1 R1 M1 → Merged K L2 R2 M2 → IBlk w' G (pre ++ (M1 ++ (M2 ++ post))) → w.grownBy w' (some G) → ∃ M, Merged K L R M ∧ IBlk w' G (pre ++ (M ++ post)) ∧ w.grownBy w' (some G)) := Lib.hid (fun w' M1 M2 h1 h2 h3 h4 => ⟨M1 ++ M2, HMg.out M1 M2 h1 h2, by simpa using h3, h4⟩)
      have HT1 : Hid (¬ (a < u ∧ u < mid) → Merged K L1 R1 (L1 ++ R1)) := Lib.hid (fun h => by
        by_cases h1 : a < u
        · have : R1 = [] := List.eq_nil_of_length_eq_zero (by omega)
          rw [this, List.append_nil]
          exact Merged.nil_right HS1.out.l
        · have : L1 = [] := List.eq_nil_of_length_eq_zero (by omega)
          rw [this, List.nil_append]
          exact Merged.nil_left HS1.out.r)
      have HT2 : Hid (¬ (u < m ∧ en < b) → Merged K L2 R2 (L2 ++ R2)) := Lib.hid (fun h => by
        by_cases h1 : u < m
        · have : R2 = [] := List.eq_nil_of_length_eq_zero (by omega)
          rw [this, List.append_nil]
          exact Merged.nil_right HS2.out.l
        · have : L2 = [] := List.eq_nil_of_length_eq_zero (by omega)
          rw [this, List.nil_append]
          exact Merged.nil_left HS2.out.r)
      have HSw : Hid (¬ (u < m ∧ u < mid) → IBlk wr G (pre ++ (L1 ++ (R1 ++ (L2 ++ (R2 ++ post)))))) := Lib.hid (fun h => by
        have := HB0.out
        by_cases h1 : u < m
        · have h2 : R1 = [] := List.eq_nil_of_length_eq_zero (by omega)
          rw [h2] at this ⊢
          exact this
        · have h2 : L2 = [] := List.eq_nil_of_length_eq_zero (by omega)
          rw [h2] at this ⊢
          exact this)
      have HLn : Hid (∀ M1, Merged K L1 R1 M1 → M1.length = mid - a) := Lib.hid (fun M1 h => by rw [h.length]; omega)
      clear hr1 hr2 l1 l2 l3 l4 hlen hN0 hmv hbv p1 p2 p3 p4 hlist hll HMg HS1 HS2 HIBr HB0 HH hen
      have qmo : ∀ q : Nat, q = q := fun _ => rfl
      clear qmo
      by_cases gB : u < m
      · by_cases gC : u < mid
        · by_cases gA : a < u
          · by_cases gD : en < b
            · skip
              have kB : (u : Int) < (m : Int) := by omega
              have kC : (u : Int) < (mid : Int) := by omega
              have kE : (m : Int) < (en : Int) := by omega
              have kA : (a : Int) < (u : Int) := by omega
              have kF : (mid : Int) < (en : Int) := by omega
              have kD : (en : Int) < (b : Int) := by omega
              have HR0 := Lib.hid (HRot.out (by omega) (by omega))
              go_wp2_with fail
              refine HR0.out.mono ?_
              rintro e w1 ⟨rfl, hb1, hg1⟩
              have hgg1 := grown_trans hgw hg1
              have HR1 := Lib.hid (HRec1.out _ hgg1 hb1 (by omega) (by omega))
              clear hb1
              go_wp2_with fail
              refine HR1.out.mono ?_
              rintro e w2 ⟨rfl, M1, hm1', hb2, hg2⟩
              have hgg2 := grown_trans hgg1 hg2
              have HM1 := Lib.hid hm1'
              clear hm1'
              have HR2 := Lib.hid (HRec2.out _ M1 hgg2 (HLn.out _ HM1.out) hb2 (by omega) (by omega))
              clear hb2
              go_wp2_with fail
              refine HR2.out.mono ?_
              rintro e w3 ⟨rfl, M2, hm2', hb4, hg3⟩
              have hgg3 := grown_trans hgg2 hg3
              have HF := Lib.hid (HFin.out _ _ _ HM1.out hm2' hb4 hgg3)
              clear hm2' hb4
              go_wp2
              go_end0
              exact ⟨rfl, HF.out⟩
            · skip
              have kB : (u : Int) < (m : Int) := by omega
              have kC : (u : Int) < (mid : Int) := by omega
              have kE : (m : Int) < (en : Int) := by omega
              have kA : (a : Int) < (u : Int) := by omega
              have kF : (mid : Int) < (en : Int) := by omega
              have kD : ¬ (en : Int) < (b : Int) := by omega
              have HR0 := Lib.hid (HRot.out (by omega) (by omega))
              go_wp2_with fail
              refine HR0.out.mono ?_
              rintro e w1 ⟨rfl, hb1, hg1⟩
              have hgg1 := grown_trans hgw hg1
              have HR1 := Lib.hid (HRec1.out _ hgg1 hb1 (by omega) (by omega))
              clear hb1
              go_wp2_with fail
              refine HR1.out.mono ?_
              rintro e w2 ⟨rfl, M1, hm1', hb2, hg2⟩
              have hgg2 := grown_trans hgg1 hg2
              have HM1 := Lib.hid hm1'
              clear hm1'
              have HM2 := Lib.hid (HT2.out (by omega))
              have HF := Lib.hid (HFin.out _ _ _ HM1.out HM2.out (by simpa using hb2) hgg2)
              clear hb2
              go_wp2
              go_end0
              exact ⟨rfl, HF.out⟩
          · by_cases gD : en < b
            · skip
              have kB : (u : Int) < (m : Int) := by omega
              have kC : (u : Int) < (mid : Int) := by omega
              have kE : (m : Int) < (en : Int) := by omega
              have kA : ¬ (a : Int) < (u : Int) := by omega
              have kF : (mid : Int) < (en : Int) := by omega
              have kD : (en : Int) < (b : Int) := by omega
              have HR0 := Lib.hid (HRot.out (by omega) (by omega))
              go_wp2_with fail
              refine HR0.out.mono ?_
              rintro e w1 ⟨rfl, hb1, hg1⟩
              have hgg1 := grown_trans hgw hg1
              have HM1 := Lib.hid (HT1.out (by omega))
              have hb3 := hb1
              rw [show pre ++ (L1 ++ (R1 ++ (L2 ++ (R2 ++ post)))) = pre ++ ((L1 ++ R1) ++ (L2 ++ (R2 ++ post))) by simp] at hb3
              have HR2 := Lib.hid (HRec2.out _ (L1 ++ R1) hgg1 (HLn.out _ HM1.out) hb3 (by omega) (by omega))
              clear hb3
              go_wp2_with fail
              refine HR2.out.mono ?_
              rintro e w3 ⟨rfl, M2, hm2', hb4, hg3⟩
              have hgg3 := grown_trans hgg1 hg3
              have HF := Lib.hid (HFin.out _ _ _ HM1.out hm2' hb4 hgg3)
              clear hm2' hb4
              go_wp2
              go_end0
              exact ⟨rfl, HF.out⟩
            · skip
              have kB : (u : Int) < (m : Int) := by omega
              have kC : (u : Int) < (mid : Int) := by omega
              have kE : (m : Int) < (en : Int) := by omega
              have kA : ¬ (a : Int) < (u : Int) := by omega
              have kF : (mid : Int) < (en : Int) := by omega
              have kD : ¬ (en : Int) < (b : Int) := by omega
              have HR0 := Lib.hid (HRot.out (by omega) (by omega))
              go_wp2_with fail
              refine HR0.out.mono ?_
              rintro e w1 ⟨rfl, hb1, hg1⟩
              have hgg1 := grown_trans hgw hg1
              have HM1 := Lib.hid (HT1.out (by omega))
              have hb3 := hb1
              rw [show pre ++ (L1 ++ (R1 ++ (L2 ++ (R2 ++ post)))) = pre ++ ((L1 ++ R1) ++ (L2 ++ (R2 ++ post))) by simp] at hb3
              have HM2 := Lib.hid (HT2.out (by omega))
              have HF := Lib.hid (HFin.out _ _ _ HM1.out HM2.out (by simpa using hb3) hgg1)
              clear hb3
              go_wp2
              go_end0
              exact ⟨rfl, HF.out⟩
        · skip
          have kB : (u : Int) < (m : Int) := by omega
          have kC : ¬ (u : Int) < (mid : Int) := by omega
          have kE : ¬ (m : Int) < (en : Int) := by omega
          have kA : (a : Int) < (u : Int) := by omega
          have kF : (mid : Int) < (en : Int) := by omega
          have kD : (en : Int) < (b : Int) := by omega
          have hbs := HSw.out (by omega)
          have HM1 := Lib.hid (HT1.out (by omega))
          have hb3 := hbs
          rw [show pre ++ (L1 ++ (R1 ++ (L2 ++ (R2 ++ post)))) = pre ++ ((L1 ++ R1) ++ (L2 ++ (R2 ++ post))) by simp] at hb3
          have HR2 := Lib.hid (HRec2.out _ (L1 ++ R1) hgw (HLn.out _ HM1.out) hb3 (by omega) (by omega))
          clear hb3
          go_wp2_with fail
          refine HR2.out.mono ?_
          rintro e w3 ⟨rfl, M2, hm2', hb4, hg3⟩
          have hgg3 := grown_trans hgw hg3
          have HF := Lib.hid (HFin.out _ _ _ HM1.out hm2' hb4 hgg3)
          clear hm2' hb4
          go_wp2
          go_end0
          exact ⟨rfl, HF.out⟩
      · by_cases gC : u < mid
        · skip
          have kB : ¬ (u : Int) < (m : Int) := by omega
          have kC : (u : Int) < (mid : Int) := by omega
          have kE : (m : Int) < (en : Int) := by omega
          have kA : (a : Int) < (u : Int) := by omega
          have kF : ¬ (mid : Int) < (en : Int) := by omega
          have hbs := HSw.out (by omega)
          have HR1 := Lib.hid (HRec1.out _ hgw hbs (by omega) (by omega))
          clear hbs
          go_wp2_with fail
          refine HR1.out.mono ?_
          rintro e w2 ⟨rfl, M1, hm1', hb2, hg2⟩
          have hgg2 := grown_trans hgw hg2
          have HM1 := Lib.hid hm1'
          clear hm1'
          have HM2 := Lib.hid (HT2.out (by omega))
          have HF := Lib.hid (HFin.out _ _ _ HM1.out HM2.out (by simpa using hb2) hgg2)
          clear hb2
          go_wp2
          go_end0
          exact ⟨rfl, HF.out⟩
        · skip
          have kB : ¬ (u : Int) < (m : Int) := by omega
          have kC : ¬ (u : Int) < (mid : Int) := by omega
          have kE : ¬ (m : Int) < (en : Int) := by omega
          have kA : (a : Int) < (u : Int) := by omega
          have kF : ¬ (mid : Int) < (en : Int) := by omega
          have hbs := HSw.out (by omega)
          have HM1 := Lib.hid (HT1.out (by omega))
          have hb3 := hbs
          rw [show pre ++ (L1 ++ (R1 ++ (L2 ++ (R2 ++ post)))) = pre ++ ((L1 ++ R1) ++ (L2 ++ (R2 ++ post))) by simp] at hb3
          have HM2 := Lib.hid (HT2.out (by omega))
          have HF := Lib.hid (HFin.out _ _ _ HM1.out HM2.out (by simpa using hb3) hgw)
          clear hb3
          go_wp2
          go_end0
          exact ⟨rfl, HF.out⟩

theorem symmerge_any (X G n c : Nat) (cf : Int → Int → Int) (K : Int → Int) (Pd : Int → Prop) (hn : n ≤ 1000) : ∀ N0, SymOk X G n c cf K Pd N0 := by
  intro N0
  induction N0 with
  | zero => intro a m b pre L R post w h; omega
  | succ N0 ih =>
    intro a m b pre L R post w hlt hL0 hR0 hl hb hPL hPR hcmp hR ha hm hbb
    by_cases hN : L.length + R.length < N0
    · exact ih a m b pre L R post w hN hL0 hR0 hl hb hPL hPR hcmp hR ha hm hbb
    · have hN0 : L.length + R.length = N0 := by omega
      by_cases h1 : L.length = 1
      · obtain ⟨x, rfl⟩ := List.length_eq_one_iff.1 h1
        exact symmerge_left G X n c a m b _ _ _ pre R post x cf K Pd w hn hl hb (hPL x (by simp)) hPR hcmp hR ha hm hbb rfl rfl rfl
      · by_cases h2 : R.length = 1
        · obtain ⟨y, rfl⟩ := List.length_eq_one_iff.1 h2
          exact symmerge_right G X n c a m b _ _ _ pre L post y cf K Pd w hn hl hb (hPR y (by simp)) hPL (by omega) hcmp hR ha hm hbb rfl rfl rfl
        · by_cases h3 : (a + b) / 2 < m
          · exact symmerge_mid1 X G n c cf K Pd N0 ih hn a m b _ pre L R post w hN0 (by omega) (by omega) hl hb hPL hPR hcmp hR ha hm hbb rfl h3
          · exact symmerge_mid2 X G n c cf K Pd N0 ih hn a m b _ pre L R post w hN0 (by omega) (by omega) hl hb hPL hPR hcmp hR ha hm hbb rfl h3
end Go.Proofs.Ytfjjjkfldekooaa
