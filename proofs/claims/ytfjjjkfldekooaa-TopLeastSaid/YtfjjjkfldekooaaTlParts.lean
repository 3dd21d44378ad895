/-
  The walk of lyndon.Parts: the last word begins where the least end does.
-/
import Derived.Test.YtfjjjkfldekooaaTlLyn
import Derived.Test.YtfjjjkfldekooaaWhLaw
import Derived.Test.YtfjjjkfldekooaaOwn
import Derived.Deep.LoopGhost
namespace Go.Proofs.Ytfjjjkfldekooaa
open Go.RowKit
set_option linter.unusedVariables false
set_option linter.unusedSimpArgs false

theorem sb_index (s : ByteArray) (p : Nat) (hp : p < s.size) (W : World) : (Instr.index 9 (.string s) (.int .i64 (p : Int))).run Try.prog W = .ok (.int .u8 ((sb (bs s) p : Nat) : Int)) W := index_byN s p hp W
theorem oneInt (n : Int) : ∀ u ∈ [Value.int .i64 n], u.oneCell' = true := by intro u hu; simp at hu; subst hu; rfl

/-- what the words' lengths tell -/
def PartsOk (s : ByteArray) (w' : World) (A : Option Addr) (m : Nat) : Prop := ∃ (d : Nat) (l : List Int), Reads w' A m 1 (ints l) ∧ 0 < m ∧ m ≤ 24 ∧ l[m - 1]? = some (d : Int) ∧ 0 < d ∧ d ≤ s.size ∧ ∀ p, p < s.size → p ≠ s.size - d → EndLt (bs s) (s.size - d) p
set_option maxHeartbeats 6000000 in
set_option maxRecDepth 100000 in
theorem parts_any (s : ByteArray) (w : World) (hs : s.size ≤ 24) (h0 : 0 < s.size) :
    Calls Try.prog 20 #[.string s] w fun e w' => (∃ (A : Option Addr) (m cap : Nat), e = .returned (.tuple #[.slice A m cap, .nilIface]) ∧ PartsOk s w' A m) ∧ Below w.heap.size w w' := by
  have kk : (s.size : Int) ≤ 24 := by omega
  obtain ⟨i0, hi0, hz0, hz1, hz2⟩ := info_parts infoI
  have hlen : (bs s).length = s.size := bs_length s
  have HLEN := Lib.hid hlen
  clear hlen
  go_enter Try.func20, Try.ntmps20
  go_wp2_with fail
  refine (long1_ok s _ 24 _ (by simp) kk).mono ?_
  rintro e w1 ⟨rfl, rfl⟩
  go_wp2_with fail
  have hb0 : Below w.heap.size w (w.alloc (.cells #[.string s] 9)) := bnew w _
  generalize w.alloc (.cells #[.string s] 9) = W0 at *
  go_loopg [5, 6] s.size (fun g v5 v6 wr => ∃ (i : Nat) (l : List Int), s.size - i ≤ g ∧ v6 = .int .i64 (i : Int) ∧ i ≤ s.size ∧ l.length ≤ i ∧ Hid (Duo (bs s) i l) ∧ Hid (wr.ownsRow w.heap.size 3 1 v5 l.length (ints l)) ∧ Below w.heap.size w wr)
  case atStart => exact ⟨0, [], by omega, rfl, by omega, by simp, Lib.hid (Duo.start (by rw [HLEN.out]; exact h0)), Lib.hid (World.ownsRow_nil _ _ _ _), hb0⟩
  case round =>
    obtain ⟨i, l, hg, rfl, hi, hll, HD, HO, hb⟩ := hrel
    clear hb0
    by_cases hlt : i < s.size
    · have k1 : (i : Int) < (s.size : Int) := by omega
      have e1 : IntKind.i64.wrap ((i : Int) + 1) = ((i + 1 : Nat) : Int) := by rw [IntWalk.i64_in _ (by omega)]; omega
      have HDi : Hid (∀ p, p < i → EndLt (bs s) i p) := Lib.hid (by
        rcases HD.out with h | h
        · exact h.2
        · have := h.1; rw [HLEN.out] at this; omega)
      obtain ⟨wo, hwo⟩ : ∃ wo, wo = wr := ⟨_, rfl⟩
      subst hwo
      obtain ⟨j0, hj0⟩ : ∃ j0, j0 = i + 1 := ⟨_, rfl⟩
      rw [← hj0] at e1
      have HJ0 := Lib.hid hj0
      clear hj0 HD
      go_wp2_with fail
      go_loopg [7, 8] s.size (fun g v7 v8 wx => ∃ j k d : Nat, s.size - j ≤ g ∧ v7 = .int .i64 (j : Int) ∧ v8 = .int .i64 (k : Int) ∧ i ≤ k ∧ k < j ∧ j ≤ s.size ∧ d = j - k ∧ Hid (Duv (bs s) i j d) ∧ ∃ q, wx = wo.drewN q)
      case atStart =>
        have hj0 := HJ0.out
        refine ⟨j0, i, 1, by omega, rfl, rfl, by omega, by omega, by omega, by omega, Lib.hid ?_, 0, rfl⟩
        rw [hj0]; exact Duv.start _ _
      case round =>
        obtain ⟨j, k, d, hgj, rfl, rfl, hik, hkj, hjs, hdj, HV, q, hwq⟩ := hrel
        have hbx : Below w.heap.size w wr := by rw [hwq]; exact bdrew hb q
        have HOx : Hid (wr.ownsRow w.heap.size 3 1 u5 l.length (ints l)) := Lib.hid (by rw [hwq]; exact own_drewN HO.out q)
        have HWQ := Lib.hid hwq
        have HDJ := Lib.hid hdj
        clear hwq hdj
        have e2 : IntKind.i64.wrap ((j : Int) + 1) = (j : Int) + 1 := IntWalk.i64_in _ (by omega)
        have e3 : IntKind.i64.wrap ((k : Int) + 1) = (k : Int) + 1 := IntWalk.i64_in _ (by omega)
        by_cases hjl : j < s.size ∧ sb (bs s) k ≤ sb (bs s) j
        · obtain ⟨hj1, hAB⟩ := hjl
          have kj : (j : Int) < (s.size : Int) := by omega
          have kk2 : (k : Int) < (s.size : Int) := by omega
          have x1 := fun W => sb_index s k (by omega) W
          have x2 := fun W => sb_index s j hj1 W
          obtain ⟨A, hA⟩ : ∃ A, A = sb (bs s) k := ⟨_, rfl⟩
          obtain ⟨B, hB⟩ : ∃ B, B = sb (bs s) j := ⟨_, rfl⟩
          rw [← hA] at x1 hAB
          rw [← hB] at x2 hAB
          have HA := Lib.hid hA; have HB := Lib.hid hB
          clear hA hB
          have c1 : (A : Int) ≤ (B : Int) := by omega
          by_cases hls : A < B
          · have c2 : (A : Int) < (B : Int) := by omega
            have HN : Hid (Duv (bs s) i (j + 1) (j + 1 - i)) := Lib.hid (HV.out.less (by
              have := HDJ.out
              rw [show j - d = k by omega, ← HA.out, ← HB.out]; exact hls))
            go_wp2
            go_quiet (fail)
            go_wp2
            go_quiet (fail)
            go_wp2
            go_roundg (s.size - (j + 1))
            case measure => omega
            case rel => exact ⟨j + 1, i, j + 1 - i, by omega, by go_num, rfl, by omega, by omega, by omega, by omega, HN, _, by rw [HWQ.out, World.drewN_drewN]⟩
          · have c2 : ¬ (A : Int) < (B : Int) := by omega
            have HN : Hid (Duv (bs s) i (j + 1) d) := Lib.hid (HV.out.same (by
              have := HDJ.out
              rw [show j - d = k by omega, ← HA.out, ← HB.out]; omega))
            go_wp2
            go_quiet (fail)
            go_wp2
            go_quiet (fail)
            go_wp2
            go_roundg (s.size - (j + 1))
            case measure => omega
            case rel => exact ⟨j + 1, k + 1, d, by omega, by go_num, by go_num, by omega, by omega, by omega, by have := HDJ.out; omega, HN, _, by rw [HWQ.out, World.drewN_drewN]⟩
        · have HE : Hid (j = (bs s).length ∨ sb (bs s) j < sb (bs s) (j - d)) := Lib.hid (by
            have := HDJ.out
            rw [HLEN.out, show j - d = k by omega]
            by_cases h : j < s.size
            · right
              have : ¬ sb (bs s) k ≤ sb (bs s) j := fun h2 => hjl ⟨h, h2⟩
              omega
            · left; omega)
          have ed : IntKind.i64.wrap ((j : Int) - (k : Int)) = (d : Int) := by have := HDJ.out; rw [IntWalk.i64_in _ (by omega)]; omega
          have hdp : 0 < d := by have := HDJ.out; omega
          have hdle : d ≤ 24 := by have := HDJ.out; omega
          have HREST : Hid (∀ wz : World, Below w.heap.size w wz → wz.ownsRow w.heap.size 3 1 u5 l.length (ints l) → True) := Lib.hid (fun _ _ _ => trivial)
          clear HREST
          by_cases hj1 : j < s.size
          · have kj : (j : Int) < (s.size : Int) := by omega
            have kk2 : (k : Int) < (s.size : Int) := by omega
            have x1 := fun W => sb_index s k (by omega) W
            have x2 := fun W => sb_index s j hj1 W
            have hAB : ¬ sb (bs s) k ≤ sb (bs s) j := fun h2 => hjl ⟨hj1, h2⟩
            obtain ⟨A, hA⟩ : ∃ A, A = sb (bs s) k := ⟨_, rfl⟩
            obtain ⟨B, hB⟩ : ∃ B, B = sb (bs s) j := ⟨_, rfl⟩
            rw [← hA] at x1 hAB
            rw [← hB] at x2 hAB
            clear hA hB
            have c1 : ¬ (A : Int) ≤ (B : Int) := by omega
            clear hjl
            go_wp2
            go_quiet (fail)
            go_wp2
            obtain ⟨wp, hwp⟩ : ∃ wp, wp = wr.drewN nq := ⟨_, rfl⟩
            have hbp : Below w.heap.size w wp := by rw [hwp]; exact bdrew hbx _
            have HOp : Hid (wp.ownsRow w.heap.size 3 1 u5 l.length (ints l)) := Lib.hid (by rw [hwp]; exact own_drewN HOx.out _)
            rw [← hwp]
            clear hwp hbx HOx HWQ
            go_loopg [5, 6] (j + 1) (fun g v5 v6 wy => ∃ (c m : Nat), j + 1 - c ≤ g ∧ v6 = .int .i64 (c : Int) ∧ i ≤ c ∧ c ≤ j ∧ Hid (c = i + m * d) ∧ l.length + m ≤ c ∧ Hid (wy.ownsRow w.heap.size 3 1 v5 (l.length + m) (ints (l ++ List.replicate m (d : Int)))) ∧ Below w.heap.size w wy)
            case atStart => exact ⟨i, 0, by omega, rfl, by omega, by omega, Lib.hid (by omega), by omega, Lib.hid (by simpa using HOp.out), hbp⟩
            case round =>
              obtain ⟨c, m, hgc, rfl, hic, hcj, HC, hlm, HOy, hby⟩ := hrel
              clear hbp HOp
              by_cases hck : c ≤ k
              · have kc : (c : Int) ≤ (k : Int) := by omega
                have ec : IntKind.i64.wrap ((c : Int) + (d : Int)) = (c : Int) + (d : Int) := IntWalk.i64_in _ (by omega)
                have hsz := hby.size
                have hoy := HOy.out
                go_wp2_with (first
                  | (at_builtin; go_must (refine append_own _ rfl _ _ 30 rfl w.heap.size 3 i0 _ 1 8 Try.underlying30 hi0 hz0 hz1 hz2 rfl (by decide) _ _ _ rfl (hoy.alloc _) ⟨wr.heap.size, 0, none⟩ 1 1 [.int .i64 (d : Int)] rfl rfl (cell_one_new _ _ _) (oneInt _) (by unfold maxLen; omega) (by omega) (by simp; omega) (by decide) ?_); intro g1 cap1 wA hown1 hg1 hg1' hgrow1))
                go_roundg (j + 1 - (c + d))
                case measure => omega
                case rel =>
                  refine ⟨c + d, m + 1, by omega, by go_num, by omega, by have := HDJ.out; omega, Lib.hid (by rw [HC.out, Nat.succ_mul]; omega), by omega, Lib.hid ?_, (bmore hby _).grown hgrow1 (by simp; omega) (fun j hj => (hoy.lt j hj).1)⟩
                  rw [List.replicate_succ', ← List.append_assoc]
                  simpa [ints, Nat.add_assoc] using hown1
              · have kc : ¬ (c : Int) ≤ (k : Int) := by omega
                have HN : Hid (Duo (bs s) c (l ++ List.replicate m (d : Int))) := Lib.hid (by
                  have h1 := HC.out
                  have h2 := HDJ.out
                  rw [h1]
                  exact Duo.next HDi.out HV.out (by rw [HLEN.out]; exact hjs) HE.out (by omega) (by omega))
                go_wp2
                go_roundg (s.size - c)
                case measure => omega
                case rel => exact ⟨c, l ++ List.replicate m (d : Int), by omega, rfl, by omega, by simp; omega, HN, Lib.hid (by have := HOy.out; simpa using this), hby⟩
          · have kj : ¬ (j : Int) < (s.size : Int) := by omega
            clear hjl
            go_wp2
            go_quiet (fail)
            go_wp2
            obtain ⟨wp, hwp⟩ : ∃ wp, wp = wr.drewN nq := ⟨_, rfl⟩
            have hbp : Below w.heap.size w wp := by rw [hwp]; exact bdrew hbx _
            have HOp : Hid (wp.ownsRow w.heap.size 3 1 u5 l.length (ints l)) := Lib.hid (by rw [hwp]; exact own_drewN HOx.out _)
            rw [← hwp]
            clear hwp hbx HOx HWQ
            go_loopg [5, 6] (j + 1) (fun g v5 v6 wy => ∃ (c m : Nat), j + 1 - c ≤ g ∧ v6 = .int .i64 (c : Int) ∧ i ≤ c ∧ c ≤ j ∧ Hid (c = i + m * d) ∧ l.length + m ≤ c ∧ Hid (wy.ownsRow w.heap.size 3 1 v5 (l.length + m) (ints (l ++ List.replicate m (d : Int)))) ∧ Below w.heap.size w wy)
            case atStart => exact ⟨i, 0, by omega, rfl, by omega, by omega, Lib.hid (by omega), by omega, Lib.hid (by simpa using HOp.out), hbp⟩
            case round =>
              obtain ⟨c, m, hgc, rfl, hic, hcj, HC, hlm, HOy, hby⟩ := hrel
              clear hbp HOp
              by_cases hck : c ≤ k
              · have kc : (c : Int) ≤ (k : Int) := by omega
                have ec : IntKind.i64.wrap ((c : Int) + (d : Int)) = (c : Int) + (d : Int) := IntWalk.i64_in _ (by omega)
                have hsz := hby.size
                have hoy := HOy.out
                go_wp2_with (first
                  | (at_builtin; go_must (refine append_own _ rfl _ _ 30 rfl w.heap.size 3 i0 _ 1 8 Try.underlying30 hi0 hz0 hz1 hz2 rfl (by decide) _ _ _ rfl (hoy.alloc _) ⟨wr.heap.size, 0, none⟩ 1 1 [.int .i64 (d : Int)] rfl rfl (cell_one_new _ _ _) (oneInt _) (by unfold maxLen; omega) (by omega) (by simp; omega) (by decide) ?_); intro g1 cap1 wA hown1 hg1 hg1' hgrow1))
                go_roundg (j + 1 - (c + d))
                case measure => omega
                case rel =>
                  refine ⟨c + d, m + 1, by omega, by go_num, by omega, by have := HDJ.out; omega, Lib.hid (by rw [HC.out, Nat.succ_mul]; omega), by omega, Lib.hid ?_, (bmore hby _).grown hgrow1 (by simp; omega) (fun j hj => (hoy.lt j hj).1)⟩
                  rw [List.replicate_succ', ← List.append_assoc]
                  simpa [ints, Nat.add_assoc] using hown1
              · have kc : ¬ (c : Int) ≤ (k : Int) := by omega
                have HN : Hid (Duo (bs s) c (l ++ List.replicate m (d : Int))) := Lib.hid (by
                  have h1 := HC.out
                  have h2 := HDJ.out
                  rw [h1]
                  exact Duo.next HDi.out HV.out (by rw [HLEN.out]; exact hjs) HE.out (by omega) (by omega))
                go_wp2
                go_roundg (s.size - c)
                case measure => omega
                case rel => exact ⟨c, l ++ List.replicate m (d : Int), by omega, rfl, by omega, by simp; omega, HN, Lib.hid (by have := HOy.out; simpa using this), hby⟩
    · obtain rfl : i = s.size := by omega
      have k1 : ¬ (s.size : Int) < (s.size : Int) := by omega
      obtain ⟨A, cap, hAc⟩ := own_slice HO.out
      subst hAc
      have HFI : Hid (∃ d : Nat, l[l.length - 1]? = some (d : Int) ∧ 0 < l.length ∧ 0 < d ∧ d ≤ s.size ∧ ∀ p, p < s.size → p ≠ s.size - d → EndLt (bs s) (s.size - d) p) := Lib.hid (by
        rcases HD.out with h | ⟨_, d, h1, h2, h3, h4⟩
        · have := h.1; rw [HLEN.out] at this; omega
        · rw [HLEN.out] at h3 h4
          refine ⟨d, ?_, ?_, h2, h3, h4⟩
          · rw [List.getLast?_eq_getElem?] at h1; exact h1
          · cases l with
            | nil => simp at h1
            | cons => simp)
      have HR := Lib.hid (Reads.of_own HO.out)
      clear HD HO
      go_wp2
      go_ret2
      obtain ⟨d, h1, h2, h3, h4, h5⟩ := HFI.out
      exact ⟨⟨A, l.length, ⟨cap, rfl⟩, d, l, HR.out, h2, by omega, h1, h3, h4, h5⟩, hb⟩
end Go.Proofs.Ytfjjjkfldekooaa
