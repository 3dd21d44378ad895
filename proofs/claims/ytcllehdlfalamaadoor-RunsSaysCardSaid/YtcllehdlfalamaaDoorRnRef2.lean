/-
  The walk of the reference's Unrun (letterbeckref2).
-/
import Derived.Test.YtcllehdlfalamaaDoorRnRef
namespace Go.Proofs.YtcllehdlfalamaaDoor.Rn
open Go.RowKit
set_option linter.unusedVariables false

theorem URel.drew {w wr : World} {v : Value} {l : List Z} {k : Nat} {prev : Option UInt8} {out : List UInt8} (h : URel w wr v l k prev out) (q : Nat) : URel w (wr.drewN q) v l k prev out := ⟨h.own, bdrew h.below q, h.len, h.rd, h.prev⟩
set_option maxRecDepth 100000 in
set_option maxHeartbeats 4000000 in
theorem unrun_any (A : Option Addr) (cap : Nat) (l : List Z) (w : World) (hr : Reads w A l.length 2 (rcells l)) (hm : l.length ≤ maxLen) (hwf : ∀ p ∈ l, Wf p) :
    Calls Tryd.prog 9 #[.slice A l.length cap] w fun e w' => e = .returned (.tuple #[strV (rd none [] l).1, .int .i64 (rd none [] l).2]) ∧ Below w.heap.size w w' := by
  unfold maxLen at hm
  obtain ⟨i0, hi, hz0, hz1, hz2⟩ := info_parts info8
  have HWF := Lib.hid hwf
  clear hwf
  obtain ⟨r, hR⟩ : ∃ r, r = rd none [] l := ⟨_, rfl⟩
  rw [← hR]
  have HRR := Lib.hid hR
  clear hR
  go_enter Tryd.func9, Tryd.ntmps9
  go_wp2
  go_loopw [4, 5] (fun v i wr => ∃ (k : Nat) (prev : Option UInt8) (out : List UInt8) (v0 : Value), k ≤ l.length ∧ i = .int .i64 k ∧ v0 = v ∧ URel w wr v0 l k prev out) (fun _ i _ => l.length - (intOf i).toNat)
  case atStart => exact ⟨0, none, [], _, Nat.zero_le _, rfl, rfl, ⟨World.ownsRow_nil _ _ _ _, Below.refl _ _, by simp, rfl, .inl ⟨rfl, rfl⟩⟩⟩
  case round =>
    obtain ⟨k, prev, out, v, hk, rfl, rfl, hrel⟩ := hrel
    have hbel := hrel.below
    have hlen := hrel.len
    have hsz := hbel.size
    by_cases hlt : k < l.length
    · obtain ⟨b, o, rfl, hb, hc0⟩ := hr.2 (by omega)
      obtain ⟨⟨c, n⟩, hp⟩ : ∃ p, l[k]? = some p := ⟨_, List.getElem?_eq_getElem hlt⟩
      have hc := fun (wq : World) (hbq : Below w.heap.size w wq) (j : Nat) (u : Value) (hu : (rcells l)[j]? = some u) => (hbq.cell (p := ⟨b, o + j, none⟩) hb).trans (hc0 j u hu)
      have hcc : ∀ (wq : World), Below w.heap.size w wq → wq.cell? ⟨b, o + k * 2, none⟩ = some (.int .u8 (c.toNat : Int)) ∧ wq.cell? ⟨b, o + k * 2 + 1, none⟩ = some (.int .i64 n) := fun wq hbq => by
        have c1 := hc wq hbq (k * 2 + 1) (.int .i64 n) (by rw [rcells_get1, hp]; rfl)
        rw [← Nat.add_assoc] at c1
        exact ⟨hc wq hbq (k * 2) (.int .u8 (c.toNat : Int)) (by rw [rcells_get0, hp]; rfl), c1⟩
      obtain ⟨c0, c1⟩ := hcc _ hbel
      have HCC := Lib.hid hcc
      have hrd := hrel.rd
      rw [drop_of_get hp, rd] at hrd
      have HO := Lib.hid hrel.own
      obtain ⟨A', cap', e⟩ := own_slice hrel.own
      subst e
      have hnw := HWF.out (c, n) (List.mem_of_getElem? hp)
      unfold Wf at hnw
      simp only at hnw
      clear hcc hc0
      by_cases h1 : 1 ≤ n ∧ n ≤ 1000
      · rw [if_neg (by omega)] at hrd
        have hin : decide (1 ≤ n ∧ n ≤ 1000) = true := decide_eq_true h1
        obtain ⟨m, rfl⟩ := Int.eq_ofNat_of_zero_le (show 0 ≤ n by omega)
        rw [Int.toNat_natCast] at hrd
        have hm1 : 1 ≤ m ∧ m ≤ 1000 := by omega
        rcases hrel.prev with ⟨rfl, hpv⟩ | ⟨j, ⟨d, n'⟩, rfl, hj, hpv⟩
        · rw [hpv, if_neg (by simp)] at hrd
          simp only [Nat.zero_mul, Nat.add_zero] at c0 c1
          have HRD := Lib.hid hrd
          have HP := Lib.hid hp
          clear hrd hrel hp hc hpv h1 hnw
          go_wp2_with (go_at_call 13; refine (refin_any _ _ _ _).mono ?_; rintro e w' ⟨rfl, rfl⟩)
          go_quiet (fail)
          clear c0 c1
          have wr2 : IntKind.i64.wrap ((out.length : Int) + (m : Int)) = (out.length : Int) + (m : Int) := IntWalk.i64_in _ (by omega)
          by_cases hov : 1000 < (out.length : Int) + (m : Int)
          · have e : r = ([], 4) := by rw [HRR.out, HRD.out, if_pos hov]
            obtain ⟨c0, c1⟩ := HCC.out _ (bdrew hbel nq)
            simp only [Nat.zero_mul, Nat.add_zero] at c0 c1
            go_wp2
            go_ret2
            rw [e]
            exact ⟨rfl, bdrew hbel _⟩
          · have hrd2 : rd none [] l = rd (some c) (out ++ List.replicate m c) (l.drop (0 + 1)) := by rw [HRD.out, if_neg hov]
            have HR2 := Lib.hid hrd2
            obtain ⟨c0, c1⟩ := HCC.out _ (bdrew hbel nq)
            simp only [Nat.zero_mul, Nat.add_zero] at c0 c1
            have HB0 := Lib.hid (bdrew hbel nq)
            have HO0 := Lib.hid (show (wr.drewN nq).ownsRow w.heap.size 5 1 (.slice A' out.length cap') out.length (u8s out) from HO.out)
            clear hrd2 HRD
            generalize wr.drewN nq = w1 at *
            go_wp2
            clear c0 c1
            obtain ⟨wo, hwo⟩ : ∃ wo : World, wo = w1 := ⟨_, rfl⟩
            go_loopw [4, 6] (fun v j wr => ∃ (J : Nat) (v0 : Value), J ≤ m ∧ j = .int .i64 J ∧ v0 = v ∧ wr.ownsRow w.heap.size 5 1 v0 (out.length + J) (u8s (out ++ List.replicate J c)) ∧ Below w.heap.size w wr) (fun _ j _ => m - (intOf j).toNat)
            case atStart => exact ⟨0, _, Nat.zero_le _, rfl, rfl, by simpa using HO0.out, HB0.out⟩
            case round =>
              clear hwo HO0 HB0
              obtain ⟨J, v, hJ, rfl, rfl, hown, hbel2⟩ := hrel
              have hsz2 := hbel2.size
              obtain ⟨c0, c1⟩ := HCC.out _ hbel2
              simp only [Nat.zero_mul, Nat.add_zero] at c0 c1
              by_cases hJm : J < m
              · have hn2 : u8s (out ++ List.replicate (J + 1) c) = u8s (out ++ List.replicate J c) ++ [.int .u8 (c.toNat : Int)] := by
                  rw [List.replicate_succ']; simp [u8s]
                have HN2 := Lib.hid hn2
                clear hn2
                go_wp2_with (at_builtin; go_must (refine append_own _ rfl _ _ 41 rfl w.heap.size 5 i0 _ 1 1 Tryd.underlying41 hi hz0 hz1 hz2 rfl (by decide) _ _ _ rfl (hown.alloc _) ⟨wr.heap.size, 0, none⟩ 1 1 [.int .u8 (c.toNat : Int)] rfl rfl (cell_one_new _ _ _) (byte_oneCell _) (by unfold maxLen; omega) (by omega) (by simp; omega) (by decide) ?_); intro g2 cap2 w2 hown2 hg2 hg2' hgrow2)
                go_roundw
                case rel => exact ⟨J + 1, _, by omega, by go_num, rfl, by rw [HN2.out]; exact hown2, (hbel2.alloc hsz2 _).grown hgrow2 (by simp; omega) (fun j hj => (hown.lt j hj).1)⟩
                case measure => simp [intOf]; omega
              · obtain rfl : J = m := by omega
                have HO2 := Lib.hid hown
                clear hown
                go_wp2
                refine ⟨⟨0 + 1, some c, out ++ List.replicate J c, _, by omega, by go_num, rfl, ⟨?_, hbel2, by rw [List.length_append, List.length_replicate]; omega, HR2.out, .inr ⟨0, (c, (J : Int)), rfl, HP.out, rfl⟩⟩⟩, by simp [intOf]; omega⟩
                rw [List.length_append, List.length_replicate]
                exact HO2.out
        · have e0 := hc _ hbel (j * 2) (.int .u8 (d.toNat : Int)) (by rw [rcells_get0, hj]; rfl)
          have wr1 : IntKind.i64.wrap (j : Int) = (j : Int) := IntWalk.i64_in _ (by omega)
          have g1 : (j : Int) < (l.length : Int) := by omega
          have g2 : (0 : Int) ≤ (j : Int) := by omega
          by_cases hdc : d = c
          · rw [hpv, if_pos (by rw [hdc])] at hrd
            have heq : ((d.toNat : Int) == (c.toNat : Int)) = true := by rw [hdc]; simp
            have e : r = ([], 6) := by rw [HRR.out, hrd]
            clear hrd hrel hp hc hpv h1 hnw hdc hj
            go_wp2_with (go_at_call 13; refine (refin_any _ _ _ _).mono ?_; rintro e w' ⟨rfl, rfl⟩)
            go_quiet (fail)
            go_wp2
            go_ret2
            rw [e]
            exact ⟨rfl, bdrew hbel _⟩
          · rw [hpv, if_neg (fun e => hdc (Option.some.inj e))] at hrd
            have heq : ((d.toNat : Int) == (c.toNat : Int)) = false := by
              have : ¬ d.toNat = c.toNat := fun h => hdc (UInt8.toNat_inj.1 h)
              rw [beq_eq_false_iff_ne]; omega
            have HRD := Lib.hid hrd
            have HP := Lib.hid hp
            clear hrd hrel hp hc hpv h1 hnw hdc hj
            go_wp2_with (go_at_call 13; refine (refin_any _ _ _ _).mono ?_; rintro e w' ⟨rfl, rfl⟩)
            go_quiet (fail)
            clear e0
            clear c0 c1
            have wr2 : IntKind.i64.wrap ((out.length : Int) + (m : Int)) = (out.length : Int) + (m : Int) := IntWalk.i64_in _ (by omega)
            by_cases hov : 1000 < (out.length : Int) + (m : Int)
            · have e : r = ([], 4) := by rw [HRR.out, HRD.out, if_pos hov]
              obtain ⟨c0, c1⟩ := HCC.out _ (bdrew hbel nq)
              go_wp2
              go_ret2
              rw [e]
              exact ⟨rfl, bdrew hbel _⟩
            · have hrd2 : rd none [] l = rd (some c) (out ++ List.replicate m c) (l.drop ((j + 1) + 1)) := by rw [HRD.out, if_neg hov]
              have HR2 := Lib.hid hrd2
              obtain ⟨c0, c1⟩ := HCC.out _ (bdrew hbel nq)
              have HB0 := Lib.hid (bdrew hbel nq)
              have HO0 := Lib.hid (show (wr.drewN nq).ownsRow w.heap.size 5 1 (.slice A' out.length cap') out.length (u8s out) from HO.out)
              clear hrd2 HRD
              generalize wr.drewN nq = w1 at *
              go_wp2
              clear c0 c1
              obtain ⟨wo, hwo⟩ : ∃ wo : World, wo = w1 := ⟨_, rfl⟩
              go_loopw [4, 6] (fun v j wr => ∃ (J : Nat) (v0 : Value), J ≤ m ∧ j = .int .i64 J ∧ v0 = v ∧ wr.ownsRow w.heap.size 5 1 v0 (out.length + J) (u8s (out ++ List.replicate J c)) ∧ Below w.heap.size w wr) (fun _ j _ => m - (intOf j).toNat)
              case atStart => exact ⟨0, _, Nat.zero_le _, rfl, rfl, by simpa using HO0.out, HB0.out⟩
              case round =>
                clear hwo HO0 HB0
                obtain ⟨J, v, hJ, rfl, rfl, hown, hbel2⟩ := hrel
                have hsz2 := hbel2.size
                obtain ⟨c0, c1⟩ := HCC.out _ hbel2
                by_cases hJm : J < m
                · have hn2 : u8s (out ++ List.replicate (J + 1) c) = u8s (out ++ List.replicate J c) ++ [.int .u8 (c.toNat : Int)] := by
                    rw [List.replicate_succ']; simp [u8s]
                  have HN2 := Lib.hid hn2
                  clear hn2
                  go_wp2_with (at_builtin; go_must (refine append_own _ rfl _ _ 41 rfl w.heap.size 5 i0 _ 1 1 Tryd.underlying41 hi hz0 hz1 hz2 rfl (by decide) _ _ _ rfl (hown.alloc _) ⟨wr.heap.size, 0, none⟩ 1 1 [.int .u8 (c.toNat : Int)] rfl rfl (cell_one_new _ _ _) (byte_oneCell _) (by unfold maxLen; omega) (by omega) (by simp; omega) (by decide) ?_); intro g2 cap2 w2 hown2 hg2 hg2' hgrow2)
                  go_roundw
                  case rel => exact ⟨J + 1, _, by omega, by go_num, rfl, by rw [HN2.out]; exact hown2, (hbel2.alloc hsz2 _).grown hgrow2 (by simp; omega) (fun j hj => (hown.lt j hj).1)⟩
                  case measure => simp [intOf]; omega
                · obtain rfl : J = m := by omega
                  have HO2 := Lib.hid hown
                  clear hown
                  go_wp2
                  refine ⟨⟨(j + 1) + 1, some c, out ++ List.replicate J c, _, by omega, by go_num, rfl, ⟨?_, hbel2, by rw [List.length_append, List.length_replicate]; omega, HR2.out, .inr ⟨(j + 1), (c, (J : Int)), rfl, HP.out, rfl⟩⟩⟩, by simp [intOf]; omega⟩
                  rw [List.length_append, List.length_replicate]
                  exact HO2.out
      · rw [if_pos h1] at hrd
        have hin : decide (1 ≤ n ∧ n ≤ 1000) = false := decide_eq_false h1
        have e : r = ([], 1) := by rw [HRR.out, hrd]
        clear hrd hrel hp hc h1
        go_wp2_with (go_at_call 13; refine (refin_any _ _ _ _).mono ?_; rintro e w' ⟨rfl, rfl⟩)
        go_ret2
        rw [e]
        exact ⟨rfl, hbel⟩
    · obtain rfl : k = l.length := by omega
      have hrd := hrel.rd
      rw [List.drop_length, rd] at hrd
      have e : r = (out, 0) := by rw [HRR.out, hrd]
      have hown := hrel.own
      obtain ⟨A', cap', e'⟩ := own_slice hown
      subst e'
      have hcv := bytes_string _ rfl hown
      clear hrel hrd hown
      go_wp2
      go_ret2
      rw [e]
      exact ⟨rfl, hbel⟩
end Go.Proofs.YtcllehdlfalamaaDoor.Rn
