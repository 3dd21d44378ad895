/-
  The walk of the law LempelFresh: it returns true for every text.
-/
import Derived.Test.YtacmkogdfienmaaLempelBack
namespace Go.Proofs.Ytacmkogdfienmaa.Lp
open Go.RowKit

/-- the laws' own 'in' -/
theorem in_any (n lo hi : Int) (w : World) : Calls Try.prog 9 #[.int .i64 n, .int .i64 lo, .int .i64 hi] w fun e w' => e = .returned (.bool (decide (lo ≤ n ∧ n ≤ hi))) ∧ w = w' := by
  by_cases h1 : lo ≤ n <;> by_cases h2 : n ≤ hi
  all_goals
    go_enter Try.func9, Try.ntmps9
    go_wp2
    go_ret
    exact ⟨by simp [h1, h2], rfl⟩
theorem in_yes {n lo hi : Int} (h1 : lo ≤ n) (h2 : n ≤ hi) (w : World) : Calls Try.prog 9 #[.int .i64 n, .int .i64 lo, .int .i64 hi] w fun e w' => e = .returned (.bool true) ∧ w = w' := by
  have := in_any n lo hi w
  rwa [decide_eq_true ⟨h1, h2⟩] at this

theorem cells_get (l : List Pc) (k : Nat) (p : Pc) (h : l[k]? = some p) : (cells l)[k * 2]? = some (.int .i64 (p.1 : Int)) ∧ (cells l)[k * 2 + 1]? = some (.int .u8 (p.2.toNat : Int)) := by
  rw [← icells_ofPc]
  obtain ⟨h1, h2⟩ := icells_get (l.map ofPc) k
  rw [h1, h2, List.getElem?_map, h]
  exact ⟨rfl, rfl⟩

theorem nodup_ne {l : List Pc} (h : l.dropLast.Nodup) {i j : Nat} {p q : Pc} (hi : i + 1 < l.length) (hj : j < i) (hp : l[i]? = some p) (hq : l[j]? = some q) : q ≠ p := by
  intro e
  have hi' : i < l.dropLast.length := by simp; omega
  have hj' : j < l.dropLast.length := by simp; omega
  have e1 : l.dropLast[i]'hi' = p := by
    rw [List.getElem_dropLast]
    rw [List.getElem?_eq_getElem (by omega)] at hp
    exact Option.some.inj hp
  have e2 : l.dropLast[j]'hj' = q := by
    rw [List.getElem_dropLast]
    rw [List.getElem?_eq_getElem (by omega)] at hq
    exact Option.some.inj hq
  exact List.pairwise_iff_getElem.1 h j i hj' hi' hj (by rw [e1, e2, e])
theorem ofPc_inj {p q : Pc} (e : ofPc p = ofPc q) : p = q := by
  have h1 := congrArg Prod.fst e
  have h2 := congrArg Prod.snd e
  simp only [ofPc] at h1 h2
  exact Prod.ext (by omega) h2
theorem wf_pc (p : Pc) (h : p.1 ≤ 1000) : Wf (ofPc p) := ⟨by simp only [ofPc]; omega, by simp only [ofPc]; omega⟩

set_option maxHeartbeats 2000000 in
theorem walkFresh (w : World) (a0 : ByteArray) (s0 : a0.size ≤ 140737488351232) :
    Calls Try.prog 4 #[.string a0] w fun e w' => e = .returned (.bool true) ∧ Below w.heap.size w w' := by
  by_cases hs : a0.size ≤ 1000
  · have hlen := pieces_length a0.data.toList
    have hL : a0.data.toList.length = a0.size := by simp
    rw [hL] at hlen
    have hwrite := fun w => write_ok a0 w hs
    have hnd := pieces_nodup a0.data.toList
    have hval := pieces_valid a0.data.toList
    have HW := Lib.hid hwrite; have HN := Lib.hid hnd; have HV := Lib.hid hval
    clear hwrite hL hnd hval
    generalize pieces a0.data.toList = l at *
    obtain ⟨n, hn⟩ : ∃ n, l.length = n := ⟨_, rfl⟩
    have e1 := Lib.hid hn
    rw [hn] at HW hlen
    clear hn
    go_enter Try.func4, Try.ntmps4
    go_wp2_with fail
    refine (fact_any _).mono ?_
    rintro e w1 ⟨rfl, hb1⟩
    go_wp2_with fail
    refine (HW.out _).mono ?_
    rintro e w2 ⟨A, cap, rfl, hown, hb2⟩
    have hr := Reads.of_own hown
    have hb := bnext hb1 hb2
    clear hown
    go_wp2_with fail
    go_loopw [6, 7] (fun i _ wr => ∃ k : Nat, k ≤ n ∧ i = .int .i64 k ∧ Below w2.heap.size w2 wr)
      (fun i _ _ => n - (intOf i).toNat)
    case atStart => exact ⟨0, Nat.zero_le _, rfl, Below.refl _ _⟩
    case round =>
      obtain ⟨k, hk, rfl, hbel⟩ := hrel
      by_cases hlt : k < n
      · obtain ⟨b, o, rfl, hb', hc⟩ := (hr.below hbel).2 (by omega)
        obtain ⟨⟨pa, pc⟩, hp⟩ : ∃ p, l[k]? = some p := ⟨_, List.getElem?_eq_getElem (by rw [e1.out]; exact hlt)⟩
        obtain ⟨g0, g1⟩ := cells_get l k _ hp
        have c0 := hc (k * 2) _ g0
        have c1 := hc (k * 2 + 1) _ g1
        rw [← Nat.add_assoc] at c1
        have hpk : pa ≤ k := HV.out k _ hp
        simp only at c0 c1
        have HC := Lib.hid hc; have HP := Lib.hid hp
        clear hc hp g0 g1
        go_wp2_with (go_at_call 9; refine (in_yes (by omega) (by omega) _).mono ?_; rintro e w' ⟨rfl, rfl⟩)
        obtain ⟨wo, rfl⟩ : ∃ wo : World, wo = wr := ⟨_, rfl⟩
        go_loopw [7] (fun j wq => ∃ i : Nat, i ≤ k ∧ j = .int .i64 i ∧ Below w2.heap.size w2 wq) (fun j _ => k - (intOf j).toNat)
        case atStart => exact ⟨0, Nat.zero_le _, rfl, hbel⟩
        case round =>
          obtain ⟨i, hi, rfl, hbelq⟩ := hrel
          by_cases hlt2 : i < k ∧ k + 1 < n
          · obtain ⟨hlt2, hlt3⟩ := hlt2
            obtain ⟨b2, o2, e2, hb2', hc2⟩ := (hr.below hbelq).2 (by omega)
            simp only [Option.some.injEq, Addr.mk.injEq, and_true] at e2
            obtain ⟨rfl, rfl⟩ := e2
            obtain ⟨⟨qa, qc⟩, hq⟩ : ∃ p, l[i]? = some p := ⟨_, List.getElem?_eq_getElem (by rw [e1.out]; omega)⟩
            have hq1 : qa ≤ i := HV.out i _ hq
            have hr1 := eql_pc (ofPc (qa, qc)) (ofPc (pa, pc)) (wf_pc _ (by simp only; omega)) (wf_pc _ (by simp only; omega))
            have hne : ofPc (qa, qc) ≠ ofPc (pa, pc) := by
              intro e
              have := nodup_ne HN.out (by rw [e1.out]; exact hlt3) hlt2 HP.out hq
              exact this (ofPc_inj e)
            rw [decide_eq_false hne] at hr1
            obtain ⟨g0, g1⟩ := cells_get l i _ hq
            obtain ⟨f0, f1⟩ := cells_get l k _ HP.out
            have d0 := hc2 (i * 2) _ g0
            have d1 := hc2 (i * 2 + 1) _ g1
            have c0' := hc2 (k * 2) _ f0
            have c1' := hc2 (k * 2 + 1) _ f1
            rw [← Nat.add_assoc] at d1 c1'
            simp only [ofPc] at d0 d1 c0' c1' hr1
            clear hc2 hq g0 g1 f0 f1 hne c0 c1
            go_wp2
            go_quiet (fail)
            go_wp2
            go_roundw
            case rel => exact ⟨i + 1, by omega, by go_num, bdrew hbelq _⟩
            case measure => simp [intOf]; omega
          · by_cases h4 : i < k
            · have h5 : ¬ k + 1 < n := fun h => hlt2 ⟨h4, h⟩
              clear hlt2
              go_wp2
              go_roundw
              case rel => exact ⟨k + 1, by omega, by go_num, hbelq⟩
              case measure => simp [intOf]; omega
            · clear hlt2
              go_wp2
              go_roundw
              case rel => exact ⟨k + 1, by omega, by go_num, hbelq⟩
              case measure => simp [intOf]; omega
      · go_wp2
        go_ret
        exact ⟨rfl, bnext hb hbel⟩
  · go_enter Try.func4, Try.ntmps4
    go_wp2_with fail
    refine (fact_any _).mono ?_
    rintro e w1 ⟨rfl, hb1⟩
    go_wp2_with fail
    refine (write_no _ _ (by omega)).mono ?_
    rintro e w2 ⟨rfl, hb2⟩
    go_wp2_with fail
    go_ret
    exact ⟨rfl, bnext hb1 hb2⟩
end Go.Proofs.Ytacmkogdfienmaa.Lp
namespace Go.Proofs.Ytacmkogdfienmaa.lempelFresh
abbrev walk := @Lp.walkFresh
end Go.Proofs.Ytacmkogdfienmaa.lempelFresh
