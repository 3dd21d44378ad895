/-
  The walk of the reference's Unpiece (letterbeckref2).
-/
import Derived.Test.YtacmkogdfienmaaDoorLpRead
import Derived.Test.YtacmkogdfienmaaDoorRefIn
namespace Go.Proofs.YtacmkogdfienmaaDoor.Lp
open Go.RowKit
set_option linter.unusedVariables false

set_option maxHeartbeats 1000000 in
set_option maxRecDepth 100000 in
theorem unpiece_all (A : Option Addr) (cap : Nat) (l : List (Int × UInt8)) (w : World) (hl : l.length ≤ 1000) (hr : Reads w A l.length 2 (icells l)) :
    Calls Tryd.prog 9 #[.slice A l.length cap] w fun e w' => e = .returned (.tuple #[strV (rd l 0 [[]] []).1, .int .i64 (rd l 0 [[]] []).2]) ∧ Below w.heap.size w w' := by
  obtain ⟨i0, hi, hz0, hz1, hz2⟩ := info_parts infoS
  have hl0 : ¬ (1000 : Int) < (l.length : Int) := by omega
  go_enter Tryd.func9, Tryd.ntmps9
  go_wp2
  go_loopw [4, 5, 6] (fun v o i wr => ∃ k : Nat, k ≤ l.length ∧ i = .int .i64 k ∧ RRel w wr v o l k)
    (fun _ _ i _ => l.length - (intOf i).toNat)
  case atStart => exact ⟨0, Nat.zero_le _, rfl, ⟨⟨[[]], [], rfl, World.ownsRow_lit w _ 1 (Nat.le_refl _) (by decide) rfl, by simp, by simp, rfl⟩, (Below.refl _ _).alloc (Nat.le_refl _) _⟩⟩
  case round =>
    obtain ⟨k, hk, rfl, hrel⟩ := hrel
    obtain ⟨⟨ts, os, rfl, hown, hts, hos, hrd⟩, hbel⟩ := hrel
    have hsz := hbel.size
    by_cases hlt : k < l.length
    · obtain ⟨b, o, rfl, hb, hc⟩ := (hr.below hbel).2 (by omega)
      obtain ⟨⟨pb, pc⟩, hp⟩ : ∃ p, l[k]? = some p := ⟨_, List.getElem?_eq_getElem hlt⟩
      have c0 := hc (k * 2) (.int .i64 pb) (by rw [icells_get0, hp]; rfl)
      have c1 := hc (k * 2 + 1) (.int .u8 (pc.toNat : Int)) (by rw [icells_get1, hp]; rfl)
      rw [← Nat.add_assoc] at c1
      have HT := Lib.hid hts; clear hts
      have hdrop : l.drop k = (pb, pc) :: l.drop (k + 1) := drop_of_get hp
      rw [hdrop] at hrd
      have HR := Lib.hid hrd; clear hrd hdrop hp
      by_cases hin : 0 ≤ pb ∧ pb ≤ (k : Int)
      · obtain ⟨n, rfl⟩ := Int.eq_ofNat_of_zero_le hin.1
        have hn : n ≤ k := by omega
        have hin' : (n : Int) ≤ (k : Int) := by omega
        rw [rd, if_pos hin] at HR
        simp only [Int.toNat_natCast] at HR
        clear hin
        obtain ⟨g, cap', rfl, hg, hg'⟩ := own_some hown (by omega)
        have hlen : ts.length = k + 1 := by simpa using hown.1
        have hcell := hown.cellAt n (by omega)
        generalize htn : ts.getD n [] = tn at HR
        have hcell' : wr.cell? ⟨g, n, none⟩ = some (.string ⟨tn.toArray⟩) := by
          rw [hcell, ← htn]; simp [strV, List.getD_eq_getElem?_getD, List.getElem?_eq_getElem (show n < ts.length by omega)]
        have htl : tn.length ≤ 1000 := HT.out tn (by rw [← htn, List.getD_eq_getElem?_getD, List.getElem?_eq_getElem (show n < ts.length by omega)]; simp)
        clear hcell htn
        have hcv := byte_string pc wr.heap.size
        have k0 : (0 : Int) ≤ (n : Int) := by omega
        have k1 : (n : Int) < (k : Int) + 1 := by omega
        have k2 : (k : Int) < (l.length : Int) := by omega
        have k3 : (0 : Int) ≤ (k : Int) := by omega
        go_wp2_with (go_at_call 14; refine (refin_any _ _ _ _).mono ?_; rintro e w' ⟨rfl, rfl⟩)
        go_region
        clear hcv
        by_cases hov : 1000 < os.length + (tn ++ [pc]).length
        · rw [if_pos hov] at HR
          have hov' : (1000 : Int) < (os.length : Int) + ((tn.length : Int) + 1) := by simp at hov; omega
          clear hov
          go_wp2
          go_ret2
          rw [HR.out]
          exact ⟨rfl, (hbel.alloc hbel.size _).drew⟩
        · rw [if_neg hov] at HR
          have hov' : (os.length : Int) + ((tn.length : Int) + 1) ≤ 1000 := by simp at hov; omega
          clear hov
          go_wp2_with (at_builtin; go_must (refine append_own _ rfl _ _ 36 rfl w.heap.size 9 i0 _ 1 16 Tryd.underlying36 hi hz0 hz1 hz2 rfl (by decide) _ _ _ rfl ((hown.alloc _).alloc _).drew ⟨wr.heap.size + 1, 0, none⟩ 1 1 [.string (⟨tn.toArray⟩ ++ ⟨#[pc]⟩)] rfl rfl (by simpa using cell_one_new (wr.alloc _) _ _) (by simp [Value.oneCell']) (by unfold maxLen; omega) (by omega) (by have := hbel.size; simp; omega) (by decide) ?_); intro g1 cap1 w1 hown1 hg1 hg1' hgrow1)
          go_roundw
          case rel => exact ⟨k + 1, by omega, by go_num, RRel.next hown1 HT.out hov' HR.out ((((hbel.alloc hbel.size _).alloc (by have := hbel.size; simp; omega) _)).drew.grown hgrow1 (by have := hbel.size; simp; omega) (by intro j hj; cases hj; exact hg))⟩
          case measure => simp [intOf]; omega
      · have hin' : decide (0 ≤ pb ∧ pb ≤ (k : Int)) = false := by simpa using hin
        rw [rd, if_neg hin] at HR
        go_wp2_with (go_at_call 14; refine (refin_any _ _ _ _).mono ?_; rintro e w' ⟨rfl, rfl⟩)
        go_ret2
        rw [HR.out]
        exact ⟨rfl, hbel⟩
    · obtain rfl : k = l.length := by omega
      have HR := Lib.hid hrd; clear hrd
      go_wp2
      go_ret2
      rw [HR.out]
      simp [rd, hbel, strV]

theorem unpiece_any (A : Option Addr) (cap : Nat) (l : List (Int × UInt8)) (w : World) (hr : Reads w A l.length 2 (icells l)) (hm : l.length ≤ maxLen) :
    Calls Tryd.prog 9 #[.slice A l.length cap] w fun e w' => e = .returned (.tuple #[strV (readP l).1, .int .i64 (readP l).2]) ∧ Below w.heap.size w w' := by
  unfold readP
  by_cases h : 1000 < l.length
  · rw [if_pos h]
    unfold maxLen at hm
    have h' : (1000 : Int) < (l.length : Int) := by omega
    go_enter Tryd.func9, Tryd.ntmps9
    go_wp2
    go_ret2
    exact ⟨rfl, Below.refl _ _⟩
  · rw [if_neg h]
    exact unpiece_all A cap l w (by omega) hr
end Go.Proofs.YtacmkogdfienmaaDoor.Lp
