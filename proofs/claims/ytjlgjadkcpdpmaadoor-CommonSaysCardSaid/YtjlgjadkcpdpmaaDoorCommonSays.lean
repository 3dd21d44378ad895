/-
  The walk of the law CommonSays: for every two texts the functions of package common answer what the reference answers; no condition.
-/
import Derived.Test.YtjlgjadkcpdpmaaDoorAs
import Derived.Test.YtjlgjadkcpdpmaaDoorCoRefC
import Derived.Test.YtjlgjadkcpdpmaaDoorCoOfW
namespace Go.Proofs.YtjlgjadkcpdpmaaDoor.commonSays
open Go.RowKit Co
set_option linter.unusedVariables false

theorem law_long (s : ByteArray) (m : Int) (w : World) (hs : s.size ≤ 140737488351232) : Calls Tryd.prog 5 #[.string s, .int .i64 m] w fun e w' => e = .returned (.int .i64 (if m < (s.size : Int) then 4 else 0)) ∧ w = w' := by
  by_cases h : m < (s.size : Int)
  all_goals
    go_enter Tryd.func5, Tryd.ntmps5
    go_wp2
    go_ret
    exact ⟨rfl, rfl⟩
theorem of_cm (a b : ByteArray) (w : World) (ha : a.size ≤ 24) (hb : b.size ≤ 24) :
    Calls Tryd.prog 9 #[.string a, .string b] w fun e w' => e = .returned (.tuple #[.string ⟨(cm (bs a) (bs b)).toArray⟩, .nilIface]) ∧ Below w.heap.size w w' := by
  refine (of_ok a b w ha hb).mono ?_
  rintro e w' ⟨g, rfl, hg, hbel⟩
  rw [least_cm hg]
  exact ⟨rfl, hbel⟩
theorem cm_lcs (a b : List UInt8) : (cm a b).length = lcs a b := by
  have t := top_cm _ a b (Nat.le_refl _)
  have h1 := lcs_ge t.sub1 t.sub2
  obtain ⟨c, c1, c2, c3⟩ := lcs_ex a b
  have := t.le c c1 c2
  rcases this with h | h <;> omega
set_option maxHeartbeats 1000000 in
theorem walk (w : World) (a : ByteArray) (s0 : a.size ≤ 140737488351232) (b : ByteArray) (s1 : b.size ≤ 140737488351232) (hg : As.Laid w) :
    Calls Tryd.prog 3 #[.string a, .string b] w fun e w' => e = .returned (.bool true) ∧ Below w.heap.size w w' := by
  have HLA := Lib.hid (fun w' => law_long a 24 w' s0)
  have HLB := Lib.hid (fun w' => law_long b 24 w' s1)
  by_cases h : a.size ≤ 24 ∧ b.size ≤ 24
  · have f1 := fun w => refcommon_any a b w h.1 h.2
    have f2 := fun w => long_ok a b w h.1 h.2
    have f3 := fun w => of_cm a b w h.1 h.2
    have f4 := fun w => within_ok a b w h.1 h.2
    have f5 := fun w => refwithin_any b.size a b w rfl h.2 h.1
    have hl := cm_lcs (bs a) (bs b)
    unfold strV at f1
    rw [← hl] at f2
    have hsz := size_mk (cm (bs a) (bs b))
    generalize cm (bs a) (bs b) = g at *
    generalize (gr (bs a) (bs b)).isEmpty = r at *
    generalize hG : (⟨g.toArray⟩ : ByteArray) = G at *
    rw [← hsz] at f2
    have F1 := Lib.hid f1; have F2 := Lib.hid f2; have F3 := Lib.hid f3; have F4 := Lib.hid f4; have F5 := Lib.hid f5
    clear f1 f2 f3 f4 f5 hl hsz hG hg
    have z1 : ¬ (24 : Int) < (a.size : Int) := by omega
    have z2 : ¬ (24 : Int) < (b.size : Int) := by omega
    go_enter Tryd.func3, Tryd.ntmps3
    go_wp2_with fail
    refine (HLA.out _).mono ?_
    rintro e w0 ⟨rfl, rfl⟩
    rw [if_neg (by omega)]
    go_wp2_with fail
    refine (HLB.out _).mono ?_
    rintro e w0 ⟨rfl, rfl⟩
    rw [if_neg (by omega)]
    go_wp2_with fail
    refine (F1.out _).mono ?_
    rintro e w1 ⟨rfl, hb1⟩
    go_wp2_with fail
    refine (F2.out _).mono ?_
    rintro e w2 ⟨rfl, hb⟩
    have hb2 := bnext hb1 hb
    clear hb
    go_wp2_with fail
    refine (As.error_ok _).mono ?_
    rintro e w3 ⟨rfl, hb⟩
    have hb3 := bnext hb2 hb
    clear hb
    go_wp2_with fail
    refine (F3.out _).mono ?_
    rintro e w4 ⟨rfl, hb⟩
    have hb4 := bnext hb3 hb
    clear hb
    go_wp2_with fail
    refine (As.error_ok _).mono ?_
    rintro e w5 ⟨rfl, hb⟩
    have hb5 := bnext hb4 hb
    clear hb
    go_wp2_with fail
    refine (F4.out _).mono ?_
    rintro e w6 ⟨rfl, hb⟩
    have hb6 := bnext hb5 hb
    clear hb
    go_wp2_with fail
    refine (As.error_ok _).mono ?_
    rintro e w7 ⟨rfl, hb⟩
    have hb7 := bnext hb6 hb
    clear hb
    go_wp2_with fail
    refine (F5.out _).mono ?_
    rintro e w8 ⟨rfl, hb⟩
    go_wp2
    go_ret
    exact ⟨by first | rfl | exact ret_bool (by cases r <;> rfl), bnext hb7 hb⟩
  · have f2 := fun w => long_no a b w h
    have f3 := fun w => of_no a b w h
    have f4 := fun w => within_no a b w h
    have HE := Lib.hid (fun w' (hb : Below w.heap.size w w') => As.error_no 4 (by decide) w' (hg.below hb))
    have F2 := Lib.hid f2; have F3 := Lib.hid f3; have F4 := Lib.hid f4
    clear f2 f3 f4 hg
    by_cases ha : (24 : Int) < (a.size : Int)
    case' pos =>
      go_enter Tryd.func3, Tryd.ntmps3
      go_wp2_with fail
      refine (HLA.out _).mono ?_
      rintro e w0 ⟨rfl, rfl⟩
      rw [if_pos (by omega)]
    case' neg =>
      have hbb : (24 : Int) < (b.size : Int) := by omega
      go_enter Tryd.func3, Tryd.ntmps3
      go_wp2_with fail
      refine (HLA.out _).mono ?_
      rintro e w0 ⟨rfl, rfl⟩
      rw [if_neg (by omega)]
      go_wp2_with fail
      refine (HLB.out _).mono ?_
      rintro e w0 ⟨rfl, rfl⟩
      rw [if_pos (by omega)]
    all_goals
      go_wp2_with fail
      refine (F2.out _).mono ?_
      rintro e w2 ⟨rfl, hb2⟩
      go_wp2_with fail
      refine (HE.out _ hb2).mono ?_
      rintro e w3 ⟨rfl, hb⟩
      have hb3 := bnext hb2 hb
      clear hb
      go_wp2_with fail
      refine (F3.out _).mono ?_
      rintro e w4 ⟨rfl, hb⟩
      have hb4 := bnext hb3 hb
      clear hb
      go_wp2_with fail
      refine (HE.out _ hb4).mono ?_
      rintro e w5 ⟨rfl, hb⟩
      have hb5 := bnext hb4 hb
      clear hb
      go_wp2_with fail
      refine (F4.out _).mono ?_
      rintro e w6 ⟨rfl, hb⟩
      have hb6 := bnext hb5 hb
      clear hb
      go_wp2_with fail
      refine (HE.out _ hb6).mono ?_
      rintro e w7 ⟨rfl, hb⟩
      go_wp2
      go_ret
      exact ⟨rfl, bnext hb6 hb⟩
end Go.Proofs.YtjlgjadkcpdpmaaDoor.commonSays
