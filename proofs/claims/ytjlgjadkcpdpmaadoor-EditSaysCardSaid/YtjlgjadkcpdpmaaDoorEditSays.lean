/-
  The walk of the law EditSays: for every two texts the functions of package edit answer what the reference answers; no condition.
-/
import Derived.Test.YtjlgjadkcpdpmaaDoorAs
import Derived.Test.YtjlgjadkcpdpmaaDoorEdStepsR
import Derived.Test.YtjlgjadkcpdpmaaDoorEdStepsW
import Derived.Test.YtjlgjadkcpdpmaaDoorEdFar
namespace Go.Proofs.YtjlgjadkcpdpmaaDoor.editSays
open Go.RowKit Ed
set_option linter.unusedVariables false

theorem law_long (s : ByteArray) (m : Int) (w : World) (hs : s.size ≤ 140737488351232) : Calls Tryd.prog 5 #[.string s, .int .i64 m] w fun e w' => e = .returned (.int .i64 (if m < (s.size : Int) then 4 else 0)) ∧ w = w' := by
  by_cases h : m < (s.size : Int)
  all_goals
    go_enter Tryd.func5, Tryd.ntmps5
    go_wp2
    go_ret
    exact ⟨rfl, rfl⟩
set_option maxHeartbeats 1000000 in
theorem walk (w : World) (a : ByteArray) (s0 : a.size ≤ 140737488351232) (b : ByteArray) (s1 : b.size ≤ 140737488351232) (hg : As.Laid w) :
    Calls Tryd.prog 4 #[.string a, .string b] w fun e w' => e = .returned (.bool true) ∧ Below w.heap.size w w' := by
  have HLA := Lib.hid (fun w' => law_long a 24 w' s0)
  have HLB := Lib.hid (fun w' => law_long b 24 w' s1)
  by_cases h : a.size ≤ 24 ∧ b.size ≤ 24
  · have F1 := Lib.hid (fun w => table_any a b w h.1 h.2)
    have f2 := fun w => refsteps_any a b w h.1 h.2
    have f3 := fun w => far_ok a b w h.1 h.2
    have f4 := fun w => steps_ok a b w h.1 h.2
    have e1 : steps (Co.bs a) (Co.bs b) = steps (bs a) (bs b) := rfl
    have e2 : lev ((Co.bs a).drop 0) ((Co.bs b).drop 0) = lev a.data.toList b.data.toList := rfl
    rw [e1] at f2
    generalize steps (bs a) (bs b) = S at *
    obtain ⟨L, hL⟩ : ∃ L, L = lev a.data.toList b.data.toList := ⟨_, rfl⟩
    rw [← hL] at f3 e2
    have F2 := Lib.hid f2; have F3 := Lib.hid f3; have F4 := Lib.hid f4; have E2 := Lib.hid e2
    have hn0 : 0 ≤ a.size := Nat.zero_le _
    clear f2 f3 f4 hg e1 e2 hL
    go_enter Tryd.func4, Tryd.ntmps4
    go_wp2_with fail
    refine (HLA.out _).mono ?_
    rintro e w0 ⟨rfl, rfl⟩
    rw [if_neg (by omega)]
    go_wp2_with fail
    refine (HLB.out _).mono ?_
    rintro e w0 ⟨rfl, rfl⟩
    rw [if_neg (by omega)]
    go_wp2_with fail
    refine (F1.out _).mono ?_
    rintro e w1 ⟨v, gs, rfl, ⟨hgl, ht⟩, hb1⟩
    obtain ⟨g0, cap0, e, _, _⟩ := own_some ht.own (by omega)
    rw [hgl] at e
    subst e
    obtain ⟨gi, hgi⟩ : ∃ g, gs[0]? = some g := ⟨_, List.getElem?_eq_getElem (by omega)⟩
    have sl0 : w1.cell? ⟨g0, 0, none⟩ = some (.slice (some ⟨gi, 0, none⟩) (b.size + 1) (b.size + 1)) := ht.slice (g0 := g0) (cap := cap0) (by rw [hgl]) hgi
    have n00 := ht.num hgi (j := 0) (Nat.zero_le _)
    rw [E2.out] at n00
    clear ht hgi hgl
    go_wp2_with fail
    refine (F2.out _).mono ?_
    rintro e w2 ⟨rfl, hb⟩
    have hb2 := bnext hb1 hb
    clear hb sl0 n00
    go_wp2_with fail
    refine (F3.out _).mono ?_
    rintro e w3 ⟨rfl, hb⟩
    have hb3 := bnext hb2 hb
    clear hb
    go_wp2_with fail
    refine (As.error_ok _).mono ?_
    rintro e w4 ⟨rfl, hb⟩
    have hb4 := bnext hb3 hb
    clear hb
    go_wp2_with fail
    refine (F4.out _).mono ?_
    rintro e w5 ⟨rfl, hb⟩
    have hb5 := bnext hb4 hb
    clear hb
    go_wp2_with fail
    refine (As.error_ok _).mono ?_
    rintro e w6 ⟨rfl, hb⟩
    go_wp2
    go_ret
    exact ⟨rfl, bnext hb5 hb⟩
  · have f2 := fun w => far_no a b w h
    have f3 := fun w => steps_no a b w h
    have HE := Lib.hid (fun w' (hb : Below w.heap.size w w') => As.error_no 4 (by decide) w' (hg.below hb))
    have F2 := Lib.hid f2; have F3 := Lib.hid f3
    clear f2 f3 hg
    by_cases ha : (24 : Int) < (a.size : Int)
    case' pos =>
      go_enter Tryd.func4, Tryd.ntmps4
      go_wp2_with fail
      refine (HLA.out _).mono ?_
      rintro e w0 ⟨rfl, rfl⟩
      rw [if_pos (by omega)]
    case' neg =>
      have hbb : (24 : Int) < (b.size : Int) := by omega
      go_enter Tryd.func4, Tryd.ntmps4
      go_wp2_with fail
      refine (HLA.out _).mono ?_
      rintro e w0 ⟨rfl, rfl⟩
      rw [if_neg (by omega)]
      go_wp2_with fail
      refine (HLB.out _).mono ?_
      rintro e w0 ⟨rfl, rfl⟩
      rw [if_pos (by omega)]
    all_goals
      go_wp2_with fail
      refine (F2.out _).mono ?_
      rintro e w2 ⟨rfl, hb2⟩
      go_wp2_with fail
      refine (HE.out _ hb2).mono ?_
      rintro e w3 ⟨rfl, hb⟩
      have hb3 := bnext hb2 hb
      clear hb
      go_wp2_with fail
      refine (F3.out _).mono ?_
      rintro e w4 ⟨rfl, hb⟩
      have hb4 := bnext hb3 hb
      clear hb
      go_wp2_with fail
      refine (HE.out _ hb4).mono ?_
      rintro e w5 ⟨rfl, hb⟩
      go_wp2
      go_ret
      exact ⟨rfl, bnext hb4 hb⟩
end Go.Proofs.YtjlgjadkcpdpmaaDoor.editSays
