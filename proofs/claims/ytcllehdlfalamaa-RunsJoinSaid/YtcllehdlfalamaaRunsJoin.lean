/-
  The walk of the law RunsJoin: for every two texts; no condition.
-/
import Derived.Test.YtcllehdlfalamaaRnLaw
namespace Go.Proofs.Ytcllehdlfalamaa.runsJoin
open Go.RowKit Rn
set_option linter.unusedVariables false
/-- the case distinction of the law -/
theorem join_cases (a b : ByteArray) :
    ((a.size = 0 ∨ b.size = 0) ∧ (runsOf (a ++ b).data.toList).length = (runsOf a.data.toList).length + (runsOf b.data.toList).length) ∨
    ∃ (n : Nat) (x y : UInt8), a.size = n + 1 ∧ 0 < b.size ∧ (∀ w, (Instr.index 9 (.string a) (.int .i64 (n : Int))).run Try.prog w = .ok (.int .u8 (x.toNat : Int)) w) ∧ (∀ w, (Instr.index 9 (.string b) (.int .i64 0)).run Try.prog w = .ok (.int .u8 (y.toNat : Int)) w) ∧
      (runsOf (a ++ b).data.toList).length + (if x = y then 1 else 0) = (runsOf a.data.toList).length + (runsOf b.data.toList).length := by
  have hj := join_length a.data.toList b.data.toList
  have happ : (a ++ b).data.toList = a.data.toList ++ b.data.toList := by simp
  have la : a.data.toList.length = a.size := by simp
  have lb : b.data.toList.length = b.size := by simp
  rw [happ]
  by_cases ha : a.size = 0
  · left
    have : a.data.toList = [] := List.eq_nil_of_length_eq_zero (by omega)
    rw [this] at hj ⊢
    exact ⟨.inl ha, by simpa using hj⟩
  · by_cases hb : b.size = 0
    · left
      have : b.data.toList = [] := List.eq_nil_of_length_eq_zero (by omega)
      rw [this] at hj ⊢
      exact ⟨.inr hb, by simpa using hj⟩
    · right
      obtain ⟨n, hn⟩ : ∃ n, a.size = n + 1 := ⟨a.size - 1, by omega⟩
      have hna : n < a.size := by omega
      have h0b : 0 < b.size := by omega
      refine ⟨n, a[n], b[0], hn, h0b, fun w => index_at a n _ hna rfl w, fun w => index_at b 0 _ h0b rfl w, ?_⟩
      have e1 : a.data.toList ≠ [] := fun e => by rw [e] at la; simp at la; omega
      have e2 : b.data.toList ≠ [] := fun e => by rw [e] at lb; simp at lb; omega
      have e3 : a.data.toList.getLast? = some a[n] := by
        rw [List.getLast?_eq_getElem?, la, hn, Nat.add_sub_cancel, List.getElem?_eq_getElem (by omega)]; rfl
      have e4 : b.data.toList.head? = some b[0] := by
        rw [List.head?_eq_getElem?, List.getElem?_eq_getElem (by omega)]; rfl
      rw [e3, e4] at hj
      simpa [e1, e2] using hj
set_option maxHeartbeats 2000000 in
theorem walk (w : World) (a : ByteArray) (s0 : a.size ≤ 140737488351232) (b : ByteArray) (s1 : b.size ≤ 140737488351232) :
    Calls Try.prog 4 #[.string a, .string b] w fun e w' => e = .returned (.bool true) ∧ Below w.heap.size w w' := by
  have hab : (a ++ b).size = a.size + b.size := ByteArray.size_append
  have wr0 : IntKind.i64.wrap ((a.size : Int) + (b.size : Int)) = (a.size : Int) + (b.size : Int) := IntWalk.i64_in _ (by omega)
  by_cases ha : a.size ≤ 1000
  · have HA := Lib.hid (fun w' => write_ok a w' ha)
    have hla := runsOf_length_le a.data.toList
    by_cases hb : b.size ≤ 1000
    · have HB := Lib.hid (fun w' => write_ok b w' hb)
      have hlb := runsOf_length_le b.data.toList
      by_cases hs : a.size + b.size ≤ 1000
      · have HC := Lib.hid (fun w' => write_ok (a ++ b) w' (by omega))
        have hlc := runsOf_length_le (a ++ b).data.toList
        have hj := join_cases a b
        have la : a.data.toList.length = a.size := by simp
        have lb : b.data.toList.length = b.size := by simp
        have lc : (a ++ b).data.toList.length = (a ++ b).size := by simp
        rw [la] at hla; rw [lb] at hlb; rw [lc, hab] at hlc
        unfold WRet at HA HB HC
        generalize runsOf a.data.toList = ra at *
        generalize runsOf b.data.toList = rb at *
        generalize runsOf (a ++ b).data.toList = rc at *
        generalize ra.length = na at *
        generalize rb.length = nb at *
        generalize rc.length = nc at *
        have hh1 : ¬ (9223372036854775807 < a.size + b.size) := by omega
        have hsum : ¬ (1000 : Int) < (a.size : Int) + (b.size : Int) := by omega
        have z4 : ¬ (1000 : Int) < (a.size : Int) := by omega
        have z5 : ¬ (1000 : Int) < (b.size : Int) := by omega
        have HJ := Lib.hid hj
        clear hj la lb lc
        go_enter Try.func4, Try.ntmps4
        go_wp2_with fail
        refine (fact_any _).mono ?_
        rintro e w1 ⟨rfl, hb1⟩
        go_wp2_with fail
        refine (HA.out _).mono ?_
        rintro e w2 ⟨A2, c2, rfl, _, hbb⟩
        have hb2 := bnext hb1 hbb
        clear hbb hb1
        go_wp2_with fail
        refine (HB.out _).mono ?_
        rintro e w3 ⟨A3, c3, rfl, _, hbb⟩
        have hb3 := bnext hb2 hbb
        clear hbb hb2
        go_wp2_with fail
        refine (HC.out _).mono ?_
        rintro e w4 ⟨A4, c4, rfl, _, hbb⟩
        have hb4 := bnext hb3 hbb
        clear hbb hb3
        rcases HJ.out with ⟨h0, hnc⟩ | ⟨n, x, y, hn, h0b, q1, q2, hnc⟩
        · by_cases ha0 : a.size = 0
          · have z1 : ((a.size : Nat) : Int) = 0 := by omega
            go_wp2
            go_quiet (fail)
            go_wp2
            go_ret
            exact ⟨ret_bool (by simp <;> omega), bdrew hb4 _⟩
          · have z1 : ((b.size : Nat) : Int) = 0 := by omega
            have z2 : (0 : Int) < (a.size : Int) := by omega
            have z6 : 0 < a.size := by omega
            have z7 : decide ((0 : Int) < (a.size : Int)) = true := decide_eq_true z2
            have z8 : decide (0 < a.size) = true := decide_eq_true z6
            go_wp2
            go_quiet (fail)
            go_wp2
            go_ret
            exact ⟨ret_bool (by simp <;> omega), bdrew hb4 _⟩
        · have z2 : (0 : Int) < (a.size : Int) := by omega
          have z3 : (0 : Int) < (b.size : Int) := by omega
          have z6 : 0 < a.size := by omega
          have z7 : decide ((0 : Int) < (a.size : Int)) = true := decide_eq_true z2
          have z8 : decide (0 < a.size) = true := decide_eq_true z6
          have z9 : decide ((0 : Int) < (b.size : Int)) = true := decide_eq_true z3
          have z10 : decide (0 < b.size) = true := decide_eq_true h0b
          have wr1 : IntKind.i64.wrap ((a.size : Int) - 1) = (n : Int) := by rw [IntWalk.i64_in _ (by omega)]; omega
          by_cases hxy : x = y
          · rw [if_pos hxy] at hnc
            have heq : ((x.toNat : Int) == (y.toNat : Int)) = true := by rw [hxy]; simp
            clear hxy
            go_wp2
            go_quiet (fail)
            go_wp2
            go_ret
            exact ⟨ret_bool (by simp <;> omega), bdrew hb4 _⟩
          · rw [if_neg hxy] at hnc
            have heq : ((x.toNat : Int) == (y.toNat : Int)) = false := by
              have : ¬ x.toNat = y.toNat := fun h => hxy (UInt8.toNat_inj.1 h)
              rw [beq_eq_false_iff_ne]; omega
            clear hxy
            go_wp2
            go_quiet (fail)
            go_wp2
            go_ret
            exact ⟨ret_bool (by simp <;> omega), bdrew hb4 _⟩
      · have hsum : (1000 : Int) < (a.size : Int) + (b.size : Int) := by omega
        go_enter Try.func4, Try.ntmps4
        go_wp2_with fail
        refine (fact_any _).mono ?_
        rintro e w1 ⟨rfl, hb1⟩
        go_wp2_with fail
        refine (HA.out _).mono ?_
        rintro e w2 ⟨A2, c2, rfl, _, hbb⟩
        have hb2 := bnext hb1 hbb
        clear hbb hb1
        go_wp2_with fail
        refine (HB.out _).mono ?_
        rintro e w3 ⟨A3, c3, rfl, _, hbb⟩
        go_wp2
        go_ret
        exact ⟨rfl, bnext hb2 hbb⟩
    · have HB := Lib.hid (fun w' => write_no b w' (by omega))
      go_enter Try.func4, Try.ntmps4
      go_wp2_with fail
      refine (fact_any _).mono ?_
      rintro e w1 ⟨rfl, hb1⟩
      go_wp2_with fail
      refine (HA.out _).mono ?_
      rintro e w2 ⟨A2, c2, rfl, _, hbb⟩
      have hb2 := bnext hb1 hbb
      clear hbb hb1
      go_wp2_with fail
      refine (HB.out _).mono ?_
      rintro e w3 ⟨rfl, hbb⟩
      go_wp2
      go_ret
      exact ⟨rfl, bnext hb2 hbb⟩
  · have HA := Lib.hid (fun w' => write_no a w' (by omega))
    by_cases hb : b.size ≤ 1000
    · have HB := Lib.hid (fun w' => write_ok b w' hb)
      go_enter Try.func4, Try.ntmps4
      go_wp2_with fail
      refine (fact_any _).mono ?_
      rintro e w1 ⟨rfl, hb1⟩
      go_wp2_with fail
      refine (HA.out _).mono ?_
      rintro e w2 ⟨rfl, hbb⟩
      have hb2 := bnext hb1 hbb
      clear hbb hb1
      go_wp2_with fail
      refine (HB.out _).mono ?_
      rintro e w3 ⟨A3, c3, rfl, _, hbb⟩
      go_wp2
      go_ret
      exact ⟨rfl, bnext hb2 hbb⟩
    · have HB := Lib.hid (fun w' => write_no b w' (by omega))
      go_enter Try.func4, Try.ntmps4
      go_wp2_with fail
      refine (fact_any _).mono ?_
      rintro e w1 ⟨rfl, hb1⟩
      go_wp2_with fail
      refine (HA.out _).mono ?_
      rintro e w2 ⟨rfl, hbb⟩
      have hb2 := bnext hb1 hbb
      clear hbb hb1
      go_wp2_with fail
      refine (HB.out _).mono ?_
      rintro e w3 ⟨rfl, hbb⟩
      go_wp2
      go_ret
      exact ⟨rfl, bnext hb2 hbb⟩
end Go.Proofs.Ytcllehdlfalamaa.runsJoin
