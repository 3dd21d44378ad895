/-
  The walk of the law RunsBack: for every text and every runs; no condition.
-/
import Derived.Test.YtcllehdlfalamaaRnLaw
namespace Go.Proofs.Ytcllehdlfalamaa.runsBack
open Go.RowKit Rn
set_option linter.unusedVariables false
set_option maxHeartbeats 1000000 in
theorem walk (w : World) (s : ByteArray) (s0 : s.size ≤ 140737488351232) (A : Option Addr) (cap : Nat) (l : List Z) (hs : l.length * 16 ≤ 140737488351232) (hwf : ∀ q ∈ l, Wf q) (hi : Reads w A l.length 2 (rcells l) ∧ l.length ≤ cap) :
    Calls Try.prog 3 #[.string s, .slice A l.length cap] w fun e w' => e = .returned (.bool true) ∧ Below w.heap.size w w' := by
  obtain ⟨hr, hcap⟩ := hi
  have hm : l.length ≤ maxLen := by unfold maxLen; omega
  have HR := Lib.hid (fun (w' : World) (hb : Below w.heap.size w w') => hr.below hb)
  have HRD := Lib.hid (fun (w' : World) (hb : Below w.heap.size w w') => read_any A cap l w' (hr.below hb) hm hwf)
  have HWF := Lib.hid hwf
  clear hr hwf
  by_cases hs1 : s.size ≤ 1000
  case' pos =>
    have HW := Lib.hid (fun w' => write_ok s w' hs1)
    have HB := Lib.hid (fun A' c' w' => read_back A' c' _ s hs1 rfl w')
    go_enter Try.func3, Try.ntmps3
    go_wp2_with fail
    refine (fact_any _).mono ?_
    rintro e w1 ⟨rfl, hb1⟩
    go_wp2_with fail
    refine (HW.out _).mono ?_
    rintro e w2 ⟨A2, c2, rfl, hown, hb⟩
    have hb2 := bnext hb1 hb
    have hr2 := Reads.of_own hown
    clear hb hown hb1
    go_wp2_with fail
    refine (HB.out _ _ _ hr2).mono ?_
    rintro e w5 ⟨rfl, hb⟩
    have hb5 := bnext hb2 hb
    clear hb hb2 hr2
  case' neg =>
    have HW := Lib.hid (fun w' => write_no s w' (by omega))
    go_enter Try.func3, Try.ntmps3
    go_wp2_with fail
    refine (fact_any _).mono ?_
    rintro e w1 ⟨rfl, hb1⟩
    go_wp2_with fail
    refine (HW.out _).mono ?_
    rintro e w5 ⟨rfl, hb⟩
    have hb5 := bnext hb1 hb
    clear hb hb1
  all_goals
    have HB5 := Lib.hid (HRD.out _ hb5)
    clear HRD
    by_cases hz : (rd none [] l).2 = 0
    · obtain ⟨e1, e2⟩ := runs_read l hz
      have hz' : errV (rd none [] l).2 = .nilIface := by unfold errV; rw [if_pos hz]
      rw [hz'] at HB5
      have hsz : (⟨(rd none [] l).1.toArray⟩ : ByteArray).size ≤ 1000 := by show (rd none [] l).1.toArray.size ≤ _; simpa using e2
      have hW2 := fun w' => write_ok ⟨(rd none [] l).1.toArray⟩ w' hsz
      unfold WRet at hW2
      have hln : (runsOf (rd none [] l).1).length = l.length := by
        have := congrArg List.length e1
        rwa [ofN_length] at this
      have e3 : (⟨(rd none [] l).1.toArray⟩ : ByteArray).data.toList = (rd none [] l).1 := by simp
      simp only [e1, hln] at hW2
      have HW2 := Lib.hid hW2
      generalize (rd none [] l).1 = t at *
      unfold strV at HB5
      clear hz hz' e1 e2 e3 hW2 hln hsz
      go_wp2_with fail
      refine HB5.out.mono ?_
      rintro e w6 ⟨rfl, hb⟩
      have hb6 := bnext hb5 hb
      clear hb
      go_wp2_with fail
      refine (HW2.out _).mono ?_
      rintro e w7 ⟨A7, c7, rfl, hown, hb⟩
      have hb7 := bnext hb6 hb
      have hr7 := Reads.of_own hown
      clear hb hown
      go_wp2_with fail
      refine (same_eq _ _ _ _ _ l rfl _ hr7 (HR.out _ hb7) hm HWF.out).mono ?_
      rintro e w8 ⟨rfl, hb⟩
      go_wp2
      go_ret
      exact ⟨rfl, bnext hb7 hb⟩
    · have hz' : errV (rd none [] l).2 = .iface 43 (.int .i64 (rd none [] l).2) := by unfold errV; rw [if_neg hz]
      rw [hz', rd_bad l _ _ hz] at HB5
      unfold strV at HB5
      clear hz hz'
      generalize (rd none [] l).2 = E at *
      go_wp2_with fail
      refine HB5.out.mono ?_
      rintro e w6 ⟨rfl, hb⟩
      go_wp2
      go_ret
      exact ⟨rfl, bnext hb5 hb⟩
end Go.Proofs.Ytcllehdlfalamaa.runsBack
