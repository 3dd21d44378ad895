/-
  What the laws of package runs share: contracts in closed forms, the fact, 'in'.
-/
import Derived.Test.YtcllehdlfalamaaRnRead
namespace Go.Proofs.Ytcllehdlfalamaa.Rn
open Go.RowKit
set_option linter.unusedVariables false

theorem in_any (n lo hi : Int) (w : World) : Calls Try.prog 11 #[.int .i64 n, .int .i64 lo, .int .i64 hi] w fun e w' => e = .returned (.bool (decide (lo ≤ n ∧ n ≤ hi))) ∧ w = w' := by
  by_cases h1 : lo ≤ n <;> by_cases h2 : n ≤ hi
  all_goals
    go_enter Try.func11, Try.ntmps11
    go_wp2
    go_ret
    exact ⟨by simp [h1, h2], rfl⟩
theorem strV_self (s : ByteArray) : strV s.data.toList = .string s := by simp [strV]
theorem wf_ofN (s : List UInt8) (h : s.length ≤ 1000) : ∀ p ∈ ofN (runsOf s), Wf p := by
  intro p hp
  obtain ⟨q, hq, rfl⟩ := List.mem_map.1 hp
  have := le_total hq
  rw [total_runsOf] at this
  constructor <;> simp only <;> omega
/-- Read of what Write gave -/
theorem read_back (A : Option Addr) (cap n : Nat) (s : ByteArray) (hs : s.size ≤ 1000) (hn : (runsOf s.data.toList).length = n) (w : World) (hr : Reads w A n 2 (rcells (ofN (runsOf s.data.toList)))) :
    Calls Try.prog 8 #[.slice A n cap] w fun e w' => e = .returned (.tuple #[.string s, .nilIface]) ∧ Below w.heap.size w w' := by
  have hlen : s.data.toList.length ≤ 1000 := by simpa using hs
  have h1 := runsOf_length_le s.data.toList
  have h := read_any A cap (ofN (runsOf s.data.toList)) w (by rw [ofN_length, hn]; exact hr) (by rw [ofN_length]; unfold maxLen; omega) (wf_ofN _ hlen)
  rw [ofN_length, hn, read_runs _ hlen, strV_self] at h
  exact h
theorem write_aab (w : World) : Calls Try.prog 7 #[.string ⟨#[97, 97, 98]⟩] w fun e w' => ∃ A cap, e = .returned (.tuple #[.slice A 2 cap, .nilIface]) ∧ w'.ownsRow w.heap.size 35 2 (.slice A 2 cap) 2 (rcells [(97, 2), (98, 1)]) ∧ Below w.heap.size w w' := by
  have h := write_ok ⟨#[97, 97, 98]⟩ w (by decide)
  have e : runsOf [97, 97, 98] = [(97, 2), (98, 1)] := by decide
  unfold WRet at h
  simp only [e] at h
  exact h
theorem read_xxx (w : World) (A : Option Addr) (cap : Nat) (hr : Reads w A 1 2 (rcells [(120, 3)])) :
    Calls Try.prog 8 #[.slice A 1 cap] w fun e w' => e = .returned (.tuple #[.string ⟨#[120, 120, 120]⟩, .nilIface]) ∧ Below w.heap.size w w' := by
  have h := read_any A cap [(120, 3)] w hr (by decide) (by simp [Wf])
  have e : rd none [] [(120, 3)] = ([120, 120, 120], 0) := by decide +kernel
  rw [e] at h
  exact h
theorem same_eq (A B : Option Addr) (c d n : Nat) (l : List Z) (hn : l.length = n) (w : World) (hl : Reads w A n 2 (rcells l)) (hm : Reads w B n 2 (rcells l)) (h1 : n ≤ maxLen) (w1 : ∀ p ∈ l, Wf p) :
    Calls Try.prog 9 #[.slice A n c, .slice B n d] w fun e w' => e = .returned (.bool true) ∧ Below w.heap.size w w' := by
  subst hn
  have := same_any A B c d l l w hl hm h1 w1 w1
  simpa using this
theorem fact_any (w : World) : Calls Try.prog 6 #[] w fun e w' => e = .returned (.bool true) ∧ Below w.heap.size w w' := by
  go_enter Try.func6, Try.ntmps6
  go_wp2_with fail
  refine (write_aab _).mono ?_
  rintro e w1 ⟨A, cap, rfl, hown, hb⟩
  go_wp2_with fail
  refine (read_xxx _ _ _ (reads_new w1 35 (rcells [(120, 3)]) 1 2 rfl)).mono ?_
  rintro e w2 ⟨rfl, hb2⟩
  have hb3 : Below w1.heap.size w1 w2 := bnext (bnew w1 _) hb2
  go_wp2_with fail
  refine (same_eq _ _ _ _ 2 [(97, 2), (98, 1)] rfl _ (((Reads.of_own hown).below hb3).below (bnew _ _)) (reads_new w2 35 (rcells [(97, 2), (98, 1)]) 2 2 rfl) (by decide) (by simp [Wf])).mono ?_
  rintro e w4 ⟨rfl, hb4⟩
  go_wp2_with fail
  go_ret
  exact ⟨rfl, bnext (bnext hb hb3) (bnext (bnew _ _) hb4)⟩
end Go.Proofs.Ytcllehdlfalamaa.Rn
