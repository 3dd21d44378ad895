/-
  core.Ends: the iterator over the ends of a text, and its contract.
-/
import Derived.Test.YtfjjjkfldekooaaBase
import Derived.Test.YtfjjjkfldekooaaRound
import Derived.TacticsInMore
import Derived.LoopNIn
import Derived.LoopIn
namespace Go.Proofs.Ytfjjjkfldekooaa
open Go.RowKit Go.Shelf
set_option linter.unusedVariables false
set_option linter.unusedSimpArgs false
attribute [local go_sem] Oper.semAt_some

/-- core.Ends hands back the iterator, bound to a box with the text. -/
theorem ends_any (s : ByteArray) (w : World) :
    Calls Try.prog 24 #[.string s] w fun e w' => e = .returned (.func (.func 47) #[] #[.pointer (some ⟨w.heap.size, 0, none⟩)]) ∧ w' = w.alloc (.cells #[.string s] 9) := by
  go_enter Try.func24, Try.ntmps24
  go_wp2
  go_ret
  exact ⟨rfl, rfl⟩

theorem fin_take (n k : Nat) (h : k < n) : (List.finRange n).take (k + 1) = (List.finRange n).take k ++ [⟨k, h⟩] := by
  rw [List.take_add_one, List.getElem?_eq_getElem (by simpa using h), List.getElem_finRange]
  simp
theorem fin_take_length (n k : Nat) (h : k ≤ n) : ((List.finRange n).take k).length = k := by simp; omega

set_option maxRecDepth 100000 in
set_option maxHeartbeats 1000000 in
theorem ends1_in (F : Fence) (n : Nat) (hf : F.fn 47) (hro : F.round = none) (hn : 1 ≤ n) (l bE : Nat) (s : ByteArray) (hs : s.size ≤ 1000) (J Jx : List (Fin s.size) → World → Prop)
    (hY : ∀ pre (x : Fin s.size) W, J pre W → pre.length < s.size → YieldAt F (n - 1) Try.prog l #[.int .i64 (x.val : Int), .string (s.extract x.val s.size)] W fun e W' =>
      (e = .returned (.bool true) ∧ J (pre ++ [x]) W' ∧ W'.heap[bE]? = W.heap[bE]?) ∨ (e = .returned (.bool false) ∧ Jx (pre ++ [x]) W'))
    (W : World) (hB : W.heap[bE]? = some (.cells #[.string s] 9 (0, 0))) (h0 : J [] W) :
    CallsIn F n Try.prog 47 #[.func (.yield l) #[] #[], .pointer (some ⟨bE, 0, none⟩)] W fun e W' => (∃ v, e = .returned v) ∧
      ((∃ ys, ys = List.finRange s.size ∧ J ys W') ∨ (∃ pre, True ∧ Jx pre W')) := by
  refine callsIn_of_wp Try.func47 rfl hf ?_ hro
  simp only [Try.ntmps47, List.size_toArray, List.length_cons, List.length_nil, Nat.reduceAdd, Nat.reduceSub, Array.replicate_succ, Array.replicate_zero, List.push_toArray, List.append_toArray, List.nil_append, List.cons_append]
  have c0 : W.cell? ⟨bE, 0, none⟩ = some (.string s) := by unfold World.cell?; rw [hB]; rfl
  gi_wp2
  gi_loopw [3, 6] (fun _ iv wr => ∃ k : Nat, k ≤ s.size ∧ iv = .int .i64 (k : Int) ∧ J ((List.finRange s.size).take k) wr ∧ wr.heap[bE]? = some (.cells #[.string s] 9 (0, 0))) (fun _ iv _ => s.size - (intOf iv).toNat)
  case atStart => exact ⟨0, Nat.zero_le _, rfl, h0, hB⟩
  case round =>
    clear c0
    obtain ⟨k, hk, rfl, hJs, hBr⟩ := hrel
    have c0 : wr.cell? ⟨bE, 0, none⟩ = some (.string s) := by unfold World.cell?; rw [hBr]; rfl
    by_cases hlt : k < s.size
    · obtain ⟨fn, tmps, assign, body, hy, hR⟩ := hY _ ⟨k, hlt⟩ wr hJs (by rw [fin_take_length _ _ hk]; exact hlt)
      dsimp only at hy
      have kk : (k : Int) < (s.size : Int) := by omega
      gi_wp2
      refine hR.mono ?_
      rintro e W3 (⟨rfl, hJ3, hk3⟩ | ⟨rfl, hJx3⟩)
      · gi_wp2
        go_roundw
        case rel => exact ⟨k + 1, by omega, by simp, by rw [fin_take _ _ hlt]; exact hJ3, hk3.trans hBr⟩
        case measure => simp [intOf]; omega
      · gi_wp2
        refine bodyPost_ret (results_none rfl _ _ _) rfl ?_
        exact ⟨⟨_, rfl⟩, .inr ⟨_, trivial, hJx3⟩⟩
    · obtain rfl : k = s.size := by omega
      gi_wp2
      go_end0
      exact ⟨⟨_, rfl⟩, .inl ⟨_, rfl, by rw [← List.take_of_length_le (l := List.finRange s.size) (i := s.size) (by simp)]; exact hJs⟩⟩
end Go.Proofs.Ytfjjjkfldekooaa
