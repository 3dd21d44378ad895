/-
  The walk of common.Within.
-/
import Derived.Test.YtjlgjadkcpdpmaaDoorCoPlain
import Derived.Test.YtjlgjadkcpdpmaaDoorBlk
namespace Go.Proofs.YtjlgjadkcpdpmaaDoor.Co
open Go.RowKit
set_option linter.unusedVariables false

def bs (s : ByteArray) : List UInt8 := s.data.toList
theorem bs_length (s : ByteArray) : (bs s).length = s.size := by simp [bs]
theorem bs_drop (s : ByteArray) (k : Nat) (h : k < s.size) : (bs s).drop k = s[k] :: (bs s).drop (k + 1) := by
  have hl : k < (bs s).length := by rw [bs_length]; exact h
  rw [List.drop_eq_getElem_cons hl]
  rfl
theorem index_at (s : ByteArray) (K : Nat) (z : UInt8) (h : K < s.size) (hz : s[K] = z) (w : World) : (Instr.index 9 (.string s) (.int .i64 (K : Int))).run Tryd.prog w = .ok (.int .u8 (z.toNat : Int)) w := by
  rw [run_index_string w _ s _ _ Tryd.underlying9, dif_pos ⟨by omega, by omega⟩]
  subst hz
  simp

theorem within_no (a b : ByteArray) (w : World) (h : ¬ (a.size ≤ 24 ∧ b.size ≤ 24)) :
    Calls Tryd.prog 10 #[.string a, .string b] w fun e w' => e = .returned (.tuple #[.bool false, .iface 39 (.int .i64 4)]) ∧ Below w.heap.size w w' := by
  go_enter Tryd.func10, Tryd.ntmps10
  go_wp2_with (go_at_call 17; refine (long2_no a b w.heap.size 24 _ (by simp) (by simp) (by omega)).mono ?_; rintro e w' ⟨rfl, rfl⟩)
  go_ret2
  exact ⟨rfl, bnew _ _⟩

set_option maxHeartbeats 2000000 in
theorem within_ok (a b : ByteArray) (w : World) (ha : a.size ≤ 24) (hb : b.size ≤ 24) :
    Calls Tryd.prog 10 #[.string a, .string b] w fun e w' => e = .returned (.tuple #[.bool (gr (bs a) (bs b)).isEmpty, .nilIface]) ∧ Below w.heap.size w w' := by
  obtain ⟨r, hr⟩ : ∃ r, r = gr (bs a) (bs b) := ⟨_, rfl⟩
  rw [← hr]
  have HR := Lib.hid hr
  clear hr
  go_enter Tryd.func10, Tryd.ntmps10
  go_wp2_with (go_at_call 17; refine (long2_ok a b w.heap.size 24 _ (by simp) (by simp) (by omega) (by omega)).mono ?_; rintro e w' ⟨rfl, rfl⟩)
  go_loopw [7, 18] (fun k i wr => ∃ K I : Nat, k = .int .i64 K ∧ i = .int .i64 I ∧ K ≤ a.size ∧ I ≤ b.size ∧ gr ((bs a).drop K) ((bs b).drop I) = r ∧ Below w.heap.size w wr) (fun _ i _ => b.size - (intOf i).toNat)
  case atStart => exact ⟨0, 0, rfl, rfl, by omega, by omega, by simp [HR.out], bnew _ _⟩
  case round =>
    obtain ⟨K, I, rfl, rfl, hK, hI, hg, hbel⟩ := hrel
    by_cases hlt : I < b.size
    · rw [bs_drop b I hlt] at hg
      have q2 := index_at b I _ hlt rfl
      by_cases hk : K < a.size
      · have hd := bs_drop a K hk
        rw [hd, gr_cons] at hg
        have q1 := index_at a K _ hk rfl
        have g1 : (K : Int) < (a.size : Int) := by omega
        generalize a[K] = x at *
        generalize b[I] = y at *
        by_cases hxy : x = y
        · rw [if_pos hxy] at hg
          subst hxy
          have HG := Lib.hid hg
          clear hg hd
          go_wp2
          go_quiet (fail)
          go_wp2
          go_roundw
          case rel => exact ⟨K + 1, I + 1, by go_num, by go_num, by omega, by omega, HG.out, bdrew hbel _⟩
          case measure => simp [intOf]; omega
        · rw [if_neg hxy, ← hd] at hg
          have hne : ¬ (x.toNat = y.toNat) := fun h => hxy (UInt8.toNat_inj.1 h)
          have r1 : ((x.toNat : Int) == (y.toNat : Int)) = false := by rw [beq_eq_false_iff_ne]; intro h; exact hne (by omega)
          have HG := Lib.hid hg
          clear hg hxy hd
          go_wp2
          go_quiet (fail)
          go_wp2
          go_roundw
          case rel => exact ⟨K, I + 1, rfl, by go_num, by omega, by omega, HG.out, bdrew hbel _⟩
          case measure => simp [intOf]; omega
      · have e : (bs a).drop K = [] := List.drop_eq_nil_of_le (by rw [bs_length]; omega)
        rw [e, gr_nil] at hg
        have g1 : decide ((K : Int) < (a.size : Int)) = false := decide_eq_false (by omega)
        have HG := Lib.hid hg
        have HE := Lib.hid e
        clear hg e
        go_wp2
        go_quiet (fail)
        go_wp2
        go_roundw
        case rel => exact ⟨K, I + 1, rfl, by go_num, by omega, by omega, by rw [HE.out, gr_nil]; exact HG.out, bdrew hbel _⟩
        case measure => simp [intOf]; omega
    · have e : (bs b).drop I = [] := List.drop_eq_nil_of_le (by rw [bs_length]; omega)
      have hg' : (bs a).drop K = r := by
        rw [e] at hg
        exact hg
      have hres : r.isEmpty = decide ((K : Int) = (a.size : Int)) := by
        rw [← hg', Bool.eq_iff_iff, List.isEmpty_iff, List.drop_eq_nil_iff, bs_length, decide_eq_true_iff]
        omega
      have HS := Lib.hid hres
      clear hg hg' e hres
      by_cases hk : K < a.size
      · go_wp2
        go_ret2
        refine ⟨?_, hbel⟩
        rw [HS.out, decide_eq_false (by omega)]
        first | rfl | (simp; omega)
      · go_wp2
        go_ret2
        refine ⟨?_, hbel⟩
        rw [HS.out, decide_eq_true (by omega)]
        first | rfl | (simp; omega)
end Go.Proofs.YtjlgjadkcpdpmaaDoor.Co
