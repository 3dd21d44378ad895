/-
  The walk of common.Long.
-/
import Derived.Test.YtjlgjadkcpdpmaaDoorCoTable
import Derived.Deep.RegionHeld3
namespace Go.Proofs.YtjlgjadkcpdpmaaDoor.Co
open Go.RowKit
set_option linter.unusedVariables false

theorem Tab.belowX {w w' : World} {G X : Nat} {a b : List UInt8} (h : Tab w G a b 0 0) (hb : Below X w w') (hX : G + 1 + a.length < X) : Tab w' G a b 0 0 := by
  obtain ⟨h1, h2, h3⟩ := h
  have h3 := h3 (Nat.zero_le _)
  refine ⟨?_, ?_, fun _ => Nat.lt_of_lt_of_le h3 hb.size⟩
  · obtain ⟨l, k1, k2, k3⟩ := h1
    exact ⟨l, k1.below hb (by omega), k2, k3⟩
  · intro i' g1 g2
    obtain ⟨r, k1, k2, k3⟩ := h2 i' g1 g2
    exact ⟨r, k1.below hb (by omega), k2, k3⟩
theorem Tab.below {w w' : World} {G : Nat} {a b : List UInt8} (h : Tab w G a b 0 0) (hb : Below w.heap.size w w') : Tab w' G a b 0 0 :=
  h.belowX hb (by have := h.size (Nat.zero_le _); omega)

theorem long_no (a b : ByteArray) (w : World) (h : ¬ (a.size ≤ 24 ∧ b.size ≤ 24)) :
    Calls Tryd.prog 7 #[.string a, .string b] w fun e w' => e = .returned (.tuple #[.int .i64 0, .iface 39 (.int .i64 4)]) ∧ Below w.heap.size w w' := by
  go_enter Tryd.func7, Tryd.ntmps7
  go_wp2_with (go_at_call 17; refine (long2_no a b w.heap.size 24 _ (by simp) (by simp) (by omega)).mono ?_; rintro e w' ⟨rfl, rfl⟩)
  go_ret2
  exact ⟨rfl, bnew _ _⟩

set_option maxHeartbeats 2000000 in
theorem long_ok (a b : ByteArray) (w : World) (ha : a.size ≤ 24) (hb : b.size ≤ 24) :
    Calls Tryd.prog 7 #[.string a, .string b] w fun e w' => e = .returned (.tuple #[.int .i64 (lcs (bs a) (bs b) : Int), .nilIface]) ∧ Below w.heap.size w w' := by
  obtain ⟨L, hLL⟩ : ∃ L, L = lcs (bs a) (bs b) := ⟨_, rfl⟩
  rw [← hLL]
  have HLL := Lib.hid hLL
  clear hLL
  go_enter Tryd.func7, Tryd.ntmps7
  go_wp2_with (go_at_call 17; refine (long2_ok a b w.heap.size 24 _ (by simp) (by simp) (by omega) (by omega)).mono ?_; rintro e w' ⟨rfl, rfl⟩)
  refine (table_ok a b _ ha hb).mono ?_
  rintro e w1 ⟨G, rfl, hG, hT, hb1⟩
  have hL : (bs a).length = a.size := bs_length a
  have hM : (bs b).length = b.size := bs_length b
  have sl0 := hT.slice (i' := 0) (Nat.le_refl _) (by omega)
  have n0 := hT.num (i' := 0) (j' := 0) (Nat.le_refl _) (by omega) (.inr (Nat.le_refl _)) (by omega)
  unfold rowAt at sl0
  rw [hL, hM] at sl0
  rw [hL] at n0
  simp only [List.drop_zero] at n0
  rw [← HLL.out] at n0
  clear hT hL hM
  have p1 : (0 : Int) < (a.size : Int) + 1 := by omega
  have p2 : (0 : Int) < (b.size : Int) + 1 := by omega
  generalize G + 1 + (a.size - 0) = B1 at *
  go_wp2
  go_ret2
  exact ⟨rfl, bnext (bnew _ _) hb1⟩
end Go.Proofs.YtjlgjadkcpdpmaaDoor.Co
