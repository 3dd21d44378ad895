/-
  The walk of turn.Root: the whole length, or a period that divides it.
-/
import Derived.Test.YtkmhiomjnbdmoaaEgWalk
import Derived.Lib.Strings
namespace Go.Proofs.Ytkmhiomjnbdmoaa.Mo
open Go.RowKit
set_option linter.unusedVariables false

def RootOf (s : List UInt8) (n k : Nat) : Prop := 1 ≤ k ∧ k ≤ n ∧ (k = n ∨ ∃ d, Edge s n d ∧ k = n - d ∧ n % k = 0)

set_option maxHeartbeats 2000000 in
set_option maxRecDepth 100000 in
theorem root_any (s : ByteArray) (w : World) (hs : s.size ≤ 24) (h0 : 0 < s.size) :
    Calls Try.prog 9 #[.string s] w fun e w' => ∃ k : Nat, e = .returned (.tuple #[.int .i64 (k : Int), .nilIface]) ∧ RootOf s.data.toList s.size k ∧ Below w.heap.size w w' := by
  have HED := Lib.hid (fun w => edges_any s w hs)
  have hem : s.toList.isEmpty = false := by
    rw [Lib.toList_data]
    have : s.data.toList.length = s.size := by simp
    cases h : s.data.toList with
    | nil => rw [h] at this; simp at this; omega
    | cons a l => rfl
  obtain ⟨m, hm⟩ : ∃ m, s.size = m + 1 := ⟨s.size - 1, by omega⟩
  have HM := Lib.hid hm
  have hm1 : (s.size : Int) - 1 = (m : Int) := by omega
  have wr0 : IntKind.i64.wrap (m : Int) = (m : Int) := IntWalk.i64_in _ (by omega)
  have b0 : (m : Int) < (s.size : Int) := by omega
  have b00 : (0 : Int) ≤ (m : Int) := by omega
  clear hm
  go_enter Try.func9, Try.ntmps9
  go_wp2_with fail
  refine (HED.out _).mono ?_
  rintro e w1 ⟨g, l, rfl, hrel⟩
  obtain ⟨d, hd, hed⟩ := hrel.edge m (by have := HM.out; omega) (by have := HM.out; omega)
  have c0 := hrel.blk.cell hd
  rw [← HM.out] at hed
  have hds := hed.1
  obtain ⟨k, hk⟩ : ∃ k, s.size = k + d := ⟨s.size - d, by omega⟩
  have hk1 : (s.size : Int) - (d : Int) = (k : Int) := by omega
  have wr1 : IntKind.i64.wrap (k : Int) = (k : Int) := IntWalk.i64_in _ (by omega)
  have hk0 : ¬ (k : Int) = 0 := by omega
  have hkn : ¬ k = 0 := by omega
  have hmod : (s.size : Int).tmod (k : Int) = ((s.size % k : Nat) : Int) := by rw [Int.ofNat_tmod]
  have wr2 : IntKind.i64.wrap ((s.size % k : Nat) : Int) = ((s.size % k : Nat) : Int) := IntWalk.i64_in _ (by have := Nat.mod_lt s.size (show 0 < k by omega); omega)
  have HE := Lib.hid hed; have HK := Lib.hid hk; have HB := Lib.hid hrel.below
  have HS := Lib.hid h0
  clear hed hk hrel hd hds
  by_cases hz : s.size % k = 0
  · have hz' : ((s.size % k : Nat) : Int) = 0 := by omega
    have HZ := Lib.hid hz
    go_wp2
    go_ret2
    exact ⟨k, rfl, ⟨by omega, by have := HK.out; omega, .inr ⟨d, HE.out, by have := HK.out; omega, HZ.out⟩⟩, HB.out⟩
  · have hz' : ¬ ((s.size % k : Nat) : Int) = 0 := by omega
    go_wp2
    go_ret2
    exact ⟨s.size, rfl, ⟨HS.out, Nat.le_refl _, .inl rfl⟩, HB.out⟩
end Go.Proofs.Ytkmhiomjnbdmoaa.Mo
