/-
  The walks of turn.Same and of the reference's Turn; a turn stands in the text written twice.
-/
import Derived.Test.YtfjjjkfldekooaaCont
import Derived.Test.YtfjjjkfldekooaaBlk
import Derived.Test.YtfjjjkfldekooaaWhLaw
import Derived.Lib.IndexMore
namespace Go.Proofs.Ytfjjjkfldekooaa
open Go.RowKit
set_option linter.unusedVariables false
set_option linter.unusedSimpArgs false

theorem index_occ : ∀ (s sub : List UInt8) (i : Nat), i ≤ s.length → sub.isPrefixOf (s.drop i) = true → 0 ≤ Lib.index s sub
  | [], sub, i, _, h => by
    cases sub with
    | nil => decide
    | cons a t => simp at h
  | b :: l, sub, 0, _, h => by
    unfold Lib.index
    rw [if_pos (by simpa using h)]
    decide
  | b :: l, sub, i + 1, hi, h => by
    have ih := index_occ l sub i (by simpa using hi) (by simpa using h)
    unfold Lib.index
    split
    · decide
    · split
      · rename_i h2
        have : Lib.index l sub = -1 := by simpa using h2
        omega
      · omega
theorem turn_stands (x : List UInt8) (i : Nat) (hi : i ≤ x.length) : Lib.contains (rotL x i ++ rotL x i) x = true := by
  unfold Lib.contains
  refine decide_eq_true (index_occ _ _ (x.length - i) (by simp [rotL_length]; omega) ?_)
  have h : (rotL x i ++ rotL x i).drop (x.length - i) = x ++ x.take i := by
    unfold rotL
    rw [List.append_assoc, List.drop_append_of_le_length (by simp), List.drop_of_length_le (by simp), List.nil_append, ← List.append_assoc, List.take_append_drop]
  rw [h]
  exact List.isPrefixOf_iff_prefix.2 (List.prefix_append _ _)

set_option maxHeartbeats 1000000 in
theorem refturn_any (s : ByteArray) (i : Nat) (w : World) (hi : i ≤ s.size) (hs : s.size ≤ 1000000) :
    Calls Try.prog 13 #[.string s, .int .i64 (i : Int)] w fun e w' => e = .returned (.string (trn s i)) ∧ ∃ q, w' = w.drewN q := by
  have k1 : (i : Int) ≤ (s.size : Int) := by omega
  have k2 : 0 ≤ (i : Int) := by omega
  have k3 : ¬ 9223372036854775807 < s.size := by omega
  have k4 : ¬ 9223372036854775807 < s.size - i + min i s.size := by omega
  have k5 : ¬ 9223372036854775807 < s.size - i + i := by omega
  have k6 : min i s.size = i := by omega
  obtain ⟨u, hu⟩ : ∃ u, u = trn s i := ⟨_, rfl⟩
  have HU := Lib.hid hu
  rw [← hu]
  clear hu
  go_enter Try.func13, Try.ntmps13
  go_wp2
  go_quiet (fail)
  go_wp2
  go_ret
  exact ⟨by rw [HU.out]; rfl, _, rfl⟩

set_option maxHeartbeats 1000000 in
theorem same_any (a b : ByteArray) (m : Int) (w : World) (ha : a.size ≤ 24) (hb : b.size = a.size) (hm : w.cell? ⟨0, 0, none⟩ = some (.int .i64 m)) :
    Calls Try.prog 14 #[.string a, .string b] w fun e w' => e = .returned (.tuple #[.bool (Lib.contains (bs a ++ bs a) (bs b)), .nilIface]) ∧ Below w.heap.size w w' := by
  have ka : (a.size : Int) ≤ 24 := by omega
  have kb : (b.size : Int) ≤ 24 := by omega
  have hab : (a.size : Int) = (b.size : Int) := by omega
  have k3 : ¬ 9223372036854775807 < a.size + a.size := by omega
  have hbs : (a ++ a).data.toList = bs a ++ bs a := bs_app a a
  have hlt : 0 < w.heap.size := by
    refine Nat.pos_of_ne_zero fun e => ?_
    unfold World.cell? at hm
    rw [Array.getElem?_eq_none (by omega)] at hm
    cases hm
  have hb0 := bnew w (.cells #[.string a, .string b] 9)
  have hm2 := (hb0.cell (p := ⟨0, 0, none⟩) hlt).trans hm
  have HC := Lib.hid (Try.strings_Contains (a ++ a) b m (w.alloc (.cells #[.string a, .string b] 9)) (by rw [ByteArray.size_append]; omega) hm2)
  obtain ⟨r, hr⟩ : ∃ r, r = Lib.contains (a ++ a).data.toList b.data.toList := ⟨_, rfl⟩
  rw [← hr] at HC
  have HR := Lib.hid (show Lib.contains (bs a ++ bs a) (bs b) = r by rw [hr, hbs]; rfl)
  have HB0 := Lib.hid hb0
  clear hm hm2 hbs hr hb0 hb
  go_enter Try.func14, Try.ntmps14
  go_wp2_with fail
  refine (long2_ok a b _ 24 _ (by simp) (by simp) ka kb).mono ?_
  rintro e w1 ⟨rfl, rfl⟩
  go_wp2_with (go_at_call 33; refine HC.out.mono ?_; rintro e w2 ⟨rfl, rfl⟩)
  go_ret2
  exact ⟨by rw [HR.out]; rfl, HB0.out⟩
end Go.Proofs.Ytfjjjkfldekooaa
