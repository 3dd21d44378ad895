/-
  The walks of the references Begins and Stands: whether a text begins with another one; where one stands in another one.
-/
import Derived.Test.YtfjjjkfldekooaaBeg
import Derived.Test.YtfjjjkfldekooaaOwn
namespace Go.Proofs.Ytfjjjkfldekooaa
open Go.RowKit
set_option linter.unusedVariables false

/-- the places, rising, below k -/
def placesTo (s t : List UInt8) (k : Nat) : List Int := ((List.range k).filter fun i => t.isPrefixOf (s.drop i)).map fun (i : Nat) => (i : Int)
def places (s t : List UInt8) : List Int := placesTo s t s.length
theorem placesTo_succ (s t : List UInt8) (k : Nat) : placesTo s t (k + 1) = placesTo s t k ++ if t.isPrefixOf (s.drop k) then [(k : Int)] else [] := by
  unfold placesTo
  rw [List.range_succ, List.filter_append]
  cases h : t.isPrefixOf (s.drop k) <;> simp [h]
theorem placesTo_le (s t : List UInt8) (k : Nat) : (placesTo s t k).length ≤ k := by
  unfold placesTo
  rw [List.length_map]
  exact Nat.le_trans (List.length_filter_le _ _) (by simp)
theorem one_int (n : Int) : ∀ u ∈ [Value.int .i64 n], u.oneCell' = true := by intro u hu; simp at hu; subst hu; rfl

set_option maxHeartbeats 1000000 in
theorem stands_any (s t : ByteArray) (w : World) (hs : s.size ≤ 1000000) (ht : t.size ≤ maxLen) :
    Calls Try.prog 11 #[.string s, .string t] w fun e w' => ∃ A cap, e = .returned (.slice A (places (bs s) (bs t)).length cap) ∧ w'.ownsRow w.heap.size 3 1 (.slice A (places (bs s) (bs t)).length cap) (places (bs s) (bs t)).length (ints (places (bs s) (bs t))) ∧ Below w.heap.size w w' := by
  obtain ⟨i0, hi, hz0, hz1, hz2⟩ := info_parts infoI
  have hL := bs_length s
  have HL := Lib.hid hL; clear hL
  go_enter Try.func11, Try.ntmps11
  go_wp2
  go_loopw [5, 6] (fun v i wr => ∃ k : Nat, k ≤ s.size ∧ i = .int .i64 k ∧ wr.ownsRow w.heap.size 3 1 v (placesTo (bs s) (bs t) k).length (ints (placesTo (bs s) (bs t) k)) ∧ Below w.heap.size w wr) (fun _ i _ => s.size - (intOf i).toNat)
  case atStart => exact ⟨0, Nat.zero_le _, rfl, World.ownsRow_nil _ _ _ _, Below.refl _ _⟩
  case round =>
    obtain ⟨k, hk, rfl, hown, hbel⟩ := hrel
    by_cases hlt : k < s.size
    · have hb : (s.extract k s.size).size ≤ maxLen := by simp [maxLen]; omega
      have hbs := bs_from s k
      have hps := placesTo_succ (bs s) (bs t) k
      have hle := placesTo_le (bs s) (bs t) k
      have HB := Lib.hid hbs; clear hbs
      cases hpre : (bs t).isPrefixOf ((bs s).drop k)
      · rw [hpre, if_neg (by simp), List.append_nil] at hps
        have HS := Lib.hid hps; have HP := Lib.hid hpre; have HO := Lib.hid hown; clear hps hpre hown
        go_wp2_with (go_at_call 32; refine (begins_any _ t _ hb ht).mono ?_; rw [HB.out, HP.out]; rintro e w' ⟨rfl, rfl⟩)
        go_roundw
        case rel => exact ⟨k + 1, by omega, by go_num, by rw [HS.out]; exact HO.out, hbel⟩
        case measure => simp [intOf]; omega
      · rw [hpre, if_pos rfl] at hps
        have HS := Lib.hid hps; have HP := Lib.hid hpre; clear hps hpre
        go_wp2_with (first
          | (go_at_call 32; refine (begins_any _ t _ hb ht).mono ?_; rw [HB.out, HP.out]; rintro e w' ⟨rfl, rfl⟩)
          | (at_builtin; go_must (refine append_own _ rfl _ _ 30 rfl w.heap.size 3 i0 _ 1 8 Try.underlying30 hi hz0 hz1 hz2 rfl (by decide) _ _ _ rfl (hown.alloc _) ⟨wr.heap.size, 0, none⟩ 1 1 [.int .i64 (k : Int)] rfl rfl (cell_one_new _ _ _) (one_int _) (by unfold maxLen; omega) (by omega) (by have := hbel.size; simp; omega) (by decide) ?_); intro g1 cap1 w1 hown1 hg1 hg1' hgrow1))
        go_roundw
        case rel =>
          refine ⟨k + 1, by omega, by go_num, ?_, (bmore hbel _).grown hgrow1 (by have := hbel.size; simp; omega) (fun j hj => (hown.lt j hj).1)⟩
          rw [HS.out]
          simpa [ints] using hown1
        case measure => simp [intOf]; omega
    · have hge : s.size ≤ k := by omega
      obtain rfl : k = s.size := by omega
      have HO := Lib.hid hown; clear hown
      go_wp2
      go_ret
      have ho := HO.out
      have e1 : placesTo (bs s) (bs t) s.size = places (bs s) (bs t) := by rw [← HL.out]; rfl
      rw [e1] at ho
      obtain ⟨A, cap, e⟩ := own_slice ho
      rw [e] at ho
      rw [e]
      exact ⟨A, cap, rfl, ho, hbel⟩
end Go.Proofs.Ytfjjjkfldekooaa
