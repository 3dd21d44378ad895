/-
  The walk of the law WheelBytes, for every text; no condition.
-/
import Derived.Test.YtfjjjkfldekooaaWhFact
import Derived.Test.YtfjjjkfldekooaaStd
import Derived.Deep.RegionLaw
import Derived.Deep.RegionHeld3
namespace Go.Proofs.Ytfjjjkfldekooaa.wheelBytes
open Go.RowKit
set_option linter.unusedVariables false
set_option linter.unusedSimpArgs false

theorem places_count (x : List UInt8) (c : UInt8) (k : Nat) (hk : k ≤ x.length) : (placesTo x [c] k).length = (x.take k).count c := by
  induction k with
  | zero => rfl
  | succ k ih =>
    rw [placesTo_succ, List.length_append, ih (by omega), List.take_add_one, List.getElem?_eq_getElem (by omega), List.drop_eq_getElem_cons (by omega : k < x.length)]
    simp only [List.isPrefixOf, Option.toList, List.count_append, Bool.and_true]
    by_cases h : c = x[k]
    · simp [h]
    · have h' : ¬ x[k] = c := fun e => h e.symm
      simp [h, h']
theorem places_one (x : List UInt8) (c : UInt8) : (places x [c]).length = x.count c := by
  unfold places
  rw [places_count x c _ (Nat.le_refl _), List.take_of_length_le (Nat.le_refl _)]
theorem head_rotr (y : List UInt8) : byN (rotr y) 0 = lastL y := rfl
theorem head_rotL (x : List UInt8) (i : Nat) (h : i < x.length) : byN (rotL x i) 0 = byN x i := by
  unfold rotL byN
  rw [List.drop_eq_getElem_cons h, List.getElem?_eq_getElem h]
  rfl
theorem lasts_perm (s : ByteArray) : (lasts s).Perm (bs s) := by
  rw [lasts_map]
  refine ((turnsL_perm s).map lastL).trans ?_
  have h1 := (rots_rotr (bs s)).map (fun y => byN y 0)
  rw [List.map_map] at h1
  refine List.Perm.trans (List.Perm.of_eq (List.map_congr_left fun y _ => (head_rotr y).symm)) (h1.trans (List.Perm.of_eq ?_))
  unfold rots
  rw [List.map_map]
  have h2 := map_range_getD (bs s) 0
  refine Eq.trans (List.map_congr_left fun i hi => ?_) h2
  exact head_rotL _ _ (List.mem_range.1 hi)
theorem bs_one (s : ByteArray) (i : Nat) (h : i < s.size) : ∃ c, bs (s.extract i (i + 1)) = [c] := by
  obtain ⟨c, hc⟩ := List.length_eq_one_iff.1 (show (bs (s.extract i (i + 1))).length = 1 by rw [bs_length, ByteArray.size_extract]; omega)
  exact ⟨c, hc⟩
theorem same_many (s : ByteArray) (i : Nat) (h : i < s.size) : (places (lasts s) (bs (s.extract i (i + 1)))).length = (places (bs s) (bs (s.extract i (i + 1)))).length := by
  obtain ⟨c, hc⟩ := bs_one s i h
  rw [hc, places_one, places_one]
  exact (lasts_perm s).count_eq c

set_option maxHeartbeats 1000000 in
set_option maxRecDepth 100000 in
theorem walk_ok (w : World) (s t : ByteArray) (hs : s.size ≤ 24) (hl : t.size = s.size) (HB : Hid (bs t = lasts s))
    (hT : ∀ W : World, Calls Try.prog 9 #[.string s] W fun e w' => (∃ kx : Int, e = .returned (.tuple #[.string t, .int .i64 kx, .nilIface])) ∧ Below W.heap.size W w') :
    Calls Try.prog 4 #[.string s] w fun e w' => e = .returned (.bool true) ∧ Below w.heap.size w w' := by
  have HF := Lib.hid wfact_any
  have HT := Lib.hid hT
  have HL := Lib.hid hl
  have hln : (t.size : Int) = (s.size : Int) := by omega
  have HS : Hid (∀ (x y : ByteArray) (W : World), x.size = s.size → y.size ≤ 24 → Calls Try.prog 11 #[.string x, .string y] W fun e w' => (∃ A cap, e = .returned (.slice A (places (bs x) (bs y)).length cap)) ∧ Below W.heap.size W w') := Lib.hid (fun x y W hx hy => by
    refine (stands_any x y W (by omega) (by unfold maxLen; omega)).mono ?_
    rintro e w' ⟨A, cap, rfl, _, hb⟩
    exact ⟨⟨A, cap, rfl⟩, hb⟩)
  clear hT hl
  go_enter Try.func4, Try.ntmps4
  go_wp2_with fail
  refine (HF.out _).mono ?_
  rintro e w1 ⟨rfl, hb1⟩
  go_wp2_with fail
  refine (HT.out _).mono ?_
  rintro e w2 ⟨⟨kx, rfl⟩, hb2⟩
  have hb12 := bnext hb1 hb2
  clear hb1 hb2
  go_wp2_with fail
  go_loopw [7] (fun v7 wr => ∃ k : Nat, v7 = .int .i64 (k : Int) ∧ k ≤ s.size ∧ Below w.heap.size w wr) (fun v7 _ => s.size - (intOf v7).toNat)
  case atStart => exact ⟨0, rfl, by omega, hb12⟩
  case round =>
    obtain ⟨k, rfl, hk, hbel⟩ := hrel
    by_cases hlt : k < s.size
    · have k1 : (k : Int) < (s.size : Int) := by omega
      have k2 : (k : Int) + 1 ≤ (s.size : Int) := by omega
      have k3 : (k : Int) ≤ (k : Int) + 1 := by omega
      have e1 : IntKind.i64.wrap ((k : Int) + 1) = (k : Int) + 1 := IntWalk.i64_in _ (by omega)
      have t1 : ((k : Int) + 1).toNat = k + 1 := by omega
      have hy : (s.extract k (k + 1)).size ≤ 24 := by rw [ByteArray.size_extract]; omega
      have hm := same_many s k hlt
      rw [← HB.out] at hm
      have HY := Lib.hid hy
      clear hy
      go_wp2
      go_region_held3 (fun X => Below w.heap.size w X) (first | exact hBB | exact bdrew hbel 1 | exact hbel) ((go_at_call 11; refine (HS.out _ _ _ (by first | rfl | exact HL.out) HY.out).mono ?_; rintro e w5 ⟨⟨A, cap, rfl⟩, hB5⟩; have hBB := bnext (by assumption) hB5))
      all_goals
        (go_wp2; exact ⟨⟨k + 1, by go_num, by omega, hBB⟩, by simp [intOf]; omega⟩)
    · obtain rfl : k = s.size := by omega
      have k1 : ¬ (s.size : Int) < (s.size : Int) := by omega
      go_wp2
      go_ret
      exact ⟨rfl, hbel⟩
set_option maxHeartbeats 1000000 in
set_option maxRecDepth 100000 in
theorem walk_far (w : World) (s : ByteArray) (hs : 24 < s.size) :
    Calls Try.prog 4 #[.string s] w fun e w' => e = .returned (.bool true) ∧ Below w.heap.size w w' := by
  have HF := Lib.hid wfact_any
  have HT := Lib.hid (fun (W : World) => there_no s W hs)
  go_enter Try.func4, Try.ntmps4
  go_wp2_with fail
  refine (HF.out _).mono ?_
  rintro e w1 ⟨rfl, hb1⟩
  go_wp2_with fail
  refine (HT.out _).mono ?_
  rintro e w2 ⟨rfl, hb2⟩
  go_wp2_with fail
  go_ret
  exact ⟨rfl, bnext hb1 hb2⟩
theorem walk (w : World) (s : ByteArray) (_hs : s.size ≤ 140737488351232) :
    Calls Try.prog 4 #[.string s] w fun e w' => e = .returned (.bool true) ∧ Below w.heap.size w w' := by
  by_cases hs : s.size ≤ 24
  · exact walk_ok w s ⟨(lasts s).toArray⟩ hs (by show (lasts s).length = _; rw [lasts_length]) (Lib.hid rfl) (fun W => there_le s W hs)
  · exact walk_far w s (by omega)
end Go.Proofs.Ytfjjjkfldekooaa.wheelBytes
