/-
  The walk of the law SuffixCount, for every text and every byte; no condition.
-/
import Derived.Test.YthalaapfdjaapaaSuffixTwice
import Derived.Test.YthalaapfdjaapaaBack
namespace Go.Proofs.Ythalaapfdjaapaa.suffixCount
open Go.RowKit suffixTwice
set_option linter.unusedVariables false
set_option linter.unusedSimpArgs false

theorem byte_string (c : UInt8) (b : Nat) (w : World) (h : w.cell? ⟨b, 0, none⟩ = some (.int .u8 (c.toNat : Int))) :
    (convert 34 9 (.slice (some ⟨b, 0, none⟩) 1 1)).run Try.prog w = .ok (.string ⟨#[c]⟩) w :=
  run_convert_bytes_back w 34 9 5 ⟨b, 0, none⟩ 1 [c] Try.underlying34 Try.underlying5 Try.underlying9 (fun j hj => by
    have : j = 0 := by simpa using hj
    subst this
    exact h)
def freshTo (l t : List UInt8) (i : Nat) : Nat := ((List.range i).filter fun j => decide (times l (t.drop j) = 0)).length
theorem freshTo_succ (l t : List UInt8) (i : Nat) : freshTo l t (i + 1) = freshTo l t i + if times l (t.drop i) = 0 then 1 else 0 := by
  unfold freshTo
  rw [List.range_succ, List.filter_append, List.length_append]
  by_cases h : times l (t.drop i) = 0 <;> simp [h]
theorem freshTo_le (l t : List UInt8) (i : Nat) : freshTo l t i ≤ i := by
  unfold freshTo
  exact Nat.le_trans (List.length_filter_le _ _) (by simp)
theorem times_zero (l x : List UInt8) (hx : x ≠ []) : times l x = 0 ↔ ¬ x <:+: l := by
  unfold times
  rw [infix_iff_drop x l hx, List.length_eq_zero_iff, List.filter_eq_nil_iff]
  constructor
  · rintro h ⟨y, hy, hp⟩
    obtain ⟨i, hi, rfl⟩ := (mem_ends l y).1 hy
    exact h i (List.mem_range.2 hi) (List.isPrefixOf_iff_prefix.2 hp)
  · intro h i hi hp
    exact h ⟨l.drop i, (mem_ends _ _).2 ⟨i, List.mem_range.1 hi, rfl⟩, List.isPrefixOf_iff_prefix.1 hp⟩
theorem fresh_to (l t : List UInt8) : (fresh l t).length = freshTo l t t.length := by
  unfold fresh freshTo ends
  rw [List.filter_map, List.length_map]
  congr 1
  refine List.filter_congr fun j hj => ?_
  have hj := List.mem_range.1 hj
  have hne : t.drop j ≠ [] := fun e => by
    have := congrArg List.length e
    simp at this
    omega
  rw [Function.comp_apply, Bool.eq_iff_iff]
  simp only [Bool.not_eq_true', decide_eq_false_iff_not, decide_eq_true_iff]
  exact (times_zero l _ hne).symm
theorem sum_list (s : ByteArray) (c : UInt8) : (s ++ ⟨#[c]⟩ : ByteArray).data.toList = s.data.toList ++ [c] := by simp
theorem sum_size (s : ByteArray) (c : UInt8) : (s ++ ⟨#[c]⟩ : ByteArray).size = s.size + 1 := by
  rw [ByteArray.size_append]
  rfl

set_option maxHeartbeats 1000000 in
set_option maxRecDepth 100000 in
theorem walk_no (w : World) (s : ByteArray) (c : UInt8) (hs : 24 < s.size) :
    Calls Try.prog 5 #[.string s, .int .u8 (c.toNat : Int)] w fun e w' => e = .returned (.bool true) ∧ Below w.heap.size w w' := by
  have HF := Lib.hid sfact_any
  have HA := Lib.hid (fun (W : World) => count_no s W hs)
  go_enter Try.func5, Try.ntmps5
  go_wp2_with fail
  refine (HF.out _).mono ?_
  rintro e w1 ⟨rfl, hb1⟩
  go_wp2_with fail
  refine (HA.out _).mono ?_
  rintro e w2 ⟨rfl, hb2⟩
  go_wp2_with fail
  go_ret
  exact ⟨rfl, bnext hb1 hb2⟩

set_option maxHeartbeats 1000000 in
set_option maxRecDepth 100000 in
theorem walk_ok (w : World) (s : ByteArray) (c : UInt8) (hs : s.size ≤ 24) :
    Calls Try.prog 5 #[.string s, .int .u8 (c.toNat : Int)] w fun e w' => e = .returned (.bool true) ∧ Below w.heap.size w w' := by
  have HF := Lib.hid sfact_any
  obtain ⟨l, hl⟩ : ∃ l, l = s.data.toList := ⟨_, rfl⟩
  have hln : l.length = s.size := by rw [hl]; simp
  have HA := Lib.hid (fun (W : World) => count_any s W hs)
  have HBK := Lib.hid (fun (W : World) => back_any s W (by omega))
  have hA2 := fun (W : World) => count_any ⟨s.data.toList.reverse.toArray⟩ W (by show s.data.toList.reverse.toArray.size ≤ 24; simpa using hs)
  rw [show ((⟨s.data.toList.reverse.toArray⟩ : ByteArray).data.toList) = s.data.toList.reverse by simp, many_rev] at hA2
  have HA2 := Lib.hid hA2
  rw [← hl] at HA HBK HA2
  have hge := many_ge l
  have hle := many_le l
  have h300 : l.length * (l.length + 1) / 2 ≤ 300 := by
    have : l.length * (l.length + 1) ≤ 600 := Nat.le_trans (Nat.mul_le_mul (by omega : l.length ≤ 24) (by omega : l.length + 1 ≤ 25)) (by decide)
    omega
  have hsn := many_snoc l c
  have hfp := fresh_pos l c
  rw [fresh_to, List.length_append, List.length_singleton, hln] at hsn hfp
  have hts := sum_size s c
  have htl := sum_list s c
  rw [← hl] at htl
  obtain ⟨t, ht⟩ : ∃ t : ByteArray, t = s ++ ⟨#[c]⟩ := ⟨_, rfl⟩
  rw [← ht] at hts htl
  have hS2 : ∀ (m : Nat) (W : World), Calls Try.prog 16 #[.string s, .string (t.extract m t.size)] W fun e w' => ∃ A cap, e = .returned (.slice A (times l ((l ++ [c]).drop m)) cap) ∧ Below W.heap.size W w' := by
    intro m W
    refine (stands_any s (t.extract m t.size) W (by omega) (by have := hts; simp [maxLen]; omega)).mono ?_
    rintro e w' ⟨A, cap, rfl, _, hb⟩
    refine ⟨A, cap, ?_, hb⟩
    rw [places_times, bs_from, show bs s = l from hl.symm, show bs t = l ++ [c] from htl]
  have HST := Lib.hid hS2
  clear hS2
  have HTS := Lib.hid hts
  clear hts
  have HT := Lib.hid ht
  obtain ⟨N, hN⟩ : ∃ N, N = many l := ⟨_, rfl⟩
  rw [← hN] at HA HA2 hge hle hsn
  have kN : (N : Int) ≤ 300 := by omega
  have HIN := Lib.hid (fun W => in_yes (n := (N : Int)) (lo := (s.size : Int)) (hi := 300) (by omega) (by omega) W)
  have k24 : (s.size : Int) ≤ 24 := by omega
  have hL0 : (⟨#[c]⟩ : ByteArray).size = 1 := rfl
  have HLN := Lib.hid hln
  have HLL := Lib.hid hl
  clear hA2 hl hN hge hle h300 ht hln
  have HCV := Lib.hid (byte_string c)
  go_enter Try.func5, Try.ntmps5
  go_wp2_with fail
  refine (HF.out _).mono ?_
  rintro e w1 ⟨rfl, hb1⟩
  go_wp2_with fail
  refine (HA.out _).mono ?_
  rintro e w2 ⟨rfl, hb2⟩
  go_wp2_with fail
  refine (HBK.out _).mono ?_
  rintro e w3 ⟨rfl, hb3⟩
  go_wp2_with fail
  refine (HA2.out _).mono ?_
  rintro e w4 ⟨rfl, hb4⟩
  go_wp2_with fail
  refine (HIN.out _).mono ?_
  rintro e w5 ⟨rfl, rfl⟩
  have hb := bnext hb1 (bnext hb2 (bnext hb3 hb4))
  have cv := HCV.out w5.heap.size (w5.alloc (.cells #[.int .u8 (c.toNat : Int)] 5)) (Boxed.new _ _ _).cell
  clear HF HA HBK HA2 HIN hb1 hb2 hb3 hb4
  go_wp2_with fail
  rw [← HT.out]
  by_cases h24 : s.size = 24
  · refine (count_no t _ (by have := HTS.out; omega)).mono ?_
    rintro e w6 ⟨rfl, hb6⟩
    have k1 : ((s.size : Int) == 24) = true := by rw [h24]; rfl
    go_wp2_with fail
    go_ret
    exact ⟨rfl, bnext hb (bnext (bnew _ _) hb6)⟩
  · refine (count_any t _ (by have := HTS.out; omega)).mono ?_
    rintro e w6 ⟨rfl, hb6⟩
    rw [htl]
    obtain ⟨M, hM⟩ : ∃ M, M = many (l ++ [c]) := ⟨_, rfl⟩
    rw [← hM] at hsn ⊢
    have hb7 := bnext hb (bnext (bnew _ _) hb6)
    have hfle := freshTo_le l (l ++ [c]) (s.size + 1)
    clear hb hb6 hM cv
    have HSN := Lib.hid hsn; have HFP := Lib.hid hfp; have HTL := Lib.hid htl
    clear hsn hfp htl
    go_wp2_with fail
    go_loopw [11, 12, 13, 61, 62, 63, 64, 65, 66, 67, 68, 69, 70, 71, 72, 73, 74, 75, 76] (fun v11 v12 _ _ _ _ _ _ _ _ _ _ _ _ _ _ _ _ _ wr => ∃ i : Nat, v12 = .int .i64 (i : Int) ∧ v11 = .int .i64 (freshTo l (l ++ [c]) i : Int) ∧ i ≤ s.size + 1 ∧ Below w.heap.size w wr) (fun _ v12 _ _ _ _ _ _ _ _ _ _ _ _ _ _ _ _ _ _ => s.size + 1 - (intOf v12).toNat)
    case atStart => exact ⟨0, rfl, rfl, by omega, hb7⟩
    case round =>
      obtain ⟨i, rfl, rfl, hin, hbr⟩ := hrel
      have e1 : IntKind.i64.wrap ((i : Int) + 1) = (i : Int) + 1 := IntWalk.i64_in _ (by omega)
      have e9 : (t.size : Int) = (s.size : Int) + 1 := by have := HTS.out; omega
      by_cases hlt : i < s.size + 1
      · have k1 : (i : Int) < (t.size : Int) := by omega
        have k2 : (i : Int) ≤ (t.size : Int) := by omega
        have hsu := freshTo_succ l (l ++ [c]) i
        have hfi := freshTo_le l (l ++ [c]) i
        obtain ⟨T, hT⟩ : ∃ T, T = times l ((l ++ [c]).drop i) := ⟨_, rfl⟩
        obtain ⟨F, hF⟩ : ∃ F, F = freshTo l (l ++ [c]) i := ⟨_, rfl⟩
        have hst := HST.out i
        rw [← hT] at hsu hst
        rw [← hF] at hsu hfi ⊢
        have kF : (F : Int) ≤ 25 := by omega
        have HSU := Lib.hid hsu; have HS1 := Lib.hid hst
        clear hsu hst hT hF e9
        go_wp2_with fail
        refine (HS1.out _).mono ?_
        rintro e w8 ⟨B, d, rfl, hb8⟩
        have hb9 := bnext hbr hb8
        by_cases hT0 : T = 0
        · subst hT0
          go_wp2_with fail
          go_roundw
          case rel => exact ⟨i + 1, by simp, by rw [HSU.out]; simp, by omega, hb9⟩
          case measure => simp [intOf]; omega
        · have kT : ((T : Int) == 0) = false := by rw [beq_eq_false_iff_ne]; omega
          go_wp2_with fail
          go_roundw
          case rel => exact ⟨i + 1, by simp, by rw [HSU.out, if_neg hT0]; rfl, by omega, hb9⟩
          case measure => simp [intOf]; omega
      · obtain rfl : i = s.size + 1 := by omega
        have k1 : ¬ (((s.size + 1 : Nat) : Int) < (t.size : Int)) := by omega
        have k1' : ¬ ((s.size : Int) + 1 < (t.size : Int)) := by omega
        obtain ⟨F, hF⟩ : ∃ F, F = freshTo l (l ++ [c]) (s.size + 1) := ⟨_, rfl⟩
        rw [← hF] at HSN HFP hfle ⊢
        have h1 := HSN.out
        have h2 := HFP.out
        have k3 : (1 : Int) ≤ (F : Int) := by omega
        have k4 : ((N : Int) + (F : Int)) = (M : Int) := by omega
        have k5 : (F : Int) ≤ 25 := by omega
        have k6 : (M : Int) ≤ 400 := by omega
        clear h1 h2 hF e9
        go_wp2_with fail
        go_ret
        exact ⟨rfl, hbr⟩
theorem walk (w : World) (s : ByteArray) (s0 : s.size ≤ 140737488351232) (c : UInt8) :
    Calls Try.prog 5 #[.string s, .int .u8 (c.toNat : Int)] w fun e w' => e = .returned (.bool true) ∧ Below w.heap.size w w' := by
  by_cases hs : s.size ≤ 24
  · exact walk_ok w s c hs
  · exact walk_no w s c (by omega)
end Go.Proofs.Ythalaapfdjaapaa.suffixCount
