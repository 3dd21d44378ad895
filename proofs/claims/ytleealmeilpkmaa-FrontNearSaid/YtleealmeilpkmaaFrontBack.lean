/-
  The walks of the law FrontBack and of the closed fact ahead of it: the law returns true for every text and every list.
-/
import Derived.Test.YtleealmeilpkmaaFtTB
import Derived.Test.YtleealmeilpkmaaInts
namespace Go.Proofs.Ytleealmeilpkmaa.Ft
open Go.RowKit
set_option linter.unusedVariables false

theorem nums_ints (l : List Nat) : nums l = ints (l.map fun (n : Nat) => (n : Int)) := by simp [nums, ints]
theorem to_nat (l : List Nat) : (l.map fun (n : Nat) => (n : Int)).map Int.toNat = l := by simp [Function.comp_def]

theorem there_bab (w : World) : Calls Try.prog 6 #[.string ⟨#[98, 97, 98]⟩] w fun e w' => ∃ A cap, e = .returned (.tuple #[.slice A 3 cap, .nilIface]) ∧ w'.ownsRow w.heap.size 3 1 (.slice A 3 cap) 3 (ints [98, 98, 1]) ∧ Below w.heap.size w w' := by
  have h := there_ok ⟨#[98, 97, 98]⟩ w (by decide)
  have e : there allB [98, 97, 98] = [98, 98, 1] := by decide +kernel
  simp only [e] at h
  exact h
theorem back_97 (w : World) (A : Option Addr) (cap : Nat) (hr : Reads w A 2 1 (ints [97, 0])) :
    Calls Try.prog 7 #[.slice A 2 cap] w fun e w' => e = .returned (.tuple #[.string ⟨#[97, 97]⟩, .nilIface]) ∧ Below w.heap.size w w' := by
  have h := back_any A cap [97, 0] w hr (by decide)
  have e : backP [97, 0] = ([97, 97], 0) := by decide +kernel
  rw [e] at h
  exact h
theorem same_three (A B : Option Addr) (c d : Nat) {w : World} (hl : Reads w A 3 1 (ints [98, 98, 1])) (hm : Reads w B 3 1 (ints [98, 98, 1])) :
    Calls Try.prog 8 #[.slice A 3 c, .slice B 3 d] w fun e w' => e = .returned (.bool true) ∧ Below w.heap.size w w' := by
  have h := ints_any A B c d [98, 98, 1] [98, 98, 1] w hl hm (by decide)
  simpa using h
theorem fact_any (w : World) : Calls Try.prog 5 #[] w fun e w' => e = .returned (.bool true) ∧ Below w.heap.size w w' := by
  go_enter Try.func5, Try.ntmps5
  go_wp2_with fail
  refine (there_bab _).mono ?_
  rintro e w1 ⟨A, cap, rfl, hown, hb⟩
  go_wp2_with fail
  refine (back_97 _ _ _ (reads_new w1 3 (ints [97, 0]) 2 1 rfl)).mono ?_
  rintro e w2 ⟨rfl, hb2⟩
  have hb3 : Below w1.heap.size w1 w2 := bnext (bnew w1 _) hb2
  go_wp2_with fail
  refine (same_three _ _ _ _ (((Reads.of_own hown).below hb3).below (bnew _ _)) (reads_new w2 3 (ints [98, 98, 1]) 3 1 rfl)).mono ?_
  rintro e w4 ⟨rfl, hb4⟩
  go_wp2_with fail
  go_ret
  exact ⟨rfl, bnext (bnext hb hb3) (bnext (bnew _ _) hb4)⟩

/-- there and back, as one contract -/
theorem back_there_any (s : ByteArray) (hs : s.size ≤ 1000) (w1 : World) (A : Option Addr) (cap : Nat) (h : Reads w1 A s.size 1 (nums (there allB s.data.toList))) :
    Calls Try.prog 7 #[.slice A s.size cap] w1 fun e w' => e = .returned (.tuple #[.string s, .nilIface]) ∧ Below w1.heap.size w1 w' := by
  have hlen : ((there allB s.data.toList).map fun (n : Nat) => (n : Int)).length = s.size := by rw [List.length_map, there_length]; simp
  have := back_ok A cap ((there allB s.data.toList).map fun (n : Nat) => (n : Int)) w1 (by rw [hlen]; rw [nums_ints] at h; exact h) (by omega) (fun n hn => by
    obtain ⟨m, hm, rfl⟩ := List.mem_map.1 hn
    have := there_lt _ _ full_all m hm
    simp [okB]; omega)
  rw [hlen, to_nat, back_there _ _ full_all] at this
  simpa using this
/-- back and there -/
theorem there_back_any (l : List Int) (hl : l.length ≤ 1000) (hok : ∀ n ∈ l, okB n = true) (w1 : World) :
    Calls Try.prog 6 #[.string ⟨(back allB (l.map Int.toNat)).toArray⟩] w1 fun e w' => ∃ A cap, e = .returned (.tuple #[.slice A l.length cap, .nilIface]) ∧ w'.ownsRow w1.heap.size 3 1 (.slice A l.length cap) l.length (ints l) ∧ Below w1.heap.size w1 w' := by
  have hsz : (⟨(back allB (l.map Int.toNat)).toArray⟩ : ByteArray).size = l.length := by
    show (back allB (l.map Int.toNat)).toArray.size = _
    simp [back_length]
  have := there_ok ⟨(back allB (l.map Int.toNat)).toArray⟩ w1 (by rw [hsz]; exact hl)
  have e : nums (there allB (back allB (l.map Int.toNat))) = ints l := by
    rw [there_back _ _ full_all (fun n hn => by
      obtain ⟨m, hm, rfl⟩ := List.mem_map.1 hn
      have := hok m hm
      simp [okB] at this; omega)]
    simp only [nums, ints, List.map_map]
    refine List.map_congr_left fun n hn => ?_
    have := hok n hn
    simp [okB] at this
    show Value.int .i64 ((n.toNat : Nat) : Int) = _
    rw [Int.toNat_of_nonneg (by omega)]
  rw [hsz] at this
  simp only [e] at this
  exact this

theorem walk_ok_no4 (w : World) (a0 : ByteArray) (A1 : Option Addr) (c1 : Nat) (a1 : List Int) (s1 : a1.length * 8 ≤ 140737488351232) (hs : a0.size ≤ 1000) (h1 : 1000 < a1.length) :
    Calls Try.prog 3 #[.string a0, .slice A1 a1.length c1] w fun e w' => e = .returned (.bool true) ∧ Below w.heap.size w w' := by
  go_enter Try.func3, Try.ntmps3
  go_wp2_with fail
  refine (fact_any _).mono ?_
  rintro e w1 ⟨rfl, hb1⟩
  go_wp2_with fail
  refine (there_ok a0 _ hs).mono ?_
  rintro e w2 ⟨A, cap, rfl, hown, hb2⟩
  go_wp2_with fail
  refine (back_there_any a0 hs _ _ _ (Reads.of_own hown)).mono ?_
  rintro e w3 ⟨rfl, hb3⟩
  have hb := bnext (bnext hb1 hb2) hb3
  clear hown
  go_wp2_with fail
  refine (back_no4 A1 c1 a1 _ (by omega) (by unfold maxLen; omega)).mono ?_
  rintro e w4 ⟨rfl, hb4⟩
  go_wp2_with fail
  go_ret
  exact ⟨rfl, bnext hb hb4⟩
theorem walk_ok_no1 (w : World) (a0 : ByteArray) (A1 : Option Addr) (c1 : Nat) (a1 : List Int) (s1 : a1.length * 8 ≤ 140737488351232) (i1 : Reads w A1 a1.length 1 (ints a1)) (hs : a0.size ≤ 1000) (h1 : a1.length ≤ 1000) (h2 : Hid (¬ ∀ n ∈ a1, okB n = true)) :
    Calls Try.prog 3 #[.string a0, .slice A1 a1.length c1] w fun e w' => e = .returned (.bool true) ∧ Below w.heap.size w w' := by
  go_enter Try.func3, Try.ntmps3
  go_wp2_with fail
  refine (fact_any _).mono ?_
  rintro e w1 ⟨rfl, hb1⟩
  go_wp2_with fail
  refine (there_ok a0 _ hs).mono ?_
  rintro e w2 ⟨A, cap, rfl, hown, hb2⟩
  go_wp2_with fail
  refine (back_there_any a0 hs _ _ _ (Reads.of_own hown)).mono ?_
  rintro e w3 ⟨rfl, hb3⟩
  have hb := bnext (bnext hb1 hb2) hb3
  clear hown
  go_wp2_with fail
  refine (back_no1 A1 c1 a1 _ (i1.below hb) (by omega) h2.out).mono ?_
  rintro e w4 ⟨rfl, hb4⟩
  go_wp2_with fail
  go_ret
  exact ⟨rfl, bnext hb hb4⟩
theorem walk_ok_ok (w : World) (a0 : ByteArray) (A1 : Option Addr) (c1 : Nat) (a1 : List Int) (s1 : a1.length * 8 ≤ 140737488351232) (i1 : Reads w A1 a1.length 1 (ints a1)) (hs : a0.size ≤ 1000) (h1 : a1.length ≤ 1000) (h2 : Hid (∀ n ∈ a1, okB n = true)) :
    Calls Try.prog 3 #[.string a0, .slice A1 a1.length c1] w fun e w' => e = .returned (.bool true) ∧ Below w.heap.size w w' := by
  go_enter Try.func3, Try.ntmps3
  go_wp2_with fail
  refine (fact_any _).mono ?_
  rintro e w1 ⟨rfl, hb1⟩
  go_wp2_with fail
  refine (there_ok a0 _ hs).mono ?_
  rintro e w2 ⟨A, cap, rfl, hown, hb2⟩
  go_wp2_with fail
  refine (back_there_any a0 hs _ _ _ (Reads.of_own hown)).mono ?_
  rintro e w3 ⟨rfl, hb3⟩
  have hb := bnext (bnext hb1 hb2) hb3
  clear hown
  go_wp2_with fail
  refine (back_ok A1 c1 a1 _ (i1.below hb) (by omega) h2.out).mono ?_
  rintro e w4 ⟨rfl, hb4⟩
  go_wp2_with fail
  refine (there_back_any a1 (by omega) h2.out _).mono ?_
  rintro e w5 ⟨B, cap2, rfl, hown5, hb5⟩
  have hbb := bnext (bnext hb hb4) hb5
  go_wp2_with fail
  refine (ints_any _ _ _ _ a1 a1 _ (Reads.of_own hown5) (i1.below hbb) (by unfold maxLen; omega)).mono ?_
  rintro e w6 ⟨rfl, hb6⟩
  rw [decide_eq_true rfl]
  clear hown5
  go_wp2_with fail
  go_ret
  exact ⟨rfl, bnext hbb hb6⟩
theorem walk_no_no4 (w : World) (a0 : ByteArray) (A1 : Option Addr) (c1 : Nat) (a1 : List Int) (s1 : a1.length * 8 ≤ 140737488351232) (hs : 1000 < a0.size) (h1 : 1000 < a1.length) :
    Calls Try.prog 3 #[.string a0, .slice A1 a1.length c1] w fun e w' => e = .returned (.bool true) ∧ Below w.heap.size w w' := by
  go_enter Try.func3, Try.ntmps3
  go_wp2_with fail
  refine (fact_any _).mono ?_
  rintro e w1 ⟨rfl, hb1⟩
  go_wp2_with fail
  refine (there_no a0 _ (by omega)).mono ?_
  rintro e w3 ⟨rfl, hb3⟩
  have hb := bnext hb1 hb3
  go_wp2_with fail
  refine (back_no4 A1 c1 a1 _ (by omega) (by unfold maxLen; omega)).mono ?_
  rintro e w4 ⟨rfl, hb4⟩
  go_wp2_with fail
  go_ret
  exact ⟨rfl, bnext hb hb4⟩
theorem walk_no_no1 (w : World) (a0 : ByteArray) (A1 : Option Addr) (c1 : Nat) (a1 : List Int) (s1 : a1.length * 8 ≤ 140737488351232) (i1 : Reads w A1 a1.length 1 (ints a1)) (hs : 1000 < a0.size) (h1 : a1.length ≤ 1000) (h2 : Hid (¬ ∀ n ∈ a1, okB n = true)) :
    Calls Try.prog 3 #[.string a0, .slice A1 a1.length c1] w fun e w' => e = .returned (.bool true) ∧ Below w.heap.size w w' := by
  go_enter Try.func3, Try.ntmps3
  go_wp2_with fail
  refine (fact_any _).mono ?_
  rintro e w1 ⟨rfl, hb1⟩
  go_wp2_with fail
  refine (there_no a0 _ (by omega)).mono ?_
  rintro e w3 ⟨rfl, hb3⟩
  have hb := bnext hb1 hb3
  go_wp2_with fail
  refine (back_no1 A1 c1 a1 _ (i1.below hb) (by omega) h2.out).mono ?_
  rintro e w4 ⟨rfl, hb4⟩
  go_wp2_with fail
  go_ret
  exact ⟨rfl, bnext hb hb4⟩
theorem walk_no_ok (w : World) (a0 : ByteArray) (A1 : Option Addr) (c1 : Nat) (a1 : List Int) (s1 : a1.length * 8 ≤ 140737488351232) (i1 : Reads w A1 a1.length 1 (ints a1)) (hs : 1000 < a0.size) (h1 : a1.length ≤ 1000) (h2 : Hid (∀ n ∈ a1, okB n = true)) :
    Calls Try.prog 3 #[.string a0, .slice A1 a1.length c1] w fun e w' => e = .returned (.bool true) ∧ Below w.heap.size w w' := by
  go_enter Try.func3, Try.ntmps3
  go_wp2_with fail
  refine (fact_any _).mono ?_
  rintro e w1 ⟨rfl, hb1⟩
  go_wp2_with fail
  refine (there_no a0 _ (by omega)).mono ?_
  rintro e w3 ⟨rfl, hb3⟩
  have hb := bnext hb1 hb3
  go_wp2_with fail
  refine (back_ok A1 c1 a1 _ (i1.below hb) (by omega) h2.out).mono ?_
  rintro e w4 ⟨rfl, hb4⟩
  go_wp2_with fail
  refine (there_back_any a1 (by omega) h2.out _).mono ?_
  rintro e w5 ⟨B, cap2, rfl, hown5, hb5⟩
  have hbb := bnext (bnext hb hb4) hb5
  go_wp2_with fail
  refine (ints_any _ _ _ _ a1 a1 _ (Reads.of_own hown5) (i1.below hbb) (by unfold maxLen; omega)).mono ?_
  rintro e w6 ⟨rfl, hb6⟩
  rw [decide_eq_true rfl]
  clear hown5
  go_wp2_with fail
  go_ret
  exact ⟨rfl, bnext hbb hb6⟩
theorem walk (w : World) (a0 : ByteArray) (_s0 : a0.size ≤ 140737488351232) (A1 : Option Addr) (c1 : Nat) (a1 : List Int) (s1 : a1.length * 8 ≤ 140737488351232)
    (_f1 : ∀ n ∈ a1, -9223372036854775808 ≤ n ∧ n ≤ 9223372036854775807) (i1 : Reads w A1 a1.length 1 (a1.map (Value.int .i64))) :
    Calls Try.prog 3 #[.string a0, .slice A1 a1.length c1] w fun e w' => e = .returned (.bool true) ∧ Below w.heap.size w w' := by
  by_cases hs : a0.size ≤ 1000 <;> by_cases h1 : a1.length ≤ 1000
  · by_cases h2 : ∀ n ∈ a1, okB n = true
    · exact walk_ok_ok w a0 A1 c1 a1 s1 i1 hs h1 h2
    · exact walk_ok_no1 w a0 A1 c1 a1 s1 i1 hs h1 h2
  · exact walk_ok_no4 w a0 A1 c1 a1 s1 hs (by omega)
  · by_cases h2 : ∀ n ∈ a1, okB n = true
    · exact walk_no_ok w a0 A1 c1 a1 s1 i1 (by omega) h1 h2
    · exact walk_no_no1 w a0 A1 c1 a1 s1 i1 (by omega) h1 h2
  · exact walk_no_no4 w a0 A1 c1 a1 s1 (by omega) (by omega)
end Go.Proofs.Ytleealmeilpkmaa.Ft
namespace Go.Proofs.Ytleealmeilpkmaa.frontBack
abbrev walk := @Ft.walk
end Go.Proofs.Ytleealmeilpkmaa.frontBack
