/-
  The walk of the law EditBounds: it returns true for every three texts.
-/
import Derived.Test.YtjlgjadkcpdpmaaEdLaw
namespace Go.Proofs.Ytjlgjadkcpdpmaa.Ed
open Go.RowKit
set_option linter.unusedVariables false

/-- the first k bytes, turned round -/
def turned (s : ByteArray) (k : Nat) : ByteArray := ⟨(s.data.toList.take k).reverse.toArray⟩
theorem turned_succ (s : ByteArray) (k : Nat) (h : k < s.size) : s.extract k (k + 1) ++ turned s k = turned s (k + 1) := by
  apply ByteArray.ext
  apply Array.ext'
  have hk : k < s.data.toList.length := by simpa using h
  have e : (s.data.toList.take (k + 1)) = s.data.toList.take k ++ [s.data.toList[k]] := by rw [List.take_add_one, List.getElem?_eq_getElem hk]; rfl
  simp only [turned, ByteArray.data_append, ByteArray.data_extract, Array.toList_append, Array.toList_extract, e, List.reverse_append, List.reverse_cons, List.reverse_nil, List.nil_append, List.singleton_append]
  rw [List.extract_eq_take_drop, show k + 1 - k = 1 by omega, List.drop_eq_getElem_cons hk]
  rfl
theorem turned_zero (s : ByteArray) : turned s 0 = ⟨#[]⟩ := rfl
theorem turned_size (s : ByteArray) : turned s s.size = ⟨s.data.toList.reverse.toArray⟩ := by
  unfold turned
  rw [List.take_of_length_le (by simp)]
theorem turned_len (s : ByteArray) (k : Nat) : (turned s k).size ≤ s.size := by
  show (s.data.toList.take k).reverse.toArray.size ≤ s.size
  simp
  exact Nat.min_le_right _ _
theorem back_any (s : ByteArray) (w : World) (hs : s.size ≤ 140737488351232) : Calls Try.prog 19 #[.string s] w fun e w' => e = .returned (.string ⟨s.data.toList.reverse.toArray⟩) ∧ Below w.heap.size w w' := by
  go_enter Try.func19, Try.ntmps19
  go_wp2_with fail
  go_loopw [3, 4] (fun o i wr => ∃ k : Nat, k ≤ s.size ∧ i = .int .i64 k ∧ o = .string (turned s k) ∧ Below w.heap.size w wr) (fun _ i _ => s.size - (intOf i).toNat)
  case atStart => exact ⟨0, by omega, rfl, rfl, Below.refl _ _⟩
  case round =>
    obtain ⟨k, hk, rfl, rfl, hbel⟩ := hrel
    by_cases hlt : k < s.size
    · have hl := turned_len s k
      have hT := Lib.hid (turned_succ s k hlt)
      generalize turned s k = T at *
      go_wp2
      exact ⟨⟨k + 1, by omega, by go_num, congrArg Value.string hT.out, hbel⟩, by simp [intOf]; omega⟩
    · obtain rfl : k = s.size := by omega
      rw [turned_size]
      go_wp2
      go_ret
      exact ⟨rfl, hbel⟩

set_option maxHeartbeats 4000000 in
theorem walkBounds (w : World) (a0 : ByteArray) (s0 : a0.size ≤ 140737488351232) (a1 : ByteArray) (s1 : a1.size ≤ 140737488351232) (a2 : ByteArray) (s2 : a2.size ≤ 140737488351232) :
    Calls Try.prog 7 #[.string a0, .string a1, .string a2] w fun e w' => e = .returned (.bool true) ∧ Below w.heap.size w w' := by
  by_cases hab : a0.size ≤ 24 ∧ a1.size ≤ 24
  · have hL0 : a0.data.toList.length = a0.size := by simp
    have hL1 : a1.data.toList.length = a1.size := by simp
    have hlow := lev_low a0.data.toList a1.data.toList
    have hhigh := lev_high a0.data.toList a1.data.toList
    have z20 : (a2 ++ a0).size = a2.size + a0.size := ByteArray.size_append
    have z21 : (a2 ++ a1).size = a2.size + a1.size := ByteArray.size_append
    have z02 : (a0 ++ a2).size = a0.size + a2.size := ByteArray.size_append
    have z12 : (a1 ++ a2).size = a1.size + a2.size := ByteArray.size_append
    have f1 := fun w => far_ok a0 a1 w hab.1 hab.2
    have f2 := fun h1 h2 w => far_ok (a2 ++ a0) (a2 ++ a1) w h1 h2
    have f3 := fun h1 h2 w => far_ok (a0 ++ a2) (a1 ++ a2) w h1 h2
    have f4 := fun w => far_ok ⟨a0.data.toList.reverse.toArray⟩ ⟨a1.data.toList.reverse.toArray⟩ w (by show a0.data.toList.reverse.toArray.size ≤ 24; simpa using hab.1) (by show a1.data.toList.reverse.toArray.size ≤ 24; simpa using hab.2)
    simp only [ByteArray.data_append, Array.toList_append, lev_prefix] at f2
    simp only [ByteArray.data_append, Array.toList_append, lev_suffix] at f3
    simp only [lev_reverse] at f4
    have F1 := Lib.hid f1; have F2 := Lib.hid f2; have F3 := Lib.hid f3; have F4 := Lib.hid f4
    rw [hL0, hL1] at hhigh hlow
    clear f1 f2 f3 f4 hL0 hL1
    generalize lev a0.data.toList a1.data.toList = x at *
    have hx : x ≤ 24 := by omega
    by_cases hord : a1.size ≤ a0.size
    all_goals
      by_cases hc : a2.size + max a0.size a1.size ≤ 24
      all_goals
        go_enter Try.func7, Try.ntmps7
        go_wp2_with fail
        refine (fact_any _).mono ?_
        rintro e w1 ⟨rfl, hb1⟩
        go_wp2_with fail
        refine (F1.out _).mono ?_
        rintro e w2 ⟨rfl, hb2⟩
        have hb := bnext hb1 hb2
        clear hb1 hb2
        go_wp2_with fail
        refine (in_yes (by omega) (by omega) _).mono ?_
        rintro e w4 ⟨rfl, rfl⟩
        go_wp2_with fail
        first
        | refine (F2.out (by omega) (by omega) _).mono ?_
        | refine (far_no (a2 ++ a0) (a2 ++ a1) _ (by omega)).mono ?_
        rintro e w5 ⟨rfl, hb5⟩
        go_wp2_with fail
        first
        | refine (F3.out (by omega) (by omega) _).mono ?_
        | refine (far_no (a0 ++ a2) (a1 ++ a2) _ (by omega)).mono ?_
        rintro e w6 ⟨rfl, hb6⟩
        have hb' := bnext (bnext hb hb5) hb6
        clear hb hb5 hb6
        go_wp2_with fail
        first
        | (refine (back_any a0 _ (by omega)).mono ?_
           rintro e w7 ⟨rfl, hb7⟩
           go_wp2_with fail
           refine (back_any a1 _ (by omega)).mono ?_
           rintro e w8 ⟨rfl, hb8⟩
           go_wp2_with fail
           refine (F4.out _).mono ?_
           rintro e w9 ⟨rfl, hb9⟩
           go_wp2_with fail
           go_ret
           refine ⟨?_, bnext (bnext (bnext hb' hb7) hb8) hb9⟩
           first
           | rfl
           | exact ret_bool (by simp; try omega))
        | (go_ret
           refine ⟨?_, hb'⟩
           first
           | rfl
           | exact ret_bool (by simp; try omega))
  · go_enter Try.func7, Try.ntmps7
    go_wp2_with fail
    refine (fact_any _).mono ?_
    rintro e w1 ⟨rfl, hb1⟩
    go_wp2_with fail
    refine (far_no a0 a1 _ hab).mono ?_
    rintro e w2 ⟨rfl, hb2⟩
    go_wp2_with fail
    go_ret
    exact ⟨rfl, bnext hb1 hb2⟩
end Go.Proofs.Ytjlgjadkcpdpmaa.Ed
namespace Go.Proofs.Ytjlgjadkcpdpmaa.editBounds
abbrev walk := @Ed.walkBounds
end Go.Proofs.Ytjlgjadkcpdpmaa.editBounds
