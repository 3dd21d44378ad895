/-
  The walk of the law EditOne: it returns true for all arguments.
-/
import Derived.Test.YtjlgjadkcpdpmaaEdLaw
namespace Go.Proofs.Ytjlgjadkcpdpmaa.Ed
open Go.RowKit
set_option linter.unusedVariables false

/-- the byte c put in, or put in another one's place -/
def put (a : ByteArray) (k m : Nat) (t : ByteArray) : ByteArray := a.extract 0 k ++ t ++ a.extract m a.size
def cut (a : ByteArray) (k : Nat) : ByteArray := a.extract 0 k ++ a.extract (k + 1) a.size
def one (c : UInt8) : ByteArray := ⟨#[c]⟩
theorem put_list (a : ByteArray) (k m : Nat) (c : UInt8) : (put a k m (one c)).data.toList = a.data.toList.take k ++ c :: a.data.toList.drop m := by
  have : a.size = a.data.toList.length := by simp
  unfold put one
  simp only [ByteArray.data_append, ByteArray.data_extract, Array.toList_append, Array.toList_extract, List.extract_eq_take_drop, List.drop_zero, Nat.sub_zero, this]
  rw [show a.data.toList.length - m = (a.data.toList.drop m).length by simp, List.take_length]
  simp
theorem cut_list (a : ByteArray) (k : Nat) : (cut a k).data.toList = a.data.toList.take k ++ a.data.toList.drop (k + 1) := by
  have : a.size = a.data.toList.length := by simp
  unfold cut
  simp only [ByteArray.data_append, ByteArray.data_extract, Array.toList_append, Array.toList_extract, List.extract_eq_take_drop, List.drop_zero, Nat.sub_zero, this]
  rw [show a.data.toList.length - (k + 1) = (a.data.toList.drop (k + 1)).length by simp, List.take_length]
theorem put_size (a : ByteArray) (k m : Nat) (c : UInt8) (h : k ≤ a.size) (h2 : m ≤ a.size) : (put a k m (one c)).size = a.size + 1 + k - m := by
  have : (put a k m (one c)).data.toList.length = a.data.toList.length + 1 + k - m := by
    have h' : k ≤ a.data.toList.length := by simpa using h
    have h2' : m ≤ a.data.toList.length := by simpa using h2
    rw [put_list]
    simp only [List.length_append, List.length_take, List.length_cons, List.length_drop]
    omega
  simpa using this
theorem cut_size (a : ByteArray) (k : Nat) (h : k < a.size) : (cut a k).size = a.size - 1 := by
  have : (cut a k).data.toList.length = a.data.toList.length - 1 := by
    have h' : k < a.data.toList.length := by simpa using h
    rw [cut_list]
    simp only [List.length_append, List.length_take, List.length_drop]
    omega
  simpa using this
theorem lev_put (a : ByteArray) (k : Nat) (c : UInt8) : lev a.data.toList (put a k k (one c)).data.toList = 1 := by
  rw [put_list]
  have := lev_insert (a.data.toList.take k) (a.data.toList.drop k) c
  rwa [List.take_append_drop] at this
theorem split_at {l : List UInt8} {k : Nat} (h : k < l.length) : l = l.take k ++ l[k] :: l.drop (k + 1) := by
  rw [← List.drop_eq_getElem_cons h, List.take_append_drop]
theorem lev_cut (a : ByteArray) (k : Nat) (h : k < a.size) : lev a.data.toList (cut a k).data.toList = 1 := by
  have h' : k < a.data.toList.length := by simpa using h
  rw [cut_list]
  have e := split_at h'
  have := lev_remove (a.data.toList.take k) (a.data.toList.drop (k + 1)) a.data.toList[k]
  rwa [← e] at this
theorem lev_set (a : ByteArray) (k : Nat) (c : UInt8) (h : k < a.size) : lev a.data.toList (put a k (k + 1) (one c)).data.toList = if a[k] = c then 0 else 1 := by
  have h' : k < a.data.toList.length := by simpa using h
  rw [put_list]
  have e := split_at h'
  have := lev_change (a.data.toList.take k) (a.data.toList.drop (k + 1)) a.data.toList[k] c
  rwa [← e] at this

theorem byte_string (c : UInt8) (b : Nat) (w : World) (h : w.cell? ⟨b, 0, none⟩ = some (.int .u8 (c.toNat : Int))) :
    (convert 36 9 (.slice (some ⟨b, 0, none⟩) 1 1)).run Try.prog w = .ok (.string ⟨#[c]⟩) w :=
  run_convert_bytes_back w 36 9 5 ⟨b, 0, none⟩ 1 [c] Try.underlying36 Try.underlying5 Try.underlying9 (fun j hj => by
    have : j = 0 := by simpa using hj
    subst this
    exact h)

set_option maxHeartbeats 4000000 in
set_option maxRecDepth 100000 in
theorem walkOne (w : World) (a0 : ByteArray) (s0 : a0.size ≤ 140737488351232) (a1 : ByteArray) (s1 : a1.size ≤ 140737488351232) (i : Int) (hi : -9223372036854775808 ≤ i ∧ i ≤ 9223372036854775807) (c : UInt8) :
    Calls Try.prog 8 #[.string a0, .string a1, .int .i64 i, .int .u8 (c.toNat : Int)] w fun e w' => e = .returned (.bool true) ∧ Below w.heap.size w w' := by
  by_cases hab : a0.size ≤ 24 ∧ a1.size ≤ 24
  · have hhigh := lev_high a0.data.toList a1.data.toList
    have hL0 : a0.data.toList.length = a0.size := by simp
    have hL1 : a1.data.toList.length = a1.size := by simp
    rw [hL0, hL1] at hhigh
    have f1 := fun w => far_ok a0 a1 w hab.1 hab.2
    by_cases hin : 0 ≤ i ∧ i ≤ (a0.size : Int)
    · obtain ⟨k, rfl⟩ : ∃ k : Nat, i = (k : Int) := ⟨i.toNat, by omega⟩
      have hk : k ≤ a0.size := by omega
      have p1 := put_size a0 k k c hk hk
      have l1 := lev_put a0 k c
      have t1 := lev_triangle a0.data.toList (put a0 k k (one c)).data.toList a1.data.toList
      have t2 := lev_triangle (put a0 k k (one c)).data.toList a0.data.toList a1.data.toList
      rw [lev_symm (put a0 k k (one c)).data.toList a0.data.toList] at t2
      rw [l1] at t1 t2
      have f2 := fun h w => far_ok a0 (put a0 k k (one c)) w hab.1 h
      have f3 := fun h w => far_ok (put a0 k k (one c)) a1 w h hab.2
      rw [l1] at f2
      rw [p1] at f2 f3
      generalize lev a0.data.toList a1.data.toList = x at *
      generalize lev (put a0 k k (one c)).data.toList a1.data.toList = y at *
      have F1 := Lib.hid f1; have F2 := Lib.hid f2; have F3 := Lib.hid f3
      clear f1 f2 f3 l1 p1 hL0 hL1
      have g0 : (0 : Int) ≤ (k : Int) := by omega
      have g1 : (k : Int) ≤ (a0.size : Int) := by omega
      have r1 : (a0.extract 0 k).size = k := by simp; omega
      have r2 : (a0.extract k a0.size).size = a0.size - k := by simp
      have n1 : ¬ (9223372036854775807 < k + 1) := by omega
      have n2 : ¬ (9223372036854775807 < min k a0.size + 1) := by omega
      have n3 : ¬ (9223372036854775807 < k + 1 + (a0.size - k)) := by omega
      have n4 : ¬ (9223372036854775807 < min k a0.size + 1 + (a0.size - k)) := by omega
      have m1 : min k a0.size = k := by omega
      by_cases hke : k < a0.size
      · have p2 := put_size a0 k (k + 1) c hk hke
        have l2 := lev_set a0 k c hke
        have p3 := cut_size a0 k hke
        have l3 := lev_cut a0 k hke
        have f4 := fun h w => far_ok a0 (cut a0 k) w hab.1 h
        have f5 := fun h w => far_ok a0 (put a0 k (k + 1) (one c)) w hab.1 h
        rw [l3, p3] at f4
        rw [l2, p2] at f5
        have F4 := Lib.hid f4; have F5 := Lib.hid f5
        clear f4 f5 l2 l3 p2 p3
        have g2 : (k : Int) + 1 ≤ (a0.size : Int) := by omega
        have g3 : IntKind.i64.wrap ((k : Int) + 1) = (k : Int) + 1 := IntWalk.i64_in _ (by omega)
        have g4 : (0 : Int) ≤ (k : Int) + 1 := by omega
        have r3 : (a0.extract (k + 1) a0.size).size = a0.size - (k + 1) := by simp
        have n5 : ¬ (9223372036854775807 < k + 1 + (a0.size - (k + 1))) := by omega
        have n6 : ¬ (9223372036854775807 < min k a0.size + 1 + (a0.size - (k + 1))) := by omega
        have n7 : ¬ (9223372036854775807 < k + (a0.size - (k + 1))) := by omega
        have n8 : ¬ (9223372036854775807 < min k a0.size + (a0.size - (k + 1))) := by omega
        by_cases heq : a0[k] = c
        · rw [if_pos heq] at F5
          have hq : (((a0[k]).toNat : Int) == (c.toNat : Int)) = true := by rw [heq]; simp
          have hq2 : (((a0[k]).toNat : Int) != (c.toNat : Int)) = false := by rw [heq]; simp
          clear heq
          by_cases hlt : a0.size < 24
          · go_enter Try.func8, Try.ntmps8
            go_wp2_with fail
            refine (fact_any _).mono ?_
            rintro e w1 ⟨rfl, hb1⟩
            go_wp2_with fail
            refine (F1.out _).mono ?_
            rintro e w2 ⟨rfl, hb2⟩
            go_wp2_with fail
            refine (in_yes (by omega) (by omega) _).mono ?_
            rintro e w4 ⟨rfl, rfl⟩
            have hcv := byte_string c w2.heap.size (w2.alloc (.cells #[.int .u8 (c.toNat : Int)] 5)) (by simp)
            have hb4 := bmore (bnext hb1 hb2) (.cells #[.int .u8 (c.toNat : Int)] 5)
            clear hb1 hb2
            go_wp2_with fail
            clear hcv
            go_region_held3 (fun w' => True) (trivial) ((go_at_call 17; refine (F2.out (by omega) _).mono ?_; rintro e w5 ⟨rfl, hb5⟩))
            have hb5' := bnext (Below.drew hb4) hb5
            clear hb5
            go_wp2_with fail
            go_region_held3 (fun w' => True) (trivial) ((go_at_call 17; refine (F3.out (by omega) _).mono ?_; rintro e w6 ⟨rfl, hb6⟩))
            have hb6' := bnext (Below.drew hb5') hb6
            clear hb6
            go_wp2_with fail
            go_region_held3 (fun w' => True) (trivial) ((go_at_call 17; refine (F4.out (by omega) _).mono ?_; rintro e w7 ⟨rfl, hb7⟩))
            have hb7' := bnext (Below.drew hb6') hb7
            clear hb7
            go_wp2_with fail
            go_region_held3 (fun w' => True) (trivial) ((go_at_call 17; refine (F5.out (by omega) _).mono ?_; rintro e w8 ⟨rfl, hb8⟩))
            have hb8' := bnext (Below.drew hb7') hb8
            clear hb8
            go_wp2_with fail
            go_ret
            exact ⟨rfl, hb8'⟩
          · go_enter Try.func8, Try.ntmps8
            go_wp2_with fail
            refine (fact_any _).mono ?_
            rintro e w1 ⟨rfl, hb1⟩
            go_wp2_with fail
            refine (F1.out _).mono ?_
            rintro e w2 ⟨rfl, hb2⟩
            go_wp2_with fail
            refine (in_yes (by omega) (by omega) _).mono ?_
            rintro e w4 ⟨rfl, rfl⟩
            have hcv := byte_string c w2.heap.size (w2.alloc (.cells #[.int .u8 (c.toNat : Int)] 5)) (by simp)
            have hb4 := bmore (bnext hb1 hb2) (.cells #[.int .u8 (c.toNat : Int)] 5)
            clear hb1 hb2
            go_wp2_with fail
            clear hcv
            go_region_held3 (fun w' => True) (trivial) ((go_at_call 17; refine (F4.out (by omega) _).mono ?_; rintro e w7 ⟨rfl, hb7⟩))
            have hb7' := bnext (Below.drew hb4) hb7
            clear hb7
            go_wp2_with fail
            go_region_held3 (fun w' => True) (trivial) ((go_at_call 17; refine (F5.out (by omega) _).mono ?_; rintro e w8 ⟨rfl, hb8⟩))
            have hb8' := bnext (Below.drew hb7') hb8
            clear hb8
            go_wp2_with fail
            go_ret
            exact ⟨rfl, hb8'⟩
        · rw [if_neg heq] at F5
          have hne : ¬ (a0[k].toNat = c.toNat) := fun h => heq (UInt8.toNat_inj.1 h)
          have hq : (((a0[k]).toNat : Int) == (c.toNat : Int)) = false := by rw [beq_eq_false_iff_ne]; intro h; exact hne (by omega)
          have hq2 : (((a0[k]).toNat : Int) != (c.toNat : Int)) = true := by rw [bne_iff_ne]; intro h; exact hne (by omega)
          clear heq
          by_cases hlt : a0.size < 24
          · go_enter Try.func8, Try.ntmps8
            go_wp2_with fail
            refine (fact_any _).mono ?_
            rintro e w1 ⟨rfl, hb1⟩
            go_wp2_with fail
            refine (F1.out _).mono ?_
            rintro e w2 ⟨rfl, hb2⟩
            go_wp2_with fail
            refine (in_yes (by omega) (by omega) _).mono ?_
            rintro e w4 ⟨rfl, rfl⟩
            have hcv := byte_string c w2.heap.size (w2.alloc (.cells #[.int .u8 (c.toNat : Int)] 5)) (by simp)
            have hb4 := bmore (bnext hb1 hb2) (.cells #[.int .u8 (c.toNat : Int)] 5)
            clear hb1 hb2
            go_wp2_with fail
            clear hcv
            go_region_held3 (fun w' => True) (trivial) ((go_at_call 17; refine (F2.out (by omega) _).mono ?_; rintro e w5 ⟨rfl, hb5⟩))
            have hb5' := bnext (Below.drew hb4) hb5
            clear hb5
            go_wp2_with fail
            go_region_held3 (fun w' => True) (trivial) ((go_at_call 17; refine (F3.out (by omega) _).mono ?_; rintro e w6 ⟨rfl, hb6⟩))
            have hb6' := bnext (Below.drew hb5') hb6
            clear hb6
            go_wp2_with fail
            go_region_held3 (fun w' => True) (trivial) ((go_at_call 17; refine (F4.out (by omega) _).mono ?_; rintro e w7 ⟨rfl, hb7⟩))
            have hb7' := bnext (Below.drew hb6') hb7
            clear hb7
            go_wp2_with fail
            go_region_held3 (fun w' => True) (trivial) ((go_at_call 17; refine (F5.out (by omega) _).mono ?_; rintro e w8 ⟨rfl, hb8⟩))
            have hb8' := bnext (Below.drew hb7') hb8
            clear hb8
            go_wp2_with fail
            go_ret
            exact ⟨rfl, hb8'⟩
          · go_enter Try.func8, Try.ntmps8
            go_wp2_with fail
            refine (fact_any _).mono ?_
            rintro e w1 ⟨rfl, hb1⟩
            go_wp2_with fail
            refine (F1.out _).mono ?_
            rintro e w2 ⟨rfl, hb2⟩
            go_wp2_with fail
            refine (in_yes (by omega) (by omega) _).mono ?_
            rintro e w4 ⟨rfl, rfl⟩
            have hcv := byte_string c w2.heap.size (w2.alloc (.cells #[.int .u8 (c.toNat : Int)] 5)) (by simp)
            have hb4 := bmore (bnext hb1 hb2) (.cells #[.int .u8 (c.toNat : Int)] 5)
            clear hb1 hb2
            go_wp2_with fail
            clear hcv
            go_region_held3 (fun w' => True) (trivial) ((go_at_call 17; refine (F4.out (by omega) _).mono ?_; rintro e w7 ⟨rfl, hb7⟩))
            have hb7' := bnext (Below.drew hb4) hb7
            clear hb7
            go_wp2_with fail
            go_region_held3 (fun w' => True) (trivial) ((go_at_call 17; refine (F5.out (by omega) _).mono ?_; rintro e w8 ⟨rfl, hb8⟩))
            have hb8' := bnext (Below.drew hb7') hb8
            clear hb8
            go_wp2_with fail
            go_ret
            exact ⟨rfl, hb8'⟩
      · have hge : a0.size ≤ k := by omega
        clear hke
        by_cases hlt : a0.size < 24
        · go_enter Try.func8, Try.ntmps8
          go_wp2_with fail
          refine (fact_any _).mono ?_
          rintro e w1 ⟨rfl, hb1⟩
          go_wp2_with fail
          refine (F1.out _).mono ?_
          rintro e w2 ⟨rfl, hb2⟩
          go_wp2_with fail
          refine (in_yes (by omega) (by omega) _).mono ?_
          rintro e w4 ⟨rfl, rfl⟩
          have hcv := byte_string c w2.heap.size (w2.alloc (.cells #[.int .u8 (c.toNat : Int)] 5)) (by simp)
          have hb4 := bmore (bnext hb1 hb2) (.cells #[.int .u8 (c.toNat : Int)] 5)
          clear hb1 hb2
          go_wp2_with fail
          clear hcv
          go_region_held3 (fun w' => True) (trivial) ((go_at_call 17; refine (F2.out (by omega) _).mono ?_; rintro e w5 ⟨rfl, hb5⟩))
          have hb5' := bnext (Below.drew hb4) hb5
          clear hb5
          go_wp2_with fail
          go_region_held3 (fun w' => True) (trivial) ((go_at_call 17; refine (F3.out (by omega) _).mono ?_; rintro e w6 ⟨rfl, hb6⟩))
          have hb6' := bnext (Below.drew hb5') hb6
          clear hb6
          go_wp2_with fail
          go_ret
          exact ⟨rfl, hb6'⟩
        · go_enter Try.func8, Try.ntmps8
          go_wp2_with fail
          refine (fact_any _).mono ?_
          rintro e w1 ⟨rfl, hb1⟩
          go_wp2_with fail
          refine (F1.out _).mono ?_
          rintro e w2 ⟨rfl, hb2⟩
          go_wp2_with fail
          refine (in_yes (by omega) (by omega) _).mono ?_
          rintro e w4 ⟨rfl, rfl⟩
          have hcv := byte_string c w2.heap.size (w2.alloc (.cells #[.int .u8 (c.toNat : Int)] 5)) (by simp)
          have hb4 := bmore (bnext hb1 hb2) (.cells #[.int .u8 (c.toNat : Int)] 5)
          clear hb1 hb2
          go_wp2_with fail
          clear hcv
          go_ret
          exact ⟨rfl, hb4⟩
    · go_enter Try.func8, Try.ntmps8
      go_wp2_with fail
      refine (fact_any _).mono ?_
      rintro e w1 ⟨rfl, hb1⟩
      go_wp2_with fail
      refine (f1 _).mono ?_
      rintro e w2 ⟨rfl, hb2⟩
      go_wp2_with fail
      refine (in_no hin _).mono ?_
      rintro e w4 ⟨rfl, rfl⟩
      go_wp2_with fail
      go_ret
      exact ⟨rfl, bnext hb1 hb2⟩
  · go_enter Try.func8, Try.ntmps8
    go_wp2_with fail
    refine (fact_any _).mono ?_
    rintro e w1 ⟨rfl, hb1⟩
    go_wp2_with fail
    refine (far_no a0 a1 _ hab).mono ?_
    rintro e w2 ⟨rfl, hb2⟩
    go_wp2_with fail
    go_ret
    exact ⟨rfl, bnext hb1 hb2⟩
end Go.Proofs.Ytjlgjadkcpdpmaa.Ed
namespace Go.Proofs.Ytjlgjadkcpdpmaa.editOne
abbrev walk := @Ed.walkOne
end Go.Proofs.Ytjlgjadkcpdpmaa.editOne
