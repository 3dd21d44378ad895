/-
  The walk of the law RiseSays: for every list the functions of package rise answer what the reference answers; no condition.
-/
import Derived.Test.YtlchgjlinhakdaaDoorAs
import Derived.Test.YtlchgjlinhakdaaDoorRsRefShape
import Derived.Test.YtlchgjlinhakdaaDoorInts
namespace Go.Proofs.YtlchgjlinhakdaaDoor.riseSays
open Go.RowKit Rs
set_option linter.unusedVariables false

theorem ints_same (A B : Option Addr) (c d : Nat) (l : List Int) (w : World) (hl : Reads w A l.length 1 (ints l)) (hm : Reads w B l.length 1 (ints l)) (h1 : l.length ≤ maxLen) :
    Calls Tryd.prog 13 #[.slice A l.length c, .slice B l.length d] w fun e w' => e = .returned (.bool true) ∧ Below w.heap.size w w' := by
  have := ints_any A B c d l l w hl hm h1
  simpa using this
theorem shape_length (l : List Int) (h : chk l = 0) : (Rs.shape l).length ≤ l.length := by
  unfold Rs.shape
  rw [List.length_map]
  exact (good_rowsOf l (chk_ok h).2).len
theorem row_up (A : Option Addr) (cap : Nat) (l : List Int) (w : World) (hr : Reads w A l.length 1 (ints l)) (hlen : l.length ≤ 20) :
    Calls Tryd.prog 7 #[.slice A l.length cap, .bool true] w fun e w' => e = .returned (.int .i64 (piles l).length) ∧ Below w.heap.size w w' := by
  have := row_any true A cap l w hr hlen
  rwa [show grow (cB true) l = (piles l).length from grow_up l] at this
theorem row_down (A : Option Addr) (cap : Nat) (l : List Int) (w : World) (hr : Reads w A l.length 1 (ints l)) (hlen : l.length ≤ 20) :
    Calls Tryd.prog 7 #[.slice A l.length cap, .bool false] w fun e w' => e = .returned (.int .i64 (fall l)) ∧ Below w.heap.size w w' := by
  have := row_any false A cap l w hr hlen
  rwa [show grow (cB false) l = fall l from grow_down l] at this

set_option maxHeartbeats 2000000 in
theorem walk_ok (w : World) (A : Option Addr) (cap : Nat) (l : List Int) (hr : Reads w A l.length 1 (ints l)) (hcap : l.length ≤ cap) (hg : As.Laid w) (h : chk l = 0) :
    Calls Tryd.prog 3 #[.slice A l.length cap] w fun e w' => e = .returned (.bool true) ∧ Below w.heap.size w w' := by
  have hlen := (chk_ok h).1
  have hm : l.length ≤ maxLen := by unfold maxLen; omega
  have f1 := fun w' hr' => reflist_any A cap l w' hr' hm
  rw [h] at f1
  have f2 := fun w' hr' => check_ok A cap l w' hr' h
  have f3 := fun w' hr' => row_up A cap l w' hr' hlen
  have f4 := fun w' hr' => row_down A cap l w' hr' hlen
  have f5 := fun w' hr' => refpiles_any A cap l w' hr' hlen
  have f6 := fun w' hr' => refshape_any A cap l w' hr' h
  have f7 := fun w' hr' => long_ok A cap l w' hr' h
  have f8 := fun w' hr' => fall_ok A cap l w' hr' hcap h
  have f9 := fun w' hr' => piles_ok A cap l w' hr' h
  have f10 := fun w' hr' => shape_ok A cap l w' hr' h
  have l1 := piles_le l
  have l2 := shape_length l h
  generalize piles l = P at *
  generalize Rs.shape l = S at *
  generalize fall l = D at *
  have F1 := Lib.hid f1; have F2 := Lib.hid f2; have F3 := Lib.hid f3; have F4 := Lib.hid f4; have F5 := Lib.hid f5
  have F6 := Lib.hid f6; have F7 := Lib.hid f7; have F8 := Lib.hid f8; have F9 := Lib.hid f9; have F10 := Lib.hid f10
  have HR := Lib.hid (fun (w' : World) (hb : Below w.heap.size w w') => hr.below hb)
  clear f1 f2 f3 f4 f5 f6 f7 f8 f9 f10 hr hg h
  go_enter Tryd.func3, Tryd.ntmps3
  go_wp2_with fail
  refine (F1.out _ (HR.out _ (Below.refl _ _))).mono ?_
  rintro e w0 ⟨rfl, rfl⟩
  go_wp2_with fail
  refine (F2.out _ (HR.out _ (Below.refl _ _))).mono ?_
  rintro e w0 ⟨rfl, rfl⟩
  go_wp2_with fail
  refine (As.error_ok _).mono ?_
  rintro e w1 ⟨rfl, hb1⟩
  go_wp2_with fail
  refine (F3.out _ (HR.out _ hb1)).mono ?_
  rintro e w2 ⟨rfl, hb⟩
  have hb2 := bnext hb1 hb
  clear hb
  go_wp2_with fail
  refine (F4.out _ (HR.out _ hb2)).mono ?_
  rintro e w3 ⟨rfl, hb⟩
  have hb3 := bnext hb2 hb
  clear hb
  go_wp2_with fail
  refine (F5.out _ (HR.out _ hb3)).mono ?_
  rintro e w4 ⟨v4, rfl, ho4, hb⟩
  obtain ⟨A4, c4, e⟩ := own_slice ho4
  subst e
  have R4 := Lib.hid (fun (w' : World) (hb : Below w4.heap.size w4 w') => (Reads.of_own ho4).below hb)
  have hb4 := bnext hb3 hb
  clear hb ho4
  go_wp2_with fail
  refine (F6.out _ (HR.out _ hb4)).mono ?_
  rintro e w5 ⟨v5, rfl, ho5, hb⟩
  obtain ⟨A5, c5, e⟩ := own_slice ho5
  subst e
  have R5 := Lib.hid (fun (w' : World) (hb : Below w5.heap.size w5 w') => (Reads.of_own ho5).below hb)
  have R4' := Lib.hid (fun (w' : World) (hb' : Below w5.heap.size w5 w') => R4.out w' (bnext hb hb'))
  have hb5 := bnext hb4 hb
  clear hb ho5 R4
  go_wp2_with fail
  refine (F7.out _ (HR.out _ hb5)).mono ?_
  rintro e w6 ⟨rfl, g6⟩
  have hb6 := bnext hb5 g6
  go_wp2_with fail
  refine (As.error_ok _).mono ?_
  rintro e w7 ⟨rfl, hb⟩
  have hb7 := bnext hb6 hb
  have g7 := bnext g6 hb
  clear hb
  go_wp2_with fail
  refine (F8.out _ (HR.out _ hb7)).mono ?_
  rintro e w8 ⟨rfl, hb⟩
  have hb8 := bnext hb7 hb
  have g8 := bnext g7 hb
  clear hb
  go_wp2_with fail
  refine (As.error_ok _).mono ?_
  rintro e w9 ⟨rfl, hb⟩
  have hb9 := bnext hb8 hb
  have g9 := bnext g8 hb
  clear hb
  go_wp2_with fail
  refine (F9.out _ (HR.out _ hb9)).mono ?_
  rintro e w10 ⟨v10, rfl, ho10, hb⟩
  obtain ⟨A10, c10, e⟩ := own_slice ho10
  subst e
  have hb10 := bnext hb9 hb
  have g10 := bnext g9 hb
  have R10 := Lib.hid (fun (w' : World) (hb : Below w10.heap.size w10 w') => (Reads.of_own ho10).below hb)
  clear hb ho10
  go_wp2_with fail
  refine (As.error_ok _).mono ?_
  rintro e w11 ⟨rfl, g⟩
  have hb11 := bnext hb10 g
  have g11 := bnext g10 g
  go_wp2_with fail
  refine (ints_same _ _ _ _ P _ (R10.out _ g) (R4'.out _ g11) (by unfold maxLen; omega)).mono ?_
  rintro e w12 ⟨rfl, hb⟩
  have hb12 := bnext hb11 hb
  have g12 := bnext g11 hb
  clear hb g
  go_wp2_with fail
  refine (F10.out _ (HR.out _ hb12)).mono ?_
  rintro e w13 ⟨v13, rfl, ho13, hb⟩
  obtain ⟨A13, c13, e⟩ := own_slice ho13
  subst e
  have hb13 := bnext hb12 hb
  have g13 := bnext g12 hb
  have R13 := Lib.hid (fun (w' : World) (hb : Below w13.heap.size w13 w') => (Reads.of_own ho13).below hb)
  clear hb ho13
  go_wp2_with fail
  refine (As.error_ok _).mono ?_
  rintro e w14 ⟨rfl, g⟩
  have hb14 := bnext hb13 g
  have g14 := bnext g13 g
  go_wp2_with fail
  refine (ints_same _ _ _ _ S _ (R13.out _ g) (R5.out _ g14) (by unfold maxLen; omega)).mono ?_
  rintro e w15 ⟨rfl, hb⟩
  have hb15 := bnext hb14 hb
  go_wp2
  go_ret
  exact ⟨rfl, hb15⟩

set_option maxHeartbeats 2000000 in
theorem walk_no (w : World) (A : Option Addr) (cap : Nat) (l : List Int) (hr : Reads w A l.length 1 (ints l)) (hm : l.length ≤ maxLen) (hg : As.Laid w) (h : chk l ≠ 0) :
    Calls Tryd.prog 3 #[.slice A l.length cap] w fun e w' => e = .returned (.bool true) ∧ Below w.heap.size w w' := by
  have f1 := fun w' hr' => reflist_any A cap l w' hr' hm
  have f2 := fun w' hr' => check_no A cap l w' hr' hm h
  have f7 := fun w' hr' => long_no A cap l w' hr' hm h
  have f8 := fun w' hr' => fall_no A cap l w' hr' hm h
  have f9 := fun w' hr' => piles_no A cap l w' hr' hm h
  have f10 := fun w' hr' => shape_no A cap l w' hr' hm h
  generalize chk l = K at *
  have F3 := Lib.hid (fun w' (hb : Below w.heap.size w w') => As.error_no K h w' (hg.below hb))
  have F1 := Lib.hid f1; have F2 := Lib.hid f2
  have F7 := Lib.hid f7; have F8 := Lib.hid f8; have F9 := Lib.hid f9; have F10 := Lib.hid f10
  have HR := Lib.hid (fun (w' : World) (hb : Below w.heap.size w w') => hr.below hb)
  clear f1 f2 f7 f8 f9 f10 hr hg
  go_enter Tryd.func3, Tryd.ntmps3
  go_wp2_with fail
  refine (F1.out _ (HR.out _ (Below.refl _ _))).mono ?_
  rintro e w0 ⟨rfl, rfl⟩
  go_wp2_with fail
  refine (F2.out _ (HR.out _ (Below.refl _ _))).mono ?_
  rintro e w0 ⟨rfl, rfl⟩
  go_wp2_with fail
  refine (F3.out _ (Below.refl _ _)).mono ?_
  rintro e w1 ⟨rfl, hb1⟩
  go_wp2_with fail
  refine (F7.out _ (HR.out _ hb1)).mono ?_
  rintro e w6 ⟨rfl, hb⟩
  have hb6 := bnext hb1 hb
  clear hb
  go_wp2_with fail
  refine (F3.out _ hb6).mono ?_
  rintro e w7 ⟨rfl, hb⟩
  have hb7 := bnext hb6 hb
  clear hb
  go_wp2_with fail
  refine (F8.out _ (HR.out _ hb7)).mono ?_
  rintro e w8 ⟨rfl, hb⟩
  have hb8 := bnext hb7 hb
  clear hb
  go_wp2_with fail
  refine (F3.out _ hb8).mono ?_
  rintro e w9 ⟨rfl, hb⟩
  have hb9 := bnext hb8 hb
  clear hb
  go_wp2_with fail
  refine (F9.out _ (HR.out _ hb9)).mono ?_
  rintro e w10 ⟨rfl, hb⟩
  have hb10 := bnext hb9 hb
  clear hb
  go_wp2_with fail
  refine (F3.out _ hb10).mono ?_
  rintro e w11 ⟨rfl, hb⟩
  have hb11 := bnext hb10 hb
  clear hb
  go_wp2_with fail
  refine (ints_same _ _ _ _ [] _ (Reads.nil _ _) (Reads.nil _ _) (by decide)).mono ?_
  rintro e w12 ⟨rfl, hb⟩
  have hb12 := bnext hb11 hb
  clear hb
  go_wp2_with fail
  refine (F10.out _ (HR.out _ hb12)).mono ?_
  rintro e w13 ⟨rfl, hb⟩
  have hb13 := bnext hb12 hb
  clear hb
  go_wp2_with fail
  refine (F3.out _ hb13).mono ?_
  rintro e w14 ⟨rfl, hb⟩
  have hb14 := bnext hb13 hb
  clear hb
  go_wp2_with fail
  refine (ints_same _ _ _ _ [] _ (Reads.nil _ _) (Reads.nil _ _) (by decide)).mono ?_
  rintro e w15 ⟨rfl, hb⟩
  have hb15 := bnext hb14 hb
  go_wp2
  go_ret
  exact ⟨rfl, hb15⟩

theorem walk (w : World) (A : Option Addr) (cap : Nat) (l : List Int) (hs : l.length * 8 ≤ 140737488351232) (hrg : ∀ n ∈ l, -9223372036854775808 ≤ n ∧ n ≤ 9223372036854775807) (hi : Reads w A l.length 1 (l.map (Value.int .i64)) ∧ l.length ≤ cap) (hg : As.Laid w) :
    Calls Tryd.prog 3 #[.slice A l.length cap] w fun e w' => e = .returned (.bool true) ∧ Below w.heap.size w w' := by
  obtain ⟨hr, hcap⟩ := hi
  by_cases h : chk l = 0
  · exact walk_ok w A cap l hr hcap hg h
  · exact walk_no w A cap l hr (by unfold maxLen; omega) hg h
end Go.Proofs.YtlchgjlinhakdaaDoor.riseSays
