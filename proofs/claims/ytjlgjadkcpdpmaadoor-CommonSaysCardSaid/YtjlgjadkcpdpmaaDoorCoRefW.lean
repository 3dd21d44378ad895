/-
  The walks of the reference's Within, better and Common (letterbeckref2).
-/
import Derived.Test.YtjlgjadkcpdpmaaDoorCoRef
import Derived.Test.YtjlgjadkcpdpmaaDoorCoBefore
import Derived.Test.YtjlgjadkcpdpmaaDoorCoTab
import Derived.Deep.RegionHeld3
namespace Go.Proofs.YtjlgjadkcpdpmaaDoor.Co
open Go.RowKit
set_option linter.unusedVariables false

theorem bs_tail' (s : ByteArray) : bs (s.extract 1 s.size) = (bs s).tail := by
  show (s.extract 1 s.size).data.toList = s.data.toList.tail
  rw [ByteArray.data_extract, Array.toList_extract, List.extract_eq_take_drop]
  have : s.data.toList.length = s.size := by simp
  rw [List.take_of_length_le (by rw [List.length_drop]; omega), List.drop_one]
set_option maxHeartbeats 1000000 in
theorem refwithin_any : ∀ (n : Nat) (a b : ByteArray) (w : World), b.size = n → n ≤ 24 → a.size ≤ 24 →
    Calls Tryd.prog 11 #[.string a, .string b] w fun e w' => e = .returned (.bool (gr (bs a) (bs b)).isEmpty) ∧ Below w.heap.size w w' := by
  intro n
  induction n with
  | zero =>
    intro a b w hb _ ha
    have hbn : bs b = [] := List.eq_nil_of_length_eq_zero (by rw [bs_length]; exact hb)
    rw [hbn]
    by_cases ha0 : a.size = 0
    · have han : bs a = [] := List.eq_nil_of_length_eq_zero (by rw [bs_length]; exact ha0)
      rw [han]
      have z : (a.size : Int) = 0 := by omega
      go_enter Tryd.func11, Tryd.ntmps11
      go_wp2
      go_ret
      exact ⟨rfl, Below.refl _ _⟩
    · obtain ⟨x, l, han⟩ : ∃ x l, bs a = x :: l := by
        cases h : bs a with
        | nil => have := bs_length a; rw [h] at this; simp at this; omega
        | cons x l => exact ⟨x, l, rfl⟩
      rw [han]
      have z : (b.size : Int) = 0 := by omega
      have z2 : ((a.size : Int) == 0) = false := by rw [beq_eq_false_iff_ne]; omega
      have hg : (gr (x :: l) []).isEmpty = false := rfl
      rw [hg]
      clear hg hb
      go_enter Tryd.func11, Tryd.ntmps11
      go_wp2
      go_ret
      exact ⟨rfl, Below.refl _ _⟩
  | succ n ih =>
    intro a b w hb hn ha
    by_cases ha0 : a.size = 0
    · have han : bs a = [] := List.eq_nil_of_length_eq_zero (by rw [bs_length]; exact ha0)
      rw [han, gr_nil]
      have z : (a.size : Int) = 0 := by omega
      go_enter Tryd.func11, Tryd.ntmps11
      go_wp2
      go_ret
      exact ⟨rfl, Below.refl _ _⟩
    · have h0a : 0 < a.size := by omega
      have h0b : 0 < b.size := by omega
      have da := bs_drop a 0 h0a
      have db := bs_drop b 0 h0b
      rw [List.drop_zero] at da db
      have q1 : ∀ w, (Instr.index 9 (.string a) (.int .i64 0)).run Tryd.prog w = .ok (.int .u8 (a[0].toNat : Int)) w := fun w => index_at a 0 _ h0a rfl w
      have q2 : ∀ w, (Instr.index 9 (.string b) (.int .i64 0)).run Tryd.prog w = .ok (.int .u8 (b[0].toNat : Int)) w := fun w => index_at b 0 _ h0b rfl w
      have sb : (b.extract 1 b.size).size = n := by simp; omega
      have sa : (a.extract 1 a.size).size ≤ 24 := by simp; omega
      have i1 := fun w => ih (a.extract 1 a.size) (b.extract 1 b.size) w sb (by omega) sa
      have i2 := fun w => ih a (b.extract 1 b.size) w sb (by omega) ha
      rw [bs_tail', bs_tail', da, db] at i1
      rw [bs_tail', da, db] at i2
      rw [da, db, gr_cons]
      have z1 : ((a.size : Int) == 0) = false := by rw [beq_eq_false_iff_ne]; omega
      have z2 : ((b.size : Int) == 0) = false := by rw [beq_eq_false_iff_ne]; omega
      have z3 : (1 : Int) ≤ (a.size : Int) := by omega
      have z4 : (1 : Int) ≤ (b.size : Int) := by omega
      simp only [List.tail_cons] at i1 i2
      rw [show List.drop (0 + 1) (bs a) = (bs a).tail from List.drop_one, show List.drop (0 + 1) (bs b) = (bs b).tail from List.drop_one]
      simp only [show List.drop (0 + 1) (bs a) = (bs a).tail from List.drop_one, show List.drop (0 + 1) (bs b) = (bs b).tail from List.drop_one] at i1 i2
      generalize (bs a).tail = la at *
      generalize (bs b).tail = lb at *
      generalize a[0] = x at *
      generalize b[0] = y at *
      have I1 := Lib.hid i1; have I2 := Lib.hid i2
      clear i1 i2 ih da db sa sb hb ha0
      by_cases hxy : x = y
      · rw [if_pos hxy]
        have heq : ((x.toNat : Int) == (y.toNat : Int)) = true := by rw [hxy]; simp
        clear hxy
        go_enter Tryd.func11, Tryd.ntmps11
        go_wp2
        go_quiet (fail)
        go_wp2
        go_region_held3 (fun w' => True) (trivial) ((go_at_call 11; refine (I1.out _).mono ?_; rintro e w3 ⟨rfl, hb3⟩))
        all_goals
          go_wp2
          go_ret
          exact ⟨rfl, by first | exact bnext (bdrew (Below.refl _ _) _) hb3 | exact bnext (Below.drew (bdrew (Below.refl _ _) _)) hb3⟩
      · rw [if_neg hxy]
        have heq : ((x.toNat : Int) == (y.toNat : Int)) = false := by
          have : ¬ x.toNat = y.toNat := fun h => hxy (UInt8.toNat_inj.1 h)
          rw [beq_eq_false_iff_ne]; omega
        clear hxy
        go_enter Tryd.func11, Tryd.ntmps11
        go_wp2
        go_quiet (fail)
        go_wp2_with fail
        refine (I2.out _).mono ?_
        rintro e w3 ⟨rfl, hb3⟩
        go_wp2
        go_ret
        exact ⟨rfl, bnext (bdrew (Below.refl _ _) _) hb3⟩
def strV (l : List UInt8) : Value := .string ⟨l.toArray⟩
theorem size_mk (l : List UInt8) : (⟨l.toArray⟩ : ByteArray).size = l.length := by show l.toArray.size = _; simp
theorem better_any (a b : List UInt8) (w : World) (ha : a.length ≤ 1000) (hb : b.length ≤ 1000) :
    Calls Tryd.prog 16 #[strV a, strV b] w fun e w' => e = .returned (strV (better a b)) ∧ Below w.heap.size w w' := by
  have hB := fun w => before_any ⟨a.toArray⟩ ⟨b.toArray⟩ w (by rw [size_mk]; omega) (by rw [size_mk]; omega)
  have e1 : bs ⟨a.toArray⟩ = a := by simp [bs]
  have e2 : bs ⟨b.toArray⟩ = b := by simp [bs]
  rw [e1, e2] at hB
  have sA := size_mk a
  have sB := size_mk b
  unfold strV
  unfold better
  generalize hA' : (⟨a.toArray⟩ : ByteArray) = A at *
  generalize hB' : (⟨b.toArray⟩ : ByteArray) = B at *
  have HB := Lib.hid hB
  clear hB e1 e2
  by_cases h1 : b.length < a.length
  · rw [if_pos (.inl h1)]
    have z1 : (B.size : Int) < (A.size : Int) := by omega
    rw [hA']
    clear hA' hB'
    go_enter Tryd.func16, Tryd.ntmps16
    go_wp2
    go_ret
    exact ⟨rfl, Below.refl _ _⟩
  · have z1 : ¬ (B.size : Int) < (A.size : Int) := by omega
    by_cases h2 : a.length = b.length
    · have z2 : ((A.size : Int) == (B.size : Int)) = true := by rw [beq_iff_eq]; omega
      cases h3 : before a b
      · rw [h3] at HB
        rw [if_neg (by simp; omega)]
        rw [hB']
        clear hA' hB' h3
        go_enter Tryd.func16, Tryd.ntmps16
        go_wp2_with fail
        refine (HB.out _).mono ?_
        rintro e w3 ⟨rfl, hb3⟩
        go_wp2
        go_ret
        exact ⟨rfl, hb3⟩
      · rw [h3] at HB
        rw [if_pos (.inr ⟨h2, rfl⟩)]
        rw [hA']
        clear hA' hB' h3
        go_enter Tryd.func16, Tryd.ntmps16
        go_wp2_with fail
        refine (HB.out _).mono ?_
        rintro e w3 ⟨rfl, hb3⟩
        go_wp2
        go_ret
        exact ⟨rfl, hb3⟩
    · have z2 : ((A.size : Int) == (B.size : Int)) = false := by rw [beq_eq_false_iff_ne]; omega
      rw [if_neg (by rintro (h | ⟨h, _⟩) <;> omega)]
      rw [hB']
      clear hA' hB'
      go_enter Tryd.func16, Tryd.ntmps16
      go_wp2
      go_ret
      exact ⟨rfl, Below.refl _ _⟩
end Go.Proofs.YtjlgjadkcpdpmaaDoor.Co
