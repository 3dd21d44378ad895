/-
  The walk of suffix.Count: how many texts stand in a text, each once.
-/
import Derived.Test.YthalaapfdjaapaaSfAlk
namespace Go.Proofs.Ythalaapfdjaapaa
open Go.RowKit
set_option linter.unusedVariables false
set_option linter.unusedSimpArgs false

theorem alike_no (s : ByteArray) (w : World) (hs : 24 < s.size) :
    Calls Try.prog 13 #[.string s] w fun e w' => e = .returned (.tuple #[.slice none 0 0, .iface 56 (.int .i64 4)]) ∧ Below w.heap.size w w' := by
  go_enter Try.func13, Try.ntmps13
  go_wp2_with fail
  refine (order_no s _ hs).mono ?_
  rintro e w1 ⟨rfl, hb1⟩
  go_wp2_with fail
  go_ret2
  exact ⟨rfl, hb1⟩
theorem count_no (s : ByteArray) (w : World) (hs : 24 < s.size) :
    Calls Try.prog 14 #[.string s] w fun e w' => e = .returned (.tuple #[.int .i64 0, .iface 56 (.int .i64 4)]) ∧ Below w.heap.size w w' := by
  go_enter Try.func14, Try.ntmps14
  go_wp2_with fail
  refine (alike_no s _ hs).mono ?_
  rintro e w1 ⟨rfl, hb1⟩
  go_wp2_with fail
  go_ret2
  exact ⟨rfl, hb1⟩

theorem sum_take_le (l : List Nat) (t : Nat) : (l.take t).sum ≤ l.sum := by
  have := List.sum_append_nat (l₁ := l.take t) (l₂ := l.drop t)
  rw [List.take_append_drop] at this
  omega
set_option maxHeartbeats 1000000 in
set_option maxRecDepth 100000 in
theorem count_any (s : ByteArray) (w : World) (hs : s.size ≤ 24) :
    Calls Try.prog 14 #[.string s] w fun e w' => e = .returned (.tuple #[.int .i64 (many s.data.toList : Int), .nilIface]) ∧ Below w.heap.size w w' := by
  obtain ⟨l, hl⟩ : ∃ l, l = s.data.toList := ⟨_, rfl⟩
  have hln : l.length = s.size := by rw [hl]; simp
  have HAL := Lib.hid (fun (W : World) => alike_any s W hs)
  rw [← hl] at HAL ⊢
  have hall := alikeOf_length l
  have hma := many_alike l
  rw [hln] at hma hall
  obtain ⟨al, hal⟩ : ∃ al, al = alikeOf l := ⟨_, rfl⟩
  rw [← hal] at HAL hma hall
  obtain ⟨M, hM⟩ : ∃ M, M = many l := ⟨_, rfl⟩
  rw [← hM] at hma ⊢
  obtain ⟨T, hT⟩ : ∃ T, T = s.size * (s.size + 1) / 2 := ⟨_, rfl⟩
  rw [← hT] at hma
  have hTn : s.size * (s.size + 1) ≤ 600 := Nat.le_trans (Nat.mul_le_mul hs (Nat.succ_le_succ hs)) (by decide)
  have e1 : (s.size : Int) * ((s.size : Int) + 1) = ((s.size * (s.size + 1) : Nat) : Int) := by rw [Int.natCast_mul, Int.natCast_add]; rfl
  obtain ⟨X, hX⟩ : ∃ X, X = s.size * (s.size + 1) := ⟨_, rfl⟩
  rw [← hX] at hTn hT e1
  have e2 : (X : Int).tdiv 2 = (T : Int) := by rw [Int.tdiv_eq_ediv_of_nonneg (by omega)]; omega
  have k1 : (X : Int) ≤ 600 := by omega
  have k2 : (T : Int) ≤ 300 := by omega
  have HT := Lib.hid hT
  clear hal hM hT hX
  go_enter Try.func14, Try.ntmps14
  go_wp2_with fail
  refine (HAL.out _).mono ?_
  rintro e w1 ⟨A, c, rfl, hrd, hb1⟩
  clear HAL
  obtain ⟨n1, hn1⟩ : ∃ n1, n1 = s.size - 1 := ⟨_, rfl⟩
  rw [← hn1] at hrd hall ⊢
  have HN1 := Lib.hid hn1
  clear hn1
  go_wp2_with fail
  go_loopw [6, 8, 26, 27, 28, 29, 30, 31, 32, 33] (fun v6 _ v26 _ _ _ _ _ _ _ wr => ∃ t n : Nat, v6 = .int .i64 (n : Int) ∧ v26 = .int .i64 (t : Int) ∧ t ≤ n1 ∧ n + (al.take t).sum = T ∧ wr = w1) (fun _ _ v26 _ _ _ _ _ _ _ _ => n1 - (intOf v26).toNat)
  case atStart => exact ⟨0, T, rfl, rfl, by omega, by simp, rfl⟩
  case round =>
    obtain ⟨t, n, rfl, rfl, htn, hsum, rfl⟩ := hrel
    by_cases hlt : t < n1
    · have kk : (t : Int) < (n1 : Int) := by omega
      obtain ⟨b, of, rfl, hbl, hc⟩ := hrd.2 (by omega)
      obtain ⟨x, hx⟩ : ∃ x, al[t]? = some x := ⟨_, List.getElem?_eq_getElem (by omega)⟩
      have c0 := hc t (.int .i64 (x : Int)) (by rw [ints_get, natsI_get, hx]; rfl)
      have hs2 : (al.take (t + 1)).sum = (al.take t).sum + x := by
        rw [List.take_add_one, hx, List.sum_append_nat]; simp
      have hsl := sum_take_le al (t + 1)
      have hxn : x ≤ n := by omega
      obtain ⟨n2, hn2⟩ : ∃ n2, n2 = n - x := ⟨_, rfl⟩
      have e3 : (n : Int) - (x : Int) = (n2 : Int) := by omega
      have k3 : (n2 : Int) ≤ 300 := by omega
      have k4 : (t : Int) ≤ 24 := by have := HN1.out; omega
      have HR := Lib.hid (show n2 + (al.take (t + 1)).sum = T by omega)
      clear hs2 hsl hsum hx hc hn2
      go_wp2
      exact ⟨⟨t + 1, n2, rfl, by simp, by omega, HR.out, trivial⟩, by simp [intOf]; omega⟩
    · obtain rfl : t = n1 := by omega
      have kk : ¬ (t : Int) < (t : Int) := by omega
      rw [List.take_of_length_le (by omega)] at hsum
      have HS := Lib.hid hsum
      have HM := Lib.hid hma
      clear hsum hma
      go_wp2
      go_ret2
      refine ⟨?_, hb1⟩
      have h1 := HS.out
      have h2 := HM.out
      have : n = M := by omega
      rw [this]
      rfl
end Go.Proofs.Ythalaapfdjaapaa
