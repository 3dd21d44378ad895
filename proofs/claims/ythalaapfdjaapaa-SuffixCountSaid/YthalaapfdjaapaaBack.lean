/-
  The walk of letterbecksame.Back: the text, turned round.
-/
import Derived.Test.YthalaapfdjaapaaBase
namespace Go.Proofs.Ythalaapfdjaapaa
open Go.RowKit
set_option linter.unusedVariables false

/-- the first k bytes, turned round -/
def turned (s : ByteArray) (k : Nat) : ByteArray := ⟨(s.data.toList.take k).reverse.toArray⟩
theorem turned_succ (s : ByteArray) (k : Nat) (h : k < s.size) : s.extract k (k + 1) ++ turned s k = turned s (k + 1) := by
  apply ByteArray.ext
  apply Array.ext'
  have hk : k < s.data.toList.length := by simpa using h
  have e : (s.data.toList.take (k + 1)) = s.data.toList.take k ++ [s.data.toList[k]] := by rw [List.take_add_one, List.getElem?_eq_getElem hk]; rfl
  simp only [turned, ByteArray.data_append, ByteArray.data_extract, Array.toList_append, Array.toList_extract, e, List.reverse_append, List.reverse_cons, List.reverse_nil, List.nil_append, List.singleton_append]
  rw [List.extract_eq_take_drop, show k + 1 - k = 1 by omega, List.drop_eq_getElem_cons hk]
  rfl
theorem turned_zero (s : ByteArray) : turned s 0 = ⟨#[]⟩ := rfl
theorem turned_size (s : ByteArray) : turned s s.size = ⟨s.data.toList.reverse.toArray⟩ := by
  unfold turned
  rw [List.take_of_length_le (by simp)]
theorem turned_len (s : ByteArray) (k : Nat) : (turned s k).size ≤ s.size := by
  show (s.data.toList.take k).reverse.toArray.size ≤ s.size
  simp
  exact Nat.min_le_right _ _
theorem back_any (s : ByteArray) (w : World) (hs : s.size ≤ 140737488351232) : Calls Try.prog 15 #[.string s] w fun e w' => e = .returned (.string ⟨s.data.toList.reverse.toArray⟩) ∧ Below w.heap.size w w' := by
  go_enter Try.func15, Try.ntmps15
  go_wp2_with fail
  go_loopw [3, 4] (fun o i wr => ∃ k : Nat, k ≤ s.size ∧ i = .int .i64 k ∧ o = .string (turned s k) ∧ Below w.heap.size w wr) (fun _ i _ => s.size - (intOf i).toNat)
  case atStart => exact ⟨0, by omega, rfl, rfl, Below.refl _ _⟩
  case round =>
    obtain ⟨k, hk, rfl, rfl, hbel⟩ := hrel
    by_cases hlt : k < s.size
    · have hl := turned_len s k
      have hT := Lib.hid (turned_succ s k hlt)
      generalize turned s k = T at *
      go_wp2
      exact ⟨⟨k + 1, by omega, by go_num, congrArg Value.string hT.out, hbel⟩, by simp [intOf]; omega⟩
    · obtain rfl : k = s.size := by omega
      rw [turned_size]
      go_wp2
      go_ret
      exact ⟨rfl, hbel⟩

end Go.Proofs.Ythalaapfdjaapaa
