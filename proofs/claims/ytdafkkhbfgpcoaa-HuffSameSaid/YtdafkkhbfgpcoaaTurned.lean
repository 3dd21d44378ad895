/-
  The walk of letterbecksame.Turned.
-/
import Derived.Test.YtdafkkhbfgpcoaaApp
namespace Go.Proofs.Ytdafkkhbfgpcoaa
open Go.RowKit
set_option linter.unusedVariables false
set_option linter.unusedSimpArgs false

set_option maxHeartbeats 1000000 in
theorem turned_any (A : Option Addr) (c : Nat) (l : List Int) (w : World) (hr : Reads w A l.length 1 (ints l)) (hl : l.length ≤ 100000) :
    Calls Try.prog 12 #[.slice A l.length c] w fun e w' => ∃ v, e = .returned v ∧ w'.ownsRow w.heap.size 3 1 v l.length (ints l.reverse) ∧ Below w.heap.size w w' := by
  obtain ⟨i0, hi, hz0, hz1, hz2⟩ := info_parts infoI
  have w0 : IntKind.i64.wrap ((l.length : Int) - 1) = (l.length : Int) - 1 := IntWalk.i64_in _ (by omega)
  go_enter Try.func12, Try.ntmps12
  go_wp2
  go_loopw [3, 4, 8, 9, 10, 11, 12, 13, 14, 15, 16, 17, 18] (fun v iv _ _ _ _ _ _ _ _ _ _ _ wr => ∃ k : Nat, k ≤ l.length ∧ iv = .int .i64 ((l.length : Int) - 1 - (k : Int)) ∧ wr.ownsRow w.heap.size 3 1 v k (ints (l.reverse.take k)) ∧ Below w.heap.size w wr) (fun _ iv _ _ _ _ _ _ _ _ _ _ _ _ => (intOf iv + 1).toNat)
  case atStart => exact ⟨0, Nat.zero_le _, by simp, World.ownsRow_nil _ _ _ _, Below.refl _ _⟩
  case round =>
    obtain ⟨k, hk, rfl, hown, hbel⟩ := hrel
    by_cases hlt : k < l.length
    · obtain ⟨b, o, rfl, hbl, hc⟩ := (hr.below hbel).2 (by omega)
      obtain ⟨j, hj⟩ : ∃ j, j = l.length - 1 - k := ⟨_, rfl⟩
      have hje : (l.length : Int) - 1 - (k : Int) = (j : Int) := by omega
      obtain ⟨x, hx⟩ : ∃ x, l[j]? = some x := ⟨_, List.getElem?_eq_getElem (by omega)⟩
      have c0 := hc j (.int .i64 x) (by rw [ints_get, hx]; rfl)
      have hsn : l.reverse.take (k + 1) = l.reverse.take k ++ [x] := by
        rw [List.take_add_one, List.getElem?_reverse hlt, ← hj, hx]; rfl
      have HS := Lib.hid hsn
      have kk : (j : Int) < (l.length : Int) := by omega
      have k0 : (0 : Int) ≤ (j : Int) := by omega
      have wr1 : IntKind.i64.wrap ((j : Int) - 1) = (j : Int) - 1 := IntWalk.i64_in _ (by omega)
      have HJ := Lib.hid hj
      rw [hje]
      have HJE := Lib.hid hje
      clear hje hc hsn hx hj
      have hs1 := hbel.size
      go_wp2_with (at_builtin; go_must (refine append_own _ rfl _ _ 22 rfl w.heap.size 3 i0 _ 1 8 Try.underlying22 hi hz0 hz1 hz2 rfl (by decide) _ _ _ rfl (hown.alloc _) ⟨wr.heap.size, 0, none⟩ 1 1 [.int .i64 x] rfl rfl (cell_one_new _ _ _) (int_oneCell _) (by unfold maxLen; omega) (by omega) (by simp; omega) (by decide) ?_); intro g2 cap2 w2 hown2 hg2 hg2' hgrow2)
      refine ⟨⟨k + 1, by omega, by have := HJE.out; go_num, by rw [HS.out, ← ints_snoc]; exact hown2, below_app hbel hown hgrow2⟩, by simp [intOf]⟩
    · obtain rfl : k = l.length := by omega
      have he : (l.length : Int) - 1 - (l.length : Int) = -1 := by omega
      rw [he]
      obtain ⟨A2, c2, hv⟩ := own_slice hown
      subst hv
      have ho2 : wr.ownsRow w.heap.size 3 1 (.slice A2 l.length c2) l.length (ints l.reverse) := by
        have := hown
        rwa [List.take_of_length_le (by simp)] at this
      clear hown he
      go_wp2
      go_ret
      exact ⟨_, rfl, ho2, hbel⟩
end Go.Proofs.Ytdafkkhbfgpcoaa
