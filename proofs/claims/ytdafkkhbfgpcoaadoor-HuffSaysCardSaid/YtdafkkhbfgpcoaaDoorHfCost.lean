/-
  The walks of huff.Long where something is wrong, and of huff.Cost.
-/
import Derived.Test.YtdafkkhbfgpcoaaDoorHfLong
import Derived.Test.YtdafkkhbfgpcoaaDoorHfOpt
namespace Go.Proofs.YtdafkkhbfgpcoaaDoor.Hf
open Go.RowKit
set_option linter.unusedVariables false
set_option linter.unusedSimpArgs false

theorem ck_ok {ws : List Int} (hck : ck ws = 0) : 1 ≤ ws.length ∧ ws.length ≤ 10 ∧ ∀ x ∈ ws, 0 ≤ x ∧ x ≤ 1000 := by
  unfold ck at hck
  split at hck
  · cases hck
  · rename_i h0
    split at hck
    · cases hck
    · rename_i h10
      split at hck
      · rename_i ha
        refine ⟨by omega, by omega, fun x hx => ?_⟩
        have := List.all_eq_true.1 ha x hx
        unfold inR at this
        exact of_decide_eq_true this
      · cases hck
theorem ck_of {ws : List Int} (h1 : 1 ≤ ws.length) (h2 : ws.length ≤ 10) (h : ∀ x ∈ ws, 0 ≤ x ∧ x ≤ 1000) : ck ws = 0 := by
  unfold ck
  rw [if_neg (by omega), if_neg (by omega), if_pos]
  exact List.all_eq_true.2 fun x hx => by unfold inR; exact decide_eq_true (h x hx)
theorem long_no (A : Option Addr) (c : Nat) (ws : List Int) (w : World) (hr : Reads w A ws.length 1 (ints ws)) (hm : ws.length ≤ maxLen) (hck : ck ws ≠ 0) :
    Calls Tryd.prog 8 #[.slice A ws.length c] w fun e w' => e = .returned (.tuple #[.slice none 0 0, .iface 36 (.int .i64 (ck ws))]) ∧ w = w' := by
  have HCK := check_any A c ws w hr hm
  rw [show errV (ck ws) = .iface 36 (.int .i64 (ck ws)) from if_neg hck] at HCK
  generalize ck ws = E at *
  have H := Lib.hid HCK
  clear HCK hck
  go_enter Tryd.func8, Tryd.ntmps8
  go_wp2_with fail
  refine H.out.mono ?_
  rintro e w' ⟨rfl, rfl⟩
  go_wp2_with fail
  go_ret2
  exact ⟨rfl, rfl⟩

theorem costI_take (ws ls : List Int) : ∀ (k : Nat) (x y : Int), ws[k]? = some x → ls[k]? = some y → costI (ws.take (k + 1)) (ls.take (k + 1)) = costI (ws.take k) (ls.take k) + x * y := by
  induction ws generalizing ls with
  | nil => intro k x y h; simp at h
  | cons a ws ih =>
    intro k x y h1 h2
    cases ls with
    | nil => simp at h2
    | cons b ls =>
      cases k with
      | zero => simp at h1 h2; subst h1; subst h2; simp [costI]
      | succ k =>
        rw [List.getElem?_cons_succ] at h1 h2
        rw [List.take_succ_cons, List.take_succ_cons, List.take_succ_cons, List.take_succ_cons, costI, costI, ih ls k x y h1 h2]
        omega
theorem lens_bound {ws : List Int} (h1 : 1 ≤ ws.length) (hn : ws.length ≤ 10) {i : Nat} {y : Int} (hy : (lens ws)[i]? = some y) : 0 ≤ y ∧ y ≤ 9 := by
  rw [lens_deps h1 (by omega), List.getElem?_map] at hy
  obtain ⟨d, hd, rfl⟩ := Option.map_eq_some_iff.1 hy
  have := deps_low h1 (by omega) d (List.mem_of_getElem? hd)
  omega

set_option maxHeartbeats 1000000 in
theorem cost_ok (A : Option Addr) (c : Nat) (ws : List Int) (w : World) (hr : Reads w A ws.length 1 (ints ws)) (hck : ck ws = 0) :
    Calls Tryd.prog 10 #[.slice A ws.length c] w fun e w' => e = .returned (.tuple #[.int .i64 (cost ws), .nilIface]) ∧ Below w.heap.size w w' := by
  obtain ⟨h1, h10, hb⟩ := ck_ok hck
  have HL := Lib.hid (long_ok A c ws w hr hck)
  have HB := Lib.hid hb
  have HD := Lib.hid (fun i y (h : (lens ws)[i]? = some y) => lens_bound h1 h10 h)
  have HLL := Lib.hid (lens_length ws)
  have HCS := Lib.hid (show cost ws = costI ws (lens ws) from rfl)
  generalize cost ws = C at *
  generalize lens ws = ls at *
  have HT := Lib.hid (costI_take ws ls)
  clear hck hb
  go_enter Tryd.func10, Tryd.ntmps10
  go_wp2_with fail
  refine HL.out.mono ?_
  rintro e w1 ⟨G, rfl, hG, hGg, hb1⟩
  have HG := Lib.hid hG
  clear HL hG
  go_wp2_with fail
  go_loopw [6, 7, 8, 19] (fun sv iv xv kv wr => ∃ k : Nat, k ≤ ws.length ∧ kv = .int .i64 (k : Int) ∧ (∃ s : Int, sv = .int .i64 s ∧ Hid (s = costI (ws.take k) (ls.take k)) ∧ 0 ≤ s ∧ s ≤ k * 9000) ∧ w1 = wr) (fun _ _ _ k _ => ws.length - (intOf k).toNat)
  case atStart => exact ⟨0, Nat.zero_le _, rfl, ⟨0, rfl, Lib.hid (by simp [costI]), by omega, by omega⟩, rfl⟩
  case round =>
    obtain ⟨k, hk, rfl, ⟨s, rfl, HS, hs0, hs1⟩, rfl⟩ := hrel
    by_cases hlt : k < ws.length
    · obtain ⟨b, o, rfl, hbl, hc⟩ := (hr.below hb1).2 (by omega)
      obtain ⟨x, hx⟩ : ∃ x, ws[k]? = some x := ⟨_, List.getElem?_eq_getElem hlt⟩
      obtain ⟨y, hy⟩ : ∃ y, ls[k]? = some y := ⟨_, List.getElem?_eq_getElem (by rw [HLL.out]; exact hlt)⟩
      have c0 := hc k (.int .i64 x) (by rw [ints_get, hx]; rfl)
      have c1 := HG.out.cell hy
      have hxb := HB.out x (List.mem_of_getElem? hx)
      have hyb := HD.out k y hy
      have hm : 0 ≤ x * y ∧ x * y ≤ 1000 * 9 := ⟨Int.mul_nonneg hxb.1 hyb.1, Int.mul_le_mul hxb.2 hyb.2 hyb.1 (by omega)⟩
      have ht := Lib.hid (HT.out k x y hx hy)
      have kk : (k : Int) < (ws.length : Int) := by omega
      clear hc hx hy hxb hyb
      generalize hmg : x * y = m at hm ht
      have wr1 : IntKind.i64.wrap (x * y) = m := by rw [hmg]; exact IntWalk.i64_in _ (by omega)
      have wr2 : IntKind.i64.wrap (s + m) = s + m := IntWalk.i64_in _ (by omega)
      clear hmg
      go_wp2_with fail
      refine ⟨⟨k + 1, by omega, by go_num, ⟨s + m, rfl, Lib.hid (by rw [ht.out, HS.out]), by omega, by omega⟩, by first | trivial | rfl⟩, by simp [intOf]; omega⟩
    · obtain rfl : k = ws.length := by omega
      have kk : ¬ ((ws.length : Int) < (ws.length : Int)) := by omega
      have he := HS.out
      rw [List.take_length, List.take_of_length_le (by rw [HLL.out]; exact Nat.le_refl _), ← HCS.out] at he
      subst he
      clear HS
      go_wp2_with fail
      go_ret2
      exact ⟨rfl, hb1⟩
theorem cost_no (A : Option Addr) (c : Nat) (ws : List Int) (w : World) (hr : Reads w A ws.length 1 (ints ws)) (hm : ws.length ≤ maxLen) (hck : ck ws ≠ 0) :
    Calls Tryd.prog 10 #[.slice A ws.length c] w fun e w' => e = .returned (.tuple #[.int .i64 0, .iface 36 (.int .i64 (ck ws))]) ∧ w = w' := by
  have H := Lib.hid (long_no A c ws w hr hm hck)
  generalize ck ws = E at *
  go_enter Tryd.func10, Tryd.ntmps10
  go_wp2_with fail
  refine H.out.mono ?_
  rintro e w' ⟨rfl, rfl⟩
  go_wp2_with fail
  go_ret2
  exact ⟨rfl, rfl⟩
end Go.Proofs.YtdafkkhbfgpcoaaDoor.Hf
