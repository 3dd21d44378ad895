/-
  The walk of the law HuffSays: for every list the functions of package huff answer what the reference answers; no condition.
-/
import Derived.Test.YtdafkkhbfgpcoaaDoorAs
import Derived.Test.YtdafkkhbfgpcoaaDoorHfRef
import Derived.Test.YtdafkkhbfgpcoaaDoorHfCost
import Derived.Test.YtdafkkhbfgpcoaaDoorInts
namespace Go.Proofs.YtdafkkhbfgpcoaaDoor.huffSays
open Go.RowKit Hf
set_option linter.unusedVariables false
set_option linter.unusedSimpArgs false

theorem errV_same (n : Int) : Hf.errV n = As.errV n := by first | rfl | (unfold Hf.errV As.errV; rfl)
theorem ints_same (A B : Option Addr) (c d : Nat) (l : List Int) (w : World) (hl : Reads w A l.length 1 (ints l)) (hm : Reads w B l.length 1 (ints l)) (h1 : l.length ≤ maxLen) :
    Calls Tryd.prog 9 #[.slice A l.length c, .slice B l.length d] w fun e w' => e = .returned (.bool true) ∧ Below w.heap.size w w' := by
  have := ints_any A B c d l l w hl hm h1
  simpa using this

set_option maxHeartbeats 2000000 in
theorem walk_ok (w : World) (A : Option Addr) (cap : Nat) (ws : List Int) (hr : Reads w A ws.length 1 (ints ws)) (hcap : ws.length ≤ cap) (hg : As.Laid w) (hck : ck ws = 0) :
    Calls Tryd.prog 3 #[.slice A ws.length cap] w fun e w' => e = .returned (.bool true) ∧ Below w.heap.size w w' := by
  obtain ⟨h1, h10, hb⟩ := ck_ok hck
  have hm : ws.length ≤ maxLen := by unfold maxLen; omega
  have f1 := fun w' hr' => weights_any A cap ws w' hr' hm
  have f2 := fun w' hr' => check_any A cap ws w' hr' hm
  rw [hck] at f1 f2
  rw [show Hf.errV 0 = .nilIface from rfl] at f2
  have f3 := fun w' hr' => refhuff_ok A cap ws w' hr' h1 h10 hb
  have f4 := fun w' hr' => long_ok A cap ws w' hr' hck
  have f5 := fun w' hr' => cost_ok A cap ws w' hr' hck
  have f6 := fun (G H : Nat) (c d : Nat) (w' : World) (hl : IBlk w' G (lens ws)) (hm : IBlk w' H (lens ws)) => ints_same (some ⟨G, 0, none⟩) (some ⟨H, 0, none⟩) c d (lens ws) w' hl.reads hm.reads (by rw [lens_length]; unfold maxLen; omega)
  rw [lens_length] at f6
  have HB := Lib.hid hb
  have HD := Lib.hid (fun i y (h : (lens ws)[i]? = some y) => lens_bound h1 h10 h)
  have HLL := Lib.hid (lens_length ws)
  have HCS := Lib.hid (show cost ws = costI ws (lens ws) from rfl)
  generalize cost ws = C at *
  generalize lens ws = ls at *
  have HT := Lib.hid (costI_take ws ls)
  have F1 := Lib.hid f1; have F2 := Lib.hid f2; have F3 := Lib.hid f3; have F4 := Lib.hid f4; have F5 := Lib.hid f5; have F6 := Lib.hid f6
  have HR := Lib.hid (fun (w' : World) (hb : Below w.heap.size w w') => hr.below hb)
  clear f1 f2 f3 f4 f5 f6 hr hg hck hb hm
  go_enter Tryd.func3, Tryd.ntmps3
  go_wp2_with fail
  refine (F1.out _ (HR.out _ (Below.refl _ _))).mono ?_
  rintro e w0 ⟨rfl, rfl⟩
  go_wp2_with fail
  refine (F2.out _ (HR.out _ (Below.refl _ _))).mono ?_
  rintro e w0 ⟨rfl, rfl⟩
  go_wp2_with fail
  refine (As.error_ok _).mono ?_
  rintro e w1 ⟨rfl, hb1⟩
  go_wp2_with fail
  refine (F3.out _ (HR.out _ hb1)).mono ?_
  rintro e w2 ⟨G, rfl, hG, hGg, hb⟩
  have HG := Lib.hid hG
  have hb2 := bnext hb1 hb
  clear hb hG
  go_wp2_with fail
  go_loopw [6, 7, 22, 23, 24, 25, 26, 27, 28, 29, 30, 31, 32, 33, 34, 35, 36, 37, 38] (fun sv kv _ _ _ _ _ _ _ _ _ _ _ _ _ _ _ _ _ wr => ∃ k : Nat, k ≤ ws.length ∧ kv = .int .i64 (k : Int) ∧ (∃ s : Int, sv = .int .i64 s ∧ Hid (s = costI (ws.take k) (ls.take k)) ∧ 0 ≤ s ∧ s ≤ k * 9000) ∧ Below w2.heap.size w2 wr) (fun _ kv _ _ _ _ _ _ _ _ _ _ _ _ _ _ _ _ _ _ => ws.length - (intOf kv).toNat)
  case atStart => exact ⟨0, Nat.zero_le _, rfl, ⟨0, rfl, Lib.hid (by simp [costI]), by omega, by omega⟩, Below.refl _ _⟩
  case round =>
    obtain ⟨k, hk, rfl, ⟨s, rfl, HS, hs0, hs1⟩, hbr⟩ := hrel
    have hb2r := bnext hb2 hbr
    have HGr := HG.out.below hbr HG.out.lt
    by_cases hlt : k < ws.length
    · obtain ⟨b, o, rfl, hbl, hc⟩ := (HR.out _ hb2r).2 (by omega)
      obtain ⟨x, hx⟩ : ∃ x, ws[k]? = some x := ⟨_, List.getElem?_eq_getElem hlt⟩
      obtain ⟨y, hy⟩ : ∃ y, ls[k]? = some y := ⟨_, List.getElem?_eq_getElem (by rw [HLL.out]; exact hlt)⟩
      have c0 := hc k (.int .i64 x) (by rw [ints_get, hx]; rfl)
      have c1 := HGr.cell hy
      have hxb := HB.out x (List.mem_of_getElem? hx)
      have hyb := HD.out k y hy
      have hm : 0 ≤ x * y ∧ x * y ≤ 1000 * 9 := ⟨Int.mul_nonneg hxb.1 hyb.1, Int.mul_le_mul hxb.2 hyb.2 hyb.1 (by omega)⟩
      have ht := Lib.hid (HT.out k x y hx hy)
      have kk : (k : Int) < (ws.length : Int) := by omega
      clear hc hx hy hxb hyb
      generalize hmg : x * y = m at hm ht
      have wr1 : IntKind.i64.wrap (x * y) = m := by rw [hmg]; exact IntWalk.i64_in _ (by omega)
      have wr2 : IntKind.i64.wrap (s + m) = s + m := IntWalk.i64_in _ (by omega)
      clear hmg
      go_wp2
      go_quiet (fail)
      go_wp2
      refine ⟨⟨k + 1, by omega, by go_num, ⟨s + m, rfl, Lib.hid (by rw [ht.out, HS.out]), by omega, by omega⟩, bdrew hbr _⟩, by simp [intOf]; omega⟩
    · obtain rfl : k = ws.length := by omega
      have kk : ¬ ((ws.length : Int) < (ws.length : Int)) := by omega
      have he := HS.out
      rw [List.take_length, List.take_of_length_le (by rw [HLL.out]; exact Nat.le_refl _), ← HCS.out] at he
      subst he
      clear HS hs0 hs1
      go_wp2_with fail
      refine (F4.out _ (HR.out _ hb2r)).mono ?_
      rintro e w4 ⟨H, rfl, hH, hHg, hb4⟩
      have hb4' := bnext hb2r hb4
      have HG4 := HGr.below hb4 HGr.lt
      go_wp2_with fail
      refine (As.error_ok _).mono ?_
      rintro e w5 ⟨rfl, hb5⟩
      have hb5' := bnext hb4' hb5
      go_wp2_with fail
      refine (F6.out _ _ _ _ _ (hH.below hb5 hH.lt) (HG4.below hb5 HG4.lt)).mono ?_
      rintro e w6 ⟨rfl, hb6⟩
      have hb6' := bnext hb5' hb6
      go_wp2_with fail
      refine (F5.out _ (HR.out _ hb6')).mono ?_
      rintro e w7 ⟨rfl, hb7⟩
      have hb7' := bnext hb6' hb7
      go_wp2_with fail
      refine (As.error_ok _).mono ?_
      rintro e w8 ⟨rfl, hb8⟩
      have hb8' := bnext hb7' hb8
      go_wp2
      go_ret
      exact ⟨rfl, hb8'⟩

set_option maxHeartbeats 2000000 in
theorem walk_no (w : World) (A : Option Addr) (cap : Nat) (l : List Int) (hr : Reads w A l.length 1 (ints l)) (hm : l.length ≤ maxLen) (hg : As.Laid w) (h : ck l ≠ 0) :
    Calls Tryd.prog 3 #[.slice A l.length cap] w fun e w' => e = .returned (.bool true) ∧ Below w.heap.size w w' := by
  have f1 := fun w' hr' => weights_any A cap l w' hr' hm
  have f2 := fun w' hr' => check_any A cap l w' hr' hm
  rw [show Hf.errV (ck l) = .iface 36 (.int .i64 (ck l)) from if_neg h] at f2
  have f4 := fun w' hr' => long_no A cap l w' hr' hm h
  have f5 := fun w' hr' => cost_no A cap l w' hr' hm h
  have k0 : (ck l == 0) = false := by rw [beq_eq_false_iff_ne]; exact h
  generalize ck l = K at *
  have F3 := Lib.hid (fun w' (hb : Below w.heap.size w w') => As.error_no K h w' (hg.below hb))
  have F1 := Lib.hid f1; have F2 := Lib.hid f2; have F4 := Lib.hid f4; have F5 := Lib.hid f5
  have HR := Lib.hid (fun (w' : World) (hb : Below w.heap.size w w') => hr.below hb)
  clear f1 f2 f4 f5 hr hg h hm
  go_enter Tryd.func3, Tryd.ntmps3
  go_wp2_with fail
  refine (F1.out _ (HR.out _ (Below.refl _ _))).mono ?_
  rintro e w0 ⟨rfl, rfl⟩
  go_wp2_with fail
  refine (F2.out _ (HR.out _ (Below.refl _ _))).mono ?_
  rintro e w0 ⟨rfl, rfl⟩
  go_wp2_with fail
  refine (F3.out _ (Below.refl _ _)).mono ?_
  rintro e w1 ⟨rfl, hb1⟩
  go_wp2_with fail
  refine (F4.out _ (HR.out _ hb1)).mono ?_
  rintro e w6 ⟨rfl, rfl⟩
  go_wp2_with fail
  refine (F3.out _ hb1).mono ?_
  rintro e w7 ⟨rfl, hb⟩
  have hb7 := bnext hb1 hb
  clear hb
  go_wp2_with fail
  refine (ints_same _ _ _ _ [] _ (Reads.nil _ _) (Reads.nil _ _) (by decide)).mono ?_
  rintro e w12 ⟨rfl, hb⟩
  have hb12 := bnext hb7 hb
  clear hb
  go_wp2_with fail
  refine (F5.out _ (HR.out _ hb12)).mono ?_
  rintro e w13 ⟨rfl, rfl⟩
  go_wp2_with fail
  refine (F3.out _ hb12).mono ?_
  rintro e w14 ⟨rfl, hb⟩
  have hb14 := bnext hb12 hb
  clear hb
  go_wp2
  go_ret
  exact ⟨rfl, hb14⟩

theorem walk (w : World) (A : Option Addr) (cap : Nat) (l : List Int) (hs : l.length * 8 ≤ 140737488351232) (hrg : ∀ n ∈ l, -9223372036854775808 ≤ n ∧ n ≤ 9223372036854775807) (hi : Reads w A l.length 1 (l.map (Value.int .i64)) ∧ l.length ≤ cap) (hg : As.Laid w) :
    Calls Tryd.prog 3 #[.slice A l.length cap] w fun e w' => e = .returned (.bool true) ∧ Below w.heap.size w w' := by
  obtain ⟨hr, hcap⟩ := hi
  by_cases h : ck l = 0
  · exact walk_ok w A cap l hr hcap hg h
  · exact walk_no w A cap l hr (by unfold maxLen; omega) hg h
end Go.Proofs.YtdafkkhbfgpcoaaDoor.huffSays
