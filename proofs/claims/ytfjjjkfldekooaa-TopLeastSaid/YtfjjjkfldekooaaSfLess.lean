/-
  The closures of suffix.Order: 'at' and 'less', walked; cmp.Compare and cmp.Or at ints.
-/
import Derived.Test.YtfjjjkfldekooaaBase
import Derived.RangeFuncBox
import Derived.Deep.RegionHeldLaw
import Derived.Deep.RegionHeld3
import Derived.Sort.AtCall
namespace Go.Proofs.Ytfjjjkfldekooaa
open Go.RowKit
set_option linter.unusedVariables false
set_option linter.unusedSimpArgs false

def cmpI (x y : Int) : Int := if x < y then -1 else if y < x then 1 else 0
def atR (r : List Int) (i : Nat) : Int := r[i]?.getD (-1)
def cfR (r : List Int) (h : Nat) (x y : Nat) : Int := if cmpI (atR r x) (atR r y) ≠ 0 then cmpI (atR r x) (atR r y) else cmpI (atR r (x + h)) (atR r (y + h))

theorem nan_any (x : Int) (w : World) : Calls Try.prog 58 #[.int .i64 x] w fun e w' => e = .returned (.bool false) ∧ w = w' := by
  have h : (x != x) = false := by simp
  go_enter Try.func58, Try.ntmps58
  go_wp2
  go_ret
  exact ⟨rfl, rfl⟩
theorem compare_any (x y : Int) (w : World) : Calls Try.prog 45 #[.int .i64 x, .int .i64 y] w fun e w' => e = .returned (.int .i64 (cmpI x y)) ∧ w = w' := by
  have H1 := Lib.hid (nan_any x); have H2 := Lib.hid (nan_any y)
  obtain ⟨R, hR⟩ : ∃ R, R = cmpI x y := ⟨_, rfl⟩
  rw [← hR]
  have HR := Lib.hid hR
  clear hR
  by_cases h1 : x < y
  · have HV := Lib.hid (show R = -1 from by rw [HR.out, cmpI, if_pos h1])
    go_enter Try.func45, Try.ntmps45
    go_wp2_with fail
    refine (H1.out _).mono ?_
    rintro e w1 ⟨rfl, rfl⟩
    go_wp2_with fail
    refine (H2.out _).mono ?_
    rintro e w1 ⟨rfl, rfl⟩
    go_wp2
    go_ret
    exact ⟨by rw [HV.out]; rfl, rfl⟩
  · by_cases h2 : y < x
    · have HV := Lib.hid (show R = 1 from by rw [HR.out, cmpI, if_neg h1, if_pos h2])
      go_enter Try.func45, Try.ntmps45
      go_wp2_with fail
      refine (H1.out _).mono ?_
      rintro e w1 ⟨rfl, rfl⟩
      go_wp2_with fail
      refine (H2.out _).mono ?_
      rintro e w1 ⟨rfl, rfl⟩
      go_wp2
      go_ret
      exact ⟨by rw [HV.out]; rfl, rfl⟩
    · have HV := Lib.hid (show R = 0 from by rw [HR.out, cmpI, if_neg h1, if_neg h2])
      go_enter Try.func45, Try.ntmps45
      go_wp2_with fail
      refine (H1.out _).mono ?_
      rintro e w1 ⟨rfl, rfl⟩
      go_wp2_with fail
      refine (H2.out _).mono ?_
      rintro e w1 ⟨rfl, rfl⟩
      go_wp2
      go_ret
      exact ⟨by rw [HV.out]; rfl, rfl⟩
theorem or_any (x y : Int) (b c : Nat) (w : World) (h0 : w.cell? ⟨b, 0, none⟩ = some (.int .i64 x)) (h1 : w.cell? ⟨b, 1, none⟩ = some (.int .i64 y)) :
    Calls Try.prog 44 #[.slice (some ⟨b, 0, none⟩) 2 c] w fun e w' => e = .returned (.int .i64 (if x ≠ 0 then x else y)) ∧ w = w' := by
  by_cases hx : x = 0
  · subst hx
    by_cases hy : y = 0
    · subst hy
      go_enter Try.func44, Try.ntmps44
      go_wp2
      refine wp_loop_rounds 3 ?_
      rw [rounds_succ]
      go_wp2
      rw [rounds_succ]
      go_wp2
      rw [rounds_succ]
      go_wp2
      go_ret
      simp
    · have hy' : (y != 0) = true := by rw [bne_iff_ne]; exact hy
      go_enter Try.func44, Try.ntmps44
      go_wp2
      refine wp_loop_rounds 3 ?_
      rw [rounds_succ]
      go_wp2
      rw [rounds_succ]
      go_wp2
      go_ret
      simp
  · have hx' : (x != 0) = true := by rw [bne_iff_ne]; exact hx
    go_enter Try.func44, Try.ntmps44
    go_wp2
    refine wp_loop_rounds 3 ?_
    rw [rounds_succ]
    go_wp2
    go_ret
    simp [hx]

/-- the rank's box and row, in a world -/
structure RBox (W : World) (b6 gr c : Nat) (r : List Int) : Prop where
  box : W.cell? ⟨b6, 0, none⟩ = some (.slice (some ⟨gr, 0, none⟩) r.length c)
  row : ∀ (j : Nat) (u : Int), r[j]? = some u → W.cell? ⟨gr, j, none⟩ = some (.int .i64 u)
theorem at_any (i b6 gr c : Nat) (r : List Int) (w : World) (h : RBox w b6 gr c r) (hi : i ≤ 1000) (hr : r.length ≤ 1000) :
    Calls Try.prog 42 #[.int .i64 (i : Int), .pointer (some ⟨b6, 0, none⟩)] w fun e w' => e = .returned (.int .i64 (atR r i)) ∧ w = w' := by
  have hb := h.box
  by_cases hlt : i < r.length
  · have hc := h.row i r[i] (List.getElem?_eq_getElem hlt)
    have kk : (i : Int) < (r.length : Int) := by omega
    have HV := Lib.hid (show atR r i = r[i] from by unfold atR; rw [List.getElem?_eq_getElem hlt]; rfl)
    rw [HV.out]
    generalize r[i] = u at *
    go_enter Try.func42, Try.ntmps42
    go_wp2
    go_ret
    exact ⟨rfl, rfl⟩
  · have kk : ¬ (i : Int) < (r.length : Int) := by omega
    have HV := Lib.hid (show atR r i = -1 from by unfold atR; rw [List.getElem?_eq_none (by omega)]; rfl)
    rw [HV.out]
    go_enter Try.func42, Try.ntmps42
    go_wp2
    go_ret
    exact ⟨rfl, rfl⟩
theorem cell_new2 (w : World) (a b : Value) (j : Nat) (u : Value) (h : [a, b][j]? = some u) : (w.alloc (.cells #[a, b] 3)).cell? ⟨w.heap.size, j, none⟩ = some u := by
  unfold World.cell?
  simp only
  rw [heap_alloc_new w _]
  simpa using h
theorem at_at (i : Int) (j b6 gr c : Nat) (r : List Int) (w : World) (e : i = (j : Int)) (h : RBox w b6 gr c r) (hi : j ≤ 1000) (hr : r.length ≤ 1000) :
    Calls Try.prog 42 #[.int .i64 i, .pointer (some ⟨b6, 0, none⟩)] w fun e w' => e = .returned (.int .i64 (atR r j)) ∧ w = w' := by
  subst e
  exact at_any j b6 gr c r w h hi hr

set_option maxHeartbeats 1000000 in
set_option maxRecDepth 100000 in
theorem less_any (x y h b6 b8 bk gr c : Nat) (k : Int) (r : List Int) (w : World) (hR : RBox w b6 gr c r) (h8 : w.cell? ⟨b8, 0, none⟩ = some (.func (.func 42) #[] #[.pointer (some ⟨b6, 0, none⟩)]))
    (hk : w.cell? ⟨bk, 0, none⟩ = some (.int .i64 k)) (hq : k.tdiv 2 = (h : Int)) (hx : x ≤ 100) (hy : y ≤ 100) (hh : h ≤ 100) (hl : r.length ≤ 100) :
    Calls Try.prog 43 #[.int .i64 (x : Int), .int .i64 (y : Int), .pointer (some ⟨b8, 0, none⟩), .pointer (some ⟨bk, 0, none⟩)] w fun e w' => e = .returned (.int .i64 (cfR r h x y)) ∧ w' = (w.alloc (.cells #[.int .i64 (cmpI (atR r x) (atR r y)), .int .i64 (cmpI (atR r (x + h)) (atR r (y + h)))] 3)).drew := by
  have hRd : RBox w.drew b6 gr c r := ⟨hR.box, hR.row⟩
  have H1 := Lib.hid (at_at _ x b6 gr c r w.drew rfl hRd (by omega) (by omega))
  have H2 := Lib.hid (at_at _ y b6 gr c r w.drew rfl hRd (by omega) (by omega))
  have H3 := Lib.hid (at_at ((x : Int) + (h : Int)) (x + h) b6 gr c r w.drew (by omega) hRd (by omega) (by omega))
  have H4 := Lib.hid (at_at ((y : Int) + (h : Int)) (y + h) b6 gr c r w.drew (by omega) hRd (by omega) (by omega))
  have e1 : IntKind.i64.wrap (h : Int) = (h : Int) := IntWalk.i64_in _ ⟨by omega, by omega⟩
  have e2 : IntKind.i64.wrap ((x : Int) + (h : Int)) = (x : Int) + (h : Int) := IntWalk.i64_in _ ⟨by omega, by omega⟩
  have e3 : IntKind.i64.wrap ((y : Int) + (h : Int)) = (y : Int) + (h : Int) := IntWalk.i64_in _ ⟨by omega, by omega⟩
  have HC := Lib.hid (show cfR r h x y = if cmpI (atR r x) (atR r y) ≠ 0 then cmpI (atR r x) (atR r y) else cmpI (atR r (x + h)) (atR r (y + h)) from rfl)
  rw [HC.out]
  clear HC hR hRd
  generalize atR r x = a1 at *
  generalize atR r y = a2 at *
  generalize atR r (x + h) = a3 at *
  generalize atR r (y + h) = a4 at *
  have HC1 := Lib.hid (compare_any a1 a2 w.drew)
  have HC2 := Lib.hid (compare_any a3 a4 w.drew)
  generalize cmpI a1 a2 = c1 at *
  generalize cmpI a3 a4 = c2 at *
  have HO := Lib.hid (or_any c1 c2 w.heap.size 2 (w.drew.alloc (.cells #[.int .i64 c1, .int .i64 c2] 3)) (cell_new2 w.drew _ _ 0 _ rfl) (cell_new2 w.drew _ _ 1 _ rfl))
  generalize (if c1 ≠ 0 then c1 else c2) = R at *
  go_enter Try.func43, Try.ntmps43
  go_wp2
  go_region_held_law (fun V => V.cell? ⟨b8, 0, none⟩ = some (.func (.func 42) #[] #[.pointer (some ⟨b6, 0, none⟩)]) ∧ V.cell? ⟨bk, 0, none⟩ = some (.int .i64 k)) (go_keep) (first
    | (go_at_call_has 42 (Value.int .i64 (x : Int)); refine H1.out.mono ?_; rintro e w1 ⟨rfl, rfl⟩)
    | (go_at_call_has 42 (Value.int .i64 (y : Int)); refine H2.out.mono ?_; rintro e w1 ⟨rfl, rfl⟩)
    | (go_at_call_has 45 (Value.int .i64 a1); refine HC1.out.mono ?_; rintro e w1 ⟨rfl, rfl⟩)
    | (go_at_call_has 42 (Value.int .i64 ((x : Int) + (h : Int))); refine H3.out.mono ?_; rintro e w1 ⟨rfl, rfl⟩)
    | (go_at_call_has 42 (Value.int .i64 ((y : Int) + (h : Int))); refine H4.out.mono ?_; rintro e w1 ⟨rfl, rfl⟩)
    | (go_at_call_has 45 (Value.int .i64 a3); refine HC2.out.mono ?_; rintro e w1 ⟨rfl, rfl⟩)
    | (go_at_call 44; refine HO.out.mono ?_; rintro e w1 ⟨rfl, rfl⟩))
  go_wp2
  go_ret
  exact ⟨rfl, rfl⟩
end Go.Proofs.Ytfjjjkfldekooaa
