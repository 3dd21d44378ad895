/-
  The walk of the law RiseSchensted: it returns true for every list.
-/
import Derived.Test.YtlchgjlinhakdaaRsLaw
import Derived.Test.YtlchgjlinhakdaaRsSch2
namespace Go.Proofs.Ytlchgjlinhakdaa.Rs
open Go.RowKit
set_option linter.unusedVariables false

theorem sum_snoc (l : List Int) (x : Int) : (l ++ [x]).foldl (· + ·) 0 = l.foldl (· + ·) 0 + x := by simp
theorem sum_bd : ∀ (l : List Int), (∀ x ∈ l, 0 ≤ x ∧ x ≤ 1000) → 0 ≤ l.foldl (· + ·) 0 ∧ l.foldl (· + ·) 0 ≤ 1000 * (l.length : Int) := by
  intro l
  refine snocInd (P := fun l => (∀ x ∈ l, 0 ≤ x ∧ x ≤ 1000) → 0 ≤ l.foldl (· + ·) 0 ∧ l.foldl (· + ·) 0 ≤ 1000 * (l.length : Int)) (by simp) ?_ l
  intro l x ih h
  have h1 := ih fun y hy => h y (by simp [hy])
  have h2 := h x (by simp)
  rw [sum_snoc, List.length_append, List.length_singleton]
  omega
theorem sum_any (A : Option Addr) (cap : Nat) (l : List Int) (w : World) (hr : Reads w A l.length 1 (ints l)) (hm : l.length ≤ 1000) (hall : ∀ x ∈ l, 0 ≤ x ∧ x ≤ 1000) :
    Calls Try.prog 14 #[.slice A l.length cap] w fun e w' => e = .returned (.int .i64 (l.foldl (· + ·) 0)) ∧ w = w' := by
  obtain ⟨r, hR⟩ : ∃ r, r = l.foldl (· + ·) 0 := ⟨_, rfl⟩
  rw [← hR]
  have HR := Lib.hid hR
  have HA := Lib.hid hall
  clear hR hall
  go_enter Try.func14, Try.ntmps14
  go_wp2
  go_loop [3, 4] (fun m i => ∃ k : Nat, k ≤ l.length ∧ i = .int .i64 k ∧ m = .int .i64 ((l.take k).foldl (· + ·) 0)) (fun _ i => l.length - (intOf i).toNat)
  case atStart => exact ⟨0, by omega, rfl, rfl⟩
  case round =>
    obtain ⟨k, hk, rfl, rfl⟩ := hrel
    have hbd := sum_bd (l.take k) (fun x hx => HA.out x (List.mem_of_mem_take hx))
    rw [List.length_take] at hbd
    by_cases hlt : k < l.length
    · obtain ⟨b, o, rfl, hb, hc⟩ := hr.2 (by omega)
      obtain ⟨n, hn⟩ : ∃ n, l[k]? = some n := ⟨_, List.getElem?_eq_getElem hlt⟩
      have hn2 := HA.out n (List.mem_of_getElem? hn)
      have ck := hc k (.int .i64 n) (by rw [ints_get, hn]; rfl)
      have hs : (l.take (k + 1)).foldl (· + ·) 0 = (l.take k).foldl (· + ·) 0 + n := by
        rw [List.take_add_one, hn]
        exact sum_snoc _ _
      have HS := Lib.hid hs
      clear hs hn hc
      generalize (l.take k).foldl (· + ·) 0 = m at *
      have m1 : m ≤ 1000000 := by omega
      have m0 := hbd.1
      clear hbd
      go_wp2
      go_round
      case rel => exact ⟨k + 1, by omega, by go_num, by rw [HS.out]⟩
      case measure => simp [intOf]; omega
    · have : r = (l.take k).foldl (· + ·) 0 := by rw [HR.out, List.take_of_length_le (by omega)]
      subst this
      clear hbd
      go_wp2
      go_ret
      exact ⟨rfl, rfl⟩
theorem own_cap {w : World} {base n cap : Nat} {e : TypeId} {A : Option Addr} {xs : List Value} (h : w.ownsRow base e 1 (.slice A n cap) n xs) : n ≤ cap := by
  rcases h.2 with ⟨h0, h1⟩ | ⟨g', cap', cur, hv, hb, hh, h1, _⟩
  · omega
  · simp only [Value.slice.injEq, true_and] at hv
    obtain ⟨_, rfl⟩ := hv
    exact h1
theorem chk_reverse (l : List Int) : chk l.reverse = chk l := by
  unfold chk
  rw [List.length_reverse, List.all_reverse]
theorem own_apart {w w' : World} {base size n : Nat} {e : TypeId} {v u : Value} {xs : List Value} (h : w.ownsRow base e size u n xs) (hg : w.grownBy w' v.ownBlock) (hap : ∀ b, v.ownBlock = some b → u.ownBlock ≠ some b) : w'.ownsRow base e size u n xs := by
  rcases hu : u.ownBlock with _ | b
  · exact h.kept hg (.inl hu)
  · refine h.kept hg (.inr ?_)
    intro e
    rw [hu] at e
    exact hap b e.symm hu
/-- two rows of the call's own, of the same numbers -/
structure TRel (w wr : World) (v u : Value) (t : List Int) : Prop where
  o1 : wr.ownsRow w.heap.size 3 1 v t.length (ints t)
  o2 : wr.ownsRow w.heap.size 3 1 u t.length (ints t)
  apart : ∀ b, v.ownBlock = some b → u.ownBlock ≠ some b
  below : Below w.heap.size w wr

set_option maxHeartbeats 4000000 in
set_option maxRecDepth 100000 in
theorem walkSchensted (w : World) (A : Option Addr) (cap : Nat) (l : List Int) (s : l.length * 8 ≤ 140737488351232) (f : ∀ n ∈ l, -9223372036854775808 ≤ n ∧ n ≤ 9223372036854775807) (i : Reads w A l.length 1 (l.map (Value.int .i64)) ∧ l.length ≤ cap) :
    Calls Try.prog 5 #[.slice A l.length cap] w fun e w' => e = .returned (.bool true) ∧ Below w.heap.size w w' := by
  obtain ⟨hr, hcap⟩ := i
  clear f
  by_cases h : chk l = 0
  · have hlen := (chk_ok h).1
    have hcr : chk l.reverse = 0 := by rw [chk_reverse]; exact h
    have hrl : l.reverse.length = l.length := List.length_reverse
    have hrg : ∀ j, j < l.length → l.reverse[j]? = l[l.length - 1 - j]? := fun j hj => by rw [List.getElem?_reverse hj]
    have L1 := fun w hr => shape_ok A cap l w hr h
    have L2 := fun A cap w hr hc => fall_ok A cap l.reverse w hr hc hcr
    have L3 := fun A cap w hr => long_ok A cap l.reverse w hr hcr
    have q1 := shape_pos l
    have q2 := shape_falls l
    have q3 := shape_sum l
    have q4 := shape_first l
    have q5 : (shape l).length = (piles l.reverse).length := by rw [shape_length, rows_piles]
    have q6 := piles_le l.reverse
    have q7 := fall_le l.reverse
    rw [hrl] at q6 q7
    have q8 : ∀ x ∈ shape l, 0 ≤ x ∧ x ≤ 1000 := by
      intro x hx
      refine ⟨by have := q1 x hx; omega, ?_⟩
      obtain ⟨r, hr, rfl⟩ := List.mem_map.1 hx
      have := (good_rowsOf l (chk_ok h).2).row r hr
      omega
    have q9 : l = [] → (shape l).length = 0 := by rintro rfl; rfl
    generalize shape l = sh at *
    generalize fall l.reverse = m at *
    generalize (piles l.reverse).length = n at *
    generalize l.reverse = rev at *
    have HL1 := Lib.hid L1; have HL2 := Lib.hid L2; have HL3 := Lib.hid L3; have HRG := Lib.hid hrg
    have Q1 := Lib.hid q1; have Q2 := Lib.hid q2; have Q3 := Lib.hid q3; have Q4 := Lib.hid q4; have Q5 := Lib.hid q5; have Q8 := Lib.hid q8; have Q9 := Lib.hid q9
    have HRL := Lib.hid hrl
    have sh20 : sh.length ≤ 20 := by omega
    clear L1 L2 L3 q1 q2 q3 q4 q5 q8 q9 hrg hrl hcr
    obtain ⟨i0, hi, hz0, hz1, hz2⟩ := info_parts infoI
    go_enter Try.func5, Try.ntmps5
    go_wp2_with fail
    refine (fact_any _).mono ?_
    rintro e w1 ⟨rfl, hb1⟩
    go_wp2_with fail
    refine (HL1.out _ (hr.below hb1)).mono ?_
    rintro e w2 ⟨v, rfl, hown, hb2⟩
    obtain ⟨A', cap', e⟩ := own_slice hown
    subst e
    have hrs := Reads.of_own hown
    have hb := bnext hb1 hb2
    have HB := Lib.hid hb
    clear hown hb1 hb2 hb
    go_wp2_with fail
    obtain ⟨wo, hwo⟩ : ∃ wo : World, wo = w2 := ⟨_, rfl⟩
    have HWO := Lib.hid hwo
    clear hwo
    go_loopw [6, 7, 8] (fun v u i wr => ∃ K : Nat, K ≤ l.length ∧ i = .int .i64 ((K : Int) - 1) ∧ TRel w2 wr v u (rev.take (l.length - K))) (fun _ _ i _ => (intOf i + 1).toNat)
    case atStart => exact ⟨l.length, Nat.le_refl _, rfl, by rw [Nat.sub_self]; exact ⟨World.ownsRow_nil _ _ _ _, World.ownsRow_nil _ _ _ _, by simp [Value.ownBlock], Below.refl _ _⟩⟩
    case round =>
      obtain ⟨K, hK, rfl, hrel⟩ := hrel
      have htl : (rev.take (l.length - K)).length = l.length - K := by rw [List.length_take, HRL.out]; omega
      by_cases hK0 : 1 ≤ K
      · obtain ⟨j, rfl⟩ : ∃ j, K = j + 1 := ⟨K - 1, by omega⟩
        have hbel := hrel.below
        obtain ⟨b, o, rfl, hbl, hc⟩ := (hr.below (bnext HB.out hbel)).2 (by omega)
        obtain ⟨x, hx⟩ : ∃ x, l[j]? = some x := ⟨_, List.getElem?_eq_getElem (by omega)⟩
        have cx := hc j (.int .i64 x) (by rw [List.getElem?_map, hx]; rfl)
        have htk : rev.take (l.length - j) = rev.take (l.length - (j + 1)) ++ [x] := by
          rw [show l.length - j = l.length - (j + 1) + 1 by omega, List.take_add_one, HRG.out _ (by omega), show l.length - 1 - (l.length - (j + 1)) = j by omega, hx]
          rfl
        have HT := Lib.hid htk
        generalize rev.take (l.length - (j + 1)) = t at *
        have e0 : ((j + 1 : Nat) : Int) - 1 = (j : Int) := by omega
        rw [e0]
        have ht20 : t.length ≤ 20 := by omega
        clear htl
        obtain ⟨A1, cap1, e1⟩ := own_slice hrel.o1
        subst e1
        obtain ⟨A2, cap2, e2⟩ := own_slice hrel.o2
        subst e2
        have hap := hrel.apart
        have ho1 := hrel.o1
        have ho2 := hrel.o2
        have HAP := Lib.hid hap
        have hsz := hbel.size
        have hlt1 := fun b hb => (ho1.lt b hb)
        have hlt2 := fun b hb => (ho2.lt b hb)
        have HLT1 := Lib.hid hlt1
        have HLT2 := Lib.hid hlt2
        have hcx2 := fun (W : World) (hW : Below wr.heap.size wr W) => (hW.cell (p := ⟨b, o + j, none⟩) hbl).trans cx
        have HCX := Lib.hid hcx2
        have hX : b < w2.heap.size := by
          obtain ⟨b', o', e, hb', _⟩ := (hr.below HB.out).2 (by omega)
          simp at e
          omega
        clear htk hrel hc hx hap e0 hlt1 hlt2 hcx2
        go_wp2_with (first
          | (at_builtin; (refine wpList_append_lies _ rfl _ _ 22 rfl w2.heap.size 3 i0 _ 1 8 Try.underlying22 hi hz0 hz1 hz2 rfl (by omega) (.slice A1 t.length cap1) t.length (ints t) rfl (ho1.alloc _) ⟨wr.heap.size, 0, none⟩ 1 1 [.int .i64 x] rfl rfl (cell_one_new _ _ _) (int_oneCell _) (by omega) (by unfold maxLen; omega) (by omega) (by simp; omega) (wr.heap.size + 1) (by simp) ?_); intro g3 cap3 w3 hown3 hgrow3 hat3 hlt3; have hbk3 := (hgrow3.block b (by simp; omega) (fun e => by have := (HLT1.out b e.symm).1; omega)).trans (Below.heap_alloc wr (.cells #[.int .i64 x] 3) b hbl); have cx3 := (World.cell?_of_block (a := ⟨b, o + j, none⟩) hbk3).trans cx; have ho3 := own_apart (ho2.alloc (.cells #[.int .i64 x] 3)) hgrow3 HAP.out; have hs3 := hgrow3.size; have HG3 := Lib.hid hgrow3; have HO3 := Lib.hid hown3; clear hbk3 ho1 ho2 hgrow3 hown3)
          | (at_builtin; (refine wpList_append_lies _ rfl _ _ 22 rfl w2.heap.size 3 i0 _ 1 8 Try.underlying22 hi hz0 hz1 hz2 rfl (by omega) (.slice A2 t.length cap2) t.length (ints t) rfl (ho3.alloc _) ⟨w3.heap.size, 0, none⟩ 1 1 [.int .i64 x] rfl rfl (cell_one_new _ _ _) (int_oneCell _) (by omega) (by unfold maxLen; omega) (by omega) (by simp at hs3 ⊢; omega) (w3.heap.size + 1) (by simp) ?_); intro g4 cap4 w4 hown4 hgrow4 hat4 hlt4))
        have hap3 : ∀ c, (Value.slice A2 t.length cap2).ownBlock = some c → g3 ≠ c := by
          intro c hc e
          rcases hat3 with h1 | h1
          · exact HAP.out g3 h1 (by rw [hc, e])
          · have := (HLT2.out c hc).2; omega
        go_roundw
        case rel =>
          refine ⟨j, by omega, rfl, ?_⟩
          rw [HT.out]
          have el : (t ++ [x]).length = t.length + 1 := by simp
          have ei : ints (t ++ [x]) = ints t ++ [.int .i64 x] := by simp [ints]
          refine ⟨?_, ?_, ?_, ?_⟩
          · rw [el, ei]
            exact own_apart (HO3.out.alloc _) hgrow4 (fun c hc => by show some g3 ≠ some c; intro e; exact hap3 c hc (Option.some.inj e))
          · rw [el, ei]; exact hown4
          · intro c hc e
            have hc := Option.some.inj (show some g3 = some c from hc)
            have e := Option.some.inj (show some g4 = some c from e)
            rcases hat4 with h1 | h1
            · exact hap3 g4 h1 (by omega)
            · omega
          · refine (Below.alloc ((hbel.alloc hsz _).grown HG3.out (by simp; omega) (fun c hc => (HLT1.out c hc).1)) (by simp at hs3; omega) _).grown hgrow4 (by simp at hs3 ⊢; omega) (fun c hc => (HLT2.out c hc).1)
        case measure => simp [intOf]
      · obtain rfl : K = 0 := by omega
        rw [show rev.take (l.length - 0) = rev from List.take_of_length_le (by rw [HRL.out]; omega)] at hrel
        obtain ⟨A1, cap1, e1⟩ := own_slice hrel.o1
        subst e1
        obtain ⟨A2, cap2, e2⟩ := own_slice hrel.o2
        subst e2
        have hr1 := Reads.of_own hrel.o1
        have hr2 := Reads.of_own hrel.o2
        have hc1 := own_cap hrel.o1
        have hbel := hrel.below
        have R1 := Lib.hid hr1
        have R2 := Lib.hid hr2
        have hfall := Lib.hid (HL2.out A1 cap1 wr hr1 hc1)
        clear hrel hr1 hr2 hc1 htl
        go_wp2_with fail
        refine (hfall.out).mono ?_
        rintro e w5 ⟨rfl, hb5⟩
        go_wp2_with fail
        refine (HL3.out A2 cap2 w5 (R2.out.below hb5)).mono ?_
        rintro e w6 ⟨rfl, hb6⟩
        have hrs6 := ((hrs.below hbel).below hb5).below hb6
        have hbA := bnext (bnext (bnext HB.out hbel) hb5) hb6
        have hsum := sum_any A' cap' sh w6 hrs6 (by omega) Q8.out
        rw [Q3.out] at hsum
        have HSUM := Lib.hid hsum
        have t1 : ((sh.length : Int) != (n : Int)) = false := by rw [Q5.out]; simp
        clear hsum hfall hbel hb5 hb6 hrs
        go_wp2_with fail
        refine (HSUM.out).mono ?_
        rintro e w7 ⟨rfl, rfl⟩
        by_cases hl0 : l = []
        · have z1 := Q9.out hl0
          have z2 : ((l.length : Int) == 0) = true := by rw [hl0]; rfl
          have z3 : ((sh.length : Int) == 0) = true := by rw [z1]; rfl
          clear z1 hl0
          go_wp2
          go_ret
          exact ⟨by first | rfl | exact ret_bool (by simp), hbA⟩
        · have z1 := Q4.out hl0
          have z2 : ((l.length : Int) == 0) = false := by
            have := List.length_pos_iff.2 hl0
            rw [beq_eq_false_iff_ne]; omega
          have z3 : 0 < sh.length := (List.getElem?_eq_some_iff.1 z1).1
          have Z1 := Lib.hid z1
          clear z1 hl0
          go_wp2
          go_loopw [13] (fun i wr => ∃ k : Nat, 1 ≤ k ∧ k ≤ sh.length ∧ i = .int .i64 k ∧ Reads wr A' sh.length 1 (ints sh) ∧ Below w.heap.size w wr) (fun i _ => sh.length - (intOf i).toNat)
          case atStart => exact ⟨1, by omega, by omega, rfl, hrs6, hbA⟩
          case round =>
            clear hrs6 hbA
            obtain ⟨k, hk1, hk, rfl, hrt, hb⟩ := hrel
            by_cases hlt : k < sh.length
            · obtain ⟨b, o, rfl, hbl, hc⟩ := hrt.2 (by omega)
              obtain ⟨j, rfl⟩ : ∃ j, k = j + 1 := ⟨k - 1, by omega⟩
              obtain ⟨x, hx⟩ : ∃ x, sh[j]? = some x := ⟨_, List.getElem?_eq_getElem (by omega)⟩
              obtain ⟨y, hy⟩ : ∃ y, sh[j + 1]? = some y := ⟨_, List.getElem?_eq_getElem (by omega)⟩
              have cx := hc j (.int .i64 x) (by rw [ints_get, hx]; rfl)
              have cy := hc (j + 1) (.int .i64 y) (by rw [ints_get, hy]; rfl)
              have hxy := Q2.out j x y hx hy
              have hy1 := Q1.out y (List.mem_of_getElem? hy)
              have w0 : IntKind.i64.wrap (((j + 1 : Nat) : Int) - 1) = (j : Int) := by rw [IntWalk.i64_in _ (by omega)]; omega
              have e0 : ((j + 1 : Nat) : Int) - 1 = (j : Int) := by omega
              have g1 : (0 : Int) ≤ (j : Int) := by omega
              have g2 : (j : Int) < (sh.length : Int) := by omega
              have g3 : ((j + 1 : Nat) : Int) < (sh.length : Int) := by omega
              have g4 : decide (x < y) = false := decide_eq_false (by omega)
              have g5 : decide (y < 1) = false := decide_eq_false (by omega)
              clear hx hy hc
              go_wp2
              go_quiet (fail)
              go_wp2
              go_roundw
              case rel => exact ⟨j + 1 + 1, by omega, by omega, by go_num, hrt.below (below_drewN _ _), bdrew hb _⟩
              case measure => simp [intOf]; omega
            · obtain ⟨b, o, rfl, hbl, hc⟩ := hrt.2 (by omega)
              have c0 := hc 0 (.int .i64 m) (by rw [ints_get, Z1.out]; rfl)
              rw [Nat.add_zero] at c0
              have g1 : (0 : Int) < (sh.length : Int) := by omega
              clear hc
              go_wp2
              go_ret
              exact ⟨by first | rfl | exact ret_bool (by simp), hb⟩
  · have hm : l.length ≤ maxLen := by unfold maxLen; omega
    have HL1 := Lib.hid (fun w hr => shape_no A cap l w hr hm h)
    go_enter Try.func5, Try.ntmps5
    go_wp2_with fail
    refine (fact_any _).mono ?_
    rintro e w1 ⟨rfl, hb1⟩
    go_wp2_with fail
    refine (HL1.out _ (hr.below hb1)).mono ?_
    rintro e w2 ⟨rfl, hb2⟩
    go_wp2_with fail
    go_ret
    exact ⟨by first | rfl | exact ret_bool (by simp), bnext hb1 hb2⟩
end Go.Proofs.Ytlchgjlinhakdaa.Rs
namespace Go.Proofs.Ytlchgjlinhakdaa.riseSchensted
abbrev walk := @Rs.walkSchensted
end Go.Proofs.Ytlchgjlinhakdaa.riseSchensted
