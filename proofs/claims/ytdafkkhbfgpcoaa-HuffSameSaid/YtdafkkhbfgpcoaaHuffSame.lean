/-
  The walk of the law HuffSame: it returns true for every list.
-/
import Derived.Test.YtdafkkhbfgpcoaaHfLaw
import Derived.Test.YtdafkkhbfgpcoaaTurned
import Derived.Deep.RegionHeld3
namespace Go.Proofs.Ytdafkkhbfgpcoaa.huffSame
open Go.RowKit Hf
set_option linter.unusedVariables false
set_option linter.unusedSimpArgs false

theorem ck_reverse {l : List Int} (h : ck l = 0) : ck l.reverse = 0 := by
  obtain ⟨h1, h2, h3⟩ := ck_ok h
  exact ck_of (by simpa using h1) (by simpa using h2) (fun x hx => h3 x (by simpa using hx))
theorem all_twice {l : List Int} (h1 : 1 ≤ l.length) (h2 : l.length ≤ 10) : (l.map fun x => 2 * x).all (inn 0 1000) = decide (ck (l.map fun x => 2 * x) = 0) := by
  have e : inn 0 1000 = inR := rfl
  unfold ck
  rw [if_neg (by rw [List.length_map]; omega), if_neg (by rw [List.length_map]; omega), e]
  cases (l.map fun x => 2 * x).all inR <;> rfl
theorem cost_one (x : Int) : cost [x] = 0 := by simp [cost, lens_one, costI]
theorem cells_two (w : World) (A : Addr) (x : Int) (xs : List Value) : True := trivial

/-- what is appended: the rest behind two -/
theorem rest_two {b o cap : Nat} {w : World} {l : List Int} (hcap : l.length ≤ cap) (h2 : 2 ≤ l.length) (hc : ∀ (j : Nat) (u : Value), (ints l)[j]? = some u → w.cell? ⟨b, o + j, none⟩ = some u) :
    ∃ ad : Addr, (if cap = 2 then (some (⟨b, o, none⟩ : Addr)) else some ⟨b, o + 2, none⟩) = some ad ∧ ad.block = b ∧ ∀ (j : Nat) (u : Value), (ints (l.drop 2))[j]? = some u → w.cell? (ad.add j) = some u := by
  by_cases h : cap = 2
  · refine ⟨⟨b, o, none⟩, by simp [h], rfl, fun j u hu => ?_⟩
    have : (ints (l.drop 2)).length = 0 := by simp [ints]; omega
    rw [List.length_eq_zero_iff.1 this] at hu
    simp at hu
  · refine ⟨⟨b, o + 2, none⟩, by simp [h], rfl, fun j u hu => ?_⟩
    rw [Addr.add_lit, Nat.add_assoc]
    refine hc (2 + j) u ?_
    rw [ints_get, List.getElem?_drop] at hu
    rw [ints_get]; exact hu

set_option maxHeartbeats 4000000 in
theorem walk (w : World) (A : Option Addr) (cap : Nat) (l : List Int) (s : l.length * 8 ≤ 140737488351232) (f : ∀ n ∈ l, -9223372036854775808 ≤ n ∧ n ≤ 9223372036854775807) (i : Reads w A l.length 1 (l.map (Value.int .i64)) ∧ l.length ≤ cap) :
    Calls Try.prog 5 #[.slice A l.length cap] w fun e w' => e = .returned (.bool true) ∧ Below w.heap.size w w' := by
  obtain ⟨hr, hcap⟩ := i
  clear f
  have hm1 : l.length ≤ maxLen := by unfold maxLen; omega
  by_cases hck : ck l = 0
  · obtain ⟨h1, h10, hb⟩ := ck_ok hck
    obtain ⟨i0, hi, hz0, hz1, hz2⟩ := info_parts infoI
    have hnn : ∀ x ∈ l, 0 ≤ x := fun x hx => (hb x hx).1
    have HC := Lib.hid (fun w hr => cost_ok A cap l w hr hck)
    have HTN := Lib.hid (fun w hr => turned_any A cap l w hr (by omega))
    have HC2 := Lib.hid (fun B c w hr => cost_ok B c l.reverse w hr (ck_reverse hck))
    rw [cost_reverse h1 (by omega) hnn, List.length_reverse] at HC2
    have hcb := cost_bound hck
    have hlt' : (l.map fun x => 2 * x).length = l.length := by simp
    have HC3 := Lib.hid (fun B c w hr (h : ck (l.map fun x => 2 * x) = 0) => cost_ok B c (l.map fun x => 2 * x) w hr h)
    have HC4 := Lib.hid (fun B c w hr (h : ck (l.map fun x => 2 * x) ≠ 0) => cost_no B c (l.map fun x => 2 * x) w hr (by rw [hlt']; exact hm1) h)
    have HA4 := Lib.hid (fun B c w hr => refall_any B c (l.map fun x => 2 * x) 0 1000 w hr (by rw [hlt']; exact hm1))
    rw [all_twice h1 h10, hlt'] at HA4
    rw [cost_twice h1 (by omega) hnn, hlt'] at HC3
    rw [hlt'] at HC4
    have HB := Lib.hid hb
    have HONE := Lib.hid (show l.length < 2 → cost l = 0 from fun h => by
      obtain ⟨x, hx⟩ := List.length_eq_one_iff.1 (show l.length = 1 by omega)
      rw [hx]; exact cost_one x)
    have HMG := Lib.hid (show ∀ x y r, l = x :: y :: r → x + y ≤ 1000 → ck ((x + y) :: r) = 0 ∧ cost l ≤ cost ((x + y) :: r) + x + y ∧ 0 ≤ cost ((x + y) :: r) ∧ cost ((x + y) :: r) ≤ 120000 from fun x y r e hxy => by
      subst e
      have hk : ck ((x + y) :: r) = 0 := ck_of (by simp) (by simp at h10 ⊢; omega) (fun z hz => by
        rcases List.mem_cons.1 hz with rfl | hz
        · have := hb x (by simp); have := hb y (by simp); omega
        · exact hb z (by simp [hz]))
      exact ⟨hk, cost_merge (by simp at h10 ⊢; omega) hnn, (cost_bound hk).1, (cost_bound hk).2⟩)
    generalize cost l = C at *
    have wr0 : IntKind.i64.wrap (2 * C) = 2 * C := IntWalk.i64_in _ (by omega)
    clear hck hb hnn
    go_enter Try.func5, Try.ntmps5
    go_wp2_with fail
    refine (fact_any _).mono ?_
    rintro e w1 ⟨rfl, hb1⟩
    go_wp2_with fail
    refine (HC.out _ (hr.below hb1)).mono ?_
    rintro e w2 ⟨rfl, hb2'⟩
    have hb2 := bnext hb1 hb2'
    clear hb1 hb2' HC
    go_wp2_with fail
    refine (HTN.out _ (hr.below hb2)).mono ?_
    rintro e w3 ⟨v, rfl, hown, hb3'⟩
    obtain ⟨A3, c3, hv⟩ := own_slice hown
    subst hv
    have hb3 := bnext hb2 hb3'
    have hr3 := Reads.of_own hown
    clear hown hb3' hb2 HTN
    go_wp2_with fail
    refine (HC2.out _ _ _ hr3).mono ?_
    rintro e w4 ⟨rfl, hb4'⟩
    have hb4 := bnext hb3 hb4'
    clear hb4' hb3 hr3 HC2
    go_wp2_with fail
    go_loopw [7, 8, 35, 36, 37, 38, 39, 40, 41, 42, 43, 44, 45, 46, 47, 48] (fun v kv _ _ _ _ _ _ _ _ _ _ _ _ _ _ wr => ∃ k : Nat, k ≤ l.length ∧ kv = .int .i64 (k : Int) ∧ wr.ownsRow w.heap.size 3 1 v k (ints ((l.take k).map fun x => 2 * x)) ∧ Below w.heap.size w wr) (fun _ kv _ _ _ _ _ _ _ _ _ _ _ _ _ _ _ => l.length - (intOf kv).toNat)
    case atStart => exact ⟨0, Nat.zero_le _, rfl, World.ownsRow_nil _ _ _ _, hb4⟩
    case round =>
      clear hb4
      obtain ⟨k, hk, rfl, hown, hbel⟩ := hrel
      by_cases hlt : k < l.length
      · obtain ⟨b, o, rfl, hbl, hc⟩ := (hr.below hbel).2 (by omega)
        obtain ⟨x, hx⟩ : ∃ x, l[k]? = some x := ⟨_, List.getElem?_eq_getElem hlt⟩
        have c0 := hc k (.int .i64 x) (by rw [List.getElem?_map, hx]; rfl)
        have hxb := HB.out x (List.mem_of_getElem? hx)
        have hsn : (l.take (k + 1)).map (fun x => 2 * x) = (l.take k).map (fun x => 2 * x) ++ [2 * x] := by
          rw [List.take_add_one, hx]; simp
        have HS := Lib.hid hsn
        have kk : (k : Int) < (l.length : Int) := by omega
        have wr1 : IntKind.i64.wrap (2 * x) = 2 * x := IntWalk.i64_in _ (by omega)
        have hs1 := hbel.size
        clear hc hsn hx hxb
        go_wp2_with (at_builtin; go_must (refine append_own _ rfl _ _ 22 rfl w.heap.size 3 i0 _ 1 8 Try.underlying22 hi hz0 hz1 hz2 rfl (by decide) _ _ _ rfl (hown.alloc _) ⟨wr.heap.size, 0, none⟩ 1 1 [.int .i64 (2 * x)] rfl rfl (cell_one_new _ _ _) (int_oneCell _) (by unfold maxLen; omega) (by omega) (by simp; omega) (by decide) ?_); intro g2 cap2 w2 hown2 hg2 hg2' hgrow2)
        refine ⟨⟨k + 1, by omega, by go_num, by rw [HS.out, ← ints_snoc]; exact hown2, below_app hbel hown hgrow2⟩, by simp [intOf]; omega⟩
      · obtain rfl : k = l.length := by omega
        obtain ⟨A5, c5, hv⟩ := own_slice hown
        subst hv
        rw [List.take_length] at hown
        have hr5 := Reads.of_own hown
        have kk : ¬ ((l.length : Int) < (l.length : Int)) := by omega
        clear hown
        have HR5 := Lib.hid hr5
        clear hr5
        by_cases hl2 : l.length < 2
        · have k2 : (l.length : Int) < 2 := by omega
          have hC0 := HONE.out hl2
          subst hC0
          rcases Decidable.em (ck (l.map fun x => 2 * x) = 0) with h2 | h2
          all_goals
            go_wp2_with fail
            (first
            | (refine (HC3.out _ _ _ HR5.out h2).mono ?_; rintro e w6 ⟨rfl, hb6'⟩; have hb6 := bnext hbel hb6'; clear hb6' hbel HR5; go_wp2_with fail)
            | (refine (HC4.out _ _ _ HR5.out h2).mono ?_; rintro e w6 ⟨rfl, hw6⟩; subst wr; have hb6 := hbel; clear hbel; go_wp2_with fail; refine (HA4.out _ _ _ HR5.out).mono ?_; rintro e w7 ⟨rfl, rfl⟩; rw [decide_eq_false h2]; go_wp2_with fail))
            go_ret
            exact ⟨rfl, hb6⟩
        · have k2 : ¬ (l.length : Int) < 2 := by omega
          obtain ⟨x, hx⟩ : ∃ x, l[0]? = some x := ⟨_, List.getElem?_eq_getElem (by omega)⟩
          obtain ⟨y, hy⟩ : ∃ y, l[1]? = some y := ⟨_, List.getElem?_eq_getElem (by omega)⟩
          have he : l = x :: y :: l.drop 2 := by
            apply List.ext_getElem?
            intro j
            match j with
            | 0 => rw [hx]; rfl
            | 1 => rw [hy]; rfl
            | j + 2 => rw [List.getElem?_cons_succ, List.getElem?_cons_succ, List.getElem?_drop, Nat.add_comm]
          have hxb := HB.out x (List.mem_of_getElem? hx)
          have hyb := HB.out y (List.mem_of_getElem? hy)
          have HXY := Lib.hid (HMG.out x y (l.drop 2) he)
          have HX := Lib.hid hx; have HY := Lib.hid hy
          have wr1 : IntKind.i64.wrap (x + y) = x + y := IntWalk.i64_in _ (by omega)
          have g1 : (1 : Int) < (l.length : Int) := by omega
          have g0 : (0 : Int) < (l.length : Int) := by omega
          have n0 : 0 < l.length := by omega
          have n1 : 1 < l.length := by omega
          clear hx hy he HMG
          rcases Decidable.em (ck (l.map fun x => 2 * x) = 0) with h2 | h2
          all_goals
            go_wp2_with fail
            (first
            | (refine (HC3.out _ _ _ HR5.out h2).mono ?_; rintro e w6 ⟨rfl, hb6'⟩; have hb6 := bnext hbel hb6'; clear hb6' hbel HR5; go_wp2_with fail)
            | (refine (HC4.out _ _ _ HR5.out h2).mono ?_; rintro e w6 ⟨rfl, hw6⟩; subst wr; have hb6 := hbel; clear hbel; go_wp2_with fail; refine (HA4.out _ _ _ HR5.out).mono ?_; rintro e w7 ⟨rfl, rfl⟩; rw [decide_eq_false h2]; go_wp2_with fail))
            obtain ⟨b, o, rfl, hbl, hc⟩ := (hr.below hb6).2 (by omega)
            have c0 := hc 0 (.int .i64 x) (by rw [List.getElem?_map, HX.out]; rfl)
            have c1 := hc 1 (.int .i64 y) (by rw [List.getElem?_map, HY.out]; rfl)
            rw [Nat.add_zero] at c0
            obtain ⟨ad, had, hadb, hadc⟩ := rest_two hcap (by omega) hc
            have HAD := Lib.hid had; have HADC := Lib.hid hadc
            clear hc had hadc HC3 HC4 HA4
            by_cases hxy : 1000 < x + y
            · go_quiet (fail)
              go_wp2
              go_ret
              exact ⟨rfl, bdrew hb6 _⟩
            · have hxy' := HXY.out (by omega)
              have HK := Lib.hid hxy'.1
              obtain ⟨hk1, hk2, hk3⟩ := hxy'.2
              have HQ := Lib.hid (fun B c w hr => cost_ok B c ((x + y) :: l.drop 2) w hr HK.out)
              have hql : ((x + y) :: l.drop 2).length = 1 + (l.length - 2) := by simp; omega
              rw [hql] at HQ
              generalize cost ((x + y) :: l.drop 2) = D at *
              clear hxy' HXY
              go_quiet (fail)
              go_wp2
              have e0 : (w6.drewN nq).cell? ⟨b, o, none⟩ = some (.int .i64 x) := c0
              have e1 : (w6.drewN nq).cell? ⟨b, o + 1, none⟩ = some (.int .i64 y) := c1
              have hb7 := bdrew hb6 nq
              have HADC2 := Lib.hid (show ∀ (j : Nat) (u : Value), (ints (l.drop 2))[j]? = some u → (w6.drewN nq).cell? (ad.add j) = some u from HADC.out)
              have hbl2 : b < (w6.drewN nq).heap.size := hbl
              clear c0 c1 hb6 HADC hbl
              generalize w6.drewN nq = w7 at *
              go_region_held3 (fun w' => w'.cell? ⟨b, o, none⟩ = some (.int .i64 x) ∧ w'.cell? ⟨b, o + 1, none⟩ = some (.int .i64 y)) (first | exact ⟨e0, e1⟩ | exact ⟨((bnew w7 _).cell (p := ⟨b, o, none⟩) hbl2).trans e0, ((bnew w7 _).cell (p := ⟨b, o + 1, none⟩) hbl2).trans e1⟩) (fail)
              have HO := Lib.hid (show (w7.alloc (.cells #[.int .i64 (x + y)] 3)).drew.ownsRow w.heap.size 3 1 (.slice (some ⟨w7.heap.size, 0, none⟩) 1 1) 1 (ints [x + y]) from
                ⟨rfl, .inr ⟨w7.heap.size, 1, _, rfl, hb7.size, heap_alloc_new w7 _, Nat.le_refl _, by unfold maxLen; decide, rfl, rfl⟩⟩)
              have HADC3 := Lib.hid (show ∀ (j : Nat) (u : Value), (ints (l.drop 2))[j]? = some u → (w7.alloc (.cells #[.int .i64 (x + y)] 3)).drew.cell? (ad.add j) = some u from fun j u hu => by
                have h := HADC2.out j u hu
                refine Eq.trans ?_ h
                exact (bnew w7 _).cell (p := ad.add j) (by unfold Addr.add; split <;> (simp only [hadb]; exact hbl2)))
              have hb8 : Below w.heap.size w (w7.alloc (.cells #[.int .i64 (x + y)] 3)).drew := (bmore hb7 _).drew
              have hl8 : (ints (l.drop 2)).length = (l.length - 2) * 1 := by simp [ints]
              have f0 : (w7.alloc (.cells #[.int .i64 (x + y)] 3)).drew.cell? ⟨b, o, none⟩ = some (.int .i64 x) := ((bnew w7 _).cell (p := ⟨b, o, none⟩) hbl2).trans e0
              have f1 : (w7.alloc (.cells #[.int .i64 (x + y)] 3)).drew.cell? ⟨b, o + 1, none⟩ = some (.int .i64 y) := ((bnew w7 _).cell (p := ⟨b, o + 1, none⟩) hbl2).trans e1
              have hbs : b < w7.heap.size := hbl2
              have hgw : w7.heap.size < (w7.alloc (.cells #[.int .i64 (x + y)] 3)).drew.heap.size := by simp [World.drew]
              clear e0 e1 hb7 HADC2 hbl2
              generalize (w7.alloc (.cells #[.int .i64 (x + y)] 3)).drew = w8 at *
              have hs8 := hb8.size
              have hif := HAD.out
              have HB8 := Lib.hid hb8
              clear hb8
              go_wp2_with (at_builtin; go_must (refine wpList_append_own_at _ rfl _ _ 22 rfl w.heap.size 3 i0 _ 1 8 Try.underlying22 hi hz0 hz1 hz2 rfl (by decide) _ 1 (ints [x + y]) rfl HO.out ad (l.length - 2) (cap - 2) (ints (l.drop 2)) (by simp [Act.eval, Act.put, hif]) hl8 HADC3.out (fun u hu => by obtain ⟨z, _, rfl⟩ := List.mem_map.1 hu; rfl) (by unfold maxLen; omega) (by omega) hs8 ?_); intro v9 w9 hown9 hgrow9 _ _; obtain ⟨A9, c9, e9⟩ := own_slice hown9; subst e9)
              have hr9 := Reads.of_own hown9
              rw [show ints [x + y] ++ ints (l.drop 2) = ints ((x + y) :: l.drop 2) from by simp [ints]] at hr9
              have hb9 : Below w.heap.size w w9 := HB8.out.grown hgrow9 hs8 (fun k hk => own_ge HO.out hk)
              have hne : ∀ k, some (⟨b, k, none⟩ : Addr).block ≠ (Value.slice (some ⟨w7.heap.size, 0, none⟩) 1 1).ownBlock := fun k e => by injection e with e; simp only at e; omega
              have c0 : w9.cell? ⟨b, o, none⟩ = some (.int .i64 x) := hgrow9.cell (a := ⟨b, o, none⟩) f0 (hne o)
              have c1 : w9.cell? ⟨b, o + 1, none⟩ = some (.int .i64 y) := hgrow9.cell (a := ⟨b, o + 1, none⟩) f1 (hne (o + 1))
              have hbw9 : b < w9.heap.size := by have := hgrow9.size; omega
              clear hown9 hgrow9 f0 f1 hne
              go_wp2_with fail
              refine (HQ.out _ _ _ hr9).mono ?_
              rintro e w10 ⟨rfl, hb10⟩
              have d0 : w10.cell? ⟨b, o, none⟩ = some (.int .i64 x) := (hb10.cell (p := ⟨b, o, none⟩) hbw9).trans c0
              have d1 : w10.cell? ⟨b, o + 1, none⟩ = some (.int .i64 y) := (hb10.cell (p := ⟨b, o + 1, none⟩) hbw9).trans c1
              have hbe := bnext hb9 hb10
              have wr2 : IntKind.i64.wrap (D + x) = D + x := IntWalk.i64_in _ (by omega)
              have wr3 : IntKind.i64.wrap (D + x + y) = D + x + y := IntWalk.i64_in _ (by omega)
              clear c0 c1 hb9 hb10 hr9
              go_wp2
              go_quiet (fail)
              go_wp2
              go_ret
              exact ⟨rfl, bdrew hbe _⟩
  · have HC := Lib.hid (fun w hr => cost_no A cap l w hr hm1 hck)
    generalize ck l = E at *
    go_enter Try.func5, Try.ntmps5
    go_wp2_with fail
    refine (fact_any _).mono ?_
    rintro e w1 ⟨rfl, hb1⟩
    go_wp2_with fail
    refine (HC.out _ (hr.below hb1)).mono ?_
    rintro e w2 ⟨rfl, rfl⟩
    go_wp2_with fail
    go_ret
    exact ⟨rfl, hb1⟩
end Go.Proofs.Ytdafkkhbfgpcoaa.huffSame
