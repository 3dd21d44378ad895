/-
  The walk of the law RiseMore: it returns true for every list and number.
-/
import Derived.Test.YtlchgjlinhakdaaRsLaw
import Derived.Laws.AppendOwnNone
namespace Go.Proofs.Ytlchgjlinhakdaa.Rs
open Go.RowKit
set_option linter.unusedVariables false

/-- 'append' of a list that came in to nil -/
theorem append_src {P : Program} (w : World) {ops : Array Oper} {rest : List Oper} {o : Oper} {a : Act} {Q : Exit → Act → World → Prop} (hgd : o.guard = none) (s x : Operand) (t : TypeId)
    (ho : o.op = .call { callee := .builtin .append, args := #[s, x], argTypes := #[t, t] })
    (base : Nat) (e : TypeId) (i : TypeInfo) (ht : P.underlying t = some (.slice e)) (hi : P.info? e = some i) (hz : i.zero = some (.int .i64 0)) (hsize : i.size = 1) (hby : i.bytes = 8)
    (hs : a.eval s = .slice none 0 0) (A : Option Addr) (c : Nat) (l : List Int) (hx : a.eval x = .slice A l.length c) (hr : Reads w A l.length 1 (ints l)) (hlen : l.length ≤ 1000) (hbase : base ≤ w.heap.size)
    (h : ∀ v' w', w'.ownsRow base e 1 v' l.length (ints l) → w.grownBy w' none → wpList P ops Q rest (a.put o.dst v') w') : wpList P ops Q (o :: rest) a w := by
  rcases A with _ | ad
  · have hl : l = [] := by
      rcases Nat.eq_zero_or_pos l.length with h0 | h0
      · exact List.eq_nil_of_length_eq_zero h0
      · obtain ⟨b, o, e, _⟩ := hr.2 h0
        cases e
    subst hl
    have hrun : (Builtin.append_ #[t, t] o.type #[.slice none 0 0, .slice none 0 c]).run P w = .ok (.slice none 0 0) w := by
      simp [Builtin.append_, run_underlying ht, sizeOf, typeInfo, hi, Builtin.lenOf, Builtin.firstCells]
    refine wpList_plain hgd fun K hK => ?_
    unfold Oper.wp
    have hx' : a.eval x = .slice none 0 c := hx
    simp [execOp, ho, resolve, invoke, builtin, hs, hx', hrun, Result.andThen]
    exact hK _ _ (h _ w (World.ownsRow_nil _ _ _ _) (World.grownBy.refl w _))
  · refine wpList_append_own w hgd s x t ho base e i (.int .i64 0) 1 8 ht hi hz hsize hby rfl (by omega) (.slice none 0 0) 0 [] hs (World.ownsRow_nil _ _ _ _) ad l.length c (ints l) hx (by simp [ints]) ?_ ?_ (by unfold maxLen; omega) (by omega) hbase ?_
    · intro j u hu
      have hj : j < l.length := by have := (List.getElem?_eq_some_iff.1 hu).1; simpa [ints] using this
      obtain ⟨b, o, e, hb, hc⟩ := hr.2 (by omega)
      obtain rfl := Option.some.inj e
      have e : (⟨b, o, none⟩ : Addr).add j = ⟨b, o + j, none⟩ := by unfold Addr.add; split <;> simp_all
      rw [e]
      exact hc j u hu
    · intro u hu
      obtain ⟨n, _, rfl⟩ := List.mem_map.1 hu
      rfl
    · intro v' w' h2 h3 _
      refine h v' w' ?_ ?_
      · rwa [Nat.zero_add, List.nil_append] at h2
      · exact h3
theorem chk_snoc {l : List Int} {n : Int} (h : chk l = 0) (h2 : chk (l ++ [n]) ≠ 0) : l.length = 20 ∨ ¬ (0 ≤ n ∧ n ≤ 1000) := by
  have h1 := chk_ok h
  by_cases hn : 0 ≤ n ∧ n ≤ 1000
  · left
    rcases Nat.lt_or_ge l.length 20 with hlt | hge
    · exfalso
      apply h2
      unfold chk
      rw [if_neg (by simp; omega), if_pos]
      rw [List.all_eq_true]
      intro x hx
      rcases List.mem_append.1 hx with hx | hx
      · exact decide_eq_true (h1.2 x hx)
      · obtain rfl : x = n := by simpa using hx
        exact decide_eq_true hn
    · omega
  · exact .inr hn
theorem pos_last {t : List Int} (h : Rises t) {j : Nat} {x n : Int} (hj : t.length = j + 1) (hx : t[j]? = some x) : pos n t = t.length ↔ x < n := by
  constructor
  · intro hp
    exact pos_lt (by omega : j < pos n t) hx
  · intro hlt
    refine (pos_unique (Nat.le_refl _) (fun i y hi hy => ?_) (fun i y hi hy => ?_)).symm
    · rcases Nat.lt_or_ge i j with h1 | h1
      · have := h i j y x h1 hy hx; omega
      · obtain rfl : i = j := by omega
        rw [hx] at hy
        simp at hy
        omega
    · have := (List.getElem?_eq_some_iff.1 hy).1
      omega

set_option maxHeartbeats 4000000 in
set_option maxRecDepth 100000 in
theorem walkMore (w : World) (A : Option Addr) (cap : Nat) (l : List Int) (s : l.length * 8 ≤ 140737488351232) (f : ∀ n ∈ l, -9223372036854775808 ≤ n ∧ n ≤ 9223372036854775807) (i : Reads w A l.length 1 (l.map (Value.int .i64)) ∧ l.length ≤ cap) (n : Int) (hn : -9223372036854775808 ≤ n ∧ n ≤ 9223372036854775807) :
    Calls Try.prog 6 #[.slice A l.length cap, .int .i64 n] w fun e w' => e = .returned (.bool true) ∧ Below w.heap.size w w' := by
  obtain ⟨hr, hcap⟩ := i
  clear f
  by_cases h : chk l = 0
  · have hlen := (chk_ok h).1
    have L1 := fun w hr => piles_ok A cap l w hr h
    have hpl := piles_le l
    have hri := piles_rises l
    have hll : (l ++ [n]).length = l.length + 1 := by simp
    have hpn : piles (l ++ [n]) = put n (piles l) := piles_snoc l n
    have hnil : piles l = [] ↔ l = [] := by
      constructor
      · intro e
        have := erdos l
        rw [e] at this
        simp at this
        exact this
      · rintro rfl; rfl
    obtain ⟨i0, hi, hz0, hz1, hz2⟩ := info_parts infoI
    have L2 : ∀ A cap w, Reads w A (l.length + 1) 1 (ints l ++ [.int .i64 n]) → chk (l ++ [n]) = 0 → Calls Try.prog 12 #[.slice A (l.length + 1) cap] w (Owned w (put n (piles l))) := by
      intro A cap w hr hc
      have e : ints l ++ [.int .i64 n] = ints (l ++ [n]) := by simp [ints]
      rw [e, ← hll] at hr
      rw [← hpn, ← hll]
      exact piles_ok A cap (l ++ [n]) w hr hc
    have L3 : ∀ A cap w, Reads w A (l.length + 1) 1 (ints l ++ [.int .i64 n]) → chk (l ++ [n]) ≠ 0 → Calls Try.prog 12 #[.slice A (l.length + 1) cap] w fun e w' => e = .returned (.tuple #[.slice none 0 0, .iface 43 (.int .i64 (chk (l ++ [n])))]) ∧ Below w.heap.size w w' := by
      intro A cap w hr hc
      have e : ints l ++ [.int .i64 n] = ints (l ++ [n]) := by simp [ints]
      rw [e, ← hll] at hr
      rw [← hll]
      exact piles_no A cap (l ++ [n]) w hr (by unfold maxLen; omega) hc
    generalize piles l = t at *
    have t20 : t.length ≤ 20 := by omega
    have HL1 := Lib.hid L1; have HL2 := Lib.hid L2; have HL3 := Lib.hid L3; have HRI := Lib.hid hri; have HNIL := Lib.hid hnil
    have HC := Lib.hid h
    clear L1 L2 L3 hri hll hpn hnil hpl h
    go_enter Try.func6, Try.ntmps6
    go_wp2_with fail
    refine (fact_any _).mono ?_
    rintro e w1 ⟨rfl, hb1⟩
    go_wp2_with fail
    refine (HL1.out _ (hr.below hb1)).mono ?_
    rintro e w2 ⟨v, rfl, hown, hb2⟩
    obtain ⟨A', cap', e⟩ := own_slice hown
    subst e
    have hrt := Reads.of_own hown
    have hb := bnext hb1 hb2
    have hr2 := hr.below hb
    have HB := Lib.hid hb
    clear hown hb1 hb2 hb
    go_wp2_with (first
      | (at_builtin; (refine append_src w2 rfl _ _ 22 rfl w2.heap.size 3 i0 Try.underlying22 hi hz0 hz1 hz2 rfl A cap l rfl hr2 (by omega) (Nat.le_refl _) ?_); intro v3 w3 hown3 hgrow3; have hb3 : Below w2.heap.size w2 w3 := (Below.refl _ _).grown hgrow3 (Nat.le_refl _) (fun j hj => by cases hj); have hs3 := hb3.size; obtain ⟨A3, cap3, e⟩ := own_slice hown3; subst e; have HB3 := Lib.hid hb3; clear hgrow3 hb3)
      | (at_builtin; (refine append_own _ rfl _ _ 22 rfl w2.heap.size 3 i0 _ 1 8 Try.underlying22 hi hz0 hz1 hz2 rfl (by decide) (.slice A3 l.length cap3) l.length (ints l) rfl (hown3.alloc _) ⟨w3.heap.size, 0, none⟩ 1 1 [.int .i64 n] rfl rfl (cell_one_new _ _ _) (int_oneCell _) (by unfold maxLen; omega) (by omega) (by simp; omega) (by decide) ?_); intro g4 cap4 w4 hown4 hg4 hg4' hgrow4))
    have hb4 : Below w2.heap.size w2 w4 := (HB3.out.alloc hs3 _).grown hgrow4 (by simp; omega) (fun j hj => (hown3.lt j hj).1)
    have hr4 := Reads.of_own hown4
    have HB4 := Lib.hid hb4
    clear hgrow4 hown4 hown3 hb4
    by_cases hc : chk (l ++ [n]) = 0
    · have HP := Lib.hid (HL2.out (some ⟨g4, 0, none⟩) cap4 w4 hr4 hc)
      clear HL2 HL3
      have hput : put n t = put n t := rfl
      refine (HP.out).mono ?_
      rintro e w5 ⟨v5, rfl, hown5, hb5⟩
      obtain ⟨A5, cap5, e⟩ := own_slice hown5
      subst e
      have hr5 := Reads.of_own hown5
      have hrt5 := (hrt.below HB4.out).below hb5
      have hbF := (HB.out.trans (HB4.out.mono HB.out.size)).trans (hb5.mono (Nat.le_trans HB.out.size HB4.out.size))
      clear hown5 hput hrt hb5
      by_cases ht : t = []
      · subst ht
        have e1 : put n [] = [n] := rfl
        rw [e1] at hr5
        obtain ⟨b, o, rfl, hbl, hcl⟩ := hr5.2 (by simp)
        have c0 := hcl 0 (.int .i64 n) rfl
        rw [Nat.add_zero] at c0
        clear hcl
        go_wp2
        go_ret
        exact ⟨by first | rfl | exact ret_bool (by simp), hbF⟩
      · obtain ⟨j, hj⟩ : ∃ j, t.length = j + 1 := ⟨t.length - 1, by have := List.length_pos_iff.2 ht; omega⟩
        obtain ⟨x, hx⟩ : ∃ x, t[j]? = some x := ⟨_, List.getElem?_eq_getElem (by omega)⟩
        obtain ⟨b, o, rfl, hbl, hcl⟩ := hrt5.2 (by omega)
        have cx := hcl j (.int .i64 x) (by rw [ints_get, hx]; rfl)
        have hpos := pos_last HRI.out hj hx (n := n)
        have z1 : ((t.length : Int) == 0) = false := by rw [beq_eq_false_iff_ne]; omega
        have w0 : IntKind.i64.wrap ((t.length : Int) - 1) = (j : Int) := by rw [IntWalk.i64_in _ (by omega)]; omega
        have e0 : (t.length : Int) - 1 = (j : Int) := by omega
        have g1 : (0 : Int) ≤ (j : Int) := by omega
        have g2 : (j : Int) < (t.length : Int) := by omega
        clear hcl hx ht hj hrt5
        by_cases hlt : x < n
        · have hpu : put n t = t ++ [n] := by unfold put; rw [if_pos (hpos.2 hlt)]
          rw [hpu] at hr5
          have hl1 : (t ++ [n]).length = t.length + 1 := by simp
          have hpl : (put n t).length = t.length + 1 := by rw [hpu, hl1]
          rw [hl1] at hr5
          obtain ⟨b5, o5, rfl, hbl5, hcl5⟩ := hr5.2 (by omega)
          have c5 := hcl5 t.length (.int .i64 n) (by simp [ints])
          have g3 : decide (x < n) = true := decide_eq_true hlt
          have g4 : (0 : Int) ≤ (t.length : Int) := by omega
          have g5 : (t.length : Int) < (t.length : Int) + 1 := by omega
          have w1 : IntKind.i64.wrap ((t.length : Int) + 1) = (t.length : Int) + 1 := IntWalk.i64_in _ (by omega)
          clear hcl5 hpos hpu hl1 hr5
          go_wp2
          go_ret
          exact ⟨by first | rfl | exact ret_bool (by simp), hbF⟩
        · have hpu : (put n t).length = t.length := by rw [put_length, if_neg (fun e => hlt (hpos.1 e))]
          have g3 : decide (x < n) = false := decide_eq_false hlt
          clear hpos hr5
          go_wp2
          go_ret
          exact ⟨by first | rfl | exact ret_bool (by simp), hbF⟩
    · have HP := Lib.hid (HL3.out (some ⟨g4, 0, none⟩) cap4 w4 hr4 hc)
      have hwhy := chk_snoc HC.out hc
      clear HL2 HL3 hc
      refine (HP.out).mono ?_
      rintro e w5 ⟨rfl, hb5⟩
      have hbF := (HB.out.trans (HB4.out.mono HB.out.size)).trans (hb5.mono (Nat.le_trans HB.out.size HB4.out.size))
      clear hb5
      by_cases h20 : l.length = 20
      · have z1 : ((l.length : Int) == 20) = true := by rw [h20]; rfl
        clear h20 hwhy
        go_wp2
        go_ret
        exact ⟨by first | rfl | exact ret_bool (by simp), hbF⟩
      · have z1 : ((l.length : Int) == 20) = false := by rw [beq_eq_false_iff_ne]; omega
        have hbad : ¬ (0 ≤ n ∧ n ≤ 1000) := by
          rcases hwhy with h | h
          · exact absurd h h20
          · exact h
        clear h20 hwhy
        go_wp2_with fail
        refine (in_no hbad _).mono ?_
        rintro e w6 ⟨rfl, rfl⟩
        go_wp2
        go_ret
        exact ⟨by first | rfl | exact ret_bool (by simp), hbF⟩
  · have hm : l.length ≤ maxLen := by unfold maxLen; omega
    have HL1 := Lib.hid (fun w hr => piles_no A cap l w hr hm h)
    go_enter Try.func6, Try.ntmps6
    go_wp2_with fail
    refine (fact_any _).mono ?_
    rintro e w1 ⟨rfl, hb1⟩
    go_wp2_with fail
    refine (HL1.out _ (hr.below hb1)).mono ?_
    rintro e w2 ⟨rfl, hb2⟩
    go_wp2_with fail
    go_ret
    exact ⟨by first | rfl | exact ret_bool (by simp), bnext hb1 hb2⟩
end Go.Proofs.Ytlchgjlinhakdaa.Rs
namespace Go.Proofs.Ytlchgjlinhakdaa.riseMore
abbrev walk := @Rs.walkMore
end Go.Proofs.Ytlchgjlinhakdaa.riseMore
