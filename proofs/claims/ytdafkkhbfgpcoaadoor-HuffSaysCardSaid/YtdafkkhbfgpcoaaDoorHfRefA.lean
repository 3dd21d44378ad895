/-
  The walks of the reference's Weights, lightest and without.
-/
import Derived.Test.YtdafkkhbfgpcoaaDoorHfRel
import Derived.Test.YtdafkkhbfgpcoaaDoorRefAll
import Derived.Test.YtdafkkhbfgpcoaaDoorApp
namespace Go.Proofs.YtdafkkhbfgpcoaaDoor.Hf
open Go.RowKit
set_option linter.unusedVariables false
set_option linter.unusedSimpArgs false

theorem weights_any (A : Option Addr) (c : Nat) (l : List Int) (w : World) (hr : Reads w A l.length 1 (ints l)) (hm : l.length ≤ maxLen) :
    Calls Tryd.prog 4 #[.slice A l.length c] w fun e w' => e = .returned (.int .i64 (ck l)) ∧ w = w' := by
  have HA := Lib.hid (refall_any A c l 0 1000 w hr hm)
  rw [show l.all (inn 0 1000) = l.all inR from rfl] at HA
  unfold maxLen at hm
  by_cases h0 : l.length = 0
  · have hk : ck l = 5 := if_pos h0
    rw [hk, h0]
    go_enter Tryd.func4, Tryd.ntmps4
    go_wp2
    go_ret
    exact ⟨rfl, rfl⟩
  · have k0 : ((l.length : Int) == 0) = false := by rw [beq_eq_false_iff_ne]; omega
    by_cases h : 10 < l.length
    · have hk : ck l = 4 := by unfold ck; rw [if_neg h0, if_pos h]
      have k1 : (10 : Int) < (l.length : Int) := by omega
      rw [hk]
      go_enter Tryd.func4, Tryd.ntmps4
      go_wp2
      go_ret
      exact ⟨rfl, rfl⟩
    · have k1 : ¬ (10 : Int) < (l.length : Int) := by omega
      have hk : ck l = if l.all inR then 0 else 1 := by unfold ck; rw [if_neg h0, if_neg h]
      rw [hk]
      generalize l.all inR = b at *
      cases b
      · go_enter Tryd.func4, Tryd.ntmps4
        go_wp2_with fail
        refine HA.out.mono ?_
        rintro e w' ⟨rfl, rfl⟩
        go_wp2_with fail
        go_ret
        exact ⟨rfl, rfl⟩
      · go_enter Tryd.func4, Tryd.ntmps4
        go_wp2_with fail
        refine HA.out.mono ?_
        rintro e w' ⟨rfl, rfl⟩
        go_wp2_with fail
        go_ret
        exact ⟨rfl, rfl⟩

set_option maxHeartbeats 1000000 in
theorem lightest_any (b c : Nat) (L : List Hp) (w : World) (h0 : 0 < L.length) (hn : L.length ≤ 1000) (hr : Reads w (some ⟨b, 0, none⟩) L.length 2 (rc L)) :
    Calls Tryd.prog 14 #[.slice (some ⟨b, 0, none⟩) L.length c] w fun e w' => e = .returned (.int .i64 ((lt0 (L.map (·.1)) : Nat) : Int)) ∧ Below w.heap.size w w' := by
  obtain ⟨R, hR⟩ : ∃ R, R = lt0 (L.map (·.1)) := ⟨_, rfl⟩
  rw [← hR]
  have HR := Lib.hid hR
  clear hR
  go_enter Tryd.func14, Tryd.ntmps14
  go_wp2
  go_loopw [3, 4, 5, 6, 7, 8, 9, 10, 11, 12, 13, 14, 15, 16, 17, 18, 19, 20, 21, 22] (fun av iv _ _ _ _ _ _ _ _ _ _ _ _ _ _ _ _ _ _ wr => ∃ i : Nat, i ≤ L.length ∧ iv = .int .i64 (i : Int) ∧ av = .int .i64 (lst (L.map (·.1)) i : Int) ∧ Below w.heap.size w wr) (fun _ iv _ _ _ _ _ _ _ _ _ _ _ _ _ _ _ _ _ _ _ => L.length - (intOf iv).toNat)
  case atStart => exact ⟨0, Nat.zero_le _, rfl, rfl, Below.refl _ _⟩
  case round =>
    obtain ⟨i, hi, rfl, rfl, hbel⟩ := hrel
    by_cases hlt : i < L.length
    · have hbl := lst_lt (L.map (·.1)) (by simpa using h0) i (by simpa using hi)
      have hbn : lst (L.map (·.1)) (i + 1) = if (L.map (·.1)).getD i 0 < (L.map (·.1)).getD (lst (L.map (·.1)) i) 0 then i else lst (L.map (·.1)) i := rfl
      rw [List.length_map] at hbl
      have HN := Lib.hid hbn
      clear hbn
      generalize lst (L.map (·.1)) i = B at *
      obtain ⟨⟨wi, vi⟩, hp⟩ : ∃ p, L[i]? = some p := ⟨_, List.getElem?_eq_getElem hlt⟩
      obtain ⟨⟨wb, vb⟩, hq⟩ : ∃ p, L[B]? = some p := ⟨_, List.getElem?_eq_getElem hbl⟩
      obtain ⟨b', o', he, hbl2, hc⟩ := (hr.below hbel).2 h0
      simp only [Option.some.injEq, Addr.mk.injEq, and_true] at he
      obtain ⟨rfl, rfl⟩ := he
      have c0 := hc (i * 2) (.int .i64 wi) (by rw [(rc_get L i).1, hp]; rfl)
      have d0 := hc (B * 2) (.int .i64 wb) (by rw [(rc_get L B).1, hq]; rfl)
      rw [Nat.zero_add] at c0 d0
      have g1 : (L.map (·.1)).getD i 0 = wi := by rw [List.getD_eq_getElem?_getD, List.getElem?_map, hp]; rfl
      have g2 : (L.map (·.1)).getD B 0 = wb := by rw [List.getD_eq_getElem?_getD, List.getElem?_map, hq]; rfl
      rw [g1, g2] at HN
      have k1 : (i : Int) < (L.length : Int) := by omega
      have k2 : (B : Int) < (L.length : Int) := by omega
      clear hc hp hq g1 g2
      by_cases hw : wi < wb
      · have HE := Lib.hid (HN.out.trans (if_pos hw))
        go_wp2
        go_quiet (fail)
        go_wp2
        refine ⟨⟨i + 1, by omega, by go_num, by rw [HE.out], bdrew hbel _⟩, by simp [intOf]; omega⟩
      · have HE := Lib.hid (HN.out.trans (if_neg hw))
        go_wp2
        go_quiet (fail)
        go_wp2
        refine ⟨⟨i + 1, by omega, by go_num, by rw [HE.out], bdrew hbel _⟩, by simp [intOf]; omega⟩
    · obtain rfl : i = L.length := by omega
      have hlt0 : lst (L.map (·.1)) L.length = R := by rw [HR.out]; unfold lt0; rw [List.length_map]
      rw [hlt0]
      have kk : ¬ ((L.length : Int) < (L.length : Int)) := by omega
      go_wp2
      go_ret
      exact ⟨rfl, hbel⟩

theorem take_erase {α : Type} (l : List α) (k i : Nat) (x : α) (hx : l[i]? = some x) : (l.take (i + 1)).eraseIdx k = if i = k then (l.take i).eraseIdx k else (l.take i).eraseIdx k ++ [x] := by
  have hi := (List.getElem?_eq_some_iff.1 hx).1
  have hl : (l.take i).length = i := by simp; omega
  rw [List.take_add_one, hx]
  simp only [Option.toList_some]
  by_cases h : i = k
  · subst h
    rw [if_pos rfl, List.eraseIdx_append_of_length_le (by omega), hl, Nat.sub_self, List.eraseIdx_of_length_le (l := l.take i) (by omega)]
    show l.take i ++ [] = _
    rw [List.append_nil]
  · rw [if_neg h]
    rcases Nat.lt_or_ge k i with h2 | h2
    · rw [List.eraseIdx_append_of_lt_length (by omega)]
    · rw [List.eraseIdx_of_length_le (by simp; omega), List.eraseIdx_of_length_le (by omega)]
theorem infoR : (Tryd.prog.info? 41).map (fun i => (i.zero, i.size, i.bytes)) = some (some (.agg #[.int .i64 0, .slice none 0 0]), 2, 32) := by kernel_rfl
theorem cells2_new (w : World) (x y : Value) (t : TypeId) : ∀ j u, [x, y][j]? = some u → (w.alloc (.cells #[x, y] t)).cell? ((⟨w.heap.size, 0, none⟩ : Addr).add j) = some u := by
  intro j u hu
  rw [Addr.add_lit, cell_of_row _ w.heap.size (0 + j) _ _ (0, 0) (heap_alloc_new w _)]
  simpa using hu
theorem two_one (x : Int) (A : Option Addr) (m c : Nat) : ∀ u ∈ [Value.int .i64 x, Value.slice A m c], u.oneCell' = true := by
  intro u hu; simp at hu; rcases hu with rfl | rfl <;> rfl

set_option maxHeartbeats 1000000 in
theorem without_any (b c k : Nat) (L : List Hp) (w : World) (hk : k < L.length) (hn : L.length ≤ 1000) (hr : Reads w (some ⟨b, 0, none⟩) L.length 2 (rc L)) (hs : ∀ p ∈ L, ∃ A m c, p.2 = .slice A m c) :
    Calls Tryd.prog 15 #[.slice (some ⟨b, 0, none⟩) L.length c, .int .i64 (k : Int)] w fun e w' => ∃ v, e = .returned v ∧ w'.ownsRow w.heap.size 41 2 v (L.length - 1) (rc (L.eraseIdx k)) ∧ Below w.heap.size w w' := by
  obtain ⟨i0, hi, hz0, hz1, hz2⟩ := info_parts infoR
  have HS := Lib.hid hs
  clear hs
  go_enter Tryd.func15, Tryd.ntmps15
  go_wp2
  go_loopw [5, 6, 7, 8, 9, 10, 11, 12, 13, 14, 15, 16, 17, 18, 19, 20, 21, 22] (fun v iv _ _ _ _ _ _ _ _ _ _ _ _ _ _ _ _ wr => ∃ (i n : Nat), i ≤ L.length ∧ n ≤ i ∧ iv = .int .i64 (i : Int) ∧ Hid (n = ((L.take i).eraseIdx k).length) ∧ wr.ownsRow w.heap.size 41 2 v n (rc ((L.take i).eraseIdx k)) ∧ Below w.heap.size w wr) (fun _ iv _ _ _ _ _ _ _ _ _ _ _ _ _ _ _ _ _ => L.length - (intOf iv).toNat)
  case atStart => exact ⟨0, 0, Nat.zero_le _, Nat.zero_le _, rfl, Lib.hid rfl, World.ownsRow_nil _ _ _ _, Below.refl _ _⟩
  case round =>
    obtain ⟨i, n, hi1, hni, rfl, HN, hown, hbel⟩ := hrel
    by_cases hlt : i < L.length
    · obtain ⟨⟨wi, vi⟩, hp⟩ : ∃ p, L[i]? = some p := ⟨_, List.getElem?_eq_getElem hlt⟩
      obtain ⟨A2, m2, c2, hv⟩ := HS.out _ (List.mem_of_getElem? hp)
      simp only at hv
      subst hv
      obtain ⟨b', o', he, hbl2, hc⟩ := (hr.below hbel).2 (by omega)
      simp only [Option.some.injEq, Addr.mk.injEq, and_true] at he
      obtain ⟨rfl, rfl⟩ := he
      have c0 := hc (i * 2) (.int .i64 wi) (by rw [(rc_get L i).1, hp]; rfl)
      have c1 := hc (i * 2 + 1) (.slice A2 m2 c2) (by rw [(rc_get L i).2, hp]; rfl)
      rw [Nat.zero_add] at c0 c1
      have ht := Lib.hid (take_erase L k i _ hp)
      have k1 : (i : Int) < (L.length : Int) := by omega
      have hs1 := hbel.size
      clear hc hp
      by_cases hik : i = k
      · have hr1 : ((i : Int) != (k : Int)) = false := by rw [bne_eq_false_iff_eq]; omega
        rw [if_pos hik] at ht
        clear hik
        go_wp2
        refine ⟨⟨i + 1, n, by omega, by omega, by go_num, by rw [ht.out]; exact HN, by rw [ht.out]; exact hown, hbel⟩, by simp [intOf]; omega⟩
      · have hr1 : ((i : Int) != (k : Int)) = true := by rw [bne_iff_ne]; omega
        rw [if_neg hik] at ht
        clear hik
        go_wp2_with (at_builtin; go_must (refine append_own _ rfl _ _ 39 rfl w.heap.size 41 i0 _ 2 32 Tryd.underlying39 hi hz0 hz1 hz2 rfl (by decide) _ n _ rfl (hown.alloc _) ⟨wr.heap.size, 0, none⟩ 1 1 [.int .i64 wi, .slice A2 m2 c2] rfl rfl (cells2_new _ _ _ _) (two_one _ _ _ _) (by unfold maxLen; omega) (by omega) (by simp; omega) (by decide) ?_); intro g2 cap2 w2 hown2 hg2 hg2' hgrow2)
        refine ⟨⟨i + 1, n + 1, by omega, by omega, by go_num, Lib.hid (by rw [ht.out, List.length_append, ← HN.out]; rfl), by rw [ht.out, rc_append]; exact hown2, below_app hbel hown hgrow2⟩, by simp [intOf]; omega⟩
    · obtain rfl : i = L.length := by omega
      obtain ⟨A2, c2, hv⟩ := own_slice hown
      subst hv
      have hn1 := HN.out
      rw [List.take_length, List.length_eraseIdx_of_lt hk] at hn1
      subst hn1
      rw [List.take_length] at hown
      have kk : ¬ ((L.length : Int) < (L.length : Int)) := by omega
      clear HN
      go_wp2
      go_ret
      exact ⟨_, rfl, hown, hbel⟩
end Go.Proofs.YtdafkkhbfgpcoaaDoor.Hf
