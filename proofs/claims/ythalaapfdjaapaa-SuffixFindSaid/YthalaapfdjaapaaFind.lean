/-
  The walk of find.All: all places at which a word stands.
-/
import Derived.Test.YthalaapfdjaapaaKmpEdge
import Derived.Test.YthalaapfdjaapaaBlk
import Derived.Test.YthalaapfdjaapaaStd
import Derived.Test.YthalaapfdjaapaaSfTw
namespace Go.Proofs.Ythalaapfdjaapaa.Kmp
open Go.RowKit
set_option linter.unusedVariables false
set_option linter.unusedSimpArgs false

theorem places_step {w l : List UInt8} {i k : Nat} (hw : 0 < w.length) (h : Lo w l (i + 1) k) (hi : i < l.length) :
    placesTo l w (i + 2 - w.length) = placesTo l w (i + 1 - w.length) ++ if k = w.length then [((i + 1 - w.length : Nat) : Int)] else [] := by
  rcases Nat.lt_or_ge (i + 1) w.length with h1 | h1
  · rw [show i + 2 - w.length = 0 by omega, show i + 1 - w.length = 0 by omega, if_neg (by have := h.1.1; omega)]
    simp
  · obtain ⟨m, hm⟩ : ∃ m, m = i + 1 - w.length := ⟨_, rfl⟩
    rw [show i + 2 - w.length = m + 1 by omega, ← hm, placesTo_succ]
    congr 1
    have hocc := occ_whole (w := w) (u := l) (i := i + 1) (by omega) h1
    rw [← hm] at hocc
    by_cases hk : k = w.length
    · rw [if_pos hk, if_pos]
      rw [List.isPrefixOf_iff_prefix, ← hocc]
      have := h.1
      rwa [hk] at this
    · rw [if_neg hk, if_neg]
      rw [List.isPrefixOf_iff_prefix, ← hocc]
      intro ho
      have h2 := h.2 _ ho
      have h3 := h.1.2.1
      omega
theorem filter_range_more (p : Nat → Bool) (m : Nat) : ∀ e, (∀ j, m ≤ j → j < m + e → p j = false) → (List.range (m + e)).filter p = (List.range m).filter p
  | 0, _ => rfl
  | e + 1, h => by
    rw [← Nat.add_assoc, List.range_succ, List.filter_append, filter_range_more p m e (fun j h1 h2 => h j h1 (by omega))]
    simp [h (m + e) (by omega) (by omega)]
theorem places_end {w l : List UInt8} (hw : 0 < w.length) : (placesTo l w (l.length + 1 - w.length)).length = times l w := by
  unfold placesTo times
  rw [List.length_map]
  congr 1
  rcases Nat.lt_or_ge l.length w.length with h | h
  · rw [show l.length + 1 - w.length = 0 by omega]
    have := filter_range_more (fun i => w.isPrefixOf (l.drop i)) 0 l.length (fun j _ _ => by
      rw [Bool.eq_false_iff, ne_eq, List.isPrefixOf_iff_prefix]
      intro hp
      have := hp.length_le
      simp at this
      omega)
    rw [Nat.zero_add] at this
    exact this.symm
  · have := filter_range_more (fun i => w.isPrefixOf (l.drop i)) (l.length + 1 - w.length) (w.length - 1) (fun j h1 _ => by
      rw [Bool.eq_false_iff, ne_eq, List.isPrefixOf_iff_prefix]
      intro hp
      have := hp.length_le
      simp at this
      omega)
    rw [show l.length + 1 - w.length + (w.length - 1) = l.length by omega] at this
    exact this.symm

theorem check_ok (s t : ByteArray) (w : World) (hs : s.size ≤ 24) (ht : t.size ≤ 24) (h0 : 0 < t.size) :
    Calls Try.prog 29 #[.string s, .string t] w fun e w' => e = .returned .nilIface ∧ Below w.heap.size w w' := by
  have kq : t.toList.isEmpty = false := by
    rw [Lib.toList_data, Bool.eq_false_iff, ne_eq, List.isEmpty_iff]
    intro h
    have h1 : t.data.toList.length = t.size := by simp
    rw [h] at h1
    simp at h1
    omega
  go_enter Try.func29, Try.ntmps29
  go_wp2_with fail
  refine (long2_ok s t _ 24 _ (by simp) (by simp) (by omega) (by omega)).mono ?_
  rintro e w1 ⟨rfl, rfl⟩
  go_wp2_with fail
  go_ret
  exact ⟨rfl, bnew _ _⟩
theorem check_no (s t : ByteArray) (w : World) (h : ¬ (s.size ≤ 24 ∧ t.size ≤ 24 ∧ 0 < t.size)) :
    Calls Try.prog 29 #[.string s, .string t] w fun e w' => (∃ n : Int, e = .returned (.iface 56 (.int .i64 n))) ∧ Below w.heap.size w w' := by
  by_cases hl : s.size ≤ 24 ∧ t.size ≤ 24
  · have kq : t.toList.isEmpty = true := by
      rw [Lib.toList_data, List.isEmpty_iff]
      have : t.data.toList.length = 0 := by
        have : t.data.toList.length = t.size := by simp
        omega
      exact List.eq_nil_of_length_eq_zero this
    go_enter Try.func29, Try.ntmps29
    go_wp2_with fail
    refine (long2_ok s t _ 24 _ (by simp) (by simp) (by omega) (by omega)).mono ?_
    rintro e w1 ⟨rfl, rfl⟩
    go_wp2_with fail
    go_ret
    exact ⟨⟨_, rfl⟩, bnew _ _⟩
  · go_enter Try.func29, Try.ntmps29
    go_wp2_with fail
    refine (long2_no s t _ 24 _ (by simp) (by simp) (by omega)).mono ?_
    rintro e w1 ⟨rfl, rfl⟩
    go_wp2_with fail
    go_ret
    exact ⟨⟨_, rfl⟩, bnew _ _⟩
theorem find_no (s t : ByteArray) (w : World) (h : ¬ (s.size ≤ 24 ∧ t.size ≤ 24 ∧ 0 < t.size)) :
    Calls Try.prog 17 #[.string s, .string t] w fun e w' => (∃ n : Int, e = .returned (.tuple #[.slice none 0 0, .iface 56 (.int .i64 n)])) ∧ Below w.heap.size w w' := by
  go_enter Try.func17, Try.ntmps17
  go_wp2_with fail
  refine (check_no s t _ h).mono ?_
  rintro e w1 ⟨⟨n, rfl⟩, hb⟩
  go_wp2_with fail
  go_ret2
  exact ⟨⟨_, rfl⟩, hb⟩

set_option maxHeartbeats 2000000 in
set_option maxRecDepth 100000 in
theorem find_any (s t : ByteArray) (w : World) (hs : s.size ≤ 24) (ht : t.size ≤ 24) (h0 : 0 < t.size) :
    Calls Try.prog 17 #[.string s, .string t] w fun e w' => ∃ A c, e = .returned (.tuple #[.slice A (times s.data.toList t.data.toList) c, .nilIface]) ∧ Below w.heap.size w w' := by
  obtain ⟨l, hl⟩ : ∃ l, l = s.data.toList := ⟨_, rfl⟩
  obtain ⟨W, hW⟩ : ∃ W, W = t.data.toList := ⟨_, rfl⟩
  have hln : l.length = s.size := by rw [hl]; simp
  have hWn : W.length = t.size := by rw [hW]; simp
  have hgl : ∀ k (h : k < s.size), l[k]? = some s[k] := by rw [hl]; exact fun k h => get_byte s k h
  have hgW : ∀ k (h : k < t.size), W[k]? = some t[k] := by rw [hW]; exact fun k h => get_byte t k h
  rw [← hl, ← hW]
  have HCK := Lib.hid (fun w => check_ok s t w hs ht h0)
  have HED := Lib.hid (fun w => edges_any t w ht)
  obtain ⟨i0, hi0, hz0, hz1, hz2⟩ := info_parts Go.Proofs.Ythalaapfdjaapaa.infoI
  have HWE := Lib.hid hW
  have HLE := Lib.hid hl
  have HLN := Lib.hid hln
  have HWN := Lib.hid hWn
  clear hW hl hln hWn
  have HGL := Lib.hid hgl
  have HGW := Lib.hid hgW
  clear hgl hgW
  go_enter Try.func17, Try.ntmps17
  go_wp2_with fail
  refine (HCK.out _).mono ?_
  rintro e w1 ⟨rfl, hb1⟩
  go_wp2_with fail
  refine (HED.out _).mono ?_
  rintro e w2 ⟨g, el, rfl, hE⟩
  clear HCK HED
  have hbl := hE.blk
  have hed : ∀ q, q < t.size → ∃ k : Nat, el[q]? = some (k : Int) ∧ MaxEdge W (q + 1) k := by
    rw [HWE.out]
    exact fun q hq => hE.edge q hq hq
  have hb2 := bnext hb1 hE.below
  have hg2 := hbl.lt
  have HB2 := Lib.hid hb2
  have HEL := Lib.hid hE.len
  have HED := Lib.hid hed
  clear hed hE hb1 hb2
  go_wp2_with fail
  go_loopw [9, 10, 11, 28, 29, 30, 31, 32, 33, 34, 35, 36, 37, 38, 39, 40, 41, 42, 43, 44, 45, 46, 47, 48, 49, 50, 51, 52, 53, 54, 55, 56, 57, 58, 59, 60, 61, 62, 63, 64, 65, 66, 67, 68, 69, 70, 71, 72, 73] (fun v9 v10 _ v28 _ _ _ _ _ _ _ _ _ _ _ _ _ _ _ _ _ _ _ _ _ _ _ _ _ _ _ _ _ _ _ _ _ _ _ _ _ _ _ _ _ _ _ _ _ wr => ∃ i k : Nat, v10 = .int .i64 (k : Int) ∧ v28 = .int .i64 (i : Int) ∧ i ≤ s.size ∧ Lo W l i k ∧ wr.ownsRow w2.heap.size 3 1 v9 (placesTo l W (i + 1 - t.size)).length (ints (placesTo l W (i + 1 - t.size))) ∧ Below w2.heap.size w2 wr) (fun _ _ _ v28 _ _ _ _ _ _ _ _ _ _ _ _ _ _ _ _ _ _ _ _ _ _ _ _ _ _ _ _ _ _ _ _ _ _ _ _ _ _ _ _ _ _ _ _ _ _ => s.size - (intOf v28).toNat)
  case atStart => exact ⟨0, 0, rfl, rfl, by omega, lo_zero, by rw [show 0 + 1 - t.size = 0 by omega]; exact World.ownsRow_nil _ _ _ _, Below.refl _ _⟩
  case round =>
    obtain ⟨i, k, rfl, rfl, hin, hlo, hown, hbr⟩ := hrel
    by_cases hlt : i < s.size
    · have kk : (i : Int) < (s.size : Int) := by omega
      have q2 := index_at s i s[i] hlt rfl
      have hy := HGL.out i hlt
      generalize s[i] = y at *
      have HY := Lib.hid hy
      have HO := Lib.hid hown
      have HB := Lib.hid hbr
      have HC := Lib.hid hlo.cand
      clear hy hown hbr hlo
      go_wp2_with fail
      obtain ⟨wo, hwo⟩ : ∃ wo, wo = wr := ⟨_, rfl⟩
      rw [← hwo] at HO HB
      subst hwo
      go_loopw [10, 31, 32, 33, 34, 35, 36, 37, 38, 39, 40, 41, 42, 43, 44, 45, 46, 47, 48, 49, 50, 51, 52] (fun v10 _ _ _ _ _ _ _ _ _ _ _ _ _ _ _ _ _ _ _ _ _ _ wx => ∃ k : Nat, v10 = .int .i64 (k : Int) ∧ Hid (Cand W l i k) ∧ ∃ q, wx = wo.drewN q) (fun v10 _ _ _ _ _ _ _ _ _ _ _ _ _ _ _ _ _ _ _ _ _ _ _ => (intOf v10).toNat)
      case atStart => exact ⟨k, rfl, HC, 0, rfl⟩
      case round =>
        clear HC
        obtain ⟨k, rfl, HC, q, hq⟩ := hrel
        have hkt : k ≤ t.size := by have := HC.out.1.2.1; have := HWN.out; omega
        have hn : IBlk wr g el := by rw [hq]; exact IBlk.drewN (hbl.below HB.out hg2) q
        have HQ := Lib.hid hq
        clear hq
        have k24 : (t.size : Int) ≤ 24 := by omega
        by_cases hgo : 0 < k ∧ ¬ (k < t.size ∧ W[k]? = some y)
        · obtain ⟨m, hm⟩ : ∃ m, k = m + 1 := ⟨k - 1, by omega⟩
          obtain ⟨k2, hk2, hme⟩ := HED.out m (by omega)
          rw [← hm] at hme
          have c1 := hn.cell hk2
          have hn1 : (k : Int) - 1 = (m : Int) := by omega
          have wr1 : IntKind.i64.wrap ((k : Int) - 1) = (m : Int) := by rw [hn1]; exact IntWalk.i64_in _ (by omega)
          have b1 : (m : Int) < (t.size : Int) := by omega
          have HNX := Lib.hid (Cand.next HC.out (by rw [HY.out, HWN.out]; exact hgo.2) hme)
          have HL2 := Lib.hid (show k2 < k from hme.1.1)
          have d1 : 0 < k := hgo.1
          by_cases hkn : k = t.size
          · have d2 : ((k : Int) == (t.size : Int)) = true := by rw [hkn]; simp
            clear hm hk2 hme hn1 hgo hkn
            go_wp2
            go_quiet (fail)
            go_wp2
            refine ⟨⟨k2, rfl, HNX, q + nq, by rw [HQ.out, World.drewN_drewN]⟩, by have := HL2.out; simp [intOf]; omega⟩
          · have d2 : ((k : Int) == (t.size : Int)) = false := by rw [beq_eq_false_iff_ne]; omega
            have hkl : k < t.size := by omega
            have q1 := index_at t k t[k] hkl rfl
            have hx := HGW.out k hkl
            have hne := hgo.2
            rw [hx] at hne
            generalize t[k] = x at *
            have d3 : ((x.toNat : Int) != (y.toNat : Int)) = true := by
              rw [bne_iff_ne]
              intro h
              exact hne ⟨hkl, by rw [UInt8.toNat_inj.1 (by omega : x.toNat = y.toNat)]⟩
            have b2 : (k : Int) < (t.size : Int) := by omega
            clear hm hk2 hme hn1 hgo hkn hx hne
            go_wp2
            go_quiet (fail)
            go_wp2
            refine ⟨⟨k2, rfl, HNX, q + nq, by rw [HQ.out, World.drewN_drewN]⟩, by have := HL2.out; simp [intOf]; omega⟩
        · have hkl : k < t.size := by
            rcases Nat.eq_zero_or_pos k with h | h
            · omega
            · exact Nat.lt_of_not_ge fun hge => hgo ⟨h, fun h2 => by omega⟩
          have q1 := fun w => index_at t k t[k] hkl rfl w
          have hx := HGW.out k hkl
          generalize t[k] = x at *
          rw [hx] at hgo
          have b2 : (k : Int) < (t.size : Int) := by omega
          have d2 : ((k : Int) == (t.size : Int)) = false := by rw [beq_eq_false_iff_ne]; omega
          have e1 : IntKind.i64.wrap ((i : Int) + 1) = (i : Int) + 1 := IntWalk.i64_in _ (by omega)
          have HX := Lib.hid hx
          have hO2 := own_drewN HO.out q
          rw [← HQ.out] at hO2
          have hB2 : Below w2.heap.size w2 wr := by rw [HQ.out]; exact bdrew HB.out q
          have hpl := placesTo_le l W (i + 1 - t.size)
          have kt0 : ((0 : Int) == (t.size : Int)) = false := by rw [beq_eq_false_iff_ne]; omega
          have HST := Lib.hid (fun (k' : Nat) (h : Lo W l (i + 1) k') => places_step (by rw [HWN.out]; exact h0) h (by rw [HLN.out]; exact hlt))
          rw [HWN.out] at HST
          by_cases hxy : x = y
          · subst hxy
            have hnew : Lo W l (i + 1) (k + 1) := Cand.yes HC.out (by rw [HWN.out]; exact hkl) (by rw [hx, HY.out])
            have hps := HST.out _ hnew
            have d3 : ((x.toNat : Int) != (x.toNat : Int)) = false := by simp
            have HN := Lib.hid hnew
            clear hnew hgo
            by_cases hkn : k + 1 = t.size
            · rw [if_pos hkn] at hps
              obtain ⟨a, ha⟩ : ∃ a, a = i + 1 - t.size := ⟨_, rfl⟩
              have hti : t.size ≤ i + 1 := by have := HN.out.1.1; omega
              have e6 : (i : Int) - ((k : Int) + 1) + 1 = (a : Int) := by omega
              have e5 : IntKind.i64.wrap ((i : Int) - ((k : Int) + 1)) = (i : Int) - ((k : Int) + 1) := IntWalk.i64_in _ (by omega)
              have e7 : IntKind.i64.wrap ((a : Int)) = (a : Int) := IntWalk.i64_in _ (by omega)
              have d4 : ((k : Int) + 1 == (t.size : Int)) = true := by rw [beq_iff_eq]; omega
              rw [← ha] at hps hpl hO2
              have HPS := Lib.hid hps; have HKN := Lib.hid hkn; have HA := Lib.hid ha
              clear hps hkn ha hx
              rcases Nat.eq_zero_or_pos k with hk0 | hk0
              · subst hk0
                have h1t := HKN.out
                have hai : a = i := by have := HA.out; omega
                have b3 : (0 : Int) < (t.size : Int) := by omega
                have q1z : ∀ w, (Instr.index 9 (.string t) (.int .i64 0)).run Try.prog w = .ok (.int .u8 (x.toNat : Int)) w := fun w => q1 w
                have d5 : ((1 : Int) == (t.size : Int)) = true := by rw [beq_iff_eq]; omega
                rw [hai] at HPS hO2 hpl
                clear hai h1t HA e6 e7
                go_wp2_with fail
                go_quiet (fail)
                have hO3 := own_drewN hO2 nq
                have hB3 := bdrew hB2 nq
                generalize wr.drewN nq = wy at hO3 hB3 ⊢
                go_wp2_with fail
                go_quiet (fail)
                have hO4 := own_drewN hO3 nq
                have hB4 := bdrew hB3 nq
                generalize wy.drewN nq = wz at hO4 hB4 ⊢
                go_wp2_with (first
                  | (at_builtin; go_must (refine append_own _ rfl _ _ 23 rfl w2.heap.size 3 i0 _ 1 8 Try.underlying23 hi0 hz0 hz1 hz2 rfl (by decide) _ _ _ rfl (hO4.alloc _) ⟨wz.heap.size, 0, none⟩ 1 1 [.int .i64 (i : Int)] rfl rfl (cell_one_new _ _ _) (one_int _) (by unfold maxLen; omega) (by omega) (by have := hB4.size; simp; omega) (by decide) ?_); intro g1 cap1 wA hown1 hg1 hg1' hgrow1))
                go_roundw
                case rel =>
                  refine ⟨i + 1, 0 + 1, by simp, by simp, by omega, HN.out, ?_, (bmore hB4 _).grown hgrow1 (by have := hB4.size; simp; omega) (fun j hj => (hO4.lt j hj).1)⟩
                  rw [show i + 1 + 1 - t.size = i + 2 - t.size from rfl, HPS.out]
                  simpa [ints] using hown1
                case measure => simp [intOf]; omega
              ·
                go_wp2_with fail
                go_quiet (fail)
                have hO3 := own_drewN hO2 nq
                have hB3 := bdrew hB2 nq
                generalize wr.drewN nq = wy at hO3 hB3 ⊢
                go_wp2_with fail
                go_quiet (fail)
                have hO4 := own_drewN hO3 nq
                have hB4 := bdrew hB3 nq
                generalize wy.drewN nq = wz at hO4 hB4 ⊢
                go_wp2_with (first
                  | (at_builtin; go_must (refine append_own _ rfl _ _ 23 rfl w2.heap.size 3 i0 _ 1 8 Try.underlying23 hi0 hz0 hz1 hz2 rfl (by decide) _ _ _ rfl (hO4.alloc _) ⟨wz.heap.size, 0, none⟩ 1 1 [.int .i64 (a : Int)] rfl rfl (cell_one_new _ _ _) (one_int _) (by unfold maxLen; omega) (by omega) (by have := hB4.size; simp; omega) (by decide) ?_); intro g1 cap1 wA hown1 hg1 hg1' hgrow1))
                go_roundw
                case rel =>
                  refine ⟨i + 1, k + 1, by simp, by simp, by omega, HN.out, ?_, (bmore hB4 _).grown hgrow1 (by have := hB4.size; simp; omega) (fun j hj => (hO4.lt j hj).1)⟩
                  rw [show i + 1 + 1 - t.size = i + 2 - t.size from rfl, HPS.out]
                  simpa [ints] using hown1
                case measure => simp [intOf]; omega
            · rw [if_neg hkn, List.append_nil] at hps
              have d4 : ((k : Int) + 1 == (t.size : Int)) = false := by rw [beq_eq_false_iff_ne]; omega
              have HPS := Lib.hid hps
              clear hps hx
              rcases Nat.eq_zero_or_pos k with hk0 | hk0
              · subst hk0
                have b3 : (0 : Int) < (t.size : Int) := by omega
                have q1z : ∀ w, (Instr.index 9 (.string t) (.int .i64 0)).run Try.prog w = .ok (.int .u8 (x.toNat : Int)) w := fun w => q1 w
                have d5 : ((1 : Int) == (t.size : Int)) = false := by rw [beq_eq_false_iff_ne]; omega
                clear hkn
                go_wp2_with fail
                go_quiet (fail)
                have hO3 := own_drewN hO2 nq
                have hB3 := bdrew hB2 nq
                generalize wr.drewN nq = wy at hO3 hB3 ⊢
                go_wp2_with fail
                go_quiet (fail)
                have hO4 := own_drewN hO3 nq
                have hB4 := bdrew hB3 nq
                generalize wy.drewN nq = wz at hO4 hB4 ⊢
                go_wp2_with fail
                go_roundw
                case rel =>
                  refine ⟨i + 1, 0 + 1, by simp, by simp, by omega, HN.out, ?_, hB4⟩
                  rw [show i + 1 + 1 - t.size = i + 2 - t.size from rfl, HPS.out]
                  exact hO4
                case measure => simp [intOf]; omega
              · clear hkn
                go_wp2_with fail
                go_quiet (fail)
                have hO3 := own_drewN hO2 nq
                have hB3 := bdrew hB2 nq
                generalize wr.drewN nq = wy at hO3 hB3 ⊢
                go_wp2_with fail
                go_quiet (fail)
                have hO4 := own_drewN hO3 nq
                have hB4 := bdrew hB3 nq
                generalize wy.drewN nq = wz at hO4 hB4 ⊢
                go_wp2_with fail
                go_roundw
                case rel =>
                  refine ⟨i + 1, k + 1, by simp, by simp, by omega, HN.out, ?_, hB4⟩
                  rw [show i + 1 + 1 - t.size = i + 2 - t.size from rfl, HPS.out]
                  exact hO4
                case measure => simp [intOf]; omega
          · have hk0 : k = 0 := by
              rcases Nat.eq_zero_or_pos k with h | h
              · exact h
              · exact absurd ⟨h, fun h2 => hxy (Option.some.inj h2.2)⟩ hgo
            subst hk0
            have hnew : Lo W l (i + 1) 0 := Cand.no HC.out (by rw [hx, HY.out]; intro h; exact hxy (Option.some.inj h))
            have hps := HST.out _ hnew
            rw [if_neg (by omega), List.append_nil] at hps
            have d4 : ((x.toNat : Int) == (y.toNat : Int)) = false := by
              have : ¬ x.toNat = y.toNat := fun h => hxy (UInt8.toNat_inj.1 h)
              rw [beq_eq_false_iff_ne]; omega
            have b3 : (0 : Int) < (t.size : Int) := by omega
            have q1z : ∀ w, (Instr.index 9 (.string t) (.int .i64 0)).run Try.prog w = .ok (.int .u8 (x.toNat : Int)) w := fun w => q1 w
            have HPS := Lib.hid hps; have HN := Lib.hid hnew
            clear hps hnew hx hgo hxy
            go_wp2_with fail
            go_quiet (fail)
            have hO3 := own_drewN hO2 nq
            have hB3 := bdrew hB2 nq
            generalize wr.drewN nq = wy at hO3 hB3 ⊢
            go_wp2_with fail
            go_quiet (fail)
            have hO4 := own_drewN hO3 nq
            have hB4 := bdrew hB3 nq
            generalize wy.drewN nq = wz at hO4 hB4 ⊢
            go_wp2_with fail
            go_roundw
            case rel =>
              refine ⟨i + 1, 0, by simp, by simp, by omega, HN.out, ?_, hB4⟩
              rw [show i + 1 + 1 - t.size = i + 2 - t.size from rfl, HPS.out]
              exact hO4
            case measure => simp [intOf]; omega
    · obtain rfl : i = s.size := by omega
      have kk : ¬ (s.size : Int) < (s.size : Int) := by omega
      obtain ⟨A, c, hv⟩ := own_slice hown
      subst hv
      have hpe := places_end (w := W) (l := l) (by rw [HWN.out]; exact h0)
      rw [HLN.out, HWN.out] at hpe
      rw [hpe] at hown ⊢
      have HBR := Lib.hid ((HB2.out).trans (hbr.mono HB2.out.size))
      clear hown hbr hpe
      go_wp2_with fail
      go_ret2
      exact ⟨⟨_, _, rfl⟩, HBR.out⟩
end Go.Proofs.Ythalaapfdjaapaa.Kmp
