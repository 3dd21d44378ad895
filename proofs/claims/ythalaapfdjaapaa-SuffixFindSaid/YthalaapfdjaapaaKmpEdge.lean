/-
  The walks of edges.Of (each number is the longest edge of its beginning).
-/
import Derived.Test.YthalaapfdjaapaaLong1
import Derived.Test.YthalaapfdjaapaaIBlk
import Derived.Test.YthalaapfdjaapaaKmp
import Derived.Deep.QuietTactic
import Derived.BigQuiet
namespace Go.Proofs.Ythalaapfdjaapaa.Kmp
open Go.RowKit
set_option linter.unusedVariables false

theorem index_at (s : ByteArray) (K : Nat) (z : UInt8) (h : K < s.size) (hz : s[K] = z) (w : World) : (Instr.index 9 (.string s) (.int .i64 (K : Int))).run Try.prog w = .ok (.int .u8 (z.toNat : Int)) w := by
  rw [run_index_string w _ s _ _ Try.underlying9, dif_pos ⟨by omega, by omega⟩]
  subst hz
  simp
theorem get_byte (s : ByteArray) (k : Nat) (h : k < s.size) : s.data.toList[k]? = some s[k] := by
  rw [List.getElem?_eq_getElem (by simpa using h)]
  simp [ByteArray.getElem_eq_getElem_data]

structure ERel (w wr : World) (g : Nat) (s : ByteArray) (i : Nat) (l : List Int) : Prop where
  blk : IBlk wr g l
  len : l.length = s.size
  edge : ∀ t, t < i → t < s.size → ∃ k : Nat, l[t]? = some (k : Int) ∧ MaxEdge s.data.toList (t + 1) k
  below : Below w.heap.size w wr
  ge : w.heap.size ≤ g
section
variable {w wr : World} {g i : Nat} {s : ByteArray} {l : List Int}
theorem ERel.drewN (h : ERel w wr g s i l) (n : Nat) : ERel w (wr.drewN n) g s i l := ⟨h.blk.drewN n, h.len, h.edge, bdrew h.below n, h.ge⟩
theorem ERel.put (h : ERel w wr g s i l) {k : Nat} (hk : i < s.size → MaxEdge s.data.toList (i + 1) k) : ERel w (wr.setCell ⟨g, i, none⟩ (.int .i64 (k : Int))) g s (i + 1) (l.set i (k : Int)) := by
  refine ⟨h.blk.set_ i _, by rw [List.length_set]; exact h.len, fun t ht hts => ?_, h.below.setCell h.ge _, h.ge⟩
  rcases Nat.lt_or_ge t i with h1 | h1
  · obtain ⟨k', e1, e2⟩ := h.edge t h1 hts
    exact ⟨k', by rw [List.getElem?_set_ne (by omega)]; exact e1, e2⟩
  · obtain rfl : t = i := by omega
    exact ⟨k, by rw [List.getElem?_set_self (by rw [h.len]; exact hts)], hk hts⟩
end

set_option maxHeartbeats 2000000 in
set_option maxRecDepth 100000 in
theorem edges_any (s : ByteArray) (w : World) (hs : s.size ≤ 24) :
    Calls Try.prog 30 #[.string s] w fun e w' => ∃ g l, e = .returned (.tuple #[.slice (some ⟨g, 0, none⟩) s.size s.size, .nilIface]) ∧ ERel w w' g s s.size l := by
  have hmk := fun w => run_make_ints w (s.size : Int) s.size rfl (by omega)
  have h24 : (s.size : Int) ≤ 24 := by omega
  go_enter Try.func30, Try.ntmps30
  go_wp2_with (go_at_call 21; refine (long1_ok s w.heap.size 24 _ (by simp) (by omega)).mono ?_; rintro e w' ⟨rfl, rfl⟩)
  have hst : ∀ (wo : World), Below w.heap.size w wo → ERel w (wo.alloc (.cells (ints (List.replicate s.size 0)).toArray 3)) wo.heap.size s 1 (List.replicate s.size 0) := by
    intro wo hb
    refine ⟨IBlk.new _ _, by simp, fun t ht hts => ⟨0, ?_, ?_⟩, bmore hb _, hb.size⟩
    · rw [List.getElem?_replicate, if_pos hts]; rfl
    · obtain rfl : t = 0 := by omega
      exact maxEdge_one
  have HST := Lib.hid (hst _ (bnew w (.cells #[.string s] 9)))
  clear hst hmk
  obtain ⟨g, hg⟩ : ∃ g, g = (w.alloc (.cells #[.string s] 9)).heap.size := ⟨_, rfl⟩
  rw [← hg] at HST
  have hg2 : w.heap.size + 1 = g := by rw [hg]; simp
  rw [hg2]
  have hgs : (w.alloc (.cells #[.string s] 9)).heap.size = g := hg.symm
  clear hg
  generalize ((w.alloc (.cells #[.string s] 9)).alloc (.cells (ints (List.replicate s.size 0)).toArray 3)) = wa at *
  go_loopw [6, 7] (fun iv kv wr => ∃ (i : Nat) (l : List Int), 1 ≤ i ∧ (i ≤ s.size ∨ i = 1) ∧ iv = .int .i64 (i : Int) ∧ ERel w wr g s i l) (fun i _ _ => s.size - (intOf i).toNat)
  case atStart => exact ⟨1, _, Nat.le_refl _, .inr rfl, rfl, HST.out⟩
  case round =>
    obtain ⟨i, l, hi1, hi, rfl, hrel⟩ := hrel
    clear HST hg2 hgs
    by_cases hlt : i < s.size
    · obtain ⟨m, hm⟩ : ∃ m, i = m + 1 := ⟨i - 1, by omega⟩
      obtain ⟨k0, hk0, he0⟩ := hrel.edge m (by omega) (by omega)
      rw [← hm] at he0
      have c0 := hrel.blk.cell hk0
      have hm1 : (i : Int) - 1 = (m : Int) := by omega
      have wr0 : IntKind.i64.wrap (m : Int) = (m : Int) := IntWalk.i64_in _ (by omega)
      have b0 : (m : Int) < (s.size : Int) := by omega
      have HE := Lib.hid he0.cand; have HR := Lib.hid hrel; have HM := Lib.hid hm
      have HH := Lib.hid hi1
      clear he0 hrel hm hi1 hi hk0
      go_wp2
      go_loopw [7] (fun kv wr => ∃ k : Nat, kv = .int .i64 (k : Int) ∧ Hid (ECand s.data.toList i k) ∧ ERel w wr g s i l) (fun k _ => (intOf k).toNat)
      case atStart => exact ⟨k0, rfl, HE, HR.out⟩
      case round =>
        clear HR HE c0
        obtain ⟨k, rfl, HK, hrel⟩ := hrel
        have hki : k < i := HK.out.1.1
        have hks : k < s.size := by omega
        have q1 := index_at s k s[k] hks rfl
        have q2 := index_at s i s[i] hlt rfl
        have hg1 := get_byte s k hks
        have hg2 := get_byte s i hlt
        generalize s[k] = x at *
        generalize s[i] = y at *
        have G1 := Lib.hid hg1; have G2 := Lib.hid hg2
        clear hg1 hg2
        have i63 : (i : Int) < (s.size : Int) := by omega
        have k63 : (k : Int) < (s.size : Int) := by omega
        have wr3 : IntKind.i64.wrap ((i : Int) + 1) = (i : Int) + 1 := IntWalk.i64_in _ (by omega)
        have wr2 : IntKind.i64.wrap ((k : Int) + 1) = (k : Int) + 1 := IntWalk.i64_in _ (by omega)
        by_cases hk : 0 < k ∧ x ≠ y
        · have d1 : 0 < k := hk.1
          have d2 : ((x.toNat : Int) != (y.toNat : Int)) = true := by
            have : ¬ x.toNat = y.toNat := fun h => hk.2 (UInt8.toNat_inj.1 h)
            rw [bne_iff_ne]; omega
          obtain ⟨n, hn⟩ : ∃ n, k = n + 1 := ⟨k - 1, by omega⟩
          obtain ⟨k2, hk2, he2⟩ := hrel.edge n (by omega) (by omega)
          rw [← hn] at he2
          have c1 := hrel.blk.cell hk2
          have hn1 : (k : Int) - 1 = (n : Int) := by omega
          have wr1 : IntKind.i64.wrap (n : Int) = (n : Int) := IntWalk.i64_in _ (by omega)
          have b1 : (n : Int) < (s.size : Int) := by omega
          have hlt2 : k2 < k := he2.1.1
          have HE2 := Lib.hid (ECand.next HK.out (by rw [G1.out, G2.out]; intro h; exact hk.2 (Option.some.inj h)) he2); have HR := Lib.hid hrel; have HN := Lib.hid hn; have HL2 := Lib.hid hlt2
          clear he2 hrel hn hk hk2 hlt2
          go_wp2
          go_quiet (fail)
          have c2 : (wr.drewN nq).cell? ⟨g, n, none⟩ = some (.int .i64 (k2 : Int)) := c1
          go_wp2
          refine ⟨⟨k2, rfl, HE2, HR.out.drewN nq⟩, by have := HL2.out; simp [intOf]; omega⟩
        · have HR := Lib.hid hrel
          have fr := hrel.blk.frozen i
          obtain ⟨old, hold⟩ : ∃ v, l[i]? = some v := ⟨_, List.getElem?_eq_getElem (by rw [hrel.len]; exact hlt)⟩
          have co := hrel.blk.cell hold
          clear hrel hold
          have HK1 : Hid (∀ j : Nat, (x = y → j = k + 1) → (x ≠ y → j = 0) → i < s.size → MaxEdge s.data.toList (i + 1) j) := Lib.hid (by
            intro j h1 h2 _
            by_cases hxy : x = y
            · rw [h1 hxy]
              exact ECand.yes HK.out (by rw [G1.out, G2.out, hxy])
            · rw [h2 hxy]
              have hk0 : k = 0 := by
                rcases Nat.eq_zero_or_pos k with h | h
                · exact h
                · exact absurd ⟨h, hxy⟩ hk
              have h3 := HK.out
              have h4 := G1.out
              rw [hk0] at h3 h4
              exact ECand.no h3 (by rw [h4, G2.out]; intro h; exact hxy (Option.some.inj h)))
          by_cases hxy : x = y
          · have d2 : ((x.toNat : Int) != (y.toNat : Int)) = false := by rw [hxy]; simp
            have d3 : ((x.toNat : Int) == (y.toNat : Int)) = true := by rw [hxy]; simp
            have HP := Lib.hid (HK1.out (k + 1) (fun _ => rfl) (fun h => absurd hxy h))
            have HKP := Lib.hid (Nat.eq_zero_or_pos k)
            clear hk hxy HK1
            rcases HKP.out with rfl | hk0
            all_goals
              go_wp2
              go_quiet (fail)
              go_wp2
              go_quiet (fail)
              go_wp2
              all_goals first
                | exact ⟨⟨i + 1, _, by omega, .inl (by omega), by go_num, (HR.out.drewN _).put HP.out⟩, by simp [intOf]; omega⟩
                | (exfalso; rename_i h; have e0 : s[0] = x := Option.some.inj ((get_byte s 0 hks).symm.trans G1.out); rw [e0, d3] at h; cases h)
          · have hk0 : k = 0 := by
              rcases Nat.eq_zero_or_pos k with h | h
              · exact h
              · exact absurd ⟨h, hxy⟩ hk
            have HP := Lib.hid (HK1.out 0 (fun h => absurd h hxy) (fun _ => rfl))
            have d3 : ((x.toNat : Int) == (y.toNat : Int)) = false := by
              have : ¬ x.toNat = y.toNat := fun h => hxy (UInt8.toNat_inj.1 h)
              rw [beq_eq_false_iff_ne]; omega
            subst hk0
            clear hk hxy HK1
            go_wp2
            go_quiet (fail)
            go_wp2
            go_quiet (fail)
            go_wp2
            all_goals first
              | exact ⟨⟨i + 1, _, by omega, .inl (by omega), by go_num, (HR.out.drewN _).put HP.out⟩, by simp [intOf]; omega⟩
              | (exfalso; rename_i h; have e0 : s[0] = x := Option.some.inj ((get_byte s 0 hks).symm.trans G1.out); rw [e0, d3] at h; cases h)
    · have HR := Lib.hid hrel
      have hn : ¬ ((i : Int) < (s.size : Int)) := by omega
      clear hrel
      go_wp2
      go_ret2
      refine ⟨g, rfl, l, HR.out.blk, HR.out.len, fun t ht hts => HR.out.edge t (by omega) hts, HR.out.below, HR.out.ge⟩
end Go.Proofs.Ythalaapfdjaapaa.Kmp
