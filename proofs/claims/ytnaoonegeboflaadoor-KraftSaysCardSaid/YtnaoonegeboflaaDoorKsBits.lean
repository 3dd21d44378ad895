/-
  The walks of the reference's Bits, Has and Words.
-/
import Derived.Test.YtnaoonegeboflaaDoorKsPlain
import Derived.Test.YtnaoonegeboflaaDoorTrChk
import Derived.Test.YtnaoonegeboflaaDoorSBlk
namespace Go.Proofs.YtnaoonegeboflaaDoor.Kf
open Go.RowKit
set_option linter.unusedVariables false
set_option linter.unusedSimpArgs false

theorem ba_add (a : List UInt8) (c : UInt8) : ba a ++ ⟨#[c]⟩ = ba (a ++ [c]) := by
  apply bs_inj
  rw [bs_ba]
  simp [bs, ba]
theorem bits_any : ∀ (m : Nat) (n : Nat) (w : World), m ≤ 12 → n ≤ 1000000 →
    Calls Tryd.prog 27 #[.int .i64 (n : Int), .int .i64 (m : Int)] w fun e w' => e = .returned (.string (ba (bitsL m n))) ∧ w = w'
  | 0, n, w, _, _ => by
    go_enter Tryd.func27, Tryd.ntmps27
    go_wp2
    go_ret
    exact ⟨rfl, rfl⟩
  | m + 1, n, w, hm, hn => by
    have H := Lib.hid (fun w => bits_any m (n / 2) w (by omega) (by omega))
    have hr : (n : Int).tmod 2 = ((n % 2 : Nat) : Int) := by rw [Int.ofNat_tmod]; rfl
    have hd : (n : Int).tdiv 2 = ((n / 2 : Nat) : Int) := by rw [Int.ofNat_tdiv]; rfl
    have hm0 : (((m + 1 : Nat) : Int) == 0) = false := by rw [beq_eq_false_iff_ne]; omega
    have hm1 : IntKind.i64.wrap (((m + 1 : Nat) : Int) - 1) = (m : Int) := by rw [IntWalk.i64_in _ (by omega)]; omega
    have hm2 : ((m : Int) + 1 == 0) = false := by rw [beq_eq_false_iff_ne]; omega
    have hsz : (ba (bitsL m (n / 2))).size ≤ 12 := by rw [ba_size, bitsL_length]; omega
    have HB := Lib.hid (show bitsL (m + 1) n = bitsL m (n / 2) ++ [UInt8.ofNat (48 + n % 2)] from rfl)
    have wr1 : IntKind.i64.wrap ((n / 2 : Nat) : Int) = ((n / 2 : Nat) : Int) := IntWalk.i64_in _ (by omega)
    rcases (show n % 2 = 0 ∨ n % 2 = 1 by omega) with h | h
    · rw [h] at hr HB
      have hr2 : (n : Int).tmod 2 = 0 := hr
      generalize n / 2 = q at *
      clear h hr
      go_enter Tryd.func27, Tryd.ntmps27
      go_wp2_with fail
      refine (H.out _).mono ?_
      rintro e w' ⟨rfl, rfl⟩
      go_wp2_with fail
      go_ret
      rw [HB.out, ← ba_add]
      exact ⟨rfl, rfl⟩
    · rw [h] at hr HB
      have hr2 : (n : Int).tmod 2 = 1 := hr
      generalize n / 2 = q at *
      clear h hr
      go_enter Tryd.func27, Tryd.ntmps27
      go_wp2_with fail
      refine (H.out _).mono ?_
      rintro e w' ⟨rfl, rfl⟩
      go_wp2_with fail
      go_ret
      rw [HB.out, ← ba_add]
      exact ⟨rfl, rfl⟩

theorem has_any (A : Option Addr) (c : Nat) (l : List ByteArray) (s : ByteArray) (w : World) (hr : Reads w A l.length 1 (texts l)) (hm : l.length ≤ maxLen) :
    Calls Tryd.prog 32 #[.slice A l.length c, .string s] w fun e w' => e = .returned (.bool ((l.map bs).contains (bs s))) ∧ w = w' := by
  unfold maxLen at hm
  obtain ⟨R, hR⟩ : ∃ R, R = (l.map bs).contains (bs s) := ⟨_, rfl⟩
  rw [← hR]
  have HRR := Lib.hid hR
  clear hR
  go_enter Tryd.func32, Tryd.ntmps32
  go_wp2
  go_loop [5] (fun kv => ∃ k : Nat, k ≤ l.length ∧ kv = .int .i64 (k : Int) ∧ Hid (bs s ∉ (l.map bs).take k)) (fun k => l.length - (intOf k).toNat)
  case atStart => exact ⟨0, Nat.zero_le _, rfl, Lib.hid (by simp)⟩
  case round =>
    obtain ⟨k, hk, rfl, HA⟩ := hrel
    by_cases hlt : k < l.length
    · obtain ⟨b, o, rfl, hb, hc⟩ := hr.2 (by omega)
      obtain ⟨x, hx⟩ : ∃ x, l[k]? = some x := ⟨_, List.getElem?_eq_getElem hlt⟩
      have c0 := hc k (.string x) (by rw [texts_get, hx]; rfl)
      have kk : (k : Int) < (l.length : Int) := by omega
      have HX := Lib.hid hx
      clear hc hx
      by_cases hin : x = s
      · have h1 : (x.toList == s.toList) = true := by rw [hin]; exact beq_self_eq_true _
        have HS := Lib.hid (show R = true from by
          rw [HRR.out, List.contains_iff_mem]
          exact List.mem_map.2 ⟨x, List.mem_of_getElem? HX.out, by rw [hin]⟩)
        clear hin
        go_wp2
        go_ret
        rw [HS.out]
        exact ⟨rfl, rfl⟩
      · have h1 : (x.toList == s.toList) = false := by rw [bs_beq, beq_eq_false_iff_ne]; exact fun h => hin (bs_inj h)
        have HS := Lib.hid hin
        clear hin
        go_wp2
        refine ⟨⟨k + 1, by omega, by go_num, Lib.hid ?_⟩, by simp [intOf]; omega⟩
        rw [List.take_add_one, List.getElem?_map, HX.out]
        intro h
        rcases List.mem_append.1 h with h | h
        · exact HA.out h
        · exact HS.out (bs_inj (by simpa using h)).symm
    · have kk : ¬ (k : Int) < (l.length : Int) := by omega
      have hke := Lib.hid (show k = l.length by omega)
      go_wp2
      go_ret
      have := HA.out
      rw [hke.out, List.take_of_length_le (by simp)] at this
      have hf : R = false := by
        rw [HRR.out, Bool.eq_false_iff]
        intro h
        exact this (List.contains_iff_mem.1 h)
      rw [hf]
      exact ⟨rfl, rfl⟩

set_option maxHeartbeats 1000000 in
theorem words_any (A : Option Addr) (c : Nat) (l : List ByteArray) (w : World) (hr : Reads w A l.length 1 (texts l)) (hm : l.length ≤ maxLen) (hsz : ∀ s ∈ l, s.size ≤ maxLen) :
    Calls Tryd.prog 15 #[.slice A l.length c] w fun e w' => e = .returned (.int .i64 (tchk (l.map bs))) ∧ Below w.heap.size w w' := by
  unfold maxLen at hm
  by_cases h6 : 6 < l.length
  · have hk : tchk (l.map bs) = 4 := if_pos (by simpa using h6)
    rw [hk]
    have k1 : (6 : Int) < (l.length : Int) := by omega
    go_enter Tryd.func15, Tryd.ntmps15
    go_wp2
    go_ret
    exact ⟨rfl, Below.refl _ _⟩
  · have hk : tchk (l.map bs) = tgo [] (l.map bs) := if_neg (by simpa using h6)
    rw [hk]
    have k1 : ¬ (6 : Int) < (l.length : Int) := by omega
    obtain ⟨R, hR⟩ : ∃ R : Int, tgo [] (l.map bs) = R := ⟨_, rfl⟩
    rw [hR]
    have HRR := Lib.hid hR
    have HSZ := Lib.hid hsz
    have HRD := Lib.hid hr
    clear hk hR hsz hr
    go_enter Tryd.func15, Tryd.ntmps15
    go_wp2
    go_loopw [3, 4, 31, 32, 33, 34, 35, 36, 37, 38, 39] (fun kv _ _ _ _ _ _ _ _ _ _ wr => ∃ k : Nat, k ≤ l.length ∧ kv = .int .i64 (k : Int) ∧ Hid (tgo ((l.map bs).take k) ((l.map bs).drop k) = R) ∧ Below w.heap.size w wr) (fun k _ _ _ _ _ _ _ _ _ _ _ => l.length - (intOf k).toNat)
    case atStart => exact ⟨0, Nat.zero_le _, rfl, Lib.hid (by simpa using HRR.out), Below.refl _ _⟩
    case round =>
      obtain ⟨k, hk, rfl, HA, hbel⟩ := hrel
      by_cases hlt : k < l.length
      · obtain ⟨b, o, rfl, hb, hcc⟩ := (HRD.out.below hbel).2 (by omega)
        obtain ⟨x, hx⟩ : ∃ x, l[k]? = some x := ⟨_, List.getElem?_eq_getElem hlt⟩
        have c0 := hcc k (.string x) (by rw [texts_get, hx]; rfl)
        have kk : (k : Int) < (l.length : Int) := by omega
        have hstep := tgo_step (l := l.map bs) (k := k) (x := bs x) (by rw [List.getElem?_map, hx]; rfl)
        rw [HA.out, bs_length] at hstep
        have hxs := HSZ.out x (List.mem_of_getElem? hx)
        unfold maxLen at hxs
        have HST := Lib.hid hstep
        have HX := Lib.hid hx
        clear hcc hx HA hstep
        by_cases h8 : 8 < x.size
        · have h8' : (8 : Int) < (x.size : Int) := by omega
          have HR := Lib.hid (HST.out.trans (if_pos h8))
          clear h8
          go_wp2
          go_ret
          rw [HR.out]
          exact ⟨rfl, hbel⟩
        · have h8' : ¬ (8 : Int) < (x.size : Int) := by omega
          have H2 := Lib.hid (HST.out.trans (if_neg h8))
          clear h8 HST
          by_cases h0 : x.size = 0
          · have hxe : bs x = [] := List.length_eq_zero_iff.1 (by rw [bs_length]; exact h0)
            have HR := Lib.hid (H2.out.trans (if_pos hxe))
            have e1 : ((x.size : Int) == 0) = true := by rw [beq_iff_eq]; omega
            clear h0 hxe
            go_wp2
            go_ret
            rw [HR.out]
            exact ⟨rfl, hbel⟩
          · have hxe : bs x ≠ [] := fun h => h0 (by rw [← bs_length, h]; rfl)
            have H3 := Lib.hid (H2.out.trans (if_neg hxe))
            have e1 : ((x.size : Int) == 0) = false := by rw [beq_eq_false_iff_ne]; omega
            clear h0 hxe H2 hxs
            go_wp2_with fail
            go_loopw [4, 31, 32, 33, 34, 35, 36, 37, 38, 39] (fun jv _ _ _ _ _ _ _ _ _ wr => ∃ j : Nat, j ≤ k ∧ jv = .int .i64 (j : Int) ∧ Hid (bs x ∉ (l.map bs).take j) ∧ Below w.heap.size w wr) (fun j _ _ _ _ _ _ _ _ _ _ => k - (intOf j).toNat)
            case atStart => exact ⟨0, Nat.zero_le _, rfl, Lib.hid (by simp), hbel⟩
            case round =>
              clear hbel c0 hb
              obtain ⟨j, hj, rfl, HJ, hbel⟩ := hrel
              by_cases hltj : j < k
              · obtain ⟨b', o', he, hb, hcc⟩ := (HRD.out.below hbel).2 (by omega)
                simp only [Option.some.injEq, Addr.mk.injEq, and_true] at he
                obtain ⟨rfl, rfl⟩ := he
                obtain ⟨y, hy⟩ : ∃ y, l[j]? = some y := ⟨_, List.getElem?_eq_getElem (by omega)⟩
                have c0 := hcc k (.string x) (by rw [texts_get, HX.out]; rfl)
                have c1 := hcc j (.string y) (by rw [texts_get, hy]; rfl)
                have kj : (j : Int) < (k : Int) := by omega
                have kj2 : (j : Int) < (l.length : Int) := by omega
                have HY := Lib.hid hy
                clear hcc hy
                by_cases hin : y = x
                · have h1 : (y.toList == x.toList) = true := by rw [hin]; exact beq_self_eq_true _
                  have HR := Lib.hid (H3.out.trans (if_pos (by
                    rw [List.contains_iff_mem]
                    refine List.mem_of_getElem? (i := j) ?_
                    rw [List.getElem?_take_of_lt hltj, List.getElem?_map, HY.out, hin]
                    rfl)))
                  clear hin
                  go_wp2
                  go_quiet (fail)
                  go_wp2
                  go_ret
                  rw [HR.out]
                  exact ⟨rfl, bdrew hbel _⟩
                · have h1 : (y.toList == x.toList) = false := by rw [bs_beq, beq_eq_false_iff_ne]; exact fun h => hin (bs_inj h)
                  have HN := Lib.hid hin
                  clear hin
                  go_wp2
                  go_quiet (fail)
                  go_wp2
                  refine ⟨⟨j + 1, by omega, by go_num, Lib.hid ?_, bdrew hbel _⟩, by simp [intOf]; omega⟩
                  rw [List.take_add_one, List.getElem?_map, HY.out]
                  intro h
                  rcases List.mem_append.1 h with h | h
                  · exact HJ.out h
                  · exact HN.out (bs_inj (by simpa using h)).symm
              · have kj : ¬ (j : Int) < (k : Int) := by omega
                have HR := Lib.hid (H3.out.trans (if_neg (by
                  intro h
                  have h2 := HJ.out
                  rw [show j = k by omega] at h2
                  exact h2 (List.contains_iff_mem.1 h))))
                go_wp2
                exact ⟨⟨k + 1, by omega, by go_num, Lib.hid HR.out.symm, hbel⟩, by simp [intOf]; omega⟩
      · have hke := Lib.hid (show k = l.length by omega)
        have hkn : ¬ (k : Int) < (l.length : Int) := by omega
        go_wp2
        go_ret
        have := HA.out
        rw [hke.out, List.drop_of_length_le (by simp)] at this
        rw [← this]
        exact ⟨rfl, hbel⟩
end Go.Proofs.YtnaoonegeboflaaDoor.Kf
