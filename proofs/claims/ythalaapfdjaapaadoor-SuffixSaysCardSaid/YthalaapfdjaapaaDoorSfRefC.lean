/-
  The walks of the references Alike and Count.
-/
import Derived.Test.YthalaapfdjaapaaDoorSfRefE
namespace Go.Proofs.YthalaapfdjaapaaDoor
open Go.RowKit
set_option linter.unusedVariables false
set_option linter.unusedSimpArgs false

set_option maxHeartbeats 2000000 in
theorem refalike_any (a b : ByteArray) (w : World) (ha : a.size ≤ 140737488351232) (hb : b.size ≤ 140737488351232) :
    Calls Tryd.prog 7 #[.string a, .string b] w fun e w' => e = .returned (.int .i64 (lcp (bs a) (bs b) : Int)) ∧ ∃ q, w' = w.drewN q := by
  obtain ⟨r, hr⟩ : ∃ r, r = lcp (bs a) (bs b) := ⟨_, rfl⟩
  rw [← hr]
  have HR := Lib.hid hr
  clear hr
  go_enter Tryd.func7, Tryd.ntmps7
  go_wp2_with fail
  go_loopw [5, 6, 7, 8, 9, 10, 11, 12, 13, 14, 15, 16, 17, 18, 19, 20, 21, 22, 23, 24, 25, 26] (fun i _ _ _ _ _ _ _ _ _ _ _ _ _ _ _ _ _ _ _ _ _ wr => ∃ I : Nat, i = .int .i64 I ∧ I ≤ a.size ∧ I ≤ b.size ∧ I + lcp ((bs a).drop I) ((bs b).drop I) = r ∧ ∃ q, wr = w.drewN q) (fun i _ _ _ _ _ _ _ _ _ _ _ _ _ _ _ _ _ _ _ _ _ _ => a.size - (intOf i).toNat)
  case atStart => exact ⟨0, rfl, by omega, by omega, by simp [HR.out], 0, rfl⟩
  case round =>
    obtain ⟨I, rfl, hA, hB, hg, q, rfl⟩ := hrel
    by_cases h1 : I < a.size
    · have g1 : (I : Int) < (a.size : Int) := by omega
      by_cases h2 : I < b.size
      · have g2 : (I : Int) < (b.size : Int) := by omega
        have q1 := index_at a I _ h1 rfl
        have q2 := index_at b I _ h2 rfl
        rw [bs_drop a I h1, bs_drop b I h2] at hg
        generalize a[I] = x at *
        generalize b[I] = y at *
        by_cases hxy : x = y
        · subst hxy
          rw [lcp_same] at hg
          have HG := Lib.hid hg
          clear hg
          go_wp2
          go_quiet (fail)
          go_wp2
          go_roundw
          case rel => exact ⟨I + 1, by go_num, by omega, by omega, by rw [← HG.out]; omega, _, rfl⟩
          case measure => simp [intOf]; omega
        · rw [lcp_diff hxy] at hg
          have hne : ¬ (x.toNat = y.toNat) := fun h => hxy (UInt8.toNat_inj.1 h)
          have HG := Lib.hid hg
          clear hg
          have r1 : ((x.toNat : Int) == (y.toNat : Int)) = false := by rw [beq_eq_false_iff_ne]; intro h; exact hne (by omega)
          go_wp2
          go_quiet (fail)
          go_wp2
          go_ret
          exact ⟨by rw [← HG.out]; rfl, _, World.drewN_drewN _ _ _⟩
      · have g2 : ¬ (I : Int) < (b.size : Int) := by omega
        rw [List.drop_eq_nil_of_le (show (bs b).length ≤ I by rw [bs_length]; omega), lcp_nil] at hg
        have HG := Lib.hid hg
        clear hg
        go_wp2
        go_quiet (fail)
        go_wp2
        go_ret
        exact ⟨by rw [← HG.out]; rfl, _, World.drewN_drewN _ _ _⟩
    · have g1 : ¬ (I : Int) < (a.size : Int) := by omega
      rw [List.drop_eq_nil_of_le (show (bs a).length ≤ I by rw [bs_length]; omega)] at hg
      have HG := Lib.hid (show I + 0 = r from hg)
      clear hg
      go_wp2
      go_quiet (fail)
      go_wp2
      go_ret
      exact ⟨by rw [← HG.out]; rfl, _, World.drewN_drewN _ _ _⟩

theorem bs_cut (s : ByteArray) (a k : Nat) : bs (s.extract a (a + k)) = ((bs s).drop a).take k := by
  show (s.extract a (a + k)).data.toList = (s.data.toList.drop a).take k
  rw [Lib.extract_data, Nat.add_sub_cancel_left]
theorem stands_first (s : ByteArray) (i j K : Nat) (w : World) (hs : s.size ≤ 1000) (hK : K = i + 1 + j) (hk : K ≤ s.size) :
    Calls Tryd.prog 15 #[.string s, .string (s.extract i K)] w fun e w' => ∃ g n cap, ∃ x : Int, (e = .returned (.slice (some ⟨g, 0, none⟩) (n + 1) cap) ∧ w'.cell? ⟨g, 0, none⟩ = some (.int .i64 x) ∧ (x = (i : Int) ↔ ¬ ((ahead (bs s) i).any fun z => (((bs s).drop i).take (j + 1)).isPrefixOf z) = true)) ∧ Below w.heap.size w w' := by
  subst hK
  refine (stands_any s (s.extract i (i + 1 + j)) w (by omega) (by simp [maxLen]; omega)).mono ?_
  rintro e w' ⟨A, cap, rfl, hown, hb⟩
  rw [show i + 1 + j = i + (j + 1) by omega, bs_cut] at hown ⊢
  obtain ⟨x, r, hp, hx, _, _⟩ := first_place (bs s) i (j + 1) (by rw [bs_length]; omega) (by omega)
  rw [hp] at hown ⊢
  obtain ⟨g, cap', hv, _, _⟩ := own_some hown (by simp)
  simp only [Value.slice.injEq] at hv
  obtain ⟨rfl, _, rfl⟩ := hv
  exact ⟨g, r.length, _, x, ⟨rfl, own_cell hown (by simp [ints]), hx⟩, hb⟩

set_option maxHeartbeats 1000000 in
set_option maxRecDepth 100000 in
theorem refcount_any (s : ByteArray) (w : World) (hs : s.size ≤ 24) :
    Calls Tryd.prog 8 #[.string s] w fun e w' => e = .returned (.int .i64 (many s.data.toList : Int)) ∧ Below w.heap.size w w' := by
  obtain ⟨l, hl⟩ : ∃ l, l = s.data.toList := ⟨_, rfl⟩
  have hln : l.length = s.size := by rw [hl]; simp
  have HST := Lib.hid (fun (i j K : Nat) (hK : K = i + 1 + j) (hk : K ≤ s.size) (W : World) => stands_first s i j K W (by omega) hK hk)
  rw [show bs s = l from hl.symm] at HST
  rw [← hl]
  have hall := ahead_all l
  have hsl := fun i (hi : i ≤ l.length) => subs_le l i hi
  have HLN := Lib.hid hln
  have HALL := Lib.hid hall
  clear hl hall hln
  go_enter Tryd.func8, Tryd.ntmps8
  go_wp2
  go_loopw [3, 4, 5, 6, 7, 8, 9, 10, 11, 12, 13, 14, 15, 16, 17, 18, 19, 20, 21, 22, 23, 24, 25, 26, 27, 28, 29, 30, 31, 32, 33] (fun v3 v4 _ _ _ _ _ _ _ _ _ _ _ _ _ _ _ _ _ _ _ _ _ _ _ _ _ _ _ _ _ wr => ∃ i : Nat, v3 = .int .i64 ((subs (ahead l i)).length : Int) ∧ v4 = .int .i64 (i : Int) ∧ i ≤ s.size ∧ Below w.heap.size w wr) (fun _ v4 _ _ _ _ _ _ _ _ _ _ _ _ _ _ _ _ _ _ _ _ _ _ _ _ _ _ _ _ _ _ => s.size - (intOf v4).toNat)
  case atStart => exact ⟨0, rfl, rfl, by omega, Below.refl _ _⟩
  case round =>
    obtain ⟨i, rfl, rfl, hin, hb⟩ := hrel
    have hS1 := hsl i (by rw [HLN.out]; exact hin)
    rw [HLN.out] at hS1
    have hS2 : i * s.size ≤ 24 * 24 := Nat.mul_le_mul (by omega) hs
    have hss : subs (ahead l (i + 1)) = newOf (ahead l i) (l.drop i) ++ subs (ahead l i) := by rw [ahead_succ]; rfl
    have hss2 : (subs (ahead l (i + 1))).length = newTo (ahead l i) (l.drop i) (s.size - i) + (subs (ahead l i)).length := by
      rw [hss, List.length_append, ← newTo_all, List.length_drop, HLN.out]
    obtain ⟨S, hS⟩ : ∃ S, S = (subs (ahead l i)).length := ⟨_, rfl⟩
    by_cases hlt : i < s.size
    · have kk : (i : Int) < (s.size : Int) := by omega
      have e1 : IntKind.i64.wrap ((i : Int) + 1) = (i : Int) + 1 := IntWalk.i64_in _ (by omega)
      rw [← hS] at hS1 hss2 ⊢
      have HSS := Lib.hid hss2
      have HH := Lib.hid hsl
      clear hS hss hss2 hsl
      go_wp2_with fail
      obtain ⟨wo, hwo⟩ : ∃ wo, wo = wr := ⟨_, rfl⟩
      rw [← hwo] at hb
      subst hwo
      go_loopw [3, 5, 6, 15, 16, 17, 18, 19, 20, 21, 22, 23, 24, 25, 26, 27, 28, 29, 30, 31, 32, 33] (fun v3 v5 _ _ _ _ _ _ _ _ _ _ _ _ _ _ _ _ _ _ _ _ wx => ∃ j : Nat, v3 = .int .i64 ((S + newTo (ahead l i) (l.drop i) j : Nat) : Int) ∧ v5 = .int .i64 ((i + 1 + j : Nat) : Int) ∧ j ≤ s.size - i ∧ Below w.heap.size w wx) (fun _ v5 _ _ _ _ _ _ _ _ _ _ _ _ _ _ _ _ _ _ _ _ _ => s.size + 1 - (intOf v5).toNat)
      case atStart => exact ⟨0, by simp [newTo], by simp, by omega, hb⟩
      case round =>
        obtain ⟨j, rfl, rfl, hjn, hbx⟩ := hrel
        have hnt := newTo_succ (ahead l i) (l.drop i) j
        have hnl := newTo_le (ahead l i) (l.drop i) j
        obtain ⟨K, hK⟩ : ∃ K, K = i + 1 + j := ⟨_, rfl⟩
        obtain ⟨T, hT⟩ : ∃ T, T = S + newTo (ahead l i) (l.drop i) j := ⟨_, rfl⟩
        have kT : (T : Int) ≤ 1000 := by omega
        have e2 : IntKind.i64.wrap ((K : Int) + 1) = (K : Int) + 1 := IntWalk.i64_in _ (by omega)
        by_cases hlt2 : j < s.size - i
        · rw [← hK, ← hT]
          have k1 : (K : Int) ≤ (s.size : Int) := by omega
          have k2 : (i : Int) ≤ (K : Int) := by omega
          have hst := HST.out i j K hK (by omega)
          have HN := Lib.hid hnt; have HK := Lib.hid hK; have HT := Lib.hid hT; have HS1 := Lib.hid hst
          clear hnt hK hT hst
          go_wp2_with fail
          refine (HS1.out _).mono ?_
          rintro e w5 ⟨g, n, cap, x, ⟨rfl, hc, hx⟩, hb5⟩
          have hb6 := bnext hbx hb5
          by_cases hxi : x = (i : Int)
          · subst hxi
            have hno := hx.1 rfl
            have HNO := Lib.hid hno
            clear hx hno
            go_wp2_with fail
            go_roundw
            case rel => exact ⟨j + 1, by rw [HN.out, if_neg HNO.out, HT.out]; simp; omega, by rw [HK.out]; simp; omega, by omega, hb6⟩
            case measure => simp [intOf]; omega
          · have hyes := Decidable.not_not.1 (mt hx.2 hxi)
            have kx : (x == (i : Int)) = false := by rw [beq_eq_false_iff_ne]; exact hxi
            have HNO := Lib.hid hyes
            clear hx hyes hxi
            go_wp2_with fail
            go_roundw
            case rel => exact ⟨j + 1, by rw [HN.out, if_pos HNO.out, HT.out]; simp, by rw [HK.out]; simp; omega, by omega, hb6⟩
            case measure => simp [intOf]; omega
        · have hje : j = s.size - i := by omega
          rw [← hje] at HSS
          have hKe : K = s.size + 1 := by omega
          have k1 : ¬ (K : Int) ≤ (s.size : Int) := by omega
          rw [← hK, ← hT]
          have HT := Lib.hid hT
          clear hK hT hnt hnl hje hKe
          go_wp2_with fail
          go_roundw
          case rel => exact ⟨i + 1, by rw [HSS.out, HT.out, Nat.add_comm], by simp, by omega, hbx⟩
          case measure => simp [intOf]; omega
    · obtain rfl : i = s.size := by omega
      have kk : ¬ (s.size : Int) < (s.size : Int) := by omega
      have hSM : S = many l := by rw [hS, ← HALL.out, HLN.out]
      rw [← hS]
      have HSM := Lib.hid hSM
      clear hS hSM hss hss2 hsl
      go_wp2_with fail
      go_ret
      exact ⟨by rw [HSM.out]; rfl, hb⟩
end Go.Proofs.YthalaapfdjaapaaDoor
