/-
  The walk of the law SuffixFind, for every text and every word; no condition.
-/
import Derived.Test.YthalaapfdjaapaaSuffixOrder
import Derived.Test.YthalaapfdjaapaaFind
import Derived.Test.YthalaapfdjaapaaSfFd
namespace Go.Proofs.Ythalaapfdjaapaa.suffixFind
open Go.RowKit Kmp
set_option linter.unusedVariables false
set_option linter.unusedSimpArgs false

set_option maxHeartbeats 1000000 in
set_option maxRecDepth 100000 in
theorem walk_far (w : World) (s t : ByteArray) (hs : 24 < s.size) :
    Calls Try.prog 7 #[.string s, .string t] w fun e w' => e = .returned (.bool true) ∧ Below w.heap.size w w' := by
  have HF := Lib.hid sfact_any
  have HN := Lib.hid (fun (W : World) => order_no s W hs)
  have HA := Lib.hid (fun (W : World) => find_no s t W (by omega))
  go_enter Try.func7, Try.ntmps7
  go_wp2_with fail
  refine (HF.out _).mono ?_
  rintro e w1 ⟨rfl, hb1⟩
  go_wp2_with fail
  refine (HN.out _).mono ?_
  rintro e w2 ⟨rfl, hb2⟩
  go_wp2_with fail
  refine (HA.out _).mono ?_
  rintro e w3 ⟨⟨n, rfl⟩, hb3⟩
  go_wp2_with fail
  go_ret
  exact ⟨rfl, bnext hb1 (bnext hb2 hb3)⟩
set_option maxHeartbeats 1000000 in
set_option maxRecDepth 100000 in
theorem walk_no (w : World) (s t : ByteArray) (hs : s.size ≤ 24) (ht : ¬ (t.size ≤ 24 ∧ 0 < t.size)) :
    Calls Try.prog 7 #[.string s, .string t] w fun e w' => e = .returned (.bool true) ∧ Below w.heap.size w w' := by
  have HF := Lib.hid sfact_any
  have HN := Lib.hid (fun (W : World) => order_all s W hs)
  have HA := Lib.hid (fun (W : World) => find_no s t W (by omega))
  go_enter Try.func7, Try.ntmps7
  go_wp2_with fail
  refine (HF.out _).mono ?_
  rintro e w1 ⟨rfl, hb1⟩
  go_wp2_with fail
  refine (HN.out _).mono ?_
  rintro e w2 ⟨A, c, rfl, _, hb2⟩
  go_wp2_with fail
  refine (HA.out _).mono ?_
  rintro e w3 ⟨⟨n, rfl⟩, hb3⟩
  go_wp2_with fail
  go_ret
  exact ⟨rfl, bnext hb1 (bnext hb2 hb3)⟩

set_option maxHeartbeats 1000000 in
set_option maxRecDepth 100000 in
theorem walk_ok (w : World) (s t : ByteArray) (hs : s.size ≤ 24) (ht : t.size ≤ 24) (h0 : 0 < t.size) :
    Calls Try.prog 7 #[.string s, .string t] w fun e w' => e = .returned (.bool true) ∧ Below w.heap.size w w' := by
  have HF := Lib.hid sfact_any
  obtain ⟨l, hl⟩ : ∃ l, l = s.data.toList := ⟨_, rfl⟩
  obtain ⟨W, hW⟩ : ∃ W, W = t.data.toList := ⟨_, rfl⟩
  have hln : l.length = s.size := by rw [hl]; simp
  have hO := ordOf_is l
  have HN := Lib.hid (fun (W : World) => order_all s W hs)
  have HA := Lib.hid (fun (w : World) => find_any s t w hs ht h0)
  rw [← hl] at HN
  rw [← hl, ← hW] at HA
  have hall := begs_all l W
  rw [hln] at hall
  rw [← hall] at HA
  have hol : (ordOf l).length = s.size := by rw [hO.length, hln]
  have hBG := fun (i : Nat) (W' : World) => begins_any (s.extract i s.size) t W' (by simp [maxLen]; omega) (by unfold maxLen; omega)
  have hB2 : ∀ p i, (ordOf l)[p]? = some i → ∀ W' : World, Calls Try.prog 18 #[.string (s.extract i s.size), .string t] W' fun e w' => e = .returned (.bool (beg l W p)) ∧ W' = w' := by
    intro p i hi W'
    have := hBG i W'
    rw [bs_from, show bs s = l from hl.symm, show bs t = W from hW.symm] at this
    unfold beg
    rw [hi]
    exact this
  have HBG := Lib.hid hB2
  have HLN := Lib.hid hln
  clear hB2 hBG hl hW hall hln
  have e5 : 0 < s.size → IntKind.i64.wrap ((s.size : Int) - 1) = (s.size : Int) - 1 := fun h => IntWalk.i64_in _ (by omega)
  have HE5 := Lib.hid e5
  clear e5
  go_enter Try.func7, Try.ntmps7
  go_wp2_with fail
  refine (HF.out _).mono ?_
  rintro e w1 ⟨rfl, hb1⟩
  go_wp2_with fail
  refine (HN.out _).mono ?_
  rintro e w2 ⟨A, c, rfl, hrd, hb2⟩
  go_wp2_with fail
  refine (HA.out _).mono ?_
  rintro e w3 ⟨B, d, rfl, hb3⟩
  have hrd := hrd.below hb3
  have HB := Lib.hid (bnext hb1 (bnext hb2 hb3))
  clear HF HN HA hb1 hb2 hb3
  go_wp2_with fail
  go_loopw [10, 11, 12, 13, 41, 42, 43, 44, 45, 46, 47, 48, 49, 50, 51, 52, 53, 54, 55, 56, 57, 58, 59, 60, 61, 62, 63, 64, 65, 66, 67, 68, 69] (fun v10 v11 v12 v13 _ _ _ _ _ _ _ _ _ _ _ _ _ _ _ _ _ _ _ _ _ _ _ _ _ _ _ _ _ wr => ∃ (p : Nat) (f g : Int), v10 = .int .i64 f ∧ v11 = .int .i64 g ∧ v12 = .int .i64 (begs l W p : Int) ∧ v13 = .int .i64 (p : Int) ∧ p ≤ s.size ∧ Str l W p f g ∧ wr = w3) (fun _ _ _ v13 _ _ _ _ _ _ _ _ _ _ _ _ _ _ _ _ _ _ _ _ _ _ _ _ _ _ _ _ _ _ => s.size - (intOf v13).toNat)
  case atStart => exact ⟨0, -1, -1, rfl, rfl, rfl, rfl, by omega, Str.zero _ _, rfl⟩
  case round =>
    obtain ⟨p, f, g, rfl, rfl, rfl, rfl, hp, hst, hwr⟩ := hrel
    have hrd := hrd
    have hb' : Below w.heap.size w wr := by rw [hwr]; exact HB.out
    rw [← hwr] at hrd
    have HWR := Lib.hid hwr
    clear hwr
    have hbd := hst.bound
    have hle := begs_le l W p
    obtain ⟨m, hm⟩ : ∃ m, m = begs l W p := ⟨_, rfl⟩
    by_cases hlt : p < s.size
    · have kk : (p : Int) < (s.size : Int) := by omega
      have e1 : IntKind.i64.wrap ((p : Int) + 1) = (p : Int) + 1 := IntWalk.i64_in _ (by omega)
      have e2 := HE5.out (by omega)
      obtain ⟨b, of, rfl, hbl, hc⟩ := hrd.2 (by omega)
      obtain ⟨i, hi⟩ : ∃ i, (ordOf l)[p]? = some i := ⟨_, List.getElem?_eq_getElem (by omega)⟩
      have c0 := hc p (.int .i64 (i : Int)) (by rw [ints_get, natsI_get, hi]; rfl)
      have hin := hO.lt hi
      rw [HLN.out] at hin
      have ki : (i : Int) ≤ (s.size : Int) := by omega
      have HI := Lib.hid (fun W => in_yes (n := (i : Int)) (lo := 0) (hi := (s.size : Int) - 1) (by omega) (by omega) W)
      have hbg := HBG.out p i hi
      have hsu := begs_succ l W p
      rw [← hm] at hsu hle ⊢
      have e3 : IntKind.i64.wrap ((m : Int) + 1) = (m : Int) + 1 := IntWalk.i64_in _ (by omega)
      have HST := Lib.hid hst
      have HM := Lib.hid hm
      have HO := Lib.hid hO
      have HPL := Lib.hid (show p < l.length by rw [HLN.out]; exact hlt)
      clear hst hm hc hi hO hle
      cases hbe : beg l W p
      · rw [hbe] at hbg hsu
        have HBE := Lib.hid hbe; have HBB := Lib.hid hbg; have HSU := Lib.hid hsu
        clear hbe hbg hsu
        go_wp2_with fail
        refine (HI.out _).mono ?_
        rintro e w5 ⟨rfl, rfl⟩
        go_wp2_with fail
        refine (HBB.out _).mono ?_
        rintro e w6 ⟨rfl, rfl⟩
        go_wp2_with fail
        go_roundw
        case rel => exact ⟨p + 1, f, g, rfl, rfl, by rw [HSU.out]; rfl, by simp, by omega, HST.out.no HBE.out, HWR.out⟩
        case measure => simp [intOf]; omega
      · rw [hbe] at hbg hsu
        have HBE := Lib.hid hbe; have HBB := Lib.hid hbg; have HSU := Lib.hid hsu
        clear hbe hbg hsu
        by_cases hf : f < 0
        · go_wp2_with fail
          refine (HI.out _).mono ?_
          rintro e w5 ⟨rfl, rfl⟩
          go_wp2_with fail
          refine (HBB.out _).mono ?_
          rintro e w6 ⟨rfl, rfl⟩
          go_wp2_with fail
          go_roundw
          case rel => exact ⟨p + 1, p, p, rfl, rfl, by rw [HSU.out]; simp, by simp, by omega, HST.out.first HBE.out hf, HWR.out⟩
          case measure => simp [intOf]; omega
        · go_wp2_with fail
          refine (HI.out _).mono ?_
          rintro e w5 ⟨rfl, rfl⟩
          go_wp2_with fail
          refine (HBB.out _).mono ?_
          rintro e w6 ⟨rfl, rfl⟩
          go_wp2_with fail
          go_roundw
          case rel => exact ⟨p + 1, f, p, rfl, rfl, by rw [HSU.out]; simp, by simp, by omega, HST.out.more HBE.out (by omega) HPL.out, HWR.out⟩
          case measure => simp [intOf]; omega
    · obtain rfl : p = s.size := by omega
      have kk : ¬ (s.size : Int) < (s.size : Int) := by omega
      have hla := hst.last
      rw [← hm] at hla hle ⊢
      rcases hla with h1 | ⟨h1, h2, h3, h4, h5⟩
      · have km : ((m : Int) == 0) = true := by rw [h1]; rfl
        have HMM := Lib.hid h1
        clear hm hst h1
        go_wp2_with fail
        go_ret
        refine ⟨?_, hb'⟩
        first | rfl | exact ret_bool (by simp) | exact ret_bool (by simp; omega)
      · have e6 : IntKind.i64.wrap (g - f) = g - f := IntWalk.i64_in _ (by omega)
        have e7 : IntKind.i64.wrap (g - f + 1) = (m : Int) := by rw [h1]; exact IntWalk.i64_in _ (by omega)
        have HMM := Lib.hid h1
        clear hm hst
        by_cases hm0 : m = 0
        · have km : ((m : Int) == 0) = true := by rw [hm0]; rfl
          clear hm0
          go_wp2_with fail
          go_ret
          refine ⟨?_, hb'⟩
          first | rfl | exact ret_bool (by simp) | exact ret_bool (by simp; omega)
        · have km : ((m : Int) == 0) = false := by rw [beq_eq_false_iff_ne]; omega
          clear hm0
          go_wp2_with fail
          go_ret
          refine ⟨?_, hb'⟩
          first | rfl | exact ret_bool (by simp) | exact ret_bool (by simp; omega)
theorem walk (w : World) (s : ByteArray) (s0 : s.size ≤ 140737488351232) (t : ByteArray) (t0 : t.size ≤ 140737488351232) :
    Calls Try.prog 7 #[.string s, .string t] w fun e w' => e = .returned (.bool true) ∧ Below w.heap.size w w' := by
  by_cases hs : s.size ≤ 24
  · by_cases ht : t.size ≤ 24 ∧ 0 < t.size
    · exact walk_ok w s t hs ht.1 ht.2
    · exact walk_no w s t hs ht
  · exact walk_far w s t (by omega)
end Go.Proofs.Ythalaapfdjaapaa.suffixFind
