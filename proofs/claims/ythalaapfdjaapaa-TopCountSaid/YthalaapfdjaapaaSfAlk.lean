/-
  The walk of suffix.Alike: of each two neighbours in the order how far they are alike (Kasai's way).
-/
import Derived.Test.YthalaapfdjaapaaSfOrd0
import Derived.Test.YthalaapfdjaapaaSfBef
import Derived.Test.YthalaapfdjaapaaSfKas
namespace Go.Proofs.Ythalaapfdjaapaa
open Go.RowKit
set_option linter.unusedVariables false
set_option linter.unusedSimpArgs false

theorem lcp_from (a b : List UInt8) (k : Nat) (h : k ≤ lcp a b) : k + lcp (a.drop k) (b.drop k) = lcp a b := by
  induction k generalizing a b with
  | zero => simp
  | succ k ih =>
    cases a with
    | nil => simp [lcp] at h
    | cons x a =>
      cases b with
      | nil => simp [lcp] at h
      | cons y b =>
        by_cases hxy : x = y
        · subst hxy
          rw [lcp_same] at h ⊢
          have := ih a b (by omega)
          simp only [List.drop_succ_cons]
          omega
        · rw [lcp_diff hxy] at h; omega

set_option maxHeartbeats 1000000 in
set_option maxRecDepth 100000 in
theorem alike_any (s : ByteArray) (w : World) (hs : s.size ≤ 24) :
    Calls Try.prog 13 #[.string s] w fun e w' => ∃ A c, e = .returned (.tuple #[.slice A (s.size - 1) c, .nilIface]) ∧ Reads w' A (s.size - 1) 1 (ints (natsI (alikeOf s.data.toList))) ∧ Below w.heap.size w w' := by
  obtain ⟨l, hl⟩ : ∃ l, l = s.data.toList := ⟨_, rfl⟩
  have hln : l.length = s.size := by rw [hl]; simp
  have hO := ordOf_is l
  have HAL := Lib.hid (fun (W : World) => order_all s W hs)
  rw [← hl] at HAL ⊢
  have hag := alikeOf_get l
  have hall := alikeOf_length l
  obtain ⟨o, ho⟩ : ∃ o, o = ordOf l := ⟨_, rfl⟩
  rw [← ho] at HAL hO hag
  have hol : o.length = s.size := by rw [hO.length, hln]
  clear ho
  go_enter Try.func13, Try.ntmps13
  go_wp2_with fail
  refine (HAL.out _).mono ?_
  rintro e w1 ⟨A, c, rfl, hrd, hb1⟩
  clear HAL
  have hmk := run_make_ints w1 (s.size : Int) s.size rfl (by omega)
  go_wp2_with fail
  have hb0 : Below w1.heap.size w1 (w1.alloc (.cells (ints (List.replicate s.size 0)).toArray 3)) := (Below.refl _ _).alloc (Nat.le_refl _) _
  have hn0 := IBlk.new w1 (List.replicate s.size 0)
  clear hmk
  go_loopw [7, 8, 26, 27, 28, 29, 30, 31, 32, 33, 34, 35] (fun _ _ v _ _ _ _ _ _ _ _ _ wr => ∃ (t : Nat) (pl : List Int), v = .int .i64 (t : Int) ∧ t ≤ s.size ∧ Below w1.heap.size w1 wr ∧ IBlk wr w1.heap.size pl ∧ pl.length = s.size ∧ ∀ u i, u < t → o[u]? = some i → pl[i]? = some (u : Int)) (fun _ _ v _ _ _ _ _ _ _ _ _ _ => s.size - (intOf v).toNat)
  case atStart => exact ⟨0, _, rfl, by omega, hb0, hn0, by simp, fun u i hu => by omega⟩
  case round =>
    obtain ⟨t, pl, rfl, htn, hb, hn, hpl, hpu⟩ := hrel
    clear hb0 hn0
    by_cases hlt : t < s.size
    · have kk : (t : Int) < (s.size : Int) := by omega
      obtain ⟨b, of, rfl, hbl, hc⟩ := (hrd.below hb).2 (by omega)
      obtain ⟨i, hi⟩ : ∃ i, o[t]? = some i := ⟨_, List.getElem?_eq_getElem (by omega)⟩
      have c0 := hc t (.int .i64 (i : Int)) (by rw [ints_get, natsI_get, hi]; rfl)
      have hin := hO.lt hi
      rw [hln] at hin
      have ki : (i : Int) < (s.size : Int) := by omega
      obtain ⟨x, hx⟩ : ∃ x, pl[i]? = some x := ⟨_, List.getElem?_eq_getElem (by omega)⟩
      have c1 := hn.cell hx
      have f1 := hn.frozen i
      have e1 : IntKind.i64.wrap ((t : Int) + 1) = (t : Int) + 1 := IntWalk.i64_in _ (by omega)
      have HX := Lib.hid hpu
      have HI := Lib.hid hi
      have HO := Lib.hid hO
      clear hpu hc hi hx
      go_wp2
      go_roundw
      case rel =>
        refine ⟨t + 1, _, by simp, by omega, hb.setCell (p := ⟨w1.heap.size, i, none⟩) (Nat.le_refl _) _, hn.set_ i (t : Int), by simp [hpl], ?_⟩
        intro u j hu hj
        by_cases hut : u = t
        · subst hut
          rw [HI.out] at hj
          cases hj
          rw [List.getElem?_set_self (by omega)]
        · have hij : i ≠ j := by
            rintro rfl
            exact hut (HO.out.inj hj HI.out)
          rw [List.getElem?_set_ne hij]
          exact HX.out u j (by omega) hj
      case measure => simp [intOf]; omega
    · obtain rfl : t = s.size := by omega
      have kk : ¬ (s.size : Int) < (s.size : Int) := by omega
      obtain ⟨n1, hn1⟩ : ∃ n1, n1 = s.size - 1 := ⟨_, rfl⟩
      have emx : max 0 ((s.size : Int) - 1) = (n1 : Int) := by omega
      have hmk2 := run_make_ints wr (n1 : Int) n1 rfl (by omega)
      have HN1 := Lib.hid hn1
      clear hn1
      have hb2 : Below wr.heap.size wr (wr.alloc (.cells (ints (List.replicate n1 0)).toArray 3)) := (Below.refl _ _).alloc (Nat.le_refl _) _
      have hn2 := IBlk.new wr (List.replicate n1 0)
      go_wp2_with fail
      clear hmk2
      have hpn := hn.lt
      obtain ⟨wo, hwo⟩ : ∃ wo, wo = wr := ⟨_, rfl⟩
      rw [← hwo] at hb hn hpn hb2 hn2
      subst hwo
      go_loopw [10, 11, 12, 43, 44, 45, 46, 47, 48, 49, 50, 51, 52, 53, 54, 55, 56, 57, 58, 59, 60, 61, 62, 63, 64, 65, 66, 67, 68, 69, 70, 71, 72, 73, 74, 75, 76, 77, 78, 79, 80, 81, 82, 83] (fun v10 _ _ v43 _ _ _ _ _ _ _ _ _ _ _ _ _ _ _ _ _ _ _ _ _ _ _ _ _ _ _ _ _ _ _ _ _ _ _ _ _ _ _ _ wx => ∃ (i k : Nat) (ot : List Int), v10 = .int .i64 (k : Int) ∧ v43 = .int .i64 (i : Int) ∧ i ≤ s.size ∧ k ≤ s.size ∧ (∀ p, o[p]? = some i → p ≠ 0 → k ≤ far l o p) ∧ Below wo.heap.size wo wx ∧ IBlk wx wo.heap.size ot ∧ ot.length = n1 ∧ ∀ p j, j < i → o[p + 1]? = some j → ot[p]? = some (far l o (p + 1) : Int)) (fun _ _ _ v43 _ _ _ _ _ _ _ _ _ _ _ _ _ _ _ _ _ _ _ _ _ _ _ _ _ _ _ _ _ _ _ _ _ _ _ _ _ _ _ _ _ => s.size - (intOf v43).toNat)
      case atStart => exact ⟨0, 0, _, rfl, rfl, by omega, by omega, fun _ _ _ => Nat.zero_le _, hb2, hn2, by simp, fun _ _ h => by omega⟩
      case round =>
        obtain ⟨i, k, ot, rfl, rfl, hin, hkn, hk, hb3, hn3, hot, hou⟩ := hrel
        clear hb2 hn2
        by_cases hlt : i < s.size
        · have kk : (i : Int) < (s.size : Int) := by omega
          have e1 : IntKind.i64.wrap ((i : Int) + 1) = (i : Int) + 1 := IntWalk.i64_in _ (by omega)
          obtain ⟨p, hp, hop⟩ := hO.place (by omega : i < l.length)
          have hpi := hpu p i (by omega) hop
          have c0 := (hn.below hb3 hpn).cell hpi
          by_cases hp0 : p = 0
          · have kp : ((p : Int) == 0) = true := by rw [hp0]; rfl
            have HO := Lib.hid hO; have HK := Lib.hid hk; have HU := Lib.hid hou; have HP := Lib.hid hop; have HPU := Lib.hid hpu; have HPI := Lib.hid hpi
            clear hO hk hou hop hpu hpi
            go_wp2
            refine ⟨⟨i + 1, 0, ot, rfl, by simp, by omega, by omega, fun _ _ _ => Nat.zero_le _, hb3, hn3, hot, ?_⟩, by simp [intOf]; omega⟩
            intro q j hj hq
            by_cases hji : j = i
            · subst hji
              have := HO.out.inj hq HP.out
              omega
            · exact HU.out q j (by omega) hq
          · have kp : ((p : Int) == 0) = false := by rw [beq_eq_false_iff_ne]; omega
            obtain ⟨p1, hp1⟩ : ∃ p1, p1 = p - 1 := ⟨_, rfl⟩
            obtain ⟨j, hj⟩ : ∃ j, o[p1]? = some j := ⟨_, List.getElem?_eq_getElem (by omega)⟩
            have HB : Below w1.heap.size w1 wr := hb.trans (hb3.mono hb.size)
            obtain ⟨b, of, rfl, hbl, hc⟩ := (hrd.below HB).2 (by omega)
            have c2 := hc p1 (.int .i64 (j : Int)) (by rw [ints_get, natsI_get, hj]; rfl)
            have hkf := hk p hop hp0
            have hfl := far_last hO hop
            have hfv : far l o p = lcp (l.drop j) (l.drop i) := by
              unfold far
              rw [if_neg hp0, ← hp1, hj, hop]; rfl
            have hjl := lcp_le (l.drop j) (l.drop i)
            rw [List.length_drop] at hjl
            have hjn := hO.lt hj
            have hfr := lcp_from (l.drop i) (l.drop j) k (by rw [lcp_comm, ← hfv]; exact hkf)
            rw [lcp_comm (l.drop i) (l.drop j), ← hfv, List.drop_drop, List.drop_drop] at hfr
            have hka : ∀ q, o[q]? = some (i + 1) → far l o p - 1 ≤ far l o q := fun q hq => by have := kasai hO hop hq; omega
            obtain ⟨fv, hfe⟩ : ∃ fv, fv = far l o p := ⟨_, rfl⟩
            rw [← hfe] at hkf hfl hfv hfr hka
            obtain ⟨m, hm⟩ : ∃ m, m = i + k := ⟨_, rfl⟩
            obtain ⟨m2, hm2⟩ : ∃ m2, m2 = j + k := ⟨_, rfl⟩
            obtain ⟨r, hr⟩ : ∃ r, r = lcp (l.drop (i + k)) (l.drop (j + k)) := ⟨_, rfl⟩
            rw [← hr] at hfr
            have HCM := Lib.hid (fun W : World => common_any (s.extract m s.size) (s.extract m2 s.size) W (by simp; omega) (by simp; omega))
            rw [bs_from, bs_from, show bs s = l from hl.symm, hm, hm2, ← hr, ← hm, ← hm2] at HCM
            have e2 : (i : Int) + (k : Int) = (m : Int) := by omega
            have e3 : (j : Int) + (k : Int) = (m2 : Int) := by omega
            have k3 : (m : Int) ≤ (s.size : Int) := by omega
            have k4 : (m2 : Int) ≤ (s.size : Int) := by omega
            have e5 : (k : Int) + (r : Int) = (fv : Int) := by omega
            have e6 : (p : Int) - 1 = (p1 : Int) := by omega
            have k6 : (p1 : Int) < (s.size : Int) := by omega
            have k7 : (p1 : Int) < (n1 : Int) := by have := HN1.out; omega
            obtain ⟨k2, hk2⟩ : ∃ k2, k2 = fv - 1 := ⟨_, rfl⟩
            rw [← hk2] at hka
            have kfv : (fv : Int) ≤ (s.size : Int) := by omega
            have e7 : max 0 ((fv : Int) - 1) = (k2 : Int) := by omega
            obtain ⟨x, hx⟩ : ∃ x, ot[p1]? = some x := ⟨_, List.getElem?_eq_getElem (by have := HN1.out; omega)⟩
            have c3 := hn3.cell hx
            have f3 := hn3.frozen p1
            have HO := Lib.hid hO; have HK := Lib.hid hka; have HU := Lib.hid hou; have HP := Lib.hid hop; have HP1 := Lib.hid hp1; have HFE := Lib.hid hfe; have HK2 := Lib.hid (show k2 ≤ s.size by omega)
            clear hO hk hou hop hpu hpi hka hp1 hj hc hfl hfv hjl hfr hfe hm hm2 hr hk2 hx
            go_wp2
            go_quiet (first | (go_at_call 28; refine Calls.quiet_of (HCM.out _)))
            clear HCM
            go_wp2
            refine ⟨⟨i + 1, k2, _, by simp [e7], by simp, by omega, HK2.out, fun q hq _ => HK.out q hq, ?_, IBlk.set_ (IBlk.drewN hn3 nq) p1 (fv : Int), by simp [hot], ?_⟩, by simp [intOf]; omega⟩
            · exact (bdrew hb3 nq).setCell (p := ⟨wo.heap.size, p1, none⟩) (Nat.le_refl _) _
            · intro q t ht hq
              by_cases hqp : q = p1
              · subst hqp
                have hqe : q + 1 = p := by have := HP1.out; omega
                rw [List.getElem?_set_self (by have := HN1.out; omega), hqe, HFE.out]
              · rw [List.getElem?_set_ne (Ne.symm hqp)]
                refine HU.out q t ?_ hq
                rcases Nat.lt_or_ge t i with h | h
                · exact h
                · obtain rfl : t = i := by omega
                  have := HO.out.inj hq HP.out
                  have := HP1.out
                  omega
        · obtain rfl : i = s.size := by omega
          have kk : ¬ (s.size : Int) < (s.size : Int) := by omega
          go_wp2
          go_ret2
          refine ⟨_, ⟨_, by rw [HN1.out]; rfl⟩, ?_, hb1.trans ((hb.trans (hb3.mono hb.size)).mono hb1.size)⟩
          have hot2 : ot = natsI (alikeOf l) := by
            refine List.ext_getElem? fun q => ?_
            by_cases hq : q + 1 < s.size
            · obtain ⟨j, hj⟩ : ∃ j, o[q + 1]? = some j := ⟨_, List.getElem?_eq_getElem (by omega)⟩
              rw [hou q j (by have := hO.lt hj; omega) hj, natsI_get, hag q (by omega)]
              rfl
            · rw [List.getElem?_eq_none (by have := HN1.out; omega), List.getElem?_eq_none (by rw [natsI_length]; omega)]
          have := hn3.reads
          rw [hot, hot2, HN1.out, hl] at this
          exact this
end Go.Proofs.Ythalaapfdjaapaa
