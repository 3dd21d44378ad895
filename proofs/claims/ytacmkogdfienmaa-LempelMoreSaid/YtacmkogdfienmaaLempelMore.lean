/-
  The walk of the law LempelMore: it returns true for every two texts.
-/
import Derived.Test.YtacmkogdfienmaaLempelFresh
namespace Go.Proofs.Ytacmkogdfienmaa.Lp
open Go.RowKit

theorem prefix_get {l m : List Pc} (h : l.dropLast <+: m) {i : Nat} {p q : Pc} (hi : i + 1 < l.length) (hp : l[i]? = some p) (hq : m[i]? = some q) : p = q := by
  obtain ⟨r, hr⟩ := h
  have hi' : i < l.dropLast.length := by simp; omega
  rw [← hr, List.getElem?_append_left hi', List.getElem?_eq_getElem hi', List.getElem_dropLast] at hq
  rw [List.getElem?_eq_getElem (by omega)] at hp
  exact (Option.some.inj hp).symm.trans (Option.some.inj hq)

set_option maxHeartbeats 2000000 in
theorem walkMore (w : World) (a0 : ByteArray) (s0 : a0.size ≤ 140737488351232) (a1 : ByteArray) (s1 : a1.size ≤ 140737488351232) :
    Calls Try.prog 5 #[.string a0, .string a1] w fun e w' => e = .returned (.bool true) ∧ Below w.heap.size w w' := by
  have hsum : a0.size + a1.size ≤ 9223372036854775807 := by omega
  by_cases hs : a0.size ≤ 1000
  · by_cases hs2 : (a0 ++ a1).size ≤ 1000
    · have hL : a0.data.toList.length = a0.size := by simp
      have hlen := pieces_length a0.data.toList
      have hL2 : (a0 ++ a1).data.toList.length = (a0 ++ a1).size := by simp
      have hlen2 := pieces_length (a0 ++ a1).data.toList
      rw [hL] at hlen
      rw [hL2] at hlen2
      have happ : (a0 ++ a1).data.toList = a0.data.toList ++ a1.data.toList := by simp
      obtain ⟨hpre, hle⟩ := pieces_more a0.data.toList a1.data.toList
      rw [← happ] at hpre hle
      have hval := pieces_valid a0.data.toList
      have hval2 := pieces_valid (a0 ++ a1).data.toList
      have hwrite := fun w => write_ok a0 w hs
      have hwrite2 := fun w => write_ok (a0 ++ a1) w hs2
      have HW := Lib.hid hwrite; have HW2 := Lib.hid hwrite2; have HV := Lib.hid hval; have HV2 := Lib.hid hval2; have HP := Lib.hid hpre
      clear hwrite hwrite2 hL hL2 hpre hval hval2 happ
      generalize pieces a0.data.toList = l at *
      generalize pieces (a0 ++ a1).data.toList = m at *
      obtain ⟨n, hn⟩ : ∃ n, l.length = n := ⟨_, rfl⟩
      obtain ⟨n2, hn2⟩ : ∃ n, m.length = n := ⟨_, rfl⟩
      have e1 := Lib.hid hn; have e2 := Lib.hid hn2
      rw [hn] at HW hlen hle
      rw [hn2] at HW2 hlen2 hle
      clear hn hn2
      go_enter Try.func5, Try.ntmps5
      go_wp2_with fail
      refine (fact_any _).mono ?_
      rintro e w1 ⟨rfl, hb1⟩
      go_wp2_with fail
      refine (HW.out _).mono ?_
      rintro e w2 ⟨A, cap, rfl, hown, hb2⟩
      go_wp2_with fail
      refine (HW2.out _).mono ?_
      rintro e w3 ⟨B, cap2, rfl, hown2, hb3⟩
      have hr := (Reads.of_own hown).below hb3
      have hr2 := Reads.of_own hown2
      have hb := bnext (bnext hb1 hb2) hb3
      clear hown hown2
      go_wp2_with fail
      go_loopw [10] (fun i wr => ∃ k : Nat, k ≤ n ∧ i = .int .i64 k ∧ Below w3.heap.size w3 wr) (fun i _ => n - (intOf i).toNat)
      case atStart => exact ⟨0, Nat.zero_le _, rfl, Below.refl _ _⟩
      case round =>
        obtain ⟨k, hk, rfl, hbel⟩ := hrel
        by_cases hlt : k + 1 < n
        · obtain ⟨b, o, rfl, hb', hc⟩ := (hr.below hbel).2 (by omega)
          obtain ⟨b2, o2, rfl, hb2', hc2⟩ := (hr2.below hbel).2 (by omega)
          obtain ⟨p, hp⟩ : ∃ p, l[k]? = some p := ⟨_, List.getElem?_eq_getElem (by rw [e1.out]; omega)⟩
          obtain ⟨q, hq⟩ : ∃ p, m[k]? = some p := ⟨_, List.getElem?_eq_getElem (by rw [e2.out]; omega)⟩
          obtain rfl := prefix_get HP.out (by rw [e1.out]; exact hlt) hp hq
          obtain ⟨pa, pc⟩ := p
          have hpk : pa ≤ k := HV.out k _ hp
          have hr1 := neq_pc (ofPc (pa, pc)) (ofPc (pa, pc)) (wf_pc _ (by simp only; omega)) (wf_pc _ (by simp only; omega))
          rw [decide_eq_true rfl, Bool.not_true] at hr1
          obtain ⟨g0, g1⟩ := cells_get l k _ hp
          obtain ⟨f0, f1⟩ := cells_get m k _ hq
          have c0 := hc (k * 2) _ g0
          have c1 := hc (k * 2 + 1) _ g1
          have d0 := hc2 (k * 2) _ f0
          have d1 := hc2 (k * 2 + 1) _ f1
          rw [← Nat.add_assoc] at c1 d1
          simp only [ofPc] at c0 c1 d0 d1 hr1
          clear hc hc2 hp hq g0 g1 f0 f1
          go_wp2
          go_quiet (fail)
          go_wp2
          go_roundw
          case rel => exact ⟨k + 1, by omega, by go_num, bdrew hbel _⟩
          case measure => simp [intOf]; omega
        · go_wp2
          go_ret
          exact ⟨rfl, bnext hb hbel⟩
    · go_enter Try.func5, Try.ntmps5
      go_wp2_with fail
      refine (fact_any _).mono ?_
      rintro e w1 ⟨rfl, hb1⟩
      go_wp2_with fail
      refine (write_ok a0 _ hs).mono ?_
      rintro e w2 ⟨A, cap, rfl, hown, hb2⟩
      go_wp2_with fail
      refine (write_no _ _ (by omega)).mono ?_
      rintro e w3 ⟨rfl, hb3⟩
      go_wp2_with fail
      go_ret
      exact ⟨rfl, bnext (bnext hb1 hb2) hb3⟩
  · go_enter Try.func5, Try.ntmps5
    have hs3 : 1000 < (a0 ++ a1).size := by rw [ByteArray.size_append]; omega
    go_wp2_with fail
    refine (fact_any _).mono ?_
    rintro e w1 ⟨rfl, hb1⟩
    go_wp2_with fail
    refine (write_no _ _ (by omega)).mono ?_
    rintro e w2 ⟨rfl, hb2⟩
    go_wp2_with fail
    refine (write_no _ _ hs3).mono ?_
    rintro e w3 ⟨rfl, hb3⟩
    go_wp2_with fail
    go_ret
    exact ⟨rfl, bnext (bnext hb1 hb2) hb3⟩
end Go.Proofs.Ytacmkogdfienmaa.Lp
namespace Go.Proofs.Ytacmkogdfienmaa.lempelMore
abbrev walk := @Lp.walkMore
end Go.Proofs.Ytacmkogdfienmaa.lempelMore
