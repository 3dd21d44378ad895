/-
  The walk of the law TopLeast, for every text; no condition.
-/
import Derived.Test.YtfjjjkfldekooaaWhFact
import Derived.Test.YtfjjjkfldekooaaTlLeast
import Derived.Test.YtfjjjkfldekooaaTlParts
import Derived.Test.YtfjjjkfldekooaaSfOrd0
import Derived.Test.YtfjjjkfldekooaaWhTrn
namespace Go.Proofs.Ytfjjjkfldekooaa.topLeast
open Go.RowKit
set_option linter.unusedVariables false
set_option linter.unusedSimpArgs false

theorem first_end {x : List UInt8} {d : Nat} (h0 : 0 < d) (hd : d ≤ x.length) (h : ∀ p, p < x.length → p ≠ x.length - d → EndLt x (x.length - d) p) : (ordOf x)[0]? = some (x.length - d) := by
  have ho := ordOf_is x
  have hmem : x.length - d ∈ ordOf x := ho.perm.mem_iff.2 (List.mem_range.2 (by omega))
  obtain ⟨j, hj, hjx⟩ := List.getElem_of_mem hmem
  by_cases e : j = 0
  · subst e
    rw [List.getElem?_eq_getElem hj, hjx]
  · exfalso
    have h1 := List.pairwise_iff_getElem.1 ho.sorted 0 j (by omega) hj (by omega)
    rw [hjx] at h1
    have hlt := List.mem_range.1 (ho.perm.subset (List.getElem_mem (show 0 < (ordOf x).length by omega)))
    by_cases e2 : (ordOf x)[0] = x.length - d
    · rw [e2, bef_irrefl] at h1
      cases h1
    · have h2 := h _ hlt e2
      unfold EndLt at h2
      rw [bef_asymm h1] at h2
      cases h2
theorem turns_ba : turnsB ⟨#[98, 97]⟩ = ([[97, 98], [98, 97]] : List (List UInt8)).map ba :=
  turns_eq _ _ (by decide +kernel) (by decide +kernel)
theorem lasts_ba : lasts ⟨#[98, 97]⟩ = [98, 97] := by
  unfold lasts
  rw [turns_ba]
  decide +kernel
theorem there_ba (w : World) : Calls Try.prog 9 #[.string ⟨#[98, 97]⟩] w fun e w' => e = .returned (.tuple #[.string ⟨#[98, 97]⟩, .int .i64 1, .nilIface]) ∧ Below w.heap.size w w' := by
  refine (there_ok ⟨#[98, 97]⟩ w (by decide) (by decide)).mono ?_
  rintro e w' ⟨⟨k, rfl, j, rfl, hj, _⟩, hb⟩
  have hj1 : j = 1 := by
    rw [turns_ba] at hj
    have h2 : j < 2 := by
      rcases Nat.lt_or_ge j 2 with h | h
      · exact h
      · rw [List.getElem?_eq_none (by simpa using h)] at hj; cases hj
    have : j = 0 ∨ j = 1 := by omega
    rcases this with rfl | rfl
    · exfalso; revert hj; decide +kernel
    · rfl
  rw [hj1, lasts_ba]
  exact ⟨rfl, hb⟩
theorem in_any (n lo hi : Int) (w : World) : Calls Try.prog 22 #[.int .i64 n, .int .i64 lo, .int .i64 hi] w fun e w' => e = .returned (.bool (decide (lo ≤ n ∧ n ≤ hi))) ∧ w = w' := by
  by_cases h1 : lo ≤ n <;> by_cases h2 : n ≤ hi
  all_goals
    go_enter Try.func22, Try.ntmps22
    go_wp2
    go_ret
    exact ⟨ret_bool (by simp [h1, h2]), rfl⟩
theorem in_yes {n lo hi : Int} (h : lo ≤ n ∧ n ≤ hi) (w : World) : Calls Try.prog 22 #[.int .i64 n, .int .i64 lo, .int .i64 hi] w fun e w' => e = .returned (.bool true) ∧ w = w' := by
  have := in_any n lo hi w
  rwa [decide_eq_true h] at this

set_option maxHeartbeats 1000000 in
set_option maxRecDepth 100000 in
theorem walk_far (w : World) (s : ByteArray) (hs : 24 < s.size) :
    Calls Try.prog 7 #[.string s] w fun e w' => e = .returned (.bool true) ∧ Below w.heap.size w w' := by
  have HT := Lib.hid (fun (W : World) => there_no s W hs)
  have HB := Lib.hid there_ba
  go_enter Try.func7, Try.ntmps7
  go_wp2_with fail
  refine (HT.out _).mono ?_
  rintro e w1 ⟨rfl, hb1⟩
  go_wp2_with fail
  refine (HB.out _).mono ?_
  rintro e w2 ⟨rfl, hb2⟩
  go_wp2_with fail
  go_ret
  exact ⟨rfl, bnext hb1 hb2⟩
set_option maxHeartbeats 1000000 in
set_option maxRecDepth 100000 in
theorem walk_nil (w : World) :
    Calls Try.prog 7 #[.string ⟨#[]⟩] w fun e w' => e = .returned (.bool true) ∧ Below w.heap.size w w' := by
  have HT := Lib.hid (fun (W : World) => there_nil ⟨#[]⟩ W rfl)
  have HB := Lib.hid there_ba
  go_enter Try.func7, Try.ntmps7
  go_wp2_with fail
  refine (HT.out _).mono ?_
  rintro e w1 ⟨rfl, hb1⟩
  go_wp2_with fail
  refine (HB.out _).mono ?_
  rintro e w2 ⟨rfl, hb2⟩
  go_wp2_with fail
  go_ret
  exact ⟨rfl, bnext hb1 hb2⟩
set_option maxHeartbeats 4000000 in
set_option maxRecDepth 100000 in
theorem walk_ok (w : World) (s : ByteArray) (hs : s.size ≤ 24) (h0 : 0 < s.size) :
    Calls Try.prog 7 #[.string s] w fun e w' => e = .returned (.bool true) ∧ Below w.heap.size w w' := by
  obtain ⟨t, ht⟩ : ∃ t : ByteArray, t = ⟨(lasts s).toArray⟩ := ⟨_, rfl⟩
  have hT := fun (W : World) => there_le s W hs
  have hBk := fun (W : World) => back_at s 0 W hs h0
  rw [← ht] at hT hBk
  rw [show ((0 : Nat) : Int) = 0 from rfl] at hBk
  have HT := Lib.hid hT; have HBk := Lib.hid hBk
  have HB := Lib.hid there_ba
  have HLe := Lib.hid (fun (W : World) => least_any s W hs h0)
  have HPa := Lib.hid (fun (W : World) => parts_any s W hs h0)
  have HO := Lib.hid (fun (W : World) => order_all s W hs)
  have hl : (bs s).length = s.size := bs_length s
  have q1 : s.toList.isEmpty = false := by
    rw [Lib.toList_data, List.isEmpty_eq_false_iff]
    intro e
    have h2 : bs s = [] := e
    rw [h2] at hl
    simp at hl
    omega
  have e1 : IntKind.i64.wrap ((s.size : Int) - 1) = (s.size : Int) - 1 := IntWalk.i64_in _ (by omega)
  have HLN := Lib.hid hl
  clear hT hBk ht hl
  go_enter Try.func7, Try.ntmps7
  go_wp2_with fail
  refine (HT.out _).mono ?_
  rintro e w1 ⟨⟨k1, rfl⟩, hb1⟩
  go_wp2_with fail
  refine (HB.out _).mono ?_
  rintro e w2 ⟨rfl, hb2⟩
  have hb12 := bnext hb1 hb2
  clear hb1 hb2
  go_wp2_with fail
  refine (HLe.out _).mono ?_
  rintro e w3 ⟨⟨c, rfl, hc, hcl⟩, hb3⟩
  have hfirst := least_first s h0 hc hcl
  have HFI := Lib.hid hfirst
  clear hcl hfirst
  go_wp2_with fail
  refine (HBk.out _).mono ?_
  rintro e w4 ⟨⟨i, u, hi1, hi2, hu, rfl⟩, hb4⟩
  have hus : u = trn s c := Option.some.inj (hu.symm.trans HFI.out)
  clear hi1 hi2 hu i
  have HUS := Lib.hid hus
  clear hus
  have hb14 := bnext hb12 (bnext hb3 hb4)
  clear hb12 hb3 hb4
  go_wp2_with fail
  refine (HPa.out _).mono ?_
  rintro e w5 ⟨⟨A, m, cap, rfl, d, l, hrl, hm0, hm24, hld, hd0, hds, hlast⟩, hb5⟩
  go_wp2_with fail
  refine (HO.out _).mono ?_
  rintro e w6 ⟨A2, cap2, rfl, hro, hb6⟩
  have hord := first_end (x := bs s) hd0 (by rw [HLN.out]; exact hds) (by rw [HLN.out]; exact hlast)
  rw [HLN.out] at hord
  have hrl6 := hrl.below hb6
  have hbb := bnext hb14 (bnext hb5 hb6)
  clear hb14 hb5 hb6 hlast hrl
  obtain ⟨b1, o1, ea1, _, hc1⟩ := hrl6.2 hm0
  obtain ⟨b2, o2, ea2, _, hc2⟩ := hro.2 h0
  subst ea1 ea2
  obtain ⟨m', rfl⟩ : ∃ m', m = m' + 1 := ⟨m - 1, by omega⟩
  obtain ⟨p, hp⟩ : ∃ p, p = s.size - d := ⟨_, rfl⟩
  rw [← hp] at hord
  have c2 := hc2 0 (.int .i64 (p : Int)) (by
    rw [ints_get]
    unfold natsI
    rw [List.getElem?_map]
    show ((ordOf (bs s))[0]?.map _).map _ = _
    rw [hord]; rfl)
  have c1 := hc1 m' (.int .i64 (d : Int)) (by
    rw [ints_get]
    have : l[m' + 1 - 1]? = some (d : Int) := hld
    rw [Nat.add_sub_cancel] at this
    rw [this]; rfl)
  rw [Nat.add_zero] at c2
  have HI := Lib.hid (fun (W : World) => in_yes (n := (c : Int)) (lo := 0) (hi := (s.size : Int) - 1) (by omega) W)
  have e2 : IntKind.i64.wrap ((s.size : Int) - (d : Int)) = (p : Int) := by rw [IntWalk.i64_in _ (by omega)]; omega
  have e3 : IntKind.i64.wrap (((m' + 1 : Nat) : Int) - 1) = (m' : Int) := by rw [IntWalk.i64_in _ (by omega)]; omega
  have e4 : IntKind.i64.wrap ((m' : Int) + 1 - 1) = (m' : Int) := by rw [IntWalk.i64_in _ (by omega)]; omega
  have k1' : (((m' + 1 : Nat) : Int) == 0) = false := beq_eq_false_iff_ne.2 (by omega)
  have k2' : ((m' : Int) + 1 == 0) = false := beq_eq_false_iff_ne.2 (by omega)
  have k3 : (m' : Int) < ((m' + 1 : Nat) : Int) := by omega
  have k4 : (m' : Int) < (m' : Int) + 1 := by omega
  have k5 : (0 : Int) < (s.size : Int) := by omega
  have HR := Lib.hid (fun (W : World) => refturn_any s c W (by omega) (by omega))
  have HP := Lib.hid hp
  clear hc1 hc2 hord hp hld hrl6 hro
  go_wp2_with (go_at_call 22; refine (HI.out _).mono ?_; rintro e w7 ⟨rfl, rfl⟩)
  rw [← HUS.out] at HR
  go_quiet (first | (go_at_call 13; refine Calls.quiet_of (HR.out _)))
  go_wp2
  go_ret
  exact ⟨by simp, bdrew hbb _⟩
theorem walk (w : World) (s : ByteArray) (_hs : s.size ≤ 140737488351232) :
    Calls Try.prog 7 #[.string s] w fun e w' => e = .returned (.bool true) ∧ Below w.heap.size w w' := by
  by_cases hs : s.size ≤ 24
  · by_cases h0 : s.size = 0
    · have hse : s = ⟨#[]⟩ := bs_inj (List.eq_nil_of_length_eq_zero (by rw [bs_length]; exact h0))
      subst hse
      exact walk_nil w
    · exact walk_ok w s hs (by omega)
  · exact walk_far w s (by omega)
end Go.Proofs.Ytfjjjkfldekooaa.topLeast
