/-
  The walks of the reference's Runs and Unrun (letterbeckref2).
-/
import Derived.Test.YtcllehdlfalamaaDoorRnRead
import Derived.Test.YtcllehdlfalamaaDoorRefIn
import Derived.Test.YtcllehdlfalamaaDoorByt
namespace Go.Proofs.YtcllehdlfalamaaDoor.Rn
open Go.RowKit
set_option linter.unusedVariables false

theorem drop_run {L : List UInt8} {i K : Nat} {c : UInt8} (h : L.drop i = List.replicate (K - i) c ++ L.drop K) (hiK : i < K) (hne : ∀ x, L[K]? = some x → x ≠ c) : runsOf (L.drop i) = (c, K - i) :: runsOf (L.drop K) := by
  obtain ⟨n, hn⟩ : ∃ n, K - i = n + 1 := ⟨K - i - 1, by omega⟩
  rw [h, hn]
  refine cons1_rep c _ ?_ n
  intro p hp e
  have h2 := runsOf_head (L.drop K)
  rw [hp] at h2
  simp only [Option.map_some] at h2
  have h3 : L[K]? = some p.1 := by
    rw [h2, List.head?_drop]
  exact hne _ h3 e.symm
theorem run_more {L : List UInt8} {i K : Nat} {c : UInt8} (h : L.drop i = List.replicate (K - i) c ++ L.drop K) (hiK : i ≤ K) (hc : L[K]? = some c) : L.drop i = List.replicate (K + 1 - i) c ++ L.drop (K + 1) := by
  obtain ⟨hk, he⟩ := List.getElem?_eq_some_iff.1 hc
  rw [h, List.drop_eq_getElem_cons hk, he, show K + 1 - i = (K - i) + 1 by omega, List.replicate_succ']
  simp
structure FRel (w wr : World) (v : Value) (rs : List R) (L : List UInt8) (i : Nat) : Prop where
  own : wr.ownsRow w.heap.size 37 2 v rs.length (rcells (ofN rs))
  below : Below w.heap.size w wr
  eq : rs ++ runsOf (L.drop i) = runsOf L
  len : rs.length ≤ i
set_option maxRecDepth 100000 in
set_option maxHeartbeats 2000000 in
theorem refruns_any (s : ByteArray) (w : World) (hs : s.size ≤ 1000) :
    Calls Tryd.prog 5 #[.string s] w fun e w' => ∃ A cap, e = .returned (.slice A (runsOf s.data.toList).length cap) ∧ w'.ownsRow w.heap.size 37 2 (.slice A (runsOf s.data.toList).length cap) (runsOf s.data.toList).length (rcells (ofN (runsOf s.data.toList))) ∧ Below w.heap.size w w' := by
  obtain ⟨i0, hi, hz0, hz1, hz2⟩ := info_parts infoK
  obtain ⟨L, hLL⟩ : ∃ L, L = s.data.toList := ⟨_, rfl⟩
  have hL : L.length = s.size := by rw [hLL]; simp
  have hget : ∀ (k : Nat) (hk : k < s.size), L[k]? = some s[k] := by
    intro k hk
    subst hLL
    rw [List.getElem?_eq_getElem (by omega)]; rfl
  rw [← hLL]
  have HL := Lib.hid hL; have HG := Lib.hid hget
  clear hL hget hLL
  go_enter Tryd.func5, Tryd.ntmps5
  go_wp2
  go_loopw [3, 4] (fun v i wr => ∃ (k : Nat) (v0 : Value) (rs : List R), k ≤ s.size ∧ i = .int .i64 k ∧ v0 = v ∧ FRel w wr v0 rs L k) (fun _ i _ => s.size - (intOf i).toNat)
  case atStart => exact ⟨0, _, [], Nat.zero_le _, rfl, rfl, ⟨World.ownsRow_nil _ _ _ _, Below.refl _ _, by simp, Nat.le_refl _⟩⟩
  case round =>
    obtain ⟨i, v, rs, hk, rfl, rfl, hrel⟩ := hrel
    have hlen := hrel.len
    by_cases hlt : i < s.size
    · have HR := Lib.hid hrel
      have q1 := index_at s i s[i] hlt rfl
      have hci := HG.out i hlt
      generalize s[i] = c at *
      have HCI := Lib.hid hci
      have hst := Lib.hid (show L.drop i = List.replicate (i - i) c ++ L.drop i by simp)
      clear hrel hci
      go_wp2
      obtain ⟨wo, hwo⟩ : ∃ wo : World, wo = wr := ⟨_, rfl⟩
      go_loopw [5] (fun k wr => ∃ K : Nat, i ≤ K ∧ K ≤ s.size ∧ k = .int .i64 K ∧ Hid (L.drop i = List.replicate (K - i) c ++ L.drop K) ∧ FRel w wr v rs L i) (fun k _ => s.size - (intOf k).toNat)
      case atStart => exact ⟨i, Nat.le_refl _, hk, rfl, hst, HR.out⟩
      case round =>
        clear HR hst hwo
        obtain ⟨K, hiK, hKs, rfl, HD, hrel⟩ := hrel
        have hbel := hrel.below
        have hsz := hbel.size
        have hown := hrel.own
        by_cases hKl : K < s.size
        · have q2 := index_at s K s[K] hKl rfl
          have hcK := HG.out K hKl
          generalize s[K] = x at *
          have g1 : (K : Int) < (s.size : Int) := by omega
          by_cases hxc : x = c
          · have heq : ((x.toNat : Int) == (c.toNat : Int)) = true := by rw [hxc]; simp
            have HN := Lib.hid (run_more HD.out hiK (by rw [hcK, hxc]))
            have HR := Lib.hid hrel
            clear hrel hcK hxc HD hown
            go_wp2
            go_quiet (fail)
            go_wp2
            go_roundw
            case rel => exact ⟨K + 1, by omega, by omega, by go_num, HN, ⟨HR.out.own, bdrew hbel _, HR.out.eq, HR.out.len⟩⟩
            case measure => simp [intOf]; omega
          · have hiK2 : i < K := by
              rcases Nat.lt_or_ge i K with h | h
              · exact h
              · obtain rfl : i = K := by omega
                rw [HCI.out] at hcK
                exact absurd (Option.some.inj hcK).symm hxc
            have heq : ((x.toNat : Int) == (c.toNat : Int)) = false := by
              have : ¬ x.toNat = c.toNat := fun h => hxc (UInt8.toNat_inj.1 h)
              rw [beq_eq_false_iff_ne]; omega
            have hnew := drop_run HD.out hiK2 (fun y hy => by rw [hcK] at hy; rw [← Option.some.inj hy]; exact hxc)
            have hE := hrel.eq
            rw [hnew] at hE
            have HE := Lib.hid hE
            obtain ⟨D, hD⟩ : ∃ D, K - i = D := ⟨_, rfl⟩
            have wr1 : IntKind.i64.wrap ((K : Int) - (i : Int)) = (D : Int) := by rw [IntWalk.i64_in _ (by omega)]; omega
            have HDD := Lib.hid hD
            clear hrel hcK hxc HD hnew hE hD
            go_wp2
            go_quiet (fail)
            go_wp2_with (at_builtin; go_must (refine append_own _ rfl _ _ 22 rfl w.heap.size 37 i0 _ 2 16 Tryd.underlying22 hi hz0 hz1 hz2 rfl (by decide) _ _ _ rfl ((show (wr.drewN nq).ownsRow w.heap.size 37 2 v rs.length (rcells (ofN rs)) from hown).alloc _) ⟨wr.heap.size, 0, none⟩ 1 1 [.int .u8 (c.toNat : Int), .int .i64 (D : Int)] rfl rfl (cell_two_new _ _ _ _) (two_oneCell _ _) (by unfold maxLen; omega) (by omega) (by simp; omega) (by decide) ?_); intro g2 cap2 w2 hown2 hg2 hg2' hgrow2)
            have hd := HDD.out
            refine ⟨⟨K, _, rs ++ [(c, D)], hKs, rfl, rfl, ⟨?_, ((bdrew hbel _).alloc hsz _).grown hgrow2 (by simp; omega) (fun j hj => (hown.lt j hj).1), ?_, ?_⟩⟩, by simp [intOf]; omega⟩
            · rw [List.length_append, List.length_singleton, ofN_append, rcells_append]; exact hown2
            · rw [List.append_assoc, ← hd]; exact HE.out
            · rw [List.length_append, List.length_singleton]; omega
        · obtain rfl : K = s.size := by omega
          have hnew := drop_run HD.out hlt (fun y hy => by
            have := (List.getElem?_eq_some_iff.1 hy).1
            have := HL.out
            omega)
          have hE := hrel.eq
          rw [hnew] at hE
          have HE := Lib.hid hE
          obtain ⟨D, hD⟩ : ∃ D, s.size - i = D := ⟨_, rfl⟩
          have wr1 : IntKind.i64.wrap ((s.size : Int) - (i : Int)) = (D : Int) := by rw [IntWalk.i64_in _ (by omega)]; omega
          have HDD := Lib.hid hD
          clear hrel HD hnew hE hD
          go_wp2
          go_quiet (fail)
          go_wp2_with (at_builtin; go_must (refine append_own _ rfl _ _ 22 rfl w.heap.size 37 i0 _ 2 16 Tryd.underlying22 hi hz0 hz1 hz2 rfl (by decide) _ _ _ rfl ((show (wr.drewN nq).ownsRow w.heap.size 37 2 v rs.length (rcells (ofN rs)) from hown).alloc _) ⟨wr.heap.size, 0, none⟩ 1 1 [.int .u8 (c.toNat : Int), .int .i64 (D : Int)] rfl rfl (cell_two_new _ _ _ _) (two_oneCell _ _) (by unfold maxLen; omega) (by omega) (by simp; omega) (by decide) ?_); intro g2 cap2 w2 hown2 hg2 hg2' hgrow2)
          have hd := HDD.out
          refine ⟨⟨s.size, _, rs ++ [(c, D)], hKs, rfl, rfl, ⟨?_, ((bdrew hbel _).alloc hsz _).grown hgrow2 (by simp; omega) (fun j hj => (hown.lt j hj).1), ?_, ?_⟩⟩, by simp [intOf]; omega⟩
          · rw [List.length_append, List.length_singleton, ofN_append, rcells_append]; exact hown2
          · rw [List.append_assoc, ← hd]; exact HE.out
          · rw [List.length_append, List.length_singleton]; omega
    · obtain rfl : i = s.size := by omega
      have hE := hrel.eq
      rw [List.drop_of_length_le (by rw [HL.out]; exact Nat.le_refl _)] at hE
      have hE' : rs = runsOf L := by simpa [runsOf] using hE
      have hbel := hrel.below
      have hown := hrel.own
      obtain ⟨A, cap, e⟩ := own_slice hown
      subst e
      have HO := Lib.hid hown
      have HE := Lib.hid hE'
      clear hrel hown hE hE'
      go_wp2
      go_ret
      rw [← HE.out]
      exact ⟨A, cap, rfl, HO.out, hbel⟩

structure URel (w wr : World) (v : Value) (l : List Z) (k : Nat) (prev : Option UInt8) (out : List UInt8) : Prop where
  own : wr.ownsRow w.heap.size 5 1 v out.length (u8s out)
  below : Below w.heap.size w wr
  len : out.length ≤ 1000
  rd : rd none [] l = rd prev out (l.drop k)
  prev : (k = 0 ∧ prev = none) ∨ ∃ j p, k = j + 1 ∧ l[j]? = some p ∧ prev = some p.1
end Go.Proofs.YtcllehdlfalamaaDoor.Rn
