/-
  The walk of turn.Least: where the least turn of a text begins.
-/
import Derived.Test.YtfjjjkfldekooaaTlMin
import Derived.Test.YtfjjjkfldekooaaWhLaw
import Derived.Deep.LoopGhost
namespace Go.Proofs.Ytfjjjkfldekooaa
open Go.RowKit
set_option linter.unusedVariables false
set_option linter.unusedSimpArgs false

/-- there is a least turn: the first in order -/
theorem least_exists (s : ByteArray) (h0 : 0 < s.size) : ∃ p0, p0 < s.size ∧ (turnsB s)[0]? = some (trn s p0) ∧ ∀ q, ¬ Lt (bs s) q p0 := by
  obtain ⟨u, hu⟩ : ∃ u, (turnsB s)[0]? = some u := ⟨_, List.getElem?_eq_getElem (by rw [turnsB_length]; exact h0)⟩
  obtain ⟨i, hi, hiu⟩ := (turnsB_mem s u).1 (List.mem_of_getElem? hu)
  refine ⟨i, hi, by rw [hu, hiu], fun q hq => ?_⟩
  have hl : (bs s).length = s.size := bs_length s
  have hq2 := hq.mod
  have hqn : q % (bs s).length < (bs s).length := Nat.mod_lt _ (by omega)
  have hb := hq2.bef hqn (by omega)
  have hmem : rotL (bs s) (q % (bs s).length) ∈ turnsL s := (turnsL_perm s).mem_iff.2 (List.mem_map.2 ⟨_, List.mem_range.2 hqn, rfl⟩)
  obtain ⟨j, hj, hjx⟩ := List.getElem_of_mem hmem
  have h0' : (turnsL s)[0]? = some (rotL (bs s) i) := by
    unfold turnsL
    rw [List.getElem?_map, hu, ← hiu]
    show some (bs (trn s i)) = _
    rw [bs_trn]
  have hle : leL (rotL (bs s) i) (rotL (bs s) (q % (bs s).length)) := by
    have hlen : 0 < (turnsL s).length := by rw [turnsL_length]; exact h0
    have e0 : (turnsL s)[0] = rotL (bs s) i := by
      rw [List.getElem?_eq_getElem hlen] at h0'
      exact Option.some.inj h0'
    by_cases e : j = 0
    · subst e
      rw [← hjx, e0]
      exact leL_refl _
    · have := List.pairwise_iff_getElem.1 (turnsL_sorted s) 0 j hlen hj (by omega)
      rw [e0, hjx] at this
      exact this
  unfold leL at hle
  rw [hb] at hle
  cases hle
/-- the least turn is the first in order -/
theorem least_first (s : ByteArray) (h0 : 0 < s.size) {c : Nat} (hc : c < s.size) (h : ∀ q, ¬ Lt (bs s) q c) : (turnsB s)[0]? = some (trn s c) := by
  obtain ⟨p0, hp, hp1, hp2⟩ := least_exists s h0
  have hl : (bs s).length = s.size := bs_length s
  rw [hp1]
  congr 1
  apply bs_inj
  rw [bs_trn, bs_trn]
  refine bef_total _ _ ?_ ?_
  · cases hb : bef (rotL (bs s) p0) (rotL (bs s) c)
    · rfl
    · exact (h p0 (Lt.of_bef (by omega) (by omega) hb)).elim
  · cases hb : bef (rotL (bs s) c) (rotL (bs s) p0)
    · rfl
    · exact (hp2 c (Lt.of_bef (by omega) (by omega) hb)).elim
theorem rb_index (s : ByteArray) (y p : Nat) (hp : p = y % s.size) (h0 : 0 < s.size) (W : World) : (Instr.index 9 (.string s) (.int .i64 (p : Int))).run Try.prog W = .ok (.int .u8 ((rb (bs s) y : Nat) : Int)) W := by
  have hlt : p < s.size := by rw [hp]; exact Nat.mod_lt _ h0
  rw [index_byN s p hlt W]
  unfold rb
  rw [bs_length, ← hp]

set_option maxHeartbeats 6000000 in
set_option maxRecDepth 100000 in
theorem least_any (s : ByteArray) (w : World) (hs : s.size ≤ 24) (h0 : 0 < s.size) :
    Calls Try.prog 19 #[.string s] w fun e w' => (∃ c : Nat, e = .returned (.tuple #[.int .i64 (c : Int), .nilIface]) ∧ c < s.size ∧ ∀ q, ¬ Lt (bs s) q c) ∧ Below w.heap.size w w' := by
  have kk : (s.size : Int) ≤ 24 := by omega
  obtain ⟨p0, hp0, _, hp2⟩ := least_exists s h0
  have HP := Lib.hid (show p0 < s.size ∧ ∀ q, ¬ Lt (bs s) q p0 from ⟨hp0, hp2⟩)
  have kn : ¬ (s.size : Int) = 0 := by omega
  have kn2 : ((s.size : Int) == 0) = false := beq_eq_false_iff_ne.2 kn
  clear hp0 hp2
  go_enter Try.func19, Try.ntmps19
  go_wp2_with fail
  refine (long1_ok s _ 24 _ (by simp) kk).mono ?_
  rintro e w1 ⟨rfl, rfl⟩
  go_wp2_with fail
  have hb0 : Below w.heap.size w (w.alloc (.cells #[.string s] 9)) := bnew w _
  generalize w.alloc (.cells #[.string s] 9) = W0 at *
  go_loopg [5, 6, 7] 100000 (fun g v5 v6 v7 wr => ∃ i j k : Nat, (200 - (i + j)) * 30 + (s.size - k) ≤ g ∧ v5 = .int .i64 (i : Int) ∧ v6 = .int .i64 (j : Int) ∧ v7 = .int .i64 (k : Int) ∧ i ≤ 50 ∧ j ≤ 50 ∧ k ≤ s.size ∧ Hid (Cand (bs s) i j k) ∧ Below w.heap.size w wr)
  case atStart => exact ⟨0, 1, 0, by omega, rfl, rfl, rfl, by omega, by omega, by omega, Lib.hid (Cand.start (by rw [bs_length]; exact h0)), hb0⟩
  case round =>
    obtain ⟨i, j, k, hg, rfl, rfl, rfl, hi, hj, hk, HC, hb⟩ := hrel
    clear hb0
    have hlen : (bs s).length = s.size := bs_length s
    have HLEN := Lib.hid hlen
    clear hlen
    by_cases hin : i < s.size ∧ j < s.size ∧ k < s.size
    · obtain ⟨h1, h2, h3⟩ := hin
      have k1 : (i : Int) < (s.size : Int) := by omega
      have k2 : (j : Int) < (s.size : Int) := by omega
      have k3 : (k : Int) < (s.size : Int) := by omega
      have e1 : IntKind.i64.wrap ((i : Int) + (k : Int)) = (i : Int) + (k : Int) := IntWalk.i64_in _ (by omega)
      have e2 : IntKind.i64.wrap ((j : Int) + (k : Int)) = (j : Int) + (k : Int) := IntWalk.i64_in _ (by omega)
      obtain ⟨p, hp⟩ : ∃ p, p = (i + k) % s.size := ⟨_, rfl⟩
      obtain ⟨q, hq⟩ : ∃ q, q = (j + k) % s.size := ⟨_, rfl⟩
      have m1 : ((i : Int) + (k : Int)).tmod (s.size : Int) = (p : Int) := by rw [← Int.natCast_add, ← Int.ofNat_tmod, hp]
      have m2 : ((j : Int) + (k : Int)).tmod (s.size : Int) = (q : Int) := by rw [← Int.natCast_add, ← Int.ofNat_tmod, hq]
      have hp1 : p < s.size := by rw [hp]; exact Nat.mod_lt _ h0
      have hq1 : q < s.size := by rw [hq]; exact Nat.mod_lt _ h0
      have e3 : IntKind.i64.wrap (p : Int) = (p : Int) := IntWalk.i64_in _ (by omega)
      have e4 : IntKind.i64.wrap (q : Int) = (q : Int) := IntWalk.i64_in _ (by omega)
      have kp : (p : Int) < (s.size : Int) := by omega
      have kq : (q : Int) < (s.size : Int) := by omega
      obtain ⟨A, hA⟩ : ∃ A, A = rb (bs s) (i + k) := ⟨_, rfl⟩
      obtain ⟨B, hB⟩ : ∃ B, B = rb (bs s) (j + k) := ⟨_, rfl⟩
      have x1 := fun W => rb_index s (i + k) p hp h0 W
      have x2 := fun W => rb_index s (j + k) q hq h0 W
      rw [← hA] at x1
      rw [← hB] at x2
      have e5 : IntKind.i64.wrap ((k : Int) + 1) = (k : Int) + 1 := IntWalk.i64_in _ (by omega)
      have e8 : IntKind.i64.wrap ((j : Int) + 1) = (j : Int) + 1 := IntWalk.i64_in _ (by omega)
      have HA := Lib.hid hA; have HB := Lib.hid hB
      clear hA hB hp hq
      rcases Nat.lt_trichotomy A B with hlt | heq | hgt
      · have c1 : ((A : Int) == (B : Int)) = false := beq_eq_false_iff_ne.2 (by omega)
        have c2 : ¬ (B : Int) < (A : Int) := by omega
        have HJ := Lib.hid (show rb (bs s) (i + k) < rb (bs s) (j + k) by rw [← HA.out, ← HB.out]; exact hlt)
        by_cases hij : j + k + 1 = i
        · have e7 : IntKind.i64.wrap ((j : Int) + ((k : Int) + 1)) = (i : Int) := by rw [IntWalk.i64_in _ (by omega)]; omega
          have e9 : IntKind.i64.wrap ((i : Int) + 1) = (i : Int) + 1 := IntWalk.i64_in _ (by omega)
          have HN := Lib.hid (HC.out.symm.jump2 (by rw [HLEN.out]; exact h1) (by rw [HLEN.out]; exact h3) HJ.out hij)
          have HIJ := Lib.hid hij
          clear hij
          go_wp2
          go_quiet (fail)
          go_wp2
          have hij := HIJ.out
          go_roundg ((200 - (i + (i + 1))) * 30 + s.size)
          case measure => omega
          case rel => exact ⟨i, i + 1, 0, by omega, rfl, by go_num, rfl, by omega, by omega, by omega, HN, bdrew hb _⟩
        · have HN := Lib.hid (HC.out.symm.jump (by rw [HLEN.out]; exact h1) (by rw [HLEN.out]; exact h3) HJ.out hij).symm
          obtain ⟨z, hz⟩ : ∃ z, z = j + k + 1 := ⟨_, rfl⟩
          have e7 : IntKind.i64.wrap ((j : Int) + ((k : Int) + 1)) = (z : Int) := by rw [IntWalk.i64_in _ (by omega)]; omega
          have c3 : ((i : Int) == (z : Int)) = false := beq_eq_false_iff_ne.2 (by omega)
          rw [← hz] at HN
          have HZ := Lib.hid hz
          clear hz hij
          go_wp2
          go_quiet (fail)
          go_wp2
          have hz := HZ.out
          go_roundg ((200 - (i + z)) * 30 + s.size)
          case measure => omega
          case rel => exact ⟨i, z, 0, by omega, rfl, rfl, rfl, by omega, by omega, by omega, HN, bdrew hb _⟩
      · have c1 : ((A : Int) == (B : Int)) = true := by simp; omega
        have HN := Lib.hid (HC.out.next (show rb (bs s) (i + k) = rb (bs s) (j + k) by rw [← HA.out, ← HB.out]; exact heq))
        clear heq
        go_wp2
        go_quiet (fail)
        go_wp2
        go_roundg ((200 - (i + j)) * 30 + (s.size - (k + 1)))
        case measure => omega
        case rel => exact ⟨i, j, k + 1, by omega, rfl, rfl, by go_num, by omega, by omega, by omega, HN, bdrew hb _⟩
      · have c1 : ((A : Int) == (B : Int)) = false := beq_eq_false_iff_ne.2 (by omega)
        have c2 : (B : Int) < (A : Int) := by omega
        have HJ := Lib.hid (show rb (bs s) (j + k) < rb (bs s) (i + k) by rw [← HA.out, ← HB.out]; exact hgt)
        by_cases hij : i + k + 1 = j
        · have e6 : IntKind.i64.wrap ((i : Int) + ((k : Int) + 1)) = (j : Int) := by rw [IntWalk.i64_in _ (by omega)]; omega
          have HN := Lib.hid (HC.out.jump2 (by rw [HLEN.out]; exact h2) (by rw [HLEN.out]; exact h3) HJ.out hij)
          have HIJ := Lib.hid hij
          clear hij
          go_wp2
          go_quiet (fail)
          go_wp2
          have hij := HIJ.out
          go_roundg ((200 - (j + (j + 1))) * 30 + s.size)
          case measure => omega
          case rel => exact ⟨j, j + 1, 0, by omega, rfl, by go_num, rfl, by omega, by omega, by omega, HN, bdrew hb _⟩
        · have HN := Lib.hid (HC.out.jump (by rw [HLEN.out]; exact h2) (by rw [HLEN.out]; exact h3) HJ.out hij)
          obtain ⟨z, hz⟩ : ∃ z, z = i + k + 1 := ⟨_, rfl⟩
          have e6 : IntKind.i64.wrap ((i : Int) + ((k : Int) + 1)) = (z : Int) := by rw [IntWalk.i64_in _ (by omega)]; omega
          have c3 : ((z : Int) == (j : Int)) = false := beq_eq_false_iff_ne.2 (by omega)
          rw [← hz] at HN
          have HZ := Lib.hid hz
          clear hz hij
          go_wp2
          go_quiet (fail)
          go_wp2
          have hz := HZ.out
          go_roundg ((200 - (z + j)) * 30 + s.size)
          case measure => omega
          case rel => exact ⟨z, j, 0, by omega, rfl, rfl, rfl, by omega, by omega, by omega, HN, bdrew hb _⟩
    · have HE : Hid (min i j < s.size ∧ ∀ q, ¬ Lt (bs s) q (min i j)) := Lib.hid (by
        have hc := HC.out
        have hl := HLEN.out
        have hlt := hc.lt
        refine ⟨by omega, ?_⟩
        by_cases hij : i < s.size ∧ j < s.size
        · exact hc.full (by omega) (by omega) HP.out.2
        · rw [hc.out (by omega) (by rw [hl]; exact HP.out.1) HP.out.2]
          exact HP.out.2)
      have km : min (i : Int) (j : Int) = ((min i j : Nat) : Int) := by omega
      obtain ⟨c, hc⟩ : ∃ c, c = min i j := ⟨_, rfl⟩
      rw [← hc] at HE km
      clear hc
      by_cases h1 : i < s.size
      · have k1 : (i : Int) < (s.size : Int) := by omega
        by_cases h2 : j < s.size
        · have k2 : (j : Int) < (s.size : Int) := by omega
          have k3 : ¬ (k : Int) < (s.size : Int) := by omega
          clear hin
          go_wp2
          go_ret2
          exact ⟨⟨c, rfl, HE.out⟩, hb⟩
        · have k2 : ¬ (j : Int) < (s.size : Int) := by omega
          clear hin
          go_wp2
          go_ret2
          exact ⟨⟨c, rfl, HE.out⟩, hb⟩
      · have k1 : ¬ (i : Int) < (s.size : Int) := by omega
        clear hin
        go_wp2
        go_ret2
        exact ⟨⟨c, rfl, HE.out⟩, hb⟩
end Go.Proofs.Ytfjjjkfldekooaa
