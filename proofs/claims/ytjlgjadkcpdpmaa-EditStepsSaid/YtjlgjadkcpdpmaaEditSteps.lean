/-
  The walk of the law EditSteps: it returns true for every two texts.
-/
import Derived.Test.YtjlgjadkcpdpmaaEdLaw
namespace Go.Proofs.Ytjlgjadkcpdpmaa.Ed
open Go.RowKit
set_option linter.unusedVariables false

/-- what a step's byte tells -/
theorem step_next {a b : List UInt8} {c : UInt8} {r : List UInt8} (h : steps a b = c :: r) :
    (c = 43 ∧ ∃ y b', b = y :: b' ∧ r = steps a b' ∧ lev a b = lev a b' + 1) ∨ (c = 45 ∧ ∃ x a', a = x :: a' ∧ r = steps a' b ∧ lev a b = lev a' b + 1) ∨
    (c = 61 ∧ ∃ x a' b', a = x :: a' ∧ b = x :: b' ∧ r = steps a' b' ∧ lev a b = lev a' b') ∨ (c = 33 ∧ ∃ x y a' b', a = x :: a' ∧ b = y :: b' ∧ x ≠ y ∧ r = steps a' b' ∧ lev a b = lev a' b' + 1) := by
  have hne : ¬ (a = [] ∧ b = []) := by
    rintro ⟨rfl, rfl⟩
    cases h
  rw [steps_unfold a b hne] at h
  cases h1 : subOk a b
  · rw [h1, if_neg (by simp)] at h
    cases h2 : insOk a b
    · rw [h2, if_neg (by simp)] at h
      cases h3 : delOk a b
      · rw [h3, if_neg (by simp)] at h
        injection h with hc hr
        obtain ⟨x, u, v, rfl, rfl⟩ := stay hne h1 h2 h3
        exact .inr (.inr (.inl ⟨hc.symm, x, u, v, rfl, rfl, hr.symm, lev_same x u v⟩))
      · rw [h3, if_pos rfl] at h
        injection h with hc hr
        cases a with
        | nil => cases h3
        | cons x u =>
          have h3' : (lev u b + 1 == lev (x :: u) b) = true := h3
          exact .inr (.inl ⟨hc.symm, x, u, rfl, hr.symm, (beq_iff_eq.1 h3').symm⟩)
    · rw [h2, if_pos rfl] at h
      injection h with hc hr
      cases b with
      | nil => cases a <;> cases h2
      | cons y v =>
        have h2' : (lev a v + 1 == lev a (y :: v)) = true := by cases a <;> exact h2
        exact .inl ⟨hc.symm, y, v, rfl, hr.symm, (beq_iff_eq.1 h2').symm⟩
  · rw [h1, if_pos rfl] at h
    injection h with hc hr
    cases a with
    | nil => cases h1
    | cons x u =>
      cases b with
      | nil => cases h1
      | cons y v =>
        have h1' : (x != y && lev u v + 1 == lev (x :: u) (y :: v)) = true := h1
        rw [Bool.and_eq_true, bne_iff_ne, beq_iff_eq] at h1'
        exact .inr (.inr (.inr ⟨hc.symm, x, y, u, v, rfl, rfl, h1'.1, hr.symm, h1'.2.symm⟩))
theorem steps_end {a b : List UInt8} (h : steps a b = []) : a = [] ∧ b = [] := by
  by_cases hne : a = [] ∧ b = []
  · exact hne
  · rw [steps_unfold a b hne] at h
    split at h
    · cases h
    · split at h
      · cases h
      · split at h <;> cases h
theorem drop_bs {a : ByteArray} {i : Nat} {x : UInt8} {l : List UInt8} (h : (bs a).drop i = x :: l) : ∃ hi : i < a.size, a[i] = x ∧ (bs a).drop (i + 1) = l := by
  have hl : i < (bs a).length := by
    rcases Nat.lt_or_ge i (bs a).length with h0 | h0
    · exact h0
    · rw [List.drop_eq_nil_of_le h0] at h; cases h
  rw [List.drop_eq_getElem_cons hl] at h
  injection h with h1 h2
  exact ⟨by rw [bs_length] at hl; exact hl, h1, h2⟩

/-- the head of a round -/
structure PRel (a b s : ByteArray) (n I J M K : Nat) : Prop where
  script : steps ((bs a).drop I) ((bs b).drop J) = (bs s).drop K
  count : M + lev ((bs a).drop I) ((bs b).drop J) = n
  il : I ≤ a.size
  jl : J ≤ b.size
  kl : K ≤ s.size
  ml : M ≤ K

theorem index_at (s : ByteArray) (K : Nat) (z : UInt8) (h : K < s.size) (hz : s[K] = z) (w : World) : (Instr.index 9 (.string s) (.int .i64 (K : Int))).run Try.prog w = .ok (.int .u8 (z.toNat : Int)) w := by
  rw [run_index_string w _ s _ _ Try.underlying9, dif_pos ⟨by omega, by omega⟩]
  subst hz
  simp

set_option maxHeartbeats 4000000 in
set_option maxRecDepth 100000 in
theorem walkSteps (w : World) (a0 : ByteArray) (s0 : a0.size ≤ 140737488351232) (a1 : ByteArray) (s1 : a1.size ≤ 140737488351232) :
    Calls Try.prog 6 #[.string a0, .string a1] w fun e w' => e = .returned (.bool true) ∧ Below w.heap.size w w' := by
  by_cases hab : a0.size ≤ 24 ∧ a1.size ≤ 24
  · obtain ⟨s, hs⟩ : ∃ s : ByteArray, s = ⟨(steps (bs a0) (bs a1)).toArray⟩ := ⟨_, rfl⟩
    obtain ⟨n, hn⟩ : ∃ n, n = lev (bs a0) (bs a1) := ⟨_, rfl⟩
    have hsl : s.size ≤ 48 := by
      have h := steps_length _ (bs a0) (bs a1) (Nat.le_refl _)
      rw [bs_length, bs_length] at h
      rw [hs]
      show (steps (bs a0) (bs a1)).toArray.size ≤ 48
      simp only [List.size_toArray]
      omega
    have f1 := fun w => steps_ok a0 a1 w hab.1 hab.2
    have f2 := fun w => far_ok a0 a1 w hab.1 hab.2
    rw [← hs] at f1
    rw [show lev a0.data.toList a1.data.toList = n from hn.symm] at f2
    have hP : PRel a0 a1 s n 0 0 0 0 := ⟨by rw [hs]; simp [bs], by rw [hn]; simp, by omega, by omega, by omega, by omega⟩
    have hA0 := hab.1
    have hA1 := hab.2
    clear hab hs hn
    go_enter Try.func6, Try.ntmps6
    go_wp2_with fail
    refine (fact_any _).mono ?_
    rintro e w1 ⟨rfl, hb1⟩
    go_wp2_with fail
    refine (f1 _).mono ?_
    rintro e w2 ⟨rfl, hb2⟩
    go_wp2_with fail
    refine (f2 _).mono ?_
    rintro e w3 ⟨rfl, hb3⟩
    have hb := bnext (bnext hb1 hb2) hb3
    clear hb1 hb2 hb3 f1 f2
    go_wp2_with fail
    go_loopw [9, 10, 11, 12] (fun i j m k wr => ∃ I J M K : Nat, i = .int .i64 I ∧ j = .int .i64 J ∧ m = .int .i64 M ∧ k = .int .i64 K ∧ PRel a0 a1 s n I J M K ∧ Below w.heap.size w wr) (fun _ _ _ k _ => s.size - (intOf k).toNat)
    case atStart => exact ⟨0, 0, 0, 0, rfl, rfl, rfl, rfl, hP, hb⟩
    case round =>
      obtain ⟨I, J, M, K, rfl, rfl, rfl, rfl, hP, hbel⟩ := hrel
      obtain ⟨hscr, hcnt, hil, hjl, hkl, hml⟩ := hP
      by_cases hlt : K < s.size
      · have hK : K < (bs s).length := by rw [bs_length]; exact hlt
        rw [List.drop_eq_getElem_cons hK] at hscr
        have hsk : (bs s)[K] = s[K] := rfl
        rw [hsk] at hscr
        have g1 : (K : Int) < (s.size : Int) := by omega
        have g0 : (0 : Int) ≤ (K : Int) := by omega
        have gi : (0 : Int) ≤ (I : Int) := by omega
        have gj : (0 : Int) ≤ (J : Int) := by omega
        rcases step_next hscr with ⟨hc, y, b', eb, er, el⟩ | ⟨hc, x, a', ea, er, el⟩ | ⟨hc, x, a', b', ea, eb, er, el⟩ | ⟨hc, x, y, a', b', ea, eb, hxy, er, el⟩
        · obtain ⟨hj, hy, e2⟩ := drop_bs eb
          subst e2
          have hP' := Lib.hid (show PRel a0 a1 s n I (J + 1) (M + 1) (K + 1) from ⟨er.symm, by omega, by omega, by omega, by omega, by omega⟩)
          have q : (s[K].toNat : Int) = 43 := by rw [hc]; rfl
          clear hscr hcnt er el eb hy hc hsk hP
          go_wp2
          exact ⟨⟨I, J + 1, M + 1, K + 1, rfl, by go_num, by go_num, by go_num, hP'.out, hbel⟩, by simp [intOf]; omega⟩
        · obtain ⟨hi, hx, e2⟩ := drop_bs ea
          subst e2
          have hP' := Lib.hid (show PRel a0 a1 s n (I + 1) J (M + 1) (K + 1) from ⟨er.symm, by omega, by omega, by omega, by omega, by omega⟩)
          have q : (s[K].toNat : Int) = 45 := by rw [hc]; rfl
          clear hscr hcnt er el ea hx hc hsk hP
          go_wp2
          exact ⟨⟨I + 1, J, M + 1, K + 1, by go_num, rfl, by go_num, by go_num, hP'.out, hbel⟩, by simp [intOf]; omega⟩
        · obtain ⟨hi, hx, e2⟩ := drop_bs ea
          obtain ⟨hj, hy, e3⟩ := drop_bs eb
          subst e2 e3
          have hP' := Lib.hid (show PRel a0 a1 s n (I + 1) (J + 1) M (K + 1) from ⟨er.symm, by omega, by omega, by omega, by omega, by omega⟩)
          have q : (s[K].toNat : Int) = 61 := by rw [hc]; rfl
          have q' : ∀ w, (Instr.index 9 (.string s) (.int .i64 (K : Int))).run Try.prog w = .ok (.int .u8 61) w := fun w => by rw [index_at s K _ hlt hc w]; rfl
          have qa := index_at a0 I x hi hx
          have qb := index_at a1 J x hj hy
          have t1 : ((s[K].toNat : Int) == 61) = true := by rw [hc]; rfl
          have t2 : ((s[K].toNat : Int) == 33) = false := by rw [hc]; rfl
          have t3 : ((s[K].toNat : Int) == 43) = false := by rw [hc]; rfl
          have t4 : ((s[K].toNat : Int) == 45) = false := by rw [hc]; rfl
          have t5 : ((s[K].toNat : Int) != 61) = false := by rw [hc]; rfl
          have g2 : (I : Int) < (a0.size : Int) := by omega
          have g3 : (J : Int) < (a1.size : Int) := by omega
          have r1 : ((x.toNat : Int) == (x.toNat : Int)) = true := by simp
          have r2 : ((x.toNat : Int) != (x.toNat : Int)) = false := by simp
          clear hscr hcnt er el ea eb hx hy hc hsk hP
          go_wp2
          go_quiet (fail)
          go_wp2
          go_roundw
          case rel => exact ⟨I + 1, J + 1, M, K + 1, by go_num, by go_num, rfl, by go_num, hP'.out, bdrew hbel _⟩
          case measure => simp [intOf]; omega
        · obtain ⟨hi, hx, e2⟩ := drop_bs ea
          obtain ⟨hj, hy, e3⟩ := drop_bs eb
          subst e2 e3
          have hP' := Lib.hid (show PRel a0 a1 s n (I + 1) (J + 1) (M + 1) (K + 1) from ⟨er.symm, by omega, by omega, by omega, by omega, by omega⟩)
          have q : (s[K].toNat : Int) = 33 := by rw [hc]; rfl
          have q' : ∀ w, (Instr.index 9 (.string s) (.int .i64 (K : Int))).run Try.prog w = .ok (.int .u8 33) w := fun w => by rw [index_at s K _ hlt hc w]; rfl
          have qa := index_at a0 I x hi hx
          have qb := index_at a1 J y hj hy
          have t1 : ((s[K].toNat : Int) == 33) = true := by rw [hc]; rfl
          have t2 : ((s[K].toNat : Int) == 61) = false := by rw [hc]; rfl
          have t3 : ((s[K].toNat : Int) == 43) = false := by rw [hc]; rfl
          have t4 : ((s[K].toNat : Int) == 45) = false := by rw [hc]; rfl
          have t5 : ((s[K].toNat : Int) != 61) = true := by rw [hc]; rfl
          have g2 : (I : Int) < (a0.size : Int) := by omega
          have g3 : (J : Int) < (a1.size : Int) := by omega
          have hne : ¬ (x.toNat = y.toNat) := fun h => hxy (UInt8.toNat_inj.1 h)
          have r1 : ((x.toNat : Int) == (y.toNat : Int)) = false := by rw [beq_eq_false_iff_ne]; intro h; exact hne (by omega)
          have r2 : ((x.toNat : Int) != (y.toNat : Int)) = true := by rw [bne_iff_ne]; intro h; exact hne (by omega)
          clear hscr hcnt er el ea eb hx hy hxy hc hsk hP
          go_wp2
          go_quiet (fail)
          go_wp2
          go_roundw
          case rel => exact ⟨I + 1, J + 1, M + 1, K + 1, by go_num, by go_num, by go_num, by go_num, hP'.out, bdrew hbel _⟩
          case measure => simp [intOf]; omega
      · have hK : (bs s).length ≤ K := by rw [bs_length]; omega
        rw [List.drop_eq_nil_of_le hK] at hscr
        obtain ⟨e1, e2⟩ := steps_end hscr
        rw [e1, e2] at hcnt
        have hm : M = n := hcnt
        have hI : I = a0.size := by
          have := congrArg List.length e1
          rw [List.length_drop, bs_length] at this
          simp at this
          omega
        have hJ : J = a1.size := by
          have := congrArg List.length e2
          rw [List.length_drop, bs_length] at this
          simp at this
          omega
        subst hm hI hJ
        clear hscr hcnt e1 e2 hP
        go_wp2
        go_ret
        exact ⟨rfl, hbel⟩
  · go_enter Try.func6, Try.ntmps6
    go_wp2_with fail
    refine (fact_any _).mono ?_
    rintro e w1 ⟨rfl, hb1⟩
    go_wp2_with fail
    refine (steps_no a0 a1 _ hab).mono ?_
    rintro e w2 ⟨rfl, hb2⟩
    go_wp2_with fail
    go_ret
    exact ⟨rfl, bnext hb1 hb2⟩
end Go.Proofs.Ytjlgjadkcpdpmaa.Ed
namespace Go.Proofs.Ytjlgjadkcpdpmaa.editSteps
abbrev walk := @Ed.walkSteps
end Go.Proofs.Ytjlgjadkcpdpmaa.editSteps
