/-
  Plain: parting a text into Lyndon words (Duval): the last of them begins where the least end does.
-/
import Derived.Test.YtfjjjkfldekooaaTlMin
namespace Go.Proofs.Ytfjjjkfldekooaa
set_option linter.unusedVariables false
set_option linter.unusedSimpArgs false

def sb (x : List UInt8) (p : Nat) : Nat := (byN x p).toNat
/-- the end at q is less than that at p -/
def EndLt (x : List UInt8) (q p : Nat) : Prop := bef (x.drop q) (x.drop p) = true
theorem byN_drop (x : List UInt8) (q e : Nat) : byN (x.drop q) e = byN x (q + e) := by
  unfold byN
  rw [List.getElem?_drop]
theorem EndLt.of {x : List UInt8} {q p e : Nat} (h1 : p + e < x.length) (h2 : q + e ≤ x.length) (h3 : ∀ y, y < e → sb x (q + y) = sb x (p + y)) (h4 : q + e = x.length ∨ sb x (q + e) < sb x (p + e)) : EndLt x q p := by
  refine bef_of _ _ e (by rw [List.length_drop]; omega) (by rw [List.length_drop]; omega) (fun y hy => ?_) ?_
  · rw [byN_drop, byN_drop, toNat_byN]
    exact h3 y hy
  · rcases h4 with h4 | h4
    · exact .inl (by rw [List.length_drop]; omega)
    · refine .inr ?_
      rw [byN_drop, byN_drop]
      exact h4
theorem EndLt.trans {x : List UInt8} {a b c : Nat} (h : EndLt x a b) (h2 : EndLt x b c) : EndLt x a c := bef_trans _ _ _ h h2

/-- what is known within: from i on it goes by d up to j, and its first d are a Lyndon word -/
structure Duv (x : List UInt8) (i j d : Nat) : Prop where
  pos : 0 < d
  le : i + d ≤ j
  per : ∀ y, i + d ≤ y → y < j → sb x y = sb x (y - d)
  lyn : ∀ r, 0 < r → r < d → ∃ e, r + e < d ∧ (∀ y, y < e → sb x (i + y) = sb x (i + r + y)) ∧ sb x (i + e) < sb x (i + r + e)
theorem Duv.start (x : List UInt8) (i : Nat) : Duv x i (i + 1) 1 := ⟨by omega, by omega, fun y h1 h2 => by omega, fun r h1 h2 => by omega⟩
theorem Duv.mul {x : List UInt8} {i j d : Nat} (h : Duv x i j d) (c : Nat) : ∀ y, i ≤ y → y + c * d < j → sb x (y + c * d) = sb x y := by
  induction c with
  | zero => intro y _ _; rw [Nat.zero_mul, Nat.add_zero]
  | succ c ih =>
    intro y hy hlt
    have hp := h.pos
    rw [Nat.succ_mul] at hlt ⊢
    have hcd : 0 ≤ c * d := Nat.zero_le _
    rw [h.per (y + (c * d + d)) (by omega) hlt, show y + (c * d + d) - d = y + c * d by omega]
    exact ih y hy (by omega)
theorem Duv.same {x : List UInt8} {i j d : Nat} (h : Duv x i j d) (he : sb x (j - d) = sb x j) : Duv x i (j + 1) d :=
  ⟨h.pos, by have := h.le; omega, fun y h1 h2 => by
    by_cases e : y = j
    · rw [e]; exact he.symm
    · exact h.per y h1 (by omega), h.lyn⟩
theorem Duv.less {x : List UInt8} {i j d : Nat} (h : Duv x i j d) (hl : sb x (j - d) < sb x j) : Duv x i (j + 1) (j + 1 - i) := by
  have hle := h.le
  have hpos := h.pos
  refine ⟨by omega, by omega, fun y h1 h2 => by omega, ?_⟩
  intro r h1 h2
  obtain ⟨c, r0, hr, hr0⟩ : ∃ c r0, r = c * d + r0 ∧ r0 < d := ⟨r / d, r % d, by rw [Nat.mul_comm]; exact (Nat.div_add_mod r d).symm, Nat.mod_lt _ hpos⟩
  have hmul := h.mul c
  by_cases hz : r0 = 0
  · obtain ⟨c', rfl⟩ : ∃ c', c = c' + 1 := by
      cases c with
      | zero => rw [Nat.zero_mul] at hr; omega
      | succ c => exact ⟨c, rfl⟩
    have hcd : (c' + 1) * d = c' * d + d := Nat.succ_mul c' d
    rw [hcd] at hr
    refine ⟨j - i - r, by omega, fun y hy => ?_, ?_⟩
    · have := hmul (i + y) (by omega) (by rw [hcd]; omega)
      rw [hcd] at this
      rw [← this]
      congr 1
      omega
    · have h5 := h.mul c' (j - r) (by omega) (by omega)
      rw [show i + (j - i - r) = j - r by omega, show i + r + (j - i - r) = j by omega, ← h5, show j - r + c' * d = j - d by omega]
      exact hl
  · obtain ⟨e0, he0, heq, hlt⟩ := h.lyn r0 (by omega) hr0
    by_cases hin : i + r + e0 < j
    · refine ⟨e0, by omega, fun y hy => ?_, ?_⟩
      · rw [heq y hy]
        have := hmul (i + r0 + y) (by omega) (by omega)
        rw [← this]
        congr 1
        omega
      · have := hmul (i + r0 + e0) (by omega) (by omega)
        rw [show i + r + e0 = i + r0 + e0 + c * d by omega, this]
        exact hlt
    · obtain ⟨c', rfl⟩ : ∃ c', c = c' + 1 := by
        cases c with
        | zero => rw [Nat.zero_mul] at hr; omega
        | succ c => exact ⟨c, rfl⟩
      have hcd : (c' + 1) * d = c' * d + d := Nat.succ_mul c' d
      rw [hcd] at hr
      refine ⟨j - i - r, by omega, fun y hy => ?_, ?_⟩
      · rw [heq y (by omega)]
        have := hmul (i + r0 + y) (by omega) (by rw [hcd]; omega)
        rw [hcd] at this
        rw [← this]
        congr 1
        omega
      · have h5 := h.mul c' (i + r0 + (j - i - r)) (by omega) (by omega)
        rw [show i + r0 + (j - i - r) + c' * d = j - d by omega] at h5
        rw [show i + r + (j - i - r) = j by omega]
        have h6 : sb x (i + (j - i - r)) ≤ sb x (i + r0 + (j - i - r)) := by
          by_cases e : j - i - r < e0
          · rw [heq _ e]; exact Nat.le_refl _
          · rw [show j - i - r = e0 by omega]; omega
        omega
/-- the words are cut off: the next place is less than all in them -/
theorem Duv.cut {x : List UInt8} {i j d m : Nat} (h : Duv x i j d) (hj : j ≤ x.length) (hend : j = x.length ∨ sb x j < sb x (j - d)) (hm1 : i + m * d ≤ j) (hm2 : j - d < i + m * d) (hn : i + m * d < x.length) :
    ∀ p, i ≤ p → p < i + m * d → EndLt x (i + m * d) p := by
  intro p hp1 hp2
  have hpos := h.pos
  have hle := h.le
  obtain ⟨c, r, hr, hrd⟩ : ∃ c r, p = i + c * d + r ∧ r < d := ⟨(p - i) / d, (p - i) % d, by have := Nat.div_add_mod (p - i) d; rw [Nat.mul_comm] at this; omega, Nat.mod_lt _ hpos⟩
  have hcm : c < m := by
    rcases Nat.lt_or_ge c m with h1 | h1
    · exact h1
    · have := Nat.mul_le_mul_right d h1
      omega
  have hcm2 : (c + 1) * d ≤ m * d := Nat.mul_le_mul_right d hcm
  rw [Nat.succ_mul] at hcm2
  obtain ⟨m', hm'⟩ : ∃ m', m = m' + 1 := ⟨m - 1, by omega⟩
  have hmd : m * d = m' * d + d := by rw [hm', Nat.succ_mul]
  have hq : ∀ y, i + m * d + y < j → sb x (i + m * d + y) = sb x (i + y) := fun y hy => by
    have := h.mul m (i + y) (by omega) (by omega)
    rw [← this]
    congr 1
    omega
  have hp : ∀ y, p + y < j → sb x (p + y) = sb x (i + r + y) := fun y hy => by
    have := h.mul c (i + r + y) (by omega) (by omega)
    rw [← this]
    congr 1
    omega
  have hjd : sb x (j - d) = sb x (i + (j - (i + m * d))) := by
    have := h.mul m' (i + (j - (i + m * d))) (by omega) (by omega)
    rw [← this]
    congr 1
    omega
  by_cases hz : r = 0
  · subst hz
    refine EndLt.of (e := j - (i + m * d)) (by omega) (by omega) (fun y hy => ?_) ?_
    · rw [hq y (by omega), hp y (by omega), Nat.add_zero]
    · rcases hend with e | e
      · exact .inl (by omega)
      · refine .inr ?_
        rw [hp _ (by omega), Nat.add_zero, ← hjd, show i + m * d + (j - (i + m * d)) = j by omega]
        exact e
  · obtain ⟨e0, he0, heq, hlt⟩ := h.lyn r (by omega) hrd
    by_cases hle0 : e0 < j - (i + m * d)
    · refine EndLt.of (e := e0) (by omega) (by omega) (fun y hy => ?_) (.inr ?_)
      · rw [hq y (by omega), hp y (by omega)]
        exact heq y hy
      · rw [hq e0 (by omega), hp e0 (by omega)]
        exact hlt
    · refine EndLt.of (e := j - (i + m * d)) (by omega) (by omega) (fun y hy => ?_) ?_
      · rw [hq y (by omega), hp y (by omega)]
        exact heq y (by omega)
      · rcases hend with e | e
        · exact .inl (by omega)
        · refine .inr ?_
          rw [hp _ (by omega), show i + m * d + (j - (i + m * d)) = j by omega]
          have h6 : sb x (i + (j - (i + m * d))) ≤ sb x (i + r + (j - (i + m * d))) := by
            by_cases e2 : j - (i + m * d) < e0
            · rw [heq _ e2]; exact Nat.le_refl _
            · rw [show j - (i + m * d) = e0 by omega]; omega
          omega
/-- the last word of a text that goes up -/
theorem Duv.last {x : List UInt8} {i j d m : Nat} (h : Duv x i j d) (hj : j = x.length) (hm : i + m * d = j) : ∀ p, i ≤ p → p < j → p ≠ j - d → EndLt x (j - d) p := by
  intro p hp1 hp2 hne
  have hpos := h.pos
  have hle := h.le
  obtain ⟨c, r, hr, hrd⟩ : ∃ c r, p = i + c * d + r ∧ r < d := ⟨(p - i) / d, (p - i) % d, by have := Nat.div_add_mod (p - i) d; rw [Nat.mul_comm] at this; omega, Nat.mod_lt _ hpos⟩
  have hcm : c < m := by
    rcases Nat.lt_or_ge c m with h1 | h1
    · exact h1
    · have := Nat.mul_le_mul_right d h1
      omega
  have hcm2 : (c + 1) * d ≤ m * d := Nat.mul_le_mul_right d hcm
  rw [Nat.succ_mul] at hcm2
  obtain ⟨m', hm'⟩ : ∃ m', m = m' + 1 := ⟨m - 1, by omega⟩
  have hmd : m * d = m' * d + d := by rw [hm', Nat.succ_mul]
  have hq : ∀ y, y < d → sb x (j - d + y) = sb x (i + y) := fun y hy => by
    have := h.mul m' (i + y) (by omega) (by omega)
    rw [← this]
    congr 1
    omega
  have hp : ∀ y, p + y < j → sb x (p + y) = sb x (i + r + y) := fun y hy => by
    have := h.mul c (i + r + y) (by omega) (by omega)
    rw [← this]
    congr 1
    omega
  by_cases hz : r = 0
  · subst hz
    have hc2 : c < m' := by
      rcases Nat.lt_or_ge c m' with h1 | h1
      · exact h1
      · exfalso
        have : c = m' := by omega
        subst this
        omega
    have hc3 : (c + 1) * d ≤ m' * d := Nat.mul_le_mul_right d hc2
    rw [Nat.succ_mul] at hc3
    refine EndLt.of (e := d) (by omega) (by omega) (fun y hy => ?_) (.inl (by omega))
    rw [hq y hy, hp y (by omega), Nat.add_zero]
  · obtain ⟨e0, he0, heq, hlt⟩ := h.lyn r (by omega) hrd
    refine EndLt.of (e := e0) (by omega) (by omega) (fun y hy => ?_) (.inr ?_)
    · rw [hq y (by omega), hp y (by omega)]
      exact heq y hy
    · rw [hq e0 (by omega), hp e0 (by omega)]
      exact hlt
/-- between words: the place is less than all ahead of it; behind the last: that begins where the least end does -/
def Duo (x : List UInt8) (i : Nat) (l : List Int) : Prop :=
  (i < x.length ∧ ∀ p, p < i → EndLt x i p) ∨ (i = x.length ∧ ∃ d : Nat, l.getLast? = some (d : Int) ∧ 0 < d ∧ d ≤ x.length ∧ ∀ p, p < x.length → p ≠ x.length - d → EndLt x (x.length - d) p)
theorem Duo.start {x : List UInt8} (h : 0 < x.length) : Duo x 0 [] := .inl ⟨h, fun p hp => by omega⟩
theorem Duo.next {x : List UInt8} {i j d m : Nat} {l : List Int} (h : ∀ p, p < i → EndLt x i p) (hd : Duv x i j d) (hj : j ≤ x.length) (hend : j = x.length ∨ sb x j < sb x (j - d)) (hm1 : i + m * d ≤ j) (hm2 : j - d < i + m * d) :
    Duo x (i + m * d) (l ++ List.replicate m (d : Int)) := by
  have hpos := hd.pos
  have hle := hd.le
  have hm0 : 0 < m := by
    rcases Nat.eq_zero_or_pos m with e | e
    · subst e; rw [Nat.zero_mul] at hm2; omega
    · exact e
  have hmd : d ≤ m * d := Nat.le_mul_of_pos_left d hm0
  by_cases hn : i + m * d < x.length
  · refine .inl ⟨hn, fun p hp => ?_⟩
    by_cases h1 : p < i
    · exact (hd.cut hj hend hm1 hm2 hn i (Nat.le_refl _) (by omega)).trans (h p h1)
    · exact hd.cut hj hend hm1 hm2 hn p (by omega) hp
  · have hx : j = x.length := by omega
    have hm3 : i + m * d = j := by omega
    refine .inr ⟨by omega, d, ?_, hpos, by omega, fun p hp hne => ?_⟩
    · obtain ⟨m', rfl⟩ : ∃ m', m = m' + 1 := ⟨m - 1, by omega⟩
      rw [List.replicate_succ', ← List.append_assoc, List.getLast?_concat]
    · have hl := hd.last hx hm3
      rw [hx] at hl
      by_cases h1 : p < i
      · by_cases h2 : i = x.length - d
        · rw [← h2]; exact h p h1
        · exact (hl i (Nat.le_refl _) (by omega) h2).trans (h p h1)
      · exact hl p (by omega) hp hne
end Go.Proofs.Ytfjjjkfldekooaa
