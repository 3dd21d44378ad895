/-
  Plain: the longest text ahead with which the rest without its last sign begins is what the machine of lempel.Write comes to.
-/
import Derived.Test.YtacmkogdfienmaaDoorLpPlain
namespace Go.Proofs.YtacmkogdfienmaaDoor.Lp

theorem texts_ne_nil {l : List Pc} {b : Nat} (h : b < l.length) (hv : Valid l) : ∃ p, l[b]? = some p ∧ p.1 ≤ b ∧ (texts l).getD (b + 1) [] = (texts l).getD p.1 [] ++ [p.2] := by
  obtain ⟨p, hp⟩ : ∃ p, l[b]? = some p := ⟨_, List.getElem?_eq_getElem h⟩
  refine ⟨p, hp, hv b p hp, ?_⟩
  have := texts_get hv hp
  rw [List.getD_eq_getElem?_getD, this]; rfl

theorem nodup_inj {l : List Pc} (hn : l.Nodup) {i j : Nat} {p : Pc} (hi : l[i]? = some p) (hj : l[j]? = some p) : i = j := by
  obtain ⟨h1, e1⟩ := List.getElem?_eq_some_iff.1 hi
  obtain ⟨h2, e2⟩ := List.getElem?_eq_some_iff.1 hj
  have h := List.pairwise_iff_getElem.1 hn
  rcases Nat.lt_trichotomy i j with hlt | he | hlt
  · exact absurd (e1.trans e2.symm) (h i j h1 h2 hlt)
  · exact he
  · exact absurd (e2.trans e1.symm) (h j i h2 h1 hlt)

theorem texts_inj {l : List Pc} (hv : Valid l) (hn : l.Nodup) : ∀ (n b c : Nat), b ≤ l.length → c ≤ l.length → ((texts l).getD b []).length = n → (texts l).getD b [] = (texts l).getD c [] → b = c := by
  intro n
  induction n with
  | zero =>
    intro b c hb hc hl he
    have hz : ∀ b, b ≤ l.length → ((texts l).getD b []).length = 0 → b = 0 := by
      intro b hb hl
      cases b with
      | zero => rfl
      | succ b =>
        obtain ⟨p, _, _, h⟩ := texts_ne_nil (l := l) (b := b) (by omega) hv
        rw [h] at hl; simp at hl
    rw [hz b hb hl, hz c hc (by rw [← he]; exact hl)]
  | succ n ih =>
    intro b c hb hc hl he
    have hz : ∀ b, ((texts l).getD b []).length = n + 1 → b ≠ 0 := by
      intro b hl e
      rw [e, getD_zero] at hl; simp at hl
    cases b with
    | zero => exact absurd rfl (hz 0 hl)
    | succ b =>
      cases c with
      | zero => exact absurd rfl (hz 0 (by rw [← he]; exact hl))
      | succ c =>
        obtain ⟨p, hp, hpl, hpe⟩ := texts_ne_nil (l := l) (b := b) (by omega) hv
        obtain ⟨q, hq, hql, hqe⟩ := texts_ne_nil (l := l) (b := c) (by omega) hv
        rw [hpe, hqe] at he
        rw [hpe] at hl
        simp at hl
        have h1 := List.append_inj' he rfl
        have h2 := ih p.1 q.1 (by omega) (by omega) (by simpa [List.getD_eq_getElem?_getD] using hl) h1.1
        have h3 : p.2 = q.2 := by simpa using h1.2
        have : p = q := Prod.ext h2 h3
        subst this
        rw [nodup_inj hn hp hq]

/-- every beginning of a text is a text -/
theorem texts_closed {l : List Pc} (hv : Valid l) : ∀ (b : Nat), b ≤ l.length → ∀ j, j ≤ ((texts l).getD b []).length → ∃ c, c ≤ b ∧ (texts l).getD c [] = ((texts l).getD b []).take j := by
  intro b
  induction b using Nat.strongRecOn with
  | _ b ih =>
    intro hb j hj
    cases b with
    | zero => exact ⟨0, Nat.le_refl _, by rw [getD_zero] at hj ⊢; simp⟩
    | succ b =>
      obtain ⟨p, hp, hpl, hpe⟩ := texts_ne_nil (l := l) (b := b) (by omega) hv
      by_cases he : j = ((texts l).getD (b + 1) []).length
      · exact ⟨b + 1, Nat.le_refl _, by rw [he, List.take_length]⟩
      · rw [hpe] at hj he ⊢
        rw [List.length_append, List.length_singleton] at hj he
        obtain ⟨c, hc, hce⟩ := ih p.1 (by omega) (by omega) j (by omega)
        exact ⟨c, by omega, by rw [hce, List.take_append_of_le_length (by omega)]⟩

theorem take_get (r : List UInt8) (j : Nat) (h : j < r.length) : r.take (j + 1) = r.take j ++ [r.getD j 0] := by
  rw [List.take_succ_eq_append_getElem h]; simp [List.getD_eq_getElem?_getD, h]
theorem drop_getD (s : List UInt8) (k j : Nat) : (s.drop k).getD j 0 = s.getD (k + j) 0 := by
  simp [List.getD_eq_getElem?_getD, List.getElem?_drop]

/-- the machine from a piece's beginning to its end -/
theorem machine (s : List UInt8) (k : Nat) (l : List Pc) (hv : Valid l) : ∀ (m j a : Nat), k + j + m + 1 = s.length → st s (k + j) = (a, l) → a ≤ l.length → (texts l).getD a [] = (s.drop k).take j →
    ∃ j' a', k + j' < s.length ∧ a' ≤ l.length ∧ (texts l).getD a' [] = (s.drop k).take j' ∧ st s (k + j' + 1) = (0, l ++ [(a', s.getD (k + j') 0)]) ∧ ((a', s.getD (k + j') 0) ∉ l ∨ k + j' + 1 = s.length) := by
  intro m
  induction m with
  | zero =>
    intro j a hm hst ha ht
    refine ⟨j, a, by omega, ha, ht, ?_, Or.inr (by omega)⟩
    show step _ (st s (k + j)) _ = _
    rw [hst, step_last (by omega)]
  | succ m ih =>
    intro j a hm hst ha ht
    by_cases hin : (a, s.getD (k + j) 0) ∈ l
    · have hc : l.contains (a, s.getD (k + j) 0) = true := by simpa using hin
      have hlt := List.idxOf_lt_length_of_mem hin
      have hg := texts_get hv (idxOf_get hin)
      obtain ⟨j', a', h⟩ := ih (j + 1) (l.idxOf (a, s.getD (k + j) 0) + 1) (by omega) (by
        show step (decide (s.length ≤ (k + j) + 1)) (st s (k + j)) (s.getD (k + j) 0) = _
        rw [hst, step_keep hc (by omega)]) (by omega) (by
        rw [take_get _ _ (by rw [List.length_drop]; omega), ← ht, drop_getD, List.getD_eq_getElem?_getD, hg]
        simp)
      exact ⟨j', a', h⟩
    · refine ⟨j, a, by omega, ha, ht, ?_, Or.inl hin⟩
      have hc : l.contains (a, s.getD (k + j) 0) = false := by simpa using hin
      show step _ (st s (k + j)) _ = _
      rw [hst, step_new hc]

/-- the longest text with which x begins, by the first place -/
def best (x : List UInt8) (ts : List (List UInt8)) : Nat → Nat
  | 0 => 0
  | i + 1 => if (ts.getD i []).isPrefixOf x && decide ((ts.getD (best x ts i) []).length < (ts.getD i []).length) then i else best x ts i

theorem best_spec (x : List UInt8) (ts : List (List UInt8)) (h0 : ts.getD 0 [] = []) (hl : 0 < ts.length) : ∀ i, i ≤ ts.length → best x ts i < ts.length ∧ (ts.getD (best x ts i) []) <+: x ∧ ∀ j, j < i → ts.getD j [] <+: x → (ts.getD j []).length ≤ (ts.getD (best x ts i) []).length := by
  intro i
  induction i with
  | zero => intro _; exact ⟨hl, by show ts.getD 0 [] <+: x; rw [h0]; exact List.nil_prefix, fun j hj => by omega⟩
  | succ i ih =>
    intro hi
    obtain ⟨h1, h2, h3⟩ := ih (by omega)
    rw [best]
    split
    · rename_i hc
      rw [Bool.and_eq_true, decide_eq_true_iff, List.isPrefixOf_iff_prefix] at hc
      refine ⟨by omega, hc.1, fun j hj hp => ?_⟩
      rcases Nat.lt_succ_iff_lt_or_eq.1 hj with hj | rfl
      · have := h3 j hj hp; omega
      · exact Nat.le_refl _
    · rename_i hc
      refine ⟨h1, h2, fun j hj hp => ?_⟩
      rcases Nat.lt_succ_iff_lt_or_eq.1 hj with hj | rfl
      · exact h3 j hj hp
      · simp only [Bool.and_eq_true, decide_eq_true_iff, List.isPrefixOf_iff_prefix] at hc
        exact Nat.le_of_not_lt fun h => hc ⟨hp, h⟩

theorem next_piece (s : List UInt8) (k : Nat) (hk : k < s.length) (h0 : (st s k).1 = 0) :
    ∃ b j, b = best ((s.drop k).dropLast) (texts (st s k).2) (texts (st s k).2).length ∧ b ≤ (st s k).2.length ∧ (texts (st s k).2).getD b [] = (s.drop k).take j ∧ k + j < s.length ∧
      st s (k + j + 1) = (0, (st s k).2 ++ [(b, s.getD (k + j) 0)]) := by
  have H := st_ok s k (by omega)
  have hv := H.valid
  have hn := H.nodup hk
  have hst : st s k = (0, (st s k).2) := Prod.ext h0 rfl
  generalize (st s k).2 = l at *
  obtain ⟨j, a, h1, h2, h3, h4, h5⟩ := machine s k l hv (s.length - 1 - k) 0 0 (by omega) hst (Nat.zero_le _) (by rw [getD_zero]; simp)
  have hlen := texts_length l
  obtain ⟨b1, b2, b3⟩ := best_spec ((s.drop k).dropLast) (texts l) (getD_zero l) (by omega) (texts l).length (Nat.le_refl _)
  generalize hb : best ((s.drop k).dropLast) (texts l) (texts l).length = b at *
  have hrl : (s.drop k).length = s.length - k := List.length_drop
  have hdl : (s.drop k).dropLast = (s.drop k).take (s.length - k - 1) := by rw [List.dropLast_eq_take, hrl]
  have hja : ((texts l).getD a []).length = j := by rw [h3, List.length_take, hrl]; omega
  -- a itself is one of those
  have hap : (texts l).getD a [] <+: (s.drop k).dropLast := by
    rw [h3, hdl]
    exact List.take_prefix_take_left (by omega)
  have hge := b3 a (by omega) hap
  -- b's text is no longer
  have hbt : (texts l).getD b [] = (s.drop k).take ((texts l).getD b []).length := by
    have h := List.prefix_iff_eq_take.1 (b2.trans (List.dropLast_prefix _))
    exact h
  have hble : ((texts l).getD b []).length ≤ s.length - k - 1 := by
    have := b2.length_le
    rw [List.length_dropLast, hrl] at this
    exact this
  have hle : ((texts l).getD b []).length ≤ j := by
    apply Nat.le_of_not_lt
    intro hlt
    rcases h5 with h5 | h5
    · obtain ⟨c, hc, hce⟩ := texts_closed hv b (by omega) (j + 1) (by omega)
      rw [hbt, List.take_take, Nat.min_eq_left (by omega), take_get _ _ (by omega), drop_getD, ← h3] at hce
      cases c with
      | zero => rw [getD_zero] at hce; simp at hce
      | succ c =>
        obtain ⟨p, hp, hpl, hpe⟩ := texts_ne_nil (l := l) (b := c) (by omega) hv
        rw [hpe] at hce
        have e := List.append_inj' hce rfl
        have e1 := texts_inj hv hn _ p.1 a (by omega) h2 rfl e.1
        have e2 : p.2 = s.getD (k + j) 0 := by simpa using e.2
        exact h5 (by rw [← e1, ← e2]; exact List.mem_of_getElem? hp)
    · omega
  have hba : b = a := by
    apply texts_inj hv hn _ b a (by omega) h2 rfl
    rw [hbt, h3]
    rw [show ((texts l).getD b []).length = j by omega]
  refine ⟨b, j, rfl, by omega, by rw [hba, h3], h1, by rw [hba]; exact h4⟩
end Go.Proofs.YtacmkogdfienmaaDoor.Lp
