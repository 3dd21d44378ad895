/-
  What kraft.Apart's loops keep, in plain lists.
-/
import Derived.Test.YtnaoonegeboflaaKfPut
import Derived.Test.YtnaoonegeboflaaKfUd
namespace Go.Proofs.Ytnaoonegeboflaa.Kf
open Go.RowKit
set_option linter.unusedVariables false
set_option linter.unusedSimpArgs false

theorem nodup_len {β : Type} [DecidableEq β] : ∀ (l m : List β), l.Nodup → (∀ x ∈ l, x ∈ m) → l.length ≤ m.length
  | [], m, _, _ => Nat.zero_le _
  | x :: l, m, hd, hs => by
    have h1 := List.nodup_cons.1 hd
    have hx := hs x (List.mem_cons_self ..)
    have := nodup_len l (m.erase x) h1.2 fun y hy => (List.mem_erase_of_ne (fun (e : y = x) => h1.1 (by rw [← e]; exact hy))).2 (hs y (List.mem_cons_of_mem _ hy))
    rw [List.length_erase_of_mem hx] at this
    have : 0 < m.length := List.length_pos_of_mem hx
    simp only [List.length_cons]
    omega
structure PI (ws : List (List UInt8)) (s : St) : Prop where
  nd : s.1.Nodup
  le : s.2.length ≤ s.1.length
  dg : ∀ z ∈ s.1, Dg ws z
  suf : ∀ z ∈ s.1, ∃ w ∈ ws, ∃ k : Nat, z = w.drop k
  sub : ∀ t ∈ s.2, bs t ∈ s.1
theorem putS_cases (s : St) (long short : ByteArray) : putS s long short = s ∨ ∃ rb : ByteArray, bs long = bs short ++ bs rb ∧ bs rb ∉ s.1 ∧ bs rb = (bs long).drop short.size ∧ putS s long short = (bs rb :: s.1, s.2 ++ [rb]) := by
  unfold putS
  split
  · rename_i hp
    split
    · exact .inl rfl
    · rename_i hm
      refine .inr ⟨long.extract short.size long.size, ?_, ?_, bs_from _ _, ?_⟩
      · rw [bs_from]
        obtain ⟨t, ht⟩ := List.isPrefixOf_iff_prefix.1 hp
        rw [← ht, ← bs_length, List.drop_left]
      · rw [bs_from]; exact hm
      · rw [bs_from]
  · exact .inl rfl
theorem putS_sub (s : St) (long short : ByteArray) {z : List UInt8} (h : z ∈ s.1) : z ∈ (putS s long short).1 := by
  rcases putS_cases s long short with e | ⟨rb, _, _, _, e⟩
  · rw [e]; exact h
  · rw [e]; exact List.mem_cons_of_mem _ h
theorem putS_mem (s : St) (long short : ByteArray) {t : List UInt8} (h : bs long = bs short ++ t) : t ∈ (putS s long short).1 := by
  have hp : (bs short).isPrefixOf (bs long) = true := by rw [h]; exact List.isPrefixOf_iff_prefix.2 (List.prefix_append _ _)
  have hd : (bs long).drop short.size = t := by rw [h, ← bs_length, List.drop_left]
  unfold putS
  rw [if_pos hp, hd]
  split
  · assumption
  · exact List.mem_cons_self ..
theorem putS_pre (s : St) (long short : ByteArray) : ∃ T, (putS s long short).2 = s.2 ++ T := by
  rcases putS_cases s long short with e | ⟨rb, _, _, _, e⟩
  · exact ⟨[], by rw [e]; simp⟩
  · exact ⟨[rb], by rw [e]⟩
/-- how many rounds are to come, at most -/
def msr (s : St) : Nat := 2 * (60 - s.1.length) + s.2.length
theorem putS_msr (s : St) (long short : ByteArray) (h : (putS s long short).1.length ≤ 60) : msr (putS s long short) ≤ msr s := by
  rcases putS_cases s long short with e | ⟨rb, _, _, _, e⟩
  · rw [e]; exact Nat.le_refl _
  · rw [e] at h ⊢
    unfold msr
    simp at h ⊢
    omega
theorem PI.put {ws : List (List UInt8)} {s : St} {long short : ByteArray} (h : PI ws s) (hl : ∃ w ∈ ws, ∃ k : Nat, bs long = w.drop k) (hd : ∀ t, bs long = bs short ++ t → Dg ws t) : PI ws (putS s long short) := by
  rcases putS_cases s long short with e | ⟨rb, e1, e2, e3, e⟩
  · rw [e]; exact h
  · rw [e]
    refine ⟨List.nodup_cons.2 ⟨e2, h.nd⟩, by have := h.le; simp; omega, ?_, ?_, ?_⟩
    · intro z hz
      rcases List.mem_cons.1 hz with rfl | hz
      · exact hd _ e1
      · exact h.dg z hz
    · intro z hz
      rcases List.mem_cons.1 hz with rfl | hz
      · obtain ⟨w, hw, k, hk⟩ := hl
        exact ⟨w, hw, k + short.size, by rw [e3, hk, List.drop_drop]⟩
      · exact h.suf z hz
    · intro t ht
      rcases List.mem_append.1 ht with ht | ht
      · exact List.mem_cons_of_mem _ (h.sub t ht)
      · rw [List.mem_singleton.1 ht]; exact List.mem_cons_self ..
theorem PI.count {ws : List (List UInt8)} {s : St} (h : PI ws s) (h6 : ws.length ≤ 6) (h8 : ∀ w ∈ ws, w.length ≤ 8) : s.1.length ≤ 54 := by
  have := nodup_len s.1 (ws.flatMap fun w => (List.range 9).map fun k => w.drop k) h.nd (by
    intro z hz
    obtain ⟨w, hw, k, hk⟩ := h.suf z hz
    refine List.mem_flatMap.2 ⟨w, hw, List.mem_map.2 ⟨min k 8, List.mem_range.2 (by omega), ?_⟩⟩
    rw [hk]
    rcases Nat.le_total k 8 with h1 | h1
    · rw [Nat.min_eq_left h1]
    · rw [Nat.min_eq_right h1, List.drop_of_length_le (h8 w hw), List.drop_of_length_le (Nat.le_trans (h8 w hw) h1)])
  have hl : ∀ l : List (List UInt8), (l.flatMap fun w => (List.range 9).map fun k => w.drop k).length = 9 * l.length := by
    intro l
    induction l with
    | nil => rfl
    | cons x l ih => simp [List.flatMap_cons, ih]; omega
  rw [hl] at this
  omega
theorem PI.size {ws : List (List UInt8)} {s : St} (h : PI ws s) (h8 : ∀ w ∈ ws, w.length ≤ 8) {t : ByteArray} (ht : t ∈ s.2) : t.size ≤ 8 := by
  obtain ⟨w, hw, k, hk⟩ := h.suf _ (h.sub t ht)
  have := congrArg List.length hk
  rw [bs_length, List.length_drop] at this
  have := h8 w hw
  omega
theorem PI.start (ws : List (List UInt8)) : PI ws ([], []) := ⟨List.nodup_nil, Nat.le_refl _, by simp, by simp, by simp⟩

/-- all that follows from z is known -/
def Clo (ws : List (List UInt8)) (s : St) (z : List UInt8) : Prop := z ≠ [] ∧ ∀ w ∈ ws, ∀ t, (w = z ++ t → t ∈ s.1) ∧ (z = w ++ t → t ∈ s.1)
def Done (ws : List (List UInt8)) (s : St) : Prop := ∀ z ∈ s.1, (∃ t ∈ s.2, bs t = z) ∨ Clo ws s z
theorem Done.put {ws : List (List UInt8)} {s : St} (h : Done ws s) (long short : ByteArray) : Done ws (putS s long short) := by
  have hm : ∀ z, Clo ws s z → Clo ws (putS s long short) z := fun z hz => ⟨hz.1, fun w hw t => ⟨fun e => putS_sub _ _ _ ((hz.2 w hw t).1 e), fun e => putS_sub _ _ _ ((hz.2 w hw t).2 e)⟩⟩
  intro z hz
  rcases putS_cases s long short with e | ⟨rb, e1, e2, e3, e⟩
  · rw [e] at hz ⊢; exact h z hz
  · rw [e] at hz
    rcases List.mem_cons.1 hz with rfl | hz
    · exact .inl ⟨rb, by rw [e]; simp, rfl⟩
    · rcases h z hz with ⟨t, ht, e4⟩ | hc
      · exact .inl ⟨t, by rw [e]; simp [ht], e4⟩
      · exact .inr (hm z hc)
/-- the first rests are known, as far as the places i, k -/
def First (ws : List (List UInt8)) (s : St) (i k : Nat) : Prop := ∀ (i' k' : Nat) (x y t : List UInt8), (i' < i ∨ (i' = i ∧ k' < k)) → i' ≠ k' → ws[i']? = some x → ws[k']? = some y → y = x ++ t → t ∈ s.1
theorem First.sub {ws : List (List UInt8)} {s : St} {i k : Nat} (h : First ws s i k) (long short : ByteArray) : First ws (putS s long short) i k :=
  fun i' k' x y t h1 h2 h3 h4 h5 => putS_sub _ _ _ (h i' k' x y t h1 h2 h3 h4 h5)
theorem First.put {ws : List (List UInt8)} {s : St} {i k : Nat} {long short : ByteArray} (h : First ws s i k) (hi : ws[i]? = some (bs short)) (hk : ws[k]? = some (bs long)) : First ws (putS s long short) i (k + 1) := by
  intro i' k' x y t h1 h2 h3 h4 h5
  by_cases hik : i' = i ∧ k' = k
  · obtain ⟨rfl, rfl⟩ := hik
    rw [hi] at h3; rw [hk] at h4
    simp only [Option.some.injEq] at h3 h4
    subst h3; subst h4
    exact putS_mem _ _ _ h5
  · exact putS_sub _ _ _ (h i' k' x y t (by omega) h2 h3 h4 h5)
theorem First.skip {ws : List (List UInt8)} {s : St} {i : Nat} (h : First ws s i i) : First ws s i (i + 1) :=
  fun i' k' x y t h1 h2 h3 h4 h5 => h i' k' x y t (by omega) h2 h3 h4 h5
theorem First.row {ws : List (List UInt8)} {s : St} {i : Nat} (h : First ws s i ws.length) : First ws s (i + 1) 0 :=
  fun i' k' x y t h1 h2 h3 h4 h5 => h i' k' x y t (by have := (List.getElem?_eq_some_iff.1 h4).1; omega) h2 h3 h4 h5
theorem not_dg_of {ws : List (List UInt8)} {s : St} (hf : First ws s ws.length 0) (hd : Done ws s) (hT : s.2 = []) : ¬ Dg ws [] := by
  have hc : ∀ z ∈ s.1, Clo ws s z := fun z hz => by
    rcases hd z hz with ⟨t, ht, _⟩ | h
    · rw [hT] at ht; simp at ht
    · exact h
  intro hg
  have := hg (fun t => t ∈ s.1) (fun i k x y t h1 h2 h3 h4 => hf i k x y t (.inl (List.getElem?_eq_some_iff.1 h2).1) h1 h2 h3 h4) (fun a w t ha hw e => ((hc a ha).2 w hw t).1 e) (fun a w t ha hw e => ((hc a ha).2 w hw t).2 e)
  exact (hc [] this).1 rfl
/-- what follows from a, by the words ahead of j -/
def Some_ (ws : List (List UInt8)) (s : St) (z : List UInt8) (j : Nat) : Prop := ∀ (j' : Nat) (w t : List UInt8), j' < j → ws[j']? = some w → (w = z ++ t → t ∈ s.1) ∧ (z = w ++ t → t ∈ s.1)
theorem Some_.put2 {ws : List (List UInt8)} {s : St} {a x : ByteArray} {j : Nat} (h : Some_ ws s (bs a) j) (hx : ws[j]? = some (bs x)) : Some_ ws (putS (putS s x a) a x) (bs a) (j + 1) := by
  intro j' w t hj hw
  by_cases e : j' = j
  · subst e
    rw [hx] at hw
    simp only [Option.some.injEq] at hw
    subst hw
    exact ⟨fun e => putS_sub _ _ _ (putS_mem _ _ _ e), fun e => putS_mem _ _ _ e⟩
  · have := h j' w t (by omega) hw
    exact ⟨fun e => putS_sub _ _ _ (putS_sub _ _ _ (this.1 e)), fun e => putS_sub _ _ _ (putS_sub _ _ _ (this.2 e))⟩
theorem Done.pop {ws : List (List UInt8)} {Z : List (List UInt8)} {a : ByteArray} {T : List ByteArray} (h : Done ws (Z, a :: T)) (h0 : bs a ≠ []) (hs : Some_ ws (Z, a :: T) (bs a) ws.length) : Done ws (Z, T) := by
  intro z hz
  rcases h z hz with ⟨t, ht, e⟩ | hc
  · rcases List.mem_cons.1 ht with rfl | ht
    · refine .inr ⟨e ▸ h0, fun w hw t2 => ?_⟩
      obtain ⟨j, hj⟩ := List.getElem?_of_mem hw
      rw [← e]
      exact hs j w t2 (List.getElem?_eq_some_iff.1 hj).1 hj
    · exact .inl ⟨t, ht, e⟩
  · exact .inr hc
theorem PI.pop {ws : List (List UInt8)} {Z : List (List UInt8)} {a : ByteArray} {T : List ByteArray} (h : PI ws (Z, a :: T)) : PI ws (Z, T) :=
  ⟨h.nd, by have := h.le; simp at this ⊢; omega, h.dg, h.suf, fun t ht => h.sub t (List.mem_cons_of_mem _ ht)⟩
end Go.Proofs.Ytnaoonegeboflaa.Kf
