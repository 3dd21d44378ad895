/-
  Sardinas and Patterson, and McMillan, in plain lists: words make each text in one way just if the empty rest is not reached; and then binary words have room. No condition but that words are not empty and different.
-/
import Derived.Test.YtnaoonegeboflaaBase
namespace Go.Proofs.Ytnaoonegeboflaa.Kf
set_option linter.unusedVariables false
set_option linter.unusedSimpArgs false
variable {α : Type}

/-- what is left of one way that is ahead of another one: the least set closed under the three rules -/
def Dg (ws : List (List α)) (r : List α) : Prop :=
  ∀ P : List α → Prop,
    (∀ (i k : Nat) (x y t : List α), i ≠ k → ws[i]? = some x → ws[k]? = some y → y = x ++ t → P t) →
    (∀ a w t : List α, P a → w ∈ ws → w = a ++ t → P t) →
    (∀ a w t : List α, P a → w ∈ ws → a = w ++ t → P t) → P r

theorem Dg.first {ws : List (List α)} {i k : Nat} {x y t : List α} (h : i ≠ k) (hx : ws[i]? = some x) (hy : ws[k]? = some y) (e : y = x ++ t) : Dg ws t :=
  fun P h1 _ _ => h1 i k x y t h hx hy e
theorem Dg.over {ws : List (List α)} {a w t : List α} (h : Dg ws a) (hw : w ∈ ws) (e : w = a ++ t) : Dg ws t :=
  fun P h1 h2 h3 => h2 a w t (h P h1 h2 h3) hw e
theorem Dg.under {ws : List (List α)} {a w t : List α} (h : Dg ws a) (hw : w ∈ ws) (e : a = w ++ t) : Dg ws t :=
  fun P h1 h2 h3 => h3 a w t (h P h1 h2 h3) hw e

/-- each text is made in one way, at most -/
def UD (ws : List (List α)) : Prop :=
  ∀ a b : List (List α), (∀ x ∈ a, x ∈ ws) → (∀ x ∈ b, x ∈ ws) → a.flatten = b.flatten → a = b

theorem dg_two {ws : List (List α)} (hd : ws.Nodup) {r : List α} (h : Dg ws r) : ∃ u v : List (List α), (∀ x ∈ u, x ∈ ws) ∧ (∀ x ∈ v, x ∈ ws) ∧ u.flatten ++ r = v.flatten ∧ u ≠ [] ∧ v ≠ [] ∧ u.head? ≠ v.head? := by
  refine h (fun r => ∃ u v : List (List α), (∀ x ∈ u, x ∈ ws) ∧ (∀ x ∈ v, x ∈ ws) ∧ u.flatten ++ r = v.flatten ∧ u ≠ [] ∧ v ≠ [] ∧ u.head? ≠ v.head?) ?_ ?_ ?_
  · intro i k x y t hik hx hy e
    refine ⟨[x], [y], ?_, ?_, ?_, by simp, by simp, ?_⟩
    · intro z hz; rw [List.mem_singleton.1 hz]; exact List.mem_of_getElem? hx
    · intro z hz; rw [List.mem_singleton.1 hz]; exact List.mem_of_getElem? hy
    · simp [e]
    · intro e2
      simp only [List.head?_cons, Option.some.injEq] at e2
      exact hik ((List.getElem?_inj (List.getElem?_eq_some_iff.1 hx).1 hd).1 (by rw [hx, hy, e2]))
  · rintro a w t ⟨u, v, hu, hv, e, u0, v0, hh⟩ hw ew
    refine ⟨v, u ++ [w], hv, ?_, ?_, v0, by simp, ?_⟩
    · intro z hz
      rcases List.mem_append.1 hz with h | h
      · exact hu z h
      · rw [List.mem_singleton.1 h]; exact hw
    · rw [List.flatten_append, ← e, ew]; simp
    · cases u with
      | nil => exact absurd rfl u0
      | cons c u => exact fun e2 => hh e2.symm
  · rintro a w t ⟨u, v, hu, hv, e, u0, v0, hh⟩ hw ew
    refine ⟨u ++ [w], v, ?_, hv, ?_, by simp, v0, ?_⟩
    · intro z hz
      rcases List.mem_append.1 hz with h | h
      · exact hu z h
      · rw [List.mem_singleton.1 h]; exact hw
    · rw [List.flatten_append, ← e, ew]; simp
    · cases u with
      | nil => exact absurd rfl u0
      | cons c u => exact hh

theorem dg_down {ws : List (List α)} : ∀ (n : Nat) (u v : List (List α)) (r : List α), u.length + v.length ≤ n → Dg ws r → (∀ x ∈ u, x ∈ ws) → (∀ x ∈ v, x ∈ ws) → r ++ u.flatten = v.flatten → Dg ws [] := by
  intro n
  induction n with
  | zero =>
    intro u v r hn hr hu hv e
    obtain rfl : u = [] := List.length_eq_zero_iff.1 (by omega)
    obtain rfl : v = [] := List.length_eq_zero_iff.1 (by omega)
    simp at e
    exact e ▸ hr
  | succ n ih =>
    intro u v r hn hr hu hv e
    cases v with
    | nil =>
      simp at e
      exact e.1 ▸ hr
    | cons w v =>
      have hw := hv w (List.mem_cons_self ..)
      have hv' := fun x hx => hv x (List.mem_cons_of_mem _ hx)
      rw [List.flatten_cons] at e
      rcases List.append_eq_append_iff.1 e with ⟨t, e1, e2⟩ | ⟨t, e1, e2⟩
      · exact ih v u t (by simp at hn; omega) (hr.over hw e1) hv' hu e2.symm
      · exact ih u v t (by simp at hn; omega) (hr.under hw e1) hu hv' e2.symm

theorem ud_of {ws : List (List α)} (h0 : ∀ w ∈ ws, w ≠ []) (hn : ¬ Dg ws []) : UD ws := by
  intro a
  induction a with
  | nil =>
    intro b _ hb e
    cases b with
    | nil => rfl
    | cons y b =>
      simp at e
      exact absurd e.1 (h0 y (hb y (List.mem_cons_self ..)))
  | cons x a ih =>
    intro b ha hb e
    cases b with
    | nil =>
      simp at e
      exact absurd e.1 (h0 x (ha x (List.mem_cons_self ..)))
    | cons y b =>
      have hx := ha x (List.mem_cons_self ..)
      have hy := hb y (List.mem_cons_self ..)
      have ha' := fun z hz => ha z (List.mem_cons_of_mem _ hz)
      have hb' := fun z hz => hb z (List.mem_cons_of_mem _ hz)
      rw [List.flatten_cons, List.flatten_cons] at e
      by_cases hxy : x = y
      · subst hxy
        rw [ih b ha' hb' (List.append_cancel_left e)]
      · exfalso
        obtain ⟨i, hi⟩ := List.getElem?_of_mem hx
        obtain ⟨k, hk⟩ := List.getElem?_of_mem hy
        have hik : i ≠ k := fun e2 => hxy (by rw [e2, hk] at hi; exact (Option.some.inj hi).symm)
        rcases List.append_eq_append_iff.1 e with ⟨t, e1, e2⟩ | ⟨t, e1, e2⟩
        · exact hn (dg_down _ b a t (Nat.le_refl _) (Dg.first hik hi hk e1) hb' ha' e2.symm)
        · exact hn (dg_down _ a b t (Nat.le_refl _) (Dg.first hik.symm hk hi e1) ha' hb' e2.symm)

theorem not_dg {ws : List (List α)} (hd : ws.Nodup) (h : UD ws) : ¬ Dg ws [] := by
  intro hg
  obtain ⟨u, v, hu, hv, e, _, _, hh⟩ := dg_two hd hg
  rw [List.append_nil] at e
  exact hh (by rw [h u v hu hv e])

/-- no word begins another one -/
def Fr (ws : List (List α)) : Prop := ∀ (i k : Nat) (x y t : List α), i ≠ k → ws[i]? = some x → ws[k]? = some y → y ≠ x ++ t
theorem fr_not {ws : List (List α)} (h : Fr ws) : ¬ Dg ws [] := fun hg =>
  hg (fun _ => False) (fun i k x y t hik hx hy e => h i k x y t hik hx hy e) (fun _ _ _ h _ _ => h) (fun _ _ _ h _ _ => h)

theorem ud_back {ws : List (List α)} (h : UD ws) : UD (ws.map List.reverse) := by
  intro a b ha hb e
  have hk : ∀ c : List (List α), (∀ x ∈ c, x ∈ ws.map List.reverse) → ∀ x ∈ (c.map List.reverse).reverse, x ∈ ws := by
    intro c hc x hx
    obtain ⟨y, hy, rfl⟩ := List.mem_map.1 (List.mem_reverse.1 hx)
    obtain ⟨z, hz, rfl⟩ := List.mem_map.1 (hc y hy)
    rw [List.reverse_reverse]; exact hz
  have e2 := h _ _ (hk a ha) (hk b hb) (by rw [← List.reverse_flatten, ← List.reverse_flatten, e])
  have e3 := congrArg List.reverse e2
  rw [List.reverse_reverse, List.reverse_reverse] at e3
  have e4 := congrArg (List.map List.reverse) e3
  rw [List.map_map, List.map_map, show (List.reverse ∘ List.reverse : List α → List α) = id from funext fun x => List.reverse_reverse x, List.map_id, List.map_id] at e4
  exact e4
theorem ud_back_iff {ws : List (List α)} : UD (ws.map List.reverse) ↔ UD ws :=
  ⟨fun h => by
    have := ud_back h
    rw [List.map_map, show (List.reverse ∘ List.reverse : List α → List α) = id from funext fun x => List.reverse_reverse x, List.map_id] at this
    exact this, ud_back⟩

/-! ### McMillan -/
theorem tails_sum (b c : α) (hbc : b ≠ c) : ∀ (n : Nat) (X : List (List α)), X.Nodup → (∀ x ∈ X, x.length ≤ n ∧ ∀ s ∈ x, s = b ∨ s = c) → (X.map fun x => 2 ^ (n - x.length)).sum ≤ (n + 1) * 2 ^ n := by
  classical
  intro n
  induction n with
  | zero =>
    intro X hd hx
    have hall : ∀ x ∈ X, x = [] := fun x hm => List.length_eq_zero_iff.1 (by have := (hx x hm).1; omega)
    cases X with
    | nil => simp
    | cons x X =>
      cases X with
      | nil => simp
      | cons y X =>
        exfalso
        rw [hall x (by simp), hall y (by simp)] at hd
        simp at hd
  | succ n ih =>
    intro X hd hx
    -- split by the first sign
    have key : ∀ X : List (List α), (∀ x ∈ X, x.length ≤ n + 1 ∧ ∀ s ∈ x, s = b ∨ s = c) →
        (X.map fun x => 2 ^ (n + 1 - x.length)).sum = (X.filter (fun x => decide (x = []))).length * 2 ^ (n + 1) + ((((X.filter (fun x => decide (x.head? = some b))).map List.tail).map fun x => 2 ^ (n - x.length)).sum + (((X.filter (fun x => decide (x.head? = some c))).map List.tail).map fun x => 2 ^ (n - x.length)).sum) := by
      intro X
      induction X with
      | nil => simp
      | cons x X ihX =>
        intro hx
        have ih2 := ihX (fun y hy => hx y (List.mem_cons_of_mem _ hy))
        have h1 := hx x (List.mem_cons_self ..)
        cases x with
        | nil => simp [ih2, Nat.add_mul]; omega
        | cons s x =>
          rcases h1.2 s (List.mem_cons_self ..) with rfl | rfl
          · simp [ih2, hbc]; omega
          · simp [ih2, Ne.symm hbc]; omega
    rw [key X hx]
    have hnil : (X.filter (fun x => decide (x = []))).length ≤ 1 := by
      have hd2 := hd.filter (fun x => decide (x = []))
      have hall : ∀ x ∈ X.filter (fun x => decide (x = [])), x = [] := fun x hm => by simpa using (List.mem_filter.1 hm).2
      generalize X.filter (fun x => decide (x = [])) = Y at *
      cases Y with
      | nil => simp
      | cons x Y =>
        cases Y with
        | nil => simp
        | cons y Y =>
          exfalso
          rw [hall x (by simp), hall y (by simp)] at hd2
          simp at hd2
    have hone : ∀ s : α, (((X.filter (fun x => decide (x.head? = some s))).map List.tail).map fun x => 2 ^ (n - x.length)).sum ≤ (n + 1) * 2 ^ n := by
      intro s
      refine ih _ ?_ ?_
      · have hd2 : (X.filter (fun x => decide (x.head? = some s))).Nodup := hd.filter _
        have hall : ∀ x ∈ X.filter (fun x => decide (x.head? = some s)), x.head? = some s := fun x hm => by simpa using (List.mem_filter.1 hm).2
        generalize X.filter (fun x => decide (x.head? = some s)) = Y at *
        induction Y with
        | nil => simp
        | cons y Y ihY =>
          rw [List.map_cons]
          have hd3 := List.nodup_cons.1 hd2
          clear hd2
          have hd2 := hd3
          refine List.nodup_cons.2 ⟨?_, ihY hd2.2 (fun x hm => hall x (List.mem_cons_of_mem _ hm))⟩
          intro hm
          obtain ⟨z, hz, ez⟩ := List.mem_map.1 hm
          have h1 := hall y (List.mem_cons_self ..)
          have h2 := hall z (List.mem_cons_of_mem _ hz)
          have : y = z := by
            cases y with
            | nil => simp at h1
            | cons p y => cases z with
              | nil => simp at h2
              | cons q z =>
                simp at h1 h2 ez
                rw [h1, h2, ez]
          exact hd2.1 (this ▸ hz)
      · intro x hm
        obtain ⟨z, hz, rfl⟩ := List.mem_map.1 hm
        have h1 := hx z (List.mem_filter.1 hz).1
        have h2 : z.head? = some s := by simpa using (List.mem_filter.1 hz).2
        cases z with
        | nil => simp at h2
        | cons p z =>
          refine ⟨by have := h1.1; simp at this ⊢; omega, fun t ht => h1.2 t (List.mem_cons_of_mem _ (by simpa using ht))⟩
    have h1 := hone b
    have h2 := hone c
    have h3 : (X.filter (fun x => decide (x = []))).length * 2 ^ (n + 1) ≤ 1 * 2 ^ (n + 1) := Nat.mul_le_mul_right _ hnil
    have h4 : (2 : Nat) ^ (n + 1) = 2 * 2 ^ n := by rw [Nat.pow_succ]; omega
    rw [h4] at h3 ⊢
    generalize 2 ^ n = p at *
    have h5 : (n + 1 + 1) * (2 * p) = 2 * p + 2 * ((n + 1) * p) := by
      rw [Nat.add_mul]
      have : (n + 1) * (2 * p) = 2 * ((n + 1) * p) := by rw [Nat.mul_left_comm]
      omega
    omega

/-- all rows of n words -/
def tup (ws : List (List α)) : Nat → List (List (List α))
  | 0 => [[]]
  | n + 1 => ws.flatMap fun w => (tup ws n).map (w :: ·)
theorem tup_mem {ws : List (List α)} : ∀ (n : Nat) (a : List (List α)), a ∈ tup ws n → (∀ x ∈ a, x ∈ ws) ∧ a.length = n := by
  intro n
  induction n with
  | zero => intro a h; simp [tup] at h; subst h; simp
  | succ n ih =>
    intro a h
    simp only [tup, List.mem_flatMap, List.mem_map] at h
    obtain ⟨w, hw, b, hb, rfl⟩ := h
    have := ih b hb
    refine ⟨fun x hx => ?_, by simp [this.2]⟩
    rcases List.mem_cons.1 hx with rfl | h
    · exact hw
    · exact this.1 x h
theorem nodup_map_inj {β γ : Type} (f : β → γ) : ∀ (l : List β), l.Nodup → (∀ x ∈ l, ∀ y ∈ l, f x = f y → x = y) → (l.map f).Nodup := by
  intro l
  induction l with
  | nil => simp
  | cons x l ih =>
    intro hd hf
    rw [List.nodup_cons] at hd
    rw [List.map_cons, List.nodup_cons]
    refine ⟨fun hm => ?_, ih hd.2 fun a ha b hb => hf a (List.mem_cons_of_mem _ ha) b (List.mem_cons_of_mem _ hb)⟩
    obtain ⟨y, hy, e⟩ := List.mem_map.1 hm
    exact hd.1 (hf y (List.mem_cons_of_mem _ hy) x (List.mem_cons_self ..) e ▸ hy)
theorem tup_nodup {ws : List (List α)} (hd : ws.Nodup) : ∀ n, (tup ws n).Nodup := by
  intro n
  induction n with
  | zero => simp [tup]
  | succ n ih =>
    show (ws.flatMap fun w => (tup ws n).map (w :: ·)).Nodup
    generalize tup ws n = T at ih
    induction ws with
    | nil => simp
    | cons w ws ihw =>
      rw [List.nodup_cons] at hd
      rw [List.flatMap_cons, List.nodup_append]
      refine ⟨nodup_map_inj _ _ ih (fun x _ y _ e => (List.cons.inj e).2), ihw hd.2, ?_⟩
      intro x hx y hy e
      subst e
      obtain ⟨a, _, rfl⟩ := List.mem_map.1 hx
      obtain ⟨v, hv, hm⟩ := List.mem_flatMap.1 hy
      obtain ⟨b, _, e⟩ := List.mem_map.1 hm
      exact hd.1 ((List.cons.inj e).1 ▸ hv)
theorem flat_len {ws : List (List α)} {m : Nat} (hl : ∀ w ∈ ws, w.length ≤ m) : ∀ (a : List (List α)), (∀ x ∈ a, x ∈ ws) → a.flatten.length ≤ m * a.length := by
  intro a
  induction a with
  | nil => simp
  | cons x a ih =>
    intro h
    have h1 := hl x (h x (List.mem_cons_self ..))
    have h2 := ih fun y hy => h y (List.mem_cons_of_mem _ hy)
    simp only [List.flatten_cons, List.length_append, List.length_cons]
    rw [Nat.mul_add]
    omega
theorem sum_mul {β : Type} (f : β → Nat) (k : Nat) (l : List β) : (l.map fun x => k * f x).sum = k * (l.map f).sum := by
  induction l with
  | nil => simp
  | cons x l ih => simp [ih, Nat.mul_add]
theorem tup_sum {ws : List (List α)} {m : Nat} (hl : ∀ w ∈ ws, w.length ≤ m) : ∀ n, ((tup ws n).map fun a => 2 ^ (m * n - a.flatten.length)).sum = (ws.map fun w => 2 ^ (m - w.length)).sum ^ n := by
  intro n
  induction n with
  | zero => simp [tup]
  | succ n ih =>
    have hstep : ∀ vs : List (List α), (∀ w ∈ vs, w.length ≤ m) → (((vs.flatMap fun w => (tup ws n).map (w :: ·))).map fun a => 2 ^ (m * (n + 1) - a.flatten.length)).sum = (vs.map fun w => 2 ^ (m - w.length)).sum * ((tup ws n).map fun a => 2 ^ (m * n - a.flatten.length)).sum := by
      intro vs
      induction vs with
      | nil => simp
      | cons v vs ihv =>
        intro hv
        have h1 := hv v (List.mem_cons_self ..)
        rw [List.flatMap_cons, List.map_append, List.sum_append, ihv fun w hw => hv w (List.mem_cons_of_mem _ hw), List.map_cons, List.sum_cons, Nat.add_mul, ← sum_mul (fun a : List (List α) => 2 ^ (m * n - a.flatten.length)) (2 ^ (m - v.length)) (tup ws n), List.map_map]
        refine congrArg (· + _) (congrArg List.sum (List.map_congr_left fun a ha => ?_))
        have h2 := tup_mem n a ha
        have h3 := flat_len hl a h2.1
        rw [h2.2] at h3
        show 2 ^ (m * (n + 1) - (v :: a).flatten.length) = 2 ^ (m - v.length) * 2 ^ (m * n - a.flatten.length)
        rw [← Nat.pow_add]
        congr 1
        simp only [List.flatten_cons, List.length_append, Nat.mul_add, Nat.mul_one]
        omega
    have := hstep ws hl
    rw [ih] at this
    rw [Nat.pow_succ, Nat.mul_comm (_ ^ n)]
    exact this
theorem big : ∃ n, ¬ (257 ^ n ≤ (8 * n + 1) * 2 ^ (8 * n)) := ⟨3000, by decide +kernel⟩
/-- McMillan, of words of at most eight signs -/
theorem mcmillan {ws : List (List α)} (b c : α) (hbc : b ≠ c) (hd : ws.Nodup) (hu : UD ws) (hl : ∀ w ∈ ws, w.length ≤ 8) (hs : ∀ w ∈ ws, ∀ s ∈ w, s = b ∨ s = c) : (ws.map fun w => 2 ^ (8 - w.length)).sum ≤ 256 := by
  have h1 : ∀ n, (ws.map fun w => 2 ^ (8 - w.length)).sum ^ n ≤ (8 * n + 1) * 2 ^ (8 * n) := by
    intro n
    rw [← tup_sum hl n]
    have := tails_sum b c hbc (8 * n) ((tup ws n).map List.flatten) (nodup_map_inj _ _ (tup_nodup hd n) fun x hx y hy e => hu x y (tup_mem n x hx).1 (tup_mem n y hy).1 e) (by
      intro x hx
      obtain ⟨a, ha, rfl⟩ := List.mem_map.1 hx
      have h2 := tup_mem n a ha
      refine ⟨h2.2 ▸ flat_len hl a h2.1, fun s hs2 => ?_⟩
      obtain ⟨w, hw, hsw⟩ := List.mem_flatten.1 hs2
      exact hs w (h2.1 w hw) s hsw)
    rw [List.map_map] at this
    exact this
  generalize (ws.map fun w => 2 ^ (8 - w.length)).sum = R at *
  rcases Nat.lt_or_ge 256 R with h | h
  · exfalso
    obtain ⟨n, hn⟩ := big
    exact hn (Nat.le_trans (Nat.pow_le_pow_left h n) (h1 n))
  · exact h
end Go.Proofs.Ytnaoonegeboflaa.Kf
