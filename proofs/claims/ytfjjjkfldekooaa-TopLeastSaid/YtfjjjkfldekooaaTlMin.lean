/-
  Plain: where the least turn of a text begins, by two places that go on together.
-/
import Derived.Test.YtfjjjkfldekooaaWhPlain
namespace Go.Proofs.Ytfjjjkfldekooaa
set_option linter.unusedVariables false
set_option linter.unusedSimpArgs false

/-- the first difference decides -/
theorem bef_of : ∀ (a b : List UInt8) (m : Nat), m < b.length → m ≤ a.length → (∀ e, e < m → byN a e = byN b e) → (m = a.length ∨ (byN a m).toNat < (byN b m).toNat) → bef a b = true
  | a, [], m, h, _, _, _ => by simp at h
  | [], y :: b, m, _, _, _, _ => rfl
  | x :: a, y :: b, 0, _, _, _, h => by
    rcases h with h | h
    · simp at h
    · have h' : x.toNat < y.toNat := h
      rw [bef_diff (by intro e; rw [e] at h'; omega)]
      simpa using h'
  | x :: a, y :: b, m + 1, h1, h2, h3, h4 => by
    have e : x = y := h3 0 (by omega)
    subst e
    rw [bef_same]
    exact bef_of a b m (by simpa using h1) (by simpa using h2) (fun e he => h3 (e + 1) (by omega)) (by
      rcases h4 with h4 | h4
      · exact .inl (by simpa using h4)
      · exact .inr h4)
theorem bef_first : ∀ (a b : List UInt8), a.length = b.length → bef a b = true → ∃ m, m < b.length ∧ (∀ e, e < m → byN a e = byN b e) ∧ (byN a m).toNat < (byN b m).toNat
  | a, [], _, h => by simp [bef] at h
  | [], y :: b, h, _ => by simp at h
  | x :: a, y :: b, hl, h => by
    by_cases e : x = y
    · subst e
      rw [bef_same] at h
      obtain ⟨m, h1, h2, h3⟩ := bef_first a b (by simpa using hl) h
      refine ⟨m + 1, by simpa using h1, fun e he => ?_, h3⟩
      cases e with
      | zero => rfl
      | succ e => exact h2 e (by omega)
    · rw [bef_diff e] at h
      exact ⟨0, by simp, fun e he => by omega, by simpa [byN] using h⟩

/-- the byte at a place, round and round -/
def rb (x : List UInt8) (p : Nat) : Nat := (byN x (p % x.length)).toNat
theorem rb_mod (x : List UInt8) (p e : Nat) : rb x (p % x.length + e) = rb x (p + e) := by
  unfold rb
  rw [Nat.mod_add_mod]
theorem rb_mod2 (x : List UInt8) (p e : Nat) : rb x (p + e % x.length) = rb x (p + e) := by
  unfold rb
  rw [Nat.add_mod_mod]
theorem byN_rotL (x : List UInt8) (p e : Nat) (hp : p < x.length) (he : e < x.length) : byN (rotL x p) e = byN x ((p + e) % x.length) := by
  unfold byN rotL
  by_cases h : p + e < x.length
  · rw [Nat.mod_eq_of_lt h, List.getElem?_append_left (by rw [List.length_drop]; omega), List.getElem?_drop]
  · rw [List.getElem?_append_right (by rw [List.length_drop]; omega), List.length_drop, List.getElem?_take, if_pos (by omega), Nat.mod_eq_sub_mod (by omega), Nat.mod_eq_of_lt (by omega)]
    congr 2
    omega
theorem toNat_byN {a b : UInt8} : a = b ↔ a.toNat = b.toNat := UInt8.toNat_inj.symm
/-- the turn at q is less than that at p -/
def Lt (x : List UInt8) (q p : Nat) : Prop := ∃ m, m < x.length ∧ (∀ e, e < m → rb x (q + e) = rb x (p + e)) ∧ rb x (q + m) < rb x (p + m)
theorem Lt.bef {x : List UInt8} {q p : Nat} (h : Lt x q p) (hq : q < x.length) (hp : p < x.length) : bef (rotL x q) (rotL x p) = true := by
  obtain ⟨m, h1, h2, h3⟩ := h
  refine bef_of _ _ m (by rw [rotL_length]; exact h1) (by rw [rotL_length]; omega) (fun e he => ?_) (.inr ?_)
  · rw [byN_rotL x q e hq (by omega), byN_rotL x p e hp (by omega), toNat_byN]
    exact h2 e he
  · rw [byN_rotL x q m hq h1, byN_rotL x p m hp h1]
    exact h3
theorem Lt.of_bef {x : List UInt8} {q p : Nat} (hq : q < x.length) (hp : p < x.length) (h : Go.Proofs.Ytfjjjkfldekooaa.bef (rotL x q) (rotL x p) = true) : Lt x q p := by
  obtain ⟨m, h1, h2, h3⟩ := bef_first _ _ (by rw [rotL_length, rotL_length]) h
  rw [rotL_length] at h1
  rw [byN_rotL x q m hq h1, byN_rotL x p m hp h1] at h3
  refine ⟨m, h1, fun e he => ?_, h3⟩
  have := h2 e he
  rw [byN_rotL x q e hq (by omega), byN_rotL x p e hp (by omega), toNat_byN] at this
  exact this
theorem Lt.mod {x : List UInt8} {q p : Nat} (h : Lt x q p) : Lt x (q % x.length) p := by
  obtain ⟨m, h1, h2, h3⟩ := h
  exact ⟨m, h1, fun e he => by rw [rb_mod]; exact h2 e he, by rw [rb_mod]; exact h3⟩
def Bad (x : List UInt8) (p : Nat) : Prop := ∃ q, Lt x q p
/-- what is known of the two places -/
structure Cand (x : List UInt8) (i j k : Nat) : Prop where
  ne : i ≠ j
  same : ∀ e, e < k → rb x (i + e) = rb x (j + e)
  bad : ∀ p, p < i ∨ p < j → p ≠ i → p ≠ j → Bad x p
  lt : i < x.length ∨ j < x.length
theorem Cand.symm {x : List UInt8} {i j k : Nat} (h : Cand x i j k) : Cand x j i k :=
  ⟨fun e => h.ne e.symm, fun e he => (h.same e he).symm, fun p hp h1 h2 => h.bad p hp.symm h2 h1, h.lt.symm⟩
theorem Cand.start {x : List UInt8} (h : 0 < x.length) : Cand x 0 1 0 := ⟨by omega, fun e he => by omega, fun p hp h1 h2 => by omega, .inl h⟩
theorem Cand.next {x : List UInt8} {i j k : Nat} (h : Cand x i j k) (he : rb x (i + k) = rb x (j + k)) : Cand x i j (k + 1) :=
  ⟨h.ne, fun e h1 => by
    by_cases h2 : e = k
    · rw [h2]; exact he
    · exact h.same e (by omega), h.bad, h.lt⟩
theorem Cand.fell {x : List UInt8} {i j k : Nat} (h : Cand x i j k) (hk : k < x.length) (hlt : rb x (j + k) < rb x (i + k)) : ∀ p, i ≤ p → p ≤ i + k → Bad x p := by
  intro p h1 h2
  refine ⟨j + (p - i), k - (p - i), by omega, fun e he => ?_, ?_⟩
  · have := h.same (p - i + e) (by omega)
    rw [show i + (p - i + e) = p + e by omega, ← Nat.add_assoc] at this
    exact this.symm
  · rw [show j + (p - i) + (k - (p - i)) = j + k by omega, show p + (k - (p - i)) = i + k by omega]
    exact hlt
theorem Cand.jump {x : List UInt8} {i j k : Nat} (h : Cand x i j k) (hj : j < x.length) (hk : k < x.length) (hlt : rb x (j + k) < rb x (i + k)) (hne : i + k + 1 ≠ j) : Cand x (i + k + 1) j 0 := by
  refine ⟨hne, fun e he => by omega, fun p hp h1 h2 => ?_, .inr hj⟩
  by_cases h3 : i ≤ p ∧ p ≤ i + k
  · exact h.fell hk hlt p h3.1 h3.2
  · exact h.bad p (by omega) (by omega) h2
theorem Cand.jump2 {x : List UInt8} {i j k : Nat} (h : Cand x i j k) (hj : j < x.length) (hk : k < x.length) (hlt : rb x (j + k) < rb x (i + k)) (he : i + k + 1 = j) : Cand x j (j + 1) 0 := by
  refine ⟨by omega, fun e he => by omega, fun p hp h1 h2 => ?_, .inl hj⟩
  by_cases h3 : i ≤ p ∧ p ≤ i + k
  · exact h.fell hk hlt p h3.1 h3.2
  · exact h.bad p (by omega) (by omega) (by omega)
/-- at the end: where no turn is less than the least -/
theorem Cand.out {x : List UInt8} {i j k : Nat} (h : Cand x i j k) (he : x.length ≤ i ∨ x.length ≤ j) {p0 : Nat} (hp : p0 < x.length) (h0 : ∀ q, ¬ Lt x q p0) : min i j = p0 := by
  by_cases e : p0 = i ∨ p0 = j
  · have := h.lt
    have := h.ne
    omega
  · have := h.bad p0 (by omega) (by omega) (by omega)
    obtain ⟨q, hq⟩ := this
    exact (h0 q hq).elim
theorem Cand.same_all {x : List UInt8} {i j k : Nat} (h : Cand x i j k) (hk : x.length ≤ k) (h0 : 0 < x.length) (e : Nat) : rb x (i + e) = rb x (j + e) := by
  rw [← rb_mod2 x i e, ← rb_mod2 x j e]
  exact h.same _ (Nat.lt_of_lt_of_le (Nat.mod_lt _ h0) hk)
theorem Cand.full_lt {x : List UInt8} {i j k : Nat} (h : Cand x i j k) (hk : x.length ≤ k) (h0 : 0 < x.length) (hij : i < j) : ∀ (p0 : Nat), (∀ q, ¬ Lt x q p0) → ∀ q, ¬ Lt x q i := by
  intro p0
  induction p0 using Nat.strongRecOn with
  | _ p0 ih =>
    intro hp q hq
    have key : ∀ y, (∀ e, rb x (y + e) = rb x (i + e)) → Lt x q y := fun y hy => by
      obtain ⟨m, h1, h2, h3⟩ := hq
      exact ⟨m, h1, fun e he => by rw [hy]; exact h2 e he, by rw [hy]; exact h3⟩
    by_cases e1 : p0 = i
    · subst e1; exact hp q hq
    · by_cases e2 : p0 = j
      · subst e2
        exact hp q (key p0 fun e => (h.same_all hk h0 e).symm)
      · by_cases e3 : p0 < j
        · obtain ⟨q2, hq2⟩ := h.bad p0 (.inr e3) e1 e2
          exact hp q2 hq2
        · refine ih (p0 - (j - i)) (by omega) (fun q2 hq2 => ?_) q hq
          obtain ⟨m, h1, h2, h3⟩ := hq2
          have hs : ∀ e, rb x (p0 - (j - i) + e) = rb x (p0 + e) := fun e => by
            have := h.same_all hk h0 (p0 - j + e)
            rw [show i + (p0 - j + e) = p0 - (j - i) + e by omega, show j + (p0 - j + e) = p0 + e by omega] at this
            exact this
          exact hp q2 ⟨m, h1, fun e he => by rw [← hs]; exact h2 e he, by rw [← hs]; exact h3⟩
theorem Cand.full {x : List UInt8} {i j k : Nat} (h : Cand x i j k) (hk : x.length ≤ k) (h0 : 0 < x.length) {p0 : Nat} (hp : ∀ q, ¬ Lt x q p0) : ∀ q, ¬ Lt x q (min i j) := by
  have := h.ne
  by_cases hij : i < j
  · rw [Nat.min_eq_left (by omega)]
    exact h.full_lt hk h0 hij p0 hp
  · rw [Nat.min_eq_right (by omega)]
    exact h.symm.full_lt hk h0 (by omega) p0 hp
end Go.Proofs.Ytfjjjkfldekooaa
