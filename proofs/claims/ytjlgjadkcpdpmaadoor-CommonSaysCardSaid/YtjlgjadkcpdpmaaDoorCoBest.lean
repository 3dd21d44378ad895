/-
  What the two inner loops of common.Of look for: the least byte that can go ahead of a longest one, as early as may be in both texts.
-/
import Derived.Test.YtjlgjadkcpdpmaaDoorCoOf
namespace Go.Proofs.YtjlgjadkcpdpmaaDoor.Co
open List
set_option linter.unusedVariables false

/-- the byte x stands at both places, and what stands behind them is long enough -/
def Valid (a b : List UInt8) (T k m : Nat) (x : UInt8) : Prop := a[k]? = some x ∧ b[m]? = some x ∧ 1 + lcs (a.drop (k + 1)) (b.drop (m + 1)) = T
def Seen (i j k m k' m' : Nat) : Prop := i ≤ k' ∧ j ≤ m' ∧ (k' < k ∨ k' = k ∧ m' < m)
def Best (a b : List UInt8) (i j T k m : Nat) (best ni nj : Int) : Prop :=
  (best = -1 ∧ ∀ k' m' y, Seen i j k m k' m' → ¬ Valid a b T k' m' y) ∨
  ∃ (K M : Nat) (x : UInt8), Valid a b T K M x ∧ Seen i j k m K M ∧ best = (x.toNat : Int) ∧ ni = (K : Int) + 1 ∧ nj = (M : Int) + 1 ∧
    ∀ k' m' y, Seen i j k m k' m' → Valid a b T k' m' y → x.toNat < y.toNat ∨ (x = y ∧ (K < k' ∨ K = k' ∧ M ≤ m'))
section
variable {a b : List UInt8} {i j T k m : Nat} {best ni nj : Int}
theorem Best.start (a b : List UInt8) (i j T : Nat) (ni nj : Int) : Best a b i j T i j (-1) ni nj :=
  .inl ⟨rfl, fun k' m' y h => by unfold Seen at h; omega⟩
theorem seen_row {k' m' : Nat} {y : UInt8} (h1 : Seen i j (k + 1) j k' m') (h2 : Valid a b T k' m' y) : Seen i j k b.length k' m' := by
  have : m' < b.length := by
    have := h2.2.1
    exact (List.getElem?_eq_some_iff.1 this).1
  unfold Seen at h1 ⊢
  omega
theorem Best.row (h : Best a b i j T k b.length best ni nj) : Best a b i j T (k + 1) j best ni nj := by
  rcases h with ⟨h1, h2⟩ | ⟨K, M, x, h1, h2, h4, h5, h6, h7⟩
  · exact .inl ⟨h1, fun k' m' y g v => h2 k' m' y (seen_row g v) v⟩
  · exact .inr ⟨K, M, x, h1, by unfold Seen at h2 ⊢; omega, h4, h5, h6, fun k' m' y g v => h7 k' m' y (seen_row g v) v⟩
/-- no pair at this place -/
theorem Best.skip (h : Best a b i j T k m best ni nj) (hn : ∀ y, ¬ Valid a b T k m y) : Best a b i j T k (m + 1) best ni nj := by
  have hs : ∀ k' m' y, Seen i j k (m + 1) k' m' → Valid a b T k' m' y → Seen i j k m k' m' := by
    intro k' m' y h1 h2
    by_cases e : k' = k ∧ m' = m
    · obtain ⟨rfl, rfl⟩ := e
      exact absurd h2 (hn y)
    · unfold Seen at h1 ⊢
      omega
  rcases h with ⟨h1, h2⟩ | ⟨K, M, x, h1, h2, h4, h5, h6, h7⟩
  · exact .inl ⟨h1, fun k' m' y g v => h2 k' m' y (hs k' m' y g v) v⟩
  · exact .inr ⟨K, M, x, h1, by unfold Seen at h2 ⊢; omega, h4, h5, h6, fun k' m' y g v => h7 k' m' y (hs k' m' y g v) v⟩
/-- a pair, but no better one -/
theorem Best.keep (h : Best a b i j T k m best ni nj) {z : UInt8} (hz : a[k]? = some z) (hb : ¬ best < 0) (hle : ¬ (z.toNat : Int) < best) : Best a b i j T k (m + 1) best ni nj := by
  rcases h with ⟨h1, h2⟩ | ⟨K, M, x, h1, h2, h4, h5, h6, h7⟩
  · omega
  · refine .inr ⟨K, M, x, h1, by unfold Seen at h2 ⊢; omega, h4, h5, h6, fun k' m' y g v => ?_⟩
    by_cases e : k' = k ∧ m' = m
    · obtain ⟨rfl, rfl⟩ := e
      have : y = z := by have := v.1; rw [hz] at this; exact (Option.some.inj this).symm
      subst this
      by_cases hxy : x = y
      · exact .inr ⟨hxy, by unfold Seen at h2; omega⟩
      · have : x.toNat ≠ y.toNat := fun h => hxy (UInt8.toNat_inj.1 h)
        omega
    · exact h7 k' m' y (by unfold Seen at g ⊢; omega) v
/-- a better pair -/
theorem Best.take (h : Best a b i j T k m best ni nj) {z : UInt8} (hv : Valid a b T k m z) (hi : i ≤ k) (hj : j ≤ m) (hb : best < 0 ∨ (z.toNat : Int) < best) :
    Best a b i j T k (m + 1) (z.toNat : Int) ((k : Int) + 1) ((m : Int) + 1) := by
  have hself : ∀ y, Valid a b T k m y → y = z := by
    intro y v
    have := v.1
    rw [hv.1] at this
    exact (Option.some.inj this).symm
  refine .inr ⟨k, m, z, hv, by unfold Seen; omega, rfl, rfl, rfl, fun k' m' y g v => ?_⟩
  by_cases e : k' = k ∧ m' = m
  · obtain ⟨rfl, rfl⟩ := e
    exact .inr ⟨(hself y v).symm, by omega⟩
  · have hs : Seen i j k m k' m' := by unfold Seen at g ⊢; omega
    rcases h with ⟨h1, h2⟩ | ⟨K, M, x, h1, h2, h4, h5, h6, h7⟩
    · exact absurd v (h2 k' m' y hs)
    · have := h7 k' m' y hs v
      rcases this with h | ⟨rfl, _⟩ <;> omega

/-- the first place of a byte, and what stands behind it -/
theorem after_first (x : UInt8) : ∀ (l : List UInt8), x ∈ l → ∃ n, l[n]? = some x ∧ l.drop (n + 1) = after x l ∧ ∀ n', l[n']? = some x → n ≤ n' := by
  intro l
  induction l with
  | nil => intro h; cases h
  | cons y l ih =>
    intro h
    unfold after
    by_cases hy : y = x
    · exact ⟨0, by simp [hy], by rw [if_pos hy]; rfl, fun n' _ => Nat.zero_le _⟩
    · have : x ∈ l := by
        rcases List.mem_cons.1 h with h | h
        · exact absurd h.symm hy
        · exact h
      obtain ⟨n, h1, h2, h3⟩ := ih this
      refine ⟨n + 1, by simpa using h1, by rw [if_neg hy]; simpa using h2, fun n' hn => ?_⟩
      cases n' with
      | zero => simp at hn; exact absurd hn hy
      | succ n' => have := h3 n' (by simpa using hn); omega
theorem lcs_mono_drop (a b : List UInt8) {p q r s : Nat} (h1 : p ≤ q) (h2 : r ≤ s) : lcs (a.drop q) (b.drop s) ≤ lcs (a.drop p) (b.drop r) := by
  obtain ⟨c, k1, k2, k3⟩ := lcs_ex (a.drop q) (b.drop s)
  have e1 : a.drop q <+ a.drop p := by
    have : a.drop q = (a.drop p).drop (q - p) := by rw [List.drop_drop]; congr 1; omega
    rw [this]; exact List.drop_sublist _ _
  have e2 : b.drop s <+ b.drop r := by
    have : b.drop s = (b.drop r).drop (s - r) := by rw [List.drop_drop]; congr 1; omega
    rw [this]; exact List.drop_sublist _ _
  rw [← k3]
  exact lcs_ge (k1.trans e1) (k2.trans e2)
/-- what has been found when all has been seen -/
theorem Best.done (h : Best a b i j (lcs (a.drop i) (b.drop j)) a.length j best ni nj) (hpos : 0 < lcs (a.drop i) (b.drop j)) :
    ∃ (K M : Nat) (x : UInt8), best = (x.toNat : Int) ∧ ni = (K : Int) + 1 ∧ nj = (M : Int) + 1 ∧ K < a.length ∧ M < b.length ∧ i ≤ K ∧ j ≤ M ∧ okB (a.drop i) (b.drop j) x = true ∧
      (∀ z, okB (a.drop i) (b.drop j) z = true → x.toNat ≤ z.toNat) ∧ a.drop (K + 1) = after x (a.drop i) ∧ b.drop (M + 1) = after x (b.drop j) := by
  -- the first pair of a byte that can go ahead
  have hfirst : ∀ z, okB (a.drop i) (b.drop j) z = true → ∃ n m, Valid a b (lcs (a.drop i) (b.drop j)) (i + n) (j + m) z ∧ a.drop (i + n + 1) = after z (a.drop i) ∧ b.drop (j + m + 1) = after z (b.drop j) ∧
      (∀ n', (a.drop i)[n']? = some z → n ≤ n') ∧ (∀ n', (b.drop j)[n']? = some z → m ≤ n') := by
    intro z hz
    simp only [okB, Bool.and_eq_true, decide_eq_true_iff, beq_iff_eq] at hz
    obtain ⟨n, h1, h2, h3⟩ := after_first z _ hz.1.1
    obtain ⟨m, k1, k2, k3⟩ := after_first z _ hz.1.2
    rw [List.drop_drop] at h2 k2
    rw [List.getElem?_drop] at h1 k1
    refine ⟨n, m, ⟨h1, k1, ?_⟩, h2, k2, h3, k3⟩
    rw [show i + n + 1 = i + (n + 1) by omega, show j + m + 1 = j + (m + 1) by omega, h2, k2]
    exact hz.2
  have hseen : ∀ n m z, Valid a b (lcs (a.drop i) (b.drop j)) (i + n) (j + m) z → Seen i j a.length j (i + n) (j + m) := by
    intro n m z hv
    have := (List.getElem?_eq_some_iff.1 hv.1).1
    unfold Seen
    omega
  rcases h with ⟨h1, h2⟩ | ⟨K, M, x, h1, h2, h4, h5, h6, h7⟩
  · exfalso
    obtain ⟨z, hz⟩ := ok_ex hpos
    obtain ⟨n, m, hv, _⟩ := hfirst z hz
    exact h2 _ _ _ (hseen n m z hv) hv
  · have hK := (List.getElem?_eq_some_iff.1 h1.1).1
    have hM := (List.getElem?_eq_some_iff.1 h1.2.1).1
    have hiK : i ≤ K ∧ j ≤ M := by unfold Seen at h2; omega
    have gK : (a.drop i)[K - i]? = some x := by rw [List.getElem?_drop, show i + (K - i) = K by omega]; exact h1.1
    have gM : (b.drop j)[M - j]? = some x := by rw [List.getElem?_drop, show j + (M - j) = M by omega]; exact h1.2.1
    have mK : x ∈ a.drop i := List.mem_of_getElem? gK
    have mM : x ∈ b.drop j := List.mem_of_getElem? gM
    have hok : okB (a.drop i) (b.drop j) x = true := by
      unfold okB
      rw [decide_eq_true mK, decide_eq_true mM, Bool.true_and, Bool.true_and, beq_iff_eq]
      have hle := lcs_after mK mM
      obtain ⟨n, n1, n2, n3⟩ := after_first x _ mK
      obtain ⟨m, m1, m2, m3⟩ := after_first x _ mM
      have := lcs_mono_drop a b (p := i + (n + 1)) (q := K + 1) (r := j + (m + 1)) (s := M + 1) (by have := n3 _ gK; omega) (by have := m3 _ gM; omega)
      rw [List.drop_drop] at n2 m2
      rw [n2, m2] at this
      have := h1.2.2
      omega
    obtain ⟨n, m, hv, e1, e2, n3, m3⟩ := hfirst x hok
    have hn := n3 _ gK
    have hm := m3 _ gM
    have hx := h7 _ _ _ (hseen n m x hv) hv
    have eK : K = i + n := by omega
    have eM : M = j + m := by omega
    refine ⟨K, M, x, h4, h5, h6, hK, hM, hiK.1, hiK.2, hok, ?_, by rw [eK]; exact e1, by rw [eM]; exact e2⟩
    intro z hz
    obtain ⟨n', m', hv', _⟩ := hfirst z hz
    rcases h7 _ _ _ (hseen n' m' z hv') hv' with h | ⟨rfl, _⟩ <;> omega
end
end Go.Proofs.YtjlgjadkcpdpmaaDoor.Co
