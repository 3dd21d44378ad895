/-
  Plain: the ends that begin with a word are one stretch of the order.
-/
import Derived.Test.YthalaapfdjaapaaSfTw
namespace Go.Proofs.Ythalaapfdjaapaa
set_option linter.unusedVariables false
set_option linter.unusedSimpArgs false

theorem pre_mid : ∀ w a b c : List UInt8, bef a b = true → bef b c = true → w <+: a → w <+: c → w <+: b
  | [], _, _, _, _, _, _, _ => List.nil_prefix
  | x :: w, [], _, _, _, _, h, _ => by simp at h
  | x :: w, _ :: _, _, [], _, _, _, h => by simp at h
  | x :: w, y :: a, [], z :: c, h, _, _, _ => by cases h
  | x :: w, y :: a, v :: b, z :: c, h1, h2, h3, h4 => by
    obtain ⟨e3, k3⟩ := List.cons_prefix_cons.1 h3
    obtain ⟨e4, k4⟩ := List.cons_prefix_cons.1 h4
    subst e3 e4
    by_cases hv : x = v
    · subst hv
      rw [bef_same] at h1 h2
      exact List.cons_prefix_cons.2 ⟨rfl, pre_mid w a b c h1 h2 k3 k4⟩
    · have := toNat_ne hv
      rw [bef_diff hv] at h1
      rw [bef_diff (fun e => hv e.symm)] at h2
      simp at h1 h2
      omega
/-- does the end at that place of the order begin with the word? -/
def beg (l w : List UInt8) (p : Nat) : Bool := w.isPrefixOf (l.drop ((ordOf l)[p]?.getD 0))
theorem beg_mid {l w : List UInt8} {p q r : Nat} (h1 : beg l w p = true) (h2 : beg l w r = true) (hpq : p < q) (hqr : q < r) (hr : r < l.length) : beg l w q = true := by
  have hO := ordOf_is l
  have hl := hO.length
  obtain ⟨i, hi⟩ : ∃ i, (ordOf l)[p]? = some i := ⟨_, List.getElem?_eq_getElem (by omega)⟩
  obtain ⟨j, hj⟩ : ∃ j, (ordOf l)[q]? = some j := ⟨_, List.getElem?_eq_getElem (by omega)⟩
  obtain ⟨k, hk⟩ : ∃ k, (ordOf l)[r]? = some k := ⟨_, List.getElem?_eq_getElem (by omega)⟩
  unfold beg at *
  rw [hi] at h1
  rw [hk] at h2
  rw [hj]
  rw [Option.getD_some, List.isPrefixOf_iff_prefix] at *
  exact pre_mid w _ _ _ (hO.bef_of hi hj hpq) (hO.bef_of hj hk hqr) h1 h2
def begs (l w : List UInt8) (p : Nat) : Nat := ((List.range p).filter (beg l w)).length
theorem begs_succ (l w : List UInt8) (p : Nat) : begs l w (p + 1) = begs l w p + if beg l w p = true then 1 else 0 := by
  unfold begs
  rw [List.range_succ, List.filter_append, List.length_append]
  cases h : beg l w p <;> simp [h]
theorem begs_le (l w : List UInt8) (p : Nat) : begs l w p ≤ p := by
  unfold begs
  exact Nat.le_trans (List.length_filter_le _ _) (by simp)
theorem begs_all (l w : List UInt8) : begs l w l.length = times l w := by
  have hO := ordOf_is l
  have e : (List.range l.length).map (fun p => (ordOf l)[p]?.getD 0) = ordOf l := by
    refine List.ext_getElem? fun p => ?_
    rw [List.getElem?_map]
    by_cases h : p < l.length
    · have h' : p < (ordOf l).length := by rw [hO.length]; exact h
      rw [List.getElem?_range h, List.getElem?_eq_getElem h']
      show some ((ordOf l)[p]?.getD 0) = _
      rw [List.getElem?_eq_getElem h']
      rfl
    · rw [List.getElem?_eq_none (by simpa using h), List.getElem?_eq_none (by rw [hO.length]; omega)]
      rfl
  unfold begs times
  have h1 : ((List.range l.length).filter (beg l w)).length = ((ordOf l).filter fun i => w.isPrefixOf (l.drop i)).length := by
    conv => rhs; rw [← e]
    rw [List.filter_map, List.length_map]
    rfl
  rw [h1]
  exact (hO.perm.filter _).length_eq
/-- first, last and how many up to here -/
def Str (l w : List UInt8) (p : Nat) (first last : Int) : Prop :=
  (begs l w p = 0 ∧ first = -1 ∧ last = -1 ∧ ∀ q, q < p → beg l w q = false) ∨ (∃ a : Nat, first = a ∧ last = (a : Int) + (begs l w p : Nat) - 1 ∧ 0 < begs l w p ∧ a + begs l w p ≤ p ∧ ∀ q, q < p → (beg l w q = true ↔ a ≤ q ∧ q < a + begs l w p))
theorem Str.zero (l w : List UInt8) : Str l w 0 (-1) (-1) := .inl ⟨rfl, rfl, rfl, fun q h => by omega⟩
theorem Str.no {l w : List UInt8} {p : Nat} {f g : Int} (h : Str l w p f g) (hb : beg l w p = false) : Str l w (p + 1) f g := by
  have hs : begs l w (p + 1) = begs l w p := by rw [begs_succ, hb]; rfl
  rcases h with ⟨h1, h2, h3, h4⟩ | ⟨a, h1, h2, h3, h4, h5⟩
  · refine .inl ⟨by rw [hs]; exact h1, h2, h3, fun q hq => ?_⟩
    by_cases e : q = p
    · rw [e]; exact hb
    · exact h4 q (by omega)
  · refine .inr ⟨a, h1, by rw [hs]; exact h2, by omega, by omega, fun q hq => ?_⟩
    rw [hs]
    by_cases e : q = p
    · subst e
      rw [hb]
      constructor
      · intro h; cases h
      · intro h; omega
    · exact h5 q (by omega)
theorem Str.first {l w : List UInt8} {p : Nat} {f g : Int} (h : Str l w p f g) (hb : beg l w p = true) (hf : f < 0) : Str l w (p + 1) p p := by
  have hs : begs l w (p + 1) = begs l w p + 1 := by rw [begs_succ, hb]; rfl
  rcases h with ⟨h1, h2, h3, h4⟩ | ⟨a, h1, h2, h3, h4, h5⟩
  · refine .inr ⟨p, rfl, by rw [hs, h1]; omega, by omega, by omega, fun q hq => ?_⟩
    rw [hs, h1]
    by_cases e : q = p
    · subst e; simp [hb]
    · rw [h4 q (by omega)]
      constructor
      · intro h; cases h
      · intro h; omega
  · omega
theorem Str.more {l w : List UInt8} {p : Nat} {f g : Int} (h : Str l w p f g) (hb : beg l w p = true) (hf : ¬ f < 0) (hp : p < l.length) : Str l w (p + 1) f p := by
  have hs : begs l w (p + 1) = begs l w p + 1 := by rw [begs_succ, hb]; rfl
  rcases h with ⟨h1, h2, h3, h4⟩ | ⟨a, h1, h2, h3, h4, h5⟩
  · omega
  · have hend : a + begs l w p = p := by
      rcases Nat.lt_or_ge (a + begs l w p) p with hlt | hge
      · have ha := (h5 a (by omega)).2 ⟨Nat.le_refl _, by omega⟩
        have := beg_mid ha hb (by omega : a < a + begs l w p) hlt hp
        have := (h5 _ hlt).1 this
        omega
      · omega
    refine .inr ⟨a, h1, by rw [hs]; omega, by omega, by omega, fun q hq => ?_⟩
    rw [hs]
    by_cases e : q = p
    · subst e
      simp [hb]
      omega
    · rw [h5 q (by omega)]
      omega
theorem Str.last {l w : List UInt8} {p : Nat} {f g : Int} (h : Str l w p f g) : begs l w p = 0 ∨ (g - f + 1 = (begs l w p : Nat) ∧ 0 ≤ f ∧ f ≤ p ∧ -1 ≤ g ∧ g ≤ p) := by
  rcases h with ⟨h1, _⟩ | ⟨a, h1, h2, h3, h4, h5⟩
  · exact .inl h1
  · exact .inr ⟨by omega, by omega, by omega, by omega, by omega⟩
theorem Str.bound {l w : List UInt8} {p : Nat} {f g : Int} (h : Str l w p f g) : -1 ≤ f ∧ f ≤ p ∧ -1 ≤ g ∧ g ≤ p := by
  rcases h with ⟨_, h2, h3, _⟩ | ⟨a, h1, h2, h3, h4, h5⟩ <;> omega
end Go.Proofs.Ythalaapfdjaapaa
