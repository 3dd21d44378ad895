/-
  Texts of brackets in plain Lean: how many there are, the one at a place, that it closes; how deep it is and how far that rises.
-/
import Derived.Test.YtlchgjlinhakdaaRsMax
namespace Go.Proofs.Ytlchgjlinhakdaa.Dy
open List Rs
set_option linter.unusedVariables false

def W : Nat → Int → Nat
  | 0, o => if o < 0 ∨ 0 < o then 0 else 1
  | s + 1, o => if o < 0 ∨ (s : Int) + 1 < o then 0 else W s (o + 1) + W s (o - 1)
theorem W_le : ∀ (s : Nat) (o : Int), W s o ≤ 2 ^ s
  | 0, o => by unfold W; split <;> simp
  | s + 1, o => by
    have h1 := W_le s (o + 1)
    have h2 := W_le s (o - 1)
    unfold W
    split
    · exact Nat.zero_le _
    · rw [Nat.pow_succ]; omega
theorem W_pos {s : Nat} {o : Int} (h : 0 < W s o) : 0 ≤ o ∧ o ≤ s := by
  cases s with
  | zero =>
    unfold W at h
    split at h
    · omega
    · omega
  | succ s =>
    unfold W at h
    split at h
    · omega
    · push_cast; omega
theorem W_succ {s : Nat} {o : Int} (h0 : 0 ≤ o) (h1 : o ≤ (s : Int) + 1) : W (s + 1) o = W s (o + 1) + W s (o - 1) := by
  rw [W, if_neg (by omega)]
def gen : Nat → Int → Nat → List UInt8
  | 0, _, _ => []
  | s + 1, o, p => if p < W s (o + 1) then 40 :: gen s (o + 1) p else 41 :: gen s (o - 1) (p - W s (o + 1))
theorem gen_length : ∀ (s : Nat) (o : Int) (p : Nat), (gen s o p).length = s
  | 0, _, _ => rfl
  | s + 1, o, p => by
    unfold gen
    split
    · rw [List.length_cons, gen_length]
    · rw [List.length_cons, gen_length]
/-- from so many open brackets on, a text closes -/
def Bal : Int → List UInt8 → Prop
  | o, [] => o = 0
  | o, c :: l => (c = 40 ∧ Bal (o + 1) l) ∨ (c = 41 ∧ 0 ≤ o - 1 ∧ Bal (o - 1) l)
theorem bal_gen : ∀ (s : Nat) (o : Int) (p : Nat), p < W s o → Bal o (gen s o p)
  | 0, o, p, h => by
    have := W_pos (s := 0) (o := o) (by omega)
    show o = 0
    simp at this
    omega
  | s + 1, o, p, h => by
    have hp := W_pos (s := s + 1) (o := o) (by omega)
    have hs := W_succ (s := s) (o := o) hp.1 (by have := hp.2; push_cast at this; omega)
    unfold gen
    by_cases hlt : p < W s (o + 1)
    · rw [if_pos hlt]
      exact .inl ⟨rfl, bal_gen s _ p hlt⟩
    · rw [if_neg hlt]
      have hl : p - W s (o + 1) < W s (o - 1) := by omega
      have := W_pos (s := s) (o := o - 1) (by omega)
      exact .inr ⟨rfl, this.1, bal_gen s _ _ hl⟩
/-- how many are open behind each sign -/
def deep : Int → List UInt8 → List Int
  | _, [] => []
  | o, c :: l => (if c = 40 then o + 1 else o - 1) :: deep (if c = 40 then o + 1 else o - 1) l
theorem deep_length : ∀ (l : List UInt8) (o : Int), (deep o l).length = l.length
  | [], _ => rfl
  | c :: l, o => by unfold deep; rw [List.length_cons, deep_length, List.length_cons]
def opn (o : Int) (l : List UInt8) (k : Nat) : Int := (o :: deep o l).getD k 0
theorem opn_zero (o : Int) (l : List UInt8) : opn o l 0 = o := rfl
theorem deep_at : ∀ (l : List UInt8) (o : Int) (k : Nat) (c : UInt8), l[k]? = some c → (deep o l)[k]? = some (opn o l (k + 1)) ∧ opn o l (k + 1) = (if c = 40 then opn o l k + 1 else opn o l k - 1)
  | [], _, _, _, h => by simp at h
  | d :: l, o, 0, c, h => by
    simp at h
    subst h
    exact ⟨rfl, rfl⟩
  | d :: l, o, k + 1, c, h => by
    have := deep_at l (if d = 40 then o + 1 else o - 1) k c (by simpa using h)
    exact this
theorem bal_opn : ∀ (l : List UInt8) (o : Int) (k : Nat), 0 ≤ o → Bal o l → k ≤ l.length → 0 ≤ opn o l k ∧ opn o l k ≤ o + k
  | l, o, 0, h0, _, _ => by rw [opn_zero]; omega
  | [], o, k + 1, _, _, hk => by simp at hk
  | c :: l, o, k + 1, h0, hb, hk => by
    have e : opn o (c :: l) (k + 1) = opn (if c = 40 then o + 1 else o - 1) l k := rfl
    rw [e]
    rcases hb with ⟨hc, hb⟩ | ⟨hc, h1, hb⟩
    · rw [if_pos hc]
      have := bal_opn l (o + 1) k (by omega) hb (by simpa using hk)
      push_cast; omega
    · rw [if_neg (by rw [hc]; decide)]
      have := bal_opn l (o - 1) k h1 hb (by simpa using hk)
      push_cast; omega
/-- o+1, o+2, .. -/
def up (o : Int) : Nat → List Int
  | 0 => []
  | n + 1 => (o + 1) :: up (o + 1) n
theorem up_length : ∀ (n : Nat) (o : Int), (up o n).length = n
  | 0, _ => rfl
  | n + 1, o => by unfold up; rw [List.length_cons, up_length]
theorem up_gt : ∀ (n : Nat) (o x : Int), x ∈ up o n → o < x
  | 0, _, _, h => by simp [up] at h
  | n + 1, o, x, h => by
    unfold up at h
    rcases List.mem_cons.1 h with rfl | h
    · omega
    · have := up_gt n (o + 1) x h; omega
theorem up_pair : ∀ (n : Nat) (o : Int), (up o n).Pairwise (fun a b => a < b)
  | 0, _ => List.Pairwise.nil
  | n + 1, o => by
    unfold up
    exact List.Pairwise.cons (fun x hx => up_gt n _ x hx) (up_pair n _)
theorem up_sub : ∀ (l : List UInt8) (o : Int) (n : Nat), o + (n : Int) ∈ deep o l → up o n <+ deep o l
  | l, o, 0, _ => List.nil_sublist _
  | [], o, n + 1, h => by simp [deep] at h
  | c :: l, o, n + 1, h => by
    unfold deep at h ⊢
    by_cases hc : c = 40
    · rw [if_pos hc] at h ⊢
      unfold up
      refine List.Sublist.cons_cons _ ?_
      cases n with
      | zero => exact List.nil_sublist _
      | succ n =>
        rcases List.mem_cons.1 h with h | h
        · push_cast at h; omega
        · exact up_sub l (o + 1) (n + 1) (by rw [show o + 1 + ((n + 1 : Nat) : Int) = o + ((n + 1 + 1 : Nat) : Int) by push_cast; omega]; exact h)
    · rw [if_neg hc] at h ⊢
      rcases List.mem_cons.1 h with h | h
      · push_cast at h; omega
      · have := up_sub l (o - 1) (n + 2) (by rw [show o - 1 + ((n + 2 : Nat) : Int) = o + ((n + 1 : Nat) : Int) by push_cast; omega]; exact h)
        refine List.Sublist.cons _ (List.Sublist.trans ?_ this)
        show up o (n + 1) <+ (o - 1 + 1) :: up (o - 1 + 1) (n + 1)
        rw [show o - 1 + 1 = o by omega]
        exact List.sublist_cons_self _ _
theorem pair_len : ∀ (s : List Int) (lo hi : Int), s.Pairwise (fun a b => a < b) → (∀ x ∈ s, lo ≤ x ∧ x ≤ hi) → (s.length : Int) ≤ max 0 (hi - lo + 1)
  | [], _, _, _, _ => by simp; omega
  | a :: s, lo, hi, hp, hb => by
    have ha := hb a (by simp)
    have := pair_len s (a + 1) hi (List.pairwise_cons.1 hp).2 (fun x hx => ⟨by have := (List.pairwise_cons.1 hp).1 x hx; omega, (hb x (by simp [hx])).2⟩)
    rw [List.length_cons]
    push_cast
    omega
def mxI (l : List Int) : Int := l.foldl (fun m x => if m < x then x else m) 0
theorem mxI_snoc (l : List Int) (x : Int) : mxI (l ++ [x]) = if mxI l < x then x else mxI l := by unfold mxI; rw [List.foldl_append]; rfl
theorem mxI_spec (l : List Int) : 0 ≤ mxI l ∧ (∀ x ∈ l, x ≤ mxI l) ∧ (mxI l = 0 ∨ mxI l ∈ l) := by
  refine snocInd (P := fun l => 0 ≤ mxI l ∧ (∀ x ∈ l, x ≤ mxI l) ∧ (mxI l = 0 ∨ mxI l ∈ l)) ⟨Int.le_refl _, by simp, .inl rfl⟩ ?_ l
  intro l x ih
  rw [mxI_snoc]
  obtain ⟨h1, h2, h3⟩ := ih
  by_cases hx : mxI l < x
  · rw [if_pos hx]
    refine ⟨by omega, fun y hy => ?_, .inr (by simp)⟩
    rcases List.mem_append.1 hy with hy | hy
    · have := h2 y hy; omega
    · rw [List.mem_singleton.1 hy]; omega
  · rw [if_neg hx]
    refine ⟨h1, fun y hy => ?_, ?_⟩
    · rcases List.mem_append.1 hy with hy | hy
      · exact h2 y hy
      · rw [List.mem_singleton.1 hy]; omega
    · rcases h3 with h3 | h3
      · exact .inl h3
      · exact .inr (List.mem_append_left _ h3)
/-- how deep a text is tells how far the depths rise -/
theorem deep_rises (l : List UInt8) (hb : Bal 0 l) : mxI (deep 0 l) ≤ ((piles (deep 0 l)).length : Int) ∧ ((piles (deep 0 l)).length : Int) ≤ mxI (deep 0 l) + 1 := by
  obtain ⟨⟨s, s1, s2, s3⟩, hmax⟩ := lis_piles (deep 0 l)
  obtain ⟨m1, m2, m3⟩ := mxI_spec (deep 0 l)
  constructor
  · rcases m3 with m3 | m3
    · omega
    · have hsub := up_sub l 0 (mxI (deep 0 l)).toNat (by rw [show (0 : Int) + ((mxI (deep 0 l)).toNat : Int) = mxI (deep 0 l) by omega]; exact m3)
      have := hmax _ hsub (up_pair _ _)
      rw [up_length] at this
      omega
  · have hb2 : ∀ x ∈ s, 0 ≤ x ∧ x ≤ mxI (deep 0 l) := by
      intro x hx
      have hx' := s1.subset hx
      refine ⟨?_, m2 x hx'⟩
      obtain ⟨k, hk⟩ := List.getElem?_of_mem hx'
      have hkl : k < l.length := by
        have := (List.getElem?_eq_some_iff.1 hk).1
        rwa [deep_length] at this
      have := deep_at l 0 k l[k] (List.getElem?_eq_getElem hkl)
      rw [hk] at this
      have e := Option.some.inj this.1
      rw [e]
      exact (bal_opn l 0 (k + 1) (Int.le_refl _) hb (by omega)).1
    have := pair_len s 0 (mxI (deep 0 l)) s2 hb2
    rw [s3] at this
    omega
end Go.Proofs.Ytlchgjlinhakdaa.Dy
