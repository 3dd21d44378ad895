/-
  Lempel and Ziv's pieces, in plain lists: what the loop of Write comes to, and that Read brings it back. No program in sight, no condition.
-/
namespace Go.Proofs.Ytkmhiomjnbdmoaa.Lp

abbrev Pc := Nat × UInt8

theorem snocInd {α : Type} {P : List α → Prop} (h0 : P []) (h1 : ∀ l a, P l → P (l ++ [a])) : ∀ l, P l := by
  have h : ∀ r : List α, P r.reverse := by
    intro r
    induction r with
    | nil => exact h0
    | cons a r ih => rw [List.reverse_cons]; exact h1 _ _ ih
  intro l
  have := h l.reverse
  rwa [List.reverse_reverse] at this

def step (last : Bool) (t : Nat × List Pc) (c : UInt8) : Nat × List Pc :=
  if t.2.contains (t.1, c) && !last then (t.2.idxOf (t.1, c) + 1, t.2) else (0, t.2 ++ [(t.1, c)])

theorem step_keep {l : List Pc} {a k n : Nat} {c : UInt8} (h : l.contains (a, c) = true) (hn : k + 1 < n) : step (decide (n ≤ k + 1)) (a, l) c = (l.idxOf (a, c) + 1, l) := by
  simp only [step, h, decide_eq_false (show ¬ n ≤ k + 1 by omega)]; rfl
theorem step_last {l : List Pc} {a k n : Nat} {c : UInt8} (hn : n ≤ k + 1) : step (decide (n ≤ k + 1)) (a, l) c = (0, l ++ [(a, c)]) := by
  simp [step, decide_eq_true hn]
theorem step_new {l : List Pc} {a : Nat} {c : UInt8} {b : Bool} (h : l.contains (a, c) = false) : step b (a, l) c = (0, l ++ [(a, c)]) := by
  simp only [step, h]; rfl

/-- the state behind k bytes of s -/
def st (s : List UInt8) : Nat → Nat × List Pc
  | 0 => (0, [])
  | k + 1 => step (decide (s.length ≤ k + 1)) (st s k) (s.getD k 0)

def pieces (s : List UInt8) : List Pc := (st s s.length).2

theorem pieces_at {s : List UInt8} {n : Nat} (h : s.length = n) : pieces s = (st s n).2 := by rw [← h]; rfl

/-- the texts that pieces stand for, the empty one first -/
def texts (l : List Pc) : List (List UInt8) := l.foldl (fun ts p => ts ++ [ts.getD p.1 [] ++ [p.2]]) [[]]

def out (l : List Pc) : List UInt8 := ((texts l).drop 1).flatten

theorem texts_snoc (l : List Pc) (p : Pc) : texts (l ++ [p]) = texts l ++ [(texts l).getD p.1 [] ++ [p.2]] := by
  simp [texts, List.foldl_append]

theorem texts_length (l : List Pc) : (texts l).length = l.length + 1 := by
  induction l using snocInd with
  | h0 => rfl
  | h1 l p ih => simp [texts_snoc, ih]

theorem out_snoc (l : List Pc) (p : Pc) : out (l ++ [p]) = out l ++ ((texts l).getD p.1 [] ++ [p.2]) := by
  have h : 1 ≤ (texts l).length := by rw [texts_length]; omega
  unfold out
  rw [texts_snoc, List.drop_append_of_le_length h]
  simp

def Valid (l : List Pc) : Prop := ∀ (i : Nat) (p : Pc), l[i]? = some p → p.1 ≤ i

theorem valid_nil : Valid [] := by intro i p h; simp at h
theorem valid_snoc {l : List Pc} {p : Pc} (h : Valid l) (hp : p.1 ≤ l.length) : Valid (l ++ [p]) := by
  intro i q hq
  rcases Nat.lt_or_ge i l.length with hi | hi
  · rw [List.getElem?_append_left hi] at hq; exact h i q hq
  · rw [List.getElem?_append_right hi] at hq
    have hi' : i - l.length = 0 := by
      rcases Nat.eq_zero_or_pos (i - l.length) with h0 | h0
      · exact h0
      · rw [List.getElem?_eq_none (by simp; omega)] at hq; cases hq
    rw [hi'] at hq
    simp at hq
    subst hq
    omega

theorem texts_append_get (l r : List Pc) (i : Nat) (h : i ≤ l.length) : (texts (l ++ r))[i]? = (texts l)[i]? := by
  induction r using snocInd with
  | h0 => simp
  | h1 r p ih =>
    rw [← List.append_assoc, texts_snoc, List.getElem?_append_left (by rw [texts_length]; simp; omega), ih]

theorem getD_eq {l r : List (List UInt8)} {i : Nat} (h : l[i]? = r[i]?) : l.getD i [] = r.getD i [] := by
  simp [List.getD_eq_getElem?_getD, h]

theorem texts_get {l : List Pc} (hv : Valid l) {i : Nat} {p : Pc} (h : l[i]? = some p) : (texts l)[i + 1]? = some ((texts l).getD p.1 [] ++ [p.2]) := by
  obtain ⟨hi, he⟩ := List.getElem?_eq_some_iff.1 h
  have hp := hv i p h
  have hl : l = (l.take i ++ [p]) ++ l.drop (i + 1) := by
    conv => lhs; rw [← List.take_append_drop (i + 1) l, List.take_succ_eq_append_getElem hi, he]
  have hlen : (l.take i).length = i := by simp; omega
  have e1 : (texts l).getD p.1 [] = (texts (l.take i)).getD p.1 [] := by
    apply getD_eq
    have := texts_append_get (l.take i) ([p] ++ l.drop (i + 1)) p.1 (by rw [hlen]; exact hp)
    rw [← List.append_assoc, ← hl] at this
    exact this
  have e2 : (texts l)[i + 1]? = (texts (l.take i ++ [p]))[i + 1]? := by
    conv => lhs; rw [hl]
    rw [texts_append_get _ _ _ (by simp; omega)]
  rw [e1, e2, texts_snoc, List.getElem?_append_right (by rw [texts_length, hlen]; omega), texts_length, hlen]
  simp

/-- what holds of the state behind k bytes -/
structure Ok (s : List UInt8) (k : Nat) (t : Nat × List Pc) : Prop where
  valid : Valid t.2
  at_le : t.1 ≤ t.2.length
  text : s.take k = out t.2 ++ (texts t.2).getD t.1 []
  fin : k = s.length → t.1 = 0
  nodup : k < s.length → t.2.Nodup
  nodup' : t.2.dropLast.Nodup
  len : t.2.length ≤ k

theorem getD_zero (l : List Pc) : (texts l).getD 0 [] = [] := by
  have h : (texts ([] ++ l))[0]? = (texts [])[0]? := texts_append_get [] l 0 (by simp)
  simp only [List.nil_append] at h
  have : (texts l).getD 0 [] = (texts []).getD 0 [] := getD_eq h
  rw [this]; rfl

theorem idxOf_get {l : List Pc} {p : Pc} (h : p ∈ l) : l[l.idxOf p]? = some p := by
  have hlt := List.idxOf_lt_length_of_mem h
  rw [List.getElem?_eq_getElem hlt, List.getElem_idxOf]

theorem st_ok (s : List UInt8) : ∀ k, k ≤ s.length → Ok s k (st s k) := by
  intro k
  induction k with
  | zero =>
    intro _
    exact ⟨valid_nil, Nat.zero_le _, by simp [st, out, texts], fun _ => rfl, fun _ => by simp [st], by simp [st], by simp [st]⟩
  | succ k ih =>
    intro hk
    have H := ih (by omega)
    have hlt : k < s.length := by omega
    have htake : s.take (k + 1) = s.take k ++ [s.getD k 0] := by
      rw [List.take_succ_eq_append_getElem hlt]; simp [List.getD_eq_getElem?_getD, hlt]
    generalize hc : s.getD k 0 = c at htake
    have hst : st s (k + 1) = step (decide (s.length ≤ k + 1)) (st s k) c := by rw [← hc]; rfl
    rw [hst]
    generalize st s k = t at H
    obtain ⟨a, l⟩ := t
    have hn := H.nodup hlt
    unfold step
    simp only
    split
    · rename_i hin
      simp at hin
      obtain ⟨hin, hlast⟩ := hin
      refine ⟨H.valid, ?_, ?_, fun h => by omega, fun _ => hn, H.nodup', Nat.le_succ_of_le H.len⟩
      · have := List.idxOf_lt_length_of_mem hin; simp only; omega
      · have := texts_get H.valid (idxOf_get hin)
        simp only [List.getD_eq_getElem?_getD] at this ⊢
        rw [this, htake, H.text]
        simp [List.getD_eq_getElem?_getD]
    · rename_i hin
      refine ⟨valid_snoc H.valid H.at_le, Nat.zero_le _, ?_, fun _ => rfl, ?_, by simpa using hn, by simpa using H.len⟩
      · rw [getD_zero, out_snoc, htake, H.text]; simp
      · intro h
        simp at hin
        have : (a, c) ∉ l := fun hm => by have := hin hm; omega
        simp only [List.nodup_append, List.nodup_cons, List.not_mem_nil, not_false_eq_true, List.nodup_nil, and_self, true_and]
        refine ⟨hn, ?_⟩
        intro x hx y hy
        simp at hy
        subst hy
        intro e
        subst e
        exact this hx

theorem pieces_ok (s : List UInt8) : Ok s s.length (st s s.length) := st_ok s _ (Nat.le_refl _)
theorem pieces_valid (s : List UInt8) : Valid (pieces s) := (pieces_ok s).valid
theorem pieces_out (s : List UInt8) : out (pieces s) = s := by
  have H := pieces_ok s
  have h := H.text
  rw [H.fin rfl, getD_zero] at h
  simp only [List.take_length, List.append_nil] at h
  exact h.symm
theorem pieces_length (s : List UInt8) : (pieces s).length ≤ s.length := (pieces_ok s).len
theorem pieces_nodup (s : List UInt8) : (pieces s).dropLast.Nodup := (pieces_ok s).nodup'
theorem st_length (s : List UInt8) (k : Nat) (h : k ≤ s.length) : (st s k).2.length ≤ k := (st_ok s k h).len
theorem st_at (s : List UInt8) (k : Nat) (h : k ≤ s.length) : (st s k).1 ≤ k := Nat.le_trans (st_ok s k h).at_le (st_ok s k h).len

/-! ### Read -/

/-- what Read comes to: the text, what is wrong -/
def rd : List (Int × UInt8) → Nat → List (List UInt8) → List UInt8 → List UInt8 × Int
  | [], _, _, o => (o, 0)
  | p :: r, i, ts, o =>
    if 0 ≤ p.1 ∧ p.1 ≤ i then
      if 1000 < o.length + (ts.getD p.1.toNat [] ++ [p.2]).length then ([], 4)
      else rd r (i + 1) (ts ++ [ts.getD p.1.toNat [] ++ [p.2]]) (o ++ (ts.getD p.1.toNat [] ++ [p.2]))
    else ([], 1)
def readP (l : List (Int × UInt8)) : List UInt8 × Int := if 1000 < l.length then ([], 4) else rd l 0 [[]] []

def ofPc (p : Pc) : Int × UInt8 := ((p.1 : Int), p.2)

theorem out_mono (l r : List Pc) : (out l).length ≤ (out (l ++ r)).length := by
  induction r using snocInd with
  | h0 => simp
  | h1 r p ih => rw [← List.append_assoc, out_snoc]; simp; omega

theorem rd_ok : ∀ (r l : List Pc), Valid (l ++ r) → (out (l ++ r)).length ≤ 1000 → rd (r.map ofPc) l.length (texts l) (out l) = (out (l ++ r), 0) := by
  intro r
  induction r with
  | nil => intro l _ _; simp [rd]
  | cons p r ih =>
    intro l hv hlen
    have hp : p.1 ≤ l.length := by
      have := hv l.length p (by simp)
      exact this
    have e : l ++ p :: r = (l ++ [p]) ++ r := by simp
    rw [e] at hv hlen ⊢
    have hm := out_mono (l ++ [p]) r
    rw [out_snoc] at hm
    rw [List.length_append] at hm
    rw [List.map_cons, rd, if_pos (by simp [ofPc]; omega)]
    have h4 : ¬ 1000 < (out l).length + ((texts l).getD (ofPc p).1.toNat [] ++ [(ofPc p).2]).length := by simp only [ofPc, Int.toNat_natCast]; omega
    rw [if_neg h4]
    have := ih (l ++ [p]) hv hlen
    rw [texts_snoc, out_snoc] at this
    simpa [ofPc] using this

theorem read_pieces (s : List UInt8) (h : s.length ≤ 1000) : readP ((pieces s).map ofPc) = (s, 0) := by
  have hl := pieces_length s
  unfold readP
  rw [if_neg (by simp; omega)]
  have := rd_ok (pieces s) [] (by simpa using pieces_valid s) (by simp [pieces_out]; omega)
  rw [List.nil_append, pieces_out] at this
  exact this

/-! ### More -/
theorem step_mono (b : Bool) (t : Nat × List Pc) (c : UInt8) : t.2 <+: (step b t c).2 := by
  unfold step
  split
  · exact List.prefix_rfl
  · exact List.prefix_append _ _
theorem st_mono (s : List UInt8) (k : Nat) : ∀ j, (st s k).2 <+: (st s (k + j)).2 := by
  intro j
  induction j with
  | zero => exact List.prefix_rfl
  | succ j ih => exact ih.trans (step_mono _ _ _)
theorem st_more (s more : List UInt8) : ∀ k, k < s.length → st (s ++ more) k = st s k := by
  intro k
  induction k with
  | zero => intro _; rfl
  | succ k ih =>
    intro hk
    have e1 : (s ++ more).getD k 0 = s.getD k 0 := by
      simp [List.getD_eq_getElem?_getD, List.getElem?_append_left (show k < s.length by omega)]
    have e2 : decide ((s ++ more).length ≤ k + 1) = decide (s.length ≤ k + 1) := by
      rw [decide_eq_false (by simp; omega), decide_eq_false (by omega)]
    show step _ (st (s ++ more) k) _ = step _ (st s k) _
    rw [ih (by omega), e1, e2]
theorem pieces_last (s : List UInt8) (h : 0 < s.length) : ∃ p, pieces s = (st s (s.length - 1)).2 ++ [p] := by
  obtain ⟨n, hn⟩ : ∃ n, s.length = n + 1 := ⟨s.length - 1, by omega⟩
  unfold pieces
  rw [hn]
  have : decide (s.length ≤ n + 1) = true := by simp; omega
  exact ⟨_, by simp only [st, step, this]; simp; rfl⟩
theorem pieces_more (s more : List UInt8) : (pieces s).dropLast <+: pieces (s ++ more) ∧ (pieces s).length ≤ (pieces (s ++ more)).length := by
  rcases Nat.eq_zero_or_pos s.length with h0 | h0
  · have : s = [] := List.eq_nil_of_length_eq_zero h0
    subst this
    simp [pieces, st]
  · obtain ⟨p, hp⟩ := pieces_last s h0
    obtain ⟨q, hq⟩ := pieces_last (s ++ more) (by simp; omega)
    have hm := st_mono (s ++ more) (s.length - 1) ((s ++ more).length - 1 - (s.length - 1))
    rw [show s.length - 1 + ((s ++ more).length - 1 - (s.length - 1)) = (s ++ more).length - 1 by simp; omega, st_more s more _ (by omega)] at hm
    rw [hp, hq]
    refine ⟨by simpa using hm.trans (List.prefix_append _ _), ?_⟩
    have := hm.length_le
    rw [List.length_append, List.length_append]
    simp only [List.length_cons, List.length_nil]
    omega
end Go.Proofs.Ytkmhiomjnbdmoaa.Lp
