/-
  Move to front, in plain lists: there and back are inverse; what stood lately is near. No program in sight, no condition.
-/
namespace Go.Proofs.Ytfjjjkfldekooaa.Ft

/-- the row with a place put to its front -/
def mv (row : List UInt8) (i : Nat) : List UInt8 := row.getD i 0 :: (row.take i ++ row.drop (i + 1))
/-- all bytes, rising -/
def allB : List UInt8 := (List.range 256).map UInt8.ofNat
/-- the row behind the bytes of s -/
def rowT : List UInt8 → List UInt8 → List UInt8
  | row, [] => row
  | row, c :: s => rowT (mv row (row.idxOf c)) s
def there : List UInt8 → List UInt8 → List Nat
  | _, [] => []
  | row, c :: s => row.idxOf c :: there (mv row (row.idxOf c)) s
def rowB : List UInt8 → List Nat → List UInt8
  | row, [] => row
  | row, i :: l => rowB (mv row i) l
def back : List UInt8 → List Nat → List UInt8
  | _, [] => []
  | row, i :: l => row.getD i 0 :: back (mv row i) l

/-- a row of all bytes, each once -/
def Full (row : List UInt8) : Prop := row.length = 256 ∧ row.Nodup ∧ ∀ c : UInt8, c ∈ row

theorem mv_perm {row : List UInt8} {i : Nat} (h : i < row.length) : (mv row i).Perm row := by
  have e : row = row.take i ++ (row.getD i 0 :: row.drop (i + 1)) := by
    conv => lhs; rw [← List.take_append_drop i row, List.drop_eq_getElem_cons h]
    simp [List.getD_eq_getElem?_getD, List.getElem?_eq_getElem h]
  unfold mv
  conv => rhs; rw [e]
  exact List.perm_middle.symm
theorem Full.mv {row : List UInt8} {i : Nat} (h : Full row) (hi : i < 256) : Full (mv row i) := by
  have hp := mv_perm (row := row) (i := i) (by rw [h.1]; exact hi)
  exact ⟨by rw [hp.length_eq, h.1], hp.nodup_iff.2 h.2.1, fun c => hp.mem_iff.2 (h.2.2 c)⟩
theorem full_all : Full allB := by
  refine ⟨by simp [allB], ?_, ?_⟩
  · unfold allB
    rw [List.nodup_iff_pairwise_ne, List.pairwise_map]
    refine List.Pairwise.imp_of_mem ?_ List.nodup_range
    intro a b ha hb hne he
    simp at ha hb
    apply hne
    have := congrArg UInt8.toNat he
    simp at this
    omega
  · intro c
    unfold allB
    rw [List.mem_map]
    exact ⟨c.toNat, by have := c.toNat_lt; simpa using this, by simp⟩

theorem idx_lt {row : List UInt8} (h : Full row) (c : UInt8) : row.idxOf c < 256 := by
  have := List.idxOf_lt_length_of_mem (h.2.2 c)
  rwa [h.1] at this
theorem get_idx {row : List UInt8} (h : Full row) (c : UInt8) : row.getD (row.idxOf c) 0 = c := by
  have := List.idxOf_lt_length_of_mem (h.2.2 c)
  rw [List.getD_eq_getElem?_getD, List.getElem?_eq_getElem this]
  simp
theorem idx_get {row : List UInt8} (h : Full row) {i : Nat} (hi : i < 256) : row.idxOf (row.getD i 0) = i := by
  have hi' : i < row.length := by rw [h.1]; exact hi
  rw [List.getD_eq_getElem?_getD, List.getElem?_eq_getElem hi']
  exact h.2.1.idxOf_getElem i hi'

theorem back_there : ∀ (s row : List UInt8), Full row → back row (there row s) = s := by
  intro s
  induction s with
  | nil => intro row _; rfl
  | cons c s ih =>
    intro row h
    simp only [there, back]
    rw [get_idx h, ih _ (h.mv (idx_lt h c))]
theorem there_back : ∀ (l : List Nat) (row : List UInt8), Full row → (∀ n ∈ l, n < 256) → there row (back row l) = l := by
  intro l
  induction l with
  | nil => intro row _ _; rfl
  | cons n l ih =>
    intro row h hl
    have hn := hl n (by simp)
    simp only [there, back]
    rw [idx_get h hn, ih _ (h.mv hn) (fun m hm => hl m (by simp [hm]))]
theorem there_length : ∀ (s row : List UInt8), (there row s).length = s.length := by
  intro s
  induction s with
  | nil => intro row; rfl
  | cons c s ih => intro row; simp [there, ih]
theorem back_length : ∀ (l : List Nat) (row : List UInt8), (back row l).length = l.length := by
  intro l
  induction l with
  | nil => intro row; rfl
  | cons c s ih => intro row; simp [back, ih]
theorem there_lt : ∀ (s row : List UInt8), Full row → ∀ n ∈ there row s, n < 256 := by
  intro s
  induction s with
  | nil => intro row _ n hn; simp [there] at hn
  | cons c s ih =>
    intro row h n hn
    simp only [there, List.mem_cons] at hn
    rcases hn with rfl | hn
    · exact idx_lt h c
    · exact ih _ (h.mv (idx_lt h c)) n hn

/-! ### one by one, as the loops go -/
theorem rowT_snoc : ∀ (s row : List UInt8) (c : UInt8), rowT row (s ++ [c]) = mv (rowT row s) ((rowT row s).idxOf c) := by
  intro s
  induction s with
  | nil => intro row c; rfl
  | cons d s ih => intro row c; simp only [List.cons_append, rowT]; exact ih _ c
theorem there_snoc : ∀ (s row : List UInt8) (c : UInt8), there row (s ++ [c]) = there row s ++ [(rowT row s).idxOf c] := by
  intro s
  induction s with
  | nil => intro row c; rfl
  | cons d s ih => intro row c; simp only [List.cons_append, there, rowT]; rw [ih]
theorem rowB_snoc : ∀ (l : List Nat) (row : List UInt8) (n : Nat), rowB row (l ++ [n]) = mv (rowB row l) n := by
  intro l
  induction l with
  | nil => intro row n; rfl
  | cons d l ih => intro row n; simp only [List.cons_append, rowB]; exact ih _ n
theorem back_snoc : ∀ (l : List Nat) (row : List UInt8) (n : Nat), back row (l ++ [n]) = back row l ++ [(rowB row l).getD n 0] := by
  intro l
  induction l with
  | nil => intro row n; rfl
  | cons d l ih => intro row n; simp only [List.cons_append, back, rowB]; rw [ih]
theorem Full.rowT : ∀ (s row : List UInt8), Full row → Full (rowT row s) := by
  intro s
  induction s with
  | nil => intro row h; exact h
  | cons c s ih => intro row h; exact ih _ (h.mv (idx_lt h c))
theorem Full.rowB : ∀ (l : List Nat) (row : List UInt8), Full row → (∀ n ∈ l, n < 256) → Full (rowB row l) := by
  intro l
  induction l with
  | nil => intro row h _; exact h
  | cons n l ih => intro row h hl; exact ih _ (h.mv (hl n (by simp))) (fun m hm => hl m (by simp [hm]))

/-! ### lately is near -/
/-- each byte once, in the order of the list, behind those of acc -/
def dd : List UInt8 → List UInt8 → List UInt8
  | acc, [] => acc
  | acc, c :: r => dd (if c ∈ acc then acc else acc ++ [c]) r

theorem dd_append : ∀ (r s acc : List UInt8), dd acc (r ++ s) = dd (dd acc r) s := by
  intro r
  induction r with
  | nil => intro s acc; rfl
  | cons c r ih => intro s acc; simp only [List.cons_append, dd]; exact ih _ _
theorem dd_prefix : ∀ (r acc : List UInt8), acc <+: dd acc r := by
  intro r
  induction r with
  | nil => intro acc; exact List.prefix_rfl
  | cons c r ih =>
    intro acc
    simp only [dd]
    split
    · exact ih _
    · exact (List.prefix_append _ _).trans (ih _)
theorem mem_dd : ∀ (r acc : List UInt8) (c : UInt8), c ∈ dd acc r ↔ c ∈ acc ∨ c ∈ r := by
  intro r
  induction r with
  | nil => intro acc c; simp [dd]
  | cons d r ih =>
    intro acc c
    simp only [dd, ih, List.mem_cons]
    by_cases h : d ∈ acc
    · rw [if_pos h]
      constructor
      · rintro (h1 | h1)
        · exact .inl h1
        · exact .inr (.inr h1)
      · rintro (h1 | rfl | h1)
        · exact .inl h1
        · exact .inl h
        · exact .inr h1
    · rw [if_neg h]; simp [or_assoc]
/-- with c ahead -/
theorem dd_cons : ∀ (r acc : List UInt8) (c : UInt8), dd (c :: acc.filter (· != c)) r = c :: (dd acc r).filter (· != c) := by
  intro r
  induction r with
  | nil => intro acc c; rfl
  | cons d r ih =>
    intro acc c
    simp only [dd]
    by_cases hd : d = c
    · subst hd
      rw [if_pos (by simp)]
      by_cases h : d ∈ acc
      · rw [if_pos h]; exact ih acc d
      · rw [if_neg h, ← ih (acc ++ [d]) d]
        simp
    · have e : d ∈ c :: acc.filter (· != c) ↔ d ∈ acc := by simp [hd]
      by_cases h : d ∈ acc
      · rw [if_pos h, if_pos (e.2 h)]; exact ih acc c
      · rw [if_neg h, if_neg (fun h' => h (e.1 h')), ← ih (acc ++ [d]) c]
        simp [hd]
theorem dd_nodup : ∀ (r acc : List UInt8), acc.Nodup → (dd acc r).Nodup := by
  intro r
  induction r with
  | nil => intro acc h; exact h
  | cons c r ih =>
    intro acc h
    simp only [dd]
    split
    · exact ih _ h
    · rename_i hc
      apply ih
      rw [List.nodup_append]
      refine ⟨h, by simp, ?_⟩
      intro x hx y hy e
      simp at hy
      subst hy; subst e
      exact hc hx

theorem mv_eq {row : List UInt8} (h : row.Nodup) {c : UInt8} (hc : c ∈ row) : mv row (row.idxOf c) = c :: row.filter (· != c) := by
  have hlt := List.idxOf_lt_length_of_mem hc
  unfold mv
  have e1 : row.getD (row.idxOf c) 0 = c := by
    rw [List.getD_eq_getElem?_getD, List.getElem?_eq_getElem hlt]; simp
  rw [e1, ← h.erase_eq_filter, List.erase_eq_eraseIdx_of_idxOf rfl, List.eraseIdx_eq_take_drop_succ]

/-- the row behind s: its bytes, the latest first; then the others -/
theorem rowT_recent (s row : List UInt8) (h : Full row) : ∃ rest, rowT row s = dd [] s.reverse ++ rest ∧ ∀ c ∈ s, c ∉ rest := by
  suffices H : ∀ (s : List UInt8), ∃ rest, rowT row s.reverse = dd [] s ++ rest ∧ ∀ c ∈ s, c ∉ rest by
    obtain ⟨rest, h1, h2⟩ := H s.reverse
    rw [List.reverse_reverse] at h1
    exact ⟨rest, h1, fun c hc => h2 c (by simpa using hc)⟩
  intro s
  induction s with
  | nil => exact ⟨row, by simp [rowT, dd], by simp⟩
  | cons c s ih =>
    obtain ⟨rest, h1, h2⟩ := ih
    have hf := Full.rowT s.reverse row h
    rw [List.reverse_cons, rowT_snoc, mv_eq hf.2.1 (hf.2.2 c), h1]
    refine ⟨rest.filter (· != c), ?_, ?_⟩
    · have := dd_cons s [] c
      simp only [List.filter_nil] at this
      show _ = dd (if c ∈ [] then [] else [] ++ [c]) s ++ _
      rw [if_neg (by simp), List.nil_append, this]
      simp
    · intro d hd
      simp only [List.mem_cons] at hd
      rcases hd with rfl | hd
      · simp
      · simp [h2 d hd]
/-- its place, where it stood last -/
theorem near (row : List UInt8) (h : Full row) (u v : List UInt8) (c : UInt8) (hv : c ∉ v) : (rowT row (u ++ c :: v)).idxOf c = (dd [] v.reverse).length := by
  obtain ⟨rest, h1, _⟩ := rowT_recent (u ++ c :: v) row h
  have e : (u ++ c :: v).reverse = v.reverse ++ (c :: u.reverse) := by simp
  have hn : c ∉ dd [] v.reverse := by rw [mem_dd]; simp [hv]
  rw [h1, e, dd_append]
  obtain ⟨t, ht⟩ := dd_prefix u.reverse (dd [] v.reverse ++ [c])
  show ((dd (if c ∈ dd [] v.reverse then _ else dd [] v.reverse ++ [c]) u.reverse) ++ rest).idxOf c = _
  rw [if_neg hn, ← ht]
  simp [List.idxOf_append, hn]
/-- its place, where it did not stand -/
theorem far (row : List UInt8) (h : Full row) (u : List UInt8) (c : UInt8) (hu : c ∉ u) : (dd [] u.reverse).length ≤ (rowT row u).idxOf c := by
  obtain ⟨rest, h1, _⟩ := rowT_recent u row h
  have hn : c ∉ dd [] u.reverse := by rw [mem_dd]; simp [hu]
  rw [h1]
  simp [List.idxOf_append, hn]
end Go.Proofs.Ytfjjjkfldekooaa.Ft
