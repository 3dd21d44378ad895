/-
  Plain: turning back. The places of a text by their bytes, stable; what comes out when they are followed; and that it is the turn.
-/
import Derived.Test.YtfjjjkfldekooaaBefP
namespace Go.Proofs.Ytfjjjkfldekooaa
set_option linter.unusedVariables false
set_option linter.unusedSimpArgs false

/-- a is not behind b -/
def leL (a b : List UInt8) : Prop := bef b a = false
theorem leL_refl (a : List UInt8) : leL a a := bef_irrefl a
theorem leL_antisymm {a b : List UInt8} (h : leL a b) (h' : leL b a) : a = b := bef_total a b h' h
theorem bef_lt : ∀ a b : List UInt8, bef a b = true ↔ a < b
  | a, [] => by simp [bef]
  | [], y :: b => by simp [bef]
  | x :: a, y :: b => by
    rw [List.cons_lt_cons_iff]
    by_cases h : x = y
    · subst h
      rw [bef_same, bef_lt a b]
      simp [UInt8.lt_irrefl]
    · rw [bef_diff h]
      simp [h, UInt8.lt_iff_toNat_lt]
theorem leL_iff (a b : List UInt8) : leL a b ↔ a ≤ b := by
  unfold leL
  rw [← Bool.not_eq_true, bef_lt, List.not_lt]

def byN (t : List UInt8) (i : Nat) : UInt8 := t[i]?.getD 0
/-- place i stands ahead of place j -/
def ltF (t : List UInt8) (i j : Nat) : Prop := (byN t i).toNat < (byN t j).toNat ∨ (byN t i = byN t j ∧ i < j)
structure IsFrom (t : List UInt8) (F : List Nat) : Prop where
  perm : F.Perm (List.range t.length)
  sorted : F.Pairwise (ltF t)
theorem ltF_asymm {t : List UInt8} {i j : Nat} (h : ltF t i j) (h2 : ltF t j i) : False := by
  rcases h with h | ⟨e, h⟩ <;> rcases h2 with h2 | ⟨e2, h2⟩
  · omega
  · rw [e2] at h; omega
  · rw [e] at h2; omega
  · omega
theorem IsFrom.unique {t : List UInt8} {F G : List Nat} (h : IsFrom t F) (h' : IsFrom t G) : F = G :=
  List.Perm.eq_of_pairwise (le := ltF t) (fun a b _ _ h1 h2 => (ltF_asymm h1 h2).elim) h.sorted h'.sorted (h.perm.trans h'.perm.symm)
theorem IsFrom.length {t : List UInt8} {F : List Nat} (h : IsFrom t F) : F.length = t.length := by rw [h.perm.length_eq, List.length_range]
theorem IsFrom.lt {t : List UInt8} {F : List Nat} (h : IsFrom t F) {x : Nat} (hx : x ∈ F) : x < t.length := List.mem_range.1 (h.perm.mem_iff.1 hx)

theorem from_rows {t : List UInt8} {F : List Nat} (h : IsFrom t F) (R : Nat → List UInt8) (hs : ∀ i j, i < j → j < t.length → leL (R i) (R j)) :
    (F.map fun i => byN t i :: R i).Pairwise leL := by
  rw [List.pairwise_map]
  refine List.Pairwise.imp_of_mem ?_ h.sorted
  intro i j hi hj hij
  unfold leL
  rcases hij with hlt | ⟨e, hij⟩
  · rw [bef_diff (by intro e; rw [e] at hlt; omega)]
    simp
    omega
  · rw [e, bef_same]
    exact hs i j hij (h.lt hj)

/-- one step back -/
def nxF (F : List Nat) (k : Nat) : Nat := F[k]?.getD 0
theorem nxF_lt {t : List UInt8} {F : List Nat} (h : IsFrom t F) {k : Nat} (hk : k < t.length) : nxF F k < t.length := by
  unfold nxF
  have hk' : k < F.length := by rw [h.length]; exact hk
  rw [List.getElem?_eq_getElem hk']
  exact h.lt (List.getElem_mem hk')
/-- what comes out in m steps -/
def rowF (t : List UInt8) (F : List Nat) : Nat → Nat → List UInt8
  | 0, _ => []
  | m + 1, k => byN t (nxF F k) :: rowF t F m (nxF F k)
theorem rowF_length (t : List UInt8) (F : List Nat) (m k : Nat) : (rowF t F m k).length = m := by
  induction m generalizing k with
  | zero => rfl
  | succ m ih => simp [rowF, ih]
/-- where one stands after m steps -/
def plF (F : List Nat) (k : Nat) : Nat → Nat
  | 0 => k
  | m + 1 => nxF F (plF F k m)
theorem plF_lt {t : List UInt8} {F : List Nat} (h : IsFrom t F) {k : Nat} (hk : k < t.length) (m : Nat) : plF F k m < t.length := by
  induction m with
  | zero => exact hk
  | succ m ih => exact nxF_lt h ih
theorem plF_shift (F : List Nat) (k m : Nat) : plF F (nxF F k) m = plF F k (m + 1) := by
  induction m with
  | zero => rfl
  | succ m ih => show nxF F (plF F (nxF F k) m) = _; rw [ih]; rfl
theorem rowF_snoc (t : List UInt8) (F : List Nat) (m k : Nat) : rowF t F (m + 1) k = rowF t F m k ++ [byN t (plF F k (m + 1))] := by
  induction m generalizing k with
  | zero => rfl
  | succ m ih =>
    show byN t (nxF F k) :: rowF t F (m + 1) (nxF F k) = byN t (nxF F k) :: rowF t F m (nxF F k) ++ _
    rw [ih, plF_shift]; rfl
theorem map_range_getD {α : Type} (l : List α) (d : α) : (List.range l.length).map (fun i => l[i]?.getD d) = l := by
  refine List.ext_getElem (by simp) fun i h1 h2 => ?_
  simp [List.getElem?_eq_getElem h2]
theorem map_nxF {α : Type} {t : List UInt8} {F : List Nat} (h : IsFrom t F) (g : Nat → α) : (List.range t.length).map (fun k => g (nxF F k)) = F.map g := by
  have := congrArg (List.map g) (map_range_getD F 0)
  rw [List.map_map, h.length] at this
  exact this
theorem rowF_sorted {t : List UInt8} {F : List Nat} (h : IsFrom t F) (m : Nat) : ((List.range t.length).map (rowF t F m)).Pairwise leL := by
  induction m with
  | zero =>
    rw [List.pairwise_map]
    exact List.pairwise_of_forall fun _ _ => leL_refl _
  | succ m ih =>
    have := map_nxF h (fun i => byN t i :: rowF t F m i)
    show ((List.range t.length).map (fun k => byN t (nxF F k) :: rowF t F m (nxF F k))).Pairwise leL
    rw [this]
    refine from_rows h _ fun i j hij hj => ?_
    rw [List.pairwise_map] at ih
    have h2 := List.pairwise_iff_getElem.1 ih i j (by simp; omega) (by simp; omega) hij
    simpa using h2
/-- a sorted list of the same rows is the same list -/
theorem sorted_eq {A B : List (List UInt8)} (hp : A.Perm B) (ha : A.Pairwise leL) (hb : B.Pairwise leL) : A = B :=
  List.Perm.eq_of_pairwise (le := leL) (fun a b _ _ h1 h2 => leL_antisymm h1 h2) ha hb hp
/-- one round of the reference: the rows by the order of what stands ahead of them -/
theorem rowF_round {t : List UInt8} {F : List Nat} (h : IsFrom t F) (m : Nat) (B : List (List UInt8)) (hb : B.Pairwise leL)
    (hp : B.Perm ((List.range t.length).map fun i => byN t i :: rowF t F m i)) : B = (List.range t.length).map (rowF t F (m + 1)) := by
  refine sorted_eq ?_ hb (rowF_sorted h (m + 1))
  refine hp.trans ?_
  have := map_nxF h (fun i => byN t i :: rowF t F m i)
  show ((List.range t.length).map fun i => byN t i :: rowF t F m i).Perm ((List.range t.length).map (fun k => byN t (nxF F k) :: rowF t F m (nxF F k)))
  rw [this]
  exact (h.perm.map _).symm

/-- turns -/
def rotL (x : List UInt8) (i : Nat) : List UInt8 := x.drop i ++ x.take i
def lastL (x : List UInt8) : UInt8 := byN x (x.length - 1)
def rotr (x : List UInt8) : List UInt8 := lastL x :: x.dropLast
theorem rotL_length (x : List UInt8) (i : Nat) : (rotL x i).length = x.length := by simp [rotL]; omega
theorem rotL_zero (x : List UInt8) : rotL x 0 = x := by simp [rotL]
theorem rotL_all (x : List UInt8) : rotL x x.length = x := by simp [rotL]
theorem lastL_snoc (x : List UInt8) (c : UInt8) : lastL (x ++ [c]) = c := by simp [lastL, byN]
theorem rotr_snoc (x : List UInt8) (c : UInt8) : rotr (x ++ [c]) = c :: x := by simp [rotr, lastL_snoc]
theorem rotr_succ (x : List UInt8) (i : Nat) (h : i < x.length) : rotr (rotL x (i + 1)) = rotL x i := by
  have h1 : x.take (i + 1) = x.take i ++ [x[i]] := by rw [List.take_add_one, List.getElem?_eq_getElem h]; rfl
  unfold rotL
  rw [h1, ← List.append_assoc, rotr_snoc, List.drop_eq_getElem_cons h]
  rfl
theorem rotr_zero (x : List UInt8) (h : 0 < x.length) : rotr (rotL x 0) = rotL x (x.length - 1) := by
  rw [rotL_zero]
  conv => lhs; rw [← rotL_all x]
  have := rotr_succ x (x.length - 1) (by omega)
  rwa [Nat.sub_add_cancel h] at this
theorem rotL_one_add (x : List UInt8) (j : Nat) (h : j + 1 ≤ x.length) : rotL (rotL x 1) j = rotL x (j + 1) := by
  cases x with
  | nil => simp at h
  | cons c x =>
    simp at h
    show List.drop j (x ++ [c]) ++ List.take j (x ++ [c]) = x.drop j ++ (c :: x.take j)
    rw [List.drop_append_of_le_length h, List.take_append_of_le_length h]
    simp
/-- all turns -/
def rots (x : List UInt8) : List (List UInt8) := (List.range x.length).map (rotL x)
theorem rots_rotr (x : List UInt8) : ((rots x).map rotr).Perm (rots x) := by
  unfold rots
  rw [List.map_map]
  cases hn : x.length with
  | zero => exact List.Perm.refl _
  | succ n =>
    have h1 : (List.range (n + 1)).map (rotr ∘ rotL x) = rotL x n :: (List.range n).map (rotL x) := by
      rw [List.range_succ_eq_map, List.map_cons, List.map_map]
      congr 1
      · show rotr (rotL x 0) = _
        rw [rotr_zero x (by omega), hn]; rfl
      · refine List.map_congr_left fun i hi => ?_
        exact rotr_succ x i (by have := List.mem_range.1 hi; omega)
    rw [h1, List.range_succ, List.map_append]
    exact (List.perm_append_singleton _ _).symm
theorem rots_one (x : List UInt8) : (rots (rotL x 1)).Perm (rots x) := by
  unfold rots
  rw [rotL_length]
  cases hn : x.length with
  | zero => exact List.Perm.refl _
  | succ n =>
    have h1 : (List.range (n + 1)).map (rotL x) = rotL x 0 :: (List.range n).map (fun i => rotL x (i + 1)) := by
      rw [List.range_succ_eq_map, List.map_cons, List.map_map]; rfl
    have h2 : rotL (rotL x 1) n = x := by
      rw [rotL_one_add x n (by omega)]
      have := rotL_all x
      rwa [hn] at this
    rw [h1, rotL_zero, List.range_succ, List.map_append, List.map_cons, List.map_nil, h2]
    refine (List.perm_append_singleton _ _).trans (List.Perm.of_eq ?_)
    congr 1
    exact List.map_congr_left fun i hi => rotL_one_add x i (by have := List.mem_range.1 hi; omega)
theorem rotL_step (x : List UInt8) (i : Nat) (h : i < x.length) : rotL (rotL x i) 1 = rotL x (i + 1) := by
  have h1 : x.take (i + 1) = x.take i ++ [x[i]] := by rw [List.take_add_one, List.getElem?_eq_getElem h]; rfl
  show List.drop 1 (List.drop i x ++ List.take i x) ++ List.take 1 (List.drop i x ++ List.take i x) = List.drop (i + 1) x ++ List.take (i + 1) x
  rw [h1, List.drop_eq_getElem_cons h]
  show List.drop (i + 1) x ++ List.take i x ++ [x[i]] = _
  rw [List.append_assoc]
theorem rots_perm (x : List UInt8) (i : Nat) (h : i ≤ x.length) : (rots (rotL x i)).Perm (rots x) := by
  induction i with
  | zero => rw [rotL_zero]
  | succ i ih => rw [← rotL_step x i (by omega)]; exact (rots_one _).trans (ih (by omega))

/-- the rows of turns in order: each is the turn of the one whence it comes -/
theorem turn_back {T : List (List UInt8)} {n : Nat} (hl : T.length = n) (hsz : ∀ x ∈ T, x.length = n) (hs : T.Pairwise leL) (hr : (T.map rotr).Perm T)
    {F : List Nat} (hF : IsFrom (T.map lastL) F) (k : Nat) (hk : k < n) : T[k]?.getD [] = rotr (T[nxF F k]?.getD []) := by
  have htl : (T.map lastL).length = n := by rw [List.length_map, hl]
  have hby : ∀ i, i < n → byN (T.map lastL) i = lastL (T[i]?.getD []) := fun i hi => by
    unfold byN
    rw [List.getElem?_map, List.getElem?_eq_getElem (by omega : i < T.length)]; rfl
  have hlen : ∀ i, i < n → (T[i]?.getD []).length = n := fun i hi => by
    rw [List.getElem?_eq_getElem (by omega : i < T.length)]
    exact hsz _ (List.getElem_mem _)
  have hdl : ∀ i j, i < j → j < (T.map lastL).length → leL ((T[i]?.getD []).dropLast) ((T[j]?.getD []).dropLast) := fun i j hij hj => by
    rw [htl] at hj
    have h1 := List.pairwise_iff_getElem.1 hs i j (by omega) (by omega) hij
    have ha := hlen i (by omega)
    have hb := hlen j (by omega)
    have ei : T[i]?.getD [] = T[i] := by rw [List.getElem?_eq_getElem (by omega : i < T.length)]; rfl
    have ej : T[j]?.getD [] = T[j] := by rw [List.getElem?_eq_getElem (by omega : j < T.length)]; rfl
    rw [← ei, ← ej] at h1
    clear ei ej
    generalize T[i]?.getD [] = a at ha h1 ⊢
    generalize T[j]?.getD [] = b at hb h1 ⊢
    rw [List.dropLast_eq_take, List.dropLast_eq_take, ha, hb]
    unfold leL at *
    cases h : bef (b.take (n - 1)) (a.take (n - 1))
    · rfl
    · have := (bef_take_add (n - 1) 1 b a).2 (.inl h)
      rw [Nat.sub_add_cancel (by omega), List.take_of_length_le (by omega), List.take_of_length_le (by omega), h1] at this
      cases this
  have hso := from_rows hF (fun i => (T[i]?.getD []).dropLast) hdl
  have he : F.map (fun i => byN (T.map lastL) i :: (T[i]?.getD []).dropLast) = F.map (fun i => rotr (T[i]?.getD [])) :=
    List.map_congr_left fun i hi => by rw [hby i (by have := hF.lt hi; omega)]; rfl
  rw [he] at hso
  have hpp : (F.map (fun i => rotr (T[i]?.getD []))).Perm T := by
    refine (hF.perm.map _).trans ?_
    rw [htl, ← hl]
    have : (List.range T.length).map (fun i => rotr (T[i]?.getD [])) = T.map rotr := by
      have := congrArg (List.map rotr) (map_range_getD T [])
      rwa [List.map_map] at this
    rw [this]
    exact hr
  have hT := sorted_eq hpp hso hs
  have hk' : k < F.length := by rw [hF.length, htl]; exact hk
  unfold nxF
  rw [List.getElem?_eq_getElem hk', Option.getD_some]
  conv => lhs; rw [← hT]
  rw [List.getElem?_map, List.getElem?_eq_getElem hk']
  rfl
theorem turn_row {T : List (List UInt8)} {n : Nat} (hl : T.length = n) (hsz : ∀ x ∈ T, x.length = n) (hs : T.Pairwise leL) (hr : (T.map rotr).Perm T)
    {F : List Nat} (hF : IsFrom (T.map lastL) F) (k : Nat) (hk : k < n) : rowF (T.map lastL) F n k = T[k]?.getD [] := by
  have htl : (T.map lastL).length = n := by rw [List.length_map, hl]
  have hby : ∀ i, i < n → byN (T.map lastL) i = lastL (T[i]?.getD []) := fun i hi => by
    unfold byN
    rw [List.getElem?_map, List.getElem?_eq_getElem (by omega : i < T.length)]; rfl
  have hlen : ∀ i, i < n → (T[i]?.getD []).length = n := fun i hi => by
    rw [List.getElem?_eq_getElem (by omega : i < T.length)]
    exact hsz _ (List.getElem_mem _)
  have hx := hlen k hk
  generalize hxe : T[k]?.getD [] = x at *
  have key : ∀ m, m ≤ n → rowF (T.map lastL) F m k = x.take m ∧ T[plF F k m]?.getD [] = x.drop m ++ x.take m := by
    intro m
    induction m with
    | zero => intro _; exact ⟨rfl, by simpa [plF] using hxe⟩
    | succ m ih =>
      intro hm
      obtain ⟨h1, h2⟩ := ih (by omega)
      have hp : plF F k m < n := by have := plF_lt hF (k := k) (by omega) m; omega
      have hp2 : plF F k (m + 1) < n := by have := plF_lt hF (k := k) (by omega) (m + 1); omega
      have h3 := turn_back hl hsz hs hr hF (plF F k m) hp
      rw [h2] at h3
      have hy := hlen _ hp2
      have hmx : m < x.length := by omega
      rw [List.drop_eq_getElem_cons hmx] at h3
      rw [show nxF F (plF F k m) = plF F k (m + 1) from rfl] at h3
      have hb := hby _ hp2
      rw [rowF_snoc, h1, hb]
      generalize T[plF F k (m + 1)]?.getD [] = y at *
      unfold rotr at h3
      simp only [List.cons_append, List.cons.injEq] at h3
      have htk : x.take (m + 1) = x.take m ++ [x[m]] := by rw [List.take_add_one, List.getElem?_eq_getElem hmx]; rfl
      have hyl : y = y.dropLast ++ [lastL y] := by
        rcases List.eq_nil_or_concat y with rfl | ⟨z, c, e⟩
        · simp at hy; omega
        · rw [List.concat_eq_append] at e
          subst e
          rw [lastL_snoc]; simp
      refine ⟨by rw [htk, h3.1], ?_⟩
      rw [hyl, ← h3.2, ← h3.1, htk, List.append_assoc]
  have := (key n (Nat.le_refl _)).1
  rwa [List.take_of_length_le (by omega)] at this
end Go.Proofs.Ytfjjjkfldekooaa
