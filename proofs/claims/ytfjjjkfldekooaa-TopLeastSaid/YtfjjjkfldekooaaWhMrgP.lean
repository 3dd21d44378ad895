/-
  Plain: the merge of two rows that are in order, by halves (Kim and Kutzner).
-/
import Derived.Test.YtfjjjkfldekooaaIBlk
namespace Go.Proofs.Ytfjjjkfldekooaa
set_option linter.unusedVariables false
set_option linter.unusedSimpArgs false

def gI (l : List Int) (i : Nat) : Int := l[i]?.getD 0
def SortK (K : Int → Int) (l : List Int) : Prop := l.Pairwise fun x y => K x ≤ K y
theorem gI_mem {l : List Int} {i : Nat} (h : i < l.length) : gI l i ∈ l := by
  unfold gI
  rw [List.getElem?_eq_getElem h]
  exact List.getElem_mem h
theorem get_gI {l : List Int} {i : Nat} (h : i < l.length) : l[i]? = some (gI l i) := by
  unfold gI
  rw [List.getElem?_eq_getElem h]; rfl
theorem mem_gI {l : List Int} {x : Int} (h : x ∈ l) : ∃ i, i < l.length ∧ gI l i = x := by
  obtain ⟨i, hi, e⟩ := List.getElem_of_mem h
  exact ⟨i, hi, by unfold gI; rw [List.getElem?_eq_getElem hi]; exact e⟩
theorem SortK.get {K : Int → Int} {l : List Int} (h : SortK K l) {i j : Nat} (hij : i ≤ j) (hj : j < l.length) : K (gI l i) ≤ K (gI l j) := by
  by_cases e : i = j
  · subst e; exact Int.le_refl _
  · have := List.pairwise_iff_getElem.1 h i j (by omega) hj (by omega)
    unfold gI
    rw [List.getElem?_eq_getElem (by omega), List.getElem?_eq_getElem hj]
    exact this
theorem left_get (pre L Z : List Int) {i : Nat} (h : i < L.length) : (pre ++ (L ++ Z))[pre.length + i]? = some (gI L i) := by
  rw [List.getElem?_append_right (by omega), List.getElem?_append_left (by omega), Nat.add_sub_cancel_left]
  exact get_gI h
theorem right_get (pre L R Z : List Int) {j : Nat} (h : j < R.length) : (pre ++ (L ++ (R ++ Z)))[pre.length + L.length + j]? = some (gI R j) := by
  have := left_get (pre ++ L) R Z h
  rw [List.length_append] at this
  rw [← this]
  simp
theorem SortK.take {K : Int → Int} {l : List Int} (h : SortK K l) (i : Nat) : SortK K (l.take i) := List.Pairwise.sublist (List.take_sublist _ _) h
theorem SortK.drop {K : Int → Int} {l : List Int} (h : SortK K l) (i : Nat) : SortK K (l.drop i) := List.Pairwise.sublist (List.drop_sublist _ _) h
theorem gI_take {l : List Int} {i k : Nat} (h : i < k) : gI (l.take k) i = gI l i := by
  unfold gI
  rw [List.getElem?_take, if_pos h]
theorem gI_drop {l : List Int} {i k : Nat} : gI (l.drop k) i = gI l (k + i) := by
  unfold gI
  rw [List.getElem?_drop]

/-- halving: below lo it holds, from hi on it does not -/
structure Half (P : Nat → Prop) (s0 r0 lo hi : Nat) : Prop where
  le1 : s0 ≤ lo
  le2 : lo ≤ hi
  le3 : hi ≤ r0
  yes : ∀ c, s0 ≤ c → c < lo → P c
  no : ∀ c, hi ≤ c → c < r0 → ¬ P c
theorem Half.start (P : Nat → Prop) {s0 r0 : Nat} (h : s0 ≤ r0) : Half P s0 r0 s0 r0 := ⟨Nat.le_refl _, h, Nat.le_refl _, fun c h1 h2 => by omega, fun c h1 h2 => by omega⟩
theorem Half.up {P : Nat → Prop} {s0 r0 lo hi c : Nat} (h : Half P s0 r0 lo hi) (hm : ∀ x y, s0 ≤ x → x ≤ y → y < r0 → P y → P x) (h1 : lo ≤ c) (h2 : c < hi) (hc : P c) : Half P s0 r0 (c + 1) hi :=
  ⟨by have := h.le1; omega, by omega, h.le3, fun x hx hx2 => hm x c hx (by omega) (by have := h.le3; omega) hc, h.no⟩
theorem Half.down {P : Nat → Prop} {s0 r0 lo hi c : Nat} (h : Half P s0 r0 lo hi) (hm : ∀ x y, s0 ≤ x → x ≤ y → y < r0 → P y → P x) (h1 : lo ≤ c) (h2 : c < hi) (hc : ¬ P c) : Half P s0 r0 lo c :=
  ⟨h.le1, h1, by have := h.le3; omega, h.yes, fun x hx hx2 hp => hc (hm c x (by have := h.le1; omega) hx hx2 hp)⟩

/-- what the two rows have between them -/
structure Runs2 (K : Int → Int) (cf : Int → Int → Int) (L R : List Int) : Prop where
  l : SortK K L
  r : SortK K R
  cross : ∀ x ∈ L, ∀ y ∈ R, (cf y x < 0 ↔ K y < K x)
theorem Runs2.sub {K : Int → Int} {cf : Int → Int → Int} {L R L' R' : List Int} (h : Runs2 K cf L R) (hl : L'.Sublist L) (hr : R'.Sublist R) : Runs2 K cf L' R' :=
  ⟨List.Pairwise.sublist hl h.l, List.Pairwise.sublist hr h.r, fun x hx y hy => h.cross x (hl.subset hx) y (hr.subset hy)⟩
/-- what is made of them -/
structure Merged (K : Int → Int) (L R M : List Int) : Prop where
  perm : M.Perm (L ++ R)
  sorted : SortK K M
theorem Merged.length {K : Int → Int} {L R M : List Int} (h : Merged K L R M) : M.length = L.length + R.length := by rw [h.perm.length_eq, List.length_append]
theorem Merged.nil_left {K : Int → Int} {R : List Int} (h : SortK K R) : Merged K [] R R := ⟨List.Perm.refl _, h⟩
theorem Merged.nil_right {K : Int → Int} {L : List Int} (h : SortK K L) : Merged K L [] L := ⟨by simp, h⟩

/-- one element on the left: past those that are less -/
theorem merged_one_left {K : Int → Int} {cf : Int → Int → Int} {x : Int} {R : List Int} (h : Runs2 K cf [x] R) {i : Nat} (hi : Half (fun c => cf (gI R c) x < 0) 0 R.length i i) :
    Merged K [x] R (R.take i ++ (x :: R.drop i)) := by
  have hiR := hi.le3
  refine ⟨?_, ?_⟩
  · refine (List.perm_middle).trans ?_
    rw [List.take_append_drop]
    exact List.Perm.refl _
  · refine List.pairwise_append.2 ⟨h.r.take i, List.pairwise_cons.2 ⟨?_, h.r.drop i⟩, ?_⟩
    · intro y hy
      obtain ⟨j, hj, rfl⟩ := mem_gI hy
      rw [List.length_drop] at hj
      rw [gI_drop]
      have h1 := hi.no (i + j) (by omega) (by omega)
      rw [h.cross x (by simp) _ (gI_mem (by omega))] at h1
      omega
    · intro y hy z hz
      obtain ⟨j, hj, rfl⟩ := mem_gI hy
      rw [List.length_take] at hj
      rw [gI_take (by omega)]
      have h1 := hi.yes j (by omega) (by omega)
      rw [h.cross x (by simp) _ (gI_mem (by omega))] at h1
      rcases List.mem_cons.1 hz with rfl | hz
      · omega
      · obtain ⟨v, hv, rfl⟩ := mem_gI hz
        rw [List.length_drop] at hv
        rw [gI_drop]
        exact h.r.get (by omega) (by omega)
theorem mono_one_left {K : Int → Int} {cf : Int → Int → Int} {x : Int} {R : List Int} (h : Runs2 K cf [x] R) : ∀ a b, 0 ≤ a → a ≤ b → b < R.length → cf (gI R b) x < 0 → cf (gI R a) x < 0 := by
  intro a b _ hab hb hc
  rw [h.cross x (by simp) _ (gI_mem (by omega))] at *
  have := h.r.get hab hb
  omega
/-- one element on the right: ahead of those that are more -/
theorem merged_one_right {K : Int → Int} {cf : Int → Int → Int} {y : Int} {L : List Int} (h : Runs2 K cf L [y]) {i : Nat} (hi : Half (fun c => ¬ cf y (gI L c) < 0) 0 L.length i i) :
    Merged K L [y] (L.take i ++ (y :: L.drop i)) := by
  have hiR := hi.le3
  refine ⟨?_, ?_⟩
  · refine (List.perm_middle).trans ?_
    rw [List.take_append_drop]
    exact (List.perm_append_singleton _ _).symm
  · refine List.pairwise_append.2 ⟨h.l.take i, List.pairwise_cons.2 ⟨?_, h.l.drop i⟩, ?_⟩
    · intro z hz
      obtain ⟨j, hj, rfl⟩ := mem_gI hz
      rw [List.length_drop] at hj
      rw [gI_drop]
      have h1 := hi.no (i + j) (by omega) (by omega)
      simp only [Decidable.not_not] at h1
      rw [h.cross _ (gI_mem (by omega)) y (by simp)] at h1
      omega
    · intro z hz v hv
      obtain ⟨j, hj, rfl⟩ := mem_gI hz
      rw [List.length_take] at hj
      rw [gI_take (by omega)]
      have h1 := hi.yes j (by omega) (by omega)
      rw [h.cross _ (gI_mem (by omega)) y (by simp)] at h1
      rcases List.mem_cons.1 hv with rfl | hv
      · omega
      · obtain ⟨u, hu, rfl⟩ := mem_gI hv
        rw [List.length_drop] at hu
        rw [gI_drop]
        exact h.l.get (by omega) (by omega)
theorem mono_one_right {K : Int → Int} {cf : Int → Int → Int} {y : Int} {L : List Int} (h : Runs2 K cf L [y]) : ∀ a b, 0 ≤ a → a ≤ b → b < L.length → ¬ cf y (gI L b) < 0 → ¬ cf y (gI L a) < 0 := by
  intro a b _ hab hb hc
  rw [h.cross _ (gI_mem (by omega)) y (by simp)] at *
  have := h.l.get hab hb
  omega
/-- the halves -/
theorem mono_mid {K : Int → Int} {cf : Int → Int → Int} {L R : List Int} (h : Runs2 K cf L R) {H : Nat} (hH : H ≤ L.length + R.length) :
    ∀ a b, H - R.length ≤ a → a ≤ b → b < min L.length H → ¬ cf (gI R (H - 1 - b)) (gI L b) < 0 → ¬ cf (gI R (H - 1 - a)) (gI L a) < 0 := by
  intro a b ha hab hb hc
  rw [h.cross _ (gI_mem (by omega)) _ (gI_mem (by omega))] at *
  have h1 := h.l.get hab (by omega)
  have h2 := h.r.get (i := H - 1 - b) (j := H - 1 - a) (by omega) (by omega)
  omega
theorem split_le {K : Int → Int} {cf : Int → Int → Int} {L R : List Int} (h : Runs2 K cf L R) {H i : Nat} (hH : H ≤ L.length + R.length) (hi : Half (fun c => ¬ cf (gI R (H - 1 - c)) (gI L c) < 0) (H - R.length) (min L.length H) i i) :
    ∀ x ∈ L.take i ++ R.take (H - i), ∀ y ∈ L.drop i ++ R.drop (H - i), K x ≤ K y := by
  have hi1 := hi.le1
  have hi2 := hi.le3
  intro x hx y hy
  rcases List.mem_append.1 hx with hx | hx <;> rcases List.mem_append.1 hy with hy | hy
  · obtain ⟨u, hu, rfl⟩ := mem_gI hx
    obtain ⟨v, hv, rfl⟩ := mem_gI hy
    rw [List.length_take] at hu
    rw [List.length_drop] at hv
    rw [gI_take (by omega), gI_drop]
    exact h.l.get (by omega) (by omega)
  · obtain ⟨u, hu, rfl⟩ := mem_gI hx
    obtain ⟨v, hv, rfl⟩ := mem_gI hy
    rw [List.length_take] at hu
    rw [List.length_drop] at hv
    rw [gI_take (by omega), gI_drop]
    have h1 := hi.yes (i - 1) (by omega) (by omega)
    rw [show H - 1 - (i - 1) = H - i by omega, h.cross _ (gI_mem (by omega)) _ (gI_mem (by omega))] at h1
    have h2 := h.l.get (i := u) (j := i - 1) (by omega) (by omega)
    have h3 := h.r.get (i := H - i) (j := H - i + v) (by omega) (by omega)
    omega
  · obtain ⟨u, hu, rfl⟩ := mem_gI hx
    obtain ⟨v, hv, rfl⟩ := mem_gI hy
    rw [List.length_take] at hu
    rw [List.length_drop] at hv
    rw [gI_take (by omega), gI_drop]
    have h1 := hi.no i (by omega) (by omega)
    simp only [Decidable.not_not] at h1
    rw [h.cross _ (gI_mem (by omega)) _ (gI_mem (by omega))] at h1
    have h2 := h.r.get (i := u) (j := H - 1 - i) (by omega) (by omega)
    have h3 := h.l.get (i := i) (j := i + v) (by omega) (by omega)
    omega
  · obtain ⟨u, hu, rfl⟩ := mem_gI hx
    obtain ⟨v, hv, rfl⟩ := mem_gI hy
    rw [List.length_take] at hu
    rw [List.length_drop] at hv
    rw [gI_take (by omega), gI_drop]
    exact h.r.get (by omega) (by omega)
theorem merged_split {K : Int → Int} {cf : Int → Int → Int} {L R : List Int} (h : Runs2 K cf L R) {H i : Nat} (hH : H ≤ L.length + R.length) (hi : Half (fun c => ¬ cf (gI R (H - 1 - c)) (gI L c) < 0) (H - R.length) (min L.length H) i i)
    {M1 M2 : List Int} (h1 : Merged K (L.take i) (R.take (H - i)) M1) (h2 : Merged K (L.drop i) (R.drop (H - i)) M2) : Merged K L R (M1 ++ M2) := by
  refine ⟨?_, List.pairwise_append.2 ⟨h1.sorted, h2.sorted, fun x hx y hy => split_le h hH hi x (h1.perm.subset hx) y (h2.perm.subset hy)⟩⟩
  refine (h1.perm.append h2.perm).trans ?_
  have e1 := List.take_append_drop i L
  have e2 := List.take_append_drop (H - i) R
  generalize L.take i = A at *
  generalize L.drop i = B at *
  generalize R.take (H - i) = C at *
  generalize R.drop (H - i) = D at *
  subst e1 e2
  rw [List.append_assoc, List.append_assoc]
  refine List.Perm.append_left A ?_
  rw [← List.append_assoc, ← List.append_assoc]
  exact List.Perm.append_right D List.perm_append_comm
end Go.Proofs.Ytfjjjkfldekooaa
