/-
  Huffman's heaps, in plain lists: what the loop of huff.Long does. No program in sight.
-/
import Derived.Test.YtnaoonegeboflaaHfTake
namespace Go.Proofs.Ytnaoonegeboflaa.Hf
set_option linter.unusedVariables false

abbrev Heap := Int × List Nat
/-- one more for each of the places -/
def bump (o : List Int) : List Nat → List Int
  | [] => o
  | i :: is => bump (o.set i (o.getD i 0 + 1)) is
def wts (hs : List Heap) : List Int := hs.map (·.1)
def step (s : List Heap × List Int) : List Heap × List Int :=
  let k := lt0 (wts s.1)
  let h1 := s.1.eraseIdx k
  let j := lt0 (wts h1)
  let a := s.1.getD k (0, [])
  let b := h1.getD j (0, [])
  (h1.eraseIdx j ++ [(a.1 + b.1, a.2 ++ b.2)], bump s.2 (a.2 ++ b.2))
def start (ws : List Int) : List Heap × List Int := (ws.mapIdx fun i x => (x, [i]), List.replicate ws.length 0)
def run (ws : List Int) : Nat → List Heap × List Int
  | 0 => start ws
  | t + 1 => step (run ws t)
/-- how long the codes are -/
def lens (ws : List Int) : List Int := (run ws (ws.length - 1)).2

theorem lt0_lt {l : List Int} (h : 0 < l.length) : lt0 l < l.length := lst_lt l h _ (Nat.le_refl _)
theorem wts_length (hs : List Heap) : (wts hs).length = hs.length := by simp [wts]
theorem step_length {s : List Heap × List Int} (h : 2 ≤ s.1.length) : (step s).1.length = s.1.length - 1 := by
  have h1 := lt0_lt (l := wts s.1) (by rw [wts_length]; omega)
  rw [wts_length] at h1
  have e1 : (s.1.eraseIdx (lt0 (wts s.1))).length = s.1.length - 1 := List.length_eraseIdx_of_lt h1
  have h2 := lt0_lt (l := wts (s.1.eraseIdx (lt0 (wts s.1)))) (by rw [wts_length, e1]; omega)
  rw [wts_length] at h2
  unfold step
  simp only [List.length_append, List.length_singleton]
  rw [List.length_eraseIdx_of_lt h2, e1]
  omega
theorem bump_length (is : List Nat) : ∀ o, (bump o is).length = o.length := by
  induction is with
  | nil => intro o; rfl
  | cons i is ih => intro o; rw [bump, ih, List.length_set]
theorem run_length (ws : List Int) : ∀ t, t < ws.length → (run ws t).1.length = ws.length - t := by
  intro t
  induction t with
  | zero => intro _; simp [run, start]
  | succ t ih =>
    intro h
    rw [run, step_length (by rw [ih (by omega)]; omega), ih (by omega)]
    omega
theorem run_outs (ws : List Int) (t : Nat) : (run ws t).2.length = ws.length := by
  induction t with
  | zero => simp [run, start]
  | succ t ih => rw [run]; unfold step; simp only; rw [bump_length, ih]

/-- what holds of the heaps: each has some places, all below n, of weights from 0 on; together no more than n of them -/
structure Fine (n : Nat) (hs : List Heap) : Prop where
  has : ∀ h ∈ hs, h.2 ≠ [] ∧ (∀ i ∈ h.2, i < n) ∧ 0 ≤ h.1
  few : (hs.map fun h => h.2.length).sum ≤ n
  sum : (wts hs).sum ≤ 1000 * n
theorem mem_getD {α : Type} {l : List α} {k : Nat} (d : α) (h : k < l.length) : l.getD k d ∈ l := by
  rw [List.getD_eq_getElem?_getD, List.getElem?_eq_getElem h]
  exact List.getElem_mem h
theorem erase_perm {α : Type} (l : List α) (k : Nat) (d : α) (h : k < l.length) : l.Perm (l.getD k d :: l.eraseIdx k) := by
  rw [List.getD_eq_getElem?_getD, List.getElem?_eq_getElem h, List.eraseIdx_eq_take_drop_succ]
  conv => lhs; rw [← List.take_append_drop k l, List.drop_eq_getElem_cons h]
  exact List.perm_middle
theorem step_perm {s : List Heap × List Int} (h : 2 ≤ s.1.length) :
    ∃ a b rest, s.1.Perm (a :: b :: rest) ∧ (step s).1 = rest ++ [(a.1 + b.1, a.2 ++ b.2)] ∧ (step s).2 = bump s.2 (a.2 ++ b.2) ∧
      a = s.1.getD (lt0 (wts s.1)) (0, []) ∧ b = (s.1.eraseIdx (lt0 (wts s.1))).getD (lt0 (wts (s.1.eraseIdx (lt0 (wts s.1))))) (0, []) ∧ rest = (s.1.eraseIdx (lt0 (wts s.1))).eraseIdx (lt0 (wts (s.1.eraseIdx (lt0 (wts s.1))))) := by
  have h1 := lt0_lt (l := wts s.1) (by rw [wts_length]; omega)
  rw [wts_length] at h1
  have e1 : (s.1.eraseIdx (lt0 (wts s.1))).length = s.1.length - 1 := List.length_eraseIdx_of_lt h1
  have h2 := lt0_lt (l := wts (s.1.eraseIdx (lt0 (wts s.1)))) (by rw [wts_length, e1]; omega)
  rw [wts_length] at h2
  refine ⟨_, _, _, ?_, rfl, rfl, rfl, rfl, rfl⟩
  exact (erase_perm s.1 _ (0, []) h1).trans (List.Perm.cons _ (erase_perm _ _ (0, []) h2))
theorem sum_perm {l m : List Int} (h : l.Perm m) : l.sum = m.sum := by
  induction h with
  | nil => rfl
  | cons x _ ih => simp [ih]
  | swap x y l => simp; omega
  | trans _ _ ih1 ih2 => exact ih1.trans ih2
theorem nsum_perm {l m : List Nat} (h : l.Perm m) : l.sum = m.sum := by
  induction h with
  | nil => rfl
  | cons x _ ih => simp [ih]
  | swap x y l => simp; omega
  | trans _ _ ih1 ih2 => exact ih1.trans ih2
theorem Fine.step {n : Nat} {s : List Heap × List Int} (hf : Fine n s.1) (h : 2 ≤ s.1.length) : Fine n (step s).1 := by
  obtain ⟨a, b, rest, hp, e1, e2, _⟩ := step_perm h
  have ha := hf.has a (hp.mem_iff.2 (by simp))
  have hb := hf.has b (hp.mem_iff.2 (by simp))
  rw [e1]
  refine ⟨fun x hx => ?_, ?_, ?_⟩
  · rw [List.mem_append, List.mem_singleton] at hx
    rcases hx with hx | rfl
    · exact hf.has x (hp.mem_iff.2 (by simp [hx]))
    · refine ⟨by simp [ha.1], fun i hi => ?_, by simp only; omega⟩
      rcases List.mem_append.1 hi with hi | hi
      · exact ha.2.1 i hi
      · exact hb.2.1 i hi
  · have := nsum_perm (hp.map fun h => h.2.length)
    have h2 := hf.few
    simp at this ⊢
    omega
  · have := sum_perm (hp.map (·.1))
    have h2 := hf.sum
    unfold wts at *
    simp at this ⊢
    omega
theorem start_fine {ws : List Int} (h : ∀ x ∈ ws, 0 ≤ x ∧ x ≤ 1000) : Fine ws.length (start ws).1 := by
  refine ⟨fun x hx => ?_, ?_, ?_⟩
  · unfold start at hx
    simp only [List.mem_mapIdx] at hx
    obtain ⟨i, hi, rfl⟩ := hx
    exact ⟨by simp, fun j hj => by simp at hj; omega, (h _ (List.getElem_mem hi)).1⟩
  · have : ((start ws).1.map fun h => h.2.length) = List.replicate ws.length 1 := by
      apply List.ext_getElem
      · simp [start]
      · intro i h1 h2; simp [start]
    rw [this]
    simp
  · have : wts (start ws).1 = ws := by
      apply List.ext_getElem
      · simp [start, wts]
      · intro i h1 h2; simp [start, wts]
    rw [this]
    clear this
    induction ws with
    | nil => simp
    | cons x xs ih =>
      have h1 := h x (by simp)
      have h2 := ih (fun y hy => h y (by simp [hy]))
      simp
      omega
theorem run_fine {ws : List Int} (h : ∀ x ∈ ws, 0 ≤ x ∧ x ≤ 1000) : ∀ t, t < ws.length → Fine ws.length (run ws t).1 := by
  intro t
  induction t with
  | zero => intro _; exact start_fine h
  | succ t ih =>
    intro ht
    rw [run]
    exact (ih (by omega)).step (by rw [run_length ws t (by omega)]; omega)
end Go.Proofs.Ytnaoonegeboflaa.Hf
