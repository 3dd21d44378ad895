/-
  Huffman's optimality, in plain lists: no depths that Kraft's sum allows cost less; what the codes' lengths are. No program in sight.
-/
import Derived.Test.YtnaoonegeboflaaHfPlain
namespace Go.Proofs.Ytnaoonegeboflaa.Hf
set_option linter.unusedVariables false
set_option linter.unusedSimpArgs false

/-- a list is led through a map: what is a permutation of the images is the images of a permutation -/
theorem perm_lift {α β : Type} (f : α → β) {l1 l2 : List β} (h : l1.Perm l2) : ∀ P : List α, P.map f = l1 → ∃ P', P.Perm P' ∧ P'.map f = l2 := by
  induction h with
  | nil => intro P hP; exact ⟨P, .refl _, hP⟩
  | cons x _ ih =>
    intro P hP
    cases P with
    | nil => simp at hP
    | cons p P =>
      simp only [List.map_cons, List.cons.injEq] at hP
      obtain ⟨P', h1, h2⟩ := ih P hP.2
      exact ⟨p :: P', h1.cons p, by simp [h2, hP.1]⟩
  | swap x y l =>
    intro P hP
    match P, hP with
    | p :: q :: P, hP =>
      simp only [List.map_cons, List.cons.injEq] at hP
      exact ⟨q :: p :: P, List.Perm.swap _ _ _, by simp [hP]⟩
  | trans _ _ ih1 ih2 =>
    intro P hP
    obtain ⟨P1, h1, h2⟩ := ih1 P hP
    obtain ⟨P2, h3, h4⟩ := ih2 P1 h2
    exact ⟨P2, h1.trans h3, h4⟩

abbrev PD := Int × Nat
def costP (P : List PD) : Int := (P.map fun p => p.1 * (p.2 : Int)).sum
def kraftP (K : Nat) (D : List Nat) : Nat := (D.map fun d => 2 ^ (K - d)).sum
theorem isum_perm {l m : List Int} (h : l.Perm m) : l.sum = m.sum := by
  induction h with
  | nil => rfl
  | cons x _ ih => simp [ih]
  | swap x y l => simp; omega
  | trans _ _ ih1 ih2 => exact ih1.trans ih2
theorem natsum_perm {l m : List Nat} (h : l.Perm m) : l.sum = m.sum := by
  induction h with
  | nil => rfl
  | cons x _ ih => simp [ih]
  | swap x y l => simp; omega
  | trans _ _ ih1 ih2 => exact ih1.trans ih2
theorem costP_perm {P Q : List PD} (h : P.Perm Q) : costP P = costP Q := isum_perm (h.map _)
theorem kraftP_perm {K : Nat} {D E : List Nat} (h : D.Perm E) : kraftP K D = kraftP K E := natsum_perm (h.map _)
theorem costP_cons (p : PD) (P : List PD) : costP (p :: P) = p.1 * (p.2 : Int) + costP P := by simp [costP]
theorem costP_append (P Q : List PD) : costP (P ++ Q) = costP P + costP Q := by simp [costP]
theorem kraftP_cons (K d : Nat) (D : List Nat) : kraftP K (d :: D) = 2 ^ (K - d) + kraftP K D := by simp [kraftP]

/-- the lightest comes to lie deepest, at no cost -/
theorem deepest (a : Int) (da m : Nat) (R : List PD) (ha : ∀ p ∈ R, a ≤ p.1) (hm : m ∈ da :: R.map (·.2)) (hle : da ≤ m) :
    ∃ R' : List PD, R'.map (·.1) = R.map (·.1) ∧ (m :: R'.map (·.2)).Perm (da :: R.map (·.2)) ∧ a * (m : Int) + costP R' ≤ a * (da : Int) + costP R := by
  by_cases e : da = m
  · subst e; exact ⟨R, rfl, .refl _, Int.le_refl _⟩
  · have hm' : m ∈ R.map (·.2) := by
      rcases List.mem_cons.1 hm with h | h
      · exact absurd h.symm e
      · exact h
    obtain ⟨⟨x, m'⟩, hx, rfl⟩ := List.mem_map.1 hm'
    obtain ⟨R1, R2, rfl⟩ := List.append_of_mem hx
    refine ⟨R1 ++ (x, da) :: R2, by simp, ?_, ?_⟩
    · simp only [List.map_append, List.map_cons]
      have e1 : (m' :: (R1.map (·.2) ++ da :: R2.map (·.2))).Perm (m' :: da :: (R1.map (·.2) ++ R2.map (·.2))) := List.Perm.cons _ List.perm_middle
      have e2 : (da :: (R1.map (·.2) ++ m' :: R2.map (·.2))).Perm (da :: m' :: (R1.map (·.2) ++ R2.map (·.2))) := List.Perm.cons _ List.perm_middle
      exact (e1.trans (List.Perm.swap _ _ _)).trans e2.symm
    · rw [costP_append, costP_append, costP_cons, costP_cons]
      have h1 : a ≤ x := ha (x, m') (by simp)
      have h2 : 0 ≤ (x - a) * ((m' : Int) - da) := Int.mul_nonneg (by omega) (by simp only at hle; omega)
      simp only
      rw [Int.sub_mul, Int.mul_sub, Int.mul_sub] at h2
      omega
theorem kraft_dvd (K m : Nat) (hmK : m ≤ K) : ∀ D : List Nat, (∀ d ∈ D, d < m) → 2 ^ (K - m + 1) ∣ kraftP K D
  | [], _ => by simp [kraftP]
  | d :: D, h => by
    rw [kraftP_cons]
    have hd := h d (by simp)
    exact Nat.dvd_add (Nat.pow_dvd_pow 2 (by omega)) (kraft_dvd K m hmK D fun x hx => h x (by simp [hx]))
/-- a lone deepest one can lie one higher -/
theorem kraft_lone (K m : Nat) (D : List Nat) (h1 : 1 ≤ m) (hmK : m ≤ K) (h : ∀ d ∈ D, d < m) (hk : 2 ^ (K - m) + kraftP K D ≤ 2 ^ K) : 2 ^ (K - (m - 1)) + kraftP K D ≤ 2 ^ K := by
  obtain ⟨q, hq⟩ := kraft_dvd K m hmK D h
  have e : (2 : Nat) ^ K = 2 ^ (K - m + 1) * 2 ^ (m - 1) := by rw [← Nat.pow_add]; congr 1; omega
  have e2 : K - (m - 1) = K - m + 1 := by omega
  rw [hq] at hk ⊢
  rw [e] at hk ⊢
  rw [e2]
  have hp : 0 < 2 ^ (K - m) := Nat.pos_of_ne_zero (by simp)
  have e3 : (2 : Nat) ^ (K - m + 1) = 2 ^ (K - m) * 2 := Nat.pow_succ ..
  have hlt : 2 ^ (K - m + 1) * q < 2 ^ (K - m + 1) * 2 ^ (m - 1) := by omega
  have hlt2 : q < 2 ^ (m - 1) := Nat.lt_of_mul_lt_mul_left hlt
  have : 2 ^ (K - m + 1) * (q + 1) ≤ 2 ^ (K - m + 1) * 2 ^ (m - 1) := Nat.mul_le_mul_left _ hlt2
  rw [Nat.mul_add] at this
  omega

theorem max_mem : ∀ (D : List Nat), D ≠ [] → ∃ m ∈ D, ∀ d ∈ D, d ≤ m
  | [], h => absurd rfl h
  | [d], _ => ⟨d, by simp, by simp⟩
  | d :: e :: D, _ => by
    obtain ⟨m, h1, h2⟩ := max_mem (e :: D) (by simp)
    by_cases h : d ≤ m
    · exact ⟨m, List.mem_cons_of_mem _ h1, fun x hx => by
        rcases List.mem_cons.1 hx with rfl | hx
        · exact h
        · exact h2 x hx⟩
    · exact ⟨d, by simp, fun x hx => by
        rcases List.mem_cons.1 hx with rfl | hx
        · exact Nat.le_refl _
        · have := h2 x hx; omega⟩

/-- two lightest ones, put together: the depths that then serve -/
theorem merge_step (K : Nat) : ∀ (s : Nat) (a b : Int) (da db : Nat) (R : List PD), da + db + (R.map (·.2)).sum = s → 0 ≤ a → a ≤ b → (∀ p ∈ R, b ≤ p.1) → (∀ d ∈ da :: db :: R.map (·.2), d ≤ K) →
    kraftP K (da :: db :: R.map (·.2)) ≤ 2 ^ K → ∃ (c : Nat) (R' : List PD), R'.map (·.1) = R.map (·.1) ∧ (∀ d ∈ c :: R'.map (·.2), d ≤ K) ∧ kraftP K (c :: R'.map (·.2)) ≤ 2 ^ K ∧
      (a + b) * (c : Int) + costP R' + (a + b) ≤ a * (da : Int) + b * (db : Int) + costP R := by
  intro s
  induction s using Nat.strongRecOn with
  | _ s ih =>
  intro a b da db R hs ha0 hab hR hK hk
  obtain ⟨m, hm, hmax⟩ := max_mem (da :: db :: R.map (·.2)) (by simp)
  have hda := hmax da (by simp)
  have hmK := hK m hm
  -- a lies deepest
  obtain ⟨Q0, q1, q2, q3⟩ := deepest a da m ((b, db) :: R) (fun p hp => by
    rcases List.mem_cons.1 hp with rfl | hp
    · exact hab
    · exact Int.le_trans hab (hR p hp)) (by simpa using hm) hda
  obtain ⟨b', db', Q, rfl⟩ : ∃ (b' : Int) (db' : Nat) (Q' : List PD), Q0 = (b', db') :: Q' := by
    cases Q0 with
    | nil => simp at q1
    | cons p Q => exact ⟨_, _, _, rfl⟩
  simp only [List.map_cons, List.cons.injEq] at q1 q2
  obtain ⟨rfl, q1⟩ := q1
  have hm1 : 1 ≤ m := by
    rcases Nat.eq_zero_or_pos m with h0 | h0
    · subst h0
      have e : ∀ d ∈ da :: db :: R.map (·.2), d = 0 := fun d hd => by have := hmax d hd; omega
      have e1 := e da (by simp)
      have e2 := e db (by simp)
      subst e1; subst e2
      rw [kraftP_cons, kraftP_cons] at hk
      have hp : 0 < 2 ^ K := Nat.pos_of_ne_zero (by simp)
      simp only [Nat.sub_zero] at hk
      omega
    · exact h0
  rw [costP_cons, costP_cons] at q3
  simp only at q3
  have hk2 := kraftP_perm (K := K) q2
  have hall : ∀ d ∈ m :: db' :: Q.map (·.2), d ≤ m := fun d hd => hmax d (q2.mem_iff.1 hd)
  have hQb : ∀ p ∈ Q, b' ≤ p.1 := fun p hp => by
    have : p.1 ∈ Q.map (·.1) := List.mem_map_of_mem hp
    rw [q1] at this
    obtain ⟨r, hr, e⟩ := List.mem_map.1 this
    rw [← e]; exact hR r hr
  by_cases h2 : m ∈ db' :: Q.map (·.2)
  · obtain ⟨S, s1, s2, s3⟩ := deepest b' db' m Q hQb h2 (hall db' (by simp))
    have hk3 := kraftP_perm (K := K) s2
    refine ⟨m - 1, S, s1.trans q1, fun d hd => ?_, ?_, ?_⟩
    · rcases List.mem_cons.1 hd with rfl | hd
      · omega
      · have : d ∈ db' :: Q.map (·.2) := s2.mem_iff.1 (List.mem_cons_of_mem _ hd)
        have := hall d (List.mem_cons_of_mem _ this)
        omega
    · rw [kraftP_cons] at hk2 hk3 ⊢
      have e3 : (2 : Nat) ^ (K - (m - 1)) = 2 ^ (K - m) * 2 := by rw [← Nat.pow_succ]; congr 1; omega
      omega
    · have e : ((m - 1 : Nat) : Int) = (m : Int) - 1 := by omega
      rw [e, Int.mul_sub, Int.add_mul]
      omega
  · -- a alone lies deepest: one higher
    have hlt : ∀ d ∈ db' :: Q.map (·.2), d < m := fun d hd => by
      have := hall d (List.mem_cons_of_mem _ hd)
      rcases Nat.lt_or_eq_of_le this with h | h
      · exact h
      · exact absurd (h ▸ hd) h2
    have hs2 := natsum_perm q2
    simp only [List.sum_cons] at hs2
    rw [kraftP_cons] at hk2
    have hk4 := kraft_lone K m (db' :: Q.map (·.2)) hm1 hmK hlt (by omega)
    obtain ⟨c, R', r1, r2, r3, r4⟩ := ih (m - 1 + db' + (Q.map (·.2)).sum) (by omega) a b' (m - 1) db' Q rfl ha0 hab hQb (fun d hd => by
      rcases List.mem_cons.1 hd with rfl | hd
      · omega
      · have := hlt d hd; omega) (by rw [kraftP_cons]; exact hk4)
    refine ⟨c, R', r1.trans q1, r2, r3, ?_⟩
    have e : ((m - 1 : Nat) : Int) = (m : Int) - 1 := by omega
    rw [e, Int.mul_sub] at r4
    omega
/-! ### the lightest -/
theorem lst_min (l : List Int) : ∀ i, i ≤ l.length → ∀ k, k < i → l.getD (lst l i) 0 ≤ l.getD k 0
  | 0, _, k, hk => absurd hk (by omega)
  | i + 1, hi, k, hk => by
    rw [lst]
    have ih := lst_min l i (by omega)
    by_cases h : l.getD i 0 < l.getD (lst l i) 0
    · rw [if_pos h]
      rcases Nat.lt_or_ge k i with h2 | h2
      · have := ih k h2; omega
      · obtain rfl : k = i := by omega
        omega
    · rw [if_neg h]
      rcases Nat.lt_or_ge k i with h2 | h2
      · exact ih k h2
      · obtain rfl : k = i := by omega
        omega
theorem lt0_min {l : List Int} {x : Int} (hx : x ∈ l) : l.getD (lt0 l) 0 ≤ x := by
  obtain ⟨k, hk, rfl⟩ := List.getElem_of_mem hx
  have := lst_min l l.length (Nat.le_refl _) k hk
  rw [List.getD_eq_getElem?_getD (l := l) (i := k), List.getElem?_eq_getElem hk] at this
  exact this

/-! ### weights alone -/
def wa (L : List Int) : Int := L.getD (lt0 L) 0
def w1 (L : List Int) : List Int := L.eraseIdx (lt0 L)
def wb (L : List Int) : Int := wa (w1 L)
def w2 (L : List Int) : List Int := w1 (w1 L)
def hc : Nat → List Int → Int
  | 0, _ => 0
  | t + 1, L => wa L + wb L + hc t (w2 L ++ [wa L + wb L])
theorem w_perm {L : List Int} (h : 2 ≤ L.length) : L.Perm (wa L :: wb L :: w2 L) := by
  have h1 := lt0_lt (l := L) (by omega)
  have e1 : (w1 L).length = L.length - 1 := List.length_eraseIdx_of_lt h1
  have h2 := lt0_lt (l := w1 L) (by omega)
  exact (erase_perm L _ 0 h1).trans (List.Perm.cons _ (erase_perm _ _ 0 h2))
theorem w_min {L : List Int} (h : 2 ≤ L.length) : wa L ≤ wb L ∧ ∀ x ∈ w2 L, wb L ≤ x := by
  have hp := w_perm h
  have h1 := lt0_lt (l := L) (by omega)
  have hp1 := erase_perm L _ 0 h1
  refine ⟨lt0_min (hp.mem_iff.2 (by simp)), fun x hx => ?_⟩
  have e1 : (w1 L).length = L.length - 1 := List.length_eraseIdx_of_lt h1
  have h2 := lt0_lt (l := w1 L) (by omega)
  have : x ∈ w1 L := (erase_perm (w1 L) _ 0 h2).mem_iff.2 (List.mem_cons_of_mem _ hx)
  exact lt0_min this

theorem costP_nonneg : ∀ P : List PD, (∀ p ∈ P, 0 ≤ p.1) → 0 ≤ costP P
  | [], _ => by simp [costP]
  | p :: P, h => by
    rw [costP_cons]
    have := Int.mul_nonneg (h p (by simp)) (Int.natCast_nonneg p.2)
    have := costP_nonneg P (fun q hq => h q (by simp [hq]))
    omega
/-- no depths that Kraft's sum allows cost less -/
theorem hc_least (K : Nat) : ∀ (t : Nat) (L : List Int), L.length = t + 1 → (∀ x ∈ L, 0 ≤ x) → ∀ P : List PD, (P.map (·.1)).Perm L → (∀ d ∈ P.map (·.2), d ≤ K) → kraftP K (P.map (·.2)) ≤ 2 ^ K → hc t L ≤ costP P
  | 0, L, hL, h0, P, hp, _, _ => by
    rw [hc]
    exact costP_nonneg P fun p h => h0 _ (hp.mem_iff.1 (List.mem_map_of_mem h))
  | t + 1, L, hL, h0, P, hp, hK, hk => by
    have hp2 := w_perm (L := L) (by omega)
    obtain ⟨m1, m2⟩ := w_min (L := L) (by omega)
    obtain ⟨P', q1, q2⟩ := perm_lift _ (hp.trans hp2) P rfl
    have ha0 : 0 ≤ wa L := h0 _ (hp2.mem_iff.2 (by simp))
    have hb0 : 0 ≤ wb L := h0 _ (hp2.mem_iff.2 (by simp))
    obtain ⟨da, db, R, rfl⟩ : ∃ (da db : Nat) (R : List PD), P' = (wa L, da) :: (wb L, db) :: R := by
      match P', q2 with
      | [], q2 => simp at q2
      | [_], q2 => simp at q2
      | p :: q :: R, q2 =>
        simp only [List.map_cons, List.cons.injEq] at q2
        exact ⟨p.2, q.2, R, by rw [← q2.1, ← q2.2.1]⟩
    simp only [List.map_cons, List.cons.injEq, true_and] at q2
    have hkp := kraftP_perm (K := K) (q1.map (·.2))
    simp only [List.map_cons] at hkp
    obtain ⟨c, R', r1, r2, r3, r4⟩ := merge_step K _ (wa L) (wb L) da db R rfl ha0 m1 (fun p h => m2 _ (q2 ▸ List.mem_map_of_mem h)) (fun d hd => hK d ((q1.map (·.2)).mem_iff.2 (by simpa using hd))) (by omega)
    have hl : (w2 L ++ [wa L + wb L]).length = t + 1 := by
      have := hp2.length_eq
      simp at this ⊢; omega
    have ih := hc_least K t _ hl (fun x hx => by
      rcases List.mem_append.1 hx with hx | hx
      · exact h0 _ (hp2.mem_iff.2 (by simp [hx]))
      · simp at hx; omega) ((wa L + wb L, c) :: R') (by
        simp only [List.map_cons]
        rw [r1, q2]
        exact (List.perm_append_comm (l₁ := w2 L) (l₂ := [wa L + wb L])).symm) (by simpa using r2) (by simpa using r3)
    rw [costP_cons] at ih
    rw [hc, costP_perm q1, costP_cons, costP_cons]
    simp only at ih ⊢
    omega

/-! ### the run -/
def on (f : Nat → Int) (is : List Nat) : Int := (is.map f).sum
theorem on_append (f : Nat → Int) (a b : List Nat) : on f (a ++ b) = on f a + on f b := by simp [on]
theorem on_perm (f : Nat → Int) {a b : List Nat} (h : a.Perm b) : on f a = on f b := sum_perm (h.map f)
theorem on_congr {f g : Nat → Int} {is : List Nat} (h : ∀ i ∈ is, f i = g i) : on f is = on g is := by
  unfold on; rw [List.map_congr_left h]
theorem on_add (f g : Nat → Int) (is : List Nat) : on (fun i => f i + g i) is = on f is + on g is := by
  induction is with
  | nil => rfl
  | cons i is ih => simp [on] at ih ⊢; omega
def onN (f : Nat → Nat) (is : List Nat) : Nat := (is.map f).sum
theorem onN_append (f : Nat → Nat) (a b : List Nat) : onN f (a ++ b) = onN f a + onN f b := by simp [onN]
theorem onN_congr {f g : Nat → Nat} {is : List Nat} (h : ∀ i ∈ is, f i = g i) : onN f is = onN g is := by
  unfold onN; rw [List.map_congr_left h]
theorem onN_half {f g : Nat → Nat} {is : List Nat} (h : ∀ i ∈ is, 2 * f i = g i) : 2 * onN f is = onN g is := by
  induction is with
  | nil => rfl
  | cons i is ih =>
    have h1 := h i (by simp)
    have h2 := ih (fun j hj => h j (by simp [hj]))
    simp [onN] at h2 ⊢; omega

theorem bump_get (is : List Nat) : ∀ (o : List Int) (j : Nat), is.Nodup → (∀ i ∈ is, i < o.length) → (bump o is).getD j 0 = if j ∈ is then o.getD j 0 + 1 else o.getD j 0 := by
  induction is with
  | nil => intro o j _ _; simp [bump]
  | cons i is ih =>
    intro o j hn hlt
    rw [List.nodup_cons] at hn
    rw [bump, ih _ _ hn.2 (fun k hk => by rw [List.length_set]; exact hlt k (by simp [hk]))]
    have hi := hlt i (by simp)
    by_cases hj : j = i
    · subst hj
      rw [if_neg hn.1, if_pos (by simp)]
      simp [List.getD_eq_getElem?_getD, hi]
    · have e : (o.set i (o.getD i 0 + 1)).getD j 0 = o.getD j 0 := by
        simp only [List.getD_eq_getElem?_getD, List.getElem?_set]
        rw [if_neg (fun h => hj h.symm)]
      rw [e]
      by_cases h : j ∈ is
      · rw [if_pos h, if_pos (by simp [h])]
      · rw [if_neg h, if_neg (by simp [h, hj])]

def dep (o : List Int) (i : Nat) : Nat := (o.getD i 0).toNat
/-- what holds between two rounds -/
structure Inv (ws : List Int) (s : List Heap × List Int) : Prop where
  all : (s.1.flatMap (·.2)).Perm (List.range ws.length)
  len : s.2.length = ws.length
  wt : ∀ h ∈ s.1, h.1 = on (fun i => ws.getD i 0) h.2
  nn : ∀ i, 0 ≤ s.2.getD i 0
  low : ∀ h ∈ s.1, ∀ i ∈ h.2, dep s.2 i < h.2.length
  room : ∀ h ∈ s.1, onN (fun i => 2 ^ (12 - dep s.2 i)) h.2 = 4096

theorem Inv.start (ws : List Int) : Inv ws (start ws) := by
  have hf : ∀ (i : Nat), (List.replicate ws.length (0 : Int)).getD i 0 = 0 := fun i => by
    simp only [List.getD_eq_getElem?_getD, List.getElem?_replicate]
    split <;> rfl
  refine ⟨?_, by simp [Hf.start], fun h hh => ?_, fun i => ?_, fun h hh i hi => ?_, fun h hh => ?_⟩
  · have : (Hf.start ws).1.flatMap (·.2) = List.range ws.length := by
      have e : (Hf.start ws).1 = (List.range ws.length).map fun i => (ws.getD i 0, [i]) := by
        apply List.ext_getElem
        · simp [Hf.start]
        · intro i h1 h2
          have : i < ws.length := by simpa [Hf.start] using h1
          simp [Hf.start, List.getElem?_eq_getElem this]
      rw [e, List.flatMap_map]
      simp
    rw [this]
  · simp only [Hf.start, List.mem_mapIdx] at hh
    obtain ⟨i, hi, rfl⟩ := hh
    simp [on, List.getElem?_eq_getElem hi]
  · simp only [Hf.start]; rw [hf]; omega
  · simp only [Hf.start, List.mem_mapIdx] at hh
    obtain ⟨k, hk, rfl⟩ := hh
    simp only [Hf.start, dep]
    rw [hf]; simp
  · simp only [Hf.start, List.mem_mapIdx] at hh
    obtain ⟨k, hk, rfl⟩ := hh
    simp only [Hf.start, onN, List.map_cons, List.map_nil, dep]
    rw [hf]; rfl

theorem eraseIdx_map' {α β : Type} (f : α → β) : ∀ (l : List α) (k : Nat), (l.map f).eraseIdx k = (l.eraseIdx k).map f
  | [], k => by simp
  | x :: l, 0 => by simp
  | x :: l, k + 1 => by simp [eraseIdx_map' f l k]
theorem nodup_range_perm {l : List Nat} {n : Nat} (h : l.Perm (List.range n)) : l.Nodup := h.nodup_iff.2 List.nodup_range

theorem Inv.step {ws : List Int} {s : List Heap × List Int} (hI : Inv ws s) (h2 : 2 ≤ s.1.length) (hn : ws.length ≤ 12) :
    Inv ws (Hf.step s) ∧ on (fun i => ws.getD i 0 * (Hf.step s).2.getD i 0) (List.range ws.length) = on (fun i => ws.getD i 0 * s.2.getD i 0) (List.range ws.length) + (wa (wts s.1) + wb (wts s.1)) ∧
      wts (Hf.step s).1 = w2 (wts s.1) ++ [wa (wts s.1) + wb (wts s.1)] := by
  obtain ⟨a, b, rest, hp, e1, e2, ea, eb, er⟩ := step_perm h2
  have hall := (hp.flatMap_right (·.2)).symm.trans hI.all
  simp only [List.flatMap_cons] at hall
  have hnd := nodup_range_perm hall
  rw [← List.append_assoc, List.nodup_append] at hnd
  obtain ⟨nd1, _, nd2⟩ := hnd
  have hin : ∀ i ∈ a.2 ++ b.2, i < s.2.length := fun i hi => by
    rw [hI.len, ← List.mem_range, ← hall.mem_iff, ← List.append_assoc]
    exact List.mem_append_left _ hi
  have hget : ∀ j, (Hf.step s).2.getD j 0 = if j ∈ a.2 ++ b.2 then s.2.getD j 0 + 1 else s.2.getD j 0 := fun j => by rw [e2]; exact bump_get _ _ j nd1 hin
  have hold : ∀ x ∈ rest, ∀ i ∈ x.2, (Hf.step s).2.getD i 0 = s.2.getD i 0 := fun x hx i hi => by
    rw [hget, if_neg]
    intro hc
    exact nd2 i hc i (List.mem_flatMap.2 ⟨x, hx, hi⟩) rfl
  have hma : a ∈ s.1 := hp.mem_iff.2 (by simp)
  have hmb : b ∈ s.1 := hp.mem_iff.2 (by simp)
  have hmr : ∀ x ∈ rest, x ∈ s.1 := fun x hx => hp.mem_iff.2 (by simp [hx])
  have hnew : ∀ i ∈ a.2 ++ b.2, dep (Hf.step s).2 i = dep s.2 i + 1 := fun i hi => by
    unfold dep; rw [hget, if_pos hi]; have := hI.nn i; omega
  have hlen : a.2.length + b.2.length ≤ ws.length := by
    have := hall.length_eq
    simp at this; omega
  have hwt : wts s.1 = wts s.1 := rfl
  refine ⟨⟨?_, by rw [e2, bump_length]; exact hI.len, fun x hx => ?_, fun i => ?_, fun x hx i hi => ?_, fun x hx => ?_⟩, ?_, ?_⟩
  · rw [e1, List.flatMap_append]
    simp only [List.flatMap_cons, List.flatMap_nil, List.append_nil]
    exact (List.perm_append_comm.trans (by rw [List.append_assoc])).trans hall
  · rw [e1, List.mem_append, List.mem_singleton] at hx
    rcases hx with hx | rfl
    · exact hI.wt x (hmr x hx)
    · simp only [on_append]; rw [← hI.wt a hma, ← hI.wt b hmb]
  · rw [hget]; have := hI.nn i; split <;> omega
  · rw [e1, List.mem_append, List.mem_singleton] at hx
    rcases hx with hx | rfl
    · unfold dep; rw [hold x hx i hi]; exact hI.low x (hmr x hx) i hi
    · rw [hnew i hi]
      simp only at hi
      rw [List.length_append]
      rcases List.mem_append.1 hi with h | h
      · have := hI.low a hma i h
        have : 0 < b.2.length := by
          have := hI.room b hmb
          rcases Nat.eq_zero_or_pos b.2.length with h0 | h0
          · rw [List.length_eq_zero_iff.1 h0] at this; simp [onN] at this
          · exact h0
        omega
      · have := hI.low b hmb i h
        have : 0 < a.2.length := by
          have := hI.room a hma
          rcases Nat.eq_zero_or_pos a.2.length with h0 | h0
          · rw [List.length_eq_zero_iff.1 h0] at this; simp [onN] at this
          · exact h0
        omega
  · rw [e1, List.mem_append, List.mem_singleton] at hx
    rcases hx with hx | rfl
    · have e : onN (fun i => 2 ^ (12 - dep (Hf.step s).2 i)) x.2 = onN (fun i => 2 ^ (12 - dep s.2 i)) x.2 := onN_congr fun i hi => by
        unfold dep; rw [hold x hx i hi]
      rw [e]; exact hI.room x (hmr x hx)
    · simp only
      have e : 2 * onN (fun i => 2 ^ (12 - dep (Hf.step s).2 i)) (a.2 ++ b.2) = onN (fun i => 2 ^ (12 - dep s.2 i)) (a.2 ++ b.2) := onN_half fun i hi => by
        have h12 : dep s.2 i < 12 := by
          rcases List.mem_append.1 hi with h | h
          · have := hI.low a hma i h; omega
          · have := hI.low b hmb i h; omega
        rw [hnew i hi, ← Nat.pow_succ']
        congr 1; omega
      have ha := hI.room a hma
      have hb := hI.room b hmb
      rw [onN_append _ a.2] at e
      rw [onN_append] at e ⊢
      omega
  · rw [← on_perm _ hall, ← on_perm _ hall]
    have hr : on (fun i => ws.getD i 0 * (Hf.step s).2.getD i 0) (rest.flatMap (·.2)) = on (fun i => ws.getD i 0 * s.2.getD i 0) (rest.flatMap (·.2)) := on_congr fun i hi => by
      obtain ⟨x, hx, hi⟩ := List.mem_flatMap.1 hi
      rw [hold x hx i hi]
    have hab : on (fun i => ws.getD i 0 * (Hf.step s).2.getD i 0) (a.2 ++ b.2) = on (fun i => ws.getD i 0 * s.2.getD i 0) (a.2 ++ b.2) + on (fun i => ws.getD i 0) (a.2 ++ b.2) := by
      rw [← on_add]
      exact on_congr fun i hi => by rw [hget, if_pos hi, Int.mul_add, Int.mul_one]
    rw [on_append _ a.2, on_append _ b.2, on_append _ a.2, on_append _ b.2, hr]
    simp only [on_append] at hab
    rw [← hI.wt a hma, ← hI.wt b hmb] at hab
    have ea' : wa (wts s.1) = a.1 := by
      rw [ea]; unfold wa wts
      simp only [List.getD_eq_getElem?_getD, List.getElem?_map]
      cases s.1[lt0 (s.1.map (·.1))]? <;> rfl
    have eb' : wb (wts s.1) = b.1 := by
      rw [eb]; unfold wb wa w1 wts
      rw [eraseIdx_map']
      simp only [List.getD_eq_getElem?_getD, List.getElem?_map]
      cases (s.1.eraseIdx (lt0 (s.1.map (·.1))))[lt0 ((s.1.eraseIdx (lt0 (s.1.map (·.1)))).map (·.1))]? <;> rfl
    rw [ea', eb']
    omega
  · have ea' : wa (wts s.1) = a.1 := by
      rw [ea]; unfold wa wts
      simp only [List.getD_eq_getElem?_getD, List.getElem?_map]
      cases s.1[lt0 (s.1.map (·.1))]? <;> rfl
    have eb' : wb (wts s.1) = b.1 := by
      rw [eb]; unfold wb wa w1 wts
      rw [eraseIdx_map']
      simp only [List.getD_eq_getElem?_getD, List.getElem?_map]
      cases (s.1.eraseIdx (lt0 (s.1.map (·.1))))[lt0 ((s.1.eraseIdx (lt0 (s.1.map (·.1)))).map (·.1))]? <;> rfl
    rw [ea', eb', e1]
    unfold wts at *
    rw [List.map_append, er]
    unfold w2 w1
    rw [eraseIdx_map', eraseIdx_map']
    rfl

theorem costP_on (ws o : List Int) (h : o.length = ws.length) (hnn : ∀ i, 0 ≤ o.getD i 0) :
    costP ((List.range ws.length).map fun i => (ws.getD i 0, dep o i)) = on (fun i => ws.getD i 0 * o.getD i 0) (List.range ws.length) := by
  unfold costP on
  rw [List.map_map]
  congr 1
  refine List.map_congr_left fun i _ => ?_
  simp only [Function.comp]
  unfold dep
  rw [Int.toNat_of_nonneg (hnn i)]

theorem run_inv (ws : List Int) (hn : ws.length ≤ 12) : ∀ t, t < ws.length → Inv ws (run ws t) ∧
    on (fun i => ws.getD i 0 * (run ws t).2.getD i 0) (List.range ws.length) + hc (ws.length - 1 - t) (wts (run ws t).1) = hc (ws.length - 1) ws
  | 0, h => by
    refine ⟨Inv.start ws, ?_⟩
    have e1 : wts (start ws).1 = ws := by
      apply List.ext_getElem
      · simp [start, wts]
      · intro i h1 h2; simp [start, wts]
    have e2 : on (fun i => ws.getD i 0 * (start ws).2.getD i 0) (List.range ws.length) = 0 := by
      have : on (fun i => ws.getD i 0 * (start ws).2.getD i 0) (List.range ws.length) = on (fun _ => 0) (List.range ws.length) := on_congr fun i hi => by
        simp only [start, List.getD_eq_getElem?_getD, List.getElem?_replicate]
        split <;> simp
      rw [this]
      clear this e1 hn h
      generalize List.range ws.length = l
      induction l with
      | nil => rfl
      | cons x l ih => simpa [on] using ih
    rw [run, e2, e1]
    simp
  | t + 1, h => by
    obtain ⟨h1, h2⟩ := run_inv ws hn t (by omega)
    have hl := run_length ws t (by omega)
    obtain ⟨k1, k2, k3⟩ := Inv.step h1 (by omega) hn
    refine ⟨k1, ?_⟩
    rw [run, k2, k3, ← h2]
    have e : ws.length - 1 - t = (ws.length - 1 - (t + 1)) + 1 := by omega
    rw [e, hc]
    omega

/-! ### what the codes are -/
def deps (ws : List Int) : List Nat := (List.range ws.length).map fun i => dep (lens ws) i
def pairs (ws : List Int) : List PD := (List.range ws.length).map fun i => (ws.getD i 0, dep (lens ws) i)
theorem range_get {α : Type} (l : List α) (d : α) : (List.range l.length).map (fun i => l.getD i d) = l := by
  apply List.ext_getElem
  · simp
  · intro i h1 h2; simp [List.getElem?_eq_getElem h2]
theorem pairs_fst (ws : List Int) : (pairs ws).map (·.1) = ws := by
  unfold pairs; rw [List.map_map]; exact range_get ws 0
theorem pairs_snd (ws : List Int) : (pairs ws).map (·.2) = deps ws := by
  unfold pairs deps; rw [List.map_map]; rfl
theorem lens_length (ws : List Int) : (lens ws).length = ws.length := run_outs ws _
section
variable {ws : List Int} (h1 : 1 ≤ ws.length) (hn : ws.length ≤ 12)
include h1 hn
theorem lens_nn (i : Nat) : 0 ≤ (lens ws).getD i 0 := (run_inv ws hn (ws.length - 1) (by omega)).1.nn i
theorem lens_deps : lens ws = (deps ws).map fun (d : Nat) => (d : Int) := by
  unfold deps
  rw [List.map_map, ← lens_length ws]
  conv => lhs; rw [← range_get (lens ws) 0]
  refine List.map_congr_left fun i _ => ?_
  simp only [Function.comp]
  unfold dep
  rw [Int.toNat_of_nonneg (lens_nn h1 hn i)]
theorem pairs_cost : costP (pairs ws) = hc (ws.length - 1) ws := by
  obtain ⟨hI, hc'⟩ := run_inv ws hn (ws.length - 1) (by omega)
  have := costP_on ws (lens ws) (lens_length ws) (lens_nn h1 hn)
  unfold pairs
  rw [this]
  rw [show ws.length - 1 - (ws.length - 1) = 0 by omega, hc] at hc'
  unfold lens
  omega
theorem deps_one : ∃ h, (run ws (ws.length - 1)).1 = [h] ∧ h.2.Perm (List.range ws.length) := by
  obtain ⟨hI, _⟩ := run_inv ws hn (ws.length - 1) (by omega)
  have hl := run_length ws (ws.length - 1) (by omega)
  rw [show ws.length - (ws.length - 1) = 1 by omega] at hl
  obtain ⟨h, hh⟩ := List.length_eq_one_iff.1 hl
  refine ⟨h, hh, ?_⟩
  have := hI.all
  rw [hh] at this
  simpa using this
theorem deps_low : ∀ d ∈ deps ws, d < ws.length := by
  obtain ⟨hI, _⟩ := run_inv ws hn (ws.length - 1) (by omega)
  obtain ⟨h, hh, hp⟩ := deps_one h1 hn
  intro d hd
  obtain ⟨i, hi, rfl⟩ := List.mem_map.1 hd
  have := hI.low h (by rw [hh]; simp) i (hp.mem_iff.2 hi)
  rw [hp.length_eq, List.length_range] at this
  exact this
theorem deps_room : kraftP 12 (deps ws) = 4096 := by
  obtain ⟨hI, _⟩ := run_inv ws hn (ws.length - 1) (by omega)
  obtain ⟨h, hh, hp⟩ := deps_one h1 hn
  have := hI.room h (by rw [hh]; simp)
  unfold onN at this
  rw [natsum_perm (hp.map _)] at this
  unfold kraftP deps
  rw [List.map_map]
  exact this
theorem deps_pos (h2 : 2 ≤ ws.length) : ∀ d ∈ deps ws, 1 ≤ d := by
  intro d hd
  rcases Nat.eq_zero_or_pos d with h0 | h0
  · subst h0
    obtain ⟨A, B, e⟩ := List.append_of_mem hd
    have hr := deps_room h1 hn
    have hl : (deps ws).length = ws.length := by simp [deps]
    rw [e] at hr hl
    have hp : (A ++ 0 :: B).Perm (0 :: (A ++ B)) := List.perm_middle
    rw [kraftP_perm hp, kraftP_cons] at hr
    have : 0 < kraftP 12 (A ++ B) := by
      simp at hl
      match hAB : A ++ B, (by simp; omega : (A ++ B).length = ws.length - 1) with
      | [], hz => simp at hz; omega
      | x :: C, _ =>
        rw [kraftP_cons]
        have : 0 < 2 ^ (12 - x) := Nat.pos_of_ne_zero (by simp)
        omega
    simp at hr
    omega
  · exact h0
/-- no depths cost less -/
theorem lens_least (h0 : ∀ x ∈ ws, 0 ≤ x) (K : Nat) (P : List PD) (hp : (P.map (·.1)).Perm ws) (hK : ∀ d ∈ P.map (·.2), d ≤ K) (hk : kraftP K (P.map (·.2)) ≤ 2 ^ K) : costP (pairs ws) ≤ costP P := by
  rw [pairs_cost h1 hn]
  exact hc_least K (ws.length - 1) ws (by omega) h0 P hp hK hk
end
theorem two_perm {α : Type} (l : List α) (i k : Nat) (hi : i < l.length) (hk : k < l.length) (hne : i ≠ k) : ∃ R, l.Perm (l[i] :: l[k] :: R) := by
  have e1 := erase_perm l i l[i] hi
  rw [List.getD_eq_getElem?_getD, List.getElem?_eq_getElem hi, Option.getD_some] at e1
  have : l[k] ∈ l.eraseIdx i := List.mem_eraseIdx_iff_getElem.2 ⟨k, hk, fun e => hne e.symm, rfl⟩
  obtain ⟨A, B, e⟩ := List.append_of_mem this
  rw [e] at e1
  exact ⟨A ++ B, e1.trans (List.Perm.cons _ List.perm_middle)⟩
/-- what is heavier lies no deeper -/
theorem lens_order {ws : List Int} (h1 : 1 ≤ ws.length) (hn : ws.length ≤ 12) (h0 : ∀ x ∈ ws, 0 ≤ x) (i k : Nat) (hi : i < ws.length) (hk : k < ws.length) (hw : ws.getD k 0 < ws.getD i 0) : (lens ws).getD i 0 ≤ (lens ws).getD k 0 := by
  rcases Int.lt_or_le ((lens ws).getD k 0) ((lens ws).getD i 0) with h | h
  · exfalso
    have hne : i ≠ k := fun e => by subst e; omega
    have hpl : (pairs ws).length = ws.length := by simp [pairs]
    obtain ⟨R, hR⟩ := two_perm (pairs ws) i k (by omega) (by omega) hne
    have ei : (pairs ws)[i]'(by omega) = (ws.getD i 0, dep (lens ws) i) := by simp [pairs]
    have ek : (pairs ws)[k]'(by omega) = (ws.getD k 0, dep (lens ws) k) := by simp [pairs]
    rw [ei, ek] at hR
    have hlow := deps_low h1 hn
    have hroom := deps_room h1 hn
    have q1 : (((ws.getD i 0, dep (lens ws) k) :: (ws.getD k 0, dep (lens ws) i) :: R : List PD).map (·.1)).Perm ws := by
      have := (hR.map (·.1)).symm
      rw [pairs_fst] at this
      simpa using this
    have q2 : (((ws.getD i 0, dep (lens ws) k) :: (ws.getD k 0, dep (lens ws) i) :: R : List PD).map (·.2)).Perm (deps ws) := by
      have := (hR.map (·.2)).symm
      rw [pairs_snd] at this
      refine List.Perm.trans ?_ this
      simp only [List.map_cons]
      exact List.Perm.swap _ _ _
    have := lens_least h1 hn h0 12 _ q1 (fun d hd => by have := hlow d (q2.mem_iff.1 hd); omega) (by rw [kraftP_perm q2, hroom]; decide)
    rw [costP_perm hR, costP_cons, costP_cons, costP_cons, costP_cons] at this
    simp only at this
    have n1 := lens_nn h1 hn i
    have n2 := lens_nn h1 hn k
    unfold dep at this
    rw [Int.toNat_of_nonneg n1, Int.toNat_of_nonneg n2] at this
    generalize (lens ws).getD i 0 = a at *
    generalize (lens ws).getD k 0 = b at *
    generalize ws.getD i 0 = x at *
    generalize ws.getD k 0 = y at *
    have h3 : 0 < (x - y) * (a - b) := Int.mul_pos (by omega) (by omega)
    rw [Int.sub_mul, Int.mul_sub, Int.mul_sub] at h3
    omega
  · exact h

/-! ### cost -/
def costI : List Int → List Int → Int
  | x :: xs, y :: ys => x * y + costI xs ys
  | _, _ => 0
def cost (ws : List Int) : Int := costI ws (lens ws)
theorem costI_zip : ∀ (ws : List Int) (D : List Nat), ws.length = D.length → costI ws (D.map fun (d : Nat) => (d : Int)) = costP (ws.zip D)
  | [], [], _ => by simp [costI, costP]
  | x :: xs, d :: D, h => by
    rw [List.map_cons, costI, List.zip_cons_cons, costP_cons, costI_zip xs D (by simpa using h)]
  | [], _ :: _, h => by simp at h
  | _ :: _, [], h => by simp at h
theorem zip_pairs (ws : List Int) : ws.zip (deps ws) = pairs ws := by
  unfold pairs deps
  conv => lhs; arg 1; rw [← range_get ws 0]
  rw [List.zip_map']
theorem cost_pairs {ws : List Int} (h1 : 1 ≤ ws.length) (hn : ws.length ≤ 12) : cost ws = costP (pairs ws) := by
  unfold cost
  rw [lens_deps h1 hn, costI_zip _ _ (by simp [deps]), zip_pairs]
theorem cost_le {ws : List Int} (h1 : 1 ≤ ws.length) (hn : ws.length ≤ 12) (h0 : ∀ x ∈ ws, 0 ≤ x) (D : List Nat) (hl : D.length = ws.length) (hK : ∀ d ∈ D, d ≤ 12) (hk : kraftP 12 D ≤ 4096) :
    cost ws ≤ costI ws (D.map fun (d : Nat) => (d : Int)) := by
  rw [cost_pairs h1 hn, costI_zip _ _ hl.symm]
  refine lens_least h1 hn h0 12 _ ?_ ?_ ?_
  · rw [List.map_fst_zip (by omega)]
  · rw [List.map_snd_zip (by omega)]; exact hK
  · rw [List.map_snd_zip (by omega)]; exact hk
theorem cost_deps {ws : List Int} (h1 : 1 ≤ ws.length) (hn : ws.length ≤ 12) : cost ws = costI ws ((deps ws).map fun (d : Nat) => (d : Int)) := by
  unfold cost; rw [← lens_deps h1 hn]
theorem deps_length (ws : List Int) : (deps ws).length = ws.length := by simp [deps]

theorem costI_append : ∀ (a b c d : List Int), a.length = c.length → costI (a ++ b) (c ++ d) = costI a c + costI b d
  | [], b, [], d, _ => by simp [costI]
  | x :: a, b, y :: c, d, h => by
    rw [List.cons_append, List.cons_append, costI, costI, costI_append a b c d (by simpa using h)]; omega
  | [], _, _ :: _, _, h => by simp at h
  | _ :: _, _, [], _, h => by simp at h
theorem costI_reverse : ∀ (a b : List Int), a.length = b.length → costI a.reverse b.reverse = costI a b
  | [], [], _ => by simp [costI]
  | x :: a, y :: b, h => by
    rw [List.reverse_cons, List.reverse_cons, costI_append _ _ _ _ (by simpa using h), costI_reverse a b (by simpa using h)]
    simp [costI]; omega
  | [], _ :: _, h => by simp at h
  | _ :: _, [], h => by simp at h
theorem costI_twice : ∀ (a b : List Int), costI (a.map fun x => 2 * x) b = 2 * costI a b
  | [], b => by simp [costI]
  | x :: a, [] => by simp [costI]
  | x :: a, y :: b => by
    rw [List.map_cons, costI, costI, costI_twice a b, Int.mul_add, Int.mul_assoc]
theorem kraftP_reverse (K : Nat) (D : List Nat) : kraftP K D.reverse = kraftP K D := kraftP_perm D.reverse_perm

section
variable {ws : List Int} (h1 : 1 ≤ ws.length) (hn : ws.length ≤ 12) (h0 : ∀ x ∈ ws, 0 ≤ x)
include h1 hn h0
theorem cost_rev_le : cost ws.reverse ≤ cost ws := by
  rw [cost_deps h1 hn, ← costI_reverse _ _ (by simp [deps]), ← List.map_reverse]
  exact cost_le (by simpa using h1) (by simpa using hn) (fun x hx => h0 x (by simpa using hx)) _ (by simp [deps]) (fun d hd => by have := deps_low h1 hn d (by simpa using hd); omega) (by rw [kraftP_reverse, deps_room h1 hn]; omega)
theorem cost_reverse : cost ws.reverse = cost ws := by
  have a := cost_rev_le h1 hn h0
  have b := cost_rev_le (ws := ws.reverse) (by simpa using h1) (by simpa using hn) (fun x hx => h0 x (by simpa using hx))
  rw [List.reverse_reverse] at b
  omega
theorem cost_twice : cost (ws.map fun x => 2 * x) = 2 * cost ws := by
  have l1 : 1 ≤ (ws.map fun x => 2 * x).length := by simpa using h1
  have l2 : (ws.map fun x => 2 * x).length ≤ 12 := by simpa using hn
  have h0' : ∀ x ∈ ws.map (fun x => 2 * x), 0 ≤ x := fun x hx => by
    obtain ⟨y, hy, rfl⟩ := List.mem_map.1 hx
    have := h0 y hy; omega
  have a := cost_le l1 l2 h0' (deps ws) (by simp [deps]) (fun d hd => by have := deps_low h1 hn d hd; omega) (by rw [deps_room h1 hn]; omega)
  have b := cost_le h1 hn h0 (deps (ws.map fun x => 2 * x)) (by simp [deps]) (fun d hd => by have := deps_low l1 l2 d hd; simp at this; omega) (by rw [deps_room l1 l2]; omega)
  rw [costI_twice, ← cost_deps h1 hn] at a
  have c := cost_deps l1 l2
  rw [costI_twice] at c
  omega
end
theorem cost_merge {x y : Int} {r : List Int} (hn : (x :: y :: r).length ≤ 12) (h0 : ∀ z ∈ x :: y :: r, 0 ≤ z) : cost (x :: y :: r) ≤ cost ((x + y) :: r) + x + y := by
  have hx := h0 x (by simp)
  have hy := h0 y (by simp)
  have l1 : 1 ≤ ((x + y) :: r).length := by simp
  have l2 : ((x + y) :: r).length ≤ 12 := by simp at hn ⊢; omega
  have hlow := deps_low l1 l2
  have hroom := deps_room l1 l2
  have hlen := deps_length ((x + y) :: r)
  rw [cost_deps l1 l2]
  generalize deps ((x + y) :: r) = D at *
  match D, hlen, hlow, hroom with
  | d :: D, hlen, hlow, hroom =>
    have hd := hlow d (by simp)
    simp only [List.length_cons] at hd hn hlen
    refine Int.le_trans (cost_le (by simp) (by simpa using hn) h0 ((d + 1) :: (d + 1) :: D) (by simp; omega) (fun e he => ?_) ?_) ?_
    · rw [List.mem_cons, List.mem_cons] at he
      rcases he with rfl | rfl | he
      · omega
      · omega
      · have := hlow e (by simp [he]); simp at this; omega
    · rw [kraftP_cons, kraftP_cons]
      rw [kraftP_cons] at hroom
      have e : (2 : Nat) ^ (12 - d) = 2 ^ (12 - (d + 1)) * 2 := by rw [← Nat.pow_succ]; congr 1; omega
      omega
    · simp only [List.map_cons, costI]
      have e : ((d + 1 : Nat) : Int) = (d : Int) + 1 := by omega
      rw [e, Int.mul_add, Int.mul_add, Int.add_mul]
      omega
theorem lens_one (x : Int) : lens [x] = [0] := rfl

end Go.Proofs.Ytnaoonegeboflaa.Hf
