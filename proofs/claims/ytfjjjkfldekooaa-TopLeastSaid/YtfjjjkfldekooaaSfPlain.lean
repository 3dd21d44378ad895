/-
  Plain: the order of texts, and ranks by ever longer beginnings (Manber and Myers).
-/
import Derived.Test.YtfjjjkfldekooaaSfLess
import Derived.Test.YtfjjjkfldekooaaBefP
import Derived.Sort.Statements
namespace Go.Proofs.Ytfjjjkfldekooaa
set_option linter.unusedVariables false
set_option linter.unusedSimpArgs false

/-- ranks by the first m bytes of the ends -/
structure RankOk (l : List UInt8) (m : Nat) (r : List Int) : Prop where
  len : r.length = l.length
  pos : ∀ x ∈ r, 0 ≤ x
  lt : ∀ i j, atR r i < atR r j ↔ bef ((l.drop i).take m) ((l.drop j).take m) = true
theorem RankOk.eq {l : List UInt8} {m : Nat} {r : List Int} (h : RankOk l m r) (i j : Nat) : atR r i = atR r j ↔ (l.drop i).take m = (l.drop j).take m := by
  constructor
  · intro e
    refine bef_total _ _ ?_ ?_
    · cases hb : bef ((l.drop i).take m) ((l.drop j).take m)
      · rfl
      · have := (h.lt i j).2 hb; omega
    · cases hb : bef ((l.drop j).take m) ((l.drop i).take m)
      · rfl
      · have := (h.lt j i).2 hb; omega
  · intro e
    have h1 : ¬ atR r i < atR r j := fun hl => by have := (h.lt i j).1 hl; rw [e, bef_irrefl] at this; cases this
    have h2 : ¬ atR r j < atR r i := fun hl => by have := (h.lt j i).1 hl; rw [e, bef_irrefl] at this; cases this
    omega
theorem cmpI_neg (x y : Int) : cmpI x y < 0 ↔ x < y := by unfold cmpI; split <;> (try split) <;> omega
theorem cmpI_zero (x y : Int) : cmpI x y = 0 ↔ x = y := by unfold cmpI; split <;> (try split) <;> omega
theorem cfR_neg (r : List Int) (h x y : Nat) : cfR r h x y < 0 ↔ atR r x < atR r y ∨ (atR r x = atR r y ∧ atR r (x + h) < atR r (y + h)) := by
  unfold cfR
  by_cases hz : atR r x = atR r y
  · rw [if_neg (by simpa using (cmpI_zero _ _).2 hz), cmpI_neg]
    constructor
    · exact fun h => .inr ⟨hz, h⟩
    · rintro (h | h)
      · omega
      · exact h.2
  · rw [if_pos (fun e => hz ((cmpI_zero _ _).1 e)), cmpI_neg]
    constructor
    · exact fun h => .inl h
    · rintro (h | h)
      · exact h
      · exact absurd h.1 hz
/-- the closure's order is that by the first k bytes -/
theorem cfR_bef {l : List UInt8} {m k h : Nat} {r : List Int} (hr : RankOk l m r) (hk : (k = 1 ∧ h = 0 ∧ m = 1) ∨ (k = m + m ∧ h = m)) (x y : Nat) : cfR r h x y < 0 ↔ bef ((l.drop x).take k) ((l.drop y).take k) = true := by
  rw [cfR_neg]
  rcases hk with ⟨rfl, rfl, rfl⟩ | ⟨rfl, rfl⟩
  · simp only [Nat.add_zero]
    rw [hr.lt]
    constructor
    · rintro (h | h)
      · exact h
      · exact h.2
    · exact fun h => .inl h
  · rw [hr.lt, hr.eq, hr.lt, bef_take_add, List.drop_drop, List.drop_drop]
theorem drop_take_one (l : List UInt8) (i : Nat) : (l.drop i).take 1 = (l[i]?).toList := by
  cases h : l[i]? with
  | none => rw [List.drop_of_length_le (by simpa using h)]; rfl
  | some x =>
    obtain ⟨hi, rfl⟩ := List.getElem?_eq_some_iff.1 h
    rw [List.drop_eq_getElem_cons hi]; rfl
theorem rank_bytes (l : List UInt8) : RankOk l 1 (l.map fun x => (x.toNat : Int)) := by
  refine ⟨by simp, ?_, fun i j => ?_⟩
  · intro x hx
    obtain ⟨y, _, rfl⟩ := List.mem_map.1 hx
    omega
  · rw [drop_take_one, drop_take_one]
    unfold atR
    rw [List.getElem?_map, List.getElem?_map]
    cases hi : l[i]? with
    | none =>
      cases hj : l[j]? with
      | none => simp [bef]
      | some y => simp [bef]; omega
    | some x =>
      cases hj : l[j]? with
      | none => simp [bef]
      | some y =>
        by_cases hxy : x = y
        · subst hxy; simp [bef]
        · simp [bef, hxy]

/-- counts along a sorted row -/
def cnt (lt : Nat → Nat → Bool) (d : Nat → Nat) : Nat → Nat
  | 0 => 0
  | t + 1 => cnt lt d t + (if lt (d t) (d (t + 1)) = true then 1 else 0)
theorem cnt_mono (lt : Nat → Nat → Bool) (d : Nat → Nat) (a : Nat) : ∀ e, cnt lt d a ≤ cnt lt d (a + e)
  | 0 => Nat.le_refl _
  | e + 1 => Nat.le_trans (cnt_mono lt d a e) (by rw [← Nat.add_assoc]; show _ ≤ _ + _; omega)
theorem cnt_le (lt : Nat → Nat → Bool) (d : Nat → Nat) : ∀ t, cnt lt d t ≤ t
  | 0 => Nat.le_refl _
  | t + 1 => by have := cnt_le lt d t; show _ + _ ≤ _; split <;> omega
structure SW0 (lt : Nat → Nat → Bool) : Prop where
  irrefl : ∀ x, lt x x = false
  trans : ∀ x y z, lt x y = true → lt y z = true → lt x z = true
  ntrans : ∀ x y z, lt x y = false → lt y z = false → lt x z = false
theorem cnt_lt {lt : Nat → Nat → Bool} (hs : SW0 lt) {d : Nat → Nat} {n : Nat} (hd : ∀ i j, i < j → j < n → lt (d j) (d i) = false) (a : Nat) : ∀ e, a + e < n → (cnt lt d a < cnt lt d (a + e) ↔ lt (d a) (d (a + e)) = true)
  | 0, _ => by simp [hs.irrefl]
  | e + 1, hn => by
    have ih := cnt_lt hs hd a e (by omega)
    have hm := cnt_mono lt d a e
    have h1 : cnt lt d (a + (e + 1)) = cnt lt d (a + e) + (if lt (d (a + e)) (d (a + (e + 1))) = true then 1 else 0) := rfl
    rw [h1]
    cases hb : lt (d (a + e)) (d (a + (e + 1)))
    · rw [if_neg (by simp), Nat.add_zero, ih]
      constructor
      · intro h
        cases hc : lt (d a) (d (a + (e + 1)))
        · have := hs.ntrans _ _ _ hc (hd (a + e) (a + (e + 1)) (by omega) hn)
          rw [h] at this; cases this
        · rfl
      · intro h
        cases hc : lt (d a) (d (a + e))
        · rw [hs.ntrans _ _ _ hc hb] at h; cases h
        · rfl
    · rw [if_pos rfl]
      constructor
      · intro _
        by_cases he : e = 0
        · subst he; exact hb
        · cases hc : lt (d a) (d (a + (e + 1)))
          · have h2 := hd a (a + e) (by omega) (by omega)
            rw [hs.ntrans _ _ _ h2 hc] at hb; cases hb
          · rfl
      · intro _; omega
theorem sw_bef (l : List UInt8) (k : Nat) : SW0 (fun x y => bef ((l.drop x).take k) ((l.drop y).take k)) :=
  ⟨fun _ => bef_irrefl _, fun _ _ _ => bef_trans _ _ _, fun _ _ _ => bef_ntrans⟩
/-- the new ranks -/
theorem rank_next {l : List UInt8} {k : Nat} {d : List Nat} (hp : d.Perm (List.range l.length)) (hd : ∀ i j, i < j → j < l.length → bef ((l.drop (d[j]?.getD 0)).take k) ((l.drop (d[i]?.getD 0)).take k) = false)
    (r : List Int) (hl : r.length = l.length) (hr : ∀ t, t < l.length → r[d[t]?.getD 0]? = some ((cnt (fun x y => bef ((l.drop x).take k) ((l.drop y).take k)) (fun t => d[t]?.getD 0) t : Nat) : Int)) (hk : 0 < k) : RankOk l k r := by
  have hdl : d.length = l.length := by simpa using hp.length_eq
  have idx : ∀ i, i < l.length → ∃ t, t < l.length ∧ d[t]?.getD 0 = i := fun i hi => by
    obtain ⟨t, ht⟩ := List.getElem?_of_mem (hp.mem_iff.2 (List.mem_range.2 hi))
    exact ⟨t, by rw [← hdl]; exact (List.getElem?_eq_some_iff.1 ht).1, by rw [ht]; rfl⟩
  have hnn : ∀ i, i < l.length → 0 ≤ atR r i := fun i hi => by
    obtain ⟨t, ht, rfl⟩ := idx i hi
    unfold atR
    rw [hr t ht]
    simp
  refine ⟨hl, fun x hx => ?_, fun i j => ?_⟩
  · obtain ⟨i, hi⟩ := List.getElem?_of_mem hx
    have := hnn i (by rw [← hl]; exact (List.getElem?_eq_some_iff.1 hi).1)
    unfold atR at this
    rwa [hi] at this
  · by_cases hi : i < l.length
    · by_cases hj : j < l.length
      · obtain ⟨a, ha, rfl⟩ := idx i hi
        obtain ⟨b, hb, rfl⟩ := idx j hj
        unfold atR
        rw [hr a ha, hr b hb]
        simp only [Option.getD_some, Int.ofNat_lt]
        have hs := sw_bef l k
        rcases Nat.lt_or_ge a b with hab | hab
        · have := cnt_lt hs hd a (b - a) (by omega)
          rwa [show a + (b - a) = b by omega] at this
        · have hm := cnt_mono (fun x y => bef ((l.drop x).take k) ((l.drop y).take k)) (fun t => d[t]?.getD 0) b (a - b)
          rw [show b + (a - b) = a by omega] at hm
          constructor
          · intro h; omega
          · intro h
            rcases Nat.lt_or_ge b a with hba | hba
            · rw [hd b a hba ha] at h; cases h
            · obtain rfl : a = b := by omega
              rw [bef_irrefl] at h; cases h
      · have h1 := hnn i hi
        have h2 : atR r j = -1 := by unfold atR; rw [List.getElem?_eq_none (by omega)]; rfl
        rw [h2, List.drop_of_length_le (show l.length ≤ j by omega), List.take_nil]
        constructor
        · intro h; omega
        · intro h; cases hx : (l.drop i).take k <;> rw [hx] at h <;> cases h
    · have h2 : atR r i = -1 := by unfold atR; rw [List.getElem?_eq_none (by omega)]; rfl
      rw [h2, List.drop_of_length_le (show l.length ≤ i by omega), List.take_nil]
      by_cases hj : j < l.length
      · have h1 := hnn j hj
        constructor
        · intro _
          rw [List.drop_eq_getElem_cons hj]
          obtain ⟨k', rfl⟩ : ∃ k', k = k' + 1 := ⟨k - 1, by omega⟩
          rfl
        · intro _; omega
      · have h3 : atR r j = -1 := by unfold atR; rw [List.getElem?_eq_none (by omega)]; rfl
        rw [h3, List.drop_of_length_le (show l.length ≤ j by omega), List.take_nil]
        simp [bef]
/-- the order of the ends -/
structure IsOrd (l : List UInt8) (o : List Nat) : Prop where
  perm : o.Perm (List.range l.length)
  sorted : o.Pairwise fun i j => bef (l.drop i) (l.drop j) = true
theorem ord_of {l : List UInt8} {k : Nat} {d : List Nat} (hp : d.Perm (List.range l.length)) (hd : ∀ i j, i < j → j < l.length → bef ((l.drop (d[j]?.getD 0)).take k) ((l.drop (d[i]?.getD 0)).take k) = false) (hk : l.length ≤ k) : IsOrd l d := by
  refine ⟨hp, List.pairwise_iff_getElem.2 fun i j hi hj hij => ?_⟩
  have hdl : d.length = l.length := by simpa using hp.length_eq
  have h1 := hd i j hij (by omega)
  rw [List.getElem?_eq_getElem hi, List.getElem?_eq_getElem hj, Option.getD_some, Option.getD_some, List.take_of_length_le (by simp; omega), List.take_of_length_le (by simp; omega)] at h1
  have hnd : d.Nodup := hp.nodup_iff.2 List.nodup_range
  have hne : d[i] ≠ d[j] := List.pairwise_iff_getElem.1 hnd i j hi hj hij
  have hi2 : d[i] < l.length := List.mem_range.1 (hp.mem_iff.1 (List.getElem_mem hi))
  have hj2 : d[j] < l.length := List.mem_range.1 (hp.mem_iff.1 (List.getElem_mem hj))
  cases hb : bef (l.drop d[i]) (l.drop d[j])
  · have := congrArg List.length (bef_total _ _ hb h1)
    simp at this
    omega
  · rfl
theorem IsOrd.unique {l : List UInt8} {o o' : List Nat} (h : IsOrd l o) (h' : IsOrd l o') : o = o' :=
  List.Perm.eq_of_pairwise (le := fun i j => bef (l.drop i) (l.drop j) = true) (fun a b _ _ h1 h2 => by rw [bef_asymm h1] at h2; cases h2) h.sorted h'.sorted (h.perm.trans h'.perm.symm)
/-- the places of the ends, the least first -/
def ordOf (l : List UInt8) : List Nat := (List.range l.length).mergeSort fun i j => !bef (l.drop j) (l.drop i)
theorem ordOf_is (l : List UInt8) : IsOrd l (ordOf l) := by
  have hp : (ordOf l).Perm (List.range l.length) := List.mergeSort_perm _ _
  have hs := List.pairwise_mergeSort (le := fun i j => !bef (l.drop j) (l.drop i)) (fun a b c h1 h2 => by
    simp only [Bool.not_eq_true'] at h1 h2 ⊢
    exact bef_ntrans h2 h1) (fun a b => by
    cases h : bef (l.drop b) (l.drop a)
    · simp
    · simp [bef_asymm h]) (List.range l.length)
  refine ⟨hp, ?_⟩
  have hnd : (ordOf l).Nodup := hp.nodup_iff.2 List.nodup_range
  rw [List.pairwise_iff_getElem]
  intro i j hi hj hij
  have h1 : (!bef (l.drop (ordOf l)[j]) (l.drop (ordOf l)[i])) = true := List.pairwise_iff_getElem.1 hs i j hi hj hij
  have hne : (ordOf l)[i] ≠ (ordOf l)[j] := List.pairwise_iff_getElem.1 hnd i j hi hj hij
  have hi2 : (ordOf l)[i] < l.length := List.mem_range.1 (hp.mem_iff.1 (List.getElem_mem hi))
  have hj2 : (ordOf l)[j] < l.length := List.mem_range.1 (hp.mem_iff.1 (List.getElem_mem hj))
  cases hb : bef (l.drop (ordOf l)[i]) (l.drop (ordOf l)[j])
  · have := congrArg List.length (bef_total _ _ hb (by simpa using h1))
    simp at this
    omega
  · rfl
theorem IsOrd.eq {l : List UInt8} {o : List Nat} (h : IsOrd l o) : o = ordOf l := h.unique (ordOf_is l)
end Go.Proofs.Ytfjjjkfldekooaa
