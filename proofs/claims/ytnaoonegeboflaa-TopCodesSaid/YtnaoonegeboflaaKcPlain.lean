/-
  The codes that kraft.Codes makes, in plain lists: so long each, of 0 and 1, and none begins another one.
-/
import Derived.Test.YtnaoonegeboflaaKfCodes
import Derived.Test.YtnaoonegeboflaaKfUd
namespace Go.Proofs.Ytnaoonegeboflaa.Kf
open Go.RowKit
set_option linter.unusedVariables false
set_option linter.unusedSimpArgs false

/-- the shorter first, of the same length in their order -/
def Bef (l : List Int) (a b : Int) : Prop := lenAt l a < lenAt l b ∨ (lenAt l a = lenAt l b ∧ a < b)
theorem insRev_bef (l : List Int) (x : Int) : ∀ L : List Int, L.Pairwise (fun a b => Bef l b a) → (∀ y ∈ L, y < x) → (insRev (cmpL l) x L).Pairwise (fun a b => Bef l b a)
  | [], _, _ => by simp [insRev]
  | y :: L, hp, hx => by
    have h1 := List.pairwise_cons.1 hp
    have hyx := hx y (List.mem_cons_self ..)
    unfold insRev
    split
    · rename_i hc
      unfold cmpL at hc
      refine List.pairwise_cons.2 ⟨fun z hz => ?_, insRev_bef l x L h1.2 fun z hz => hx z (List.mem_cons_of_mem _ hz)⟩
      rcases List.mem_cons.1 ((insRev_perm (cmpL l) x L).subset hz) with rfl | hz
      · exact .inl (by omega)
      · exact h1.1 z hz
    · rename_i hc
      unfold cmpL at hc
      refine List.pairwise_cons.2 ⟨fun z hz => ?_, hp⟩
      rcases List.mem_cons.1 hz with rfl | hz
      · rcases Int.lt_or_eq_of_le (show lenAt l z ≤ lenAt l x by omega) with h | h
        · exact .inl h
        · exact .inr ⟨h, hyx⟩
      · have h2 := h1.1 z hz
        have h3 := hx z (List.mem_cons_of_mem _ hz)
        unfold Bef at h2 ⊢
        omega
theorem idx_succ (n : Nat) : idx (n + 1) = idx n ++ [(n : Int)] := by
  unfold idx
  rw [List.range_succ, List.map_append]
  rfl
theorem srt_bef (l : List Int) : ∀ n, (srt (cmpL l) (idx n)).Pairwise (Bef l) := by
  have h : ∀ n, ((srt (cmpL l) (idx n)).reverse).Pairwise (fun a b => Bef l b a) := by
    intro n
    induction n with
    | zero => simp [idx, srt]
    | succ n ih =>
      rw [idx_succ, srt_snoc, List.reverse_reverse]
      refine insRev_bef l _ _ ih fun y hy => ?_
      have := idx_mem ((srt_perm _ _).subset (List.mem_reverse.1 hy))
      omega
  intro n
  have := h n
  rwa [List.pairwise_reverse] at this
theorem ord_bef (l : List Int) : (ordOf l).Pairwise (Bef l) := srt_bef l _
theorem idx_nodup (n : Nat) : (idx n).Nodup := by
  unfold idx
  exact nodup_map_inj _ _ List.nodup_range fun x _ y _ e => Int.ofNat_inj.1 e
theorem ord_nodup (l : List Int) : (ordOf l).Nodup := (srt_perm _ _).nodup_iff.2 (idx_nodup _)
theorem ord_all {l : List Int} {i : Nat} (h : i < l.length) : (i : Int) ∈ ordOf l :=
  (srt_perm _ _).mem_iff.2 (List.mem_map.2 ⟨i, List.mem_range.2 h, rfl⟩)

/-- how much room a code takes -/
def rm (l : List Int) (i : Int) : Nat := 2 ^ (12 - lenAt l i).toNat
/-- where each one begins -/
def st (l : List Int) : List Int → Nat → List (Int × Nat)
  | [], _ => []
  | i :: o, nx => (i, nx) :: st l o (nx + rm l i)
theorem st_fst (l : List Int) : ∀ (o : List Int) (nx : Nat), (st l o nx).map (·.1) = o
  | [], _ => rfl
  | i :: o, nx => by rw [st, List.map_cons, st_fst l o]
theorem st_low (l : List Int) : ∀ (o : List Int) (nx : Nat) (p : Int × Nat), p ∈ st l o nx → nx ≤ p.2 ∧ p.2 + rm l p.1 ≤ nx + (o.map (rm l)).sum
  | [], _, p, h => by simp [st] at h
  | i :: o, nx, p, h => by
    rw [st] at h
    rw [List.map_cons, List.sum_cons]
    rcases List.mem_cons.1 h with rfl | h
    · exact ⟨Nat.le_refl _, by simp only; omega⟩
    · have := st_low l o _ p h
      omega
theorem st_pair (l : List Int) : ∀ (o : List Int) (nx : Nat), (st l o nx).Pairwise (fun p q => p.2 + rm l p.1 ≤ q.2)
  | [], _ => by simp [st]
  | i :: o, nx => by
    rw [st]
    exact List.pairwise_cons.2 ⟨fun q hq => (st_low l o _ q hq).1, st_pair l o _⟩
theorem rm_dvd {l : List Int} {i j : Int} (h : lenAt l i ≤ lenAt l j) : rm l j ∣ rm l i := by
  unfold rm
  exact Nat.pow_dvd_pow 2 (by omega)
theorem st_dvd (l : List Int) : ∀ (o : List Int) (nx : Nat), o.Pairwise (Bef l) → (∀ j ∈ o, rm l j ∣ nx) → ∀ p ∈ st l o nx, rm l p.1 ∣ p.2
  | [], _, _, _, p, h => by simp [st] at h
  | i :: o, nx, hp, hd, p, h => by
    rw [st] at h
    have h1 := List.pairwise_cons.1 hp
    rcases List.mem_cons.1 h with rfl | h
    · exact hd i (List.mem_cons_self ..)
    · refine st_dvd l o _ h1.2 (fun j hj => Nat.dvd_add (hd j (List.mem_cons_of_mem _ hj)) (rm_dvd ?_)) p h
      have := h1.1 j hj
      unfold Bef at this
      omega
theorem fold_other (l : List Int) : ∀ (o : List Int) (s : Nat × List (List UInt8)) (i : Nat), (∀ j ∈ o, j.toNat ≠ i) → (o.foldl (cstep l) s).2[i]? = s.2[i]?
  | [], _, _, _ => rfl
  | j :: o, s, i, h => by
    rw [List.foldl_cons, fold_other l o _ i fun k hk => h k (List.mem_cons_of_mem _ hk)]
    show (s.2.set j.toNat _)[i]? = _
    rw [List.getElem?_set_ne (h j (List.mem_cons_self ..))]
theorem fold_at (l : List Int) : ∀ (o : List Int) (s : Nat × List (List UInt8)), o.Nodup → (∀ j ∈ o, 0 ≤ j ∧ j < s.2.length) → ∀ p ∈ st l o s.1, (o.foldl (cstep l) s).2[p.1.toNat]? = some (code p.2 (lenAt l p.1).toNat)
  | [], _, _, _, p, h => by simp [st] at h
  | j :: o, s, hn, hj, p, h => by
    rw [st] at h
    have h1 := List.nodup_cons.1 hn
    have hj0 := hj j (List.mem_cons_self ..)
    rw [List.foldl_cons]
    rcases List.mem_cons.1 h with rfl | h
    · rw [fold_other l o _ _ fun k hk e => h1.1 (by
        have := hj k (List.mem_cons_of_mem _ hk)
        have : k = j := by simp only at e; omega
        rw [← this]; exact hk)]
      show (s.2.set j.toNat _)[j.toNat]? = _
      rw [List.getElem?_set_self (by omega)]
    · exact fold_at l o (cstep l s j) h1.2 (fun k hk => by
        have := hj k (List.mem_cons_of_mem _ hk)
        simpa [cstep] using this) p h
/-- each code, and where it begins -/
theorem code_at {l : List Int} {p : Int × Nat} (h : p ∈ st l (ordOf l) 0) : (codesOf l)[p.1.toNat]? = some (code p.2 (lenAt l p.1).toNat) :=
  fold_at l (ordOf l) (0, List.replicate l.length []) (ord_nodup l) (fun j hj => by have := ord_mem hj; simpa using this) p h
theorem codes_length (l : List Int) : (codesOf l).length = l.length := by
  unfold codesOf
  rw [cfold_length]
  simp
theorem start_of {l : List Int} {i : Nat} (h : i < l.length) : ∃ nx, ((i : Int), nx) ∈ st l (ordOf l) 0 := by
  have h1 := ord_all h
  rw [← st_fst l (ordOf l) 0] at h1
  obtain ⟨p, hp, e⟩ := List.mem_map.1 h1
  exact ⟨p.2, by rw [← e]; exact hp⟩
theorem lenAt_get {l : List Int} {i : Nat} {x : Int} (h : l[i]? = some x) : lenAt l (i : Int) = x := by
  unfold lenAt
  rw [Int.toNat_natCast, List.getD_eq_getElem?_getD, h]
  rfl
theorem code_len {l : List Int} (hl : ∀ x ∈ l, 1 ≤ x ∧ x ≤ 12) {i : Nat} {x : Int} (hx : l[i]? = some x) : ∃ nx, ((i : Int), nx) ∈ st l (ordOf l) 0 ∧ (codesOf l)[i]? = some (code nx x.toNat) ∧ (code nx x.toNat).length = x.toNat := by
  obtain ⟨nx, hnx⟩ := start_of (List.getElem?_eq_some_iff.1 hx).1
  have := code_at hnx
  simp only [Int.toNat_natCast, lenAt_get hx] at this
  exact ⟨nx, hnx, this, code_length _ _⟩
theorem code_bits (nx n : Nat) : ∀ s ∈ code nx n, s = 48 ∨ s = 49 := by
  intro s hs
  obtain ⟨k, _, rfl⟩ := List.mem_map.1 hs
  have : bit nx k = 0 ∨ bit nx k = 1 := by unfold bit; omega
  rcases this with e | e <;> rw [e]
  · exact .inl rfl
  · exact .inr rfl
theorem code_get {nx n k : Nat} (h : k < n) : (code nx n)[k]? = some (UInt8.ofNat (48 + bit nx k)) := by
  unfold code
  rw [List.getElem?_map, List.getElem?_range h]
  rfl
theorem bit_eq {a b k : Nat} (h : UInt8.ofNat (48 + bit a k) = UInt8.ofNat (48 + bit b k)) : bit a k = bit b k := by
  have h1 : bit a k = 0 ∨ bit a k = 1 := by unfold bit; omega
  have h2 : bit b k = 0 ∨ bit b k = 1 := by unfold bit; omega
  rcases h1 with e1 | e1 <;> rcases h2 with e2 | e2 <;> rw [e1, e2] at h ⊢
  · exact absurd h (by decide)
  · exact absurd h (by decide)
theorem top_eq {a b : Nat} (ha : a < 4096) (hb : b < 4096) : ∀ m, m ≤ 12 → (∀ k, k < m → bit a k = bit b k) → a / 2 ^ (12 - m) = b / 2 ^ (12 - m) := by
  intro m
  induction m with
  | zero => intro _ _; rw [Nat.div_eq_of_lt ha, Nat.div_eq_of_lt hb]
  | succ m ih =>
    intro hm hk
    have h1 := ih (by omega) fun k h => hk k (by omega)
    have h2 := hk m (by omega)
    unfold bit at h2
    have e1 : 12 - (m + 1) = 11 - m := by omega
    have e2 : 12 - m = (11 - m) + 1 := by omega
    rw [e1]
    rw [e2, Nat.pow_succ, ← Nat.div_div_eq_div_mul, ← Nat.div_div_eq_div_mul] at h1
    generalize a / 2 ^ (11 - m) = x at *
    generalize b / 2 ^ (11 - m) = y at *
    omega
/-- Kraft: none begins another one -/
theorem codes_free {l : List Int} (hl : ∀ x ∈ l, 1 ≤ x ∧ x ≤ 12) (hr : ((ordOf l).map (rm l)).sum ≤ 4096) : Fr (codesOf l) := by
  have key : ∀ (p q : Int × Nat), p ∈ st l (ordOf l) 0 → q ∈ st l (ordOf l) 0 → p.2 + rm l p.1 ≤ q.2 → 1 ≤ lenAt l p.1 ∧ lenAt l p.1 ≤ 12 → 1 ≤ lenAt l q.1 ∧ lenAt l q.1 ≤ 12 → ∀ m : Nat, m = (lenAt l p.1).toNat → (∀ k, k < m → bit p.2 k = bit q.2 k) → False := by
    intro p q hp hq hpq hlp hlq m hm hk
    have h1 := st_low l _ _ p hp
    have h2 := st_low l _ _ q hq
    have hr1 : 0 < rm l p.1 := Nat.pow_pos (by decide)
    have hr2 : 0 < rm l q.1 := Nat.pow_pos (by decide)
    have h3 := top_eq (a := p.2) (b := q.2) (by omega) (by omega) m (by omega) hk
    have hrm : rm l p.1 = 2 ^ (12 - m) := by unfold rm; congr 1; omega
    rw [hrm] at hpq hr1
    generalize 2 ^ (12 - m) = g at *
    have h4 : (p.2 + g) / g ≤ q.2 / g := Nat.div_le_div_right hpq
    rw [Nat.add_div_right _ hr1] at h4
    omega
  intro i k x y t hik hx hy e
  have hi : i < l.length := by have := (List.getElem?_eq_some_iff.1 hx).1; rwa [codes_length] at this
  have hkl : k < l.length := by have := (List.getElem?_eq_some_iff.1 hy).1; rwa [codes_length] at this
  obtain ⟨u, hu⟩ : ∃ u, l[i]? = some u := ⟨_, List.getElem?_eq_getElem hi⟩
  obtain ⟨v, hv⟩ : ∃ v, l[k]? = some v := ⟨_, List.getElem?_eq_getElem hkl⟩
  obtain ⟨a, ha, hca, _⟩ := code_len hl hu
  obtain ⟨b, hb, hcb, _⟩ := code_len hl hv
  rw [hx] at hca; rw [hy] at hcb
  simp only [Option.some.injEq] at hca hcb
  subst hca; subst hcb
  have hul := hl u (List.mem_of_getElem? hu)
  have hvl := hl v (List.mem_of_getElem? hv)
  have hlen := congrArg List.length e
  rw [List.length_append, code_length, code_length] at hlen
  have hbits : ∀ j, j < u.toNat → bit a j = bit b j := by
    intro j hj
    have h1 : (code b v.toNat)[j]? = (code a u.toNat)[j]? := by rw [e, List.getElem?_append_left (by rw [code_length]; exact hj)]
    rw [code_get hj, code_get (by omega)] at h1
    exact (bit_eq (Option.some.inj h1)).symm
  have hp := st_pair l (ordOf l) 0
  have hsa : lenAt l (i : Int) = u := lenAt_get hu
  have hsb : lenAt l (k : Int) = v := lenAt_get hv
  rcases List.getElem_of_mem ha with ⟨m, hm, em⟩
  rcases List.getElem_of_mem hb with ⟨n, hn, en⟩
  have hmn : m ≠ n := by
    intro e2
    subst e2
    rw [em] at en
    simp at en
    exact hik (by omega)
  have hB := ord_bef l
  have hfst : ∀ (j : Nat) (hj : j < (st l (ordOf l) 0).length), (ordOf l)[j]? = some ((st l (ordOf l) 0)[j]).1 := by
    intro j hj
    have h0 : (ordOf l)[j]? = ((st l (ordOf l) 0).map (·.1))[j]? := by rw [st_fst]
    rw [h0, List.getElem?_map, List.getElem?_eq_getElem hj]
    rfl
  rcases Nat.lt_or_ge m n with h | h
  · have h2 := List.pairwise_iff_getElem.1 hp m n hm hn h
    rw [em, en] at h2
    exact key _ _ ha hb h2 (by simp only [hsa]; omega) (by simp only [hsb]; omega) u.toNat (by simp only [hsa]) hbits
  · have hnm : n < m := by omega
    have h2 := List.pairwise_iff_getElem.1 hp n m hn hm hnm
    rw [em, en] at h2
    have h3 := hfst n hn
    have h4 := hfst m hm
    rw [en] at h3; rw [em] at h4
    obtain ⟨hn1, e3⟩ := List.getElem?_eq_some_iff.1 h3
    obtain ⟨hm1, e4⟩ := List.getElem?_eq_some_iff.1 h4
    have h5 := List.pairwise_iff_getElem.1 hB n m hn1 hm1 hnm
    rw [e3, e4] at h5
    unfold Bef at h5
    simp only [hsa, hsb] at h5
    have huv : u = v := by omega
    exact key _ _ hb ha h2 (by simp only [hsb]; omega) (by simp only [hsa]; omega) v.toNat (by simp only [hsb]) (fun j hj => (hbits j (by omega)).symm)
theorem room_map : ∀ (l : List Int), (l.map fun x => 2 ^ (12 - x).toNat).sum = roomOf l
  | [] => rfl
  | x :: l => by rw [List.map_cons, List.sum_cons, room_map l]; rfl
theorem ord_room (l : List Int) : ((ordOf l).map (rm l)).sum = roomOf l := by
  rw [show ((ordOf l).map (rm l)).sum = ((idx l.length).map (rm l)).sum from ((srt_perm (cmpL l) (idx l.length)).map (rm l)).sum_nat, ← room_map]
  congr 1
  unfold idx
  rw [List.map_map]
  refine List.ext_getElem (by simp) fun i h1 h2 => ?_
  simp only [List.getElem_map, Function.comp, List.getElem_range]
  unfold rm
  rw [lenAt_get (List.getElem?_eq_getElem (by simpa using h2))]
end Go.Proofs.Ytnaoonegeboflaa.Kf
