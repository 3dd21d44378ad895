/-
  That the least bits that go with all ahead are the codes that kraft.Codes makes, in plain lists.
-/
import Derived.Test.YtnaoonegeboflaaDoorKcPlain
namespace Go.Proofs.YtnaoonegeboflaaDoor.Kf
open Go.RowKit
set_option linter.unusedVariables false
set_option linter.unusedSimpArgs false

/-- the bits of a number, so many -/
def bitsL : Nat → Nat → List UInt8
  | 0, _ => []
  | m + 1, n => bitsL m (n / 2) ++ [UInt8.ofNat (48 + n % 2)]
theorem bitsL_length : ∀ m n, (bitsL m n).length = m
  | 0, _ => rfl
  | m + 1, n => by rw [bitsL, List.length_append, bitsL_length m]; rfl
theorem code_bitsL : ∀ (m nx : Nat), m ≤ 12 → code nx m = bitsL m (nx / 2 ^ (12 - m))
  | 0, nx, _ => by simp [code, bitsL]
  | m + 1, nx, h => by
    rw [code_succ, code_bitsL m nx (by omega), bitsL]
    have e2 : 12 - m = (11 - m) + 1 := by omega
    have e1 : 12 - (m + 1) = 11 - m := by omega
    rw [e1, e2, Nat.pow_succ, ← Nat.div_div_eq_div_mul]
    rfl
theorem code_same {a x m : Nat} (hm : m ≤ 12) (h : a / 2 ^ (12 - m) = x / 2 ^ (12 - m)) : code a m = code x m := by rw [code_bitsL m a hm, code_bitsL m x hm, h]
theorem code_prefix {x m n : Nat} (h : m ≤ n) : (code x m).isPrefixOf (code x n) = true := by
  rw [List.isPrefixOf_iff_prefix]
  obtain ⟨d, rfl⟩ : ∃ d, n = m + d := ⟨n - m, by omega⟩
  unfold code
  rw [List.range_add, List.map_append]
  exact List.prefix_append _ _
theorem bitsL_code {k n : Nat} (hn : n ≤ 12) : bitsL n k = code (k * 2 ^ (12 - n)) n := by
  rw [code_bitsL n _ hn, Nat.mul_div_cancel _ (Nat.pow_pos (by decide))]

theorem st_total (l : List Int) : ∀ (Q : List Int) (s : Nat × List (List UInt8)), (Q.foldl (cstep l) s).1 = s.1 + (Q.map (rm l)).sum
  | [], s => rfl
  | i :: Q, s => by
    rw [List.foldl_cons, st_total l Q, List.map_cons, List.sum_cons]
    show s.1 + 2 ^ (12 - lenAt l i).toNat + _ = _
    unfold rm
    omega
/-- what lies ahead of the total lies in the room of one of them -/
theorem st_cover (l : List Int) : ∀ (Q : List Int) (nx x : Nat), nx ≤ x → x < nx + (Q.map (rm l)).sum → ∃ p ∈ st l Q nx, p.2 ≤ x ∧ x < p.2 + rm l p.1
  | [], nx, x, h1, h2 => by simp at h2; omega
  | i :: Q, nx, x, h1, h2 => by
    rw [List.map_cons, List.sum_cons] at h2
    by_cases h : x < nx + rm l i
    · exact ⟨(i, nx), by rw [st]; exact List.mem_cons_self .., h1, h⟩
    · obtain ⟨p, hp, h3⟩ := st_cover l Q (nx + rm l i) x (by omega) (by omega)
      exact ⟨p, by rw [st]; exact List.mem_cons_of_mem _ hp, h3⟩
section
variable {l : List Int} {Q : List Int}
theorem taken (hl : ∀ j ∈ Q, 1 ≤ lenAt l j ∧ lenAt l j ≤ 12) (hp : Q.Pairwise (Bef l)) {n k : Nat} (hn : n ≤ 12) (hle : ∀ j ∈ Q, lenAt l j ≤ n) (hk : k * 2 ^ (12 - n) < (Q.map (rm l)).sum) : ∃ p ∈ st l Q 0, (code p.2 (lenAt l p.1).toNat).isPrefixOf (bitsL n k) = true := by
  obtain ⟨p, hpm, h1, h2⟩ := st_cover l Q 0 (k * 2 ^ (12 - n)) (Nat.zero_le _) (by omega)
  refine ⟨p, hpm, ?_⟩
  have hpQ : p.1 ∈ Q := by rw [← st_fst l Q 0]; exact List.mem_map_of_mem hpm
  have hd := st_dvd l Q 0 hp (fun j _ => Nat.dvd_zero _) p hpm
  have hl1 := hl p.1 hpQ
  have hl2 := hle p.1 hpQ
  have hrm : rm l p.1 = 2 ^ (12 - (lenAt l p.1).toNat) := by unfold rm; congr 1; omega
  rw [hrm] at hd h2
  rw [bitsL_code hn, code_same (x := k * 2 ^ (12 - n)) (by omega)]
  · exact code_prefix (by omega)
  · obtain ⟨t, ht⟩ := hd
    generalize k * 2 ^ (12 - n) = x at *
    have hg : 0 < 2 ^ (12 - (lenAt l p.1).toNat) := Nat.pow_pos (by decide)
    generalize 2 ^ (12 - (lenAt l p.1).toNat) = g at *
    rw [ht, Nat.mul_div_cancel_left _ hg]
    symm
    rw [Nat.div_eq_iff hg, Nat.mul_comm t g, ← ht]
    omega
theorem fresh (hl : ∀ j ∈ Q, 1 ≤ lenAt l j ∧ lenAt l j ≤ 12) {n k : Nat} (hn : n ≤ 12) (hle : ∀ j ∈ Q, lenAt l j ≤ n) (hk : k * 2 ^ (12 - n) = (Q.map (rm l)).sum) (hr : (Q.map (rm l)).sum < 4096) : ∀ p ∈ st l Q 0, (code p.2 (lenAt l p.1).toNat).isPrefixOf (bitsL n k) = false := by
  intro p hpm
  have hpQ : p.1 ∈ Q := by rw [← st_fst l Q 0]; exact List.mem_map_of_mem hpm
  have h1 := (st_low l Q 0 p hpm).2
  rw [Nat.zero_add, ← hk] at h1
  have hl1 := hl p.1 hpQ
  have hl2 := hle p.1 hpQ
  have hrm : rm l p.1 = 2 ^ (12 - (lenAt l p.1).toNat) := by unfold rm; congr 1; omega
  rw [hrm] at h1
  rw [← hk] at hr
  rw [bitsL_code hn]
  generalize k * 2 ^ (12 - n) = x at *
  obtain ⟨m, hm⟩ : ∃ m, m = (lenAt l p.1).toNat := ⟨_, rfl⟩
  rw [← hm] at h1 ⊢
  cases hpx : (code p.2 m).isPrefixOf (code x n)
  · rfl
  · exfalso
    obtain ⟨t, ht⟩ := List.isPrefixOf_iff_prefix.1 hpx
    have hmn : m ≤ n := by omega
    have hbits : ∀ j, j < m → bit p.2 j = bit x j := by
      intro j hj
      have h2 : (code p.2 m)[j]? = (code x n)[j]? := by rw [← ht, List.getElem?_append_left (by rw [code_length]; exact hj)]
      rw [code_get hj, code_get (by omega)] at h2
      exact bit_eq (Option.some.inj h2)
    have hg : 0 < 2 ^ (12 - m) := Nat.pow_pos (by decide)
    have h3 := top_eq (a := p.2) (b := x) (by omega) hr m (by omega) hbits
    generalize 2 ^ (12 - m) = g at *
    have h4 : (p.2 + g) / g ≤ x / g := Nat.div_le_div_right h1
    rw [Nat.add_div_right _ hg] at h4
    omega
theorem total_dvd {n : Nat} (hn : n ≤ 12) (hle : ∀ j ∈ Q, lenAt l j ≤ n) : ∃ k, k * 2 ^ (12 - n) = (Q.map (rm l)).sum := by
  induction Q with
  | nil => exact ⟨0, by simp⟩
  | cons j Q ih =>
    obtain ⟨k, hk⟩ := ih fun i hi => hle i (List.mem_cons_of_mem _ hi)
    have h1 := hle j (List.mem_cons_self ..)
    have hd : 2 ^ (12 - n) ∣ rm l j := by unfold rm; exact Nat.pow_dvd_pow 2 (by omega)
    obtain ⟨t, ht⟩ := hd
    exact ⟨t + k, by rw [List.map_cons, List.sum_cons, ht, ← hk, Nat.add_mul, Nat.mul_comm t]⟩
end

/-- the places of codes so long, below i -/
def lev (l : List Int) (n i : Nat) : List Int := (idx i).filter fun j => decide (lenAt l j = n)
/-- all of them that are no longer -/
def levs (l : List Int) (n : Nat) : List Int := (List.range n).flatMap fun t => lev l (t + 1) l.length
theorem levs_succ (l : List Int) (n : Nat) : levs l (n + 1) = levs l n ++ lev l (n + 1) l.length := by
  unfold levs
  rw [List.range_succ, List.flatMap_append]
  simp
theorem lev_succ (l : List Int) (n i : Nat) : lev l n (i + 1) = if lenAt l (i : Int) = n then lev l n i ++ [(i : Int)] else lev l n i := by
  unfold lev
  rw [idx_succ, List.filter_append]
  by_cases h : lenAt l (i : Int) = n <;> simp [h]
theorem lev_mem {l : List Int} {n i : Nat} {j : Int} (h : j ∈ lev l n i) : 0 ≤ j ∧ j < i ∧ lenAt l j = n := by
  obtain ⟨h1, h2⟩ := List.mem_filter.1 h
  have := idx_mem h1
  exact ⟨this.1, this.2, by simpa using h2⟩
theorem levs_mem {l : List Int} {n : Nat} {j : Int} (h : j ∈ levs l n) : 0 ≤ j ∧ j < l.length ∧ 1 ≤ lenAt l j ∧ lenAt l j ≤ n := by
  obtain ⟨t, ht, h1⟩ := List.mem_flatMap.1 h
  have h2 := lev_mem h1
  have := List.mem_range.1 ht
  omega
theorem idx_pair (n : Nat) : (idx n).Pairwise (· < ·) := by
  unfold idx
  rw [List.pairwise_map]
  exact List.pairwise_lt_range.imp fun h => by omega
theorem lev_bef (l : List Int) (n i : Nat) : (lev l n i).Pairwise (Bef l) := by
  have h1 : (lev l n i).Pairwise (· < ·) := (idx_pair i).filter _
  refine h1.imp_of_mem fun {a b} ha hb hab => .inr ⟨?_, hab⟩
  rw [(lev_mem ha).2.2, (lev_mem hb).2.2]
theorem levs_bef (l : List Int) (n : Nat) : (levs l n).Pairwise (Bef l) := by
  unfold levs
  rw [List.pairwise_flatMap]
  refine ⟨fun t _ => lev_bef l _ _, List.pairwise_lt_range.imp fun {a b} hab x hx y hy => .inl ?_⟩
  have := (lev_mem hx).2.2
  have := (lev_mem hy).2.2
  omega
theorem levs_lev_bef (l : List Int) (n i : Nat) : (levs l n ++ lev l (n + 1) i).Pairwise (Bef l) := by
  rw [List.pairwise_append]
  refine ⟨levs_bef l n, lev_bef l _ _, fun x hx y hy => .inl ?_⟩
  have := (levs_mem hx).2.2.2
  have := (lev_mem hy).2.2
  omega
theorem bef_nodup {l Q : List Int} (h : Q.Pairwise (Bef l)) : Q.Nodup := h.imp fun {a b} hab e => by
  subst e
  unfold Bef at hab
  omega
theorem levs_all {l : List Int} (hl : ∀ x ∈ l, 1 ≤ x ∧ x ≤ 12) : levs l 12 = ordOf l := by
  refine List.Perm.eq_of_pairwise (le := Bef l) (fun a b _ _ h1 h2 => by unfold Bef at h1 h2; omega) (levs_bef l 12) (ord_bef l) ?_
  rw [List.perm_ext_iff_of_nodup (bef_nodup (levs_bef l 12)) (ord_nodup l)]
  intro a
  constructor
  · intro h
    have := levs_mem h
    obtain ⟨i, rfl⟩ : ∃ i : Nat, a = (i : Int) := ⟨a.toNat, by omega⟩
    exact ord_all (by omega)
  · intro h
    have h1 := ord_mem h
    obtain ⟨i, rfl⟩ : ∃ i : Nat, a = (i : Int) := ⟨a.toNat, by omega⟩
    have hi : i < l.length := by omega
    have h2 := hl _ (List.getElem_mem hi)
    have h3 := lenAt_get (List.getElem?_eq_getElem hi)
    refine List.mem_flatMap.2 ⟨(lenAt l (i : Int)).toNat - 1, List.mem_range.2 (by omega), List.mem_filter.2 ⟨List.mem_map.2 ⟨i, List.mem_range.2 hi, rfl⟩, ?_⟩⟩
    simp
    omega
theorem idx_pre {i L : Nat} (h : i ≤ L) : idx i <+: idx L := by
  obtain ⟨d, rfl⟩ : ∃ d, L = i + d := ⟨L - i, by omega⟩
  unfold idx
  rw [List.range_add, List.map_append]
  exact List.prefix_append _ _
theorem levs_pre {l : List Int} : ∀ (d n : Nat), levs l n <+: levs l (n + d)
  | 0, n => List.prefix_rfl
  | d + 1, n => (levs_pre d n).trans (by rw [show n + (d + 1) = (n + d) + 1 by omega, levs_succ]; exact List.prefix_append _ _)
theorem levs_lev_pre {l : List Int} {n i : Nat} (hn : n + 1 ≤ 12) (hi : i ≤ l.length) : levs l n ++ lev l (n + 1) i <+: levs l 12 := by
  have h1 : lev l (n + 1) i <+: lev l (n + 1) l.length := (idx_pre hi).filter _
  have h2 : levs l n ++ lev l (n + 1) i <+: levs l (n + 1) := by
    rw [levs_succ]
    exact (List.prefix_append_right_inj _).2 h1
  obtain ⟨d, hd⟩ : ∃ d, 12 = (n + 1) + d := ⟨12 - (n + 1), by omega⟩
  rw [hd]
  exact h2.trans (levs_pre d (n + 1))
theorem sum_pre {l a b : List Int} (h : a <+: b) : (a.map (rm l)).sum ≤ (b.map (rm l)).sum := by
  obtain ⟨t, rfl⟩ := h
  rw [List.map_append, List.sum_append]
  omega
end Go.Proofs.YtnaoonegeboflaaDoor.Kf
