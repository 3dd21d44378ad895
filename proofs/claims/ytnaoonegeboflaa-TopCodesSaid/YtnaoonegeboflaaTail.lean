/-
  Rows that the call itself made, read from a place on: 's = s[1:]' and 's = append(s, x)' by turns. No condition beyond those in each theorem.
-/
import Derived.Test.YtnaoonegeboflaaBase
import Derived.ArgAppend
namespace Go.Proofs.Ytnaoonegeboflaa
open Go.RowKit
set_option linter.unusedVariables false
set_option linter.unusedSimpArgs false

/-- v is nil, or lies in a block of its own from base on, whose cells from its place on hold xs; elements of one cell -/
def Tail (w : World) (base : Nat) (e : TypeId) (v : Value) (n : Nat) (xs : List Value) : Prop :=
  xs.length = n ∧ ((v = .slice none 0 0 ∧ n = 0) ∨ ∃ g o cap cur, v = .slice (some ⟨g, o, none⟩) n cap ∧ base ≤ g ∧ w.heap[g]? = some (.cells cur e (0, 0)) ∧ n ≤ cap ∧ cap ≤ maxLen ∧ o + cap ≤ cur.size ∧ (cur.toList.drop o).take n = xs)
section
variable {w w' : World} {base n : Nat} {e : TypeId} {v : Value} {xs : List Value}
theorem Tail.nil (w : World) (base : Nat) (e : TypeId) : Tail w base e (.slice none 0 0) 0 [] := ⟨rfl, .inl ⟨rfl, rfl⟩⟩
theorem Tail.of_own (h : w.ownsRow base e 1 v n xs) : Tail w base e v n xs := by
  obtain ⟨hl, h⟩ := h
  rw [Nat.mul_one] at hl
  refine ⟨hl, ?_⟩
  rcases h with h | ⟨g, cap, cur, hv, hb, hh, hle, hm, hsz, ht⟩
  · exact .inl h
  · rw [Nat.mul_one] at hsz ht
    exact .inr ⟨g, 0, cap, cur, hv, hb, hh, hle, hm, by rw [Nat.zero_add, hsz]; exact Nat.le_refl _, by rw [List.drop_zero]; exact ht⟩
theorem Tail.own_base {b2 : Nat} (h : Tail w base e v n xs) (hb : b2 ≤ base) : Tail w b2 e v n xs :=
  ⟨h.1, h.2.imp id fun ⟨g, o, cap, cur, h1, h2, h3⟩ => ⟨g, o, cap, cur, h1, by omega, h3⟩⟩
theorem Tail.some_ (h : Tail w base e v n xs) (hn : 0 < n) : ∃ g o cap, v = .slice (some ⟨g, o, none⟩) n cap ∧ n ≤ cap ∧ base ≤ g ∧ g < w.heap.size := by
  rcases h.2 with ⟨_, h0⟩ | ⟨g, o, cap, cur, h1, h2, h3, h4, _⟩
  · omega
  · refine ⟨g, o, cap, h1, h4, h2, ?_⟩
    rcases Nat.lt_or_ge g w.heap.size with hlt | hge
    · exact hlt
    · rw [Array.getElem?_eq_none hge] at h3; cases h3
theorem Tail.shape (h : Tail w base e v n xs) : ∃ A cap, v = .slice A n cap := by
  rcases h.2 with ⟨rfl, rfl⟩ | ⟨g, o, cap, cur, rfl, _⟩
  · exact ⟨_, _, rfl⟩
  · exact ⟨_, _, rfl⟩
theorem Tail.cell {g o cap : Nat} (h : Tail w base e (.slice (some ⟨g, o, none⟩) n cap) n xs) {j : Nat} {u : Value} (hu : xs[j]? = some u) : w.cell? ⟨g, o + j, none⟩ = some u := by
  rcases h.2 with ⟨hv, _⟩ | ⟨g2, o2, cap2, cur, hv, _, hh, _, _, _, ht⟩
  · cases hv
  · simp only [Value.slice.injEq, Option.some.injEq, Addr.mk.injEq, and_true, true_and] at hv
    obtain ⟨⟨rfl, rfl⟩, rfl⟩ := hv
    rw [cell_of_row w g _ _ _ (0, 0) hh]
    rw [← ht, List.getElem?_take] at hu
    split at hu
    · rw [List.getElem?_drop] at hu; simpa using hu
    · cases hu
theorem Tail.drop1 {g o cap : Nat} {x : Value} (h : Tail w base e (.slice (some ⟨g, o, none⟩) (n + 1) cap) (n + 1) (x :: xs)) : Tail w base e (.slice (some ⟨g, o + 1, none⟩) n (cap - 1)) n xs := by
  have hl := h.1
  rcases h.2 with ⟨hv, _⟩ | ⟨g2, o2, cap2, cur, hv, hb, hh, hle, hm, hsz, ht⟩
  · cases hv
  · simp only [Value.slice.injEq, Option.some.injEq, Addr.mk.injEq, and_true, true_and] at hv
    obtain ⟨⟨rfl, rfl⟩, rfl⟩ := hv
    refine ⟨by simpa using hl, .inr ⟨g, o + 1, cap - 1, cur, rfl, hb, hh, by omega, by omega, by omega, ?_⟩⟩
    cases hd : cur.toList.drop o with
    | nil => rw [hd] at ht; simp at ht
    | cons y ys =>
      rw [hd, List.take_succ_cons] at ht
      have hd2 : cur.toList.drop (o + 1) = ys := by rw [← List.tail_drop, hd]; rfl
      rw [hd2]
      exact (List.cons.inj ht).2
theorem Tail.drop0 {g o n : Nat} {x : Value} (h : Tail w base e (.slice (some ⟨g, o, none⟩) (n + 1) 1) (n + 1) (x :: xs)) : Tail w base e (.slice (some ⟨g, o, none⟩) n 0) n xs := by
  have hl := h.1
  rcases h.2 with ⟨hv, _⟩ | ⟨g2, o2, cap2, cur, hv, hb, hh, hle, hm, hsz, ht⟩
  · cases hv
  · simp only [Value.slice.injEq, Option.some.injEq, Addr.mk.injEq, and_true, true_and] at hv
    obtain ⟨⟨rfl, rfl⟩, rfl⟩ := hv
    obtain rfl : n = 0 := by omega
    refine ⟨by simpa using hl, .inr ⟨g, o, 0, cur, rfl, hb, hh, by omega, by omega, by omega, ?_⟩⟩
    simp at hl ⊢
    exact hl
theorem Tail.kept {row : Option Nat} (h : Tail w base e v n xs) (hg : w.grownBy w' row) (hne : v.ownBlock = none ∨ v.ownBlock ≠ row) : Tail w' base e v n xs := by
  refine ⟨h.1, ?_⟩
  rcases h.2 with h0 | ⟨g, o, cap, cur, rfl, hb, hh, h3⟩
  · exact .inl h0
  · refine .inr ⟨g, o, cap, cur, rfl, hb, ?_, h3⟩
    have hlt : g < w.heap.size := by
      rcases Nat.lt_or_ge g w.heap.size with hlt | hge
      · exact hlt
      · rw [Array.getElem?_eq_none hge] at hh; cases hh
    refine (hg.block g hlt ?_).trans hh
    rcases hne with hne | hne
    · simp [Value.ownBlock] at hne
    · exact fun e => hne (by simpa [Value.ownBlock] using e)
theorem Tail.alloc (h : Tail w base e v n xs) (o : Obj) : Tail (w.alloc o) base e v n xs :=
  h.kept (World.grownBy_alloc w o none) (by cases hv : v.ownBlock <;> simp)
theorem Tail.block_ge (h : Tail w base e v n xs) {g : Nat} (hg : v.ownBlock = some g) : base ≤ g := by
  rcases h.2 with ⟨rfl, _⟩ | ⟨g2, o, cap, cur, rfl, hb, _⟩
  · simp [Value.ownBlock] at hg
  · simp [Value.ownBlock] at hg; omega
end

theorem grown_trans_none {w w1 w2 : World} {r : Option Nat} (h : w.grownBy w1 none) (h2 : w1.grownBy w2 r) : w.grownBy w2 r :=
  ⟨h2.1.trans h.1, h2.2.trans h.2, h2.3.trans h.3, Nat.le_trans h.4 h2.4, fun k hk hne => (h2.5 k (Nat.lt_of_lt_of_le hk h.4) hne).trans (h.5 k hk (by simp))⟩
theorem grown_trans_same {w w1 w2 : World} {r : Option Nat} (h : w.grownBy w1 r) (h2 : w1.grownBy w2 r) : w.grownBy w2 r :=
  ⟨h2.1.trans h.1, h2.2.trans h.2, h2.3.trans h.3, Nat.le_trans h.4 h2.4, fun k hk hne => (h2.5 k (Nat.lt_of_lt_of_le hk h.4) hne).trans (h.5 k hk hne)⟩

/-- append of one element -/
theorem wp_append_tail {P : Program} (w : World) {ops : Array Oper} {rest : List Oper} {o : Oper} {a : Act} {Q : Exit → Act → World → Prop} (hgd : o.guard = none) (s x : Operand) (t : TypeId)
    (ho : o.op = .call { callee := .builtin .append, args := #[s, x], argTypes := #[t, t] })
    (base : Nat) (e : TypeId) (i : TypeInfo) (z : Value) (bytes : Nat) (ht : P.underlying t = some (.slice e)) (hi : P.info? e = some i) (hz : i.zero = some z)
    (hsize : i.size = 1) (hby : i.bytes = bytes) (hzs : z.cells.size = 1)
    (v : Value) (n : Nat) (xs : List Value) (hs : a.eval s = v) (hown : Tail w base e v n xs)
    (ad : Addr) (c : Nat) (u : Value) (hx : a.eval x = .slice (some ad) 1 c) (hnews : w.cell? ad = some u) (h1 : u.oneCell' = true)
    (h63 : n + 1 ≤ maxLen) (hbytes : (n + 1) * bytes ≤ 140737488355328) (hbase : base ≤ w.heap.size)
    (h : ∀ g o2 cap w', Tail w' base e (.slice (some ⟨g, o2, none⟩) (n + 1) cap) (n + 1) (xs ++ [u]) → w.grownBy w' v.ownBlock → wpList P ops Q rest (a.put o.dst (.slice (some ⟨g, o2, none⟩) (n + 1) cap)) w') : wpList P ops Q (o :: rest) a w := by
  have hnw : ∀ j u', ([u] : List Value)[j]? = some u' → w.cell? (ad.add j) = some u' := by
    intro j u' hu
    cases j with
    | zero => simp at hu; subst hu; simpa [Addr.add] using hnews
    | succ j => simp at hu
  have hlen := hown.1
  have own_case : ∀ v' w', w'.ownsRow w.heap.size e 1 v' (n + 1) (xs ++ [u]) → w.grownBy w' none → wpList P ops Q rest (a.put o.dst v') w' := by
    intro v' w' h1' h2'
    obtain ⟨g, o2, cap, rfl, _⟩ := (Tail.of_own h1').some_ (by omega)
    refine h g o2 cap w' ((Tail.of_own h1').own_base hbase) ?_
    exact ⟨h2'.1, h2'.2, h2'.3, h2'.4, fun k hk _ => h2'.5 k hk (by simp)⟩
  rcases hown.2 with ⟨rfl, rfl⟩ | ⟨g, off, cap, cur, rfl, hb, hh, hle, hmax, hsz, htk⟩
  · obtain rfl : xs = [] := List.length_eq_zero_iff.1 hlen
    exact wpList_append_grows w hgd s x t ho e i z 1 bytes ht hi hz hsize hby hzs (by decide) none 0 0 [] hs (fun _ => ⟨rfl, rfl⟩) rfl (fun _ hh => by cases hh) ad 1 c [u] hx rfl hnw (by simpa using h1) (by omega) h63 hbytes own_case
  · have hcells : ∀ j u', xs[j]? = some u' → w.cell? ⟨g, off + j, none⟩ = some u' := fun j u' hu => Tail.cell hown hu
    refine wpList_append_arg w hgd s x t ho e i z 1 bytes ht hi hz hsize hby hzs (by decide) g off n cap xs hs (by omega) hcells ad 1 c [u] hx rfl hnw (by simpa using h1) ?_ h63 hbytes ?_ (fun _ => own_case)
    · intro hr j hj
      simp at hj
      subst hj
      refine ⟨?_, by simp [World.frozen?, hh]⟩
      rw [cell_of_row w g _ _ _ (0, 0) hh]
      simp only [Nat.mul_one, Nat.add_zero]
      rw [Array.getElem?_eq_getElem (by omega)]
      rfl
    · intro hr
      rw [Nat.mul_one]
      show wpList P ops Q rest _ (w.setCell ⟨g, off + n, none⟩ u)
      refine h g off cap _ ⟨by simp [hlen], .inr ⟨g, off, cap, cur.set! (off + n) u, rfl, hb, ?_, hr, hmax, by simpa using hsz, ?_⟩⟩ ?_
      · simp [World.setCell, Array.getElem?_modify, hh]
      · rw [Array.set!_eq_setIfInBounds, Array.toList_setIfInBounds]
        rw [← htk, List.take_add_one, List.getElem?_drop, List.getElem?_set_self (by simp; omega)]
        simp only [Option.toList_some]
        congr 1
        rw [List.drop_set, if_neg (by omega), show off + n - off = n by omega, List.take_set_of_le (by omega)]
      · exact ⟨rfl, rfl, rfl, by simp [World.setCell], fun k hk hne => Below.heap_setCell w _ u k (fun e => hne (by simp [Value.ownBlock, e]))⟩
end Go.Proofs.Ytnaoonegeboflaa
