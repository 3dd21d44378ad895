/-
  The walk of the closure take of huff.Long: the first of the lightest heaps is taken out.
-/
import Derived.Test.YtnaoonegeboflaaHfDel
namespace Go.Proofs.Ytnaoonegeboflaa.Hf
open Go.RowKit
set_option linter.unusedVariables false
set_option linter.unusedSimpArgs false

abbrev Hp := Int × Value
def rc (l : List Hp) : List Value := l.flatMap fun p => [.int .i64 p.1, p.2]
theorem rc_length (l : List Hp) : (rc l).length = l.length * 2 := by
  induction l with
  | nil => rfl
  | cons p l ih => simp [rc] at ih ⊢; omega
theorem rc_append (a b : List Hp) : rc (a ++ b) = rc a ++ rc b := by simp [rc]
theorem rc_get (l : List Hp) (k : Nat) : (rc l)[k * 2]? = (l[k]?).map (fun p => Value.int .i64 p.1) ∧ (rc l)[k * 2 + 1]? = (l[k]?).map (fun p => p.2) := by
  induction l generalizing k with
  | nil => simp [rc]
  | cons p l ih =>
    have e : rc (p :: l) = .int .i64 p.1 :: p.2 :: rc l := by simp [rc]
    rw [e]
    rcases k with _ | k
    · simp
    · have h := ih k
      rw [show (k + 1) * 2 = k * 2 + 1 + 1 by omega]
      simpa using h
theorem rc_take (l : List Hp) (k : Nat) : (rc l).take (k * 2) = rc (l.take k) := by
  induction l generalizing k with
  | nil => simp [rc]
  | cons p l ih =>
    have e : rc (p :: l) = .int .i64 p.1 :: p.2 :: rc l := by simp [rc]
    rcases k with _ | k
    · simp [rc]
    · rw [show (k + 1) * 2 = k * 2 + 1 + 1 by omega, e, List.take_succ_cons, List.take_succ_cons, ih, List.take_succ_cons]
      simp [rc]
theorem rc_drop (l : List Hp) (k : Nat) : (rc l).drop (k * 2) = rc (l.drop k) := by
  induction l generalizing k with
  | nil => simp [rc]
  | cons p l ih =>
    have e : rc (p :: l) = .int .i64 p.1 :: p.2 :: rc l := by simp [rc]
    rcases k with _ | k
    · simp [rc]
    · rw [show (k + 1) * 2 = k * 2 + 1 + 1 by omega, e, List.drop_succ_cons, List.drop_succ_cons, ih, List.drop_succ_cons]
theorem rc_erase (l : List Hp) (k : Nat) : (rc l).take (k * 2) ++ (rc l).drop (k * 2 + 2) = rc (l.eraseIdx k) := by
  rw [rc_take, show k * 2 + 2 = (k + 1) * 2 by omega, rc_drop, ← rc_append, List.eraseIdx_eq_take_drop_succ]
theorem rc_one {l : List Hp} (h : ∀ p ∈ l, p.2.oneCell' = true) : ∀ u ∈ rc l, u.oneCell' = true := by
  intro u hu
  obtain ⟨p, hp, hu⟩ := List.mem_flatMap.1 hu
  simp at hu
  rcases hu with rfl | rfl
  · rfl
  · exact h p hp

/-- the first of the lightest among the first i -/
def lst (l : List Int) : Nat → Nat
  | 0 => 0
  | i + 1 => if l.getD i 0 < l.getD (lst l i) 0 then i else lst l i
def lt0 (l : List Int) : Nat := lst l l.length
theorem lst_lt (l : List Int) (h : 0 < l.length) : ∀ i, i ≤ l.length → lst l i < l.length
  | 0, _ => h
  | i + 1, hi => by
    rw [lst]; split
    · omega
    · exact lst_lt l h i (by omega)

/-- nothing has changed but the blocks X and g -/
structure But2 (X g : Nat) (w w' : World) : Prop where
  os : w'.os = w.os
  tape : w'.tape = w.tape
  output : w'.output = w.output
  size : w.heap.size ≤ w'.heap.size
  block : ∀ k, k < w.heap.size → k ≠ X → k ≠ g → w'.heap[k]? = w.heap[k]?

structure TRel (w wr : World) (X g cap : Nat) (base : Nat) (l : List Hp) : Prop where
  cell : wr.heap[X]? = some (.cells #[.slice (some ⟨g, 0, none⟩) l.length cap] 51 (0, 0))
  own : wr.ownsRow base 53 2 (.slice (some ⟨g, 0, none⟩) l.length cap) l.length (rc l)
  below : Below w.heap.size w wr
  res : wr.heap[w.heap.size]? = some (.cells #[.int .i64 0, .slice none 0 0] 53 (0, 0))
theorem TRel.drewN {w wr : World} {X g cap base : Nat} {l : List Hp} (h : TRel w wr X g cap base l) (q : Nat) : TRel w (wr.drewN q) X g cap base l := ⟨h.cell, own_drewN h.own q, bdrew h.below q, h.res⟩
theorem TRel.alloc {w wr : World} {X g cap base : Nat} {l : List Hp} (h : TRel w wr X g cap base l) (hX : X < w.heap.size) (o : Obj) : TRel w (wr.alloc o) X g cap base l := by
  have hs := h.below.size
  have hb := bnew wr o
  have hlt : w.heap.size < wr.heap.size := by
    rcases Nat.lt_or_ge w.heap.size wr.heap.size with h2 | h2
    · exact h2
    · have := h.res; rw [Array.getElem?_eq_none h2] at this; cases this
  exact ⟨(hb.block X (by omega)).trans h.cell, h.own.alloc o, bmore h.below o, (hb.block _ hlt).trans h.res⟩

theorem cell_far {w : World} {p q : Addr} {u : Value} (h : q.block ≠ p.block) : (w.setCell p u).cell? q = w.cell? q := World.cell?_of_block (Below.heap_setCell w p u q.block h)
theorem heap_far {w : World} {p : Addr} {u : Value} {k : Nat} (h : k ≠ p.block) : (w.setCell p u).heap[k]? = w.heap[k]? := Below.heap_setCell w p u k h
theorem row_set {w : World} {R i : Nat} {cur : Array Value} {e : TypeId} {fz : Nat × Nat} (h : w.heap[R]? = some (.cells cur e fz)) (u : Value) : (w.setCell ⟨R, i, none⟩ u).heap[R]? = some (.cells (cur.setIfInBounds i u) e fz) := by
  simp [World.setCell, Array.getElem?_modify, h]
theorem row_cell {w : World} {R i : Nat} {cur : Array Value} {e : TypeId} {fz : Nat × Nat} {v : Value} (h : w.heap[R]? = some (.cells cur e fz)) (hv : cur[i]? = some v) : w.cell? ⟨R, i, none⟩ = some v := by rw [cell_of_row w R i _ _ fz h]; exact hv
theorem row_frozen {w : World} {R i : Nat} {cur : Array Value} {e : TypeId} (h : w.heap[R]? = some (.cells cur e (0, 0))) : w.frozen? ⟨R, i, none⟩ = false := by simp [World.frozen?, h]

set_option maxHeartbeats 4000000 in
set_option maxRecDepth 100000 in
theorem take_any (w : World) (X g cap base : Nat) (l : List Hp) (h0 : 0 < l.length) (hn : l.length ≤ 1000) (hX : w.heap[X]? = some (.cells #[.slice (some ⟨g, 0, none⟩) l.length cap] 51 (0, 0)))
    (hown : w.ownsRow base 53 2 (.slice (some ⟨g, 0, none⟩) l.length cap) l.length (rc l)) (h1 : ∀ p ∈ l, ∃ A m c, p.2 = .slice A m c) :
    Calls Try.prog 26 #[.pointer (some ⟨X, 0, none⟩)] w fun e w' => ∃ p, l[lt0 (l.map (·.1))]? = some p ∧ e = .returned (.agg #[.int .i64 p.1, p.2]) ∧
      w'.heap[X]? = some (.cells #[.slice (some ⟨g, 0, none⟩) (l.length - 1) cap] 51 (0, 0)) ∧
      w'.ownsRow base 53 2 (.slice (some ⟨g, 0, none⟩) (l.length - 1) cap) (l.length - 1) (rc (l.eraseIdx (lt0 (l.map (·.1))))) ∧ But2 X g w w' := by
  have hXl : X < w.heap.size := by
    rcases Nat.lt_or_ge X w.heap.size with h | h
    · exact h
    · rw [Array.getElem?_eq_none h] at hX; cases hX
  have hXc : w.cell? ⟨X, 0, none⟩ = some (.slice (some ⟨g, 0, none⟩) l.length cap) := by rw [cell_of_row w X 0 _ _ (0, 0) hX]; rfl
  obtain ⟨_, _, _, hgl⟩ := own_some hown h0
  go_enter Try.func26, Try.ntmps26
  go_wp2
  have hst := Lib.hid (show TRel w (w.alloc (.cells #[.int .i64 0, .slice none 0 0] 53)) X g cap base l from
    ⟨((bnew w _).block X hXl).trans hX, hown.alloc _, bnew w _, heap_alloc_new w _⟩)
  have hgl0 : g < w.heap.size := hgl.2
  have hXg : X ≠ g := fun e => by
    rcases hown.2 with ⟨_, h⟩ | ⟨g', cap', cur, hv, hb, hh, _⟩
    · omega
    · simp only [Value.slice.injEq, Option.some.injEq, Addr.mk.injEq, and_true, true_and] at hv
      obtain ⟨rfl, rfl⟩ := hv
      rw [← e, hX] at hh
      injection hh with h
      injection h with _ h
      exact absurd h (by decide)
  clear hX hown hXc hgl
  go_loopw [2, 3, 4, 8] (fun av hv pv iv wr => ∃ i : Nat, i ≤ l.length ∧ iv = .int .i64 (i : Int) ∧ av = .int .i64 (lst (l.map (·.1)) i : Int) ∧ TRel w wr X g cap base l) (fun _ _ _ i _ => l.length - (intOf i).toNat)
  case atStart => exact ⟨0, Nat.zero_le _, rfl, rfl, hst.out⟩
  case round =>
    clear hst
    obtain ⟨i, hi, rfl, rfl, hrel⟩ := hrel
    have hcX : wr.cell? ⟨X, 0, none⟩ = some (.slice (some ⟨g, 0, none⟩) l.length cap) := by rw [cell_of_row wr X 0 _ _ (0, 0) hrel.cell]; rfl
    by_cases hlt : i < l.length
    · have hbl := lst_lt (l.map (·.1)) (by simpa using h0) i (by simpa using hi)
      have hbn : lst (l.map (·.1)) (i + 1) = if (l.map (·.1)).getD i 0 < (l.map (·.1)).getD (lst (l.map (·.1)) i) 0 then i else lst (l.map (·.1)) i := rfl
      rw [List.length_map] at hbl
      have HN := Lib.hid hbn
      clear hbn
      generalize lst (l.map (·.1)) i = B at *
      obtain ⟨⟨wi, vi⟩, hp⟩ : ∃ p, l[i]? = some p := ⟨_, List.getElem?_eq_getElem hlt⟩
      obtain ⟨⟨wb, vb⟩, hq⟩ : ∃ p, l[B]? = some p := ⟨_, List.getElem?_eq_getElem hbl⟩
      have c0 : wr.cell? ⟨g, i * 2, none⟩ = some (.int .i64 wi) := cells_row hrel.own (by rw [(rc_get l i).1, hp]; rfl)
      have c1 : wr.cell? ⟨g, i * 2 + 1, none⟩ = some vi := cells_row hrel.own (by rw [(rc_get l i).2, hp]; rfl)
      have d0 : wr.cell? ⟨g, B * 2, none⟩ = some (.int .i64 wb) := cells_row hrel.own (by rw [(rc_get l B).1, hq]; rfl)
      have g1 : (l.map (·.1)).getD i 0 = wi := by rw [List.getD_eq_getElem?_getD, List.getElem?_map, hp]; rfl
      have g2 : (l.map (·.1)).getD B 0 = wb := by rw [List.getD_eq_getElem?_getD, List.getElem?_map, hq]; rfl
      rw [g1, g2] at HN
      obtain ⟨_, _, _, hgl⟩ := own_some hrel.own h0
      have hXl2 : X < wr.heap.size := by have := hrel.below.size; omega
      obtain ⟨A, m, c, hv⟩ := h1 (wi, vi) (List.mem_of_getElem? hp)
      simp only at hv
      subst hv
      have k1 : (i : Int) < (l.length : Int) := by omega
      have k2 : (B : Int) < (l.length : Int) := by omega
      have HR := Lib.hid hrel
      have HL := Lib.hid h1
      clear hrel hp hq g1 g2 h1
      by_cases hw : wi < wb
      · have HE := Lib.hid (HN.out.trans (if_pos hw))
        go_wp2
        have e0 : (wr.alloc (.cells #[.int .i64 wi, .slice A m c] 53)).cell? ⟨wr.heap.size, 0, none⟩ = some (.int .i64 wi) := by simp
        have e1 : (wr.alloc (.cells #[.int .i64 wi, .slice A m c] 53)).cell? ⟨X, 0, none⟩ = some (.slice (some ⟨g, 0, none⟩) l.length cap) := ((bnew wr _).cell (p := ⟨X, 0, none⟩) hXl2).trans hcX
        have e2 : (wr.alloc (.cells #[.int .i64 wi, .slice A m c] 53)).cell? ⟨g, B * 2, none⟩ = some (.int .i64 wb) := ((bnew wr _).cell (p := ⟨g, B * 2, none⟩) hgl.2).trans d0
        have HR3 := Lib.hid (HR.out.alloc hXl (.cells #[.int .i64 wi, .slice A m c] 53))
        clear c0 c1 d0 hcX HR
        generalize wr.alloc (.cells #[.int .i64 wi, .slice A m c] 53) = w2 at *
        go_quiet (fail)
        go_wp2
        refine ⟨⟨i + 1, by omega, by go_num, by rw [HE.out], HR3.out.drewN nq⟩, by simp [intOf]; omega⟩
      · have HE := Lib.hid (HN.out.trans (if_neg hw))
        go_wp2
        have e0 : (wr.alloc (.cells #[.int .i64 wi, .slice A m c] 53)).cell? ⟨wr.heap.size, 0, none⟩ = some (.int .i64 wi) := by simp
        have e1 : (wr.alloc (.cells #[.int .i64 wi, .slice A m c] 53)).cell? ⟨X, 0, none⟩ = some (.slice (some ⟨g, 0, none⟩) l.length cap) := ((bnew wr _).cell (p := ⟨X, 0, none⟩) hXl2).trans hcX
        have e2 : (wr.alloc (.cells #[.int .i64 wi, .slice A m c] 53)).cell? ⟨g, B * 2, none⟩ = some (.int .i64 wb) := ((bnew wr _).cell (p := ⟨g, B * 2, none⟩) hgl.2).trans d0
        have HR3 := Lib.hid (HR.out.alloc hXl (.cells #[.int .i64 wi, .slice A m c] 53))
        clear c0 c1 d0 hcX HR
        generalize wr.alloc (.cells #[.int .i64 wi, .slice A m c] 53) = w2 at *
        go_quiet (fail)
        go_wp2
        refine ⟨⟨i + 1, by omega, by go_num, by rw [HE.out], HR3.out.drewN nq⟩, by simp [intOf]; omega⟩
    · obtain rfl : i = l.length := by omega
      have hbl := lst_lt (l.map (·.1)) (by simpa using h0) l.length (by simp)
      have hlt0 : lst (l.map (·.1)) l.length = lt0 (l.map (·.1)) := by unfold lt0; rw [List.length_map]
      rw [hlt0] at hbl ⊢
      rw [List.length_map] at hbl
      generalize hBe : lt0 (l.map (·.1)) = B at *
      have HBE := Lib.hid hBe
      clear hBe
      obtain ⟨⟨wb, vb⟩, hq⟩ : ∃ p, l[B]? = some p := ⟨_, List.getElem?_eq_getElem hbl⟩
      obtain ⟨A, m, c, hv⟩ := h1 (wb, vb) (List.mem_of_getElem? hq)
      simp only at hv
      subst hv
      have d0 : wr.cell? ⟨g, B * 2, none⟩ = some (.int .i64 wb) := cells_row hrel.own (by rw [(rc_get l B).1, hq]; rfl)
      have d00 : wr.cell? ⟨g, B * 2 + 1, none⟩ = some (.slice A m c) := cells_row hrel.own (by rw [(rc_get l B).2, hq]; rfl)
      have k2 : (B : Int) < (l.length : Int) := by omega
      have wr1 : IntKind.i64.wrap ((B : Int) + 1) = (B : Int) + 1 := IntWalk.i64_in _ (by omega)
      have HR := Lib.hid hrel
      have HQ := Lib.hid hq
      have h1c := rc_one (l := l) (fun p hp => by obtain ⟨A, m, c, h⟩ := h1 p hp; rw [h]; rfl)
      have HC := Lib.hid h1c
      clear hrel hq h1 h1c
      have hXl2 : X < wr.heap.size := by have := HR.out.below.size; omega
      have hRl : w.heap.size < wr.heap.size := by
        rcases Nat.lt_or_ge w.heap.size wr.heap.size with h | h
        · exact h
        · have := HR.out.res; rw [Array.getElem?_eq_none h] at this; cases this
      have hcX2 : ∀ o, (wr.alloc o).cell? ⟨X, 0, none⟩ = some (.slice (some ⟨g, 0, none⟩) l.length cap) := fun o => ((bnew wr o).cell (p := ⟨X, 0, none⟩) hXl2).trans hcX
      go_wp2_with fail
      refine (delete_any _ base g l.length cap B (rc l) hbl hn (HR.out.own.alloc _) HC.out).mono ?_
      rintro e w3 ⟨rfl, hown3, hg3⟩
      have hblk : ∀ j, j < wr.heap.size + 1 → j ≠ g → w3.heap[j]? = (wr.alloc (.cells #[.int .i64 wb, .slice A m c] 53)).heap[j]? := fun j hj hjg => hg3.block j (by simpa using hj) (fun e => hjg (Option.some.inj e))
      have hb1 := bnew wr (.cells #[.int .i64 wb, .slice A m c] 53)
      have b1 : w3.heap[X]? = some (.cells #[.slice (some ⟨g, 0, none⟩) l.length cap] 51 (0, 0)) := (hblk X (by omega) hXg).trans ((hb1.block X hXl2).trans HR.out.cell)
      have b2 : w3.heap[w.heap.size]? = some (.cells #[.int .i64 0, .slice none 0 0] 53 (0, 0)) := (hblk _ (by omega) (by omega)).trans ((hb1.block _ hRl).trans HR.out.res)
      have b3 : w3.heap[wr.heap.size]? = some (.cells #[.int .i64 wb, .slice A m c] 53 (0, 0)) := (hblk _ (by omega) (by omega)).trans (heap_alloc_new wr _)
      have n1 : w.heap.size ≠ X := by omega
      have n2 : wr.heap.size ≠ X := by omega
      have x1 : w3.cell? ⟨X, 0, none⟩ = some (.slice (some ⟨g, 0, none⟩) l.length cap) := row_cell b1 rfl
      have x2 : w3.frozen? ⟨X, 0, none⟩ = false := row_frozen b1
      have d1 := row_set (i := 0) b1 (.slice (some ⟨g, 0, none⟩) (l.length - 1) cap)
      have d2 := (heap_far (w := w3) (p := ⟨X, 0, none⟩) (u := .slice (some ⟨g, 0, none⟩) (l.length - 1) cap) n1).trans b2
      have d3 := (heap_far (w := w3) (p := ⟨X, 0, none⟩) (u := .slice (some ⟨g, 0, none⟩) (l.length - 1) cap) n2).trans b3
      have y1 : (w3.setCell ⟨X, 0, none⟩ (.slice (some ⟨g, 0, none⟩) (l.length - 1) cap)).cell? ⟨wr.heap.size, 0, none⟩ = some (.int .i64 wb) := row_cell d3 rfl
      have y2 : (w3.setCell ⟨X, 0, none⟩ (.slice (some ⟨g, 0, none⟩) (l.length - 1) cap)).cell? ⟨wr.heap.size, 1, none⟩ = some (.slice A m c) := row_cell d3 rfl
      have z1 : (w3.setCell ⟨X, 0, none⟩ (.slice (some ⟨g, 0, none⟩) (l.length - 1) cap)).cell? ⟨w.heap.size, 0, none⟩ = some (.int .i64 0) := row_cell d2 rfl
      have z2 : (w3.setCell ⟨X, 0, none⟩ (.slice (some ⟨g, 0, none⟩) (l.length - 1) cap)).frozen? ⟨w.heap.size, 0, none⟩ = false := row_frozen d2
      have d4 := row_set (i := 0) d2 (.int .i64 wb)
      have d5 := row_set (i := 1) d4 (.slice A m c)
      have z3 : ((w3.setCell ⟨X, 0, none⟩ (.slice (some ⟨g, 0, none⟩) (l.length - 1) cap)).setCell ⟨w.heap.size, 0, none⟩ (.int .i64 wb)).cell? ⟨w.heap.size, 1, none⟩ = some (.slice none 0 0) := row_cell d4 rfl
      have z4 : ((w3.setCell ⟨X, 0, none⟩ (.slice (some ⟨g, 0, none⟩) (l.length - 1) cap)).setCell ⟨w.heap.size, 0, none⟩ (.int .i64 wb)).frozen? ⟨w.heap.size, 1, none⟩ = false := row_frozen d4
      have u1 : (((w3.setCell ⟨X, 0, none⟩ (.slice (some ⟨g, 0, none⟩) (l.length - 1) cap)).setCell ⟨w.heap.size, 0, none⟩ (.int .i64 wb)).setCell ⟨w.heap.size, 1, none⟩ (.slice A m c)).cell? ⟨w.heap.size, 0, none⟩ = some (.int .i64 wb) := row_cell d5 rfl
      have u2 : (((w3.setCell ⟨X, 0, none⟩ (.slice (some ⟨g, 0, none⟩) (l.length - 1) cap)).setCell ⟨w.heap.size, 0, none⟩ (.int .i64 wb)).setCell ⟨w.heap.size, 1, none⟩ (.slice A m c)).cell? ⟨w.heap.size, 1, none⟩ = some (.slice A m c) := row_cell d5 rfl
      have D1 := Lib.hid ((heap_far (p := ⟨w.heap.size, 1, none⟩) (u := .slice A m c) (show X ≠ w.heap.size by omega)).trans ((heap_far (p := ⟨w.heap.size, 0, none⟩) (u := .int .i64 wb) (show X ≠ w.heap.size by omega)).trans d1))
      have D5 := Lib.hid (show (((w3.setCell ⟨X, 0, none⟩ (.slice (some ⟨g, 0, none⟩) (l.length - 1) cap)).setCell ⟨w.heap.size, 0, none⟩ (.int .i64 wb)).setCell ⟨w.heap.size, 1, none⟩ (.slice A m c)).heap[w.heap.size]? = some (.cells #[.int .i64 wb, .slice A m c] 53 (0, 0)) by simpa using d5)
      have HF := Lib.hid (show But2 X g w (((w3.setCell ⟨X, 0, none⟩ (.slice (some ⟨g, 0, none⟩) (l.length - 1) cap)).setCell ⟨w.heap.size, 0, none⟩ (.int .i64 wb)).setCell ⟨w.heap.size, 1, none⟩ (.slice A m c)) from by
        have hb := HR.out.below
        have hsz := hg3.size
        refine ⟨?_, ?_, ?_, ?_, fun j hj hjX hjg => ?_⟩
        · exact (hg3.os.trans rfl).trans hb.os
        · exact (hg3.tape.trans rfl).trans hb.tape
        · exact (hg3.output.trans rfl).trans hb.output
        · have h2 : (wr.alloc (.cells #[.int .i64 wb, .slice A m c] 53)).drew.heap.size = wr.heap.size + 1 := by simp
          have h3 : ∀ (w : World) (p : Addr) (u : Value), (w.setCell p u).heap.size = w.heap.size := fun w p u => by simp [World.setCell]
          rw [h3, h3, h3]
          omega
        · refine (heap_far (p := ⟨w.heap.size, 1, none⟩) (show j ≠ w.heap.size by omega)).trans ((heap_far (p := ⟨w.heap.size, 0, none⟩) (show j ≠ w.heap.size by omega)).trans ((heap_far (p := ⟨X, 0, none⟩) hjX).trans ((hblk j (by omega) hjg).trans ((hb1.block j (by omega)).trans (hb.block j hj)))))
        )
      have HO := Lib.hid (show (((w3.setCell ⟨X, 0, none⟩ (.slice (some ⟨g, 0, none⟩) (l.length - 1) cap)).setCell ⟨w.heap.size, 0, none⟩ (.int .i64 wb)).setCell ⟨w.heap.size, 1, none⟩ (.slice A m c)).ownsRow base 53 2 (.slice (some ⟨g, 0, none⟩) (l.length - 1) cap) (l.length - 1) (rc (l.eraseIdx B)) from by
        rw [← rc_erase]
        have hs3 : ∀ (w : World) (k : Nat) (i : Nat) (u : Value), k ≠ g → w.grownBy (w.setCell ⟨k, i, none⟩ u) (some k) := fun w k i u _ => ⟨rfl, rfl, rfl, by simp [World.setCell], fun j _ hj => heap_far (p := ⟨k, i, none⟩) (fun e => hj (by rw [e]))⟩
        have hk : ∀ k, k ≠ g → (Value.slice (some ⟨g, 0, none⟩) (l.length - 1) cap).ownBlock = none ∨ (Value.slice (some ⟨g, 0, none⟩) (l.length - 1) cap).ownBlock ≠ some k := fun k h => .inr (fun e => h (by injection e with e; exact e.symm))
        exact ((hown3.kept (hs3 _ X 0 _ hXg) (hk X hXg)).kept (hs3 _ w.heap.size 0 _ (by omega)) (hk _ (by omega))).kept (hs3 _ w.heap.size 1 _ (by omega)) (hk _ (by omega)))
      clear hown3 hg3 hblk hb1 d0 d00 d1 hcX hcX2 d2 d3 d4 d5 b1 b2 b3
      go_wp2_with fail
      (try simp only [Exit.inBlock, Exit.then])
      refine bodyPost_ret (results_cell_row rfl _ _ w.heap.size 53 #[.int .i64 wb, .slice A m c] (0, 0) _ rfl D5.out Try.underlying53 rfl (by kernel_rfl)) rfl ?_
      rw [HBE.out]
      exact ⟨_, HQ.out, rfl, D1.out, HO.out, HF.out⟩
end Go.Proofs.Ytnaoonegeboflaa.Hf
