/-
  The walk of lempel.Write: it returns the pieces of its text (Lp.pieces), in new memory; a text of more than 1000 bytes gives the error ErrFull.
-/
import Derived.Test.YtkmhiomjnbdmoaaLong1
import Derived.Test.YtkmhiomjnbdmoaaBase
import Derived.Test.YtkmhiomjnbdmoaaLpPlain
import Derived.Maps.OwnSet
import Derived.Maps.OwnOps
import Derived.DeepKeys4
namespace Go.Proofs.Ytkmhiomjnbdmoaa.Lp
open Go.RowKit Go.Maps

theorem laidOut : laidOutB Try.prog = true := by kernel_rfl
theorem rowK : (48 : TypeId) < Try.prog.types.size := of_decide_eq_true (by kernel_rfl)
theorem cellsK : Try.prog.cellsOf 48 = 2 := by kernel_rfl
theorem cells3 : Try.prog.cellsOf 3 = 1 := by kernel_rfl
theorem cells5 : Try.prog.cellsOf 5 = 1 := by kernel_rfl
theorem keyTypeK : Try.prog.keyType 48 = true := by kernel_rfl
theorem wideK : (match Try.prog.underlying 48 with | some (.array _ _) | some (.struct _) => true | _ => false) = true := by kernel_rfl
theorem law : Keyed Try.prog 48 := Keyed.of_law (deep_law_laid laidOut (m := 2) (by omega) rowK (by kernel_rfl) wideK)
theorem infoK : (Try.prog.info? 48).map (fun i => (i.zero, i.size, i.bytes)) = some (some (.agg #[.int .i64 0, .int .u8 0]), 2, 16) := by kernel_rfl
theorem zeroE (w : World) : (zeroValue 3).run Try.prog w = .ok (.int .i64 0) w := by kernel_rfl
theorem sizeT0 : 2 ≤ Try.prog.types.size := of_decide_eq_true (by kernel_rfl)
theorem sizeT : ∃ n, Try.prog.types.size + 1 = n + 3 := ⟨Try.prog.types.size - 2, by have := sizeT0; omega⟩

def val (p : Pc) : Value := .agg #[.int .i64 (p.1 : Int), .int .u8 (p.2.toNat : Int)]
def cells (l : List Pc) : List Value := l.flatMap fun p => [.int .i64 (p.1 : Int), .int .u8 (p.2.toNat : Int)]
def kl (p : Pc) : Lit := .string (keyBytes [.int .i64 (p.1 : Int), .int .u8 (p.2.toNat : Int)])

theorem wf64 (n : Nat) (h : n ≤ 9223372036854775807) : (Lit.int .i64 (n : Int)).wf = true := WalkArith.wf_i64 (by omega)
theorem wf8 (c : UInt8) : (Lit.int .u8 (c.toNat : Int)).wf = true := by
  have := c.toNat_lt
  simp [Lit.wf, IntKind.min, IntKind.max, IntKind.signed, IntKind.bits]; omega

theorem key_of (p : Pc) (h : p.1 ≤ 9223372036854775807) : keyOf Try.prog 48 (.agg #[.int .i64 (p.1 : Int), .int .u8 (p.2.toNat : Int)]) = some (kl p) := by
  obtain ⟨n, hn⟩ := sizeT
  have w1 := wf64 p.1 h
  have w2 := wf8 p.2
  unfold keyOf
  rw [Try.underlying48]
  simp only [keyTypeK, Bool.true_and, hn]
  simp [Value.formed, Program.keyLits, Try.underlying48, Try.underlying3, Try.underlying5, cellsK, cells3, cells5, Value.cells, w1, w2, kl]

theorem kl_inj {p q : Pc} (hp : p.1 ≤ 9223372036854775807) (hq : q.1 ≤ 9223372036854775807) (h : kl p = kl q) : p = q := by
  have e1 := key_of p hp
  have e2 := key_of q hq
  rw [← h] at e2
  have e := law.inj e1 e2
  simp only [Value.agg.injEq, Array.mk.injEq, List.cons.injEq, Value.int.injEq, true_and, and_true] at e
  obtain ⟨a, b⟩ := p
  obtain ⟨c, d⟩ := q
  have h1 : a = c := by have := e.1; simp only at this; omega
  have h2 : b.toNat = d.toNat := by have := e.2; simp only at this; omega
  rw [h1, UInt8.toNat_inj.1 h2]

/-- what the map of the numbers says of the pieces so far -/
def Num (D : DataW Unit) (l : List Pc) : Prop :=
  ∀ p : Pc, p.1 ≤ 9223372036854775807 → Maps.has D (kl p) = l.contains p ∧ D.atKey (kl p) (.lit (.int .i64 0)) = .lit (.int .i64 (if l.contains p then (l.idxOf p : Int) + 1 else 0))

theorem num_nil : Num (.map []) [] := fun p _ => ⟨by simp [Maps.has], by simp [DataW.atKey]⟩
theorem num_again {D : DataW Unit} {l : List Pc} {p : Pc} (h : Num D l) (hp : l.contains p = true) : Num D (l ++ [p]) := by
  intro q hq
  obtain ⟨h1, h2⟩ := h q hq
  by_cases e : q = p
  · subst e
    simp only [List.contains_iff_mem] at hp
    rw [h1, h2]
    simp [hp, List.idxOf_append]
  · rw [h1, h2]
    by_cases hm : q ∈ l
    · simp [hm, List.idxOf_append]
    · simp [hm, e]
theorem num_put {D : DataW Unit} {l : List Pc} {p : Pc} (h : Num D l) (hD : IsMap D) (hp1 : p.1 ≤ 9223372036854775807) (hp : l.contains p = false) :
    Num (D.put (kl p) (.lit (.int .i64 ((l.length : Int) + 1)))) (l ++ [p]) := by
  intro q hq
  obtain ⟨h1, h2⟩ := h q hq
  by_cases e : q = p
  · subst e
    rw [has_put_same hD (law.key (key_of q hq)), atKey_put_same hD (law.key (key_of q hq))]
    have hp' : q ∉ l := by simpa using hp
    simp [List.idxOf_append, hp']
  · have hne : kl q ≠ kl p := fun he => e (kl_inj hq hp1 he)
    rw [has_put_other hne, atKey_put_other hne, h1, h2]
    by_cases hm : q ∈ l
    · simp [hm, List.idxOf_append]
    · simp [hm, e]

/-! ### a look-up whose answer is known -/
section
variable {H : Type} {P : Program} (w : World) {ops : Array Oper} {rest : List Oper} {o : Oper} {a : Act} {Q : Exit → Act → World → Prop}
theorem look_ok_at (hg : o.guard = none) (m x : Operand) (t : TypeId) (hop : o.op = Op.lookup t m x true)
    (k e : TypeId) (q : IntKind) (K : Keyed P k) (ht : P.underlying t = some (.map k e)) (he : P.underlying e = some (.int q)) (hz : (zeroValue e).run P w = .ok (.int q 0) w) (b n : Nat) (D : DataW H)
    (hm : a.eval m = .map (some b)) (hown : w.ownsMap P k (plainElem P e) b n D) (key : Value) (kl : Lit) (hx : a.eval x = key) (hkey : keyOf P k key = some kl)
    (c : Int) (bv : Bool) (hat : D.atKey kl (.lit (.int q 0)) = .lit (.int q c)) (hhas : Maps.has D kl = bv) (hK : wpList P ops Q rest (a.put o.dst (.tuple #[.int q c, .bool bv])) w) :
    wpList P ops Q (o :: rest) a w :=
  wpList_lookup_own_ok_int w hg m x t hop k e q K ht he hz b n D hm hown key kl hx hkey fun c' hc _ => by
    rw [hat] at hc
    simp only [DataW.lit.injEq, Lit.int.injEq, true_and] at hc
    subst hc
    rw [hhas]
    exact hK
theorem look_at (hg : o.guard = none) (m x : Operand) (t : TypeId) (hop : o.op = Op.lookup t m x false)
    (k e : TypeId) (q : IntKind) (K : Keyed P k) (ht : P.underlying t = some (.map k e)) (he : P.underlying e = some (.int q)) (hz : (zeroValue e).run P w = .ok (.int q 0) w) (b n : Nat) (D : DataW H)
    (hm : a.eval m = .map (some b)) (hown : w.ownsMap P k (plainElem P e) b n D) (key : Value) (kl : Lit) (hx : a.eval x = key) (hkey : keyOf P k key = some kl)
    (c : Int) (hat : D.atKey kl (.lit (.int q 0)) = .lit (.int q c)) (hK : wpList P ops Q rest (a.put o.dst (.int q c)) w) :
    wpList P ops Q (o :: rest) a w :=
  wpList_lookup_own_int w hg m x t hop k e q K ht he hz b n D hm hown key kl hx hkey fun c' hc _ => by
    rw [hat] at hc
    simp only [DataW.lit.injEq, Lit.int.injEq, true_and] at hc
    subst hc
    exact hK
end

/-- what holds at the head of a round: the pieces so far, the map of their numbers -/
structure Rel (w wr : World) (v : Value) (t : Nat × List Pc) (k : Nat) : Prop where
  own : wr.ownsRow (w.heap.size + 2) 48 2 v t.2.length (cells t.2)
  num : ∃ D : DataW Unit, wr.ownsMap Try.prog 48 (plainElem Try.prog 3) (w.heap.size + 1) k D ∧ Num D t.2
  below : Below w.heap.size w wr
  size : w.heap.size + 2 ≤ wr.heap.size

section
variable {w wr w1 w2 : World} {v v' : Value} {a a' k : Nat} {l : List Pc}
theorem Rel.keep (h : Rel w wr v (a, l) k) (o : Obj) : Rel w (wr.alloc o) v (a', l) (k + 1) := by
  obtain ⟨h1, ⟨D, h2, h3⟩, h4, h5⟩ := h
  exact ⟨h1.alloc _, ⟨D, (h2.alloc _).mono (Nat.le_succ _), h3⟩, h4.alloc (by omega) _, by simp; omega⟩
theorem cells_snoc (l : List Pc) (p : Pc) : cells (l ++ [p]) = cells l ++ [.int .i64 (p.1 : Int), .int .u8 (p.2.toNat : Int)] := by simp [cells]
theorem cells_length (l : List Pc) : (cells l).length = l.length * 2 := by
  induction l with
  | nil => rfl
  | cons p l ih => simp [cells] at ih ⊢; omega
theorem own_ne (h : wr.ownsRow (w.heap.size + 2) 48 2 v l.length (cells l)) : some (w.heap.size + 1) ≠ v.ownBlock := by
  intro e
  have := h.lt _ e.symm
  omega
/-- one more piece, that the map has a number of -/
theorem Rel.again (h : Rel w wr v (a, l) k) {c : UInt8} (hp : l.contains (a, c) = true) (o o' : Obj)
    (hown : w1.ownsRow (w.heap.size + 2) 48 2 v' (l.length + 1) (cells l ++ [.int .i64 (a : Int), .int .u8 (c.toNat : Int)])) (hg : ((wr.alloc o).alloc o').grownBy w1 v.ownBlock) :
    Rel w w1 v' (a', l ++ [(a, c)]) (k + 1) := by
  obtain ⟨h1, ⟨D, h2, h3⟩, h4, h5⟩ := h
  have hlt := h1.lt
  refine ⟨by rw [cells_snoc]; simpa using hown, ⟨D, (((h2.alloc _).alloc _).kept hg (own_ne h1)).mono (Nat.le_succ _), num_again h3 hp⟩, ((h4.alloc (by omega) _).alloc (by simp; omega) _).grown hg (by simp; omega) ?_, ?_⟩
  · intro j hj; have := hlt j hj; omega
  · have := hg.size; simp at this; omega
/-- one more piece, that is new: its number is told -/
theorem Rel.fresh (h : Rel w wr v (a, l) k) {c : UInt8} {D : DataW Unit} (o o' : Obj)
    (hown : w1.ownsRow (w.heap.size + 2) 48 2 v' (l.length + 1) (cells l ++ [.int .i64 (a : Int), .int .u8 (c.toNat : Int)])) (hg : ((wr.alloc o).alloc o').grownBy w1 v.ownBlock)
    (hmap : w2.ownsMap Try.prog 48 (plainElem Try.prog 3) (w.heap.size + 1) (k + 1) D) (hnum : Num D (l ++ [(a, c)])) (hg2 : w1.grownBy w2 (some (w.heap.size + 1))) :
    Rel w w2 v' (a', l ++ [(a, c)]) (k + 1) := by
  obtain ⟨h1, _, h4, h5⟩ := h
  have hlt := h1.lt
  have hs1 : w.heap.size + 2 ≤ w1.heap.size := by have := hg.size; simp at this; omega
  have hlt' := hown.lt
  refine ⟨?_, ⟨D, hmap, hnum⟩, (((h4.alloc (by omega) _).alloc (by simp; omega) _).grown hg (by simp; omega) ?_).grown hg2 (by omega) ?_, by have := hg2.size; omega⟩
  · rw [cells_snoc]
    have := hown.kept hg2 (.inr fun e => by have := hlt' _ e; omega)
    simpa using this
  · intro j hj; have := hlt j hj; omega
  · intro j hj; injection hj; omega
/-- a box of two cells behind an append to a row that lay ahead of it -/
theorem box_after {base n : Nat} {e t : TypeId} {size : Nat} {xs : List Value} {x y : Value} {o' : Obj} (h : wr.ownsRow base e size v n xs) (hg : ((wr.alloc (.cells #[x, y] t)).alloc o').grownBy w1 v.ownBlock) :
    w1.cell? ⟨wr.heap.size, 0, none⟩ = some x ∧ w1.cell? ⟨wr.heap.size, 1, none⟩ = some y := by
  have hne : some wr.heap.size ≠ v.ownBlock := by
    intro e
    have := h.lt _ e.symm
    omega
  have c0 : (wr.alloc (.cells #[x, y] t)).cell? ⟨wr.heap.size, 0, none⟩ = some x := by simp
  have c1 : (wr.alloc (.cells #[x, y] t)).cell? ⟨wr.heap.size, 1, none⟩ = some y := by simp
  exact ⟨hg.cell ((World.cell?_alloc_lt _ _ _ (by simp)).trans c0) hne, hg.cell ((World.cell?_alloc_lt _ _ _ (by simp)).trans c1) hne⟩
end
theorem two_oneCell (a b : Int) : ∀ u ∈ [Value.int .i64 a, Value.int .u8 b], u.oneCell' = true := by
  intro u hu; simp at hu; rcases hu with rfl | rfl <;> rfl

set_option maxHeartbeats 1000000 in
theorem write_ok (s : ByteArray) (w : World) (hs : s.size ≤ 1000) :
    Calls Try.prog 6 #[.string s] w fun e w' => ∃ A cap, e = .returned (.tuple #[.slice A (pieces s.data.toList).length cap, .nilIface]) ∧ w'.ownsRow w.heap.size 48 2 (.slice A (pieces s.data.toList).length cap) (pieces s.data.toList).length (cells (pieces s.data.toList)) ∧ Below w.heap.size w w' := by
  have hmm := @run_makeMap Try.prog
  obtain ⟨i0, hi, hz0, hz1, hz2⟩ := info_parts infoK
  have hL : s.data.toList.length = s.size := by simp
  have HL := Lib.hid hL; clear hL
  go_enter Try.func6, Try.ntmps6
  go_wp2_with (go_at_call 13; refine (long1_ok s w.heap.size 1000 _ (by simp) (by omega)).mono ?_; rintro e w' ⟨rfl, rfl⟩)
  go_loopw [6, 7, 21] (fun v a i wr => ∃ k : Nat, k ≤ s.size ∧ i = .int .i64 k ∧ a = .int .i64 (st s.data.toList k).1 ∧ Rel w wr v (st s.data.toList k) k)
    (fun _ _ i _ => s.size - (intOf i).toNat)
  case atStart => exact ⟨0, Nat.zero_le _, rfl, rfl, ⟨World.ownsRow_nil _ _ _ _, ⟨_, by simpa using World.ownsMap_made (w.alloc _) _ _ _, num_nil⟩, ((Below.refl _ _).alloc (Nat.le_refl _) _).alloc (by simp) _, by simp⟩⟩
  case round =>
    obtain ⟨k, hk, rfl, rfl, hrel⟩ := hrel
    have h1 := st_length s.data.toList k (by rw [HL.out]; exact hk)
    have h2 := st_at s.data.toList k (by rw [HL.out]; exact hk)
    by_cases hlt : k < s.size
    · have hst : st s.data.toList (k + 1) = step (decide (s.size ≤ k + 1)) (st s.data.toList k) s[k] := by
        rw [← HL.out, ← getD_byte s k hlt]; rfl
      have HS := Lib.hid hst; clear hst
      generalize st s.data.toList k = t at *
      obtain ⟨a, l⟩ := t
      have HR := Lib.hid hrel
      obtain ⟨hown, ⟨D, hmap, hnum⟩, hbel, hsz⟩ := hrel
      simp only at h1 h2 hown hnum
      have hn := hnum (a, s[k]) (by simp only; omega)
      by_cases hin : l.contains (a, s[k]) = true
      · rw [if_pos hin] at hn
        obtain ⟨q1, q2⟩ := hn
        rw [hin] at q1
        have Q1 := Lib.hid q1; have Q2 := Lib.hid q2; have HIN := Lib.hid hin; clear q1 q2 hin hnum HL hmm
        have hidx : l.idxOf (a, s[k]) < l.length := List.idxOf_lt_length_of_mem (by simpa using HIN.out)
        have hne : ((l.idxOf (a, s[k]) : Int) + 1 == 0) = false := by rw [beq_eq_false_iff_ne]; omega
        by_cases hl1 : k + 1 < s.size
        · go_wp2_with (first
            | (at_lookup; refine look_ok_at _ rfl _ _ 46 rfl 48 3 .i64 law Try.underlying46 Try.underlying3 (zeroE _) (w.heap.size + 1) k D rfl (hmap.alloc _) _ (kl (a, s[k])) rfl (key_of (a, s[k]) (by simp only; omega)) _ _ Q2.out Q1.out ?_))
          go_roundw
          case rel => exact ⟨k + 1, by omega, by go_num, by rw [HS.out, step_keep HIN.out hl1]; go_num, by rw [HS.out, step_keep HIN.out hl1]; exact HR.out.keep _⟩
          case measure => simp [intOf]; omega
        · go_wp2_with (first
            | (at_lookup; refine look_ok_at _ rfl _ _ 46 rfl 48 3 .i64 law Try.underlying46 Try.underlying3 (zeroE _) (w.heap.size + 1) k D rfl (hmap.alloc _) _ (kl (a, s[k])) rfl (key_of (a, s[k]) (by simp only; omega)) _ _ Q2.out Q1.out ?_)
            | (at_builtin; go_must (refine append_own _ rfl _ _ 29 rfl (w.heap.size + 2) 48 i0 _ 2 16 Try.underlying29 hi hz0 hz1 hz2 rfl (by decide) _ _ _ rfl ((hown.alloc _).alloc _) ⟨wr.heap.size + 1, 0, none⟩ 1 1 [.int .i64 (a : Int), .int .u8 (s[k].toNat : Int)] rfl rfl (by simpa using cell_two_new (wr.alloc _) _ _ _) (two_oneCell _ _) (by unfold maxLen; omega) (by omega) (by simp; omega) (by decide) ?_); intro g1 cap1 w1 hown1 hg1 hg1' hgrow1; obtain ⟨b0, b1⟩ := box_after hown hgrow1; have hmap1 := ((hmap.alloc _).alloc _).kept hgrow1 (own_ne hown))
            | (at_lookup; refine look_at _ rfl _ _ 46 rfl 48 3 .i64 law Try.underlying46 Try.underlying3 (zeroE _) (w.heap.size + 1) k D rfl hmap1 _ (kl (a, s[k])) rfl (key_of (a, s[k]) (by simp only; omega)) _ Q2.out ?_))
          go_roundw
          case rel => exact ⟨k + 1, by omega, by go_num, by rw [HS.out, step_last (by omega)]; go_num, by rw [HS.out, step_last (by omega)]; exact HR.out.again HIN.out _ _ hown1 hgrow1⟩
          case measure => simp [intOf]; omega
      · have hin' : l.contains (a, s[k]) = false := by simpa using hin
        rw [hin'] at hn
        obtain ⟨q1, q2⟩ := hn
        rw [if_neg (by simp)] at q2
        have Q1 := Lib.hid q1; have Q2 := Lib.hid q2; have HIN := Lib.hid hin'; have HN := Lib.hid hnum; clear q1 q2 hin hin' hnum HL hmm
        go_wp2_with (first
            | (at_lookup; refine look_ok_at _ rfl _ _ 46 rfl 48 3 .i64 law Try.underlying46 Try.underlying3 (zeroE _) (w.heap.size + 1) k D rfl (hmap.alloc _) _ (kl (a, s[k])) rfl (key_of (a, s[k]) (by simp only; omega)) _ _ Q2.out Q1.out ?_)
            | (at_builtin; go_must (refine append_own _ rfl _ _ 29 rfl (w.heap.size + 2) 48 i0 _ 2 16 Try.underlying29 hi hz0 hz1 hz2 rfl (by decide) _ _ _ rfl ((hown.alloc _).alloc _) ⟨wr.heap.size + 1, 0, none⟩ 1 1 [.int .i64 (a : Int), .int .u8 (s[k].toNat : Int)] rfl rfl (by simpa using cell_two_new (wr.alloc _) _ _ _) (two_oneCell _ _) (by unfold maxLen; omega) (by omega) (by simp; omega) (by decide) ?_); intro g1 cap1 w1 hown1 hg1 hg1' hgrow1; obtain ⟨b0, b1⟩ := box_after hown hgrow1; have hmap1 := ((hmap.alloc _).alloc _).kept hgrow1 (own_ne hown))
            | (at_lookup; refine look_at _ rfl _ _ 46 rfl 48 3 .i64 law Try.underlying46 Try.underlying3 (zeroE _) (w.heap.size + 1) k D rfl hmap1 _ (kl (a, s[k])) rfl (key_of (a, s[k]) (by simp only; omega)) _ Q2.out ?_)
            | (at_mapUpdate; refine wpList_mapUpdate_own _ rfl _ _ _ 46 rfl 48 3 law Try.underlying46 _ (w.heap.size + 1) k _ rfl hmap1 (by unfold maxLen; omega) _ _ (kl (a, s[k])) rfl rfl (key_of (a, s[k]) (by simp only; omega)) (.lit (.int .i64 ((l.length : Int) + 1))) [] (plainElem_int Try.underlying3 (WalkArith.wf_i64 (by omega))) ?_; intro w2 hmap2 hgrow2))
        go_roundw
        case rel => exact ⟨k + 1, by omega, by go_num, by rw [HS.out, step_new HIN.out]; go_num, by rw [HS.out, step_new HIN.out]; exact HR.out.fresh _ _ hown1 hgrow1 hmap2 (num_put HN.out hmap.isMap (by simp only; omega) HIN.out) hgrow2⟩
        case measure => simp [intOf]; omega
    · obtain rfl : k = s.size := by omega
      obtain ⟨hown, _, hbel, hsz⟩ := hrel
      have HO := Lib.hid hown; clear hown
      go_wp2
      go_ret2
      rw [pieces_at HL.out]
      obtain ⟨A, cap, e⟩ := own_slice HO.out
      rw [e]
      exact ⟨A, cap, rfl, by rw [← e]; exact own_base HO.out (by omega), hbel⟩

theorem write_no (s : ByteArray) (w : World) (hs : 1000 < s.size) :
    Calls Try.prog 6 #[.string s] w fun e w' => e = .returned (.tuple #[.slice none 0 0, .iface 38 (.int .i64 4)]) ∧ Below w.heap.size w w' := by
  go_enter Try.func6, Try.ntmps6
  go_wp2_with (go_at_call 13; refine (long1_no s w.heap.size 1000 _ (by simp) (by omega)).mono ?_; rintro e w' ⟨rfl, rfl⟩)
  go_ret2
  exact ⟨rfl, (Below.refl _ _).alloc (Nat.le_refl _) _⟩
end Go.Proofs.Ytkmhiomjnbdmoaa.Lp
