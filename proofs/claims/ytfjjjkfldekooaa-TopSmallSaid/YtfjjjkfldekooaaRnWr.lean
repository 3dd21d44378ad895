/-
  The walks of runs.Write and of the comparison of two lists of runs (letterbecksame.Runs).
-/
import Derived.Test.YtfjjjkfldekooaaLong1
import Derived.Test.YtfjjjkfldekooaaRnPlain
import Derived.Maps.OwnSet
import Derived.Maps.OwnOps
import Derived.DeepKeys4
namespace Go.Proofs.Ytfjjjkfldekooaa.Rn
open Go.RowKit Go.Maps
set_option linter.unusedVariables false

theorem laidOut : laidOutB Try.prog = true := by kernel_rfl
theorem rowK : (64 : TypeId) < Try.prog.types.size := of_decide_eq_true (by kernel_rfl)
theorem cellsK : Try.prog.cellsOf 64 = 2 := by kernel_rfl
theorem cells3 : Try.prog.cellsOf 3 = 1 := by kernel_rfl
theorem cells5 : Try.prog.cellsOf 5 = 1 := by kernel_rfl
theorem keyTypeK : Try.prog.keyType 64 = true := by kernel_rfl
theorem wideK : (match Try.prog.underlying 64 with | some (.array _ _) | some (.struct _) => true | _ => false) = true := by kernel_rfl
set_option maxRecDepth 100000 in
theorem law : Keyed Try.prog 64 := Keyed.of_law (deep_law_laid laidOut (m := 2) (by omega) rowK (by kernel_rfl) wideK)
theorem infoK : (Try.prog.info? 64).map (fun i => (i.zero, i.size, i.bytes)) = some (some (.agg #[.int .u8 0, .int .i64 0]), 2, 16) := by kernel_rfl
theorem sizeT0 : 2 ≤ Try.prog.types.size := of_decide_eq_true (by kernel_rfl)
theorem sizeT : ∃ n, Try.prog.types.size + 1 = n + 3 := ⟨Try.prog.types.size - 2, by have := sizeT0; omega⟩
def zval (p : Z) : Value := .agg #[.int .u8 (p.1.toNat : Int), .int .i64 p.2]
def rcells (l : List Z) : List Value := l.flatMap fun p => [.int .u8 (p.1.toNat : Int), .int .i64 p.2]
theorem rcells_length (l : List Z) : (rcells l).length = l.length * 2 := by
  induction l with
  | nil => rfl
  | cons p l ih => simp [rcells] at ih ⊢; omega
theorem rcells_get (l : List Z) (k : Nat) : (rcells l)[k * 2]? = (l[k]?).map (fun p => Value.int .u8 (p.1.toNat : Int)) ∧ (rcells l)[k * 2 + 1]? = (l[k]?).map (fun p => Value.int .i64 p.2) := by
  induction l generalizing k with
  | nil => simp [rcells]
  | cons p l ih =>
    have e : rcells (p :: l) = .int .u8 (p.1.toNat : Int) :: .int .i64 p.2 :: rcells l := by simp [rcells]
    rw [e]
    rcases k with _ | k
    · simp
    · have h := ih k
      rw [show (k + 1) * 2 = k * 2 + 1 + 1 by omega]
      simpa using h
theorem rcells_get0 (l : List Z) (k : Nat) : (rcells l)[k * 2]? = (l[k]?).map (fun p => Value.int .u8 (p.1.toNat : Int)) := (rcells_get l k).1
theorem rcells_get1 (l : List Z) (k : Nat) : (rcells l)[k * 2 + 1]? = (l[k]?).map (fun p => Value.int .i64 p.2) := (rcells_get l k).2
theorem rcells_append (a b : List Z) : rcells (a ++ b) = rcells a ++ rcells b := by simp [rcells]
theorem rcells_set (l : List Z) (c : UInt8) (m n : Int) : (rcells (l ++ [(c, m)])).set (l.length * 2 + 1) (.int .i64 n) = rcells (l ++ [(c, n)]) := by
  rw [rcells_append, rcells_append, List.set_append_right _ _ (by rw [rcells_length]; omega), rcells_length]
  rw [show l.length * 2 + 1 - l.length * 2 = 1 by omega]
  rfl

def Wf (p : Z) : Prop := -9223372036854775808 ≤ p.2 ∧ p.2 ≤ 9223372036854775807
theorem wf8 (c : UInt8) : (Lit.int .u8 (c.toNat : Int)).wf = true := by
  have := c.toNat_lt
  simp [Lit.wf, IntKind.min, IntKind.max, IntKind.signed, IntKind.bits]; omega
theorem key_any (p : Z) (h : Wf p) : keyOf Try.prog 64 (.agg #[.int .u8 (p.1.toNat : Int), .int .i64 p.2]) = some (.string (keyBytes [.int .u8 (p.1.toNat : Int), .int .i64 p.2])) := by
  obtain ⟨n, hn⟩ := sizeT
  have w1 : (Lit.int .i64 p.2).wf = true := WalkArith.wf_i64 (by unfold Wf at h; omega)
  have w2 := wf8 p.1
  unfold keyOf
  rw [Try.underlying64]
  simp only [keyTypeK, Bool.true_and, hn]
  simp [Value.formed, Program.keyLits, Try.underlying64, Try.underlying3, Try.underlying5, cellsK, cells3, cells5, Value.cells, w1, w2]
set_option maxRecDepth 100000 in
theorem equal_pc (p q : Z) (hp : Wf p) (hq : Wf q) (w : World) :
    (Op.equal 64 (.agg #[.int .u8 (p.1.toNat : Int), .int .i64 p.2]) (.agg #[.int .u8 (q.1.toNat : Int), .int .i64 q.2])).run Try.prog w = .ok (decide (p = q)) w := by
  have kp := key_any p hp
  have kq := key_any q hq
  obtain ⟨r, h1, h2⟩ := run_equal_deep (P := Try.prog) w (m := 2) (by omega) (k := 64) (by kernel_rfl) wideK kp kq
  rw [h1]
  congr 1
  rw [Bool.eq_iff_iff, h2, decide_eq_true_iff]
  constructor
  · intro h
    rw [← h] at kq
    have e := law.inj kp kq
    simp only [Value.agg.injEq, Array.mk.injEq, List.cons.injEq, Value.int.injEq, true_and, and_true] at e
    obtain ⟨a, b⟩ := p
    obtain ⟨c, d⟩ := q
    have h1 : b = d := by have := e.2; simpa using this
    have h2 : a.toNat = c.toNat := by have := e.1; simp only at this; omega
    rw [h1, UInt8.toNat_inj.1 h2]
  · intro h; rw [h]
theorem neq_pc (p q : Z) (hp : Wf p) (hq : Wf q) (w : World) :
    (binOp .neq 64 (.agg #[.int .u8 (p.1.toNat : Int), .int .i64 p.2]) (.agg #[.int .u8 (q.1.toNat : Int), .int .i64 q.2])).run Try.prog w = .ok (.bool (!decide (p = q))) w := by
  simp only [binOp]
  simp [equal_pc p q hp hq]
theorem two_oneCell (a b : Int) : ∀ u ∈ [Value.int .u8 a, Value.int .i64 b], u.oneCell' = true := by
  intro u hu
  simp only [List.mem_cons, List.not_mem_nil, or_false] at hu
  rcases hu with rfl | rfl <;> rfl
theorem index_at (s : ByteArray) (K : Nat) (z : UInt8) (h : K < s.size) (hz : s[K] = z) (w : World) : (Instr.index 9 (.string s) (.int .i64 (K : Int))).run Try.prog w = .ok (.int .u8 (z.toNat : Int)) w := by
  rw [run_index_string w _ s _ _ Try.underlying9, dif_pos ⟨by omega, by omega⟩]
  subst hz
  simp
section
variable {w : World} {base g n cap size : Nat} {e : TypeId} {xs : List Value}
theorem cell2 (h : w.ownsRow base e size (.slice (some ⟨g, 0, none⟩) n cap) n xs) {i : Nat} {u : Value} (hu : xs[i]? = some u) : w.cell? ⟨g, i, none⟩ = some u := by
  have := h.cells (g := g) rfl i u hu
  have e : (⟨g, 0, none⟩ : Addr).add i = ⟨g, i, none⟩ := by unfold Addr.add; split <;> simp_all
  rwa [e] at this
theorem frozen2 (h : w.ownsRow base e size (.slice (some ⟨g, 0, none⟩) n cap) n xs) (i : Nat) : w.frozen? ⟨g, i, none⟩ = false := by
  rcases h.2 with ⟨h0, _⟩ | ⟨g', cap', cur, hv, hb, hh, h1, h2, h3, h4⟩
  · cases h0
  · simp only [Value.slice.injEq, Option.some.injEq, Addr.mk.injEq, and_true, true_and] at hv
    obtain ⟨rfl, rfl⟩ := hv
    simp [World.frozen?, hh]
theorem set2 (h : w.ownsRow base e size (.slice (some ⟨g, 0, none⟩) n cap) n xs) (i : Nat) (u : Value) : (w.setCell ⟨g, i, none⟩ u).ownsRow base e size (.slice (some ⟨g, 0, none⟩) n cap) n (xs.set i u) := by
  refine ⟨by rw [List.length_set]; exact h.1, ?_⟩
  rcases h.2 with ⟨h0, _⟩ | ⟨g', cap', cur, hv, hb, hh, h1, h2, h3, h4⟩
  · cases h0
  · simp only [Value.slice.injEq, Option.some.injEq, Addr.mk.injEq, and_true, true_and] at hv
    obtain ⟨rfl, rfl⟩ := hv
    refine .inr ⟨g, cap, cur.setIfInBounds i u, rfl, hb, ?_, h1, h2, by simpa using h3, ?_⟩
    · simp [World.setCell, Array.getElem?_modify, hh]
    · rw [← h4, Array.toList_setIfInBounds, List.take_set]
end

/-! ### Write -/
theorem write_no (s : ByteArray) (w : World) (hs : 1000 < s.size) :
    Calls Try.prog 17 #[.string s] w fun e w' => e = .returned (.tuple #[.slice none 0 0, .iface 59 (.int .i64 4)]) ∧ Below w.heap.size w w' := by
  go_enter Try.func17, Try.ntmps17
  go_wp2_with (go_at_call 23; refine (long1_no s w.heap.size 1000 _ (by simp) (by omega)).mono ?_; rintro e w' ⟨rfl, rfl⟩)
  go_ret2
  exact ⟨rfl, bnew _ _⟩
theorem snoc_or {α : Type} (s : List α) : s = [] ∨ ∃ s' x, s = s' ++ [x] := by
  rcases List.eq_nil_or_concat s with h | ⟨s', x, h⟩
  · exact .inl h
  · exact .inr ⟨s', x, by rw [h, List.concat_eq_append]⟩
structure WRel (w wr : World) (v : Value) (rs : List R) : Prop where
  own : wr.ownsRow w.heap.size 64 2 v rs.length (rcells (ofN rs))
  below : Below w.heap.size w wr
theorem ofN_length (l : List R) : (ofN l).length = l.length := by simp [ofN]
theorem ofN_append (a b : List R) : ofN (a ++ b) = ofN a ++ ofN b := by simp [ofN]
def WRet (w : World) (s : ByteArray) (e : Ending) (w' : World) : Prop :=
  ∃ A cap, e = .returned (.tuple #[.slice A (runsOf s.data.toList).length cap, .nilIface]) ∧ w'.ownsRow w.heap.size 64 2 (.slice A (runsOf s.data.toList).length cap) (runsOf s.data.toList).length (rcells (ofN (runsOf s.data.toList))) ∧ Below w.heap.size w w'

set_option maxRecDepth 100000 in
set_option maxHeartbeats 2000000 in
theorem write_ok (s : ByteArray) (w : World) (hs : s.size ≤ 1000) :
    Calls Try.prog 17 #[.string s] w (WRet w s) := by
  obtain ⟨i0, hi, hz0, hz1, hz2⟩ := info_parts infoK
  have hL : s.data.toList.length = s.size := by simp
  have HL := Lib.hid hL; clear hL
  go_enter Try.func17, Try.ntmps17
  go_wp2_with (go_at_call 23; refine (long1_ok s w.heap.size 1000 _ (by simp) (by omega)).mono ?_; rintro e w' ⟨rfl, rfl⟩)
  have hst := Lib.hid (show WRel w (w.alloc (.cells #[.string s] 9)) (.slice none 0 0) [] from ⟨World.ownsRow_nil _ _ _ _, bnew _ _⟩)
  go_loopw [5, 16] (fun v i wr => ∃ (k : Nat) (v0 : Value), k ≤ s.size ∧ i = .int .i64 k ∧ v0 = v ∧ WRel w wr v0 (runsOf (s.data.toList.take k))) (fun _ i _ => s.size - (intOf i).toNat)
  case atStart => exact ⟨0, _, Nat.zero_le _, rfl, rfl, hst.out⟩
  case round =>
    obtain ⟨k, v, hk, rfl, rfl, hrel⟩ := hrel
    clear hst
    by_cases hlt : k < s.size
    · have htk : s.data.toList.take (k + 1) = s.data.toList.take k ++ [s[k]] := by
        rw [List.take_succ_eq_append_getElem (by rw [HL.out]; exact hlt)]; rfl
      have hpush : runsOf (s.data.toList.take (k + 1)) = push (runsOf (s.data.toList.take k)) s[k] := by rw [htk, runsOf_snoc]
      have hlen : (runsOf (s.data.toList.take k)).length ≤ k := by
        have := runsOf_length_le (s.data.toList.take k)
        rw [List.length_take] at this
        omega
      have htot : ∀ p ∈ runsOf (s.data.toList.take k), p.2 ≤ 1000 := fun p hp => by
        have := le_total hp
        rw [total_runsOf, List.length_take, HL.out] at this
        omega
      have q1 := index_at s k s[k] hlt rfl
      clear htk
      generalize hT : runsOf (s.data.toList.take (k + 1)) = T at *
      have HT := Lib.hid hT
      generalize runsOf (s.data.toList.take k) = rs at *
      generalize hcc : s[k] = c at *
      have hbel := hrel.below
      have hsz := hbel.size
      have HP := Lib.hid hpush
      have HTO := Lib.hid htot
      clear hcc hT hpush htot
      rcases snoc_or rs with rfl | ⟨l, ⟨d, m⟩, rfl⟩
      · have hown := hrel.own
        clear hrel
        simp only [List.length_nil] at hown
        have hv : v = .slice none 0 0 ∨ ∃ A cap, v = .slice A 0 cap := .inr (own_slice hown)
        obtain ⟨A0, cap0, e⟩ := own_slice hown
        subst e
        clear hv
        go_wp2
        go_quiet (fail)
        go_wp2_with (at_builtin; go_must (refine append_own _ rfl _ _ 40 rfl w.heap.size 64 i0 _ 2 16 Try.underlying40 hi hz0 hz1 hz2 rfl (by decide) _ _ _ rfl ((show (wr.drewN nq).ownsRow w.heap.size 64 2 (.slice A0 0 cap0) 0 (rcells (ofN [])) from hown).alloc _) ⟨wr.heap.size, 0, none⟩ 1 1 [.int .u8 (c.toNat : Int), .int .i64 1] rfl rfl (cell_two_new _ _ _ _) (two_oneCell _ _) (by unfold maxLen; omega) (by omega) (by simp; omega) (by decide) ?_); intro g2 cap2 w2 hown2 hg2 hg2' hgrow2)
        go_roundw
        case rel =>
          refine ⟨k + 1, _, by omega, by go_num, rfl, ?_⟩
          rw [HT.out, HP.out]
          exact ⟨hown2, ((bdrew hbel _).alloc hsz _).grown hgrow2 (by simp; omega) (fun j hj => (hown.lt j hj).1)⟩
        case measure => simp [intOf]; omega
      · have hps := push_snoc d m c l
        have hlen2 : (l ++ [(d, m)]).length = l.length + 1 := by simp
        rw [hlen2] at hlen
        have hown := hrel.own
        rw [hlen2] at hown
        obtain ⟨g, cap, e, hgw, hgl⟩ := own_some hown (by omega)
        subst e
        have hget : (ofN (l ++ [(d, m)]))[l.length]? = some (d, (m : Int)) := by rw [ofN_append, List.getElem?_append_right (by rw [ofN_length]; exact Nat.le_refl _), ofN_length, Nat.sub_self]; rfl
        have c0 : wr.cell? ⟨g, l.length * 2, none⟩ = some (.int .u8 (d.toNat : Int)) := cell2 hown (i := l.length * 2) (u := .int .u8 (d.toNat : Int)) (by rw [rcells_get0, hget]; rfl)
        have c1 : wr.cell? ⟨g, l.length * 2 + 1, none⟩ = some (.int .i64 (m : Int)) := cell2 hown (i := l.length * 2 + 1) (u := .int .i64 (m : Int)) (by rw [rcells_get1, hget]; rfl)
        have fr := frozen2 hown (l.length * 2 + 1)
        have hset : ∀ q, ((wr.drewN q).setCell ⟨g, l.length * 2 + 1, none⟩ (.int .i64 ((m : Int) + 1))).ownsRow w.heap.size 64 2 (.slice (some ⟨g, 0, none⟩) (l.length + 1) cap) (l.length + 1) (rcells (ofN (l ++ [(d, m + 1)]))) := by
          intro q
          have := set2 (show (wr.drewN q).ownsRow w.heap.size 64 2 (.slice (some ⟨g, 0, none⟩) (l.length + 1) cap) (l.length + 1) (rcells (ofN (l ++ [(d, m)]))) from hown) (l.length * 2 + 1) (.int .i64 ((m : Int) + 1))
          rw [show ofN (l ++ [(d, m)]) = ofN l ++ [(d, (m : Int))] by rw [ofN_append]; rfl] at this
          have e := rcells_set (ofN l) d (m : Int) ((m : Int) + 1)
          rw [ofN_length] at e
          rw [e] at this
          rw [show ofN (l ++ [(d, m + 1)]) = ofN l ++ [(d, (m : Int) + 1)] by rw [ofN_append]; rfl]
          exact this
        have hm := HTO.out (d, m) (by simp)
        simp only at hm
        have HS := Lib.hid hset
        have HPS := Lib.hid hps
        have wr1 : IntKind.i64.wrap (l.length : Int) = (l.length : Int) := IntWalk.i64_in _ (by omega)
        have i1 : (l.length : Int) < (l.length : Int) + 1 := by omega
        have i3 : (0 : Int) ≤ (l.length : Int) := by omega
        have i2 : (0 : Int) < ((l.length + 1 : Nat) : Int) := by omega
        clear hget hset hrel hps
        by_cases hdc : d = c
        · have hpe := HPS.out
          rw [if_pos hdc] at hpe
          have heq : ((d.toNat : Int) == (c.toNat : Int)) = true := by rw [hdc]; simp
          have HPE := Lib.hid hpe
          clear hpe
          go_wp2
          go_quiet (fail)
          go_wp2
          refine ⟨⟨k + 1, _, by omega, by go_num, rfl, ?_⟩, by simp [intOf]; omega⟩
          rw [HT.out, HP.out, HPE.out]
          have hl3 : (l ++ [(d, m + 1)]).length = l.length + 1 := by simp
          refine ⟨?_, (bdrew hbel _).setCell (by show w.heap.size ≤ g; exact hgw) _⟩
          rw [hl3]
          exact HS.out _
        · have hpe := HPS.out
          rw [if_neg hdc] at hpe
          have heq : ((d.toNat : Int) == (c.toNat : Int)) = false := by
            have : ¬ d.toNat = c.toNat := fun h => hdc (UInt8.toNat_inj.1 h)
            rw [beq_eq_false_iff_ne]; omega
          have HPE := Lib.hid hpe
          clear hpe
          go_wp2
          go_quiet (fail)
          go_wp2_with (at_builtin; go_must (refine append_own _ rfl _ _ 40 rfl w.heap.size 64 i0 _ 2 16 Try.underlying40 hi hz0 hz1 hz2 rfl (by decide) _ _ _ rfl ((show (wr.drewN nq).ownsRow w.heap.size 64 2 (.slice (some ⟨g, 0, none⟩) (l.length + 1) cap) (l.length + 1) (rcells (ofN (l ++ [(d, m)]))) from hown).alloc _) ⟨wr.heap.size, 0, none⟩ 1 1 [.int .u8 (c.toNat : Int), .int .i64 1] rfl rfl (cell_two_new _ _ _ _) (two_oneCell _ _) (by unfold maxLen; omega) (by omega) (by simp; omega) (by decide) ?_); intro g2 cap2 w2 hown2 hg2 hg2' hgrow2)
          go_roundw
          case rel =>
            refine ⟨k + 1, _, by omega, by go_num, rfl, ?_⟩
            rw [HT.out, HP.out, HPE.out]
            have hl3 : (l ++ [(d, m), (c, 1)]).length = l.length + 1 + 1 := by simp
            refine ⟨?_, ((bdrew hbel _).alloc hsz _).grown hgrow2 (by simp; omega) (fun j hj => (hown.lt j hj).1)⟩
            rw [hl3, show l ++ [(d, m), (c, 1)] = (l ++ [(d, m)]) ++ [(c, 1)] by simp, ofN_append, rcells_append]
            exact hown2
          case measure => simp [intOf]; omega
    · obtain rfl : k = s.size := by omega
      have hbel := hrel.below
      rw [List.take_of_length_le (by rw [HL.out]; exact Nat.le_refl _)] at hrel
      have hown := hrel.own
      obtain ⟨A, cap, e⟩ := own_slice hown
      subst e
      have HO := Lib.hid hown
      clear hrel hown
      go_wp2
      go_ret2
      exact ⟨A, cap, rfl, HO.out, hbel⟩

end Go.Proofs.Ytfjjjkfldekooaa.Rn
