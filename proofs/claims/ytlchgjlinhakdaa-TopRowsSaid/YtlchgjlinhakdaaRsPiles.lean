/-
  The walks of rise.Piles and rise.Long.
-/
import Derived.Test.YtlchgjlinhakdaaRsWalk
namespace Go.Proofs.Ytlchgjlinhakdaa.Rs
open Go.RowKit
set_option linter.unusedVariables false

theorem piles_no (A : Option Addr) (cap : Nat) (l : List Int) (w : World) (hr : Reads w A l.length 1 (ints l)) (hm : l.length ≤ maxLen) (h : chk l ≠ 0) :
    Calls Try.prog 12 #[.slice A l.length cap] w fun e w' => e = .returned (.tuple #[.slice none 0 0, .iface 43 (.int .i64 (chk l))]) ∧ Below w.heap.size w w' := by
  go_enter Try.func12, Try.ntmps12
  go_wp2_with (go_at_call 19; refine (check_no A cap l _ hr hm h).mono ?_; rintro e w' ⟨rfl, rfl⟩)
  go_ret2
  exact ⟨rfl, Below.refl _ _⟩
/-- what holds at the head of the loop of Piles -/
structure PRel (w wr : World) (v : Value) (t : List Int) : Prop where
  own : wr.ownsRow w.heap.size 3 1 v t.length (ints t)
  below : Below w.heap.size w wr

theorem PRel.set_ {w wr w1 : World} {g cap : Nat} {t : List Int} (h : PRel w wr (.slice (some ⟨g, 0, none⟩) t.length cap) t) (hb : Below wr.heap.size wr w1) (i : Nat) (n : Int) :
    PRel w (w1.setCell ⟨g, i, none⟩ (.int .i64 n)) (.slice (some ⟨g, 0, none⟩) t.length cap) (t.set i n) := by
  have ho := own_set (own_below h.own hb) i (.int .i64 n)
  have hg := (h.own.lt g rfl).1
  refine ⟨?_, (bnext h.below hb).setCell (by show w.heap.size ≤ g; exact hg) _⟩
  rw [List.length_set]
  unfold ints at ho ⊢
  rw [List.map_set]
  exact ho
def Owned (w : World) (t : List Int) (e : Ending) (w' : World) : Prop := ∃ v, e = .returned (.tuple #[v, .nilIface]) ∧ w'.ownsRow w.heap.size 3 1 v t.length (ints t) ∧ Below w.heap.size w w'

set_option maxHeartbeats 2000000 in
theorem piles_ok (A : Option Addr) (cap : Nat) (l : List Int) (w : World) (hr : Reads w A l.length 1 (ints l)) (h : chk l = 0) :
    Calls Try.prog 12 #[.slice A l.length cap] w (Owned w (piles l)) := by
  have hlen := (chk_ok h).1
  obtain ⟨i0, hi, hz0, hz1, hz2⟩ := info_parts infoI
  go_enter Try.func12, Try.ntmps12
  go_wp2_with (go_at_call 19; refine (check_ok A cap l _ hr h).mono ?_; rintro e w' ⟨rfl, rfl⟩)
  have H := Lib.hid h
  clear h
  go_loopw [5, 16] (fun v i wr => ∃ k : Nat, k ≤ l.length ∧ i = .int .i64 k ∧ PRel w wr v (piles (l.take k))) (fun _ i _ => l.length - (intOf i).toNat)
  case atStart => exact ⟨0, Nat.zero_le _, rfl, ⟨World.ownsRow_nil _ _ _ _, Below.refl _ _⟩⟩
  case round =>
    obtain ⟨k, hk, rfl, hrel⟩ := hrel
    by_cases hlt : k < l.length
    · have hbel := hrel.below
      obtain ⟨b, o, rfl, hb, hc⟩ := (hr.below hbel).2 (by omega)
      obtain ⟨n, hn⟩ : ∃ n, l[k]? = some n := ⟨_, List.getElem?_eq_getElem hlt⟩
      have c0 := hc k (.int .i64 n) (by rw [ints_get, hn]; rfl)
      have htk : piles (l.take (k + 1)) = put n (piles (l.take k)) := by
        rw [List.take_add_one, hn]
        exact piles_snoc _ _
      have hasc := (piles_rises (l.take k)).asc
      have hpl : (piles (l.take k)).length ≤ k := by
        have := piles_le (l.take k)
        rw [List.length_take] at this
        omega
      generalize piles (l.take k) = t at *
      obtain ⟨A', cap', e⟩ := own_slice hrel.own
      subst e
      have hs := Lib.hid (fun w' hb' => search_any A' cap' t n w' ((Reads.of_own hrel.own).below hb') (by omega) hasc)
      have hple := pos_le n t
      have HT := Lib.hid htk
      have HR := Lib.hid hrel
      have HA := Lib.hid hasc
      clear htk hrel hc hn hasc
      by_cases hp : pos n t = t.length
      · have hput : put n t = t ++ [n] := by unfold put; rw [if_pos hp]
        have HP := Lib.hid hput
        have g1 : ((pos n t : Int) == (t.length : Int)) = true := by rw [beq_iff_eq, hp]
        clear hput hp
        go_wp2_with (first
          | (go_at_call 21; refine (hs.out _ (Below.refl _ _)).mono ?_; rintro e w1 ⟨rfl, hb1⟩; have hown1 := own_below HR.out.own hb1; have hsz1 := Nat.le_trans HR.out.below.size hb1.size)
          | (at_builtin; go_must (refine append_own _ rfl _ _ 22 rfl w.heap.size 3 i0 _ 1 8 Try.underlying22 hi hz0 hz1 hz2 rfl (by decide) _ _ _ rfl (hown1.alloc _) ⟨w1.heap.size, 0, none⟩ 1 1 [.int .i64 n] rfl rfl (cell_one_new _ _ _) (int_oneCell _) (by unfold maxLen; omega) (by omega) (by simp; omega) (by decide) ?_); intro g2 cap2 w2 hown2 hg2 hg2' hgrow2))
        go_roundw
        case rel =>
          refine ⟨k + 1, by omega, by go_num, ?_⟩
          rw [HT.out, HP.out]
          exact ⟨by simpa [ints] using hown2, ((bnext HR.out.below hb1).alloc hsz1 _).grown hgrow2 (by simp; omega) (fun j hj => (HR.out.own.lt j hj).1)⟩
        case measure => simp [intOf]; omega
      · have hput : put n t = t.set (pos n t) n := by unfold put; rw [if_neg hp]
        have hlt2 : pos n t < t.length := by omega
        have g1 : ((pos n t : Int) == (t.length : Int)) = false := by rw [beq_eq_false_iff_ne]; omega
        obtain ⟨g, cap2, e, _, hgl⟩ := own_some HR.out.own (by omega)
        simp only [Value.slice.injEq, true_and] at e
        obtain ⟨rfl, rfl⟩ := e
        obtain ⟨y, hy⟩ : ∃ y, t[pos n t]? = some y := ⟨_, List.getElem?_eq_getElem hlt2⟩
        have cy := Lib.hid (own_cell HR.out.own (i := pos n t) (u := .int .i64 y) (by rw [ints_get, hy]; rfl))
        have fy := Lib.hid (own_frozen HR.out.own (pos n t))
        have HP := Lib.hid hput
        clear hput hp hy
        generalize pos n t = p at *
        go_wp2_with (go_at_call 21; refine (hs.out _ (Below.refl _ _)).mono ?_; rintro e w1 ⟨rfl, hb1⟩; have c1 := (hb1.cell (p := ⟨g, p, none⟩) hgl).trans cy.out; have f1 := (hb1.frozen (p := ⟨g, p, none⟩) hgl).trans fy.out)
        go_roundw
        case rel =>
          refine ⟨k + 1, by omega, by go_num, ?_⟩
          rw [HT.out, HP.out]
          exact HR.out.set_ hb1 p n
        case measure => simp [intOf]; omega
    · have e : l.take k = l := List.take_of_length_le (by omega)
      rw [e] at hrel
      have HR := Lib.hid hrel
      clear e hrel
      go_wp2
      go_ret2
      exact ⟨_, rfl, HR.out.own, HR.out.below⟩

theorem long_no (A : Option Addr) (cap : Nat) (l : List Int) (w : World) (hr : Reads w A l.length 1 (ints l)) (hm : l.length ≤ maxLen) (h : chk l ≠ 0) :
    Calls Try.prog 9 #[.slice A l.length cap] w fun e w' => e = .returned (.tuple #[.int .i64 0, .iface 43 (.int .i64 (chk l))]) ∧ Below w.heap.size w w' := by
  go_enter Try.func9, Try.ntmps9
  go_wp2_with (go_at_call 12; refine (piles_no A cap l _ hr hm h).mono ?_; rintro e w1 ⟨rfl, hb⟩)
  go_ret2
  exact ⟨rfl, hb⟩
theorem long_ok (A : Option Addr) (cap : Nat) (l : List Int) (w : World) (hr : Reads w A l.length 1 (ints l)) (h : chk l = 0) :
    Calls Try.prog 9 #[.slice A l.length cap] w fun e w' => e = .returned (.tuple #[.int .i64 (piles l).length, .nilIface]) ∧ Below w.heap.size w w' := by
  have HP := Lib.hid (fun w hr => piles_ok A cap l w hr h)
  clear h
  go_enter Try.func9, Try.ntmps9
  go_wp2_with fail
  refine (HP.out _ hr).mono ?_
  rintro e w1 ⟨v, rfl, hown, hb⟩
  obtain ⟨A', cap', e⟩ := own_slice hown
  subst e
  clear hown
  go_wp2
  go_ret2
  exact ⟨rfl, hb⟩
end Go.Proofs.Ytlchgjlinhakdaa.Rs
