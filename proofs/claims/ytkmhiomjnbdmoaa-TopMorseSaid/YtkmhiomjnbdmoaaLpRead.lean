/-
  The walk of lempel.Read: for every slice of pieces it returns what Lp.readP says: the text, and what is wrong.
-/
import Derived.Test.YtkmhiomjnbdmoaaLpWrite
import Derived.Deep.RegionHeld3
import Derived.Deep.RegionLaw
namespace Go.Proofs.Ytkmhiomjnbdmoaa.Lp
open Go.RowKit

def icells (l : List (Int × UInt8)) : List Value := l.flatMap fun p => [.int .i64 p.1, .int .u8 (p.2.toNat : Int)]
def errV (n : Int) : Value := if n = 0 then .nilIface else .iface 38 (.int .i64 n)
def strV (l : List UInt8) : Value := .string ⟨l.toArray⟩
theorem infoS : (Try.prog.info? 9).map (fun i => (i.zero, i.size, i.bytes)) = some (some (.string .empty), 1, 16) := by kernel_rfl

theorem within_any (n lo hi : Int) (w : World) : Calls Try.prog 10 #[.int .i64 n, .int .i64 lo, .int .i64 hi] w fun e w' => e = .returned (.bool (decide (lo ≤ n ∧ n ≤ hi))) ∧ w = w' := by
  by_cases h1 : lo ≤ n <;> by_cases h2 : n ≤ hi
  all_goals
    go_enter Try.func10, Try.ntmps10
    go_wp2
    go_ret
    exact ⟨by simp [h1, h2], rfl⟩

theorem icells_length (l : List (Int × UInt8)) : (icells l).length = l.length * 2 := by
  induction l with
  | nil => rfl
  | cons p l ih => simp [icells] at ih ⊢; omega
theorem icells_get (l : List (Int × UInt8)) (k : Nat) : (icells l)[k * 2]? = (l[k]?).map (fun p => Value.int .i64 p.1) ∧ (icells l)[k * 2 + 1]? = (l[k]?).map (fun p => Value.int .u8 (p.2.toNat : Int)) := by
  induction l generalizing k with
  | nil => simp [icells]
  | cons p l ih =>
    have e : icells (p :: l) = .int .i64 p.1 :: .int .u8 (p.2.toNat : Int) :: icells l := by simp [icells]
    rw [e]
    rcases k with _ | k
    · simp
    · have h := ih k
      rw [show (k + 1) * 2 = k * 2 + 1 + 1 by omega]
      simpa using h
theorem icells_get0 (l : List (Int × UInt8)) (k : Nat) : (icells l)[k * 2]? = (l[k]?).map (fun p => Value.int .i64 p.1) := (icells_get l k).1
theorem icells_get1 (l : List (Int × UInt8)) (k : Nat) : (icells l)[k * 2 + 1]? = (l[k]?).map (fun p => Value.int .u8 (p.2.toNat : Int)) := (icells_get l k).2
theorem drop_of_get {α : Type} {l : List α} {k : Nat} {p : α} (h : l[k]? = some p) : l.drop k = p :: l.drop (k + 1) := by
  obtain ⟨hk, he⟩ := List.getElem?_eq_some_iff.1 h
  rw [List.drop_eq_getElem_cons hk, he]

theorem byte_string (c : UInt8) (b : Nat) (w : World) (h : w.cell? ⟨b, 0, none⟩ = some (.int .u8 (c.toNat : Int))) :
    (convert 40 9 (.slice (some ⟨b, 0, none⟩) 1 1)).run Try.prog w = .ok (.string ⟨#[c]⟩) w :=
  run_convert_bytes_back w 40 9 5 ⟨b, 0, none⟩ 1 [c] Try.underlying40 Try.underlying5 Try.underlying9 (fun j hj => by
    have : j = 0 := by simpa using hj
    subst this
    exact h)

/-- well-formed pieces, and how Go compares them -/
def Wf (p : Int × UInt8) : Prop := -9223372036854775808 ≤ p.1 ∧ p.1 ≤ 9223372036854775807
theorem key_any (p : Int × UInt8) (h : Wf p) : keyOf Try.prog 48 (.agg #[.int .i64 p.1, .int .u8 (p.2.toNat : Int)]) = some (.string (keyBytes [.int .i64 p.1, .int .u8 (p.2.toNat : Int)])) := by
  obtain ⟨n, hn⟩ := sizeT
  have w1 : (Lit.int .i64 p.1).wf = true := WalkArith.wf_i64 (by unfold Wf at h; omega)
  have w2 := wf8 p.2
  unfold keyOf
  rw [Try.underlying48]
  simp only [keyTypeK, Bool.true_and, hn]
  simp [Value.formed, Program.keyLits, Try.underlying48, Try.underlying3, Try.underlying5, cellsK, cells3, cells5, Value.cells, w1, w2]
theorem equal_pc (p q : Int × UInt8) (hp : Wf p) (hq : Wf q) (w : World) :
    (Op.equal 48 (.agg #[.int .i64 p.1, .int .u8 (p.2.toNat : Int)]) (.agg #[.int .i64 q.1, .int .u8 (q.2.toNat : Int)])).run Try.prog w = .ok (decide (p = q)) w := by
  have kp := key_any p hp
  have kq := key_any q hq
  obtain ⟨r, h1, h2⟩ := run_equal_deep (P := Try.prog) w (m := 2) (by omega) (k := 48) (by kernel_rfl) wideK kp kq
  rw [h1]
  congr 1
  rw [Bool.eq_iff_iff, h2, decide_eq_true_iff]
  constructor
  · intro h
    rw [← h] at kq
    have e := law.inj kp kq
    simp only [Value.agg.injEq, Array.mk.injEq, List.cons.injEq, Value.int.injEq, true_and, and_true] at e
    obtain ⟨a, b⟩ := p
    obtain ⟨c, d⟩ := q
    have h1 : a = c := by have := e.1; simpa using this
    have h2 : b.toNat = d.toNat := by have := e.2; simp only at this; omega
    rw [h1, UInt8.toNat_inj.1 h2]
  · intro h; rw [h]
theorem neq_pc (p q : Int × UInt8) (hp : Wf p) (hq : Wf q) (w : World) :
    (binOp .neq 48 (.agg #[.int .i64 p.1, .int .u8 (p.2.toNat : Int)]) (.agg #[.int .i64 q.1, .int .u8 (q.2.toNat : Int)])).run Try.prog w = .ok (.bool (!decide (p = q))) w := by
  simp only [binOp]
  simp [equal_pc p q hp hq]
theorem eql_pc (p q : Int × UInt8) (hp : Wf p) (hq : Wf q) (w : World) :
    (binOp .eql 48 (.agg #[.int .i64 p.1, .int .u8 (p.2.toNat : Int)]) (.agg #[.int .i64 q.1, .int .u8 (q.2.toNat : Int)])).run Try.prog w = .ok (.bool (decide (p = q))) w := by
  simp only [binOp]
  simp [equal_pc p q hp hq]

structure RRel (w wr : World) (v o : Value) (l : List (Int × UInt8)) (k : Nat) : Prop where
  st : ∃ (ts : List (List UInt8)) (os : List UInt8), o = .string ⟨os.toArray⟩ ∧ wr.ownsRow w.heap.size 9 1 v (k + 1) (ts.map strV) ∧ (∀ t ∈ ts, t.length ≤ 1000) ∧ os.length ≤ 1000 ∧ rd l 0 [[]] [] = rd (l.drop k) k ts os
  below : Below w.heap.size w wr

theorem str_app (a b : List UInt8) : (⟨a.toArray⟩ ++ ⟨b.toArray⟩ : ByteArray) = ⟨(a ++ b).toArray⟩ := by
  rw [ByteArray.mk_append_mk]
theorem RRel.next {w w1 : World} {v : Value} {l : List (Int × UInt8)} {k : Nat} {ts : List (List UInt8)} {os tn : List UInt8} {c : UInt8}
    (hown : w1.ownsRow w.heap.size 9 1 v (k + 1 + 1) (ts.map strV ++ [.string (⟨tn.toArray⟩ ++ ⟨#[c]⟩)])) (hts : ∀ t ∈ ts, t.length ≤ 1000) (hlen : (os.length : Int) + ((tn.length : Int) + 1) ≤ 1000)
    (hr : rd l 0 [[]] [] = rd (l.drop (k + 1)) (k + 1) (ts ++ [tn ++ [c]]) (os ++ (tn ++ [c]))) (hb : Below w.heap.size w w1) :
    RRel w w1 v (.string (⟨os.toArray⟩ ++ (⟨tn.toArray⟩ ++ ⟨#[c]⟩))) l (k + 1) := by
  have e : (⟨#[c]⟩ : ByteArray) = ⟨[c].toArray⟩ := rfl
  rw [e, str_app] at hown
  rw [e, str_app, str_app]
  refine ⟨⟨_, _, rfl, by simpa [strV] using hown, ?_, by simp; omega, hr⟩, hb⟩
  intro t ht
  simp only [List.mem_append, List.mem_singleton] at ht
  rcases ht with ht | rfl
  · exact hts t ht
  · simp; omega

set_option maxHeartbeats 1000000 in
set_option maxRecDepth 100000 in
theorem read_all (A : Option Addr) (cap : Nat) (l : List (Int × UInt8)) (w : World) (hl : l.length ≤ 1000) (hr : Reads w A l.length 2 (icells l)) :
    Calls Try.prog 7 #[.slice A l.length cap] w fun e w' => e = .returned (.tuple #[strV (rd l 0 [[]] []).1, errV (rd l 0 [[]] []).2]) ∧ Below w.heap.size w w' := by
  obtain ⟨i0, hi, hz0, hz1, hz2⟩ := info_parts infoS
  go_enter Try.func7, Try.ntmps7
  go_wp2
  go_loopw [4, 5, 16] (fun v o i wr => ∃ k : Nat, k ≤ l.length ∧ i = .int .i64 k ∧ RRel w wr v o l k)
    (fun _ _ i _ => l.length - (intOf i).toNat)
  case atStart => exact ⟨0, Nat.zero_le _, rfl, ⟨⟨[[]], [], rfl, World.ownsRow_lit w _ 1 (Nat.le_refl _) (by decide) rfl, by simp, by simp, rfl⟩, (Below.refl _ _).alloc (Nat.le_refl _) _⟩⟩
  case round =>
    obtain ⟨k, hk, rfl, hrel⟩ := hrel
    obtain ⟨⟨ts, os, rfl, hown, hts, hos, hrd⟩, hbel⟩ := hrel
    by_cases hlt : k < l.length
    · obtain ⟨b, o, rfl, hb, hc⟩ := (hr.below hbel).2 (by omega)
      obtain ⟨⟨pb, pc⟩, hp⟩ : ∃ p, l[k]? = some p := ⟨_, List.getElem?_eq_getElem hlt⟩
      have c0 := hc (k * 2) (.int .i64 pb) (by rw [icells_get0, hp]; rfl)
      have c1 := hc (k * 2 + 1) (.int .u8 (pc.toNat : Int)) (by rw [icells_get1, hp]; rfl)
      rw [← Nat.add_assoc] at c1
      have HT := Lib.hid hts; clear hts
      have hdrop : l.drop k = (pb, pc) :: l.drop (k + 1) := drop_of_get hp
      rw [hdrop] at hrd
      have HR := Lib.hid hrd; clear hrd hdrop hp
      by_cases hin : 0 ≤ pb ∧ pb ≤ (k : Int)
      · have hin' : decide (0 ≤ pb ∧ pb ≤ (k : Int)) = true := by simpa using hin
        obtain ⟨n, rfl⟩ := Int.eq_ofNat_of_zero_le hin.1
        have hn : n ≤ k := by omega
        rw [rd, if_pos hin] at HR
        simp only [Int.toNat_natCast] at HR
        clear hin
        obtain ⟨g, cap', rfl, hg, hg'⟩ := own_some hown (by omega)
        have hlen : ts.length = k + 1 := by simpa using hown.1
        have hcell := hown.cellAt n (by omega)
        generalize htn : ts.getD n [] = tn at HR
        have hcell' : wr.cell? ⟨g, n, none⟩ = some (.string ⟨tn.toArray⟩) := by
          rw [hcell, ← htn]; simp [strV, List.getD_eq_getElem?_getD, List.getElem?_eq_getElem (show n < ts.length by omega)]
        have htl : tn.length ≤ 1000 := HT.out tn (by rw [← htn, List.getD_eq_getElem?_getD, List.getElem?_eq_getElem (show n < ts.length by omega)]; simp)
        clear hcell htn
        have hcv := byte_string pc (wr.heap.size + 1)
        go_wp2_with (go_at_call 10; refine (within_any _ _ _ _).mono ?_; rintro e w' ⟨rfl, rfl⟩)
        go_region
        clear hcv
        by_cases hov : 1000 < os.length + (tn ++ [pc]).length
        · rw [if_pos hov] at HR
          have hov' : (1000 : Int) < (os.length : Int) + ((tn.length : Int) + 1) := by simp at hov; omega
          clear hov
          go_wp2
          go_ret2
          rw [HR.out]
          exact ⟨rfl, ((hbel.alloc hbel.size _).alloc (by have := hbel.size; simp; omega) _).drew⟩
        · rw [if_neg hov] at HR
          have hov' : (os.length : Int) + ((tn.length : Int) + 1) ≤ 1000 := by simp at hov; omega
          clear hov
          go_wp2_with (at_builtin; go_must (refine append_own _ rfl _ _ 50 rfl w.heap.size 9 i0 _ 1 16 Try.underlying50 hi hz0 hz1 hz2 rfl (by decide) _ _ _ rfl (((hown.alloc _).alloc _).alloc _).drew ⟨wr.heap.size + 2, 0, none⟩ 1 1 [.string (⟨tn.toArray⟩ ++ ⟨#[pc]⟩)] rfl rfl (by simpa using cell_one_new ((wr.alloc _).alloc _) _ _) (by simp [Value.oneCell']) (by unfold maxLen; omega) (by omega) (by have := hbel.size; simp; omega) (by decide) ?_); intro g1 cap1 w1 hown1 hg1 hg1' hgrow1)
          go_roundw
          case rel => exact ⟨k + 1, by omega, by go_num, RRel.next hown1 HT.out hov' HR.out ((((hbel.alloc hbel.size _).alloc (by have := hbel.size; simp; omega) _).alloc (by have := hbel.size; simp; omega) _).drew.grown hgrow1 (by have := hbel.size; simp; omega) (by intro j hj; cases hj; exact hg))⟩
          case measure => simp [intOf]; omega
      · have hin' : decide (0 ≤ pb ∧ pb ≤ (k : Int)) = false := by simpa using hin
        rw [rd, if_neg hin] at HR
        go_wp2_with (go_at_call 10; refine (within_any _ _ _ _).mono ?_; rintro e w' ⟨rfl, rfl⟩)
        go_ret2
        rw [HR.out]
        exact ⟨rfl, hbel.alloc hbel.size _⟩
    · obtain rfl : k = l.length := by omega
      have HR := Lib.hid hrd; clear hrd
      go_wp2
      go_ret2
      rw [HR.out]
      simp [rd, errV, hbel, strV]

/-- Read, whatever the pieces are -/
theorem read_any (A : Option Addr) (cap : Nat) (l : List (Int × UInt8)) (w : World) (hr : Reads w A l.length 2 (icells l)) (hm : l.length ≤ maxLen) :
    Calls Try.prog 7 #[.slice A l.length cap] w fun e w' => e = .returned (.tuple #[strV (readP l).1, errV (readP l).2]) ∧ Below w.heap.size w w' := by
  unfold readP
  by_cases h : 1000 < l.length
  · rw [if_pos h]
    unfold maxLen at hm
    have h' : (1000 : Int) < (l.length : Int) := by omega
    go_enter Try.func7, Try.ntmps7
    go_wp2
    go_ret2
    exact ⟨rfl, Below.refl _ _⟩
  · rw [if_neg h]
    exact read_all A cap l w (by omega) hr
end Go.Proofs.Ytkmhiomjnbdmoaa.Lp
