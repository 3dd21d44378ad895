/-
  The walk of runs.Read: for every slice of runs it returns what Rn.rd says: the text, and what is wrong.
-/
import Derived.Test.YtfjjjkfldekooaaRnWr
import Derived.Test.YtfjjjkfldekooaaRpt
import Derived.Lib.OthersKept
import Derived.Deep.RegionHeld3
namespace Go.Proofs.Ytfjjjkfldekooaa.Rn
open Go.RowKit
set_option linter.unusedVariables false

abbrev IsB (B b : Nat) (l : List UInt8) (w : World) : Prop := Lib.IsBuilderF 55 5 B b (Lib.byteCells l) w
theorem isB_new (w : World) : IsB w.heap.size w.heap.size [] (w.alloc (.cells #[.pointer none, .slice none 0 0] 55)) :=
  Lib.IsBuilderF.of (.inl ⟨Nat.le_refl _, .slice none 0 0, heap_alloc_new w _, World.ownsRow_nil _ _ _ _, by simp [Value.ownBlock]⟩)
theorem atF_below {T e : TypeId} {B b : Nat} {p : Value} {bs : List Value} {w w' : World} (h : Lib.BuilderAtF T e B b p bs w) (hb : Below w.heap.size w w') : Lib.BuilderAtF T e B b p bs w' := by
  have hlt := h.lt
  obtain ⟨h1, v, h2, h3, h4⟩ := h
  have hg : w.grownBy w' none := ⟨hb.os, hb.tape, hb.output, hb.size, fun k hk _ => hb.block k hk⟩
  refine ⟨h1, v, (hb.block b hlt).trans h2, h3.kept hg ?_, h4⟩
  cases v.ownBlock with
  | none => exact .inl rfl
  | some k => exact .inr (fun e => by cases e)
theorem isB_below {B b : Nat} {l : List UInt8} {w w' : World} (h : IsB B b l w) (hb : Below w.heap.size w w') : IsB B b l w' :=
  h.elim (fun x => .inl (atF_below x hb)) (fun x => .inr (atF_below x hb))
theorem len_any (B b : Nat) (l : List UInt8) (w : World) (h : IsB B b l w) :
    Calls Try.prog 34 #[.pointer (some ⟨b, 0, none⟩)] w fun e w' => e = .returned (.int .i64 l.length) ∧ w = w' := by
  refine (Any.Builder_Len_f { Try.lays105 with } B b _ w h).mono ?_
  rintro e w' ⟨rfl, rfl⟩
  rw [Lib.byteCells_length]
  exact ⟨rfl, rfl⟩
theorem write_any (B b : Nat) (l m : List UInt8) (w : World) (h : IsB B b l w) (hlen : l.length + m.length ≤ 1000000) (hB : B ≤ w.heap.size) :
    Calls Try.prog 35 #[.pointer (some ⟨b, 0, none⟩), .string ⟨m.toArray⟩] w fun e w' => e = .returned (.tuple #[.int .i64 m.length, .nilIface]) ∧ IsB B b (l ++ m) w' ∧ Below B w w' := by
  have hs : (⟨m.toArray⟩ : ByteArray).size = m.length := by show m.toArray.size = _; simp
  refine (Any.Builder_WriteString_f { Try.lays105 with } Try.Builder_Extra_105 B b _ ⟨m.toArray⟩ w h (by rw [Lib.byteCells_length, hs]; omega) hB).mono ?_
  rintro e w' ⟨rfl, h1, h2⟩
  refine ⟨by rw [hs], ?_, h2⟩
  have e : Lib.byteCells (l ++ m) = Lib.byteCells l ++ Lib.strCells ⟨m.toArray⟩ := by
    rw [Lib.strCells_eq]; simp [Lib.byteCells]
  unfold IsB
  rw [e]
  exact .inr h1
theorem string_any (B b : Nat) (l : List UInt8) (w : World) (h : IsB B b l w) (hB : B ≤ w.heap.size) :
    Calls Try.prog 27 #[.pointer (some ⟨b, 0, none⟩)] w fun e w' => e = .returned (.string ⟨l.toArray⟩) ∧ Below B w w' := by
  refine (Any.Builder_String_any_f { Try.lays105 with } Try.Builder_Extra_105 B b l w h hB).mono ?_
  rintro e w' ⟨rfl, _, h2⟩
  exact ⟨rfl, h2⟩
theorem repeat_any (c : UInt8) (n : Nat) (w : World) (hn : n ≤ 1000) :
    Calls Try.prog 36 #[.string ⟨#[c]⟩, .int .i64 n] w fun e w' => e = .returned (.string ⟨(List.replicate n c).toArray⟩) ∧ Below w.heap.size w w' := by
  refine (Any.strings_Repeat Try.lays105 Try.Builder_Extra_105 ⟨#[c]⟩ n w (by omega) (by show 1 * n ≤ _; omega)).mono ?_
  rintro e w' ⟨rfl, h⟩
  refine ⟨?_, h⟩
  have e : Lib.repeatL (⟨#[c]⟩ : ByteArray).data.toList n = List.replicate n c := by
    have := Lib.repeatL_replicate c 1 n
    simpa using this
  rw [e]

theorem within_any (n lo hi : Int) (w : World) : Calls Try.prog 29 #[.int .i64 n, .int .i64 lo, .int .i64 hi] w fun e w' => e = .returned (.bool (decide (lo ≤ n ∧ n ≤ hi))) ∧ w = w' := by
  by_cases h1 : lo ≤ n <;> by_cases h2 : n ≤ hi
  all_goals
    go_enter Try.func29, Try.ntmps29
    go_wp2
    go_ret
    exact ⟨by simp [h1, h2], rfl⟩
theorem byte_string (c : UInt8) (b : Nat) (w : World) (h : w.cell? ⟨b, 0, none⟩ = some (.int .u8 (c.toNat : Int))) :
    (convert 53 9 (.slice (some ⟨b, 0, none⟩) 1 1)).run Try.prog w = .ok (.string ⟨#[c]⟩) w :=
  run_convert_bytes_back w 53 9 5 ⟨b, 0, none⟩ 1 [c] Try.underlying53 Try.underlying5 Try.underlying9 (fun j hj => by
    have : j = 0 := by simpa using hj
    subst this
    exact h)
def errV (n : Int) : Value := if n = 0 then .nilIface else .iface 59 (.int .i64 n)
def strV (l : List UInt8) : Value := .string ⟨l.toArray⟩
structure DRel (w wr : World) (l : List Z) (k : Nat) (prev : Option UInt8) (out : List UInt8) : Prop where
  isb : IsB w.heap.size w.heap.size out wr
  below : Below w.heap.size w wr
  len : out.length ≤ 1000
  rd : rd none [] l = rd prev out (l.drop k)
  prev : (k = 0 ∧ prev = none) ∨ ∃ j p, k = j + 1 ∧ l[j]? = some p ∧ prev = some p.1
theorem drop_of_get {α : Type} {l : List α} {k : Nat} {p : α} (h : l[k]? = some p) : l.drop k = p :: l.drop (k + 1) := by
  obtain ⟨hk, he⟩ := List.getElem?_eq_some_iff.1 h
  rw [List.drop_eq_getElem_cons hk, he]
set_option maxRecDepth 100000 in
set_option maxHeartbeats 4000000 in
theorem read_any (A : Option Addr) (cap : Nat) (l : List Z) (w : World) (hr : Reads w A l.length 2 (rcells l)) (hm : l.length ≤ maxLen) (hwf : ∀ p ∈ l, Wf p) :
    Calls Try.prog 15 #[.slice A l.length cap] w fun e w' => e = .returned (.tuple #[strV (rd none [] l).1, errV (rd none [] l).2]) ∧ Below w.heap.size w w' := by
  unfold maxLen at hm
  have HWF := Lib.hid hwf
  clear hwf
  obtain ⟨r, hR⟩ : ∃ r, r = rd none [] l := ⟨_, rfl⟩
  rw [← hR]
  have HRR := Lib.hid hR
  clear hR
  go_enter Try.func15, Try.ntmps15
  go_wp2
  have hst := Lib.hid (show DRel w (w.alloc (.cells #[.pointer none, .slice none 0 0] 55)) l 0 none [] from ⟨isB_new w, bnew _ _, by simp, rfl, .inl ⟨rfl, rfl⟩⟩)
  go_loopw [9] (fun i wr => ∃ (k : Nat) (prev : Option UInt8) (out : List UInt8), k ≤ l.length ∧ i = .int .i64 k ∧ DRel w wr l k prev out) (fun i _ => l.length - (intOf i).toNat)
  case atStart => exact ⟨0, none, [], Nat.zero_le _, rfl, hst.out⟩
  case round =>
    obtain ⟨k, prev, out, hk, rfl, hrel⟩ := hrel
    clear hst
    have hbel := hrel.below
    have hlen := hrel.len
    have hsz := hbel.size
    by_cases hlt : k < l.length
    · obtain ⟨b, o, rfl, hb, hc⟩ := (hr.below hbel).2 (by omega)
      obtain ⟨⟨c, n⟩, hp⟩ : ∃ p, l[k]? = some p := ⟨_, List.getElem?_eq_getElem hlt⟩
      have c0 := hc (k * 2) (.int .u8 (c.toNat : Int)) (by rw [rcells_get0, hp]; rfl)
      have c1 := hc (k * 2 + 1) (.int .i64 n) (by rw [rcells_get1, hp]; rfl)
      rw [← Nat.add_assoc] at c1
      have hrd := hrel.rd
      rw [drop_of_get hp, rd] at hrd
      have HB := Lib.hid hrel.isb
      have hnw := HWF.out (c, n) (List.mem_of_getElem? hp)
      unfold Wf at hnw
      simp only at hnw
      by_cases h1 : 1 ≤ n ∧ n ≤ 1000
      · rw [if_neg (by omega)] at hrd
        have hin : decide (1 ≤ n ∧ n ≤ 1000) = true := decide_eq_true h1
        obtain ⟨m, rfl⟩ := Int.eq_ofNat_of_zero_le (show 0 ≤ n by omega)
        rw [Int.toNat_natCast] at hrd
        have hm1 : 1 ≤ m ∧ m ≤ 1000 := by omega
        rcases hrel.prev with ⟨rfl, hpv⟩ | ⟨j, ⟨d, n'⟩, rfl, hj, hpv⟩
        · rw [hpv, if_neg (by simp)] at hrd
          simp only [Nat.zero_mul, Nat.add_zero] at c0 c1
          have HRD := Lib.hid hrd
          have HP := Lib.hid hp
          clear hrd hrel hp hc hpv h1 hnw
          go_wp2_with (go_at_call 29; refine (within_any _ _ _ _).mono ?_; rintro e w' ⟨rfl, rfl⟩)
          go_quiet (fail)
          go_wp2
          have hw1 : Below wr.heap.size wr ((wr.alloc (.cells #[.int .u8 (c.toNat : Int), .int .i64 (m : Int)] 64)).drewN nq) := bdrew (bnew _ _) _
          have k0 : ((wr.alloc (.cells #[.int .u8 (c.toNat : Int), .int .i64 (m : Int)] 64)).drewN nq).cell? ⟨wr.heap.size, 0, none⟩ = some (.int .u8 (c.toNat : Int)) := by simp
          have k1 : ((wr.alloc (.cells #[.int .u8 (c.toNat : Int), .int .i64 (m : Int)] 64)).drewN nq).cell? ⟨wr.heap.size, 1, none⟩ = some (.int .i64 (m : Int)) := by simp
          have hB1 := Lib.hid (isB_below HB.out hw1)
          have hs1 := hw1.size
          have hs2 : wr.heap.size < ((wr.alloc (.cells #[.int .u8 (c.toNat : Int), .int .i64 (m : Int)] 64)).drewN nq).heap.size := by simp
          generalize (wr.alloc (.cells #[.int .u8 (c.toNat : Int), .int .i64 (m : Int)] 64)).drewN nq = w1 at *
          clear c0 c1
          have wr2 : IntKind.i64.wrap ((out.length : Int) + (m : Int)) = (out.length : Int) + (m : Int) := IntWalk.i64_in _ (by omega)
          go_region_held3 (fun w' => w'.cell? ⟨wr.heap.size, 1, none⟩ = some (.int .i64 (m : Int))) (exact k1) ((go_at_call 34; refine (len_any _ _ out _ (by exact hB1.out)).mono ?_; rintro e w' ⟨rfl, rfl⟩))
          have hcv := byte_string c w1.heap.size
          have hbq : Below w.heap.size w w1 := bnext hbel hw1
          by_cases hov : 1000 < (out.length : Int) + (m : Int)
          · have e : r = ([], 4) := by rw [HRR.out, HRD.out, if_pos hov]
            go_wp2
            go_ret2
            rw [e]
            exact ⟨rfl, Below.drew hbq⟩
          · have hrd2 : rd none [] l = rd (some c) (out ++ List.replicate m c) (l.drop (0 + 1)) := by rw [HRD.out, if_neg hov]
            have HR2 := Lib.hid hrd2
            clear hrd2 HRD
            go_wp2_with (first
              | (go_at_call 36; refine (repeat_any c m _ hm1.2).mono ?_; rintro e w3 ⟨rfl, hb3⟩; have hb13 : Below w1.heap.size w1 w3 := bnext ((Below.drew (Below.refl _ w1)).alloc (Nat.le_refl _) _) hb3; have hs3 := hb13.size)
              | (go_at_call 35; refine (write_any w.heap.size w.heap.size out (List.replicate m c) _ (isB_below hB1.out hb13) (by rw [List.length_replicate]; omega) (by omega)).mono ?_; rintro e w4 ⟨rfl, h4, hb4⟩))
            go_roundw
            case rel => exact ⟨0 + 1, some c, out ++ List.replicate m c, by omega, by go_num, h4, (bnext hbq hb13).trans hb4, by rw [List.length_append, List.length_replicate]; omega, HR2.out, .inr ⟨0, (c, m), rfl, HP.out, rfl⟩⟩
            case measure => simp [intOf]; omega
        · have e0 := hc (j * 2) (.int .u8 (d.toNat : Int)) (by rw [rcells_get0, hj]; rfl)
          have wr1 : IntKind.i64.wrap (j : Int) = (j : Int) := IntWalk.i64_in _ (by omega)
          have g1 : (j : Int) < (l.length : Int) := by omega
          have g2 : (0 : Int) ≤ (j : Int) := by omega
          by_cases hdc : d = c
          · rw [hpv, if_pos (by rw [hdc])] at hrd
            have heq : ((d.toNat : Int) == (c.toNat : Int)) = true := by rw [hdc]; simp
            have e : r = ([], 6) := by rw [HRR.out, hrd]
            clear hrd hrel hp hc hpv h1 hnw hdc hj
            go_wp2_with (go_at_call 29; refine (within_any _ _ _ _).mono ?_; rintro e w' ⟨rfl, rfl⟩)
            go_quiet (fail)
            go_wp2
            go_ret2
            rw [e]
            exact ⟨rfl, bdrew (hbel.alloc hsz _) _⟩
          · rw [hpv, if_neg (fun e => hdc (Option.some.inj e))] at hrd
            have heq : ((d.toNat : Int) == (c.toNat : Int)) = false := by
              have : ¬ d.toNat = c.toNat := fun h => hdc (UInt8.toNat_inj.1 h)
              rw [beq_eq_false_iff_ne]; omega
            have HRD := Lib.hid hrd
            have HP := Lib.hid hp
            clear hrd hrel hp hc hpv h1 hnw hdc hj
            go_wp2_with (go_at_call 29; refine (within_any _ _ _ _).mono ?_; rintro e w' ⟨rfl, rfl⟩)
            go_quiet (fail)
            clear e0
            go_wp2
            have hw1 : Below wr.heap.size wr ((wr.alloc (.cells #[.int .u8 (c.toNat : Int), .int .i64 (m : Int)] 64)).drewN nq) := bdrew (bnew _ _) _
            have k0 : ((wr.alloc (.cells #[.int .u8 (c.toNat : Int), .int .i64 (m : Int)] 64)).drewN nq).cell? ⟨wr.heap.size, 0, none⟩ = some (.int .u8 (c.toNat : Int)) := by simp
            have k1 : ((wr.alloc (.cells #[.int .u8 (c.toNat : Int), .int .i64 (m : Int)] 64)).drewN nq).cell? ⟨wr.heap.size, 1, none⟩ = some (.int .i64 (m : Int)) := by simp
            have hB1 := Lib.hid (isB_below HB.out hw1)
            have hs1 := hw1.size
            have hs2 : wr.heap.size < ((wr.alloc (.cells #[.int .u8 (c.toNat : Int), .int .i64 (m : Int)] 64)).drewN nq).heap.size := by simp
            generalize (wr.alloc (.cells #[.int .u8 (c.toNat : Int), .int .i64 (m : Int)] 64)).drewN nq = w1 at *
            clear c0 c1
            have wr2 : IntKind.i64.wrap ((out.length : Int) + (m : Int)) = (out.length : Int) + (m : Int) := IntWalk.i64_in _ (by omega)
            go_region_held3 (fun w' => w'.cell? ⟨wr.heap.size, 1, none⟩ = some (.int .i64 (m : Int))) (exact k1) ((go_at_call 34; refine (len_any _ _ out _ (by exact hB1.out)).mono ?_; rintro e w' ⟨rfl, rfl⟩))
            have hcv := byte_string c w1.heap.size
            have hbq : Below w.heap.size w w1 := bnext hbel hw1
            by_cases hov : 1000 < (out.length : Int) + (m : Int)
            · have e : r = ([], 4) := by rw [HRR.out, HRD.out, if_pos hov]
              go_wp2
              go_ret2
              rw [e]
              exact ⟨rfl, Below.drew hbq⟩
            · have hrd2 : rd none [] l = rd (some c) (out ++ List.replicate m c) (l.drop ((j + 1) + 1)) := by rw [HRD.out, if_neg hov]
              have HR2 := Lib.hid hrd2
              clear hrd2 HRD
              go_wp2_with (first
                | (go_at_call 36; refine (repeat_any c m _ hm1.2).mono ?_; rintro e w3 ⟨rfl, hb3⟩; have hb13 : Below w1.heap.size w1 w3 := bnext ((Below.drew (Below.refl _ w1)).alloc (Nat.le_refl _) _) hb3; have hs3 := hb13.size)
                | (go_at_call 35; refine (write_any w.heap.size w.heap.size out (List.replicate m c) _ (isB_below hB1.out hb13) (by rw [List.length_replicate]; omega) (by omega)).mono ?_; rintro e w4 ⟨rfl, h4, hb4⟩))
              go_roundw
              case rel => exact ⟨(j + 1) + 1, some c, out ++ List.replicate m c, by omega, by go_num, h4, (bnext hbq hb13).trans hb4, by rw [List.length_append, List.length_replicate]; omega, HR2.out, .inr ⟨(j + 1), (c, m), rfl, HP.out, rfl⟩⟩
              case measure => simp [intOf]; omega
      · rw [if_pos h1] at hrd
        have hin : decide (1 ≤ n ∧ n ≤ 1000) = false := decide_eq_false h1
        have e : r = ([], 1) := by rw [HRR.out, hrd]
        have hz : k * 2 = k * 2 := rfl
        clear hrd hrel hp hc h1
        go_wp2_with (go_at_call 29; refine (within_any _ _ _ _).mono ?_; rintro e w' ⟨rfl, rfl⟩)
        go_ret2
        rw [e]
        exact ⟨rfl, hbel.alloc hsz _⟩
    · obtain rfl : k = l.length := by omega
      have hrd := hrel.rd
      rw [List.drop_length, rd] at hrd
      have e : r = (out, 0) := by rw [HRR.out, hrd]
      have HB := Lib.hid hrel.isb
      clear hrel hrd
      go_wp2_with (go_at_call 27; refine (string_any _ _ out _ HB.out hsz).mono ?_; rintro e w' ⟨rfl, hb⟩)
      go_ret2
      rw [e]
      exact ⟨rfl, hbel.trans hb⟩
end Go.Proofs.Ytfjjjkfldekooaa.Rn
