/-
  letterbecksame.Pieces of two slices of pieces.
-/
import Derived.Test.YtacmkogdfienmaaDoorLpRead
namespace Go.Proofs.YtacmkogdfienmaaDoor.Lp
open Go.RowKit

theorem icells_ofPc (l : List Pc) : icells (l.map ofPc) = cells l := by
  induction l with
  | nil => rfl
  | cons p l ih =>
    have h : icells ((p :: l).map ofPc) = .int .i64 (p.1 : Int) :: .int .u8 (p.2.toNat : Int) :: icells (l.map ofPc) := by simp [icells, ofPc]
    rw [h, ih]; simp [cells]
theorem reads_pieces {w : World} {B : Nat} {A : Option Addr} {cap : Nat} {l : List Pc} (h : w.ownsRow B 39 2 (.slice A l.length cap) l.length (cells l)) : Reads w A (l.map ofPc).length 2 (icells (l.map ofPc)) := by
  rw [icells_ofPc, List.length_map]; exact Reads.of_own h

theorem take_succ_eq {α : Type} {l m : List α} {k : Nat} {p q : α} (h : l.take k = m.take k) (hp : l[k]? = some p) (hq : m[k]? = some q) (e : p = q) : l.take (k + 1) = m.take (k + 1) := by
  rw [List.take_add_one, List.take_add_one, h, hp, hq, e]

/-- same.Pieces of two slices that can be read -/
theorem same_any (A B : Option Addr) (c d : Nat) (l m : List (Int × UInt8)) (w : World) (hl : Reads w A l.length 2 (icells l)) (hm : Reads w B m.length 2 (icells m)) (h1 : l.length ≤ maxLen) (w1 : ∀ p ∈ l, Wf p) (w2 : ∀ p ∈ m, Wf p) :
    Calls Tryd.prog 8 #[.slice A l.length c, .slice B m.length d] w fun e w' => e = .returned (.bool (decide (l = m))) ∧ Below w.heap.size w w' := by
  unfold maxLen at h1
  by_cases hlen : l.length = m.length
  · obtain ⟨n, hn⟩ : ∃ n, n = l.length := ⟨_, rfl⟩
    have e1 := Lib.hid hn.symm; have e2 := Lib.hid (hlen.symm.trans hn.symm)
    rw [e1.out] at hl h1
    rw [e2.out] at hm
    rw [e1.out, e2.out]
    clear hn hlen
    go_enter Tryd.func8, Tryd.ntmps8
    go_wp2
    go_loopw [5] (fun i wr => ∃ k : Nat, k ≤ n ∧ i = .int .i64 k ∧ Hid (l.take k = m.take k) ∧ Below w.heap.size w wr)
      (fun i _ => n - (intOf i).toNat)
    case atStart => exact ⟨0, Nat.zero_le _, rfl, Lib.hid (by simp), Below.refl _ _⟩
    case round =>
      obtain ⟨k, hk, rfl, HK, hbel⟩ := hrel
      by_cases hlt : k < n
      · obtain ⟨b, o, rfl, hb, hc⟩ := (hl.below hbel).2 (by omega)
        obtain ⟨b', o', rfl, hb', hc'⟩ := (hm.below hbel).2 (by omega)
        obtain ⟨⟨pb, pc⟩, hp⟩ : ∃ p, l[k]? = some p := ⟨_, List.getElem?_eq_getElem (by rw [e1.out]; exact hlt)⟩
        obtain ⟨⟨qb, qc⟩, hq⟩ : ∃ p, m[k]? = some p := ⟨_, List.getElem?_eq_getElem (by rw [e2.out]; exact hlt)⟩
        have c0 := hc (k * 2) (.int .i64 pb) (by rw [icells_get0, hp]; rfl)
        have c1 := hc (k * 2 + 1) (.int .u8 (pc.toNat : Int)) (by rw [icells_get1, hp]; rfl)
        have d0 := hc' (k * 2) (.int .i64 qb) (by rw [icells_get0, hq]; rfl)
        have d1 := hc' (k * 2 + 1) (.int .u8 (qc.toNat : Int)) (by rw [icells_get1, hq]; rfl)
        rw [← Nat.add_assoc] at c1 d1
        have hr := neq_pc (pb, pc) (qb, qc) (w1 _ (List.mem_of_getElem? hp)) (w2 _ (List.mem_of_getElem? hq))
        have HP := Lib.hid hp; have HQ := Lib.hid hq; clear hp hq hc hc'
        by_cases he : (pb, pc) = (qb, qc)
        · rw [decide_eq_true he, Bool.not_true] at hr
          have HE := Lib.hid he; clear he
          go_wp2
          go_quiet (fail)
          go_wp2
          go_roundw
          case rel => exact ⟨k + 1, by omega, by go_num, Lib.hid (take_succ_eq HK.out HP.out HQ.out HE.out), bdrew hbel _⟩
          case measure => simp [intOf]; omega
        · rw [decide_eq_false he, Bool.not_false] at hr
          have HE := Lib.hid he; clear he
          go_wp2
          go_quiet (fail)
          go_wp2
          go_ret
          refine ⟨ret_bool (decide_eq_false fun h => ?_).symm, bdrew hbel _⟩
          rw [h] at HP
          exact HE.out (Option.some.inj (HP.out.symm.trans HQ.out))
      · have hge : n ≤ k := by omega
        go_wp2
        go_ret
        refine ⟨?_, hbel⟩
        have := HK.out
        rw [List.take_of_length_le (by rw [e1.out]; omega), List.take_of_length_le (by rw [e2.out]; omega)] at this
        exact ret_bool (decide_eq_true this).symm
  · have hlen' : (l.length == m.length) = false := by simpa using hlen
    have hlen'' : (l.length != m.length) = true := by simpa using hlen
    have hne : l ≠ m := fun h => hlen (by rw [h])
    have HN := Lib.hid hne
    clear hlen hne
    go_enter Tryd.func8, Tryd.ntmps8
    go_wp2
    go_ret
    exact ⟨ret_bool (decide_eq_false HN.out).symm, Below.refl _ _⟩

end Go.Proofs.YtacmkogdfienmaaDoor.Lp
