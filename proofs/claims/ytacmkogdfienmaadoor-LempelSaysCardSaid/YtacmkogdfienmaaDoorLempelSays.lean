/-
  The walk of the law LempelSays: for every text and every pieces the functions of package lempel answer what the reference answers; no condition.
-/
import Derived.Test.YtacmkogdfienmaaDoorAs
import Derived.Test.YtacmkogdfienmaaDoorLpRef2
import Derived.Test.YtacmkogdfienmaaDoorLpSame
namespace Go.Proofs.YtacmkogdfienmaaDoor.lempelSays
open Go.RowKit Lp
set_option linter.unusedVariables false

theorem law_long (s : ByteArray) (m : Int) (w : World) (hs : s.size ≤ 140737488351232) : Calls Tryd.prog 4 #[.string s, .int .i64 m] w fun e w' => e = .returned (.int .i64 (if m < (s.size : Int) then 4 else 0)) ∧ w = w' := by
  by_cases h : m < (s.size : Int)
  all_goals
    go_enter Tryd.func4, Tryd.ntmps4
    go_wp2
    go_ret
    exact ⟨rfl, rfl⟩
theorem wf_ofPc (s : List UInt8) (h : s.length ≤ 1000) : ∀ p ∈ (pieces s).map ofPc, Wf p := by
  intro p hp
  obtain ⟨q, hq, rfl⟩ := List.mem_map.1 hp
  obtain ⟨i, hi, he⟩ := List.getElem_of_mem hq
  have h1 := pieces_valid s i q (by rw [List.getElem?_eq_getElem hi, he])
  have h2 := pieces_length s
  constructor <;> simp only [ofPc] <;> omega
theorem reads_own {w : World} {B : Nat} {A : Option Addr} {cap : Nat} {l : List Pc} (h : w.ownsRow B 39 2 (.slice A l.length cap) l.length (cells l)) : Reads w A l.length 2 (icells (l.map ofPc)) := by
  rw [icells_ofPc]; exact Reads.of_own h
theorem same_eq (A B : Option Addr) (c d n : Nat) (l : List (Int × UInt8)) (hn : l.length = n) (w : World) (hl : Reads w A n 2 (icells l)) (hm : Reads w B n 2 (icells l)) (h1 : n ≤ maxLen) (w1 : ∀ p ∈ l, Wf p) :
    Calls Tryd.prog 8 #[.slice A n c, .slice B n d] w fun e w' => e = .returned (.bool true) ∧ Below w.heap.size w w' := by
  subst hn
  have := same_any A B c d l l w hl hm h1 w1 w1
  simpa using this
theorem errV_eq (n : Int) : Lp.errV n = As.errV n := rfl
theorem error_self (n : Int) (w : World) (hg : As.Laid w) : Calls Tryd.prog 7 #[Lp.errV n, .int .i64 n] w fun e w' => e = .returned (.bool true) ∧ Below w.heap.size w w' := by
  have := As.error_any n n w hg
  rwa [beq_self_eq_true] at this
set_option maxHeartbeats 1000000 in
theorem walk (w : World) (s : ByteArray) (s0 : s.size ≤ 140737488351232) (A : Option Addr) (cap : Nat) (l : List (Int × UInt8)) (hs : l.length * 16 ≤ 140737488351232) (hwf : ∀ q ∈ l, Wf q) (hi : Reads w A l.length 2 (icells l) ∧ l.length ≤ cap) (hg : As.Laid w) :
    Calls Tryd.prog 3 #[.string s, .slice A l.length cap] w fun e w' => e = .returned (.bool true) ∧ Below w.heap.size w w' := by
  obtain ⟨hr, hcap⟩ := hi
  have hm : l.length ≤ maxLen := by unfold maxLen; omega
  have HLONG := Lib.hid (fun w' => law_long s 1000 w' s0)
  have HG := Lib.hid (fun (w' : World) (hb : Below w.heap.size w w') => hg.below hb)
  have hrd := fun (w' : World) (hb : Below w.heap.size w w') => read_any A cap l w' (hr.below hb) hm
  have hur := fun (w' : World) (hb : Below w.heap.size w w') => unpiece_any A cap l w' (hr.below hb) hm
  have her := fun (w' : World) (hb : Below w.heap.size w w') => error_self (readP l).2 w' (hg.below hb)
  generalize (readP l).2 = E at *
  generalize hX : Lp.errV E = X at *
  unfold strV at hrd hur
  generalize (readP l).1 = t at *
  have HRD := Lib.hid hrd; have HUR := Lib.hid hur; have HER := Lib.hid her
  clear hr hg hwf hrd hur her hX
  by_cases hs1 : (1000 : Int) < (s.size : Int)
  case' pos =>
    have HT := Lib.hid (fun w' => write_no s w' (by omega))
    go_enter Tryd.func3, Tryd.ntmps3
    go_wp2_with fail
    refine (HLONG.out _).mono ?_
    rintro e w0 ⟨rfl, rfl⟩
    rw [if_pos (by omega)]
    go_wp2_with fail
    refine (HT.out _).mono ?_
    rintro e w1 ⟨rfl, hb1⟩
    go_wp2_with fail
    refine (As.error_no 4 (by decide) _ (HG.out _ hb1)).mono ?_
    rintro e w2 ⟨rfl, hb⟩
    have hb2 := bnext hb1 hb
    clear hb
    go_wp2_with fail
    refine (same_eq _ _ _ _ 0 [] rfl _ (Reads.nil _ _) (Reads.nil _ _) (by decide) (by simp)).mono ?_
    rintro e w5 ⟨rfl, hb⟩
    have hb5 := bnext hb2 hb
    clear hb
  case' neg =>
    have hs2 : s.size ≤ 1000 := by omega
    have HT := Lib.hid (fun w' => write_ok s w' hs2)
    have HF := Lib.hid (fun w' => refpieces_any s w' hs2)
    have hlen := pieces_length s.data.toList
    have hwf1 := wf_ofPc s.data.toList (by simpa using hs2)
    have hll : s.data.toList.length = s.size := by simp
    rw [hll] at hlen
    generalize pieces s.data.toList = rs at *
    have HWF := Lib.hid hwf1
    clear hwf1 hll
    go_enter Tryd.func3, Tryd.ntmps3
    go_wp2_with fail
    refine (HLONG.out _).mono ?_
    rintro e w0 ⟨rfl, rfl⟩
    rw [if_neg (by omega)]
    go_wp2_with fail
    refine (HF.out _).mono ?_
    rintro e w1 ⟨A1, c1, rfl, ho1, hb1⟩
    go_wp2_with fail
    refine (HT.out _).mono ?_
    rintro e w2 ⟨A2, c2, rfl, ho2, hb⟩
    have hr1 := (reads_own ho1).below hb
    have hr2 := reads_own ho2
    have hb2 := bnext hb1 hb
    clear hb ho1 ho2 hb1
    go_wp2_with fail
    refine (As.error_ok _).mono ?_
    rintro e w3 ⟨rfl, hb⟩
    have hr3 := hr1.below hb
    have hr4 := hr2.below hb
    have hb3 := bnext hb2 hb
    clear hb hr1 hr2 hb2
    go_wp2_with fail
    refine (same_eq _ _ _ _ _ _ (List.length_map ..) _ hr4 hr3 (by unfold maxLen; omega) HWF.out).mono ?_
    rintro e w5 ⟨rfl, hb⟩
    have hb5 := bnext hb3 hb
    clear hb hr3 hr4 hb3 hlen
  all_goals
    go_wp2_with fail
    refine (HUR.out _ hb5).mono ?_
    rintro e w6 ⟨rfl, hb⟩
    have hb6 := bnext hb5 hb
    clear hb
    go_wp2_with fail
    refine (HRD.out _ hb6).mono ?_
    rintro e w7 ⟨rfl, hb⟩
    have hb7 := bnext hb6 hb
    clear hb
    go_wp2_with fail
    refine (HER.out _ hb7).mono ?_
    rintro e w8 ⟨rfl, hb⟩
    go_wp2
    go_ret
    exact ⟨rfl, bnext hb7 hb⟩
end Go.Proofs.YtacmkogdfienmaaDoor.lempelSays
