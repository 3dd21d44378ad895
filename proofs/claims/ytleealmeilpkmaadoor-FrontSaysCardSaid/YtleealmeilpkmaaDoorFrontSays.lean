/-
  The walk of the law FrontSays: for every text and every list the functions of package front answer what the reference answers; no condition.
-/
import Derived.Test.YtleealmeilpkmaaDoorAs
import Derived.Test.YtleealmeilpkmaaDoorFtRef2
import Derived.Test.YtleealmeilpkmaaDoorRefAll
import Derived.Test.YtleealmeilpkmaaDoorInts
namespace Go.Proofs.YtleealmeilpkmaaDoor.frontSays
open Go.RowKit Ft
set_option linter.unusedVariables false

theorem law_long (s : ByteArray) (m : Int) (w : World) (hs : s.size ≤ 140737488351232) : Calls Tryd.prog 4 #[.string s, .int .i64 m] w fun e w' => e = .returned (.int .i64 (if m < (s.size : Int) then 4 else 0)) ∧ w = w' := by
  by_cases h : m < (s.size : Int)
  all_goals
    go_enter Tryd.func4, Tryd.ntmps4
    go_wp2
    go_ret
    exact ⟨rfl, rfl⟩
theorem nums_ints (l : List Nat) : nums l = ints (l.map fun (n : Nat) => (n : Int)) := by simp [nums, ints]
theorem nums_same (A B : Option Addr) (c d : Nat) (l : List Nat) (n : Nat) (hn : l.length = n) (w : World) (hl : Reads w A n 1 (nums l)) (hm : Reads w B n 1 (nums l)) (h1 : n ≤ maxLen) :
    Calls Tryd.prog 8 #[.slice A n c, .slice B n d] w fun e w' => e = .returned (.bool true) ∧ Below w.heap.size w w' := by
  rw [nums_ints] at hl hm
  have hlen : (l.map fun (n : Nat) => (n : Int)).length = n := by rw [List.length_map, hn]
  have := ints_any A B c d (l.map fun (n : Nat) => (n : Int)) (l.map fun (n : Nat) => (n : Int)) w (by rw [hlen]; exact hl) (by rw [hlen]; exact hm) (by rw [hlen]; exact h1)
  rw [hlen] at this
  simpa using this
theorem ints_nil (w : World) : Calls Tryd.prog 8 #[.slice none 0 0, .slice none 0 0] w fun e w' => e = .returned (.bool true) ∧ Below w.heap.size w w' := by
  have := ints_any none none 0 0 [] [] w (Reads.nil _ _) (Reads.nil _ _) (by decide)
  simpa using this

theorem walk (w : World) (s : ByteArray) (s0 : s.size ≤ 140737488351232) (A : Option Addr) (cap : Nat) (l : List Int) (hs : l.length * 8 ≤ 140737488351232) (hrg : ∀ n ∈ l, -9223372036854775808 ≤ n ∧ n ≤ 9223372036854775807) (hi : Reads w A l.length 1 (l.map (Value.int .i64)) ∧ l.length ≤ cap) (hg : As.Laid w) :
    Calls Tryd.prog 3 #[.string s, .slice A l.length cap] w fun e w' => e = .returned (.bool true) ∧ Below w.heap.size w w' := by
  obtain ⟨hr, hcap⟩ := hi
  have hm : l.length ≤ maxLen := by unfold maxLen; omega
  have hmm : l.length ≤ 17592186043904 := by omega
  have HLONG := Lib.hid (fun w' => law_long s 1000 w' s0)
  have HG := Lib.hid (fun (w' : World) (hb : Below w.heap.size w w') => hg.below hb)
  have HALL := Lib.hid (fun (w' : World) (hb : Below w.heap.size w w') => refall_any A cap l 0 255 w' (hr.below hb) hm)
  have hB := fun (w' : World) (hb : Below w.heap.size w w') => back_any A cap l w' (hr.below hb) hm
  have hU := fun (w' : World) (hb : Below w.heap.size w w') (h1 : l.length ≤ 1000) (h2 : ∀ n ∈ l, okB n = true) => refunfront_any A cap l w' (hr.below hb) h1 h2
  have hok : l.all (inn 0 255) = true ↔ ∀ n ∈ l, okB n = true := by rw [List.all_eq_true]; rfl
  have HOK := Lib.hid hok
  have HB := Lib.hid hB
  have HU := Lib.hid hU
  clear hr hg hok hrg hB hU
  by_cases hs1 : (1000 : Int) < (s.size : Int)
  case' pos =>
    have HT := Lib.hid (fun w' => there_no s w' (by omega))
    go_enter Tryd.func3, Tryd.ntmps3
    go_wp2_with fail
    refine (HLONG.out _).mono ?_
    rintro e w0 ⟨rfl, rfl⟩
    rw [if_pos (by omega)]
    go_wp2_with fail
    refine (HT.out _).mono ?_
    rintro e w1 ⟨rfl, hb1⟩
    go_wp2_with fail
    refine (As.error_no 4 (by decide) _ (HG.out _ hb1)).mono ?_
    rintro e w2 ⟨rfl, hb⟩
    have hb2 := bnext hb1 hb
    clear hb
    go_wp2_with fail
    refine (ints_nil _).mono ?_
    rintro e w5 ⟨rfl, hb⟩
    have hb5 := bnext hb2 hb
    clear hb
  case' neg =>
    have HT := Lib.hid (fun w' => there_ok s w' (by omega))
    have HF := Lib.hid (fun w' => reffront_any s w' (by omega))
    have hlen : (there allB s.data.toList).length = s.size := by rw [there_length]; simp
    go_enter Tryd.func3, Tryd.ntmps3
    go_wp2_with fail
    refine (HLONG.out _).mono ?_
    rintro e w0 ⟨rfl, rfl⟩
    rw [if_neg (by omega)]
    go_wp2_with fail
    refine (HF.out _).mono ?_
    rintro e w1 ⟨A1, c1, rfl, ho1, hb1⟩
    go_wp2_with fail
    refine (HT.out _).mono ?_
    rintro e w2 ⟨A2, c2, rfl, ho2, hb⟩
    have hr1 := (Reads.of_own ho1).below hb
    have hr2 := Reads.of_own ho2
    have hb2 := bnext hb1 hb
    clear hb ho1 ho2 hb1
    go_wp2_with fail
    refine (As.error_ok _).mono ?_
    rintro e w3 ⟨rfl, hb⟩
    have hr3 := hr1.below hb
    have hr4 := hr2.below hb
    have hb3 := bnext hb2 hb
    clear hb hr1 hr2 hb2
    go_wp2_with fail
    refine (nums_same _ _ _ _ _ _ hlen _ hr4 hr3 (by unfold maxLen; omega)).mono ?_
    rintro e w5 ⟨rfl, hb⟩
    have hb5 := bnext hb3 hb
    clear hb hr3 hr4 hb3 hlen
  all_goals
    have HBB := Lib.hid (HB.out _ hb5)
    by_cases hl1 : (1000 : Int) < (l.length : Int)
    · have hbp : backP l = ([], 4) := by unfold backP; rw [if_pos (by omega)]
      rw [hbp] at HBB
      go_wp2_with fail
      refine HBB.out.mono ?_
      rintro e w6 ⟨rfl, hb⟩
      have hb6 := bnext hb5 hb
      clear hb
      go_wp2_with fail
      refine (As.error_no 4 (by decide) _ (HG.out _ hb6)).mono ?_
      rintro e w7 ⟨rfl, hb⟩
      go_wp2
      go_ret
      exact ⟨rfl, bnext hb6 hb⟩
    · cases hal : l.all (inn 0 255)
      · have hn : ¬ ∀ n ∈ l, okB n = true := fun h => by rw [HOK.out.2 h] at hal; cases hal
        have hbp : backP l = ([], 1) := by unfold backP; rw [if_neg (by omega), if_neg hn]
        have HA := Lib.hid (HALL.out _ hb5)
        rw [hal] at HA
        rw [hbp] at HBB
        go_wp2_with fail
        refine HA.out.mono ?_
        rintro e w6 ⟨rfl, rfl⟩
        go_wp2_with fail
        refine HBB.out.mono ?_
        rintro e w6 ⟨rfl, hb⟩
        have hb6 := bnext hb5 hb
        clear hb
        go_wp2_with fail
        refine (As.error_no 1 (by decide) _ (HG.out _ hb6)).mono ?_
        rintro e w7 ⟨rfl, hb⟩
        go_wp2
        go_ret
        exact ⟨rfl, bnext hb6 hb⟩
      · have hn := HOK.out.1 hal
        have hbp : backP l = (back allB (l.map Int.toNat), 0) := by unfold backP; rw [if_neg (by omega), if_pos hn]
        have HA := Lib.hid (HALL.out _ hb5)
        have HUU := Lib.hid (HU.out _ hb5 (by omega) hn)
        rw [hal] at HA
        clear hn
        go_wp2_with fail
        refine HA.out.mono ?_
        rintro e w6 ⟨rfl, rfl⟩
        go_wp2_with fail
        refine HUU.out.mono ?_
        rintro e w6 ⟨rfl, hb⟩
        have HB2 := Lib.hid (HB.out _ (bnext hb5 hb))
        rw [hbp] at HB2
        have hb6 := bnext hb5 hb
        clear hb
        go_wp2_with fail
        refine HB2.out.mono ?_
        rintro e w7 ⟨rfl, hb⟩
        have hb7 := bnext hb6 hb
        clear hb
        go_wp2_with fail
        refine (As.error_ok _).mono ?_
        rintro e w8 ⟨rfl, hb⟩
        go_wp2
        go_ret
        exact ⟨rfl, bnext hb7 hb⟩
end Go.Proofs.YtleealmeilpkmaaDoor.frontSays
