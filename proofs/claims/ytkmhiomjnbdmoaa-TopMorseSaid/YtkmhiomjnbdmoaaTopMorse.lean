/-
  The walk of the law TopMorse.
-/
import Derived.Test.YtkmhiomjnbdmoaaMoWalk
import Derived.Test.YtkmhiomjnbdmoaaRtWalk
import Derived.Test.YtkmhiomjnbdmoaaRnWr
import Derived.Test.YtkmhiomjnbdmoaaLpRead
namespace Go.Proofs.Ytkmhiomjnbdmoaa.topMorse
open Go.RowKit Mo
set_option linter.unusedVariables false

theorem in_any (n lo hi : Int) (w : World) : Calls Try.prog 8 #[.int .i64 n, .int .i64 lo, .int .i64 hi] w fun e w' => e = .returned (.bool (decide (lo ≤ n ∧ n ≤ hi))) ∧ w = w' := by
  by_cases h1 : lo ≤ n <;> by_cases h2 : n ≤ hi
  all_goals
    go_enter Try.func8, Try.ntmps8
    go_wp2
    go_ret
    exact ⟨by simp [h1, h2], rfl⟩
theorem in_is (n lo hi : Int) (b : Bool) (h : decide (lo ≤ n ∧ n ≤ hi) = b) (w : World) : Calls Try.prog 8 #[.int .i64 n, .int .i64 lo, .int .i64 hi] w fun e w' => e = .returned (.bool b) ∧ w = w' := by
  subst h; exact in_any n lo hi w
theorem icells_ofPc (l : List Lp.Pc) : Lp.icells (l.map Lp.ofPc) = Lp.cells l := by
  induction l with
  | nil => rfl
  | cons p l ih =>
    have h : Lp.icells ((p :: l).map Lp.ofPc) = .int .i64 (p.1 : Int) :: .int .u8 (p.2.toNat : Int) :: Lp.icells (l.map Lp.ofPc) := by simp [Lp.icells, Lp.ofPc]
    rw [h, ih]; simp [Lp.cells]
theorem word_three (w : World) : Calls Try.prog 4 #[.int .i64 3] w fun e w' => e = .returned (.tuple #[.string ⟨#[48, 49, 49]⟩, .nilIface]) ∧ Below w.heap.size w w' := by
  have h := word_any 3 (by decide) w
  have e : (word 3).toArray = #[48, 49, 49] := by decide
  rw [e] at h
  exact h

set_option maxHeartbeats 4000000 in
set_option maxRecDepth 100000 in
theorem walk (w : World) (n : Int) (n0 : -9223372036854775808 ≤ n ∧ n ≤ 9223372036854775807) (i : Int) (i0 : -9223372036854775808 ≤ i ∧ i ≤ 9223372036854775807) (j : Int) (j0 : -9223372036854775808 ≤ j ∧ j ≤ 9223372036854775807) :
    Calls Try.prog 3 #[.int .i64 n, .int .i64 i, .int .i64 j] w fun e w' => e = .returned (.bool true) ∧ Below w.heap.size w w' := by
  by_cases hn : 0 ≤ n ∧ n ≤ 200
  · obtain ⟨m, rfl⟩ := Int.eq_ofNat_of_zero_le hn.1
    have hm : m ≤ 200 := by omega
    obtain ⟨s, hs⟩ : ∃ s : ByteArray, s = ⟨(word m).toArray⟩ := ⟨_, rfl⟩
    have hsd : s.data.toList = word m := by rw [hs]
    have hsz : s.size = m := by rw [hs]; show (word m).toArray.size = m; simp [word_length]
    have HW := Lib.hid (fun w => word_any m hm w)
    rw [← hs] at HW
    have HRW := Lib.hid (fun w => Rn.write_ok s w (by rw [hsz]; omega))
    have HLW := Lib.hid (fun w => Lp.write_ok s w (by rw [hsz]; omega))
    unfold Rn.WRet at HRW
    have hlen := Lp.pieces_length s.data.toList
    have hL : s.data.toList.length = s.size := by simp
    rw [hL] at hlen
    have hread : ∀ (w1 : World) (A : Option Addr) (cap : Nat), Reads w1 A (Lp.pieces s.data.toList).length 2 (Lp.cells (Lp.pieces s.data.toList)) →
        Calls Try.prog 7 #[.slice A (Lp.pieces s.data.toList).length cap] w1 fun e w' => e = .returned (.tuple #[.string s, .nilIface]) ∧ Below w1.heap.size w1 w' := by
      intro w1 A cap h
      have := Lp.read_any A cap ((Lp.pieces s.data.toList).map Lp.ofPc) w1 (by rw [icells_ofPc, List.length_map]; exact h) (by rw [List.length_map]; unfold maxLen; omega)
      rw [Lp.read_pieces _ (by rw [hL]; omega), List.length_map] at this
      simpa [Lp.strV, Lp.errV] using this
    have HRD := Lib.hid hread
    have h2 := runs_two hm
    rw [← hsd] at h2
    have hrl := Rn.runsOf_length_le s.data.toList
    rw [hL] at hrl
    have HSZ := Lib.hid hsz
    have HSD := Lib.hid hsd
    generalize Rn.runsOf s.data.toList = rs at *
    generalize (Lp.pieces s.data.toList).length = pn at *
    generalize Lp.cells (Lp.pieces s.data.toList) = pcs at *
    have H2 := Lib.hid h2
    have hs200 : s.size ≤ 200 := by omega
    clear n0 hn hread hsz hsd h2 hs hL
    go_enter Try.func3, Try.ntmps3
    go_wp2_with fail
    refine (HW.out _).mono ?_
    rintro e w1 ⟨rfl, hb1⟩
    go_wp2_with fail
    refine (word_three _).mono ?_
    rintro e w2 ⟨rfl, hb⟩
    have hb2 := bnext hb1 hb
    clear hb
    go_wp2_with fail
    refine (HRW.out _).mono ?_
    rintro e w3 ⟨A1, c1, rfl, ho3, hb⟩
    have hb3 := bnext hb2 hb
    clear hb
    go_wp2_with fail
    refine (HLW.out _).mono ?_
    rintro e w4 ⟨A2, c2, rfl, ho4, hb⟩
    have hb4 := bnext hb3 hb
    have hr3 := (Reads.of_own ho3).below hb
    have hr4 := Reads.of_own ho4
    clear hb ho3 ho4 hb1 hb2 hb3
    go_wp2
    go_loop [15] (fun kv => ∃ k : Nat, k ≤ rs.length ∧ kv = .int .i64 (k : Int)) (fun k => rs.length - (intOf k).toNat)
    case atStart => exact ⟨0, Nat.zero_le _, rfl⟩
    case round =>
      obtain ⟨k, hk, rfl⟩ := hrel
      by_cases hlt : k < rs.length
      · obtain ⟨b, o, rfl, hb, hc⟩ := hr3.2 (by omega)
        obtain ⟨p, hp⟩ : ∃ p, rs[k]? = some p := ⟨_, List.getElem?_eq_getElem hlt⟩
        have hp2 : ((p.2 : Nat) : Int) ≤ 2 := by have := H2.out p (List.mem_of_getElem? hp); omega
        have d1 := hc (k * 2 + 1) (.int .i64 (p.2 : Int)) (by rw [Rn.rcells_get1]; simp [Rn.ofN, hp])
        rw [← Nat.add_assoc] at d1
        have kk : (k : Int) < (rs.length : Int) := by omega
        clear hc hp
        go_wp2
        exact ⟨⟨k + 1, by omega, by go_num⟩, by simp [intOf]; omega⟩
      · obtain rfl : k = rs.length := by omega
        clear H2 HRW HLW HW
        have wr0 : IntKind.i64.wrap ((s.size : Int) - 1) = (s.size : Int) - 1 := IntWalk.i64_in _ (by omega)
        go_wp2_with fail
        refine (HRD.out _ _ _ hr4).mono ?_
        rintro e w5 ⟨rfl, hb⟩
        have hb5 := bnext hb4 hb
        clear hb hr3 hr4 hb4 HRD
        by_cases h1 : (0 : Int) ≤ i ∧ i ≤ (s.size : Int) - 1
        · have wr1 : IntKind.i64.wrap (i + 1) = i + 1 := IntWalk.i64_in _ (by omega)
          by_cases h2 : i + 1 ≤ j ∧ j ≤ (s.size : Int)
          · have H1 := Lib.hid (in_is i 0 ((s.size : Int) - 1) true (decide_eq_true h1))
            have H2 := Lib.hid (in_is j (i + 1) (s.size : Int) true (decide_eq_true h2))
            have wr2 : IntKind.i64.wrap (j - i) = j - i := IntWalk.i64_in _ (by omega)
            by_cases h3 : j - i > 24
            · have h3' : (24 : Int) < j - i := h3
              clear h1 h2 h3
              go_wp2_with fail
              refine (H1.out _).mono ?_
              rintro e w6 ⟨rfl, rfl⟩
              go_wp2_with fail
              refine (H2.out _).mono ?_
              rintro e w6 ⟨rfl, rfl⟩
              go_wp2
              go_ret
              exact ⟨rfl, hb5⟩
            · obtain ⟨I, rfl⟩ := Int.eq_ofNat_of_zero_le h1.1
              obtain ⟨J, rfl⟩ := Int.eq_ofNat_of_zero_le (show 0 ≤ j by omega)
              have hIJ : I < J := by omega
              have hJs : J ≤ s.size := by omega
              have hd24 : J - I ≤ 24 := by omega
              have hesz : (s.extract I J).size = J - I := by rw [ByteArray.size_extract]; omega
              have hed : (s.extract I J).data.toList = ((word m).drop I).take (J - I) := by rw [Lib.extract_data, HSD.out]
              have HR := Lib.hid (fun w => root_any (s.extract I J) w (by omega) (by omega))
              have h3' : ¬ (24 : Int) < (J : Int) - (I : Int) := by omega
              have b1 : (I : Int) ≤ (J : Int) := by omega
              have b2 : (J : Int) ≤ (s.size : Int) := by omega
              have HSM := HSZ.out
              have HES := Lib.hid hesz; have HED := Lib.hid hed
              have HJM := Lib.hid (show J ≤ m by omega)
              have HIJ := Lib.hid hIJ; have HD := Lib.hid hd24
              clear h1 h2 h3 hesz hed hIJ hJs hd24 HSM
              go_wp2_with fail
              refine (H1.out _).mono ?_
              rintro e w6 ⟨rfl, rfl⟩
              go_wp2_with fail
              refine (H2.out _).mono ?_
              rintro e w6 ⟨rfl, rfl⟩
              go_wp2_with fail
              refine (HR.out _).mono ?_
              rintro e w7 ⟨k, rfl, hroot, hb⟩
              have hb7 := bnext hb5 hb
              clear hb hb5
              rw [HES.out, HED.out] at hroot
              have hk1 := hroot.1
              have hk2 := hroot.2.1
              have hlt3 : (J - I) / k < 3 := by
                rcases hroot.2.2 with rfl | ⟨d, hd, rfl, hm0⟩
                · rw [Nat.div_self (by omega)]; decide
                · exact root_lt HJM.out hm HIJ.out HD.out hd hm0
              have hdv : ((J : Int) - (I : Int)).tdiv (k : Int) = (((J - I) / k : Nat) : Int) := by
                rw [show (J : Int) - (I : Int) = ((J - I : Nat) : Int) by have := HIJ.out; omega, Int.ofNat_tdiv]
              have hq64 : IntKind.i64.wrap (((J - I : Nat) : Int) / (k : Int)) < 3 := by
                rw [← Int.natCast_ediv]
                generalize (J - I) / k = q at hlt3
                rw [IntWalk.i64_in _ (by omega)]
                omega
              have HQ := Lib.hid hq64
              clear hq64
              have hk0 : ¬ (k : Int) = 0 := by omega
              have hk00 : ¬ k = 0 := by omega
              have H3 := Lib.hid (in_is (k : Int) 1 ((J : Int) - (I : Int)) true (decide_eq_true (by have := HIJ.out; omega)))
              clear hroot hk1 hk2 hlt3
              go_wp2_with fail
              refine (H3.out _).mono ?_
              rintro e w8 ⟨rfl, rfl⟩
              go_wp2
              go_ret
              exact ⟨ret_bool (decide_eq_true (by rw [← IntWalk.i64_left]; exact HQ.out)), hb7⟩
          · have H1 := Lib.hid (in_is i 0 ((s.size : Int) - 1) true (decide_eq_true h1))
            have H2 := Lib.hid (in_is j (i + 1) (s.size : Int) false (decide_eq_false h2))
            clear h1 h2
            go_wp2_with fail
            refine (H1.out _).mono ?_
            rintro e w6 ⟨rfl, rfl⟩
            go_wp2_with fail
            refine (H2.out _).mono ?_
            rintro e w6 ⟨rfl, rfl⟩
            go_wp2
            go_ret
            exact ⟨rfl, hb5⟩
        · have H1 := Lib.hid (in_is i 0 ((s.size : Int) - 1) false (decide_eq_false h1))
          clear h1
          go_wp2_with fail
          refine (H1.out _).mono ?_
          rintro e w6 ⟨rfl, rfl⟩
          go_wp2
          go_ret
          exact ⟨rfl, hb5⟩
  · go_enter Try.func3, Try.ntmps3
    go_wp2_with fail
    refine (word_no n hn _).mono ?_
    rintro e w1 ⟨rfl, hb1⟩
    go_wp2_with fail
    refine (word_three _).mono ?_
    rintro e w2 ⟨rfl, hb⟩
    go_wp2
    go_ret
    exact ⟨rfl, bnext hb1 hb⟩
end Go.Proofs.Ytkmhiomjnbdmoaa.topMorse
