/-
  The walk of the law KraftCodes, for all lists; no condition.
-/
import Derived.Test.YtnaoonegeboflaaDoorKcPlain
import Derived.Test.YtnaoonegeboflaaDoorKfFact
import Derived.Test.YtnaoonegeboflaaDoorAs
import Derived.Test.YtnaoonegeboflaaDoorBeg
namespace Go.Proofs.YtnaoonegeboflaaDoor.kraftCodes
open Go.RowKit Kf
set_option linter.unusedVariables false
set_option linter.unusedSimpArgs false

theorem index_at2 (s : ByteArray) (K : Nat) (z : UInt8) (hz : (bs s)[K]? = some z) (w : World) : (Instr.index 9 (.string s) (.int .i64 (K : Int))).run Tryd.prog w = .ok (.int .u8 (z.toNat : Int)) w := by
  obtain ⟨h, e⟩ := List.getElem?_eq_some_iff.1 hz
  rw [bs_length] at h
  rw [run_index_string w _ s _ _ Tryd.underlying9, dif_pos ⟨by omega, by omega⟩]
  subst e
  simp [bs]
  rfl

theorem begins_same (s t : ByteArray) (w : World) (b : Bool) (h : (bs t).isPrefixOf (bs s) = b) (hs : s.size ≤ 1000) (ht : t.size ≤ 1000) :
    Calls Tryd.prog 9 #[.string s, .string t] w fun e w' => e = .returned (.bool b) ∧ w' = w :=
  h ▸ (begins_any s t w (by unfold maxLen; omega) (by unfold maxLen; omega)).mono fun e w' ⟨h1, h2⟩ => ⟨h1, h2.symm⟩
set_option maxHeartbeats 1000000 in
set_option maxRecDepth 100000 in
theorem walk_ok (w : World) (A : Option Addr) (c : Nat) (l : List Int) (hr : Reads w A l.length 1 (ints l)) (h : ckL l = 0) (h4 : roomOf l ≤ 4096) :
    Calls Tryd.prog 3 #[.slice A l.length c] w fun e w' => e = .returned (.bool true) ∧ Below w.heap.size w w' := by
  obtain ⟨hl, hin⟩ := ckL_ok h
  have f1 := fun w' hr' => kroom_ok A c l w' hr' h
  have f2 := fun w' hr' => codes_ok A c l w' hr' h h4
  have hro2 : ¬ (4096 : Int) < ((roomOf l : Nat) : Int) := by omega
  have HF := Lib.hid (codes_free hin (by rw [ord_room]; exact h4))
  have HC := Lib.hid (fun (i : Nat) (x : Int) (hx : l[i]? = some x) => code_len hin hx)
  have HIN := Lib.hid hin
  have HOL := Lib.hid (codes_length l)
  generalize roomOf l = rm at *
  generalize hco : codesOf l = co at *
  clear hco
  have F1 := Lib.hid f1; have F2 := Lib.hid f2
  have HR := Lib.hid (fun (w' : World) (hb : Below w.heap.size w w') => hr.below hb)
  clear f1 f2 h h4 hin hr
  go_enter Tryd.func3, Tryd.ntmps3
  go_wp2_with fail
  refine (kfact_any _).mono ?_
  rintro e w1 ⟨rfl, hb1⟩
  go_wp2_with fail
  refine (F1.out _ (HR.out _ hb1)).mono ?_
  rintro e w2 ⟨rfl, rfl⟩
  go_wp2_with fail
  refine (F2.out _ (HR.out _ hb1)).mono ?_
  rintro e w3 ⟨G, rfl, hG, hGg, hb⟩
  have hb3 := bnext hb1 hb
  have HG := Lib.hid hG
  have HGg := Lib.hid (show w.heap.size ≤ G from by have := hb1.size; omega)
  clear hb hG hGg F1 F2
  have hnn : ((l.length : Int) != (l.length : Int)) = false := by simp
  go_wp2_with fail
  go_loopw [7, 8, 9, 51, 52, 53, 54, 55, 56, 57, 58, 59, 60, 92, 93, 94, 95, 96, 97, 98, 99, 100, 101, 102, 103, 104, 105] (fun iv _ _ _ _ _ _ _ _ _ _ _ _ _ _ _ _ _ _ _ _ _ _ _ _ _ _ wr => ∃ i : Nat, i ≤ l.length ∧ iv = .int .i64 (i : Int) ∧ Below w3.heap.size w3 wr) (fun iv _ _ _ _ _ _ _ _ _ _ _ _ _ _ _ _ _ _ _ _ _ _ _ _ _ _ _ => l.length - (intOf iv).toNat)
  case atStart => exact ⟨0, Nat.zero_le _, rfl, Below.refl _ _⟩
  case round =>
    obtain ⟨i, hi, rfl, hbe⟩ := hrel
    have hbw := bnext hb3 hbe
    have HGr := Lib.hid (HG.out.below hbe HG.out.lt)
    by_cases hlt : i < l.length
    · obtain ⟨b, o, rfl, hbl, hcc⟩ := (HR.out _ hbw).2 (by omega)
      obtain ⟨x, hx⟩ : ∃ x, l[i]? = some x := ⟨_, List.getElem?_eq_getElem hlt⟩
      have hxb := HIN.out x (List.mem_of_getElem? hx)
      obtain ⟨nx, _, hcd, hcl⟩ := HC.out i x hx
      obtain ⟨d, rfl⟩ : ∃ d : Nat, x = (d : Int) := ⟨x.toNat, by omega⟩
      rw [Int.toNat_natCast] at hcd hcl
      have hbits := code_bits nx d
      obtain ⟨s, hs⟩ : ∃ s, s = ba (code nx d) := ⟨_, rfl⟩
      have hss : s.size = d := by rw [hs, ba_size, hcl]
      have hd12 : d ≤ 12 := by omega
      have c0 := HGr.out.cell hcd
      rw [← hs] at c0
      have c1 := hcc i (.int .i64 (d : Int)) (by rw [ints_get, hx]; rfl)
      have kk : (i : Int) < (l.length : Int) := by omega
      have hne : ((s.size : Int) != (s.size : Int)) = false := by simp
      have HB := Lib.hid (show ∀ z ∈ bs s, z = 48 ∨ z = 49 from by rw [hs, bs_ba]; exact hbits)
      have HCD := Lib.hid hcd
      have HS := Lib.hid hs
      subst hss
      clear hcc hx hxb hcd hcl hbits hs
      go_wp2
      go_quiet (fail)
      go_wp2_with fail
      go_loop [8] (fun jv => ∃ j : Nat, j ≤ s.size ∧ jv = .int .i64 (j : Int)) (fun jv => s.size - (intOf jv).toNat)
      case atStart => exact ⟨0, Nat.zero_le _, rfl⟩
      case round =>
        obtain ⟨j, hj, rfl⟩ := hrel
        by_cases hltj : j < s.size
        · obtain ⟨z, hz⟩ : ∃ z, (bs s)[j]? = some z := ⟨_, List.getElem?_eq_getElem (by rw [bs_length]; exact hltj)⟩
          have q := index_at2 s j z hz
          have kkj : (j : Int) < (s.size : Int) := by omega
          rcases HB.out z (List.mem_of_getElem? hz) with rfl | rfl
          · have q' : ∀ w, (Instr.index 9 (.string s) (.int .i64 (j : Int))).run Tryd.prog w = .ok (.int .u8 48) w := fun w => by rw [q w]; rfl
            clear q hz
            go_wp2
            exact ⟨⟨j + 1, by omega, by go_num⟩, by simp [intOf]; omega⟩
          · have q' : ∀ w, (Instr.index 9 (.string s) (.int .i64 (j : Int))).run Tryd.prog w = .ok (.int .u8 49) w := fun w => by rw [q w]; rfl
            clear q hz
            go_wp2
            exact ⟨⟨j + 1, by omega, by go_num⟩, by simp [intOf]; omega⟩
        · have kkj : ¬ (j : Int) < (s.size : Int) := by omega
          have hbd := bdrew hbe nq
          have HGd := Lib.hid (HGr.out.drewN nq)
          clear HGr
          go_wp2_with fail
          clear c0 c1
          go_loopw [9, 92, 93, 94, 95, 96, 97, 98, 99, 100, 101, 102, 103, 104, 105] (fun kv _ _ _ _ _ _ _ _ _ _ _ _ _ _ wx => ∃ k : Nat, k ≤ l.length ∧ kv = .int .i64 (k : Int) ∧ Below w3.heap.size w3 wx) (fun kv _ _ _ _ _ _ _ _ _ _ _ _ _ _ _ => l.length - (intOf kv).toNat)
          case atStart => exact ⟨0, Nat.zero_le _, rfl, hbd⟩
          case round =>
            obtain ⟨k, hk, rfl, hbx⟩ := hrel
            have HGx := Lib.hid (HG.out.below hbx HG.out.lt)
            by_cases hltk : k < l.length
            · obtain ⟨cy, hcy⟩ : ∃ cy, co[k]? = some cy := ⟨_, List.getElem?_eq_getElem (by rw [HOL.out]; exact hltk)⟩
              have kkk : (k : Int) < (l.length : Int) := by omega
              have c0 := HGx.out.cell HCD.out
              rw [← HS.out] at c0
              have c1 := HGx.out.cell hcy
              by_cases hik : i = k
              · have hn1 : ((i : Int) != (k : Int)) = false := by rw [bne_eq_false_iff_eq]; omega
                clear hik hcy
                go_wp2
                go_quiet (fail)
                go_wp2
                exact ⟨⟨k + 1, by omega, by go_num, bdrew hbx _⟩, by simp [intOf]; omega⟩
              · have hn1 : ((i : Int) != (k : Int)) = true := by rw [bne_iff_ne]; omega
                obtain ⟨sy, hsy⟩ : ∃ sy, sy = ba cy := ⟨_, rfl⟩
                rw [← hsy] at c1
                obtain ⟨v, hv⟩ : ∃ v, l[k]? = some v := ⟨_, List.getElem?_eq_getElem hltk⟩
                obtain ⟨ny, _, hcd2, hcl2⟩ := HC.out k v hv
                have hvb := HIN.out v (List.mem_of_getElem? hv)
                rw [hcy] at hcd2
                have hsyz : sy.size ≤ 12 := by
                  rw [hsy, ba_size, Option.some.inj hcd2, hcl2]; omega
                have hfr : (bs sy).isPrefixOf (bs s) = false := by
                  cases hp : (bs sy).isPrefixOf (bs s)
                  · rfl
                  · obtain ⟨t, ht⟩ := List.isPrefixOf_iff_prefix.1 hp
                    rw [hsy, HS.out, bs_ba, bs_ba] at ht
                    exact absurd ht.symm (HF.out k i cy _ t (fun e => hik e.symm) hcy HCD.out)
                have HBG := Lib.hid (fun w' => begins_same s sy w' false hfr (by omega) (by omega))
                clear hik hcy hsy hv hcd2 hcl2 hvb hfr
                go_wp2
                go_quiet (refine Calls.quiet_of_same (HBG.out _))
                go_wp2
                exact ⟨⟨k + 1, by omega, by go_num, bdrew hbx _⟩, by simp [intOf]; omega⟩
            · have kkk : ¬ (k : Int) < (l.length : Int) := by omega
              go_wp2
              exact ⟨⟨i + 1, by omega, by go_num, hbx⟩, by simp [intOf]; omega⟩
    · have kk : ¬ (i : Int) < (l.length : Int) := by omega
      go_wp2
      go_ret
      exact ⟨rfl, hbw⟩

theorem walk_no (w : World) (A : Option Addr) (c : Nat) (l : List Int) (hr : Reads w A l.length 1 (ints l)) (hm : l.length ≤ maxLen) (h : ckL l ≠ 0) :
    Calls Tryd.prog 3 #[.slice A l.length c] w fun e w' => e = .returned (.bool true) ∧ Below w.heap.size w w' := by
  have f1 := fun w' hr' => kroom_no A c l w' hr' hm h
  generalize ckL l = K at *
  have F1 := Lib.hid f1
  have HR := Lib.hid (fun (w' : World) (hb : Below w.heap.size w w') => hr.below hb)
  clear f1 hr h hm
  go_enter Tryd.func3, Tryd.ntmps3
  go_wp2_with fail
  refine (kfact_any _).mono ?_
  rintro e w1 ⟨rfl, hb1⟩
  go_wp2_with fail
  refine (F1.out _ (HR.out _ hb1)).mono ?_
  rintro e w2 ⟨rfl, rfl⟩
  go_wp2
  go_ret
  exact ⟨rfl, hb1⟩
theorem walk_full (w : World) (A : Option Addr) (c : Nat) (l : List Int) (hr : Reads w A l.length 1 (ints l)) (h : ckL l = 0) (h4 : 4096 < roomOf l) (hg : As.Laid w) :
    Calls Tryd.prog 3 #[.slice A l.length c] w fun e w' => e = .returned (.bool true) ∧ Below w.heap.size w w' := by
  have f1 := fun w' hr' => kroom_ok A c l w' hr' h
  have f2 := fun w' hr' => codes_full A c l w' hr' h h4
  have k1 : (4096 : Int) < ((roomOf l : Nat) : Int) := by omega
  generalize roomOf l = K at *
  have F1 := Lib.hid f1; have F2 := Lib.hid f2
  have F3 := Lib.hid (fun w' (hb : Below w.heap.size w w') => As.error_no 6 (by decide) w' (hg.below hb))
  have HR := Lib.hid (fun (w' : World) (hb : Below w.heap.size w w') => hr.below hb)
  clear f1 f2 hr h h4 hg
  go_enter Tryd.func3, Tryd.ntmps3
  go_wp2_with fail
  refine (kfact_any _).mono ?_
  rintro e w1 ⟨rfl, hb1⟩
  go_wp2_with fail
  refine (F1.out _ (HR.out _ hb1)).mono ?_
  rintro e w2 ⟨rfl, rfl⟩
  go_wp2_with fail
  refine (F2.out _ (HR.out _ hb1)).mono ?_
  rintro e w3 ⟨rfl, hb⟩
  have hb3 := bnext hb1 hb
  go_wp2_with fail
  refine (F3.out _ hb3).mono ?_
  rintro e w4 ⟨rfl, hb4⟩
  go_wp2
  go_ret
  exact ⟨rfl, bnext hb3 hb4⟩
theorem walk (w : World) (A : Option Addr) (cap : Nat) (l : List Int) (hs : l.length * 8 ≤ 140737488351232) (hrg : ∀ n ∈ l, -9223372036854775808 ≤ n ∧ n ≤ 9223372036854775807) (hi : Reads w A l.length 1 (l.map (Value.int .i64)) ∧ l.length ≤ cap) (hg : As.Laid w) :
    Calls Tryd.prog 3 #[.slice A l.length cap] w fun e w' => e = .returned (.bool true) ∧ Below w.heap.size w w' := by
  obtain ⟨hr, hcap⟩ := hi
  by_cases h : ckL l = 0
  · by_cases h4 : roomOf l ≤ 4096
    · exact walk_ok w A cap l hr h h4
    · exact walk_full w A cap l hr h (by omega) hg
  · exact walk_no w A cap l hr (by unfold maxLen; omega) h
end Go.Proofs.YtnaoonegeboflaaDoor.kraftCodes
