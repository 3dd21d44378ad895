/-
  The walk of the law KraftApart, for all words; no condition.
-/
import Derived.Test.YtnaoonegeboflaaKfFree
import Derived.Test.YtnaoonegeboflaaKfFact
namespace Go.Proofs.Ytnaoonegeboflaa.kraftApart
open Go.RowKit Kf
set_option linter.unusedVariables false
set_option linter.unusedSimpArgs false

def lens (l : List ByteArray) : List Int := l.map fun x => (x.size : Int)
theorem room_words : ∀ (l : List (List UInt8)), (∀ w ∈ l, w.length ≤ 8) → roomOf (l.map fun w => (w.length : Int)) = 16 * (l.map fun w => 2 ^ (8 - w.length)).sum
  | [], _ => rfl
  | x :: l, h => by
    have hx := h x (List.mem_cons_self ..)
    have ih := room_words l fun w hw => h w (List.mem_cons_of_mem _ hw)
    have hp : 2 ^ (12 - (x.length : Int)).toNat = 16 * 2 ^ (8 - x.length) := by
      rw [show (12 - (x.length : Int)).toNat = 4 + (8 - x.length) by omega, Nat.pow_add]
    simp only [List.map_cons, roomOf, List.sum_cons, ih, hp, Nat.mul_add]
theorem room_apart {ws : List (List UInt8)} (h : tchk ws = 0) (hd : ¬ Dg ws []) (hb : ∀ w ∈ ws, ∀ s ∈ w, s = 48 ∨ s = 49) : roomOf (ws.map fun w => (w.length : Int)) ≤ 4096 := by
  obtain ⟨h6, h8, hn⟩ := tchk_ok h
  rw [room_words ws fun w hw => (h8 w hw).1]
  have := mcmillan (48 : UInt8) 49 (by decide) hn (ud_of (fun w hw => (h8 w hw).2) hd) (fun w hw => (h8 w hw).1) hb
  omega
theorem ckL_lens {ws : List (List UInt8)} (h : tchk ws = 0) : ckL (ws.map fun w => (w.length : Int)) = 0 := by
  obtain ⟨h6, h8, hn⟩ := tchk_ok h
  refine ckL_of (by simp; omega) fun x hx => ?_
  obtain ⟨w, hw, rfl⟩ := List.mem_map.1 hx
  have := h8 w hw
  have : 0 < w.length := List.length_pos_iff.2 this.2
  omega
theorem lens_bs (l : List ByteArray) : lens l = (l.map bs).map fun w => (w.length : Int) := by
  rw [List.map_map]
  exact List.map_congr_left fun x _ => by simp [bs_length]
theorem index_at' (s : ByteArray) (K : Nat) (z : UInt8) (hz : (bs s)[K]? = some z) (w : World) : (Instr.index 9 (.string s) (.int .i64 (K : Int))).run Try.prog w = .ok (.int .u8 (z.toNat : Int)) w := by
  obtain ⟨h, e⟩ := List.getElem?_eq_some_iff.1 hz
  rw [bs_length] at h
  rw [run_index_string w _ s _ _ Try.underlying9, dif_pos ⟨by omega, by omega⟩]
  subst e
  simp [bs]
  rfl

theorem below_app' {w wr w2 : World} {v : Value} {n size : Nat} {e : TypeId} {xs : List Value} {o : Obj} (hb : Below w.heap.size w wr) (hown : wr.ownsRow w.heap.size e size v n xs) (hg : (wr.alloc o).grownBy w2 v.ownBlock) : Below w.heap.size w w2 :=
  (bmore hb o).grown hg (by simp; have := hb.size; omega) (fun k hk => (hown.lt k hk).1)
set_option maxHeartbeats 4000000 in
theorem walk_ok (w : World) (A : Option Addr) (c : Nat) (l : List ByteArray) (hr : Reads w A l.length 1 (texts l)) (hm : l.length ≤ maxLen) (hc : l.length ≤ c) (hsz : ∀ s ∈ l, s.size ≤ maxLen) (h : tchk (l.map bs) = 0) :
    Calls Try.prog 4 #[.slice A l.length c] w fun e w' => e = .returned (.bool true) ∧ Below w.heap.size w w' := by
  obtain ⟨i0, hi, hz0, hz1, hz2⟩ := info_parts infoI64
  obtain ⟨h6, h8, hn⟩ := tchk_ok h
  have h60 : l.length ≤ 6 := by simpa using h6
  have f1 := fun w' hr' => apart_ok A c l w' hr' hm hc hsz h
  have f2 := fun w' hr' => free_ok A c l w' hr' hm hc hsz h
  have F1 := Lib.hid f1; have F2 := Lib.hid f2
  have HR := Lib.hid (fun (w' : World) (hb : Below w.heap.size w w') => hr.below hb)
  have H := Lib.hid h
  have H8 := Lib.hid (fun x hx => (h8 x hx).1 : ∀ x ∈ l.map bs, x.length ≤ 8)
  clear f1 f2 hr hm hc hsz h h6 h8 hn
  go_enter Try.func4, Try.ntmps4
  go_wp2_with fail
  refine (kfact_any _).mono ?_
  rintro e w1 ⟨rfl, hb1⟩
  go_wp2_with fail
  refine (F1.out _ (HR.out _ hb1)).mono ?_
  rintro e w2 ⟨ap, rfl, hap, hb⟩
  have hb2 := bnext hb1 hb
  have HAP := Lib.hid hap
  clear hb hap
  go_wp2_with fail
  refine (F2.out _ (HR.out _ hb2)).mono ?_
  rintro e w3 ⟨rfl, hb⟩
  have hb3 := bnext hb2 hb
  obtain ⟨fr, hfr⟩ : ∃ fr, fr = frB (l.map bs) := ⟨_, rfl⟩
  have HFR := Lib.hid (show fr = true → ap = true from fun e => HAP.out.2 (fr_not ((frB_iff _).1 (hfr.symm.trans e))))
  rw [← hfr]
  clear hb hfr F1 F2
  have hcase : (fr = false ∨ ap = true) := by
    cases fr
    · exact .inl rfl
    · exact .inr (HFR.out rfl)
  clear HFR
  have hAPD := Lib.hid (fun e => HAP.out.1 e)
  clear HAP
  have HRM := Lib.hid (fun (e : ap = true) (hb : ∀ w ∈ l.map bs, ∀ s ∈ w, s = 48 ∨ s = 49) => room_apart H.out (hAPD.out e) hb)
  rw [← lens_bs] at HRM
  have HCK := Lib.hid (ckL_lens H.out)
  rw [← lens_bs] at HCK
  clear hAPD
  have key : ∀ fr ap : Bool, fr = false ∨ ap = true → (fr = false ∧ ap = false) ∨ (fr = false ∧ ap = true) ∨ (fr = true ∧ ap = true) := by decide
  rcases key fr ap hcase with ⟨rfl, rfl⟩ | ⟨rfl, rfl⟩ | ⟨rfl, rfl⟩
  all_goals
    clear hcase key
    go_wp2_with fail
    go_loopw [8, 9, 10] (fun ov iv _ wr => ∃ i : Nat, i ≤ l.length ∧ iv = .int .i64 (i : Int) ∧ wr.ownsRow w.heap.size 3 1 ov i (ints (lens (l.take i))) ∧ Hid (∀ x ∈ l.take i, ∀ s ∈ bs x, s = 48 ∨ s = 49) ∧ Below w.heap.size w wr) (fun _ iv _ _ => l.length - (intOf iv).toNat)
    case atStart => exact ⟨0, Nat.zero_le _, rfl, World.ownsRow_nil _ _ _ _, Lib.hid (by simp), hb3⟩
    case round =>
      obtain ⟨i, hil, rfl, hown, HB, hbe⟩ := hrel
      by_cases hlt : i < l.length
      · obtain ⟨b, o, rfl, hbl, hcc⟩ := (HR.out _ hbe).2 (by omega)
        obtain ⟨x, hx⟩ : ∃ x, l[i]? = some x := ⟨_, List.getElem?_eq_getElem hlt⟩
        have c0 := hcc i (.string x) (by rw [texts_get, hx]; rfl)
        have kk : (i : Int) < (l.length : Int) := by omega
        have HX := Lib.hid hx
        have hxl : x.size ≤ 8 := by have := H8.out (bs x) (List.mem_map_of_mem (List.mem_of_getElem? hx)); rwa [bs_length] at this
        have HT := Lib.hid (show l.take (i + 1) = l.take i ++ [x] from by rw [List.take_add_one, hx]; rfl)
        clear hcc hx
        go_wp2_with fail
        go_loop [10] (fun jv => ∃ j : Nat, j ≤ x.size ∧ jv = .int .i64 (j : Int) ∧ Hid (∀ s ∈ (bs x).take j, s = 48 ∨ s = 49)) (fun jv => x.size - (intOf jv).toNat)
        case atStart => exact ⟨0, Nat.zero_le _, rfl, Lib.hid (by simp)⟩
        case round =>
          obtain ⟨j, hj, rfl, HJ⟩ := hrel
          by_cases hltj : j < x.size
          · obtain ⟨z, hz⟩ : ∃ z, (bs x)[j]? = some z := ⟨_, List.getElem?_eq_getElem (by rw [bs_length]; exact hltj)⟩
            have q := index_at' x j z hz
            have kkj : (j : Int) < (x.size : Int) := by omega
            have HZ := Lib.hid (show (bs x).take (j + 1) = (bs x).take j ++ [z] from by rw [List.take_add_one, hz]; rfl)
            clear hz
            by_cases h0 : z = 48
            · subst h0
              have q' : ∀ w, (Instr.index 9 (.string x) (.int .i64 (j : Int))).run Try.prog w = .ok (.int .u8 48) w := fun w => by rw [q w]; rfl
              clear q
              go_wp2
              refine ⟨⟨j + 1, by omega, by go_num, Lib.hid ?_⟩, by simp [intOf]; omega⟩
              rw [HZ.out]
              intro s hs
              rcases List.mem_append.1 hs with h | h
              · exact HJ.out s h
              · exact .inl (by simpa using h)
            · by_cases h1 : z = 49
              · subst h1
                have q' : ∀ w, (Instr.index 9 (.string x) (.int .i64 (j : Int))).run Try.prog w = .ok (.int .u8 49) w := fun w => by rw [q w]; rfl
                clear q h0
                go_wp2
                refine ⟨⟨j + 1, by omega, by go_num, Lib.hid ?_⟩, by simp [intOf]; omega⟩
                rw [HZ.out]
                intro s hs
                rcases List.mem_append.1 hs with h | h
                · exact HJ.out s h
                · exact .inr (by simpa using h)
              · have n0 : ¬ ((z.toNat : Int) = 48) := fun h => h0 (UInt8.toNat_inj.1 (by have : z.toNat = 48 := by omega
                                                                                         rw [this]; rfl))
                have n1 : ¬ ((z.toNat : Int) = 49) := fun h => h1 (UInt8.toNat_inj.1 (by have : z.toNat = 49 := by omega
                                                                                         rw [this]; rfl))
                have t0 : ((z.toNat : Int) != 48) = true := bne_iff_ne.2 n0
                have t1 : ((z.toNat : Int) != 49) = true := bne_iff_ne.2 n1
                clear h0 h1 n0 n1
                go_wp2
                go_ret
                exact ⟨rfl, hbe⟩
          · have kkj : ¬ (j : Int) < (x.size : Int) := by omega
            have HJ2 := Lib.hid (show ∀ s ∈ bs x, s = 48 ∨ s = 49 from by have := HJ.out; rwa [List.take_of_length_le (by rw [bs_length]; omega)] at this)
            go_wp2_with (at_builtin; go_must (refine append_own _ rfl _ _ 23 rfl w.heap.size 3 i0 _ 1 8 Try.underlying23 hi hz0 hz1 hz2 rfl (by decide) _ i _ rfl (hown.alloc _) ⟨wr.heap.size, 0, none⟩ 1 1 [.int .i64 (x.size : Int)] rfl rfl (cell_one_new _ _ _) (by intro u hu; simp at hu; subst hu; rfl) (by unfold maxLen; omega) (by omega) (by simp; have := hbe.size; omega) (by decide) ?_); intro g2 cap2 w2 hown2 hg2 hg2' hgrow2)
            refine ⟨⟨i + 1, by omega, by go_num, ?_, Lib.hid ?_, below_app' hbe hown hgrow2⟩, by simp [intOf]; omega⟩
            · rw [HT.out]
              simpa [lens, ints] using hown2
            · rw [HT.out]
              intro y hy
              rcases List.mem_append.1 hy with h | h
              · exact HB.out y h
              · rw [List.mem_singleton.1 h]; exact HJ2.out
      · have kk : ¬ (i : Int) < (l.length : Int) := by omega
        obtain ⟨A2, c2, hv⟩ := own_slice hown
        subst hv
        have hBin : ∀ y ∈ l.map bs, ∀ s ∈ y, s = 48 ∨ s = 49 := by
          have hb := HB.out
          rw [List.take_of_length_le (by omega)] at hb
          intro y hy
          obtain ⟨x, hx, rfl⟩ := List.mem_map.1 hy
          exact hb x hx
        rw [List.take_of_length_le (by omega), show i = (lens l).length by simp [lens]; omega] at hown
        have hro := kroom_ok A2 c2 (lens l) _ (Reads.of_own hown) HCK.out
        rw [show (lens l).length = i by simp [lens]; omega] at hro
        have HRO := Lib.hid hro
        first
          | (clear hown hro hBin
             go_wp2_with fail
             refine HRO.out.mono ?_
             rintro e w5 ⟨rfl, rfl⟩
             go_wp2
             go_ret
             exact ⟨rfl, hbe⟩)
          | (have hn := HRM.out (by first | rfl | trivial) hBin
             have hn2 : ((roomOf (lens l) : Nat) : Int) ≤ 4096 := by omega
             clear hown hro hBin hn
             go_wp2_with fail
             refine HRO.out.mono ?_
             rintro e w5 ⟨rfl, rfl⟩
             go_wp2
             go_ret
             exact ⟨by first | rfl | exact ret_bool (decide_eq_true hn2), hbe⟩)

theorem walk_no (w : World) (A : Option Addr) (c : Nat) (l : List ByteArray) (hr : Reads w A l.length 1 (texts l)) (hm : l.length ≤ maxLen) (hc : l.length ≤ c) (hsz : ∀ s ∈ l, s.size ≤ maxLen) (h : tchk (l.map bs) ≠ 0) :
    Calls Try.prog 4 #[.slice A l.length c] w fun e w' => e = .returned (.bool true) ∧ Below w.heap.size w w' := by
  have f1 := fun w' hr' => apart_no A c l w' hr' hm hc hsz h
  have f2 := fun w' hr' => free_no A c l w' hr' hm hc hsz h
  generalize tchk (l.map bs) = K at *
  have F1 := Lib.hid f1; have F2 := Lib.hid f2
  have HR := Lib.hid (fun (w' : World) (hb : Below w.heap.size w w') => hr.below hb)
  clear f1 f2 hr hm hc hsz h
  go_enter Try.func4, Try.ntmps4
  go_wp2_with fail
  refine (kfact_any _).mono ?_
  rintro e w1 ⟨rfl, hb1⟩
  go_wp2_with fail
  refine (F1.out _ (HR.out _ hb1)).mono ?_
  rintro e w2 ⟨rfl, hb⟩
  have hb2 := bnext hb1 hb
  clear hb
  go_wp2_with fail
  refine (F2.out _ (HR.out _ hb2)).mono ?_
  rintro e w3 ⟨rfl, hb⟩
  have hb3 := bnext hb2 hb
  clear hb
  go_wp2
  go_ret
  exact ⟨rfl, hb3⟩

theorem walk (w : World) (A : Option Addr) (c : Nat) (l : List ByteArray) (hs : l.length * 16 ≤ 140737488351232) (hsz : ∀ q ∈ l, q.size ≤ maxLen) (hi : Reads w A l.length 1 (texts l) ∧ l.length ≤ c) :
    Calls Try.prog 4 #[.slice A l.length c] w fun e w' => e = .returned (.bool true) ∧ Below w.heap.size w w' := by
  have hm : l.length ≤ maxLen := by unfold maxLen; omega
  by_cases h : tchk (l.map bs) = 0
  · exact walk_ok w A c l hi.1 hm hi.2 hsz h
  · exact walk_no w A c l hi.1 hm hi.2 hsz h
end Go.Proofs.Ytnaoonegeboflaa.kraftApart
