/-
  The walk of the law KraftTwo, for all words and all rows of numbers; no condition.
-/
import Derived.Test.YtnaoonegeboflaaKfMirr
import Derived.Test.YtnaoonegeboflaaInts
namespace Go.Proofs.Ytnaoonegeboflaa.kraftTwo
open Go.RowKit Kf
set_option linter.unusedVariables false
set_option linter.unusedSimpArgs false

theorem tgo_of : ∀ (l seen : List (List UInt8)), (∀ x ∈ l, x.length ≤ 8 ∧ x ≠ []) → (seen ++ l).Nodup → tgo seen l = 0
  | [], seen, _, _ => rfl
  | x :: l, seen, h, hn => by
    have hx := h x (List.mem_cons_self ..)
    unfold tgo
    rw [if_neg (by omega), if_neg hx.2, if_neg]
    · exact tgo_of l _ (fun y hy => h y (List.mem_cons_of_mem _ hy)) (by simpa using hn)
    · intro hc
      rw [List.contains_iff_mem] at hc
      rw [List.nodup_append] at hn
      exact hn.2.2 x hc x (List.mem_cons_self ..) rfl
theorem tchk_of {l : List (List UInt8)} (h6 : l.length ≤ 6) (h8 : ∀ x ∈ l, x.length ≤ 8 ∧ x ≠ []) (hn : l.Nodup) : tchk l = 0 := by
  unfold tchk
  rw [if_neg (by omega)]
  exact tgo_of l [] h8 (by simpa using hn)
theorem tchk_rev {l : List (List UInt8)} (h : tchk l = 0) : tchk (l.map List.reverse) = 0 := by
  obtain ⟨h6, h8, hn⟩ := tchk_ok h
  refine tchk_of (by simpa using h6) ?_ (nodup_map_inj _ _ hn fun x _ y _ e => by have := congrArg List.reverse e; simpa using this)
  intro x hx
  obtain ⟨y, hy, rfl⟩ := List.mem_map.1 hx
  have := h8 y hy
  exact ⟨by simpa using this.1, by simpa using this.2⟩
theorem dg_iff {l : List (List UInt8)} (h : tchk l = 0) : ¬ Dg l [] ↔ UD l := by
  obtain ⟨h6, h8, hn⟩ := tchk_ok h
  exact ⟨fun hd => ud_of (fun w hw => (h8 w hw).2) hd, fun hu => not_dg hn hu⟩
theorem dg_rev {l : List (List UInt8)} (h : tchk l = 0) : ¬ Dg (l.map List.reverse) [] ↔ ¬ Dg l [] := by
  rw [dg_iff h, dg_iff (tchk_rev h)]
  exact ud_back_iff
/-- the words that numbers name -/
def wd (ws : List (List UInt8)) (a : List Int) : List (List UInt8) := a.map fun i => ws.getD i.toNat []
theorem wd_inj {ws : List (List UInt8)} (hn : ws.Nodup) : ∀ (a b : List Int), (∀ x ∈ a, 0 ≤ x ∧ x < ws.length) → (∀ x ∈ b, 0 ≤ x ∧ x < ws.length) → wd ws a = wd ws b → a = b
  | [], [], _, _, _ => rfl
  | [], y :: b, _, _, e => by simp [wd] at e
  | x :: a, [], _, _, e => by simp [wd] at e
  | x :: a, y :: b, ha, hb, e => by
    have hx := ha x (List.mem_cons_self ..)
    have hy := hb y (List.mem_cons_self ..)
    have e1 := (List.cons.inj (show ws.getD x.toNat [] :: wd ws a = ws.getD y.toNat [] :: wd ws b from e))
    have h1 : x = y := by
      have h2 := e1.1
      rw [List.getD_eq_getElem?_getD, List.getD_eq_getElem?_getD, List.getElem?_eq_getElem (by omega), List.getElem?_eq_getElem (by omega)] at h2
      have h3 := (List.getElem?_inj (i := x.toNat) (j := y.toNat) (by omega) hn).1 (by rw [List.getElem?_eq_getElem (by omega), List.getElem?_eq_getElem (by omega)]; exact congrArg some h2)
      omega
    rw [h1, wd_inj hn a b (fun z hz => ha z (List.mem_cons_of_mem _ hz)) (fun z hz => hb z (List.mem_cons_of_mem _ hz)) e1.2]
theorem wd_mem {ws : List (List UInt8)} {a : List Int} (ha : ∀ x ∈ a, 0 ≤ x ∧ x < ws.length) : ∀ x ∈ wd ws a, x ∈ ws := by
  intro x hx
  obtain ⟨i, hi, rfl⟩ := List.mem_map.1 hx
  have := ha i hi
  rw [List.getD_eq_getElem?_getD, List.getElem?_eq_getElem (by omega)]
  exact List.getElem_mem _
theorem two_law {ws : List (List UInt8)} (h : tchk ws = 0) (hd : ¬ Dg ws []) {a b : List Int} (ha : ∀ x ∈ a, 0 ≤ x ∧ x < ws.length) (hb : ∀ x ∈ b, 0 ≤ x ∧ x < ws.length) (e : (wd ws a).flatten = (wd ws b).flatten) : a = b :=
  wd_inj (tchk_ok h).2.2 a b ha hb ((dg_iff h).1 hd _ _ (wd_mem ha) (wd_mem hb) e)
theorem wd_take {ws : List (List UInt8)} {a : List Int} {k : Nat} {p : Nat} (h : a[k]? = some (p : Int)) : (wd ws (a.take (k + 1))).flatten = (wd ws (a.take k)).flatten ++ ws.getD p [] := by
  rw [List.take_add_one, h]
  simp [wd]
theorem all_in {a : List Int} {n : Nat} (h : a.all (inn 0 ((n : Int) - 1)) = true) : ∀ x ∈ a, 0 ≤ x ∧ x < n := fun x hx => by
  have := List.all_eq_true.1 h x hx
  unfold inn at this
  have := of_decide_eq_true this
  omega
theorem bs_add (x y : ByteArray) : bs (x ++ y) = bs x ++ bs y := by simp [bs]

set_option maxHeartbeats 1000000 in
theorem walk_ok (w : World) (A : Option Addr) (c : Nat) (l : List ByteArray) (hr : Reads w A l.length 1 (texts l)) (hm : l.length ≤ maxLen) (hc : l.length ≤ c) (hsz : ∀ s ∈ l, s.size ≤ maxLen)
    (A1 : Option Addr) (c1 : Nat) (a : List Int) (hr1 : Reads w A1 a.length 1 (ints a)) (hm1 : a.length ≤ maxLen)
    (A2 : Option Addr) (c2 : Nat) (b : List Int) (hr2 : Reads w A2 b.length 1 (ints b)) (hm2 : b.length ≤ maxLen) (h : tchk (l.map bs) = 0) :
    Calls Try.prog 3 #[.slice A l.length c, .slice A1 a.length c1, .slice A2 b.length c2] w fun e w' => e = .returned (.bool true) ∧ Below w.heap.size w w' := by
  obtain ⟨h6, h8, hn⟩ := tchk_ok h
  have h60 : l.length ≤ 6 := by simpa using h6
  have f1 := fun w' hr' => apart_ok A c l w' hr' hm hc hsz h
  have f2 := fun w' hr' => mirr_any A c l w' hr' (by omega) (fun x hx => by have := (h8 _ (List.mem_map_of_mem (f := bs) hx)).1; rw [bs_length] at this; omega)
  have f3 := fun w' A3 c3 hr' hc' => apart_ok A3 c3 (l.map rev) w' hr' (by rw [List.length_map]; exact hm) hc' (fun s hs => by
    obtain ⟨x, hx, rfl⟩ := List.mem_map.1 hs
    have := (h8 _ (List.mem_map_of_mem (f := bs) hx)).1
    have h2 := congrArg List.length (bs_rev x)
    rw [bs_length] at h2
    simp at h2
    unfold maxLen
    rw [bs_length] at this h2
    omega) (by rw [map_rev]; exact tchk_rev h)
  rw [List.length_map, map_rev] at f3
  have g1 := fun w' hr' => refall_any A1 c1 a 0 ((l.length : Int) - 1) w' hr' hm1
  have g2 := fun w' hr' => refall_any A2 c2 b 0 ((l.length : Int) - 1) w' hr' hm2
  have g3 := fun w' hr1' hr2' => ints_any A1 A2 c1 c2 a b w' hr1' hr2' hm1
  have F1 := Lib.hid f1; have F2 := Lib.hid f2; have F3 := Lib.hid f3; have G1 := Lib.hid g1; have G2 := Lib.hid g2; have G3 := Lib.hid g3
  have HR := Lib.hid (fun (w' : World) (hb : Below w.heap.size w w') => hr.below hb)
  have HR1 := Lib.hid (fun (w' : World) (hb : Below w.heap.size w w') => hr1.below hb)
  have HR2 := Lib.hid (fun (w' : World) (hb : Below w.heap.size w w') => hr2.below hb)
  have H := Lib.hid h
  have H8 := Lib.hid (fun x hx => (h8 x hx).1 : ∀ x ∈ l.map bs, x.length ≤ 8)
  have HRV := Lib.hid (dg_rev h)
  have hw1 : IntKind.i64.wrap ((l.length : Int) - 1) = (l.length : Int) - 1 := IntWalk.i64_in _ (by omega)
  unfold maxLen at hm1 hm2
  have hm1' : a.length ≤ 9223372036854775807 := by omega
  have hm2' : b.length ≤ 9223372036854775807 := by omega
  clear f1 f2 f3 g1 g2 g3 hr hr1 hr2 hm hc hsz h h6 h8 hn hm1 hm2
  generalize hna : a.length = na at *
  generalize hnb : b.length = nb at *
  have HNA := Lib.hid hna; have HNB := Lib.hid hnb
  clear hna hnb
  go_enter Try.func3, Try.ntmps3
  go_wp2_with fail
  refine (kfact_any _).mono ?_
  rintro e w1 ⟨rfl, hb1⟩
  go_wp2_with fail
  refine (F1.out _ (HR.out _ hb1)).mono ?_
  rintro e w2 ⟨ap, rfl, hap, hb⟩
  have hb2 := bnext hb1 hb
  have HAP := Lib.hid hap
  clear hb hap
  cases hA : a.all (inn 0 ((l.length : Int) - 1))
  · rw [hA] at G1
    cases ap
    all_goals
      go_wp2_with fail
      refine (G1.out _ (HR1.out _ hb2)).mono ?_
      rintro e w3 ⟨rfl, rfl⟩
      go_wp2_with fail
      go_ret
      exact ⟨rfl, hb2⟩
  · rw [hA] at G1
    cases hB : b.all (inn 0 ((l.length : Int) - 1))
    · rw [hB] at G2
      cases ap
      all_goals
        go_wp2_with fail
        refine (G1.out _ (HR1.out _ hb2)).mono ?_
        rintro e w3 ⟨rfl, rfl⟩
        go_wp2_with fail
        refine (G2.out _ (HR2.out _ hb2)).mono ?_
        rintro e w3 ⟨rfl, rfl⟩
        go_wp2_with fail
        go_ret
        exact ⟨rfl, hb2⟩
    · rw [hB] at G2
      have HIA := Lib.hid (all_in hA)
      have HIB := Lib.hid (all_in hB)
      clear hA hB
      by_cases hla : 30 < na
      · have kk : (30 : Int) < (na : Int) := by omega
        cases ap
        all_goals
          go_wp2_with fail
          refine (G1.out _ (HR1.out _ hb2)).mono ?_
          rintro e w3 ⟨rfl, rfl⟩
          go_wp2_with fail
          refine (G2.out _ (HR2.out _ hb2)).mono ?_
          rintro e w3 ⟨rfl, rfl⟩
          go_wp2_with fail
          go_ret
          exact ⟨rfl, hb2⟩
      · have kk : ¬ (30 : Int) < (na : Int) := by omega
        by_cases hlb : 30 < nb
        · have kk2 : (30 : Int) < (nb : Int) := by omega
          cases ap
          all_goals
            go_wp2_with fail
            refine (G1.out _ (HR1.out _ hb2)).mono ?_
            rintro e w3 ⟨rfl, rfl⟩
            go_wp2_with fail
            refine (G2.out _ (HR2.out _ hb2)).mono ?_
            rintro e w3 ⟨rfl, rfl⟩
            go_wp2_with fail
            go_ret
            exact ⟨rfl, hb2⟩
        · have kk2 : ¬ (30 : Int) < (nb : Int) := by omega
          go_wp2_with fail
          refine (G1.out _ (HR1.out _ hb2)).mono ?_
          rintro e w3 ⟨rfl, rfl⟩
          go_wp2_with fail
          refine (G2.out _ (HR2.out _ hb2)).mono ?_
          rintro e w3 ⟨rfl, rfl⟩
          go_wp2_with fail
          go_loop [10, 11] (fun xv iv => ∃ (i : Nat) (x : ByteArray), i ≤ na ∧ iv = .int .i64 (i : Int) ∧ xv = .string x ∧ x.size ≤ 8 * i ∧ Hid (bs x = (wd (l.map bs) (a.take i)).flatten)) (fun _ iv => na - (intOf iv).toNat)
          case atStart => exact ⟨0, ⟨#[]⟩, Nat.zero_le _, rfl, rfl, Nat.le_refl _, Lib.hid (by simp [wd, bs])⟩
          case round =>
            obtain ⟨i, x, hi, rfl, rfl, hxs, HX⟩ := hrel
            by_cases hlt : i < na
            · obtain ⟨b1, o1, rfl, hbl1, hcc1⟩ := (HR1.out _ hb2).2 (by omega)
              obtain ⟨z, hz⟩ : ∃ z, a[i]? = some z := ⟨_, List.getElem?_eq_getElem (by rw [HNA.out]; exact hlt)⟩
              have hzb := HIA.out z (List.mem_of_getElem? hz)
              obtain ⟨p, rfl⟩ : ∃ p : Nat, z = (p : Int) := ⟨z.toNat, by omega⟩
              obtain ⟨b0, o0, rfl, hbl0, hcc0⟩ := (HR.out _ hb2).2 (by omega)
              obtain ⟨y, hy⟩ : ∃ y, l[p]? = some y := ⟨_, List.getElem?_eq_getElem (by omega)⟩
              have c0 := hcc1 i (.int .i64 (p : Int)) (by rw [ints_get, hz]; rfl)
              have c1 := hcc0 p (.string y) (by rw [texts_get, hy]; rfl)
              have hys : y.size ≤ 8 := by have := H8.out (bs y) (List.mem_map_of_mem (List.mem_of_getElem? hy)); rwa [bs_length] at this
              have HT := Lib.hid (wd_take (ws := l.map bs) hz)
              have HY := Lib.hid (show (l.map bs).getD p [] = bs y from by rw [List.getD_eq_getElem?_getD, List.getElem?_map, hy]; rfl)
              have k1 : (i : Int) < (na : Int) := by omega
              have k2 : (p : Int) < (l.length : Int) := by omega
              have hxs2 : x.size ≤ 240 := by omega
              clear hcc0 hcc1 hz hy hzb
              go_wp2
              refine ⟨⟨i + 1, x ++ y, by omega, by go_num, rfl, by simp; omega, Lib.hid ?_⟩, by simp [intOf]; omega⟩
              rw [HT.out, HY.out, bs_add, HX.out]
            · have k1 : ¬ (i : Int) < (na : Int) := by omega
              have HXA := Lib.hid (show bs x = (wd (l.map bs) a).flatten from by have := HX.out; rwa [List.take_of_length_le (by rw [HNA.out]; omega)] at this)
              clear hxs HX
              go_wp2_with fail
              go_loop [12, 13] (fun xv iv => ∃ (i : Nat) (x : ByteArray), i ≤ nb ∧ iv = .int .i64 (i : Int) ∧ xv = .string x ∧ x.size ≤ 8 * i ∧ Hid (bs x = (wd (l.map bs) (b.take i)).flatten)) (fun _ iv => nb - (intOf iv).toNat)
              case atStart => exact ⟨0, ⟨#[]⟩, Nat.zero_le _, rfl, rfl, Nat.le_refl _, Lib.hid (by simp [wd, bs])⟩
              case round =>
                obtain ⟨j, y, hj, rfl, rfl, hys, HY⟩ := hrel
                by_cases hltj : j < nb
                · obtain ⟨b1, o1, rfl, hbl1, hcc1⟩ := (HR2.out _ hb2).2 (by omega)
                  obtain ⟨z, hz⟩ : ∃ z, b[j]? = some z := ⟨_, List.getElem?_eq_getElem (by rw [HNB.out]; exact hltj)⟩
                  have hzb := HIB.out z (List.mem_of_getElem? hz)
                  obtain ⟨p, rfl⟩ : ∃ p : Nat, z = (p : Int) := ⟨z.toNat, by omega⟩
                  obtain ⟨b0, o0, rfl, hbl0, hcc0⟩ := (HR.out _ hb2).2 (by omega)
                  obtain ⟨v, hv⟩ : ∃ v, l[p]? = some v := ⟨_, List.getElem?_eq_getElem (by omega)⟩
                  have c0 := hcc1 j (.int .i64 (p : Int)) (by rw [ints_get, hz]; rfl)
                  have c1 := hcc0 p (.string v) (by rw [texts_get, hv]; rfl)
                  have hvs : v.size ≤ 8 := by have := H8.out (bs v) (List.mem_map_of_mem (List.mem_of_getElem? hv)); rwa [bs_length] at this
                  have HT := Lib.hid (wd_take (ws := l.map bs) hz)
                  have HV := Lib.hid (show (l.map bs).getD p [] = bs v from by rw [List.getD_eq_getElem?_getD, List.getElem?_map, hv]; rfl)
                  have k3 : (j : Int) < (nb : Int) := by omega
                  have k2 : (p : Int) < (l.length : Int) := by omega
                  have hys2 : y.size ≤ 240 := by omega
                  clear hcc0 hcc1 hz hv hzb
                  go_wp2
                  refine ⟨⟨j + 1, y ++ v, by omega, by go_num, rfl, by simp; omega, Lib.hid ?_⟩, by simp [intOf]; omega⟩
                  rw [HT.out, HV.out, bs_add, HY.out]
                · have k3 : ¬ (j : Int) < (nb : Int) := by omega
                  have HYB := Lib.hid (show bs y = (wd (l.map bs) b).flatten from by have := HY.out; rwa [List.take_of_length_le (by rw [HNB.out]; omega)] at this)
                  clear hys HY
                  go_wp2_with fail
                  refine (F2.out _ (HR.out _ hb2)).mono ?_
                  rintro e w3 ⟨v, rfl, ho3, hb⟩
                  have hb3 := bnext hb2 hb
                  obtain ⟨A3, c3, hv3, hc3⟩ := own_cap ho3
                  subst hv3
                  have hr3 := Reads.of_own ho3
                  have HR3 := Lib.hid hr3
                  clear hb ho3 hr3
                  go_wp2_with fail
                  refine (F3.out _ A3 c3 HR3.out (by omega)).mono ?_
                  rintro e w4 ⟨tp, rfl, htp, hb⟩
                  have hb4 := bnext hb3 hb
                  have hta : tp = ap := by
                    have h1 := htp.trans (HRV.out.trans HAP.out.symm)
                    cases tp <;> cases ap <;> simp at h1 ⊢
                  subst hta
                  clear hb htp
                  cases tp
                  · go_wp2_with fail
                    go_ret
                    exact ⟨rfl, hb4⟩
                  · by_cases hxy : x = y
                    · have e1 : (x.toList == y.toList) = true := by rw [hxy]; exact beq_self_eq_true _
                      have hab : a = b := two_law H.out (HAP.out.1 rfl) (fun z hz => by rw [List.length_map]; exact HIA.out z hz) (fun z hz => by rw [List.length_map]; exact HIB.out z hz) (by rw [← HXA.out, ← HYB.out, hxy])
                      have hd : decide (a = b) = true := decide_eq_true hab
                      have hg3 := G3.out _ (HR1.out _ hb4) (HR2.out _ hb4)
                      rw [hd] at hg3
                      have HG3 := Lib.hid hg3
                      clear hxy hab hd hg3
                      go_wp2_with fail
                      refine HG3.out.mono ?_
                      rintro e w5 ⟨rfl, hb⟩
                      go_wp2_with fail
                      go_ret
                      exact ⟨rfl, bnext hb4 hb⟩
                    · have e1 : (x.toList == y.toList) = false := by
                        rw [bs_beq, beq_eq_false_iff_ne]
                        exact fun h => hxy (bs_inj h)
                      clear hxy
                      go_wp2_with fail
                      go_ret
                      exact ⟨rfl, hb4⟩

theorem walk_no (w : World) (A : Option Addr) (c : Nat) (l : List ByteArray) (hr : Reads w A l.length 1 (texts l)) (hm : l.length ≤ maxLen) (hc : l.length ≤ c) (hsz : ∀ s ∈ l, s.size ≤ maxLen)
    (A1 : Option Addr) (c1 : Nat) (a : List Int) (A2 : Option Addr) (c2 : Nat) (b : List Int) (h : tchk (l.map bs) ≠ 0) :
    Calls Try.prog 3 #[.slice A l.length c, .slice A1 a.length c1, .slice A2 b.length c2] w fun e w' => e = .returned (.bool true) ∧ Below w.heap.size w w' := by
  have f1 := fun w' hr' => apart_no A c l w' hr' hm hc hsz h
  generalize tchk (l.map bs) = K at *
  have F1 := Lib.hid f1
  have HR := Lib.hid (fun (w' : World) (hb : Below w.heap.size w w') => hr.below hb)
  clear f1 hr hm hc hsz h
  go_enter Try.func3, Try.ntmps3
  go_wp2_with fail
  refine (kfact_any _).mono ?_
  rintro e w1 ⟨rfl, hb1⟩
  go_wp2_with fail
  refine (F1.out _ (HR.out _ hb1)).mono ?_
  rintro e w2 ⟨rfl, hb⟩
  have hb2 := bnext hb1 hb
  clear hb
  go_wp2
  go_ret
  exact ⟨rfl, hb2⟩

theorem walk (w : World) (A : Option Addr) (c : Nat) (l : List ByteArray) (hs : l.length * 16 ≤ 140737488351232) (hsz : ∀ q ∈ l, q.size ≤ maxLen) (hi : Reads w A l.length 1 (texts l) ∧ l.length ≤ c)
    (A1 : Option Addr) (c1 : Nat) (a : List Int) (hs1 : a.length * 8 ≤ 140737488351232) (hrg1 : ∀ n ∈ a, -9223372036854775808 ≤ n ∧ n ≤ 9223372036854775807) (hi1 : Reads w A1 a.length 1 (a.map (Value.int .i64)) ∧ a.length ≤ c1)
    (A2 : Option Addr) (c2 : Nat) (b : List Int) (hs2 : b.length * 8 ≤ 140737488351232) (hrg2 : ∀ n ∈ b, -9223372036854775808 ≤ n ∧ n ≤ 9223372036854775807) (hi2 : Reads w A2 b.length 1 (b.map (Value.int .i64)) ∧ b.length ≤ c2) :
    Calls Try.prog 3 #[.slice A l.length c, .slice A1 a.length c1, .slice A2 b.length c2] w fun e w' => e = .returned (.bool true) ∧ Below w.heap.size w w' := by
  have hm : l.length ≤ maxLen := by unfold maxLen; omega
  by_cases h : tchk (l.map bs) = 0
  · exact walk_ok w A c l hi.1 hm hi.2 hsz A1 c1 a hi1.1 (by unfold maxLen; omega) A2 c2 b hi2.1 (by unfold maxLen; omega) h
  · exact walk_no w A c l hi.1 hm hi.2 hsz A1 c1 a A2 c2 b h
end Go.Proofs.Ytnaoonegeboflaa.kraftTwo
