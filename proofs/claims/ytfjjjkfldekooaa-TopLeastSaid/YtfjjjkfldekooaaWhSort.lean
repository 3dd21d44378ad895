/-
  The walk of the library's stable insertion sort at a row of numbers that the call itself made, with a function value that compares; and of the stable sort at fewer than twenty.
-/
import Derived.Test.YtfjjjkfldekooaaIBlk
namespace Go.Proofs.Ytfjjjkfldekooaa
open Go.RowKit
set_option linter.unusedVariables false
set_option linter.unusedSimpArgs false

/-- put in from behind -/
def insRev (cf : Int → Int → Int) (x : Int) : List Int → List Int
  | [] => [x]
  | y :: l => if cf x y < 0 then y :: insRev cf x l else x :: y :: l
def srt (cf : Int → Int → Int) (t : List Int) : List Int := (t.foldl (fun acc x => insRev cf x acc) []).reverse
theorem srt_snoc (cf : Int → Int → Int) (t : List Int) (x : Int) : srt cf (t ++ [x]) = (insRev cf x (srt cf t).reverse).reverse := by
  unfold srt
  rw [List.foldl_append, List.reverse_reverse]
  rfl
theorem insRev_perm (cf : Int → Int → Int) (x : Int) (l : List Int) : (insRev cf x l).Perm (x :: l) := by
  induction l with
  | nil => exact List.Perm.refl _
  | cons y l ih =>
    unfold insRev
    split
    · exact (ih.cons y).trans (List.Perm.swap x y l)
    · exact List.Perm.refl _
theorem srt_perm (cf : Int → Int → Int) (t : List Int) : (srt cf t).Perm t := by
  induction h : t.length generalizing t with
  | zero =>
    obtain rfl : t = [] := List.length_eq_zero_iff.1 h
    exact List.Perm.refl _
  | succ n ih =>
    obtain ⟨u, x, rfl⟩ : ∃ u x, t = u ++ [x] := by
      rcases List.eq_nil_or_concat t with rfl | ⟨u, x, e⟩
      · simp at h
      · exact ⟨u, x, by simpa using e⟩
    rw [srt_snoc]
    have h1 := ih u (by simp at h; omega)
    exact (List.reverse_perm _).trans ((insRev_perm cf _ _).trans (((List.reverse_perm _).trans h1).cons _ |>.trans (List.perm_append_singleton _ _).symm))
theorem grown_set' (w : World) (b : Nat) (i : Nat) (v : Value) : w.grownBy (w.setCell ⟨b, i, none⟩ v) (some b) :=
  ⟨rfl, rfl, rfl, by simp [World.setCell], fun k hk hne => Below.heap_setCell w _ v k (fun e => hne (by rw [e]))⟩
theorem grown_drew (w : World) (n : Nat) (r : Option Nat) : w.grownBy (w.drewN n) r := ⟨rfl, rfl, rfl, Nat.le_refl _, fun _ _ _ => rfl⟩

theorem grown_trans {w w1 w2 : World} {r : Option Nat} (h : w.grownBy w1 r) (h2 : w1.grownBy w2 r) : w.grownBy w2 r :=
  ⟨h2.1.trans h.1, h2.2.trans h.2, h2.3.trans h.3, Nat.le_trans h.4 h2.4, fun k hk hne => (h2.5 k (Nat.lt_of_lt_of_le hk h.4) hne).trans (h.5 k hk hne)⟩

theorem set_at (pre P : List Int) (y x : Int) (Z : List Int) {j : Nat} (h : j = pre.length + P.length) : (pre ++ (P ++ (y :: Z))).set j x = pre ++ (P ++ (x :: Z)) := by
  subst h
  rw [List.set_append_right _ _ (by omega), List.set_append_right _ _ (by omega), show pre.length + P.length - pre.length - P.length = 0 by omega]
  rfl
theorem set_at' (pre P : List Int) (y z x : Int) (Z : List Int) {j : Nat} (h : j = pre.length + P.length) : (pre ++ (P ++ (y :: (z :: Z)))).set (j + 1) x = pre ++ (P ++ (y :: (x :: Z))) := by
  subst h
  rw [List.set_append_right _ _ (by omega), List.set_append_right _ _ (by omega), show pre.length + P.length + 1 - pre.length - P.length = 1 by omega]
  rfl

/-- what a function that compares answers -/
def Cmp (g : Nat) (X : Nat) (cf : Int → Int → Int) (Pd : Int → Prop) (G : Nat) (w : World) : Prop :=
  ∀ w' : World, w.grownBy w' (some G) → ∀ x y : Int, Pd x → Pd y → Calls Try.prog g #[.int .i64 x, .int .i64 y, .pointer (some ⟨X, 0, none⟩)] w' fun e w'' => e = .returned (.int .i64 (cf x y)) ∧ ∃ m, w'' = w'.drewN m

set_option maxHeartbeats 4000000 in
theorem insort_any (G X n c : Nat) (pre mid post : List Int) (cf : Int → Int → Int) (Pd : Int → Prop) (w : World) (hn : n ≤ 1000) (hl : (pre ++ (mid ++ post)).length = n) (hb : IBlk w G (pre ++ (mid ++ post))) (hP : ∀ x ∈ mid, Pd x)
    (hcmp : Cmp 31 X cf Pd G w) :
    Calls Try.prog 72 #[.slice (some ⟨G, 0, none⟩) n c, .int .i64 (pre.length : Int), .int .i64 ((pre.length : Int) + (mid.length : Int)), .func (.func 31) #[] #[.pointer (some ⟨X, 0, none⟩)]] w fun e w' => e = .returned (.tuple #[]) ∧ IBlk w' G (pre ++ (srt cf mid ++ post)) ∧ w.grownBy w' (some G) := by
  have hpm : pre.length + mid.length + post.length = n := by rw [← hl]; simp; omega
  have HP := Lib.hid hP
  have HC := Lib.hid hcmp
  have hal : pre.length = pre.length := rfl
  obtain ⟨a, ha⟩ : ∃ a, a = pre.length := ⟨_, rfl⟩
  obtain ⟨m, hm⟩ : ∃ m, m = mid.length := ⟨_, rfl⟩
  rw [← ha, ← hm] at hpm ⊢
  have HA := Lib.hid ha; have HM := Lib.hid hm; have HB := Lib.hid hb
  have hmn : a + m ≤ n := by omega
  clear ha hm hl hpm hb hP hcmp hal
  go_enter Try.func72, Try.ntmps72
  go_wp2
  go_loopw [8, 9, 18, 19, 20, 21, 22, 23, 24, 25, 26, 27, 28, 29, 30, 31, 32, 33, 34, 37, 38, 39, 40, 41, 42, 43, 44, 45, 46, 47, 48, 49, 50, 51, 52] (fun iv _ _ _ _ _ _ _ _ _ _ _ _ _ _ _ _ _ _ _ _ _ _ _ _ _ _ _ _ _ _ _ _ _ _ wr => ∃ k : Nat, 1 ≤ k ∧ (k ≤ m ∨ k = 1) ∧ iv = .int .i64 ((a : Int) + (k : Int)) ∧ IBlk wr G (pre ++ (srt cf (mid.take k) ++ (mid.drop k ++ post))) ∧ w.grownBy wr (some G)) (fun iv _ _ _ _ _ _ _ _ _ _ _ _ _ _ _ _ _ _ _ _ _ _ _ _ _ _ _ _ _ _ _ _ _ _ _ => a + m - (intOf iv).toNat)
  case atStart =>
    refine ⟨1, Nat.le_refl _, .inr rfl, rfl, ?_, grown_drew w 0 _⟩
    have h1 : srt cf (mid.take 1) = mid.take 1 := by
      cases HMd : mid with
      | nil => rfl
      | cons x t => rfl
    rw [h1, ← List.append_assoc (mid.take 1), List.take_append_drop]
    exact HB.out
  case round =>
    obtain ⟨k, hk1, hkm, rfl, hbr, hgr⟩ := hrel
    have HBR := Lib.hid hbr
    clear hbr
    have hkn : a + k ≤ n + 1 := by omega
    by_cases hlt : k < m
    · have kk : (a : Int) + (k : Int) < (a : Int) + (m : Int) := by omega
      obtain ⟨x, hx⟩ : ∃ x, mid[k]? = some x := ⟨_, List.getElem?_eq_getElem (by rw [← HM.out]; exact hlt)⟩
      have hxP := HP.out x (List.mem_of_getElem? hx)
      have hsn : mid.take (k + 1) = mid.take k ++ [x] := by rw [List.take_add_one, hx]; rfl
      have hdr : mid.drop k = x :: mid.drop (k + 1) := by
        obtain ⟨h1, h2⟩ := List.getElem?_eq_some_iff.1 hx
        rw [List.drop_eq_getElem_cons h1, h2]
      have hsp : ∀ y ∈ srt cf (mid.take k), Pd y := fun y hy => HP.out y (List.mem_of_mem_take ((srt_perm cf _).subset hy))
      have hsl : (srt cf (mid.take k)).length = k := by rw [(srt_perm cf _).length_eq, List.length_take, ← HM.out]; omega
      have hsr : srt cf (mid.take (k + 1)) = (insRev cf x (srt cf (mid.take k)).reverse).reverse := by rw [hsn, srt_snoc]
      have hb0 := HBR.out
      rw [hdr] at hb0
      have HSR := Lib.hid hsr; have HSP := Lib.hid hsp; have HSL := Lib.hid hsl; have HXP := Lib.hid hxP; have HB0 := Lib.hid hb0
      clear hsn hdr hsp hsl hsr hb0 HBR hx hxP hkm
      generalize srt cf (mid.take k) = T at *
      obtain ⟨T2, hT2⟩ : ∃ T2, T2 = srt cf (mid.take (k + 1)) := ⟨_, rfl⟩
      obtain ⟨R, hR⟩ : ∃ R, R = mid.drop (k + 1) := ⟨_, rfl⟩
      rw [← hT2] at HSR
      rw [← hR] at HB0
      have HT2 := Lib.hid hT2; have HRD := Lib.hid hR
      clear hT2 hR
      go_wp2
      go_loopw [9, 18, 19, 20, 21, 22, 23, 24, 25, 26, 27, 28, 29, 30, 31, 32, 33, 34, 37, 38, 39, 40, 41, 42, 43, 44, 45, 46, 47, 48, 49, 50, 51, 52] (fun jv _ _ _ _ _ _ _ _ _ _ _ _ _ _ _ _ _ _ _ _ _ _ _ _ _ _ _ _ _ _ _ _ _ wx => ∃ (P S : List Int) (j : Nat), jv = .int .i64 (j : Int) ∧ Hid (j = a + P.length ∧ P.length + S.length = k ∧ insRev cf x T.reverse = S.reverse ++ insRev cf x P.reverse ∧ ∀ y ∈ P, Pd y) ∧ j < n ∧ IBlk wx G (pre ++ (P ++ (x :: (S ++ (R ++ post))))) ∧ w.grownBy wx (some G)) (fun jv _ _ _ _ _ _ _ _ _ _ _ _ _ _ _ _ _ _ _ _ _ _ _ _ _ _ _ _ _ _ _ _ _ _ => (intOf jv).toNat)
      case atStart =>
        refine ⟨T, [], a + k, by go_num, Lib.hid ⟨by rw [HSL.out], by rw [HSL.out]; rfl, by simp, HSP.out⟩, by omega, by simpa using HB0.out, hgr⟩
      case round =>
        obtain ⟨P, S, j, rfl, HI, hjn, hbx, hgx⟩ := hrel
        have HBX := Lib.hid hbx
        clear hbx
        rcases List.eq_nil_or_concat P with hPe | ⟨P', y, hPe⟩
        · have hj : ¬ a < j := by rw [HI.out.1, hPe]; simp
          have hj' : ¬ (a : Int) < (j : Int) := by omega
          have hfin := HBX.out
          rw [hPe, List.nil_append] at hfin
          have hT2 : T2 = x :: S := by
            rw [HSR.out, HI.out.2.2.1, hPe]
            simp [insRev]
          have HF := Lib.hid (show IBlk wr G (pre ++ (T2 ++ (R ++ post))) from by rw [hT2]; exact hfin)
          have hik : S.length = k := by have := HI.out.2.1; rw [hPe] at this; simpa using this
          clear hPe hfin hT2 HBX HI
          go_wp2
          go_quiet (fail)
          go_wp2
          refine ⟨⟨k + 1, by omega, by omega, by go_num, by rw [← HT2.out, ← HRD.out]; exact HF.out.drewN _, grown_trans hgx (grown_drew _ _ _)⟩, by simp [intOf]; omega⟩
        · have hPl : P.length = P'.length + 1 := by rw [hPe]; simp
          have hPy := HI.out.2.2.2
          obtain ⟨j', hj'⟩ : ∃ j', j = j' + 1 := ⟨a + P'.length, by have := HI.out.1; omega⟩
          have hyP : Pd y := hPy y (by rw [hPe]; simp)
          have hapos : j' = a + P'.length := by have := HI.out.1; omega
          have hb1 := HBX.out
          rw [hPe] at hb1
          have hb2 : IBlk wr G (pre ++ (P' ++ (y :: (x :: (S ++ (R ++ post)))))) := by simpa using hb1
          have hgy : (pre ++ (P' ++ (y :: (x :: (S ++ (R ++ post))))))[j']? = some y := by
            rw [List.getElem?_append_right (by rw [hapos, HA.out]; omega), List.getElem?_append_right (by rw [hapos, HA.out]; omega), show j' - pre.length - P'.length = 0 by rw [hapos, HA.out]; omega]; rfl
          have hgx' : (pre ++ (P' ++ (y :: (x :: (S ++ (R ++ post))))))[j' + 1]? = some x := by
            rw [List.getElem?_append_right (by rw [hapos, HA.out]; omega), List.getElem?_append_right (by rw [hapos, HA.out]; omega), show j' + 1 - pre.length - P'.length = 1 by rw [hapos, HA.out]; omega]; rfl
          have c0 := hb2.cell hgy
          have c1 := hb2.cell hgx'
          have f0 := hb2.frozen j'
          have f1 := hb2.frozen (j' + 1)
          have hset : ((pre ++ (P' ++ (y :: (x :: (S ++ (R ++ post)))))).set j' x).set (j' + 1) y = pre ++ (P' ++ (x :: (y :: (S ++ (R ++ post))))) := by
            rw [set_at pre P' y x _ (by rw [hapos, HA.out]), set_at' pre P' x x y _ (by rw [hapos, HA.out])]
          have hset2 : ((pre ++ (P' ++ (y :: (x :: (S ++ (R ++ post)))))).set (j' + 1) y).set j' x = pre ++ (P' ++ (x :: (y :: (S ++ (R ++ post))))) := by rw [← List.set_comm _ _ (by omega), hset]
          have hins : insRev cf x P.reverse = if cf x y < 0 then y :: insRev cf x P'.reverse else x :: P.reverse := by
            rw [hPe]; simp only [List.concat_eq_append, List.reverse_append, List.reverse_cons, List.reverse_nil, List.nil_append, List.singleton_append, insRev]
          have HS1 := Lib.hid hset; have HS2 := Lib.hid hset2; have HB2 := Lib.hid hb2; have HYP := Lib.hid hyP; have HINS := Lib.hid hins
          have hq := fun (q : Nat) => HC.out _ (grown_trans hgx (grown_drew _ q _)) x y HXP.out hyP
          have HQ := Lib.hid hq
          have ka : (a : Int) < (j' : Int) + 1 := by omega
          have ka2 : a < j' + 1 := by omega
          have ka3 : a ≤ j' := by omega
          have kn1 : (j' : Int) + 1 < (n : Int) := by omega
          have kn2 : (j' : Int) < (n : Int) := by omega
          have HPE := Lib.hid hPe; have HPL := Lib.hid hPl; have HPY := Lib.hid hPy; have HJ := Lib.hid hj'; have HAP := Lib.hid hapos
          subst hj'
          clear hPe hPl hPy hyP hapos hb1 hb2 hgy hgx' hset hset2 hins hq HBX HJ
          by_cases hcf : cf x y < 0
          · have HIN := Lib.hid (HINS.out.trans (if_pos hcf))
            generalize cf x y = d at *
            go_wp2
            go_quiet (refine Calls.quiet_of (HQ.out _))
            go_wp2
            go_region
            go_wp2
            have hI := HI.out
            refine ⟨⟨P', y :: S, j', by go_num, Lib.hid ⟨HAP.out, by have := hI.2.1; have := HPL.out; simp; omega, by rw [hI.2.2.1, HIN.out]; simp, fun z hz => HPY.out z (by rw [HPE.out]; simp [hz])⟩, by omega, ?_, ?_⟩, by simp [intOf]⟩
            · have h1 := ((HB2.out.drewN (nq + 1)).set_ (j' + 1) y).set_ j' x
              rw [HS2.out] at h1
              exact h1
            · exact grown_trans (grown_trans (grown_trans hgx (grown_drew _ _ _)) (grown_set' _ _ _ _)) (grown_set' _ _ _ _)
          · have HIN := Lib.hid (HINS.out.trans (if_neg hcf))
            generalize cf x y = d at *
            go_wp2
            go_quiet (refine Calls.quiet_of (HQ.out _))
            go_wp2
            have hT2 : T2 = P ++ (x :: S) := by
              rw [HSR.out, HI.out.2.2.1, HIN.out]
              simp
            have HF := Lib.hid (show IBlk wr G (pre ++ (T2 ++ (R ++ post))) from by rw [hT2, HPE.out]; simpa using HB2.out)
            refine ⟨⟨k + 1, by omega, by omega, by go_num, by rw [← HT2.out, ← HRD.out]; exact HF.out.drewN _, grown_trans hgx (grown_drew _ _ _)⟩, by simp [intOf]; omega⟩
    · have hkn : ¬ (a : Int) + (k : Int) < (a : Int) + (m : Int) := by omega
      have hfin := HBR.out
      rw [List.take_of_length_le (by rw [← HM.out]; omega), List.drop_of_length_le (by rw [← HM.out]; omega), List.nil_append] at hfin
      have HF := Lib.hid hfin
      clear hfin HBR
      go_wp2
      go_end0
      exact ⟨rfl, HF.out, hgr⟩

theorem stable_small (G X n c : Nat) (l : List Int) (cf : Int → Int → Int) (Pd : Int → Prop) (w : World) (hn : n < 20) (hl : l.length = n) (hb : IBlk w G l) (hP : ∀ x ∈ l, Pd x) (hcmp : Cmp 31 X cf Pd G w) :
    Calls Try.prog 51 #[.slice (some ⟨G, 0, none⟩) n c, .int .i64 (n : Int), .func (.func 31) #[] #[.pointer (some ⟨X, 0, none⟩)]] w fun e w' => e = .returned (.tuple #[]) ∧ IBlk w' G (srt cf l) ∧ w.grownBy w' (some G) := by
  have hi := insort_any G X n c [] l [] cf Pd w (by omega) (by simp [hl]) (by simpa using hb) hP hcmp
  rw [hl] at hi
  simp only [List.length_nil, Int.ofNat_zero, Int.natCast_zero, Int.zero_add, List.nil_append, List.append_nil] at hi
  have H := Lib.hid hi
  have k1 : ¬ (20 : Int) ≤ (n : Int) := by omega
  have k2 : ¬ (20 : Int) < (n : Int) := by omega
  clear hi hb hP hcmp hl
  go_enter Try.func51, Try.ntmps51
  go_wp2
  refine wp_loop_rounds 1 ?_
  rw [rounds_succ]
  go_wp2_with fail
  refine H.out.mono ?_
  rintro e w1 ⟨rfl, hb1, hg1⟩
  have HB1 := Lib.hid hb1
  clear hb1
  go_wp2
  refine wp_loop_rounds 1 ?_
  rw [rounds_succ]
  go_wp2
  go_end0
  exact ⟨rfl, HB1.out, hg1⟩
theorem sortstable_small (G X n c : Nat) (l : List Int) (cf : Int → Int → Int) (Pd : Int → Prop) (w : World) (hn : n < 20) (hl : l.length = n) (hb : IBlk w G l) (hP : ∀ x ∈ l, Pd x) (hcmp : Cmp 31 X cf Pd G w) :
    Calls Try.prog 30 #[.slice (some ⟨G, 0, none⟩) n c, .func (.func 31) #[] #[.pointer (some ⟨X, 0, none⟩)]] w fun e w' => e = .returned (.tuple #[]) ∧ IBlk w' G (srt cf l) ∧ w.grownBy w' (some G) := by
  have H := Lib.hid (stable_small G X n c l cf Pd w hn hl hb hP hcmp)
  clear hl hb hP hcmp
  go_enter Try.func30, Try.ntmps30
  go_wp2_with fail
  refine H.out.mono ?_
  rintro e w1 ⟨rfl, hb1, hg1⟩
  go_wp2_with fail
  go_end0
  exact ⟨rfl, hb1, hg1⟩
end Go.Proofs.Ytfjjjkfldekooaa
