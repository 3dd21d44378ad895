/-
  The walk of the library's stable sort at fewer than forty numbers.
-/
import Derived.Test.YtfjjjkfldekooaaWhSym3
namespace Go.Proofs.Ytfjjjkfldekooaa
open Go.RowKit
set_option linter.unusedVariables false
set_option linter.unusedSimpArgs false

theorem insRev_sorted (K : Int → Int) (cf : Int → Int → Int) (x : Int) (l : List Int) (h : l.Pairwise fun a b => K b ≤ K a) (hx : ∀ y ∈ l, (cf x y < 0 ↔ K x < K y)) : (insRev cf x l).Pairwise fun a b => K b ≤ K a := by
  induction l with
  | nil => simp [insRev]
  | cons y l ih =>
    rw [List.pairwise_cons] at h
    have hy := hx y (by simp)
    unfold insRev
    split
    · rename_i hlt
      rw [hy] at hlt
      refine List.pairwise_cons.2 ⟨fun z hz => ?_, ih h.2 (fun z hz => hx z (by simp [hz]))⟩
      rcases List.mem_cons.1 ((insRev_perm cf x l).subset hz) with rfl | hz
      · omega
      · exact h.1 z hz
    · rename_i hlt
      rw [hy] at hlt
      refine List.pairwise_cons.2 ⟨fun z hz => ?_, List.pairwise_cons.2 h⟩
      rcases List.mem_cons.1 hz with rfl | hz
      · omega
      · have := h.1 z hz; omega
theorem srt_sorted (K : Int → Int) (cf : Int → Int → Int) (t : List Int) (h : t.Pairwise fun y x => (cf x y < 0 ↔ K x < K y)) : SortK K (srt cf t) := by
  induction hn : t.length generalizing t with
  | zero =>
    obtain rfl : t = [] := List.length_eq_zero_iff.1 hn
    exact List.Pairwise.nil
  | succ n ih =>
    obtain ⟨u, x, rfl⟩ : ∃ u x, t = u ++ [x] := by
      rcases List.eq_nil_or_concat t with rfl | ⟨u, x, e⟩
      · simp at hn
      · exact ⟨u, x, by simpa using e⟩
    rw [List.pairwise_append] at h
    have h1 := ih u h.1 (by simp at hn; omega)
    rw [srt_snoc]
    unfold SortK
    rw [List.pairwise_reverse]
    refine insRev_sorted K cf x _ ?_ ?_
    · rw [List.pairwise_reverse]; exact h1
    · intro y hy
      rw [List.mem_reverse] at hy
      exact h.2.2 y ((srt_perm cf u).subset hy) x (by simp)

set_option maxRecDepth 100000 in
set_option maxHeartbeats 1000000 in
theorem stable_any (G X n c : Nat) (l : List Int) (cf : Int → Int → Int) (K : Int → Int) (Pd : Int → Prop) (w : World) (hn : n < 40) (hl : l.length = n) (hb : IBlk w G l) (hP : ∀ x ∈ l, Pd x) (hcmp : Cmp 31 X cf Pd G w)
    (hord : l.Pairwise fun y x => (cf x y < 0 ↔ K x < K y)) :
    Calls Try.prog 51 #[.slice (some ⟨G, 0, none⟩) n c, .int .i64 (n : Int), .func (.func 31) #[] #[.pointer (some ⟨X, 0, none⟩)]] w fun e w' => e = .returned (.tuple #[]) ∧ ∃ M, M.Perm l ∧ SortK K M ∧ IBlk w' G M ∧ w.grownBy w' (some G) := by
  by_cases h20 : n < 20
  · refine (stable_small G X n c l cf Pd w h20 hl hb hP hcmp).mono ?_
    rintro e w' ⟨rfl, h1, h2⟩
    exact ⟨rfl, _, srt_perm cf l, srt_sorted K cf l hord, h1, h2⟩
  · have hA := List.take_append_drop 20 l
    have hA1 : (l.take 20).length = 20 := by rw [List.length_take]; omega
    have hA2 : (l.drop 20).length = n - 20 := by rw [List.length_drop]; omega
    generalize l.take 20 = A at *
    generalize l.drop 20 = B at *
    subst hA
    rw [List.pairwise_append] at hord
    have hPA : ∀ x ∈ A, Pd x := fun x hx => hP x (by simp [hx])
    have hPB : ∀ x ∈ B, Pd x := fun x hx => hP x (by simp [hx])
    have i1 := insort_any G X n c [] A B cf Pd w (by omega) (by simpa using hl) (by simpa using hb) hPA hcmp
    rw [hA1] at i1
    have i1' : Calls Try.prog 72 #[.slice (some ⟨G, 0, none⟩) n c, .int .i64 0, .int .i64 20, .func (.func 31) #[] #[.pointer (some ⟨X, 0, none⟩)]] w fun e w' => e = .returned (.tuple #[]) ∧ IBlk w' G (srt cf A ++ B) ∧ w.grownBy w' (some G) := by simpa using i1
    have hsA : (srt cf A).length = 20 := by rw [(srt_perm cf A).length_eq, hA1]
    have i2 : Hid (∀ w1, w.grownBy w1 (some G) → IBlk w1 G (srt cf A ++ B) → Calls Try.prog 72 #[.slice (some ⟨G, 0, none⟩) n c, .int .i64 20, .int .i64 (n : Int), .func (.func 31) #[] #[.pointer (some ⟨X, 0, none⟩)]] w1 fun e w' => e = .returned (.tuple #[]) ∧ IBlk w' G (srt cf A ++ srt cf B) ∧ w1.grownBy w' (some G)) := Lib.hid (fun w1 hg hb1 => by
      have h := insort_any G X n c (srt cf A) B [] cf Pd w1 (by omega) (by simp [hsA, hA2]; omega) (by simpa using hb1) hPB (hcmp.at_ hg)
      rw [hsA, hA2] at h
      rw [show ((20 : Nat) : Int) = 20 from rfl, show (20 : Int) + ((n - 20 : Nat) : Int) = (n : Int) by omega] at h
      simpa using h)
    have hmA := srt_sorted K cf A hord.1
    have hmB := srt_sorted K cf B hord.2.1
    have hR2 : Runs2 K cf (srt cf A) (srt cf B) := ⟨hmA, hmB, fun x hx y hy => hord.2.2 x ((srt_perm cf A).subset hx) y ((srt_perm cf B).subset hy)⟩
    have i3 : Hid (∀ w1, w.grownBy w1 (some G) → 20 < n → IBlk w1 G (srt cf A ++ srt cf B) → Calls Try.prog 73 #[.slice (some ⟨G, 0, none⟩) n c, .int .i64 0, .int .i64 20, .int .i64 (n : Int), .func (.func 31) #[] #[.pointer (some ⟨X, 0, none⟩)]] w1 fun e w' => e = .returned (.tuple #[]) ∧ ∃ M, Merged K (srt cf A) (srt cf B) M ∧ IBlk w' G M ∧ w1.grownBy w' (some G)) := Lib.hid (fun w1 hg h2 hb1 => by
      have hlB : (srt cf B).length = n - 20 := by rw [(srt_perm cf B).length_eq, hA2]
      have h := symmerge_any X G n c cf K Pd (by omega) (n + 1) 0 20 n [] (srt cf A) (srt cf B) [] w1 (by omega) (by omega) (by omega) (by simp [hsA, hlB]; omega) (by simpa using hb1) (fun x hx => hPA x ((srt_perm cf A).subset hx)) (fun x hx => hPB x ((srt_perm cf B).subset hx)) (hcmp.at_ hg) hR2 rfl (by simp [hsA]) (by omega)
      rw [show ((20 : Nat) : Int) = 20 from rfl, show ((0 : Nat) : Int) = 0 from rfl] at h
      simpa using h)
    have hpp : (srt cf A ++ srt cf B).Perm (A ++ B) := (srt_perm cf A).append (srt_perm cf B)
    have I1 := Lib.hid i1'; have HPP := Lib.hid hpp; have HMA := Lib.hid hmA; have HA2 := Lib.hid hA2
    clear i1 i1' hcmp hP hPA hPB hb hl hmA hmB hR2 hpp hord hsA hA1 hA2
    by_cases h21 : 20 < n
    · have k1 : (20 : Int) ≤ (n : Int) := by omega
      have k2 : ¬ (40 : Int) ≤ (n : Int) := by omega
      have k3 : (20 : Int) < (n : Int) := by omega
      have k4 : ¬ (40 : Int) < (n : Int) := by omega
      go_enter Try.func51, Try.ntmps51
      go_wp2
      refine wp_loop_rounds 2 ?_
      rw [rounds_succ]
      go_wp2_with fail
      refine I1.out.mono ?_
      rintro e w1 ⟨rfl, hb1, hg1⟩
      have J2 := Lib.hid (i2.out _ hg1 hb1)
      clear hb1
      go_wp2
      rw [rounds_succ]
      go_wp2_with fail
      refine J2.out.mono ?_
      rintro e w2 ⟨rfl, hb2, hg2⟩
      have J3 := Lib.hid (i3.out _ (grown_trans hg1 hg2) h21 hb2)
      clear hb2
      go_wp2
      refine wp_loop_rounds 2 ?_
      rw [rounds_succ]
      go_wp2
      refine wp_loop_rounds 1 ?_
      rw [rounds_succ]
      go_wp2_with fail
      refine J3.out.mono ?_
      rintro e w3 ⟨rfl, M, hM, hb3, hg3⟩
      have HM := Lib.hid hM; have HB3 := Lib.hid hb3
      clear hM hb3
      go_wp2
      rw [rounds_succ]
      go_wp2
      go_end0
      exact ⟨rfl, M, HM.out.perm.trans HPP.out, HM.out.sorted, HB3.out, grown_trans (grown_trans hg1 hg2) hg3⟩
    · have hn20 : n = 20 := by omega
      subst hn20
      go_enter Try.func51, Try.ntmps51
      go_wp2
      refine wp_loop_rounds 2 ?_
      rw [rounds_succ]
      go_wp2_with fail
      refine I1.out.mono ?_
      rintro e w1 ⟨rfl, hb1, hg1⟩
      have J2 := Lib.hid (i2.out _ hg1 hb1)
      clear hb1
      go_wp2
      rw [rounds_succ]
      go_wp2_with fail
      refine J2.out.mono ?_
      rintro e w2 ⟨rfl, hb2, hg2⟩
      have HB2 := Lib.hid hb2
      clear hb2
      go_wp2
      refine wp_loop_rounds 1 ?_
      rw [rounds_succ]
      go_wp2
      go_end0
      have hB : B = [] := List.eq_nil_of_length_eq_zero (by have := HA2.out; omega)
      have hf := HB2.out
      have hpp := HPP.out
      rw [hB, show srt cf [] = [] from rfl, List.append_nil] at hf hpp
      rw [hB, List.append_nil]
      exact ⟨rfl, _, by simpa using hpp, HMA.out, hf, grown_trans hg1 hg2⟩
theorem sortstable_any (G X n c : Nat) (l : List Int) (cf : Int → Int → Int) (K : Int → Int) (Pd : Int → Prop) (w : World) (hn : n < 40) (hl : l.length = n) (hb : IBlk w G l) (hP : ∀ x ∈ l, Pd x) (hcmp : Cmp 31 X cf Pd G w)
    (hord : l.Pairwise fun y x => (cf x y < 0 ↔ K x < K y)) :
    Calls Try.prog 30 #[.slice (some ⟨G, 0, none⟩) n c, .func (.func 31) #[] #[.pointer (some ⟨X, 0, none⟩)]] w fun e w' => e = .returned (.tuple #[]) ∧ ∃ M, M.Perm l ∧ SortK K M ∧ IBlk w' G M ∧ w.grownBy w' (some G) := by
  have H := Lib.hid (stable_any G X n c l cf K Pd w hn hl hb hP hcmp hord)
  clear hl hb hP hcmp hord
  go_enter Try.func30, Try.ntmps30
  go_wp2_with fail
  refine H.out.mono ?_
  rintro e w1 ⟨rfl, hM⟩
  have HM := Lib.hid hM
  clear hM
  go_wp2_with fail
  go_end0
  exact ⟨rfl, HM.out⟩
end Go.Proofs.Ytfjjjkfldekooaa
