/-
  The walk of wheel.There at the empty text.
-/
import Derived.Test.YtfjjjkfldekooaaWhNo
namespace Go.Proofs.Ytfjjjkfldekooaa
open Go.RowKit Go.Shelf
set_option linter.unusedVariables false
set_option linter.unusedSimpArgs false
attribute [local go_sem] Oper.semAt_some

set_option maxHeartbeats 1000000 in
set_option maxRecDepth 100000 in
theorem there_nil (s : ByteArray) (w : World) (h0 : s.size = 0) :
    Calls Try.prog 9 #[.string s] w fun e w' => e = .returned (.tuple #[.string ⟨#[]⟩, .int .i64 0, .nilIface]) ∧ Below w.heap.size w w' := by
  have kk : (s.size : Int) ≤ 24 := by omega
  refine (callsIn_wide (n := 5)).1 ?_
  refine callsIn_of_wp_marks Try.func9 rfl trivial ?_
  simp only [Try.ntmps9, List.size_toArray, List.length_cons, List.length_nil, Nat.reduceAdd, Nat.reduceSub, Array.replicate_succ, Array.replicate_zero, List.push_toArray, List.append_toArray, List.nil_append, List.cons_append]
  refine wpIn_wide.2 ?_
  go_wp2_with fail
  refine (long1_ok s _ 24 _ (by simp) kk).mono ?_
  rintro e w1 ⟨rfl, rfl⟩
  go_wp2_with fail
  refine (ends_any s _).mono ?_
  rintro e w1 ⟨rfl, rfl⟩
  go_wp2_with fail
  generalize hW0 : (((w.alloc (.cells #[.string s] 9)).alloc (.cells #[.string s] 9)).alloc (.cells #[.slice none 0 0] 47)).alloc (.cells #[.string s] 9) = W0
  obtain ⟨b6, h6⟩ : ∃ b6, b6 = w.heap.size + 1 + 1 := ⟨_, rfl⟩
  rw [← h6]
  obtain ⟨bE, hE⟩ : ∃ bE, bE = b6 + 1 := ⟨_, rfl⟩
  rw [← hE]
  obtain ⟨hT0, hsz0, hE0⟩ := one_start w s b6 bE h6 hE W0 hW0.symm
  clear hW0 h6 hE
  refine (wpIn_wide (n := 5)).1 ?_
  refine' wpIn_rangeFunc_ownG (F := Fence.wide) (n := 5) rfl (by decide) (gf := 47) (lb := #[.pointer (some ⟨bE, 0, none⟩)]) rfl trivial (enters_of Try.func47 (by kernel_rfl) rfl)
    (encs := fun x : Fin s.size => #[.int .i64 (x.val : Int), .string (s.extract x.val s.size)]) (Kp := fun W W' => W'.heap[bE]? = W.heap[bE]?) (S := fun ys => ys = List.finRange s.size) (Sp := fun _ => True) (N := s.size) (w0 := W0)
    (fun l J Jx W hW _ _ hY h0 => ends1_in Fence.wide 4 trivial rfl (by decide) l bE s (by omega) J Jx hY W ((hW.block bE (by omega)).trans hE0) h0)
    (fun h k => k.trans h) (fun W l o o' hl _ _ _ => World.putObj_heap_other (by omega)) (Below.refl _ _) (fun _ => rfl)
    (fun pre W => ∃ vo, One w W s b6 bE (bE + 1) vo vo (trnB s pre) W ∧ pre.length ≤ s.size) (fun _ _ _ => False)
    ?hI (fun _ _ _ _ _ h _ _ => h) ⟨_, hT0, Nat.zero_le _⟩ _ ?assign ?body ?done ?stop
  case hI =>
    rintro pre W W' row ⟨vo, hT, hl⟩ hg hr
    exact ⟨vo, hT.own_ hg (fun r e => by have := hr r e; rw [hsz0] at this; exact this), hl⟩
  case assign =>
    intro l x W K hK
    gi_wp2
    exact hK
  case body =>
    rintro l pre x W _ _
    exact absurd x.isLt (by omega)
  case stop => exact fun _ _ _ _ _ _ h _ => h.elim
  case done =>
    rintro D xs W hD rfl ⟨vo, hT, hl⟩ hdef
    rename_i QQ KK hKK
    refine hKK _ _ ?_
    have hln : (trnB s (List.finRange s.size)).length = 0 := by simp [trnB, h0]
    obtain ⟨A, co, rfl⟩ := own_slice hT.own1
    rw [hln] at hT
    have c6 := hT.box6.cell
    have HSO := Lib.hid (Try.slices_Sort_string_none A co W)
    go_wp2_with fail
    refine HSO.out.mono ?_
    rintro e W1 ⟨rfl, rfl⟩
    have x6' := hT.box6.alloc (.cells #[.pointer none, .slice none 0 0] 55)
    have x1' := hT.box1.alloc (.cells #[.pointer none, .slice none 0 0] 55)
    have d6 := x6'.cell
    have hIs := Sb.Is.new W1 (W1.heap.size + 1)
    have hlt6 := hT.box6.lt
    have hlt1 := hT.box1.lt
    have hDl1 : D < W1.heap.size := (Array.getElem?_eq_some_iff.1 hdef).1
    have hd2 := (Below.heap_alloc W1 (.cells #[.pointer none, .slice none 0 0] 55) D hDl1).trans hdef
    have hloD : w.heap.size ≤ D := by have := hT0.o6; have := hT0.oE; omega
    have HB2 : Below w.heap.size w (W1.alloc (.cells #[.pointer none, .slice none 0 0] 55)) := bmore hT.below _
    have hlw := hT.below.size
    have hsz2 : (W1.alloc (.cells #[.pointer none, .slice none 0 0] 55)).heap.size = W1.heap.size + 1 := by simp
    clear hT hdef hD hKK hT0 hE0 hsz0 c6
    go_wp2
    obtain ⟨b, hbd⟩ : ∃ b, b = W1.heap.size := ⟨_, rfl⟩
    rw [← hbd] at hIs hDl1 hlt6 hlt1 hlw hsz2 ⊢
    generalize W1.alloc (.cells #[.pointer none, .slice none 0 0] 55) = W2 at *
    clear hbd
    go_loopw [11, 34, 35, 36, 37, 38, 39, 40, 41, 42, 43, 44] (fun _ v34 _ _ _ _ _ _ _ _ _ _ wr => v34 = .int .i64 0 ∧ wr = W2) (fun _ _ _ _ _ _ _ _ _ _ _ _ _ => 0)
    case atStart => exact ⟨rfl, rfl⟩
    case round =>
      obtain ⟨rfl, rfl⟩ := hrel
      have HST := Lib.hid (Sb.string_any wr.drew (b + 1) b [] hIs.drew (by omega) (by show b + 1 ≤ wr.heap.size; omega))
      have HIX : Hid (∀ X : World, Calls Try.prog 28 #[.slice A 0 co, .string s] X fun e w' => e = .returned (.int .i64 (-1)) ∧ X = w') := Lib.hid (fun X => by
        have h := index_text A co [] s X ⟨rfl, fun h => absurd h (by simp)⟩ (by simp)
        refine h.mono ?_
        rintro e w' ⟨⟨n, rfl, hn⟩, rfl⟩
        rcases hn with ⟨rfl, _⟩ | ⟨j, rfl, h1, _⟩
        · exact ⟨rfl, rfl⟩
        · simp at h1)
      have HTR : Hid (∀ X, Sb.But (b + 1) b wr.drew X → X.cell? ⟨b6, 0, none⟩ = some (.slice A 0 co) ∧ X.cell? ⟨w.heap.size, 0, none⟩ = some (.string s)) := Lib.hid (fun X hX =>
        ⟨(hX.cell (p := ⟨b6, 0, none⟩) (by show b6 < _; omega) (by show b6 ≠ b; omega)).trans x6'.cell, (hX.cell (p := ⟨w.heap.size, 0, none⟩) (by show w.heap.size < _; omega) (by show w.heap.size ≠ b; omega)).trans x1'.cell⟩)
      have hBd : Sb.But (b + 1) b wr.drew wr.drew := ⟨rfl, rfl, rfl, Nat.le_refl _, fun _ _ _ => rfl⟩
      obtain ⟨y6, y1⟩ := HTR.out wr.drew hBd
      go_wp2_with fail
      go_region_held3 (fun X => X.cell? ⟨b6, 0, none⟩ = some (.slice A 0 co) ∧ X.cell? ⟨w.heap.size, 0, none⟩ = some (.string s)) (first | exact ⟨y6, y1⟩ | exact ⟨z6, z1⟩) (first
        | (go_at_call 27; refine HST.out.mono ?_; rintro e w5 ⟨rfl, hB6⟩; obtain ⟨z6, z1⟩ := HTR.out w5 hB6)
        | (go_at_call 28; refine (HIX.out _).mono ?_; rintro e w6 ⟨rfl, rfl⟩))
      all_goals (try go_wp2)
      all_goals
        have hdW := (hB6.block D (by omega) (by omega)).trans hd2
        refine ⟨by simp, .inl ⟨_, _, rfl, run_takeDeferred hdW, ?_⟩⟩
        refine ⟨_, results_tmp3 rfl _ _ _, ?_⟩
        exact ⟨rfl, (HB2.drew.trans ((hB6.below (C := b) (by omega) (Nat.le_refl _)).mono (by omega))).trans (belowK_b (w := w) (Nat.le_refl _) _ D _ _ hloD hdW rfl rfl)⟩
end Go.Proofs.Ytfjjjkfldekooaa
