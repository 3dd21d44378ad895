/-
  The walk of suffix.Order at the empty text, and at one that is too long.
-/
import Derived.Test.YtfjjjkfldekooaaSfOrd
namespace Go.Proofs.Ytfjjjkfldekooaa
open Go.RowKit Go.Shelf
set_option linter.unusedVariables false
set_option linter.unusedSimpArgs false
attribute [local go_sem] Oper.semAt_some

set_option maxHeartbeats 1000000 in
set_option maxRecDepth 100000 in
theorem order_nil (s : ByteArray) (w : World) (hs : s.size ≤ 24) (h0 : s.size = 0) :
    Calls Try.prog 21 #[.string s] w fun e w' => ∃ A c, e = .returned (.tuple #[.slice A s.size c, .nilIface]) ∧ Reads w' A s.size 1 (ints (natsI (ordOf s.data.toList))) ∧ Below w.heap.size w w' := by
  have kk : (s.size : Int) ≤ 24 := by omega
  refine (callsIn_wide (n := 5)).1 ?_
  refine callsIn_of_wp_marks Try.func21 rfl trivial ?_
  simp only [Try.ntmps21, List.size_toArray, List.length_cons, List.length_nil, Nat.reduceAdd, Nat.reduceSub, Array.replicate_succ, Array.replicate_zero, List.push_toArray, List.append_toArray, List.nil_append, List.cons_append]
  refine wpIn_wide.2 ?_
  go_wp2_with fail
  refine (long1_ok s _ 24 _ (by simp) kk).mono ?_
  rintro e w1 ⟨rfl, rfl⟩
  go_wp2_with fail
  refine (ends_any s _).mono ?_
  rintro e w1 ⟨rfl, rfl⟩
  go_wp2_with fail
  generalize hW0 : ((((w.alloc (.cells #[.string s] 9)).alloc (.cells #[.string s] 9)).alloc (.cells #[.slice none 0 0] 30)).alloc (.cells #[.slice none 0 0] 30)).alloc (.cells #[.string s] 9) = W0
  obtain ⟨b5, h5⟩ : ∃ b5, b5 = w.heap.size + 1 + 1 := ⟨_, rfl⟩
  rw [← h5]
  obtain ⟨b6, h6⟩ : ∃ b6, b6 = b5 + 1 := ⟨_, rfl⟩
  rw [← h6]
  obtain ⟨bE, hE⟩ : ∃ bE, bE = b6 + 1 := ⟨_, rfl⟩
  rw [← hE]
  obtain ⟨hT0, hsz0, hE0⟩ := two_start w s b5 b6 bE h5 h6 hE W0 hW0.symm
  clear hW0 h5 h6 hE
  refine (wpIn_wide (n := 5)).1 ?_
  refine' wpIn_rangeFunc_ownG (F := Fence.wide) (n := 5) rfl (by decide) (gf := 47) (lb := #[.pointer (some ⟨bE, 0, none⟩)]) rfl trivial (enters_of Try.func47 (by kernel_rfl) rfl)
    (encs := fun x : Fin s.size => #[.int .i64 (x.val : Int), .string (s.extract x.val s.size)]) (Kp := fun W W' => W'.heap[bE]? = W.heap[bE]?) (S := fun ys => ys = List.finRange s.size) (Sp := fun _ => True) (N := s.size) (w0 := W0)
    (fun l J Jx W hW _ _ hY h0 => ends1_in Fence.wide 4 trivial rfl (by decide) l bE s (by omega) J Jx hY W ((hW.block bE (by omega)).trans hE0) h0)
    (fun h k => k.trans h) (fun W l o o' hl _ _ _ => World.putObj_heap_other (by omega)) (Below.refl _ _) (fun _ => rfl)
    (fun pre W => ∃ vo vr, Two w W s b5 b6 bE (bE + 1) vo vr vo vr (fidx pre) (fbts s pre) W ∧ pre.length ≤ s.size) (fun _ _ _ => False)
    ?hI (fun _ _ _ _ _ h _ _ => h) ⟨_, _, hT0, Nat.zero_le _⟩ _ ?assign ?body ?done ?stop
  case hI =>
    rintro pre W W' row ⟨vo, vr, hT, hl⟩ hg hr
    exact ⟨vo, vr, two_own hT hg (fun r e => by have := hr r e; rw [hsz0] at this; exact this), hl⟩
  case assign =>
    intro l x W K hK
    gi_wp2
    exact hK
  case body =>
    rintro l pre x W _ _
    exact absurd x.isLt (by omega)
  case done =>
    rintro D xs W hD rfl ⟨vo, vr, hT, hl⟩ hdef
    rename_i QQ KK hKK
    refine hKK _ _ ?_
    have c8 := (Boxed.new W 71 .nilFunc).cell
    have f8 := (Boxed.new W 71 .nilFunc).frozen
    go_wp2_with fail
    have l1 : (fidx (List.finRange s.size)).length = 0 := by simp [fidx, h0]
    have o1 := hT.own1
    rw [l1] at o1
    obtain ⟨A, co, rfl⟩ := own_slice o1
    generalize hW9 : (W.alloc (.cells #[.func (.func 42) #[] #[.pointer (some ⟨b6, 0, none⟩)]] 71)).alloc (.cells #[.int .i64 1] 3) = W9
    have B5 : Boxed W9 b5 30 (.slice A 0 co) := by rw [← hW9]; exact (hT.box5.alloc _).alloc _
    have B6 : Boxed W9 b6 30 vr := by rw [← hW9]; exact (hT.box6.alloc _).alloc _
    have B1 : Boxed W9 w.heap.size 9 (.string s) := by rw [← hW9]; exact (hT.box1.alloc _).alloc _
    have B9 : Boxed W9 (W.heap.size + 1) 3 (.int .i64 1) := by
      have := Boxed.new (W.alloc (.cells #[.func (.func 42) #[] #[.pointer (some ⟨b6, 0, none⟩)]] 71)) 3 (.int .i64 1)
      rw [← hW9]
      simpa using this
    have hDl : D < W.heap.size := (Array.getElem?_eq_some_iff.1 hdef).1
    have hB : Below w.heap.size w W9 := by rw [← hW9]; exact (hT.below.alloc hT.below.size _).alloc (by have := hT.below.size; simp; omega) _
    have hD9 : W9.heap[D]? = some (.deferred (some [])) := by
      rw [← hW9]
      exact (Below.heap_alloc _ _ _ (by simp; omega)).trans ((Below.heap_alloc _ _ _ hDl).trans hdef)
    have h96 := B9.lt
    have h6D : D ≠ b6 := by
      rintro rfl
      have := hT.box6
      unfold Boxed at this
      rw [hdef] at this
      cases this
    have n6 : b6 ≠ W.heap.size + 1 := by have := hT.box6.lt; omega
    obtain ⟨b9, hb9⟩ : ∃ b9, b9 = W.heap.size + 1 := ⟨_, rfl⟩
    rw [← hb9] at B9 h96 n6 ⊢
    have hD0 : w.heap.size ≤ D := by have := hT0.o5; have := hT0.o6; have := hT0.oE; omega
    have h61 : w.heap.size < b6 := by have := hT0.o5; have := hT0.o6; omega
    have h65 : b5 ≠ b6 := by have := hT0.o6; omega
    have hsn := AnyF.slices_SortFunc_none (P := Try.prog) (ρ := Try.sortF_ren) { Try.sortF with } A co (.func (.func 43) #[] #[.pointer (some ⟨W.heap.size, 0, none⟩), .pointer (some ⟨b9, 0, none⟩)]) W9
    change Calls Try.prog 46 _ _ _ at hsn
    have HS := Lib.hid hsn
    have c5 := B5.cell; have c1 := B1.cell
    clear hsn hT hT0 hW9 hdef hKK c8 f8 hb9 hDl o1 l1
    obtain ⟨b8, hb8⟩ : ∃ b8, b8 = W.heap.size := ⟨_, rfl⟩
    rw [← hb8] at HS ⊢
    clear hb8
    refine wp_loop_rounds 1 ?_
    rw [rounds_succ]
    go_wp2_with fail
    refine HS.out.mono ?_
    rintro e W1 ⟨rfl, rfl⟩
    have hmk := run_make_ints W1 (s.size : Int) 0 (by omega) (by omega)
    have hmk0 := run_make_ints W1 0 0 (by omega) (by omega)
    clear HS
    go_wp2_with fail
    generalize hWm : W1.alloc (.cells (ints []).toArray 3) = Wm
    have M5 : Boxed Wm b5 30 (.slice A 0 co) := by rw [← hWm]; exact B5.alloc _
    have M6 : Boxed Wm b6 30 vr := by rw [← hWm]; exact B6.alloc _
    have M1 : Boxed Wm w.heap.size 9 (.string s) := by rw [← hWm]; exact B1.alloc _
    have M9 : Boxed Wm b9 3 (.int .i64 1) := by rw [← hWm]; exact B9.alloc _
    have MD : Wm.heap[D]? = some (.deferred (some [])) := by rw [← hWm]; exact (Below.heap_alloc _ _ _ (Array.getElem?_eq_some_iff.1 hD9).1).trans hD9
    have MB : Below w.heap.size w Wm := by rw [← hWm]; exact hB.alloc hB.size _
    clear hWm c5 c1 hmk hmk0
    obtain ⟨u, hu⟩ : ∃ u : Value, u = .slice (some ⟨W1.heap.size, 0, none⟩) 0 0 := ⟨_, rfl⟩
    obtain ⟨Wn, hWn⟩ : ∃ Wn, Wn = Wm.setCell ⟨b6, 0, none⟩ u := ⟨_, rfl⟩
    have N5 : Boxed Wn b5 30 (.slice A 0 co) := by rw [hWn]; exact (Below.heap_setCell _ _ _ _ h65).trans M5
    have N1 : Boxed Wn w.heap.size 9 (.string s) := by rw [hWn]; exact (Below.heap_setCell _ _ _ _ (by show w.heap.size ≠ b6; omega)).trans M1
    have N9 : Boxed Wn b9 3 (.int .i64 1) := by rw [hWn]; exact (Below.heap_setCell _ _ _ _ (Ne.symm n6)).trans M9
    have ND : Wn.heap[D]? = some (.deferred (some [])) := by rw [hWn]; exact (Below.heap_setCell _ _ _ _ h6D).trans MD
    have NB : Below w.heap.size w Wn := by rw [hWn]; exact MB.setCell (p := ⟨b6, 0, none⟩) (by show w.heap.size ≤ b6; omega) _
    have c5 := M5.cell; have c6 := M6.cell; have f6 := M6.frozen
    rw [hu] at hWn
    have d5 := N5.cell; have d1 := N1.cell; have d9 := N9.cell
    rw [hWn] at d5 d1 d9
    refine wp_loop_rounds 1 ?_
    rw [rounds_succ]
    go_wp2_with fail
    rw [← hWn]
    refine ⟨by simp, .inl ⟨_, _, rfl, run_takeDeferred ND, ?_⟩⟩
    refine ⟨_, results_tmp2 rfl _ _ _, ?_⟩
    refine ⟨_, _, by rw [h0]; rfl, ?_, NB.trans (belowK_b (w := w) (Nat.le_refl _) _ D _ _ hD0 ND rfl rfl)⟩
    have hn : ordOf s.data.toList = [] := List.eq_nil_of_length_eq_zero (by have := (ordOf_is s.data.toList).perm.length_eq; simpa [h0] using this)
    rw [hn, h0]
    exact Reads.nil _ _
  case stop => exact fun _ _ _ _ _ _ h _ => h.elim
theorem order_all (s : ByteArray) (w : World) (hs : s.size ≤ 24) :
    Calls Try.prog 21 #[.string s] w fun e w' => ∃ A c, e = .returned (.tuple #[.slice A s.size c, .nilIface]) ∧ Reads w' A s.size 1 (ints (natsI (ordOf s.data.toList))) ∧ Below w.heap.size w w' := by
  by_cases h0 : 0 < s.size
  · exact order_ok s w hs h0
  · exact order_nil s w hs (by omega)
theorem order_no (s : ByteArray) (w : World) (hs : 24 < s.size) :
    Calls Try.prog 21 #[.string s] w fun e w' => e = .returned (.tuple #[.slice none 0 0, .iface 59 (.int .i64 4)]) ∧ Below w.heap.size w w' := by
  have kk : (24 : Int) < (s.size : Int) := by omega
  refine (callsIn_wide (n := 5)).1 ?_
  refine callsIn_of_wp_marks Try.func21 rfl trivial ?_
  simp only [Try.ntmps21, List.size_toArray, List.length_cons, List.length_nil, Nat.reduceAdd, Nat.reduceSub, Array.replicate_succ, Array.replicate_zero, List.push_toArray, List.append_toArray, List.nil_append, List.cons_append]
  refine wpIn_wide.2 ?_
  go_wp2_with fail
  refine (long1_no s _ 24 _ (by simp) kk).mono ?_
  rintro e w1 ⟨rfl, rfl⟩
  go_wp2_with fail
  exact ⟨_, results_tmp2 rfl _ _ _, rfl, bmore (bnew _ _) _⟩
end Go.Proofs.Ytfjjjkfldekooaa
