/-
  The walk of suffix.Order.
-/
import Derived.Test.YtfjjjkfldekooaaTwo
import Derived.Laws.EntriesVeiled
import Derived.Test.YtfjjjkfldekooaaSfStart
import Derived.Shelf.SlSortCmp.QuietGrown
import Derived.Test.YtfjjjkfldekooaaLong1
import Derived.Test.YtfjjjkfldekooaaOwn
import Derived.Deep.LoopGhost
import Derived.StillTailTactics
namespace Go.Proofs.Ytfjjjkfldekooaa
open Go.RowKit Go.Shelf
set_option linter.unusedVariables false
set_option linter.unusedSimpArgs false
attribute [local go_sem] Oper.semAt_some

theorem bts_bound (s : ByteArray) (i : Nat) : 0 ≤ bts s i ∧ bts s i ≤ 255 := by
  unfold bts
  have := (s.data.toList[i]?.getD 0).toNat_lt
  omega
theorem index_bts (s : ByteArray) (i : Nat) (hi : i < s.size) (W : World) : (Instr.index 9 (.string s) (.int .i64 (i : Int))).run Try.prog W = .ok (.int .u8 (bts s i)) W := by
  have hd : i < s.data.toList.length := by simpa using hi
  rw [run_index_string W _ s _ _ Try.underlying9, dif_pos ⟨by omega, by omega⟩]
  unfold bts
  rw [List.getElem?_eq_getElem hd]
  simp
  rfl
theorem Two.self {w W0 W : World} {s : ByteArray} {b5 b6 bE base : Nat} {x5 x6 vo vr : Value} {lo lr : List Int} (h : Two w W0 s b5 b6 bE base x5 x6 vo vr lo lr W) : Two w W s b5 b6 bE base x5 x6 vo vr lo lr W :=
  { h with keeps := KeepsFrom.refl _ _, boxE := rfl, ltE := by have := h.lt; have := h.ob; omega }
theorem Two.newcell {w W0 W : World} {s : ByteArray} {b5 b6 bE base : Nat} {x5 x6 vo vr : Value} {lo lr : List Int} (h : Two w W0 s b5 b6 bE base x5 x6 vo vr lo lr W) (u : Value) : (W.alloc (.cells #[u] 3)).cell? ⟨W.heap.size, 0, none⟩ = some u := (Boxed.new W 3 u).cell
theorem two_own {w W W' : World} {s : ByteArray} {b5 b6 bE base : Nat} {vo vr : Value} {lo lr : List Int} {row : Option Nat} (h : Two w W s b5 b6 bE base vo vr vo vr lo lr W) (hg : W.grownBy W' row) (hr : ∀ r, row = some r → base ≤ r ∧ ∃ o : Obj, W.heap[r]? = some o ∧ o.isCells = false) :
    Two w W' s b5 b6 bE base vo vr vo vr lo lr W' := by
  have far : ∀ k, k < base → some k ≠ row := fun k hk e => by have := (hr k e.symm).1; omega
  have own : ∀ {v : Value} {n : Nat} {xs : List Value}, W.ownsRow base 3 1 v n xs → v.ownBlock = none ∨ v.ownBlock ≠ row := fun {v n xs} hw => by
    cases hv : v.ownBlock with
    | none => exact .inl rfl
    | some j =>
      refine .inr fun e => ?_
      obtain ⟨_, o, ho, hc⟩ := hr j e.symm
      rw [Two.row_cells hw j o hv ho] at hc
      cases hc
  exact { h with
    box1 := h.box1.kept hg (far _ (by have := h.o5; have := h.o6; have := h.oE; have := h.ob; omega)), box5 := h.box5.kept hg (far _ (by have := h.o6; have := h.oE; have := h.ob; omega)), box6 := h.box6.kept hg (far _ (by have := h.oE; have := h.ob; omega))
    own1 := h.own1.kept hg (own h.own1), own2 := h.own2.kept hg (own h.own2)
    below := h.below.grown hg h.below.size (fun k hk => by have := (hr k hk).1; have := h.o5; have := h.o6; have := h.oE; have := h.ob; omega)
    keeps := KeepsFrom.refl _ _, boxE := rfl, ltE := Nat.lt_of_lt_of_le h.ltE hg.size, lt := Nat.le_trans h.lt hg.size }

theorem nx_step {lt : Nat → Nat → Bool} {f : Nat → Nat} {n t q : Nat} {nx : List Int} (hl : nx.length = n) (hq : q = f t) (hqn : q < n) (hfi : ∀ t u, t < n → u < n → t ≠ u → f t ≠ f u) (ht : t < n) (hnu : ∀ u, u < t → nx[f u]? = some ((cnt lt f u : Nat) : Int)) (y : Int) (hy : y = ((cnt lt f t : Nat) : Int)) :
    ∀ u, u < t + 1 → (nx.set q y)[f u]? = some ((cnt lt f u : Nat) : Int) := by
  intro u hu
  by_cases hut : u = t
  · subst hut
    rw [← hq, List.getElem?_set_self (by omega), hy]
  · have := hfi u t (by omega) ht hut
    rw [List.getElem?_set_ne (by omega)]
    exact hnu u (by omega)

theorem two_start (w : World) (s : ByteArray) (b5 b6 bE : Nat) (h5 : b5 = w.heap.size + 1 + 1) (h6 : b6 = b5 + 1) (hE : bE = b6 + 1) (W : World) (hW : W = ((((w.alloc (.cells #[.string s] 9)).alloc (.cells #[.string s] 9)).alloc (.cells #[.slice none 0 0] 30)).alloc (.cells #[.slice none 0 0] 30)).alloc (.cells #[.string s] 9)) :
    Two w W s b5 b6 bE (bE + 1) (.slice none 0 0) (.slice none 0 0) (.slice none 0 0) (.slice none 0 0) [] [] W ∧ W.heap.size = bE + 1 ∧ W.heap[bE]? = some (.cells #[.string s] 9 (0, 0)) := by
  subst hE h6 h5 hW
  refine ⟨⟨by omega, by omega, by omega, by omega, ((((Boxed.new w _ _).alloc _).alloc _).alloc _).alloc _, ?_, ?_, World.ownsRow_nil _ _ _ _, World.ownsRow_nil _ _ _ _, .inl rfl, bmore (bmore (bmore (bmore (bmore (Below.refl _ _) _) _) _) _) _, KeepsFrom.refl _ _, rfl, by simp, by simp⟩, by simp, ?_⟩
  · have := ((Boxed.new ((w.alloc (.cells #[.string s] 9)).alloc (.cells #[.string s] 9)) 30 (.slice none 0 0)).alloc (.cells #[.slice none 0 0] 30)).alloc (.cells #[.string s] 9)
    simpa using this
  · have := (Boxed.new (((w.alloc (.cells #[.string s] 9)).alloc (.cells #[.string s] 9)).alloc (.cells #[.slice none 0 0] 30)) 30 (.slice none 0 0)).alloc (.cells #[.string s] 9)
    simpa using this
  · have := heap_alloc_new ((((w.alloc (.cells #[.string s] 9)).alloc (.cells #[.string s] 9)).alloc (.cells #[.slice none 0 0] 30)).alloc (.cells #[.slice none 0 0] 30)) (.cells #[.string s] 9)
    simpa using this

set_option maxHeartbeats 1000000 in
set_option maxRecDepth 100000 in
theorem order_ok (s : ByteArray) (w : World) (hs : s.size ≤ 24) (h0 : 0 < s.size) :
    Calls Try.prog 21 #[.string s] w fun e w' => ∃ A c, e = .returned (.tuple #[.slice A s.size c, .nilIface]) ∧ Reads w' A s.size 1 (ints (natsI (ordOf s.data.toList))) ∧ Below w.heap.size w w' := by
  have kk : (s.size : Int) ≤ 24 := by omega
  refine (callsIn_wide (n := 5)).1 ?_
  refine callsIn_of_wp_marks Try.func21 rfl trivial ?_
  simp only [Try.ntmps21, List.size_toArray, List.length_cons, List.length_nil, Nat.reduceAdd, Nat.reduceSub, Array.replicate_succ, Array.replicate_zero, List.push_toArray, List.append_toArray, List.nil_append, List.cons_append]
  refine wpIn_wide.2 ?_
  go_wp2_with fail
  refine (long1_ok s _ 24 _ (by simp) kk).mono ?_
  rintro e w1 ⟨rfl, rfl⟩
  go_wp2_with fail
  refine (ends_any s _).mono ?_
  rintro e w1 ⟨rfl, rfl⟩
  go_wp2_with fail
  generalize hW0 : ((((w.alloc (.cells #[.string s] 9)).alloc (.cells #[.string s] 9)).alloc (.cells #[.slice none 0 0] 30)).alloc (.cells #[.slice none 0 0] 30)).alloc (.cells #[.string s] 9) = W0
  obtain ⟨b5, h5⟩ : ∃ b5, b5 = w.heap.size + 1 + 1 := ⟨_, rfl⟩
  rw [← h5]
  obtain ⟨b6, h6⟩ : ∃ b6, b6 = b5 + 1 := ⟨_, rfl⟩
  rw [← h6]
  obtain ⟨bE, hE⟩ : ∃ bE, bE = b6 + 1 := ⟨_, rfl⟩
  rw [← hE]
  obtain ⟨hT0, hsz0, hE0⟩ := two_start w s b5 b6 bE h5 h6 hE W0 hW0.symm
  clear hW0 h5 h6 hE
  refine (wpIn_wide (n := 5)).1 ?_
  refine' wpIn_rangeFunc_ownG (F := Fence.wide) (n := 5) rfl (by decide) (gf := 47) (lb := #[.pointer (some ⟨bE, 0, none⟩)]) rfl trivial (enters_of Try.func47 (by kernel_rfl) rfl)
    (encs := fun x : Fin s.size => #[.int .i64 (x.val : Int), .string (s.extract x.val s.size)]) (Kp := fun W W' => W'.heap[bE]? = W.heap[bE]?) (S := fun ys => ys = List.finRange s.size) (Sp := fun _ => True) (N := s.size) (w0 := W0)
    (fun l J Jx W hW _ _ hY h0 => ends1_in Fence.wide 4 trivial rfl (by decide) l bE s (by omega) J Jx hY W ((hW.block bE (by omega)).trans hE0) h0)
    (fun h k => k.trans h) (fun W l o o' hl _ _ _ => World.putObj_heap_other (by omega)) (Below.refl _ _) (fun _ => rfl)
    (fun pre W => ∃ vo vr, Two w W s b5 b6 bE (bE + 1) vo vr vo vr (fidx pre) (fbts s pre) W ∧ pre.length ≤ s.size) (fun _ _ _ => False)
    ?hI (fun _ _ _ _ _ h _ _ => h) ⟨_, _, hT0, Nat.zero_le _⟩ _ ?assign ?body ?done ?stop
  case hI =>
    rintro pre W W' row ⟨vo, vr, hT, hl⟩ hg hr
    exact ⟨vo, vr, two_own hT hg (fun r e => by have := hr r e; rw [hsz0] at this; exact this), hl⟩
  case assign =>
    intro l x W K hK
    gi_wp2
    exact hK
  case body =>
    rintro l pre x W ⟨vo, vr, hT, hlp⟩ hlt
    gi_wp2
    refine region_late (S := fun W1 => W1.cell? ⟨b5, 0, none⟩ = some vo ∧ W1.cell? ⟨b6, 0, none⟩ = some vr ∧ W1.cell? ⟨w.heap.size, 0, none⟩ = some (.string s)) (st := [11, 12]) (by kernel_rfl) (by kernel_rfl) (by rintro ⟨a, w, h⟩; exact h) ?_
    obtain ⟨Wd, hWd⟩ : ∃ Wd, Wd = W.drew := ⟨_, rfl⟩
    have hT : Two w W s b5 b6 bE (bE + 1) vo vr vo vr (fidx pre) (fbts s pre) Wd := by rw [hWd]; exact hT.drew
    rw [← hWd]
    clear hWd
    have hix : ∀ W1, (Instr.index 9 (.string s) (.int .i64 (x.val : Int))).run Try.prog W1 = .ok (.int .u8 (bts s x.val)) W1 := fun W1 => index_bts s x.val x.isLt W1
    have hbb := bts_bound s x.val
    have hwr : IntKind.i64.wrap (bts s x.val) = bts s x.val := IntWalk.i64_in _ ⟨by omega, by omega⟩
    obtain ⟨i0, hi0, hz0, hz1, hz2⟩ := info_parts infoI
    have hl1 : (fidx pre).length ≤ 24 := by simp [fidx]; omega
    have hl2 : (fbts s pre).length ≤ 24 := by simp [fbts]; omega
    show Walk _ _ _ _ _ _ 13 _ _ _
    refine walk_take (i := 0) (v := ?_) [[11, 3, 0], [12, 11, 3, 0]] rfl (by kernel_rfl) (by kernel_rfl) (by kernel_rfl) (by kernel_rfl) (fun _ _ _ h => h) (Or.inl ⟨by rfl, ?_⟩) (⟨hT.box5.cell, hT.box6.cell, hT.box1.cell⟩) ?_
    rotate_left
    · rintro W1 ⟨s5, s6, s1⟩; go_simp; try with_reducible rfl
    try simp only [Act.put, List.setIfInBounds_toArray, List.set_cons_zero, List.set_cons_succ]
    refine walk_take (i := 1) (v := ?_) [[11, 3, 2, 1], [12, 11, 3, 2, 1]] rfl (by kernel_rfl) (by kernel_rfl) (by kernel_rfl) (by kernel_rfl) (fun _ _ _ h => h) (Or.inl ⟨by rfl, ?_⟩) (⟨hT.box5.cell, hT.box6.cell, hT.box1.cell⟩) ?_
    rotate_left
    · rintro W1 ⟨s5, s6, s1⟩; go_simp; try with_reducible rfl
    try simp only [Act.put, List.setIfInBounds_toArray, List.set_cons_zero, List.set_cons_succ]
    refine walk_take (i := 4) (v := ?_) [[11, 10, 4], [12, 10, 4]] rfl (by kernel_rfl) (by kernel_rfl) (by kernel_rfl) (by kernel_rfl) (fun _ _ _ h => h) (Or.inl ⟨by rfl, ?_⟩) (⟨hT.box5.cell, hT.box6.cell, hT.box1.cell⟩) ?_
    rotate_left
    · rintro W1 ⟨s5, s6, s1⟩; go_simp; try with_reducible rfl
    try simp only [Act.put, List.setIfInBounds_toArray, List.set_cons_zero, List.set_cons_succ]
    refine walk_take (i := 5) (v := ?_) [[11, 10, 9, 8, 7, 5], [12, 10, 9, 8, 7, 5]] rfl (by kernel_rfl) (by kernel_rfl) (by kernel_rfl) (by kernel_rfl) (fun _ _ _ h => h) (Or.inl ⟨by rfl, ?_⟩) (⟨hT.box5.cell, hT.box6.cell, hT.box1.cell⟩) ?_
    rotate_left
    · rintro W1 ⟨s5, s6, s1⟩; go_simp; try with_reducible rfl
    try simp only [Act.put, List.setIfInBounds_toArray, List.set_cons_zero, List.set_cons_succ]
    refine walk_take (i := 6) (v := ?_) [[11, 10, 9, 8, 7, 6], [12, 10, 9, 8, 7, 6]] rfl (by kernel_rfl) (by kernel_rfl) (by kernel_rfl) (by kernel_rfl) (fun _ _ _ h => h) (Or.inl ⟨by rfl, ?_⟩) (⟨hT.box5.cell, hT.box6.cell, hT.box1.cell⟩) ?_
    rotate_left
    · rintro W1 ⟨s5, s6, s1⟩; go_simp; try with_reducible rfl
    try simp only [Act.put, List.setIfInBounds_toArray, List.set_cons_zero, List.set_cons_succ]
    refine walk_take (i := 7) (v := ?_) [[11, 10, 9, 8, 7], [12, 10, 9, 8, 7]] rfl (by kernel_rfl) (by kernel_rfl) (by kernel_rfl) (by kernel_rfl) (fun _ _ _ h => h) (Or.inl ⟨by rfl, ?_⟩) (⟨hT.box5.cell, hT.box6.cell, hT.box1.cell⟩) ?_
    rotate_left
    · rintro W1 ⟨s5, s6, s1⟩; go_simp; try with_reducible rfl
    try simp only [Act.put, List.setIfInBounds_toArray, List.set_cons_zero, List.set_cons_succ]
    refine walk_take (i := 8) (v := ?_) [[11, 10, 9, 8], [12, 10, 9, 8]] rfl (by kernel_rfl) (by kernel_rfl) (by kernel_rfl) (by kernel_rfl) (fun _ _ _ h => h) (Or.inl ⟨by rfl, ?_⟩) (⟨hT.box5.cell, hT.box6.cell, hT.box1.cell⟩) ?_
    rotate_left
    · rintro W1 ⟨s5, s6, s1⟩; go_simp; try with_reducible rfl
    try simp only [Act.put, List.setIfInBounds_toArray, List.set_cons_zero, List.set_cons_succ]
    refine walk_ready (rs := [2, 9]) (by kernel_rfl) (by simp) ?_
    refine Each.cons rfl (fun K hK => ?_) (Each.cons rfl (fun K hK => ?_) Each.nil)
    · skip
      go_simp
      have T1 := hT.alloc (.cells #[.int .i64 (x.val : Int)] 3)
      have d21 := hT.newcell (.int .i64 (x.val : Int))
      try simp only [World.size_alloc] at d21
      refine hK.out _ _ (fun _ => ⟨T1.box5.cell, T1.box6.cell, T1.box1.cell⟩) ?_
      clear hK K
      try simp only [Act.put, List.setIfInBounds_toArray, List.set_cons_zero, List.set_cons_succ]
      refine walk_ready (rs := [3, 9]) (by kernel_rfl) (by simp) ?_
      refine Each.cons rfl (fun K hK => ?_) (Each.cons rfl (fun K hK => ?_) Each.nil)
      · skip
        refine step_append1 rfl _ _ 30 rfl (bE + 1) 3 i0 _ 8 Try.underlying30 hi0 hz0 hz1 hz2 rfl vo _ _ rfl T1.own1 _ 1 (.int .i64 (x.val : Int)) rfl d21 rfl (by unfold maxLen; omega) (by omega) T1.lt ?_
        intro g2 cap2 W2 ho2 hg2 hn2 _ _
        have T2 := T1.app1 ho2 hg2 hn2
        refine hK.out _ _ (fun _ => ⟨T2.box5.cell, T2.box6.cell, T2.box1.cell⟩) ?_
        clear hK K
        try simp only [Act.put, List.setIfInBounds_toArray, List.set_cons_zero, List.set_cons_succ]
        refine walk_ready (rs := [9]) (by kernel_rfl) (by simp) ?_
        refine Each.cons rfl (fun K hK => ?_) Each.nil
        go_simp
        have T3 := T2.alloc (.cells #[.int .i64 (bts s x.val)] 3)
        have d93 := T2.newcell (.int .i64 (bts s x.val))
        try simp only [World.size_alloc] at d93
        refine hK.out _ _ (fun _ => ⟨T3.box5.cell, T3.box6.cell, T3.box1.cell⟩) ?_
        clear hK K
        try simp only [Act.put, List.setIfInBounds_toArray, List.set_cons_zero, List.set_cons_succ]
        refine walk_ready (rs := [10]) (by kernel_rfl) (by simp) ?_
        refine Each.cons rfl (fun K hK => ?_) Each.nil
        refine step_append1 rfl _ _ 30 rfl (bE + 1) 3 i0 _ 8 Try.underlying30 hi0 hz0 hz1 hz2 rfl vr _ _ rfl T3.own2 _ 1 (.int .i64 (bts s x.val)) rfl d93 rfl (by unfold maxLen; omega) (by omega) T3.lt ?_
        intro g4 cap4 W4 ho4 hg4 hn4 _ _
        have T4 := T3.app2 ho4 hg4 hn4
        have q5 := T4.box5.cell; have q6 := T4.box6.cell; have r5 := T4.box5.frozen; have r6 := T4.box6.frozen
        refine hK.out _ _ (fun _ => ⟨T4.box5.cell, T4.box6.cell, T4.box1.cell⟩) ?_
        clear hK K
        try simp only [Act.put, List.setIfInBounds_toArray, List.set_cons_zero, List.set_cons_succ]
        refine walk_ready (rs := [11]) (by kernel_rfl) (by simp) ?_
        refine Each.cons rfl (fun K hK => ?_) Each.nil
        go_simp
        have T5 := T4.set5 (.slice (some ⟨g2, 0, none⟩) ((fidx pre).length + 1) cap2)
        have q6 := T5.box6.cell; have r6 := T5.box6.frozen
        refine hK.out _ _ (fun h => absurd (by simp) h) ?_
        clear hK K
        try simp only [Act.put, List.setIfInBounds_toArray, List.set_cons_zero, List.set_cons_succ]
        refine walk_ready (rs := [12]) (by kernel_rfl) (by simp) ?_
        refine Each.cons rfl (fun K hK => ?_) Each.nil
        go_simp
        have T6 := T5.set6 (.slice (some ⟨g4, 0, none⟩) ((fbts s pre).length + 1) cap4)
        refine hK.out _ _ (fun h => absurd (by simp) h) ?_
        clear hK K
        try simp only [Act.put, List.setIfInBounds_toArray, List.set_cons_zero, List.set_cons_succ]
        refine walk_done (by kernel_rfl) ?_ _
        have e1 : fidx (pre ++ [x]) = fidx pre ++ [(x.val : Int)] := by simp [fidx]
        have e2 : fbts s (pre ++ [x]) = fbts s pre ++ [bts s x.val] := by simp [fbts]
        have hF := T6.self
        rw [← e1, ← e2] at hF
        exact ⟨by rw [hsz0]; exact T6.keeps, T6.boxE, _, _, hF, by simp; omega⟩
      · skip
        go_simp
        have T2 := T1.alloc (.cells #[.int .i64 (bts s x.val)] 3)
        have d22 := grown_cell (World.grownBy_alloc _ (.cells #[.int .i64 (bts s x.val)] 3) none) (by simp) d21
        have d92 := T1.newcell (.int .i64 (bts s x.val))
        try simp only [World.size_alloc] at d22 d92
        refine hK.out _ _ (fun _ => ⟨T2.box5.cell, T2.box6.cell, T2.box1.cell⟩) ?_
        clear hK K
        try simp only [Act.put, List.setIfInBounds_toArray, List.set_cons_zero, List.set_cons_succ]
        refine walk_ready (rs := [3]) (by kernel_rfl) (by simp) ?_
        refine Each.cons rfl (fun K hK => ?_) Each.nil
        refine step_append1 rfl _ _ 30 rfl (bE + 1) 3 i0 _ 8 Try.underlying30 hi0 hz0 hz1 hz2 rfl vo _ _ rfl T2.own1 _ 1 (.int .i64 (x.val : Int)) rfl d22 rfl (by unfold maxLen; omega) (by omega) T2.lt ?_
        intro g3 cap3 W3 ho3 hg3 hn3 _ _
        have T3 := T2.app1 ho3 hg3 hn3
        have d93 := grown_cell hg3 (T1.new1 (by simp)) d92
        refine hK.out _ _ (fun _ => ⟨T3.box5.cell, T3.box6.cell, T3.box1.cell⟩) ?_
        clear hK K
        try simp only [Act.put, List.setIfInBounds_toArray, List.set_cons_zero, List.set_cons_succ]
        refine walk_ready (rs := [10]) (by kernel_rfl) (by simp) ?_
        refine Each.cons rfl (fun K hK => ?_) Each.nil
        refine step_append1 rfl _ _ 30 rfl (bE + 1) 3 i0 _ 8 Try.underlying30 hi0 hz0 hz1 hz2 rfl vr _ _ rfl T3.own2 _ 1 (.int .i64 (bts s x.val)) rfl d93 rfl (by unfold maxLen; omega) (by omega) T3.lt ?_
        intro g4 cap4 W4 ho4 hg4 hn4 _ _
        have T4 := T3.app2 ho4 hg4 hn4
        have q5 := T4.box5.cell; have q6 := T4.box6.cell; have r5 := T4.box5.frozen; have r6 := T4.box6.frozen
        refine hK.out _ _ (fun _ => ⟨T4.box5.cell, T4.box6.cell, T4.box1.cell⟩) ?_
        clear hK K
        try simp only [Act.put, List.setIfInBounds_toArray, List.set_cons_zero, List.set_cons_succ]
        refine walk_ready (rs := [11]) (by kernel_rfl) (by simp) ?_
        refine Each.cons rfl (fun K hK => ?_) Each.nil
        go_simp
        have T5 := T4.set5 (.slice (some ⟨g3, 0, none⟩) ((fidx pre).length + 1) cap3)
        have q6 := T5.box6.cell; have r6 := T5.box6.frozen
        refine hK.out _ _ (fun h => absurd (by simp) h) ?_
        clear hK K
        try simp only [Act.put, List.setIfInBounds_toArray, List.set_cons_zero, List.set_cons_succ]
        refine walk_ready (rs := [12]) (by kernel_rfl) (by simp) ?_
        refine Each.cons rfl (fun K hK => ?_) Each.nil
        go_simp
        have T6 := T5.set6 (.slice (some ⟨g4, 0, none⟩) ((fbts s pre).length + 1) cap4)
        refine hK.out _ _ (fun h => absurd (by simp) h) ?_
        clear hK K
        try simp only [Act.put, List.setIfInBounds_toArray, List.set_cons_zero, List.set_cons_succ]
        refine walk_done (by kernel_rfl) ?_ _
        have e1 : fidx (pre ++ [x]) = fidx pre ++ [(x.val : Int)] := by simp [fidx]
        have e2 : fbts s (pre ++ [x]) = fbts s pre ++ [bts s x.val] := by simp [fbts]
        have hF := T6.self
        rw [← e1, ← e2] at hF
        exact ⟨by rw [hsz0]; exact T6.keeps, T6.boxE, _, _, hF, by simp; omega⟩
    · skip
      go_simp
      have T1 := hT.alloc (.cells #[.int .i64 (bts s x.val)] 3)
      have d91 := hT.newcell (.int .i64 (bts s x.val))
      try simp only [World.size_alloc] at d91
      refine hK.out _ _ (fun _ => ⟨T1.box5.cell, T1.box6.cell, T1.box1.cell⟩) ?_
      clear hK K
      try simp only [Act.put, List.setIfInBounds_toArray, List.set_cons_zero, List.set_cons_succ]
      refine walk_ready (rs := [2]) (by kernel_rfl) (by simp) ?_
      refine Each.cons rfl (fun K hK => ?_) Each.nil
      go_simp
      have T2 := T1.alloc (.cells #[.int .i64 (x.val : Int)] 3)
      have d92 := grown_cell (World.grownBy_alloc _ (.cells #[.int .i64 (x.val : Int)] 3) none) (by simp) d91
      have d22 := T1.newcell (.int .i64 (x.val : Int))
      try simp only [World.size_alloc] at d92 d22
      refine hK.out _ _ (fun _ => ⟨T2.box5.cell, T2.box6.cell, T2.box1.cell⟩) ?_
      clear hK K
      try simp only [Act.put, List.setIfInBounds_toArray, List.set_cons_zero, List.set_cons_succ]
      refine walk_ready (rs := [3]) (by kernel_rfl) (by simp) ?_
      refine Each.cons rfl (fun K hK => ?_) Each.nil
      refine step_append1 rfl _ _ 30 rfl (bE + 1) 3 i0 _ 8 Try.underlying30 hi0 hz0 hz1 hz2 rfl vo _ _ rfl T2.own1 _ 1 (.int .i64 (x.val : Int)) rfl d22 rfl (by unfold maxLen; omega) (by omega) T2.lt ?_
      intro g3 cap3 W3 ho3 hg3 hn3 _ _
      have T3 := T2.app1 ho3 hg3 hn3
      have d93 := grown_cell hg3 (hT.new1 (by simp)) d92
      refine hK.out _ _ (fun _ => ⟨T3.box5.cell, T3.box6.cell, T3.box1.cell⟩) ?_
      clear hK K
      try simp only [Act.put, List.setIfInBounds_toArray, List.set_cons_zero, List.set_cons_succ]
      refine walk_ready (rs := [10]) (by kernel_rfl) (by simp) ?_
      refine Each.cons rfl (fun K hK => ?_) Each.nil
      refine step_append1 rfl _ _ 30 rfl (bE + 1) 3 i0 _ 8 Try.underlying30 hi0 hz0 hz1 hz2 rfl vr _ _ rfl T3.own2 _ 1 (.int .i64 (bts s x.val)) rfl d93 rfl (by unfold maxLen; omega) (by omega) T3.lt ?_
      intro g4 cap4 W4 ho4 hg4 hn4 _ _
      have T4 := T3.app2 ho4 hg4 hn4
      have q5 := T4.box5.cell; have q6 := T4.box6.cell; have r5 := T4.box5.frozen; have r6 := T4.box6.frozen
      refine hK.out _ _ (fun _ => ⟨T4.box5.cell, T4.box6.cell, T4.box1.cell⟩) ?_
      clear hK K
      try simp only [Act.put, List.setIfInBounds_toArray, List.set_cons_zero, List.set_cons_succ]
      refine walk_ready (rs := [11]) (by kernel_rfl) (by simp) ?_
      refine Each.cons rfl (fun K hK => ?_) Each.nil
      go_simp
      have T5 := T4.set5 (.slice (some ⟨g3, 0, none⟩) ((fidx pre).length + 1) cap3)
      have q6 := T5.box6.cell; have r6 := T5.box6.frozen
      refine hK.out _ _ (fun h => absurd (by simp) h) ?_
      clear hK K
      try simp only [Act.put, List.setIfInBounds_toArray, List.set_cons_zero, List.set_cons_succ]
      refine walk_ready (rs := [12]) (by kernel_rfl) (by simp) ?_
      refine Each.cons rfl (fun K hK => ?_) Each.nil
      go_simp
      have T6 := T5.set6 (.slice (some ⟨g4, 0, none⟩) ((fbts s pre).length + 1) cap4)
      refine hK.out _ _ (fun h => absurd (by simp) h) ?_
      clear hK K
      try simp only [Act.put, List.setIfInBounds_toArray, List.set_cons_zero, List.set_cons_succ]
      refine walk_done (by kernel_rfl) ?_ _
      have e1 : fidx (pre ++ [x]) = fidx pre ++ [(x.val : Int)] := by simp [fidx]
      have e2 : fbts s (pre ++ [x]) = fbts s pre ++ [bts s x.val] := by simp [fbts]
      have hF := T6.self
      rw [← e1, ← e2] at hF
      exact ⟨by rw [hsz0]; exact T6.keeps, T6.boxE, _, _, hF, by simp; omega⟩
  case done =>
    rintro D xs W hD rfl ⟨vo, vr, hT, hl⟩ hdef
    rename_i QQ KK hKK
    refine hKK _ _ ?_
    have c8 := (Boxed.new W 71 .nilFunc).cell
    have f8 := (Boxed.new W 71 .nilFunc).frozen
    go_wp2_with fail
    obtain ⟨g, co, gr0, cr0, rfl, hO0⟩ := ost_start s w W b5 b6 bE D vo vr hs h0 hT hdef (by have := hT0.o5; have := hT0.o6; have := hT0.oE; omega)
    generalize (W.alloc (.cells #[.func (.func 42) #[] #[.pointer (some ⟨b6, 0, none⟩)]] 71)).alloc (.cells #[.int .i64 1] 3) = W9 at hO0 ⊢
    obtain ⟨b8, hb8⟩ : ∃ b8, b8 = W.heap.size := ⟨_, rfl⟩
    rw [← hb8] at hO0 ⊢
    have hp0 : (dN (dStart s.size hs)).Perm (List.range s.size) := by rw [dN_start]
    have hr0 := rank_bytes s.data.toList
    clear hb8 c8 f8 hdef hT hKK hD hE0 hsz0 hT0
    generalize dStart s.size hs = d0 at *
    generalize (s.data.toList.map fun x => (x.toNat : Int)) = r0 at *
    clear W KK
    go_loopg [9, 10, 11, 12, 35, 36, 37, 38, 39, 40, 41, 42, 43, 44, 45, 46, 47, 48, 49, 50, 51, 52, 53, 54, 55, 56, 57, 58, 59, 60, 61, 62, 63, 64, 65, 66, 67, 68, 69, 70, 71, 72, 73, 74, 75, 76, 77, 78, 79, 80, 81, 82, 83, 84, 85, 86, 87, 88, 89, 90, 91] 100 (fun gk v9 _ _ _ _ _ _ _ _ _ _ _ _ _ _ _ _ _ _ _ _ _ _ _ _ _ _ _ _ _ _ _ _ _ _ _ _ _ _ _ _ _ _ _ _ _ _ _ _ _ _ _ _ _ _ _ _ _ _ _ _ wr => ∃ (b9 k m gr cr : Nat) (d : Array (Fin 24)) (r : List Int), v9 = .pointer (some ⟨b9, 0, none⟩) ∧ 101 ≤ k + gk ∧ 1 ≤ k ∧ k ≤ 46 ∧ OSt w s b5 b6 b8 b9 D g co gr cr k d r wr ∧ RankOk s.data.toList m r ∧ ((k = 1 ∧ k / 2 = 0 ∧ m = 1) ∨ (k = m + m ∧ k / 2 = m)) ∧ (dN d).Perm (List.range s.size))
    case atStart => exact ⟨_, _, 1, _, _, _, _, rfl, by omega, by omega, by omega, hO0, hr0, .inl ⟨rfl, rfl, rfl⟩, hp0⟩
    case round =>
      obtain ⟨b9, k, m, gr, cr, d, r, rfl, hgk, hk1, hk46, hO, hr, hkm, hp⟩ := hrel
      clear hO0 hr0 hp0
      have c5 := hO.box5
      have hcon := sort_any hO hs h0 (by omega) hr hkm hp
      go_wp2_with fail
      refine hcon.mono ?_
      rintro e W1 ⟨rfl, d', hp', hsort, hO1⟩
      clear hcon hO hp c5 d
      have c1 := hO1.box1
      have hmk := run_make_ints W1 (s.size : Int) s.size rfl (by omega)
      go_wp2_with fail
      obtain ⟨dv, hdv⟩ : ∃ dv, dv = dN d' := ⟨_, rfl⟩
      have hdO : ∀ {t u : Nat} {W' : World}, OSt w s b5 b6 b8 b9 D g co gr cr k d' r W' → dv[t]? = some u → W'.cell? ⟨g, t, none⟩ = some (.int .i64 (u : Int)) := fun h1 h2 => h1.cellOut (by rw [← hdv]; exact h2)
      rw [← hdv] at hp' hsort
      have hdl : dv.length = s.size := by simpa using hp'.length_eq
      have hnd : dv.Nodup := hp'.nodup_iff.2 List.nodup_range
      obtain ⟨lt, hlt⟩ : ∃ lt : Nat → Nat → Bool, lt = fun x y => bef ((s.data.toList.drop x).take k) ((s.data.toList.drop y).take k) := ⟨_, rfl⟩
      obtain ⟨f, hf⟩ : ∃ f : Nat → Nat, f = fun t => dv[t]?.getD 0 := ⟨_, rfl⟩
      have hfd : ∀ t, t < s.size → dv[t]? = some (f t) := fun t ht => by rw [hf]; show dv[t]? = some (dv[t]?.getD 0); rw [List.getElem?_eq_getElem (by omega)]; rfl
      have hfn : ∀ t, t < s.size → f t < s.size := fun t ht => List.mem_range.1 (hp'.mem_iff.1 (List.mem_of_getElem? (hfd t ht)))
      have hfi : ∀ t u, t < s.size → u < s.size → t ≠ u → f t ≠ f u := fun t u ht hu hne e => by
        have h1 := hfd t ht
        have h2 := hfd u hu
        rw [e] at h1
        exact hne ((List.getElem?_inj (by omega) hnd).1 (h1.trans h2.symm))
      have hb0 : Below W1.heap.size W1 (W1.alloc (.cells (ints (List.replicate s.size 0)).toArray 3)) := (Below.refl _ _).alloc (Nat.le_refl _) _
      have hn0 := IBlk.new W1 (List.replicate s.size 0)
      obtain ⟨gk0, hgk0⟩ : ∃ gk0, gk0 = gk := ⟨_, rfl⟩
      rw [← hgk0] at hgk
      go_loopg [12, 44, 45, 46, 47, 48, 49, 50, 51, 52, 53, 54, 55, 56, 57, 58, 59, 60, 61, 62, 63, 64, 65, 66, 67, 68, 69, 70, 71, 72, 73, 74, 75, 76, 77, 78, 79, 80, 81, 82, 83, 84] s.size (fun g2 v12 _ _ _ _ _ _ _ _ _ _ _ _ _ _ _ _ _ _ _ _ _ _ _ _ _ _ _ _ _ _ _ _ _ _ _ _ _ _ _ _ _ wr => ∃ (t : Nat) (nx : List Int), v12 = .int .i64 (t : Int) ∧ 1 ≤ t ∧ t ≤ s.size ∧ s.size ≤ t + g2 ∧ Below W1.heap.size W1 wr ∧ IBlk wr W1.heap.size nx ∧ nx.length = s.size ∧ ∀ u, u < t → nx[f u]? = some ((cnt lt f u : Nat) : Int))
      case atStart => exact ⟨1, _, rfl, by omega, by omega, by omega, hb0, hn0, by simp, fun u hu => by
        obtain rfl : u = 0 := by omega
        rw [List.getElem?_replicate, if_pos (hfn 0 h0)]; rfl⟩
      case round =>
        obtain ⟨t, nx, rfl, ht1, htn, htg, hb, hnx, hnl, hnu⟩ := hrel
        clear hb0 hn0
        have hO2 := hO1.onto hb
        have c5 := hO2.box5
        by_cases hlt2 : t < s.size
        · have kk : (t : Int) < (s.size : Int) := by omega
          obtain ⟨j, hj⟩ : ∃ j, j = t - 1 := ⟨_, rfl⟩
          have hje : (t : Int) - 1 = (j : Int) := by omega
          have hjt : t = j + 1 := by omega
          have hjn : j < s.size := by omega
          have hpj := hfd j hjn
          have hqt := hfd t hlt2
          have hpn := hfn j hjn
          have hqn := hfn t hlt2
          have hpq := hfi j t hjn hlt2 (by omega)
          have hvj := hnu j (by omega)
          have hcnt : cnt lt f t = cnt lt f j + (if lt (f j) (f t) = true then 1 else 0) := by rw [hjt]; rfl
          have hcl := cnt_le lt f j
          obtain ⟨p, hp⟩ : ∃ p, p = f j := ⟨_, rfl⟩
          obtain ⟨q, hq⟩ : ∃ q, q = f t := ⟨_, rfl⟩
          obtain ⟨v, hv⟩ : ∃ v, v = cnt lt f j := ⟨_, rfl⟩
          rw [← hp] at hpj hpn hpq hvj hcnt
          rw [← hq] at hqt hqn hpq hcnt
          rw [← hv] at hvj hcnt hcl
          obtain ⟨x, hx⟩ : ∃ x, nx[q]? = some x := ⟨_, List.getElem?_eq_getElem (by omega)⟩
          have cp := hdO hO2 hpj
          have cq := hdO hO2 hqt
          have np := hnx.cell hvj
          have nq' := hnx.cell hx
          have fq := hnx.frozen q
          have kp : (p : Int) < (s.size : Int) := by omega
          have kq : (q : Int) < (s.size : Int) := by omega
          have kj : (j : Int) < (s.size : Int) := by omega
          have HW := Lib.hid (show Below W1.heap.size W1 (wr.setCell ⟨W1.heap.size, q, none⟩ (.int .i64 (v : Int))).drew from (hb.setCell (p := ⟨W1.heap.size, q, none⟩) (by show W1.heap.size ≤ W1.heap.size; omega) _).drew)
          have HN := Lib.hid (show IBlk (wr.setCell ⟨W1.heap.size, q, none⟩ (.int .i64 (v : Int))).drew W1.heap.size (nx.set q (v : Int)) from hnx.set_ q (v : Int))
          have e1 : IntKind.i64.wrap ((t : Int) - 1) = (j : Int) := by rw [hje]; exact IntWalk.i64_in _ (by omega)
          have HT := Lib.hid hjt
          have HP := Lib.hid hp
          have HQ := Lib.hid hq
          have HCT := Lib.hid (show cnt lt f t = v + (if lt p q = true then 1 else 0) from hcnt)
          have HP2 := Lib.hid hpq
          have HV := Lib.hid hcl
          have HF := Lib.hid hf
          have HX := Lib.hid hx
          have HVJ := Lib.hid hvj
          have HPJ := Lib.hid hpj
          have HQT := Lib.hid hqt
          have HFI := Lib.hid hfi
          have HNU := Lib.hid hnu
          have HNL := Lib.hid hnl
          have HLT := Lib.hid hlt
          clear hj hjt hje hp hq hv hcnt hpq hcl hf hx hvj hpj hqt hfi hnu hnl hlt hfd hfn hnd
          go_wp2_with fail
          go_still_tail 14, (by kernel_rfl)
          go_wp2_with fail
          generalize (wr.setCell ⟨W1.heap.size, q, none⟩ (.int .i64 (v : Int))).drew = W2 at HW HN ⊢
          have hO3 := hO1.onto HW.out
          have g5 := cell_grown hO3.lt5 hO3.box5
          have gp := cell_grown hO3.ltg (hdO hO3 HPJ.out)
          have gq := cell_grown hO3.ltg (hdO hO3 HQT.out)
          obtain ⟨z, hz⟩ : ∃ z, z = cfF r (k / 2) ⟨p, by omega⟩ ⟨q, by omega⟩ := ⟨_, rfl⟩
          have hzl : z < 0 ↔ lt p q = true := by
            have h1 := ltOf_bef hr hkm (⟨p, by omega⟩ : Fin 24) ⟨q, by omega⟩
            unfold ltOf at h1
            rw [Bool.eq_iff_iff, decide_eq_true_iff] at h1
            rw [hz, HLT.out]
            exact h1
          have hmix : Try.prog.follows .mixedOrders = true := by kernel_rfl
          have HG := Lib.hid (fun n os => less_in (hO3.onto (below_grow W2 n os)) hs (by omega : k ≤ 100) ⟨p, by omega⟩ ⟨q, by omega⟩)
          rw [← hz] at HG
          have HZ := Lib.hid hzl
          clear hz hzl hdO hb hO2 c5 cp cq np nq' fq hnx
          by_cases hz0 : z < 0
          · have hzd : decide (z < 0) = true := decide_eq_true hz0
            go_quiet_grown (first | (go_at_call 43; refine Calls.grown_of (HG.out _ _)))
            have hb3 : Below W1.heap.size W1 (Sort.grow (W2.drewN nq) osq) := HW.out.trans ((below_grow W2 nq osq).mono HW.out.size)
            have hn3 : IBlk (Sort.grow (W2.drewN nq) osq) W1.heap.size (nx.set q (v : Int)) := HN.out.below (below_grow W2 nq osq) HN.out.lt
            generalize Sort.grow (W2.drewN nq) osq = W3 at hb3 hn3 ⊢
            have hO5 := hO1.onto hb3
            have c5 := hO5.box5
            have cq : W3.cell? ⟨g, t, none⟩ = some (.int .i64 (q : Int)) := by
              refine hO5.cellOut ?_
              rw [← hdv]
              exact HQT.out
            have hqv : (nx.set q (v : Int))[q]? = some (v : Int) := by rw [List.getElem?_set_self (by have := HNL.out; omega)]
            have nq' := hn3.cell hqv
            have fq := hn3.frozen q
            have hvl := HV.out
            have hjj := HT.out
            have e3 : IntKind.i64.wrap ((v : Int) + 1) = (v : Int) + 1 := IntWalk.i64_in _ (by omega)
            have e4 : IntKind.i64.wrap ((t : Int) + 1) = (t : Int) + 1 := IntWalk.i64_in _ (by omega)
            clear hjj hvl hqv
            go_wp2_with fail
            go_roundg (gk - 1)
            case measure => omega
            case rel =>
              refine ⟨t + 1, nx.set q ((v : Int) + 1), by simp, by omega, by omega, by omega, hb3.setCell (p := ⟨W1.heap.size, q, none⟩) (Nat.le_refl _) _, ?_, by simp [HNL.out], ?_⟩
              · have := hn3.set_ q ((v : Int) + 1)
                rwa [List.set_set] at this
              · refine nx_step HNL.out HQ.out hqn HFI.out hlt2 HNU.out _ ?_
                rw [HCT.out, if_pos (HZ.out.1 hz0)]
                omega
          · have hzd : decide (z < 0) = false := decide_eq_false hz0
            go_quiet_grown (first | (go_at_call 43; refine Calls.grown_of (HG.out _ _)))
            have hb3 : Below W1.heap.size W1 (Sort.grow (W2.drewN nq) osq) := HW.out.trans ((below_grow W2 nq osq).mono HW.out.size)
            have hn3 : IBlk (Sort.grow (W2.drewN nq) osq) W1.heap.size (nx.set q (v : Int)) := HN.out.below (below_grow W2 nq osq) HN.out.lt
            generalize Sort.grow (W2.drewN nq) osq = W3 at hb3 hn3 ⊢
            have e4 : IntKind.i64.wrap ((t : Int) + 1) = (t : Int) + 1 := IntWalk.i64_in _ (by omega)
            go_wp2_with fail
            go_roundg (gk - 1)
            case measure => omega
            case rel =>
              refine ⟨t + 1, nx.set q (v : Int), by simp, by omega, by omega, by omega, hb3, hn3, by simp [HNL.out], ?_⟩
              · refine nx_step HNL.out HQ.out hqn HFI.out hlt2 HNU.out _ ?_
                rw [HCT.out, if_neg (fun h => by have := HZ.out.2 h; omega), Nat.add_zero]
        · have kk : ¬ (t : Int) < (s.size : Int) := by omega
          have c6 := hO2.box6.cell
          have f6 := hO2.box6.frozen
          have hO4 := hO2.turned (cn := s.size) hnl hnx (by have := hO1.ltg; omega) (by have := hO1.lt6; omega)
          have c9 := hO4.box9.cell
          have c1' := hO4.box1
          have c5' := hO4.box5
          have hrn : RankOk s.data.toList k nx := by
            obtain rfl : t = s.size := by omega
            refine rank_next (d := dv) (by simpa using hp') (fun i j hij hj => hsort i j hij (by simpa using hj)) nx (by simpa using hnl) (fun u hu => ?_) (by omega)
            have := hnu u (by simpa using hu)
            rw [hf, hlt] at this
            exact this
          by_cases hkn : k < s.size
          · have k1 : (k : Int) < (s.size : Int) := by omega
            have e5 : IntKind.i64.wrap ((k : Int) * 2) = (k : Int) * 2 := IntWalk.i64_in _ (by omega)
            go_wp2_with fail
            have hO6 := hO4.next (k * 2)
            rw [World.size_setCell] at hO6
            go_roundg (gk0 - 1)
            case measure => omega
            case rel => exact ⟨_, k * 2, k, _, _, d', nx, rfl, by omega, by omega, by omega, by rw [Int.natCast_mul] at hO6; exact hO6, hrn, .inr ⟨by omega, by omega⟩, by rw [← hdv]; exact hp'⟩
          · have k1 : ¬ (k : Int) < (s.size : Int) := by omega
            go_wp2_with fail
            refine ⟨by simp, .inl ⟨_, _, rfl, run_takeDeferred hO4.dfr, ?_⟩⟩
            have hord := ord_of (l := s.data.toList) (d := dv) (by simpa using hp') (fun i j hij hj => hsort i j hij (by simpa using hj)) (by simp; omega)
            refine ⟨_, results_tmp2 rfl _ _ _, ?_⟩
            refine ⟨_, ⟨_, rfl⟩, ?_, hO4.below.trans (belowK_b (w := w) (Nat.le_refl _) _ D _ _ hO4.loD hO4.dfr rfl rfl)⟩
            rw [← hord.eq, hdv]
            exact hO4.reads (World.putObj_heap_other (Ne.symm hO4.nDg)) (by simp)
  case stop => exact fun _ _ _ _ _ _ h _ => h.elim
end Go.Proofs.Ytfjjjkfldekooaa
