/-
  The walk of wheel.There.
-/
import Derived.Test.YtfjjjkfldekooaaOne
import Derived.Test.YtfjjjkfldekooaaLong1
import Derived.Test.YtfjjjkfldekooaaTxIdx
import Derived.Test.YtfjjjkfldekooaaShelf
import Derived.Laws.EntriesVeiled
import Derived.Test.YtfjjjkfldekooaaSBlk
import Derived.Test.YtfjjjkfldekooaaSb
import Derived.Sort.OwnSorted
import Derived.Deep.RegionLaw
import Derived.Deep.RegionHeld3
namespace Go.Proofs.Ytfjjjkfldekooaa
open Go.RowKit Go.Shelf
set_option linter.unusedVariables false
set_option linter.unusedSimpArgs false
attribute [local go_sem] Oper.semAt_some

/-- the turn from a place on -/
def trn (s : ByteArray) (i : Nat) : ByteArray := s.extract i s.size ++ s.extract 0 i
def trnB {n : Nat} (s : ByteArray) (l : List (Fin n)) : List ByteArray := l.map fun i => trn s i.val
theorem trn_size (s : ByteArray) (i : Nat) (hi : i ≤ s.size) : (trn s i).size = s.size := by
  unfold trn
  rw [ByteArray.size_append, ByteArray.size_extract, ByteArray.size_extract]
  omega

/-- the texts in order -/
def sortB (L : List ByteArray) : List ByteArray := ((L.map bs).mergeSort fun x y => decide (x ≤ y)).map ba
/-- the turns of a text in order; their last bytes -/
def turnsB (s : ByteArray) : List ByteArray := sortB (trnB s (List.finRange s.size))
def lastB (t : ByteArray) : UInt8 := (bs t)[t.size - 1]?.getD 0
def lasts (s : ByteArray) : List UInt8 := (turnsB s).map lastB
theorem texts_enc (L : List ByteArray) : texts L = (L.map bs).map encStr := by
  unfold texts
  rw [List.map_map]
  refine List.map_congr_left fun s _ => ?_
  show Value.string s = Value.string ⟨(bs s).toArray⟩
  rfl
theorem sortB_length (L : List ByteArray) : (sortB L).length = L.length := by simp [sortB]
theorem sort_texts (w : World) (base : Nat) (v : Value) (L : List ByteArray) (hown : w.ownsRow base 9 1 v L.length (texts L)) (h0 : 0 < L.length) (hl : L.length ≤ 1000000) :
    Calls Try.prog 25 #[v] w fun e w' => e = .returned (.tuple #[]) ∧ w'.ownsRow base 9 1 v L.length (texts (sortB L)) ∧ w.grownBy w' v.ownBlock := by
  have hown' := hown
  rcases hown.2 with ⟨_, hn⟩ | ⟨g, cap, cur, rfl, hbase, hb, h1, h2, h3, h4⟩
  · omega
  · have hg : g < w.heap.size := (Array.getElem?_eq_some_iff.1 hb).1
    have hH : Go.Sort.Holds encStr w g 0 (L.map bs).toArray := holds_of_block hb (by rw [List.length_map]; rw [Nat.mul_one] at h4; rw [h4, texts_enc])
    have h := Try.slices_Sort_string g 0 cap (L.map bs) w hH hg (by rw [List.length_map]; omega)
    rw [List.length_map] at h
    refine h.mono ?_
    rintro e w' ⟨rfl, n, os, rfl⟩
    refine ⟨rfl, ?_, grownBy_sorted _⟩
    have ho := ownsRow_sorted (n := n) (os := os) (cap := cap) (e := 9) (ss := L.map bs) (ts := (L.map bs).mergeSort fun x y => decide (x ≤ y)) (by simp) hbase hb (by rw [List.length_map]; exact h1) h2 h3
    rw [List.length_map] at ho
    rw [texts_enc, sortB, map_bs_ba]
    exact ho

theorem reads_but {b g n : Nat} {W2 wr : World} {xs : List Value} (h : Reads W2 (some ⟨g, 0, none⟩) n 1 xs) (hg : g < b) (hB : Sb.But (b + 1) b W2 wr) : Reads wr (some ⟨g, 0, none⟩) n 1 xs :=
  ⟨h.1, fun hn => by
    obtain ⟨b', o', e, hl, hc⟩ := h.2 hn
    cases e
    exact ⟨_, _, rfl, Nat.lt_of_lt_of_le hl hB.size, fun j x hx => (hB.cell (p := ⟨g, 0 + j, none⟩) (by show g < _; omega) (by show g ≠ b; omega)).trans (hc j x hx)⟩⟩
theorem turnsB_length (s : ByteArray) : (turnsB s).length = s.size := by simp [turnsB, sortB_length, trnB]
theorem turnsB_mem (s t : ByteArray) : t ∈ turnsB s ↔ ∃ i, i < s.size ∧ trn s i = t := by
  unfold turnsB sortB
  rw [List.mem_map]
  constructor
  · rintro ⟨x, hx, rfl⟩
    rw [List.mem_mergeSort, List.mem_map] at hx
    obtain ⟨y, hy, rfl⟩ := hx
    unfold trnB at hy
    obtain ⟨i, _, rfl⟩ := List.mem_map.1 hy
    exact ⟨i.val, i.isLt, by rw [ba_bs]⟩
  · rintro ⟨i, hi, rfl⟩
    refine ⟨bs (trn s i), ?_, ba_bs _⟩
    rw [List.mem_mergeSort, List.mem_map]
    exact ⟨_, List.mem_map.2 ⟨⟨i, hi⟩, List.mem_finRange _, rfl⟩, rfl⟩
theorem turnsB_size (s t : ByteArray) (h : t ∈ turnsB s) : t.size = s.size := by
  obtain ⟨i, hi, rfl⟩ := (turnsB_mem s t).1 h
  exact trn_size s i (by omega)
theorem index_last (t : ByteArray) (m : Nat) (hm : t.size = m + 1) (W : World) : (Instr.index 9 (.string t) (.int .i64 (m : Int))).run Try.prog W = .ok (.int .u8 ((lastB t).toNat : Int)) W := by
  have hd : m < t.data.toList.length := by simp; omega
  have e : lastB t = t.data.toList[m] := by
    unfold lastB bs
    rw [hm, Nat.add_sub_cancel, List.getElem?_eq_getElem hd]
    rfl
  rw [run_index_string W _ t _ _ Try.underlying9, dif_pos ⟨by omega, by omega⟩, e]
  simp
  rfl
set_option maxHeartbeats 1000000 in
set_option maxRecDepth 100000 in
theorem there_ok (s : ByteArray) (w : World) (hs : s.size ≤ 24) (h0 : 0 < s.size) :
    Calls Try.prog 9 #[.string s] w fun e w' => (∃ k : Int, e = .returned (.tuple #[.string ⟨(lasts s).toArray⟩, .int .i64 k, .nilIface]) ∧ ∃ j : Nat, k = (j : Int) ∧ (turnsB s)[j]? = some s ∧ s ∉ (turnsB s).take j) ∧ Below w.heap.size w w' := by
  have kk : (s.size : Int) ≤ 24 := by omega
  refine (callsIn_wide (n := 5)).1 ?_
  refine callsIn_of_wp_marks Try.func9 rfl trivial ?_
  simp only [Try.ntmps9, List.size_toArray, List.length_cons, List.length_nil, Nat.reduceAdd, Nat.reduceSub, Array.replicate_succ, Array.replicate_zero, List.push_toArray, List.append_toArray, List.nil_append, List.cons_append]
  refine wpIn_wide.2 ?_
  go_wp2_with fail
  refine (long1_ok s _ 24 _ (by simp) kk).mono ?_
  rintro e w1 ⟨rfl, rfl⟩
  go_wp2_with fail
  refine (ends_any s _).mono ?_
  rintro e w1 ⟨rfl, rfl⟩
  go_wp2_with fail
  generalize hW0 : (((w.alloc (.cells #[.string s] 9)).alloc (.cells #[.string s] 9)).alloc (.cells #[.slice none 0 0] 47)).alloc (.cells #[.string s] 9) = W0
  obtain ⟨b6, h6⟩ : ∃ b6, b6 = w.heap.size + 1 + 1 := ⟨_, rfl⟩
  rw [← h6]
  obtain ⟨bE, hE⟩ : ∃ bE, bE = b6 + 1 := ⟨_, rfl⟩
  rw [← hE]
  obtain ⟨hT0, hsz0, hE0⟩ := one_start w s b6 bE h6 hE W0 hW0.symm
  clear hW0 h6 hE
  refine (wpIn_wide (n := 5)).1 ?_
  refine' wpIn_rangeFunc_ownG (F := Fence.wide) (n := 5) rfl (by decide) (gf := 47) (lb := #[.pointer (some ⟨bE, 0, none⟩)]) rfl trivial (enters_of Try.func47 (by kernel_rfl) rfl)
    (encs := fun x : Fin s.size => #[.int .i64 (x.val : Int), .string (s.extract x.val s.size)]) (Kp := fun W W' => W'.heap[bE]? = W.heap[bE]?) (S := fun ys => ys = List.finRange s.size) (Sp := fun _ => True) (N := s.size) (w0 := W0)
    (fun l J Jx W hW _ _ hY h0 => ends1_in Fence.wide 4 trivial rfl (by decide) l bE s (by omega) J Jx hY W ((hW.block bE (by omega)).trans hE0) h0)
    (fun h k => k.trans h) (fun W l o o' hl _ _ _ => World.putObj_heap_other (by omega)) (Below.refl _ _) (fun _ => rfl)
    (fun pre W => ∃ vo, One w W s b6 bE (bE + 1) vo vo (trnB s pre) W ∧ pre.length ≤ s.size) (fun _ _ _ => False)
    ?hI (fun _ _ _ _ _ h _ _ => h) ⟨_, hT0, Nat.zero_le _⟩ _ ?assign ?body ?done ?stop
  case hI =>
    rintro pre W W' row ⟨vo, hT, hl⟩ hg hr
    exact ⟨vo, hT.own_ hg (fun r e => by have := hr r e; rw [hsz0] at this; exact this), hl⟩
  case assign =>
    intro l x W K hK
    gi_wp2
    exact hK
  case body =>
    rintro l pre x W ⟨vo, hT, hlp⟩ hlt
    gi_wp2
    refine region_late (S := fun W1 => W1.cell? ⟨b6, 0, none⟩ = some vo ∧ W1.cell? ⟨w.heap.size, 0, none⟩ = some (.string s)) (st := [8]) (by kernel_rfl) (by kernel_rfl) (by rintro ⟨a, w, h⟩; exact h) ?_
    obtain ⟨Wd, hWd⟩ : ∃ Wd, Wd = W.drew := ⟨_, rfl⟩
    have hT : One w W s b6 bE (bE + 1) vo vo (trnB s pre) Wd := by rw [hWd]; exact hT.drew
    rw [← hWd]
    clear hWd
    obtain ⟨i0, hi0, hz0, hz1, hz2⟩ := info_parts infoStr
    have hl1 : (trnB s pre).length ≤ 24 := by simp [trnB]; omega
    have hx1 : (x.val : Int) ≤ (s.size : Int) := by have := x.isLt; omega
    have hx2 := x.isLt
    have hbig : ¬ 9223372036854775807 < s.size := by omega
    show Walk _ _ _ _ _ _ 9 _ _ _
    refine walk_take (i := 0) (v := ?_) [[8, 7, 0]] rfl (by kernel_rfl) (by kernel_rfl) (by kernel_rfl) (by kernel_rfl) (fun _ _ _ h => h) (Or.inl ⟨by rfl, ?_⟩) (⟨hT.box6.cell, hT.box1.cell⟩) ?_
    rotate_left
    · rintro W1 ⟨s6, s1⟩; go_simp; try with_reducible rfl
    try simp only [Act.put, List.setIfInBounds_toArray, List.set_cons_zero, List.set_cons_succ]
    refine walk_take (i := 1) (v := ?_) [[8, 7, 6, 5, 1]] rfl (by kernel_rfl) (by kernel_rfl) (by kernel_rfl) (by kernel_rfl) (fun _ _ _ h => h) (Or.inl ⟨by rfl, ?_⟩) (⟨hT.box6.cell, hT.box1.cell⟩) ?_
    rotate_left
    · rintro W1 ⟨s6, s1⟩; go_simp; try with_reducible rfl
    try simp only [Act.put, List.setIfInBounds_toArray, List.set_cons_zero, List.set_cons_succ]
    refine walk_take (i := 2) (v := ?_) [[8, 7, 6, 5, 4, 2]] rfl (by kernel_rfl) (by kernel_rfl) (by kernel_rfl) (by kernel_rfl) (fun _ _ _ h => h) (Or.inl ⟨by rfl, ?_⟩) (⟨hT.box6.cell, hT.box1.cell⟩) ?_
    rotate_left
    · rintro W1 ⟨s6, s1⟩; go_simp; try with_reducible rfl
    try simp only [Act.put, List.setIfInBounds_toArray, List.set_cons_zero, List.set_cons_succ]
    refine walk_take (i := 3) (v := ?_) [[8, 7, 6, 5, 4, 3]] rfl (by kernel_rfl) (by kernel_rfl) (by kernel_rfl) (by kernel_rfl) (fun _ _ _ h => h) (Or.inl ⟨by rfl, ?_⟩) (⟨hT.box6.cell, hT.box1.cell⟩) ?_
    rotate_left
    · rintro W1 ⟨s6, s1⟩; go_simp; try with_reducible rfl
    try simp only [Act.put, List.setIfInBounds_toArray, List.set_cons_zero, List.set_cons_succ]
    refine walk_take (i := 4) (v := ?_) [[8, 7, 6, 5, 4]] rfl (by kernel_rfl) (by kernel_rfl) (by kernel_rfl) (by kernel_rfl) (fun _ _ _ h => h) (Or.inl ⟨by rfl, ?_⟩) (⟨hT.box6.cell, hT.box1.cell⟩) ?_
    rotate_left
    · rintro W1 ⟨s6, s1⟩; go_simp; try with_reducible rfl
    try simp only [Act.put, List.setIfInBounds_toArray, List.set_cons_zero, List.set_cons_succ]
    refine walk_take (i := 5) (v := .string (trn s x.val)) [[8, 7, 6, 5]] rfl (by kernel_rfl) (by kernel_rfl) (by kernel_rfl) (by kernel_rfl) (fun _ _ _ h => h) (Or.inl ⟨by rfl, ?_⟩) (⟨hT.box6.cell, hT.box1.cell⟩) ?_
    · rintro W1 ⟨s6, s1⟩; go_simp; rfl
    try simp only [Act.put, List.setIfInBounds_toArray, List.set_cons_zero, List.set_cons_succ]
    refine walk_ready (rs := [6]) (by kernel_rfl) (by simp) ?_
    refine Each.cons rfl (fun K hK => ?_) Each.nil
    go_simp
    show _
    have T1 := hT.alloc (.cells #[.string (trn s x.val)] 9)
    have d1 : (Wd.alloc (.cells #[.string (trn s x.val)] 9)).cell? ⟨Wd.heap.size, 0, none⟩ = some (.string (trn s x.val)) := (Boxed.new Wd 9 (.string (trn s x.val))).cell
    refine hK.out _ _ (fun _ => ⟨T1.box6.cell, T1.box1.cell⟩) ?_
    clear hK K
    try simp only [Act.put, List.setIfInBounds_toArray, List.set_cons_zero, List.set_cons_succ]
    refine walk_ready (rs := [7]) (by kernel_rfl) (by simp) ?_
    refine Each.cons rfl (fun K hK => ?_) Each.nil
    refine step_append1 rfl _ _ 47 rfl (bE + 1) 9 i0 _ 16 Try.underlying47 hi0 hz0 hz1 hz2 rfl vo _ _ rfl T1.own1 _ 1 (.string (trn s x.val)) rfl d1 rfl (by unfold maxLen; omega) (by omega) T1.lt ?_
    intro g2 cap2 W2 ho2 hg2 hn2 _ _
    have T2 := T1.app1 ho2 hg2
    have q6 := T2.box6.cell; have r6 := T2.box6.frozen
    refine hK.out _ _ (fun _ => ⟨T2.box6.cell, T2.box1.cell⟩) ?_
    clear hK K
    try simp only [Act.put, List.setIfInBounds_toArray, List.set_cons_zero, List.set_cons_succ]
    refine walk_ready (rs := [8]) (by kernel_rfl) (by simp) ?_
    refine Each.cons rfl (fun K hK => ?_) Each.nil
    go_simp
    have T3 := T2.set6 (.slice (some ⟨g2, 0, none⟩) ((trnB s pre).length + 1) cap2)
    refine hK.out _ _ (fun h => absurd (by simp) h) ?_
    clear hK K
    try simp only [Act.put, List.setIfInBounds_toArray, List.set_cons_zero, List.set_cons_succ]
    refine walk_done (by kernel_rfl) ?_ _
    have e1 : trnB s (pre ++ [x]) = trnB s pre ++ [trn s x.val] := by simp [trnB]
    have hF := T3.self
    rw [← e1] at hF
    exact ⟨by rw [hsz0]; exact T3.keeps, T3.boxE, _, hF, by simp; omega⟩
  case stop => exact fun _ _ _ _ _ _ h _ => h.elim
  case done =>
    rintro D xs W hD rfl ⟨vo, hT, hl⟩ hdef
    rename_i QQ KK hKK
    refine hKK _ _ ?_
    have hln : (trnB s (List.finRange s.size)).length = s.size := by simp [trnB]
    have hso := sort_texts W (bE + 1) vo (trnB s (List.finRange s.size)) hT.own1 (by omega) (by omega)
    obtain ⟨g, co, rfl, hgb, hgl⟩ := own_some hT.own1 (by omega)
    rw [hln] at hso
    have c6 : W.cell? ⟨b6, 0, none⟩ = some (.slice (some ⟨g, 0, none⟩) s.size co) := by have := hT.box6.cell; rwa [hln] at this
    have HSO := Lib.hid hso
    go_wp2_with fail
    refine HSO.out.mono ?_
    rintro e W1 ⟨rfl, ho1, hg1⟩
    rw [show sortB (trnB s (List.finRange s.size)) = turnsB s from rfl] at ho1
    have hb1 : Below w.heap.size w W1 := hT.below.grown hg1 hT.below.size (fun k hk => by have : g = k := Option.some.inj hk; have := hT.o6; have := hT.oE; omega)
    have x6 := (hT.box6.kept hg1 (hT.far1 (by have := hT.oE; omega)))
    have x1 := (hT.box1.kept hg1 (hT.far1 (by have := hT.o6; have := hT.oE; omega)))
    rw [hln] at x6
    have hrd := Reads.of_own ho1
    have hlt6 := x6.lt
    have hlt1 := x1.lt
    have hlw := hb1.size
    have hgl1 := Nat.lt_of_lt_of_le hgl hg1.size
    have hDl : D < W.heap.size := (Array.getElem?_eq_some_iff.1 hdef).1
    have hDg : D ≠ g := by
      rintro rfl
      rcases hT.own1.2 with ⟨h, _⟩ | ⟨g', cap', cur, hv, _, hh, _⟩
      · cases h
      · simp only [Value.slice.injEq, Option.some.injEq, Addr.mk.injEq, and_true, true_and] at hv
        rw [← hv.1, hdef] at hh
        cases hh
    have hd1 : W1.heap[D]? = some (.deferred (some [])) := (hg1.block D hDl (fun e => hDg (Option.some.inj e))).trans hdef
    have hDl1 := Nat.lt_of_lt_of_le hDl hg1.size
    have hloD : w.heap.size ≤ D := by have := hT0.o6; have := hT0.oE; omega
    clear hso HSO hg1 ho1 hT hdef hD hKK hT0 hE0 hsz0 c6
    have d6 := (x6.alloc (.cells #[.pointer none, .slice none 0 0] 55)).cell
    have hIs := Sb.Is.new W1 (W1.heap.size + 1)
    have hd2 := (Below.heap_alloc W1 (.cells #[.pointer none, .slice none 0 0] 55) D hDl1).trans hd1
    have HB2 : Below w.heap.size w (W1.alloc (.cells #[.pointer none, .slice none 0 0] 55)) := bmore hb1 _
    go_wp2
    obtain ⟨b, hbd⟩ : ∃ b, b = W1.heap.size := ⟨_, rfl⟩
    rw [← hbd] at hIs hgl1 hDl1 hlt6 hlt1 hlw ⊢
    have hB0 : Sb.But (b + 1) b (W1.alloc (.cells #[.pointer none, .slice none 0 0] 55)) (W1.alloc (.cells #[.pointer none, .slice none 0 0] 55)) := ⟨rfl, rfl, rfl, Nat.le_refl _, fun _ _ _ => rfl⟩
    have hrd2 := hrd.below (bnew W1 (.cells #[.pointer none, .slice none 0 0] 55))
    have x6' := x6.alloc (.cells #[.pointer none, .slice none 0 0] 55)
    have x1' := x1.alloc (.cells #[.pointer none, .slice none 0 0] 55)
    have hsz2 : (W1.alloc (.cells #[.pointer none, .slice none 0 0] 55)).heap.size = b + 1 := by simp [hbd]
    have hTl := turnsB_length s
    have HTS := Lib.hid (turnsB_size s)
    have HIN : Hid (s ∈ turnsB s) := Lib.hid ((turnsB_mem s s).2 ⟨0, h0, by unfold trn; apply bs_inj; simp [bs]⟩)
    have hlasts : lasts s = (turnsB s).map lastB := rfl
    generalize hTe : turnsB s = T at *
    generalize hLe : lasts s = LS at *
    have HTE := Lib.hid hTe; have HLE := Lib.hid hLe
    clear hTe hLe
    generalize W1.alloc (.cells #[.pointer none, .slice none 0 0] 55) = W2 at *
    have HLS := Lib.hid hlasts; have HTL := Lib.hid hTl
    clear hrd x6 x1 hlasts hTl hbd hb1
    go_loopw [11, 34, 35, 36, 37, 38, 39, 40, 41, 42, 43, 44] (fun _ v34 _ _ _ _ _ _ _ _ _ _ wr => ∃ k : Nat, v34 = .int .i64 (k : Int) ∧ k ≤ s.size ∧ Sb.Is wr (b + 1) b (LS.take k) ∧ Sb.But (b + 1) b W2 wr) (fun _ v34 _ _ _ _ _ _ _ _ _ _ _ => s.size - (intOf v34).toNat)
    case atStart => exact ⟨0, rfl, by omega, hIs, hB0⟩
    case round =>
      obtain ⟨k, rfl, hk, hI, hBt⟩ := hrel
      by_cases hlt : k < s.size
      · have kk2 : (k : Int) < (s.size : Int) := by omega
        obtain ⟨g', o', eq', hgl', hcc⟩ := (reads_but hrd2 hgl1 hBt).2 (by omega)
        cases eq'
        obtain ⟨t, ht⟩ : ∃ t, T[k]? = some t := ⟨_, List.getElem?_eq_getElem (by have := HTL.out; omega)⟩
        have c0 := hcc k (.string t) (by rw [texts_get, ht]; rfl)
        rw [Nat.zero_add] at c0
        have hts := HTS.out t (List.mem_of_getElem? ht)
        obtain ⟨m, hm⟩ : ∃ m, s.size = m + 1 := ⟨s.size - 1, by omega⟩
        have e1 : IntKind.i64.wrap ((t.size : Int) - 1) = (m : Int) := by rw [hts, hm]; have : (((m + 1 : Nat) : Int) - 1) = (m : Int) := by omega
                                                                          rw [this]; exact IntWalk.i64_in _ (by omega)
        have hix := fun W => index_last t m (hts.trans hm) W
        have e2 : IntKind.i64.wrap ((k : Int) + 1) = (k : Int) + 1 := IntWalk.i64_in _ (by omega)
        have hLk : LS.take (k + 1) = LS.take k ++ [lastB t] := by rw [HLS.out, List.take_add_one, List.getElem?_map, ht]; rfl
        have hll : (LS.take k).length ≤ 1000000 := by simp; omega
        have hws := hBt.size
        have HWB := Lib.hid (Sb.write_byte wr (b + 1) b (LS.take k) (lastB t) _ rfl hI (by omega) (by omega) hll)
        have HLK := Lib.hid hLk
        clear hcc ht hts hLk hI
        have HM := Lib.hid hm
        clear hm
        go_wp2_with fail
        refine HWB.out.mono ?_
        rintro e w5 ⟨rfl, hI5, hB5⟩
        rw [← HLK.out] at hI5
        go_wp2
        exact ⟨⟨k + 1, by simp, by omega, hI5, ⟨hB5.os.trans hBt.os, hB5.tape.trans hBt.tape, hB5.output.trans hBt.output, Nat.le_trans hBt.size hB5.size, fun j hj hne => (hB5.block j hj hne).trans (hBt.block j hj hne)⟩⟩, by simp [intOf]; omega⟩
      · obtain rfl : k = s.size := by omega
        have kk2 : ¬ (s.size : Int) < (s.size : Int) := by omega
        rw [List.take_of_length_le (by rw [HLS.out, List.length_map, HTL.out]; exact Nat.le_refl _)] at hI
        have hws := hBt.size
        have HST := Lib.hid (Sb.string_any wr.drew (b + 1) b LS hI.drew (by omega) (by show b + 1 ≤ wr.heap.size; omega))
        have hBd : Sb.But (b + 1) b W2 wr.drew := ⟨hBt.os, hBt.tape, hBt.output, hBt.size, hBt.block⟩
        have HIX : Hid (∀ X : World, Sb.But (b + 1) b W2 X → Calls Try.prog 28 #[.slice (some ⟨g, 0, none⟩) s.size co, .string s] X fun e w' => (∃ j : Nat, e = .returned (.int .i64 (j : Int)) ∧ T[j]? = some s ∧ s ∉ T.take j) ∧ X = w') := Lib.hid (fun X hX => by
          have h := index_text (some ⟨g, 0, none⟩) co T s X (by rw [HTL.out]; exact reads_but hrd2 hgl1 hX) (by rw [HTL.out]; unfold maxLen; omega)
          rw [HTL.out] at h
          refine h.mono ?_
          rintro e w' ⟨⟨n, rfl, hn⟩, rfl⟩
          rcases hn with ⟨_, hn⟩ | ⟨j, rfl, h1, h2⟩
          · exact absurd HIN.out hn
          · exact ⟨⟨j, rfl, h1, h2⟩, rfl⟩)
        have HTR : Hid (∀ X, Sb.But (b + 1) b wr.drew X → Sb.But (b + 1) b W2 X ∧ X.cell? ⟨b6, 0, none⟩ = some (.slice (some ⟨g, 0, none⟩) s.size co) ∧ X.cell? ⟨w.heap.size, 0, none⟩ = some (.string s)) := Lib.hid (fun X hX => by
          have h1 : Sb.But (b + 1) b W2 X := ⟨hX.os.trans hBd.os, hX.tape.trans hBd.tape, hX.output.trans hBd.output, Nat.le_trans hBd.size hX.size, fun j hj hne => (hX.block j hj hne).trans (hBd.block j hj hne)⟩
          exact ⟨h1, (h1.cell (p := ⟨b6, 0, none⟩) (by show b6 < _; omega) (by show b6 ≠ b; omega)).trans x6'.cell, (h1.cell (p := ⟨w.heap.size, 0, none⟩) (by show w.heap.size < _; omega) (by show w.heap.size ≠ b; omega)).trans x1'.cell⟩)
        have y6 := (HTR.out wr.drew ⟨rfl, rfl, rfl, Nat.le_refl _, fun _ _ _ => rfl⟩).2.1
        have y1 := (HTR.out wr.drew ⟨rfl, rfl, rfl, Nat.le_refl _, fun _ _ _ => rfl⟩).2.2
        obtain ⟨wd, hwd⟩ : ∃ wd, wd = wr.drew := ⟨_, rfl⟩
        go_wp2_with fail
        go_region_held3 (fun X => Sb.But (b + 1) b W2 X ∧ X.cell? ⟨b6, 0, none⟩ = some (.slice (some ⟨g, 0, none⟩) s.size co) ∧ X.cell? ⟨w.heap.size, 0, none⟩ = some (.string s)) (first | exact ⟨hBd, y6, y1⟩ | exact ⟨hB6, z6, z1⟩) (first
          | (go_at_call 27; refine HST.out.mono ?_; rintro e w5 ⟨rfl, hB5⟩; obtain ⟨hB6, z6, z1⟩ := HTR.out w5 hB5)
          | (go_at_call 28; refine (HIX.out _ (by first | assumption | exact hBd)).mono ?_; rintro e w6 ⟨⟨j, rfl, hj1, hj2⟩, rfl⟩))
        all_goals (try go_wp2)
        all_goals
          have hdW := (hB6.block D (by omega) (by omega)).trans hd2
          refine ⟨by simp, .inl ⟨_, _, rfl, run_takeDeferred hdW, ?_⟩⟩
          refine ⟨_, results_tmp3 rfl _ _ _, ?_⟩
          exact ⟨⟨(j : Int), by rw [HLE.out]; first | rfl | (simp; done) | (simp; omega), j, rfl, by rw [HTE.out]; exact hj1, by rw [HTE.out]; exact hj2⟩, (HB2.trans ((hB6.below (C := b) (by omega) (Nat.le_refl _)).mono (by omega))).trans (belowK_b (w := w) (Nat.le_refl _) _ D _ _ hloD hdW rfl rfl)⟩
end Go.Proofs.Ytfjjjkfldekooaa
