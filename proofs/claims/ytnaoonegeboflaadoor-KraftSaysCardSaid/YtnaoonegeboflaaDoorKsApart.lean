/-
  The walk of the reference's Apart: whether each text is made of words in one way, at most.
-/
import Derived.Test.YtnaoonegeboflaaDoorKsBits
import Derived.Test.YtnaoonegeboflaaDoorKfFree
import Derived.Test.YtnaoonegeboflaaDoorBeg
import Derived.Test.YtnaoonegeboflaaDoorOwn
import Derived.Test.YtnaoonegeboflaaDoorTxs
import Derived.Deep.RegionLaw
namespace Go.Proofs.YtnaoonegeboflaaDoor.Kf
open Go.RowKit
set_option linter.unusedVariables false
set_option linter.unusedSimpArgs false

theorem step_append_own {P : Program} {ops : Array Oper} {o : Oper} {a : Act} {w : World} {K : Act → World → Prop} {Q : Exit → Act → World → Prop} {E : Prop}
    (hg : o.guard = none) (s x : Operand) (t : TypeId) (hop : o.op = .call { callee := .builtin .append, args := #[s, x], argTypes := #[t, t] })
    (base : Nat) (e : TypeId) (i : TypeInfo) (z : Value) (size bytes : Nat) (ht : P.underlying t = some (.slice e)) (hi : P.info? e = some i) (hz : i.zero = some z)
    (hsize : i.size = size) (hby : i.bytes = bytes) (hzs : z.cells.size = size) (hsz : 0 < size)
    (v : Value) (n : Nat) (xs : List Value) (hs : a.eval s = v) (hown : w.ownsRow base e size v n xs)
    (ad : Addr) (m c : Nat) (news : List Value) (hx : a.eval x = .slice (some ad) m c) (hl : news.length = m * size) (hnews : ∀ j u, news[j]? = some u → w.cell? (ad.add j) = some u) (h1 : ∀ u ∈ news, u.oneCell' = true)
    (h63 : n + m ≤ maxLen) (hbytes : (n + m) * bytes ≤ 140737488355328) (hbase : base ≤ w.heap.size)
    (h : ∀ v' w', w'.ownsRow base e size v' (n + m) (xs ++ news) → w.grownBy w' v.ownBlock → K (a.put o.dst v') w') :
    if Region.wanted o (yielded ops a.tmps) = true then Oper.wp P o a w K Q else E := by
  have hw : Region.wanted o (yielded ops a.tmps) = true := by simp [Region.wanted, hg]
  rw [if_pos hw]
  exact wp_append_own w s x t hop base e i z size bytes ht hi hz hsize hby hzs hsz v n xs hs hown ad m c news hx hl hnews h1 h63 hbytes hbase fun v' w' h2 h3 _ => h v' w' h2 h3

/-- what is known of what is left -/
structure PM (ws : List (List UInt8)) (Z : List ByteArray) : Prop where
  dg : ∀ z ∈ Z, Dg ws (bs z)
  suf : ∀ z ∈ Z, ∃ w ∈ ws, ∃ k : Nat, bs z = w.drop k
theorem PM.snoc {ws : List (List UInt8)} {Z : List ByteArray} {z : ByteArray} (h : PM ws Z) (h1 : Dg ws (bs z)) (h2 : ∃ w ∈ ws, ∃ k : Nat, bs z = w.drop k) : PM ws (Z ++ [z]) := by
  refine ⟨fun y hy => ?_, fun y hy => ?_⟩
  · rcases List.mem_append.1 hy with h' | h'
    · exact h.dg y h'
    · rw [List.mem_singleton.1 h']; exact h1
  · rcases List.mem_append.1 hy with h' | h'
    · exact h.suf y h'
    · rw [List.mem_singleton.1 h']; exact h2
theorem PM.size {ws : List (List UInt8)} {Z : List ByteArray} (h : PM ws Z) (h8 : ∀ w ∈ ws, w.length ≤ 8) {t : ByteArray} (ht : t ∈ Z) : t.size ≤ 8 := by
  obtain ⟨w, hw, k, hk⟩ := h.suf t ht
  have := congrArg List.length hk
  rw [bs_length, List.length_drop] at this
  have := h8 w hw
  omega
def FirM (ws : List (List UInt8)) (Z : List ByteArray) (i k : Nat) : Prop := ∀ (i' k' : Nat) (x y t : List UInt8), (i' < i ∨ (i' = i ∧ k' < k)) → i' ≠ k' → ws[i']? = some x → ws[k']? = some y → x = y ++ t → t ∈ Z.map bs
theorem FirM.more {ws : List (List UInt8)} {Z : List ByteArray} {i k : Nat} (h : FirM ws Z i k) (z : ByteArray) : FirM ws (Z ++ [z]) i k :=
  fun i' k' x y t h1 h2 h3 h4 h5 => by rw [List.map_append]; exact List.mem_append_left _ (h i' k' x y t h1 h2 h3 h4 h5)
theorem FirM.put {ws : List (List UInt8)} {Z : List ByteArray} {i k : Nat} {x y : List UInt8} (h : FirM ws Z i k) (hx : ws[i]? = some x) (hy : ws[k]? = some y) (hz : ∀ t, x = y ++ t → t ∈ Z.map bs) : FirM ws Z i (k + 1) := by
  intro i' k' x' y' t h1 h2 h3 h4 h5
  by_cases hik : i' = i ∧ k' = k
  · obtain ⟨rfl, rfl⟩ := hik
    rw [hx] at h3; rw [hy] at h4
    simp only [Option.some.injEq] at h3 h4
    subst h3; subst h4
    exact hz t h5
  · exact h i' k' x' y' t (by omega) h2 h3 h4 h5
theorem FirM.skip {ws : List (List UInt8)} {Z : List ByteArray} {i : Nat} (h : FirM ws Z i i) : FirM ws Z i (i + 1) :=
  fun i' k' x y t h1 h2 h3 h4 h5 => h i' k' x y t (by omega) h2 h3 h4 h5
theorem FirM.row {ws : List (List UInt8)} {Z : List ByteArray} {i : Nat} (h : FirM ws Z i ws.length) : FirM ws Z (i + 1) 0 :=
  fun i' k' x y t h1 h2 h3 h4 h5 => h i' k' x y t (by have := (List.getElem?_eq_some_iff.1 h4).1; omega) h2 h3 h4 h5
/-- all that follows from the places ahead of n is known -/
def Nex (ws : List (List UInt8)) (Z : List ByteArray) (n : Nat) : Prop := ∀ (n' : Nat) (a : ByteArray), n' < n → Z[n']? = some a → bs a ≠ [] ∧ ∀ w ∈ ws, ∀ t, (w = bs a ++ t → t ∈ Z.map bs) ∧ (bs a = w ++ t → t ∈ Z.map bs)
theorem Nex.more {ws : List (List UInt8)} {Z : List ByteArray} {n : Nat} (h : Nex ws Z n) (hn : n ≤ Z.length) (z : ByteArray) : Nex ws (Z ++ [z]) n := by
  intro n' a hn' ha
  rw [List.getElem?_append_left (by omega)] at ha
  have := h n' a hn' ha
  refine ⟨this.1, fun w hw t => ?_⟩
  rw [List.map_append]
  exact ⟨fun e => List.mem_append_left _ ((this.2 w hw t).1 e), fun e => List.mem_append_left _ ((this.2 w hw t).2 e)⟩
/-- what follows from a by the words ahead of i is known -/
def Som (ws : List (List UInt8)) (Z : List ByteArray) (a : List UInt8) (i : Nat) : Prop := ∀ (i' : Nat) (w t : List UInt8), i' < i → ws[i']? = some w → (w = a ++ t → t ∈ Z.map bs) ∧ (a = w ++ t → t ∈ Z.map bs)
theorem Som.more {ws : List (List UInt8)} {Z : List ByteArray} {a : List UInt8} {i : Nat} (h : Som ws Z a i) (z : ByteArray) : Som ws (Z ++ [z]) a i := by
  intro i' w t hi hw
  rw [List.map_append]
  exact ⟨fun e => List.mem_append_left _ ((h i' w t hi hw).1 e), fun e => List.mem_append_left _ ((h i' w t hi hw).2 e)⟩
theorem Som.put {ws : List (List UInt8)} {Z : List ByteArray} {a w : List UInt8} {i : Nat} (h : Som ws Z a i) (hw : ws[i]? = some w) (h1 : ∀ t, w = a ++ t → t ∈ Z.map bs) (h2 : ∀ t, a = w ++ t → t ∈ Z.map bs) : Som ws Z a (i + 1) := by
  intro i' w' t hi hw'
  by_cases e : i' = i
  · subst e
    rw [hw] at hw'
    simp only [Option.some.injEq] at hw'
    subst hw'
    exact ⟨h1 t, h2 t⟩
  · exact h i' w' t (by omega) hw'
theorem Nex.next {ws : List (List UInt8)} {Z : List ByteArray} {n : Nat} {a : ByteArray} (h : Nex ws Z n) (ha : Z[n]? = some a) (h0 : bs a ≠ []) (hs : Som ws Z (bs a) ws.length) : Nex ws Z (n + 1) := by
  intro n' b hn hb
  by_cases e : n' = n
  · subst e
    rw [ha] at hb
    simp only [Option.some.injEq] at hb
    subst hb
    refine ⟨h0, fun w hw t => ?_⟩
    obtain ⟨j, hj⟩ := List.getElem?_of_mem hw
    exact hs j w t (List.getElem?_eq_some_iff.1 hj).1 hj
  · exact h n' b (by omega) hb
theorem not_dg_m {ws : List (List UInt8)} {Z : List ByteArray} (hf : FirM ws Z ws.length 0) (hn : Nex ws Z Z.length) : ¬ Dg ws [] := by
  have hc : ∀ z ∈ Z.map bs, z ≠ [] ∧ ∀ w ∈ ws, ∀ t, (w = z ++ t → t ∈ Z.map bs) ∧ (z = w ++ t → t ∈ Z.map bs) := by
    intro z hz
    obtain ⟨a, ha, rfl⟩ := List.mem_map.1 hz
    obtain ⟨j, hj⟩ := List.getElem?_of_mem ha
    exact hn j a (List.getElem?_eq_some_iff.1 hj).1 hj
  intro hg
  have := hg (fun t => t ∈ Z.map bs) (fun i k x y t h1 h2 h3 h4 => hf k i y x t (.inl (List.getElem?_eq_some_iff.1 h3).1) (fun e => h1 e.symm) h3 h2 h4) (fun a w t ha hw e => ((hc a ha).2 w hw t).1 e) (fun a w t ha hw e => ((hc a ha).2 w hw t).2 e)
  exact (hc [] this).1 rfl
/-- the later ones stand once each -/
theorem late_count {ws : List (List UInt8)} {Z : List ByteArray} {m : Nat} (h : PM ws Z) (hn : ((Z.map bs).drop m).Nodup) (h6 : ws.length ≤ 6) (h8 : ∀ w ∈ ws, w.length ≤ 8) : Z.length ≤ m + 54 := by
  have := nodup_len ((Z.map bs).drop m) (ws.flatMap fun w => (List.range 9).map fun k => w.drop k) hn (by
    intro z hz
    obtain ⟨y, hy, rfl⟩ := List.mem_map.1 (List.mem_of_mem_drop hz)
    obtain ⟨w, hw, k, hk⟩ := h.suf y hy
    refine List.mem_flatMap.2 ⟨w, hw, List.mem_map.2 ⟨min k 8, List.mem_range.2 (by omega), ?_⟩⟩
    rw [hk]
    rcases Nat.le_total k 8 with h1 | h1
    · rw [Nat.min_eq_left h1]
    · rw [Nat.min_eq_right h1, List.drop_of_length_le (h8 w hw), List.drop_of_length_le (Nat.le_trans (h8 w hw) h1)])
  have hl : ∀ l : List (List UInt8), (l.flatMap fun w => (List.range 9).map fun k => w.drop k).length = 9 * l.length := by
    intro l
    induction l with
    | nil => rfl
    | cons x l ih => simp [List.flatMap_cons, ih]; omega
  rw [hl, List.length_drop, List.length_map] at this
  omega
theorem late_snoc {Z : List ByteArray} {m : Nat} {z : ByteArray} (h : ((Z.map bs).drop m).Nodup) (hm : m ≤ Z.length) (hz : bs z ∉ Z.map bs) : (((Z ++ [z]).map bs).drop m).Nodup := by
  rw [List.map_append, List.drop_append_of_le_length (by simpa using hm), List.nodup_append]
  refine ⟨h, by simp, fun a ha b hb e => hz ?_⟩
  simp at hb
  rw [← hb, ← e]
  exact List.mem_of_mem_drop ha
theorem begins_eq (s t : ByteArray) (w : World) (b : Bool) (h : (bs t).isPrefixOf (bs s) = b) (hs : s.size ≤ 1000) (ht : t.size ≤ 1000) :
    Calls Tryd.prog 9 #[.string s, .string t] w fun e w' => e = .returned (.bool b) ∧ w' = w :=
  h ▸ (begins_any s t w (by unfold maxLen; omega) (by unfold maxLen; omega)).mono fun e w' ⟨h1, h2⟩ => ⟨h1, h2.symm⟩
theorem rest_eq {s t : ByteArray} (h : (bs t).isPrefixOf (bs s) = true) : bs s = bs t ++ bs (s.extract t.size s.size) ∧ t.size ≤ s.size := by
  obtain ⟨r, hr⟩ := List.isPrefixOf_iff_prefix.1 h
  refine ⟨?_, ?_⟩
  · rw [bs_from, ← hr, ← bs_length, List.drop_left]
  · have := congrArg List.length hr
    rw [List.length_append, bs_length, bs_length] at this
    omega
theorem not_rest {s t : ByteArray} (h : (bs t).isPrefixOf (bs s) = false) (r : List UInt8) : bs s ≠ bs t ++ r := fun e => by
  have : (bs t).isPrefixOf (bs s) = true := by rw [e]; exact List.isPrefixOf_iff_prefix.2 (List.prefix_append _ _)
  rw [h] at this
  cases this
theorem below_app3 {w wr w2 : World} {v : Value} {n size k : Nat} {e : TypeId} {xs : List Value} {o : Obj} (hb : Below w.heap.size w wr) (hown : wr.ownsRow w.heap.size e size v n xs) (hg : ((wr.drewN k).alloc o).grownBy w2 v.ownBlock) : Below w.heap.size w w2 :=
  (bmore (bdrew hb k) o).grown hg (by simp; have := hb.size; omega) (fun k hk => (hown.lt k hk).1)

theorem texts_snoc (Z : List ByteArray) (r : ByteArray) : texts (Z ++ [r]) = texts Z ++ [.string r] := by simp [texts]
theorem own_shape {w : World} {base n : Nat} {e : TypeId} {v : Value} {xs : List Value} (h : w.ownsRow base e 1 v n xs) (hn : 0 < n) : ∃ g cap, v = .slice (some ⟨g, 0, none⟩) n cap := by
  rcases h.2 with ⟨_, h0⟩ | ⟨g, cap, cur, hv, _⟩
  · omega
  · exact ⟨g, cap, hv⟩
theorem own_slice {w : World} {base n : Nat} {e : TypeId} {v : Value} {xs : List Value} (h : w.ownsRow base e 1 v n xs) : ∃ A cap, v = .slice A n cap := by
  rcases h.2 with ⟨hv, h0⟩ | ⟨g, cap, cur, hv, _⟩
  · exact ⟨_, _, by rw [hv, h0]⟩
  · exact ⟨_, _, hv⟩
theorem Som.both {ws : List (List UInt8)} {Z : List ByteArray} {a w r : List UInt8} {i : Nat} (h : Som ws Z a i) (hw : ws[i]? = some w) (hr : r ∈ Z.map bs) (e : w = a ++ r ∨ a = w ++ r) : Som ws Z a (i + 1) := by
  refine h.put hw (fun t ht => ?_) (fun t ht => ?_)
  · rcases e with e | e
    · rw [← List.append_cancel_left (e.symm.trans ht)]; exact hr
    · have h1 := congrArg List.length e
      have h2 := congrArg List.length ht
      simp only [List.length_append] at h1 h2
      have h3 : r = [] := List.eq_nil_of_length_eq_zero (by omega)
      have h4 : t = [] := List.eq_nil_of_length_eq_zero (by omega)
      rw [h4, ← h3]; exact hr
  · rcases e with e | e
    · have h1 := congrArg List.length e
      have h2 := congrArg List.length ht
      simp only [List.length_append] at h1 h2
      have h3 : r = [] := List.eq_nil_of_length_eq_zero (by omega)
      have h4 : t = [] := List.eq_nil_of_length_eq_zero (by omega)
      rw [h4, ← h3]; exact hr
    · rw [← List.append_cancel_left (e.symm.trans ht)]; exact hr
/-- the state of the second walk: from the place n on, words ahead of i done -/
structure Inv (ws : List (List UInt8)) (Z : List ByteArray) (m n : Nat) (a : ByteArray) (i : Nat) : Prop where
  at_ : Z[n]? = some a
  le : m ≤ Z.length
  nod : ((Z.map bs).drop m).Nodup
  pm : PM ws Z
  fir : FirM ws Z ws.length 0
  nex : Nex ws Z n
  som : Som ws Z (bs a) i
theorem Inv.skip {ws : List (List UInt8)} {Z : List ByteArray} {m n i : Nat} {a x : ByteArray} (h : Inv ws Z m n a i) (hx : ws[i]? = some (bs x)) (h1 : (bs a).isPrefixOf (bs x) = false) (h2 : (bs x).isPrefixOf (bs a) = false) : Inv ws Z m n a (i + 1) :=
  ⟨h.at_, h.le, h.nod, h.pm, h.fir, h.nex, h.som.put hx (fun t e => absurd e (not_rest h1 t)) (fun t e => absurd e (not_rest h2 t))⟩
theorem Inv.same {ws : List (List UInt8)} {Z : List ByteArray} {m n i : Nat} {a x r : ByteArray} (h : Inv ws Z m n a i) (hx : ws[i]? = some (bs x)) (e : bs x = bs a ++ bs r ∨ bs a = bs x ++ bs r) (hr : (Z.map bs).contains (bs r) = true) : Inv ws Z m n a (i + 1) :=
  ⟨h.at_, h.le, h.nod, h.pm, h.fir, h.nex, h.som.both hx (List.contains_iff_mem.1 hr) e⟩
theorem Inv.grow {ws : List (List UInt8)} {Z : List ByteArray} {m n i : Nat} {a x r : ByteArray} (h : Inv ws Z m n a i) (hx : ws[i]? = some (bs x)) (e : bs x = bs a ++ bs r ∨ bs a = bs x ++ bs r) (hr : (Z.map bs).contains (bs r) = false) : Inv ws (Z ++ [r]) m n a (i + 1) := by
  have hnl := (List.getElem?_eq_some_iff.1 h.at_).1
  have hxm := List.mem_of_getElem? hx
  have ham := List.mem_of_getElem? h.at_
  refine ⟨by rw [List.getElem?_append_left hnl]; exact h.at_, by have := h.le; simp; omega, late_snoc h.nod h.le (fun hc => ?_), h.pm.snoc ?_ ?_, ?_, h.nex.more (by omega) r, (h.som.more r).both hx ?_ e⟩
  · rw [List.contains_iff_mem.2 hc] at hr; cases hr
  · rcases e with e | e
    · exact Dg.over (h.pm.dg a ham) hxm e
    · exact Dg.under (h.pm.dg a ham) hxm e
  · rcases e with e | e
    · exact ⟨bs x, hxm, (bs a).length, by rw [e, List.drop_left]⟩
    · obtain ⟨y, hy, k, hk⟩ := h.pm.suf a ham
      refine ⟨y, hy, k + (bs x).length, ?_⟩
      have : bs r = (bs a).drop (bs x).length := by rw [e, List.drop_left]
      rw [this, hk, List.drop_drop]
  · exact h.fir.more r
  · rw [List.map_append]; exact List.mem_append_right _ (by simp)

theorem Inv.len {ws : List (List UInt8)} {Z : List ByteArray} {m n i : Nat} {a : ByteArray} (h : Inv ws Z m n a i) (h6 : ws.length ≤ 6) (h8 : ∀ w ∈ ws, w.length ≤ 8) (hm : m ≤ 36) : Z.length ≤ 90 := by
  have := late_count h.pm h.nod h6 h8
  omega

set_option maxHeartbeats 1000000 in
set_option maxRecDepth 100000 in
theorem refapart_any (A : Option Addr) (c : Nat) (l : List ByteArray) (w : World) (hr : Reads w A l.length 1 (texts l)) (h : tchk (l.map bs) = 0) (R : Bool) (hR : R = true ↔ ¬ Dg (l.map bs) []) :
    Calls Tryd.prog 18 #[.slice A l.length c] w fun e w' => e = .returned (.bool R) ∧ Below w.heap.size w w' := by
  obtain ⟨i0, hi0, hz0, hz1, hz2⟩ := info_parts infoS
  obtain ⟨h6, h8, hnd⟩ := tchk_ok h
  have h60 : l.length ≤ 6 := by simpa using h6
  have HRR := Lib.hid hR
  have HR := Lib.hid hr
  have H6 := Lib.hid h6
  have H8 := Lib.hid (fun w hw => (h8 w hw).1 : ∀ w ∈ l.map bs, w.length ≤ 8)
  clear h h6 h8 hr hR hnd
  go_enter Tryd.func18, Tryd.ntmps18
  go_wp2_with fail
  go_loopw [3, 4, 5, 23, 24, 25, 26, 27, 28, 29, 30, 31, 32, 33, 34, 35, 36, 37, 38, 39, 40, 41, 42, 43, 44, 45, 46, 47, 48, 49] (fun zv iv _ _ _ _ _ _ _ _ _ _ _ _ _ _ _ _ _ _ _ _ _ _ _ _ _ _ _ _ wr => ∃ (i n : Nat) (Z : List ByteArray), i ≤ l.length ∧ iv = .int .i64 (i : Int) ∧ n ≤ 6 * i ∧ wr.ownsRow w.heap.size 9 1 zv n (texts Z) ∧ Hid (n = Z.length ∧ PM (l.map bs) Z ∧ FirM (l.map bs) Z i 0) ∧ Below w.heap.size w wr) (fun _ iv _ _ _ _ _ _ _ _ _ _ _ _ _ _ _ _ _ _ _ _ _ _ _ _ _ _ _ _ _ => l.length - (intOf iv).toNat)
  case atStart => exact ⟨0, 0, [], Nat.zero_le _, rfl, Nat.zero_le _, World.ownsRow_nil _ _ _ _, Lib.hid ⟨rfl, ⟨by simp, by simp⟩, (by intro i' k' x y t h1; omega)⟩, Below.refl _ _⟩
  case round =>
    obtain ⟨i, n, Z, hi1, rfl, hn, hown, HZ, hbe⟩ := hrel
    by_cases hlt : i < l.length
    · have kk : (i : Int) < (l.length : Int) := by omega
      go_wp2_with fail
      go_loopw [3, 5, 23, 24, 25, 26, 27, 28, 29, 30, 31, 32, 33, 34, 35, 36, 37, 38, 39, 40, 41, 42, 43, 44, 45, 46, 47, 48, 49] (fun zv kv _ _ _ _ _ _ _ _ _ _ _ _ _ _ _ _ _ _ _ _ _ _ _ _ _ _ _ wr => ∃ (k n : Nat) (Z : List ByteArray), k ≤ l.length ∧ kv = .int .i64 (k : Int) ∧ n ≤ 6 * i + k ∧ wr.ownsRow w.heap.size 9 1 zv n (texts Z) ∧ Hid (n = Z.length ∧ PM (l.map bs) Z ∧ FirM (l.map bs) Z i k) ∧ Below w.heap.size w wr) (fun _ kv _ _ _ _ _ _ _ _ _ _ _ _ _ _ _ _ _ _ _ _ _ _ _ _ _ _ _ _ => l.length - (intOf kv).toNat)
      case atStart => exact ⟨0, n, Z, Nat.zero_le _, rfl, hn, hown, HZ, hbe⟩
      case round =>
        clear hown HZ hbe hn
        obtain ⟨k, n, Z, hk, rfl, hn, hown, HZ, hbe⟩ := hrel
        by_cases hlt2 : k < l.length
        · obtain ⟨b, o, rfl, hb, hcc⟩ := (HR.out.below hbe).2 (by omega)
          obtain ⟨x, hx⟩ : ∃ x, l[i]? = some x := ⟨_, List.getElem?_eq_getElem hlt⟩
          obtain ⟨y, hy⟩ : ∃ y, l[k]? = some y := ⟨_, List.getElem?_eq_getElem hlt2⟩
          have c0 := hcc i (.string x) (by rw [texts_get, hx]; rfl)
          have c1 := hcc k (.string y) (by rw [texts_get, hy]; rfl)
          have kk2 : (k : Int) < (l.length : Int) := by omega
          have hX : (l.map bs)[i]? = some (bs x) := by rw [List.getElem?_map, hx]; rfl
          have hY : (l.map bs)[k]? = some (bs y) := by rw [List.getElem?_map, hy]; rfl
          have hxl : x.size ≤ 8 := by have := H8.out (bs x) (List.mem_of_getElem? hX); rwa [bs_length] at this
          have hyl : y.size ≤ 8 := by have := H8.out (bs y) (List.mem_of_getElem? hY); rwa [bs_length] at this
          have HXX := Lib.hid hX; have HYY := Lib.hid hY
          have HOWN := Lib.hid hown; have HBE := Lib.hid hbe
          clear hcc hx hy hX hY hown
          by_cases hik : i = k
          · have hne : ((i : Int) != (k : Int)) = false := by rw [bne_eq_false_iff_eq]; omega
            have HE := Lib.hid hik
            clear hik hbe
            go_wp2
            go_quiet (fail)
            go_wp2
            exact ⟨⟨k + 1, n, Z, by omega, by go_num, by omega, HOWN.out, Lib.hid ⟨HZ.out.1, HZ.out.2.1, by have hf := HZ.out.2.2; rw [← HE.out] at hf ⊢; exact hf.skip⟩, bdrew HBE.out _⟩, by simp [intOf]; omega⟩
          · have hne : ((i : Int) != (k : Int)) = true := by rw [bne_iff_ne]; omega
            have HIK := Lib.hid hik
            cases hp : (bs y).isPrefixOf (bs x)
            · have HBG := Lib.hid (fun w' => begins_eq x y w' false hp (by omega) (by omega))
              have HN := Lib.hid (HZ.out.2.2.put HXX.out HYY.out (fun t e => absurd e (not_rest hp t)))
              clear hik hp hbe
              go_wp2
              go_quiet (refine Calls.quiet_of_same (HBG.out _))
              go_wp2
              exact ⟨⟨k + 1, n, Z, by omega, by go_num, by omega, HOWN.out, Lib.hid ⟨HZ.out.1, HZ.out.2.1, HN.out⟩, bdrew HBE.out _⟩, by simp [intOf]; omega⟩
            · have HBG := Lib.hid (fun w' => begins_eq x y w' true hp (by omega) (by omega))
              have hre := rest_eq hp
              have hyx : y.size ≤ x.size := hre.2
              have kyx : (y.size : Int) ≤ (x.size : Int) := by omega
              obtain ⟨r, hrr⟩ : ∃ r, r = x.extract y.size x.size := ⟨_, rfl⟩
              have HRE := Lib.hid (show bs x = bs y ++ bs r from by rw [hrr]; exact hre.1)
              have HRX := Lib.hid hrr
              have HPM := Lib.hid (HZ.out.2.1.snoc (z := r) (Dg.first (fun e => HIK.out e.symm) HYY.out HXX.out HRE.out) ⟨bs x, List.mem_of_getElem? HXX.out, y.size, by rw [HRX.out, bs_from]⟩)
              have HN := Lib.hid ((HZ.out.2.2.more r).put HXX.out HYY.out (fun t e => by
                have := List.append_cancel_left (HRE.out.symm.trans e)
                rw [← this, List.map_append]
                exact List.mem_append_right _ (by simp)))
              have hsz0 := hbe.size
              clear hik hp hbe hre hrr
              go_wp2
              go_quiet (refine Calls.quiet_of_same (HBG.out _))
              go_wp2_with fail
              go_region_law (refine step_append_own rfl _ _ 28 rfl w.heap.size 9 i0 _ 1 16 Tryd.underlying28 hi0 hz0 hz1 hz2 rfl (by decide) _ n (texts Z) rfl (HOWN.out.alloc _) ⟨_, 0, none⟩ 1 1 [.string r] rfl rfl (by rw [HRX.out]; exact cell_one_new _ _ _) (by intro u hu; simp at hu; subst hu; rfl) (by unfold maxLen; omega) (by omega) (by simp; omega) ?_; intro v2 w2 hown2 hgrow2)
              all_goals (go_wp2; exact ⟨⟨k + 1, n + 1, Z ++ [r], by omega, by go_num, by omega, by rw [texts_snoc]; exact hown2, Lib.hid ⟨by simp [HZ.out.1], HPM.out, HN.out⟩, below_app3 HBE.out HOWN.out hgrow2⟩, by simp [intOf]; omega⟩)
        · have kk2 : ¬ (k : Int) < (l.length : Int) := by omega
          have HE := Lib.hid (show k = (l.map bs).length by simp; omega)
          go_wp2
          exact ⟨⟨i + 1, n, Z, by omega, by go_num, by omega, hown, Lib.hid ⟨HZ.out.1, HZ.out.2.1, by have hf := HZ.out.2.2; rw [HE.out] at hf; exact hf.row⟩, hbe⟩, by simp [intOf]; omega⟩
    · have kk : ¬ (i : Int) < (l.length : Int) := by omega
      have hE : i = (l.map bs).length := by simp; omega
      obtain ⟨m, hm⟩ : ∃ m, m = n := ⟨_, rfl⟩
      have hm36 : m ≤ 36 := by omega
      have hZl : n = Z.length := HZ.out.1
      rw [hZl] at hown
      have HZ1 := Lib.hid (show m ≤ Z.length ∧ ((Z.map bs).drop m).Nodup ∧ PM (l.map bs) Z ∧ FirM (l.map bs) Z (l.map bs).length 0 ∧ Nex (l.map bs) Z 0 from
        ⟨by omega, by rw [List.drop_of_length_le (by simp; omega)]; exact List.nodup_nil, HZ.out.2.1, by have := HZ.out.2.2; rwa [hE] at this, fun n' a h => by omega⟩)
      have hZ90 : Z.length ≤ 90 := by omega
      clear HZ hm hZl hn hE
      go_wp2_with fail
      go_loopw [3, 6, 7, 8, 9, 10] (fun zv nv _ _ _ _ wx => ∃ (n : Nat) (Z : List ByteArray), n ≤ Z.length ∧ nv = .int .i64 (n : Int) ∧ Z.length ≤ 90 ∧ wx.ownsRow w.heap.size 9 1 zv Z.length (texts Z) ∧ Hid (m ≤ Z.length ∧ ((Z.map bs).drop m).Nodup ∧ PM (l.map bs) Z ∧ FirM (l.map bs) Z (l.map bs).length 0 ∧ Nex (l.map bs) Z n) ∧ Below w.heap.size w wx) (fun _ nv _ _ _ _ _ => 91 - (intOf nv).toNat)
      case atStart => exact ⟨0, Z, Nat.zero_le _, rfl, hZ90, hown, HZ1, hbe⟩
      case round =>
        clear hown hZ90 HZ1 hbe kk hi1
        obtain ⟨n, Z, hnZ, rfl, hZ90, hown, HZ, hbe⟩ := hrel
        by_cases hlt2 : n < Z.length
        · obtain ⟨a, ha⟩ : ∃ a, Z[n]? = some a := ⟨_, List.getElem?_eq_getElem hlt2⟩
          obtain ⟨g, cap, rfl⟩ := own_shape hown (by omega)
          have c0 := own_cell hown (show (texts Z)[n]? = some (.string a) by rw [texts_get, ha]; rfl)
          have kkn : (n : Int) < (Z.length : Int) := by omega
          have HA := Lib.hid ha
          have ha8 : a.size ≤ 8 := HZ.out.2.2.1.size H8.out (List.mem_of_getElem? ha)
          clear ha
          by_cases ha0 : a.size = 0
          · have HF := Lib.hid (show R = false from bool_no HRR.out (fun h => h (by
              have := HZ.out.2.2.1.dg a (List.mem_of_getElem? HA.out)
              rwa [show bs a = [] from List.eq_nil_of_length_eq_zero (by rw [bs_length]; exact ha0)] at this)))
            have ha0' : ((a.size : Int) == 0) = true := by rw [ha0]; rfl
            go_wp2
            go_ret
            rw [HF.out]
            exact ⟨rfl, hbe⟩
          · have ha0' : ((a.size : Int) == 0) = false := by rw [beq_eq_false_iff_ne]; omega
            have HA0 := Lib.hid ha0
            clear ha0
            obtain ⟨wo, hwo⟩ : ∃ wo, wo = wr := ⟨_, rfl⟩
            subst hwo
            go_wp2_with fail
            go_loopw [3, 8, 9, 10] (fun zv iv _ _ wx => ∃ (i : Nat) (Z : List ByteArray), i ≤ l.length ∧ iv = .int .i64 (i : Int) ∧ n < Z.length ∧ Z.length ≤ 90 ∧ wx.ownsRow w.heap.size 9 1 zv Z.length (texts Z) ∧ Hid (Inv (l.map bs) Z m n a i) ∧ Below w.heap.size w wx) (fun _ iv _ _ _ => l.length - (intOf iv).toNat)
            case atStart => exact ⟨0, Z, Nat.zero_le _, rfl, hlt2, hZ90, hown, Lib.hid ⟨HA.out, HZ.out.1, HZ.out.2.1, HZ.out.2.2.1, HZ.out.2.2.2.1, HZ.out.2.2.2.2, fun i' w t h => by omega⟩, hbe⟩
            case round =>
              clear hown hZ90 HZ hbe c0 kkn HA hlt2 hnZ
              obtain ⟨i, Z, hi, rfl, hnZ, hZ90, hown, HI, hbe⟩ := hrel
              obtain ⟨g, cap, rfl⟩ := own_shape hown (by omega)
              by_cases hlt : i < l.length
              · obtain ⟨b, o, rfl, hb, hcc⟩ := (HR.out.below hbe).2 (by omega)
                obtain ⟨x, hx⟩ : ∃ x, l[i]? = some x := ⟨_, List.getElem?_eq_getElem hlt⟩
                have c0 := hcc i (.string x) (by rw [texts_get, hx]; rfl)
                have kk : (i : Int) < (l.length : Int) := by omega
                have hX : (l.map bs)[i]? = some (bs x) := by rw [List.getElem?_map, hx]; rfl
                have hxl : x.size ≤ 8 := by have := H8.out (bs x) (List.mem_of_getElem? hX); rwa [bs_length] at this
                have HX := Lib.hid hX
                have HOWN := Lib.hid hown
                have HHAS := Lib.hid (fun r => has_any (some ⟨g, 0, none⟩) cap Z r wr (Reads.of_own hown) (by unfold maxLen; omega))
                have HBE := Lib.hid hbe
                have hsz0 := hbe.size
                clear hcc hx hX hown hbe
                cases hp1 : (bs a).isPrefixOf (bs x)
                · have HB1 := Lib.hid (begins_eq x a wr false hp1 (by omega) (by omega))
                  cases hp2 : (bs x).isPrefixOf (bs a)
                  · have HB2 := Lib.hid (begins_eq a x wr false hp2 (by omega) (by omega))
                    have HN := Lib.hid (HI.out.skip HX.out hp1 hp2)
                    clear hp1 hp2
                    go_wp2_with fail
                    refine HB1.out.mono ?_
                    rintro e w2 ⟨rfl, rfl⟩
                    go_wp2_with fail
                    refine HB2.out.mono ?_
                    rintro e w2 ⟨rfl, rfl⟩
                    go_wp2
                    exact ⟨⟨i + 1, Z, by omega, by go_num, hnZ, hZ90, HOWN.out, HN, HBE.out⟩, by simp [intOf]; omega⟩
                  · have HB2 := Lib.hid (begins_eq a x wr true hp2 (by omega) (by omega))
                    have hre := rest_eq hp2
                    obtain ⟨r, hrr⟩ : ∃ r, r = a.extract x.size a.size := ⟨_, rfl⟩
                    have hsx : x.size ≤ a.size := hre.2
                    have kxa : (x.size : Int) ≤ (a.size : Int) := by omega
                    have HRE := Lib.hid (show bs x = bs a ++ bs r ∨ bs a = bs x ++ bs r from .inr (by rw [hrr]; exact hre.1))
                    clear hp1 hp2 hre
                    go_wp2_with fail
                    refine HB1.out.mono ?_
                    rintro e w2 ⟨rfl, rfl⟩
                    go_wp2_with fail
                    refine HB2.out.mono ?_
                    rintro e w2 ⟨rfl, rfl⟩
                    go_wp2_with fail
                    rw [← hrr]
                    refine (HHAS.out r).mono ?_
                    rintro e w2 ⟨rfl, rfl⟩
                    cases hh : (Z.map bs).contains (bs r)
                    · have HN := Lib.hid (HI.out.grow HX.out HRE.out hh)
                      have hZ54 : Z.length + 1 ≤ 90 := by have := HN.out.len (by simpa using H6.out) H8.out hm36; simpa using this
                      clear hh
                      go_wp2_with (at_builtin; go_must (refine append_own _ rfl _ _ 28 rfl w.heap.size 9 i0 _ 1 16 Tryd.underlying28 hi0 hz0 hz1 hz2 rfl (by decide) _ _ _ rfl (HOWN.out.alloc _) ⟨w2.heap.size, 0, none⟩ 1 1 [.string r] rfl rfl (by rw [hrr]; exact cell_one_new _ _ _) (by intro u hu; simp at hu; subst hu; rfl) (by unfold maxLen; omega) (by omega) (by simp; omega) (by decide) ?_); intro g2 cap2 w3 hown2 hg2 hg2' hgrow2)
                      exact ⟨⟨i + 1, Z ++ [r], by omega, by go_num, by simp; omega, by simp; omega, by rw [texts_snoc, List.length_append]; exact hown2, HN, below_app3 (k := 0) HBE.out HOWN.out hgrow2⟩, by simp [intOf]; omega⟩
                    · have HN := Lib.hid (HI.out.same HX.out HRE.out hh)
                      clear hh
                      go_wp2
                      exact ⟨⟨i + 1, Z, by omega, by go_num, hnZ, hZ90, HOWN.out, HN, HBE.out⟩, by simp [intOf]; omega⟩
                · have HB1 := Lib.hid (begins_eq x a wr true hp1 (by omega) (by omega))
                  have hre := rest_eq hp1
                  obtain ⟨r, hrr⟩ : ∃ r, r = x.extract a.size x.size := ⟨_, rfl⟩
                  have hsx : a.size ≤ x.size := hre.2
                  have kxa : (a.size : Int) ≤ (x.size : Int) := by omega
                  have HRE := Lib.hid (show bs x = bs a ++ bs r ∨ bs a = bs x ++ bs r from .inl (by rw [hrr]; exact hre.1))
                  clear hp1 hre
                  go_wp2_with fail
                  refine HB1.out.mono ?_
                  rintro e w2 ⟨rfl, rfl⟩
                  go_wp2_with fail
                  rw [← hrr]
                  refine (HHAS.out r).mono ?_
                  rintro e w2 ⟨rfl, rfl⟩
                  cases hh : (Z.map bs).contains (bs r)
                  · have HN := Lib.hid (HI.out.grow HX.out HRE.out hh)
                    have hZ54 : Z.length + 1 ≤ 90 := by have := HN.out.len (by simpa using H6.out) H8.out hm36; simpa using this
                    clear hh
                    go_wp2_with (at_builtin; go_must (refine append_own _ rfl _ _ 28 rfl w.heap.size 9 i0 _ 1 16 Tryd.underlying28 hi0 hz0 hz1 hz2 rfl (by decide) _ _ _ rfl (HOWN.out.alloc _) ⟨w2.heap.size, 0, none⟩ 1 1 [.string r] rfl rfl (by rw [hrr]; exact cell_one_new _ _ _) (by intro u hu; simp at hu; subst hu; rfl) (by unfold maxLen; omega) (by omega) (by simp; omega) (by decide) ?_); intro g2 cap2 w3 hown2 hg2 hg2' hgrow2)
                    exact ⟨⟨i + 1, Z ++ [r], by omega, by go_num, by simp; omega, by simp; omega, by rw [texts_snoc, List.length_append]; exact hown2, HN, below_app3 (k := 0) HBE.out HOWN.out hgrow2⟩, by simp [intOf]; omega⟩
                  · have HN := Lib.hid (HI.out.same HX.out HRE.out hh)
                    clear hh
                    go_wp2
                    exact ⟨⟨i + 1, Z, by omega, by go_num, hnZ, hZ90, HOWN.out, HN, HBE.out⟩, by simp [intOf]; omega⟩
              · have kk : ¬ (i : Int) < (l.length : Int) := by omega
                have HE := Lib.hid (show i = (l.map bs).length by simp; omega)
                go_wp2
                exact ⟨⟨n + 1, Z, by omega, by go_num, hZ90, hown, Lib.hid ⟨HI.out.le, HI.out.nod, HI.out.pm, HI.out.fir, HI.out.nex.next HI.out.at_ (fun h => HA0.out (by rw [← bs_length, h]; rfl)) (by have := HI.out.som; rwa [HE.out] at this)⟩, hbe⟩, by simp [intOf]; omega⟩
        · have kkn : ¬ (n : Int) < (Z.length : Int) := by omega
          obtain ⟨A1, cap, rfl⟩ := own_slice hown
          have hnl : n = Z.length := by omega
          have HF := Lib.hid (show R = true from HRR.out.2 (not_dg_m HZ.out.2.2.2.1 (hnl ▸ HZ.out.2.2.2.2)))
          clear hnl
          go_wp2
          go_ret
          rw [HF.out]
          exact ⟨rfl, hbe⟩
end Go.Proofs.YtnaoonegeboflaaDoor.Kf
