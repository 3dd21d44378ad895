/-
  The walk of the function value inside kraft.Apart: what is left of a text behind another one, each once.
-/
import Derived.Test.YtnaoonegeboflaaSeen
import Derived.Test.YtnaoonegeboflaaTail
import Derived.Test.YtnaoonegeboflaaTrChk
namespace Go.Proofs.Ytnaoonegeboflaa.Kf
open Go.RowKit
set_option linter.unusedVariables false
set_option linter.unusedSimpArgs false

/-- what has been seen, and what is still to be done -/
abbrev St := List (List UInt8) × List ByteArray
def putS (s : St) (long short : ByteArray) : St :=
  if (bs short).isPrefixOf (bs long) then
    if (bs long).drop short.size ∈ s.1 then s else ((bs long).drop short.size :: s.1, s.2 ++ [long.extract short.size long.size])
  else s
structure AR (w wr : World) (M X5 X6 : Nat) (s : St) (tv : Value) : Prop where
  seen : Seen wr M s.1.length s.1
  c5 : wr.heap[X5]? = some (.cells #[.map (some M)] 44 (0, 0))
  c6 : wr.heap[X6]? = some (.cells #[tv] 22 (0, 0))
  tail : Tail wr (X6 + 1) 9 tv s.2.length (texts s.2)
  below : Below w.heap.size w wr
  geM : w.heap.size ≤ M
  lt5 : M < X5
  lt6 : X5 < X6
theorem infoS : (Try.prog.info? 9).map (fun i => (i.zero, i.size, i.bytes)) = some (some (.string ⟨#[]⟩), 1, 16) := by kernel_rfl
section
variable {w wr : World} {M X5 X6 : Nat} {s : St} {tv : Value}
theorem lt_of_some' {w : World} {g : Nat} {o : Obj} (h : w.heap[g]? = some o) : g < w.heap.size := by
  rcases Nat.lt_or_ge g w.heap.size with hlt | hge
  · exact hlt
  · rw [Array.getElem?_eq_none hge] at h; cases h
theorem AR.ne6 (h : AR w wr M X5 X6 s tv) {g : Nat} (hg : g ≤ X6) : some g ≠ tv.ownBlock := fun e => by have := h.tail.block_ge e.symm; omega
theorem AR.drew (h : AR w wr M X5 X6 s tv) (n : Nat) : AR w (wr.drewN n) M X5 X6 s tv :=
  have hg : wr.grownBy (wr.drewN n) none := ⟨rfl, rfl, rfl, Nat.le_refl _, fun _ _ _ => rfl⟩
  ⟨h.seen.kept hg (by simp), h.c5, h.c6, h.tail.kept hg (by cases hv : tv.ownBlock <;> simp), bdrew h.below n, h.geM, h.lt5, h.lt6⟩
theorem AR.alloc (h : AR w wr M X5 X6 s tv) (o : Obj) : AR w (wr.alloc o) M X5 X6 s tv :=
  have hg := World.grownBy_alloc wr o none
  ⟨h.seen.kept hg (by simp), (hg.block X5 (lt_of_some' h.c5) (by simp)).trans h.c5, (hg.block X6 (lt_of_some' h.c6) (by simp)).trans h.c6, h.tail.alloc o, bmore h.below o, h.geM, h.lt5, h.lt6⟩
theorem grown_setC (w : World) (p : Addr) (v : Value) : w.grownBy (w.setCell p v) (some p.block) :=
  ⟨rfl, rfl, rfl, by simp [World.setCell], fun k hk hne => Below.heap_setCell w p v k (fun e => hne (by rw [e]))⟩
theorem AR.put_end {w1 w2 : World} {r : ByteArray} {g o2 cap2 : Nat} (h : AR w wr M X5 X6 s tv) (hs : Seen w1 M (s.1.length + 1) (bs r :: s.1)) (hg1 : wr.grownBy w1 (some M)) (hg2 : w1.grownBy w2 tv.ownBlock)
    (hc6 : w2.heap[X6]? = some (.cells #[tv] 22 (0, 0))) (ht : Tail w2 (X6 + 1) 9 (.slice (some ⟨g, o2, none⟩) (s.2.length + 1) cap2) (s.2.length + 1) (texts s.2 ++ [.string r])) :
    AR w (w2.setCell ⟨X6, 0, none⟩ (.slice (some ⟨g, o2, none⟩) (s.2.length + 1) cap2)) M X5 X6 (bs r :: s.1, s.2 ++ [r]) (.slice (some ⟨g, o2, none⟩) (s.2.length + 1) cap2) := by
  have l5 := h.lt5
  have l6 := h.lt6
  have hM := h.geM
  have hgs := grown_setC w2 ⟨X6, 0, none⟩ (.slice (some ⟨g, o2, none⟩) (s.2.length + 1) cap2)
  have hb1 : Below w.heap.size w w1 := h.below.grown hg1 h.below.size (fun k hk => by cases hk; exact hM)
  have hb2 : Below w.heap.size w w2 := hb1.grown hg2 hb1.size (fun k hk => by have := h.tail.block_ge hk; omega)
  have hlt5 := lt_of_some' h.c5
  have hgt : X6 + 1 ≤ g := ht.block_ge rfl
  have hc51 := (hg1.block X5 hlt5 (by simp; omega)).trans h.c5
  have hc52 := (hg2.block X5 (lt_of_some' hc51) (h.ne6 (by omega))).trans hc51
  refine ⟨?_, ?_, ?_, ?_, ?_, hM, l5, l6⟩
  · exact (hs.kept hg2 (h.ne6 (by omega))).kept hgs (by simp; omega)
  · exact (hgs.block X5 (lt_of_some' hc52) (by simp; omega)).trans hc52
  · simp [World.setCell, Array.getElem?_modify, hc6]
  · have := ht.kept hgs (.inr (by simp [Value.ownBlock]; omega))
    simpa [texts] using this
  · exact hb2.setCell (p := ⟨X6, 0, none⟩) (by show w.heap.size ≤ X6; omega) _
theorem AR.head {a : ByteArray} (h : AR w wr M X5 X6 s tv) (hT : ∃ T, s.2 = a :: T) : ∃ g o cap n, tv = .slice (some ⟨g, o, none⟩) n cap ∧ 0 < n ∧ wr.cell? ⟨g, o, none⟩ = some (.string a) := by
  obtain ⟨T, hT⟩ := hT
  have ht := h.tail
  rw [hT] at ht
  obtain ⟨g, o, cap, rfl, _⟩ := ht.some_ (by simp)
  exact ⟨g, o, cap, _, rfl, by simp, ht.cell (j := 0) rfl⟩
theorem AR.pop {a : ByteArray} {Z : List (List UInt8)} {T : List ByteArray} {g o cap : Nat} (h : AR w wr M X5 X6 (Z, a :: T) (.slice (some ⟨g, o, none⟩) (a :: T).length cap)) :
    AR w (wr.setCell ⟨X6, 0, none⟩ (.slice (some ⟨g, o + 1, none⟩) T.length (cap - 1))) M X5 X6 (Z, T) (.slice (some ⟨g, o + 1, none⟩) T.length (cap - 1)) := by
  have l5 := h.lt5
  have l6 := h.lt6
  have hM := h.geM
  have hgs := grown_setC wr ⟨X6, 0, none⟩ (.slice (some ⟨g, o + 1, none⟩) T.length (cap - 1))
  have ht : Tail wr (X6 + 1) 9 (.slice (some ⟨g, o + 1, none⟩) T.length (cap - 1)) T.length (texts T) := Tail.drop1 (x := .string a) h.tail
  have hgt : X6 + 1 ≤ g := ht.block_ge rfl
  refine ⟨h.seen.kept hgs (by simp; omega), (hgs.block X5 (lt_of_some' h.c5) (by simp; omega)).trans h.c5, ?_, ht.kept hgs (.inr (by simp [Value.ownBlock]; omega)), h.below.setCell (p := ⟨X6, 0, none⟩) (by show w.heap.size ≤ X6; omega) _, hM, l5, l6⟩
  simp [World.setCell, Array.getElem?_modify, h.c6]
theorem AR.pop0 {a : ByteArray} {Z : List (List UInt8)} {T : List ByteArray} {g o : Nat} (h : AR w wr M X5 X6 (Z, a :: T) (.slice (some ⟨g, o, none⟩) (a :: T).length 1)) :
    AR w (wr.setCell ⟨X6, 0, none⟩ (.slice (some ⟨g, o, none⟩) T.length 0)) M X5 X6 (Z, T) (.slice (some ⟨g, o, none⟩) T.length 0) := by
  have l5 := h.lt5
  have l6 := h.lt6
  have hM := h.geM
  have hgs := grown_setC wr ⟨X6, 0, none⟩ (.slice (some ⟨g, o, none⟩) T.length 0)
  have ht : Tail wr (X6 + 1) 9 (.slice (some ⟨g, o, none⟩) T.length 0) T.length (texts T) := Tail.drop0 (x := .string a) h.tail
  have hgt : X6 + 1 ≤ g := ht.block_ge rfl
  refine ⟨h.seen.kept hgs (by simp; omega), (hgs.block X5 (lt_of_some' h.c5) (by simp; omega)).trans h.c5, ?_, ht.kept hgs (.inr (by simp [Value.ownBlock]; omega)), h.below.setCell (p := ⟨X6, 0, none⟩) (by show w.heap.size ≤ X6; omega) _, hM, l5, l6⟩
  simp [World.setCell, Array.getElem?_modify, h.c6]
theorem cell_one' {w : World} {g : Nat} {v : Value} {t : TypeId} (h : w.heap[g]? = some (.cells #[v] t (0, 0))) : w.cell? ⟨g, 0, none⟩ = some v := by
  rw [cell_of_row w g 0 _ _ (0, 0) h]; rfl
theorem free_one' {w : World} {g : Nat} {v : Value} {t : TypeId} (h : w.heap[g]? = some (.cells #[v] t (0, 0))) : w.frozen? ⟨g, 0, none⟩ = false := by
  simp [World.frozen?, h]
end

set_option maxHeartbeats 2000000 in
theorem put_any (long short : ByteArray) {w wr : World} {M X5 X6 : Nat} {s : St} {tv : Value} (h : AR w wr M X5 X6 s tv) (hl : long.size ≤ 1000) (hs : short.size ≤ 1000) (h1 : s.1.length ≤ 1000) (h2 : s.2.length ≤ 1000) :
    Calls Try.prog 19 #[.string long, .string short, .pointer (some ⟨X5, 0, none⟩), .pointer (some ⟨X6, 0, none⟩)] wr fun e w' => e = .returned (.tuple #[]) ∧ ∃ tv', AR w w' M X5 X6 (putS s long short) tv' := by
  obtain ⟨i0, hi, hz0, hz1, hz2⟩ := info_parts infoS
  have hc := cutprefix_any long short wr (by omega) (by omega)
  have hrest : bs (long.extract short.size long.size) = (bs long).drop short.size := bs_from long short.size
  have c5 := cell_one' h.c5
  have c6 := cell_one' h.c6
  have f6 := free_one' h.c6
  have H := Lib.hid h
  cases hp : (bs short).isPrefixOf (bs long)
  · rw [hp] at hc
    have HC := Lib.hid hc
    have HP := Lib.hid (show putS s long short = s from by unfold putS; rw [hp]; rfl)
    clear hc hp hrest h
    go_enter Try.func19, Try.ntmps19
    go_wp2_with fail
    refine HC.out.mono ?_
    rintro e w' ⟨rfl, rfl⟩
    go_wp2_with fail
    go_end0
    exact ⟨rfl, _, by rw [HP.out]; exact H.out⟩
  · rw [hp, if_pos rfl] at hc
    obtain ⟨r, hr⟩ : ∃ r, r = long.extract short.size long.size := ⟨_, rfl⟩
    have hrs : r.size ≤ 1000 := by rw [hr]; simp; omega
    rw [← hr] at hc hrest
    have hlk := h.seen.lookup r (by unfold maxLen; omega)
    have HC := Lib.hid hc
    have HRE := Lib.hid hrest
    by_cases hm : bs r ∈ s.1
    · rw [decide_eq_true hm] at hlk
      have HP := Lib.hid (show putS s long short = s from by unfold putS; rw [hp, if_pos rfl, ← hrest, if_pos hm])
      clear hc hp hrest h hr hm
      go_enter Try.func19, Try.ntmps19
      go_wp2_with fail
      refine HC.out.mono ?_
      rintro e w' ⟨rfl, rfl⟩
      go_wp2_with fail
      go_end0
      exact ⟨rfl, _, by rw [HP.out]; exact H.out⟩
    · rw [decide_eq_false hm] at hlk
      have HP := Lib.hid (show putS s long short = (bs r :: s.1, s.2 ++ [r]) from by unfold putS; rw [hp, if_pos rfl, ← hrest, if_neg hm, hr])
      have hlen6 := h2
      clear hc hp hrest h hr hm
      go_enter Try.func19, Try.ntmps19
      go_wp2_with fail
      refine HC.out.mono ?_
      rintro e w' ⟨rfl, rfl⟩
      obtain ⟨tA, tC, htv⟩ := H.out.tail.shape
      subst htv
      go_wp2_with (first
        | (at_mapUpdate; refine (H.out.seen.put (H := Unit) r (by unfold maxLen; omega) (by unfold maxLen; omega) rfl _ _ _ rfl rfl rfl rfl ?_); intro w1 hs1 hg1; have HS1 := Lib.hid hs1; have hc6 := (hg1.block X6 (lt_of_some' H.out.c6) (by have := H.out.lt5; have := H.out.lt6; simp; omega)).trans H.out.c6; have c6' := cell_one' hc6; have HC6 := Lib.hid hc6; have hsz1 : X6 + 1 ≤ w1.heap.size := lt_of_some' hc6; have HT1 := Lib.hid (H.out.tail.kept hg1 (.inr fun e => by have := H.out.tail.block_ge e; have := H.out.lt5; have := H.out.lt6; omega)); have HG1 := Lib.hid hg1; clear hs1 hg1 hc6 c6 f6 hlk)
        | (at_builtin; go_must (refine wp_append_tail _ rfl _ _ 22 rfl (X6 + 1) 9 i0 _ 16 Try.underlying22 hi hz0 hz1 hz2 rfl _ s.2.length (texts s.2) rfl (HT1.out.alloc _) ⟨w1.heap.size, 0, none⟩ 1 (.string r) rfl (by simp) rfl (by unfold maxLen; omega) (by omega) (by simp; omega) ?_); intro g o2 cap2 w2 ht2 hg2; have HT2 := Lib.hid ht2; have hne : some X6 ≠ (Value.slice tA s.2.length tC).ownBlock := H.out.ne6 (Nat.le_refl _); have hg12 := grown_trans_none (World.grownBy_alloc w1 (.cells #[.string r] 9) none) hg2; have hc6 := (hg12.block X6 (by omega) hne).trans HC6.out; have c6'' := cell_one' hc6; have f6'' := free_one' hc6; have HG12 := Lib.hid hg12; have HC62 := Lib.hid hc6; clear ht2 hg2 hg12 hc6 c6' hne))
      go_end0
      refine ⟨rfl, .slice (some ⟨g, o2, none⟩) (s.2.length + 1) cap2, ?_⟩
      rw [HP.out]
      exact H.out.put_end HS1.out HG1.out HG12.out HC62.out HT2.out
end Go.Proofs.Ytnaoonegeboflaa.Kf
