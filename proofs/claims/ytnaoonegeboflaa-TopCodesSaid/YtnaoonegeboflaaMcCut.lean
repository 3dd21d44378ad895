/-
  The walk of many.Cut for words of which none begins another one, at a text that is written in them: the words, one after the other.
-/
import Derived.Test.YtnaoonegeboflaaTrLong
import Derived.Test.YtnaoonegeboflaaIBlk
import Derived.Test.YtnaoonegeboflaaOwn
namespace Go.Proofs.Ytnaoonegeboflaa
open Go.RowKit Kf
set_option linter.unusedVariables false
set_option linter.unusedSimpArgs false

/-- what is written: the words, one after the other -/
def wrote (ws : List (List UInt8)) (P : List Nat) : List UInt8 := (P.map fun i => ws[i]?.getD []).flatten
def natI (l : List Nat) : List Int := l.map fun i : Nat => (i : Int)
theorem natI_snoc (l : List Nat) (k : Nat) (i : Nat) (h : l[k]? = some i) : natI (l.take (k + 1)) = natI (l.take k) ++ [(i : Int)] := by simp [natI, List.take_add_one, h]
theorem wrote_drop (ws : List (List UInt8)) (P : List Nat) (k i : Nat) (h : P[k]? = some i) : wrote ws (P.drop k) = ws[i]?.getD [] ++ wrote ws (P.drop (k + 1)) := by
  obtain ⟨hk, e⟩ := List.getElem?_eq_some_iff.1 h
  rw [List.drop_eq_getElem_cons hk, e]
  rfl
def szStr : Value → Nat
  | .string t => t.size
  | _ => 0
theorem own_cap {w : World} {base : Nat} {e : TypeId} {A : Option Addr} {n c : Nat} {xs : List Value} (h : w.ownsRow base e 1 (.slice A n c) n xs) : n ≤ c := by
  rcases h.2 with ⟨h, hn⟩ | ⟨g, cap, _, h, _, _, hc, _⟩
  · omega
  · obtain ⟨_, _, rfl⟩ := Value.slice.inj h
    exact hc
theorem one_int2 (n : Int) : ∀ u ∈ [Value.int .i64 n], u.oneCell' = true := by intro u hu; simp at hu; subst hu; rfl

set_option maxHeartbeats 1000000 in
set_option maxRecDepth 100000 in
theorem cut_in (A : Option Addr) (c : Nat) (L : List ByteArray) (w : World) (hr : Reads w A L.length 1 (texts L)) (hc : L.length ≤ c) (hk : tchk (L.map bs) = 0) (hfr : Fr (L.map bs)) (s : ByteArray) (hs : s.size ≤ 24) (P : List Nat) (hP : bs s = wrote (L.map bs) P) (hin : ∀ i ∈ P, i < L.length) (hPl : P.length ≤ 24) :
    Calls Try.prog 16 #[.slice A L.length c, .string s] w fun e w' => (∃ A' c', e = .returned (.tuple #[.slice A' P.length c', .nilIface]) ∧ P.length ≤ c' ∧ Reads w' A' P.length 1 (ints (natI P))) ∧ Below w.heap.size w w' := by
  obtain ⟨i0, hi0, hz0, hz1, hz2⟩ := info_parts infoI64
  obtain ⟨hL6, hsz0, _⟩ := tchk_ok hk
  rw [List.length_map] at hL6
  have HSZ : Hid (∀ x ∈ L, 0 < x.size ∧ x.size ≤ 8) := Lib.hid (fun x hx => by
    have h := hsz0 (bs x) (List.mem_map_of_mem hx)
    rw [bs_length] at h
    refine ⟨?_, h.1⟩
    rcases Nat.eq_zero_or_pos x.size with h0 | h0
    · exact absurd (List.length_eq_zero_iff.1 (by rw [bs_length]; exact h0)) h.2
    · exact h0)
  have HC := Lib.hid (check_words A c L w hr (by unfold maxLen; omega) hc (fun s h => by have := (HSZ.out s h).2; unfold maxLen; omega))
  rw [hk] at HC
  have HL := Lib.hid (fun (W : World) (h : Below w.heap.size w W) => longest_in A c L W (hr.below h) hc hk hfr)
  have HR := Lib.hid hr
  have HIN := Lib.hid hin
  have HP := Lib.hid hP
  have ks : (s.size : Int) ≤ 24 := by omega
  clear hk hfr hsz0 hr hin hP
  go_enter Try.func16, Try.ntmps16
  go_wp2_with fail
  refine HC.out.mono ?_
  rintro e w1 ⟨rfl, hb1⟩
  rw [show errT 0 = .nilIface from rfl]
  go_wp2_with fail
  refine (long1_ok s _ _ _ (by simp) ks).mono ?_
  rintro e w2 ⟨rfl, rfl⟩
  have hb2 := bmore hb1 (.cells #[.string s] 9)
  clear hb1
  go_wp2
  go_loopw [1, 8, 9, 10, 22, 23, 24, 25, 26, 27, 28, 29, 30, 31, 32, 33, 34, 35, 36, 37, 38, 39, 40, 41, 42, 43, 44, 45, 46] (fun v1 v8 _ _ _ _ _ _ _ _ _ _ _ _ _ _ _ _ _ _ _ _ _ _ _ _ _ _ _ wr => ∃ (k : Nat) (t : ByteArray), v1 = .string t ∧ k ≤ P.length ∧ t.size ≤ 24 ∧ Hid (bs t = wrote (L.map bs) (P.drop k)) ∧ wr.ownsRow w.heap.size 3 1 v8 k (ints (natI (P.take k))) ∧ Below w.heap.size w wr) (fun v1 _ _ _ _ _ _ _ _ _ _ _ _ _ _ _ _ _ _ _ _ _ _ _ _ _ _ _ _ _ => szStr v1)
  case atStart => exact ⟨0, s, rfl, by omega, hs, Lib.hid (by rw [HP.out]; rfl), World.ownsRow_nil _ _ _ _, hb2⟩
  case round =>
    obtain ⟨k, t, rfl, hkP, ht, HT, hown, hb⟩ := hrel
    by_cases hlt : k < P.length
    · obtain ⟨i, hi⟩ : ∃ i, P[k]? = some i := ⟨_, List.getElem?_eq_getElem hlt⟩
      have hiL := HIN.out i (List.mem_of_getElem? hi)
      obtain ⟨x, hx⟩ : ∃ x, L[i]? = some x := ⟨_, List.getElem?_eq_getElem hiL⟩
      obtain ⟨hx0, hx8⟩ := HSZ.out x (List.mem_of_getElem? hx)
      have hsp : bs t = bs x ++ wrote (L.map bs) (P.drop (k + 1)) := by
        rw [HT.out, wrote_drop _ _ _ _ hi, List.getElem?_map, hx]
        rfl
      have hxt : x.size ≤ t.size := by
        have := congrArg List.length hsp
        rw [List.length_append, bs_length, bs_length] at this
        omega
      have hbt : Hid (bs (t.extract x.size t.size) = wrote (L.map bs) (P.drop (k + 1))) := Lib.hid (by
        rw [bs_from, hsp, List.drop_append_of_le_length (by rw [bs_length]; exact Nat.le_refl _), List.drop_of_length_le (by rw [bs_length]; exact Nat.le_refl _)]
        rfl)
      have e1 : (t.toList == ([] : List UInt8)) = false := by
        rw [Lib.toList_data, beq_eq_false_iff_ne]
        intro h
        have := bs_length t
        rw [show bs t = [] from h] at this
        simp at this
        omega
      have HLo := Lib.hid (HL.out wr hb t ht i x _ hx hsp)
      have HNS := Lib.hid (natI_snoc P k i hi)
      have ki : (0 : Int) ≤ (i : Int) := by omega
      have kiL : (i : Int) < (L.length : Int) := by omega
      have kx : (x.size : Int) ≤ (t.size : Int) := by omega
      have hes : (t.extract x.size t.size).size = t.size - x.size := by rw [ByteArray.size_extract]; omega
      have HX := Lib.hid hx
      have HES := Lib.hid hes
      clear hi hx hsp hes
      go_wp2_with fail
      refine HLo.out.mono ?_
      rintro e w3 ⟨rfl, hb3⟩
      have hown3 := own_below hown hb3
      have hbx := bnext hb hb3
      obtain ⟨b, o, rfl, hbl, hcc⟩ := (HR.out.below hbx).2 (by omega)
      have HCC : Hid (∀ wz, Below w.heap.size w wz → wz.cell? ⟨b, o + i, none⟩ = some (.string x)) := Lib.hid (fun wz hbz => by
        obtain ⟨b', o', eq', _, hcc'⟩ := (HR.out.below hbz).2 (by omega)
        cases eq'
        exact hcc' i (.string x) (by rw [texts_get, HX.out]; rfl))
      clear hcc
      clear hown hb hb3 HLo
      go_wp2_with (first
        | (at_builtin; go_must (refine append_own _ rfl _ _ 23 rfl w.heap.size 3 i0 _ 1 8 Try.underlying23 hi0 hz0 hz1 hz2 rfl (by decide) _ _ _ rfl (hown3.alloc _) ⟨w3.heap.size, 0, none⟩ 1 1 [.int .i64 (i : Int)] rfl rfl (cell_one_new _ _ _) (one_int2 _) (by unfold maxLen; omega) (by omega) (by have := hbx.size; simp; omega) (by decide) ?_); intro g1 cap1 wA hown1 hg1 hg1' hgrow1; have hbA := (bmore hbx (.cells #[.int .i64 (i : Int)] 3)).grown hgrow1 (by have := hbx.size; simp; omega) (fun j hj => (hown3.lt j hj).1); have c0' := HCC.out wA hbA))
      exact ⟨⟨k + 1, _, rfl, by omega, by have := HES.out; omega, hbt, by rw [HNS.out]; simpa [ints] using hown1, hbA⟩, by simp only [szStr]; have := HES.out; omega⟩
    · obtain rfl : k = P.length := by omega
      have e0 : bs t = [] := by rw [HT.out, List.drop_of_length_le (Nat.le_refl _)]; rfl
      have e1 : (t.toList == ([] : List UInt8)) = true := by rw [Lib.toList_data, show t.data.toList = [] from e0]; rfl
      obtain ⟨B, d, rfl⟩ := own_slice hown
      have hrd := Reads.of_own hown
      have hcap := own_cap hown
      rw [List.take_length] at hrd
      clear hown e0
      go_wp2
      go_ret2
      exact ⟨⟨_, _, rfl, hcap, hrd⟩, hb⟩
end Go.Proofs.Ytnaoonegeboflaa
