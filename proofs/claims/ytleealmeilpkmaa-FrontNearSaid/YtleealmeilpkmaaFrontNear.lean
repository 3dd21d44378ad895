/-
  The walk of the law FrontNear: it returns true for every text and every number.
-/
import Derived.Test.YtleealmeilpkmaaFrontBack
import Derived.Test.YtleealmeilpkmaaRef1
namespace Go.Proofs.Ytleealmeilpkmaa.Ft
open Go.RowKit
set_option linter.unusedVariables false

theorem in_any (n lo hi : Int) (w : World) : Calls Try.prog 9 #[.int .i64 n, .int .i64 lo, .int .i64 hi] w fun e w' => e = .returned (.bool (decide (lo ≤ n ∧ n ≤ hi))) ∧ w = w' := by
  by_cases h1 : lo ≤ n <;> by_cases h2 : n ≤ hi
  all_goals
    go_enter Try.func9, Try.ntmps9
    go_wp2
    go_ret
    exact ⟨by simp [h1, h2], rfl⟩
theorem in_yes {n lo hi : Int} (h1 : lo ≤ n) (h2 : n ≤ hi) (w : World) : Calls Try.prog 9 #[.int .i64 n, .int .i64 lo, .int .i64 hi] w fun e w' => e = .returned (.bool true) ∧ w = w' := by
  have := in_any n lo hi w
  rwa [decide_eq_true ⟨h1, h2⟩] at this
theorem in_no {n lo hi : Int} (h : ¬ (lo ≤ n ∧ n ≤ hi)) (w : World) : Calls Try.prog 9 #[.int .i64 n, .int .i64 lo, .int .i64 hi] w fun e w' => e = .returned (.bool false) ∧ w = w' := by
  have := in_any n lo hi w
  rwa [decide_eq_false h] at this

/-- where one byte stands -/
theorem places_one (l : List UInt8) (x : UInt8) : (places l [x]).length = 0 ↔ x ∉ l := by
  unfold places placesTo
  rw [List.length_map, List.length_eq_zero_iff, List.filter_eq_nil_iff]
  constructor
  · intro h hx
    obtain ⟨i, hi, rfl⟩ := List.getElem_of_mem hx
    refine h i (by simpa using hi) ?_
    rw [List.drop_eq_getElem_cons hi]
    simp [List.isPrefixOf]
  · intro h i hi hp
    simp only [List.mem_range] at hi
    rw [List.drop_eq_getElem_cons hi] at hp
    simp only [List.isPrefixOf_cons_cons, List.isPrefixOf_nil_left, Bool.and_true, beq_iff_eq] at hp
    exact h (hp ▸ List.getElem_mem hi)
/-- Stands of one byte: is there one? -/
def SomeSlice (p : Nat → Prop) (w : World) (e : Ending) (w' : World) : Prop := ∃ A n cap, e = .returned (.slice A n cap) ∧ p n ∧ Below w.heap.size w w'
theorem stands_one (s t : ByteArray) (x : UInt8) (w : World) (hs : s.size ≤ 1000000) (ht : bs t = [x]) :
    Calls Try.prog 10 #[.string s, .string t] w (SomeSlice (fun n => (n = 0 ↔ x ∉ bs s)) w) := by
  have hl := bs_length t
  rw [ht] at hl
  refine (stands_any s t w hs (by rw [← hl]; simp [maxLen])).mono ?_
  rintro e w' ⟨A, cap, rfl, _, hb⟩
  exact ⟨A, _, cap, rfl, by rw [ht]; exact places_one (bs s) x, hb⟩

theorem there_get (row : List UInt8) : ∀ (s : List UInt8) (i : Nat) (c : UInt8), s[i]? = some c → (there row s)[i]? = some ((rowT row (s.take i)).idxOf c) := by
  intro s i c h
  obtain ⟨hi, rfl⟩ := List.getElem?_eq_some_iff.1 h
  have e : s = s.take i ++ (s[i] :: s.drop (i + 1)) := by
    conv => lhs; rw [← List.take_append_drop i s, List.drop_eq_getElem_cons hi]
  have e2 : s.take i ++ (s[i] :: s.drop (i + 1)) = (s.take i ++ [s[i]]) ++ s.drop (i + 1) := by simp
  have hp : ∀ (r u row : List UInt8), there row u <+: there row (u ++ r) := by
    intro r u
    induction u with
    | nil => intro row; exact List.nil_prefix
    | cons d u ih => intro row; simp only [List.cons_append, there]; exact List.cons_prefix_cons.2 ⟨rfl, ih _⟩
  obtain ⟨t, ht⟩ := hp (s.drop (i + 1)) (s.take i ++ [s[i]]) row
  have hlen : (s.take i).length = i := by simp; omega
  have e3 : there row s = there row (s.take i) ++ [(rowT row (s.take i)).idxOf s[i]] ++ t := by
    conv => lhs; rw [e, e2, ← ht, there_snoc]
  rw [e3, List.append_assoc, List.getElem?_append_right (by rw [there_length, hlen]; exact Nat.le_refl _), there_length, hlen]
  simp
theorem seg_cons (L : List UInt8) (i q : Nat) (x : UInt8) (hx : L[q]? = some x) (hq : q < i) : (L.take i).drop q = x :: (L.take i).drop (q + 1) := by
  obtain ⟨hl, rfl⟩ := List.getElem?_eq_some_iff.1 hx
  rw [List.drop_eq_getElem_cons (by simp; omega)]
  simp
theorem dd_step (S : List UInt8) (x : UInt8) : dd [] (x :: S).reverse = if x ∈ dd [] S.reverse then dd [] S.reverse else dd [] S.reverse ++ [x] := by
  rw [List.reverse_cons, dd_append]; rfl
theorem near_hit (L : List UInt8) (i q : Nat) (c : UInt8) (hx : L[q]? = some c) (hq : q < i) (hc : c ∉ (L.take i).drop (q + 1)) :
    (rowT allB (L.take i)).idxOf c = (dd [] ((L.take i).drop (q + 1)).reverse).length := by
  have h := near allB full_all (L.take q) ((L.take i).drop (q + 1)) c hc
  have e : L.take q ++ c :: (L.take i).drop (q + 1) = L.take i := by
    rw [← seg_cons L i q c hx hq]
    have : L.take q = (L.take i).take q := by rw [List.take_take, Nat.min_eq_left (by omega)]
    rw [this, List.take_append_drop]
  rwa [e] at h

/-- what the law's loop holds: t bytes are still to come, from place t - 1 down -/
structure NRel (w wr : World) (L : List UInt8) (i : Nat) (c : UInt8) (t : Nat) (o : ByteArray) : Prop where
  text : bs o = dd [] ((L.take i).drop t).reverse
  no : c ∉ (L.take i).drop t
  size : o.size ≤ i
  below : Below w.heap.size w wr

theorem dd_length (r : List UInt8) : ∀ acc, (dd acc r).length ≤ acc.length + r.length := by
  induction r with
  | nil => intro acc; simp [dd]
  | cons c r ih =>
    intro acc
    simp only [dd]
    by_cases h : c ∈ acc
    · rw [if_pos h]
      have := ih acc
      simp; omega
    · rw [if_neg h]
      have := ih (acc ++ [c])
      simp at this ⊢; omega
theorem NRel.keep {w wr w' : World} {L : List UInt8} {i q : Nat} {c x : UInt8} {o : ByteArray} (h : NRel w wr L i c (q + 1) o) (hx : L[q]? = some x) (hq : q < i) (hne : x ≠ c) (hin : x ∈ bs o) (hb : Below wr.heap.size wr w') : NRel w w' L i c q o := by
  refine ⟨?_, ?_, h.size, bnext h.below hb⟩
  · rw [seg_cons L i q x hx hq, dd_step, ← h.text, if_pos hin]
  · rw [seg_cons L i q x hx hq]; simp [h.no, Ne.symm hne]
theorem NRel.add {w wr w' : World} {L : List UInt8} {i q : Nat} {c x : UInt8} {o p : ByteArray} (h : NRel w wr L i c (q + 1) o) (hx : L[q]? = some x) (hq : q < i) (hne : x ≠ c) (hin : x ∉ bs o) (hp : bs p = [x]) (hb : Below wr.heap.size wr w') : NRel w w' L i c q (o ++ p) := by
  have e : bs (o ++ p) = dd [] ((L.take i).drop q).reverse := by
    rw [seg_cons L i q x hx hq, dd_step, ← h.text, if_neg hin, ← hp]
    simp [bs]
  refine ⟨e, ?_, ?_, bnext h.below hb⟩
  · rw [seg_cons L i q x hx hq]; simp [h.no, Ne.symm hne]
  · rw [← bs_length, e]
    refine Nat.le_trans (dd_length _ _) ?_
    simp
    omega
theorem bs_cut (s : ByteArray) (q : Nat) (x : UInt8) (hx : (bs s)[q]? = some x) : bs (s.extract q (q + 1)) = [x] := by
  show (s.extract q (q + 1)).data.toList = [x]
  rw [Lib.extract_data]
  obtain ⟨hl, rfl⟩ := List.getElem?_eq_some_iff.1 hx
  have e : q + 1 - q = 1 := by omega
  rw [e, show s.data.toList = bs s from rfl, List.drop_eq_getElem_cons hl]
  rfl

set_option maxHeartbeats 2000000 in
theorem near_in (w : World) (a0 : ByteArray) (i : Nat) (hs : a0.size ≤ 1000) (hi : i < a0.size) :
    Calls Try.prog 4 #[.string a0, .int .i64 (i : Int)] w fun e w' => e = .returned (.bool true) ∧ Below w.heap.size w w' := by
  have hL := bs_length a0
  obtain ⟨c, hc⟩ : ∃ c, (bs a0)[i]? = some c := ⟨_, List.getElem?_eq_getElem (by omega)⟩
  have hget : ∀ q (h : q < a0.size), (bs a0)[q]? = some a0[q] := by
    intro q h
    have := getD_byte a0 q h
    rw [List.getD_eq_getElem?_getD, List.getElem?_eq_getElem (by rw [← hL] at h; exact h)] at this
    rw [List.getElem?_eq_getElem (by rw [hL]; exact h)]
    exact congrArg some this
  have hci : c = a0[i] := Option.some.inj (hc.symm.trans (hget i hi))
  have hmi : (there allB a0.data.toList)[i]? = some ((rowT allB ((bs a0).take i)).idxOf c) := there_get allB (bs a0) i c hc
  have HC := Lib.hid hc; have HG := Lib.hid hget; have HCI := Lib.hid hci; have HMI := Lib.hid hmi
  clear hc hget hci hmi hL
  go_enter Try.func4, Try.ntmps4
  go_wp2_with fail
  refine (fact_any _).mono ?_
  rintro e w1 ⟨rfl, hb1⟩
  go_wp2_with fail
  refine (there_ok a0 _ hs).mono ?_
  rintro e w2 ⟨A, cap, rfl, hown, hb2⟩
  have hr := Reads.of_own hown
  have HB := Lib.hid (bnext hb1 hb2)
  clear hown hb1 hb2
  go_wp2_with (go_at_call 9; refine (in_yes (by omega) (by omega) _).mono ?_; rintro e w' ⟨rfl, rfl⟩)
  go_loopw [8, 9] (fun o k wr => ∃ (t : Nat) (ob : ByteArray), t ≤ i ∧ k = .int .i64 ((t : Int) - 1) ∧ o = .string ob ∧ NRel w2 wr (bs a0) i c t ob) (fun _ k _ => (intOf k + 1).toNat)
  case atStart => exact ⟨i, ⟨#[]⟩, Nat.le_refl _, rfl, rfl, ⟨by rw [List.drop_of_length_le (by rw [List.length_take]; omega)]; rfl, by rw [List.drop_of_length_le (by rw [List.length_take]; omega)]; simp, by show 0 ≤ i; omega, Below.refl _ _⟩⟩
  case round =>
    obtain ⟨t, ob, ht, rfl, rfl, hrel⟩ := hrel
    obtain ⟨b, o, rfl, hb, hcell⟩ := (hr.below hrel.below).2 (by omega)
    have hmc := hcell i _ (by rw [nums, List.getElem?_map, HMI.out]; rfl)
    have hosz := hrel.size
    rcases t with _ | q
    · have hfar := far allB full_all ((bs a0).take i) c (by simpa using hrel.no)
      have htx := hrel.text
      rw [List.drop_zero] at htx
      rw [← htx, bs_length] at hfar
      have hbel := hrel.below
      clear htx hcell hrel
      have hk : ((0 : Nat) : Int) - 1 = -1 := rfl
      rw [hk]
      go_wp2
      go_ret
      exact ⟨rfl, bnext HB.out hbel⟩
    · rw [show (((q + 1 : Nat) : Int) - 1) = (q : Int) from by omega]
      have hx := HG.out q (by omega)
      have hqs : q < a0.size := by omega
      by_cases he : a0[q] = c
      · have hhit := near_hit (bs a0) i q c (by rw [hx, he]) (by omega) hrel.no
        rw [← hrel.text, bs_length] at hhit
        have hbel := hrel.below
        have HE := Lib.hid he; have HH := Lib.hid hhit
        have heq : ((a0[q].toNat : Int) == (a0[i].toNat : Int)) = true := by rw [he, HCI.out]; simp
        clear he hhit hx hcell hrel
        go_wp2
        go_quiet (fail)
        go_wp2
        go_ret
        refine ⟨ret_bool ?_, bnext HB.out (bdrew hbel _)⟩
        rw [HH.out]
        simp
      · have hne : a0[q] ≠ a0[i] := by rw [← HCI.out]; exact he
        have heq : (a0[q].toNat == a0[i].toNat) = false := by
          rw [beq_eq_false_iff_ne]; intro h; exact hne (UInt8.toNat_inj.1 h)
        have hcut := bs_cut a0 q a0[q] hx
        have hbel := hrel.below
        have HE := Lib.hid he; have HX := Lib.hid hx; have HR := Lib.hid hrel; have HQ := Lib.hid hcut; have HN := Lib.hid hne
        clear he hx hcell hmc hrel hcut hne
        have w1 : (q : Int) + 1 ≤ a0.size := by omega
        by_cases hin : a0[q] ∈ bs ob
        · have HI := Lib.hid hin; clear hin
          go_wp2
          go_quiet (fail)
          go_wp2_with (go_at_call 10; refine (stands_one ob _ a0[q] _ (by omega) HQ.out).mono ?_; rintro e w4 ⟨B, n, cap4, rfl, hn, hb4⟩; have hn0 : ¬ n = 0 := fun h => (hn.1 h) HI.out; clear hn)
          go_roundw
          case rel => exact ⟨q, ob, by omega, rfl, rfl, HR.out.keep HX.out (by omega) HE.out HI.out (bnext (bdrew (Below.refl _ _) _) hb4)⟩
          case measure => simp [intOf]
        · have HI := Lib.hid hin; clear hin
          go_wp2
          go_quiet (fail)
          go_wp2_with (go_at_call 10; refine (stands_one ob _ a0[q] _ (by omega) HQ.out).mono ?_; rintro e w4 ⟨B, n, cap4, rfl, hn, hb4⟩; have hn0 : n = 0 := hn.2 HI.out; clear hn)
          go_roundw
          case rel => exact ⟨q, _, by omega, rfl, rfl, HR.out.add HX.out (by omega) HE.out HI.out HQ.out (bnext (bdrew (Below.refl _ _) _) hb4)⟩
          case measure => simp [intOf]

theorem walkNear (w : World) (a0 : ByteArray) (s0 : a0.size ≤ 140737488351232) (a1 : Int) (s1 : -9223372036854775808 ≤ a1 ∧ a1 ≤ 9223372036854775807) :
    Calls Try.prog 4 #[.string a0, .int .i64 a1] w fun e w' => e = .returned (.bool true) ∧ Below w.heap.size w w' := by
  by_cases hs : a0.size ≤ 1000
  · by_cases hi : 0 ≤ a1 ∧ a1 < a0.size
    · obtain ⟨i, rfl⟩ := Int.eq_ofNat_of_zero_le hi.1
      exact near_in w a0 i hs (by omega)
    · go_enter Try.func4, Try.ntmps4
      go_wp2_with fail
      refine (fact_any _).mono ?_
      rintro e w1 ⟨rfl, hb1⟩
      go_wp2_with fail
      refine (there_ok a0 _ hs).mono ?_
      rintro e w2 ⟨A, cap, rfl, hown, hb2⟩
      clear hown
      go_wp2_with (go_at_call 9; refine (in_no (by omega) _).mono ?_; rintro e w' ⟨rfl, rfl⟩)
      go_ret
      exact ⟨rfl, bnext hb1 hb2⟩
  · go_enter Try.func4, Try.ntmps4
    go_wp2_with fail
    refine (fact_any _).mono ?_
    rintro e w1 ⟨rfl, hb1⟩
    go_wp2_with fail
    refine (there_no a0 _ (by omega)).mono ?_
    rintro e w2 ⟨rfl, hb2⟩
    go_wp2_with fail
    go_ret
    exact ⟨rfl, bnext hb1 hb2⟩
end Go.Proofs.Ytleealmeilpkmaa.Ft
namespace Go.Proofs.Ytleealmeilpkmaa.frontNear
abbrev walk := @Ft.walkNear
end Go.Proofs.Ytleealmeilpkmaa.frontNear
