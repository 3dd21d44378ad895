/-
  The walk of trie.Longest for words of which none begins another one, at a text that begins with one of them.
-/
import Derived.Test.YtnaoonegeboflaaTrGrow
import Derived.Test.YtnaoonegeboflaaTrChk
import Derived.Test.YtnaoonegeboflaaKfAp
namespace Go.Proofs.Ytnaoonegeboflaa
open Go.RowKit Kf
set_option linter.unusedVariables false
set_option linter.unusedSimpArgs false

theorem wdOf_get : ∀ (n : Nat) (ws : List (List UInt8)) (v : List UInt8) (i : Nat), ws.length = n → ws[i]? = some v → (∀ k, ws[k]? = some v → k = i) → wdOf ws v = (i : Int)
  | 0, ws, v, i, hn, hi, _ => by rw [List.length_eq_zero_iff.1 hn] at hi; simp at hi
  | n + 1, ws, v, i, hn, hi, hu => by
    have hne : ws ≠ [] := by intro e; rw [e] at hn; simp at hn
    obtain ⟨l, x, rfl⟩ : ∃ l x, ws = l ++ [x] := ⟨_, _, (List.dropLast_concat_getLast hne).symm⟩
    have hl : l.length = n := by simpa using hn
    rw [wdOf_snoc]
    by_cases hx : x = v
    · rw [if_pos hx]
      have := hu l.length (by rw [← hx]; simp)
      rw [this]
    · rw [if_neg hx]
      have hil : i < l.length := by
        have := (List.getElem?_eq_some_iff.1 hi).1
        rw [List.length_append, List.length_singleton] at this
        rcases Nat.lt_or_ge i l.length with h | h
        · exact h
        · have : i = l.length := by omega
          rw [this] at hi
          simp at hi
          exact absurd hi hx
      refine wdOf_get n l v i hl (by rw [List.getElem?_append_left hil] at hi; exact hi) (fun k hk => hu k ?_)
      rw [List.getElem?_append_left (List.getElem?_eq_some_iff.1 hk).1]
      exact hk
theorem fr_one {ws : List (List UInt8)} (h : Fr ws) {i : Nat} {x : List UInt8} (hi : ws[i]? = some x) : ∀ k, ws[k]? = some x → k = i := fun k hk => by
  rcases Nat.decEq k i with hne | he
  · exact absurd (by simp) (h i k x x [] (fun e => hne e.symm) hi hk)
  · exact he
theorem fr_ahead {ws : List (List UInt8)} (h : Fr ws) {i : Nat} {x r : List UInt8} (hi : ws[i]? = some x) {j : Nat} (hj : j < x.length) : (x ++ r).take j ∉ ws := fun hm => by
  obtain ⟨k, hk⟩ := List.getElem?_of_mem hm
  rw [List.take_append_of_le_length (by omega)] at hk
  rcases Nat.decEq k i with hne | he
  · exact h k i _ x (x.drop j) hne hk hi (List.take_append_drop j x).symm
  · rw [he, hi] at hk
    have := congrArg List.length (Option.some.inj hk)
    simp at this
    omega
theorem fr_behind {ws : List (List UInt8)} (h : Fr ws) {i : Nat} {x : List UInt8} (hi : ws[i]? = some x) (c : UInt8) : ¬ Has ws [] (x ++ [c]) := by
  rintro (e | ⟨y, hy, t, e⟩ | e)
  · simp at e
  · obtain ⟨k, hk⟩ := List.getElem?_of_mem hy
    rcases Nat.decEq k i with hne | he
    · exact h i k x y ([c] ++ t) (fun e => hne e.symm) hi hk (by rw [← e, List.append_assoc])
    · rw [he, hi] at hk
      have := congrArg List.length ((Option.some.inj hk).trans e.symm)
      simp at this
  · have := e.length_le
    simp at this

set_option maxHeartbeats 1000000 in
set_option maxRecDepth 100000 in
theorem longest_in (A : Option Addr) (c : Nat) (L : List ByteArray) (w : World) (hr : Reads w A L.length 1 (texts L)) (hc : L.length ≤ c) (hk : tchk (L.map bs) = 0) (hfr : Fr (L.map bs)) (s : ByteArray) (hs : s.size ≤ 24) (i : Nat) (x : ByteArray) (r : List UInt8) (hi : L[i]? = some x) (hp : bs s = bs x ++ r) :
    Calls Try.prog 34 #[.slice A L.length c, .string s] w fun e w' => e = .returned (.tuple #[.int .i64 (i : Int), .nilIface]) ∧ Below w.heap.size w w' := by
  obtain ⟨hL6, hsz0, _⟩ := tchk_ok hk
  rw [List.length_map] at hL6
  have hsz : ∀ s ∈ L, s.size ≤ 8 := fun s hs => by have := (hsz0 (bs s) (List.mem_map_of_mem hs)).1; rwa [bs_length] at this
  have hx8 := hsz x (List.mem_of_getElem? hi)
  have hx0 : 0 < x.size := by
    have := (hsz0 (bs x) (List.mem_map_of_mem (List.mem_of_getElem? hi))).2
    rcases Nat.eq_zero_or_pos x.size with h | h
    · exact absurd (List.length_eq_zero_iff.1 (by rw [bs_length]; exact h)) this
    · exact h
  have hsx : x.size ≤ s.size := by
    have := congrArg List.length hp
    rw [List.length_append, bs_length, bs_length] at this
    omega
  have HC := Lib.hid (check_words A c L w hr (by unfold maxLen; omega) hc (fun s h => by have := hsz s h; unfold maxLen; omega))
  rw [hk] at HC
  have HG := Lib.hid (fun (W : World) (h : Below w.heap.size w W) => grow_any A c L W (hr.below h) (by omega) (fun s h => by have := hsz s h; omega))
  have hiw : (L.map bs)[i]? = some (bs x) := by rw [List.getElem?_map, hi]; rfl
  have hi6 : (i : Int) < 6 := by have := (List.getElem?_eq_some_iff.1 hi).1; omega
  have hone := wdOf_get _ (L.map bs) (bs x) i rfl hiw (fr_one hfr hiw)
  have hah : ∀ j, j < x.size → wdOf (L.map bs) ((bs s).take j) = -1 := fun j hj => wdOf_none (by rw [hp]; exact fr_ahead hfr hiw (by rw [bs_length]; exact hj))
  have hbe := fr_behind hfr hiw
  have htx : (bs s).take x.size = bs x := by rw [hp, List.take_append_of_le_length (by rw [bs_length]; exact Nat.le_refl _), List.take_of_length_le (by rw [bs_length]; exact Nat.le_refl _)]
  have hhas : ∀ j, j ≤ x.size → Has (L.map bs) [] ((bs s).take j) := fun j hj => .inr (.inl ⟨bs x, List.mem_of_getElem? hiw, by rw [hp, List.take_append_of_le_length (by rw [bs_length]; exact hj)]; exact List.take_prefix _ _⟩)
  rw [← htx] at hone hbe
  have HONE := Lib.hid hone; have HAH := Lib.hid hah; have HBE := Lib.hid hbe; have HHAS := Lib.hid hhas
  have hcv := fun (W : World) => Lib.run_convert_string_bytes W 9 61 5 s Try.underlying9 Try.underlying61 Try.underlying5
  have ks : (s.size : Int) ≤ 24 := by omega
  have HCV := Lib.hid hcv
  obtain ⟨X, hX⟩ : ∃ X, X = x.size := ⟨_, rfl⟩
  rw [← hX] at HONE HAH HBE HHAS hx0 hsx
  generalize L.map bs = ws at *
  clear hr hk hfr hi hp hsz0 hsz hx8 hiw hone hah hbe htx hhas hcv hX
  go_enter Try.func34, Try.ntmps34
  go_wp2_with fail
  refine HC.out.mono ?_
  rintro e w1 ⟨rfl, hb1⟩
  rw [show errT 0 = .nilIface from rfl]
  go_wp2_with fail
  refine (long1_ok s _ _ _ (by simp) ks).mono ?_
  rintro e w2 ⟨rfl, rfl⟩
  go_wp2_with fail
  refine (HG.out _ (bmore hb1 _)).mono ?_
  rintro e w2 ⟨⟨N, at_, wd, rt, rfl, hT, h0, hm, hwd⟩, hb2⟩
  have hb := bnext (bmore hb1 _) hb2
  generalize World.alloc _ _ = wz at *
  have hbw : w2.grownBy (Lib.bytesWorld w2 5 s) none := ⟨rfl, rfl, rfl, by rw [Lib.bytesWorld_size]; omega, fun k hk _ => Lib.bytesWorld_at_old w2 5 s k hk⟩
  have hT1 := hT.onto hbw
  have hbx : Below w.heap.size w (Lib.bytesWorld w2 5 s) := hb.grown hbw hb.size (fun k e => by cases e)
  have hcell : ∀ j, j < s.size → (Lib.bytesWorld w2 5 s).cell? ⟨w2.heap.size, j, none⟩ = some (.int .u8 (((bs s)[j]?.getD 0).toNat : Int)) := by
    intro j hj
    rw [Lib.bytesWorld_cell w2 5 s j hj]
    rw [List.getD_eq_getElem?_getD]
    rfl
  have HCELL := Lib.hid hcell
  have hcx := HCV.out w2
  have HAT : Hid (∀ j, j ≤ X → ∃ b, at_ ((bs s).take j) = some b) := Lib.hid (fun j hj => by
    have := (hm _).2 (HHAS.out j hj)
    cases h : at_ ((bs s).take j) with
    | none => exact absurd h this
    | some b => exact ⟨b, rfl⟩)
  have HNO : Hid (∀ c, at_ ((bs s).take X ++ [c]) = none) := Lib.hid (fun c => by
    cases h : at_ ((bs s).take X ++ [c]) with
    | none => rfl
    | some b => exact absurd ((hm _).1 (by rw [h]; simp)) (HBE.out c))
  have HWD : Hid (∀ j, j ≤ X → wd ((bs s).take j) = if j = X then (i : Int) else -1) := Lib.hid (fun j hj => by
    rw [hwd _ ((hm _).2 (HHAS.out j hj))]
    by_cases h : j = X
    · rw [if_pos h, h, HONE.out]
    · rw [if_neg h, HAH.out j (by omega)])
  have HHM := Lib.hid hb2
  clear hm hwd hcell hbw hT hb hb1 hb2 HHAS HBE HAH HONE
  go_wp2_with fail
  generalize w2.heap.size = B0 at *
  generalize Lib.bytesWorld w2 5 s = wb at *
  clear hcx
  go_loop [8, 9, 11, 28, 29, 30, 31, 32, 33, 34, 35, 36, 37, 38, 39, 40, 41, 42, 43, 44, 45, 46, 47, 48, 49] (fun v8 v9 _ v28 _ _ _ _ _ _ _ _ _ _ _ _ _ _ _ _ _ _ _ _ _ => ∃ (j b : Nat), v28 = .int .i64 (j : Int) ∧ v9 = .pointer (some ⟨b, 0, none⟩) ∧ j ≤ X ∧ v8 = .int .i64 (if j = X then (i : Int) else -1) ∧ at_ ((bs s).take j) = some b) (fun _ _ _ v28 _ _ _ _ _ _ _ _ _ _ _ _ _ _ _ _ _ _ _ _ _ => s.size - (intOf v28).toNat)
  case atStart => exact ⟨0, rt, rfl, rfl, by omega, by rw [if_neg (by omega)], h0⟩
  case round =>
    obtain ⟨j, b, rfl, rfl, hjX, rfl, hab⟩ := hrel
    by_cases hlt : j < s.size
    · have k2 : (j : Int) < (s.size : Int) := by omega
      have e2 : IntKind.i64.wrap ((j : Int) + 1) = (j : Int) + 1 := IntWalk.i64_in _ (by omega)
      have c1 := HCELL.out j hlt
      obtain ⟨ch, hch⟩ : ∃ ch, ch = (bs s)[j]?.getD 0 := ⟨_, rfl⟩
      rw [← hch] at c1
      have htk : (bs s).take (j + 1) = (bs s).take j ++ [ch] := by
        rw [List.take_add_one, hch, List.getElem?_eq_getElem (by rw [bs_length]; exact hlt)]
        rfl
      have c2 := hT1.cellM hab
      have lk := (hT1.kids _ _ hab).lookup ch
      by_cases hjx : j < X
      · obtain ⟨b2, hb2⟩ := HAT.out (j + 1) (by omega)
        rw [htk] at hb2
        rw [hb2] at lk
        have lk' : (Instr.lookup 75 (.map (some (b - 1))) (.int .u8 (ch.toNat : Int)) false).run Try.prog wb = .ok (.pointer (some ⟨b2, 0, none⟩)) wb := lk
        have cw := hT1.cellW hb2
        rw [← htk, HWD.out (j + 1) (by omega)] at cw
        rw [← htk] at hb2
        have HB2 := Lib.hid hb2
        have hT := Lib.hid hT1
        by_cases hl : j + 1 = X
        · rw [if_pos hl] at cw
          rw [if_neg (show ¬ j = X by omega)]
          have hge : (0 : Int) ≤ (i : Int) := by omega
          have HL := Lib.hid hl
          clear lk hT1 htk hch hab hb2 hl
          go_wp2
          exact ⟨⟨j + 1, b2, by simp, rfl, by omega, by rw [if_pos HL.out], HB2.out⟩, by simp [intOf]; omega⟩
        · rw [if_neg hl] at cw
          rw [if_neg (show ¬ j = X by omega)]
          have HL := Lib.hid hl
          clear lk hT1 htk hch hab hb2 hl
          go_wp2
          exact ⟨⟨j + 1, b2, by simp, rfl, by omega, by rw [if_neg HL.out], HB2.out⟩, by simp [intOf]; omega⟩
      · obtain rfl : j = X := by omega
        rw [HNO.out ch] at lk
        have lk' : (Instr.lookup 75 (.map (some (b - 1))) (.int .u8 (ch.toNat : Int)) false).run Try.prog wb = .ok (.pointer none) wb := lk
        rw [if_pos rfl]
        clear lk hT1 htk hch hab
        go_wp2
        go_ret2
        exact ⟨rfl, hbx⟩
    · obtain rfl : j = s.size := by omega
      have k2 : ¬ (s.size : Int) < (s.size : Int) := by omega
      rw [if_pos (by omega)]
      go_wp2
      go_ret2
      exact ⟨rfl, hbx⟩
end Go.Proofs.Ytnaoonegeboflaa
