/-
  The walk of kraft.Free: whether no word begins another one.
-/
import Derived.Test.YtnaoonegeboflaaKfAp
namespace Go.Proofs.Ytnaoonegeboflaa.Kf
open Go.RowKit
set_option linter.unusedVariables false
set_option linter.unusedSimpArgs false

theorem hasp_any (s t : ByteArray) (w : World) (hs : s.size ≤ 1000000) (ht : t.size ≤ 1000000) :
    Calls Try.prog 23 #[.string s, .string t] w fun e w' => e = .returned (.bool ((bs t).isPrefixOf (bs s))) ∧ w = w' := by
  have H := Lib.hid (hasprefix_any s t w hs ht)
  go_enter Try.func23, Try.ntmps23
  go_wp2_with fail
  refine H.out.mono ?_
  rintro e w' ⟨rfl, rfl⟩
  go_wp2_with fail
  go_ret
  exact ⟨rfl, rfl⟩
theorem free_no (A : Option Addr) (c : Nat) (l : List ByteArray) (w : World) (hr : Reads w A l.length 1 (texts l)) (hm : l.length ≤ maxLen) (hc : l.length ≤ c) (hsz : ∀ s ∈ l, s.size ≤ maxLen) (h : tchk (l.map bs) ≠ 0) :
    Calls Try.prog 11 #[.slice A l.length c] w fun e w' => e = .returned (.tuple #[.bool false, .iface 57 (.int .i64 (tchk (l.map bs)))]) ∧ Below w.heap.size w w' := by
  have hk := check_words A c l w hr hm hc hsz
  rw [show errT (tchk (l.map bs)) = .iface 57 (.int .i64 (tchk (l.map bs))) from if_neg h] at hk
  generalize tchk (l.map bs) = K at *
  have H := Lib.hid hk
  clear hk h hr hm hc hsz
  go_enter Try.func11, Try.ntmps11
  go_wp2_with fail
  refine H.out.mono ?_
  rintro e w' ⟨rfl, hb⟩
  go_wp2_with fail
  go_ret2
  exact ⟨rfl, hb⟩
open Classical in
noncomputable def frB (ws : List (List UInt8)) : Bool := decide (Fr ws)
theorem frB_iff (ws : List (List UInt8)) : frB ws = true ↔ Fr ws := by
  classical
  unfold frB
  exact decide_eq_true_iff
theorem bool_not {R : Bool} {p : Prop} (h : R = true ↔ p) (hp : ¬ p) : R = false := by
  cases R
  · rfl
  · exact absurd (h.1 rfl) hp
/-- no word ahead of the places i, k begins another one -/
def FrTo (ws : List (List UInt8)) (i k : Nat) : Prop := ∀ (i' k' : Nat) (x y t : List UInt8), (i' < i ∨ (i' = i ∧ k' < k)) → i' ≠ k' → ws[i']? = some x → ws[k']? = some y → y ≠ x ++ t
theorem FrTo.put {ws : List (List UInt8)} {i k : Nat} {x y : List UInt8} (h : FrTo ws i k) (hi : ws[i]? = some x) (hk : ws[k]? = some y) (hp : x.isPrefixOf y = false) : FrTo ws i (k + 1) := by
  intro i' k' x' y' t h1 h2 h3 h4 h5
  by_cases hik : i' = i ∧ k' = k
  · obtain ⟨rfl, rfl⟩ := hik
    rw [hi] at h3; rw [hk] at h4
    simp only [Option.some.injEq] at h3 h4
    subst h3; subst h4
    have : x.isPrefixOf y = true := by rw [h5]; exact List.isPrefixOf_iff_prefix.2 (List.prefix_append _ _)
    rw [hp] at this; cases this
  · exact h i' k' x' y' t (by omega) h2 h3 h4 h5
theorem FrTo.skip {ws : List (List UInt8)} {i : Nat} (h : FrTo ws i i) : FrTo ws i (i + 1) :=
  fun i' k' x y t h1 h2 h3 h4 h5 => h i' k' x y t (by omega) h2 h3 h4 h5
theorem FrTo.row {ws : List (List UInt8)} {i : Nat} (h : FrTo ws i ws.length) : FrTo ws (i + 1) 0 :=
  fun i' k' x y t h1 h2 h3 h4 h5 => h i' k' x y t (by have := (List.getElem?_eq_some_iff.1 h4).1; omega) h2 h3 h4 h5
theorem FrTo.all {ws : List (List UInt8)} (h : FrTo ws ws.length 0) : Fr ws := fun i k x y t h1 h2 h3 => h i k x y t (.inl (List.getElem?_eq_some_iff.1 h2).1) h1 h2 h3

set_option maxHeartbeats 2000000 in
theorem free_ok (A : Option Addr) (c : Nat) (l : List ByteArray) (w : World) (hr : Reads w A l.length 1 (texts l)) (hm : l.length ≤ maxLen) (hc : l.length ≤ c) (hsz : ∀ s ∈ l, s.size ≤ maxLen) (h : tchk (l.map bs) = 0) :
    Calls Try.prog 11 #[.slice A l.length c] w fun e w' => e = .returned (.tuple #[.bool (frB (l.map bs)), .nilIface]) ∧ Below w.heap.size w w' := by
  obtain ⟨R, hR⟩ : ∃ R, R = frB (l.map bs) := ⟨_, rfl⟩
  rw [← hR]
  have HRR := Lib.hid (show R = true ↔ Fr (l.map bs) from by rw [hR]; exact frB_iff _)
  clear hR
  have hk := check_words A c l w hr hm hc hsz
  rw [h, show errT 0 = .nilIface from rfl] at hk
  obtain ⟨h6, h8, hnd⟩ := tchk_ok h
  have h60 : l.length ≤ 6 := by simpa using h6
  have H := Lib.hid hk
  have HR := Lib.hid hr
  have H8 := Lib.hid (fun w hw => (h8 w hw).1 : ∀ w ∈ l.map bs, w.length ≤ 8)
  clear hk h hm hc hsz h6 h8 hr
  go_enter Try.func11, Try.ntmps11
  go_wp2_with fail
  refine H.out.mono ?_
  rintro e w1 ⟨rfl, hb1⟩
  go_wp2_with fail
  have HR1 := Lib.hid (HR.out.below hb1)
  go_loop [5, 6, 7, 8, 16, 23] (fun _ _ _ _ iv _ => ∃ i : Nat, i ≤ l.length ∧ iv = .int .i64 (i : Int) ∧ Hid (FrTo (l.map bs) i 0)) (fun _ _ _ _ iv _ => l.length - (intOf iv).toNat)
  case atStart => exact ⟨0, Nat.zero_le _, rfl, Lib.hid (by intro i' k' x y t h1; omega)⟩
  case round =>
    obtain ⟨i, hi, rfl, HF⟩ := hrel
    by_cases hlt : i < l.length
    · obtain ⟨b, o, rfl, hb, hcc⟩ := HR1.out.2 (by omega)
      obtain ⟨x, hx⟩ : ∃ x, l[i]? = some x := ⟨_, List.getElem?_eq_getElem hlt⟩
      have c0 := hcc i (.string x) (by rw [texts_get, hx]; rfl)
      have kk : (i : Int) < (l.length : Int) := by omega
      have HX := Lib.hid hx
      have HCC := Lib.hid hcc
      clear hcc hx
      go_wp2_with fail
      go_loop [7, 8, 23] (fun _ _ kv => ∃ k : Nat, k ≤ l.length ∧ kv = .int .i64 (k : Int) ∧ Hid (FrTo (l.map bs) i k)) (fun _ _ kv => l.length - (intOf kv).toNat)
      case atStart => exact ⟨0, Nat.zero_le _, rfl, HF⟩
      case round =>
        clear HF c0
        obtain ⟨k, hk, rfl, HF⟩ := hrel
        by_cases hlt2 : k < l.length
        · obtain ⟨y, hy⟩ : ∃ y, l[k]? = some y := ⟨_, List.getElem?_eq_getElem hlt2⟩
          have c1 := HCC.out k (.string y) (by rw [texts_get, hy]; rfl)
          have kk2 : (k : Int) < (l.length : Int) := by omega
          have HY := Lib.hid hy
          clear hy
          by_cases hik : i = k
          · have hne : ((i : Int) != (k : Int)) = false := by rw [bne_eq_false_iff_eq]; omega
            have HE := Lib.hid hik
            clear hik
            go_wp2
            exact ⟨⟨k + 1, by omega, by go_num, Lib.hid (by have hf := HF.out; rw [← HE.out] at hf ⊢; exact hf.skip)⟩, by simp [intOf]; omega⟩
          · have hne : ((i : Int) != (k : Int)) = true := by rw [bne_iff_ne]; omega
            have hxl : x.size ≤ 8 := by have := H8.out (bs x) (List.mem_map_of_mem (List.mem_of_getElem? HX.out)); rwa [bs_length] at this
            have hyl : y.size ≤ 8 := by have := H8.out (bs y) (List.mem_map_of_mem (List.mem_of_getElem? HY.out)); rwa [bs_length] at this
            have hX : (l.map bs)[i]? = some (bs x) := by rw [List.getElem?_map, HX.out]; rfl
            have hY : (l.map bs)[k]? = some (bs y) := by rw [List.getElem?_map, HY.out]; rfl
            have HP := Lib.hid (hasp_any y x w1 (by omega) (by omega))
            have HIK := Lib.hid hik
            cases hp : (bs x).isPrefixOf (bs y)
            · have HN := Lib.hid (HF.out.put hX hY hp)
              rw [hp] at HP
              clear hik hX hY hp hxl hyl
              go_wp2_with (go_at_call 23; refine HP.out.mono ?_; rintro e w' ⟨rfl, rfl⟩)
              exact ⟨⟨k + 1, by omega, by go_num, HN⟩, by simp [intOf]; omega⟩
            · have HN := Lib.hid (show ¬ Fr (l.map bs) from fun hf => by
                obtain ⟨t, ht⟩ := List.isPrefixOf_iff_prefix.1 hp
                exact hf i k _ _ t hik hX hY ht.symm)
              rw [hp] at HP
              clear hik hX hY hp hxl hyl
              go_wp2_with (go_at_call 23; refine HP.out.mono ?_; rintro e w' ⟨rfl, rfl⟩)
              go_ret2
              rw [bool_not HRR.out HN.out]
              exact ⟨rfl, hb1⟩
        · have kk2 : ¬ (k : Int) < (l.length : Int) := by omega
          have HE := Lib.hid (show k = (l.map bs).length by simp; omega)
          go_wp2
          exact ⟨⟨i + 1, by omega, by go_num, Lib.hid (by have hf := HF.out; rw [HE.out] at hf; exact hf.row)⟩, by simp [intOf]; omega⟩
    · have kk : ¬ (i : Int) < (l.length : Int) := by omega
      have HN := Lib.hid (show Fr (l.map bs) from FrTo.all (by have hf := HF.out; rw [show i = (l.map bs).length by simp; omega] at hf; exact hf))
      go_wp2
      go_ret2
      rw [HRR.out.2 HN.out]
      exact ⟨rfl, hb1⟩
end Go.Proofs.Ytnaoonegeboflaa.Kf
