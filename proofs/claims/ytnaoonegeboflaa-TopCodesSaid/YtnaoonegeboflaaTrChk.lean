/-
  The walk of trie.Check: what is wrong with words; and of the prefix functions of the library.
-/
import Derived.Test.YtnaoonegeboflaaTrIdx
import Derived.Test.YtnaoonegeboflaaLong1
namespace Go.Proofs.Ytnaoonegeboflaa
open Go.RowKit
set_option linter.unusedVariables false
set_option linter.unusedSimpArgs false

theorem hasprefix_any (s t : ByteArray) (w : World) (hs : s.size ≤ 1000000) (ht : t.size ≤ 1000000) :
    Calls Try.prog 37 #[.string s, .string t] w fun e w' => e = .returned (.bool ((bs t).isPrefixOf (bs s))) ∧ w = w' := by
  have hp := prefix_iff (bs t) (bs s)
  rw [bs_length, bs_length] at hp
  by_cases h : t.size ≤ s.size
  · rw [decide_eq_true h, Bool.true_and, ← bs_to] at hp
    have HP := Lib.hid hp; clear hp
    go_enter Try.func37, Try.ntmps37
    go_wp2
    go_ret
    refine ⟨ret_bool ?_, rfl⟩
    rw [HP.out]
    show ((s.extract 0 t.size).toList == t.toList) = _
    rw [Lib.toList_data, Lib.toList_data]
    rfl
  · rw [decide_eq_false h, Bool.false_and] at hp
    have HP := Lib.hid hp; clear hp
    go_enter Try.func37, Try.ntmps37
    go_wp2
    go_ret
    exact ⟨ret_bool HP.out.symm, rfl⟩
theorem cutprefix_lite (s t : ByteArray) (w : World) (hs : s.size ≤ 1000000) (ht : t.size ≤ 1000000) :
    Calls Try.prog 36 #[.string s, .string t] w fun e w' => e = .returned (.tuple #[if (bs t).isPrefixOf (bs s) then .string (s.extract t.size s.size) else .string s, .bool ((bs t).isPrefixOf (bs s))]) ∧ w = w' := by
  have H := Lib.hid (hasprefix_any s t w hs ht)
  have hle : (bs t).isPrefixOf (bs s) = true → t.size ≤ s.size := fun h => by
    have := (List.isPrefixOf_iff_prefix.1 h).length_le
    rwa [bs_length, bs_length] at this
  generalize (bs t).isPrefixOf (bs s) = b at *
  cases b
  · clear hle
    go_enter Try.func36, Try.ntmps36
    go_wp2_with fail
    refine H.out.mono ?_
    rintro e w' ⟨rfl, rfl⟩
    go_wp2_with fail
    go_ret2
    exact ⟨rfl, rfl⟩
  · have hle := hle rfl
    go_enter Try.func36, Try.ntmps36
    go_wp2_with fail
    refine H.out.mono ?_
    rintro e w' ⟨rfl, rfl⟩
    go_wp2_with fail
    go_ret2
    exact ⟨rfl, rfl⟩
theorem cutprefix_any (s t : ByteArray) (w : World) (hs : s.size ≤ 1000000) (ht : t.size ≤ 1000000) :
    Calls Try.prog 20 #[.string s, .string t] w fun e w' => e = .returned (.tuple #[if (bs t).isPrefixOf (bs s) then .string (s.extract t.size s.size) else .string s, .bool ((bs t).isPrefixOf (bs s))]) ∧ w = w' := by
  have H := Lib.hid (cutprefix_lite s t w hs ht)
  generalize (bs t).isPrefixOf (bs s) = b at *
  cases b
  all_goals
    go_enter Try.func20, Try.ntmps20
    go_wp2_with fail
    refine H.out.mono ?_
    rintro e w' ⟨rfl, rfl⟩
    go_wp2_with fail
    go_ret2
    exact ⟨rfl, rfl⟩

/-- what is wrong with words, behind others -/
def tgo (seen : List (List UInt8)) : List (List UInt8) → Int
  | [] => 0
  | x :: l => if 8 < x.length then 4 else if x = [] then 5 else if seen.contains x then 6 else tgo (seen ++ [x]) l
def tchk (l : List (List UInt8)) : Int := if 6 < l.length then 4 else tgo [] l
def errT (n : Int) : Value := if n = 0 then .nilIface else .iface 57 (.int .i64 n)
theorem tgo_step {l : List (List UInt8)} {k : Nat} {x : List UInt8} (h : l[k]? = some x) : tgo (l.take k) (l.drop k) = if 8 < x.length then 4 else if x = [] then 5 else if (l.take k).contains x then 6 else tgo (l.take (k + 1)) (l.drop (k + 1)) := by
  obtain ⟨hk, e⟩ := List.getElem?_eq_some_iff.1 h
  rw [List.drop_eq_getElem_cons hk, e, tgo, List.take_add_one, h]
  rfl

theorem sl_take {A : Option Addr} {n c : Nat} : True := trivial
set_option maxHeartbeats 1000000 in
theorem check_words (A : Option Addr) (c : Nat) (l : List ByteArray) (w : World) (hr : Reads w A l.length 1 (texts l)) (hm : l.length ≤ maxLen) (hc : l.length ≤ c) (hsz : ∀ s ∈ l, s.size ≤ maxLen) :
    Calls Try.prog 18 #[.slice A l.length c] w fun e w' => e = .returned (errT (tchk (l.map bs))) ∧ Below w.heap.size w w' := by
  unfold maxLen at hm
  by_cases h6 : 6 < l.length
  · have hk : tchk (l.map bs) = 4 := if_pos (by simpa using h6)
    rw [hk]
    have k1 : (6 : Int) < (l.length : Int) := by omega
    go_enter Try.func18, Try.ntmps18
    go_wp2
    go_ret
    exact ⟨rfl, Below.refl _ _⟩
  · have hk : tchk (l.map bs) = tgo [] (l.map bs) := if_neg (by simpa using h6)
    rw [hk]
    have k1 : ¬ (6 : Int) < (l.length : Int) := by omega
    obtain ⟨R, hR⟩ : ∃ R : Int, tgo [] (l.map bs) = R := ⟨_, rfl⟩
    rw [hR]
    have HRR := Lib.hid hR
    have HSZ := Lib.hid hsz
    clear hk hR hsz
    go_enter Try.func18, Try.ntmps18
    go_wp2
    go_loopw [3, 4, 5, 12] (fun _ _ _ kv wr => ∃ k : Nat, k ≤ l.length ∧ kv = .int .i64 (k : Int) ∧ Hid (tgo ((l.map bs).take k) ((l.map bs).drop k) = R) ∧ Below w.heap.size w wr) (fun _ _ _ k _ => l.length - (intOf k).toNat)
    case atStart => exact ⟨0, Nat.zero_le _, rfl, Lib.hid (by simpa using HRR.out), Below.refl _ _⟩
    case round =>
      obtain ⟨k, hk, rfl, HA, hbel⟩ := hrel
      by_cases hlt : k < l.length
      · have hrr := hr.below hbel
        have hrt := hrr.take1 hk
        rw [texts_take] at hrt
        obtain ⟨b, o, rfl, hb, hcc⟩ := hrr.2 (by omega)
        obtain ⟨x, hx⟩ : ∃ x, l[k]? = some x := ⟨_, List.getElem?_eq_getElem hlt⟩
        have c0 := hcc k (.string x) (by rw [texts_get, hx]; rfl)
        have kk : (k : Int) < (l.length : Int) := by omega
        have hstep := tgo_step (l := l.map bs) (k := k) (x := bs x) (by rw [List.getElem?_map, hx]; rfl)
        rw [HA.out, bs_length] at hstep
        have hxs := HSZ.out x (List.mem_of_getElem? hx)
        unfold maxLen at hxs
        have HST := Lib.hid hstep
        have hlt2 : (l.take k).length = k := by simp; omega
        rw [← List.map_take] at HST
        have hrt2 : Reads wr (some ⟨b, o, none⟩) (l.take k).length 1 (texts (l.take k)) := by rw [hlt2]; exact hrt
        have H1 := fun (wx : World) (hb : Below wr.heap.size wr wx) => contains_text (some ⟨b, o, none⟩) c (l.take k) x wx (hrt2.below hb) (by unfold maxLen; omega)
        rw [hlt2] at H1
        have HC := Lib.hid H1
        clear hcc hx HA hstep hrt hrt2 hrr H1 hlt2
        by_cases h8 : 8 < x.size
        · have h8' : (8 : Int) < (x.size : Int) := by omega
          have HR := Lib.hid (HST.out.trans (if_pos h8))
          clear h8
          go_wp2_with (go_at_call 33; refine (long1_no x _ _ _ (by simp) h8').mono ?_; rintro e w' ⟨rfl, rfl⟩)
          go_ret
          rw [HR.out]
          exact ⟨rfl, bmore hbel _⟩
        · have h8' : (x.size : Int) ≤ 8 := by omega
          have H2 := Lib.hid (HST.out.trans (if_neg h8))
          clear h8 HST
          by_cases h0 : x.size = 0
          · have hxe : bs x = [] := List.length_eq_zero_iff.1 (by rw [bs_length]; exact h0)
            have HR := Lib.hid (H2.out.trans (if_pos hxe))
            have e1 : (x.toList == ([] : List UInt8)) = true := by rw [Lib.toList_data]; rw [show x.data.toList = [] from hxe]; rfl
            clear h0 hxe
            go_wp2_with (go_at_call 33; refine (long1_ok x _ _ _ (by simp) h8').mono ?_; rintro e w' ⟨rfl, rfl⟩)
            go_ret
            rw [HR.out]
            exact ⟨rfl, bmore hbel _⟩
          · have hxe : bs x ≠ [] := fun h => h0 (by rw [← bs_length, h]; rfl)
            have H3 := Lib.hid (H2.out.trans (if_neg hxe))
            have e1 : (x.toList == ([] : List UInt8)) = false := by rw [Lib.toList_data, beq_eq_false_iff_ne]; exact hxe
            clear h0 hxe H2
            cases hct : ((l.take k).map bs).contains (bs x)
            · have HR := Lib.hid (H3.out.trans (if_neg (by rw [hct]; decide)))
              have HCT := Lib.hid hct
              clear hct
              go_wp2_with (first | (go_at_call 33; refine (long1_ok x _ _ _ (by simp) h8').mono ?_; rintro e w' ⟨rfl, rfl⟩) | (go_at_call 35; refine (HC.out _ (bnew _ _)).mono ?_; rw [HCT.out]; rintro e w' ⟨rfl, rfl⟩))
              exact ⟨⟨k + 1, by omega, by go_num, Lib.hid HR.out.symm, bmore hbel _⟩, by simp [intOf]; omega⟩
            · have HR := Lib.hid (H3.out.trans (if_pos hct))
              have HCT := Lib.hid hct
              clear hct
              go_wp2_with (first | (go_at_call 33; refine (long1_ok x _ _ _ (by simp) h8').mono ?_; rintro e w' ⟨rfl, rfl⟩) | (go_at_call 35; refine (HC.out _ (bnew _ _)).mono ?_; rw [HCT.out]; rintro e w' ⟨rfl, rfl⟩))
              go_ret
              rw [HR.out]
              exact ⟨rfl, bmore hbel _⟩
      · have hke := Lib.hid (show k = l.length by omega)
        have hkn : ¬ (k : Int) < (l.length : Int) := by omega
        go_wp2
        go_ret
        have := HA.out
        rw [hke.out, List.drop_of_length_le (by simp)] at this
        rw [← this]
        exact ⟨rfl, hbel⟩
end Go.Proofs.Ytnaoonegeboflaa
