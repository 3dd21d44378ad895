/-
  What huff.Long gives, for kraft.Codes: codes of which none begins another one; plain. And huff.Long at what is no list of weights.
-/
import Derived.Test.YtnaoonegeboflaaHfLong
import Derived.Test.YtnaoonegeboflaaHfOpt
import Derived.Test.YtnaoonegeboflaaKfCodesW
import Derived.Test.YtnaoonegeboflaaKcPlain
import Derived.Test.YtnaoonegeboflaaKfAp
import Derived.Test.YtnaoonegeboflaaKfFree
import Derived.Test.YtnaoonegeboflaaMcCut
import Derived.Test.YtnaoonegeboflaaInts
namespace Go.Proofs.Ytnaoonegeboflaa.Tc
open Go.RowKit Hf Kf
set_option linter.unusedVariables false
set_option linter.unusedSimpArgs false

theorem ck_ok {ws : List Int} (hck : ck ws = 0) : 1 ≤ ws.length ∧ ws.length ≤ 10 ∧ ∀ x ∈ ws, 0 ≤ x ∧ x ≤ 1000 := by
  unfold ck at hck
  split at hck
  · cases hck
  · rename_i h0
    split at hck
    · cases hck
    · rename_i h10
      split at hck
      · rename_i ha
        refine ⟨by omega, by omega, fun x hx => ?_⟩
        have := List.all_eq_true.1 ha x hx
        unfold inR at this
        exact of_decide_eq_true this
      · cases hck
theorem long_no (A : Option Addr) (c : Nat) (ws : List Int) (w : World) (hr : Reads w A ws.length 1 (ints ws)) (hm : ws.length ≤ maxLen) (hck : ck ws ≠ 0) :
    Calls Try.prog 13 #[.slice A ws.length c] w fun e w' => e = .returned (.tuple #[.slice none 0 0, .iface 57 (.int .i64 (ck ws))]) ∧ w = w' := by
  have HCK := check_any A c ws w hr hm
  rw [show errV (ck ws) = .iface 57 (.int .i64 (ck ws)) from if_neg hck] at HCK
  generalize ck ws = E at *
  have H := Lib.hid HCK
  clear HCK hck
  go_enter Try.func13, Try.ntmps13
  go_wp2_with fail
  refine H.out.mono ?_
  rintro e w' ⟨rfl, rfl⟩
  go_wp2_with fail
  go_ret2
  exact ⟨rfl, rfl⟩
theorem room_kraft : ∀ (l : List Int), (∀ x ∈ l, 1 ≤ x ∧ x ≤ 12) → kraftP 12 (l.map Int.toNat) = roomOf l
  | [], _ => rfl
  | x :: l, h => by
    have hx := h x (by simp)
    rw [List.map_cons, kraftP_cons, roomOf, room_kraft l fun y hy => h y (by simp [hy])]
    congr 2
    omega
theorem lens_in {l : List Int} (hck : ck l = 0) (h2 : 2 ≤ l.length) (h6 : l.length ≤ 6) : (∀ x ∈ lens l, 1 ≤ x ∧ x ≤ 6) ∧ roomOf (lens l) = 4096 := by
  obtain ⟨h1, h10, hb⟩ := ck_ok hck
  have hin : ∀ x ∈ lens l, 1 ≤ x ∧ x ≤ 6 := fun x hx => by
    rw [lens_deps h1 (by omega)] at hx
    obtain ⟨d, hd, rfl⟩ := List.mem_map.1 hx
    have := deps_low h1 (by omega) d hd
    have := deps_pos h1 (by omega) h2 d hd
    omega
  refine ⟨hin, ?_⟩
  rw [← room_kraft _ (fun x hx => by have := hin x hx; omega), ← deps_room h1 (by omega)]
  congr 1
  rw [lens_deps h1 (by omega), List.map_map]
  exact List.map_id _
theorem tgo_fine : ∀ (l seen : List (List UInt8)), (∀ x ∈ l, x ≠ [] ∧ x.length ≤ 8) → (seen ++ l).Nodup → tgo seen l = 0
  | [], _, _, _ => rfl
  | x :: l, seen, h, hn => by
    have hx := h x (List.mem_cons_self ..)
    have hns : x ∉ seen := fun hm => (List.nodup_append.1 hn).2.2 x hm x (List.mem_cons_self ..) rfl
    rw [tgo, if_neg (by omega), if_neg hx.1, if_neg (by simpa using hns)]
    exact tgo_fine l (seen ++ [x]) (fun y hy => h y (List.mem_cons_of_mem _ hy)) (by rw [List.append_assoc]; exact hn)
theorem fr_nodup {ws : List (List UInt8)} (h : Fr ws) : ws.Nodup := by
  refine List.pairwise_iff_getElem.2 fun i j hi hj hij e => ?_
  have h1 := List.getElem?_eq_getElem hi
  have h2 := List.getElem?_eq_getElem hj
  rw [← e] at h2
  have := fr_one h h1 j h2
  omega
theorem codes_fine {l : List Int} (hl : ∀ x ∈ l, 1 ≤ x ∧ x ≤ 6) (hr : roomOf l = 4096) (h6 : l.length ≤ 6) : ckL l = 0 ∧ Fr (codesOf l) ∧ tchk (codesOf l) = 0 ∧ ∀ c ∈ codesOf l, c.length ≤ 8 := by
  have hl12 : ∀ x ∈ l, 1 ≤ x ∧ x ≤ 12 := fun x hx => by have := hl x hx; omega
  have hfr : Fr (codesOf l) := codes_free hl12 (by rw [ord_room, hr]; exact Nat.le_refl _)
  have hlen : ∀ c ∈ codesOf l, 1 ≤ c.length ∧ c.length ≤ 8 := fun c hc => by
    obtain ⟨i, hi⟩ := List.getElem?_of_mem hc
    have hil := (List.getElem?_eq_some_iff.1 hi).1
    rw [codes_length] at hil
    obtain ⟨nx, _, h2, h3⟩ := code_len hl12 (List.getElem?_eq_getElem hil)
    rw [hi] at h2
    have h2 := Option.some.inj h2
    rw [← h2] at h3
    have := hl _ (List.getElem_mem hil)
    omega
  refine ⟨?_, hfr, ?_, fun c hc => (hlen c hc).2⟩
  · unfold ckL
    rw [if_neg (by omega), if_pos]
    exact List.all_eq_true.2 fun x hx => by unfold inn; exact decide_eq_true (hl12 x hx)
  · unfold tchk
    rw [if_neg (by rw [codes_length]; omega)]
    exact tgo_fine _ _ (fun c hc => ⟨fun e => by have := hlen c hc; rw [e] at this; simp at this, (hlen c hc).2⟩) (by simpa using fr_nodup hfr)
end Go.Proofs.Ytnaoonegeboflaa.Tc
