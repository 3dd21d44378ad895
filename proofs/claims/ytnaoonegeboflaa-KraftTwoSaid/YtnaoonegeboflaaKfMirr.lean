/-
  The walk of mirrored: words, each turned round.
-/
import Derived.Test.YtnaoonegeboflaaKfFact
import Derived.Test.YtnaoonegeboflaaBack
import Derived.Test.YtnaoonegeboflaaSBlk
import Derived.Test.YtnaoonegeboflaaOwn
namespace Go.Proofs.Ytnaoonegeboflaa.Kf
open Go.RowKit
set_option linter.unusedVariables false
set_option linter.unusedSimpArgs false

def rev (s : ByteArray) : ByteArray := ba (bs s).reverse
theorem bs_rev (s : ByteArray) : bs (rev s) = (bs s).reverse := bs_ba _
theorem map_rev (l : List ByteArray) : (l.map rev).map bs = (l.map bs).map List.reverse := by
  rw [List.map_map, List.map_map]
  exact List.map_congr_left fun x _ => bs_rev x
theorem own_cap {w : World} {base : Nat} {e : TypeId} {v : Value} {n : Nat} {xs : List Value} (h : w.ownsRow base e 1 v n xs) : ∃ A cap, v = .slice A n cap ∧ n ≤ cap := by
  rcases h.2 with ⟨rfl, rfl⟩ | ⟨g, cap, cur, rfl, _, _, hle, _⟩
  · exact ⟨_, _, rfl, Nat.le_refl _⟩
  · exact ⟨_, _, rfl, hle⟩
theorem below_app2 {w wr w2 : World} {v : Value} {n size : Nat} {e : TypeId} {xs : List Value} {o : Obj} (hb : Below w.heap.size w wr) (hown : wr.ownsRow w.heap.size e size v n xs) (hg : (wr.alloc o).grownBy w2 v.ownBlock) : Below w.heap.size w w2 :=
  (bmore hb o).grown hg (by simp; have := hb.size; omega) (fun k hk => (hown.lt k hk).1)
set_option maxHeartbeats 1000000 in
theorem mirr_any (A : Option Addr) (c : Nat) (l : List ByteArray) (w : World) (hr : Reads w A l.length 1 (texts l)) (h6 : l.length ≤ 1000) (h8 : ∀ x ∈ l, x.size ≤ 1000) :
    Calls Try.prog 9 #[.slice A l.length c] w fun e w' => ∃ v, e = .returned v ∧ w'.ownsRow w.heap.size 9 1 v l.length (texts (l.map rev)) ∧ Below w.heap.size w w' := by
  obtain ⟨i0, hi, hz0, hz1, hz2⟩ := info_parts infoS
  have H8 := Lib.hid h8
  clear h8
  go_enter Try.func9, Try.ntmps9
  go_wp2
  go_loopw [3, 4] (fun v iv wr => ∃ i : Nat, i ≤ l.length ∧ iv = .int .i64 (i : Int) ∧ wr.ownsRow w.heap.size 9 1 v i (texts ((l.take i).map rev)) ∧ Below w.heap.size w wr) (fun _ iv _ => l.length - (intOf iv).toNat)
  case atStart => exact ⟨0, Nat.zero_le _, rfl, World.ownsRow_nil _ _ _ _, Below.refl _ _⟩
  case round =>
    obtain ⟨i, hi1, rfl, hown, hbel⟩ := hrel
    by_cases hlt : i < l.length
    · obtain ⟨b, o, rfl, hbl, hcc⟩ := (hr.below hbel).2 (by omega)
      obtain ⟨x, hx⟩ : ∃ x, l[i]? = some x := ⟨_, List.getElem?_eq_getElem hlt⟩
      have c0 := hcc i (.string x) (by rw [texts_get, hx]; rfl)
      have kk : (i : Int) < (l.length : Int) := by omega
      have HT := Lib.hid (show (l.take (i + 1)).map rev = (l.take i).map rev ++ [rev x] from by rw [List.take_add_one, hx]; simp)
      have HB := Lib.hid (back_any x wr (by have := H8.out x (List.mem_of_getElem? hx); omega))
      have HO := Lib.hid hown
      have HBE := Lib.hid hbel
      clear hcc hx hown hbel
      go_wp2_with (first
        | (go_at_call 22; refine HB.out.mono ?_; rintro e w1 ⟨rfl, hb1⟩; have HO1 := Lib.hid (own_below HO.out hb1); have hbw := bnext HBE.out hb1; have hsz := hbw.size; have HBW := Lib.hid hbw; clear hbw)
        | (at_builtin; go_must (refine append_own _ rfl _ _ 22 rfl w.heap.size 9 i0 _ 1 16 Try.underlying22 hi hz0 hz1 hz2 rfl (by decide) _ i _ rfl (HO1.out.alloc _) ⟨w1.heap.size, 0, none⟩ 1 1 [.string (rev x)] rfl rfl (cell_one_new _ _ _) (by intro u hu; simp at hu; subst hu; rfl) (by unfold maxLen; omega) (by omega) (by simp; omega) (by decide) ?_); intro g2 cap2 w2 hown2 hg2 hg2' hgrow2))
      refine ⟨⟨i + 1, by omega, by go_num, ?_, below_app2 HBW.out HO1.out hgrow2⟩, by simp [intOf]; omega⟩
      rw [HT.out]
      simpa [texts] using hown2
    · have kk : ¬ (i : Int) < (l.length : Int) := by omega
      obtain ⟨A2, c2, hv⟩ := own_slice hown
      subst hv
      rw [List.take_of_length_le (by omega)] at hown
      obtain rfl : i = l.length := by omega
      go_wp2
      go_ret
      exact ⟨_, rfl, hown, hbel⟩
end Go.Proofs.Ytnaoonegeboflaa.Kf
