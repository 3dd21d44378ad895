/-
  The walk of edit.Far: it returns the edit distance (Ed.lev) of two texts of at most 24 bytes; else the error ErrFull.
-/
import Derived.Test.YtjlgjadkcpdpmaaDoorBlk
import Derived.Test.YtjlgjadkcpdpmaaDoorEdPlain
namespace Go.Proofs.YtjlgjadkcpdpmaaDoor.Ed
open Go.RowKit
set_option linter.unusedVariables false

/-- of the first i, j bytes -/
def D (a b : List UInt8) (i j : Nat) : Nat := lev (a.take i).reverse (b.take j).reverse
theorem D_zero_left (a b : List UInt8) (j : Nat) (h : j ≤ b.length) : D a b 0 j = j := by simp [D, lev_nil]; omega
theorem D_zero_right (a b : List UInt8) (i : Nat) (h : i ≤ a.length) : D a b i 0 = i := by simp [D, lev_nil_right]; omega
theorem take_rev (a : List UInt8) (i : Nat) (x : UInt8) (h : a[i]? = some x) : (a.take (i + 1)).reverse = x :: (a.take i).reverse := by
  rw [List.take_add_one, h]; simp
theorem D_succ (a b : List UInt8) (i j : Nat) (x y : UInt8) (hx : a[i]? = some x) (hy : b[j]? = some y) :
    D a b (i + 1) (j + 1) = if x = y then D a b i j else 1 + min (D a b i j) (min (D a b (i + 1) j) (D a b i (j + 1))) := by
  unfold D
  rw [take_rev a i x hx, take_rev b j y hy, lev_cons]
theorem D_all (a b : List UInt8) : D a b a.length b.length = lev a b := by simp [D, lev_reverse]
theorem D_le (a b : List UInt8) (i j : Nat) (hi : i ≤ a.length) (hj : j ≤ b.length) : D a b i j ≤ i + j := by
  have := lev_high (a.take i).reverse (b.take j).reverse
  simp at this
  unfold D
  omega

/-- the row: places up to j are of row i + 1, the others of row i -/
def rowAt (a b : List UInt8) (i j : Nat) : List Int := (List.range (b.length + 1)).map fun t => ((if t ≤ j then D a b (i + 1) t else D a b i t : Nat) : Int)
def row0 (a b : List UInt8) (i : Nat) : List Int := (List.range (b.length + 1)).map fun t => ((D a b i t : Nat) : Int)
theorem row0_get (a b : List UInt8) (i t : Nat) (h : t ≤ b.length) : (row0 a b i)[t]? = some ((D a b i t : Nat) : Int) := by
  simp [row0, List.getElem?_range (show t < b.length + 1 by omega)]
theorem rowAt_get (a b : List UInt8) (i j t : Nat) (h : t ≤ b.length) : (rowAt a b i j)[t]? = some (((if t ≤ j then D a b (i + 1) t else D a b i t) : Nat) : Int) := by
  simp [rowAt, List.getElem?_range (show t < b.length + 1 by omega)]
theorem row0_set (a b : List UInt8) (i : Nat) (h : i + 1 ≤ a.length) : (row0 a b i).set 0 ((i : Int) + 1) = rowAt a b i 0 := by
  apply List.ext_getElem?
  intro t
  rcases Nat.lt_or_ge b.length t with ht | ht
  · rw [List.getElem?_eq_none (by simp [row0]; omega), List.getElem?_eq_none (by simp [rowAt]; omega)]
  · rw [rowAt_get a b i 0 t ht]
    rcases t with _ | t
    · rw [List.getElem?_set_self (by simp [row0]), if_pos (Nat.le_refl _), D_zero_right a b (i + 1) h]
      simp
    · rw [List.getElem?_set_ne (by omega), row0_get a b i (t + 1) ht, if_neg (by omega)]
theorem rowAt_set (a b : List UInt8) (i j : Nat) : (rowAt a b i j).set (j + 1) ((D a b (i + 1) (j + 1) : Nat) : Int) = rowAt a b i (j + 1) := by
  apply List.ext_getElem?
  intro t
  rcases Nat.lt_or_ge b.length t with ht | ht
  · rw [List.getElem?_eq_none (by simp [rowAt]; omega), List.getElem?_eq_none (by simp [rowAt]; omega)]
  · rw [rowAt_get a b i (j + 1) t ht]
    by_cases e : t = j + 1
    · subst e
      rw [List.getElem?_set_self (by simp [rowAt]; omega), if_pos (Nat.le_refl _)]
    · rw [List.getElem?_set_ne (by omega), rowAt_get a b i j t ht]
      by_cases h : t ≤ j
      · rw [if_pos h, if_pos (by omega)]
      · rw [if_neg h, if_neg (by omega)]
theorem rowAt_end (a b : List UInt8) (i : Nat) : rowAt a b i b.length = row0 a b (i + 1) := by
  apply List.ext_getElem?
  intro t
  rcases Nat.lt_or_ge b.length t with ht | ht
  · rw [List.getElem?_eq_none (by simp [rowAt]; omega), List.getElem?_eq_none (by simp [row0]; omega)]
  · rw [rowAt_get a b i _ t ht, row0_get a b (i + 1) t ht, if_pos ht]
/-- the first row being filled -/
def fill (m k : Nat) : List Int := (List.range (m + 1)).map fun t => if t < k then (t : Int) else 0
theorem fill_zero (m : Nat) : fill m 0 = List.replicate (m + 1) 0 := by
  apply List.ext_getElem?
  intro t
  rcases Nat.lt_or_ge t (m + 1) with ht | ht
  · simp [fill, ht]
  · rw [List.getElem?_eq_none (by simp [fill]; omega), List.getElem?_eq_none (by simp; omega)]
theorem fill_get (m k t : Nat) (h : t ≤ m) : (fill m k)[t]? = some (if t < k then (t : Int) else 0) := by
  simp [fill, List.getElem?_range (show t < m + 1 by omega)]
theorem fill_set (m k : Nat) : (fill m k).set k (k : Int) = fill m (k + 1) := by
  apply List.ext_getElem?
  intro t
  rcases Nat.lt_or_ge m t with ht | ht
  · rw [List.getElem?_eq_none (by simp [fill]; omega), List.getElem?_eq_none (by simp [fill]; omega)]
  · rw [fill_get m (k + 1) t ht]
    by_cases e : t = k
    · subst e
      rw [List.getElem?_set_self (by simp [fill]; omega), if_pos (by omega)]
    · rw [List.getElem?_set_ne (by omega), fill_get m k t ht]
      by_cases h : t < k
      · rw [if_pos h, if_pos (by omega)]
      · rw [if_neg h, if_neg (by omega)]
theorem fill_all (a b : List UInt8) : fill b.length (b.length + 1) = row0 a b 0 := by
  apply List.ext_getElem?
  intro t
  rcases Nat.lt_or_ge b.length t with ht | ht
  · rw [List.getElem?_eq_none (by simp [fill]; omega), List.getElem?_eq_none (by simp [row0]; omega)]
  · rw [fill_get _ _ t ht, row0_get a b 0 t ht, if_pos (by omega), D_zero_left a b t ht]

theorem three (x y z : Nat) : (1 + if (z : Int) < (if y < x then (y : Int) else (x : Int)) then (z : Int) else if y < x then (y : Int) else (x : Int)) = ((1 + min x (min y z) : Nat) : Int) := by
  by_cases h : y < x
  · simp only [if_pos h]; split <;> omega
  · simp only [if_neg h]; split <;> omega

theorem far_no (s t : ByteArray) (w : World) (h : ¬ (s.size ≤ 24 ∧ t.size ≤ 24)) :
    Calls Tryd.prog 14 #[.string s, .string t] w fun e w' => e = .returned (.tuple #[.int .i64 0, .iface 39 (.int .i64 4)]) ∧ Below w.heap.size w w' := by
  go_enter Tryd.func14, Tryd.ntmps14
  go_wp2_with (go_at_call 17; refine (long2_no s t w.heap.size 24 _ (by simp) (by simp) (by omega)).mono ?_; rintro e w' ⟨rfl, rfl⟩)
  go_ret2
  exact ⟨rfl, bnew _ _⟩

set_option maxHeartbeats 4000000 in
theorem far_ok (s t : ByteArray) (w : World) (hs : s.size ≤ 24) (ht : t.size ≤ 24) :
    Calls Tryd.prog 14 #[.string s, .string t] w fun e w' => e = .returned (.tuple #[.int .i64 (lev s.data.toList t.data.toList : Int), .nilIface]) ∧ Below w.heap.size w w' := by
  have hmk := fun w => run_make_ints w ((t.size : Int) + 1) (t.size + 1) (by omega) (by omega)
  have hL : s.data.toList.length = s.size := by simp
  have hM : t.data.toList.length = t.size := by simp
  have hgs : ∀ k (h : k < s.size), s.data.toList[k]? = some s[k] := fun k h => by
    have := getD_byte s k h
    rw [List.getD_eq_getElem?_getD, List.getElem?_eq_getElem (by rw [hL]; exact h)] at this
    rw [List.getElem?_eq_getElem (by rw [hL]; exact h)]
    exact congrArg some this
  have hgt : ∀ k (h : k < t.size), t.data.toList[k]? = some t[k] := fun k h => by
    have := getD_byte t k h
    rw [List.getD_eq_getElem?_getD, List.getElem?_eq_getElem (by rw [hM]; exact h)] at this
    rw [List.getElem?_eq_getElem (by rw [hM]; exact h)]
    exact congrArg some this
  obtain ⟨a, ha⟩ : ∃ a, a = s.data.toList := ⟨_, rfl⟩
  obtain ⟨b, hb⟩ : ∃ b, b = t.data.toList := ⟨_, rfl⟩
  rw [← ha, ← hb]
  rw [← ha] at hL hgs
  rw [← hb] at hM hgt
  clear ha hb
  have HL := Lib.hid hL; have HM := Lib.hid hM; have HGS := Lib.hid hgs; have HGT := Lib.hid hgt
  clear hL hM hgs hgt
  go_enter Tryd.func14, Tryd.ntmps14
  go_wp2_with (go_at_call 17; refine (long2_ok s t w.heap.size 24 _ (by simp) (by simp) (by omega) (by omega)).mono ?_; rintro e w' ⟨rfl, rfl⟩)
  have h0 := IBlk.new (w.alloc (.cells #[.string s, .string t] 9)) (List.replicate (t.size + 1) 0)
  rw [World.size_alloc] at h0
  have H0 := Lib.hid h0; clear h0
  go_loopw [26] (fun i wr => ∃ k : Nat, k ≤ t.size + 1 ∧ i = .int .i64 k ∧ IBlk wr (w.heap.size + 1) (fill t.size k) ∧ Below w.heap.size w wr) (fun i _ => t.size + 1 - (intOf i).toNat)
  case atStart => exact ⟨0, by omega, rfl, by rw [fill_zero]; exact H0.out, bmore (bnew _ _) _⟩
  case round =>
    obtain ⟨k, hk, rfl, hblk, hbel⟩ := hrel
    by_cases hlt : k < t.size + 1
    · have hcell := hblk.cell (fill_get t.size k k (by omega))
      rw [if_neg (by omega)] at hcell
      have hfr := hblk.frozen k
      have HN := Lib.hid (hblk.set_ k (k : Int))
      clear hblk
      go_wp2
      go_roundw
      case rel => exact ⟨k + 1, by omega, by go_num, by rw [← fill_set]; exact HN.out, hbel.setCell (by simp) _⟩
      case measure => simp [intOf]; omega
    · obtain rfl : k = t.size + 1 := by omega
      have hfill := fill_all a b
      rw [HM.out] at hfill
      rw [hfill] at hblk
      clear hfill
      have HB := Lib.hid hblk; clear hblk H0 hmk
      go_wp2
      obtain ⟨wo, rfl⟩ : ∃ wo : World, wo = wr := ⟨_, rfl⟩
      go_loopw [36] (fun i wr => ∃ k : Nat, k ≤ s.size ∧ i = .int .i64 k ∧ IBlk wr (w.heap.size + 1) (row0 a b k) ∧ Below w.heap.size w wr) (fun i _ => s.size - (intOf i).toNat)
      case atStart => exact ⟨0, by omega, rfl, HB.out, hbel⟩
      case round =>
        clear HB hbel
        obtain ⟨k, hk, rfl, hblk, hbel⟩ := hrel
        by_cases hlt2 : k < s.size
        · have hcell := hblk.cell (row0_get a b k 0 (by omega))
          have hfr := hblk.frozen 0
          have hset := hblk.set_ 0 ((k : Int) + 1)
          rw [row0_set a b k (by rw [HL.out]; omega)] at hset
          have HN := Lib.hid hset
          clear hblk hset
          go_wp2
          obtain ⟨wi, rfl⟩ : ∃ wi : World, wi = wr := ⟨_, rfl⟩
          go_loopw [10, 12, 48] (fun v _ i wq => ∃ j : Nat, j ≤ t.size ∧ i = .int .i64 j ∧ v = .int .i64 (D a b k j : Int) ∧ IBlk wq (w.heap.size + 1) (rowAt a b k j) ∧ Below w.heap.size w wq) (fun _ _ i _ => t.size - (intOf i).toNat)
          case atStart => exact ⟨0, by omega, rfl, rfl, HN.out, hbel.setCell (by simp) _⟩
          case round =>
            clear HN hbel hcell hfr
            obtain ⟨j, hj, rfl, rfl, hblk, hbel⟩ := hrel
            by_cases hlt3 : j < t.size
            · have x1 := hblk.cell (rowAt_get a b k j j (by rw [HM.out]; omega))
              rw [if_pos (Nat.le_refl _)] at x1
              have x2 := hblk.cell (rowAt_get a b k j (j + 1) (by rw [HM.out]; omega))
              rw [if_neg (by omega)] at x2
              have hfr := hblk.frozen (j + 1)
              have hset := hblk.set_ (j + 1) (D a b (k + 1) (j + 1) : Int)
              rw [rowAt_set a b k j] at hset
              have hD := D_succ a b k j _ _ (HGS.out k hlt2) (HGT.out j hlt3)
              have b1 := D_le a b k j (by rw [HL.out]; omega) (by rw [HM.out]; omega)
              have b2 := D_le a b (k + 1) j (by rw [HL.out]; omega) (by rw [HM.out]; omega)
              have b3 := D_le a b k (j + 1) (by rw [HL.out]; omega) (by rw [HM.out]; omega)
              have HN := Lib.hid hset; have HD := Lib.hid hD
              clear hblk hset hD
              by_cases he : s[k] = t[j]
              · have hq : (s[k].toNat != t[j].toNat) = false := by rw [he]; simp
                rw [if_pos he] at HD
                clear he
                go_wp2
                go_quiet (fail)
                go_wp2
                go_roundw
                case rel => exact ⟨j + 1, by omega, by go_num, rfl, by rw [← HD.out]; exact HN.out, (bdrew hbel _).setCell (by simp) _⟩
                case measure => simp [intOf]; omega
              · have hq : (s[k].toNat != t[j].toNat) = true := by rw [bne_iff_ne]; intro h; exact he (UInt8.toNat_inj.1 h)
                rw [if_neg he] at HD
                clear he
                go_wp2
                go_quiet (fail)
                go_wp2
                go_quiet (fail)
                go_wp2
                go_roundw
                case rel => exact ⟨j + 1, by omega, by go_num, rfl, by rw [three, ← HD.out]; exact HN.out, (bdrew hbel _).setCell (by simp) _⟩
                case measure => simp [intOf]; omega
            · have hge : t.size ≤ j := by omega
              obtain rfl : j = t.size := by omega
              have hrow := rowAt_end a b k
              rw [HM.out] at hrow
              rw [hrow] at hblk
              have HB := Lib.hid hblk
              clear hblk hrow
              go_wp2
              go_roundw
              case rel => exact ⟨k + 1, by omega, by go_num, HB.out, hbel⟩
              case measure => simp [intOf]; omega
        · obtain rfl : k = s.size := by omega
          have hc := hblk.cell (row0_get a b s.size t.size (by rw [HM.out]; omega))
          have hall := D_all a b
          rw [HL.out, HM.out] at hall
          rw [hall] at hc
          clear hblk hall
          go_wp2
          go_ret2
          exact ⟨rfl, hbel⟩
end Go.Proofs.YtjlgjadkcpdpmaaDoor.Ed
