/-
  The walk of common.table.
-/
import Derived.Test.YtjlgjadkcpdpmaaDoorCoTab
import Derived.Test.YtjlgjadkcpdpmaaDoorCoWithin
import Derived.Deep.RegionHeld3
import Derived.Deep.DrawnRows
namespace Go.Proofs.YtjlgjadkcpdpmaaDoor.Co
open Go.RowKit
set_option linter.unusedVariables false

theorem Tab.start (w : World) (a b : List UInt8) : Tab (w.alloc (.cells (List.replicate (a.length + 1) (Value.slice none 0 0)).toArray 34)) w.heap.size a b (a.length + 1) 0 :=
  ⟨⟨_, SBlk.new w _, by simp, fun i' h1 h2 => by omega⟩, fun i' h1 h2 => by omega, fun h => by omega⟩

set_option maxHeartbeats 2000000 in
theorem table_ok (a b : ByteArray) (w : World) (ha : a.size ≤ 24) (hb : b.size ≤ 24) :
    Calls Tryd.prog 18 #[.string a, .string b] w fun e w' => ∃ G, e = .returned (.slice (some ⟨G, 0, none⟩) (a.size + 1) (a.size + 1)) ∧ w.heap.size ≤ G ∧ Tab w' G (bs a) (bs b) 0 0 ∧ Below w.heap.size w w' := by
  have hmk := fun w => run_make_sl w ((a.size : Int) + 1) (a.size + 1) (by omega) (by omega)
  have hmi := fun w => run_make_ints w ((b.size : Int) + 1) (b.size + 1) (by omega) (by omega)
  have hT := Tab.start w (bs a) (bs b)
  rw [bs_length] at hT
  have HT := Lib.hid hT
  clear hT
  go_enter Tryd.func18, Tryd.ntmps18
  go_wp2_with fail
  go_loopw [6] (fun i wr => ∃ k : Nat, i = .int .i64 ((k : Int) - 1) ∧ k ≤ a.size + 1 ∧ Tab wr w.heap.size (bs a) (bs b) k 0 ∧ wr.heap.size = w.heap.size + 1 + (a.size + 1 - k) ∧ Below w.heap.size w wr) (fun i _ => (intOf i + 1).toNat)
  case atStart => exact ⟨a.size + 1, by simp, by omega, HT.out, by simp, bnew _ _⟩
  case round =>
    obtain ⟨k, rfl, hk, hT, hs, hbel⟩ := hrel
    have HT := Lib.hid hT
    clear hT
    by_cases hk0 : 1 ≤ k
    · obtain ⟨i, rfl⟩ : ∃ i, k = i + 1 := ⟨k - 1, by omega⟩
      have hi : i ≤ a.size := by omega
      have hL : (bs a).length = a.size := bs_length a
      have hM : (bs b).length = b.size := bs_length b
      have hs' : wr.heap.size = w.heap.size + 1 + ((bs a).length - i) := by rw [hs, hL]; omega
      have hrow := Tab.row HT.out (by omega) hs' (HT.out.outer.imp fun l h => ⟨h.1, h.2.1⟩)
      obtain ⟨l, hSl, hll, _⟩ := HT.out.outer
      obtain ⟨v0, hv0⟩ : ∃ v, l[i]? = some v := ⟨_, List.getElem?_eq_getElem (by omega)⟩
      have hcell := (hSl.alloc (.cells (ints (List.replicate (b.size + 1) 0)).toArray 3)).cell hv0
      have hfr := (hSl.alloc (.cells (ints (List.replicate (b.size + 1) 0)).toArray 3)).frozen i
      have HW := Lib.hid hrow
      have HS := Lib.hid hs
      clear hrow hSl hll hv0 hs
      rw [show (((i + 1 : Nat) : Int) - 1) = (i : Int) by omega]
      have g0 : (0 : Int) ≤ (i : Int) := by omega
      have g1 : (i : Int) < (a.size : Int) + 1 := by omega
      by_cases hia : i < a.size
      · have gne : ((i : Int) == (a.size : Int)) = false := by rw [beq_eq_false_iff_ne]; omega
        go_wp2
        go_loopw [7] (fun j wr2 => ∃ J : Nat, j = .int .i64 ((J : Int) - 1) ∧ J ≤ b.size ∧ Tab wr2 w.heap.size (bs a) (bs b) i J ∧ wr2.heap.size = wr.heap.size + 1 ∧ Below w.heap.size w wr2) (fun j _ => (intOf j + 1).toNat)
        case atStart => exact ⟨b.size, by rfl, by omega, by have := HW.out; rw [hL, hM] at this; exact this, by simp [World.setCell], (bmore hbel _).setCell (by show w.heap.size ≤ w.heap.size; exact Nat.le_refl _) _⟩
        case round =>
          obtain ⟨J, rfl, hJ, hT2, hs2, hbel2⟩ := hrel
          by_cases hJ0 : 1 ≤ J
          · obtain ⟨j, rfl⟩ : ∃ j, J = j + 1 := ⟨J - 1, by omega⟩
            have hj : j < b.size := by omega
            have sl0 := hT2.slice (i' := i) (Nat.le_refl _) (by omega)
            have sl1 := hT2.slice (i' := i + 1) (by omega) (by omega)
            have n11 := hT2.num (i' := i + 1) (j' := j + 1) (by omega) (by omega) (.inl (by omega)) (by omega)
            have n10 := hT2.num (i' := i + 1) (j' := j) (by omega) (by omega) (.inl (by omega)) (by omega)
            have n01 := hT2.num (i' := i) (j' := j + 1) (Nat.le_refl _) (by omega) (.inr (Nat.le_refl _)) (by omega)
            have fr := hT2.frozen (by omega) j
            have hset := fun n => hT2.set_ (n := n) (by omega) (by omega)
            obtain ⟨r0, hr0, hr0l, _⟩ := hT2.rows i (Nat.le_refl _) (by omega)
            obtain ⟨z0, hz0⟩ : ∃ z, r0[j]? = some z := ⟨_, List.getElem?_eq_getElem (by omega)⟩
            have c0 := hr0.cell hz0
            have hl1 := lcs_le ((bs a).drop (i + 1)) ((bs b).drop (j + 1))
            have hl2 := lcs_le ((bs a).drop (i + 1)) ((bs b).drop j)
            have hl3 := lcs_le ((bs a).drop i) ((bs b).drop (j + 1))
            simp only [List.length_drop] at hl1 hl2 hl3
            have hcons : lcs ((bs a).drop i) ((bs b).drop j) = if a[i] = b[j] then 1 + lcs ((bs a).drop (i + 1)) ((bs b).drop (j + 1)) else max (lcs ((bs a).drop (i + 1)) ((bs b).drop j)) (lcs ((bs a).drop i) ((bs b).drop (j + 1))) := by
              conv => lhs; rw [bs_drop a i hia, bs_drop b j hj, lcs_cons]
              rw [← bs_drop a i hia, ← bs_drop b j hj]
            unfold rowAt at sl0 sl1
            rw [hL, hM] at sl0 sl1
            rw [hL] at n11 n10 n01 fr hset c0
            have q1 := index_at a i _ hia rfl
            have q2 := index_at b j _ hj rfl
            rw [show (((j + 1 : Nat) : Int) - 1) = (j : Int) by omega]
            have w1 : IntKind.i64.wrap ((i : Int) + 1) = (i : Int) + 1 := IntWalk.i64_in _ (by omega)
            have w2 : IntKind.i64.wrap ((j : Int) + 1) = (j : Int) + 1 := IntWalk.i64_in _ (by omega)
            generalize lcs ((bs a).drop (i + 1)) ((bs b).drop (j + 1)) = L11 at *
            generalize lcs ((bs a).drop (i + 1)) ((bs b).drop j) = L10 at *
            generalize lcs ((bs a).drop i) ((bs b).drop (j + 1)) = L01 at *
            generalize lcs ((bs a).drop i) ((bs b).drop j) = L00 at *
            have k0 : (0 : Int) ≤ (j : Int) := by omega
            have k1 : (0 : Int) ≤ (i : Int) + 1 := by omega
            have k2 : (0 : Int) ≤ (j : Int) + 1 := by omega
            have k3 : (i : Int) + 1 < (a.size : Int) + 1 := by omega
            have k4 : (j : Int) + 1 < (b.size : Int) + 1 := by omega
            have k5 : (j : Int) < (b.size : Int) + 1 := by omega
            generalize a[i] = x at *
            generalize b[j] = y at *
            have HSET := Lib.hid hset
            have HB := Lib.hid hbel2
            clear hset hT2 hr0 hr0l hz0 hl2 hl3
            have d1 : w.heap.size + 1 + (a.size - i) ≠ w.heap.size := by omega
            have d2 : w.heap.size + 1 + (a.size - i) ≠ w.heap.size + 1 + (a.size - (i + 1)) := by omega
            have hG2 : w.heap.size ≤ w.heap.size + 1 + (a.size - i) := by omega
            generalize w.heap.size + 1 + (a.size - i) = B1 at *
            generalize w.heap.size + 1 + (a.size - (i + 1)) = B2 at *
            have d3 : (⟨B1, j, none⟩ : Addr) ≠ ⟨B1, j + 1, none⟩ := fun h => by injection h; omega
            by_cases hxy : x = y
            · rw [if_pos hxy] at hcons
              subst hxy
              have w3 : IntKind.i64.wrap ((1 : Int) + (L11 : Int)) = (1 : Int) + (L11 : Int) := IntWalk.i64_in _ (by omega)
              have HC := Lib.hid hcons
              clear hcons
              go_wp2
              go_quiet (fail)
              go_wp2
              go_region_held3 (fun w' => w'.cell? ⟨w.heap.size, i, none⟩ = some (.slice (some ⟨B1, 0, none⟩) (b.size + 1) (b.size + 1)) ∧ w'.cell? ⟨w.heap.size, i + 1, none⟩ = some (.slice (some ⟨B2, 0, none⟩) (b.size + 1) (b.size + 1)) ∧ w'.cell? ⟨B2, j + 1, none⟩ = some (.int .i64 (L11 : Int))) (first | exact ⟨sl0, sl1, n11⟩ | exact ⟨(World.cell?_setCell_far _ _ _ _ d1).trans sl0, (World.cell?_setCell_far _ _ _ _ d1).trans sl1, (World.cell?_setCell_far _ _ _ _ d2).trans n11⟩) (fail)
              go_wp2
              go_roundw
              case rel => exact ⟨j, rfl, by omega, (HSET.out _ (by have := HC.out; omega)).drewN (nq + 1), by simp [World.setCell]; omega, (bdrew HB.out _).setCell hG2 _⟩
              case measure => simp [intOf]
            · have hne : ¬ (x.toNat = y.toNat) := fun h => hxy (UInt8.toNat_inj.1 h)
              rw [if_neg hxy] at hcons
              have r1 : ((x.toNat : Int) == (y.toNat : Int)) = false := by rw [beq_eq_false_iff_ne]; intro h; exact hne (by omega)
              have HC := Lib.hid hcons
              clear hcons hxy
              go_wp2
              go_quiet (fail)
              go_wp2
              go_region_held3 (fun w' => w'.cell? ⟨w.heap.size, i, none⟩ = some (.slice (some ⟨B1, 0, none⟩) (b.size + 1) (b.size + 1)) ∧ w'.cell? ⟨w.heap.size, i + 1, none⟩ = some (.slice (some ⟨B2, 0, none⟩) (b.size + 1) (b.size + 1)) ∧ w'.cell? ⟨B2, j, none⟩ = some (.int .i64 (L10 : Int)) ∧ w'.cell? ⟨B1, j + 1, none⟩ = some (.int .i64 (L01 : Int))) (first | exact ⟨sl0, sl1, n10, n01⟩ | exact ⟨(World.cell?_setCell_far _ _ _ _ d1).trans sl0, (World.cell?_setCell_far _ _ _ _ d1).trans sl1, (World.cell?_setCell_far _ _ _ _ d2).trans n10, (World.cell?_setCell_other _ _ _ _ d3).trans n01⟩) (fail)
              go_wp2
              go_roundw
              case rel => exact ⟨j, rfl, by omega, (HSET.out _ (by have := HC.out; split <;> omega)).drewN _, by simp [World.setCell]; omega, (bdrew HB.out _).setCell hG2 _⟩
              case measure => simp [intOf]
          · obtain rfl : J = 0 := by omega
            have HT2 := Lib.hid hT2
            clear hT2
            go_wp2
            go_roundw
            case rel => exact ⟨i, rfl, by omega, HT2.out, by rw [hs2, HS.out]; omega, hbel2⟩
            case measure => simp [intOf]
      · have hia' : i = a.size := by omega
        subst hia'
        have h0 := Tab.row0 (w := wr) (G := w.heap.size) (a := bs a) (b := bs b) (by rw [hL]; exact HT.out) (by rw [HS.out]; omega)
        have hpast : w.heap.size < wr.heap.size := by rw [HS.out]; omega
        rw [World.setCell_alloc_past _ _ _ _ hpast, hL, hM] at h0
        unfold rowAt at h0
        rw [Nat.sub_self, Nat.add_zero] at h0
        have H0 := Lib.hid h0
        clear h0
        go_wp2
        refine ⟨⟨a.size, rfl, by omega, ?_, ?_, ?_⟩, ?_⟩
        · exact H0.out
        · simp [World.setCell, HS.out]
        · exact bmore (hbel.setCell (p := ⟨w.heap.size, a.size, none⟩) (Nat.le_refl _) _) _
        · simp [intOf]
    · obtain rfl : k = 0 := by omega
      go_wp2
      go_ret
      exact ⟨_, rfl, Nat.le_refl _, HT.out, hbel⟩
end Go.Proofs.YtjlgjadkcpdpmaaDoor.Co
