/-
  What the laws of package huff share: the fact.
-/
import Derived.Test.YtdafkkhbfgpcoaaHfCost
import Derived.Test.YtdafkkhbfgpcoaaHfRoom
import Derived.Test.YtdafkkhbfgpcoaaInts
namespace Go.Proofs.Ytdafkkhbfgpcoaa.Hf
open Go.RowKit
set_option linter.unusedVariables false
set_option linter.unusedSimpArgs false

theorem lit511 (w : World) : Reads (w.alloc (.cells #[.int .i64 5, .int .i64 1, .int .i64 1] 3)) (some ⟨w.heap.size, 0, none⟩) 3 1 (ints [5, 1, 1]) := reads_new w 3 (ints [5, 1, 1]) 3 1 rfl
theorem fact_any (w : World) : Calls Try.prog 6 #[] w fun e w' => e = .returned (.bool true) ∧ Below w.heap.size w w' := by
  have hc : ck [5, 1, 1] = 0 := by decide +kernel
  have e1 : lens [5, 1, 1] = [1, 2, 2] := by decide +kernel
  have e2 : cost [5, 1, 1] = 9 := by decide +kernel
  have f1 := fun (w : World) (g : Nat) hr => long_ok (some ⟨g, 0, none⟩) 3 [5, 1, 1] w hr hc
  have f2 := fun (w : World) (g : Nat) hr => cost_ok (some ⟨g, 0, none⟩) 3 [5, 1, 1] w hr hc
  rw [e1] at f1
  rw [e2] at f2
  have F1 := Lib.hid f1; have F2 := Lib.hid f2
  clear f1 f2 e1 e2 hc
  go_enter Try.func6, Try.ntmps6
  go_wp2_with fail
  refine (F1.out _ _ (lit511 _)).mono ?_
  rintro e w1 ⟨G, rfl, hG, hGg, hb1⟩
  go_wp2_with fail
  refine (F2.out _ _ (lit511 _)).mono ?_
  rintro e w2 ⟨rfl, hb2⟩
  have hG2 := hG.below (bnext (bnew _ _) hb2) hG.lt
  go_wp2_with fail
  refine (ints_any (some ⟨G, 0, none⟩) (some ⟨w2.heap.size, 0, none⟩) 3 3 [1, 2, 2] [1, 2, 2] _ (hG2.alloc _).reads (reads_new w2 3 (ints [1, 2, 2]) 3 1 rfl) (by decide)).mono ?_
  rintro e w4 ⟨rfl, hb4⟩
  go_wp2_with fail
  go_ret
  exact ⟨rfl, bnext (bnext (bnext (bnext (bnew _ _) hb1) (bnext (bnew _ _) hb2)) (bnew _ _)) hb4⟩

/-- Kraft's sum, as the reference has it -/
theorem room_kraft : ∀ (l : List Int), (∀ x ∈ l, 1 ≤ x ∧ x ≤ 12) → kraftP 12 (l.map Int.toNat) = roomOf l
  | [], _ => rfl
  | x :: l, h => by
    have hx := h x (by simp)
    rw [List.map_cons, kraftP_cons, roomOf, room_kraft l fun y hy => h y (by simp [hy])]
    congr 2
    omega
theorem nats_of : ∀ (l : List Int), (∀ x ∈ l, 1 ≤ x ∧ x ≤ 12) → (l.map Int.toNat).map (fun (d : Nat) => (d : Int)) = l
  | [], _ => rfl
  | x :: l, h => by
    have hx := h x (by simp)
    rw [List.map_cons, List.map_cons, nats_of l fun y hy => h y (by simp [hy])]
    congr 1
    omega
theorem least_law {l other : List Int} (hck : ck l = 0) (hl : other.length = l.length) (h : ckL other = 0) (hr : roomOf other ≤ 4096) : cost l ≤ costI l other := by
  obtain ⟨h1, h10, hb⟩ := ck_ok hck
  obtain ⟨_, ho⟩ := ckL_ok h
  have := cost_le h1 (by omega) (fun x hx => (hb x hx).1) (other.map Int.toNat) (by simp [hl]) (fun d hd => by
    obtain ⟨x, hx, rfl⟩ := List.mem_map.1 hd
    have := ho x hx; omega) (by rw [room_kraft other ho]; exact hr)
  rwa [nats_of other ho] at this
theorem lens_in {l : List Int} (hck : ck l = 0) (h2 : 2 ≤ l.length) : (∀ x ∈ lens l, 1 ≤ x ∧ x ≤ 12) ∧ roomOf (lens l) = 4096 := by
  obtain ⟨h1, h10, hb⟩ := ck_ok hck
  have hin : ∀ x ∈ lens l, 1 ≤ x ∧ x ≤ 12 := fun x hx => by
    rw [lens_deps h1 (by omega)] at hx
    obtain ⟨d, hd, rfl⟩ := List.mem_map.1 hx
    have := deps_low h1 (by omega) d hd
    have := deps_pos h1 (by omega) h2 d hd
    omega
  refine ⟨hin, ?_⟩
  rw [← room_kraft _ hin, ← deps_room h1 (by omega)]
  congr 1
  rw [lens_deps h1 (by omega), List.map_map]
  exact List.map_id _
theorem costI_bound : ∀ (ws ls : List Int), (∀ x ∈ ws, 0 ≤ x ∧ x ≤ 1000) → (∀ y ∈ ls, 0 ≤ y ∧ y ≤ 12) → 0 ≤ costI ws ls ∧ costI ws ls ≤ ws.length * 12000
  | [], _, _, _ => by simp [costI]
  | x :: ws, [], _, _ => by simp [costI]; omega
  | x :: ws, y :: ls, h1, h2 => by
    have hx := h1 x (by simp)
    have hy := h2 y (by simp)
    have ih := costI_bound ws ls (fun z hz => h1 z (by simp [hz])) (fun z hz => h2 z (by simp [hz]))
    have m0 := Int.mul_nonneg hx.1 hy.1
    have m1 : x * y ≤ 1000 * 12 := Int.mul_le_mul hx.2 hy.2 hy.1 (by omega)
    rw [costI, List.length_cons]
    omega
theorem cost_bound {l : List Int} (hck : ck l = 0) : 0 ≤ cost l ∧ cost l ≤ 120000 := by
  obtain ⟨h1, h10, hb⟩ := ck_ok hck
  have := costI_bound l (lens l) hb (fun y hy => by
    obtain ⟨i, hi, rfl⟩ := List.getElem_of_mem hy
    have := lens_bound h1 h10 (List.getElem?_eq_getElem hi)
    omega)
  unfold cost
  omega
end Go.Proofs.Ytdafkkhbfgpcoaa.Hf
