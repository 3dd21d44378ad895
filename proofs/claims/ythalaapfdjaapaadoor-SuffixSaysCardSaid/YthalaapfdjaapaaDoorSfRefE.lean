/-
  The walks of the references Ends (the ends of a text), Alike, and Count (how many texts stand in a text, each once).
-/
import Derived.Test.YthalaapfdjaapaaDoorSfBef
import Derived.Test.YthalaapfdjaapaaDoorStd
import Derived.Test.YthalaapfdjaapaaDoorSfTw
namespace Go.Proofs.YthalaapfdjaapaaDoor
open Go.RowKit
set_option linter.unusedVariables false
set_option linter.unusedSimpArgs false

theorem infoS : (Tryd.prog.info? 9).map (fun i => (i.zero, i.size, i.bytes)) = some (some (.string ⟨#[]⟩), 1, 16) := by kernel_rfl
def endsB (s : ByteArray) (n : Nat) : List ByteArray := (List.range n).map fun i => s.extract i s.size
theorem endsB_succ (s : ByteArray) (n : Nat) : endsB s (n + 1) = endsB s n ++ [s.extract n s.size] := by simp [endsB, List.range_succ]
theorem endsB_length (s : ByteArray) (n : Nat) : (endsB s n).length = n := by simp [endsB]
theorem endsB_bs (s : ByteArray) : (endsB s s.size).map bs = (List.range (bs s).length).map (bs s).drop := by
  unfold endsB
  rw [List.map_map, bs_length]
  refine List.map_congr_left fun i _ => ?_
  exact bs_from s i
theorem endsB_small (s x : ByteArray) (n : Nat) (h : x ∈ endsB s n) : x.size ≤ s.size := by
  unfold endsB at h
  obtain ⟨i, _, rfl⟩ := List.mem_map.1 h
  simp
set_option maxHeartbeats 1000000 in
theorem refends_any (s : ByteArray) (w : World) (hs : s.size ≤ 1000) :
    Calls Tryd.prog 6 #[.string s] w fun e w' => ∃ A c, e = .returned (.slice A s.size c) ∧ Reads w' A s.size 1 (texts (endsB s s.size)) ∧ Below w.heap.size w w' := by
  obtain ⟨i0, hi0, hz0, hz1, hz2⟩ := info_parts infoS
  go_enter Tryd.func6, Tryd.ntmps6
  go_wp2
  go_loopw [3, 4, 5, 6, 7, 8, 9, 10, 11, 12, 13, 14, 15, 16] (fun v3 v4 _ _ _ _ _ _ _ _ _ _ _ _ wr => ∃ n : Nat, v4 = .int .i64 (n : Int) ∧ n ≤ s.size ∧ wr.ownsRow w.heap.size 9 1 v3 n (texts (endsB s n)) ∧ Below w.heap.size w wr) (fun _ v4 _ _ _ _ _ _ _ _ _ _ _ _ _ => s.size - (intOf v4).toNat)
  case atStart => exact ⟨0, rfl, by omega, World.ownsRow_nil _ _ _ _, Below.refl _ _⟩
  case round =>
    obtain ⟨n, rfl, hn, hown, hb⟩ := hrel
    by_cases hlt : n < s.size
    · have kk : (n : Int) < (s.size : Int) := by omega
      have e1 : IntKind.i64.wrap ((n : Int) + 1) = (n : Int) + 1 := IntWalk.i64_in _ (by omega)
      have k2 : (n : Int) ≤ (s.size : Int) := by omega
      go_wp2_with (first
        | (at_builtin; go_must (refine append_own _ rfl _ _ 25 rfl w.heap.size 9 i0 _ 1 16 Tryd.underlying25 hi0 hz0 hz1 hz2 rfl (by decide) _ _ _ rfl (hown.alloc _) ⟨wr.heap.size, 0, none⟩ 1 1 [.string (s.extract n s.size)] rfl rfl (cell_one_new _ _ _) (by intro u hu; simp at hu; subst hu; rfl) (by unfold maxLen; omega) (by omega) (by have := hb.size; simp; omega) (by decide) ?_); intro g1 cap1 wA hown1 hg1 hg1' hgrow1))
      go_roundw
      case rel =>
        refine ⟨n + 1, by simp, by omega, ?_, (bmore hb _).grown hgrow1 (by have := hb.size; simp; omega) (fun j hj => (hown.lt j hj).1)⟩
        rw [endsB_succ]
        simpa [texts] using hown1
      case measure => simp [intOf]; omega
    · obtain rfl : n = s.size := by omega
      have kk : ¬ (s.size : Int) < (s.size : Int) := by omega
      obtain ⟨B, d, rfl⟩ := own_slice hown
      have hrd := Reads.of_own hown
      go_wp2
      go_ret
      exact ⟨_, ⟨_, rfl⟩, hrd, hb⟩

/-- of the first m beginnings of x those that none of L begins with -/
def newTo (L : List (List UInt8)) (x : List UInt8) (m : Nat) : Nat := ((List.range m).filter fun k => !(L.any fun z => (x.take (k + 1)).isPrefixOf z)).length
theorem newTo_succ (L : List (List UInt8)) (x : List UInt8) (m : Nat) : newTo L x (m + 1) = newTo L x m + if (L.any fun z => (x.take (m + 1)).isPrefixOf z) = true then 0 else 1 := by
  unfold newTo
  rw [List.range_succ, List.filter_append, List.length_append]
  cases h : L.any fun z => (x.take (m + 1)).isPrefixOf z <;> simp [h]
theorem newTo_le (L : List (List UInt8)) (x : List UInt8) (m : Nat) : newTo L x m ≤ m := by
  unfold newTo
  exact Nat.le_trans (List.length_filter_le _ _) (by simp)
theorem newTo_all (L : List (List UInt8)) (x : List UInt8) : newTo L x x.length = (newOf L x).length := by
  unfold newTo newOf
  rw [List.filter_map, List.length_map]
  rfl
/-- the ends ahead of a place, the last one first -/
def ahead (l : List UInt8) (i : Nat) : List (List UInt8) := ((List.range i).map l.drop).reverse
theorem ahead_succ (l : List UInt8) (i : Nat) : ahead l (i + 1) = l.drop i :: ahead l i := by simp [ahead, List.range_succ]
theorem ahead_all (l : List UInt8) : (subs (ahead l l.length)).length = many l := by
  unfold ahead many ends
  exact subs_length_perm (List.reverse_perm _)
theorem subs_le (l : List UInt8) (i : Nat) (hi : i ≤ l.length) : (subs (ahead l i)).length ≤ i * l.length := by
  induction i with
  | zero => simp [ahead, subs]
  | succ i ih =>
    rw [ahead_succ]
    show (newOf _ _ ++ subs _).length ≤ _
    rw [List.length_append, ← newTo_all]
    have h1 := newTo_le (ahead l i) (l.drop i) (l.drop i).length
    have h2 := ih (by omega)
    rw [List.length_drop] at h1 ⊢
    rw [Nat.succ_mul]
    omega
/-- the first place of what stands at i is i: no end ahead begins with it -/
theorem first_place (l : List UInt8) (i k : Nat) (hk : i + k ≤ l.length) (hk0 : 0 < k) : ∃ x r, places l ((l.drop i).take k) = x :: r ∧ (x = (i : Int) ↔ ¬ ((ahead l i).any fun z => ((l.drop i).take k).isPrefixOf z) = true) ∧ 0 ≤ x ∧ x ≤ i := by
  unfold places placesTo
  have hin : i ∈ (List.range l.length).filter fun j => ((l.drop i).take k).isPrefixOf (l.drop j) := List.mem_filter.2 ⟨List.mem_range.2 (by omega), List.isPrefixOf_iff_prefix.2 (List.take_prefix _ _)⟩
  have hpw : ((List.range l.length).filter fun j => ((l.drop i).take k).isPrefixOf (l.drop j)).Pairwise (· < ·) := List.Pairwise.filter _ List.pairwise_lt_range
  cases h : (List.range l.length).filter fun j => ((l.drop i).take k).isPrefixOf (l.drop j) with
  | nil => rw [h] at hin; simp at hin
  | cons x r =>
    rw [h] at hin hpw
    have hxm : x ∈ (List.range l.length).filter fun j => ((l.drop i).take k).isPrefixOf (l.drop j) := by rw [h]; simp
    have hx2 := (List.mem_filter.1 hxm).2
    have hxi : x ≤ i := by
      rcases List.mem_cons.1 hin with e | e
      · omega
      · exact Nat.le_of_lt ((List.pairwise_cons.1 hpw).1 i e)
    refine ⟨(x : Int), r.map fun i : Nat => (i : Int), rfl, ?_, by omega, by omega⟩
    constructor
    · intro e
      have e : x = i := by omega
      intro ha
      obtain ⟨z, hz, hp⟩ := List.any_eq_true.1 ha
      unfold ahead at hz
      rw [List.mem_reverse, List.mem_map] at hz
      obtain ⟨j, hj, rfl⟩ := hz
      have hj := List.mem_range.1 hj
      have hm : j ∈ x :: r := by rw [← h]; exact List.mem_filter.2 ⟨List.mem_range.2 (by omega), hp⟩
      rcases List.mem_cons.1 hm with e2 | e2
      · omega
      · have := (List.pairwise_cons.1 hpw).1 j e2
        omega
    · intro hn
      rcases Nat.lt_or_ge x i with hlt | hge
      · refine absurd (List.any_eq_true.2 ⟨l.drop x, ?_, hx2⟩) hn
        unfold ahead
        rw [List.mem_reverse, List.mem_map]
        exact ⟨x, List.mem_range.2 hlt, rfl⟩
      · omega
end Go.Proofs.YthalaapfdjaapaaDoor
