/-
  The walk of kraft.Codes: codes of given lengths.
-/
import Derived.Test.YtnaoonegeboflaaKfSort
import Derived.Test.YtnaoonegeboflaaKfRoom
import Derived.Test.YtnaoonegeboflaaSBlk
import Derived.Test.YtnaoonegeboflaaSb
namespace Go.Proofs.Ytnaoonegeboflaa.Kf
open Go.RowKit
set_option linter.unusedVariables false
set_option linter.unusedSimpArgs false

def bit (nx k : Nat) : Nat := nx / 2 ^ (11 - k) % 2
def code (nx len : Nat) : List UInt8 := (List.range len).map fun k => UInt8.ofNat (48 + bit nx k)
theorem code_succ (nx k : Nat) : code nx (k + 1) = code nx k ++ [UInt8.ofNat (48 + bit nx k)] := by
  unfold code
  rw [List.range_succ, List.map_append]
  rfl
theorem code_length (nx k : Nat) : (code nx k).length = k := by simp [code]
/-- how long the code at a place is to be -/
def lenAt (l : List Int) (i : Int) : Int := l.getD i.toNat 0
def cmpL (l : List Int) (a b : Int) : Int := lenAt l a - lenAt l b
def idx (n : Nat) : List Int := (List.range n).map fun (k : Nat) => (k : Int)
def ordOf (l : List Int) : List Int := srt (cmpL l) (idx l.length)
def cstep (l : List Int) (s : Nat × List (List UInt8)) (i : Int) : Nat × List (List UInt8) := (s.1 + 2 ^ (12 - lenAt l i).toNat, s.2.set i.toNat (code s.1 (lenAt l i).toNat))
def codesOf (l : List Int) : List (List UInt8) := ((ordOf l).foldl (cstep l) (0, List.replicate l.length [])).2
theorem idx_length (n : Nat) : (idx n).length = n := by simp [idx]
theorem idx_mem {n : Nat} {x : Int} (h : x ∈ idx n) : 0 ≤ x ∧ x < n := by
  obtain ⟨k, hk, rfl⟩ := List.mem_map.1 h
  have := List.mem_range.1 hk
  omega
theorem ord_mem {l : List Int} {x : Int} (h : x ∈ ordOf l) : 0 ≤ x ∧ x < l.length := idx_mem ((srt_perm _ _).subset h)
theorem ord_length (l : List Int) : (ordOf l).length = l.length := by rw [ordOf, (srt_perm _ _).length_eq, idx_length]
theorem cfold_length (l : List Int) : ∀ (o : List Int) (s : Nat × List (List UInt8)), (o.foldl (cstep l) s).2.length = s.2.length
  | [], s => rfl
  | i :: o, s => by rw [List.foldl_cons, cfold_length l o]; simp [cstep]

theorem bits_one (m : Nat) (hm : m ≤ 1000000) : bits .and .i64 (m : Int) 1 = ((m % 2 : Nat) : Int) := by
  have h : ((BitVec.ofInt 64 (m : Int)) &&& (BitVec.ofInt 64 1)).toNat = m % 2 := by
    rw [BitVec.toNat_and]
    have h1 : (BitVec.ofInt 64 (m : Int)).toNat = m := by simp [BitVec.toNat_ofInt]; omega
    have h2 : (BitVec.ofInt 64 (1 : Int)).toNat = 1 := by decide
    rw [h1, h2, Nat.and_one_is_mod]
  show IntKind.i64.wrap (((BitVec.ofInt 64 (m : Int)) &&& (BitVec.ofInt 64 1)).toNat : Int) = _
  rw [h]
  exact IntWalk.i64_in _ (by omega)

theorem cmp_codes (X G n c : Nat) (A : Option Addr) (l : List Int) (w : World) (hl : l.length ≤ 10) (hX : w.heap[X]? = some (.cells #[.slice A l.length c] 23 (0, 0))) (hXG : X ≠ G) (hr : Reads w A l.length 1 (ints l)) (hA : 0 < l.length → ∀ b o, A = some ⟨b, o, none⟩ → b ≠ G) (hin : ∀ x ∈ l, 1 ≤ x ∧ x ≤ 12) :
    Cmp 30 X (cmpL l) (fun x => 0 ≤ x ∧ x < (l.length : Int)) G w := by
  intro w' hg x y hx hy
  have hlt : X < w.heap.size := by
    rcases Nat.lt_or_ge X w.heap.size with hlt | hge
    · exact hlt
    · rw [Array.getElem?_eq_none hge] at hX; cases hX
  have hX' := (hg.block X hlt (by simpa using hXG)).trans hX
  have cX : w'.cell? ⟨X, 0, none⟩ = some (.slice A l.length c) := by rw [cell_of_row w' X 0 _ _ (0, 0) hX']; rfl
  obtain ⟨b, o, rfl, hb, hc⟩ := hr.2 (by omega)
  obtain ⟨i, rfl⟩ : ∃ i : Nat, x = (i : Int) := ⟨x.toNat, by omega⟩
  obtain ⟨j, rfl⟩ : ∃ j : Nat, y = (j : Int) := ⟨y.toNat, by omega⟩
  have hi : i < l.length := by omega
  have hj : j < l.length := by omega
  obtain ⟨u, hu⟩ : ∃ u, l[i]? = some u := ⟨_, List.getElem?_eq_getElem hi⟩
  obtain ⟨v, hv⟩ : ∃ v, l[j]? = some v := ⟨_, List.getElem?_eq_getElem hj⟩
  have hbG := hA (by omega) b o rfl
  have c0 : w'.cell? ⟨b, o + i, none⟩ = some (.int .i64 u) := (World.cell?_of_block (w := w) (a := ⟨b, o + i, none⟩) (hg.block b hb (by simpa using hbG))).trans (hc i _ (by rw [ints_get, hu]; rfl))
  have c1 : w'.cell? ⟨b, o + j, none⟩ = some (.int .i64 v) := (World.cell?_of_block (w := w) (a := ⟨b, o + j, none⟩) (hg.block b hb (by simpa using hbG))).trans (hc j _ (by rw [ints_get, hv]; rfl))
  have hu1 := hin u (List.mem_of_getElem? hu)
  have hv1 := hin v (List.mem_of_getElem? hv)
  have e : cmpL l (i : Int) (j : Int) = u - v := by unfold cmpL lenAt; rw [Int.toNat_natCast, Int.toNat_natCast, List.getD_eq_getElem?_getD, List.getD_eq_getElem?_getD, hu, hv]; rfl
  rw [e]
  have wr1 : IntKind.i64.wrap (u - v) = u - v := IntWalk.i64_in _ (by omega)
  clear hg hX hX' hr hA hin hx hy hc hu hv e hlt
  go_enter Try.func30, Try.ntmps30
  go_wp2
  go_quiet (fail)
  go_wp2
  go_ret
  exact ⟨rfl, _, rfl⟩
end Go.Proofs.Ytnaoonegeboflaa.Kf
