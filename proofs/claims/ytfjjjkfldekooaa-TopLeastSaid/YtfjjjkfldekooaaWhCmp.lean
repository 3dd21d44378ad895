/-
  The comparison of wheel.Back: the bytes at two places.
-/
import Derived.Test.YtfjjjkfldekooaaWhSort
import Derived.Deep.QuietTactic
import Derived.BigQuiet
namespace Go.Proofs.Ytfjjjkfldekooaa.Kf
open Go.RowKit
set_option linter.unusedVariables false
set_option linter.unusedSimpArgs false

def byt (s : ByteArray) (x : Int) : Int := ((s.data.toList[x.toNat]?.getD 0).toNat : Int)
def cmpB (s : ByteArray) (x y : Int) : Int := byt s x - byt s y
theorem byt_bound (s : ByteArray) (x : Int) : 0 ≤ byt s x ∧ byt s x ≤ 255 := by
  unfold byt
  have := (s.data.toList[x.toNat]?.getD 0).toNat_lt
  omega
theorem index_byt (s : ByteArray) (i : Nat) (hi : i < s.size) (W : World) : (Instr.index 9 (.string s) (.int .i64 (i : Int))).run Try.prog W = .ok (.int .u8 (byt s (i : Int))) W := by
  have hd : i < s.data.toList.length := by simpa using hi
  have e : byt s (i : Int) = ((s.data.toList[i]).toNat : Int) := by
    unfold byt
    rw [Int.toNat_natCast, List.getElem?_eq_getElem hd]
    rfl
  rw [run_index_string W _ s _ _ Try.underlying9, dif_pos ⟨by omega, by omega⟩, e]
  simp
  rfl
theorem cmp_back (X G : Nat) (s : ByteArray) (w : World) (hX : w.heap[X]? = some (.cells #[.string s] 9 (0, 0))) (hXG : X ≠ G) :
    Cmp 31 X (cmpB s) (fun x => 0 ≤ x ∧ x < (s.size : Int)) G w := by
  intro w' hg x y hx hy
  have hlt : X < w.heap.size := by
    rcases Nat.lt_or_ge X w.heap.size with hlt | hge
    · exact hlt
    · rw [Array.getElem?_eq_none hge] at hX; cases hX
  have hX' := (hg.block X hlt (by simpa using hXG)).trans hX
  have cX : w'.cell? ⟨X, 0, none⟩ = some (.string s) := by rw [cell_of_row w' X 0 _ _ (0, 0) hX']; rfl
  obtain ⟨i, rfl⟩ : ∃ i : Nat, x = (i : Int) := ⟨x.toNat, by omega⟩
  obtain ⟨j, rfl⟩ : ∃ j : Nat, y = (j : Int) := ⟨y.toNat, by omega⟩
  have h1 := fun W => index_byt s i (by omega) W
  have h2 := fun W => index_byt s j (by omega) W
  have b1 := byt_bound s (i : Int)
  have b2 := byt_bound s (j : Int)
  unfold cmpB
  generalize byt s (i : Int) = u at *
  generalize byt s (j : Int) = v at *
  have e1 : IntKind.i64.wrap u = u := IntWalk.i64_in _ (by omega)
  have e2 : IntKind.i64.wrap v = v := IntWalk.i64_in _ (by omega)
  have e3 : IntKind.i64.wrap (u - v) = u - v := IntWalk.i64_in _ (by omega)
  have ki : (i : Int) < (s.size : Int) := by omega
  have kj : (j : Int) < (s.size : Int) := by omega
  clear hX hX' hg
  go_enter Try.func31, Try.ntmps31
  go_wp2
  go_quiet (fail)
  go_wp2
  go_ret
  exact ⟨rfl, _, rfl⟩
end Go.Proofs.Ytfjjjkfldekooaa.Kf
