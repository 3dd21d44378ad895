/-
  The walk of the reference's Turn.
-/
import Derived.Test.YtfjjjkfldekooaaWhThere
namespace Go.Proofs.Ytfjjjkfldekooaa
open Go.RowKit
set_option linter.unusedVariables false
set_option linter.unusedSimpArgs false

set_option maxHeartbeats 1000000 in
theorem refturn_any (s : ByteArray) (i : Nat) (w : World) (hi : i ≤ s.size) (hs : s.size ≤ 1000000) :
    Calls Try.prog 13 #[.string s, .int .i64 (i : Int)] w fun e w' => e = .returned (.string (trn s i)) ∧ ∃ q, w' = w.drewN q := by
  have k1 : (i : Int) ≤ (s.size : Int) := by omega
  have k2 : 0 ≤ (i : Int) := by omega
  have k3 : ¬ 9223372036854775807 < s.size := by omega
  have k4 : ¬ 9223372036854775807 < s.size - i + min i s.size := by omega
  have k5 : ¬ 9223372036854775807 < s.size - i + i := by omega
  have k6 : min i s.size = i := by omega
  obtain ⟨u, hu⟩ : ∃ u, u = trn s i := ⟨_, rfl⟩
  have HU := Lib.hid hu
  rw [← hu]
  clear hu
  go_enter Try.func13, Try.ntmps13
  go_wp2
  go_quiet (fail)
  go_wp2
  go_ret
  exact ⟨by rw [HU.out]; rfl, _, rfl⟩

end Go.Proofs.Ytfjjjkfldekooaa
