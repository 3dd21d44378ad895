/-
  The closed fact of the wheel laws.
-/
import Derived.Test.YtfjjjkfldekooaaWhLaw
namespace Go.Proofs.Ytfjjjkfldekooaa
open Go.RowKit
set_option linter.unusedVariables false
set_option linter.unusedSimpArgs false

theorem there_banana (w : World) : Calls Try.prog 9 #[.string ⟨#[98, 97, 110, 97, 110, 97]⟩] w fun e w' => e = .returned (.tuple #[.string ⟨#[110, 110, 98, 97, 97, 97]⟩, .int .i64 3, .nilIface]) ∧ Below w.heap.size w w' := by
  refine (there_ok ⟨#[98, 97, 110, 97, 110, 97]⟩ w (by decide) (by decide)).mono ?_
  rintro e w' ⟨⟨k, rfl, j, rfl, hj, _⟩, hb⟩
  rw [place_banana j hj, lasts_banana]
  exact ⟨rfl, hb⟩
theorem back_banana (w : World) : Calls Try.prog 10 #[.string ⟨#[110, 110, 98, 97, 97, 97]⟩, .int .i64 3] w fun e w' => e = .returned (.tuple #[.string ⟨#[98, 97, 110, 97, 110, 97]⟩, .nilIface]) ∧ Below w.heap.size w w' := by
  refine (back_ok ⟨#[110, 110, 98, 97, 97, 97]⟩ 3 w (by decide) (.inl (by decide))).mono ?_
  rintro e w' ⟨⟨F, hF, rfl⟩, hb⟩
  obtain ⟨i, u, _, _, hu, _, h⟩ := back_wheel ⟨#[98, 97, 110, 97, 110, 97]⟩ ⟨#[110, 110, 98, 97, 97, 97]⟩ F 3 (by rw [lasts_banana]; rfl) hF (by decide)
  have hub : u = ⟨#[98, 97, 110, 97, 110, 97]⟩ := by
    rw [turns_banana] at hu
    have : (([[97, 98, 97, 110, 97, 110], [97, 110, 97, 98, 97, 110], [97, 110, 97, 110, 97, 98], [98, 97, 110, 97, 110, 97], [110, 97, 98, 97, 110, 97], [110, 97, 110, 97, 98, 97]] : List (List UInt8)).map ba)[3]? = some ⟨#[98, 97, 110, 97, 110, 97]⟩ := rfl
    rw [this] at hu
    exact (Option.some.inj hu).symm
  rw [h, hub]
  exact ⟨rfl, hb⟩
set_option maxHeartbeats 1000000 in
set_option maxRecDepth 100000 in
theorem wfact_any (w : World) : Calls Try.prog 8 #[] w fun e w' => e = .returned (.bool true) ∧ Below w.heap.size w w' := by
  have F1 := Lib.hid there_banana
  have F2 := Lib.hid back_banana
  go_enter Try.func8, Try.ntmps8
  go_wp2_with fail
  refine (F1.out _).mono ?_
  rintro e w1 ⟨rfl, hb1⟩
  go_wp2_with fail
  refine (F2.out _).mono ?_
  rintro e w2 ⟨rfl, hb2⟩
  go_wp2_with fail
  go_ret
  exact ⟨rfl, bnext hb1 hb2⟩
/-- turning back no text -/
theorem back_nil (w : World) : Calls Try.prog 10 #[.string ⟨#[]⟩, .int .i64 0] w fun e w' => e = .returned (.tuple #[.string ⟨#[]⟩, .nilIface]) ∧ Below w.heap.size w w' := by
  refine (back_ok ⟨#[]⟩ 0 w (by decide) (.inr rfl)).mono ?_
  rintro e w' ⟨⟨F, hF, rfl⟩, hb⟩
  have h : outB ⟨#[]⟩ F 0 = ⟨#[]⟩ := rfl
  have h2 : backV ⟨#[]⟩ F 0 = .tuple #[.string ⟨#[]⟩, .nilIface] := by
    unfold backV
    rw [h]
    exact if_pos (lasts_nil _ rfl)
  rw [h2]
  exact ⟨rfl, hb⟩
/-- turning back what wheel.There tells: the turn at a place -/
theorem back_at (s : ByteArray) (k : Nat) (w : World) (hs : s.size ≤ 24) (hk : k < s.size) :
    Calls Try.prog 10 #[.string ⟨(lasts s).toArray⟩, .int .i64 (k : Int)] w fun e w' => (∃ i u, i < s.size ∧ u = trn s i ∧ (turnsB s)[k]? = some u ∧ e = .returned (.tuple #[.string u, .nilIface])) ∧ Below w.heap.size w w' := by
  have hl : (⟨(lasts s).toArray⟩ : ByteArray).size = s.size := by show (lasts s).length = _; rw [lasts_length]
  refine (back_ok ⟨(lasts s).toArray⟩ k w (by omega) (.inl (by omega))).mono ?_
  rintro e w' ⟨⟨F, hF, rfl⟩, hb⟩
  obtain ⟨i, u, h1, h2, h3, _, h4⟩ := back_wheel s _ F k rfl hF hk
  exact ⟨⟨i, u, h1, h2, h3, by rw [h4]⟩, hb⟩
end Go.Proofs.Ytfjjjkfldekooaa
