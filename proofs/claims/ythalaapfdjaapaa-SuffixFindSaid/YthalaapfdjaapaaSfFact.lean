/-
  The closed fact of the suffix laws.
-/
import Derived.Test.YthalaapfdjaapaaSfCo
import Derived.Test.YthalaapfdjaapaaInts
namespace Go.Proofs.Ythalaapfdjaapaa
open Go.RowKit
set_option linter.unusedVariables false
set_option linter.unusedSimpArgs false

theorem ord_banana : ordOf [98, 97, 110, 97, 110, 97] = [5, 3, 1, 0, 4, 2] := (IsOrd.eq ⟨by decide +kernel, by decide +kernel⟩).symm
theorem alike_banana : alikeOf [98, 97, 110, 97, 110, 97] = [1, 3, 0, 0, 2] := by
  unfold alikeOf
  rw [ord_banana]
  decide +kernel
theorem many_aab : many [97, 97, 98] = 5 := by decide +kernel

set_option maxHeartbeats 1000000 in
set_option maxRecDepth 100000 in
theorem sfact_any (w : World) : Calls Try.prog 9 #[] w fun e w' => e = .returned (.bool true) ∧ Below w.heap.size w w' := by
  have f1 := fun (W : World) => order_all ⟨#[98, 97, 110, 97, 110, 97]⟩ W (by decide)
  have f2 := fun (W : World) => alike_any ⟨#[98, 97, 110, 97, 110, 97]⟩ W (by decide)
  have f3 := fun (W : World) => count_any ⟨#[97, 97, 98]⟩ W (by decide)
  rw [show ((⟨#[98, 97, 110, 97, 110, 97]⟩ : ByteArray).data.toList) = [98, 97, 110, 97, 110, 97] from rfl] at f1 f2
  rw [show ((⟨#[98, 97, 110, 97, 110, 97]⟩ : ByteArray).size) = 6 from rfl] at f1 f2
  rw [show ((⟨#[97, 97, 98]⟩ : ByteArray).data.toList) = [97, 97, 98] from rfl, many_aab] at f3
  rw [ord_banana] at f1
  rw [alike_banana] at f2
  have F1 := Lib.hid f1; have F2 := Lib.hid f2; have F3 := Lib.hid f3
  clear f1 f2 f3
  go_enter Try.func9, Try.ntmps9
  go_wp2_with fail
  refine (F1.out _).mono ?_
  rintro e w1 ⟨A, c, rfl, hr1, hb1⟩
  go_wp2_with fail
  refine (F2.out _).mono ?_
  rintro e w2 ⟨B, d, rfl, hr2, hb2⟩
  go_wp2_with fail
  refine (F3.out _).mono ?_
  rintro e w3 ⟨rfl, hb3⟩
  have hb13 : Below w1.heap.size w1 w3 := bnext hb2 hb3
  have r1 := (hr1.below hb13).below (bnew w3 (.cells #[.int .i64 5, .int .i64 3, .int .i64 1, .int .i64 0, .int .i64 4, .int .i64 2] 3))
  have r2 := (hr2.below hb3).below (bnew w3 (.cells #[.int .i64 5, .int .i64 3, .int .i64 1, .int .i64 0, .int .i64 4, .int .i64 2] 3))
  have h1 := ints_any A (some ⟨w3.heap.size, 0, none⟩) c 6 [5, 3, 1, 0, 4, 2] [5, 3, 1, 0, 4, 2] (w3.alloc (.cells #[.int .i64 5, .int .i64 3, .int .i64 1, .int .i64 0, .int .i64 4, .int .i64 2] 3)) r1 (reads_new _ 3 (ints [5, 3, 1, 0, 4, 2]) 6 1 rfl) (by decide)
  rw [decide_eq_true rfl] at h1
  have H1 := Lib.hid h1; have R2 := Lib.hid r2
  clear F1 F2 F3 h1 hr1 hr2 r1 r2
  go_wp2_with fail
  refine H1.out.mono ?_
  rintro e w4 ⟨rfl, hb4⟩
  have r3 := (R2.out.below hb4).below (bnew w4 (.cells #[.int .i64 1, .int .i64 3, .int .i64 0, .int .i64 0, .int .i64 2] 3))
  have h2 := ints_any B (some ⟨w4.heap.size, 0, none⟩) d 5 [1, 3, 0, 0, 2] [1, 3, 0, 0, 2] (w4.alloc (.cells #[.int .i64 1, .int .i64 3, .int .i64 0, .int .i64 0, .int .i64 2] 3)) r3 (reads_new _ 3 (ints [1, 3, 0, 0, 2]) 5 1 rfl) (by decide)
  rw [decide_eq_true rfl] at h2
  have H2 := Lib.hid h2
  clear H1 R2 h2 r3
  go_wp2_with fail
  refine H2.out.mono ?_
  rintro e w5 ⟨rfl, hb5⟩
  go_wp2_with fail
  go_ret
  exact ⟨rfl, bnext hb1 (bnext hb13 (bnext (bnew _ _) (bnext hb4 (bnext (bnew _ _) hb5))))⟩
end Go.Proofs.Ythalaapfdjaapaa
