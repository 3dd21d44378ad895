/-
  The walk of the law HuffFull: it returns true for every list.
-/
import Derived.Test.YtdafkkhbfgpcoaaHfLaw
namespace Go.Proofs.Ytdafkkhbfgpcoaa.huffFull
open Go.RowKit Hf
set_option linter.unusedVariables false
set_option linter.unusedSimpArgs false

set_option maxHeartbeats 4000000 in
theorem walk (w : World) (A : Option Addr) (cap : Nat) (l : List Int) (s : l.length * 8 ≤ 140737488351232) (f : ∀ n ∈ l, -9223372036854775808 ≤ n ∧ n ≤ 9223372036854775807) (i : Reads w A l.length 1 (l.map (Value.int .i64)) ∧ l.length ≤ cap) :
    Calls Try.prog 4 #[.slice A l.length cap] w fun e w' => e = .returned (.bool true) ∧ Below w.heap.size w w' := by
  obtain ⟨hr, _⟩ := i
  clear f
  have hm1 : l.length ≤ maxLen := by unfold maxLen; omega
  by_cases hck : ck l = 0
  · obtain ⟨h1, h10, hb⟩ := ck_ok hck
    have HC := Lib.hid (fun w hr => long_ok A cap l w hr hck)
    by_cases h2 : l.length = 1
    · obtain ⟨x, hx⟩ := List.length_eq_one_iff.1 h2
      have hl0 : lens l = [0] := by rw [hx]; exact lens_one x
      rw [hl0] at HC
      clear hl0 hx hck hb
      have k1 : l.length = 1 := h2
      go_enter Try.func4, Try.ntmps4
      go_wp2_with fail
      refine (fact_any _).mono ?_
      rintro e w1 ⟨rfl, hb1⟩
      go_wp2_with fail
      rw [h2] at HC
      refine (HC.out _ (by have := hr.below hb1; rw [h2] at this; exact this)).mono ?_
      rintro e w2 ⟨G, rfl, hG, hGg, hb2⟩
      have c0 := hG.cell (i := 0) (n := 0) rfl
      go_wp2_with fail
      go_ret
      exact ⟨rfl, bnext hb1 hb2⟩
    · obtain ⟨hin, hroom⟩ := lens_in hck (by omega)
      have hll := lens_length l
      have hord := fun i k hi hk hw => lens_order (ws := l) h1 (by omega) (fun x hx => (hb x hx).1) i k hi hk hw
      have hall : (lens l).all (inn 1 12) = true := List.all_eq_true.2 fun x hx => by unfold inn; exact decide_eq_true (hin x hx)
      have HA := Lib.hid (fun w (g : Nat) hr => refall_any (some ⟨g, 0, none⟩) l.length (lens l) 1 12 w hr (by rw [hll]; exact hm1))
      have HR := Lib.hid (fun w (g : Nat) hr => room_any (some ⟨g, 0, none⟩) l.length (lens l) w hr (by omega) hin)
      rw [hall, hll] at HA
      rw [hroom, hll] at HR
      have HORD := Lib.hid hord
      have HLL := Lib.hid hll
      have H2 := Lib.hid h2
      have k1 : ((l.length : Int) == 1) = false := by rw [beq_eq_false_iff_ne]; omega
      generalize lens l = m at *
      clear hck hb h2 hin hroom hll hord hall
      go_enter Try.func4, Try.ntmps4
      go_wp2_with fail
      refine (fact_any _).mono ?_
      rintro e w1 ⟨rfl, hb1⟩
      go_wp2_with fail
      refine (HC.out _ (hr.below hb1)).mono ?_
      rintro e w2 ⟨G, rfl, hG, hGg, hb2'⟩
      have hb2 := bnext hb1 hb2'
      clear hb1 hb2'
      have hrG := hG.reads
      rw [HLL.out] at hrG
      go_wp2_with fail
      refine (HA.out _ _ hrG).mono ?_
      rintro e w3 ⟨rfl, rfl⟩
      go_wp2_with fail
      refine (HR.out _ _ hrG).mono ?_
      rintro e w4 ⟨rfl, rfl⟩
      have HG := Lib.hid hG
      clear hG hrG HC HA HR
      go_wp2_with fail
      go_loopw [6, 7, 50, 51, 52, 53, 54, 55, 56, 57, 58, 59, 60, 61, 62, 63, 64, 65, 66, 67, 68, 69, 70, 71, 72, 73, 74, 75, 76, 77, 78, 79, 80, 81] (fun iv _ _ _ _ _ _ _ _ _ _ _ _ _ _ _ _ _ _ _ _ _ _ _ _ _ _ _ _ _ _ _ _ _ wr => ∃ i : Nat, i ≤ l.length ∧ iv = .int .i64 (i : Int) ∧ Below w2.heap.size w2 wr) (fun iv _ _ _ _ _ _ _ _ _ _ _ _ _ _ _ _ _ _ _ _ _ _ _ _ _ _ _ _ _ _ _ _ _ _ => l.length - (intOf iv).toNat)
      case atStart => exact ⟨0, Nat.zero_le _, rfl, Below.refl _ _⟩
      case round =>
        obtain ⟨i, hi, rfl, hbel⟩ := hrel
        by_cases hlt : i < l.length
        · have kk : (i : Int) < (l.length : Int) := by omega
          go_wp2_with fail
          go_loopw [7, 56, 57, 58, 59, 60, 61, 62, 63, 64, 65, 66, 67, 68, 69, 70, 71, 72, 73, 74, 75, 76, 77, 78, 79, 80, 81] (fun kv _ _ _ _ _ _ _ _ _ _ _ _ _ _ _ _ _ _ _ _ _ _ _ _ _ _ wr => ∃ k : Nat, k ≤ l.length ∧ kv = .int .i64 (k : Int) ∧ Below w2.heap.size w2 wr) (fun kv _ _ _ _ _ _ _ _ _ _ _ _ _ _ _ _ _ _ _ _ _ _ _ _ _ _ _ => l.length - (intOf kv).toNat)
          case atStart => exact ⟨0, Nat.zero_le _, rfl, hbel⟩
          case round =>
            clear hbel
            obtain ⟨k, hk, rfl, hbel⟩ := hrel
            by_cases hlt2 : k < l.length
            · have kk2 : (k : Int) < (l.length : Int) := by omega
              obtain ⟨b, o, rfl, hbl, hc⟩ := (hr.below (bnext hb2 hbel)).2 (by omega)
              obtain ⟨x, hx⟩ : ∃ x, l[i]? = some x := ⟨_, List.getElem?_eq_getElem hlt⟩
              obtain ⟨y, hy⟩ : ∃ y, l[k]? = some y := ⟨_, List.getElem?_eq_getElem hlt2⟩
              obtain ⟨p, hp⟩ : ∃ p, m[i]? = some p := ⟨_, List.getElem?_eq_getElem (by rw [HLL.out]; exact hlt)⟩
              obtain ⟨q, hq⟩ : ∃ q, m[k]? = some q := ⟨_, List.getElem?_eq_getElem (by rw [HLL.out]; exact hlt2)⟩
              have c0 := hc i (.int .i64 x) (by rw [List.getElem?_map, hx]; rfl)
              have c1 := hc k (.int .i64 y) (by rw [List.getElem?_map, hy]; rfl)
              have hG2 := HG.out.below hbel HG.out.lt
              have c2 := hG2.cell hp
              have c3 := hG2.cell hq
              have ho := HORD.out i k hlt hlt2
              rw [List.getD_eq_getElem?_getD, List.getD_eq_getElem?_getD, List.getD_eq_getElem?_getD, List.getD_eq_getElem?_getD, hx, hy, hp, hq] at ho
              simp only [Option.getD_some] at ho
              clear hc hx hy hp hq hG2
              by_cases hw : y < x
              · have hle := ho hw
                have g1 : ¬ (q < p) := by omega
                clear ho
                go_wp2
                go_quiet (fail)
                go_wp2
                refine ⟨⟨k + 1, by omega, by go_num, bdrew hbel _⟩, by simp [intOf]; omega⟩
              · have g1 : x ≤ y := by omega
                have g2 : decide (y < x) = false := decide_eq_false hw
                clear ho hw
                go_wp2
                go_quiet (fail)
                go_wp2
                refine ⟨⟨k + 1, by omega, by go_num, bdrew hbel _⟩, by simp [intOf]; omega⟩
            · have kk2 : ¬ (k : Int) < (l.length : Int) := by omega
              go_wp2_with fail
              refine ⟨⟨i + 1, by omega, by go_num, hbel⟩, by simp [intOf]; omega⟩
        · have kk : ¬ (i : Int) < (l.length : Int) := by omega
          go_wp2_with fail
          go_ret
          exact ⟨rfl, bnext hb2 hbel⟩
  · have HC := Lib.hid (fun w hr => long_no A cap l w hr hm1 hck)
    generalize ck l = E at *
    go_enter Try.func4, Try.ntmps4
    go_wp2_with fail
    refine (fact_any _).mono ?_
    rintro e w1 ⟨rfl, hb1⟩
    go_wp2_with fail
    refine (HC.out _ (hr.below hb1)).mono ?_
    rintro e w2 ⟨rfl, rfl⟩
    go_wp2_with fail
    go_ret
    exact ⟨rfl, hb1⟩
end Go.Proofs.Ytdafkkhbfgpcoaa.huffFull
