/-
  The walk of the law HuffLeast: it returns true for every two lists.
-/
import Derived.Test.YtdafkkhbfgpcoaaHfLaw
namespace Go.Proofs.Ytdafkkhbfgpcoaa.huffLeast
open Go.RowKit Hf
set_option linter.unusedVariables false
set_option linter.unusedSimpArgs false

set_option maxHeartbeats 2000000 in
theorem walk (w : World) (A : Option Addr) (cap : Nat) (l : List Int) (s : l.length * 8 ≤ 140737488351232) (f : ∀ n ∈ l, -9223372036854775808 ≤ n ∧ n ≤ 9223372036854775807) (i : Reads w A l.length 1 (l.map (Value.int .i64)) ∧ l.length ≤ cap)
    (B : Option Addr) (cap2 : Nat) (m : List Int) (s2 : m.length * 8 ≤ 140737488351232) (f2 : ∀ n ∈ m, -9223372036854775808 ≤ n ∧ n ≤ 9223372036854775807) (i2 : Reads w B m.length 1 (m.map (Value.int .i64)) ∧ m.length ≤ cap2) :
    Calls Try.prog 3 #[.slice A l.length cap, .slice B m.length cap2] w fun e w' => e = .returned (.bool true) ∧ Below w.heap.size w w' := by
  obtain ⟨hr, _⟩ := i
  obtain ⟨hr2, _⟩ := i2
  clear f f2
  have hm1 : l.length ≤ maxLen := by unfold maxLen; omega
  have hm2 : m.length ≤ maxLen := by unfold maxLen; omega
  by_cases hck : ck l = 0
  · obtain ⟨h1, h10, hb⟩ := ck_ok hck
    have HC := Lib.hid (fun w hr => cost_ok A cap l w hr hck)
    have HL := Lib.hid (fun w hr => lengths_any B cap2 m w hr hm2)
    have hcb := cost_bound hck
    have HLAW := Lib.hid (fun h1 h2 h3 => least_law (other := m) hck h1 h2 h3)
    have HB := Lib.hid hb
    have HT := Lib.hid (costI_take l m)
    generalize cost l = C at *
    clear hck hb
    by_cases hlen : m.length = l.length
    · have k1 : ((m.length : Int) != (l.length : Int)) = false := by rw [bne_eq_false_iff_eq]; omega
      by_cases hcl : ckL m = 0
      · obtain ⟨_, hmb⟩ := ckL_ok hcl
        have HR := Lib.hid (fun w hr => room_any B cap2 m w hr (by omega) hmb)
        have HMB := Lib.hid hmb
        have HLN := Lib.hid hlen
        rw [hcl] at HL
        have HLAW2 := Lib.hid (fun h => HLAW.out hlen hcl h)
        have hrl := roomOf_le (l := m) (fun x hx => (hmb x hx).1)
        generalize roomOf m = R at *
        clear hcl HLAW hmb hlen
        by_cases hR : R ≤ 4096
        · have HLE := Lib.hid (HLAW2.out hR)
          have k2 : ¬ ((4096 : Int) < (R : Int)) := by omega
          go_enter Try.func3, Try.ntmps3
          go_wp2_with fail
          refine (fact_any _).mono ?_
          rintro e w1 ⟨rfl, hb1⟩
          go_wp2_with fail
          refine (HC.out _ (hr.below hb1)).mono ?_
          rintro e w2 ⟨rfl, hb2'⟩
          have hb2 := bnext hb1 hb2'
          clear hb1 hb2'
          go_wp2_with fail
          refine (HL.out _ (hr2.below hb2)).mono ?_
          rintro e w3 ⟨rfl, rfl⟩
          go_wp2_with fail
          refine (HR.out _ (hr2.below hb2)).mono ?_
          rintro e w4 ⟨rfl, rfl⟩
          go_wp2_with fail
          go_loopw [8, 9, 35, 36, 37, 38, 39, 40, 41, 42, 43, 44, 45, 46, 47, 48, 49, 50, 51] (fun sv kv _ _ _ _ _ _ _ _ _ _ _ _ _ _ _ _ _ wr => ∃ k : Nat, k ≤ l.length ∧ kv = .int .i64 (k : Int) ∧ (∃ s : Int, sv = .int .i64 s ∧ Hid (s = costI (l.take k) (m.take k)) ∧ 0 ≤ s ∧ s ≤ k * 12000) ∧ Below w.heap.size w wr) (fun _ k _ _ _ _ _ _ _ _ _ _ _ _ _ _ _ _ _ _ => l.length - (intOf k).toNat)
          case atStart => exact ⟨0, Nat.zero_le _, rfl, ⟨0, rfl, Lib.hid (by simp [costI]), by omega, by omega⟩, hb2⟩
          case round =>
            clear hb2
            obtain ⟨k, hk, rfl, ⟨s, rfl, HS, hs0, hs1⟩, hbel⟩ := hrel
            by_cases hlt : k < l.length
            · obtain ⟨b, o, rfl, hbl, hc⟩ := (hr.below hbel).2 (by omega)
              obtain ⟨b', o', rfl, hbl', hc'⟩ := (hr2.below hbel).2 (by rw [HLN.out]; omega)
              obtain ⟨x, hx⟩ : ∃ x, l[k]? = some x := ⟨_, List.getElem?_eq_getElem hlt⟩
              obtain ⟨y, hy⟩ : ∃ y, m[k]? = some y := ⟨_, List.getElem?_eq_getElem (by rw [HLN.out]; exact hlt)⟩
              have c0 := hc k (.int .i64 x) (by rw [List.getElem?_map, hx]; rfl)
              have c1 := hc' k (.int .i64 y) (by rw [List.getElem?_map, hy]; rfl)
              have hxb := HB.out x (List.mem_of_getElem? hx)
              have hyb := HMB.out y (List.mem_of_getElem? hy)
              have hm : 0 ≤ x * y ∧ x * y ≤ 1000 * 12 := ⟨Int.mul_nonneg hxb.1 (by omega), Int.mul_le_mul hxb.2 hyb.2 (by omega) (by omega)⟩
              have ht := Lib.hid (HT.out k x y hx hy)
              have kk : (k : Int) < (l.length : Int) := by omega
              have kk2 : (k : Int) < (m.length : Int) := by have := HLN.out; omega
              clear hc hc' hx hy hxb hyb
              generalize hmg : x * y = mm at hm ht
              have wr1 : IntKind.i64.wrap (x * y) = mm := by rw [hmg]; exact IntWalk.i64_in _ (by omega)
              have wr2 : IntKind.i64.wrap (s + mm) = s + mm := IntWalk.i64_in _ (by omega)
              clear hmg
              go_wp2
              go_quiet (fail)
              go_wp2
              refine ⟨⟨k + 1, by omega, by go_num, ⟨s + mm, rfl, Lib.hid (by rw [ht.out, HS.out]), by omega, by omega⟩, bdrew hbel _⟩, by simp [intOf]; omega⟩
            · obtain rfl : k = l.length := by omega
              have he := HS.out
              rw [List.take_length, List.take_of_length_le (by rw [HLN.out]; exact Nat.le_refl _)] at he
              have hle := HLE.out
              rw [← he] at hle
              have kk : ¬ ((l.length : Int) < (l.length : Int)) := by omega
              clear HS he
              by_cases h2 : l.length < 2
              · have k5 : (l.length : Int) < 2 := by omega
                go_wp2_with fail
                go_ret
                exact ⟨rfl, hbel⟩
              · have k5 : ¬ (l.length : Int) < 2 := by omega
                go_wp2_with fail
                go_ret
                exact ⟨rfl, hbel⟩
        · have k2 : ((4096 : Int) < (R : Int)) := by omega
          go_enter Try.func3, Try.ntmps3
          go_wp2_with fail
          refine (fact_any _).mono ?_
          rintro e w1 ⟨rfl, hb1⟩
          go_wp2_with fail
          refine (HC.out _ (hr.below hb1)).mono ?_
          rintro e w2 ⟨rfl, hb2'⟩
          have hb2 := bnext hb1 hb2'
          clear hb1 hb2'
          go_wp2_with fail
          refine (HL.out _ (hr2.below hb2)).mono ?_
          rintro e w3 ⟨rfl, rfl⟩
          go_wp2_with fail
          refine (HR.out _ (hr2.below hb2)).mono ?_
          rintro e w4 ⟨rfl, rfl⟩
          go_wp2_with fail
          go_ret
          exact ⟨rfl, hb2⟩
      · generalize ckL m = E at *
        have k2 : (E != 0) = true := by rw [bne_iff_ne]; exact hcl
        have k3 : (E == 0) = false := by rw [beq_eq_false_iff_ne]; exact hcl
        clear hcl HLAW hlen
        go_enter Try.func3, Try.ntmps3
        go_wp2_with fail
        refine (fact_any _).mono ?_
        rintro e w1 ⟨rfl, hb1⟩
        go_wp2_with fail
        refine (HC.out _ (hr.below hb1)).mono ?_
        rintro e w2 ⟨rfl, hb2'⟩
        have hb2 := bnext hb1 hb2'
        clear hb1 hb2'
        go_wp2_with fail
        refine (HL.out _ (hr2.below hb2)).mono ?_
        rintro e w3 ⟨rfl, rfl⟩
        go_wp2_with fail
        go_ret
        exact ⟨rfl, hb2⟩
    · have k1 : ((m.length : Int) != (l.length : Int)) = true := by rw [bne_iff_ne]; omega
      have k3 : ((m.length : Int) == (l.length : Int)) = false := by rw [beq_eq_false_iff_ne]; omega
      have k4 : (m.length == l.length) = false := by rw [beq_eq_false_iff_ne]; omega
      go_enter Try.func3, Try.ntmps3
      go_wp2_with fail
      refine (fact_any _).mono ?_
      rintro e w1 ⟨rfl, hb1⟩
      go_wp2_with fail
      refine (HC.out _ (hr.below hb1)).mono ?_
      rintro e w2 ⟨rfl, hb2'⟩
      have hb2 := bnext hb1 hb2'
      clear hb1 hb2'
      go_wp2_with fail
      go_ret
      exact ⟨rfl, hb2⟩
  · have HC := Lib.hid (fun w hr => cost_no A cap l w hr hm1 hck)
    generalize ck l = E at *
    go_enter Try.func3, Try.ntmps3
    go_wp2_with fail
    refine (fact_any _).mono ?_
    rintro e w1 ⟨rfl, hb1⟩
    go_wp2_with fail
    refine (HC.out _ (hr.below hb1)).mono ?_
    rintro e w2 ⟨rfl, rfl⟩
    go_wp2_with fail
    go_ret
    exact ⟨rfl, hb1⟩
end Go.Proofs.Ytdafkkhbfgpcoaa.huffLeast
