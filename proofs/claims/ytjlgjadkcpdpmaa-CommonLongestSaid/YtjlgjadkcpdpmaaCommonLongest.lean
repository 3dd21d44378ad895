/-
  The walk of the law CommonLongest: it returns true for every three texts.
-/
import Derived.Test.YtjlgjadkcpdpmaaCoLaw
namespace Go.Proofs.Ytjlgjadkcpdpmaa.Co
open Go.RowKit
set_option linter.unusedVariables false

theorem bs_mk (g : List UInt8) : bs ⟨g.toArray⟩ = g := by simp [bs]
theorem size_mk' (g : List UInt8) : (⟨g.toArray⟩ : ByteArray).size = g.length := by simp [ByteArray.size]

set_option maxHeartbeats 4000000 in
theorem walkLongest (w : World) (a0 : ByteArray) (s0 : a0.size ≤ 140737488351232) (a1 : ByteArray) (s1 : a1.size ≤ 140737488351232) (a2 : ByteArray) (s2 : a2.size ≤ 140737488351232) :
    Calls Try.prog 3 #[.string a0, .string a1, .string a2] w fun e w' => e = .returned (.bool true) ∧ Below w.heap.size w w' := by
  by_cases hab : a0.size ≤ 24 ∧ a1.size ≤ 24
  · obtain ⟨h0, h1⟩ := hab
    go_enter Try.func3, Try.ntmps3
    go_wp2_with fail
    refine (fact_any _).mono ?_
    rintro e w1 ⟨rfl, hb1⟩
    go_wp2_with fail
    refine (of_ok a0 a1 _ h0 h1).mono ?_
    rintro e w2 ⟨g, rfl, hleast, hb2⟩
    obtain ⟨k1, k2, k3⟩ := hleast.sub
    have hge : ∀ c : ByteArray, wi c a0 = true → wi c a1 = true → c.size ≤ g.length := fun c c1 c2 => by
      rw [k3, ← bs_length]
      exact lcs_ge ((wi_iff _ _).1 c1) ((wi_iff _ _).1 c2)
    have hg24 : g.length ≤ 24 := by have := k1.length_le; rw [bs_length] at this; omega
    obtain ⟨s, hs⟩ : ∃ s : ByteArray, s = ⟨g.toArray⟩ := ⟨_, rfl⟩
    have hbs : bs s = g := by rw [hs, bs_mk]
    have hsz : s.size = g.length := by rw [hs, size_mk']
    rw [← hs]
    have hbef : ∀ c : ByteArray, wi c a0 = true → wi c a1 = true → c.size = s.size → before (bs c) (bs s) = false := fun c c1 c2 c3 => by
      rw [hbs]
      exact hleast.before ((wi_iff _ _).1 c1) ((wi_iff _ _).1 c2) (by rw [bs_length, c3, hsz])
    rw [← hsz] at hge hg24
    have W1 := fun w => within_wi s a0 w hg24 h0
    have W2 := fun w => within_wi s a1 w hg24 h1
    rw [(wi_iff s a0).2 (by rw [hbs]; exact k1)] at W1
    rw [(wi_iff s a1).2 (by rw [hbs]; exact k2)] at W2
    have L := fun w => long_ok a0 a1 w h0 h1
    rw [← k3, ← hsz] at L
    have HW1 := Lib.hid W1
    have HW2 := Lib.hid W2
    have HLg := Lib.hid L
    have HBEF := Lib.hid hbef
    have HGE := Lib.hid hge
    clear W1 W2 L hbef hge hs hbs hsz k1 k2 k3 hleast
    clear g
    go_wp2_with fail
    refine (HW1.out _).mono ?_
    rintro e w3 ⟨rfl, hb3⟩
    go_wp2_with fail
    refine (HW2.out _).mono ?_
    rintro e w4 ⟨rfl, hb4⟩
    go_wp2_with fail
    refine (HLg.out _).mono ?_
    rintro e w5 ⟨rfl, hb5⟩
    have hb := bnext (bnext (bnext (bnext hb1 hb2) hb3) hb4) hb5
    clear hb1 hb2 hb3 hb4 hb5 HW1 HW2 HLg
    by_cases h2 : a2.size ≤ 24
    · have C1 := Lib.hid (fun w => within_wi a2 a0 w h2 h0)
      have C2 := Lib.hid (fun w => within_wi a2 a1 w h2 h1)
      have hge := HGE.out a2
      have hbef := HBEF.out a2
      have HB := Lib.hid (fun w => before_any a2 s w s2 (by omega))
      clear HGE HBEF
      generalize wi a2 a0 = X at *
      generalize wi a2 a1 = Y at *
      generalize before (bs a2) (bs s) = Z at *
      cases X <;> cases Y
      case true.true =>
        have hle := hge rfl rfl
        clear hge
        by_cases heq : a2.size = s.size
        · have hz := hbef rfl rfl heq
          subst hz
          clear hbef
          have e1 : ((a2.size : Int) == (s.size : Int)) = true := by rw [beq_iff_eq]; omega
          have e2 : decide (a2.size < s.size) = false := decide_eq_false (by omega)
          have e3 : (a2.size == s.size) = true := by rw [beq_iff_eq]; omega
          clear heq
          go_wp2_with fail
          refine (C1.out _).mono ?_
          rintro e w6 ⟨rfl, hb6⟩
          go_wp2_with fail
          refine (C2.out _).mono ?_
          rintro e w7 ⟨rfl, hb7⟩
          go_wp2_with fail
          refine (HB.out _).mono ?_
          rintro e w8 ⟨rfl, hb8⟩
          go_wp2_with fail
          go_ret
          exact ⟨rfl, bnext (bnext (bnext hb hb6) hb7) hb8⟩
        · have hlt : a2.size < s.size := by omega
          clear hbef heq
          go_wp2_with fail
          refine (C1.out _).mono ?_
          rintro e w6 ⟨rfl, hb6⟩
          go_wp2_with fail
          refine (C2.out _).mono ?_
          rintro e w7 ⟨rfl, hb7⟩
          go_wp2_with fail
          go_ret
          exact ⟨by first | rfl | exact ret_bool (by simp; try omega), bnext (bnext hb hb6) hb7⟩
      all_goals
        clear hge hbef
        go_wp2_with fail
        refine (C1.out _).mono ?_
        rintro e w6 ⟨rfl, hb6⟩
        go_wp2_with fail
        refine (C2.out _).mono ?_
        rintro e w7 ⟨rfl, hb7⟩
        go_wp2_with fail
        go_ret
        exact ⟨rfl, bnext (bnext hb hb6) hb7⟩
    · clear HBEF HGE
      go_wp2_with fail
      refine (within_no a2 a0 _ (by omega)).mono ?_
      rintro e w6 ⟨rfl, hb6⟩
      go_wp2_with fail
      refine (within_no a2 a1 _ (by omega)).mono ?_
      rintro e w7 ⟨rfl, hb7⟩
      go_wp2_with fail
      go_ret
      exact ⟨by first | rfl | exact ret_bool (by simp; try omega), bnext (bnext hb hb6) hb7⟩
  · go_enter Try.func3, Try.ntmps3
    go_wp2_with fail
    refine (fact_any _).mono ?_
    rintro e w1 ⟨rfl, hb1⟩
    go_wp2_with fail
    refine (of_no a0 a1 _ hab).mono ?_
    rintro e w2 ⟨rfl, hb2⟩
    go_wp2_with fail
    go_ret
    exact ⟨by first | rfl | exact ret_bool (by simp), bnext hb1 hb2⟩
end Go.Proofs.Ytjlgjadkcpdpmaa.Co
namespace Go.Proofs.Ytjlgjadkcpdpmaa.commonLongest
abbrev walk := @Co.walkLongest
end Go.Proofs.Ytjlgjadkcpdpmaa.commonLongest
