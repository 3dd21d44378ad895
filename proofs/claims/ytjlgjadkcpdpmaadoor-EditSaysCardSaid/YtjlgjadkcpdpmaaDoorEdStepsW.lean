/-
  The loop of edit.Steps.
-/
import Derived.Test.YtjlgjadkcpdpmaaDoorEdSteps
namespace Go.Proofs.YtjlgjadkcpdpmaaDoor.Ed
open Go.RowKit
set_option linter.unusedVariables false

def strLen : Value → Nat
  | .string s => s.size
  | _ => 0

/-- what holds at the head of a round: K is the builder's block, X the number's -/
structure SRel (w wr : World) (K X : Nat) (u v : ByteArray) (all : List UInt8) : Prop where
  left : wr.cell? ⟨X, 0, none⟩ = some (.int .i64 (lev (bs u) (bs v) : Int))
  free : wr.frozen? ⟨X, 0, none⟩ = false
  out : ∃ o, Sb.Is wr (X + 1) K o ∧ o ++ steps (bs u) (bs v) = all
  size : X + 1 ≤ wr.heap.size
  below : Below w.heap.size w wr
  us : u.size ≤ 24
  vs : v.size ≤ 24

theorem SRel.drew {w wr : World} {K X : Nat} {u v : ByteArray} {all : List UInt8} (h : SRel w wr K X u v all) : SRel w wr.drew K X u v all := ⟨h.left, h.free, h.out, h.size, h.below.drew, h.us, h.vs⟩
theorem SRel.stay {w w4 w5 : World} {K X : Nat} {u v u' v' : ByteArray} {all o : List UInt8} {c : UInt8} (hIs : Sb.Is w5 (X + 1) K (o ++ [c])) (hall : o ++ steps (bs u) (bs v) = all) (hst : steps (bs u) (bs v) = c :: steps (bs u') (bs v'))
    (hbut : Sb.But (X + 1) K w4 w5) (hbel : Below w.heap.size w w4) (hsz : X + 1 ≤ w4.heap.size) (hK : w.heap.size ≤ K) (hKX : K < X) (hfree : w4.frozen? ⟨X, 0, none⟩ = false) (hcell : w4.cell? ⟨X, 0, none⟩ = some (.int .i64 (lev (bs u) (bs v) : Int)))
    (hn : lev (bs u') (bs v') = lev (bs u) (bs v)) (hu : u'.size ≤ 24) (hv : v'.size ≤ 24) : SRel w w5 K X u' v' all := by
  have h1 : w5.cell? ⟨X, 0, none⟩ = some (.int .i64 (lev (bs u) (bs v) : Int)) := (hbut.cell (p := ⟨X, 0, none⟩) (Nat.lt_succ_self X) (by show X ≠ _; omega)).trans hcell
  have h2 : w5.frozen? ⟨X, 0, none⟩ = false := (hbut.frozen (p := ⟨X, 0, none⟩) (Nat.lt_succ_self X) (by show X ≠ _; omega)).trans hfree
  refine ⟨by rw [hn]; exact h1, h2, ⟨o ++ [c], hIs, by rw [← hall, hst]; simp⟩, ?_, hbel.trans (hbut.below (by omega) hK), hu, hv⟩
  have := hbut.size
  omega
theorem SRel.store {w w4 w5 : World} {K X : Nat} {u v u' v' : ByteArray} {all o : List UInt8} {c : UInt8} (hIs : Sb.Is w5 (X + 1) K (o ++ [c])) (hall : o ++ steps (bs u) (bs v) = all) (hst : steps (bs u) (bs v) = c :: steps (bs u') (bs v'))
    (hbut : Sb.But (X + 1) K w4 w5) (hbel : Below w.heap.size w w4) (hsz : X + 1 ≤ w4.heap.size) (hK : w.heap.size ≤ K) (hKX : K < X) (hfree : w4.frozen? ⟨X, 0, none⟩ = false) {y : Value} (hcell : w4.cell? ⟨X, 0, none⟩ = some y) {n : Int}
    (hn : n = (lev (bs u') (bs v') : Int)) (hu : u'.size ≤ 24) (hv : v'.size ≤ 24) : SRel w (w5.setCell ⟨X, 0, none⟩ (.int .i64 n)) K X u' v' all := by
  subst hn
  have h1 : w5.cell? ⟨X, 0, none⟩ = some y := (hbut.cell (p := ⟨X, 0, none⟩) (Nat.lt_succ_self X) (by show X ≠ _; omega)).trans hcell
  have h2 : w5.frozen? ⟨X, 0, none⟩ = false := (hbut.frozen (p := ⟨X, 0, none⟩) (Nat.lt_succ_self X) (by show X ≠ _; omega)).trans hfree
  refine ⟨World.cell?_setCell_same _ _ _ h1, by simpa using h2, ⟨o ++ [c], hIs.setCell (by show K ≠ X; omega) (Nat.lt_succ_self X) _, by rw [← hall, hst]; simp⟩, ?_, ?_, hu, hv⟩
  · have := hbut.size; simp [World.setCell]; omega
  · exact (hbel.trans (hbut.below (by omega) hK)).setCell (by show w.heap.size ≤ X; omega) _
set_option maxHeartbeats 4000000 in
set_option maxRecDepth 100000 in
theorem steps_ok (s t : ByteArray) (w : World) (hs : s.size ≤ 24) (ht : t.size ≤ 24) :
    Calls Tryd.prog 15 #[.string s, .string t] w fun e w' => e = .returned (.tuple #[.string ⟨(steps (bs s) (bs t)).toArray⟩, .nilIface]) ∧ Below w.heap.size w w' := by
  go_enter Tryd.func15, Tryd.ntmps15
  go_wp2_with (go_at_call 17; refine (long2_ok s t w.heap.size 24 _ (by simp) (by simp) (by omega) (by omega)).mono ?_; rintro e w' ⟨rfl, rfl⟩)
  refine (far_ok s t _ hs ht).mono ?_
  rintro e w1 ⟨rfl, hb1⟩
  go_wp2_with fail
  have hstart : SRel w (w1.alloc (.cells #[.int .i64 (lev s.data.toList t.data.toList : Int)] 3)) (w.heap.size + 1) w1.heap.size s t (steps (bs s) (bs t)) := by
    have h1 := hb1.size
    simp at h1
    have hI := Sb.Is.new (w.alloc (.cells #[.string s, .string t] 9)) (w1.heap.size + 1)
    rw [World.size_alloc] at hI
    exact ⟨by simp [bs], by simp, ⟨[], (hI.below hb1 (Nat.le_refl _)).alloc _, rfl⟩, by simp, bmore (bnext (bnext (bnew _ _) (bnew _ _)) hb1) _, hs, ht⟩
  have hX : w.heap.size + 1 < w1.heap.size := by have := hb1.size; simp at this; omega
  have HS := Lib.hid hstart
  clear hstart hb1
  obtain ⟨all, hall0⟩ : ∃ all, all = steps (bs s) (bs t) := ⟨_, rfl⟩
  rw [← hall0] at HS
  have HALL := Lib.hid hall0
  have hlen0 : all.length ≤ 48 := by rw [hall0]; exact Nat.le_trans (steps_length _ _ _ (Nat.le_refl _)) (by rw [bs_length, bs_length]; omega)
  clear hall0
  clear hs ht
  generalize w1.heap.size = X at *
  generalize lev s.data.toList t.data.toList = d0 at *
  go_loopw [0, 1] (fun a b wr => ∃ u v : ByteArray, a = .string u ∧ b = .string v ∧ SRel w wr (w.heap.size + 1) X u v all) (fun a b _ => strLen a + strLen b)
  case atStart => exact ⟨s, t, rfl, rfl, HS.out⟩
  case round =>
    clear HS
    obtain ⟨u, v, rfl, rfl, hrel⟩ := hrel
    obtain ⟨hleft, hfree, ⟨o, hIs, hall⟩, hsz, hbel, hu, hv⟩ := hrel
    have hol : o.length ≤ 48 := by have := congrArg List.length hall; simp at this; omega
    have HA := Lib.hid hall; clear hall
    have HI := Lib.hid hIs; clear hIs
    have hlb : ((lev (bs u) (bs v) : Nat) : Int) ≤ 24 := by
      have := lev_high (bs u) (bs v)
      rw [bs_length, bs_length] at this
      omega
    have ltl := Lib.toList_data u
    have ltl2 := Lib.toList_data v
    rcases hbu : bs u with _ | ⟨x, a⟩
    · have hue : u.toList.isEmpty = true := by rw [ltl]; show (bs u).isEmpty = true; rw [hbu]; rfl
      rcases hbv : bs v with _ | ⟨y, b⟩
      · have hve : v.toList.isEmpty = true := by rw [ltl2]; show (bs v).isEmpty = true; rw [hbv]; rfl
        have HN := Lib.hid (show steps (bs u) (bs v) = [] by rw [hbu, hbv]; rfl)
        clear ltl ltl2 hbu hbv
        go_wp2_with (go_at_call 23; refine (Sb.string_any _ (X + 1) (w.heap.size + 1) o HI.out (by omega) hsz).mono ?_; rintro e w5 ⟨rfl, hbut⟩)
        go_ret2
        have ho : o = all := by have := HA.out; rwa [HN.out, List.append_nil] at this
        rw [ho, ← HALL.out]
        exact ⟨rfl, hbel.trans (hbut.below (by omega) (by omega))⟩
      · have hve : v.toList.isEmpty = false := by rw [ltl2]; show (bs v).isEmpty = false; rw [hbv]; rfl
        have hv1 : 1 ≤ v.size := by rw [← bs_length, hbv]; simp
        have HB1 := Lib.hid (show (lev (bs u) (bs (v.extract 1 v.size)) + 1 == lev (bs u) (bs v)) = true by rw [bs_tail, hbu, hbv]; simp [lev_nil])
        have HST := Lib.hid (show steps (bs u) (bs v) = 43 :: steps (bs u) (bs (v.extract 1 v.size)) by
          rw [steps_unfold _ _ (by rw [hbv]; simp), bs_tail, hbu, hbv]; simp [subOk, insOk, lev_nil])
        have HLV := Lib.hid (show (lev (bs u) (bs v) : Int) - 1 = (lev (bs u) (bs (v.extract 1 v.size)) : Int) by rw [bs_tail, hbu, hbv]; simp [lev_nil])
        clear ltl ltl2 hbu hbv
        go_wp2
        go_quiet (fail)
        have HIq := Lib.hid (HI.out.drewN nq)
        have hsq : X + 1 ≤ (wr.drewN nq).heap.size := hsz
        have hleftq : (wr.drewN nq).cell? ⟨X, 0, none⟩ = some (.int .i64 (lev (bs u) (bs v) : Int)) := hleft
        have hfreeq : (wr.drewN nq).frozen? ⟨X, 0, none⟩ = false := hfree
        have hbelq : Below w.heap.size w (wr.drewN nq) := bdrew hbel _
        go_wp2_with fail
        refine (can_is u (v.extract 1 v.size) X (lev (bs u) (bs v)) true _ (by first | exact hu | (simp; omega)) (by first | exact hv | (simp; omega)) (by exact hleftq) (by exact hsq) HB1.out).mono ?_
        rintro e w4 ⟨rfl, hb4⟩
        have hI4 := (HIq.out).below hb4 (by first | exact Nat.le_refl _ | simp)
        have hs4 : X + 1 ≤ w4.heap.size := Nat.le_trans hsq hb4.size
        have hleft4 : w4.cell? ⟨X, 0, none⟩ = some (.int .i64 (lev (bs u) (bs v) : Int)) := (hb4.cell (p := ⟨X, 0, none⟩) hsq).trans hleftq
        have hfree4 : w4.frozen? ⟨X, 0, none⟩ = false := (hb4.frozen (p := ⟨X, 0, none⟩) hsq).trans hfreeq
        have hbel4 : Below w.heap.size w w4 := hbelq.trans (hb4.mono (Nat.le_trans hbelq.size (Nat.le_refl _)))
        have HI4 := Lib.hid hI4
        clear hI4
        go_wp2_with fail
        refine (Sb.write_byte _ (X + 1) (w.heap.size + 1) o 43 _ rfl HI4.out (by omega) hs4 (by omega)).mono ?_
        rintro e w9 ⟨rfl, hIs9', hbut⟩
        have hleft9 : w9.cell? ⟨X, 0, none⟩ = some (.int .i64 (lev (bs u) (bs v) : Int)) := (hbut.cell (p := ⟨X, 0, none⟩) (Nat.lt_succ_self X) (by show X ≠ _; omega)).trans hleft4
        have hfree9 : w9.frozen? ⟨X, 0, none⟩ = false := (hbut.frozen (p := ⟨X, 0, none⟩) (Nat.lt_succ_self X) (by show X ≠ _; omega)).trans hfree4
        have hIs9 := Lib.hid hIs9'
        clear hIs9'
        go_wp2_with fail
        go_region
        all_goals
          go_wp2
          go_roundw
          case rel => exact ⟨_, _, rfl, rfl, SRel.drew <| SRel.store hIs9.out HA.out HST.out hbut hbel4 hs4 (by omega) (by omega) hfree4 hleft4 HLV.out (by first | exact hu | (simp; omega)) (by first | exact hv | (simp; omega))⟩
          case measure => simp [strLen]; omega
    · have hue : u.toList.isEmpty = false := by rw [ltl]; show (bs u).isEmpty = false; rw [hbu]; rfl
      have hu1 : 1 ≤ u.size := by rw [← bs_length, hbu]; simp
      have hu0 : u[0] = x := by
        have := getD_byte u 0 (by omega)
        rw [← this]; show (bs u).getD 0 0 = x; rw [hbu]; rfl
      rcases hbv : bs v with _ | ⟨y, b⟩
      · have hve : v.toList.isEmpty = true := by rw [ltl2]; show (bs v).isEmpty = true; rw [hbv]; rfl
        have HB1 := Lib.hid (show (lev (bs (u.extract 1 u.size)) (bs v) + 1 == lev (bs u) (bs v)) = true by rw [bs_tail, hbu, hbv]; simp [lev_nil_right])
        have HST := Lib.hid (show steps (bs u) (bs v) = 45 :: steps (bs (u.extract 1 u.size)) (bs v) by
          rw [steps_unfold _ _ (by rw [hbu]; simp), bs_tail, hbu, hbv]; simp [subOk, insOk, delOk, lev_nil_right])
        have HLV := Lib.hid (show (lev (bs u) (bs v) : Int) - 1 = (lev (bs (u.extract 1 u.size)) (bs v) : Int) by rw [bs_tail, hbu, hbv]; simp [lev_nil_right])
        clear ltl ltl2 hbu hbv hu0
        go_wp2
        go_quiet (fail)
        have HIq := Lib.hid (HI.out.drewN nq)
        have hsq : X + 1 ≤ (wr.drewN nq).heap.size := hsz
        have hleftq : (wr.drewN nq).cell? ⟨X, 0, none⟩ = some (.int .i64 (lev (bs u) (bs v) : Int)) := hleft
        have hfreeq : (wr.drewN nq).frozen? ⟨X, 0, none⟩ = false := hfree
        have hbelq : Below w.heap.size w (wr.drewN nq) := bdrew hbel _
        go_wp2_with fail
        refine (can_is (u.extract 1 u.size) v X (lev (bs u) (bs v)) true _ (by first | exact hu | (simp; omega)) (by first | exact hv | (simp; omega)) (by exact hleftq) (by exact hsq) HB1.out).mono ?_
        rintro e w4 ⟨rfl, hb4⟩
        have hI4 := (HIq.out).below hb4 (by first | exact Nat.le_refl _ | simp)
        have hs4 : X + 1 ≤ w4.heap.size := Nat.le_trans hsq hb4.size
        have hleft4 : w4.cell? ⟨X, 0, none⟩ = some (.int .i64 (lev (bs u) (bs v) : Int)) := (hb4.cell (p := ⟨X, 0, none⟩) hsq).trans hleftq
        have hfree4 : w4.frozen? ⟨X, 0, none⟩ = false := (hb4.frozen (p := ⟨X, 0, none⟩) hsq).trans hfreeq
        have hbel4 : Below w.heap.size w w4 := hbelq.trans (hb4.mono (Nat.le_trans hbelq.size (Nat.le_refl _)))
        have HI4 := Lib.hid hI4
        clear hI4
        go_wp2_with fail
        refine (Sb.write_byte _ (X + 1) (w.heap.size + 1) o 45 _ rfl HI4.out (by omega) hs4 (by omega)).mono ?_
        rintro e w9 ⟨rfl, hIs9', hbut⟩
        have hleft9 : w9.cell? ⟨X, 0, none⟩ = some (.int .i64 (lev (bs u) (bs v) : Int)) := (hbut.cell (p := ⟨X, 0, none⟩) (Nat.lt_succ_self X) (by show X ≠ _; omega)).trans hleft4
        have hfree9 : w9.frozen? ⟨X, 0, none⟩ = false := (hbut.frozen (p := ⟨X, 0, none⟩) (Nat.lt_succ_self X) (by show X ≠ _; omega)).trans hfree4
        have hIs9 := Lib.hid hIs9'
        clear hIs9'
        go_wp2_with fail
        go_region
        all_goals
          go_wp2
          go_roundw
          case rel => exact ⟨_, _, rfl, rfl, SRel.drew <| SRel.store hIs9.out HA.out HST.out hbut hbel4 hs4 (by omega) (by omega) hfree4 hleft4 HLV.out (by first | exact hu | (simp; omega)) (by first | exact hv | (simp; omega))⟩
          case measure => simp [strLen]; omega
      · have hve : v.toList.isEmpty = false := by rw [ltl2]; show (bs v).isEmpty = false; rw [hbv]; rfl
        have hv1 : 1 ≤ v.size := by rw [← bs_length, hbv]; simp
        have hv0 : v[0] = y := by
          have := getD_byte v 0 (by omega)
          rw [← this]; show (bs v).getD 0 0 = y; rw [hbv]; rfl
        have hne : ¬ (bs u = [] ∧ bs v = []) := by rw [hbu]; simp
        have hun := steps_unfold _ _ hne
        have hbu' : bs (u.extract 1 u.size) = a := by rw [bs_tail, hbu]; rfl
        have hbv' : bs (v.extract 1 v.size) = b := by rw [bs_tail, hbv]; rfl
        have hin : insOk (bs u) (bs v) = (lev (bs u) (bs (v.extract 1 v.size)) + 1 == lev (bs u) (bs v)) := by rw [hbv', hbu, hbv]; rfl
        have hde : delOk (bs u) (bs v) = (lev (bs (u.extract 1 u.size)) (bs v) + 1 == lev (bs u) (bs v)) := by rw [hbu', hbu, hbv]; rfl
        have ht1 : (bs u).tail = bs (u.extract 1 u.size) := (bs_tail u).symm
        have ht2 : (bs v).tail = bs (v.extract 1 v.size) := (bs_tail v).symm
        rw [ht1, ht2] at hun
        clear ltl ltl2
        by_cases he : x = y
        · have hsub : subOk (bs u) (bs v) = false := by rw [hbu, hbv]; simp [subOk, he]
          have hq : ((u[0].toNat : Int) != (v[0].toNat : Int)) = false := by rw [hu0, hv0, he]; simp
          have hst0 : lev (bs (u.extract 1 u.size)) (bs (v.extract 1 v.size)) = lev (bs u) (bs v) := by rw [hbu', hbv', hbu, hbv, he, lev_same]
          rw [hsub, if_neg (by simp)] at hun
          have HQ0 := Lib.hid hst0
          have g1 : 0 < u.size := by omega
          have g2 : 0 < v.size := by omega
          have g3 : (0 : Int) < (u.size : Int) := by omega
          have g4 : (0 : Int) < (v.size : Int) := by omega
          clear hu0 hv0 hsub he hbu hbv hbu' hbv' hst0 ht1 ht2 hne
          cases hin1 : insOk (bs u) (bs v)
          · rw [hin1, if_neg (by simp)] at hun
            rw [hin1] at hin
            have HB1 := Lib.hid hin.symm
            cases hde1 : delOk (bs u) (bs v)
            · rw [hde1, if_neg (by simp)] at hun
              rw [hde1] at hde
              have HB2 := Lib.hid hde.symm
              have HST := Lib.hid hun
              have HLV := HQ0
              clear hun hin hde hin1 hde1 HQ0
              go_wp2
              go_quiet (fail)
              have HIq := Lib.hid (HI.out.drewN nq)
              have hsq : X + 1 ≤ (wr.drewN nq).heap.size := hsz
              have hleftq : (wr.drewN nq).cell? ⟨X, 0, none⟩ = some (.int .i64 (lev (bs u) (bs v) : Int)) := hleft
              have hfreeq : (wr.drewN nq).frozen? ⟨X, 0, none⟩ = false := hfree
              have hbelq : Below w.heap.size w (wr.drewN nq) := bdrew hbel _
              go_wp2_with fail
              refine (can_is u (v.extract 1 v.size) X (lev (bs u) (bs v)) false _ (by first | exact hu | (simp; omega)) (by first | exact hv | (simp; omega)) (by exact hleftq) (by exact hsq) HB1.out).mono ?_
              rintro e w4 ⟨rfl, hb4⟩
              have hI4 := (HIq.out).below hb4 (by first | exact Nat.le_refl _ | simp)
              have hs4 : X + 1 ≤ w4.heap.size := Nat.le_trans hsq hb4.size
              have hleft4 : w4.cell? ⟨X, 0, none⟩ = some (.int .i64 (lev (bs u) (bs v) : Int)) := (hb4.cell (p := ⟨X, 0, none⟩) hsq).trans hleftq
              have hfree4 : w4.frozen? ⟨X, 0, none⟩ = false := (hb4.frozen (p := ⟨X, 0, none⟩) hsq).trans hfreeq
              have hbel4 : Below w.heap.size w w4 := hbelq.trans (hb4.mono (Nat.le_trans hbelq.size (Nat.le_refl _)))
              have HI4 := Lib.hid hI4
              clear hI4
              go_wp2_with fail
              refine (can_is (u.extract 1 u.size) v X (lev (bs u) (bs v)) false _ (by first | exact hu | (simp; omega)) (by first | exact hv | (simp; omega)) (by exact hleft4) (by exact hs4) HB2.out).mono ?_
              rintro e w6 ⟨rfl, hb6⟩
              have hI6 := (HI4.out).below hb6 (by first | exact Nat.le_refl _ | simp)
              have hs6 : X + 1 ≤ w6.heap.size := Nat.le_trans hs4 hb6.size
              have hleft6 : w6.cell? ⟨X, 0, none⟩ = some (.int .i64 (lev (bs u) (bs v) : Int)) := (hb6.cell (p := ⟨X, 0, none⟩) hs4).trans hleft4
              have hfree6 : w6.frozen? ⟨X, 0, none⟩ = false := (hb6.frozen (p := ⟨X, 0, none⟩) hs4).trans hfree4
              have hbel6 : Below w.heap.size w w6 := hbel4.trans (hb6.mono (Nat.le_trans hbel4.size (Nat.le_refl _)))
              have HI6 := Lib.hid hI6
              clear hI6
              go_wp2_with fail
              refine (Sb.write_byte _ (X + 1) (w.heap.size + 1) o 61 _ rfl HI6.out (by omega) hs6 (by omega)).mono ?_
              rintro e w9 ⟨rfl, hIs9', hbut⟩
              have hleft9 : w9.cell? ⟨X, 0, none⟩ = some (.int .i64 (lev (bs u) (bs v) : Int)) := (hbut.cell (p := ⟨X, 0, none⟩) (Nat.lt_succ_self X) (by show X ≠ _; omega)).trans hleft6
              have hfree9 : w9.frozen? ⟨X, 0, none⟩ = false := (hbut.frozen (p := ⟨X, 0, none⟩) (Nat.lt_succ_self X) (by show X ≠ _; omega)).trans hfree6
              have hIs9 := Lib.hid hIs9'
              clear hIs9'
              go_wp2_with fail
              go_region
              all_goals
                go_wp2
                go_roundw
                case rel => exact ⟨_, _, rfl, rfl, SRel.drew <| SRel.stay hIs9.out HA.out HST.out hbut hbel6 hs6 (by omega) (by omega) hfree6 hleft6 HLV.out (by first | exact hu | (simp; omega)) (by first | exact hv | (simp; omega))⟩
                case measure => simp [strLen]; omega
            · rw [hde1, if_pos rfl] at hun
              rw [hde1] at hde
              have HB2 := Lib.hid hde.symm
              have HLV := Lib.hid (show (lev (bs u) (bs v) : Int) - 1 = (lev (bs (u.extract 1 u.size)) (bs v) : Int) by have := beq_iff_eq.1 hde.symm; omega)
              have HST := Lib.hid hun
              clear hun hin hde hin1 hde1
              go_wp2
              go_quiet (fail)
              have HIq := Lib.hid (HI.out.drewN nq)
              have hsq : X + 1 ≤ (wr.drewN nq).heap.size := hsz
              have hleftq : (wr.drewN nq).cell? ⟨X, 0, none⟩ = some (.int .i64 (lev (bs u) (bs v) : Int)) := hleft
              have hfreeq : (wr.drewN nq).frozen? ⟨X, 0, none⟩ = false := hfree
              have hbelq : Below w.heap.size w (wr.drewN nq) := bdrew hbel _
              go_wp2_with fail
              refine (can_is u (v.extract 1 v.size) X (lev (bs u) (bs v)) false _ (by first | exact hu | (simp; omega)) (by first | exact hv | (simp; omega)) (by exact hleftq) (by exact hsq) HB1.out).mono ?_
              rintro e w4 ⟨rfl, hb4⟩
              have hI4 := (HIq.out).below hb4 (by first | exact Nat.le_refl _ | simp)
              have hs4 : X + 1 ≤ w4.heap.size := Nat.le_trans hsq hb4.size
              have hleft4 : w4.cell? ⟨X, 0, none⟩ = some (.int .i64 (lev (bs u) (bs v) : Int)) := (hb4.cell (p := ⟨X, 0, none⟩) hsq).trans hleftq
              have hfree4 : w4.frozen? ⟨X, 0, none⟩ = false := (hb4.frozen (p := ⟨X, 0, none⟩) hsq).trans hfreeq
              have hbel4 : Below w.heap.size w w4 := hbelq.trans (hb4.mono (Nat.le_trans hbelq.size (Nat.le_refl _)))
              have HI4 := Lib.hid hI4
              clear hI4
              go_wp2_with fail
              refine (can_is (u.extract 1 u.size) v X (lev (bs u) (bs v)) true _ (by first | exact hu | (simp; omega)) (by first | exact hv | (simp; omega)) (by exact hleft4) (by exact hs4) HB2.out).mono ?_
              rintro e w6 ⟨rfl, hb6⟩
              have hI6 := (HI4.out).below hb6 (by first | exact Nat.le_refl _ | simp)
              have hs6 : X + 1 ≤ w6.heap.size := Nat.le_trans hs4 hb6.size
              have hleft6 : w6.cell? ⟨X, 0, none⟩ = some (.int .i64 (lev (bs u) (bs v) : Int)) := (hb6.cell (p := ⟨X, 0, none⟩) hs4).trans hleft4
              have hfree6 : w6.frozen? ⟨X, 0, none⟩ = false := (hb6.frozen (p := ⟨X, 0, none⟩) hs4).trans hfree4
              have hbel6 : Below w.heap.size w w6 := hbel4.trans (hb6.mono (Nat.le_trans hbel4.size (Nat.le_refl _)))
              have HI6 := Lib.hid hI6
              clear hI6
              go_wp2_with fail
              refine (Sb.write_byte _ (X + 1) (w.heap.size + 1) o 45 _ rfl HI6.out (by omega) hs6 (by omega)).mono ?_
              rintro e w9 ⟨rfl, hIs9', hbut⟩
              have hleft9 : w9.cell? ⟨X, 0, none⟩ = some (.int .i64 (lev (bs u) (bs v) : Int)) := (hbut.cell (p := ⟨X, 0, none⟩) (Nat.lt_succ_self X) (by show X ≠ _; omega)).trans hleft6
              have hfree9 : w9.frozen? ⟨X, 0, none⟩ = false := (hbut.frozen (p := ⟨X, 0, none⟩) (Nat.lt_succ_self X) (by show X ≠ _; omega)).trans hfree6
              have hIs9 := Lib.hid hIs9'
              clear hIs9'
              go_wp2_with fail
              go_region
              all_goals
                go_wp2
                go_roundw
                case rel => exact ⟨_, _, rfl, rfl, SRel.drew <| SRel.store hIs9.out HA.out HST.out hbut hbel6 hs6 (by omega) (by omega) hfree6 hleft6 HLV.out (by first | exact hu | (simp; omega)) (by first | exact hv | (simp; omega))⟩
                case measure => simp [strLen]; omega
          · rw [hin1, if_pos rfl] at hun
            rw [hin1] at hin
            have HB1 := Lib.hid hin.symm
            have HLV := Lib.hid (show (lev (bs u) (bs v) : Int) - 1 = (lev (bs u) (bs (v.extract 1 v.size)) : Int) by have := beq_iff_eq.1 hin.symm; omega)
            have HST := Lib.hid hun
            clear hun hin hde hin1
            go_wp2
            go_quiet (fail)
            have HIq := Lib.hid (HI.out.drewN nq)
            have hsq : X + 1 ≤ (wr.drewN nq).heap.size := hsz
            have hleftq : (wr.drewN nq).cell? ⟨X, 0, none⟩ = some (.int .i64 (lev (bs u) (bs v) : Int)) := hleft
            have hfreeq : (wr.drewN nq).frozen? ⟨X, 0, none⟩ = false := hfree
            have hbelq : Below w.heap.size w (wr.drewN nq) := bdrew hbel _
            go_wp2_with fail
            refine (can_is u (v.extract 1 v.size) X (lev (bs u) (bs v)) true _ (by first | exact hu | (simp; omega)) (by first | exact hv | (simp; omega)) (by exact hleftq) (by exact hsq) HB1.out).mono ?_
            rintro e w4 ⟨rfl, hb4⟩
            have hI4 := (HIq.out).below hb4 (by first | exact Nat.le_refl _ | simp)
            have hs4 : X + 1 ≤ w4.heap.size := Nat.le_trans hsq hb4.size
            have hleft4 : w4.cell? ⟨X, 0, none⟩ = some (.int .i64 (lev (bs u) (bs v) : Int)) := (hb4.cell (p := ⟨X, 0, none⟩) hsq).trans hleftq
            have hfree4 : w4.frozen? ⟨X, 0, none⟩ = false := (hb4.frozen (p := ⟨X, 0, none⟩) hsq).trans hfreeq
            have hbel4 : Below w.heap.size w w4 := hbelq.trans (hb4.mono (Nat.le_trans hbelq.size (Nat.le_refl _)))
            have HI4 := Lib.hid hI4
            clear hI4
            go_wp2_with fail
            refine (Sb.write_byte _ (X + 1) (w.heap.size + 1) o 43 _ rfl HI4.out (by omega) hs4 (by omega)).mono ?_
            rintro e w9 ⟨rfl, hIs9', hbut⟩
            have hleft9 : w9.cell? ⟨X, 0, none⟩ = some (.int .i64 (lev (bs u) (bs v) : Int)) := (hbut.cell (p := ⟨X, 0, none⟩) (Nat.lt_succ_self X) (by show X ≠ _; omega)).trans hleft4
            have hfree9 : w9.frozen? ⟨X, 0, none⟩ = false := (hbut.frozen (p := ⟨X, 0, none⟩) (Nat.lt_succ_self X) (by show X ≠ _; omega)).trans hfree4
            have hIs9 := Lib.hid hIs9'
            clear hIs9'
            go_wp2_with fail
            go_region
            all_goals
              go_wp2
              go_roundw
              case rel => exact ⟨_, _, rfl, rfl, SRel.drew <| SRel.store hIs9.out HA.out HST.out hbut hbel4 hs4 (by omega) (by omega) hfree4 hleft4 HLV.out (by first | exact hu | (simp; omega)) (by first | exact hv | (simp; omega))⟩
              case measure => simp [strLen]; omega
        · have hqI : ((u[0].toNat : Int) != (v[0].toNat : Int)) = true := by
            rw [hu0, hv0, bne_iff_ne]; intro h; exact he (UInt8.toNat_inj.1 (by omega))
          have hsu : subOk (bs u) (bs v) = (lev (bs (u.extract 1 u.size)) (bs (v.extract 1 v.size)) + 1 == lev (bs u) (bs v)) := by
            rw [hbu', hbv', hbu, hbv]
            have e1 : (x != y) = true := by simpa using he
            simp only [subOk, e1, Bool.true_and]
          have HD : Hid (subOk (bs u) (bs v) = false → insOk (bs u) (bs v) = false → delOk (bs u) (bs v) = true) := Lib.hid fun h1 h2 => by
            cases h3 : delOk (bs u) (bs v)
            · obtain ⟨z, p, q, e1, e2⟩ := stay hne h1 h2 h3
              rw [hbu] at e1; rw [hbv] at e2
              injection e1 with e1 _; injection e2 with e2 _
              exact absurd (e1.trans e2.symm) he
            · rfl
          have g1 : 0 < u.size := by omega
          have g2 : 0 < v.size := by omega
          have g3 : (0 : Int) < (u.size : Int) := by omega
          have g4 : (0 : Int) < (v.size : Int) := by omega
          clear hu0 hv0 he hbu hbv hbu' hbv' ht1 ht2 hne
          have hs0 : X + 1 ≤ wr.heap.size := hsz
          have g5 : (1 : Int) ≤ (u.size : Int) := by omega
          have g6 : (1 : Int) ≤ (v.size : Int) := by omega
          cases hsub : subOk (bs u) (bs v)
          · rw [hsub, if_neg (by simp)] at hun
            rw [hsub] at hsu
            have HB0 := Lib.hid hsu.symm
            have HD1 := HD.out hsub
            clear HD
            cases hin1 : insOk (bs u) (bs v)
            · have hde1 := HD1 hin1
              rw [hin1, if_neg (by simp), hde1, if_pos rfl] at hun
              rw [hin1] at hin
              rw [hde1] at hde
              have HB1 := Lib.hid hin.symm
              have HB2 := Lib.hid hde.symm
              have HLV := Lib.hid (show (lev (bs u) (bs v) : Int) - 1 = (lev (bs (u.extract 1 u.size)) (bs v) : Int) by have := beq_iff_eq.1 hde.symm; omega)
              have HST := Lib.hid hun
              clear hun hin hde hin1 hde1 HD1 hsub hsu
              go_wp2
              go_region_held3 (fun w' => w'.cell? ⟨X, 0, none⟩ = some (.int .i64 (lev (bs u) (bs v) : Int)) ∧ X + 1 ≤ w'.heap.size) (first | exact ⟨hleft, hs0⟩ | exact ⟨hleft3, hs3⟩) ((go_at_call 21; refine (can_is (u.extract 1 u.size) (v.extract 1 v.size) X (lev (bs u) (bs v)) false _ (by simp; omega) (by simp; omega) (by exact hleft) (by exact hs0) HB0.out).mono ?_; rintro e w3 ⟨rfl, hb3⟩; have hleft3 : w3.cell? ⟨X, 0, none⟩ = some (.int .i64 (lev (bs u) (bs v) : Int)) := (hb3.cell (p := ⟨X, 0, none⟩) hs0).trans hleft; have hs3 : X + 1 ≤ w3.heap.size := Nat.le_trans hs0 hb3.size))
              all_goals
                have hI3 := (HI.out.drew).below hb3 (Nat.le_refl _)
                have hfree3 : w3.frozen? ⟨X, 0, none⟩ = false := (hb3.frozen (p := ⟨X, 0, none⟩) hs0).trans hfree
                have hbel3 : Below w.heap.size w w3 := (Below.drew hbel).trans (hb3.mono hbel.size)
                have HI3 := Lib.hid hI3
                clear hI3
                go_wp2_with fail
                refine (can_is u (v.extract 1 v.size) X (lev (bs u) (bs v)) false _ (by first | exact hu | (simp; omega)) (by first | exact hv | (simp; omega)) (by exact hleft3) (by exact hs3) HB1.out).mono ?_
                rintro e w4 ⟨rfl, hb4⟩
                have hI4 := (HI3.out).below hb4 (by first | exact Nat.le_refl _ | simp)
                have hs4 : X + 1 ≤ w4.heap.size := Nat.le_trans hs3 hb4.size
                have hleft4 : w4.cell? ⟨X, 0, none⟩ = some (.int .i64 (lev (bs u) (bs v) : Int)) := (hb4.cell (p := ⟨X, 0, none⟩) hs3).trans hleft3
                have hfree4 : w4.frozen? ⟨X, 0, none⟩ = false := (hb4.frozen (p := ⟨X, 0, none⟩) hs3).trans hfree3
                have hbel4 : Below w.heap.size w w4 := hbel3.trans (hb4.mono (Nat.le_trans hbel3.size (Nat.le_refl _)))
                have HI4 := Lib.hid hI4
                clear hI4
                go_wp2_with fail
                refine (can_is (u.extract 1 u.size) v X (lev (bs u) (bs v)) true _ (by first | exact hu | (simp; omega)) (by first | exact hv | (simp; omega)) (by exact hleft4) (by exact hs4) HB2.out).mono ?_
                rintro e w6 ⟨rfl, hb6⟩
                have hI6 := (HI4.out).below hb6 (by first | exact Nat.le_refl _ | simp)
                have hs6 : X + 1 ≤ w6.heap.size := Nat.le_trans hs4 hb6.size
                have hleft6 : w6.cell? ⟨X, 0, none⟩ = some (.int .i64 (lev (bs u) (bs v) : Int)) := (hb6.cell (p := ⟨X, 0, none⟩) hs4).trans hleft4
                have hfree6 : w6.frozen? ⟨X, 0, none⟩ = false := (hb6.frozen (p := ⟨X, 0, none⟩) hs4).trans hfree4
                have hbel6 : Below w.heap.size w w6 := hbel4.trans (hb6.mono (Nat.le_trans hbel4.size (Nat.le_refl _)))
                have HI6 := Lib.hid hI6
                clear hI6
                go_wp2_with fail
                refine (Sb.write_byte _ (X + 1) (w.heap.size + 1) o 45 _ rfl HI6.out (by omega) hs6 (by omega)).mono ?_
                rintro e w9 ⟨rfl, hIs9', hbut⟩
                have hleft9 : w9.cell? ⟨X, 0, none⟩ = some (.int .i64 (lev (bs u) (bs v) : Int)) := (hbut.cell (p := ⟨X, 0, none⟩) (Nat.lt_succ_self X) (by show X ≠ _; omega)).trans hleft6
                have hfree9 : w9.frozen? ⟨X, 0, none⟩ = false := (hbut.frozen (p := ⟨X, 0, none⟩) (Nat.lt_succ_self X) (by show X ≠ _; omega)).trans hfree6
                have hIs9 := Lib.hid hIs9'
                clear hIs9'
                go_wp2_with fail
                go_region
                all_goals
                  go_wp2
                  go_roundw
                  case rel => exact ⟨_, _, rfl, rfl, SRel.drew <| SRel.store hIs9.out HA.out HST.out hbut hbel6 hs6 (by omega) (by omega) hfree6 hleft6 HLV.out (by first | exact hu | (simp; omega)) (by first | exact hv | (simp; omega))⟩
                  case measure => simp [strLen]; omega
            · rw [hin1, if_pos rfl] at hun
              rw [hin1] at hin
              have HB1 := Lib.hid hin.symm
              have HLV := Lib.hid (show (lev (bs u) (bs v) : Int) - 1 = (lev (bs u) (bs (v.extract 1 v.size)) : Int) by have := beq_iff_eq.1 hin.symm; omega)
              have HST := Lib.hid hun
              clear hun hin hde hin1 HD1 hsub hsu
              go_wp2
              go_region_held3 (fun w' => w'.cell? ⟨X, 0, none⟩ = some (.int .i64 (lev (bs u) (bs v) : Int)) ∧ X + 1 ≤ w'.heap.size) (first | exact ⟨hleft, hs0⟩ | exact ⟨hleft3, hs3⟩) ((go_at_call 21; refine (can_is (u.extract 1 u.size) (v.extract 1 v.size) X (lev (bs u) (bs v)) false _ (by simp; omega) (by simp; omega) (by exact hleft) (by exact hs0) HB0.out).mono ?_; rintro e w3 ⟨rfl, hb3⟩; have hleft3 : w3.cell? ⟨X, 0, none⟩ = some (.int .i64 (lev (bs u) (bs v) : Int)) := (hb3.cell (p := ⟨X, 0, none⟩) hs0).trans hleft; have hs3 : X + 1 ≤ w3.heap.size := Nat.le_trans hs0 hb3.size))
              all_goals
                have hI3 := (HI.out.drew).below hb3 (Nat.le_refl _)
                have hfree3 : w3.frozen? ⟨X, 0, none⟩ = false := (hb3.frozen (p := ⟨X, 0, none⟩) hs0).trans hfree
                have hbel3 : Below w.heap.size w w3 := (Below.drew hbel).trans (hb3.mono hbel.size)
                have HI3 := Lib.hid hI3
                clear hI3
                go_wp2_with fail
                refine (can_is u (v.extract 1 v.size) X (lev (bs u) (bs v)) true _ (by first | exact hu | (simp; omega)) (by first | exact hv | (simp; omega)) (by exact hleft3) (by exact hs3) HB1.out).mono ?_
                rintro e w4 ⟨rfl, hb4⟩
                have hI4 := (HI3.out).below hb4 (by first | exact Nat.le_refl _ | simp)
                have hs4 : X + 1 ≤ w4.heap.size := Nat.le_trans hs3 hb4.size
                have hleft4 : w4.cell? ⟨X, 0, none⟩ = some (.int .i64 (lev (bs u) (bs v) : Int)) := (hb4.cell (p := ⟨X, 0, none⟩) hs3).trans hleft3
                have hfree4 : w4.frozen? ⟨X, 0, none⟩ = false := (hb4.frozen (p := ⟨X, 0, none⟩) hs3).trans hfree3
                have hbel4 : Below w.heap.size w w4 := hbel3.trans (hb4.mono (Nat.le_trans hbel3.size (Nat.le_refl _)))
                have HI4 := Lib.hid hI4
                clear hI4
                go_wp2_with fail
                refine (Sb.write_byte _ (X + 1) (w.heap.size + 1) o 43 _ rfl HI4.out (by omega) hs4 (by omega)).mono ?_
                rintro e w9 ⟨rfl, hIs9', hbut⟩
                have hleft9 : w9.cell? ⟨X, 0, none⟩ = some (.int .i64 (lev (bs u) (bs v) : Int)) := (hbut.cell (p := ⟨X, 0, none⟩) (Nat.lt_succ_self X) (by show X ≠ _; omega)).trans hleft4
                have hfree9 : w9.frozen? ⟨X, 0, none⟩ = false := (hbut.frozen (p := ⟨X, 0, none⟩) (Nat.lt_succ_self X) (by show X ≠ _; omega)).trans hfree4
                have hIs9 := Lib.hid hIs9'
                clear hIs9'
                go_wp2_with fail
                go_region
                all_goals
                  go_wp2
                  go_roundw
                  case rel => exact ⟨_, _, rfl, rfl, SRel.drew <| SRel.store hIs9.out HA.out HST.out hbut hbel4 hs4 (by omega) (by omega) hfree4 hleft4 HLV.out (by first | exact hu | (simp; omega)) (by first | exact hv | (simp; omega))⟩
                  case measure => simp [strLen]; omega
          · rw [hsub, if_pos rfl] at hun
            rw [hsub] at hsu
            have HB0 := Lib.hid hsu.symm
            have HLV := Lib.hid (show (lev (bs u) (bs v) : Int) - 1 = (lev (bs (u.extract 1 u.size)) (bs (v.extract 1 v.size)) : Int) by have := beq_iff_eq.1 hsu.symm; omega)
            have HST := Lib.hid hun
            clear hun hsu hin hde hsub HD
            go_wp2
            go_region_held3 (fun w' => w'.cell? ⟨X, 0, none⟩ = some (.int .i64 (lev (bs u) (bs v) : Int)) ∧ X + 1 ≤ w'.heap.size) (first | exact ⟨hleft, hs0⟩ | exact ⟨hleft4, hs4⟩) ((go_at_call 21; refine (can_is (u.extract 1 u.size) (v.extract 1 v.size) X (lev (bs u) (bs v)) true _ (by simp; omega) (by simp; omega) (by exact hleft) (by exact hs0) HB0.out).mono ?_; rintro e w4 ⟨rfl, hb4⟩; have hleft4 : w4.cell? ⟨X, 0, none⟩ = some (.int .i64 (lev (bs u) (bs v) : Int)) := (hb4.cell (p := ⟨X, 0, none⟩) hs0).trans hleft; have hs4 : X + 1 ≤ w4.heap.size := Nat.le_trans hs0 hb4.size))
            all_goals
              have hI4 := (HI.out.drew).below hb4 (Nat.le_refl _)
              have hfree4 : w4.frozen? ⟨X, 0, none⟩ = false := (hb4.frozen (p := ⟨X, 0, none⟩) hs0).trans hfree
              have hbel4 : Below w.heap.size w w4 := (Below.drew hbel).trans (hb4.mono hbel.size)
              have HI4 := Lib.hid hI4
              clear hI4
              go_wp2_with fail
              refine (Sb.write_byte _ (X + 1) (w.heap.size + 1) o 33 _ rfl HI4.out (by omega) hs4 (by omega)).mono ?_
              rintro e w9 ⟨rfl, hIs9', hbut⟩
              have hleft9 : w9.cell? ⟨X, 0, none⟩ = some (.int .i64 (lev (bs u) (bs v) : Int)) := (hbut.cell (p := ⟨X, 0, none⟩) (Nat.lt_succ_self X) (by show X ≠ _; omega)).trans hleft4
              have hfree9 : w9.frozen? ⟨X, 0, none⟩ = false := (hbut.frozen (p := ⟨X, 0, none⟩) (Nat.lt_succ_self X) (by show X ≠ _; omega)).trans hfree4
              have hIs9 := Lib.hid hIs9'
              clear hIs9'
              go_wp2_with fail
              go_region
              all_goals
                go_wp2
                go_roundw
                case rel => exact ⟨_, _, rfl, rfl, SRel.drew <| SRel.store hIs9.out HA.out HST.out hbut hbel4 hs4 (by omega) (by omega) hfree4 hleft4 HLV.out (by first | exact hu | (simp; omega)) (by first | exact hv | (simp; omega))⟩
                case measure => simp [strLen]; omega

theorem steps_no (s t : ByteArray) (w : World) (h : ¬ (s.size ≤ 24 ∧ t.size ≤ 24)) :
    Calls Tryd.prog 15 #[.string s, .string t] w fun e w' => e = .returned (.tuple #[.string ⟨#[]⟩, .iface 39 (.int .i64 4)]) ∧ Below w.heap.size w w' := by
  go_enter Tryd.func15, Tryd.ntmps15
  go_wp2_with (go_at_call 17; refine (long2_no s t w.heap.size 24 _ (by simp) (by simp) (by omega)).mono ?_; rintro e w' ⟨rfl, rfl⟩)
  go_ret2
  exact ⟨rfl, bnew _ _⟩
end Go.Proofs.YtjlgjadkcpdpmaaDoor.Ed
