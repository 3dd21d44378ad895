/-
  The walks of the reference's List, Row and Piles (letterbeckref2).
-/
import Derived.Test.YtlchgjlinhakdaaDoorRefAll
import Derived.Test.YtlchgjlinhakdaaDoorRsFallW
import Derived.Test.YtlchgjlinhakdaaDoorRsRow
namespace Go.Proofs.YtlchgjlinhakdaaDoor.Rs
open Go.RowKit
set_option linter.unusedVariables false

theorem reflist_any (A : Option Addr) (cap : Nat) (l : List Int) (w : World) (hr : Reads w A l.length 1 (ints l)) (hm : l.length ≤ maxLen) :
    Calls Tryd.prog 4 #[.slice A l.length cap] w fun e w' => e = .returned (.int .i64 (chk l)) ∧ w = w' := by
  have hA := Lib.hid (refall_any A cap l 0 1000 w hr hm)
  unfold maxLen at hm
  unfold chk
  have e : l.all okN = l.all (inn 0 1000) := rfl
  rw [e]
  by_cases h : 20 < l.length
  · rw [if_pos h]
    have h1 : (20 : Int) < l.length := by omega
    go_enter Tryd.func4, Tryd.ntmps4
    go_wp2
    go_ret
    exact ⟨rfl, rfl⟩
  · rw [if_neg h]
    have h1 : ¬ (20 : Int) < l.length := by omega
    cases hok : l.all (inn 0 1000)
    all_goals
      rw [hok] at hA
      go_enter Tryd.func4, Tryd.ntmps4
      go_wp2_with fail
      refine hA.out.mono ?_
      rintro e w' ⟨rfl, rfl⟩
      go_wp2
      go_ret
      exact ⟨rfl, rfl⟩

def mxn (ps : List (Int × Nat)) : Nat := ps.foldl (fun m p => max m p.2) 0
theorem mxn_snoc (ps : List (Int × Nat)) (p : Int × Nat) : mxn (ps ++ [p]) = max (mxn ps) p.2 := by simp [mxn]
theorem mxn_le {ps : List (Int × Nat)} {B : Nat} (h : ∀ p ∈ ps, p.2 ≤ B) : mxn ps ≤ B := by
  rcases maxf_ex ps with h0 | ⟨q, h1, h2⟩
  · unfold mxn; omega
  · have := h q h1; unfold mxn; omega
def cB (b : Bool) : Int → Int → Bool := if b then cUp else cDown
theorem cB_up (a n : Int) : cB true a n = decide (a < n) := rfl
theorem cB_down (a n : Int) : cB false a n = decide (n ≤ a) := rfl
set_option maxHeartbeats 4000000 in
theorem row_any (B : Bool) (A : Option Addr) (cap : Nat) (l : List Int) (w : World) (hr : Reads w A l.length 1 (ints l)) (hlen : l.length ≤ 20) :
    Calls Tryd.prog 7 #[.slice A l.length cap, .bool B] w fun e w' => e = .returned (.int .i64 (grow (cB B) l)) ∧ Below w.heap.size w w' := by
  have hmk := fun w => run_make_ints w (l.length : Int) l.length rfl (by omega)
  obtain ⟨F, hF⟩ : ∃ F, F = gf (cB B) l := ⟨_, rfl⟩
  have hres : grow (cB B) l = mxn F := by rw [hF]; rfl
  have hfl := gf_length (c := cB B) l
  have hget := fun k n => gf_get (c := cB B) (l := l) (k := k) (n := n)
  have hle := gf_le (c := cB B) l
  rw [hres]
  rw [← hF] at hfl hle
  simp only [← hF] at hget
  clear hF hres
  have HFL := Lib.hid hfl
  have HG := Lib.hid hget
  have HLE := Lib.hid hle
  have hn := IBlk.new w (List.replicate l.length 0)
  rw [← hfl, ← mrow_zero] at hn
  have HN := Lib.hid hn
  clear hfl hget hle hn
  obtain ⟨r, hR⟩ : ∃ r : Nat, r = mxn F := ⟨_, rfl⟩
  rw [← hR]
  have HR := Lib.hid hR
  clear hR
  go_enter Tryd.func7, Tryd.ntmps7
  go_wp2
  go_loopw [5, 7] (fun b i wr => ∃ k : Nat, k ≤ l.length ∧ i = .int .i64 k ∧ b = .int .i64 (mxn (F.take k) : Nat) ∧ FRel w wr (mrow F k)) (fun _ i _ => l.length - (intOf i).toNat)
  case atStart => exact ⟨0, Nat.zero_le _, rfl, rfl, ⟨by have := HN.out; rw [mrow_zero, HFL.out] at this ⊢; exact this, bnew _ _⟩⟩
  case round =>
    obtain ⟨k, hk, rfl, rfl, hrel⟩ := hrel
    clear hmk
    by_cases hlt : k < l.length
    · obtain ⟨b, o, rfl, hb, hc⟩ := hr.2 (by omega)
      obtain ⟨n, hn⟩ : ∃ n, l[k]? = some n := ⟨_, List.getElem?_eq_getElem hlt⟩
      have hgk := HG.out k n hn
      have hb' := Nat.lt_of_lt_of_le hb hrel.below.size
      have hcw := fun (wq : World) (hbq : Below w.heap.size w wq) (j : Nat) (m : Int) (hm : l[j]? = some m) => (hbq.cell (p := ⟨b, o + j, none⟩) hb).trans (hc j (.int .i64 m) (by rw [ints_get, hm]; rfl))
      have HCW := Lib.hid hcw
      have HGK := Lib.hid hgk
      have HNN := Lib.hid hn
      have hkF : k < F.length := by rw [HFL.out]; exact hlt
      have hstart : ∀ wq, IBlk wq w.heap.size ((mrow F k).set k 1) → Below w.heap.size w wq → FRel w wq ((mrow F k).set k ((gbest (cB B) n (F.take 0) + 1 : Nat) : Int)) := fun wq h1 h2 => ⟨h1, h2⟩
      have hset1 := hrel.blk.set_ k 1
      have hbel := hrel.below
      have fr0 := hrel.blk.frozen k
      have d0 := hrel.blk.cell (i := k) (n := 0) (mrow_at hkF)
      have htk : mxn (F.take (k + 1)) = max (mxn (F.take k)) (gbest (cB B) n (F.take k) + 1) := by
        rw [List.take_add_one, hgk]
        exact mxn_snoc _ _
      have hm1 : mxn (F.take k) ≤ l.length := mxn_le fun p hp => HLE.out p (List.mem_of_mem_take hp)
      have HTK := Lib.hid htk
      have HST := Lib.hid hstart
      have HS1 := Lib.hid hset1
      have HKF := Lib.hid hkF
      clear hcw hgk hn hc hrel hstart hkF hset1 htk
      generalize hmm : mxn (F.take k) = mm at *
      clear hmm
      go_wp2
      obtain ⟨wo, hwo⟩ : ∃ wo : World, wo = wr.setCell ⟨w.heap.size, k, none⟩ (.int .i64 1) := ⟨_, rfl⟩
      go_loopw [8] (fun i wr => ∃ J : Nat, J ≤ k ∧ i = .int .i64 J ∧ FRel w wr ((mrow F k).set k ((gbest (cB B) n (F.take J) + 1 : Nat) : Int))) (fun i _ => k - (intOf i).toNat)
      case atStart => exact ⟨0, by omega, rfl, HST.out _ HS1.out (hbel.setCell (Nat.le_refl _) _)⟩
      case round =>
        clear HST HS1 hwo fr0 d0 hbel hb'
        obtain ⟨J, hJ, rfl, hrel⟩ := hrel
        have hkl : (mrow F k).length = F.length := mrow_length F (by have := HKF.out; omega)
        have hbel := hrel.below
        have c0 := HCW.out _ hbel k n HNN.out
        by_cases hlj : J < k
        · obtain ⟨m, hm⟩ : ∃ m, l[J]? = some m := ⟨_, List.getElem?_eq_getElem (by omega)⟩
          have cJ := HCW.out _ hrel.below J m hm
          have hgJ := HG.out J m hm
          have hbst : gbest (cB B) n (F.take (J + 1)) = if cB B m n = true then max (gbest (cB B) n (F.take J)) (gbest (cB B) m (F.take J) + 1) else gbest (cB B) n (F.take J) := by
            rw [List.take_add_one, hgJ]
            exact gbest_snoc _ _ _
          have hb1 : gbest (cB B) n (F.take J) ≤ l.length := gbest_le fun p hp => HLE.out p (List.mem_of_mem_take hp)
          have hb2 : gbest (cB B) m (F.take J) + 1 ≤ l.length + 1 := Nat.succ_le_succ (gbest_le fun p hp => HLE.out p (List.mem_of_mem_take hp))
          have d1 := hrel.blk.cell (i := k) (n := ((gbest (cB B) n (F.take J) + 1 : Nat) : Int)) (by rw [List.getElem?_set_self (by rw [hkl]; exact HKF.out)])
          have d2 := hrel.blk.cell (i := J) (n := ((gbest (cB B) m (F.take J) + 1 : Nat) : Int)) (by rw [List.getElem?_set_ne (by omega)]; exact mrow_lt hlj hgJ)
          have fr := hrel.blk.frozen k
          have hset := fun (x : Int) => hrel.blk.set_ k x
          simp only [set_set'] at hset
          have HB := Lib.hid hbst
          have HS := Lib.hid hset
          have HRL := Lib.hid hrel
          clear hbst hset hrel hm hgJ hkl
          generalize gbest (cB B) n (F.take J) = p at *
          generalize gbest (cB B) m (F.take J) + 1 = q at *
          have g0 : (0 : Int) ≤ (k : Int) := by omega
          have g1 : (k : Int) < (l.length : Int) := by omega
          have g2 : (J : Int) < (l.length : Int) := by omega
          have z1 : ((p + 1 : Nat) : Int) = (p : Int) + 1 := by omega
          rw [z1] at d1
          by_cases hcm : cB B m n = true
          · have hb3 := HB.out
            rw [if_pos hcm] at hb3
            by_cases hqp : p < q
            · have hb4 : ((gbest (cB B) n (F.take (J + 1)) + 1 : Nat) : Int) = (q : Int) + 1 := by omega
              have HB4 := Lib.hid hb4
              have hx2 : (p : Int) + 1 < (q : Int) + 1 := by omega
              clear hb3 hb4 hqp z1
              cases B
              all_goals
                have hx := of_decide_eq_true hcm
                clear hcm
                go_wp2
                go_quiet (fail)
                go_wp2
                go_roundw
                case rel =>
                  refine ⟨J + 1, by omega, by go_num, ?_⟩
                  rw [HB4.out]
                  exact ⟨HS.out _, (bdrew hbel _).setCell (Nat.le_refl _) _⟩
                case measure => simp [intOf]; omega
            · have hb4 : gbest (cB B) n (F.take (J + 1)) = p := by omega
              have HB4 := Lib.hid hb4
              have hx2 : ¬ (p : Int) + 1 < (q : Int) + 1 := by omega
              clear hb3 hb4 hqp z1
              cases B
              all_goals
                have hx := of_decide_eq_true hcm
                clear hcm
                go_wp2
                go_quiet (fail)
                go_wp2
                refine ⟨⟨J + 1, by omega, by go_num, ?_⟩, by simp [intOf]; omega⟩
                rw [HB4.out]
                exact ⟨HRL.out.blk, bdrew hbel _⟩
          · have hb3 := HB.out
            rw [if_neg hcm] at hb3
            have HB4 := Lib.hid hb3
            have hcm' := eq_false_of_ne_true hcm
            clear hb3 hcm z1
            cases B
            case' false => have hx : decide (n ≤ m) = false := hcm'
            case' true => have hx : decide (m < n) = false := hcm'
            all_goals
              clear hcm'
              go_wp2
              go_quiet (fail)
              go_wp2
              refine ⟨⟨J + 1, by omega, by go_num, ?_⟩, by simp [intOf]; omega⟩
              rw [HB4.out]
              exact ⟨HRL.out.blk, bdrew hbel _⟩
        · obtain rfl : J = k := by omega
          have d1 := hrel.blk.cell (i := J) (n := ((gbest (cB B) n (F.take J) + 1 : Nat) : Int)) (by rw [List.getElem?_set_self (by rw [hkl]; exact HKF.out)])
          have hfin : FRel w wr (mrow F (J + 1)) := by
            have h2 := hrel.blk
            rw [mrow_next HGK.out] at h2
            exact ⟨h2, hrel.below⟩
          have hb1 : gbest (cB B) n (F.take J) ≤ l.length := gbest_le fun p hp => HLE.out p (List.mem_of_mem_take hp)
          have HT := Lib.hid HTK.out
          have HF := Lib.hid hfin
          clear HTK hfin hrel hkl HGK
          generalize gbest (cB B) n (F.take J) = p at *
          by_cases hmp : mm < p + 1
          · have e2 : mxn (F.take (J + 1)) = p + 1 := by rw [HT.out]; omega
            have hx2 : ((mm : Nat) : Int) < ((p + 1 : Nat) : Int) := by omega
            have HE := Lib.hid e2
            clear e2 hmp
            go_wp2
            go_roundw
            case rel => exact ⟨J + 1, by omega, by go_num, by rw [HE.out]; go_num, HF.out⟩
            case measure => simp [intOf]; omega
          · have e2 : mxn (F.take (J + 1)) = mm := by rw [HT.out]; omega
            have hx2 : ¬ ((mm : Nat) : Int) < ((p + 1 : Nat) : Int) := by omega
            have HE := Lib.hid e2
            clear e2 hmp
            go_wp2
            go_roundw
            case rel => exact ⟨J + 1, by omega, by go_num, by rw [HE.out], HF.out⟩
            case measure => simp [intOf]; omega
    · obtain rfl : k = l.length := by omega
      have hbel := hrel.below
      have e2 : mxn (F.take l.length) = r := by rw [HR.out, List.take_of_length_le (by rw [HFL.out]; exact Nat.le_refl _)]
      rw [e2]
      clear e2 hrel
      go_wp2
      go_ret
      exact ⟨rfl, hbel⟩

/-- a row of numbers, returned -/
def OwnedOne (w : World) (t : List Int) (e : Ending) (w' : World) : Prop := ∃ v, e = .returned v ∧ w'.ownsRow w.heap.size 3 1 v t.length (ints t) ∧ Below w.heap.size w w'
theorem pos_step {n y : Int} {t : List Int} {J : Nat} (hJ : J ≤ pos n t) (hy : t[J]? = some y) : (J < pos n t ↔ y < n) := by
  refine ⟨fun h => pos_lt h hy, fun h => ?_⟩
  rcases Nat.lt_or_ge J (pos n t) with h1 | h1
  · exact h1
  · obtain rfl : J = pos n t := by omega
    have := pos_ge hy
    omega
set_option maxHeartbeats 2000000 in
theorem refpiles_any (A : Option Addr) (cap : Nat) (l : List Int) (w : World) (hr : Reads w A l.length 1 (ints l)) (hlen : l.length ≤ 20) :
    Calls Tryd.prog 8 #[.slice A l.length cap] w (OwnedOne w (piles l)) := by
  obtain ⟨i0, hi, hz0, hz1, hz2⟩ := info_parts infoI
  go_enter Tryd.func8, Tryd.ntmps8
  go_wp2
  go_loopw [3, 4] (fun v i wr => ∃ k : Nat, k ≤ l.length ∧ i = .int .i64 k ∧ PRel w wr v (piles (l.take k))) (fun _ i _ => l.length - (intOf i).toNat)
  case atStart => exact ⟨0, Nat.zero_le _, rfl, ⟨World.ownsRow_nil _ _ _ _, Below.refl _ _⟩⟩
  case round =>
    obtain ⟨k, hk, rfl, hrel⟩ := hrel
    by_cases hlt : k < l.length
    · obtain ⟨b, o, rfl, hb, hc⟩ := hr.2 (by omega)
      obtain ⟨n, hn⟩ : ∃ n, l[k]? = some n := ⟨_, List.getElem?_eq_getElem hlt⟩
      have hcw := fun (wq : World) (hbq : Below w.heap.size w wq) => (hbq.cell (p := ⟨b, o + k, none⟩) hb).trans (hc k (.int .i64 n) (by rw [ints_get, hn]; rfl))
      have htk : piles (l.take (k + 1)) = put n (piles (l.take k)) := by
        rw [List.take_add_one, hn]
        exact piles_snoc _ _
      have hpl : (piles (l.take k)).length ≤ k := by
        have := piles_le (l.take k)
        rw [List.length_take] at this
        omega
      generalize piles (l.take k) = t at *
      obtain ⟨A', cap', e⟩ := own_slice hrel.own
      subst e
      have hple := pos_le n t
      have HCW := Lib.hid hcw
      have HT := Lib.hid htk
      have HR := Lib.hid hrel
      clear htk hrel hc hn hcw
      go_wp2
      obtain ⟨wo, hwo⟩ : ∃ wo : World, wo = wr := ⟨_, rfl⟩
      go_loopw [5] (fun i wr => ∃ J : Nat, J ≤ pos n t ∧ i = .int .i64 J ∧ PRel w wr (.slice A' t.length cap') t) (fun i _ => t.length - (intOf i).toNat)
      case atStart => exact ⟨0, Nat.zero_le _, rfl, HR.out⟩
      case round =>
        clear HR hwo
        obtain ⟨J, hJ, rfl, hrel⟩ := hrel
        have hbel := hrel.below
        have c0 := HCW.out _ hbel
        by_cases hJl : J < t.length
        · obtain ⟨y, hy⟩ : ∃ y, t[J]? = some y := ⟨_, List.getElem?_eq_getElem hJl⟩
          obtain ⟨g, cap2, e, hgw, hgl⟩ := own_some hrel.own (by omega)
          simp only [Value.slice.injEq, true_and] at e
          obtain ⟨rfl, rfl⟩ := e
          have cy := own_cell hrel.own (i := J) (u := .int .i64 y) (by rw [ints_get, hy]; rfl)
          have fy := own_frozen hrel.own J
          have hst := pos_step hJ hy
          have gJ : (J : Int) < (t.length : Int) := by omega
          by_cases hyn : y < n
          · have hJ2 := hst.2 hyn
            have HR := Lib.hid hrel
            clear hst hy hrel
            go_wp2
            go_quiet (fail)
            go_wp2
            go_roundw
            case rel => exact ⟨J + 1, by omega, by go_num, ⟨own_drewN HR.out.own _, bdrew hbel _⟩⟩
            case measure => simp [intOf]; omega
          · have hJ2 : pos n t = J := by
              have : ¬ J < pos n t := fun h => hyn (hst.1 h)
              omega
            have hput : put n t = t.set J n := by unfold put; rw [hJ2, if_neg (by omega)]
            have g1 : ((J : Int) == (t.length : Int)) = false := by rw [beq_eq_false_iff_ne]; omega
            have g0 : (0 : Int) ≤ (J : Int) := by omega
            have HP := Lib.hid hput
            have HR := Lib.hid hrel
            clear hst hy hrel hput hJ2 hJ
            go_wp2
            go_quiet (fail)
            go_wp2
            refine ⟨⟨k + 1, by omega, by go_num, ?_⟩, by simp [intOf]; omega⟩
            rw [HT.out, HP.out]
            exact HR.out.set_ (below_drewN _ _) J n
        · have hJ2 : J = t.length := by omega
          have hput : put n t = t ++ [n] := by unfold put; rw [if_pos (by omega)]
          have gJ : ¬ (J : Int) < (t.length : Int) := by omega
          have g1 : ((J : Int) == (t.length : Int)) = true := by rw [beq_iff_eq]; omega
          have hsz1 := hrel.below.size
          have hown := hrel.own
          have HP := Lib.hid hput
          have HR := Lib.hid hrel
          clear hput hrel hJ
          go_wp2
          go_quiet (fail)
          go_wp2_with (at_builtin; go_must (refine append_own _ rfl _ _ 22 rfl w.heap.size 3 i0 _ 1 8 Tryd.underlying22 hi hz0 hz1 hz2 rfl (by decide) _ _ _ rfl ((own_drewN hown _).alloc _) ⟨wr.heap.size, 0, none⟩ 1 1 [.int .i64 n] rfl rfl (cell_one_new _ _ _) (int_oneCell _) (by unfold maxLen; omega) (by omega) (by simp; omega) (by decide) ?_); intro g2 cap2 w2 hown2 hg2 hg2' hgrow2)
          refine ⟨⟨k + 1, by omega, by go_num, ?_⟩, by simp [intOf]; omega⟩
          rw [HT.out, HP.out]
          exact ⟨by simpa [ints] using hown2, ((bdrew HR.out.below _).alloc hsz1 _).grown hgrow2 (by simp; omega) (fun j hj => (HR.out.own.lt j hj).1)⟩
    · have e : l.take k = l := List.take_of_length_le (by omega)
      rw [e] at hrel
      have HR := Lib.hid hrel
      clear e hrel
      go_wp2
      go_ret
      exact ⟨_, rfl, HR.out.own, HR.out.below⟩
end Go.Proofs.YtlchgjlinhakdaaDoor.Rs
