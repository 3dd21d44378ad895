/-
  The walk of the reference's Codes: it makes the codes that kraft.Codes makes.
-/
import Derived.Test.YtnaoonegeboflaaDoorKsBits
import Derived.Test.YtnaoonegeboflaaDoorBeg
namespace Go.Proofs.YtnaoonegeboflaaDoor.Kf
open Go.RowKit
set_option linter.unusedVariables false
set_option linter.unusedSimpArgs false

def fo (l Q : List Int) : Nat × List (List UInt8) := Q.foldl (cstep l) (0, List.replicate l.length [])
theorem fo_snoc (l Q : List Int) (i : Int) : fo l (Q ++ [i]) = cstep l (fo l Q) i := by
  unfold fo
  rw [List.foldl_append]
  rfl
theorem fo_length (l Q : List Int) : (fo l Q).2.length = l.length := by unfold fo; rw [cfold_length]; simp
theorem fo_cases {l Q : List Int} (hn : Q.Nodup) (hq : ∀ j ∈ Q, 0 ≤ j ∧ j < l.length) {j : Nat} (hj : j < l.length) : ((j : Int) ∉ Q ∧ (fo l Q).2[j]? = some []) ∨ ∃ a, ((j : Int), a) ∈ st l Q 0 ∧ (fo l Q).2[j]? = some (code a (lenAt l (j : Int)).toNat) := by
  by_cases h : (j : Int) ∈ Q
  · right
    rw [← st_fst l Q 0] at h
    obtain ⟨p, hp, e⟩ := List.mem_map.1 h
    have h2 := fold_at l Q (0, List.replicate l.length []) hn (fun i hi => by have := hq i hi; simpa using this) p hp
    refine ⟨p.2, by rw [← e]; exact hp, ?_⟩
    have e2 : p.1 = (j : Int) := e
    rw [e2, Int.toNat_natCast] at h2
    exact h2
  · left
    refine ⟨h, ?_⟩
    show (Q.foldl (cstep l) (0, List.replicate l.length [])).2[j]? = _
    rw [fold_other l Q _ j fun i hi e => h (by
      have := hq i hi
      have : i = (j : Int) := by omega
      rw [← this]; exact hi)]
    show (List.replicate l.length ([] : List UInt8))[j]? = _
    rw [List.getElem?_replicate, if_pos hj]
/-- does some code ahead begin a text? -/
def hit (outs : List (List UInt8)) (s : List UInt8) (j : Nat) : Prop := ∃ (j' : Nat) (x : List UInt8), j' < j ∧ outs[j']? = some x ∧ x ≠ [] ∧ x.isPrefixOf s = true
theorem hit_succ {outs : List (List UInt8)} {s x : List UInt8} {j : Nat} (hx : outs[j]? = some x) : hit outs s (j + 1) ↔ hit outs s j ∨ (x ≠ [] ∧ x.isPrefixOf s = true) := by
  constructor
  · rintro ⟨j', y, h1, h2, h3, h4⟩
    by_cases e : j' = j
    · subst e
      rw [hx] at h2
      exact .inr ⟨Option.some.inj h2 ▸ h3, Option.some.inj h2 ▸ h4⟩
    · exact .inl ⟨j', y, by omega, h2, h3, h4⟩
  · rintro (⟨j', y, h1, h2, h3, h4⟩ | ⟨h1, h2⟩)
    · exact ⟨j', y, by omega, h2, h3, h4⟩
    · exact ⟨j, x, by omega, hx, h1, h2⟩
section
variable {l : List Int} {m i : Nat}
theorem lenQ (h : ∀ j ∈ levs l m ++ lev l (m + 1) i, 0 ≤ j ∧ j < (l.length : Int)) : True := trivial
theorem q_mem (hi : i ≤ l.length) (hm : m + 1 ≤ 12) : ∀ j ∈ levs l m ++ lev l (m + 1) i, (0 ≤ j ∧ j < (l.length : Int)) ∧ (1 ≤ lenAt l j ∧ lenAt l j ≤ 12) ∧ lenAt l j ≤ ((m + 1 : Nat) : Int) := by
  intro j hj
  rcases List.mem_append.1 hj with h | h
  · have := levs_mem h; omega
  · have := lev_mem h; omega
theorem hit_taken (hm : m + 1 ≤ 12) (hi : i ≤ l.length) {k q : Nat} (hq : q * 2 ^ (12 - (m + 1)) = ((levs l m ++ lev l (m + 1) i).map (rm l)).sum) (hk : k < q) : hit (fo l (levs l m ++ lev l (m + 1) i)).2 (bitsL (m + 1) k) l.length := by
  have hQ := q_mem (l := l) (m := m) hi hm
  obtain ⟨p, hp, hpre⟩ := taken (l := l) (Q := levs l m ++ lev l (m + 1) i) (n := m + 1) (k := k) (fun j hj => (hQ j hj).2.1) (levs_lev_bef l m i) hm (fun j hj => (hQ j hj).2.2) (by
    rw [← hq]
    exact Nat.mul_lt_mul_of_pos_right hk (Nat.pow_pos (by decide)))
  have hpQ : p.1 ∈ levs l m ++ lev l (m + 1) i := by rw [← st_fst l (levs l m ++ lev l (m + 1) i) 0]; exact List.mem_map_of_mem hp
  have h1 := hQ p.1 hpQ
  have h2 := fold_at l (levs l m ++ lev l (m + 1) i) (0, List.replicate l.length []) (bef_nodup (levs_lev_bef l m i)) (fun i hi => by have := (hQ i hi).1; simpa using this) p hp
  refine ⟨p.1.toNat, _, by omega, h2, fun e => ?_, hpre⟩
  have := congrArg List.length e
  rw [code_length] at this
  simp at this
  omega
theorem hit_fresh (hm : m + 1 ≤ 12) (hi : i < l.length) (hli : lenAt l (i : Int) = ((m + 1 : Nat) : Int)) (hr : ((ordOf l).map (rm l)).sum ≤ 4096) (hl : ∀ x ∈ l, 1 ≤ x ∧ x ≤ 12) {q : Nat} (hq : q * 2 ^ (12 - (m + 1)) = ((levs l m ++ lev l (m + 1) i).map (rm l)).sum) : ¬ hit (fo l (levs l m ++ lev l (m + 1) i)).2 (bitsL (m + 1) q) l.length := by
  have hQ := q_mem (l := l) (m := m) (i := i) (by omega) hm
  have hpre := sum_pre (l := l) (levs_lev_pre (l := l) (n := m) (i := i + 1) hm (by omega))
  rw [levs_all hl, lev_succ, if_pos hli, ← List.append_assoc, List.map_append, List.sum_append] at hpre
  have hrm : 0 < rm l (i : Int) := Nat.pow_pos (by decide)
  simp only [List.map_cons, List.map_nil, List.sum_cons, List.sum_nil] at hpre
  have hfr := fresh (l := l) (Q := levs l m ++ lev l (m + 1) i) (n := m + 1) (k := q) (fun j hj => (hQ j hj).2.1) hm (fun j hj => (hQ j hj).2.2) hq (by omega)
  rintro ⟨j, x, h1, h2, h3, h4⟩
  rcases fo_cases (bef_nodup (levs_lev_bef l m i)) (fun j hj => (hQ j hj).1) h1 with ⟨_, e⟩ | ⟨a, ha, e⟩
  · rw [h2] at e
    exact h3 (Option.some.inj e)
  · rw [h2] at e
    rw [Option.some.inj e] at h4
    rw [hfr _ ha] at h4
    cases h4
theorem fo_step (hm : m + 1 ≤ 12) (hli : lenAt l (i : Int) = ((m + 1 : Nat) : Int)) {q : Nat} (hq : q * 2 ^ (12 - (m + 1)) = ((levs l m ++ lev l (m + 1) i).map (rm l)).sum) : (fo l (levs l m ++ lev l (m + 1) (i + 1))).2 = (fo l (levs l m ++ lev l (m + 1) i)).2.set i (bitsL (m + 1) q) := by
  rw [lev_succ, if_pos hli, ← List.append_assoc, fo_snoc]
  unfold cstep
  simp only [Int.toNat_natCast]
  have h1 := st_total l (levs l m ++ lev l (m + 1) i) (0, List.replicate l.length [])
  rw [Nat.zero_add, ← hq] at h1
  rw [show (fo l (levs l m ++ lev l (m + 1) i)).1 = q * 2 ^ (12 - (m + 1)) from h1, hli, Int.toNat_natCast, bitsL_code hm]
end
theorem bool_un {R : Bool} {p : Prop} (h : R = true ↔ ¬ p) (hp : p) : R = false := by
  cases R
  · rfl
  · exact absurd hp (h.1 rfl)

set_option maxHeartbeats 4000000 in
theorem refcodes_any (A : Option Addr) (c : Nat) (l : List Int) (w : World) (hr : Reads w A l.length 1 (ints l)) (h : ckL l = 0) (h4 : roomOf l ≤ 4096) :
    Calls Tryd.prog 13 #[.slice A l.length c] w fun e w' => ∃ G, e = .returned (.slice (some ⟨G, 0, none⟩) l.length l.length) ∧ SBlk w' G (codesOf l) ∧ w.heap.size ≤ G ∧ Below w.heap.size w w' := by
  obtain ⟨hl, hin⟩ := ckL_ok h
  have hms := fun w => run_make_texts w (l.length : Int) l.length rfl (by omega)
  obtain ⟨R, hR⟩ : ∃ R, R = codesOf l := ⟨_, rfl⟩
  rw [← hR]
  have HRR := Lib.hid (show R = (fo l (levs l 12)).2 from by rw [hR, levs_all hin]; rfl)
  have HIN := Lib.hid hin
  have HRM := Lib.hid (show ((ordOf l).map (rm l)).sum ≤ 4096 from by rw [ord_room]; exact h4)
  have HR := Lib.hid hr
  clear h h4 hin hr hR
  go_enter Tryd.func13, Tryd.ntmps13
  go_wp2_with fail
  have h0 := SBlk.new w (List.replicate l.length [])
  have hb0 := bnew w (.cells (texts ((List.replicate l.length []).map ba)).toArray 9)
  rw [List.map_replicate] at h0 hb0
  generalize (w.alloc (.cells (texts (List.replicate l.length (ba []))).toArray 9)) = w1 at *
  have H0 := Lib.hid h0
  have HB0 := Lib.hid hb0
  clear h0 hb0 hms
  go_loopw [4, 5, 6, 7, 8, 9] (fun nv _ _ _ _ _ wr => ∃ m : Nat, m ≤ 12 ∧ nv = .int .i64 ((m : Int) + 1) ∧ SBlk wr w.heap.size (fo l (levs l m)).2 ∧ Below w.heap.size w wr) (fun nv _ _ _ _ _ _ => 14 - (intOf nv).toNat)
  case atStart => exact ⟨0, Nat.zero_le _, rfl, H0.out, HB0.out⟩
  case round =>
    obtain ⟨m, hm, rfl, hG, hbe⟩ := hrel
    have HG := Lib.hid hG
    have HBE := Lib.hid hbe
    clear hG hbe
    by_cases hlt : m < 12
    · have kk : (m : Int) + 1 ≤ 12 := by omega
      go_wp2_with fail
      go_loopw [5, 6, 7, 8, 9] (fun iv _ _ _ _ wr => ∃ i : Nat, i ≤ l.length ∧ iv = .int .i64 (i : Int) ∧ SBlk wr w.heap.size (fo l (levs l m ++ lev l (m + 1) i)).2 ∧ Below w.heap.size w wr) (fun iv _ _ _ _ _ => l.length - (intOf iv).toNat)
      case atStart => exact ⟨0, Nat.zero_le _, rfl, by have := HG.out; simpa [lev, idx] using this, HBE.out⟩
      case round =>
        clear HG HBE
        obtain ⟨i, hi, rfl, hG, hbe⟩ := hrel
        have HG := Lib.hid hG
        have HBE := Lib.hid hbe
        clear hG
        by_cases hlti : i < l.length
        · obtain ⟨b, o, rfl, hb, hcc⟩ := (HR.out.below hbe).2 (by omega)
          obtain ⟨x, hx⟩ : ∃ x, l[i]? = some x := ⟨_, List.getElem?_eq_getElem hlti⟩
          have c0 := hcc i (.int .i64 x) (by rw [ints_get, hx]; rfl)
          have ki : (i : Int) < (l.length : Int) := by omega
          have HLX := Lib.hid (lenAt_get hx)
          clear hcc hx hbe
          by_cases hxn : x = ((m + 1 : Nat) : Int)
          · have hne : (x != (m : Int) + 1) = false := by rw [bne_eq_false_iff_eq]; omega
            have HLI := Lib.hid (show lenAt l (i : Int) = ((m + 1 : Nat) : Int) from by rw [HLX.out, hxn])
            obtain ⟨q, hq⟩ := total_dvd (l := l) (Q := levs l m ++ lev l (m + 1) i) (n := m + 1) (by omega) (fun j hj => (q_mem (l := l) (m := m) hi (by omega) j hj).2.2)
            have hq4 : q ≤ 4096 := by
              have h1 := sum_pre (l := l) (levs_lev_pre (l := l) (n := m) (i := i) (by omega) hi)
              rw [levs_all HIN.out] at h1
              have h2 := HRM.out
              have h3 : 0 < 2 ^ (12 - (m + 1)) := Nat.pow_pos (by decide)
              have h4 := Nat.le_mul_of_pos_right q h3
              omega
            have HSTEP := Lib.hid (fo_step (l := l) (m := m) (i := i) (by omega) HLI.out hq)
            have HFR := Lib.hid (hit_fresh (l := l) (m := m) (i := i) (by omega) hlti HLI.out HRM.out HIN.out hq)
            have HTK := Lib.hid (fun k (hk : k < q) => hit_taken (l := l) (m := m) (i := i) (by omega) hi hq hk)
            have hol := fo_length l (levs l m ++ lev l (m + 1) i)
            have hcl : ∀ (j : Nat) (y : List UInt8), (fo l (levs l m ++ lev l (m + 1) i)).2[j]? = some y → y.length ≤ 12 := by
              intro j y hy
              have hjl : j < l.length := by rw [← hol]; exact (List.getElem?_eq_some_iff.1 hy).1
              have hQ := q_mem (l := l) (m := m) hi (by omega)
              rcases fo_cases (bef_nodup (levs_lev_bef l m i)) (fun j hj => (hQ j hj).1) hjl with ⟨_, e⟩ | ⟨a, ha, e⟩
              · rw [hy] at e; rw [Option.some.inj e]; simp
              · rw [hy] at e; rw [Option.some.inj e, code_length]
                have h1 : (j : Int) ∈ levs l m ++ lev l (m + 1) i := by rw [← st_fst l (levs l m ++ lev l (m + 1) i) 0]; exact List.mem_map_of_mem ha
                have := (hQ _ h1).2.1
                omega
            have HOL := Lib.hid hol
            have HCL := Lib.hid hcl
            subst hxn
            clear hq hol hcl HLX HLI
            generalize (fo l (levs l m ++ lev l (m + 1) i)).2 = outs at *
            go_wp2_with fail
            go_loop [6, 7, 8, 9] (fun kv _ _ _ => ∃ k : Nat, k ≤ q ∧ kv = .int .i64 (k : Int)) (fun kv _ _ _ => q + 1 - (intOf kv).toNat)
            case atStart => exact ⟨0, Nat.zero_le _, rfl⟩
            case round =>
              obtain ⟨k, hk, rfl⟩ := hrel
              have HBI := Lib.hid (bits_any (m + 1) k wr (by omega) (by omega))
              have hcast : (((m + 1 : Nat) : Int)) = (m : Int) + 1 := by omega
              rw [hcast] at HBI
              go_wp2_with fail
              refine HBI.out.mono ?_
              rintro e w' ⟨rfl, rfl⟩
              go_wp2_with fail
              go_loop [8, 9] (fun fv jv => ∃ (j : Nat) (f : Bool), j ≤ l.length ∧ jv = .int .i64 (j : Int) ∧ fv = .bool f ∧ Hid (f = true ↔ ¬ hit outs (bitsL (m + 1) k) j)) (fun _ jv => l.length - (intOf jv).toNat)
              case atStart => exact ⟨0, true, Nat.zero_le _, rfl, rfl, Lib.hid ⟨fun _ => fun ⟨j, x, h, _⟩ => by omega, fun _ => rfl⟩⟩
              case round =>
                obtain ⟨j, f, hj, rfl, rfl, HFJ⟩ := hrel
                by_cases hltj : j < l.length
                · obtain ⟨y, hy⟩ : ∃ y, outs[j]? = some y := ⟨_, List.getElem?_eq_getElem (by rw [HOL.out]; exact hltj)⟩
                  have c1 := HG.out.cell hy
                  have kj : (j : Int) < (l.length : Int) := by omega
                  have hyl : (ba y).size ≤ 12 := by rw [ba_size]; exact HCL.out j y hy
                  have HH := Lib.hid (hit_succ (s := bitsL (m + 1) k) hy)
                  obtain ⟨sy, hsy⟩ : ∃ sy, sy = ba y := ⟨_, rfl⟩
                  rw [← hsy] at c1 hyl
                  have HSY := Lib.hid (show bs sy = y from by rw [hsy, bs_ba])
                  clear hy hsy
                  by_cases hy0 : sy.size = 0
                  · have kz : ¬ (0 : Int) < (sy.size : Int) := by omega
                    have hye : y = [] := by rw [← HSY.out]; exact List.length_eq_zero_iff.1 (by rw [bs_length]; exact hy0)
                    have HYE := Lib.hid hye
                    clear hye hy0
                    go_wp2
                    refine ⟨⟨j + 1, f, by omega, by go_num, rfl, Lib.hid ?_⟩, by simp [intOf]; omega⟩
                    rw [HH.out, HFJ.out]
                    simp [HYE.out]
                  · have kz : (0 : Int) < (sy.size : Int) := by omega
                    have hye : y ≠ [] := fun e => hy0 (by rw [← bs_length, HSY.out, e]; rfl)
                    have HYE := Lib.hid hye
                    have hsl : (ba (bitsL (m + 1) k)).size ≤ 12 := by rw [ba_size, bitsL_length]; omega
                    have hbg := begins_any (ba (bitsL (m + 1) k)) sy wr (by unfold maxLen; omega) (by unfold maxLen; omega)
                    rw [bs_ba, HSY.out] at hbg
                    clear hye hy0
                    cases hpf : y.isPrefixOf (bitsL (m + 1) k)
                    · rw [hpf] at hbg
                      have HBG := Lib.hid hbg
                      have HPF := Lib.hid hpf
                      clear hpf hbg
                      go_wp2_with (go_at_call 9; refine HBG.out.mono ?_; rintro e w' ⟨rfl, rfl⟩)
                      refine ⟨⟨j + 1, f, by omega, by go_num, rfl, Lib.hid ?_⟩, by simp [intOf]; omega⟩
                      rw [HH.out, HFJ.out]
                      simp [HPF.out]
                    · rw [hpf] at hbg
                      have HBG := Lib.hid hbg
                      have HPF := Lib.hid hpf
                      clear hpf hbg
                      go_wp2_with (go_at_call 9; refine HBG.out.mono ?_; rintro e w' ⟨rfl, rfl⟩)
                      refine ⟨⟨j + 1, false, by omega, by go_num, rfl, Lib.hid ?_⟩, by simp [intOf]; omega⟩
                      rw [HH.out]
                      simp [HPF.out, HYE.out]
                · have kj : ¬ (j : Int) < (l.length : Int) := by omega
                  obtain rfl : j = l.length := by omega
                  by_cases hkq : k < q
                  · have hf : f = false := bool_un HFJ.out (HTK.out k hkq)
                    subst hf
                    go_wp2
                    exact ⟨⟨k + 1, by omega, by go_num⟩, by simp [intOf]; omega⟩
                  · obtain rfl : k = q := by omega
                    have hf : f = true := HFJ.out.2 HFR.out
                    subst hf
                    obtain ⟨y, hy⟩ : ∃ y, outs[i]? = some y := ⟨_, List.getElem?_eq_getElem (by rw [HOL.out]; exact hlti)⟩
                    have c1 := HG.out.cell hy
                    have f1 := HG.out.frozen i
                    have HSET := Lib.hid (HG.out.set_ i (bitsL (m + 1) k))
                    have HBS := Lib.hid (HBE.out.setCell (p := ⟨w.heap.size, i, none⟩) (Nat.le_refl _) (.string (ba (bitsL (m + 1) k))))
                    clear hy
                    go_wp2_with fail
                    refine ⟨⟨i + 1, by omega, by go_num, ?_, HBS.out⟩, by simp [intOf]; omega⟩
                    rw [HSTEP.out]
                    exact HSET.out
          · have hne : (x != (m : Int) + 1) = true := by rw [bne_iff_ne]; omega
            have HS := Lib.hid (show lev l (m + 1) (i + 1) = lev l (m + 1) i from by rw [lev_succ, if_neg (by rw [HLX.out]; exact hxn)])
            clear hxn
            go_wp2_with fail
            exact ⟨⟨i + 1, by omega, by go_num, by rw [HS.out]; exact HG.out, HBE.out⟩, by simp [intOf]; omega⟩
        · have ki : ¬ (i : Int) < (l.length : Int) := by omega
          obtain rfl : i = l.length := by omega
          have HS := Lib.hid (levs_succ l m)
          go_wp2_with fail
          refine ⟨⟨m + 1, by omega, by go_num, ?_, HBE.out⟩, by simp [intOf]; omega⟩
          rw [HS.out]
          exact HG.out
    · have kk : ¬ (m : Int) + 1 ≤ 12 := by omega
      obtain rfl : m = 12 := by omega
      go_wp2_with fail
      go_ret
      exact ⟨w.heap.size, rfl, by rw [HRR.out]; exact HG.out, Nat.le_refl _, HBE.out⟩
end Go.Proofs.YtnaoonegeboflaaDoor.Kf
