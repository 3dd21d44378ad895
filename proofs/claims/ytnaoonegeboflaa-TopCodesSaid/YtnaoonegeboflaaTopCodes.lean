/-
  The walk of the law TopCodes: for all weights and all choices; no condition.
-/
import Derived.Test.YtnaoonegeboflaaTcNo
namespace Go.Proofs.Ytnaoonegeboflaa.topCodes
open Go.RowKit Hf Kf Tc
set_option linter.unusedVariables false
set_option linter.unusedSimpArgs false

theorem wrote_snoc (ws : List (List UInt8)) (P : List Nat) (i : Nat) : wrote ws (P ++ [i]) = wrote ws P ++ ws[i]?.getD [] := by simp [wrote]
theorem natI_one (P : List Nat) (i : Nat) : natI (P ++ [i]) = natI P ++ [(i : Int)] := by simp [natI]
theorem natI_length (P : List Nat) : (natI P).length = P.length := by simp [natI]
theorem bs_sum (s t : ByteArray) : bs (s ++ t) = bs s ++ bs t := by simp [bs]

set_option maxHeartbeats 2000000 in
set_option maxRecDepth 100000 in
theorem walk_ok (w : World) (A : Option Addr) (c : Nat) (l : List Int) (hr : Reads w A l.length 1 (ints l)) (hck : ck l = 0) (h2 : 2 ≤ l.length) (h6 : l.length ≤ 6) (B : Option Addr) (d : Nat) (q : List Int) (hq : Reads w B q.length 1 (ints q)) (hqm : q.length * 8 ≤ 140737488351232) :
    Calls Try.prog 5 #[.slice A l.length c, .slice B q.length d] w fun e w' => e = .returned (.bool true) ∧ Below w.heap.size w w' := by
  obtain ⟨i0, hi0, hz0, hz1, hz2⟩ := info_parts infoI64
  have HL := Lib.hid (fun W (h : Below w.heap.size w W) => long_ok A c l W (hr.below h) hck)
  obtain ⟨hin, hroom⟩ := lens_in hck h2 h6
  have hll := lens_length l
  obtain ⟨hcl, hfr, htc, hc8⟩ := codes_fine hin hroom (by omega)
  obtain ⟨m, hm⟩ : ∃ m, m = lens l := ⟨_, rfl⟩
  rw [← hm] at HL hll hcl hfr htc hc8 hroom hin
  have HCO := Lib.hid (fun (W : World) (g : Nat) (h : Reads W (some ⟨g, 0, none⟩) m.length 1 (ints m)) => codes_ok (some ⟨g, 0, none⟩) m.length m W h hcl (by omega))
  have hcn := codes_length m
  rw [hll] at HCO hcn
  obtain ⟨cs, hcs⟩ : ∃ cs, cs = codesOf m := ⟨_, rfl⟩
  rw [← hcs] at HCO hfr htc hc8 hcn
  obtain ⟨L, hL⟩ : ∃ L : List ByteArray, L = cs.map ba := ⟨_, rfl⟩
  have hLb : L.map bs = cs := by rw [hL]; exact map_bs_ba cs
  have hLl : L.length = l.length := by rw [hL, List.length_map, hcn]
  have hLs : ∀ s ∈ L, s.size ≤ 8 := fun s hs => by
    rw [hL] at hs
    obtain ⟨x, hx, rfl⟩ := List.mem_map.1 hs
    rw [ba_size]
    exact hc8 x hx
  have hLm : ∀ s ∈ L, s.size ≤ maxLen := fun s hs => by have := hLs s hs; unfold maxLen; omega
  obtain ⟨n, hn⟩ : ∃ n, n = l.length := ⟨_, rfl⟩
  rw [← hn] at hLl hcn HCO HL h2 h6 ⊢
  have HFR := Lib.hid (fun (W : World) (g : Nat) (h : Reads W (some ⟨g, 0, none⟩) n 1 (texts L)) => by
    have := free_ok (some ⟨g, 0, none⟩) n L W (by rw [hLl]; exact h) (by rw [hLl]; unfold maxLen; omega) (by omega) hLm (by rw [hLb]; exact htc)
    rw [hLb, (frB_iff cs).2 hfr, hLl] at this
    exact this)
  have HAP : Hid (∀ (W : World) (g : Nat), Reads W (some ⟨g, 0, none⟩) n 1 (texts L) → Calls Try.prog 7 #[.slice (some ⟨g, 0, none⟩) n n] W fun e w' => e = .returned (.tuple #[.bool true, .nilIface]) ∧ Below W.heap.size W w') := Lib.hid (fun W g h => by
    have := apart_ok (some ⟨g, 0, none⟩) n L W (by rw [hLl]; exact h) (by rw [hLl]; unfold maxLen; omega) (by omega) hLm (by rw [hLb]; exact htc)
    rw [hLb, hLl] at this
    refine this.mono ?_
    rintro e w' ⟨b, rfl, hb, hB⟩
    rw [hb.2 (fr_not hfr)]
    exact ⟨rfl, hB⟩)
  have HCU := Lib.hid (fun (W : World) (g : Nat) (h : Reads W (some ⟨g, 0, none⟩) n 1 (texts L)) (t : ByteArray) (ht : t.size ≤ 24) (P : List Nat) (hP : bs t = wrote cs P) (hPi : ∀ i ∈ P, i < n) (hPl : P.length ≤ 24) => by
    have := cut_in (some ⟨g, 0, none⟩) n L W (by rw [hLl]; exact h) (by omega) (by rw [hLb]; exact htc) (by rw [hLb]; exact hfr) t ht P (by rw [hLb]; exact hP) (by rw [hLl]; exact hPi) hPl
    rw [hLl] at this
    exact this)
  have HSB := Lib.hid (fun (W : World) (g : Nat) (h : SBlk W g cs) => by
    have := h.reads
    rw [← hL, hcn] at this
    exact this)
  have HLb := Lib.hid hLb; have HLs := Lib.hid hLs; have HLl := Lib.hid hLl; have HQ := Lib.hid hq
  have kn2 : ¬ (n : Int) < 2 := by omega
  have kn6 : ¬ (6 : Int) < (n : Int) := by omega
  have kn0 : (2 : Int) ≤ (n : Int) := by omega
  have kn7 : (n : Int) ≤ 6 := by omega
  have en : IntKind.i64.wrap ((n : Int) - 1) = (n : Int) - 1 := IntWalk.i64_in _ (by omega)
  have HMN := Lib.hid (hll.trans hn.symm)
  clear hr hck hq hin hroom hll hcl hfr htc hc8 hm hcs hL hLb hLl hLs hLm hcn hn h2 h6
  go_enter Try.func5, Try.ntmps5
  go_wp2_with fail
  refine (HL.out _ (Below.refl _ _)).mono ?_
  rintro e w1 ⟨G1, rfl, hG1, hG1g, hb1⟩
  go_wp2_with fail
  refine (long_two _ _ (reads_new w1 3 (ints [1, 2]) 2 1 rfl)).mono ?_
  rintro e w2 ⟨G, rfl, hG, hGg, hb2⟩
  have hb := bnext (bmore hb1 _) hb2
  have hG1 := hG1.below (bnext (bnew _ _) hb2) hG1.lt
  clear hb2 hb1
  go_wp2_with fail
  refine (ints_any (some ⟨G, 0, none⟩) (some ⟨w2.heap.size, 0, none⟩) 2 2 [1, 1] [1, 1] _ (hG.alloc _).reads (reads_new w2 3 (ints [1, 1]) 2 1 rfl) (by decide)).mono ?_
  rintro e w3 ⟨rfl, hb3⟩
  have hG1 := hG1.below (bnext (bnew _ _) hb3) hG1.lt
  have hb := bnext (bmore hb _) hb3
  clear hb3 hG hGg
  go_wp2_with fail
  refine (HCO.out _ G1 (by have := hG1.reads; rw [HMN.out] at this; exact this)).mono ?_
  rintro e w4 ⟨K, rfl, hK, hKg, hb4⟩
  have hb := bnext hb hb4
  clear hb4 hG1 hG1g
  go_wp2_with fail
  refine (HFR.out _ K (HSB.out _ _ hK)).mono ?_
  rintro e w5 ⟨rfl, hb5⟩
  have hK := hK.below hb5 hK.lt
  have hb := bnext hb hb5
  clear hb5
  go_wp2_with fail
  refine (HAP.out _ K (HSB.out _ _ hK)).mono ?_
  rintro e w6 ⟨rfl, hb6⟩
  have hK := hK.below hb6 hK.lt
  have hb := bnext hb hb6
  clear hb6 hKg
  go_wp2
  go_loopw [14, 15, 16, 93, 94, 95, 96, 97, 98, 99, 100, 101, 102, 103, 104, 105, 106, 107, 108, 109, 110, 111, 112, 113, 114, 115, 116, 117, 118, 119, 120, 121, 122, 123, 124, 125, 126, 127, 128, 129, 130, 131, 132, 133, 134, 135, 136, 137, 138, 139] (fun v14 v15 v16 _ _ _ _ _ _ _ _ _ _ _ _ _ _ _ _ _ _ _ _ _ _ _ _ _ _ _ _ _ _ _ _ _ _ _ _ _ _ _ _ _ _ _ _ _ _ _ wr => ∃ (k : Nat) (P : List Nat) (t : ByteArray), v16 = .int .i64 (k : Int) ∧ v14 = .string t ∧ k ≤ q.length ∧ k ≤ 8 ∧ P.length ≤ k ∧ t.size ≤ 24 ∧ Hid (bs t = wrote cs P) ∧ Hid (∀ i ∈ P, i < n) ∧ wr.ownsRow w6.heap.size 3 1 v15 P.length (ints (natI P)) ∧ Below w6.heap.size w6 wr) (fun _ _ v16 _ _ _ _ _ _ _ _ _ _ _ _ _ _ _ _ _ _ _ _ _ _ _ _ _ _ _ _ _ _ _ _ _ _ _ _ _ _ _ _ _ _ _ _ _ _ _ _ => 8 - (intOf v16).toNat)
  case atStart => exact ⟨0, [], ⟨#[]⟩, rfl, rfl, by omega, by omega, by simp, by decide, Lib.hid rfl, Lib.hid (by simp), World.ownsRow_nil _ _ _ _, Below.refl _ _⟩
  case round =>
    obtain ⟨k, P, t, rfl, rfl, hkq, hk8, hPk, ht, HT, HPI, hown, hbr⟩ := hrel
    by_cases hlt : k < q.length ∧ k < 8
    · obtain ⟨h1, h8⟩ := hlt
      have k1 : (k : Int) < (q.length : Int) := by omega
      have k2 : (k : Int) < 8 := by omega
      have e1 : IntKind.i64.wrap ((k : Int) + 1) = (k : Int) + 1 := IntWalk.i64_in _ (by omega)
      have hqr := HQ.out.below (bnext hb hbr)
      obtain ⟨qb, qo, rfl, hqb, hqc⟩ := hqr.2 (by omega)
      obtain ⟨y, hy⟩ : ∃ y, q[k]? = some y := ⟨_, List.getElem?_eq_getElem h1⟩
      have c0 := hqc k (.int .i64 y) (by rw [ints, List.getElem?_map, hy]; rfl)
      have HQY := Lib.hid hy
      clear hqc hy hqr
      by_cases hyn : 0 ≤ y ∧ y ≤ (n : Int) - 1
      · obtain ⟨i, rfl⟩ := Int.eq_ofNat_of_zero_le hyn.1
        have hin : i < n := by omega
        have HI := Lib.hid (in_is (i : Int) 0 ((n : Int) - 1) true (decide_eq_true hyn))
        obtain ⟨x, hx⟩ : ∃ x, L[i]? = some x := ⟨_, List.getElem?_eq_getElem (by have := HLl.out; omega)⟩
        have hx8 := HLs.out x (List.mem_of_getElem? hx)
        have hcx : cs[i]?.getD [] = bs x := by rw [← HLb.out, List.getElem?_map, hx]; rfl
        obtain ⟨b', o', eq', _, hcc'⟩ := (HSB.out _ _ (hK.below hbr hK.lt)).2 (by omega)
        cases eq'
        have c1 := hcc' i (.string x) (by rw [texts_get, hx]; rfl)
        rw [Nat.zero_add] at c1
        clear hcc' hyn
        have ki : (i : Int) < (n : Int) := by omega
        have kx : (x.size : Int) ≤ 8 := by omega
        have kt : (t.size : Int) ≤ 24 := by omega
        have e3 : IntKind.i64.wrap ((t.size : Int) + (x.size : Int)) = (t.size : Int) + (x.size : Int) := IntWalk.i64_in _ (by omega)
        by_cases hsum : t.size + x.size ≤ 24
        · have k4 : (t.size : Int) + (x.size : Int) ≤ 24 := by omega
          have HTS := Lib.hid (show bs (t ++ x) = wrote cs (P ++ [i]) by rw [wrote_snoc, hcx, bs_sum, HT.out])
          have hts : (t ++ x).size = t.size + x.size := ByteArray.size_append ..
          have HSZ := Lib.hid hts
          have HPN : Hid (∀ z ∈ P ++ [i], z < n) := Lib.hid (fun z hz => by
            rcases List.mem_append.1 hz with h | h
            · exact HPI.out z h
            · simp at h
              omega)
          have HCX := Lib.hid hcx; have HX := Lib.hid hx
          clear hcx hx hts hsum
          go_wp2_with (first
            | (go_at_call 15; refine (HI.out _).mono ?_; rintro e w' ⟨rfl, rfl⟩)
            | (at_builtin; go_must (refine append_own _ rfl _ _ 23 rfl w6.heap.size 3 i0 _ 1 8 Try.underlying23 hi0 hz0 hz1 hz2 rfl (by decide) _ _ _ rfl (hown.alloc _) ⟨wr.heap.size, 0, none⟩ 1 1 [.int .i64 (i : Int)] rfl rfl (cell_one_new _ _ _) (one_int2 _) (by unfold maxLen; omega) (by omega) (by have := hbr.size; simp; omega) (by decide) ?_); intro g1 cap1 wA hown1 hg1 hg1' hgrow1))
          exact ⟨⟨k + 1, P ++ [i], t ++ x, by simp, rfl, by omega, by omega, by simp; omega, by have := HSZ.out; omega, HTS, HPN, by rw [natI_one]; simpa [ints] using hown1, (bmore hbr _).grown hgrow1 (by have := hbr.size; simp; omega) (fun j hj => (hown.lt j hj).1)⟩, by simp [intOf]; omega⟩
        · have k4 : ¬ (t.size : Int) + (x.size : Int) ≤ 24 := by omega
          have HCX := Lib.hid hcx; have HX := Lib.hid hx
          clear hcx hx hsum
          go_wp2_with (first
            | (go_at_call 15; refine (HI.out _).mono ?_; rintro e w' ⟨rfl, rfl⟩))
          exact ⟨⟨k + 1, P, t, by simp, rfl, by omega, by omega, by omega, ht, HT, HPI, hown, hbr⟩, by simp [intOf]; omega⟩
      · have HI := Lib.hid (in_is y 0 ((n : Int) - 1) false (decide_eq_false hyn))
        clear hyn
        go_wp2_with (first
          | (go_at_call 15; refine (HI.out _).mono ?_; rintro e w' ⟨rfl, rfl⟩))
        go_ret
        exact ⟨rfl, bnext hb hbr⟩
    · obtain ⟨Q, cQ, rfl⟩ := own_slice hown
      have HCT := Lib.hid (HCU.out _ K (HSB.out _ _ (hK.below hbr hK.lt)) t ht P HT.out HPI.out (by omega))
      have hrd := Reads.of_own hown
      have HN := Lib.hid (natI_length P)
      by_cases h1 : k < q.length
      · have k1 : (k : Int) < (q.length : Int) := by omega
        have k2 : ¬ (k : Int) < 8 := by omega
        clear hlt hown
        go_wp2_with fail
        refine HCT.out.mono ?_
        rintro e w7 ⟨⟨A7, c7, rfl, hc7, hr7⟩, hb7⟩
        have HIN := Lib.hid (fun W (h : Below w7.heap.size w7 W) => by
          have := ints_any A7 Q c7 cQ (natI P) (natI P) W (by rw [HN.out]; exact hr7.below h) (by rw [HN.out]; exact (hrd.below hb7).below h) (by rw [HN.out]; unfold maxLen; omega)
          rw [HN.out, decide_eq_true rfl] at this
          exact this)
        go_wp2_with fail
        refine (HIN.out _ (Below.refl _ _)).mono ?_
        rintro e w8 ⟨rfl, hb8⟩
        go_wp2_with fail
        go_ret
        exact ⟨rfl, bnext (bnext (bnext hb hbr) hb7) hb8⟩
      · have k1 : ¬ (k : Int) < (q.length : Int) := by omega
        clear hlt hown
        go_wp2_with fail
        refine HCT.out.mono ?_
        rintro e w7 ⟨⟨A7, c7, rfl, hc7, hr7⟩, hb7⟩
        have HIN := Lib.hid (fun W (h : Below w7.heap.size w7 W) => by
          have := ints_any A7 Q c7 cQ (natI P) (natI P) W (by rw [HN.out]; exact hr7.below h) (by rw [HN.out]; exact (hrd.below hb7).below h) (by rw [HN.out]; unfold maxLen; omega)
          rw [HN.out, decide_eq_true rfl] at this
          exact this)
        go_wp2_with fail
        refine (HIN.out _ (Below.refl _ _)).mono ?_
        rintro e w8 ⟨rfl, hb8⟩
        go_wp2_with fail
        go_ret
        exact ⟨rfl, bnext (bnext (bnext hb hbr) hb7) hb8⟩
theorem walk (w : World) (A : Option Addr) (c : Nat) (l : List Int) (s : l.length * 8 ≤ 140737488351232) (f : ∀ n ∈ l, -9223372036854775808 ≤ n ∧ n ≤ 9223372036854775807) (i : Reads w A l.length 1 (l.map (Value.int .i64)) ∧ l.length ≤ c) (B : Option Addr) (d : Nat) (q : List Int) (sq : q.length * 8 ≤ 140737488351232) (fq : ∀ n ∈ q, -9223372036854775808 ≤ n ∧ n ≤ 9223372036854775807) (iq : Reads w B q.length 1 (q.map (Value.int .i64)) ∧ q.length ≤ d) :
    Calls Try.prog 5 #[.slice A l.length c, .slice B q.length d] w fun e w' => e = .returned (.bool true) ∧ Below w.heap.size w w' := by
  by_cases hck : ck l = 0
  · by_cases hf : l.length < 2 ∨ 6 < l.length
    · exact walk_few w A c l i.1 hck hf B q.length d
    · exact walk_ok w A c l i.1 hck (by omega) (by omega) B d q iq.1 sq
  · exact walk_no w A c l i.1 (by unfold maxLen; omega) hck B q.length d
end Go.Proofs.Ytnaoonegeboflaa.topCodes
