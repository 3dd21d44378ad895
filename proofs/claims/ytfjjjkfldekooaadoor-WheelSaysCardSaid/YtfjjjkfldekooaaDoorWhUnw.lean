/-
  The walk of the reference's Unwheel: the rows by ever more bytes ahead of them, in order.
-/
import Derived.Test.YtfjjjkfldekooaaDoorWhRefT
import Derived.Deep.RegionLaw
namespace Go.Proofs.YtfjjjkfldekooaaDoor.Unw
open Go.RowKit
set_option linter.unusedVariables false
set_option linter.unusedSimpArgs false

theorem step_append_own {P : Program} {ops : Array Oper} {o : Oper} {a : Act} {w : World} {K : Act → World → Prop} {Q : Exit → Act → World → Prop} {E : Prop}
    (hg : o.guard = none) (s x : Operand) (t : TypeId) (hop : o.op = .call { callee := .builtin .append, args := #[s, x], argTypes := #[t, t] })
    (base : Nat) (e : TypeId) (i : TypeInfo) (z : Value) (size bytes : Nat) (ht : P.underlying t = some (.slice e)) (hi : P.info? e = some i) (hz : i.zero = some z)
    (hsize : i.size = size) (hby : i.bytes = bytes) (hzs : z.cells.size = size) (hsz : 0 < size)
    (v : Value) (n : Nat) (xs : List Value) (hs : a.eval s = v) (hown : w.ownsRow base e size v n xs)
    (ad : Addr) (m c : Nat) (news : List Value) (hx : a.eval x = .slice (some ad) m c) (hl : news.length = m * size) (hnews : ∀ j u, news[j]? = some u → w.cell? (ad.add j) = some u) (h1 : ∀ u ∈ news, u.oneCell' = true)
    (h63 : n + m ≤ maxLen) (hbytes : (n + m) * bytes ≤ 140737488355328) (hbase : base ≤ w.heap.size)
    (h : ∀ v' w', w'.ownsRow base e size v' (n + m) (xs ++ news) → w.grownBy w' v.ownBlock → K (a.put o.dst v') w') :
    if Region.wanted o (yielded ops a.tmps) = true then Oper.wp P o a w K Q else E := by
  have hw : Region.wanted o (yielded ops a.tmps) = true := by simp [Region.wanted, hg]
  rw [if_pos hw]
  exact wp_append_own w s x t hop base e i z size bytes ht hi hz hsize hby hzs hsz v n xs hs hown ad m c news hx hl hnews h1 h63 hbytes hbase fun v' w' h2 h3 _ => h v' w' h2 h3

def rowsB (t : ByteArray) (F : List Nat) (m : Nat) : List (List UInt8) := (List.range t.size).map (rowF (bs t) F m)
def nextL (t : ByteArray) (F : List Nat) (m k : Nat) : List UInt8 := byN (bs t) k :: rowF (bs t) F m k
def nextB (t : ByteArray) (F : List Nat) (m i : Nat) : List ByteArray := (List.range i).map fun k => ba (nextL t F m k)
theorem rowsB_zero (t : ByteArray) (F : List Nat) : rowsB t F 0 = List.replicate t.size [] := by
  unfold rowsB
  refine List.ext_getElem (by simp) fun i h1 h2 => ?_
  simp [rowF]
theorem rowsB_length (t : ByteArray) (F : List Nat) (m : Nat) : (rowsB t F m).length = t.size := by simp [rowsB]
theorem rowsB_get (t : ByteArray) (F : List Nat) (m : Nat) {i : Nat} (h : i < t.size) : (rowsB t F m)[i]? = some (rowF (bs t) F m i) := by
  unfold rowsB
  rw [List.getElem?_map, List.getElem?_range h]; rfl
theorem nextB_length (t : ByteArray) (F : List Nat) (m i : Nat) : (nextB t F m i).length = i := by simp [nextB]
theorem nextB_succ (t : ByteArray) (F : List Nat) (m i : Nat) : nextB t F m (i + 1) = nextB t F m i ++ [ba (nextL t F m i)] := by simp [nextB, List.range_succ]
theorem nextB_get (t : ByteArray) (F : List Nat) (m : Nat) {n i : Nat} (h : i < n) : (nextB t F m n)[i]? = some (ba (nextL t F m i)) := by
  unfold nextB
  rw [List.getElem?_map, List.getElem?_range h]; rfl
theorem nextB_bs (t : ByteArray) (F : List Nat) (m n : Nat) : (nextB t F m n).map bs = (List.range n).map (nextL t F m) := by
  unfold nextB
  rw [List.map_map]
  exact List.map_congr_left fun i _ => bs_ba _
theorem nextB_size (t : ByteArray) (F : List Nat) (m n : Nat) (x : ByteArray) (h : x ∈ nextB t F m n) : x.size = m + 1 := by
  unfold nextB at h
  obtain ⟨i, _, rfl⟩ := List.mem_map.1 h
  rw [ba_size]
  unfold nextL
  rw [List.length_cons, rowF_length]
theorem bs_mid (t : ByteArray) (i : Nat) (h : i < t.size) : bs (t.extract i (i + 1)) = [byN (bs t) i] := by
  have e : bs (t.extract i (i + 1)) = ((bs t).drop i).take (i + 1 - i) := by
    show (t.extract i (i + 1)).data.toList = _
    rw [Lib.extract_data]; rfl
  rw [e, show i + 1 - i = 1 by omega, List.drop_eq_getElem_cons (by rw [bs_length]; exact h)]
  unfold byN
  rw [List.getElem?_eq_getElem (by rw [bs_length]; exact h)]
  rfl
theorem next_text (t : ByteArray) (F : List Nat) (m i : Nat) (h : i < t.size) : t.extract i (i + 1) ++ ba (rowF (bs t) F m i) = ba (nextL t F m i) := by
  apply bs_inj
  rw [bs_app, bs_mid t i h, bs_ba, bs_ba]
  rfl
/-- a round -/
theorem round_rows {t : ByteArray} {F : List Nat} (hF : IsFrom (bs t) F) (m : Nat) {o : List Nat} (hO : IsSrt ((nextB t F m t.size).map bs) o) : o.map (nextL t F m) = rowsB t F (m + 1) := by
  rw [nextB_bs] at hO
  have hlen : ((List.range t.size).map (nextL t F m)).length = t.size := by simp
  have hlt : ∀ i ∈ o, i < t.size := fun i hi => by have := List.mem_range.1 (hO.perm.subset hi); omega
  have htx : ∀ i, i < t.size → txt ((List.range t.size).map (nextL t F m)) i = nextL t F m i := fun i hi => by
    unfold txt
    rw [List.getElem?_map, List.getElem?_range hi]; rfl
  have h := rowF_round hF m (o.map (nextL t F m)) (by
    rw [List.pairwise_map]
    refine List.Pairwise.imp_of_mem ?_ hO.sorted
    intro a b ha hb hab
    unfold prec at hab
    rw [htx a (hlt a ha), htx b (hlt b hb)] at hab
    rcases hab with h1 | ⟨h1, _⟩
    · exact bef_asymm h1
    · show leL _ _
      rw [h1]; exact leL_refl _) (by
    rw [bs_length]
    refine (hO.perm.map _).trans (List.Perm.of_eq ?_)
    rw [hlen]; rfl)
  rw [h, bs_length]; rfl
/-- the first i of A, the others of B -/
def mix (A B : List (List UInt8)) (i : Nat) : List (List UInt8) := A.take i ++ B.drop i
theorem mix_zero (A B : List (List UInt8)) : mix A B 0 = B := by simp [mix]
theorem mix_all (A B : List (List UInt8)) (h : B.length ≤ A.length) : mix A B A.length = A := by
  unfold mix
  rw [List.take_of_length_le (Nat.le_refl _), List.drop_of_length_le h, List.append_nil]
theorem mix_set (A B : List (List UInt8)) (i : Nat) (x : List UInt8) (hA : A[i]? = some x) (hB : i < B.length) : (mix A B i).set i x = mix A B (i + 1) := by
  obtain ⟨hi, e⟩ := List.getElem?_eq_some_iff.1 hA
  unfold mix
  rw [List.set_append_right _ _ (by rw [List.length_take]; omega), List.length_take, show i - min i A.length = 0 by omega, List.drop_eq_getElem_cons hB, List.set_cons_zero, List.take_add_one, hA]
  simp

theorem bdrew1 {B : Nat} {a w : World} (h : Below B a w) : Below B a w.drew := h.trans ⟨rfl, rfl, rfl, Nat.le_refl _, fun _ _ => rfl⟩
/-- the world with a row of so many texts more -/
def mkT (w : World) (n : Nat) : World := w.alloc (.cells (texts ((List.replicate n []).map ba)).toArray 9)
set_option maxHeartbeats 1000000 in
set_option maxRecDepth 100000 in
theorem refunwheel_any (t : ByteArray) (F : List Nat) (at0 : Nat) (w : World) (hF : IsFrom (bs t) F) (hs : t.size ≤ 24) (hat : at0 < t.size ∨ t.size = 0) :
    Calls Tryd.prog 9 #[.string t, .int .i64 (at0 : Int)] w fun e w' => e = .returned (.tuple #[.string (outB t F at0), .bool (decide (lasts (outB t F at0) = bs t))]) ∧ Below w.heap.size w w' := by
  obtain ⟨i0, hi0, hz0, hz1, hz2⟩ := info_parts infoStrU
  have hmk : ∀ W : World, (Instr.makeSlice 36 (.int .i64 (t.size : Int)) (.int .i64 (t.size : Int))).run Tryd.prog W = .ok (.slice (some ⟨W.heap.size, 0, none⟩) t.size t.size) (mkT W t.size) := fun W => run_make_texts W (t.size : Int) t.size rfl (by omega)
  have HF := Lib.hid hF
  clear hF
  have hS0 : SBlk (mkT w t.size) w.heap.size (List.replicate t.size []) := SBlk.new w (List.replicate t.size [])
  rw [← rowsB_zero t F] at hS0
  have hB0 : Below w.heap.size w (mkT w t.size) := bnew w _
  have hz : w.heap.size < (mkT w t.size).heap.size := by simp [mkT]
  have HS0 := Lib.hid hS0
  clear hS0
  obtain ⟨u, hu⟩ : ∃ u : ByteArray, u = outB t F at0 := ⟨_, rfl⟩
  obtain ⟨x, hx⟩ : ∃ x : ByteArray, x = ⟨(lasts (outB t F at0)).toArray⟩ := ⟨_, rfl⟩
  obtain ⟨r, hr⟩ : ∃ r, r = decide (lasts (outB t F at0) = bs t) := ⟨_, rfl⟩
  have hdec : (x.toList == t.toList) = r := by
    rw [bs_beq, hx, hr]
    show (lasts (outB t F at0) == bs t) = _
    by_cases h : lasts (outB t F at0) = bs t
    · rw [h]; simp
    · rw [decide_eq_false h]; simpa using h
  have hW := fun W : World => refwheel_any (outB t F at0) W (by rw [outB_size]; exact hs)
  rw [← hx, ← hu] at hW
  rw [← hr, ← hu]
  have HU := Lib.hid hu; have HW := Lib.hid hW; have HDE := Lib.hid hdec
  clear hu hx hr hdec hW
  go_enter Tryd.func9, Tryd.ntmps9
  go_wp2
  clear hmk
  generalize mkT w t.size = W0 at *
  go_loopw [7] (fun v7 wr => ∃ m : Nat, v7 = .int .i64 (m : Int) ∧ m ≤ t.size ∧ Hid (SBlk wr w.heap.size (rowsB t F m)) ∧ Below w.heap.size w wr ∧ w.heap.size < wr.heap.size) (fun v7 _ => t.size - (intOf v7).toNat)
  case atStart => exact ⟨0, rfl, by omega, HS0, hB0, hz⟩
  case round =>
    obtain ⟨m, rfl, hm, HR, hb, hsz⟩ := hrel
    clear hB0 hz HS0
    by_cases hlt : m < t.size
    · have kk : (m : Int) < (t.size : Int) := by omega
      have e1 : IntKind.i64.wrap ((m : Int) + 1) = (m : Int) + 1 := IntWalk.i64_in _ (by omega)
      obtain ⟨wo, hwo⟩ : ∃ wo, wo = wr := ⟨_, rfl⟩
      subst hwo
      go_wp2_with fail
      go_loopw [8, 9] (fun v8 v9 wx => ∃ i : Nat, v9 = .int .i64 (i : Int) ∧ i ≤ t.size ∧ Hid (wx.ownsRow (w.heap.size + 1) 9 1 v8 i (texts (nextB t F m i))) ∧ Hid (SBlk wx w.heap.size (rowsB t F m)) ∧ Below w.heap.size w wx ∧ w.heap.size < wx.heap.size) (fun _ v9 _ => t.size - (intOf v9).toNat)
      case atStart => exact ⟨0, rfl, by omega, Lib.hid (World.ownsRow_nil _ _ _ _), HR, hb, hsz⟩
      case round =>
        obtain ⟨i, rfl, hi, HO, HS, hbx, hszx⟩ := hrel
        clear HR hb hsz
        by_cases hlt2 : i < t.size
        · have k2 : (i : Int) < (t.size : Int) := by omega
          have k3 : (i : Int) + 1 ≤ (t.size : Int) := by omega
          have k4 : (i : Int) ≤ (i : Int) + 1 := by omega
          have e2 : IntKind.i64.wrap ((i : Int) + 1) = (i : Int) + 1 := IntWalk.i64_in _ (by omega)
          have t1 : ((i : Int) + 1).toNat = i + 1 := by omega
          have c0 := HS.out.cell (rowsB_get t F m hlt2)
          obtain ⟨y, hy⟩ : ∃ y, y = ba (rowF (bs t) F m i) := ⟨_, rfl⟩
          have hx := next_text t F m i hlt2
          rw [← hy] at c0 hx
          have hys : y.size = m := by rw [hy, ba_size, rowF_length]
          have hex : (t.extract i (i + 1)).size = 1 := by rw [ByteArray.size_extract]; omega
          have ks : ¬ 9223372036854775807 < (t.extract i (i + 1)).size + y.size := by omega
          have ks2 : ¬ 9223372036854775807 < (min (i + 1) t.size - i) + y.size := by omega
          have ks3 : ¬ 9223372036854775807 < 1 + y.size := by omega
          have ks4 : ¬ 9223372036854775807 < (i + 1 - i) + y.size := by omega
          obtain ⟨z, hzz⟩ : ∃ z, z = t.extract i (i + 1) := ⟨_, rfl⟩
          have HX := Lib.hid hx; have HY := Lib.hid hy
          clear hx hy hys hzz
          go_wp2
          go_region_law (refine step_append_own rfl _ _ 36 rfl (w.heap.size + 1) 9 i0 _ 1 16 Tryd.underlying36 hi0 hz0 hz1 hz2 rfl (by decide) u8 i (texts (nextB t F m i)) rfl (HO.out.alloc _) ⟨_, 0, none⟩ 1 1 [.string (t.extract i (i + 1) ++ y)] rfl rfl (cell_one_new _ _ _) (by intro u hu; simp at hu; subst hu; rfl) (by unfold maxLen; omega) (by omega) (by simp; omega) ?_; intro v2 wA hownA hgrowA)
          all_goals
            go_wp2
            have hge : ∀ k, Value.ownBlock u8 = some k → w.heap.size + 1 ≤ k := fun k hk => (HO.out.lt k hk).1
            refine ⟨⟨i + 1, by go_num, by omega, Lib.hid ?_, Lib.hid ?_, ?_, ?_⟩, by simp [intOf]; omega⟩
            · rw [nextB_succ, ← HX.out]
              simpa [texts] using hownA
            · refine SBlk.kept (show SBlk (wr.alloc (.cells #[.string (t.extract i (i + 1) ++ y)] 9)).drew _ _ from HS.out.alloc _) hgrowA ?_
              intro e
              have := hge _ e.symm
              omega
            · exact Below.grown (bdrew1 (hbx.alloc (by omega) (.cells #[.string (t.extract i (i + 1) ++ y)] 9))) hgrowA (by show w.heap.size ≤ (wr.alloc _).heap.size; simp; omega) (fun k hk => by have := hge k hk; omega)
            · have h9 : (wr.alloc (.cells #[.string (t.extract i (i + 1) ++ y)] 9)).heap.size ≤ wA.heap.size := hgrowA.size
              simp at h9
              omega
        · obtain rfl : i = t.size := by omega
          have k2 : ¬ (t.size : Int) < (t.size : Int) := by omega
          obtain ⟨A, c, hAc⟩ := own_slice HO.out
          subst hAc
          have hso := sorted_any A c (nextB t F m t.size) wr (by rw [nextB_length]; exact Reads.of_own HO.out) (by rw [nextB_length]; omega) (fun x hx => by rw [nextB_size t F m _ x hx]; omega)
          rw [nextB_length] at hso
          have HSO := Lib.hid hso
          clear hso
          go_wp2_with fail
          refine HSO.out.mono ?_
          rintro e w2 ⟨o, hO, ⟨B, d, rfl, hown⟩, hb2⟩
          have hrow := round_rows HF.out m hO
          have hol : o.length = t.size := by rw [hO.perm.length_eq, List.length_range, List.length_map, nextB_length]
          have hlto : ∀ i ∈ o, i < t.size := fun i hi => by have := List.mem_range.1 (hO.perm.subset hi); simpa [nextB_length] using this
          obtain ⟨g1, c1, hg1, hgb1, hgl1⟩ := own_some HO.out (by omega)
          obtain ⟨g2, c2, hg2, hgb2, hgl2⟩ := own_some hown (by omega)
          simp only [Value.slice.injEq, true_and] at hg1 hg2
          obtain ⟨hg1, _⟩ := hg1
          obtain ⟨hg2, _⟩ := hg2
          subst hg1 hg2
          have HR1 := Lib.hid ((Reads.of_own HO.out).below hb2)
          have HR2 := Lib.hid (Reads.of_own hown)
          have HS2 := Lib.hid (HS.out.below hb2 (by omega))
          have hb3 : Below w.heap.size w w2 := hbx.trans (hb2.mono (by omega))
          have hsz2 : w.heap.size < w2.heap.size := Nat.lt_of_lt_of_le hszx hb2.size
          have hgl1' := Nat.lt_of_lt_of_le hgl1 hb2.size
          have HRW := Lib.hid hrow; have HOL := Lib.hid hol; have HLT := Lib.hid hlto
          clear hO hown hb2 hrow hol hlto HSO HO HS hbx hgl1
          go_wp2_with fail
          go_loopw [11] (fun v11 wz => ∃ i : Nat, v11 = .int .i64 (i : Int) ∧ i ≤ t.size ∧ Hid (SBlk wz w.heap.size (mix (rowsB t F (m + 1)) (rowsB t F m) i)) ∧ w2.grownBy wz (some w.heap.size)) (fun v11 _ => t.size - (intOf v11).toNat)
          case atStart => exact ⟨0, rfl, by omega, Lib.hid (by rw [mix_zero]; exact HS2.out), grown_drew w2 0 _⟩
          case round =>
            obtain ⟨i, rfl, hi, HM, hgz⟩ := hrel
            clear HS2
            by_cases hlt3 : i < t.size
            · have k5 : (i : Int) < (t.size : Int) := by omega
              have e2 : IntKind.i64.wrap ((i : Int) + 1) = (i : Int) + 1 := IntWalk.i64_in _ (by omega)
              obtain ⟨p, hp⟩ : ∃ p, o[i]? = some p := ⟨_, List.getElem?_eq_getElem (by have := HOL.out; omega)⟩
              have hpl := HLT.out p (List.mem_of_getElem? hp)
              obtain ⟨b1, o1, ea1, hl1, hc1⟩ := HR1.out.2 (by omega)
              obtain ⟨b2, o2, ea2, hl2, hc2⟩ := HR2.out.2 (by omega)
              simp only [Option.some.injEq, Addr.mk.injEq, and_true] at ea1 ea2
              obtain ⟨ea1, eo1⟩ := ea1
              obtain ⟨ea2, eo2⟩ := ea2
              subst ea1 ea2 eo1 eo2
              have d2 := hc2 i (.int .i64 (p : Int)) (by rw [ints_get]; unfold natsI; rw [List.getElem?_map, hp]; rfl)
              have d1 := hc1 p (.string (ba (nextL t F m p))) (by rw [texts_get, nextB_get t F m hpl]; rfl)
              rw [Nat.zero_add] at d1 d2
              have c2 : wr.cell? ⟨g2, i, none⟩ = some (.int .i64 (p : Int)) := (World.cell?_of_block (w := w2) (a := ⟨g2, i, none⟩) (hgz.block g2 hgl2 (by intro e; have := Option.some.inj e; omega))).trans d2
              have c1 : wr.cell? ⟨g1, p, none⟩ = some (.string (ba (nextL t F m p))) := (World.cell?_of_block (w := w2) (a := ⟨g1, p, none⟩) (hgz.block g1 hgl1' (by intro e; have := Option.some.inj e; omega))).trans d1
              have hmi : (mix (rowsB t F (m + 1)) (rowsB t F m) i).length = t.size := by unfold mix; rw [List.length_append, List.length_take, List.length_drop, rowsB_length, rowsB_length]; omega
              obtain ⟨z0, hz0'⟩ : ∃ z0, (mix (rowsB t F (m + 1)) (rowsB t F m) i)[i]? = some z0 := ⟨_, List.getElem?_eq_getElem (by omega)⟩
              have c3 := HM.out.cell hz0'
              have f3 := HM.out.frozen i
              have hri : (rowsB t F (m + 1))[i]? = some (nextL t F m p) := by rw [← HRW.out, List.getElem?_map, hp]; rfl
              have HMS := Lib.hid (mix_set (rowsB t F (m + 1)) (rowsB t F m) i _ hri (by rw [rowsB_length]; exact hlt3))
              have HSN := Lib.hid (HM.out.set_ i (nextL t F m p))
              have kp : (p : Int) < (t.size : Int) := by omega
              clear hc1 hc2 d1 d2 hp hmi hz0' hri HM
              go_wp2
              refine ⟨⟨i + 1, by go_num, by omega, Lib.hid ?_, grown_trans hgz (grown_set' _ _ _ _)⟩, by simp [intOf]; omega⟩
              rw [← HMS.out]
              exact HSN.out
            · obtain rfl : i = t.size := by omega
              have k5 : ¬ (t.size : Int) < (t.size : Int) := by omega
              have hfin := HM.out
              have hma := mix_all (rowsB t F (m + 1)) (rowsB t F m) (by rw [rowsB_length, rowsB_length]; omega)
              rw [rowsB_length] at hma
              rw [hma] at hfin
              have HFI := Lib.hid hfin
              have hb4 : Below w.heap.size w wr := hb3.grown hgz (by omega) (fun k hk => by have : w.heap.size = k := Option.some.inj hk; omega)
              have hsz4 := hgz.size
              clear hfin hma HM hgz hb3
              go_wp2
              exact ⟨⟨m + 1, by go_num, by omega, HFI, hb4, by omega⟩, by simp [intOf]; omega⟩
    · obtain rfl : m = t.size := by omega
      have kk : ¬ (t.size : Int) < (t.size : Int) := by omega
      have hdec := HDE.out
      by_cases h0 : t.size = 0
      · have k0 : ¬ (0 : Int) < (t.size : Int) := by omega
        have hue : u = ⟨#[]⟩ := by rw [HU.out]; exact bs_inj (List.eq_nil_of_length_eq_zero (by rw [bs_length, outB_size, h0]))
        have hw := HW.out wr
        rw [hue] at hw
        have HW2 := Lib.hid hw; have HUE := Lib.hid hue
        clear hw h0 hue
        go_wp2_with fail
        refine HW2.out.mono ?_
        rintro e w5 ⟨⟨j, rfl, _⟩, hb5⟩
        go_wp2
        go_ret2
        exact ⟨by rw [HUE.out]; rfl, bnext hb hb5⟩
      · have k0 : (0 : Int) < (t.size : Int) := by omega
        have ka : (at0 : Int) < (t.size : Int) := by omega
        have c0 := HR.out.cell (rowsB_get t F t.size (i := at0) (by omega))
        have hou : ba (rowF (bs t) F t.size at0) = outB t F at0 := rfl
        rw [hou, ← HU.out] at c0
        have HW2 := Lib.hid (HW.out wr)
        clear hou
        go_wp2_with fail
        refine HW2.out.mono ?_
        rintro e w5 ⟨⟨j, rfl, _⟩, hb5⟩
        go_wp2
        go_ret2
        exact ⟨rfl, bnext hb hb5⟩
end Go.Proofs.YtfjjjkfldekooaaDoor.Unw
