/-
  The walks of the reference's min and Table (letterbeckref2).
-/
import Derived.Test.YtjlgjadkcpdpmaaDoorEdTab
import Derived.Test.YtjlgjadkcpdpmaaDoorCoWithin
import Derived.Deep.AppendLies
import Derived.Deep.RegionLaw
import Derived.Deep.RegionHeld3
namespace Go.Proofs.YtjlgjadkcpdpmaaDoor.Ed
open Go.RowKit Co
set_option linter.unusedVariables false

theorem min_any (a b c : Int) (w : World) : Calls Tryd.prog 20 #[.int .i64 a, .int .i64 b, .int .i64 c] w fun e w' => e = .returned (.int .i64 (min (min a b) c)) ∧ w = w' := by
  by_cases h1 : b < a
  · by_cases h2 : c < b
    · go_enter Tryd.func20, Tryd.ntmps20
      go_wp2
      go_ret
      exact ⟨ret_int (by omega), rfl⟩
    · go_enter Tryd.func20, Tryd.ntmps20
      go_wp2
      go_ret
      exact ⟨ret_int (by omega), rfl⟩
  · by_cases h2 : c < a
    · go_enter Tryd.func20, Tryd.ntmps20
      go_wp2
      go_ret
      exact ⟨ret_int (by omega), rfl⟩
    · go_enter Tryd.func20, Tryd.ntmps20
      go_wp2
      go_ret
      exact ⟨ret_int (by omega), rfl⟩
/-- the table as it is in the end -/
def LTab (B : Nat) (w : World) (v : Value) (a b : ByteArray) (gs : List Nat) : Prop :=
  gs.length = a.size + 1 ∧ GTab B w v b.size gs (fun i j => (lev ((bs a).drop i) ((bs b).drop j) : Nat))
theorem GTab.congr {B m : Nat} {w : World} {v : Value} {gs : List Nat} {f f' : Nat → Nat → Int} (h : GTab B w v m gs f) (he : ∀ i j, i < gs.length → j ≤ m → f i j = f' i j) : GTab B w v m gs f' :=
  ⟨h.own, fun r g hg => by
    obtain ⟨l, h1, h2, h3⟩ := h.row r g hg
    exact ⟨l, h1, h2, fun j hj => by rw [h3 j hj, he r j (List.getElem?_eq_some_iff.1 hg).1 hj]⟩, h.apart, h.out, h.ge⟩
set_option maxRecDepth 100000 in
set_option maxHeartbeats 4000000 in
theorem table_any (a b : ByteArray) (w : World) (ha : a.size ≤ 24) (hb : b.size ≤ 24) :
    Calls Tryd.prog 12 #[.string a, .string b] w fun e w' => ∃ v gs, e = .returned v ∧ LTab w.heap.size w' v a b gs ∧ Below w.heap.size w w' := by
  obtain ⟨i1, hj, hy0, hy1, hy2⟩ := info_parts infoSl
  have hmk := fun w => run_make_ints w ((b.size : Int) + 1) (b.size + 1) (by push_cast; rfl) (by omega)
  have hLa := bs_length a
  have hLb := bs_length b
  have hend : ∀ j, j ≤ b.size → (lev ((bs a).drop a.size) ((bs b).drop j) : Int) = (b.size : Int) - (j : Int) := fun j hj => by
    rw [show (bs a).drop a.size = [] from List.drop_of_length_le (by omega), lev_nil, List.length_drop]; omega
  have hend2 : ∀ i, i ≤ a.size → (lev ((bs a).drop i) ((bs b).drop b.size) : Int) = (a.size : Int) - (i : Int) := fun i hi => by
    rw [show (bs b).drop b.size = [] from List.drop_of_length_le (by omega), lev_nil_right, List.length_drop]; omega
  have hlv : ∀ i j, lev ((bs a).drop i) ((bs b).drop j) ≤ 48 := fun i j => by
    have := lev_high ((bs a).drop i) ((bs b).drop j)
    rw [List.length_drop, List.length_drop] at this
    omega
  have hrec : ∀ i j (hi : i < a.size) (hj : j < b.size), (lev ((bs a).drop i) ((bs b).drop j) : Int) = min (min ((lev ((bs a).drop (i + 1)) ((bs b).drop j) : Int) + 1) ((lev ((bs a).drop i) ((bs b).drop (j + 1)) : Int) + 1)) ((lev ((bs a).drop (i + 1)) ((bs b).drop (j + 1)) : Int) + (if a[i] = b[j] then 0 else 1)) := fun i j hi hj => by
    rw [bs_drop a i hi, bs_drop b j hj]
    exact lev_ref _ _ _ _
  have HE1 := Lib.hid hend; have HE2 := Lib.hid hend2; have HLV := Lib.hid hlv; have HREC := Lib.hid hrec
  clear hend hend2 hlv hrec hLa hLb
  go_enter Tryd.func12, Tryd.ntmps12
  go_wp2
  go_loopw [5, 6] (fun v i wr => ∃ (k : Nat) (gs : List Nat) (v0 : Value), k ≤ a.size + 1 ∧ i = .int .i64 k ∧ v0 = v ∧ gs.length = k ∧ GTab w.heap.size wr v0 b.size gs (fun _ _ => 0) ∧ Below w.heap.size w wr) (fun _ i _ => a.size + 1 - (intOf i).toNat)
  case atStart => exact ⟨0, [], _, Nat.zero_le _, rfl, rfl, rfl, GTab.nil _ _ _ _, Below.refl _ _⟩
  case round =>
    obtain ⟨k, gs, v, hk, rfl, rfl, hgl, ht, hbel⟩ := hrel
    have hsz := hbel.size
    by_cases hle : k ≤ a.size
    · have hown := ht.own
      rw [hgl] at hown
      have HT := Lib.hid ht
      have HGL := Lib.hid hgl
      have g1 : (k : Int) ≤ (a.size : Int) := by omega
      clear ht hgl
      go_wp2_with (at_builtin; go_must (refine wpList_append_lies _ rfl _ _ 35 rfl w.heap.size 34 i1 _ 1 24 Tryd.underlying35 hj hy0 hy1 hy2 rfl (by omega) _ _ _ rfl ((hown.alloc _).alloc _) ⟨wr.heap.size + 1, 0, none⟩ 1 1 [.slice (some ⟨wr.heap.size, 0, none⟩) (b.size + 1) (b.size + 1)] rfl rfl (by simpa using cell_one_new (wr.alloc _) _ _) (slice_oneCell _ _ _) (by omega) (by unfold maxLen; omega) (by omega) (by simp; omega) (wr.heap.size + 2) (by simp) ?_); intro g2 cap2 w2 hown2 hgrow2 hat2 hlt2)
      refine ⟨⟨k + 1, gs ++ [wr.heap.size], _, by omega, by go_num, rfl, by rw [List.length_append, HGL.out]; rfl, ?_, ((hbel.alloc hsz _).alloc (by simp; omega) _).grown hgrow2 (by simp; omega) (fun j hj => (hown.lt j hj).1)⟩, by simp [intOf]; omega⟩
      have := HT.out.push hsz hgrow2 (by rw [HGL.out]; exact hown2) hat2
      rw [HGL.out] at this
      exact this
    · obtain rfl : k = a.size + 1 := by omega
      obtain ⟨g0, cap0, e, hg0, _⟩ := own_some ht.own (by omega)
      rw [hgl] at e
      subst e
      have g1 : ¬ ((a.size : Int) + 1 ≤ (a.size : Int)) := by omega
      have HT := Lib.hid ht
      have HGL := Lib.hid hgl
      have hbl0 := hbel
      clear ht hgl hmk
      rw [show ((a.size + 1 : Nat) : Int) = (a.size : Int) + 1 by push_cast; rfl]
      go_wp2
      obtain ⟨wo, hwo⟩ : ∃ wo : World, wo = wr := ⟨_, rfl⟩
      go_loopw [7] (fun i wr => ∃ (I : Nat) (f : Nat → Nat → Int), I ≤ a.size + 1 ∧ i = .int .i64 ((I : Int) - 1) ∧ GTab w.heap.size wr (.slice (some ⟨g0, 0, none⟩) (a.size + 1) cap0) b.size gs f ∧ Hid (∀ i' j', I ≤ i' → i' ≤ a.size → j' ≤ b.size → f i' j' = (lev ((bs a).drop i') ((bs b).drop j') : Nat)) ∧ Below w.heap.size w wr) (fun i _ => (intOf i + 1).toNat)
      case atStart => exact ⟨a.size + 1, _, Nat.le_refl _, by push_cast; simp, HT.out, Lib.hid (fun i' j' h1 h2 _ => by omega), hbl0⟩
      case round =>
        clear HT hwo hbel hbl0 hsz
        obtain ⟨I, f, hI, rfl, ht, HF, hbel⟩ := hrel
        cases I with
        | zero =>
          have HT := Lib.hid ht
          clear ht
          go_wp2
          go_ret
          refine ⟨_, gs, rfl, ⟨HGL.out, HT.out.congr fun i j h1 h2 => HF.out i j (Nat.zero_le _) (by have := HGL.out; omega) h2⟩, hbel⟩
        | succ i =>
          rw [show ((i + 1 : Nat) : Int) - 1 = (i : Int) by push_cast; omega]
          have hia : i ≤ a.size := by omega
          have HT := Lib.hid ht
          clear ht
          go_wp2
          obtain ⟨wo, hwo⟩ : ∃ wo : World, wo = wr := ⟨_, rfl⟩
          go_loopw [8] (fun j wr => ∃ (J : Nat) (f : Nat → Nat → Int), J ≤ b.size + 1 ∧ j = .int .i64 ((J : Int) - 1) ∧ GTab w.heap.size wr (.slice (some ⟨g0, 0, none⟩) (a.size + 1) cap0) b.size gs f ∧ Hid (∀ i' j', (i < i' ∨ (i' = i ∧ J ≤ j')) → i' ≤ a.size → j' ≤ b.size → f i' j' = (lev ((bs a).drop i') ((bs b).drop j') : Nat)) ∧ Below w.heap.size w wr) (fun j _ => (intOf j + 1).toNat)
          case atStart => exact ⟨b.size + 1, f, Nat.le_refl _, by push_cast; simp, HT.out, Lib.hid (fun i' j' h1 h2 h3 => HF.out i' j' (by omega) h2 h3), hbel⟩
          case round =>
            clear HT HF hwo hbel
            obtain ⟨J, f, hJ, rfl, ht, HF, hbel⟩ := hrel
            cases J with
            | zero =>
              have HT := Lib.hid ht
              clear ht
              go_wp2
              refine ⟨⟨i, f, by omega, rfl, HT.out, Lib.hid (fun i' j' h1 h2 h3 => HF.out i' j' (by omega) h2 h3), hbel⟩, by simp [intOf]⟩
            | succ j =>
              rw [show ((j + 1 : Nat) : Int) - 1 = (j : Int) by push_cast; omega]
              have hjb : j ≤ b.size := by omega
              obtain ⟨gi, hgi⟩ : ∃ g, gs[i]? = some g := ⟨_, List.getElem?_eq_getElem (by have := HGL.out; omega)⟩
              have sl0 : wr.cell? ⟨g0, i, none⟩ = some (.slice (some ⟨gi, 0, none⟩) (b.size + 1) (b.size + 1)) := ht.slice (g0 := g0) (cap := cap0) (by rw [HGL.out]) hgi
              have n00 := ht.num hgi hjb
              have fr := ht.frozen hgi j
              have hgeB := ht.ge i gi hgi
              have HT := Lib.hid ht
              have HGI := Lib.hid hgi
              have k0 : (0 : Int) ≤ (j : Int) := by omega
              have k1 : (0 : Int) ≤ (i : Int) := by omega
              have k2 : (i : Int) < (a.size : Int) + 1 := by omega
              have k3 : (j : Int) < (b.size : Int) + 1 := by omega
              have hfin : ∀ (w9 : World), ∀ x : Int, x = (lev ((bs a).drop i) ((bs b).drop j) : Nat) → w9.heap = (wr.setCell ⟨gi, j, none⟩ (.int .i64 x)).heap → GTab w.heap.size w9 (.slice (some ⟨g0, 0, none⟩) (a.size + 1) cap0) b.size gs (fun r c => if r = i ∧ c = j then x else f r c) ∧ Hid (∀ i' j', (i < i' ∨ (i' = i ∧ j ≤ j')) → i' ≤ a.size → j' ≤ b.size → (if i' = i ∧ j' = j then x else f i' j') = (lev ((bs a).drop i') ((bs b).drop j') : Nat)) := by
                intro w9 x hx hh
                have h1 := HT.out.set_ HGI.out hjb x (fun r c => if r = i ∧ c = j then x else f r c) (by simp) (fun r c hn => if_neg hn)
                refine ⟨⟨?_, ?_, h1.apart, h1.out, h1.ge⟩, Lib.hid fun i' j' h2 h3 h4 => ?_⟩
                · have := h1.own
                  unfold World.ownsRow at this ⊢
                  rw [hh]
                  exact this
                · intro r g hg
                  obtain ⟨l, q1, q2⟩ := h1.row r g hg
                  refine ⟨l, ?_, q2⟩
                  unfold IBlk at q1 ⊢
                  rw [hh]
                  exact q1
                · by_cases he : i' = i ∧ j' = j
                  · rw [if_pos he, hx, he.1, he.2]
                  · rw [if_neg he]
                    exact HF.out i' j' (by omega) h3 h4
              have HFIN := Lib.hid hfin
              clear ht hgi hfin
              by_cases hin : i = a.size
              · have eq1 : ((i : Int) == (a.size : Int)) = true := by rw [beq_iff_eq]; omega
                have hv := HE1.out j hjb
                rw [← hin] at hv
                have HV := Lib.hid hv
                clear hv hin
                go_wp2
                obtain ⟨q1, q2⟩ := HFIN.out (wr.setCell ⟨gi, j, none⟩ (.int .i64 ((b.size : Int) - (j : Int)))) _ HV.out.symm rfl
                go_roundw
                case rel => exact ⟨j, _, by omega, rfl, q1, q2, hbel.setCell (by show w.heap.size ≤ gi; exact hgeB) _⟩
                case measure => simp [intOf]
              · have eq1 : ((i : Int) == (a.size : Int)) = false := by rw [beq_eq_false_iff_ne]; omega
                by_cases hjn : j = b.size
                · have eq2 : ((j : Int) == (b.size : Int)) = true := by rw [beq_iff_eq]; omega
                  have hv := HE2.out i hia
                  rw [← hjn] at hv
                  have HV := Lib.hid hv
                  clear hv hjn
                  go_wp2
                  obtain ⟨q1, q2⟩ := HFIN.out (wr.setCell ⟨gi, j, none⟩ (.int .i64 ((a.size : Int) - (i : Int)))) _ HV.out.symm rfl
                  go_roundw
                  case rel => exact ⟨j, _, by omega, rfl, q1, q2, hbel.setCell (by show w.heap.size ≤ gi; exact hgeB) _⟩
                  case measure => simp [intOf]
                · have eq2 : ((j : Int) == (b.size : Int)) = false := by rw [beq_eq_false_iff_ne]; omega
                  have hia2 : i < a.size := by omega
                  have hjb2 : j < b.size := by omega
                  obtain ⟨gn, hgn⟩ : ∃ g, gs[i + 1]? = some g := ⟨_, List.getElem?_eq_getElem (by have := HGL.out; omega)⟩
                  have sl1 : wr.cell? ⟨g0, i + 1, none⟩ = some (.slice (some ⟨gn, 0, none⟩) (b.size + 1) (b.size + 1)) := HT.out.slice (g0 := g0) (cap := cap0) (by rw [HGL.out]) hgn
                  have n10 := HT.out.num hgn (j := j) hjb
                  have n01 := HT.out.num HGI.out (j := j + 1) hjb2
                  have n11 := HT.out.num hgn (j := j + 1) hjb2
                  rw [HF.out (i + 1) j (by omega) hia2 hjb] at n10
                  rw [HF.out i (j + 1) (by omega) hia hjb2] at n01
                  rw [HF.out (i + 1) (j + 1) (by omega) hia2 hjb2] at n11
                  have b10 := HLV.out (i + 1) j
                  have b01 := HLV.out i (j + 1)
                  have b11 := HLV.out (i + 1) (j + 1)
                  have hrec := HREC.out i j hia2 hjb2
                  have q1 := index_at a i a[i] hia2 rfl
                  have q2 := index_at b j b[j] hjb2 rfl
                  have d1 : gi ≠ g0 := fun e => HT.out.out i gi HGI.out (by rw [e]; rfl)
                  have d2 : gi ≠ gn := fun e => by
                    rw [← e] at hgn
                    have := HT.out.apart i (i + 1) gi HGI.out hgn
                    omega
                  have d3 : (⟨gi, j, none⟩ : Addr) ≠ ⟨gi, j + 1, none⟩ := fun h => by injection h; omega
                  have HREC2 := Lib.hid hrec
                  clear hrec hgn hin hjn
                  generalize lev ((bs a).drop (i + 1)) ((bs b).drop j) = L10 at n10 b10 HREC2
                  generalize lev ((bs a).drop i) ((bs b).drop (j + 1)) = L01 at n01 b01 HREC2
                  generalize lev ((bs a).drop (i + 1)) ((bs b).drop (j + 1)) = L11 at n11 b11 HREC2
                  generalize a[i] = x at *
                  generalize b[j] = y at *
                  have w1 : IntKind.i64.wrap ((i : Int) + 1) = (i : Int) + 1 := IntWalk.i64_in _ (by omega)
                  have w2 : IntKind.i64.wrap ((j : Int) + 1) = (j : Int) + 1 := IntWalk.i64_in _ (by omega)
                  have w3 : IntKind.i64.wrap ((L10 : Int) + 1) = (L10 : Int) + 1 := IntWalk.i64_in _ (by omega)
                  have w4 : IntKind.i64.wrap ((L01 : Int) + 1) = (L01 : Int) + 1 := IntWalk.i64_in _ (by omega)
                  have w5 : IntKind.i64.wrap ((L11 : Int) + 1) = (L11 : Int) + 1 := IntWalk.i64_in _ (by omega)
                  have w6 : IntKind.i64.wrap ((L11 : Int) + 0) = (L11 : Int) + 0 := IntWalk.i64_in _ (by omega)
                  have w7 : IntKind.i64.wrap (L11 : Int) = (L11 : Int) := IntWalk.i64_in _ (by omega)
                  have k4 : (i : Int) + 1 < (a.size : Int) + 1 := by omega
                  have k5 : (j : Int) + 1 < (b.size : Int) + 1 := by omega
                  have k6 : (0 : Int) ≤ (i : Int) + 1 := by omega
                  have k7 : (0 : Int) ≤ (j : Int) + 1 := by omega
                  by_cases hxy : x = y
                  · have heq : ((x.toNat : Int) == (y.toNat : Int)) = true := by rw [hxy]; simp
                    have hv := HREC2.out
                    rw [if_pos hxy] at hv
                    obtain ⟨X, hX⟩ : ∃ X : Int, X = min (min ((L10 : Int) + 1) ((L01 : Int) + 1)) ((L11 : Int)) := ⟨_, rfl⟩
                    have hm := fun w => min_any ((L10 : Int) + 1) ((L01 : Int) + 1) ((L11 : Int)) w
                    rw [← hX] at hm
                    have HM := Lib.hid hm
                    have HX := Lib.hid (show X = (lev ((bs a).drop i) ((bs b).drop j) : Nat) by rw [hX, hv]; simp)
                    clear hv hxy hX hm
                    go_wp2
                    go_quiet (fail)
                    go_wp2
                    go_region_held3 (fun w' => w'.cell? ⟨g0, i, none⟩ = some (.slice (some ⟨gi, 0, none⟩) (b.size + 1) (b.size + 1)) ∧ w'.cell? ⟨g0, i + 1, none⟩ = some (.slice (some ⟨gn, 0, none⟩) (b.size + 1) (b.size + 1)) ∧ w'.cell? ⟨gn, j, none⟩ = some (.int .i64 (L10 : Int)) ∧ w'.cell? ⟨gi, j + 1, none⟩ = some (.int .i64 (L01 : Int)) ∧ w'.cell? ⟨gn, j + 1, none⟩ = some (.int .i64 (L11 : Int))) (first | exact ⟨sl0, sl1, n10, n01, n11⟩ | exact ⟨(World.cell?_setCell_far _ _ _ _ d1).trans sl0, (World.cell?_setCell_far _ _ _ _ d1).trans sl1, (World.cell?_setCell_far _ _ _ _ d2).trans n10, (World.cell?_setCell_other _ _ _ _ d3).trans n01, (World.cell?_setCell_far _ _ _ _ d2).trans n11⟩) ((go_at_call 20; refine (HM.out _).mono ?_; rintro e w9 ⟨rfl, rfl⟩))
                    all_goals
                      obtain ⟨u1, u2⟩ := HFIN.out ((wr.drewN (nq + 1)).setCell ⟨gi, j, none⟩ (.int .i64 X)) X HX.out rfl
                      go_wp2
                      go_roundw
                      case rel => exact ⟨j, _, by omega, rfl, u1, u2, (bdrew hbel _).setCell (by show w.heap.size ≤ gi; exact hgeB) _⟩
                      case measure => simp [intOf]
                  · have heq : ((x.toNat : Int) == (y.toNat : Int)) = false := by
                      have : ¬ x.toNat = y.toNat := fun h => hxy (UInt8.toNat_inj.1 h)
                      rw [beq_eq_false_iff_ne]; omega
                    have hv := HREC2.out
                    rw [if_neg hxy] at hv
                    obtain ⟨X, hX⟩ : ∃ X : Int, X = min (min ((L10 : Int) + 1) ((L01 : Int) + 1)) ((L11 : Int) + 1) := ⟨_, rfl⟩
                    have hm := fun w => min_any ((L10 : Int) + 1) ((L01 : Int) + 1) ((L11 : Int) + 1) w
                    rw [← hX] at hm
                    have HM := Lib.hid hm
                    have HX := Lib.hid (show X = (lev ((bs a).drop i) ((bs b).drop j) : Nat) by rw [hX, hv])
                    clear hv hxy hX hm
                    go_wp2
                    go_quiet (fail)
                    go_wp2
                    go_region_held3 (fun w' => w'.cell? ⟨g0, i, none⟩ = some (.slice (some ⟨gi, 0, none⟩) (b.size + 1) (b.size + 1)) ∧ w'.cell? ⟨g0, i + 1, none⟩ = some (.slice (some ⟨gn, 0, none⟩) (b.size + 1) (b.size + 1)) ∧ w'.cell? ⟨gn, j, none⟩ = some (.int .i64 (L10 : Int)) ∧ w'.cell? ⟨gi, j + 1, none⟩ = some (.int .i64 (L01 : Int)) ∧ w'.cell? ⟨gn, j + 1, none⟩ = some (.int .i64 (L11 : Int))) (first | exact ⟨sl0, sl1, n10, n01, n11⟩ | exact ⟨(World.cell?_setCell_far _ _ _ _ d1).trans sl0, (World.cell?_setCell_far _ _ _ _ d1).trans sl1, (World.cell?_setCell_far _ _ _ _ d2).trans n10, (World.cell?_setCell_other _ _ _ _ d3).trans n01, (World.cell?_setCell_far _ _ _ _ d2).trans n11⟩) ((go_at_call 20; refine (HM.out _).mono ?_; rintro e w9 ⟨rfl, rfl⟩))
                    all_goals
                      obtain ⟨u1, u2⟩ := HFIN.out ((wr.drewN (nq + 1)).setCell ⟨gi, j, none⟩ (.int .i64 X)) X HX.out rfl
                      go_wp2
                      go_roundw
                      case rel => exact ⟨j, _, by omega, rfl, u1, u2, (bdrew hbel _).setCell (by show w.heap.size ≤ gi; exact hgeB) _⟩
                      case measure => simp [intOf]
end Go.Proofs.YtjlgjadkcpdpmaaDoor.Ed
