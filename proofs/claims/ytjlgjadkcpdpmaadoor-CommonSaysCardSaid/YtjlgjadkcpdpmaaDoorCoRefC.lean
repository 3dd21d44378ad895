/-
  The walk of the reference's Common (letterbeckref2).
-/
import Derived.Test.YtjlgjadkcpdpmaaDoorCoRefW
import Derived.Deep.RegionLaw
namespace Go.Proofs.YtjlgjadkcpdpmaaDoor.Co
open Go.RowKit
set_option linter.unusedVariables false

/-- block g is just the row of strings l -/
def TBlk (w : World) (g : Nat) (l : List Value) : Prop := w.heap[g]? = some (.cells l.toArray 9 (0, 0))
section
variable {w w' : World} {g : Nat} {l : List Value}
theorem TBlk.lt (h : TBlk w g l) : g < w.heap.size := by
  rcases Nat.lt_or_ge g w.heap.size with hlt | hge
  · exact hlt
  · unfold TBlk at h; rw [Array.getElem?_eq_none hge] at h; cases h
theorem TBlk.cell (h : TBlk w g l) {i : Nat} {v : Value} (hn : l[i]? = some v) : w.cell? ⟨g, i, none⟩ = some v := by
  rw [cell_of_row w g i _ _ (0, 0) h]
  simpa using hn
theorem TBlk.frozen (h : TBlk w g l) (i : Nat) : w.frozen? ⟨g, i, none⟩ = false := by
  unfold TBlk at h
  simp [World.frozen?, h]
theorem TBlk.set_ (h : TBlk w g l) (i : Nat) (v : Value) : TBlk (w.setCell ⟨g, i, none⟩ v) g (l.set i v) := by
  unfold TBlk at h ⊢
  simp [World.setCell, Array.getElem?_modify, h]
theorem TBlk.below (h : TBlk w g l) (hb : Below w.heap.size w w') : TBlk w' g l := (hb.block g h.lt).trans h
theorem TBlk.far (h : TBlk w g l) {p : Addr} (hp : g ≠ p.block) (u : Value) : TBlk (w.setCell p u) g l := (Below.heap_setCell w p u g hp).trans h
end
theorem infoS : (Tryd.prog.info? 9).map (fun i => (i.zero, i.size, i.bytes)) = some (some (.string .empty), 1, 16) := by kernel_rfl
theorem made_s (n : Nat) : madeCells (Value.string .empty).cells n = Array.replicate n (Value.string .empty) := by
  apply Array.toList_inj.1
  rw [Array.toList_replicate]
  show (madeCells #[Value.string .empty] n).toList = List.replicate n (Value.string .empty)
  rw [toList_madeCells_one]
theorem run_make_s (w : World) (z : Int) (n : Nat) (hz : z = (n : Int)) (hn : n ≤ 1000000) :
    (Instr.makeSlice 37 (.int .i64 z) (.int .i64 z)).run Tryd.prog w = .ok (.slice (some ⟨w.heap.size, 0, none⟩) n n) (w.alloc (.cells (Array.replicate n (Value.string .empty)) 9)) := by
  subst hz
  obtain ⟨i0, hi, hz0, hz1, hz2⟩ := info_parts infoS
  have h := run_make (P := Tryd.prog) w 37 9 i0 (.string .empty) Tryd.underlying37 hi hz0 .i64 .i64 (n : Int) (n : Int) (by omega) (Int.le_refl _) (by rw [hz2]; omega) (by omega)
  rw [h, hz1]
  simp only [Int.toNat_natCast, Nat.mul_one]
  exact congrArg (fun cs => Result.ok (Value.slice (some ⟨w.heap.size, 0, none⟩) n n) (w.alloc (.cells cs 9))) (made_s n)
/-- a row whose places from J on hold f -/
def CRow (w : World) (g m : Nat) (f : Nat → List UInt8) (J : Nat) : Prop := ∃ r, TBlk w g r ∧ r.length = m + 1 ∧ ∀ j, J ≤ j → j ≤ m → r[j]? = some (strV (f j))
section
variable {w w' : World} {g m J : Nat} {f : Nat → List UInt8}
theorem CRow.lt (h : CRow w g m f J) : g < w.heap.size := by obtain ⟨r, h1, _⟩ := h; exact h1.lt
theorem CRow.cell (h : CRow w g m f J) {j : Nat} (h1 : J ≤ j) (h2 : j ≤ m) : w.cell? ⟨g, j, none⟩ = some (strV (f j)) := by
  obtain ⟨r, hr, _, hc⟩ := h
  exact hr.cell (hc j h1 h2)
theorem CRow.old (h : CRow w g m f J) {j : Nat} (h2 : j ≤ m) : ∃ v, w.cell? ⟨g, j, none⟩ = some v := by
  obtain ⟨r, hr, hl, _⟩ := h
  exact ⟨_, hr.cell (List.getElem?_eq_getElem (by omega))⟩
theorem CRow.frozen (h : CRow w g m f J) (i : Nat) : w.frozen? ⟨g, i, none⟩ = false := by obtain ⟨r, h1, _⟩ := h; exact h1.frozen i
theorem CRow.below (h : CRow w g m f J) (hb : Below w.heap.size w w') : CRow w' g m f J := by
  obtain ⟨r, h1, h2⟩ := h
  exact ⟨r, h1.below hb, h2⟩
theorem CRow.far (h : CRow w g m f J) {p : Addr} (hp : g ≠ p.block) (u : Value) : CRow (w.setCell p u) g m f J := by
  obtain ⟨r, h1, h2⟩ := h
  exact ⟨r, h1.far hp u, h2⟩
theorem CRow.set_ (h : CRow w g m f (J + 1)) (hJ : J ≤ m) {v : Value} (hv : v = strV (f J)) : CRow (w.setCell ⟨g, J, none⟩ v) g m f J := by
  obtain ⟨r, h1, h2, h3⟩ := h
  refine ⟨r.set J v, h1.set_ J v, by rw [List.length_set]; exact h2, fun j hj hjm => ?_⟩
  rcases Nat.eq_or_lt_of_le hj with e | hlt
  · subst e
    rw [List.getElem?_set_self (by omega), hv]
  · rw [List.getElem?_set_ne (by omega)]
    exact h3 j hlt hjm
theorem CRow.drewN (h : CRow w g m f J) (n : Nat) : CRow (w.drewN n) g m f J := h
theorem CRow.reset (h : CRow w g m f J) (v : Value) (hJ : J ≤ m) (hv : v = strV (f J)) : CRow (w.setCell ⟨g, J, none⟩ v) g m f J := by
  obtain ⟨r, h1, h2, h3⟩ := h
  refine ⟨r.set J v, h1.set_ J v, by rw [List.length_set]; exact h2, fun j hj hjm => ?_⟩
  rcases Nat.eq_or_lt_of_le hj with e | hlt
  · subst e
    rw [List.getElem?_set_self (by omega), hv]
  · rw [List.getElem?_set_ne (by omega)]
    exact h3 j hj hjm
end
theorem crow_new (w : World) (m J : Nat) (f : Nat → List UInt8) (h : ∀ j, J ≤ j → j ≤ m → f j = []) : CRow (w.alloc (.cells (Array.replicate (m + 1) (Value.string .empty)) 9)) w.heap.size m f J := by
  refine ⟨List.replicate (m + 1) (Value.string .empty), by unfold TBlk; rw [List.toArray_replicate]; exact heap_alloc_new w _, by simp, fun j h1 h2 => ?_⟩
  rw [List.getElem?_replicate, if_pos (by omega), h j h1 h2]
  rfl
theorem cm_len (a b : List UInt8) : (cm a b).length ≤ b.length := (top_cm _ a b (Nat.le_refl _)).sub2.length_le
structure WRel (w wr : World) (g m : Nat) (f : Nat → List UInt8) : Prop where
  row : CRow wr g m f 0
  below : Below w.heap.size w wr
  ge : w.heap.size ≤ g
structure VRel (w wr : World) (g h m : Nat) (f f' : Nat → List UInt8) (J : Nat) : Prop where
  last : CRow wr g m f 0
  next : CRow wr h m f' J
  below : Below w.heap.size w wr
  ge : w.heap.size ≤ h
  ne : g ≠ h
theorem VRel.drewN {w wr : World} {g h m J : Nat} {f f' : Nat → List UInt8} (H : VRel w wr g h m f f' J) (n : Nat) : VRel w (wr.drewN n) g h m f f' J := ⟨H.last, H.next, bdrew H.below n, H.ge, H.ne⟩
theorem VRel.put {w wr w3 : World} {g h m J : Nat} {f f' : Nat → List UInt8} (H : VRel w wr g h m f f' (J + 1)) (hb : Below wr.heap.size wr w3) (hJ : J ≤ m) (fx : Nat → List UInt8) (hfx : ∀ j, J < j → fx j = f' j) :
    VRel w (w3.setCell ⟨h, J, none⟩ (strV (fx J))) g h m f fx J := by
  have hn : CRow w3 h m fx (J + 1) := by
    obtain ⟨r, h1, h2, h3⟩ := H.next.below hb
    exact ⟨r, h1, h2, fun j a b => by rw [hfx j a]; exact h3 j a b⟩
  exact ⟨(H.last.below hb).far H.ne _, hn.set_ hJ rfl, (bnext H.below hb).setCell H.ge _, H.ge, H.ne⟩
theorem VRel.put2 {w wr w3 : World} {g h m J : Nat} {f fx f' : Nat → List UInt8} (H : VRel w wr g h m f fx J) (hb : Below wr.heap.size wr w3) (hJ : J ≤ m) (hfx : ∀ j, J < j → fx j = f' j) :
    VRel w (w3.setCell ⟨h, J, none⟩ (strV (f' J))) g h m f f' J := by
  obtain ⟨r, h1, h2, h3⟩ := H.next.below hb
  have hn : CRow w3 h m f' (J + 1) := ⟨r, h1, h2, fun j a b => by rw [← hfx j a]; exact h3 j (by omega) b⟩
  exact ⟨(H.last.below hb).far H.ne _, hn.set_ hJ rfl, (bnext H.below hb).setCell H.ge _, H.ge, H.ne⟩

set_option maxRecDepth 100000 in
set_option maxHeartbeats 4000000 in
theorem refcommon_any (a b : ByteArray) (w : World) (ha : a.size ≤ 24) (hb : b.size ≤ 24) :
    Calls Tryd.prog 6 #[.string a, .string b] w fun e w' => e = .returned (strV (cm (bs a) (bs b))) ∧ Below w.heap.size w w' := by
  have hmk := fun w => run_make_s w ((b.size : Int) + 1) (b.size + 1) (by push_cast; rfl) (by omega)
  have hLa := bs_length a
  have hLb := bs_length b
  have hnil : ∀ (w : World), CRow (w.alloc (.cells (Array.replicate (b.size + 1) (Value.string .empty)) 9)) w.heap.size b.size (fun j => cm ((bs a).drop a.size) ((bs b).drop j)) 0 := fun w =>
    crow_new w b.size 0 _ (fun j _ _ => by rw [show (bs a).drop a.size = [] from List.drop_of_length_le (by omega)]; rfl)
  have hone : ∀ (w : World) (i : Nat), CRow (w.alloc (.cells (Array.replicate (b.size + 1) (Value.string .empty)) 9)) w.heap.size b.size (fun j => cm ((bs a).drop i) ((bs b).drop j)) b.size := fun w i =>
    crow_new w b.size b.size _ (fun j h1 h2 => by rw [show (bs b).drop j = [] from List.drop_of_length_le (by omega), cm_nil_right])
  have hcl : ∀ i j, (cm ((bs a).drop i) ((bs b).drop j)).length ≤ 24 := fun i j => by
    have := cm_len ((bs a).drop i) ((bs b).drop j)
    rw [List.length_drop] at this
    omega
  have HNIL := Lib.hid hnil; have HONE := Lib.hid hone; have HCL := Lib.hid hcl
  clear hnil hone hcl
  go_enter Tryd.func6, Tryd.ntmps6
  go_wp2
  go_loopw [5, 6] (fun v i wr => ∃ (n g : Nat), n ≤ a.size ∧ i = .int .i64 ((n : Int) - 1) ∧ v = .slice (some ⟨g, 0, none⟩) (b.size + 1) (b.size + 1) ∧ WRel w wr g b.size (fun j => cm ((bs a).drop n) ((bs b).drop j))) (fun _ i _ => (intOf i + 1).toNat)
  case atStart => exact ⟨a.size, _, Nat.le_refl _, rfl, rfl, ⟨HNIL.out _, bnew _ _, Nat.le_refl _⟩⟩
  case round =>
    obtain ⟨n, g, hn, rfl, rfl, hrel⟩ := hrel
    cases n with
    | zero =>
      have c0 := hrel.row.cell (j := 0) (Nat.le_refl _) (Nat.zero_le _)
      have hbel := hrel.below
      unfold strV at c0
      simp only [List.drop_zero] at c0
      clear hrel
      go_wp2
      go_ret
      exact ⟨rfl, hbel⟩
    | succ i =>
      rw [show ((i + 1 : Nat) : Int) - 1 = (i : Int) by push_cast; omega]
      have hia : i < a.size := by omega
      have HR := Lib.hid hrel
      have q1 := index_at a i a[i] hia rfl
      have hda := bs_drop a i hia
      have hea : a.extract i (i + 1) = ⟨[a[i]].toArray⟩ := by
        apply ByteArray.ext
        apply Array.ext'
        rw [ByteArray.data_extract, Array.toList_extract, List.extract_eq_take_drop]
        rw [show a.data.toList.drop i = (bs a).drop i from rfl, hda, show i + 1 - i = 1 by omega]
        rfl
      generalize a[i] = x at *
      have HDA := Lib.hid hda; have HEA := Lib.hid hea
      clear hda hea hrel
      go_wp2
      have hgl := HR.out.row.lt
      have hst := Lib.hid (show VRel w (wr.alloc (.cells (Array.replicate (b.size + 1) (Value.string .empty)) 9)) g wr.heap.size b.size (fun j => cm ((bs a).drop (i + 1)) ((bs b).drop j)) (fun j => cm ((bs a).drop i) ((bs b).drop j)) b.size from
        ⟨HR.out.row.below (bnew _ _), HONE.out _ i, bmore HR.out.below _, HR.out.below.size, by omega⟩)
      obtain ⟨h, hh⟩ : ∃ h, h = wr.heap.size := ⟨_, rfl⟩
      rw [← hh] at hst ⊢
      have HH := Lib.hid hh
      generalize (wr.alloc (.cells (Array.replicate (b.size + 1) (Value.string .empty)) 9)) = wo at *
      clear HR hh hgl hmk
      go_loopw [8] (fun j wr => ∃ J : Nat, J ≤ b.size ∧ j = .int .i64 ((J : Int) - 1) ∧ VRel w wr g h b.size (fun j => cm ((bs a).drop (i + 1)) ((bs b).drop j)) (fun j => cm ((bs a).drop i) ((bs b).drop j)) J) (fun j _ => (intOf j + 1).toNat)
      case atStart => exact ⟨b.size, Nat.le_refl _, rfl, hst.out⟩
      case round =>
        clear hst
        obtain ⟨J, hJ, rfl, hrel⟩ := hrel
        cases J with
        | zero =>
          have HV := Lib.hid hrel
          clear hrel
          go_wp2
          refine ⟨⟨i, h, by omega, rfl, rfl, ⟨HV.out.next, HV.out.below, HV.out.ge⟩⟩, by simp [intOf]⟩
        | succ j =>
          rw [show ((j + 1 : Nat) : Int) - 1 = (j : Int) by push_cast; omega]
          have hjb : j < b.size := by omega
          have q2 := index_at b j b[j] hjb rfl
          have hdb := bs_drop b j hjb
          generalize b[j] = y at *
          have c1 : wr.cell? ⟨h, j + 1, none⟩ = some (.string ⟨(cm ((bs a).drop i) ((bs b).drop (j + 1))).toArray⟩) := hrel.next.cell (j := j + 1) (Nat.le_refl _) hJ
          have c2 : wr.cell? ⟨g, j, none⟩ = some (.string ⟨(cm ((bs a).drop (i + 1)) ((bs b).drop j)).toArray⟩) := hrel.last.cell (j := j) (Nat.zero_le _) (by omega)
          have c3 : wr.cell? ⟨g, j + 1, none⟩ = some (.string ⟨(cm ((bs a).drop (i + 1)) ((bs b).drop (j + 1))).toArray⟩) := hrel.last.cell (j := j + 1) (Nat.zero_le _) hJ
          obtain ⟨u, cu⟩ := hrel.next.old (j := j) (by omega)
          have fr := hrel.next.frozen j
          have hgl := hrel.last.lt
          have hhl := hrel.next.lt
          have l1 := HCL.out i (j + 1)
          have l2 := HCL.out (i + 1) j
          have l3 := HCL.out (i + 1) (j + 1)
          have hcm : cm ((bs a).drop i) ((bs b).drop j) = if x = y then better (better (cm ((bs a).drop i) ((bs b).drop (j + 1))) (cm ((bs a).drop (i + 1)) ((bs b).drop j))) (x :: cm ((bs a).drop (i + 1)) ((bs b).drop (j + 1))) else better (cm ((bs a).drop i) ((bs b).drop (j + 1))) (cm ((bs a).drop (i + 1)) ((bs b).drop j)) := by
            rw [HDA.out, hdb]; exact cm_cons _ _ _ _
          have HC := Lib.hid hcm
          have HV := Lib.hid hrel
          clear hcm hrel hdb
          generalize cm ((bs a).drop i) ((bs b).drop (j + 1)) = L1 at c1 HC l1
          generalize cm ((bs a).drop (i + 1)) ((bs b).drop j) = L2 at c2 HC l2
          generalize cm ((bs a).drop (i + 1)) ((bs b).drop (j + 1)) = L3 at c3 HC l3
          have HB1 := Lib.hid (fun w => better_any L1 L2 w (by omega) (by omega))
          have hM : (better L1 L2).length ≤ 24 := by rcases better_or L1 L2 with e | e <;> rw [e] <;> omega
          generalize better L1 L2 = M at *
          unfold strV at HB1
          have k0 : (0 : Int) ≤ (j : Int) := by omega
          have k2 : (0 : Int) ≤ (j : Int) + 1 := by omega
          have k4 : (j : Int) + 1 < (b.size : Int) + 1 := by omega
          have k5 : (j : Int) < (b.size : Int) + 1 := by omega
          have k6 : (i : Int) + 1 ≤ (a.size : Int) := by omega
          have k7 : (i : Int) ≤ (i : Int) + 1 := by omega
          have k8 : (0 : Int) ≤ (i : Int) := by omega
          have d1 : h ≠ g := fun e => HV.out.ne e.symm
          have d3 : (⟨h, j, none⟩ : Addr) ≠ ⟨h, j + 1, none⟩ := fun h => by injection h; omega
          have wr1 : IntKind.i64.wrap ((j : Int) + 1) = (j : Int) + 1 := IntWalk.i64_in _ (by omega)
          have wr2 : IntKind.i64.wrap ((i : Int) + 1) = (i : Int) + 1 := IntWalk.i64_in _ (by omega)
          go_wp2
          go_region_held3 (fun w' => w'.cell? ⟨h, j + 1, none⟩ = some (.string ⟨L1.toArray⟩) ∧ w'.cell? ⟨g, j, none⟩ = some (.string ⟨L2.toArray⟩)) (first | exact ⟨c1, c2⟩ | exact ⟨c1', c2'⟩ | exact ⟨(World.cell?_setCell_other _ _ _ _ d3).trans c1', (World.cell?_setCell_far _ _ _ _ d1).trans c2'⟩) ((go_at_call 16; refine (HB1.out _).mono ?_; rintro e w3 ⟨rfl, hb3⟩; have c1' : w3.cell? ⟨h, j + 1, none⟩ = some (.string ⟨L1.toArray⟩) := (hb3.cell (p := ⟨h, j + 1, none⟩) hhl).trans c1; have c2' : w3.cell? ⟨g, j, none⟩ = some (.string ⟨L2.toArray⟩) := (hb3.cell (p := ⟨g, j, none⟩) hgl).trans c2; have cu' : w3.cell? ⟨h, j, none⟩ = some u := (hb3.cell (p := ⟨h, j, none⟩) hhl).trans cu; have fr' : w3.frozen? ⟨h, j, none⟩ = false := (hb3.frozen (p := ⟨h, j, none⟩) hhl).trans fr))
          all_goals
            have hbw : Below wr.heap.size wr w3 := bnext (Below.drew (Below.refl _ wr)) hb3
            clear c1 c2 c1' c2' cu cu' fr fr' hb3 HB1
            by_cases hxy : x = y
            · have heq : ((x.toNat : Int) == (y.toNat : Int)) = true := by rw [hxy]; simp
              have hc := HC.out
              rw [if_pos hxy] at hc
              have HC2 := Lib.hid hc
              have hV5 := VRel.put HV.out hbw (by omega : j ≤ b.size) (fun k => if k = j then M else cm ((bs a).drop i) ((bs b).drop k)) (fun k hk => if_neg (by omega))
              simp only [if_pos] at hV5
              unfold strV at hV5
              have HV5 := Lib.hid hV5
              have hc3 : w3.cell? ⟨g, j + 1, none⟩ = some (.string ⟨L3.toArray⟩) := (hbw.cell (p := ⟨g, j + 1, none⟩) hgl).trans c3
              have HC3 := Lib.hid hc3
              clear hc hxy hV5 c3 hc3 HC
              go_wp2
              go_quiet (fail)
              have HV6 := Lib.hid (HV5.out.drewN nq)
              have e1 : ((w3.setCell ⟨h, j, none⟩ (.string ⟨M.toArray⟩)).drewN nq).cell? ⟨h, j, none⟩ = some (.string ⟨M.toArray⟩) := by
                have := HV6.out.next.cell (j := j) (Nat.le_refl _) (by omega)
                rw [if_pos rfl] at this
                exact this
              have e2 : ((w3.setCell ⟨h, j, none⟩ (.string ⟨M.toArray⟩)).drewN nq).cell? ⟨g, j + 1, none⟩ = some (.string ⟨L3.toArray⟩) := (World.cell?_setCell_far w3 ⟨h, j, none⟩ ⟨g, j + 1, none⟩ _ d1).trans HC3.out
              have fr2 := HV6.out.next.frozen j
              have hgl6 := HV6.out.last.lt
              have hhl6 := HV6.out.next.lt
              clear HV5 hbw HC3
              generalize (w3.setCell ⟨h, j, none⟩ (.string ⟨M.toArray⟩)).drewN nq = w6 at *
              have hL : ((x :: L3).length) ≤ 1000 := by simp; omega
              have hb2 := fun w => better_any M (x :: L3) w (by omega) hL
              have hxt : a.extract i (i + 1) ++ ⟨L3.toArray⟩ = ⟨(x :: L3).toArray⟩ := by
                rw [HEA.out, ByteArray.mk_append_mk]
                simp
              unfold strV at hb2
              rw [← hxt] at hb2
              have HB2 := Lib.hid hb2
              have n1 : ¬ (9223372036854775807 < 1 + L3.length) := by omega
              have n2 : ¬ (9223372036854775807 < (min (i + 1) a.size - i) + L3.length) := by omega
              have n3 : ¬ (9223372036854775807 < (i + 1 - i) + L3.length) := by omega
              clear hb2 hxt hL
              go_wp2
              go_region_law (first | (go_simp; go_at_call 16; refine (HB2.out _).mono ?_; rintro e w7 ⟨rfl, hb7⟩; have e1' : w7.cell? ⟨h, j, none⟩ = some (.string ⟨M.toArray⟩) := (hb7.cell (p := ⟨h, j, none⟩) hhl6).trans e1; have fr' : w7.frozen? ⟨h, j, none⟩ = false := (hb7.frozen (p := ⟨h, j, none⟩) hhl6).trans fr2))
              all_goals
                have hbw7 : Below w6.heap.size w6 w7 := bnext (Below.drew (Below.refl _ w6)) hb7
                have hc := HC2.out
                have hV8 := VRel.put2 (f' := fun k => cm ((bs a).drop i) ((bs b).drop k)) HV6.out hbw7 (by omega : j ≤ b.size) (fun k hk => if_neg (by omega))
                simp only [hc] at hV8
                unfold strV at hV8
                have HV8 := Lib.hid hV8
                clear hc hV8 HC2 hbw7
                go_wp2
                go_roundw
                case rel => exact ⟨j, by omega, rfl, HV8.out⟩
                case measure => simp [intOf]
            · have heq : ((x.toNat : Int) == (y.toNat : Int)) = false := by
                have : ¬ x.toNat = y.toNat := fun h => hxy (UInt8.toNat_inj.1 h)
                rw [beq_eq_false_iff_ne]; omega
              have hc := HC.out
              rw [if_neg hxy] at hc
              have hV5 := VRel.put HV.out hbw (by omega : j ≤ b.size) (fun k => cm ((bs a).drop i) ((bs b).drop k)) (fun _ _ => rfl)
              simp only [hc] at hV5
              unfold strV at hV5
              have HV5 := Lib.hid hV5
              clear hc hxy hV5 c3 HC
              go_wp2
              go_quiet (fail)
              go_wp2
              go_roundw
              case rel => exact ⟨j, by omega, rfl, HV5.out.drewN _⟩
              case measure => simp [intOf]
end Go.Proofs.YtjlgjadkcpdpmaaDoor.Co
