/-
  The walks of the reference's Front and Unfront (letterbeckref2).
-/
import Derived.Test.YtleealmeilpkmaaDoorFtRef
namespace Go.Proofs.YtleealmeilpkmaaDoor.Ft
open Go.RowKit
set_option linter.unusedVariables false

theorem index_at (s : ByteArray) (K : Nat) (z : UInt8) (h : K < s.size) (hz : s[K] = z) (w : World) : (Instr.index 9 (.string s) (.int .i64 (K : Int))).run Tryd.prog w = .ok (.int .u8 (z.toNat : Int)) w := by
  rw [run_index_string w _ s _ _ Tryd.underlying9, dif_pos ⟨by omega, by omega⟩]
  subst hz
  simp
theorem own_cap {w : World} {base g n cap : Nat} {e : TypeId} {xs : List Value} (h : w.ownsRow base e 1 (.slice (some ⟨g, 0, none⟩) n cap) n xs) : n ≤ cap := by
  rcases h.2 with ⟨h0, _⟩ | ⟨g', cap', cur, hv, hb, hh, h1, h2, h3, h4⟩
  · cases h0
  · simp only [Value.slice.injEq] at hv
    obtain ⟨_, _, rfl⟩ := hv
    exact h1
theorem idx_step {c x : UInt8} : ∀ {row : List UInt8} {J : Nat}, J ≤ row.idxOf c → row[J]? = some x → (J < row.idxOf c ↔ x ≠ c) := by
  intro row
  induction row with
  | nil => intro J _ h; simp at h
  | cons d row ih =>
    intro J hJ hx
    rw [List.idxOf_cons] at hJ ⊢
    by_cases hd : d = c
    · subst hd
      simp at hJ
      subst hJ
      simp at hx
      simp [hx]
    · have hb : (d == c) = false := by simpa using hd
      rw [hb] at hJ ⊢
      simp only [cond_false] at hJ ⊢
      cases J with
      | zero => simp at hx; subst hx; simp [hd]
      | succ J =>
        rw [List.getElem?_cons_succ] at hx
        have := ih (by omega : J ≤ row.idxOf c) hx
        exact ⟨fun h => this.1 (by omega), fun h => by have := this.2 h; omega⟩
/-- a row of bytes and a result of the call's own, apart -/
structure RRel (w wr : World) (g cap : Nat) (v : Value) (e : TypeId) (xs : List Value) (row : List UInt8) (k : Nat) : Prop where
  row : wr.ownsRow w.heap.size 5 1 (.slice (some ⟨g, 0, none⟩) 256 cap) 256 (u8s row)
  lt : g < wr.heap.size
  own : wr.ownsRow w.heap.size e 1 v k xs
  ne : v.ownBlock ≠ some g
  below : Below w.heap.size w wr
section
variable {w wr w2 w3 : World} {g cap g3 cap3 k k' : Nat} {v v' : Value} {e : TypeId} {xs xs' : List Value} {row row' : List UInt8}
theorem RRel.drew (h : RRel w wr g cap v e xs row k) (q : Nat) : RRel w (wr.drewN q) g cap v e xs row k := ⟨h.row, h.lt, h.own, h.ne, bdrew h.below q⟩
theorem RRel.kept {o : Obj} (h : RRel w wr g cap v e xs row k) (hg : (wr.alloc o).grownBy w2 v.ownBlock) : w2.ownsRow w.heap.size 5 1 (.slice (some ⟨g, 0, none⟩) 256 cap) 256 (u8s row) ∧ g < w2.heap.size ∧ Below w.heap.size w w2 := by
  have hs := h.below.size
  refine ⟨(h.row.alloc o).kept hg (.inr fun e => h.ne e.symm), ?_, (h.below.alloc hs o).grown hg (by simp; omega) (fun j hj => (h.own.lt j hj).1)⟩
  have := hg.size
  have := h.lt
  simp at *
  omega
theorem RRel.next (hr : w2.ownsRow w.heap.size e 1 v' k' xs') (hb2 : Below w.heap.size w w2) (hg3 : w2.heap.size ≤ g3) (hl : g3 < w3.heap.size) (hrow : w3.ownsRow w2.heap.size 5 1 (.slice (some ⟨g3, 0, none⟩) 256 cap3) 256 (u8s row')) (hb3 : Below w2.heap.size w2 w3) : RRel w w3 g3 cap3 v' e xs' row' k' :=
  ⟨own_base hrow hb2.size, hl, row_below hr hb3, fun e => by have := (hr.lt _ e).2; omega, bnext hb2 hb3⟩
end

set_option maxRecDepth 100000 in
set_option maxHeartbeats 2000000 in
theorem reffront_any (s : ByteArray) (w : World) (hs : s.size ≤ 1000) :
    Calls Tryd.prog 5 #[.string s] w fun e w' => ∃ A cap, e = .returned (.slice A s.size cap) ∧ w'.ownsRow w.heap.size 3 1 (.slice A s.size cap) s.size (nums (there allB s.data.toList)) ∧ Below w.heap.size w w' := by
  obtain ⟨i0, hi, hz0, hz1, hz2⟩ := info_parts info64
  have hL : s.data.toList.length = s.size := by simp
  have hF := fun k => Full.rowT (s.data.toList.take k) allB full_all
  have HL := Lib.hid hL; have HF := Lib.hid hF; clear hL hF
  go_enter Tryd.func5, Tryd.ntmps5
  go_wp2_with fail
  refine (all_any _).mono ?_
  rintro e w1 ⟨g0, cap0, rfl, hg0, hgl0, hrow0, hb0⟩
  go_wp2_with fail
  have hst := Lib.hid (show RRel w w1 g0 cap0 (.slice none 0 0) 3 [] allB 0 from ⟨hrow0, hgl0, World.ownsRow_nil _ _ _ _, (fun e => by cases e), hb0⟩)
  clear hrow0 hb0
  go_loopw [3, 4, 5] (fun r v i wr => ∃ (k g cap : Nat) (v0 : Value), k ≤ s.size ∧ i = .int .i64 k ∧ r = .slice (some ⟨g, 0, none⟩) 256 cap ∧ v0 = v ∧ RRel w wr g cap v0 3 (nums (there allB (s.data.toList.take k))) (rowT allB (s.data.toList.take k)) k) (fun _ _ i _ => s.size - (intOf i).toNat)
  case atStart => exact ⟨0, g0, cap0, _, Nat.zero_le _, rfl, rfl, rfl, hst.out⟩
  case round =>
    obtain ⟨k, g, cap, v, hk, rfl, rfl, rfl, hrel⟩ := hrel
    clear hst
    by_cases hlt : k < s.size
    · have htk : s.data.toList.take (k + 1) = s.data.toList.take k ++ [s[k]] := by
        rw [List.take_succ_eq_append_getElem (by rw [HL.out]; exact hlt)]; rfl
      have hfull := HF.out k
      have hidx := idx_lt hfull s[k]
      have hgi := get_idx hfull s[k]
      have hn1 : rowT allB (s.data.toList.take (k + 1)) = mv (rowT allB (s.data.toList.take k)) ((rowT allB (s.data.toList.take k)).idxOf s[k]) := by rw [htk, rowT_snoc]
      have hn2 : nums (there allB (s.data.toList.take (k + 1))) = nums (there allB (s.data.toList.take k)) ++ [.int .i64 ((rowT allB (s.data.toList.take k)).idxOf s[k] : Int)] := by
        rw [htk, there_snoc]; simp [nums]
      have h256 := hfull.1
      have HN1 := Lib.hid hn1; have HN2 := Lib.hid hn2; have H256 := Lib.hid h256; have HGI := Lib.hid hgi
      have q1 := index_at s k s[k] hlt rfl
      clear htk hfull hn1 hn2 h256 hgi
      generalize rowT allB (s.data.toList.take k) = row at *
      generalize nums (there allB (s.data.toList.take k)) = xs at *
      generalize hcc : s[k] = c at *
      have HR := Lib.hid hrel
      clear hrel hcc
      go_wp2
      obtain ⟨wo, hwo⟩ : ∃ wo : World, wo = wr := ⟨_, rfl⟩
      go_loopw [6] (fun i wr => ∃ J : Nat, J ≤ row.idxOf c ∧ i = .int .i64 J ∧ RRel w wr g cap v 3 xs row k) (fun i _ => 256 - (intOf i).toNat)
      case atStart => exact ⟨0, Nat.zero_le _, rfl, HR.out⟩
      case round =>
        clear HR hwo
        obtain ⟨J, hJ, rfl, hrel⟩ := hrel
        obtain ⟨x, hx⟩ : ∃ x, row[J]? = some x := ⟨_, List.getElem?_eq_getElem (by rw [H256.out]; omega)⟩
        have cx := reads_cells (Reads.of_own hrel.row) hx (by omega)
        have hst := idx_step hJ hx
        have hcap := own_cap hrel.row
        have hgl := hrel.lt
        have g1 : (J : Int) < 256 := by omega
        by_cases hxc : x = c
        · have hJe : row.idxOf c = J := by
            have : ¬ J < row.idxOf c := fun h => (hst.1 h) hxc
            omega
          have hne : ((x.toNat : Int) != (c.toNat : Int)) = false := by rw [hxc]; simp
          have hsz := hrel.below.size
          have hown := hrel.own
          have HR := Lib.hid hrel
          have HXC := Lib.hid hxc
          have hread := fun (w' : World) (h : w'.ownsRow w.heap.size 5 1 (.slice (some ⟨g, 0, none⟩) 256 cap) 256 (u8s row)) (hl : g < w'.heap.size) => front_any w' g cap row J H256.out (by omega) hl hcap (Reads.of_own h)
          have HRD := Lib.hid hread
          rw [hJe] at HN1 HN2
          clear hst hx hrel hxc hread hJ hidx
          go_wp2
          go_quiet (fail)
          go_wp2_with (first
            | (go_at_call 13; refine (HRD.out _ hk1 hk2).mono ?_; rintro e w3 ⟨g3, cap3, rfl, hg3, hgl3, hrow3, hb3⟩)
            | (at_builtin; go_must (refine append_own _ rfl _ _ 22 rfl w.heap.size 3 i0 _ 1 8 Tryd.underlying22 hi hz0 hz1 hz2 rfl (by decide) _ _ _ rfl ((row_below hown (bdrew (Below.refl _ _) nq)).alloc _) ⟨wr.heap.size, 0, none⟩ 1 1 [.int .i64 (J : Int)] rfl rfl (cell_one_new _ _ _) (int_oneCell _) (by unfold maxLen; omega) (by omega) (by simp; omega) (by decide) ?_); intro g2 cap2 w2 hown2 hg2 hg2' hgrow2; obtain ⟨hk1, hk2, hk3⟩ := (HR.out.drew nq).kept hgrow2))
          refine ⟨⟨k + 1, g3, cap3, _, by omega, by go_num, rfl, rfl, ?_⟩, by simp [intOf]; omega⟩
          rw [HN1.out, HN2.out]
          exact RRel.next hown2 hk3 hg3 hgl3 hrow3 hb3
        · have hJ2 := hst.2 hxc
          have hne : ((x.toNat : Int) != (c.toNat : Int)) = true := by
            have : ¬ x.toNat = c.toNat := fun h => hxc (UInt8.toNat_inj.1 h)
            rw [bne_iff_ne]; omega
          have HR := Lib.hid hrel
          clear hst hx hrel hxc
          go_wp2
          go_quiet (fail)
          go_wp2
          go_roundw
          case rel => exact ⟨J + 1, by omega, by go_num, HR.out.drew _⟩
          case measure => simp [intOf]; omega
    · obtain rfl : k = s.size := by omega
      have hbel := hrel.below
      have HO := Lib.hid hrel.own
      have HS := Lib.hid (show s.data.toList.take s.size = s.data.toList from List.take_of_length_le (by rw [HL.out]; exact Nat.le_refl _))
      clear hrel
      go_wp2
      go_ret
      have ho := HO.out
      rw [HS.out] at ho
      obtain ⟨A, cap, e⟩ := own_slice ho
      rw [e] at ho
      rw [e]
      exact ⟨A, cap, rfl, ho, hbel⟩

set_option maxRecDepth 100000 in
set_option maxHeartbeats 2000000 in
theorem refunfront_any (A : Option Addr) (cap : Nat) (l : List Int) (w : World) (hr : Reads w A l.length 1 (l.map (Value.int .i64))) (hm : l.length ≤ 1000) (hall : ∀ n ∈ l, okB n = true) :
    Calls Tryd.prog 10 #[.slice A l.length cap] w fun e w' => e = .returned (.string ⟨(back allB (l.map Int.toNat)).toArray⟩) ∧ Below w.heap.size w w' := by
  obtain ⟨i0, hi, hz0, hz1, hz2⟩ := info_parts info8
  have hlt256 : ∀ n ∈ l.map Int.toNat, n < 256 := by
    intro n hn
    obtain ⟨m, hm, rfl⟩ := List.mem_map.1 hn
    have := hall m hm
    simp [okB] at this
    omega
  have hF := fun k => Full.rowB ((l.map Int.toNat).take k) allB full_all (fun n hn => hlt256 n (List.mem_of_mem_take hn))
  have HA := Lib.hid hall; have HF := Lib.hid hF; clear hall hF hlt256
  go_enter Tryd.func10, Tryd.ntmps10
  go_wp2_with fail
  refine (all_any _).mono ?_
  rintro e w1 ⟨g0, cap0, rfl, hg0, hgl0, hrow0, hb0⟩
  go_wp2_with fail
  have hst := Lib.hid (show RRel w w1 g0 cap0 (.slice none 0 0) 5 [] allB 0 from ⟨hrow0, hgl0, World.ownsRow_nil _ _ _ _, (fun e => by cases e), hb0⟩)
  clear hrow0 hb0
  go_loopw [3, 4, 5] (fun r v i wr => ∃ (k g cap : Nat), k ≤ l.length ∧ i = .int .i64 k ∧ r = .slice (some ⟨g, 0, none⟩) 256 cap ∧ RRel w wr g cap v 5 (u8s (back allB ((l.map Int.toNat).take k))) (rowB allB ((l.map Int.toNat).take k)) k) (fun _ _ i _ => l.length - (intOf i).toNat)
  case atStart => exact ⟨0, g0, cap0, Nat.zero_le _, rfl, rfl, hst.out⟩
  case round =>
    obtain ⟨k, g, cap, hk, rfl, rfl, hrel⟩ := hrel
    clear hst
    by_cases hlt : k < l.length
    · obtain ⟨b, o, rfl, hb, hc⟩ := hr.2 (by omega)
      obtain ⟨n, hn⟩ : ∃ n, l[k]? = some n := ⟨_, List.getElem?_eq_getElem hlt⟩
      have hok := HA.out n (List.mem_of_getElem? hn)
      obtain ⟨m, rfl⟩ : ∃ m : Nat, n = (m : Int) := ⟨n.toNat, by simp [okB] at hok; omega⟩
      have hm256 : m < 256 := by simp [okB] at hok; omega
      have hcw := fun (wq : World) (hbq : Below w.heap.size w wq) => (hbq.cell (p := ⟨b, o + k, none⟩) hb).trans (hc k (.int .i64 m) (by rw [List.getElem?_map, hn]; rfl))
      have htk : (l.map Int.toNat).take (k + 1) = (l.map Int.toNat).take k ++ [m] := by
        rw [List.take_add_one, List.getElem?_map, hn]; rfl
      have h256 := (HF.out k).1
      have hn1 : rowB allB ((l.map Int.toNat).take (k + 1)) = mv (rowB allB ((l.map Int.toNat).take k)) m := by rw [htk, rowB_snoc]
      have hn2 : u8s (back allB ((l.map Int.toNat).take (k + 1))) = u8s (back allB ((l.map Int.toNat).take k)) ++ [.int .u8 (((rowB allB ((l.map Int.toNat).take k)).getD m 0).toNat : Int)] := by
        rw [htk, back_snoc]; simp [u8s]
      generalize rowB allB ((l.map Int.toNat).take k) = row at *
      generalize u8s (back allB ((l.map Int.toNat).take k)) = xs at *
      obtain ⟨c, hcr⟩ : ∃ c, row[m]? = some c := ⟨_, List.getElem?_eq_getElem (by omega)⟩
      have hgd : row.getD m 0 = c := by simp [List.getD_eq_getElem?_getD, hcr]
      rw [hgd] at hn2
      have HN1 := Lib.hid hn1; have HN2 := Lib.hid hn2; have HCW := Lib.hid hcw
      have c0 := hcw _ hrel.below
      have cx := reads_cells (Reads.of_own hrel.row) hcr (by omega)
      have hcap := own_cap hrel.row
      have hread := fun (w' : World) (h : w'.ownsRow w.heap.size 5 1 (.slice (some ⟨g, 0, none⟩) 256 cap) 256 (u8s row)) (hl : g < w'.heap.size) => front_any w' g cap row m h256 hm256 hl hcap (Reads.of_own h)
      have HRD := Lib.hid hread
      have hsz := hrel.below.size
      have hown := hrel.own
      have HR := Lib.hid hrel
      clear htk hn1 hn2 hcw hread hrel hgd hcr hc hn hok
      go_wp2_with (first
        | (go_at_call 13; refine (HRD.out _ hk1 hk2).mono ?_; rintro e w3 ⟨g3, cap3, rfl, hg3, hgl3, hrow3, hb3⟩)
        | (at_builtin; go_must (refine append_own _ rfl _ _ 36 rfl w.heap.size 5 i0 _ 1 1 Tryd.underlying36 hi hz0 hz1 hz2 rfl (by decide) _ _ _ rfl (hown.alloc _) ⟨wr.heap.size, 0, none⟩ 1 1 [.int .u8 (c.toNat : Int)] rfl rfl (cell_one_new _ _ _) (byte_oneCell _) (by unfold maxLen; omega) (by omega) (by simp; omega) (by decide) ?_); intro g2 cap2 w2 hown2 hg2 hg2' hgrow2; obtain ⟨hk1, hk2, hk3⟩ := HR.out.kept hgrow2; have c2 := HCW.out _ hk3))
      go_roundw
      case rel =>
        refine ⟨k + 1, g3, cap3, by omega, by go_num, rfl, ?_⟩
        rw [HN1.out, HN2.out]
        exact RRel.next hown2 hk3 hg3 hgl3 hrow3 hb3
      case measure => simp [intOf]; omega
    · obtain rfl : k = l.length := by omega
      have hbel := hrel.below
      have e1 : (l.map Int.toNat).take l.length = l.map Int.toNat := List.take_of_length_le (by simp)
      rw [e1] at hrel
      have hown := hrel.own
      obtain ⟨A', cap', e⟩ := own_slice hown
      subst e
      have hcv := bytes_string _ (by rw [back_length, List.length_map]) hown
      clear hrel hown e1
      go_wp2
      go_ret
      exact ⟨rfl, hbel⟩
end Go.Proofs.YtleealmeilpkmaaDoor.Ft
