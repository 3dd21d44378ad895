/-
  The walk of wheel.Back: the text that is read by following the places of the bytes in order, if its turns end so.
-/
import Derived.Test.YtfjjjkfldekooaaWhStb
import Derived.Test.YtfjjjkfldekooaaWhCmp
import Derived.Test.YtfjjjkfldekooaaWhPlain
import Derived.Test.YtfjjjkfldekooaaWhRange
import Derived.Test.YtfjjjkfldekooaaWhNil
namespace Go.Proofs.Ytfjjjkfldekooaa
open Go.RowKit Kf
set_option linter.unusedVariables false
set_option linter.unusedSimpArgs false

/-- the first k places are laid -/
def fillI (n k : Nat) : List Int := (List.range k).map (fun i : Nat => (i : Int)) ++ List.replicate (n - k) 0
theorem fillI_zero (n : Nat) : fillI n 0 = List.replicate n 0 := by simp [fillI]
theorem fillI_all (n : Nat) : fillI n n = (List.range n).map (fun i : Nat => (i : Int)) := by simp [fillI]
theorem fillI_set (n k : Nat) (h : k < n) : (fillI n k).set k (k : Int) = fillI n (k + 1) := by
  unfold fillI
  rw [List.set_append_right _ _ (by simp), List.range_succ, List.map_append, List.length_map, List.length_range, Nat.sub_self, List.append_assoc, show n - k = (n - (k + 1)) + 1 by omega, List.replicate_succ, List.set_cons_zero]
  rfl
theorem fillI_get (n k : Nat) (h : k < n) : (fillI n k)[k]? = some 0 := by
  unfold fillI
  rw [List.getElem?_append_right (by simp), List.length_map, List.length_range, Nat.sub_self, show n - k = (n - k - 1) + 1 by omega, List.replicate_succ]
  rfl
/-- what the places are sorted by -/
def keyB (s : ByteArray) (x : Int) : Int := byt s x * 1000 + x
theorem byt_byN (s : ByteArray) (i : Nat) : byt s (i : Int) = ((byN (bs s) i).toNat : Int) := by
  unfold byt byN bs
  rw [Int.toNat_natCast]
theorem idx_order (s : ByteArray) (n : Nat) (hn : n ≤ 24) : ((List.range n).map (fun i : Nat => (i : Int))).Pairwise fun y x => (cmpB s x y < 0 ↔ keyB s x < keyB s y) := by
  rw [List.pairwise_map]
  refine List.Pairwise.imp_of_mem ?_ List.pairwise_lt_range
  intro a b ha hb hab
  have ha := List.mem_range.1 ha
  have hb := List.mem_range.1 hb
  have h1 := byt_bound s (a : Int)
  have h2 := byt_bound s (b : Int)
  unfold cmpB keyB
  omega
theorem from_sorted (s : ByteArray) (hs : s.size ≤ 24) (M : List Int) (hp : M.Perm ((List.range s.size).map (fun i : Nat => (i : Int)))) (hM : SortK (keyB s) M) :
    ∃ F : List Nat, IsFrom (bs s) F ∧ M = F.map (fun i : Nat => (i : Int)) := by
  have hmem : ∀ x ∈ M, ∃ i : Nat, i < s.size ∧ x = (i : Int) := fun x hx => by
    obtain ⟨i, hi, rfl⟩ := List.mem_map.1 (hp.subset hx)
    exact ⟨i, List.mem_range.1 hi, rfl⟩
  have hM2 : M = (M.map Int.toNat).map (fun i : Nat => (i : Int)) := by
    rw [List.map_map]
    conv => lhs; rw [← List.map_id M]
    refine List.map_congr_left fun x hx => ?_
    obtain ⟨i, _, rfl⟩ := hmem x hx
    simp
  have hpp : (M.map Int.toNat).Perm (List.range s.size) := by
    have := hp.map Int.toNat
    rw [List.map_map] at this
    refine this.trans (List.Perm.of_eq ?_)
    conv => rhs; rw [← List.map_id (List.range s.size)]
    exact List.map_congr_left fun x _ => by simp
  refine ⟨M.map Int.toNat, ⟨by rw [bs_length]; exact hpp, ?_⟩, hM2⟩
  have hnd : (M.map Int.toNat).Nodup := hpp.nodup_iff.2 List.nodup_range
  generalize M.map Int.toNat = F at *
  subst hM2
  unfold SortK at hM
  rw [List.pairwise_map] at hM
  refine List.Pairwise.imp_of_mem ?_ (List.Pairwise.and hM hnd)
  rintro a b ha hb ⟨hab, hne⟩
  have ha := List.mem_range.1 (hpp.subset ha)
  have hb := List.mem_range.1 (hpp.subset hb)
  unfold keyB at hab
  rw [byt_byN, byt_byN] at hab
  unfold ltF
  by_cases he : byN (bs s) a = byN (bs s) b
  · right
    refine ⟨he, ?_⟩
    rw [he] at hab
    omega
  · left
    have := toNat_ne he
    omega
theorem index_byN (s : ByteArray) (i : Nat) (hi : i < s.size) (W : World) : (Instr.index 9 (.string s) (.int .i64 (i : Int))).run Try.prog W = .ok (.int .u8 ((byN (bs s) i).toNat : Int)) W := by
  rw [index_byt s i hi W, byt_byN]
theorem lasts_nil (s : ByteArray) (h : s.size = 0) : lasts s = [] := by
  apply List.eq_nil_of_length_eq_zero
  unfold lasts
  rw [List.length_map, turnsB_length, h]
/-- wheel.There at every text that is not too long -/
theorem there_le (s : ByteArray) (w : World) (hs : s.size ≤ 24) :
    Calls Try.prog 9 #[.string s] w fun e w' => (∃ k : Int, e = .returned (.tuple #[.string ⟨(lasts s).toArray⟩, .int .i64 k, .nilIface])) ∧ Below w.heap.size w w' := by
  by_cases h0 : s.size = 0
  · refine (there_nil s w h0).mono ?_
    rintro e w' ⟨rfl, hb⟩
    rw [lasts_nil s h0]
    exact ⟨⟨0, rfl⟩, hb⟩
  · refine (there_ok s w hs (by omega)).mono ?_
    rintro e w' ⟨⟨k, rfl, _⟩, hb⟩
    exact ⟨⟨k, rfl⟩, hb⟩
/-- what comes out of following the places -/
def outB (s : ByteArray) (F : List Nat) (at0 : Nat) : ByteArray := ba (rowF (bs s) F s.size at0)
theorem outB_size (s : ByteArray) (F : List Nat) (at0 : Nat) : (outB s F at0).size = s.size := by
  rw [← bs_length, outB, bs_ba, rowF_length]
def backV (s : ByteArray) (F : List Nat) (at0 : Nat) : Value := if lasts (outB s F at0) = bs s then .tuple #[.string (outB s F at0), .nilIface] else .tuple #[.string ⟨#[]⟩, .iface 59 (.int .i64 6)]

set_option maxHeartbeats 1000000 in
set_option maxRecDepth 100000 in
theorem back_ok (s : ByteArray) (at0 : Nat) (w : World) (hs : s.size ≤ 24) (hat : at0 < s.size ∨ at0 = 0) :
    Calls Try.prog 10 #[.string s, .int .i64 (at0 : Int)] w fun e w' => (∃ F, IsFrom (bs s) F ∧ e = .returned (backV s F at0)) ∧ Below w.heap.size w w' := by
  have kk : (s.size : Int) ≤ 24 := by omega
  have e1 : IntKind.i64.wrap ((s.size : Int) - 1) = (s.size : Int) - 1 := IntWalk.i64_in _ (by omega)
  have hmk := fun W => run_make_ints W (s.size : Int) s.size rfl (by omega)
  go_enter Try.func10, Try.ntmps10
  go_wp2_with fail
  refine (long1_ok s _ 24 _ (by simp) kk).mono ?_
  rintro e w1 ⟨rfl, rfl⟩
  go_wp2_with fail
  refine (within_any _ _ _ _).mono ?_
  rintro e w2 ⟨rfl, rfl⟩
  rw [decide_eq_true (by omega)]
  go_wp2_with fail
  have hX1 := heap_alloc_new w (.cells #[.string s] 9)
  have hBe := bmore (bnew w (.cells #[.string s] 9)) (.cells #[.string s] 9)
  generalize hW1 : (w.alloc (.cells #[.string s] 9)) = W1 at *
  have hs1 : W1.heap.size = w.heap.size + 1 := by rw [← hW1]; simp
  have hX2 := (Below.heap_alloc W1 (.cells #[.string s] 9) _ (by omega)).trans hX1
  generalize hW2 : (W1.alloc (.cells #[.string s] 9)) = W2 at *
  have hs2 : W2.heap.size = w.heap.size + 2 := by rw [← hW2]; simp [hs1]
  have hI := IBlk.new W2 (List.replicate s.size 0)
  have hX3 := (Below.heap_alloc W2 (.cells (ints (List.replicate s.size 0)).toArray 3) _ (by omega)).trans hX2
  have hBe2 := bmore hBe (.cells (ints (List.replicate s.size 0)).toArray 3)
  obtain ⟨G, hG⟩ : ∃ G, G = w.heap.size + 1 + 1 := ⟨_, rfl⟩
  have hXG : w.heap.size ≠ G := by omega
  have hGX : w.heap.size < G := by omega
  have hG2 : W2.heap.size = G := by omega
  rw [hG2] at hI
  rw [← hG]
  have hsz3 : (W2.alloc (.cells (ints (List.replicate s.size 0)).toArray 3)).heap.size = G + 1 := by simp [hG2]
  generalize (W2.alloc (.cells (ints (List.replicate s.size 0)).toArray 3)) = W3 at *
  have HX3 := Lib.hid hX3; have HBE := Lib.hid hBe2; have HI := Lib.hid hI; have HMK := Lib.hid hG
  have cX : W3.cell? ⟨w.heap.size, 0, none⟩ = some (.string s) := by rw [cell_of_row W3 w.heap.size 0 _ _ (0, 0) hX3]; rfl
  clear hX1 hX2 hX3 hBe hBe2 hI hW1 hW2 hs1 hs2 hG hmk e1 hG2
  go_loopw [33] (fun v33 wr => ∃ k : Nat, v33 = .int .i64 (k : Int) ∧ k ≤ s.size ∧ IBlk wr G (fillI s.size k) ∧ W3.grownBy wr (some G)) (fun v33 _ => s.size - (intOf v33).toNat)
  case atStart => exact ⟨0, rfl, by omega, by rw [fillI_zero]; exact HI.out, grown_drew W3 0 _⟩
  case round =>
    obtain ⟨k, rfl, hk, hbr, hgr⟩ := hrel
    by_cases hlt : k < s.size
    · have k1 : (k : Int) < (s.size : Int) := by omega
      have e2 : IntKind.i64.wrap ((k : Int) + 1) = (k : Int) + 1 := IntWalk.i64_in _ (by omega)
      have c0 := hbr.cell (fillI_get s.size k hlt)
      have f0 := hbr.frozen k
      have HB2 := Lib.hid (hbr.set_ k (k : Int))
      have HFS := Lib.hid (fillI_set s.size k hlt)
      clear hbr
      go_wp2
      refine ⟨⟨k + 1, by go_num, by omega, by rw [← HFS.out]; exact HB2.out, grown_trans hgr (grown_set' _ _ _ _)⟩, by simp [intOf]; omega⟩
    · obtain rfl : k = s.size := by omega
      have k1 : ¬ (s.size : Int) < (s.size : Int) := by omega
      rw [fillI_all] at hbr
      have hXr : wr.heap[w.heap.size]? = some (.cells #[.string s] 9 (0, 0)) := (hgr.block w.heap.size (by omega) (by simpa using hXG)).trans HX3.out
      have HSO := Lib.hid (sortstable_any G w.heap.size s.size s.size _ (cmpB s) (keyB s) (fun x => 0 ≤ x ∧ x < (s.size : Int)) wr (by omega) (by simp) hbr (by
        intro x hx
        obtain ⟨i, hi, rfl⟩ := List.mem_map.1 hx
        have := List.mem_range.1 hi
        omega) (cmp_back w.heap.size G s wr hXr hXG) (idx_order s s.size hs))
      clear hbr hXr
      go_wp2_with fail
      refine HSO.out.mono ?_
      rintro e w4 ⟨rfl, M, hMp, hMs, hbM, hg4⟩
      obtain ⟨F, hF, hMF⟩ := from_sorted s hs M hMp hMs
      have hgg := grown_trans hgr hg4
      have hX4 : w4.heap[w.heap.size]? = some (.cells #[.string s] 9 (0, 0)) := (hgg.block w.heap.size (by omega) (by simpa using hXG)).trans HX3.out
      have hGs : G < w4.heap.size := hbM.lt
      subst hMF
      clear HSO hMp hMs hg4
      have hB4 : Below w.heap.size w w4 := HBE.out.grown hgg (by omega) (fun k hk => by have : G = k := Option.some.inj hk; omega)
      have hX5 := (Below.heap_alloc w4 (.cells #[.pointer none, .slice none 0 0] 55) w.heap.size (by omega)).trans hX4
      have hb5 := hbM.alloc (.cells #[.pointer none, .slice none 0 0] 55)
      have hIs := Sb.Is.new w4 (w4.heap.size + 1)
      have hB5 : Below w.heap.size w (w4.alloc (.cells #[.pointer none, .slice none 0 0] 55)) := hB4.alloc (by omega) _
      have HF := Lib.hid hF
      have cX5 : (w4.alloc (.cells #[.pointer none, .slice none 0 0] 55)).cell? ⟨w.heap.size, 0, none⟩ = some (.string s) := by rw [cell_of_row _ w.heap.size 0 _ _ (0, 0) hX5]; rfl
      go_wp2
      clear cX5
      obtain ⟨b, hbd⟩ : ∃ b, b = w4.heap.size := ⟨_, rfl⟩
      rw [← hbd] at hIs hGs ⊢
      have hsz5 : (w4.alloc (.cells #[.pointer none, .slice none 0 0] 55)).heap.size = b + 1 := by simp [hbd]
      have hB0 : Sb.But (b + 1) b (w4.alloc (.cells #[.pointer none, .slice none 0 0] 55)) (w4.alloc (.cells #[.pointer none, .slice none 0 0] 55)) := ⟨rfl, rfl, rfl, Nat.le_refl _, fun _ _ _ => rfl⟩
      generalize w4.alloc (.cells #[.pointer none, .slice none 0 0] 55) = W5 at *
      have HX5 := Lib.hid hX5; have HBM := Lib.hid hb5; have HB5 := Lib.hid hB5
      have HPL : Hid (∀ k, at0 < s.size → plF F at0 k < s.size) := Lib.hid (fun k h => by have := plF_lt hF (k := at0) (by rw [bs_length]; exact h) k; rwa [bs_length] at this)
      have HFG : Hid (∀ k, k < s.size → (F.map (fun i : Nat => (i : Int)))[k]? = some ((nxF F k : Nat) : Int)) := Lib.hid (fun k h => by
        have : k < F.length := by rw [hF.length, bs_length]; exact h
        rw [List.getElem?_map, List.getElem?_eq_getElem this]
        unfold nxF
        rw [List.getElem?_eq_getElem this]; rfl)
      clear hX5 hb5 hB5 hbM hX4 hB4 hgg hgr hF hbd cX
      go_loopw [1, 46] (fun v1 v46 wr => ∃ k p : Nat, v1 = .int .i64 (p : Int) ∧ v46 = .int .i64 (k : Int) ∧ k ≤ s.size ∧ Hid (p = plF F at0 k) ∧ Hid (Sb.Is wr (b + 1) b (rowF (bs s) F k at0)) ∧ Sb.But (b + 1) b W5 wr) (fun _ v46 _ => s.size - (intOf v46).toNat)
      case atStart => exact ⟨0, at0, rfl, rfl, by omega, Lib.hid rfl, Lib.hid hIs, hB0⟩
      case round =>
        obtain ⟨k, p, rfl, rfl, hk, hp, hI, hBt⟩ := hrel
        clear hIs hB0
        have cX : wr.cell? ⟨w.heap.size, 0, none⟩ = some (.string s) := by
          have h1 := (hBt.block w.heap.size (by omega) (by omega)).trans HX5.out
          rw [cell_of_row wr w.heap.size 0 _ _ (0, 0) h1]; rfl
        have hws := hBt.size
        by_cases hlt : k < s.size
        · have k1 : (k : Int) < (s.size : Int) := by omega
          have hpl : p < s.size := by rw [hp.out]; exact HPL.out k (by omega)
          obtain ⟨q, hq⟩ : ∃ q, q = nxF F p := ⟨_, rfl⟩
          have hql : q < s.size := by
            have := HPL.out (k + 1) (by omega)
            rw [hq, hp.out]; exact this
          have c0 : wr.cell? ⟨G, p, none⟩ = some (.int .i64 (q : Int)) := by
            have h1 := HBM.out.cell (HFG.out p hpl)
            rw [← hq] at h1
            exact (hBt.cell (p := ⟨G, p, none⟩) (by show G < _; omega) (by show G ≠ b; omega)).trans h1
          have hix := fun W => index_byN s q hql W
          have e2 : IntKind.i64.wrap ((k : Int) + 1) = (k : Int) + 1 := IntWalk.i64_in _ (by omega)
          have kp : (p : Int) < (s.size : Int) := by omega
          have kq : (q : Int) < (s.size : Int) := by omega
          have HWB := Lib.hid (Sb.write_byte wr (b + 1) b (rowF (bs s) F k at0) (byN (bs s) q) _ rfl hI.out (by omega) (by omega) (by rw [rowF_length]; omega))
          have HQ := Lib.hid hq
          clear hq
          go_wp2_with fail
          refine HWB.out.mono ?_
          rintro e w6 ⟨rfl, hI6, hB6⟩
          have HI6 := Lib.hid hI6
          clear hI6
          go_wp2
          refine ⟨⟨k + 1, q, rfl, by go_num, by omega, Lib.hid ?_, Lib.hid ?_, ⟨hB6.os.trans hBt.os, hB6.tape.trans hBt.tape, hB6.output.trans hBt.output, Nat.le_trans hBt.size hB6.size, fun j hj hne => (hB6.block j hj hne).trans (hBt.block j hj hne)⟩⟩, by simp [intOf]; omega⟩
          · rw [HQ.out, hp.out]; rfl
          · have h1 := HI6.out
            rw [HQ.out, hp.out] at h1
            rw [rowF_snoc]
            exact h1
        · obtain rfl : k = s.size := by omega
          have k1 : ¬ (s.size : Int) < (s.size : Int) := by omega
          have HST := Lib.hid (Sb.string_any wr (b + 1) b _ hI.out (by omega) (by omega))
          have hou : (⟨(rowF (bs s) F s.size at0).toArray⟩ : ByteArray) = outB s F at0 := rfl
          rw [hou] at HST
          go_wp2_with fail
          refine HST.out.mono ?_
          rintro e w6 ⟨rfl, hB6⟩
          have hB7 : Sb.But (b + 1) b W5 w6 := ⟨hB6.os.trans hBt.os, hB6.tape.trans hBt.tape, hB6.output.trans hBt.output, Nat.le_trans hBt.size hB6.size, fun j hj hne => (hB6.block j hj hne).trans (hBt.block j hj hne)⟩
          have hth := there_le (outB s F at0) w6 (by rw [outB_size]; exact hs)
          obtain ⟨u, hu⟩ : ∃ u : ByteArray, u = ⟨(lasts (outB s F at0)).toArray⟩ := ⟨_, rfl⟩
          rw [← hu] at hth
          have HTH := Lib.hid hth; have HU := Lib.hid (show bs u = lasts (outB s F at0) by rw [hu]; rfl)
          clear hth hu
          go_wp2_with fail
          refine HTH.out.mono ?_
          rintro e w7 ⟨⟨kx, rfl⟩, hB8⟩
          have h6s := hB7.size
          have cX7 : w7.cell? ⟨w.heap.size, 0, none⟩ = some (.string s) := by
            have h1 := (hB8.block w.heap.size (by omega)).trans ((hB7.block w.heap.size (by omega) (by omega)).trans HX5.out)
            rw [cell_of_row w7 w.heap.size 0 _ _ (0, 0) h1]; rfl
          have hfin : Below w.heap.size w w7 := (HB5.out.trans (hB7.below (by omega) (by omega))).trans (hB8.mono (by omega))
          have HFI := Lib.hid hfin
          clear hfin hB8 hB6 hB7 hBt cX
          by_cases hL : lasts (outB s F at0) = bs s
          · have hq : (u.toList == s.toList) = true := by
              rw [bs_beq, HU.out, hL]
              simp
            have HV : Hid (backV s F at0 = .tuple #[.string (outB s F at0), .nilIface]) := Lib.hid (if_pos hL)
            clear hL
            go_wp2
            go_ret2
            exact ⟨⟨F, HF.out, by rw [HV.out]; rfl⟩, HFI.out⟩
          · have hq : (u.toList == s.toList) = false := by
              rw [bs_beq, HU.out]
              simpa using hL
            have HV : Hid (backV s F at0 = .tuple #[.string ⟨#[]⟩, .iface 59 (.int .i64 6)]) := Lib.hid (if_neg hL)
            clear hL
            go_wp2
            go_ret2
            exact ⟨⟨F, HF.out, by rw [HV.out]; rfl⟩, HFI.out⟩
end Go.Proofs.Ytfjjjkfldekooaa
