/-
  The walk of the reference's Sorted: the places of texts, the least first, of several the first.
-/
import Derived.Test.YtfjjjkfldekooaaDoorSrt
import Derived.Test.YtfjjjkfldekooaaDoorBBlk
import Derived.Test.YtfjjjkfldekooaaDoorBefW
import Derived.Test.YtfjjjkfldekooaaDoorOwn
namespace Go.Proofs.YtfjjjkfldekooaaDoor
open Go.RowKit
set_option linter.unusedVariables false
set_option linter.unusedSimpArgs false

set_option maxHeartbeats 1000000 in
set_option maxRecDepth 100000 in
theorem sorted_any (A : Option Addr) (c : Nat) (L : List ByteArray) (w : World) (hr : Reads w A L.length 1 (texts L)) (hL : L.length ≤ 1000) (hsz : ∀ s ∈ L, s.size ≤ 1000) :
    Calls Tryd.prog 12 #[.slice A L.length c] w fun e w' => ∃ o, IsSrt (L.map bs) o ∧ (∃ B d, e = .returned (.slice B L.length d) ∧ w'.ownsRow w.heap.size 3 1 (.slice B L.length d) L.length (ints (natsI o))) ∧ Below w.heap.size w w' := by
  obtain ⟨N, hN⟩ : ∃ N, N = L.length := ⟨_, rfl⟩
  have hLL : (L.map bs).length = N := by rw [List.length_map, hN]
  have htx : ∀ i x, L[i]? = some x → txt (L.map bs) i = bs x := fun i x h => by
    unfold txt
    rw [List.getElem?_map, h]; rfl
  rw [← hN] at hr hL ⊢
  obtain ⟨i0, hi0, hz0, hz1, hz2⟩ := info_parts infoI
  have hmk := fun W => run_make_bools W (N : Int) N rfl (by omega)
  have hget : ∀ i, i < N → ∃ x, L[i]? = some x := fun i h => ⟨_, List.getElem?_eq_getElem (by omega)⟩
  have HN := Lib.hid hN
  have HTX := Lib.hid htx
  clear hN htx
  go_enter Tryd.func12, Tryd.ntmps12
  go_wp2_with fail
  have hb0 : Below w.heap.size w (w.alloc (.cells (bools (List.replicate N false)).toArray 4)) := (Below.refl _ _).alloc (Nat.le_refl _) _
  have hn0 := BBlk.new w (List.replicate N false)
  have hs0 : w.heap.size + 1 ≤ (w.alloc (.cells (bools (List.replicate N false)).toArray 4)).heap.size := by simp
  go_loopw [3, 5, 6, 7, 11, 12, 13, 14, 15, 16, 17, 18, 19, 20, 21, 22, 23, 24, 25, 26, 27, 28, 29, 30, 31, 32, 33, 34, 35, 36, 37, 38, 39, 40, 41, 42, 43, 44, 45, 46, 47, 48, 49, 50] (fun v3 v5 _ _ _ _ _ _ _ _ _ _ _ _ _ _ _ _ _ _ _ _ _ _ _ _ _ _ _ _ _ _ _ _ _ _ _ _ _ _ _ _ _ _ wr => ∃ (n : Nat) (o : List Nat) (us : List Bool), v5 = .int .i64 (n : Int) ∧ n ≤ N ∧ o.length = n ∧ Chosen (L.map bs) o ∧ BBlk wr w.heap.size us ∧ us.length = N ∧ (∀ i, i < N → us[i]? = some (decide (i ∈ o))) ∧ wr.ownsRow (w.heap.size + 1) 3 1 v3 n (ints (natsI o)) ∧ Below w.heap.size w wr ∧ w.heap.size + 1 ≤ wr.heap.size) (fun _ v5 _ _ _ _ _ _ _ _ _ _ _ _ _ _ _ _ _ _ _ _ _ _ _ _ _ _ _ _ _ _ _ _ _ _ _ _ _ _ _ _ _ _ _ => N - (intOf v5).toNat)
  case atStart => exact ⟨0, [], _, rfl, by omega, rfl, Chosen.nil _, hn0, by simp, fun i hi => by rw [List.getElem?_replicate, if_pos hi]; simp, World.ownsRow_nil _ _ _ _, hb0, hs0⟩
  case round =>
    obtain ⟨n, o, us, rfl, hn, hol, hch, hus, husl, hug, hown, hb, hsz2⟩ := hrel
    clear hb0 hn0 hs0 hmk
    by_cases hlt : n < N
    · have kk : (n : Int) < (N : Int) := by omega
      have e1 : IntKind.i64.wrap ((n : Int) + 1) = (n : Int) + 1 := IntWalk.i64_in _ (by omega)
      go_wp2_with fail
      obtain ⟨wo, hwo⟩ : ∃ wo, wo = wr := ⟨_, rfl⟩
      rw [← hwo] at hus hown hb hsz2
      subst hwo
      go_loopw [6, 7, 17, 18, 19, 20, 21, 22, 23, 24, 25, 26, 27, 28, 29, 30, 31, 32, 33, 34, 35, 36, 37, 38, 39, 40, 41, 42, 43] (fun v6 v7 _ _ _ _ _ _ _ _ _ _ _ _ _ _ _ _ _ _ _ _ _ _ _ _ _ _ _ wx => ∃ (i : Nat) (b : Int), v6 = .int .i64 b ∧ v7 = .int .i64 (i : Int) ∧ i ≤ N ∧ Best (L.map bs) o i b ∧ -1 ≤ b ∧ b < N ∧ ∃ q, wx = wo.drewN q) (fun _ v7 _ _ _ _ _ _ _ _ _ _ _ _ _ _ _ _ _ _ _ _ _ _ _ _ _ _ _ _ => N - (intOf v7).toNat)
      case atStart => exact ⟨0, -1, rfl, rfl, by omega, Best.zero _ _, by omega, by omega, 0, rfl⟩
      case round =>
        obtain ⟨i, b, rfl, rfl, hin, hbest, hb1, hbN, q, hq⟩ := hrel
        have hus2 : BBlk wr w.heap.size us := by rw [hq]; exact hus.drewN q
        have hb2 : Below w.heap.size w wr := by rw [hq]; exact bdrew hb q
        have hown2 := own_drewN hown q
        rw [← hq] at hown2
        have hsz3 : w.heap.size + 1 ≤ wr.heap.size := by rw [hq]; exact hsz2
        have HQ := Lib.hid hq
        clear hq
        have e2 : IntKind.i64.wrap ((i : Int) + 1) = (i : Int) + 1 := IntWalk.i64_in _ (by omega)
        by_cases hlt2 : i < N
        · have k2 : (i : Int) < (N : Int) := by omega
          have hu := hug i hlt2
          have c1 := hus2.cell hu
          by_cases hio : i ∈ o
          · rw [decide_eq_true hio] at c1
            have HB := Lib.hid (hbest.used hio)
            clear hbest hu hug
            go_wp2
            go_quiet (fail)
            go_wp2
            go_roundw
            case rel => exact ⟨i + 1, b, rfl, by simp, by omega, HB.out, hb1, hbN, q + nq, by rw [HQ.out, World.drewN_drewN]⟩
            case measure => simp [intOf]; omega
          · rw [decide_eq_false hio] at c1
            by_cases hbz : b < 0
            · have HB := Lib.hid (hbest.first hbz hio)
              clear hbest hu hug
              go_wp2
              go_quiet (fail)
              go_wp2
              go_roundw
              case rel => exact ⟨i + 1, i, rfl, by simp, by omega, HB.out, by omega, by omega, q + nq, by rw [HQ.out, World.drewN_drewN]⟩
              case measure => simp [intOf]; omega
            · obtain ⟨B, rfl⟩ := Int.eq_ofNat_of_zero_le (show 0 ≤ b by omega)
              have kB : (B : Int) < (N : Int) := by omega
              obtain ⟨ba, of, rfl, hbl, hc⟩ := (hr.below hb2).2 (by omega)
              obtain ⟨x, hx⟩ := hget i hlt2
              obtain ⟨y, hy⟩ := hget B (by omega)
              have c2 := hc i (.string x) (by rw [texts_get, hx]; rfl)
              have c3 := hc B (.string y) (by rw [texts_get, hy]; rfl)
              have hxs := hsz x (List.mem_of_getElem? hx)
              have hys := hsz y (List.mem_of_getElem? hy)
              have hbf := fun W : World => before_any x y W (by omega) (by omega)
              have t1 := HTX.out i x hx
              have t2 := HTX.out B y hy
              cases hbe : bef (bs x) (bs y)
              · rw [hbe] at hbf
                have HB := Lib.hid (hbest.keep hio (by rw [t1, t2]; exact hbe))
                have HF := Lib.hid hbf
                clear hbest hu hug hbf t1 t2 hbe hx hy hc
                go_wp2
                go_quiet (first | (go_at_call 24; refine Calls.quiet_of (HF.out _)))
                go_wp2
                go_roundw
                case rel => exact ⟨i + 1, B, rfl, by simp, by omega, HB.out, hb1, hbN, q + nq, by rw [HQ.out, World.drewN_drewN]⟩
                case measure => simp [intOf]; omega
              · rw [hbe] at hbf
                have HB := Lib.hid (hbest.less hio (by rw [t1, t2]; exact hbe))
                have HF := Lib.hid hbf
                clear hbest hu hug hbf t1 t2 hbe hx hy hc
                go_wp2
                go_quiet (first | (go_at_call 24; refine Calls.quiet_of (HF.out _)))
                go_wp2
                go_roundw
                case rel => exact ⟨i + 1, i, rfl, by simp, by omega, HB.out, by omega, by omega, q + nq, by rw [HQ.out, World.drewN_drewN]⟩
                case measure => simp [intOf]; omega
        · obtain rfl : i = N := by omega
          have k2 : ¬ (i : Int) < (i : Int) := by omega
          rw [← hLL] at hbest
          obtain ⟨B, rfl, hBN, hBo, hch2⟩ := hch.some (by omega) hbest
          rw [hLL] at hBN
          have hu := hug B hBN
          have c1 := hus2.cell hu
          have f1 := hus2.frozen B
          have kB : (B : Int) < (i : Int) := by omega
          have HC := Lib.hid hch2
          have HU := Lib.hid hug
          clear hbest hu hug hch2 hch
          have HS := Lib.hid (show BBlk (wr.setCell ⟨w.heap.size, B, none⟩ (.bool true)) w.heap.size (us.set B true) from hus2.set_ B true)
          have hg5 : wr.grownBy (wr.setCell ⟨w.heap.size, B, none⟩ (.bool true)) (some w.heap.size) := ⟨rfl, rfl, rfl, by simp, fun k _ hk => Below.heap_setCell _ _ _ k (fun e => hk (by rw [e]))⟩
          have hown5 := hown2.kept hg5 (by
            cases hob : u3.ownBlock with
            | none => exact .inl rfl
            | some k =>
              refine .inr (fun e => ?_)
              have h1 := hown2.lt k hob
              injection e with e
              omega)
          have hb5 : Below w.heap.size w (wr.setCell ⟨w.heap.size, B, none⟩ (.bool true)) := hb2.setCell (p := ⟨w.heap.size, B, none⟩) (Nat.le_refl _) _
          have hsz5 : w.heap.size + 1 ≤ (wr.setCell ⟨w.heap.size, B, none⟩ (.bool true)).heap.size := by simpa using hsz3
          have hcn := cell_one_new (wr.setCell ⟨w.heap.size, B, none⟩ (.bool true)) (.int .i64 (B : Int)) 3
          rw [World.size_setCell] at hcn
          go_wp2_with (first
            | (at_builtin; go_must (refine append_own _ rfl _ _ 38 rfl (w.heap.size + 1) 3 i0 _ 1 8 Tryd.underlying38 hi0 hz0 hz1 hz2 rfl (by decide) _ _ _ rfl (hown5.alloc _) ⟨wr.heap.size, 0, none⟩ 1 1 [.int .i64 (B : Int)] rfl rfl hcn (int_oneCell _) (by unfold maxLen; omega) (by omega) (by simp; omega) (by decide) ?_); intro g1 cap1 wA hown1 hg1 hg1' hgrow1))
          have hfar : ∀ k, u3.ownBlock = some k → w.heap.size + 1 ≤ k := fun k hk => (hown5.lt k hk).1
          go_roundw
          case rel =>
            refine ⟨n + 1, o ++ [B], us.set B true, by simp, by omega, by simp [hol], HC.out, ?_, by simp [husl], ?_, ?_, ?_, ?_⟩
            · exact (HS.out.alloc _).kept hgrow1 (fun e => by have := hfar _ e.symm; omega)
            · intro j hj
              by_cases hjB : j = B
              · subst hjB
                rw [List.getElem?_set_self (by omega)]
                simp
              · rw [List.getElem?_set_ne (Ne.symm hjB), HU.out j hj]
                simp [hjB]
            · have e : ints (natsI (o ++ [B])) = ints (natsI o) ++ [.int .i64 (B : Int)] := by simp [ints, natsI]
              rw [e]
              exact hown1
            · exact (bmore hb5 _).grown hgrow1 (by simp; omega) (fun k hk => by have := hfar k hk; omega)
            · exact Nat.le_trans (by simp; omega) hgrow1.size
          case measure => simp [intOf]; omega
    · obtain rfl : n = N := by omega
      have kk : ¬ (n : Int) < (n : Int) := by omega
      have hs := hch.all (by rw [hLL]; exact hol)
      obtain ⟨B, d, rfl⟩ := own_slice hown
      go_wp2
      go_ret
      exact ⟨o, hs, ⟨_, _, rfl, own_base hown (by omega)⟩, hb⟩
end Go.Proofs.YtfjjjkfldekooaaDoor
