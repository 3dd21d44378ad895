/-
  The walk of kraft.Apart: whether each text is made of words in one way, at most.
-/
import Derived.Test.YtnaoonegeboflaaKfInv
import Derived.Deep.LoopGhost
namespace Go.Proofs.Ytnaoonegeboflaa.Kf
open Go.RowKit
set_option linter.unusedVariables false
set_option linter.unusedSimpArgs false

theorem tgo_ok : ∀ (l seen : List (List UInt8)), tgo seen l = 0 → (∀ x ∈ l, x.length ≤ 8 ∧ x ≠ []) ∧ (seen.Nodup → (seen ++ l).Nodup)
  | [], seen, _ => by simp
  | x :: l, seen, h => by
    unfold tgo at h
    split at h
    · cases h
    · split at h
      · cases h
      · split at h
        · cases h
        · rename_i h1 h2 h3
          have ih := tgo_ok l _ h
          refine ⟨fun y hy => ?_, fun hn => ?_⟩
          · rcases List.mem_cons.1 hy with rfl | hy
            · exact ⟨by omega, h2⟩
            · exact ih.1 y hy
          · have := ih.2 (by
              rw [List.nodup_append]
              refine ⟨hn, by simp, fun a ha b hb e => h3 ?_⟩
              rw [List.mem_singleton.1 hb] at e
              rw [List.contains_iff_mem, ← e]; exact ha)
            simpa using this
theorem tchk_ok {l : List (List UInt8)} (h : tchk l = 0) : l.length ≤ 6 ∧ (∀ x ∈ l, x.length ≤ 8 ∧ x ≠ []) ∧ l.Nodup := by
  unfold tchk at h
  split at h
  · cases h
  · have := tgo_ok l [] h
    exact ⟨by omega, this.1, by simpa using this.2 List.nodup_nil⟩

theorem ar_start {w w1 : World} (hb : Below w.heap.size w w1) : AR w (((w1.alloc (.map #[] 0)).alloc (.cells #[.map (some w1.heap.size)] 44)).alloc (.cells #[.slice none 0 0] 22)) w1.heap.size (w1.heap.size + 1) (w1.heap.size + 1 + 1) ([], []) (.slice none 0 0) := by
  have hg1 := World.grownBy_alloc (w1.alloc (.map #[] 0)) (.cells #[.map (some w1.heap.size)] 44) none
  have hg2 := World.grownBy_alloc ((w1.alloc (.map #[] 0)).alloc (.cells #[.map (some w1.heap.size)] 44)) (.cells #[.slice none 0 0] 22) none
  have hn5 := heap_alloc_new (w1.alloc (.map #[] 0)) (.cells #[.map (some w1.heap.size)] 44)
  have hn6 := heap_alloc_new ((w1.alloc (.map #[] 0)).alloc (.cells #[.map (some w1.heap.size)] 44)) (.cells #[.slice none 0 0] 22)
  have e5 : (w1.alloc (.map #[] 0)).heap.size = w1.heap.size + 1 := by simp
  have e6 : ((w1.alloc (.map #[] 0)).alloc (.cells #[.map (some w1.heap.size)] 44)).heap.size = w1.heap.size + 1 + 1 := by simp
  rw [e5] at hn5
  rw [e6] at hn6
  exact ⟨((Seen.new w1).kept hg1 (by simp)).kept hg2 (by simp), (hg2.block _ (by rw [e6]; omega) (by simp)).trans hn5, hn6, Tail.nil _ _ _, ((hb.alloc hb.size _).alloc (by simp; have := hb.size; omega) _).alloc (by simp; have := hb.size; omega) _, hb.size, by omega, by omega⟩

theorem apart_no (A : Option Addr) (c : Nat) (l : List ByteArray) (w : World) (hr : Reads w A l.length 1 (texts l)) (hm : l.length ≤ maxLen) (hc : l.length ≤ c) (hsz : ∀ s ∈ l, s.size ≤ maxLen) (h : tchk (l.map bs) ≠ 0) :
    Calls Try.prog 7 #[.slice A l.length c] w fun e w' => e = .returned (.tuple #[.bool false, .iface 57 (.int .i64 (tchk (l.map bs)))]) ∧ Below w.heap.size w w' := by
  have hk := check_words A c l w hr hm hc hsz
  rw [show errT (tchk (l.map bs)) = .iface 57 (.int .i64 (tchk (l.map bs))) from if_neg h] at hk
  generalize tchk (l.map bs) = K at *
  have H := Lib.hid hk
  clear hk h hr hm hc hsz
  go_enter Try.func7, Try.ntmps7
  go_wp2_with fail
  refine H.out.mono ?_
  rintro e w' ⟨rfl, hb⟩
  go_wp2_with fail
  go_ret2
  exact ⟨rfl, hb⟩

set_option maxHeartbeats 4000000 in
theorem apart_ok (A : Option Addr) (c : Nat) (l : List ByteArray) (w : World) (hr : Reads w A l.length 1 (texts l)) (hm : l.length ≤ maxLen) (hc : l.length ≤ c) (hsz : ∀ s ∈ l, s.size ≤ maxLen) (h : tchk (l.map bs) = 0) :
    Calls Try.prog 7 #[.slice A l.length c] w fun e w' => ∃ b, e = .returned (.tuple #[.bool b, .nilIface]) ∧ (b = true ↔ ¬ Dg (l.map bs) []) ∧ Below w.heap.size w w' := by
  have hk := check_words A c l w hr hm hc hsz
  rw [h, show errT 0 = .nilIface from rfl] at hk
  obtain ⟨h6, h8, hnd⟩ := tchk_ok h
  have h60 : l.length ≤ 6 := by simpa using h6
  have hmm := @run_makeMap Try.prog
  have H := Lib.hid hk
  have HR := Lib.hid hr
  have H6 := Lib.hid h6
  have H8 := Lib.hid (fun w hw => (h8 w hw).1 : ∀ w ∈ l.map bs, w.length ≤ 8)
  clear hk h hm hc hsz h6 h8 hr
  go_enter Try.func7, Try.ntmps7
  go_wp2_with fail
  refine H.out.mono ?_
  rintro e w1 ⟨rfl, hb1⟩
  go_wp2_with fail
  have h0 : AR w (((w1.alloc (.map #[] 0)).alloc (.cells #[.map (some w1.heap.size)] 44)).alloc (.cells #[.slice none 0 0] 22)) w1.heap.size (w1.heap.size + 1) (w1.heap.size + 1 + 1) ([], []) (.slice none 0 0) := ar_start hb1
  generalize (((w1.alloc (.map #[] 0)).alloc (.cells #[.map (some w1.heap.size)] 44)).alloc (.cells #[.slice none 0 0] 22)) = w2 at *
  generalize w1.heap.size + 1 + 1 = X6 at *
  generalize w1.heap.size + 1 = X5 at *
  generalize w1.heap.size = M at *
  have H0 := Lib.hid h0
  clear h0 hmm
  go_loopw [8, 9, 10, 11, 23, 30] (fun _ _ _ _ iv _ wr => ∃ (i : Nat) (s : St) (tv : Value), i ≤ l.length ∧ iv = .int .i64 (i : Int) ∧ Hid (AR w wr M X5 X6 s tv ∧ PI (l.map bs) s ∧ Done (l.map bs) s ∧ First (l.map bs) s i 0)) (fun _ _ _ _ iv _ _ => l.length - (intOf iv).toNat)
  case atStart => exact ⟨0, ([], []), .slice none 0 0, Nat.zero_le _, rfl, Lib.hid ⟨H0.out, PI.start _, (by intro z hz; simp at hz), (by intro i' k' x y t h1; omega)⟩⟩
  case round =>
    obtain ⟨i, s, tv, hi, rfl, HS⟩ := hrel
    have HRr := Lib.hid (HR.out.below HS.out.1.below)
    by_cases hlt : i < l.length
    · obtain ⟨b, o, rfl, hb, hcc⟩ := HRr.out.2 (by omega)
      obtain ⟨x, hx⟩ : ∃ x, l[i]? = some x := ⟨_, List.getElem?_eq_getElem hlt⟩
      have c0 := hcc i (.string x) (by rw [texts_get, hx]; rfl)
      have kk : (i : Int) < (l.length : Int) := by omega
      have HX := Lib.hid hx
      clear hcc hx
      go_wp2_with fail
      go_loopw [10, 11, 30] (fun _ _ kv wr => ∃ (k : Nat) (s : St) (tv : Value), k ≤ l.length ∧ kv = .int .i64 (k : Int) ∧ Hid (AR w wr M X5 X6 s tv ∧ PI (l.map bs) s ∧ Done (l.map bs) s ∧ First (l.map bs) s i k)) (fun _ _ kv _ => l.length - (intOf kv).toNat)
      case atStart => exact ⟨0, s, tv, Nat.zero_le _, rfl, HS⟩
      case round =>
        clear HS HRr c0 hb
        obtain ⟨k, s, tv, hk, rfl, HS⟩ := hrel
        have HRr := Lib.hid (HR.out.below HS.out.1.below)
        by_cases hlt2 : k < l.length
        · obtain ⟨b', o', he, hb, hcc⟩ := HRr.out.2 (by omega)
          simp only [Option.some.injEq, Addr.mk.injEq, and_true] at he
          obtain ⟨rfl, rfl⟩ := he
          obtain ⟨y, hy⟩ : ∃ y, l[k]? = some y := ⟨_, List.getElem?_eq_getElem hlt2⟩
          have c1 := hcc k (.string y) (by rw [texts_get, hy]; rfl)
          have kk2 : (k : Int) < (l.length : Int) := by omega
          have HY := Lib.hid hy
          clear hcc hy
          by_cases hik : i = k
          · have hne : ((i : Int) != (k : Int)) = false := by rw [bne_eq_false_iff_eq]; omega
            have HE := Lib.hid hik
            clear hik
            go_wp2
            exact ⟨⟨k + 1, s, tv, by omega, by go_num, Lib.hid ⟨HS.out.1, HS.out.2.1, HS.out.2.2.1, by have hf := HS.out.2.2.2; rw [← HE.out] at hf ⊢; exact hf.skip⟩⟩, by simp [intOf]; omega⟩
          · have hne : ((i : Int) != (k : Int)) = true := by rw [bne_iff_ne]; omega
            have hxl : x.size ≤ 8 := by have := H8.out (bs x) (List.mem_map_of_mem (List.mem_of_getElem? HX.out)); rwa [bs_length] at this
            have hyl : y.size ≤ 8 := by have := H8.out (bs y) (List.mem_map_of_mem (List.mem_of_getElem? HY.out)); rwa [bs_length] at this
            have hcnt := HS.out.2.1.count H6.out H8.out
            have hle := HS.out.2.1.le
            have hX : (l.map bs)[i]? = some (bs x) := by rw [List.getElem?_map, HX.out]; rfl
            have hY : (l.map bs)[k]? = some (bs y) := by rw [List.getElem?_map, HY.out]; rfl
            have HN := Lib.hid (show PI (l.map bs) (putS s y x) ∧ Done (l.map bs) (putS s y x) ∧ First (l.map bs) (putS s y x) i (k + 1) from
              ⟨HS.out.2.1.put ⟨bs y, List.mem_map_of_mem (List.mem_of_getElem? HY.out), 0, by simp⟩ (fun t e => Dg.first hik hX hY e), HS.out.2.2.1.put _ _, HS.out.2.2.2.put hX hY⟩)
            have HP := Lib.hid (put_any y x HS.out.1 (by omega) (by omega) (by omega) (by omega))
            clear hik hX hY hcnt hle HS hxl hyl
            go_wp2_with fail
            refine HP.out.mono ?_
            rintro e w3 ⟨rfl, tv3, har3⟩
            have HA3 := Lib.hid har3
            clear har3
            go_wp2_with fail
            exact ⟨⟨k + 1, putS s y x, tv3, by omega, by go_num, Lib.hid ⟨HA3.out, HN.out⟩⟩, by simp [intOf]; omega⟩
        · have kk2 : ¬ (k : Int) < (l.length : Int) := by omega
          have HE := Lib.hid (show k = (l.map bs).length by simp; omega)
          go_wp2
          exact ⟨⟨i + 1, s, tv, by omega, by go_num, Lib.hid ⟨HS.out.1, HS.out.2.1, HS.out.2.2.1, by have hf := HS.out.2.2.2; rw [HE.out] at hf; exact hf.row⟩⟩, by simp [intOf]; omega⟩
    · have kk : ¬ (i : Int) < (l.length : Int) := by omega
      have HF := Lib.hid (show First (l.map bs) s (l.map bs).length 0 from by have hf := HS.out.2.2.2; rw [show i = (l.map bs).length by simp; omega] at hf; exact hf)
      have HS1 := Lib.hid (show AR w wr M X5 X6 s tv ∧ PI (l.map bs) s ∧ Done (l.map bs) s ∧ First (l.map bs) s (l.map bs).length 0 from ⟨HS.out.1, HS.out.2.1, HS.out.2.2.1, HF.out⟩)
      clear HS HF
      go_wp2_with fail
      go_loopg [13, 55] (msr s) (fun gn _ _ wr => ∃ (s : St) (tv : Value), msr s ≤ gn ∧ Hid (AR w wr M X5 X6 s tv ∧ PI (l.map bs) s ∧ Done (l.map bs) s ∧ First (l.map bs) s (l.map bs).length 0))
      case atStart => exact ⟨s, tv, Nat.le_refl _, HS1⟩
      case round =>
        clear HS1 HRr
        obtain ⟨s, tv, hgn, HS⟩ := hrel
        have HRr := Lib.hid (HR.out.below HS.out.1.below)
        have c6 := cell_one' HS.out.1.c6
        obtain ⟨n, hn⟩ : ∃ n, n = s.2.length := ⟨_, rfl⟩
        rcases Nat.eq_zero_or_pos n with h0 | h0
        · obtain ⟨tA, tC, htv⟩ := HS.out.1.tail.shape
          rw [← hn, h0] at htv
          subst htv
          have HD := Lib.hid (show ¬ Dg (l.map bs) [] from not_dg_of HS.out.2.2.2 HS.out.2.2.1 (List.length_eq_zero_iff.1 (by omega)))
          clear hn h0
          go_wp2
          go_ret2
          exact ⟨true, rfl, by simp [HD.out], HS.out.1.below⟩
        · obtain ⟨a, T, hT⟩ : ∃ a T, s.2 = a :: T := by
            cases hs2 : s.2 with
            | nil => rw [hs2] at hn; simp at hn; omega
            | cons a T => exact ⟨a, T, rfl⟩
          obtain ⟨g, o, cap, htv, hcap, hgX, hgl⟩ := HS.out.1.tail.some_ (by omega)
          rw [← hn] at htv hcap
          subst htv
          have ht0 := HS.out.1.tail
          rw [← hn] at ht0
          have ca : wr.cell? ⟨g, o, none⟩ = some (.string a) := ht0.cell (j := 0) (by rw [texts_get, hT]; rfl)
          have kn : (0 : Int) < (n : Int) := by omega
          have HN := Lib.hid hn; have HTT := Lib.hid hT
          clear ht0 hn hT
          by_cases ha0 : bs a = []
          · have e1 : (a.toList == ([] : List UInt8)) = true := by rw [Lib.toList_data, show a.data.toList = [] from ha0]; rfl
            have HD := Lib.hid (show Dg (l.map bs) [] from ha0 ▸ HS.out.2.1.dg (bs a) (HS.out.2.1.sub a (by rw [HTT.out]; exact List.mem_cons_self ..)))
            clear ha0
            go_wp2
            go_ret2
            exact ⟨false, rfl, by simp [HD.out], HS.out.1.below⟩
          · have e1 : (a.toList == ([] : List UInt8)) = false := by rw [Lib.toList_data, beq_eq_false_iff_ne]; exact ha0
            have HA0 := Lib.hid ha0
            have hst := Lib.hid (show ∃ T, s.2 = a :: T from ⟨T, HTT.out⟩)
            clear ha0
            go_wp2_with fail
            go_loopw [13, 55] (fun _ jv wr => ∃ (j : Nat) (s' : St) (tv' : Value), j ≤ l.length ∧ jv = .int .i64 (j : Int) ∧ msr s' ≤ msr s ∧ Hid (AR w wr M X5 X6 s' tv' ∧ PI (l.map bs) s' ∧ Done (l.map bs) s' ∧ First (l.map bs) s' (l.map bs).length 0 ∧ Some_ (l.map bs) s' (bs a) j ∧ ∃ T, s'.2 = a :: T)) (fun _ jv _ => l.length - (intOf jv).toNat)
            case atStart => exact ⟨0, s, _, Nat.zero_le _, rfl, Nat.le_refl _, Lib.hid ⟨HS.out.1, HS.out.2.1, HS.out.2.2.1, HS.out.2.2.2, (by intro j' w t h; omega), hst.out⟩⟩
            case round =>
              obtain ⟨j, s', tv', hj, rfl, hms, HS'⟩ := hrel
              clear HS HRr ca c6 hgX hgl hcap HN HTT hst
              have HRr := Lib.hid (HR.out.below HS'.out.1.below)
              have c6 := cell_one' HS'.out.1.c6
              by_cases hlt : j < l.length
              · obtain ⟨b, o1, rfl, hb, hcc⟩ := HRr.out.2 (by omega)
                obtain ⟨x, hx⟩ : ∃ x, l[j]? = some x := ⟨_, List.getElem?_eq_getElem hlt⟩
                have c0 := hcc j (.string x) (by rw [texts_get, hx]; rfl)
                have kk : (j : Int) < (l.length : Int) := by omega
                obtain ⟨g1, o1', cap1, n1, rfl, hn1, ca1⟩ := HS'.out.1.head HS'.out.2.2.2.2.2
                have kn1 : (0 : Int) < (n1 : Int) := by omega
                have HX := Lib.hid hx
                have hX : (l.map bs)[j]? = some (bs x) := by rw [List.getElem?_map, HX.out]; rfl
                have hmX : bs x ∈ l.map bs := List.mem_of_getElem? hX
                have haZ : bs a ∈ s'.1 := HS'.out.2.1.sub a (by obtain ⟨T, hT⟩ := HS'.out.2.2.2.2.2; rw [hT]; exact List.mem_cons_self ..)
                have hdA := HS'.out.2.1.dg _ haZ
                have hxl : x.size ≤ 8 := by have := H8.out (bs x) hmX; rwa [bs_length] at this
                have hal : a.size ≤ 8 := HS'.out.2.1.size H8.out (by obtain ⟨T, hT⟩ := HS'.out.2.2.2.2.2; rw [hT]; exact List.mem_cons_self ..)
                have hp1 : PI (l.map bs) (putS s' x a) := HS'.out.2.1.put ⟨bs x, hmX, 0, by simp⟩ (fun t e => hdA.over hmX e)
                have hp2 : PI (l.map bs) (putS (putS s' x a) a x) := hp1.put (HS'.out.2.1.suf _ haZ) (fun t e => hdA.under hmX e)
                have hc0 := HS'.out.2.1.count H6.out H8.out
                have hl0 := HS'.out.2.1.le
                have hc1 := hp1.count H6.out H8.out
                have hl1 := hp1.le
                have hc2 := hp2.count H6.out H8.out
                have hm1 := putS_msr s' x a (by omega)
                have hm2 := putS_msr (putS s' x a) a x (by omega)
                have HN := Lib.hid (show PI (l.map bs) (putS (putS s' x a) a x) ∧ Done (l.map bs) (putS (putS s' x a) a x) ∧ First (l.map bs) (putS (putS s' x a) a x) (l.map bs).length 0 ∧ Some_ (l.map bs) (putS (putS s' x a) a x) (bs a) (j + 1) ∧ ∃ T, (putS (putS s' x a) a x).2 = a :: T from
                  ⟨hp2, (HS'.out.2.2.1.put _ _).put _ _, (HS'.out.2.2.2.1.sub _ _).sub _ _, HS'.out.2.2.2.2.1.put2 hX, by
                    obtain ⟨T, hT⟩ := HS'.out.2.2.2.2.2
                    obtain ⟨T1, h1⟩ := putS_pre s' x a
                    obtain ⟨T2, h2⟩ := putS_pre (putS s' x a) a x
                    exact ⟨T ++ T1 ++ T2, by rw [h2, h1, hT]; simp⟩⟩)
                have HT1 := Lib.hid (show ∃ T, (putS s' x a).2 = a :: T from by
                    obtain ⟨T, hT⟩ := HS'.out.2.2.2.2.2
                    obtain ⟨T1, h1⟩ := putS_pre s' x a
                    exact ⟨T ++ T1, by rw [h1, hT]; simp⟩)
                have HP1 := Lib.hid (put_any x a HS'.out.1 (by omega) (by omega) (by omega) (by omega))
                have HP2 := Lib.hid (fun (wr : World) (tv : Value) (h : AR w wr M X5 X6 (putS s' x a) tv) => put_any a x h (by omega) (by omega) (by omega) (by omega))
                have hmm2 : msr (putS (putS s' x a) a x) ≤ msr s := Nat.le_trans hm2 (Nat.le_trans hm1 hms)
                clear hX hmX haZ hdA hxl hal hp1 hp2 hc0 hl0 hc1 hl1 hc2 hm1 hm2 hx hcc HS'
                generalize putS s' x a = s1 at *
                generalize putS s1 a x = s2 at *
                go_wp2_with fail
                refine HP1.out.mono ?_
                rintro e w3 ⟨rfl, tv3, har3⟩
                have HA3 := Lib.hid har3
                have c6b := cell_one' har3.c6
                obtain ⟨g3, o3, cap3, n3, rfl, hn3, ca3⟩ := har3.head HT1.out
                have kn3 : (0 : Int) < (n3 : Int) := by omega
                clear har3 c6 ca1
                go_wp2_with fail
                refine (HP2.out _ _ HA3.out).mono ?_
                rintro e w4 ⟨rfl, tv4, har4⟩
                have HA4 := Lib.hid har4
                clear har4 c6b ca3
                go_wp2_with fail
                exact ⟨⟨j + 1, s2, tv4, by omega, by go_num, hmm2, Lib.hid ⟨HA4.out, HN.out⟩⟩, by simp [intOf]; omega⟩
              · have kk : ¬ (j : Int) < (l.length : Int) := by omega
                have hje := Lib.hid (show j = (l.map bs).length by simp; omega)
                obtain ⟨T, hT⟩ := HS'.out.2.2.2.2.2
                obtain ⟨Z, T2⟩ := s'
                simp only at hT
                subst hT
                obtain ⟨g1, o1', cap1, htv, hcap1, _, _⟩ := HS'.out.1.tail.some_ (by simp)
                subst htv
                have f6 := free_one' HS'.out.1.c6
                have hms2 : msr (Z, T) < gk := by unfold msr at hms hgn ⊢; simp at hms hgn ⊢; omega
                have HPOP := Lib.hid (show PI (l.map bs) (Z, T) ∧ Done (l.map bs) (Z, T) ∧ First (l.map bs) (Z, T) (l.map bs).length 0 from
                  ⟨HS'.out.2.1.pop, HS'.out.2.2.1.pop HA0.out (by have := HS'.out.2.2.2.2.1; rw [hje.out] at this; exact this), HS'.out.2.2.2.1⟩)
                have HAR := Lib.hid HS'.out.1
                simp only at c6 hcap1
                clear HS' hms hgn
                by_cases hce : cap1 = 1
                · subst hce
                  have HARP := Lib.hid HAR.out.pop0
                  obtain ⟨n1, hn1⟩ : ∃ n1, n1 = (a :: T).length := ⟨_, rfl⟩
                  rw [← hn1] at c6 hcap1
                  have hn1' : T.length = n1 - 1 := by rw [hn1]; simp
                  have hn0 : 0 < n1 := by rw [hn1]; simp
                  have kn1 : (1 : Int) ≤ (n1 : Int) := by omega
                  have kn2 : (n1 : Int) ≤ (1 : Int) := by omega
                  rw [hn1', show n1 - 1 = 0 by omega] at HARP
                  have HNN := Lib.hid hn1
                  clear hn1 hn1' HAR
                  go_wp2_with fail
                  go_roundg (msr (Z, T))
                  case measure => exact hms2
                  case rel => exact ⟨(Z, T), _, Nat.le_refl _, Lib.hid ⟨HARP.out, HPOP.out⟩⟩
                · have HARP := Lib.hid HAR.out.pop
                  obtain ⟨n1, hn1⟩ : ∃ n1, n1 = (a :: T).length := ⟨_, rfl⟩
                  rw [← hn1] at c6 hcap1
                  have hn1' : T.length = n1 - 1 := by rw [hn1]; simp
                  have hn0 : 0 < n1 := by rw [hn1]; simp
                  have kn1 : (1 : Int) ≤ (n1 : Int) := by omega
                  have kn2 : (n1 : Int) ≤ (cap1 : Int) := by omega
                  rw [hn1'] at HARP
                  have HNN := Lib.hid hn1
                  clear hn1 hn1' HAR
                  go_wp2_with fail
                  go_roundg (msr (Z, T))
                  case measure => exact hms2
                  case rel => exact ⟨(Z, T), _, Nat.le_refl _, Lib.hid ⟨HARP.out, HPOP.out⟩⟩
end Go.Proofs.Ytnaoonegeboflaa.Kf
