/-
  The walks of the references Turns and Wheel: the turns of a text; their last bytes, the least turn first, and where the text stands.
-/
import Derived.Test.YtfjjjkfldekooaaDoorWhLaw
import Derived.Test.YtfjjjkfldekooaaDoorWhTrn
import Derived.Test.YtfjjjkfldekooaaDoorSrtW
namespace Go.Proofs.YtfjjjkfldekooaaDoor
open Go.RowKit
set_option linter.unusedVariables false
set_option linter.unusedSimpArgs false

def turnsU (s : ByteArray) (n : Nat) : List ByteArray := (List.range n).map (trn s)
theorem turnsU_succ (s : ByteArray) (n : Nat) : turnsU s (n + 1) = turnsU s n ++ [trn s n] := by simp [turnsU, List.range_succ]
theorem turnsU_length (s : ByteArray) (n : Nat) : (turnsU s n).length = n := by simp [turnsU]
theorem turnsU_bs (s : ByteArray) : (turnsU s s.size).map bs = rots (bs s) := by
  unfold turnsU rots
  rw [List.map_map, bs_length]
  exact List.map_congr_left fun i _ => bs_trn s i
theorem turnsU_size (s : ByteArray) (x : ByteArray) (h : x ∈ turnsU s s.size) : x.size = s.size := by
  unfold turnsU at h
  obtain ⟨i, hi, rfl⟩ := List.mem_map.1 h
  exact trn_size s i (by have := List.mem_range.1 hi; omega)
theorem turnsU_get (s : ByteArray) {n i : Nat} (h : i < n) : (turnsU s n)[i]? = some (trn s i) := by
  unfold turnsU
  rw [List.getElem?_map, List.getElem?_range h]; rfl
theorem infoStrU : (Tryd.prog.info? 9).map (fun i => (i.zero, i.size, i.bytes)) = some (some (.string ⟨#[]⟩), 1, 16) := by kernel_rfl

set_option maxHeartbeats 1000000 in
set_option maxRecDepth 100000 in
theorem refturns_any (s : ByteArray) (w : World) (hs : s.size ≤ 1000) :
    Calls Tryd.prog 11 #[.string s] w fun e w' => ∃ A c, e = .returned (.slice A s.size c) ∧ Reads w' A s.size 1 (texts (turnsU s s.size)) ∧ Below w.heap.size w w' := by
  obtain ⟨i0, hi0, hz0, hz1, hz2⟩ := info_parts infoStrU
  go_enter Tryd.func11, Tryd.ntmps11
  go_wp2
  go_loopw [3, 4] (fun v3 v4 wr => ∃ n : Nat, v4 = .int .i64 (n : Int) ∧ n ≤ s.size ∧ wr.ownsRow w.heap.size 9 1 v3 n (texts (turnsU s n)) ∧ Below w.heap.size w wr) (fun _ v4 _ => s.size - (intOf v4).toNat)
  case atStart => exact ⟨0, rfl, by omega, World.ownsRow_nil _ _ _ _, Below.refl _ _⟩
  case round =>
    obtain ⟨n, rfl, hn, hown, hb⟩ := hrel
    by_cases hlt : n < s.size
    · have kk : (n : Int) < (s.size : Int) := by omega
      have e1 : IntKind.i64.wrap ((n : Int) + 1) = (n : Int) + 1 := IntWalk.i64_in _ (by omega)
      have HT := Lib.hid (refturn_any s n wr hn (by omega))
      go_wp2_with fail
      refine HT.out.mono ?_
      rintro e w2 ⟨rfl, q, hq⟩
      have hown2 : w2.ownsRow w.heap.size 9 1 u3 n (texts (turnsU s n)) := by rw [hq]; exact own_drewN hown q
      have hb2 : Below w.heap.size w w2 := by rw [hq]; exact bdrew hb q
      have hsz2 := hb2.size
      clear hown hb hq
      obtain ⟨x, hx⟩ : ∃ x, x = trn s n := ⟨_, rfl⟩
      rw [← hx]
      have HX := Lib.hid hx
      clear hx
      go_wp2_with (first
        | (at_builtin; go_must (refine append_own _ rfl _ _ 36 rfl w.heap.size 9 i0 _ 1 16 Tryd.underlying36 hi0 hz0 hz1 hz2 rfl (by decide) _ _ _ rfl (hown2.alloc _) ⟨w2.heap.size, 0, none⟩ 1 1 [.string x] rfl rfl (cell_one_new _ _ _) (by intro u hu; simp at hu; subst hu; rfl) (by unfold maxLen; omega) (by omega) (by simp; omega) (by decide) ?_); intro g1 cap1 wA hown1 hg1 hg1' hgrow1))
      go_roundw
      case rel =>
        refine ⟨n + 1, by simp, by omega, ?_, (bmore hb2 _).grown hgrow1 (by simp; omega) (fun j hj => (hown2.lt j hj).1)⟩
        rw [turnsU_succ, ← HX.out]
        simpa [texts] using hown1
      case measure => simp [intOf]; omega
    · obtain rfl : n = s.size := by omega
      have kk : ¬ (s.size : Int) < (s.size : Int) := by omega
      obtain ⟨B, d, rfl⟩ := own_slice hown
      have hrd := Reads.of_own hown
      go_wp2
      go_ret
      exact ⟨_, ⟨_, rfl⟩, hrd, hb⟩

/-- the order of the reference is the order of the turns -/
theorem srt_turns {s : ByteArray} {o : List Nat} (h : IsSrt ((turnsU s s.size).map bs) o) : o.map (trn s) = turnsB s := by
  rw [turnsU_bs] at h
  have hlen : (rots (bs s)).length = s.size := by unfold rots; rw [List.length_map, List.length_range, bs_length]
  have hlt : ∀ i ∈ o, i < s.size := fun i hi => by have := List.mem_range.1 (h.perm.subset hi); omega
  have htx : ∀ i, i < s.size → txt (rots (bs s)) i = rotL (bs s) i := fun i hi => by
    unfold txt rots
    rw [List.getElem?_map, List.getElem?_range (by rw [bs_length]; exact hi)]; rfl
  refine map_bs_inj (sorted_eq ?_ ?_ (turnsL_sorted s))
  · refine List.Perm.trans ?_ (turnsL_perm s).symm
    rw [List.map_map]
    refine (h.perm.map _).trans (List.Perm.of_eq ?_)
    rw [hlen]
    unfold rots
    rw [bs_length]
    exact List.map_congr_left fun i _ => bs_trn s i
  · rw [List.map_map, List.pairwise_map]
    refine List.Pairwise.imp_of_mem ?_ h.sorted
    intro a b ha hb hab
    unfold prec at hab
    rw [htx a (hlt a ha), htx b (hlt b hb)] at hab
    show leL (bs (trn s a)) (bs (trn s b))
    rw [bs_trn, bs_trn]
    rcases hab with h1 | ⟨h1, _⟩
    · exact bef_asymm h1
    · rw [h1]; exact leL_refl _
/-- the first place of the text among its turns -/
def Place (s : ByteArray) (j : Nat) : Prop := (s.size = 0 ∧ j = 0) ∨ ((turnsB s)[j]? = some s ∧ s ∉ (turnsB s).take j)
theorem place_one {s : ByteArray} {i j : Nat} (hi : Place s i) (hj : Place s j) : i = j := by
  have key : ∀ {a b : Nat}, (turnsB s)[a]? = some s → s ∉ (turnsB s).take b → ¬ a < b := fun {a b} h1 h2 hlt => by
    refine h2 ?_
    refine List.mem_of_getElem? (i := a) ?_
    rw [List.getElem?_take, if_pos hlt, h1]
  have hne : ∀ {a : Nat}, (turnsB s)[a]? = some s → s.size = 0 → False := fun {a} h e => by
    rw [List.getElem?_eq_none (by rw [turnsB_length]; omega)] at h
    cases h
  rcases hi with ⟨h1, h2⟩ | ⟨h1, h2⟩ <;> rcases hj with ⟨h3, h4⟩ | ⟨h3, h4⟩
  · rw [h2, h4]
  · exact (hne h3 h1).elim
  · exact (hne h1 h3).elim
  · have := key h1 h4
    have := key h3 h2
    omega
/-- the place among the first k -/
def PlaceTo (T : List ByteArray) (s : ByteArray) (k : Nat) (b : Int) : Prop := (b = -1 ∧ s ∉ T.take k) ∨ ∃ j : Nat, b = (j : Int) ∧ j < k ∧ T[j]? = some s ∧ s ∉ T.take j
theorem PlaceTo.zero (T : List ByteArray) (s : ByteArray) : PlaceTo T s 0 (-1) := .inl ⟨rfl, by simp⟩
theorem PlaceTo.hit {T : List ByteArray} {s : ByteArray} {k : Nat} {b : Int} (h : PlaceTo T s k b) (hb : b < 0) (hk : T[k]? = some s) : PlaceTo T s (k + 1) (k : Int) := by
  rcases h with ⟨_, h⟩ | ⟨j, h, _⟩
  · exact .inr ⟨k, rfl, by omega, hk, h⟩
  · omega
theorem PlaceTo.miss {T : List ByteArray} {s : ByteArray} {k : Nat} {b : Int} {x : ByteArray} (h : PlaceTo T s k b) (hk : T[k]? = some x) (hx : ¬ x = s) : PlaceTo T s (k + 1) b := by
  rcases h with ⟨h1, h⟩ | ⟨j, h, hj, h2⟩
  · refine .inl ⟨h1, fun hm => ?_⟩
    rw [List.take_add_one, hk] at hm
    rcases List.mem_append.1 hm with hm | hm
    · exact h hm
    · simp at hm; exact hx hm.symm
  · exact .inr ⟨j, h, by omega, h2⟩
theorem PlaceTo.keep {T : List ByteArray} {s : ByteArray} {k : Nat} {b : Int} (h : PlaceTo T s k b) (hb : ¬ b < 0) : PlaceTo T s (k + 1) b := by
  rcases h with ⟨h1, h⟩ | ⟨j, h, hj, h2⟩
  · omega
  · exact .inr ⟨j, h, by omega, h2⟩

set_option maxHeartbeats 1000000 in
set_option maxRecDepth 100000 in
theorem refwheel_any (s : ByteArray) (w : World) (hs : s.size ≤ 24) :
    Calls Tryd.prog 5 #[.string s] w fun e w' => (∃ j : Nat, e = .returned (.tuple #[.string ⟨(lasts s).toArray⟩, .int .i64 (j : Int)]) ∧ Place s j) ∧ Below w.heap.size w w' := by
  have HU := Lib.hid (refturns_any s w (by omega))
  obtain ⟨LS, hLS⟩ : ∃ LS, LS = lasts s := ⟨_, rfl⟩
  rw [← hLS]
  have HLS := Lib.hid hLS
  clear hLS
  go_enter Tryd.func5, Tryd.ntmps5
  go_wp2_with fail
  refine HU.out.mono ?_
  rintro e w1 ⟨A, c, rfl, hr1, hb1⟩
  have hso := sorted_any A c (turnsU s s.size) w1 (by rw [turnsU_length]; exact hr1) (by rw [turnsU_length]; omega) (fun x hx => by rw [turnsU_size s x hx]; omega)
  rw [turnsU_length] at hso
  have HSO := Lib.hid hso
  clear hso HU
  go_wp2_with fail
  refine HSO.out.mono ?_
  rintro e w2 ⟨o, hO, ⟨B, d, rfl, hown⟩, hb2⟩
  have R1 := Lib.hid (hr1.below hb2)
  have R2 := Lib.hid (Reads.of_own hown)
  have hbb := bnext hb1 hb2
  have hTo := srt_turns hO
  have hol : o.length = s.size := by rw [hO.perm.length_eq, List.length_range, List.length_map, turnsU_length]
  have hlt : ∀ i ∈ o, i < s.size := fun i hi => by have := List.mem_range.1 (hO.perm.subset hi); simpa [turnsU_length] using this
  obtain ⟨T, hT⟩ : ∃ T, T = turnsB s := ⟨_, rfl⟩
  have hLT : LS = T.map lastB := by rw [HLS.out, hT]; rfl
  rw [← hT] at hTo
  have HT := Lib.hid hT; have HTo := Lib.hid hTo; have HLT := Lib.hid hLT; have HOL := Lib.hid hol; have HLI := Lib.hid hlt
  clear hr1 hown hb1 hb2 hO hTo hol hlt hT hLT HSO
  go_wp2_with fail
  go_loopw [6, 7, 8] (fun v6 v7 v8 wr => ∃ (k : Nat) (y : ByteArray) (b : Int), v6 = .string y ∧ v7 = .int .i64 b ∧ v8 = .int .i64 (k : Int) ∧ k ≤ s.size ∧ -1 ≤ b ∧ b ≤ k ∧ Hid (bs y = LS.take k) ∧ Hid (PlaceTo T s k b) ∧ wr = w2) (fun _ _ v8 _ => s.size - (intOf v8).toNat)
  case atStart => exact ⟨0, ⟨#[]⟩, -1, rfl, rfl, rfl, by omega, by omega, by omega, Lib.hid rfl, Lib.hid (PlaceTo.zero T s), rfl⟩
  case round =>
    obtain ⟨k, y, b, rfl, rfl, rfl, hk, hb1, hb2, HY, HP, rfl⟩ := hrel
    by_cases hlt : k < s.size
    · have kk : (k : Int) < (s.size : Int) := by omega
      have e1 : IntKind.i64.wrap ((k : Int) + 1) = (k : Int) + 1 := IntWalk.i64_in _ (by omega)
      obtain ⟨p, hp⟩ : ∃ p, o[k]? = some p := ⟨_, List.getElem?_eq_getElem (by have := HOL.out; omega)⟩
      have hpl := HLI.out p (List.mem_of_getElem? hp)
      obtain ⟨a1, o1, ea1, _, hc1⟩ := R1.out.2 (by omega)
      obtain ⟨a2, o2, ea2, _, hc2⟩ := R2.out.2 (by omega)
      subst ea1 ea2
      have c0 := hc2 k (.int .i64 (p : Int)) (by rw [ints_get]; unfold natsI; rw [List.getElem?_map, hp]; rfl)
      obtain ⟨x, hx⟩ : ∃ x, x = trn s p := ⟨_, rfl⟩
      have c1 := hc1 p (.string x) (by rw [texts_get, turnsU_get s hpl, hx]; rfl)
      have hTk : T[k]? = some x := by rw [← HTo.out, List.getElem?_map, hp, hx]; rfl
      have hxs : x.size = s.size := by rw [hx]; exact trn_size s p (by omega)
      obtain ⟨m, hm⟩ : ∃ m, s.size = m + 1 := ⟨s.size - 1, by omega⟩
      have e2 : IntKind.i64.wrap ((x.size : Int) - 1) = (m : Int) := by rw [hxs, hm]; have : (((m + 1 : Nat) : Int) - 1) = (m : Int) := by omega
                                                                        rw [this]; exact IntWalk.i64_in _ (by omega)
      have e3 : IntKind.i64.wrap ((s.size : Int) - 1) = (m : Int) := by rw [← hxs]; exact e2
      have kp : (p : Int) < (s.size : Int) := by omega
      have km : (m : Int) ≤ (x.size : Int) := by omega
      have km2 : m ≤ x.size := by omega
      have hyz : y.size ≤ 24 := by rw [← bs_length, HY.out, List.length_take]; omega
      have hex : (x.extract m x.size).size = 1 := by rw [ByteArray.size_extract]; omega
      have ks : ¬ 9223372036854775807 < y.size + (x.size - m) := by omega
      have ks2 : ¬ 9223372036854775807 < y.size + 1 := by omega
      have hyn : bs (y ++ x.extract m x.size) = LS.take (k + 1) := by
        rw [bs_app, HY.out, List.take_add_one, HLT.out, List.getElem?_map, hTk]
        congr 1
        have hb : bs (x.extract m x.size) = [lastB x] := by
          rw [bs_from, List.drop_eq_getElem_cons (by rw [bs_length]; omega), List.drop_of_length_le (by rw [bs_length]; omega)]
          unfold lastB
          rw [show x.size - 1 = m by omega, List.getElem?_eq_getElem (by rw [bs_length]; omega)]
          rfl
        rw [hb]; rfl
      have HYN := Lib.hid (show bs (y ++ x.extract m s.size) = LS.take (k + 1) by rw [← hxs]; exact hyn); have HTK := Lib.hid hTk; have HX := Lib.hid hx; have HM := Lib.hid hm
      clear hyn hTk hx hc1 hc2 hp hm hex
      by_cases hb0 : b < 0
      · by_cases hxe : x = s
        · have q1 : (x.toList == s.toList) = true := by rw [hxe]; simp
          have HPN := Lib.hid (HP.out.hit hb0 (by rw [HTK.out, hxe]))
          have HXS := Lib.hid hxe
          clear hxe
          go_wp2
          exact ⟨⟨k + 1, _, k, rfl, rfl, by go_num, by omega, by omega, by omega, HYN, HPN, by trivial⟩, by simp [intOf]; omega⟩
        · have q1 : (x.toList == s.toList) = false := by rw [bs_beq]; simpa using fun h => hxe (bs_inj h)
          have HPN := Lib.hid (HP.out.miss HTK.out hxe)
          have HXS := Lib.hid hxe
          clear hxe
          go_wp2
          exact ⟨⟨k + 1, _, b, rfl, rfl, by go_num, by omega, by omega, by omega, HYN, HPN, by trivial⟩, by simp [intOf]; omega⟩
      · have HPN := Lib.hid (HP.out.keep hb0)
        go_wp2
        exact ⟨⟨k + 1, _, b, rfl, rfl, by go_num, by omega, by omega, by omega, HYN, HPN, by trivial⟩, by simp [intOf]; omega⟩
    · obtain rfl : k = s.size := by omega
      have kk : ¬ (s.size : Int) < (s.size : Int) := by omega
      have hye : y = ⟨LS.toArray⟩ := bs_inj (by rw [HY.out, List.take_of_length_le (by rw [HLS.out, lasts_length]; omega)]; exact (bs_ba LS).symm)
      have hP := HP.out
      by_cases hb0 : b < 0
      · have hz : s.size = 0 := by
          rcases hP with ⟨_, h⟩ | ⟨j, h, _⟩
          · refine Nat.eq_zero_of_not_pos fun hpos => h ?_
            rw [List.take_of_length_le (by rw [HT.out, turnsB_length]; omega), HT.out]
            exact (turnsB_mem s s).2 ⟨0, hpos, by unfold trn; apply bs_inj; simp [bs]⟩
          · omega
        have HZ := Lib.hid hz
        subst hye
        clear hP hz HP HY
        go_wp2
        go_ret2
        exact ⟨⟨0, rfl, .inl ⟨HZ.out, rfl⟩⟩, hbb⟩
      · rcases hP with ⟨h, _⟩ | ⟨j, rfl, hj, h1, h2⟩
        · omega
        · have HJ := Lib.hid (show (turnsB s)[j]? = some s ∧ s ∉ (turnsB s).take j by rw [← HT.out]; exact ⟨h1, h2⟩)
          subst hye
          clear HP HY h1 h2
          go_wp2
          go_ret2
          exact ⟨⟨j, rfl, .inr HJ.out⟩, hbb⟩
end Go.Proofs.YtfjjjkfldekooaaDoor
