/-
  The walk of the law SuffixSays: for every text the functions of package suffix answer what the reference answers; no condition.
-/
import Derived.Test.YthalaapfdjaapaaDoorAs
import Derived.Test.YthalaapfdjaapaaDoorSfCo
import Derived.Test.YthalaapfdjaapaaDoorSrtW
import Derived.Test.YthalaapfdjaapaaDoorSfRefC
import Derived.Test.YthalaapfdjaapaaDoorInts
import Derived.Deep.RegionLaw
namespace Go.Proofs.YthalaapfdjaapaaDoor.suffixSays
open Go.RowKit
set_option linter.unusedVariables false
set_option linter.unusedSimpArgs false

theorem step_append_own {P : Program} {ops : Array Oper} {o : Oper} {a : Act} {w : World} {K : Act → World → Prop} {Q : Exit → Act → World → Prop} {E : Prop}
    (hg : o.guard = none) (s x : Operand) (t : TypeId) (hop : o.op = .call { callee := .builtin .append, args := #[s, x], argTypes := #[t, t] })
    (base : Nat) (e : TypeId) (i : TypeInfo) (z : Value) (size bytes : Nat) (ht : P.underlying t = some (.slice e)) (hi : P.info? e = some i) (hz : i.zero = some z)
    (hsize : i.size = size) (hby : i.bytes = bytes) (hzs : z.cells.size = size) (hsz : 0 < size)
    (v : Value) (n : Nat) (xs : List Value) (hs : a.eval s = v) (hown : w.ownsRow base e size v n xs)
    (ad : Addr) (m c : Nat) (news : List Value) (hx : a.eval x = .slice (some ad) m c) (hl : news.length = m * size) (hnews : ∀ j u, news[j]? = some u → w.cell? (ad.add j) = some u) (h1 : ∀ u ∈ news, u.oneCell' = true)
    (h63 : n + m ≤ maxLen) (hbytes : (n + m) * bytes ≤ 140737488355328) (hbase : base ≤ w.heap.size)
    (h : ∀ v' w', w'.ownsRow base e size v' (n + m) (xs ++ news) → w.grownBy w' v.ownBlock → K (a.put o.dst v') w') :
    if Region.wanted o (yielded ops a.tmps) = true then Oper.wp P o a w K Q else E := by
  have hw : Region.wanted o (yielded ops a.tmps) = true := by simp [Region.wanted, hg]
  rw [if_pos hw]
  exact wp_append_own w s x t hop base e i z size bytes ht hi hz hsize hby hzs hsz v n xs hs hown ad m c news hx hl hnews h1 h63 hbytes hbase fun v' w' h2 h3 _ => h v' w' h2 h3

theorem law_long (s : ByteArray) (m : Int) (w : World) (hs : s.size ≤ 140737488351232) : Calls Tryd.prog 4 #[.string s, .int .i64 m] w fun e w' => e = .returned (.int .i64 (if m < (s.size : Int) then 4 else 0)) ∧ w = w' := by
  by_cases h : m < (s.size : Int)
  all_goals
    go_enter Tryd.func4, Tryd.ntmps4
    go_wp2
    go_ret
    exact ⟨rfl, rfl⟩
theorem ints_eq (A B : Option Addr) (c d n : Nat) (l : List Int) (hn : l.length = n) (w : World) (hl : Reads w A n 1 (ints l)) (hm : Reads w B n 1 (ints l)) (h1 : n ≤ maxLen) :
    Calls Tryd.prog 11 #[.slice A n c, .slice B n d] w fun e w' => e = .returned (.bool true) ∧ Below w.heap.size w w' := by
  subst hn
  have := ints_any A B c d l l w hl hm h1
  rwa [decide_eq_true rfl] at this

set_option maxHeartbeats 1000000 in
set_option maxRecDepth 100000 in
theorem walk_no (w : World) (s : ByteArray) (s0 : s.size ≤ 140737488351232) (hs : 24 < s.size) (hg : As.Laid w) :
    Calls Tryd.prog 3 #[.string s] w fun e w' => e = .returned (.bool true) ∧ Below w.heap.size w w' := by
  have HLONG := Lib.hid (fun w' => law_long s 24 w' s0)
  have HG := Lib.hid (fun (w' : World) (hb : Below w.heap.size w w') => hg.below hb)
  have HO := Lib.hid (fun w' => order_no s w' hs)
  have HA := Lib.hid (fun w' => alike_no s w' hs)
  have HC := Lib.hid (fun w' => count_no s w' hs)
  clear hg
  go_enter Tryd.func3, Tryd.ntmps3
  go_wp2_with fail
  refine (HLONG.out _).mono ?_
  rintro e w0 ⟨rfl, rfl⟩
  rw [if_pos (by omega)]
  go_wp2_with fail
  refine (HO.out _).mono ?_
  rintro e w1 ⟨rfl, hb1⟩
  go_wp2_with fail
  refine (As.error_no 4 (by decide) _ (HG.out _ hb1)).mono ?_
  rintro e w2 ⟨rfl, hb⟩
  have hb2 := bnext hb1 hb
  go_wp2_with fail
  refine (ints_eq _ _ _ _ 0 [] rfl _ (Reads.nil _ _) (Reads.nil _ _) (by decide)).mono ?_
  rintro e w3 ⟨rfl, hb⟩
  have hb3 := bnext hb2 hb
  go_wp2_with fail
  refine (HA.out _).mono ?_
  rintro e w4 ⟨rfl, hb⟩
  have hb4 := bnext hb3 hb
  go_wp2_with fail
  refine (As.error_no 4 (by decide) _ (HG.out _ hb4)).mono ?_
  rintro e w5 ⟨rfl, hb⟩
  have hb5 := bnext hb4 hb
  go_wp2_with fail
  refine (ints_eq _ _ _ _ 0 [] rfl _ (Reads.nil _ _) (Reads.nil _ _) (by decide)).mono ?_
  rintro e w6 ⟨rfl, hb⟩
  have hb6 := bnext hb5 hb
  go_wp2_with fail
  refine (HC.out _).mono ?_
  rintro e w7 ⟨rfl, hb⟩
  have hb7 := bnext hb6 hb
  go_wp2_with fail
  refine (As.error_no 4 (by decide) _ (HG.out _ hb7)).mono ?_
  rintro e w8 ⟨rfl, hb⟩
  have hb8 := bnext hb7 hb
  go_wp2_with fail
  go_ret
  exact ⟨rfl, hb8⟩

set_option maxHeartbeats 2000000 in
set_option maxRecDepth 100000 in
theorem walk_ok (w : World) (s : ByteArray) (hs : s.size ≤ 24) (hg : As.Laid w) :
    Calls Tryd.prog 3 #[.string s] w fun e w' => e = .returned (.bool true) ∧ Below w.heap.size w w' := by
  obtain ⟨l, hl⟩ : ∃ l, l = s.data.toList := ⟨_, rfl⟩
  have hln : l.length = s.size := by rw [hl]; simp
  have HLONG := Lib.hid (fun w' => law_long s 24 w' (by omega))
  have HE := Lib.hid (fun w' => refends_any s w' (by omega))
  have hSO : ∀ (A : Option Addr) (c : Nat) (W : World), Reads W A s.size 1 (texts (endsB s s.size)) → Calls Tryd.prog 5 #[.slice A s.size c] W fun e w' => (∃ B d, e = .returned (.slice B s.size d) ∧ w'.ownsRow W.heap.size 3 1 (.slice B s.size d) s.size (ints (natsI (ordOf l)))) ∧ Below W.heap.size W w' := by
    intro A c W hr
    have h1 := sorted_any A c (endsB s s.size) W (by rw [endsB_length]; exact hr) (by rw [endsB_length]; omega) (fun x hx => by have := endsB_small s x _ hx; omega)
    rw [endsB_length] at h1
    refine h1.mono ?_
    rintro e w' ⟨o, ho, h2, hb⟩
    refine ⟨?_, hb⟩
    rw [endsB_bs, show bs s = l from hl.symm] at ho
    rwa [srt_ends ho] at h2
  have HSO := Lib.hid hSO
  have HRC := Lib.hid (fun w' => refcount_any s w' hs)
  have HO := Lib.hid (fun w' => order_all s w' hs)
  have HA := Lib.hid (fun w' => alike_any s w' hs)
  have HC := Lib.hid (fun w' => count_any s w' hs)
  rw [← hl] at HRC HO HA HC
  have hO := ordOf_is l
  have hag := alikeOf_get l
  have hall := alikeOf_length l
  obtain ⟨al, hal⟩ : ∃ al, al = alikeOf l := ⟨_, rfl⟩
  obtain ⟨o, ho⟩ : ∃ o, o = ordOf l := ⟨_, rfl⟩
  rw [← ho] at HSO HO hO hag
  rw [← hal] at HA hag hall
  obtain ⟨M, hM⟩ : ∃ M, M = many l := ⟨_, rfl⟩
  rw [← hM] at HRC HC
  obtain ⟨n1, hn1⟩ : ∃ n1, n1 = s.size - 1 := ⟨_, rfl⟩
  rw [← hn1] at HA
  rw [hln, ← hn1] at hall
  have hol : o.length = s.size := by rw [hO.length, hln]
  have HRA := Lib.hid (fun (j i : Nat) (hj : j ≤ 24) (hi : i ≤ 24) (W : World) => refalike_any (s.extract j s.size) (s.extract i s.size) W (by simp; omega) (by simp; omega))
  have HBS := Lib.hid (show bs s = l from hl.symm)
  have HN1 := Lib.hid hn1
  have HLN := Lib.hid hln
  obtain ⟨i0, hi0, hz0, hz1, hz2⟩ := info_parts infoI
  clear hSO hl hal ho hM hn1 hln
  go_enter Tryd.func3, Tryd.ntmps3
  go_wp2_with fail
  refine (HLONG.out _).mono ?_
  rintro e w0 ⟨rfl, rfl⟩
  rw [if_neg (by omega)]
  go_wp2_with fail
  refine (HE.out _).mono ?_
  rintro e w1 ⟨A, c, rfl, hr1, hb1⟩
  go_wp2_with fail
  refine (HSO.out _ _ _ hr1).mono ?_
  rintro e w2 ⟨⟨B, d, rfl, hown2⟩, hb2⟩
  have hro := Reads.of_own hown2
  have hbw := bnext hb1 hb2
  clear HE HSO hr1 hown2 HLONG
  go_wp2_with fail
  go_loopw [5, 7, 20, 21, 22, 23, 24, 25, 26, 27, 28, 29, 30, 31, 32, 33, 34, 35, 36, 37, 38, 39, 40, 41, 42] (fun v5 v7 _ _ _ _ _ _ _ _ _ _ _ _ _ _ _ _ _ _ _ _ _ _ _ wr => ∃ t : Nat, v7 = .int .i64 (t : Int) ∧ 1 ≤ t ∧ (t ≤ s.size ∨ t = 1) ∧ wr.ownsRow w2.heap.size 3 1 v5 (t - 1) (ints (natsI (al.take (t - 1)))) ∧ Below w2.heap.size w2 wr) (fun _ v7 _ _ _ _ _ _ _ _ _ _ _ _ _ _ _ _ _ _ _ _ _ _ _ _ => s.size - (intOf v7).toNat)
  case atStart => exact ⟨1, rfl, by omega, .inr rfl, World.ownsRow_nil _ _ _ _, Below.refl _ _⟩
  case round =>
    obtain ⟨t, rfl, ht1, htn, hown, hb⟩ := hrel
    have hrd := hro.below hb
    by_cases hlt : t < s.size
    · have kk : (t : Int) < (s.size : Int) := by omega
      have e1 : IntKind.i64.wrap ((t : Int) + 1) = (t : Int) + 1 := IntWalk.i64_in _ (by omega)
      obtain ⟨p, hp⟩ : ∃ p, p = t - 1 := ⟨_, rfl⟩
      have hpt : p + 1 = t := by omega
      have e2 : IntKind.i64.wrap ((t : Int) - 1) = (p : Int) := by rw [show (t : Int) - 1 = (p : Int) by omega]; exact IntWalk.i64_in _ (by omega)
      have k2 : (p : Int) < (s.size : Int) := by omega
      obtain ⟨b, of, rfl, hbl, hc⟩ := hrd.2 (by omega)
      obtain ⟨i, hi⟩ : ∃ i, o[t]? = some i := ⟨_, List.getElem?_eq_getElem (by omega)⟩
      obtain ⟨j, hj⟩ : ∃ j, o[p]? = some j := ⟨_, List.getElem?_eq_getElem (by omega)⟩
      have c0 := hc t (.int .i64 (i : Int)) (by rw [ints_get, natsI_get, hi]; rfl)
      have c1 := hc p (.int .i64 (j : Int)) (by rw [ints_get, natsI_get, hj]; rfl)
      have hin := hO.lt hi
      have hjn := hO.lt hj
      rw [HLN.out] at hin hjn
      have ki : (i : Int) ≤ (s.size : Int) := by omega
      have kj : (j : Int) ≤ (s.size : Int) := by omega
      have hfp := hag p (by rw [HLN.out]; omega)
      have hf : far l o (p + 1) = lcp (l.drop j) (l.drop i) := by
        unfold far
        rw [if_neg (by omega), Nat.add_sub_cancel, hj, hpt, hi]; rfl
      rw [hf] at hfp
      have hra := HRA.out j i (by omega) (by omega)
      obtain ⟨f, hff⟩ : ∃ f, f = lcp (l.drop j) (l.drop i) := ⟨_, rfl⟩
      rw [bs_from, bs_from, HBS.out, ← hff] at hra
      rw [← hff] at hfp
      have htk : al.take (t - 1 + 1) = al.take (t - 1) ++ [f] := by rw [List.take_add_one, ← hp, hfp]; rfl
      have HTK := Lib.hid htk; have HRR := Lib.hid hra; have HPT := Lib.hid hpt; have HP := Lib.hid hp
      have hbs := hb.size
      clear hc hi hj hfp hf hff htk hra hpt hag hO
      rw [← hp] at hown HTK
      clear hp
      go_wp2_with fail
      go_region_law (first
        | (refine step_append_own rfl _ _ 23 rfl w2.heap.size 3 i0 _ 1 8 Tryd.underlying23 hi0 hz0 hz1 hz2 rfl (by decide) _ p _ rfl (own_drewN (n := p) hown _ |>.alloc _) ⟨_, 0, none⟩ 1 1 [.int .i64 (f : Int)] rfl rfl (cell_one_new _ _ _) (int_oneCell _) (by unfold maxLen; omega) (by omega) (by simp; omega) ?_; intro v2 wA hownA hgrowA)
        | (go_simp; go_at_call 7; refine (HRR.out _).mono ?_; rintro e w' ⟨rfl, q, rfl⟩))
      all_goals
        go_wp2
        refine ⟨⟨t + 1, by simp, by omega, .inl (by omega), ?_, ?_⟩, by simp [intOf]; omega⟩
        · have e3 : t + 1 - 1 = p + 1 := by have := HPT.out; omega
          rw [e3, HTK.out]
          simpa [ints, natsI] using hownA
        · exact Below.grown (bmore (bdrew hb _) _) hgrowA (by simp; omega) (fun k hk => (hown.lt k hk).1)
    · have kk : ¬ (t : Int) < (s.size : Int) := by omega
      have htn1 : t - 1 = n1 := by have := HN1.out; omega
      rw [htn1, List.take_of_length_le (by omega)] at hown
      obtain ⟨C, cc, rfl⟩ := own_slice hown
      have hra := Reads.of_own hown
      have hbr := bnext hbw hb
      clear hown htn1 hag
      have HRD := Lib.hid hrd; have HRA2 := Lib.hid hra
      clear hrd hra hro
      go_wp2_with fail
      refine (HRC.out _).mono ?_
      rintro e w3 ⟨rfl, h3⟩
      have b3 := bnext hbr h3
      go_wp2_with fail
      refine (HO.out _).mono ?_
      rintro e w4 ⟨D, dd, rfl, hrD, h4⟩
      have b4 := bnext b3 h4
      go_wp2_with fail
      refine (As.error_ok _).mono ?_
      rintro e w5 ⟨rfl, h5⟩
      have b5 := bnext b4 h5
      have r1 := hrD.below h5
      have r2 := (HRD.out.below (bnext h3 (bnext h4 h5)))
      go_wp2_with fail
      refine (ints_eq _ _ _ _ s.size (natsI o) (by rw [natsI_length, hol]) _ r1 r2 (by unfold maxLen; omega)).mono ?_
      rintro e w6 ⟨rfl, h6⟩
      have b6 := bnext b5 h6
      have s6 := bnext h3 (bnext h4 (bnext h5 h6))
      clear r1 r2 hrD
      go_wp2_with fail
      refine (HA.out _).mono ?_
      rintro e w7 ⟨E, ee, rfl, hrE, h7⟩
      have b7 := bnext b6 h7
      go_wp2_with fail
      refine (As.error_ok _).mono ?_
      rintro e w8 ⟨rfl, h8⟩
      have b8 := bnext b7 h8
      have r3 := hrE.below h8
      have r4 := HRA2.out.below (bnext s6 (bnext h7 h8))
      go_wp2_with fail
      refine (ints_eq _ _ _ _ n1 (natsI al) (by rw [natsI_length, hall]) _ r3 r4 (by unfold maxLen; have := HN1.out; omega)).mono ?_
      rintro e w9 ⟨rfl, h9⟩
      have b9 := bnext b8 h9
      clear r3 r4 hrE
      go_wp2_with fail
      refine (HC.out _).mono ?_
      rintro e w10 ⟨rfl, h10⟩
      have b10 := bnext b9 h10
      go_wp2_with fail
      refine (As.error_ok _).mono ?_
      rintro e w11 ⟨rfl, h11⟩
      have b11 := bnext b10 h11
      go_wp2_with fail
      go_ret
      exact ⟨rfl, b11⟩
theorem walk (w : World) (s : ByteArray) (s0 : s.size ≤ 140737488351232) (hg : As.Laid w) :
    Calls Tryd.prog 3 #[.string s] w fun e w' => e = .returned (.bool true) ∧ Below w.heap.size w w' := by
  by_cases hs : s.size ≤ 24
  · exact walk_ok w s hs hg
  · exact walk_no w s s0 (by omega) hg
end Go.Proofs.YthalaapfdjaapaaDoor.suffixSays
