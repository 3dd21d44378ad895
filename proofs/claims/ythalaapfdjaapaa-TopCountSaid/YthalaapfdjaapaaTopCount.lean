/-
  The walk of the law TopCount: what stands in a text is counted by the tree of its ends; for every text; no condition.
-/
import Derived.Test.YthalaapfdjaapaaSfCo
import Derived.Test.YthalaapfdjaapaaTrSize
import Derived.Test.YthalaapfdjaapaaTrChk2
import Derived.Test.YthalaapfdjaapaaStd
namespace Go.Proofs.Ythalaapfdjaapaa.topCount
open Go.RowKit
set_option linter.unusedVariables false
set_option linter.unusedSimpArgs false

theorem tgo_fine : ∀ (l seen : List (List UInt8)), (∀ x ∈ l, x ≠ [] ∧ x.length ≤ 8) → (seen ++ l).Nodup → tgo seen l = 0
  | [], _, _, _ => rfl
  | x :: l, seen, h, hn => by
    have hx := h x (List.mem_cons_self ..)
    have hns : x ∉ seen := fun hm => (List.nodup_append.1 hn).2.2 x hm x (List.mem_cons_self ..) rfl
    rw [tgo, if_neg (by omega), if_neg hx.1, if_neg (by simpa using hns)]
    exact tgo_fine l (seen ++ [x]) (fun y hy => h y (List.mem_cons_of_mem _ hy)) (by rw [List.append_assoc]; exact hn)
theorem tchk_ends (l : List UInt8) (hl : l.length ≤ 6) : tchk (ends l) = 0 := by
  unfold tchk
  rw [if_neg (by unfold ends; simp; omega)]
  refine tgo_fine _ _ (fun x hx => ?_) (by simpa using nodup_ends l)
  obtain ⟨i, hi, rfl⟩ := (mem_ends l x).1 hx
  refine ⟨fun e => ?_, by simp; omega⟩
  have := congrArg List.length e
  simp at this
  omega
theorem all_from (P : List (List UInt8)) : cntU P [] = P.length := by
  unfold cntU
  rw [List.filter_eq_self.2 (fun x _ => by simp)]
theorem subs_few : ∀ (L : List (List UInt8)), (∀ x ∈ L, x.length ≤ 8) → (subs L).length ≤ L.length * 8
  | [], _ => by simp [subs]
  | x :: L, h => by
    have h1 := subs_few L (fun y hy => h y (List.mem_cons_of_mem _ hy))
    have h2 := h x (List.mem_cons_self ..)
    have h3 : (newOf L x).length ≤ x.length := by
      unfold newOf
      exact Nat.le_trans (List.length_filter_le _ _) (by simp)
    show (newOf L x ++ subs L).length ≤ _
    rw [List.length_append, List.length_cons, Nat.succ_mul]
    omega
set_option maxHeartbeats 1000000 in
theorem size_words (A : Option Addr) (c : Nat) (L : List ByteArray) (w : World) (hr : Reads w A L.length 1 (texts L)) (hL : L.length ≤ 6) (hc : L.length ≤ c) (hsz : ∀ s ∈ L, s.size ≤ 8) (hk : tchk (L.map bs) = 0) :
    Calls Try.prog 19 #[.slice A L.length c] w fun e w' => e = .returned (.tuple #[.int .i64 (((subs (L.map bs)).length + 1 : Nat) : Int), .nilIface]) ∧ Below w.heap.size w w' := by
  have HC := Lib.hid (check_words A c L w hr (by unfold maxLen; omega) hc (fun s h => by have := hsz s h; unfold maxLen; omega))
  rw [hk] at HC
  have HG := Lib.hid (fun (W : World) (h : Below w.heap.size w W) => grow_any A c L W (hr.below h) (by omega) (fun s h => by have := hsz s h; omega))
  have hfew := subs_few (L.map bs) (fun x hx => by
    obtain ⟨s, hs, rfl⟩ := List.mem_map.1 hx
    rw [bs_length]
    exact hsz s hs)
  rw [List.length_map] at hfew
  have hnd := nodup_subs (L.map bs)
  have hms := mem_subs (L.map bs)
  have hL8 : ∀ x ∈ L.map bs, x.length ≤ 8 := fun x hx => by
    obtain ⟨s, hs, rfl⟩ := List.mem_map.1 hx
    rw [bs_length]
    exact hsz s hs
  generalize subs (L.map bs) = P at *
  generalize L.map bs = M at *
  have HND := Lib.hid hnd; have HMS := Lib.hid hms; have H8 := Lib.hid hL8
  clear hr hsz hk hnd hms hL8
  go_enter Try.func19, Try.ntmps19
  go_wp2_with fail
  refine HC.out.mono ?_
  rintro e w1 ⟨rfl, hb1⟩
  rw [show errT 0 = .nilIface from rfl]
  go_wp2_with fail
  refine (HG.out _ hb1).mono ?_
  rintro e w2 ⟨⟨N, at_, wd, r, rfl, hT, h0, hh, _⟩, hb2⟩
  have hmem : ∀ v, v ∈ [] :: P ↔ at_ v ≠ none := by
    intro v
    rw [hh, List.mem_cons, HMS.out]
    unfold Has
    constructor
    · rintro (h | ⟨_, h⟩)
      · exact .inl h
      · exact .inr (.inl h)
    · rintro (h | h | h)
      · exact .inl h
      · by_cases he : v = []
        · exact .inl he
        · exact .inr ⟨he, h⟩
      · exact .inl (List.prefix_nil.1 h)
  have hs := size_any ([] :: P) _ N at_ wd (List.nodup_cons.2 ⟨fun h => ((HMS.out []).1 h).1 rfl, HND.out⟩) hmem (by rw [List.length_cons]; omega) 8 [] r w2 hT h0 (fun v hv _ => by
    rcases List.mem_cons.1 hv with h | h
    · rw [h]; simp
    · obtain ⟨_, x, hx, hp⟩ := (HMS.out v).1 h
      have := hp.length_le
      have := H8.out x hx
      simp
      omega)
  rw [all_from, List.length_cons] at hs
  have HS := Lib.hid hs
  have hb := bnext hb1 hb2
  clear hs hmem hh hT h0 hb1 hb2
  go_wp2_with fail
  refine HS.out.mono ?_
  rintro e w3 ⟨rfl, hb3⟩
  go_wp2_with fail
  go_ret2
  exact ⟨rfl, bnext hb hb3⟩

theorem many_aa (w : World) :
    Calls Try.prog 14 #[.string ⟨#[97, 97]⟩] w fun e w' => e = .returned (.tuple #[.int .i64 2, .nilIface]) ∧ Below w.heap.size w w' := by
  have h := count_any ⟨#[97, 97]⟩ w (by decide)
  rw [show many ((⟨#[97, 97]⟩ : ByteArray).data.toList) = 2 by decide +kernel] at h
  exact h

theorem infoS : (Try.prog.info? 9).map (fun i => (i.zero, i.size, i.bytes)) = some (some (.string ⟨#[]⟩), 1, 16) := by kernel_rfl
def endsB (s : ByteArray) (n : Nat) : List ByteArray := (List.range n).map fun i => s.extract i s.size
theorem endsB_succ (s : ByteArray) (n : Nat) : endsB s (n + 1) = endsB s n ++ [s.extract n s.size] := by simp [endsB, List.range_succ]
theorem endsB_length (s : ByteArray) (n : Nat) : (endsB s n).length = n := by simp [endsB]
theorem endsB_bs (s : ByteArray) : (endsB s s.size).map bs = ends (bs s) := by
  unfold endsB ends
  rw [List.map_map, bs_length]
  refine List.map_congr_left fun i _ => ?_
  exact bs_from s i
theorem endsB_small (s x : ByteArray) (n : Nat) (h : x ∈ endsB s n) : x.size ≤ s.size := by
  unfold endsB at h
  obtain ⟨i, _, rfl⟩ := List.mem_map.1 h
  simp

theorem own_cap {w : World} {base : Nat} {e : TypeId} {A : Option Addr} {n c : Nat} {xs : List Value} (h : w.ownsRow base e 1 (.slice A n c) n xs) : n ≤ c := by
  rcases h.2 with ⟨h, hn⟩ | ⟨g, cap, _, h, _, _, hc, _⟩
  · omega
  · obtain ⟨_, _, rfl⟩ := Value.slice.inj h
    exact hc
theorem walk_no (w : World) (s : ByteArray) (hs : 24 < s.size) :
    Calls Try.prog 8 #[.string s] w fun e w' => e = .returned (.bool true) ∧ Below w.heap.size w w' := by
  have HC := Lib.hid (fun W : World => count_no s W hs)
  go_enter Try.func8, Try.ntmps8
  go_wp2_with fail
  refine (HC.out _).mono ?_
  rintro e w1 ⟨rfl, hb1⟩
  go_wp2_with fail
  refine (many_aa _).mono ?_
  rintro e w2 ⟨rfl, hb2⟩
  go_wp2_with fail
  go_ret
  exact ⟨rfl, bnext hb1 hb2⟩
theorem walk_mid (w : World) (s : ByteArray) (hs : s.size ≤ 24) (h6 : 6 < s.size) :
    Calls Try.prog 8 #[.string s] w fun e w' => e = .returned (.bool true) ∧ Below w.heap.size w w' := by
  have HC := Lib.hid (fun W : World => count_any s W hs)
  have k6 : (6 : Int) < (s.size : Int) := by omega
  generalize many s.data.toList = m at *
  go_enter Try.func8, Try.ntmps8
  go_wp2_with fail
  refine (HC.out _).mono ?_
  rintro e w1 ⟨rfl, hb1⟩
  go_wp2_with fail
  refine (many_aa _).mono ?_
  rintro e w2 ⟨rfl, hb2⟩
  go_wp2_with fail
  go_ret
  exact ⟨rfl, bnext hb1 hb2⟩
set_option maxHeartbeats 1000000 in
set_option maxRecDepth 100000 in
theorem walk_ok (w : World) (s : ByteArray) (hs : s.size ≤ 6) :
    Calls Try.prog 8 #[.string s] w fun e w' => e = .returned (.bool true) ∧ Below w.heap.size w w' := by
  obtain ⟨i0, hi0, hz0, hz1, hz2⟩ := info_parts infoS
  have HC := Lib.hid (fun W : World => count_any s W (by omega))
  have k6 : ¬ (6 : Int) < (s.size : Int) := by omega
  have k7 : (s.size : Int) ≤ 6 := by omega
  obtain ⟨m, hm⟩ : ∃ m, m = many s.data.toList := ⟨_, rfl⟩
  have hfew : m ≤ 48 := by
    rw [hm]
    unfold many
    refine Nat.le_trans (subs_few _ (fun x hx => ?_)) ?_
    · obtain ⟨i, hi, rfl⟩ := (mem_ends _ x).1 hx
      simp
      omega
    · unfold ends
      simp
      omega
  have kf : (m : Int) ≤ 48 := by omega
  have HS := Lib.hid (fun (W : World) (A : Option Addr) (c : Nat) (hr : Reads W A s.size 1 (texts (endsB s s.size))) (hc : s.size ≤ c) => by
    have h := size_words A c (endsB s s.size) W (by rw [endsB_length]; exact hr) (by rw [endsB_length]; exact hs) (by rw [endsB_length]; exact hc) (fun x hx => by have := endsB_small s x _ hx; omega) (by
      rw [endsB_bs]
      exact tchk_ends _ (by rw [bs_length]; exact hs))
    rw [endsB_bs, endsB_length, show (subs (ends (bs s))).length = m from hm.symm] at h
    exact h)
  rw [← hm] at HC
  clear hm hfew
  have wm : IntKind.i64.wrap ((m : Int) + 1) = (m : Int) + 1 := IntWalk.i64_in _ (by omega)
  go_enter Try.func8, Try.ntmps8
  go_wp2_with fail
  refine (HC.out _).mono ?_
  rintro e w1 ⟨rfl, hb1⟩
  go_wp2_with fail
  refine (many_aa _).mono ?_
  rintro e w2 ⟨rfl, hb2⟩
  have hb2 := bnext hb1 hb2
  clear hb1
  go_wp2
  go_loopw [7, 8, 38, 39, 40, 41, 42, 43, 44, 45, 46, 47, 48, 49] (fun v3 v4 _ _ _ _ _ _ _ _ _ _ _ _ wr => ∃ n : Nat, v4 = .int .i64 (n : Int) ∧ n ≤ s.size ∧ wr.ownsRow w.heap.size 9 1 v3 n (texts (endsB s n)) ∧ Below w.heap.size w wr) (fun _ v4 _ _ _ _ _ _ _ _ _ _ _ _ _ => s.size - (intOf v4).toNat)
  case atStart => exact ⟨0, rfl, by omega, World.ownsRow_nil _ _ _ _, hb2⟩
  case round =>
    obtain ⟨n, rfl, hn, hown, hb⟩ := hrel
    by_cases hlt : n < s.size
    · have kk : (n : Int) < (s.size : Int) := by omega
      have e1 : IntKind.i64.wrap ((n : Int) + 1) = (n : Int) + 1 := IntWalk.i64_in _ (by omega)
      have k2 : (n : Int) ≤ (s.size : Int) := by omega
      go_wp2_with (first
        | (at_builtin; go_must (refine append_own _ rfl _ _ 39 rfl w.heap.size 9 i0 _ 1 16 Try.underlying39 hi0 hz0 hz1 hz2 rfl (by decide) _ _ _ rfl (hown.alloc _) ⟨wr.heap.size, 0, none⟩ 1 1 [.string (s.extract n s.size)] rfl rfl (cell_one_new _ _ _) (by intro u hu; simp at hu; subst hu; rfl) (by unfold maxLen; omega) (by omega) (by have := hb.size; simp; omega) (by decide) ?_); intro g1 cap1 wA hown1 hg1 hg1' hgrow1))
      go_roundw
      case rel =>
        refine ⟨n + 1, by simp, by omega, ?_, (bmore hb _).grown hgrow1 (by have := hb.size; simp; omega) (fun j hj => (hown.lt j hj).1)⟩
        rw [endsB_succ]
        simpa [texts] using hown1
      case measure => simp [intOf]; omega
    · obtain rfl : n = s.size := by omega
      have kk : ¬ (s.size : Int) < (s.size : Int) := by omega
      obtain ⟨B, d, rfl⟩ := own_slice hown
      have hrd := Reads.of_own hown
      have hcap := own_cap hown
      have HR := Lib.hid (HS.out _ _ _ hrd hcap)
      clear hown hrd hcap
      go_wp2_with fail
      refine HR.out.mono ?_
      rintro e w3 ⟨rfl, hb3⟩
      go_wp2_with fail
      go_ret
      exact ⟨rfl, bnext hb hb3⟩
theorem walk (w : World) (s : ByteArray) (_ : s.size ≤ 140737488351232) :
    Calls Try.prog 8 #[.string s] w fun e w' => e = .returned (.bool true) ∧ Below w.heap.size w w' := by
  by_cases h : 24 < s.size
  · exact walk_no w s h
  · by_cases h6 : 6 < s.size
    · exact walk_mid w s (by omega) h6
    · exact walk_ok w s (by omega)
end Go.Proofs.Ythalaapfdjaapaa.topCount
