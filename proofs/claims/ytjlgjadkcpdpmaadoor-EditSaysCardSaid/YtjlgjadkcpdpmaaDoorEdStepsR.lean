/-
  The walk of the reference's Steps (letterbeckref2).
-/
import Derived.Test.YtjlgjadkcpdpmaaDoorEdTabW
import Derived.Test.YtjlgjadkcpdpmaaDoorEdSteps
namespace Go.Proofs.YtjlgjadkcpdpmaaDoor.Ed
open Go.RowKit
set_option linter.unusedVariables false

def PRel (a b : ByteArray) (I J : Nat) (B : ByteArray) (all : List UInt8) : Prop :=
  ∃ out : List UInt8, B = ⟨out.toArray⟩ ∧ out ++ steps ((Co.bs a).drop I) ((Co.bs b).drop J) = all ∧ out.length ≤ I + J
theorem PRel.size {a b : ByteArray} {I J : Nat} {B : ByteArray} {all : List UInt8} (h : PRel a b I J B all) : B.size ≤ I + J := by
  obtain ⟨out, rfl, _, h⟩ := h
  show out.toArray.size ≤ _
  simpa using h
theorem PRel.step {a b : ByteArray} {I J I' J' : Nat} {B : ByteArray} {all : List UInt8} (h : PRel a b I J B all) (c : UInt8) (he : steps ((Co.bs a).drop I) ((Co.bs b).drop J) = c :: steps ((Co.bs a).drop I') ((Co.bs b).drop J')) (hl : I + J + 1 ≤ I' + J') : PRel a b I' J' (B ++ ⟨#[c]⟩) all := by
  obtain ⟨out, rfl, e, h⟩ := h
  refine ⟨out ++ [c], ?_, ?_, by rw [List.length_append, List.length_singleton]; omega⟩
  · rw [show (⟨#[c]⟩ : ByteArray) = ⟨[c].toArray⟩ from rfl, ByteArray.mk_append_mk]
  · rw [← e, he]; simp
/-- the steps at a place, by the numbers of the table -/
theorem steps_both (x y : UInt8) (a b : List UInt8) :
    steps (x :: a) (y :: b) = if ¬ x = y ∧ lev a b + 1 = lev (x :: a) (y :: b) then 33 :: steps a b else if lev (x :: a) b + 1 = lev (x :: a) (y :: b) then 43 :: steps (x :: a) b else if lev a (y :: b) + 1 = lev (x :: a) (y :: b) then 45 :: steps a (y :: b) else 61 :: steps a b := by
  rw [steps_unfold _ _ (by simp)]
  simp only [subOk, insOk, delOk, List.tail_cons]
  by_cases h1 : x = y
  · simp [h1]
  · simp [h1]
theorem steps_left (x : UInt8) (a : List UInt8) : steps (x :: a) [] = 45 :: steps a [] := by
  rw [steps_unfold _ _ (by simp)]
  simp [subOk, insOk, delOk, lev_nil_right]
theorem steps_right (y : UInt8) (b : List UInt8) : steps [] (y :: b) = 43 :: steps [] b := by
  rw [steps_unfold _ _ (by simp)]
  simp [subOk, insOk, lev_nil]
set_option maxRecDepth 100000 in
set_option maxHeartbeats 8000000 in
theorem refsteps_any (a b : ByteArray) (w : World) (ha : a.size ≤ 24) (hb : b.size ≤ 24) :
    Calls Tryd.prog 13 #[.string a, .string b] w fun e w' => e = .returned (.string ⟨(steps (Co.bs a) (Co.bs b)).toArray⟩) ∧ Below w.heap.size w w' := by
  have hLa := Co.bs_length a
  have hLb := Co.bs_length b
  have HLA := Lib.hid hLa; have HLB := Lib.hid hLb
  have hst : PRel a b 0 0 ⟨#[]⟩ (steps (Co.bs a) (Co.bs b)) := ⟨[], rfl, by simp, by simp⟩
  obtain ⟨all, hall⟩ : ∃ all, all = steps (Co.bs a) (Co.bs b) := ⟨_, rfl⟩
  rw [← hall] at hst ⊢
  have HST := Lib.hid hst
  have HTAB := Lib.hid (fun w => table_any a b w ha hb)
  clear hLa hLb hst hall
  go_enter Tryd.func13, Tryd.ntmps13
  go_wp2_with fail
  refine (HTAB.out _).mono ?_
  rintro e wt ⟨v, gs, rfl, ⟨hgl, ht⟩, hbt⟩
  obtain ⟨g0, cap0, e, hg0, _⟩ := own_some ht.own (by omega)
  rw [hgl] at e
  subst e
  have HGL := Lib.hid hgl
  have HT := Lib.hid (fun (wq : World) (hb : Below wt.heap.size wt wq) => ht.below hb)
  clear hgl ht HTAB
  go_wp2
  go_loopw [6, 7, 8] (fun s6 i j wr => ∃ (I J : Nat) (B : ByteArray), I ≤ a.size ∧ J ≤ b.size ∧ i = .int .i64 I ∧ j = .int .i64 J ∧ s6 = .string B ∧ Hid (PRel a b I J B all) ∧ Below wt.heap.size wt wr) (fun _ i j _ => (a.size - (intOf i).toNat) + (b.size - (intOf j).toNat))
  case atStart => exact ⟨0, 0, ⟨#[]⟩, Nat.zero_le _, Nat.zero_le _, rfl, rfl, rfl, HST, Below.refl _ _⟩
  case round =>
    clear HST
    obtain ⟨I, J, B, hI, hJ, rfl, rfl, rfl, HP, hbel⟩ := hrel
    have ht := HT.out _ hbel
    have hsz := HP.out.size
    have hcat : ¬ (9223372036854775807 < B.size + 1) := by omega
    obtain ⟨gi, hgi⟩ : ∃ g, gs[I]? = some g := ⟨_, List.getElem?_eq_getElem (by have := HGL.out; omega)⟩
    have sl0 : wr.cell? ⟨g0, I, none⟩ = some (.slice (some ⟨gi, 0, none⟩) (b.size + 1) (b.size + 1)) := ht.slice (g0 := g0) (cap := cap0) (by rw [HGL.out]) hgi
    have n00 := ht.num hgi hJ
    have k2 : (I : Int) < (a.size : Int) + 1 := by omega
    have k3 : (J : Int) < (b.size : Int) + 1 := by omega
    have k0 : (0 : Int) ≤ (I : Int) := by omega
    have k1 : (0 : Int) ≤ (J : Int) := by omega
    have w1 : IntKind.i64.wrap ((I : Int) + 1) = (I : Int) + 1 := IntWalk.i64_in _ (by omega)
    have w2 : IntKind.i64.wrap ((J : Int) + 1) = (J : Int) + 1 := IntWalk.i64_in _ (by omega)
    by_cases hIa : I < a.size
    · obtain ⟨gn, hgn⟩ : ∃ g, gs[I + 1]? = some g := ⟨_, List.getElem?_eq_getElem (by have := HGL.out; omega)⟩
      have sl1 : wr.cell? ⟨g0, I + 1, none⟩ = some (.slice (some ⟨gn, 0, none⟩) (b.size + 1) (b.size + 1)) := ht.slice (g0 := g0) (cap := cap0) (by rw [HGL.out]) hgn
      have n10 := ht.num hgn hJ
      have k4 : (I : Int) + 1 < (a.size : Int) + 1 := by omega
      have k6 : (0 : Int) ≤ (I : Int) + 1 := by omega
      have g1 : (I : Int) < (a.size : Int) := by omega
      by_cases hJb : J < b.size
      · have n01 := ht.num hgi (j := J + 1) hJb
        have n11 := ht.num hgn (j := J + 1) hJb
        have hst := steps_both a[I] b[J] ((Co.bs a).drop (I + 1)) ((Co.bs b).drop (J + 1))
        rw [← Co.bs_drop a I hIa, ← Co.bs_drop b J hJb] at hst
        have q1 := Co.index_at a I a[I] hIa rfl
        have q2 := Co.index_at b J b[J] hJb rfl
        have k5 : (J : Int) + 1 < (b.size : Int) + 1 := by omega
        have k7 : (0 : Int) ≤ (J : Int) + 1 := by omega
        have g2 : (J : Int) < (b.size : Int) := by omega
        have b00 : lev ((Co.bs a).drop I) ((Co.bs b).drop J) ≤ 48 := by have := lev_high ((Co.bs a).drop I) ((Co.bs b).drop J); rw [List.length_drop, List.length_drop, HLA.out, HLB.out] at this; omega
        have b10 : lev ((Co.bs a).drop (I + 1)) ((Co.bs b).drop J) ≤ 48 := by have := lev_high ((Co.bs a).drop (I + 1)) ((Co.bs b).drop J); rw [List.length_drop, List.length_drop, HLA.out, HLB.out] at this; omega
        have b01 : lev ((Co.bs a).drop I) ((Co.bs b).drop (J + 1)) ≤ 48 := by have := lev_high ((Co.bs a).drop I) ((Co.bs b).drop (J + 1)); rw [List.length_drop, List.length_drop, HLA.out, HLB.out] at this; omega
        have b11 : lev ((Co.bs a).drop (I + 1)) ((Co.bs b).drop (J + 1)) ≤ 48 := by have := lev_high ((Co.bs a).drop (I + 1)) ((Co.bs b).drop (J + 1)); rw [List.length_drop, List.length_drop, HLA.out, HLB.out] at this; omega
        have HS := Lib.hid hst
        clear hst hgi hgn ht
        generalize lev ((Co.bs a).drop I) ((Co.bs b).drop J) = L00 at n00 b00 HS
        generalize lev ((Co.bs a).drop (I + 1)) ((Co.bs b).drop J) = L10 at n10 b10 HS
        generalize lev ((Co.bs a).drop I) ((Co.bs b).drop (J + 1)) = L01 at n01 b01 HS
        generalize lev ((Co.bs a).drop (I + 1)) ((Co.bs b).drop (J + 1)) = L11 at n11 b11 HS
        generalize a[I] = x at *
        generalize b[J] = y at *
        have w3 : IntKind.i64.wrap ((L11 : Int) + 1) = (L11 : Int) + 1 := IntWalk.i64_in _ (by omega)
        by_cases hsub : ¬ x = y ∧ L11 + 1 = L00
        · have hs := HS.out
          rw [if_pos hsub] at hs
          have HN := Lib.hid (HP.out.step 33 hs (I' := I + 1) (J' := J + 1) (by omega))
          have hne : ((x.toNat : Int) != (y.toNat : Int)) = true := by
            have : ¬ x.toNat = y.toNat := fun h => hsub.1 (UInt8.toNat_inj.1 h)
            rw [bne_iff_ne]; omega
          have he : ((L11 : Int) + 1 == (L00 : Int)) = true := by rw [beq_iff_eq]; omega
          clear hs HS HP hsub
          go_wp2
          go_quiet (fail)
          go_wp2
          refine ⟨⟨I + 1, J + 1, _, by omega, by omega, by go_num, by go_num, rfl, HN, bdrew hbel _⟩, by simp [intOf]; omega⟩
        · have hs0 := HS.out
          rw [if_neg hsub] at hs0
          have HS2 := Lib.hid hs0
          clear hs0 HS
          by_cases hxy : x = y
          case' pos =>
            have hne : ((x.toNat : Int) != (y.toNat : Int)) = false := by rw [hxy]; simp
            clear hsub hxy
            go_wp2
            go_quiet (fail)
          case' neg =>
            have hne : ((x.toNat : Int) != (y.toNat : Int)) = true := by
              have : ¬ x.toNat = y.toNat := fun h => hxy (UInt8.toNat_inj.1 h)
              rw [bne_iff_ne]; omega
            have he : ((L11 : Int) + 1 == (L00 : Int)) = false := by
              rw [beq_eq_false_iff_ne]
              intro h
              exact hsub ⟨hxy, by omega⟩
            clear hsub hxy
            go_wp2
            go_quiet (fail)
            clear he
          all_goals
            clear hne q1 q2
            by_cases hins : L01 + 1 = L00
            · have hs := HS2.out
              rw [if_pos hins] at hs
              have HN := Lib.hid (HP.out.step 43 hs (I' := I) (J' := J + 1) (by omega))
              have he : ((L01 : Int) + 1 == (L00 : Int)) = true := by rw [beq_iff_eq]; omega
              clear hs HS2 HP hins
              go_wp2
              refine ⟨⟨I, J + 1, _, by omega, by omega, by go_num, by go_num, rfl, HN, bdrew hbel _⟩, by simp [intOf]; omega⟩
            · have he : ((L01 : Int) + 1 == (L00 : Int)) = false := by rw [beq_eq_false_iff_ne]; omega
              have hs1 := HS2.out
              rw [if_neg hins] at hs1
              by_cases hdel : L10 + 1 = L00
              · rw [if_pos hdel] at hs1
                have HN := Lib.hid (HP.out.step 45 hs1 (I' := I + 1) (J' := J) (by omega))
                have he2 : ((L10 : Int) + 1 == (L00 : Int)) = true := by rw [beq_iff_eq]; omega
                clear hs1 HS2 HP hins hdel
                go_wp2
                refine ⟨⟨I + 1, J, _, by omega, by omega, by go_num, by go_num, rfl, HN, bdrew hbel _⟩, by simp [intOf]; omega⟩
              · rw [if_neg hdel] at hs1
                have HN := Lib.hid (HP.out.step 61 hs1 (I' := I + 1) (J' := J + 1) (by omega))
                have he2 : ((L10 : Int) + 1 == (L00 : Int)) = false := by rw [beq_eq_false_iff_ne]; omega
                clear hs1 HS2 HP hins hdel
                go_wp2
                refine ⟨⟨I + 1, J + 1, _, by omega, by omega, by go_num, by go_num, rfl, HN, bdrew hbel _⟩, by simp [intOf]; omega⟩
      · obtain rfl : J = b.size := by omega
        have hbn : (Co.bs b).drop b.size = [] := List.drop_of_length_le (by rw [HLB.out]; exact Nat.le_refl _)
        have hst := steps_left a[I] ((Co.bs a).drop (I + 1))
        have e00 : lev ((Co.bs a).drop I) ((Co.bs b).drop b.size) = a.size - I := by rw [hbn, lev_nil_right, List.length_drop, HLA.out]
        have e10 : lev ((Co.bs a).drop (I + 1)) ((Co.bs b).drop b.size) = a.size - (I + 1) := by rw [hbn, lev_nil_right, List.length_drop, HLA.out]
        rw [← Co.bs_drop a I hIa, ← hbn] at hst
        rw [e00] at n00
        rw [e10] at n10
        obtain ⟨p, hp⟩ : ∃ p : Nat, a.size - (I + 1) = p := ⟨_, rfl⟩
        obtain ⟨q, hq⟩ : ∃ q : Nat, a.size - I = q := ⟨_, rfl⟩
        rw [hp] at n10
        rw [hq] at n00
        have hpq : p + 1 = q := by omega
        have hq24 : q ≤ 24 := by omega
        have hp24 : p ≤ 24 := by omega
        have wp : IntKind.i64.wrap ((p : Int) + 1) = (p : Int) + 1 := IntWalk.i64_in _ (by omega)
        have he : ((p : Int) + 1 == (q : Int)) = true := by rw [beq_iff_eq]; omega
        have HN := Lib.hid (HP.out.step 45 hst (I' := I + 1) (J' := b.size) (by omega))
        clear hst HP hbn e00 e10 hp hq hgi hgn ht hpq hJb
        go_wp2
        go_quiet (fail)
        go_wp2
        refine ⟨⟨I + 1, b.size, _, by omega, by omega, by go_num, by go_num, rfl, HN, bdrew hbel _⟩, by simp [intOf]; omega⟩
    · obtain rfl : I = a.size := by omega
      have han : (Co.bs a).drop a.size = [] := List.drop_of_length_le (by rw [HLA.out]; exact Nat.le_refl _)
      by_cases hJb : J < b.size
      · have n01 := ht.num hgi (j := J + 1) hJb
        have hst := steps_right b[J] ((Co.bs b).drop (J + 1))
        have e00 : lev ((Co.bs a).drop a.size) ((Co.bs b).drop J) = b.size - J := by rw [han, lev_nil, List.length_drop, HLB.out]
        have e01 : lev ((Co.bs a).drop a.size) ((Co.bs b).drop (J + 1)) = b.size - (J + 1) := by rw [han, lev_nil, List.length_drop, HLB.out]
        rw [← Co.bs_drop b J hJb, ← han] at hst
        rw [e00] at n00
        rw [e01] at n01
        obtain ⟨p, hp⟩ : ∃ p : Nat, b.size - (J + 1) = p := ⟨_, rfl⟩
        obtain ⟨q, hq⟩ : ∃ q : Nat, b.size - J = q := ⟨_, rfl⟩
        rw [hp] at n01
        rw [hq] at n00
        have hpq : p + 1 = q := by omega
        have hq24 : q ≤ 24 := by omega
        have hp24 : p ≤ 24 := by omega
        have wp : IntKind.i64.wrap ((p : Int) + 1) = (p : Int) + 1 := IntWalk.i64_in _ (by omega)
        have he : ((p : Int) + 1 == (q : Int)) = true := by rw [beq_iff_eq]; omega
        have k5 : (J : Int) + 1 < (b.size : Int) + 1 := by omega
        have k7 : (0 : Int) ≤ (J : Int) + 1 := by omega
        have g2 : (J : Int) < (b.size : Int) := by omega
        have HN := Lib.hid (HP.out.step 43 hst (I' := a.size) (J' := J + 1) (by omega))
        clear hst HP han e00 e01 hp hq hgi ht hpq hIa
        go_wp2
        go_quiet (fail)
        go_wp2
        refine ⟨⟨a.size, J + 1, _, by omega, by omega, by go_num, by go_num, rfl, HN, bdrew hbel _⟩, by simp [intOf]; omega⟩
      · obtain rfl : J = b.size := by omega
        have hB : B = ⟨all.toArray⟩ := by
          obtain ⟨out, rfl, e, _⟩ := HP.out
          rw [han, show (Co.bs b).drop b.size = [] from List.drop_of_length_le (by rw [HLB.out]; exact Nat.le_refl _), steps_nil, List.append_nil] at e
          rw [e]
        have HB := Lib.hid hB
        clear hB HP han ht hgi
        go_wp2
        go_ret
        rw [HB.out]
        exact ⟨rfl, hbt.trans (hbel.mono hbt.size)⟩
end Go.Proofs.YtjlgjadkcpdpmaaDoor.Ed
