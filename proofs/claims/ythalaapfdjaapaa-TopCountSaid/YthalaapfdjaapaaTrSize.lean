/-
  The walk of the tree's size: how many texts lead to a node.
-/
import Derived.Test.YthalaapfdjaapaaTrGrow
import Derived.Maps.RangeWalk
namespace Go.Proofs.Ythalaapfdjaapaa
open Go.RowKit Go.Maps
set_option linter.unusedVariables false
set_option linter.unusedSimpArgs false

def cntU (P : List (List UInt8)) (u : List UInt8) : Nat := (P.filter fun v => u.isPrefixOf v).length
/-- those whose way is over, left being still to come -/
def cntL (P : List (List UInt8)) (u : List UInt8) (left : Lit → Bool) : Nat :=
  (P.filter fun v => u.isPrefixOf v && (match v[u.length]? with | none => true | some c => !left (kb c))).length
theorem snoc_prefix (u v : List UInt8) (c : UInt8) : (u ++ [c]).isPrefixOf v = (u.isPrefixOf v && decide (v[u.length]? = some c)) := by
  rw [Bool.eq_iff_iff, Bool.and_eq_true, decide_eq_true_iff, List.isPrefixOf_iff_prefix, List.isPrefixOf_iff_prefix]
  constructor
  · rintro ⟨r, rfl⟩
    exact ⟨⟨[c] ++ r, by simp⟩, by simp⟩
  · rintro ⟨⟨r, rfl⟩, h⟩
    rw [List.getElem?_append_right (Nat.le_refl _), Nat.sub_self] at h
    cases r with
    | nil => cases h
    | cons d r =>
      simp at h
      subst h
      exact ⟨r, by simp⟩
theorem filter_add {α : Type} (p q : α → Bool) (hd : ∀ x, p x = true → q x = false) : ∀ l : List α, (l.filter fun x => p x || q x).length = (l.filter p).length + (l.filter q).length
  | [] => rfl
  | x :: l => by
    have ih := filter_add p q hd l
    cases hp : p x
    · cases hq : q x <;> simp [hp, hq, ih]
      omega
    · have := hd x hp
      simp [hp, this, ih]
      omega
theorem cntL_step (P : List (List UInt8)) (u : List UInt8) (left : Lit → Bool) (c : UInt8) (hc : left (kb c) = true) :
    cntL P u (fun z => left z && !z.sameKey (kb c)) = cntL P u left + cntU P (u ++ [c]) := by
  unfold cntL cntU
  rw [← filter_add]
  · congr 1
    refine List.filter_congr fun v _ => ?_
    rw [snoc_prefix]
    cases hu : u.isPrefixOf v
    · simp
    · cases hv : v[u.length]? with
      | none => simp
      | some d =>
        by_cases hdc : d = c
        · subst hdc
          simp [hc, WideAt.sameKey_self (show WideAt.IsKeyLit (kb d) from trivial)]
        · have : (kb d).sameKey (kb c) = false := Maps.sameKey_ne (fun e => hdc (kb_inj e))
          simp [this, hdc]
  · intro v hv
    rw [snoc_prefix]
    simp only [Bool.and_eq_true] at hv
    cases hv2 : v[u.length]? with
    | none => simp
    | some d =>
      rw [hv2] at hv
      by_cases hdc : d = c
      · subst hdc
        have := hv.2
        simp [hc] at this
      · simp [hdc]
theorem cntL_done (P : List (List UInt8)) (u : List UInt8) (left : Lit → Bool) (h : ∀ z, left z = false) : cntL P u left = cntU P u := by
  unfold cntL cntU
  congr 1
  refine List.filter_congr fun v _ => ?_
  cases v[u.length]? <;> simp [h]
theorem prefix_at {at_ : List UInt8 → Option Nat} (shut : ∀ u c, at_ u = none → at_ (u ++ [c]) = none) (u : List UInt8) : ∀ r : List UInt8, at_ (u ++ r) ≠ none → at_ u ≠ none := by
  intro r
  induction r generalizing u with
  | nil => simp
  | cons c r ih =>
    intro h
    have h2 := ih (u ++ [c]) (by simpa using h)
    intro hu
    exact h2 (shut u c hu)
theorem cntL_start {P : List (List UInt8)} {at_ : List UInt8 → Option Nat} {u : List UInt8} {left : Lit → Bool} (hP : P.Nodup) (hm : ∀ v, v ∈ P ↔ at_ v ≠ none) (shut : ∀ u c, at_ u = none → at_ (u ++ [c]) = none) (hu : at_ u ≠ none) (hl : ∀ c, left (kb c) = (at_ (u ++ [c])).isSome) : cntL P u left = 1 := by
  unfold cntL
  have : ((P.filter fun v => u.isPrefixOf v && (match v[u.length]? with | none => true | some c => !left (kb c)))).Perm [u] := by
    refine (List.perm_ext_iff_of_nodup (hP.filter _) (by simp)).2 fun v => ?_
    rw [List.mem_filter, List.mem_singleton, Bool.and_eq_true, List.isPrefixOf_iff_prefix, hm]
    constructor
    · rintro ⟨hv, ⟨r, rfl⟩, h⟩
      cases r with
      | nil => simp
      | cons c r =>
        rw [List.getElem?_append_right (Nat.le_refl _), Nat.sub_self] at h
        simp only [List.getElem?_cons_zero] at h
        have h2 := prefix_at shut (u ++ [c]) r (by simpa using hv)
        rw [hl c] at h
        cases hx : at_ (u ++ [c]) with
        | none => exact absurd hx h2
        | some b => rw [hx] at h; cases h
    · rintro rfl
      exact ⟨hu, List.prefix_refl _, by simp⟩
  simpa using this.length_eq
theorem cntL_le (P : List (List UInt8)) (u : List UInt8) (left : Lit → Bool) : cntL P u left ≤ P.length := List.length_filter_le _ _
theorem cntU_le (P : List (List UInt8)) (u : List UInt8) : cntU P u ≤ P.length := List.length_filter_le _ _
theorem below_grown {w w' : World} (h : Below w.heap.size w w') : w.grownBy w' none := ⟨h.os, h.tape, h.output, h.size, fun k hk _ => h.block k hk⟩

set_option maxHeartbeats 1000000 in
set_option maxRecDepth 100000 in
theorem size_step (P : List (List UInt8)) (base N : Nat) (at_ : List UInt8 → Option Nat) (wd : List UInt8 → Int) (hP : P.Nodup) (hm : ∀ v, v ∈ P ↔ at_ v ≠ none) (hPl : P.length ≤ 1000000)
    (u : List UInt8) (b : Nat) (w : World) (hT : Tr w base N at_ wd) (hu : at_ u = some b)
    (ih : ∀ (c : UInt8) (b' : Nat) (w' : World), Tr w' base N at_ wd → at_ (u ++ [c]) = some b' → Calls Try.prog 33 #[.pointer (some ⟨b', 0, none⟩)] w' fun e w'' => e = .returned (.int .i64 (cntU P (u ++ [c]) : Int)) ∧ Below w'.heap.size w' w'') :
    Calls Try.prog 33 #[.pointer (some ⟨b, 0, none⟩)] w fun e w' => e = .returned (.int .i64 (cntU P u : Int)) ∧ Below w.heap.size w w' := by
  have c0 := hT.cellM hu
  obtain ⟨D, hD, hown, ha, hh⟩ := hT.kids u b hu
  have hst := cntL_start (left := has D) hP hm hT.shut (by rw [hu]; simp) (fun c => hh c)
  have HIH := Lib.hid ih
  have HT := Lib.hid hT
  have HA := Lib.hid ha
  have HH := Lib.hid hh
  have HSTEP := Lib.hid (cntL_step P u)
  have HDONE := Lib.hid (cntL_done P u)
  have HLE := Lib.hid (cntL_le P u)
  have HLU := Lib.hid (cntU_le P)
  clear ih hT ha hh hm hP
  go_enter Try.func33, Try.ntmps33
  go_wp2_with (first
    | (at_range; refine wpList_range_own _ rfl _ 63 rfl 5 53 byteKey Try.underlying63 _ (b - 1) N D rfl hown ?_; intro w0 hrg0 hg0 hs0)
    | go_in)
  (try go_frame)
  have hb0 : Below w.heap.size w w0 := ⟨hg0.os, hg0.tape, hg0.output, hg0.size, fun k hk => hg0.block k hk (by simp)⟩
  go_loopw [3, 5, 11, 12, 13, 14, 15, 16, 17, 18] (fun v3 _ _ _ _ _ _ _ _ _ wr => ∃ (left : Lit → Bool) (cnt : Nat), v3 = .int .i64 (cntL P u left : Int) ∧ wr.ranges Try.prog 5 ptrR (b - 1) w.heap.size N D left cnt ∧ (∀ z, left z = true → has D z = true) ∧ Below w.heap.size w wr) (fun _ _ _ _ _ _ _ _ _ _ wr => wr.rangeLeft (b - 1) w.heap.size)
  case atStart => exact ⟨has D, _, by rw [hst]; rfl, hrg0, fun z h => h, hb0⟩
  case round =>
    obtain ⟨left, cnt, rfl, hrg, hlh, hb⟩ := hrel
    clear hrg0 hg0 hs0 hb0 hst
    have hle := HLE.out left
    go_wp2_with (first
      | (at_next; refine wpList_next_ranges _ rfl _ rfl 5 byteKey ptrR (fun x : Int => Value.int .u8 x) pv (fun key kl hk => by obtain ⟨x, rfl, _⟩ := Maps.keyOf_int_inv Try.underlying5 hk; exact ⟨x, rfl⟩) (fun v y hv => by obtain ⟨o, rfl, _⟩ := ptrR_shape hv; exact ⟨o, rfl⟩) (b - 1) w.heap.size N D left cnt rfl hrg ?_ ?_)
      | go_in)
    · intro hc0 hl0
      have hdn := HDONE.out left hl0
      rw [hdn]
      go_wp2
      go_ret
      exact ⟨rfl, hb⟩
    · intro x c kl y ps w1 cnt1 hkey hlk hRv hat hrg1 hlt hg1 hs1 hen
      obtain ⟨x', ex, rfl, hwx⟩ := Maps.keyOf_int_inv Try.underlying5 hkey
      cases ex
      have hx2 : 0 ≤ x ∧ x ≤ 255 := by simpa [Lit.wf, IntKind.min, IntKind.max, IntKind.signed, IntKind.bits] using hwx
      obtain ⟨ch, rfl⟩ : ∃ ch : UInt8, x = (ch.toNat : Int) := ⟨UInt8.ofNat x.toNat, by rw [UInt8.toNat_ofNat']; omega⟩
      rw [ptrR_pv] at hRv
      injection hRv with hRv
      injection hRv with hy hps
      have hcf : c = at_ (u ++ [ch]) := by
        have h1 := hat (pd none)
        rw [← hy] at h1
        exact pd_inj (h1.symm.trans (HA.out ch))
      have hsome : (at_ (u ++ [ch])).isSome = true := by rw [← HH.out ch]; exact hlh _ hlk
      obtain ⟨b2, hb2e⟩ := Option.isSome_iff_exists.1 hsome
      rw [hb2e] at hcf
      subst hcf
      have hb1 : Below w.heap.size w w1 := hb.grown hg1 hb.size (fun k e => by cases e; exact Nat.le_refl _)
      have hih := HIH.out ch b2 w1 (HT.out.onto (below_grown hb1)) hb2e
      have hen' : (Instr.entry (.pointer (some ⟨w.heap.size, 0, none⟩))).run Try.prog w1 = .ok (.tuple #[.int .u8 (ch.toNat : Int), .pointer (some ⟨b2, 0, none⟩)]) w1 := hen
      have hsp := HSTEP.out left ch hlk
      have hlu := HLU.out (u ++ [ch])
      have HI2 := Lib.hid hih; have HSP := Lib.hid hsp
      have HR1 := Lib.hid hrg1; have HR0 := Lib.hid hrg; have HLH := Lib.hid hlh
      obtain ⟨m, hm⟩ : ∃ m, m = cntL P u left := ⟨_, rfl⟩
      obtain ⟨m2, hm2⟩ : ∃ m2, m2 = cntU P (u ++ [ch]) := ⟨_, rfl⟩
      rw [← hm] at hle ⊢
      rw [← hm2] at hlu HI2
      have k1 : (m : Int) ≤ 1000000 := by omega
      have k2 : (m2 : Int) ≤ 1000000 := by omega
      have HM := Lib.hid hm; have HM2 := Lib.hid hm2
      clear hih hsp hrg1 hrg hlh hm hm2 hen hat hkey hlk hwx hy hps hb hg1 hs1 hsome
      show wpList _ _ _ _ _ _
      go_wp2_with fail
      refine HI2.out.mono ?_
      rintro e w2 ⟨rfl, hb2⟩
      have hrg2 := HR1.out.kept (below_grown hb2) (by simp) (by simp)
      have HRG := Lib.hid hrg2
      have HBB := Lib.hid (bnext hb1 hb2)
      clear hrg2
      go_wp2
      refine ⟨⟨_, cnt1, ?_, HRG.out, fun z hz => HLH.out z (by simp only [Bool.and_eq_true] at hz; exact hz.1), HBB.out⟩, ?_⟩
      · rw [show Lit.int IntKind.u8 (ch.toNat : Int) = kb ch from rfl, HSP.out, ← HM.out, ← HM2.out]
        simp
      · rw [HRG.out.left_eq, HR0.out.left_eq]
        exact hlt
theorem size_any (P : List (List UInt8)) (base N : Nat) (at_ : List UInt8 → Option Nat) (wd : List UInt8 → Int) (hP : P.Nodup) (hm : ∀ v, v ∈ P ↔ at_ v ≠ none) (hPl : P.length ≤ 1000000) :
    ∀ (d : Nat) (u : List UInt8) (b : Nat) (w : World), Tr w base N at_ wd → at_ u = some b → (∀ v ∈ P, u <+: v → v.length ≤ u.length + d) →
      Calls Try.prog 33 #[.pointer (some ⟨b, 0, none⟩)] w fun e w' => e = .returned (.int .i64 (cntU P u : Int)) ∧ Below w.heap.size w w' := by
  intro d
  induction d with
  | zero =>
    intro u b w hT hu hd
    refine size_step P base N at_ wd hP hm hPl u b w hT hu (fun c b' w' _ hc => ?_)
    have := hd (u ++ [c]) ((hm _).2 (by rw [hc]; simp)) (List.prefix_append _ _)
    rw [List.length_append, List.length_singleton] at this
    omega
  | succ d ih =>
    intro u b w hT hu hd
    refine size_step P base N at_ wd hP hm hPl u b w hT hu (fun c b' w' hT' hc => ih (u ++ [c]) b' w' hT' hc (fun v hv hp => ?_))
    have := hd v hv ((List.prefix_append _ _).trans hp)
    simp
    omega
end Go.Proofs.Ythalaapfdjaapaa
