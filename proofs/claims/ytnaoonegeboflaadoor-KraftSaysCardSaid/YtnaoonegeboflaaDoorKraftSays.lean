/-
  The walk of the law KraftSays, for all lists and words; no condition beside the laid world.
  (Printed by wip/genKraftSays.py.)
-/
import Derived.Test.YtnaoonegeboflaaDoorKsApart
import Derived.Test.YtnaoonegeboflaaDoorKsCodes
import Derived.Test.YtnaoonegeboflaaDoorHfRoom
import Derived.Test.YtnaoonegeboflaaDoorKcPlain
import Derived.Test.YtnaoonegeboflaaDoorKfCodesW
import Derived.Test.YtnaoonegeboflaaDoorAs
namespace Go.Proofs.YtnaoonegeboflaaDoor.kraftSays
open Go.RowKit Kf
set_option linter.unusedVariables false
set_option linter.unusedSimpArgs false

/-- no pair so far, of those ahead of the place (i, k) -/
def FrU (ws : List (List UInt8)) (i k : Nat) : Prop := ∀ (i' k' : Nat) (x y : List UInt8), (i' < i ∨ (i' = i ∧ k' < k)) → i' ≠ k' → ws[i']? = some x → ws[k']? = some y → y.isPrefixOf x = false
theorem FrU.zero (ws : List (List UInt8)) : FrU ws 0 0 := fun i' k' x y h => by omega
theorem FrU.skip {ws : List (List UInt8)} {i : Nat} : FrU ws i i ↔ FrU ws i (i + 1) :=
  ⟨fun h i' k' x y h1 h2 h3 h4 => h i' k' x y (by omega) h2 h3 h4, fun h i' k' x y h1 h2 h3 h4 => h i' k' x y (by omega) h2 h3 h4⟩
theorem FrU.put {ws : List (List UInt8)} {i k : Nat} {x y : List UInt8} (hx : ws[i]? = some x) (hy : ws[k]? = some y) (hp : y.isPrefixOf x = false) : FrU ws i k ↔ FrU ws i (k + 1) := by
  refine ⟨fun h i' k' x' y' h1 h2 h3 h4 => ?_, fun h i' k' x y h1 h2 h3 h4 => h i' k' x y (by omega) h2 h3 h4⟩
  by_cases hik : i' = i ∧ k' = k
  · obtain ⟨rfl, rfl⟩ := hik
    rw [hx] at h3; rw [hy] at h4
    simp only [Option.some.injEq] at h3 h4
    subst h3; subst h4
    exact hp
  · exact h i' k' x' y' (by omega) h2 h3 h4
theorem FrU.bad {ws : List (List UInt8)} {i k : Nat} {x y : List UInt8} (hik : i ≠ k) (hx : ws[i]? = some x) (hy : ws[k]? = some y) (hp : y.isPrefixOf x = true) : ¬ FrU ws i (k + 1) := fun h => by
  rw [h i k x y (.inr ⟨rfl, by omega⟩) hik hx hy] at hp
  cases hp
theorem FrU.row {ws : List (List UInt8)} {i : Nat} : FrU ws i ws.length ↔ FrU ws (i + 1) 0 :=
  ⟨fun h i' k' x y h1 h2 h3 h4 => h i' k' x y (by have := (List.getElem?_eq_some_iff.1 h4).1; omega) h2 h3 h4, fun h i' k' x y h1 h2 h3 h4 => h i' k' x y (by omega) h2 h3 h4⟩
theorem fr_iff {ws : List (List UInt8)} : FrU ws ws.length 0 ↔ Fr ws := by
  constructor
  · intro h i k x y t hik hx hy e
    have := h k i y x (.inl (List.getElem?_eq_some_iff.1 hy).1) (fun e => hik e.symm) hy hx
    rw [e] at this
    rw [List.isPrefixOf_iff_prefix.2 (List.prefix_append _ _)] at this
    cases this
  · intro h i k x y _ hik hx hy
    cases hp : y.isPrefixOf x
    · rfl
    · obtain ⟨t, ht⟩ := List.isPrefixOf_iff_prefix.1 hp
      exact absurd ht.symm (h k i y x t (fun e => hik e.symm) hy hx)
theorem texts_same (A B : Option Addr) (c d : Nat) (l : List ByteArray) (w : World) (hl : Reads w A l.length 1 (texts l)) (hm : Reads w B l.length 1 (texts l)) (h1 : l.length ≤ 1000000) :
    Calls Tryd.prog 14 #[.slice A l.length c, .slice B l.length d] w fun e w' => e = .returned (.bool true) ∧ Below w.heap.size w w' := by
  have := texts_any A B c d l l w hl hm h1 h1
  rwa [sameT_self] at this
theorem texts_nil (w : World) :
    Calls Tryd.prog 14 #[.slice none 0 0, .slice none 0 0] w fun e w' => e = .returned (.bool true) ∧ Below w.heap.size w w' :=
  texts_same none none 0 0 [] w (Reads.nil _ _) (Reads.nil _ _) (by simp)
theorem texts_two (A B : Option Addr) (c d : Nat) (l : List ByteArray) (n : Nat) (w : World) (hn : l.length = n) (hl : Reads w A n 1 (texts l)) (hm : Reads w B n 1 (texts l)) (h1 : n ≤ 1000000) :
    Calls Tryd.prog 14 #[.slice A n c, .slice B n d] w fun e w' => e = .returned (.bool true) ∧ Below w.heap.size w w' := by
  subst hn
  exact texts_same A B c d l w hl hm h1

set_option maxHeartbeats 1000000 in
set_option maxRecDepth 100000 in
theorem walk_nn (w : World) (A : Option Addr) (c : Nat) (l : List Int) (hr : Reads w A l.length 1 (ints l)) (hm : l.length ≤ maxLen) (B : Option Addr) (d : Nat) (m : List ByteArray) (hr2 : Reads w B m.length 1 (texts m)) (hm2 : m.length ≤ maxLen) (hc2 : m.length ≤ d) (hsz2 : ∀ s ∈ m, s.size ≤ maxLen) (h : ckL l ≠ 0) (ht : tchk (m.map bs) ≠ 0) (hg : As.Laid w) :
    Calls Tryd.prog 4 #[.slice A l.length c, .slice B m.length d] w fun e w' => e = .returned (.bool true) ∧ Below w.heap.size w w' := by
  have HR := Lib.hid (fun (w' : World) (hb : Below w.heap.size w w') => hr.below hb)
  have HR2 := Lib.hid (fun (w' : World) (hb : Below w.heap.size w w') => hr2.below hb)
  have HE := Lib.hid (fun (n : Int) (hn : n ≠ 0) w' (hb : Below w.heap.size w w') => As.error_no n hn w' (hg.below hb))
  have hb0 := Below.refl w.heap.size w
  have q1 := fun w' hr' => lengths_any A c l w' hr' hm
  have q2 := fun w' hr' => kcheck_any A c l w' hr' hm
  have q3 := fun w' hr' => kroom_no A c l w' hr' hm h
  have q4 := fun w' hr' => codes_no A c l w' hr' hm h
  rw [show errT (ckL l) = .iface 43 (.int .i64 (ckL l)) from if_neg h] at q2
  generalize ckL l = K at *
  have hK : (K == 0) = false := by rw [beq_eq_false_iff_ne]; exact h
  have Q1 := Lib.hid q1; have Q2 := Lib.hid q2; have Q3 := Lib.hid q3; have Q4 := Lib.hid q4
  clear q1 q2 q3 q4 hr hr2 hg
  have p1 := fun w' hr' => words_any B d m w' hr' hm2 hsz2
  have p2 := fun w' hr' => free_no B d m w' hr' hm2 hc2 hsz2 ht
  have p3 := fun w' hr' => apart_no B d m w' hr' hm2 hc2 hsz2 ht
  generalize tchk (m.map bs) = T at *
  have hT : (T == 0) = false := by rw [beq_eq_false_iff_ne]; exact ht
  have P1 := Lib.hid p1; have P2 := Lib.hid p2; have P3 := Lib.hid p3
  clear p1 p2 p3 hsz2 hc2
  have HK := Lib.hid h
  clear h
  have HT := Lib.hid ht
  clear ht
  go_enter Tryd.func4, Tryd.ntmps4
  go_wp2_with fail
  refine (Q1.out _ (HR.out _ hb0)).mono ?_
  rintro e w_ ⟨rfl, rfl⟩
  go_wp2_with fail
  refine (Q2.out _ (HR.out _ hb0)).mono ?_
  rintro e w_ ⟨rfl, rfl⟩
  go_wp2_with fail
  refine (HE.out K HK.out _ hb0).mono ?_
  rintro e w1 ⟨rfl, hb⟩
  have hb1 := bnext hb0 hb
  clear hb
  go_wp2_with fail
  refine (Q3.out _ (HR.out _ hb1)).mono ?_
  rintro e w_ ⟨rfl, rfl⟩
  go_wp2_with fail
  refine (HE.out K HK.out _ hb1).mono ?_
  rintro e w2 ⟨rfl, hb⟩
  have hb2 := bnext hb1 hb
  clear hb
  go_wp2_with fail
  refine (Q4.out _ (HR.out _ hb2)).mono ?_
  rintro e w3 ⟨rfl, hb⟩
  have hb3 := bnext hb2 hb
  clear hb
  go_wp2_with fail
  refine (HE.out K HK.out _ hb3).mono ?_
  rintro e w4 ⟨rfl, hb⟩
  have hb4 := bnext hb3 hb
  clear hb
  go_wp2_with fail
  refine (texts_nil _).mono ?_
  rintro e w5 ⟨rfl, hb⟩
  have hb5 := bnext hb4 hb
  clear hb
  go_wp2_with fail
  refine (P1.out _ (HR2.out _ hb5)).mono ?_
  rintro e w6 ⟨rfl, hb⟩
  have hb6 := bnext hb5 hb
  clear hb
  clear hb0 hb1 hb2 hb3 hb4 hb5
  go_wp2_with fail
  go_loopw [14, 15, 16, 69, 70, 71, 72, 73, 74, 75, 76, 77, 78, 79, 80, 81, 82, 83, 84, 85, 86, 87, 88, 89, 90, 91, 92, 93, 94, 95, 96, 97, 98] (fun fv iv _ _ _ _ _ _ _ _ _ _ _ _ _ _ _ _ _ _ _ _ _ _ _ _ _ _ _ _ _ _ _ wr => fv = .bool false ∧ iv = .int .i64 0 ∧ Below w.heap.size w wr) (fun _ _ _ _ _ _ _ _ _ _ _ _ _ _ _ _ _ _ _ _ _ _ _ _ _ _ _ _ _ _ _ _ _ _ => 0)
  case atStart => exact ⟨rfl, rfl, hb6⟩
  case round =>
  obtain ⟨rfl, rfl, hb7⟩ := hrel
  by_cases h0 : 0 < m.length
  · have k0 : (0 : Int) < (m.length : Int) := by omega
    go_wp2_with fail
    refine (P2.out _ (HR2.out _ hb7)).mono ?_
    rintro e w8 ⟨rfl, hb⟩
    have hb8 := bnext hb7 hb
    clear hb
    go_wp2_with fail
    refine (HE.out T HT.out _ hb8).mono ?_
    rintro e w9 ⟨rfl, hb⟩
    have hb9 := bnext hb8 hb
    clear hb
    go_wp2_with fail
    refine (P3.out _ (HR2.out _ hb9)).mono ?_
    rintro e w10 ⟨rfl, hb⟩
    have hb10 := bnext hb9 hb
    clear hb
    go_wp2_with fail
    refine (HE.out T HT.out _ hb10).mono ?_
    rintro e w11 ⟨rfl, hb⟩
    have hb11 := bnext hb10 hb
    clear hb
    go_wp2
    go_ret
    exact ⟨rfl, hb11⟩
  · have k0 : ¬ (0 : Int) < (m.length : Int) := by omega
    go_wp2_with fail
    refine (P2.out _ (HR2.out _ hb7)).mono ?_
    rintro e w8 ⟨rfl, hb⟩
    have hb8 := bnext hb7 hb
    clear hb
    go_wp2_with fail
    refine (HE.out T HT.out _ hb8).mono ?_
    rintro e w9 ⟨rfl, hb⟩
    have hb9 := bnext hb8 hb
    clear hb
    go_wp2_with fail
    refine (P3.out _ (HR2.out _ hb9)).mono ?_
    rintro e w10 ⟨rfl, hb⟩
    have hb10 := bnext hb9 hb
    clear hb
    go_wp2_with fail
    refine (HE.out T HT.out _ hb10).mono ?_
    rintro e w11 ⟨rfl, hb⟩
    have hb11 := bnext hb10 hb
    clear hb
    go_wp2
    go_ret
    exact ⟨rfl, hb11⟩

set_option maxHeartbeats 1000000 in
set_option maxRecDepth 100000 in
theorem walk_on (w : World) (A : Option Addr) (c : Nat) (l : List Int) (hr : Reads w A l.length 1 (ints l)) (hm : l.length ≤ maxLen) (B : Option Addr) (d : Nat) (m : List ByteArray) (hr2 : Reads w B m.length 1 (texts m)) (hm2 : m.length ≤ maxLen) (hc2 : m.length ≤ d) (hsz2 : ∀ s ∈ m, s.size ≤ maxLen) (h : ckL l = 0) (h4 : roomOf l ≤ 4096) (ht : tchk (m.map bs) ≠ 0) (hg : As.Laid w) :
    Calls Tryd.prog 4 #[.slice A l.length c, .slice B m.length d] w fun e w' => e = .returned (.bool true) ∧ Below w.heap.size w w' := by
  have HR := Lib.hid (fun (w' : World) (hb : Below w.heap.size w w') => hr.below hb)
  have HR2 := Lib.hid (fun (w' : World) (hb : Below w.heap.size w w') => hr2.below hb)
  have HE := Lib.hid (fun (n : Int) (hn : n ≠ 0) w' (hb : Below w.heap.size w w') => As.error_no n hn w' (hg.below hb))
  have hb0 := Below.refl w.heap.size w
  have q1 := fun w' hr' => lengths_any A c l w' hr' hm
  have q2 := fun w' hr' => kcheck_any A c l w' hr' hm
  obtain ⟨hl, hin⟩ := ckL_ok h
  have q3 := fun w' hr' => kroom_ok A c l w' hr' h
  have q5 := fun w' hr' => room_any A c l w' hr' (by omega) hin
  have q4 := fun w' hr' => codes_ok A c l w' hr' h h4
  have q6 := fun w' hr' => refcodes_any A c l w' hr' h h4
  have hcl := codes_length l
  rw [h] at q1 q2
  rw [show errT 0 = .nilIface from rfl] at q2
  have hN : ¬ (4096 : Int) < ((roomOf l : Nat) : Int) := by omega
  generalize roomOf l = N at *
  have HCL := Lib.hid hcl
  have hl10 : l.length ≤ 1000000 := by omega
  clear hcl
  have Q5 := Lib.hid q5
  clear q5 hin hl h4
  have Q6 := Lib.hid q6
  clear q6
  have Q1 := Lib.hid q1; have Q2 := Lib.hid q2; have Q3 := Lib.hid q3; have Q4 := Lib.hid q4
  clear q1 q2 q3 q4 hr hr2 hg
  have p1 := fun w' hr' => words_any B d m w' hr' hm2 hsz2
  have p2 := fun w' hr' => free_no B d m w' hr' hm2 hc2 hsz2 ht
  have p3 := fun w' hr' => apart_no B d m w' hr' hm2 hc2 hsz2 ht
  generalize tchk (m.map bs) = T at *
  have hT : (T == 0) = false := by rw [beq_eq_false_iff_ne]; exact ht
  have P1 := Lib.hid p1; have P2 := Lib.hid p2; have P3 := Lib.hid p3
  clear p1 p2 p3 hsz2 hc2
  clear h
  have HT := Lib.hid ht
  clear ht
  go_enter Tryd.func4, Tryd.ntmps4
  go_wp2_with fail
  refine (Q1.out _ (HR.out _ hb0)).mono ?_
  rintro e w_ ⟨rfl, rfl⟩
  go_wp2_with fail
  refine (Q2.out _ (HR.out _ hb0)).mono ?_
  rintro e w_ ⟨rfl, rfl⟩
  go_wp2_with fail
  refine (As.error_ok _).mono ?_
  rintro e w1 ⟨rfl, hb⟩
  have hb1 := bnext hb0 hb
  clear hb
  go_wp2_with fail
  refine (Q5.out _ (HR.out _ hb1)).mono ?_
  rintro e w_ ⟨rfl, rfl⟩
  go_wp2_with fail
  refine (Q3.out _ (HR.out _ hb1)).mono ?_
  rintro e w_ ⟨rfl, rfl⟩
  go_wp2_with fail
  refine (As.error_ok _).mono ?_
  rintro e w2 ⟨rfl, hb⟩
  have hb2 := bnext hb1 hb
  clear hb
  go_wp2_with fail
  refine (Q6.out _ (HR.out _ hb2)).mono ?_
  rintro e w3 ⟨G1, rfl, hg1, hG1, hb⟩
  have hb3 := bnext hb2 hb
  have HA1 := Lib.hid (fun (w' : World) (hbb : Below w3.heap.size w3 w') => (show Reads w' (some ⟨G1, 0, none⟩) l.length 1 (texts ((codesOf l).map ba)) from by have := (hg1.below hbb hg1.lt).reads; rwa [HCL.out] at this))
  have hr3 := Below.refl w3.heap.size w3
  clear hb hg1 hG1
  go_wp2_with fail
  refine (Q4.out _ (HR.out _ hb3)).mono ?_
  rintro e w4 ⟨G2, rfl, hg2, hG2, hb⟩
  have hb4 := bnext hb3 hb
  have hs4 := bnext hr3 hb
  have HA2 := Lib.hid (fun (w' : World) (hbb : Below w4.heap.size w4 w') => (show Reads w' (some ⟨G2, 0, none⟩) l.length 1 (texts ((codesOf l).map ba)) from by have := (hg2.below hbb hg2.lt).reads; rwa [HCL.out] at this))
  clear hb hg2 hG2
  go_wp2_with fail
  refine (As.error_ok _).mono ?_
  rintro e w5 ⟨rfl, hb⟩
  have hb5 := bnext hb4 hb
  have hx1 := bnext hs4 hb
  go_wp2_with fail
  refine (texts_two _ _ l.length l.length ((codesOf l).map ba) l.length _ (by rw [List.length_map, HCL.out]) (HA2.out _ hb) (HA1.out _ hx1) hl10).mono ?_
  rintro e w6 ⟨rfl, hbq⟩
  have hb6 := bnext hb5 hbq
  clear hb hbq hx1
  go_wp2_with fail
  refine (P1.out _ (HR2.out _ hb6)).mono ?_
  rintro e w7 ⟨rfl, hb⟩
  have hb7 := bnext hb6 hb
  clear hb
  clear hb0 hb1 hb2 hb3 hb4 hb5 hb6
  go_wp2_with fail
  go_loopw [14, 15, 16, 69, 70, 71, 72, 73, 74, 75, 76, 77, 78, 79, 80, 81, 82, 83, 84, 85, 86, 87, 88, 89, 90, 91, 92, 93, 94, 95, 96, 97, 98] (fun fv iv _ _ _ _ _ _ _ _ _ _ _ _ _ _ _ _ _ _ _ _ _ _ _ _ _ _ _ _ _ _ _ wr => fv = .bool false ∧ iv = .int .i64 0 ∧ Below w.heap.size w wr) (fun _ _ _ _ _ _ _ _ _ _ _ _ _ _ _ _ _ _ _ _ _ _ _ _ _ _ _ _ _ _ _ _ _ _ => 0)
  case atStart => exact ⟨rfl, rfl, hb7⟩
  case round =>
  obtain ⟨rfl, rfl, hb8⟩ := hrel
  by_cases h0 : 0 < m.length
  · have k0 : (0 : Int) < (m.length : Int) := by omega
    go_wp2_with fail
    refine (P2.out _ (HR2.out _ hb8)).mono ?_
    rintro e w9 ⟨rfl, hb⟩
    have hb9 := bnext hb8 hb
    clear hb
    go_wp2_with fail
    refine (HE.out T HT.out _ hb9).mono ?_
    rintro e w10 ⟨rfl, hb⟩
    have hb10 := bnext hb9 hb
    clear hb
    go_wp2_with fail
    refine (P3.out _ (HR2.out _ hb10)).mono ?_
    rintro e w11 ⟨rfl, hb⟩
    have hb11 := bnext hb10 hb
    clear hb
    go_wp2_with fail
    refine (HE.out T HT.out _ hb11).mono ?_
    rintro e w12 ⟨rfl, hb⟩
    have hb12 := bnext hb11 hb
    clear hb
    go_wp2
    go_ret
    exact ⟨rfl, hb12⟩
  · have k0 : ¬ (0 : Int) < (m.length : Int) := by omega
    go_wp2_with fail
    refine (P2.out _ (HR2.out _ hb8)).mono ?_
    rintro e w9 ⟨rfl, hb⟩
    have hb9 := bnext hb8 hb
    clear hb
    go_wp2_with fail
    refine (HE.out T HT.out _ hb9).mono ?_
    rintro e w10 ⟨rfl, hb⟩
    have hb10 := bnext hb9 hb
    clear hb
    go_wp2_with fail
    refine (P3.out _ (HR2.out _ hb10)).mono ?_
    rintro e w11 ⟨rfl, hb⟩
    have hb11 := bnext hb10 hb
    clear hb
    go_wp2_with fail
    refine (HE.out T HT.out _ hb11).mono ?_
    rintro e w12 ⟨rfl, hb⟩
    have hb12 := bnext hb11 hb
    clear hb
    go_wp2
    go_ret
    exact ⟨rfl, hb12⟩

set_option maxHeartbeats 1000000 in
set_option maxRecDepth 100000 in
theorem walk_fn (w : World) (A : Option Addr) (c : Nat) (l : List Int) (hr : Reads w A l.length 1 (ints l)) (hm : l.length ≤ maxLen) (B : Option Addr) (d : Nat) (m : List ByteArray) (hr2 : Reads w B m.length 1 (texts m)) (hm2 : m.length ≤ maxLen) (hc2 : m.length ≤ d) (hsz2 : ∀ s ∈ m, s.size ≤ maxLen) (h : ckL l = 0) (h4 : 4096 < roomOf l) (ht : tchk (m.map bs) ≠ 0) (hg : As.Laid w) :
    Calls Tryd.prog 4 #[.slice A l.length c, .slice B m.length d] w fun e w' => e = .returned (.bool true) ∧ Below w.heap.size w w' := by
  have HR := Lib.hid (fun (w' : World) (hb : Below w.heap.size w w') => hr.below hb)
  have HR2 := Lib.hid (fun (w' : World) (hb : Below w.heap.size w w') => hr2.below hb)
  have HE := Lib.hid (fun (n : Int) (hn : n ≠ 0) w' (hb : Below w.heap.size w w') => As.error_no n hn w' (hg.below hb))
  have hb0 := Below.refl w.heap.size w
  have q1 := fun w' hr' => lengths_any A c l w' hr' hm
  have q2 := fun w' hr' => kcheck_any A c l w' hr' hm
  obtain ⟨hl, hin⟩ := ckL_ok h
  have q3 := fun w' hr' => kroom_ok A c l w' hr' h
  have q5 := fun w' hr' => room_any A c l w' hr' (by omega) hin
  have q4 := fun w' hr' => codes_full A c l w' hr' h h4
  rw [h] at q1 q2
  rw [show errT 0 = .nilIface from rfl] at q2
  have hN : (4096 : Int) < ((roomOf l : Nat) : Int) := by omega
  generalize roomOf l = N at *
  have Q5 := Lib.hid q5
  clear q5 hin hl h4
  have Q1 := Lib.hid q1; have Q2 := Lib.hid q2; have Q3 := Lib.hid q3; have Q4 := Lib.hid q4
  clear q1 q2 q3 q4 hr hr2 hg
  have p1 := fun w' hr' => words_any B d m w' hr' hm2 hsz2
  have p2 := fun w' hr' => free_no B d m w' hr' hm2 hc2 hsz2 ht
  have p3 := fun w' hr' => apart_no B d m w' hr' hm2 hc2 hsz2 ht
  generalize tchk (m.map bs) = T at *
  have hT : (T == 0) = false := by rw [beq_eq_false_iff_ne]; exact ht
  have P1 := Lib.hid p1; have P2 := Lib.hid p2; have P3 := Lib.hid p3
  clear p1 p2 p3 hsz2 hc2
  clear h
  have HT := Lib.hid ht
  clear ht
  go_enter Tryd.func4, Tryd.ntmps4
  go_wp2_with fail
  refine (Q1.out _ (HR.out _ hb0)).mono ?_
  rintro e w_ ⟨rfl, rfl⟩
  go_wp2_with fail
  refine (Q2.out _ (HR.out _ hb0)).mono ?_
  rintro e w_ ⟨rfl, rfl⟩
  go_wp2_with fail
  refine (As.error_ok _).mono ?_
  rintro e w1 ⟨rfl, hb⟩
  have hb1 := bnext hb0 hb
  clear hb
  go_wp2_with fail
  refine (Q5.out _ (HR.out _ hb1)).mono ?_
  rintro e w_ ⟨rfl, rfl⟩
  go_wp2_with fail
  refine (Q3.out _ (HR.out _ hb1)).mono ?_
  rintro e w_ ⟨rfl, rfl⟩
  go_wp2_with fail
  refine (As.error_ok _).mono ?_
  rintro e w2 ⟨rfl, hb⟩
  have hb2 := bnext hb1 hb
  clear hb
  go_wp2_with fail
  refine (Q4.out _ (HR.out _ hb2)).mono ?_
  rintro e w3 ⟨rfl, hb⟩
  have hb3 := bnext hb2 hb
  clear hb
  go_wp2_with fail
  refine (HE.out 6 (by decide) _ hb3).mono ?_
  rintro e w4 ⟨rfl, hb⟩
  have hb4 := bnext hb3 hb
  clear hb
  go_wp2_with fail
  refine (texts_nil _).mono ?_
  rintro e w5 ⟨rfl, hb⟩
  have hb5 := bnext hb4 hb
  clear hb
  go_wp2_with fail
  refine (P1.out _ (HR2.out _ hb5)).mono ?_
  rintro e w6 ⟨rfl, hb⟩
  have hb6 := bnext hb5 hb
  clear hb
  clear hb0 hb1 hb2 hb3 hb4 hb5
  go_wp2_with fail
  go_loopw [14, 15, 16, 69, 70, 71, 72, 73, 74, 75, 76, 77, 78, 79, 80, 81, 82, 83, 84, 85, 86, 87, 88, 89, 90, 91, 92, 93, 94, 95, 96, 97, 98] (fun fv iv _ _ _ _ _ _ _ _ _ _ _ _ _ _ _ _ _ _ _ _ _ _ _ _ _ _ _ _ _ _ _ wr => fv = .bool false ∧ iv = .int .i64 0 ∧ Below w.heap.size w wr) (fun _ _ _ _ _ _ _ _ _ _ _ _ _ _ _ _ _ _ _ _ _ _ _ _ _ _ _ _ _ _ _ _ _ _ => 0)
  case atStart => exact ⟨rfl, rfl, hb6⟩
  case round =>
  obtain ⟨rfl, rfl, hb7⟩ := hrel
  by_cases h0 : 0 < m.length
  · have k0 : (0 : Int) < (m.length : Int) := by omega
    go_wp2_with fail
    refine (P2.out _ (HR2.out _ hb7)).mono ?_
    rintro e w8 ⟨rfl, hb⟩
    have hb8 := bnext hb7 hb
    clear hb
    go_wp2_with fail
    refine (HE.out T HT.out _ hb8).mono ?_
    rintro e w9 ⟨rfl, hb⟩
    have hb9 := bnext hb8 hb
    clear hb
    go_wp2_with fail
    refine (P3.out _ (HR2.out _ hb9)).mono ?_
    rintro e w10 ⟨rfl, hb⟩
    have hb10 := bnext hb9 hb
    clear hb
    go_wp2_with fail
    refine (HE.out T HT.out _ hb10).mono ?_
    rintro e w11 ⟨rfl, hb⟩
    have hb11 := bnext hb10 hb
    clear hb
    go_wp2
    go_ret
    exact ⟨rfl, hb11⟩
  · have k0 : ¬ (0 : Int) < (m.length : Int) := by omega
    go_wp2_with fail
    refine (P2.out _ (HR2.out _ hb7)).mono ?_
    rintro e w8 ⟨rfl, hb⟩
    have hb8 := bnext hb7 hb
    clear hb
    go_wp2_with fail
    refine (HE.out T HT.out _ hb8).mono ?_
    rintro e w9 ⟨rfl, hb⟩
    have hb9 := bnext hb8 hb
    clear hb
    go_wp2_with fail
    refine (P3.out _ (HR2.out _ hb9)).mono ?_
    rintro e w10 ⟨rfl, hb⟩
    have hb10 := bnext hb9 hb
    clear hb
    go_wp2_with fail
    refine (HE.out T HT.out _ hb10).mono ?_
    rintro e w11 ⟨rfl, hb⟩
    have hb11 := bnext hb10 hb
    clear hb
    go_wp2
    go_ret
    exact ⟨rfl, hb11⟩

set_option maxHeartbeats 1000000 in
set_option maxRecDepth 100000 in
theorem walk_no (w : World) (A : Option Addr) (c : Nat) (l : List Int) (hr : Reads w A l.length 1 (ints l)) (hm : l.length ≤ maxLen) (B : Option Addr) (d : Nat) (m : List ByteArray) (hr2 : Reads w B m.length 1 (texts m)) (hm2 : m.length ≤ maxLen) (hc2 : m.length ≤ d) (hsz2 : ∀ s ∈ m, s.size ≤ maxLen) (h : ckL l ≠ 0) (ht : tchk (m.map bs) = 0) (hg : As.Laid w) :
    Calls Tryd.prog 4 #[.slice A l.length c, .slice B m.length d] w fun e w' => e = .returned (.bool true) ∧ Below w.heap.size w w' := by
  have HR := Lib.hid (fun (w' : World) (hb : Below w.heap.size w w') => hr.below hb)
  have HR2 := Lib.hid (fun (w' : World) (hb : Below w.heap.size w w') => hr2.below hb)
  have HE := Lib.hid (fun (n : Int) (hn : n ≠ 0) w' (hb : Below w.heap.size w w') => As.error_no n hn w' (hg.below hb))
  have hb0 := Below.refl w.heap.size w
  have q1 := fun w' hr' => lengths_any A c l w' hr' hm
  have q2 := fun w' hr' => kcheck_any A c l w' hr' hm
  have q3 := fun w' hr' => kroom_no A c l w' hr' hm h
  have q4 := fun w' hr' => codes_no A c l w' hr' hm h
  rw [show errT (ckL l) = .iface 43 (.int .i64 (ckL l)) from if_neg h] at q2
  generalize ckL l = K at *
  have hK : (K == 0) = false := by rw [beq_eq_false_iff_ne]; exact h
  have Q1 := Lib.hid q1; have Q2 := Lib.hid q2; have Q3 := Lib.hid q3; have Q4 := Lib.hid q4
  clear q1 q2 q3 q4 hr hr2 hg
  have p1 := fun w' hr' => words_any B d m w' hr' hm2 hsz2
  obtain ⟨h6, h8, hnd⟩ := tchk_ok ht
  have hm60 : m.length ≤ 6 := by simpa using h6
  have p2 := fun w' hr' => free_ok B d m w' hr' hm2 hc2 hsz2 ht
  have p3 := fun w' hr' => apart_ok B d m w' hr' hm2 hc2 hsz2 ht
  have p4 := fun w' hr' R hR => refapart_any B d m w' hr' ht R hR
  rw [ht] at p1
  obtain ⟨F, hF⟩ : ∃ F, F = frB (m.map bs) := ⟨_, rfl⟩
  rw [← hF] at p2
  have HF := Lib.hid (show F = true ↔ FrU (m.map bs) m.length 0 from by rw [hF, frB_iff, ← fr_iff, List.length_map])
  have H8 := Lib.hid (fun w hw => (h8 w hw).1 : ∀ w ∈ m.map bs, w.length ≤ 8)
  have P4 := Lib.hid p4
  clear hF p4 h6 h8 hnd
  have P1 := Lib.hid p1; have P2 := Lib.hid p2; have P3 := Lib.hid p3
  clear p1 p2 p3 hsz2 hc2
  have HK := Lib.hid h
  clear h
  clear ht
  go_enter Tryd.func4, Tryd.ntmps4
  go_wp2_with fail
  refine (Q1.out _ (HR.out _ hb0)).mono ?_
  rintro e w_ ⟨rfl, rfl⟩
  go_wp2_with fail
  refine (Q2.out _ (HR.out _ hb0)).mono ?_
  rintro e w_ ⟨rfl, rfl⟩
  go_wp2_with fail
  refine (HE.out K HK.out _ hb0).mono ?_
  rintro e w1 ⟨rfl, hb⟩
  have hb1 := bnext hb0 hb
  clear hb
  go_wp2_with fail
  refine (Q3.out _ (HR.out _ hb1)).mono ?_
  rintro e w_ ⟨rfl, rfl⟩
  go_wp2_with fail
  refine (HE.out K HK.out _ hb1).mono ?_
  rintro e w2 ⟨rfl, hb⟩
  have hb2 := bnext hb1 hb
  clear hb
  go_wp2_with fail
  refine (Q4.out _ (HR.out _ hb2)).mono ?_
  rintro e w3 ⟨rfl, hb⟩
  have hb3 := bnext hb2 hb
  clear hb
  go_wp2_with fail
  refine (HE.out K HK.out _ hb3).mono ?_
  rintro e w4 ⟨rfl, hb⟩
  have hb4 := bnext hb3 hb
  clear hb
  go_wp2_with fail
  refine (texts_nil _).mono ?_
  rintro e w5 ⟨rfl, hb⟩
  have hb5 := bnext hb4 hb
  clear hb
  go_wp2_with fail
  refine (P1.out _ (HR2.out _ hb5)).mono ?_
  rintro e w6 ⟨rfl, hb⟩
  have hb6 := bnext hb5 hb
  clear hb
  clear hb0 hb1 hb2 hb3 hb4 hb5
  go_wp2_with fail
  go_loopw [14, 15, 16, 69, 70, 71, 72, 73, 74, 75, 76, 77, 78, 79, 80, 81, 82, 83, 84, 85, 86, 87, 88, 89, 90, 91, 92, 93, 94, 95, 96, 97, 98] (fun fv iv _ _ _ _ _ _ _ _ _ _ _ _ _ _ _ _ _ _ _ _ _ _ _ _ _ _ _ _ _ _ _ wr => ∃ (i : Nat) (f : Bool), i ≤ m.length ∧ fv = .bool f ∧ iv = .int .i64 (i : Int) ∧ Hid (f = true ↔ FrU (m.map bs) i 0) ∧ Below w.heap.size w wr) (fun _ iv _ _ _ _ _ _ _ _ _ _ _ _ _ _ _ _ _ _ _ _ _ _ _ _ _ _ _ _ _ _ _ _ => m.length - (intOf iv).toNat)
  case atStart => exact ⟨0, true, Nat.zero_le _, rfl, rfl, Lib.hid ⟨fun _ => FrU.zero _, fun _ => rfl⟩, hb6⟩
  case round =>
  obtain ⟨i, f, hi, rfl, rfl, HP, hb7⟩ := hrel
  by_cases hlt : i < m.length
  · have kk : (i : Int) < (m.length : Int) := by omega
    obtain ⟨wo, hwo⟩ : ∃ wo, wo = wr := ⟨_, rfl⟩
    subst hwo
    go_wp2_with fail
    go_loopw [14, 16, 79, 80, 81, 82, 83, 84, 85, 86, 87, 88, 89, 90, 91, 92, 93, 94, 95, 96, 97, 98] (fun fv kv _ _ _ _ _ _ _ _ _ _ _ _ _ _ _ _ _ _ _ _ wx => ∃ (k : Nat) (f : Bool), k ≤ m.length ∧ fv = .bool f ∧ kv = .int .i64 (k : Int) ∧ Hid (f = true ↔ FrU (m.map bs) i k) ∧ Below w.heap.size w wx) (fun _ kv _ _ _ _ _ _ _ _ _ _ _ _ _ _ _ _ _ _ _ _ _ => m.length - (intOf kv).toNat)
    case atStart => exact ⟨0, f, Nat.zero_le _, rfl, rfl, HP, hb7⟩
    case round =>
      clear HP hb7
      obtain ⟨k, f, hk, rfl, rfl, HP, hbe⟩ := hrel
      by_cases hlt2 : k < m.length
      · obtain ⟨b, o, rfl, hbk, hcc⟩ := (HR2.out _ hbe).2 (by omega)
        obtain ⟨x, hx⟩ : ∃ x, m[i]? = some x := ⟨_, List.getElem?_eq_getElem hlt⟩
        obtain ⟨y, hy⟩ : ∃ y, m[k]? = some y := ⟨_, List.getElem?_eq_getElem hlt2⟩
        have c0 := hcc i (.string x) (by rw [texts_get, hx]; rfl)
        have c1 := hcc k (.string y) (by rw [texts_get, hy]; rfl)
        have kk2 : (k : Int) < (m.length : Int) := by omega
        have hX : (m.map bs)[i]? = some (bs x) := by rw [List.getElem?_map, hx]; rfl
        have hY : (m.map bs)[k]? = some (bs y) := by rw [List.getElem?_map, hy]; rfl
        have hxl : x.size ≤ 8 := by have := H8.out (bs x) (List.mem_of_getElem? hX); rwa [bs_length] at this
        have hyl : y.size ≤ 8 := by have := H8.out (bs y) (List.mem_of_getElem? hY); rwa [bs_length] at this
        have HXX := Lib.hid hX; have HYY := Lib.hid hY
        have HBE := Lib.hid hbe
        clear hcc hx hy hX hY
        by_cases hik : i = k
        · have hne : ((i : Int) != (k : Int)) = false := by rw [bne_eq_false_iff_eq]; omega
          have HE2 := Lib.hid hik
          clear hik hbe
          go_wp2
          go_quiet (fail)
          go_wp2
          exact ⟨⟨k + 1, f, by omega, rfl, by go_num, Lib.hid (by have hf := HP.out; rw [← HE2.out] at hf ⊢; exact hf.trans FrU.skip), bdrew HBE.out _⟩, by simp [intOf]; omega⟩
        · have hne : ((i : Int) != (k : Int)) = true := by rw [bne_iff_ne]; omega
          have HIK := Lib.hid hik
          cases hp : (bs y).isPrefixOf (bs x)
          · have HBG := Lib.hid (fun w' => begins_eq x y w' false hp (by omega) (by omega))
            have HN := Lib.hid (FrU.put HXX.out HYY.out hp)
            clear hik hp hbe
            go_wp2
            go_quiet (refine Calls.quiet_of_same (HBG.out _))
            go_wp2
            exact ⟨⟨k + 1, f, by omega, rfl, by go_num, Lib.hid (HP.out.trans HN.out), bdrew HBE.out _⟩, by simp [intOf]; omega⟩
          · have HBG := Lib.hid (fun w' => begins_eq x y w' true hp (by omega) (by omega))
            have HN := Lib.hid (FrU.bad HIK.out HXX.out HYY.out hp)
            clear hik hp hbe
            go_wp2
            go_quiet (refine Calls.quiet_of_same (HBG.out _))
            go_wp2
            exact ⟨⟨k + 1, false, by omega, rfl, by go_num, Lib.hid ⟨fun h => (by cases h), fun h => absurd h HN.out⟩, bdrew HBE.out _⟩, by simp [intOf]; omega⟩
      · have kk2 : ¬ (k : Int) < (m.length : Int) := by omega
        have HE2 := Lib.hid (show k = (m.map bs).length by simp; omega)
        go_wp2
        exact ⟨⟨i + 1, f, by omega, rfl, by go_num, Lib.hid (by have hf := HP.out; rw [HE2.out] at hf; exact hf.trans FrU.row), hbe⟩, by simp [intOf]; omega⟩
  · have kk : ¬ (i : Int) < (m.length : Int) := by omega
    have HFF := Lib.hid (show f = F from by have hf := HP.out; rw [show i = m.length by omega] at hf; exact Bool.eq_iff_iff.2 (hf.trans HF.out.symm))
    obtain rfl := HFF.out
    clear HFF
    go_wp2_with fail
    refine (P2.out _ (HR2.out _ hb7)).mono ?_
    rintro e w8 ⟨rfl, hb⟩
    have hb8 := bnext hb7 hb
    clear hb
    go_wp2_with fail
    refine (As.error_ok _).mono ?_
    rintro e w9 ⟨rfl, hb⟩
    have hb9 := bnext hb8 hb
    clear hb
    go_wp2_with fail
    refine (P3.out _ (HR2.out _ hb9)).mono ?_
    rintro e w10 ⟨R, rfl, hR, hb⟩
    have hb10 := bnext hb9 hb
    have HRR := Lib.hid hR
    clear hb hR
    go_wp2_with fail
    refine (As.error_ok _).mono ?_
    rintro e w11 ⟨rfl, hb⟩
    have hb11 := bnext hb10 hb
    clear hb
    go_wp2_with fail
    refine (P4.out _ (HR2.out _ hb11) R HRR.out).mono ?_
    rintro e w12 ⟨rfl, hb⟩
    have hb12 := bnext hb11 hb
    clear hb
    go_wp2
    go_ret
    exact ⟨rfl, hb12⟩

set_option maxHeartbeats 1000000 in
set_option maxRecDepth 100000 in
theorem walk_oo (w : World) (A : Option Addr) (c : Nat) (l : List Int) (hr : Reads w A l.length 1 (ints l)) (hm : l.length ≤ maxLen) (B : Option Addr) (d : Nat) (m : List ByteArray) (hr2 : Reads w B m.length 1 (texts m)) (hm2 : m.length ≤ maxLen) (hc2 : m.length ≤ d) (hsz2 : ∀ s ∈ m, s.size ≤ maxLen) (h : ckL l = 0) (h4 : roomOf l ≤ 4096) (ht : tchk (m.map bs) = 0) (hg : As.Laid w) :
    Calls Tryd.prog 4 #[.slice A l.length c, .slice B m.length d] w fun e w' => e = .returned (.bool true) ∧ Below w.heap.size w w' := by
  have HR := Lib.hid (fun (w' : World) (hb : Below w.heap.size w w') => hr.below hb)
  have HR2 := Lib.hid (fun (w' : World) (hb : Below w.heap.size w w') => hr2.below hb)
  have HE := Lib.hid (fun (n : Int) (hn : n ≠ 0) w' (hb : Below w.heap.size w w') => As.error_no n hn w' (hg.below hb))
  have hb0 := Below.refl w.heap.size w
  have q1 := fun w' hr' => lengths_any A c l w' hr' hm
  have q2 := fun w' hr' => kcheck_any A c l w' hr' hm
  obtain ⟨hl, hin⟩ := ckL_ok h
  have q3 := fun w' hr' => kroom_ok A c l w' hr' h
  have q5 := fun w' hr' => room_any A c l w' hr' (by omega) hin
  have q4 := fun w' hr' => codes_ok A c l w' hr' h h4
  have q6 := fun w' hr' => refcodes_any A c l w' hr' h h4
  have hcl := codes_length l
  rw [h] at q1 q2
  rw [show errT 0 = .nilIface from rfl] at q2
  have hN : ¬ (4096 : Int) < ((roomOf l : Nat) : Int) := by omega
  generalize roomOf l = N at *
  have HCL := Lib.hid hcl
  have hl10 : l.length ≤ 1000000 := by omega
  clear hcl
  have Q5 := Lib.hid q5
  clear q5 hin hl h4
  have Q6 := Lib.hid q6
  clear q6
  have Q1 := Lib.hid q1; have Q2 := Lib.hid q2; have Q3 := Lib.hid q3; have Q4 := Lib.hid q4
  clear q1 q2 q3 q4 hr hr2 hg
  have p1 := fun w' hr' => words_any B d m w' hr' hm2 hsz2
  obtain ⟨h6, h8, hnd⟩ := tchk_ok ht
  have hm60 : m.length ≤ 6 := by simpa using h6
  have p2 := fun w' hr' => free_ok B d m w' hr' hm2 hc2 hsz2 ht
  have p3 := fun w' hr' => apart_ok B d m w' hr' hm2 hc2 hsz2 ht
  have p4 := fun w' hr' R hR => refapart_any B d m w' hr' ht R hR
  rw [ht] at p1
  obtain ⟨F, hF⟩ : ∃ F, F = frB (m.map bs) := ⟨_, rfl⟩
  rw [← hF] at p2
  have HF := Lib.hid (show F = true ↔ FrU (m.map bs) m.length 0 from by rw [hF, frB_iff, ← fr_iff, List.length_map])
  have H8 := Lib.hid (fun w hw => (h8 w hw).1 : ∀ w ∈ m.map bs, w.length ≤ 8)
  have P4 := Lib.hid p4
  clear hF p4 h6 h8 hnd
  have P1 := Lib.hid p1; have P2 := Lib.hid p2; have P3 := Lib.hid p3
  clear p1 p2 p3 hsz2 hc2
  clear h
  clear ht
  go_enter Tryd.func4, Tryd.ntmps4
  go_wp2_with fail
  refine (Q1.out _ (HR.out _ hb0)).mono ?_
  rintro e w_ ⟨rfl, rfl⟩
  go_wp2_with fail
  refine (Q2.out _ (HR.out _ hb0)).mono ?_
  rintro e w_ ⟨rfl, rfl⟩
  go_wp2_with fail
  refine (As.error_ok _).mono ?_
  rintro e w1 ⟨rfl, hb⟩
  have hb1 := bnext hb0 hb
  clear hb
  go_wp2_with fail
  refine (Q5.out _ (HR.out _ hb1)).mono ?_
  rintro e w_ ⟨rfl, rfl⟩
  go_wp2_with fail
  refine (Q3.out _ (HR.out _ hb1)).mono ?_
  rintro e w_ ⟨rfl, rfl⟩
  go_wp2_with fail
  refine (As.error_ok _).mono ?_
  rintro e w2 ⟨rfl, hb⟩
  have hb2 := bnext hb1 hb
  clear hb
  go_wp2_with fail
  refine (Q6.out _ (HR.out _ hb2)).mono ?_
  rintro e w3 ⟨G1, rfl, hg1, hG1, hb⟩
  have hb3 := bnext hb2 hb
  have HA1 := Lib.hid (fun (w' : World) (hbb : Below w3.heap.size w3 w') => (show Reads w' (some ⟨G1, 0, none⟩) l.length 1 (texts ((codesOf l).map ba)) from by have := (hg1.below hbb hg1.lt).reads; rwa [HCL.out] at this))
  have hr3 := Below.refl w3.heap.size w3
  clear hb hg1 hG1
  go_wp2_with fail
  refine (Q4.out _ (HR.out _ hb3)).mono ?_
  rintro e w4 ⟨G2, rfl, hg2, hG2, hb⟩
  have hb4 := bnext hb3 hb
  have hs4 := bnext hr3 hb
  have HA2 := Lib.hid (fun (w' : World) (hbb : Below w4.heap.size w4 w') => (show Reads w' (some ⟨G2, 0, none⟩) l.length 1 (texts ((codesOf l).map ba)) from by have := (hg2.below hbb hg2.lt).reads; rwa [HCL.out] at this))
  clear hb hg2 hG2
  go_wp2_with fail
  refine (As.error_ok _).mono ?_
  rintro e w5 ⟨rfl, hb⟩
  have hb5 := bnext hb4 hb
  have hx1 := bnext hs4 hb
  go_wp2_with fail
  refine (texts_two _ _ l.length l.length ((codesOf l).map ba) l.length _ (by rw [List.length_map, HCL.out]) (HA2.out _ hb) (HA1.out _ hx1) hl10).mono ?_
  rintro e w6 ⟨rfl, hbq⟩
  have hb6 := bnext hb5 hbq
  clear hb hbq hx1
  go_wp2_with fail
  refine (P1.out _ (HR2.out _ hb6)).mono ?_
  rintro e w7 ⟨rfl, hb⟩
  have hb7 := bnext hb6 hb
  clear hb
  clear hb0 hb1 hb2 hb3 hb4 hb5 hb6
  go_wp2_with fail
  go_loopw [14, 15, 16, 69, 70, 71, 72, 73, 74, 75, 76, 77, 78, 79, 80, 81, 82, 83, 84, 85, 86, 87, 88, 89, 90, 91, 92, 93, 94, 95, 96, 97, 98] (fun fv iv _ _ _ _ _ _ _ _ _ _ _ _ _ _ _ _ _ _ _ _ _ _ _ _ _ _ _ _ _ _ _ wr => ∃ (i : Nat) (f : Bool), i ≤ m.length ∧ fv = .bool f ∧ iv = .int .i64 (i : Int) ∧ Hid (f = true ↔ FrU (m.map bs) i 0) ∧ Below w.heap.size w wr) (fun _ iv _ _ _ _ _ _ _ _ _ _ _ _ _ _ _ _ _ _ _ _ _ _ _ _ _ _ _ _ _ _ _ _ => m.length - (intOf iv).toNat)
  case atStart => exact ⟨0, true, Nat.zero_le _, rfl, rfl, Lib.hid ⟨fun _ => FrU.zero _, fun _ => rfl⟩, hb7⟩
  case round =>
  obtain ⟨i, f, hi, rfl, rfl, HP, hb8⟩ := hrel
  by_cases hlt : i < m.length
  · have kk : (i : Int) < (m.length : Int) := by omega
    obtain ⟨wo, hwo⟩ : ∃ wo, wo = wr := ⟨_, rfl⟩
    subst hwo
    go_wp2_with fail
    go_loopw [14, 16, 79, 80, 81, 82, 83, 84, 85, 86, 87, 88, 89, 90, 91, 92, 93, 94, 95, 96, 97, 98] (fun fv kv _ _ _ _ _ _ _ _ _ _ _ _ _ _ _ _ _ _ _ _ wx => ∃ (k : Nat) (f : Bool), k ≤ m.length ∧ fv = .bool f ∧ kv = .int .i64 (k : Int) ∧ Hid (f = true ↔ FrU (m.map bs) i k) ∧ Below w.heap.size w wx) (fun _ kv _ _ _ _ _ _ _ _ _ _ _ _ _ _ _ _ _ _ _ _ _ => m.length - (intOf kv).toNat)
    case atStart => exact ⟨0, f, Nat.zero_le _, rfl, rfl, HP, hb8⟩
    case round =>
      clear HP hb8
      obtain ⟨k, f, hk, rfl, rfl, HP, hbe⟩ := hrel
      by_cases hlt2 : k < m.length
      · obtain ⟨b, o, rfl, hbk, hcc⟩ := (HR2.out _ hbe).2 (by omega)
        obtain ⟨x, hx⟩ : ∃ x, m[i]? = some x := ⟨_, List.getElem?_eq_getElem hlt⟩
        obtain ⟨y, hy⟩ : ∃ y, m[k]? = some y := ⟨_, List.getElem?_eq_getElem hlt2⟩
        have c0 := hcc i (.string x) (by rw [texts_get, hx]; rfl)
        have c1 := hcc k (.string y) (by rw [texts_get, hy]; rfl)
        have kk2 : (k : Int) < (m.length : Int) := by omega
        have hX : (m.map bs)[i]? = some (bs x) := by rw [List.getElem?_map, hx]; rfl
        have hY : (m.map bs)[k]? = some (bs y) := by rw [List.getElem?_map, hy]; rfl
        have hxl : x.size ≤ 8 := by have := H8.out (bs x) (List.mem_of_getElem? hX); rwa [bs_length] at this
        have hyl : y.size ≤ 8 := by have := H8.out (bs y) (List.mem_of_getElem? hY); rwa [bs_length] at this
        have HXX := Lib.hid hX; have HYY := Lib.hid hY
        have HBE := Lib.hid hbe
        clear hcc hx hy hX hY
        by_cases hik : i = k
        · have hne : ((i : Int) != (k : Int)) = false := by rw [bne_eq_false_iff_eq]; omega
          have HE2 := Lib.hid hik
          clear hik hbe
          go_wp2
          go_quiet (fail)
          go_wp2
          exact ⟨⟨k + 1, f, by omega, rfl, by go_num, Lib.hid (by have hf := HP.out; rw [← HE2.out] at hf ⊢; exact hf.trans FrU.skip), bdrew HBE.out _⟩, by simp [intOf]; omega⟩
        · have hne : ((i : Int) != (k : Int)) = true := by rw [bne_iff_ne]; omega
          have HIK := Lib.hid hik
          cases hp : (bs y).isPrefixOf (bs x)
          · have HBG := Lib.hid (fun w' => begins_eq x y w' false hp (by omega) (by omega))
            have HN := Lib.hid (FrU.put HXX.out HYY.out hp)
            clear hik hp hbe
            go_wp2
            go_quiet (refine Calls.quiet_of_same (HBG.out _))
            go_wp2
            exact ⟨⟨k + 1, f, by omega, rfl, by go_num, Lib.hid (HP.out.trans HN.out), bdrew HBE.out _⟩, by simp [intOf]; omega⟩
          · have HBG := Lib.hid (fun w' => begins_eq x y w' true hp (by omega) (by omega))
            have HN := Lib.hid (FrU.bad HIK.out HXX.out HYY.out hp)
            clear hik hp hbe
            go_wp2
            go_quiet (refine Calls.quiet_of_same (HBG.out _))
            go_wp2
            exact ⟨⟨k + 1, false, by omega, rfl, by go_num, Lib.hid ⟨fun h => (by cases h), fun h => absurd h HN.out⟩, bdrew HBE.out _⟩, by simp [intOf]; omega⟩
      · have kk2 : ¬ (k : Int) < (m.length : Int) := by omega
        have HE2 := Lib.hid (show k = (m.map bs).length by simp; omega)
        go_wp2
        exact ⟨⟨i + 1, f, by omega, rfl, by go_num, Lib.hid (by have hf := HP.out; rw [HE2.out] at hf; exact hf.trans FrU.row), hbe⟩, by simp [intOf]; omega⟩
  · have kk : ¬ (i : Int) < (m.length : Int) := by omega
    have HFF := Lib.hid (show f = F from by have hf := HP.out; rw [show i = m.length by omega] at hf; exact Bool.eq_iff_iff.2 (hf.trans HF.out.symm))
    obtain rfl := HFF.out
    clear HFF
    go_wp2_with fail
    refine (P2.out _ (HR2.out _ hb8)).mono ?_
    rintro e w9 ⟨rfl, hb⟩
    have hb9 := bnext hb8 hb
    clear hb
    go_wp2_with fail
    refine (As.error_ok _).mono ?_
    rintro e w10 ⟨rfl, hb⟩
    have hb10 := bnext hb9 hb
    clear hb
    go_wp2_with fail
    refine (P3.out _ (HR2.out _ hb10)).mono ?_
    rintro e w11 ⟨R, rfl, hR, hb⟩
    have hb11 := bnext hb10 hb
    have HRR := Lib.hid hR
    clear hb hR
    go_wp2_with fail
    refine (As.error_ok _).mono ?_
    rintro e w12 ⟨rfl, hb⟩
    have hb12 := bnext hb11 hb
    clear hb
    go_wp2_with fail
    refine (P4.out _ (HR2.out _ hb12) R HRR.out).mono ?_
    rintro e w13 ⟨rfl, hb⟩
    have hb13 := bnext hb12 hb
    clear hb
    go_wp2
    go_ret
    exact ⟨rfl, hb13⟩

set_option maxHeartbeats 1000000 in
set_option maxRecDepth 100000 in
theorem walk_fo (w : World) (A : Option Addr) (c : Nat) (l : List Int) (hr : Reads w A l.length 1 (ints l)) (hm : l.length ≤ maxLen) (B : Option Addr) (d : Nat) (m : List ByteArray) (hr2 : Reads w B m.length 1 (texts m)) (hm2 : m.length ≤ maxLen) (hc2 : m.length ≤ d) (hsz2 : ∀ s ∈ m, s.size ≤ maxLen) (h : ckL l = 0) (h4 : 4096 < roomOf l) (ht : tchk (m.map bs) = 0) (hg : As.Laid w) :
    Calls Tryd.prog 4 #[.slice A l.length c, .slice B m.length d] w fun e w' => e = .returned (.bool true) ∧ Below w.heap.size w w' := by
  have HR := Lib.hid (fun (w' : World) (hb : Below w.heap.size w w') => hr.below hb)
  have HR2 := Lib.hid (fun (w' : World) (hb : Below w.heap.size w w') => hr2.below hb)
  have HE := Lib.hid (fun (n : Int) (hn : n ≠ 0) w' (hb : Below w.heap.size w w') => As.error_no n hn w' (hg.below hb))
  have hb0 := Below.refl w.heap.size w
  have q1 := fun w' hr' => lengths_any A c l w' hr' hm
  have q2 := fun w' hr' => kcheck_any A c l w' hr' hm
  obtain ⟨hl, hin⟩ := ckL_ok h
  have q3 := fun w' hr' => kroom_ok A c l w' hr' h
  have q5 := fun w' hr' => room_any A c l w' hr' (by omega) hin
  have q4 := fun w' hr' => codes_full A c l w' hr' h h4
  rw [h] at q1 q2
  rw [show errT 0 = .nilIface from rfl] at q2
  have hN : (4096 : Int) < ((roomOf l : Nat) : Int) := by omega
  generalize roomOf l = N at *
  have Q5 := Lib.hid q5
  clear q5 hin hl h4
  have Q1 := Lib.hid q1; have Q2 := Lib.hid q2; have Q3 := Lib.hid q3; have Q4 := Lib.hid q4
  clear q1 q2 q3 q4 hr hr2 hg
  have p1 := fun w' hr' => words_any B d m w' hr' hm2 hsz2
  obtain ⟨h6, h8, hnd⟩ := tchk_ok ht
  have hm60 : m.length ≤ 6 := by simpa using h6
  have p2 := fun w' hr' => free_ok B d m w' hr' hm2 hc2 hsz2 ht
  have p3 := fun w' hr' => apart_ok B d m w' hr' hm2 hc2 hsz2 ht
  have p4 := fun w' hr' R hR => refapart_any B d m w' hr' ht R hR
  rw [ht] at p1
  obtain ⟨F, hF⟩ : ∃ F, F = frB (m.map bs) := ⟨_, rfl⟩
  rw [← hF] at p2
  have HF := Lib.hid (show F = true ↔ FrU (m.map bs) m.length 0 from by rw [hF, frB_iff, ← fr_iff, List.length_map])
  have H8 := Lib.hid (fun w hw => (h8 w hw).1 : ∀ w ∈ m.map bs, w.length ≤ 8)
  have P4 := Lib.hid p4
  clear hF p4 h6 h8 hnd
  have P1 := Lib.hid p1; have P2 := Lib.hid p2; have P3 := Lib.hid p3
  clear p1 p2 p3 hsz2 hc2
  clear h
  clear ht
  go_enter Tryd.func4, Tryd.ntmps4
  go_wp2_with fail
  refine (Q1.out _ (HR.out _ hb0)).mono ?_
  rintro e w_ ⟨rfl, rfl⟩
  go_wp2_with fail
  refine (Q2.out _ (HR.out _ hb0)).mono ?_
  rintro e w_ ⟨rfl, rfl⟩
  go_wp2_with fail
  refine (As.error_ok _).mono ?_
  rintro e w1 ⟨rfl, hb⟩
  have hb1 := bnext hb0 hb
  clear hb
  go_wp2_with fail
  refine (Q5.out _ (HR.out _ hb1)).mono ?_
  rintro e w_ ⟨rfl, rfl⟩
  go_wp2_with fail
  refine (Q3.out _ (HR.out _ hb1)).mono ?_
  rintro e w_ ⟨rfl, rfl⟩
  go_wp2_with fail
  refine (As.error_ok _).mono ?_
  rintro e w2 ⟨rfl, hb⟩
  have hb2 := bnext hb1 hb
  clear hb
  go_wp2_with fail
  refine (Q4.out _ (HR.out _ hb2)).mono ?_
  rintro e w3 ⟨rfl, hb⟩
  have hb3 := bnext hb2 hb
  clear hb
  go_wp2_with fail
  refine (HE.out 6 (by decide) _ hb3).mono ?_
  rintro e w4 ⟨rfl, hb⟩
  have hb4 := bnext hb3 hb
  clear hb
  go_wp2_with fail
  refine (texts_nil _).mono ?_
  rintro e w5 ⟨rfl, hb⟩
  have hb5 := bnext hb4 hb
  clear hb
  go_wp2_with fail
  refine (P1.out _ (HR2.out _ hb5)).mono ?_
  rintro e w6 ⟨rfl, hb⟩
  have hb6 := bnext hb5 hb
  clear hb
  clear hb0 hb1 hb2 hb3 hb4 hb5
  go_wp2_with fail
  go_loopw [14, 15, 16, 69, 70, 71, 72, 73, 74, 75, 76, 77, 78, 79, 80, 81, 82, 83, 84, 85, 86, 87, 88, 89, 90, 91, 92, 93, 94, 95, 96, 97, 98] (fun fv iv _ _ _ _ _ _ _ _ _ _ _ _ _ _ _ _ _ _ _ _ _ _ _ _ _ _ _ _ _ _ _ wr => ∃ (i : Nat) (f : Bool), i ≤ m.length ∧ fv = .bool f ∧ iv = .int .i64 (i : Int) ∧ Hid (f = true ↔ FrU (m.map bs) i 0) ∧ Below w.heap.size w wr) (fun _ iv _ _ _ _ _ _ _ _ _ _ _ _ _ _ _ _ _ _ _ _ _ _ _ _ _ _ _ _ _ _ _ _ => m.length - (intOf iv).toNat)
  case atStart => exact ⟨0, true, Nat.zero_le _, rfl, rfl, Lib.hid ⟨fun _ => FrU.zero _, fun _ => rfl⟩, hb6⟩
  case round =>
  obtain ⟨i, f, hi, rfl, rfl, HP, hb7⟩ := hrel
  by_cases hlt : i < m.length
  · have kk : (i : Int) < (m.length : Int) := by omega
    obtain ⟨wo, hwo⟩ : ∃ wo, wo = wr := ⟨_, rfl⟩
    subst hwo
    go_wp2_with fail
    go_loopw [14, 16, 79, 80, 81, 82, 83, 84, 85, 86, 87, 88, 89, 90, 91, 92, 93, 94, 95, 96, 97, 98] (fun fv kv _ _ _ _ _ _ _ _ _ _ _ _ _ _ _ _ _ _ _ _ wx => ∃ (k : Nat) (f : Bool), k ≤ m.length ∧ fv = .bool f ∧ kv = .int .i64 (k : Int) ∧ Hid (f = true ↔ FrU (m.map bs) i k) ∧ Below w.heap.size w wx) (fun _ kv _ _ _ _ _ _ _ _ _ _ _ _ _ _ _ _ _ _ _ _ _ => m.length - (intOf kv).toNat)
    case atStart => exact ⟨0, f, Nat.zero_le _, rfl, rfl, HP, hb7⟩
    case round =>
      clear HP hb7
      obtain ⟨k, f, hk, rfl, rfl, HP, hbe⟩ := hrel
      by_cases hlt2 : k < m.length
      · obtain ⟨b, o, rfl, hbk, hcc⟩ := (HR2.out _ hbe).2 (by omega)
        obtain ⟨x, hx⟩ : ∃ x, m[i]? = some x := ⟨_, List.getElem?_eq_getElem hlt⟩
        obtain ⟨y, hy⟩ : ∃ y, m[k]? = some y := ⟨_, List.getElem?_eq_getElem hlt2⟩
        have c0 := hcc i (.string x) (by rw [texts_get, hx]; rfl)
        have c1 := hcc k (.string y) (by rw [texts_get, hy]; rfl)
        have kk2 : (k : Int) < (m.length : Int) := by omega
        have hX : (m.map bs)[i]? = some (bs x) := by rw [List.getElem?_map, hx]; rfl
        have hY : (m.map bs)[k]? = some (bs y) := by rw [List.getElem?_map, hy]; rfl
        have hxl : x.size ≤ 8 := by have := H8.out (bs x) (List.mem_of_getElem? hX); rwa [bs_length] at this
        have hyl : y.size ≤ 8 := by have := H8.out (bs y) (List.mem_of_getElem? hY); rwa [bs_length] at this
        have HXX := Lib.hid hX; have HYY := Lib.hid hY
        have HBE := Lib.hid hbe
        clear hcc hx hy hX hY
        by_cases hik : i = k
        · have hne : ((i : Int) != (k : Int)) = false := by rw [bne_eq_false_iff_eq]; omega
          have HE2 := Lib.hid hik
          clear hik hbe
          go_wp2
          go_quiet (fail)
          go_wp2
          exact ⟨⟨k + 1, f, by omega, rfl, by go_num, Lib.hid (by have hf := HP.out; rw [← HE2.out] at hf ⊢; exact hf.trans FrU.skip), bdrew HBE.out _⟩, by simp [intOf]; omega⟩
        · have hne : ((i : Int) != (k : Int)) = true := by rw [bne_iff_ne]; omega
          have HIK := Lib.hid hik
          cases hp : (bs y).isPrefixOf (bs x)
          · have HBG := Lib.hid (fun w' => begins_eq x y w' false hp (by omega) (by omega))
            have HN := Lib.hid (FrU.put HXX.out HYY.out hp)
            clear hik hp hbe
            go_wp2
            go_quiet (refine Calls.quiet_of_same (HBG.out _))
            go_wp2
            exact ⟨⟨k + 1, f, by omega, rfl, by go_num, Lib.hid (HP.out.trans HN.out), bdrew HBE.out _⟩, by simp [intOf]; omega⟩
          · have HBG := Lib.hid (fun w' => begins_eq x y w' true hp (by omega) (by omega))
            have HN := Lib.hid (FrU.bad HIK.out HXX.out HYY.out hp)
            clear hik hp hbe
            go_wp2
            go_quiet (refine Calls.quiet_of_same (HBG.out _))
            go_wp2
            exact ⟨⟨k + 1, false, by omega, rfl, by go_num, Lib.hid ⟨fun h => (by cases h), fun h => absurd h HN.out⟩, bdrew HBE.out _⟩, by simp [intOf]; omega⟩
      · have kk2 : ¬ (k : Int) < (m.length : Int) := by omega
        have HE2 := Lib.hid (show k = (m.map bs).length by simp; omega)
        go_wp2
        exact ⟨⟨i + 1, f, by omega, rfl, by go_num, Lib.hid (by have hf := HP.out; rw [HE2.out] at hf; exact hf.trans FrU.row), hbe⟩, by simp [intOf]; omega⟩
  · have kk : ¬ (i : Int) < (m.length : Int) := by omega
    have HFF := Lib.hid (show f = F from by have hf := HP.out; rw [show i = m.length by omega] at hf; exact Bool.eq_iff_iff.2 (hf.trans HF.out.symm))
    obtain rfl := HFF.out
    clear HFF
    go_wp2_with fail
    refine (P2.out _ (HR2.out _ hb7)).mono ?_
    rintro e w8 ⟨rfl, hb⟩
    have hb8 := bnext hb7 hb
    clear hb
    go_wp2_with fail
    refine (As.error_ok _).mono ?_
    rintro e w9 ⟨rfl, hb⟩
    have hb9 := bnext hb8 hb
    clear hb
    go_wp2_with fail
    refine (P3.out _ (HR2.out _ hb9)).mono ?_
    rintro e w10 ⟨R, rfl, hR, hb⟩
    have hb10 := bnext hb9 hb
    have HRR := Lib.hid hR
    clear hb hR
    go_wp2_with fail
    refine (As.error_ok _).mono ?_
    rintro e w11 ⟨rfl, hb⟩
    have hb11 := bnext hb10 hb
    clear hb
    go_wp2_with fail
    refine (P4.out _ (HR2.out _ hb11) R HRR.out).mono ?_
    rintro e w12 ⟨rfl, hb⟩
    have hb12 := bnext hb11 hb
    clear hb
    go_wp2
    go_ret
    exact ⟨rfl, hb12⟩

theorem walk (w : World) (A : Option Addr) (c : Nat) (l : List Int) (hs : l.length * 8 ≤ 140737488351232) (hrg : ∀ n ∈ l, -9223372036854775808 ≤ n ∧ n ≤ 9223372036854775807) (hi : Reads w A l.length 1 (l.map (Value.int .i64)) ∧ l.length ≤ c)
    (B : Option Addr) (d : Nat) (m : List ByteArray) (hs2 : m.length * 16 ≤ 140737488351232) (hsz2 : ∀ q ∈ m, q.size ≤ maxLen) (hi2 : Reads w B m.length 1 (texts m) ∧ m.length ≤ d) (hg : As.Laid w) :
    Calls Tryd.prog 4 #[.slice A l.length c, .slice B m.length d] w fun e w' => e = .returned (.bool true) ∧ Below w.heap.size w w' := by
  have hm : l.length ≤ maxLen := by unfold maxLen; omega
  have hm2 : m.length ≤ maxLen := by unfold maxLen; omega
  by_cases ht : tchk (m.map bs) = 0
  · by_cases h : ckL l = 0
    · by_cases h4 : roomOf l ≤ 4096
      · exact walk_oo w A c l hi.1 hm B d m hi2.1 hm2 hi2.2 hsz2 h h4 ht hg
      · exact walk_fo w A c l hi.1 hm B d m hi2.1 hm2 hi2.2 hsz2 h (by omega) ht hg
    · exact walk_no w A c l hi.1 hm B d m hi2.1 hm2 hi2.2 hsz2 h ht hg
  · by_cases h : ckL l = 0
    · by_cases h4 : roomOf l ≤ 4096
      · exact walk_on w A c l hi.1 hm B d m hi2.1 hm2 hi2.2 hsz2 h h4 ht hg
      · exact walk_fn w A c l hi.1 hm B d m hi2.1 hm2 hi2.2 hsz2 h (by omega) ht hg
    · exact walk_nn w A c l hi.1 hm B d m hi2.1 hm2 hi2.2 hsz2 h ht hg
end Go.Proofs.YtnaoonegeboflaaDoor.kraftSays
