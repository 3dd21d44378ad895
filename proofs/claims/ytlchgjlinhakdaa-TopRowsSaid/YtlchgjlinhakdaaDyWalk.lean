/-
  The walks of dyck.ways, Many, At and Check.
-/
import Derived.Test.YtlchgjlinhakdaaDyPlain
import Derived.Test.YtlchgjlinhakdaaRsPiles
import Derived.Test.YtlchgjlinhakdaaLong1
namespace Go.Proofs.Ytlchgjlinhakdaa.Dy
open Go.RowKit Rs
set_option linter.unusedVariables false

def strV (l : List UInt8) : Value := .string ⟨l.toArray⟩
set_option maxHeartbeats 1000000 in
theorem ways_any : ∀ (s : Nat) (o : Int) (w : World), s ≤ 16 → -1 ≤ o → o ≤ 40 - s →
    Calls Try.prog 24 #[.int .i64 o, .int .i64 s] w fun e w' => e = .returned (.int .i64 (W s o : Nat)) ∧ w = w' := by
  intro s
  induction s with
  | zero =>
    intro o w hs h0 h1
    by_cases hn : o < 0
    · have e : W 0 o = 0 := by unfold W; rw [if_pos (.inl hn)]
      rw [e]
      go_enter Try.func24, Try.ntmps24
      go_wp2
      go_ret
      exact ⟨rfl, rfl⟩
    · by_cases hp : 0 < o
      · have e : W 0 o = 0 := by unfold W; rw [if_pos (.inr hp)]
        rw [e]
        go_enter Try.func24, Try.ntmps24
        go_wp2
        go_ret
        exact ⟨rfl, rfl⟩
      · obtain rfl : o = 0 := by omega
        have e : W 0 0 = 1 := rfl
        rw [e]
        go_enter Try.func24, Try.ntmps24
        go_wp2
        go_ret
        exact ⟨rfl, rfl⟩
  | succ s ih =>
    intro o w hs h0 h1
    have hs2 : (s : Int) ≤ 15 := by omega
    by_cases hn : o < 0
    · have e : W (s + 1) o = 0 := by unfold W; rw [if_pos (.inl hn)]
      rw [e]
      go_enter Try.func24, Try.ntmps24
      go_wp2
      go_ret
      exact ⟨rfl, rfl⟩
    · by_cases hp : (s : Int) + 1 < o
      · have e : W (s + 1) o = 0 := by unfold W; rw [if_pos (.inr hp)]
        rw [e]
        go_enter Try.func24, Try.ntmps24
        go_wp2
        go_ret
        exact ⟨rfl, rfl⟩
      · have e := W_succ (s := s) (o := o) (by omega) (by omega)
        have i1 := fun w => ih (o + 1) w (by omega) (by omega) (by push_cast at h1; omega)
        have i2 := fun w => ih (o - 1) w (by omega) (by omega) (by push_cast at h1; omega)
        have hw1 := W_le s (o + 1)
        have hw2 := W_le s (o - 1)
        have hp2 : 2 ^ s ≤ 65536 := Nat.pow_le_pow_right (by decide) (by omega : s ≤ 16)
        have z1 : ((s : Int) + 1 == 0) = false := by rw [beq_eq_false_iff_ne]; omega
        rw [e]
        generalize W s (o + 1) = a at *
        generalize W s (o - 1) = b at *
        have I1 := Lib.hid i1; have I2 := Lib.hid i2
        have ha : a ≤ 65536 := by omega
        have hb : b ≤ 65536 := by omega
        clear i1 i2 ih e hw1 hw2 hp2
        go_enter Try.func24, Try.ntmps24
        go_wp2_with fail
        refine (I1.out _).mono ?_
        rintro e w1 ⟨rfl, rfl⟩
        go_wp2_with fail
        refine (I2.out _).mono ?_
        rintro e w1 ⟨rfl, rfl⟩
        go_wp2
        go_ret
        exact ⟨rfl, rfl⟩
theorem many_ok (n : Nat) (w : World) (h : n ≤ 8) : Calls Try.prog 22 #[.int .i64 n] w fun e w' => e = .returned (.tuple #[.int .i64 (W (2 * n) 0 : Nat), .nilIface]) ∧ w = w' := by
  have hd : (n : Int) ≤ 8 := by omega
  have hw := fun w => ways_any (2 * n) 0 w (by omega) (by omega) (by push_cast; omega)
  rw [show ((2 * n : Nat) : Int) = 2 * (n : Int) by push_cast; rfl] at hw
  generalize W (2 * n) 0 = a at *
  have HW := Lib.hid hw
  clear hw
  go_enter Try.func22, Try.ntmps22
  go_wp2_with fail
  refine (within_any _ _ _ _).mono ?_
  rintro e w1 ⟨rfl, rfl⟩
  go_wp2_with fail
  refine (HW.out _).mono ?_
  rintro e w1 ⟨rfl, rfl⟩
  go_wp2
  go_ret2
  exact ⟨rfl, rfl⟩
theorem many_no (n : Int) (w : World) (h : ¬ (0 ≤ n ∧ n ≤ 8)) : Calls Try.prog 22 #[.int .i64 n] w fun e w' => e = .returned (.tuple #[.int .i64 0, .iface 43 (.int .i64 1)]) ∧ w = w' := by
  have hd : decide (0 ≤ n ∧ n ≤ 8) = false := decide_eq_false h
  clear h
  go_enter Try.func22, Try.ntmps22
  go_wp2_with fail
  refine (within_any _ _ _ _).mono ?_
  rintro e w1 ⟨rfl, rfl⟩
  go_wp2
  go_ret2
  exact ⟨rfl, rfl⟩
theorem at_no (n p : Int) (w : World) (h : ¬ (0 ≤ n ∧ n ≤ 8 ∧ 0 ≤ p ∧ p ≤ (W (2 * n.toNat) 0 : Nat) - 1)) :
    Calls Try.prog 15 #[.int .i64 n, .int .i64 p] w fun e w' => e = .returned (.tuple #[.string ⟨#[]⟩, .iface 43 (.int .i64 1)]) ∧ w = w' := by
  by_cases hn : 0 ≤ n ∧ n ≤ 8
  · obtain ⟨m, rfl⟩ := Int.eq_ofNat_of_zero_le hn.1
    rw [Int.toNat_natCast] at h
    have hm := fun w => many_ok m w (by omega)
    have hw := W_le (2 * m) 0
    have hp2 : 2 ^ (2 * m) ≤ 65536 := Nat.pow_le_pow_right (by decide) (by omega : 2 * m ≤ 16)
    have hd : decide (0 ≤ p ∧ p ≤ ((W (2 * m) 0 : Nat) : Int) - 1) = false := decide_eq_false (by omega)
    generalize W (2 * m) 0 = a at *
    have HM := Lib.hid hm
    have ha : a ≤ 65536 := by omega
    clear hm hw hp2 h hn
    go_enter Try.func15, Try.ntmps15
    go_wp2_with fail
    refine (HM.out _).mono ?_
    rintro e w1 ⟨rfl, rfl⟩
    go_wp2_with fail
    refine (within_any _ _ _ _).mono ?_
    rintro e w1 ⟨rfl, rfl⟩
    go_wp2
    go_ret2
    exact ⟨rfl, rfl⟩
  · go_enter Try.func15, Try.ntmps15
    go_wp2_with fail
    refine (many_no n _ hn).mono ?_
    rintro e w1 ⟨rfl, rfl⟩
    go_wp2
    go_ret2
    exact ⟨rfl, rfl⟩
/-- what holds at the head of At's loop -/
structure ARel (n : Nat) (o : Int) (p : Nat) (B : ByteArray) (all : List UInt8) : Prop where
  lt : p < W n o
  eq : ∃ out : List UInt8, B = ⟨out.toArray⟩ ∧ out ++ gen n o p = all
theorem ARel.size {n : Nat} {o : Int} {p : Nat} {B : ByteArray} {all : List UInt8} (h : ARel n o p B all) : B.size + n = all.length := by
  obtain ⟨out, rfl, e⟩ := h.eq
  have := congrArg List.length e
  rw [List.length_append, gen_length] at this
  show out.toArray.size + n = _
  simpa using this
theorem ARel.open_ {n : Nat} {o : Int} {p : Nat} {B : ByteArray} {all : List UInt8} (h : ARel (n + 1) o p B all) (hp : p < W n (o + 1)) : ARel n (o + 1) p (B ++ ⟨#[40]⟩) all := by
  obtain ⟨out, rfl, e⟩ := h.eq
  refine ⟨hp, out ++ [40], ?_, ?_⟩
  · rw [show (⟨#[40]⟩ : ByteArray) = ⟨[40].toArray⟩ from rfl, ByteArray.mk_append_mk]
  · rw [gen, if_pos hp] at e
    rw [← e]; simp
theorem ARel.close_ {n : Nat} {o : Int} {p : Nat} {B : ByteArray} {all : List UInt8} (h : ARel (n + 1) o p B all) (hp : ¬ p < W n (o + 1)) : ARel n (o - 1) (p - W n (o + 1)) (B ++ ⟨#[41]⟩) all := by
  have hpos := W_pos (s := n + 1) (o := o) (by have := h.lt; omega)
  have hs := W_succ (s := n) (o := o) hpos.1 (by have := hpos.2; push_cast at this; omega)
  have hlt := h.lt
  obtain ⟨out, rfl, e⟩ := h.eq
  refine ⟨by omega, out ++ [41], ?_, ?_⟩
  · rw [show (⟨#[41]⟩ : ByteArray) = ⟨[41].toArray⟩ from rfl, ByteArray.mk_append_mk]
  · rw [gen, if_neg hp] at e
    rw [← e]; simp
set_option maxHeartbeats 1000000 in
theorem at_ok (m p : Nat) (w : World) (hm : m ≤ 8) (hp : p < W (2 * m) 0) :
    Calls Try.prog 15 #[.int .i64 m, .int .i64 p] w fun e w' => e = .returned (.tuple #[strV (gen (2 * m) 0 p), .nilIface]) ∧ w = w' := by
  have h1 := fun w => many_ok m w hm
  have hw := W_le (2 * m) 0
  have hp2 : 2 ^ (2 * m) ≤ 65536 := Nat.pow_le_pow_right (by decide) (by omega : 2 * m ≤ 16)
  have hd : (p : Int) ≤ ((W (2 * m) 0 : Nat) : Int) - 1 := by omega
  have hlen := gen_length (2 * m) 0 p
  have hst : ARel (2 * m) 0 p ⟨#[]⟩ (gen (2 * m) 0 p) := ⟨hp, [], rfl, rfl⟩
  generalize gen (2 * m) 0 p = all at *
  have HST := Lib.hid hst
  generalize W (2 * m) 0 = a at *
  have HM := Lib.hid h1
  have ha : a ≤ 65536 := by omega
  clear h1 hw hp2 hst
  go_enter Try.func15, Try.ntmps15
  go_wp2_with fail
  refine (HM.out _).mono ?_
  rintro e w1 ⟨rfl, rfl⟩
  go_wp2_with fail
  refine (within_any _ _ _ _).mono ?_
  rintro e w1 ⟨rfl, rfl⟩
  go_wp2
  go_loop [1, 8, 9, 10] (fun pl s8 op left => ∃ (n : Nat) (o : Int) (q : Nat) (B : ByteArray), n ≤ 16 ∧ pl = .int .i64 q ∧ s8 = .string B ∧ op = .int .i64 o ∧ left = .int .i64 ((n : Int) - 1) ∧ Hid (ARel n o q B all)) (fun _ _ _ left => (intOf left + 1).toNat)
  case atStart => exact ⟨2 * m, 0, p, ⟨#[]⟩, by omega, rfl, rfl, rfl, by push_cast; rfl, HST⟩
  case round =>
    obtain ⟨n, o, q, B, hn, rfl, rfl, rfl, rfl, HR⟩ := hrel
    clear HST
    have hsz := HR.out.size
    rw [hlen] at hsz
    cases n with
    | zero =>
      have hB : B = ⟨all.toArray⟩ := by
        obtain ⟨out, rfl, e⟩ := HR.out.eq
        rw [gen, List.append_nil] at e
        rw [e]
      have HB := Lib.hid hB
      clear hB
      go_wp2
      go_ret2
      rw [HB.out]
      exact ⟨rfl, rfl⟩
    | succ n =>
      have hpos := W_pos (s := n + 1) (o := o) (by have := HR.out.lt; omega)
      have hpos2 := hpos.2
      have hpos1 := hpos.1
      have hql := HR.out.lt
      have hqm := W_le (n + 1) o
      have hq2 : 2 ^ (n + 1) ≤ 65536 := Nat.pow_le_pow_right (by decide) (by omega : n + 1 ≤ 16)
      have i1 := fun w => ways_any n (o + 1) w (by omega) (by omega) (by push_cast at hpos2; omega)
      have hw1 := W_le n (o + 1)
      have hp3 : 2 ^ n ≤ 65536 := Nat.pow_le_pow_right (by decide) (by omega : n ≤ 16)
      have hq : q ≤ 65536 := by omega
      have I1 := Lib.hid i1
      rw [show ((n + 1 : Nat) : Int) - 1 = (n : Int) by push_cast; omega]
      by_cases hlt : q < W n (o + 1)
      · have HN := Lib.hid (HR.out.open_ hlt)
        have hlt2 : (q : Int) < ((W n (o + 1) : Nat) : Int) := by omega
        have hb : W n (o + 1) ≤ 65536 := by omega
        generalize W n (o + 1) = b at *
        clear i1 hw1 hp3 hqm hq2 hql hpos hlt HR
        have hcat : ¬ (9223372036854775807 < B.size + 1) := by omega
        go_wp2_with (go_at_call 24; refine (I1.out _).mono ?_; rintro e w' ⟨rfl, rfl⟩)
        go_round
        case rel => exact ⟨n, o + 1, q, _, by omega, rfl, rfl, rfl, rfl, HN⟩
        case measure => simp [intOf]
      · have HN := Lib.hid (HR.out.close_ hlt)
        have hlt2 : ¬ (q : Int) < ((W n (o + 1) : Nat) : Int) := by omega
        have hb : W n (o + 1) ≤ 65536 := by omega
        generalize W n (o + 1) = b at *
        obtain ⟨q', hq'⟩ : ∃ q' : Nat, q - b = q' := ⟨_, rfl⟩
        have e1 : (q : Int) - (b : Int) = (q' : Int) := by omega
        rw [hq'] at HN
        clear i1 hw1 hp3 hqm hq2 hql hpos hlt HR
        have hcat : ¬ (9223372036854775807 < B.size + 1) := by omega
        go_wp2_with (go_at_call 24; refine (I1.out _).mono ?_; rintro e w' ⟨rfl, rfl⟩)
        go_round
        case rel => exact ⟨n, o - 1, q', _, by omega, rfl, rfl, rfl, rfl, HN⟩
        case measure => simp [intOf]
theorem index_at (s : ByteArray) (K : Nat) (z : UInt8) (h : K < s.size) (hz : s[K] = z) (w : World) : (Instr.index 9 (.string s) (.int .i64 (K : Int))).run Try.prog w = .ok (.int .u8 (z.toNat : Int)) w := by
  rw [run_index_string w _ s _ _ Try.underlying9, dif_pos ⟨by omega, by omega⟩]
  subst hz
  simp
theorem drop_cons {L : List UInt8} {k : Nat} {c : UInt8} (h : L[k]? = some c) : L.drop k = c :: L.drop (k + 1) := by
  obtain ⟨hk, he⟩ := List.getElem?_eq_some_iff.1 h
  rw [List.drop_eq_getElem_cons hk, he]
set_option maxHeartbeats 1000000 in
theorem check_ok (s : ByteArray) (w : World) (hs : s.size ≤ 16) (hb : Bal 0 s.data.toList) : Calls Try.prog 16 #[.string s] w fun e w' => e = .returned .nilIface ∧ Below w.heap.size w w' := by
  have hget : ∀ (k : Nat) (hk : k < s.size), s.data.toList[k]? = some s[k] := by
    intro k hk
    rw [List.getElem?_eq_getElem (by simpa using hk)]; rfl
  have HG := Lib.hid hget
  have HB := Lib.hid hb
  have hlen : s.data.toList.length = s.size := by simp
  have HL := Lib.hid hlen
  clear hget hb hlen
  go_enter Try.func16, Try.ntmps16
  go_wp2_with (go_at_call 25; refine (long1_ok s w.heap.size 16 _ (by simp) (by omega)).mono ?_; rintro e w' ⟨rfl, rfl⟩)
  go_loop [4, 14] (fun op i => ∃ (k : Nat) (o : Int), k ≤ s.size ∧ i = .int .i64 k ∧ op = .int .i64 o ∧ 0 ≤ o ∧ o ≤ (k : Int) ∧ Hid (Bal o (s.data.toList.drop k))) (fun _ i => s.size - (intOf i).toNat)
  case atStart => exact ⟨0, 0, Nat.zero_le _, rfl, rfl, Int.le_refl _, by simp, HB⟩
  case round =>
    obtain ⟨k, o, hk, rfl, rfl, h0, h1, HK⟩ := hrel
    clear HB
    by_cases hlt : k < s.size
    · have hb := HK.out
      rw [drop_cons (HG.out k hlt)] at hb
      rcases hb with ⟨hc, hb⟩ | ⟨hc, h2, hb⟩
      · have q1 := index_at s k 40 hlt hc
        have HN := Lib.hid hb
        clear hb hc HK
        go_wp2
        go_round
        case rel => exact ⟨k + 1, o + 1, by omega, by go_num, rfl, by omega, by push_cast; omega, HN⟩
        case measure => simp [intOf]; omega
      · have q1 := index_at s k 41 hlt hc
        have HN := Lib.hid hb
        clear hb hc HK
        go_wp2
        go_round
        case rel => exact ⟨k + 1, o - 1, by omega, by go_num, rfl, by omega, by push_cast; omega, HN⟩
        case measure => simp [intOf]; omega
    · obtain rfl : k = s.size := by omega
      have hb := HK.out
      rw [List.drop_of_length_le (by rw [HL.out]; exact Nat.le_refl _)] at hb
      obtain rfl : o = 0 := hb
      go_wp2
      go_ret
      exact ⟨rfl, bnew _ _⟩
end Go.Proofs.Ytlchgjlinhakdaa.Dy
