/-
  The walks of front.There and front.Back, and of the comparison of two lists of numbers.
-/
import Derived.Test.YtfjjjkfldekooaaLong1
import Derived.Test.YtfjjjkfldekooaaFtWalk
namespace Go.Proofs.Ytfjjjkfldekooaa.Ft
open Go.RowKit

def nums (l : List Nat) : List Value := l.map fun (n : Nat) => .int .i64 (n : Int)
theorem nums_length (l : List Nat) : (nums l).length = l.length := by simp [nums]
theorem int_oneCell (n : Int) : ∀ u ∈ [Value.int .i64 n], u.oneCell' = true := by intro u hu; simp at hu; subst hu; rfl

theorem there_no (s : ByteArray) (w : World) (hs : 1000 < s.size) :
    Calls Try.prog 16 #[.string s] w fun e w' => e = .returned (.tuple #[.slice none 0 0, .iface 59 (.int .i64 4)]) ∧ Below w.heap.size w w' := by
  go_enter Try.func16, Try.ntmps16
  go_wp2_with (go_at_call 23; refine (long1_no s w.heap.size 1000 _ (by simp) (by omega)).mono ?_; rintro e w' ⟨rfl, rfl⟩)
  go_ret2
  exact ⟨rfl, bnew _ _⟩

structure TRel (w wr : World) (g : Nat) (v : Value) (L : List UInt8) (k : Nat) : Prop where
  blk : Blk wr g (rowT allB (L.take k))
  own : wr.ownsRow (g + 1) 3 1 v k (nums (there allB (L.take k)))
  below : Below w.heap.size w wr
theorem TRel.next {w wr w1 w2 : World} {g : Nat} {v v' : Value} {L : List UInt8} {k : Nat} {c : UInt8} (h : TRel w wr g v L k) (hw : w.heap.size ≤ g) (ht : L.take (k + 1) = L.take k ++ [c]) (hm : Blk w1 g (mv (rowT allB (L.take k)) ((rowT allB (L.take k)).idxOf c))) (hg1 : wr.grownBy w1 (some g))
    {o : Obj} (hown : w2.ownsRow (g + 1) 3 1 v' (k + 1) (nums (there allB (L.take k)) ++ [.int .i64 ((rowT allB (L.take k)).idxOf c : Int)])) (hg2 : (w1.alloc o).grownBy w2 v.ownBlock) : TRel w w2 g v' L (k + 1) := by
  have hlt := h.blk.lt
  have h1 := hg1.size
  have hb : ∀ j, v.ownBlock = some j → g + 1 ≤ j := fun j hj => (h.own.lt j hj).1
  refine ⟨?_, ?_, ?_⟩
  · rw [ht, rowT_snoc]
    exact (hm.alloc _).kept hg2 (fun e => by have := hb g e.symm; omega)
  · rw [ht, there_snoc]
    simpa [nums] using hown
  · refine ((h.below.grown hg1 h.below.size (fun j hj => by cases hj; exact hw)).alloc (by have := h.below.size; omega) _).grown hg2 (by have := h.below.size; simp; omega) (fun j hj => by have := hb j hj; omega)

set_option maxHeartbeats 1000000 in
set_option maxRecDepth 100000 in
theorem there_ok (s : ByteArray) (w : World) (hs : s.size ≤ 1000) :
    Calls Try.prog 16 #[.string s] w fun e w' => ∃ A cap, e = .returned (.tuple #[.slice A s.size cap, .nilIface]) ∧ w'.ownsRow w.heap.size 3 1 (.slice A s.size cap) s.size (nums (there allB s.data.toList)) ∧ Below w.heap.size w w' := by
  obtain ⟨i0, hi, hz0, hz1, hz2⟩ := info_parts info64
  have hL : s.data.toList.length = s.size := by simp
  have hF := fun k => Full.rowT (s.data.toList.take k) allB full_all
  have HL := Lib.hid hL; have HF := Lib.hid hF; clear hL hF
  go_enter Try.func16, Try.ntmps16
  go_wp2_with (first
    | (go_at_call 23; refine (long1_ok s w.heap.size 1000 _ (by simp) (by omega)).mono ?_; rintro e w' ⟨rfl, rfl⟩)
    | (go_at_call 37; refine (fresh_any _).mono ?_; rintro e w1 ⟨rfl, hblk, hbel⟩))
  have hsz : (w.alloc (.cells #[.string s] 9)).heap.size = w.heap.size + 1 := World.size_alloc _ _
  rw [hsz] at hblk
  have hb := Lib.hid (bnext (bnew w (.cells #[.string s] 9)) hbel)
  have hblk' := Lib.hid hblk
  clear hbel hblk hsz
  go_loopw [6, 18] (fun v i wr => ∃ k : Nat, k ≤ s.size ∧ i = .int .i64 k ∧ TRel w wr (w.heap.size + 1) v s.data.toList k) (fun _ i _ => s.size - (intOf i).toNat)
  case atStart => exact ⟨0, Nat.zero_le _, rfl, ⟨hblk'.out, World.ownsRow_nil _ _ _ _, hb.out⟩⟩
  case round =>
    obtain ⟨k, hk, rfl, hrel⟩ := hrel
    clear hb hblk'
    have hbel := hrel.below
    by_cases hlt : k < s.size
    · have htk : s.data.toList.take (k + 1) = s.data.toList.take k ++ [s[k]] := by
        rw [List.take_succ_eq_append_getElem (by rw [HL.out]; exact hlt)]; rfl
      have HT := Lib.hid htk; have HR := Lib.hid hrel
      have hfull := HF.out k
      have hidx := idx_lt hfull s[k]
      have hmem := hfull.2.2 s[k]
      have h256 := hfull.1
      obtain ⟨hblk, hown, _⟩ := hrel
      have HM := Lib.hid hmem; have HX := Lib.hid h256
      clear htk hfull hmem h256
      generalize hrow : rowT allB (s.data.toList.take k) = row at *
      have HW := Lib.hid hrow; clear hrow
      go_wp2_with (first
        | (go_at_call 38; refine (index_any _ _ row s[k] HX.out HM.out hblk).mono ?_; rintro e w' ⟨rfl, rfl⟩)
        | (go_at_call 39; refine (move_any _ _ row _ HX.out hidx hblk).mono ?_; rintro e w1 ⟨rfl, hblk1, hg1⟩; have hown1 := hown.kept hg1 (.inr fun e => by have := (hown.lt _ e).1; omega); have hs1 : w.heap.size + 2 ≤ w1.heap.size := by have := hg1.size; have := hblk.lt; omega)
        | (at_builtin; go_must (refine append_own _ rfl _ _ 30 rfl (w.heap.size + 2) 3 i0 _ 1 8 Try.underlying30 hi hz0 hz1 hz2 rfl (by decide) _ _ _ rfl (hown1.alloc _) ⟨w1.heap.size, 0, none⟩ 1 1 [.int .i64 (row.idxOf s[k] : Int)] rfl rfl (cell_one_new _ _ _) (int_oneCell _) (by unfold maxLen; omega) (by omega) (by simp; omega) (by decide) ?_); intro g2 cap2 w2 hown2 hg2 hg2' hgrow2))
      go_roundw
      case rel => exact ⟨k + 1, by omega, by go_num, HR.out.next (by omega) HT.out (by rw [HW.out]; exact hblk1) hg1 (by rw [HW.out]; exact hown2) hgrow2⟩
      case measure => simp [intOf]; omega
    · obtain rfl : k = s.size := by omega
      have HO := Lib.hid hrel.own
      have HS := Lib.hid (show s.data.toList.take s.size = s.data.toList from List.take_of_length_le (by rw [HL.out]; exact Nat.le_refl _))
      clear hrel
      go_wp2
      go_ret2
      have ho := HO.out
      rw [HS.out] at ho
      obtain ⟨A, cap, e⟩ := own_slice ho
      rw [e] at ho
      rw [e]
      exact ⟨A, cap, rfl, own_base ho (by omega), hbel⟩

/-! ### Back -/
theorem within_any (n lo hi : Int) (w : World) : Calls Try.prog 29 #[.int .i64 n, .int .i64 lo, .int .i64 hi] w fun e w' => e = .returned (.bool (decide (lo ≤ n ∧ n ≤ hi))) ∧ w = w' := by
  by_cases h1 : lo ≤ n <;> by_cases h2 : n ≤ hi
  all_goals
    go_enter Try.func29, Try.ntmps29
    go_wp2
    go_ret
    exact ⟨by simp [h1, h2], rfl⟩
def okB (n : Int) : Bool := decide (0 ≤ n ∧ n ≤ 255)
theorem not_within (n : Int) (w : World) : Calls Try.prog 41 #[.int .i64 n] w fun e w' => e = .returned (.bool (!okB n)) ∧ w = w' := by
  go_enter Try.func41, Try.ntmps41
  go_wp2_with (go_at_call 29; refine (within_any _ _ _ _).mono ?_; rintro e w' ⟨rfl, rfl⟩)
  go_ret
  refine ⟨ret_bool ?_, rfl⟩
  simp only [okB, Bool.decide_and, Bool.not_and]
theorem index_ok (A : Option Addr) (cap : Nat) (l : List Int) (w : World) (hr : Reads w A l.length 1 (l.map (Value.int .i64))) (hm : l.length ≤ 1000) (hall : ∀ n ∈ l, okB n = true) :
    Calls Try.prog 57 #[.slice A l.length cap, .func (Fn.func 41) #[] #[]] w fun e w' => e = .returned (.int .i64 (-1)) ∧ w = w' := by
  have HA := Lib.hid hall; clear hall
  go_enter Try.func57, Try.ntmps57
  go_wp2
  go_loop [8] (fun i => ∃ k : Nat, k ≤ l.length ∧ i = .int .i64 k) (fun i => l.length - (intOf i).toNat)
  case atStart => exact ⟨0, Nat.zero_le _, rfl⟩
  case round =>
    obtain ⟨k, hk, rfl⟩ := hrel
    by_cases hlt : k < l.length
    · obtain ⟨b, o, rfl, hb, hc⟩ := hr.2 (by omega)
      obtain ⟨n, hn⟩ : ∃ n, l[k]? = some n := ⟨_, List.getElem?_eq_getElem hlt⟩
      have c0 := hc k (.int .i64 n) (by rw [List.getElem?_map, hn]; rfl)
      have hok := HA.out n (List.mem_of_getElem? hn)
      have HN := Lib.hid hn
      clear hc hn
      go_wp2_with (go_at_call 41; refine (not_within n _).mono ?_; rintro e w' ⟨rfl, rfl⟩)
      go_round
      case rel => exact ⟨k + 1, by omega, by go_num⟩
      case measure => simp [intOf]; omega
    · go_wp2
      go_ret
      exact ⟨rfl, rfl⟩
def RetNat (w : World) (e : Ending) (w' : World) : Prop := ∃ i : Nat, e = .returned (.int .i64 i) ∧ i ≤ 1000 ∧ w = w'
theorem index_bad (A : Option Addr) (cap : Nat) (l : List Int) (w : World) (hr : Reads w A l.length 1 (l.map (Value.int .i64))) (hm : l.length ≤ 1000) (hbad : ¬ ∀ n ∈ l, okB n = true) :
    Calls Try.prog 57 #[.slice A l.length cap, .func (Fn.func 41) #[] #[]] w (RetNat w) := by
  have HA := Lib.hid hbad; clear hbad
  go_enter Try.func57, Try.ntmps57
  go_wp2
  go_loop [8] (fun i => ∃ k : Nat, k ≤ l.length ∧ i = .int .i64 k ∧ Hid (∀ n ∈ l.take k, okB n = true)) (fun i => l.length - (intOf i).toNat)
  case atStart => exact ⟨0, Nat.zero_le _, rfl, Lib.hid (by simp)⟩
  case round =>
    obtain ⟨k, hk, rfl, HK⟩ := hrel
    by_cases hlt : k < l.length
    · obtain ⟨b, o, rfl, hb, hc⟩ := hr.2 (by omega)
      obtain ⟨n, hn⟩ : ∃ n, l[k]? = some n := ⟨_, List.getElem?_eq_getElem hlt⟩
      have c0 := hc k (.int .i64 n) (by rw [List.getElem?_map, hn]; rfl)
      have HN := Lib.hid hn
      clear hc hn
      cases hok : okB n
      · go_wp2_with (go_at_call 41; refine (not_within n _).mono ?_; rintro e w' ⟨rfl, rfl⟩)
        go_ret
        exact ⟨k, rfl, by omega, rfl⟩
      · go_wp2_with (go_at_call 41; refine (not_within n _).mono ?_; rintro e w' ⟨rfl, rfl⟩)
        go_round
        case rel =>
          refine ⟨k + 1, by omega, by go_num, Lib.hid ?_⟩
          intro m hm
          rw [List.take_add_one, HN.out] at hm
          simp only [Option.toList_some, List.mem_append, List.mem_singleton] at hm
          rcases hm with hm | rfl
          · exact HK.out m hm
          · exact hok
        case measure => simp [intOf]; omega
    · exact absurd (by have := HK.out; rwa [List.take_of_length_le (by omega)] at this) HA.out
theorem contains_ok (A : Option Addr) (cap : Nat) (l : List Int) (w : World) (hr : Reads w A l.length 1 (l.map (Value.int .i64))) (hm : l.length ≤ 1000) (hall : ∀ n ∈ l, okB n = true) :
    Calls Try.prog 40 #[.slice A l.length cap, .func (Fn.func 41) #[] #[]] w fun e w' => e = .returned (.bool false) ∧ w = w' := by
  have HA := Lib.hid hall; clear hall
  go_enter Try.func40, Try.ntmps40
  go_wp2_with (go_at_call 57; refine (index_ok A cap l _ hr hm HA.out).mono ?_; rintro e w' ⟨rfl, rfl⟩)
  go_ret
  exact ⟨rfl, rfl⟩
theorem contains_bad (A : Option Addr) (cap : Nat) (l : List Int) (w : World) (hr : Reads w A l.length 1 (l.map (Value.int .i64))) (hm : l.length ≤ 1000) (hbad : ¬ ∀ n ∈ l, okB n = true) :
    Calls Try.prog 40 #[.slice A l.length cap, .func (Fn.func 41) #[] #[]] w fun e w' => e = .returned (.bool true) ∧ w = w' := by
  have HA := Lib.hid hbad; clear hbad
  go_enter Try.func40, Try.ntmps40
  go_wp2_with (go_at_call 57; refine (index_bad A cap l _ hr hm HA.out).mono ?_; rintro e w' ⟨i, rfl, hi, rfl⟩)
  go_ret
  exact ⟨rfl, rfl⟩

/-- Back's answer: the text, what is wrong -/
def backP (l : List Int) : List UInt8 × Int :=
  if 1000 < l.length then ([], 4) else if ∀ n ∈ l, okB n = true then (back allB (l.map Int.toNat), 0) else ([], 1)
def errV (n : Int) : Value := if n = 0 then .nilIface else .iface 59 (.int .i64 n)

structure BRel (w wr : World) (g : Nat) (v : Value) (L : List Nat) (k : Nat) : Prop where
  blk : Blk wr g (rowB allB (L.take k))
  own : wr.ownsRow (g + 1) 5 1 v k (u8s (back allB (L.take k)))
  below : Below w.heap.size w wr
theorem BRel.next {w wr w1 w2 : World} {g : Nat} {v v' : Value} {L : List Nat} {k c : Nat} (h : BRel w wr g v L k) (hw : w.heap.size ≤ g) (ht : L.take (k + 1) = L.take k ++ [c]) (hm : Blk w1 g (mv (rowB allB (L.take k)) c)) (hg1 : wr.grownBy w1 (some g))
    {o : Obj} (hown : w2.ownsRow (g + 1) 5 1 v' (k + 1) (u8s (back allB (L.take k)) ++ [.int .u8 (((rowB allB (L.take k)).getD c 0).toNat : Int)])) (hg2 : (w1.alloc o).grownBy w2 v.ownBlock) : BRel w w2 g v' L (k + 1) := by
  have hlt := h.blk.lt
  have h1 := hg1.size
  have hb : ∀ j, v.ownBlock = some j → g + 1 ≤ j := fun j hj => (h.own.lt j hj).1
  refine ⟨?_, ?_, ?_⟩
  · rw [ht, rowB_snoc]
    exact (hm.alloc _).kept hg2 (fun e => by have := hb g e.symm; omega)
  · rw [ht, back_snoc]
    simpa [u8s] using hown
  · refine ((h.below.grown hg1 h.below.size (fun j hj => by cases hj; exact hw)).alloc (by have := h.below.size; omega) _).grown hg2 (by have := h.below.size; simp; omega) (fun j hj => by have := hb j hj; omega)
theorem byte_oneCell (n : Int) : ∀ u ∈ [Value.int .u8 n], u.oneCell' = true := by intro u hu; simp at hu; subst hu; rfl
/-- string(b) of a row of bytes of the call's own -/
theorem bytes_string {w : World} {B n : Nat} {A : Option Addr} {cap : Nat} (l : List UInt8) (hn : l.length = n) (h : w.ownsRow B 5 1 (.slice A n cap) n (u8s l)) :
    (convert 53 9 (.slice A n cap)).run Try.prog w = .ok (.string ⟨l.toArray⟩) w := by
  subst hn
  have hr := Reads.of_own h
  rcases Nat.eq_zero_or_pos l.length with h0 | h0
  · have e : l = [] := List.eq_nil_of_length_eq_zero h0
    subst e
    rw [run_convert_bytes_string w 53 9 5 A [].length cap Try.underlying53 Try.underlying5 Try.underlying9]
    rcases A with _ | a
    · simp [Conv.bytesToString]; rfl
    · have hl := run_loadCells_list (P := Try.prog) w a [] (fun j v hj => by simp at hj)
      exact run_bytesToString w a 0 cap [] hl
  · obtain ⟨b, o, rfl, hb, hc⟩ := hr.2 h0
    refine run_convert_bytes_back w 53 9 5 ⟨b, o, none⟩ cap l Try.underlying53 Try.underlying5 Try.underlying9 fun j hj => ?_
    have e : (⟨b, o, none⟩ : Addr).add j = ⟨b, o + j, none⟩ := by unfold Addr.add; split <;> simp_all
    rw [e]
    exact hc j _ (by rw [u8s_get, List.getElem?_eq_getElem hj]; rfl)

theorem back_no4 (A : Option Addr) (cap : Nat) (l : List Int) (w : World) (h : 1000 < l.length) (hm : l.length ≤ maxLen) :
    Calls Try.prog 18 #[.slice A l.length cap] w fun e w' => e = .returned (.tuple #[.string ⟨#[]⟩, .iface 59 (.int .i64 4)]) ∧ Below w.heap.size w w' := by
  unfold maxLen at hm
  have h1 : (1000 : Int) < l.length := by omega
  go_enter Try.func18, Try.ntmps18
  go_wp2
  go_ret2
  exact ⟨rfl, Below.refl _ _⟩
theorem back_no1 (A : Option Addr) (cap : Nat) (l : List Int) (w : World) (hr : Reads w A l.length 1 (l.map (Value.int .i64))) (hm : l.length ≤ 1000) (hbad : ¬ ∀ n ∈ l, okB n = true) :
    Calls Try.prog 18 #[.slice A l.length cap] w fun e w' => e = .returned (.tuple #[.string ⟨#[]⟩, .iface 59 (.int .i64 1)]) ∧ Below w.heap.size w w' := by
  have HA := Lib.hid hbad; clear hbad
  go_enter Try.func18, Try.ntmps18
  go_wp2_with (go_at_call 40; refine (contains_bad A cap l _ hr hm HA.out).mono ?_; rintro e w' ⟨rfl, rfl⟩)
  go_ret2
  exact ⟨rfl, Below.refl _ _⟩
set_option maxHeartbeats 1000000 in
set_option maxRecDepth 100000 in
theorem back_ok (A : Option Addr) (cap : Nat) (l : List Int) (w : World) (hr : Reads w A l.length 1 (l.map (Value.int .i64))) (hm : l.length ≤ 1000) (hall : ∀ n ∈ l, okB n = true) :
    Calls Try.prog 18 #[.slice A l.length cap] w fun e w' => e = .returned (.tuple #[.string ⟨(back allB (l.map Int.toNat)).toArray⟩, .nilIface]) ∧ Below w.heap.size w w' := by
  obtain ⟨i0, hi, hz0, hz1, hz2⟩ := info_parts info8
  have hlt256 : ∀ n ∈ l.map Int.toNat, n < 256 := by
    intro n hn
    obtain ⟨m, hm, rfl⟩ := List.mem_map.1 hn
    have := hall m hm
    simp [okB] at this
    omega
  have hF := fun k => Full.rowB ((l.map Int.toNat).take k) allB full_all (fun n hn => hlt256 n (List.mem_of_mem_take hn))
  have HA := Lib.hid hall; have HF := Lib.hid hF; clear hall hF hlt256
  go_enter Try.func18, Try.ntmps18
  go_wp2_with (first
    | (go_at_call 40; refine (contains_ok A cap l _ hr hm HA.out).mono ?_; rintro e w' ⟨rfl, rfl⟩)
    | (go_at_call 37; refine (fresh_any _).mono ?_; rintro e w1 ⟨rfl, hblk, hbel⟩))
  have hb := Lib.hid hbel
  have hblk' := Lib.hid hblk
  clear hbel hblk
  go_loopw [5, 18] (fun v i wr => ∃ k : Nat, k ≤ l.length ∧ i = .int .i64 k ∧ BRel w wr w.heap.size v (l.map Int.toNat) k) (fun _ i _ => l.length - (intOf i).toNat)
  case atStart => exact ⟨0, Nat.zero_le _, rfl, ⟨hblk'.out, World.ownsRow_nil _ _ _ _, hb.out⟩⟩
  case round =>
    obtain ⟨k, hk, rfl, hrel⟩ := hrel
    clear hb hblk'
    have hbel := hrel.below
    by_cases hlt : k < l.length
    · obtain ⟨b, o, rfl, hb, hc⟩ := (hr.below hbel).2 (by omega)
      obtain ⟨n, hn⟩ : ∃ n, l[k]? = some n := ⟨_, List.getElem?_eq_getElem hlt⟩
      have hok := HA.out n (List.mem_of_getElem? hn)
      obtain ⟨m, rfl⟩ : ∃ m : Nat, n = (m : Int) := ⟨n.toNat, by simp [okB] at hok; omega⟩
      have hm256 : m < 256 := by simp [okB] at hok; omega
      have c0 := hc k (.int .i64 m) (by rw [List.getElem?_map, hn]; rfl)
      have htk : (l.map Int.toNat).take (k + 1) = (l.map Int.toNat).take k ++ [m] := by
        rw [List.take_add_one, List.getElem?_map, hn]; rfl
      have HT := Lib.hid htk; have HR := Lib.hid hrel
      have h256 := (HF.out k).1
      obtain ⟨hblk, hown, _⟩ := hrel
      have HX := Lib.hid h256
      clear htk h256 hc hn hok
      generalize hrow : rowB allB ((l.map Int.toNat).take k) = row at *
      have HW := Lib.hid hrow; clear hrow
      go_wp2_with (first
        | (go_at_call 39; refine (move_any _ _ row m HX.out hm256 hblk).mono ?_; rintro e w1 ⟨rfl, hblk1, hg1⟩; have hown1 := hown.kept hg1 (.inr fun e => by have := (hown.lt _ e).1; omega); have hs1 : w.heap.size + 1 ≤ w1.heap.size := by have := hg1.size; have := hblk.lt; omega)
        | (at_builtin; go_must (refine append_own _ rfl _ _ 53 rfl (w.heap.size + 1) 5 i0 _ 1 1 Try.underlying53 hi hz0 hz1 hz2 rfl (by decide) _ _ _ rfl (hown1.alloc _) ⟨w1.heap.size, 0, none⟩ 1 1 [.int .u8 ((row.getD m 0).toNat : Int)] rfl rfl (cell_one_new _ _ _) (byte_oneCell _) (by unfold maxLen; omega) (by omega) (by simp; omega) (by decide) ?_); intro g2 cap2 w2 hown2 hg2 hg2' hgrow2))
      go_roundw
      case rel => exact ⟨k + 1, by omega, by go_num, HR.out.next (by omega) HT.out (by rw [HW.out]; exact hblk1) hg1 (by rw [HW.out]; exact hown2) hgrow2⟩
      case measure => simp [intOf]; omega
    · have hge : l.length ≤ k := by omega
      obtain ⟨A', cap', e⟩ := own_slice hrel.own
      subst e
      have hcv := bytes_string _ (by rw [back_length, List.length_take, List.length_map]; omega) hrel.own
      have HS := Lib.hid (show (l.map Int.toNat).take k = l.map Int.toNat from List.take_of_length_le (by simpa using hge))
      clear hrel
      rw [HS.out] at hcv
      go_wp2
      go_ret2
      exact ⟨rfl, hbel⟩
theorem back_any (A : Option Addr) (cap : Nat) (l : List Int) (w : World) (hr : Reads w A l.length 1 (l.map (Value.int .i64))) (hm : l.length ≤ maxLen) :
    Calls Try.prog 18 #[.slice A l.length cap] w fun e w' => e = .returned (.tuple #[.string ⟨(backP l).1.toArray⟩, errV (backP l).2]) ∧ Below w.heap.size w w' := by
  unfold backP
  by_cases h : 1000 < l.length
  · rw [if_pos h]; exact back_no4 A cap l w h hm
  · rw [if_neg h]
    by_cases h2 : ∀ n ∈ l, okB n = true
    · rw [if_pos h2]; exact back_ok A cap l w hr (by omega) h2
    · rw [if_neg h2]; exact back_no1 A cap l w hr (by omega) h2
end Go.Proofs.Ytfjjjkfldekooaa.Ft
