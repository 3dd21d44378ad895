/-
  The walks of strings.Builder's methods over a builder of the call's own: WriteByte, String (and WriteString, Len where the program has them).
-/
import Derived.Test.YtfjjjkfldekooaaBase
import Derived.Lib.Builder
import Derived.Lib.UnsafeStr
import Derived.Laws.Externs
import Derived.RegionTactic
import Derived.BigRegion
namespace Go.Proofs.Ytfjjjkfldekooaa.Sb
open Go.RowKit
set_option linter.unusedVariables false
set_option maxRecDepth 100000

def u8s (l : List UInt8) : List Value := l.map fun c => .int .u8 (c.toNat : Int)
theorem u8s_length (l : List UInt8) : (u8s l).length = l.length := by simp [u8s]
theorem info8 : (Try.prog.info? 5).map (fun i => (i.zero, i.size, i.bytes)) = some (some (.int .u8 0), 1, 1) := by kernel_rfl
theorem cells8 : Try.prog.cellsOf 5 = 1 := by kernel_rfl
theorem sizeB : (Try.prog.info? 55).map (·.size) = some 2 := by kernel_rfl
theorem liesB : liesAt Try.prog Try.prog.depth 55 (2 / Try.prog.cellsOf 55) 0 55 1 = true := by kernel_rfl

/-- block b is a builder that holds the bytes l; its buffer lies from block B on -/
def Is (w : World) (B b : Nat) (l : List UInt8) : Prop :=
  ∃ p v, (p = .pointer none ∨ p = .pointer (some ⟨b, 0, none⟩)) ∧ w.heap[b]? = some (.cells #[p, v] 55 (0, 0)) ∧ w.ownsRow B 5 1 v l.length (u8s l) ∧ (l = [] → v = .slice none 0 0)
/-- nothing below block B has changed but block b -/
structure But (B b : Nat) (w w' : World) : Prop where
  os : w'.os = w.os
  tape : w'.tape = w.tape
  output : w'.output = w.output
  size : w.heap.size ≤ w'.heap.size
  block : ∀ j, j < B → j ≠ b → w'.heap[j]? = w.heap[j]?
theorem But.below {B C b : Nat} {w w' : World} (h : But B b w w') (h1 : C ≤ B) (h2 : C ≤ b) : Below C w w' := ⟨h.os, h.tape, h.output, h.size, fun j hj => h.block j (by omega) (by omega)⟩
theorem But.cell {B b : Nat} {w w' : World} (h : But B b w w') {p : Addr} (h1 : p.block < B) (h2 : p.block ≠ b) : w'.cell? p = w.cell? p := World.cell?_of_block (w := w) (h.block p.block h1 h2)
theorem But.frozen {B b : Nat} {w w' : World} (h : But B b w w') {p : Addr} (h1 : p.block < B) (h2 : p.block ≠ b) : w'.frozen? p = w.frozen? p := World.frozen?_of_block (w := w) (h.block p.block h1 h2)

theorem Is.new (w : World) (B : Nat) : Is (w.alloc (.cells #[.pointer none, .slice none 0 0] 55)) B w.heap.size [] :=
  ⟨_, _, .inl rfl, heap_alloc_new w _, World.ownsRow_nil _ _ _ _, fun _ => rfl⟩
section
variable {w w' : World} {B b : Nat} {l : List UInt8}
theorem Is.lt (h : Is w B b l) : b < w.heap.size := by
  obtain ⟨p, v, _, hh, _⟩ := h
  rcases Nat.lt_or_ge b w.heap.size with hlt | hge
  · exact hlt
  · rw [Array.getElem?_eq_none hge] at hh; cases hh
/-- the builder and its buffer stay over writes to other blocks -/
theorem Is.kept {row : Option Nat} (h : Is w B b l) (hg : w.grownBy w' row) (h1 : some b ≠ row) (h2 : ∀ j, row = some j → j < B) : Is w' B b l := by
  have hlt := h.lt
  obtain ⟨p, v, hp, hh, hown, hn⟩ := h
  refine ⟨p, v, hp, (hg.block b hlt h1).trans hh, hown.kept hg ?_, hn⟩
  cases hv : v.ownBlock with
  | none => exact .inl rfl
  | some k => exact .inr fun e => by have := (hown.lt k hv).1; have := h2 k e.symm; omega
theorem Is.alloc (h : Is w B b l) (o : Obj) : Is (w.alloc o) B b l := h.kept (World.grownBy_alloc w o none) (by simp) (fun j hj => by cases hj)
theorem Is.drew (h : Is w B b l) : Is w.drew B b l := h
theorem Is.drewN (h : Is w B b l) (n : Nat) : Is (w.drewN n) B b l := h
theorem Is.below {C : Nat} (h : Is w B b l) (hb : Below C w w') (hC : w.heap.size ≤ C) : Is w' B b l :=
  h.kept (row := none) ⟨hb.os, hb.tape, hb.output, hb.size, fun k hk _ => hb.block k (by omega)⟩ (by simp) (fun j hj => by cases hj)
theorem Is.setCell (h : Is w B b l) {a : Addr} (h1 : b ≠ a.block) (h2 : a.block < B) (u : Value) : Is (w.setCell a u) B b l :=
  h.kept (row := some a.block) ⟨rfl, rfl, rfl, by simp [World.setCell], fun k _ hk => Below.heap_setCell w a u k (fun e => hk (by rw [e]))⟩ (fun e => h1 (Option.some.inj e)) (fun j hj => by injection hj with hj; omega)
end

theorem check_used (w : World) (b : Nat) (h0 : w.cell? ⟨b, 0, none⟩ = some (.pointer (some ⟨b, 0, none⟩))) :
    Calls Try.prog 50 #[.pointer (some ⟨b, 0, none⟩)] w fun e w' => e = .returned (.tuple #[]) ∧ w = w' := by
  obtain ⟨j, hj, _⟩ := Option.map_eq_some_iff.1 sizeB
  have hne := Lib.run_neq_ptr_same (P := Try.prog) w ⟨b, 0, none⟩ Try.underlying52 hj
  go_enter Try.func50, Try.ntmps50
  go_wp2
  go_end0
  exact ⟨rfl, rfl⟩
theorem check_fresh (w : World) (b : Nat) (v : Value) (hb : w.heap[b]? = some (.cells #[.pointer none, v] 55 (0, 0))) :
    Calls Try.prog 50 #[.pointer (some ⟨b, 0, none⟩)] w fun e w' => e = .returned (.tuple #[]) ∧ w.setCell ⟨b, 0, none⟩ (.pointer (some ⟨b, 0, none⟩)) = w' := by
  obtain ⟨j, hj, hjs⟩ := Option.map_eq_some_iff.1 sizeB
  have hsh : w.shape? b = some (55, 2) := by simp [World.shape?, hb]
  have h0 : w.cell? ⟨b, 0, none⟩ = some (.pointer none) := by simp [World.cell?, hb]
  have hf : w.frozen? ⟨b, 0, none⟩ = false := by simp [World.frozen?, hb]
  have hu := Lib.run_to_unsafe (P := Try.prog) w ⟨b, 0, none⟩ Try.underlying52 Try.underlying97 hj (by rw [hjs]; decide) hsh (Nat.zero_lt_succ 1)
  have hfu := Lib.run_from_unsafe (P := Try.prog) w ⟨b, 0, none⟩ Try.underlying97 Try.underlying52 hj hsh liesB
  go_enter Try.func50, Try.ntmps50
  go_wp2
  rw [run_callFunc_extern Try.func71 (by kernel_rfl) (by kernel_rfl) (by kernel_rfl) (e := Extern.AbiNoEscape.same) (by kernel_rfl), Lib.run_noEscape]
  simp only [Result.andThen]
  rw [Oper.upon_value]
  go_wp2
  go_end0
  exact ⟨rfl, rfl⟩
/-- copyCheck: behind it the builder holds its own address -/
theorem check_any (w : World) (B b : Nat) (l : List UInt8) (h : Is w B b l) (hbB : b < B) :
    Calls Try.prog 50 #[.pointer (some ⟨b, 0, none⟩)] w fun e w' => e = .returned (.tuple #[]) ∧
      (∃ v, w'.heap[b]? = some (.cells #[.pointer (some ⟨b, 0, none⟩), v] 55 (0, 0)) ∧ w'.ownsRow B 5 1 v l.length (u8s l)) ∧ w.grownBy w' (some b) := by
  have hlt := h.lt
  obtain ⟨p, v, hp, hh, hown, hn⟩ := h
  rcases hp with rfl | rfl
  · refine (check_fresh w b v hh).mono ?_
    rintro e w' ⟨rfl, rfl⟩
    have hg : w.grownBy (w.setCell ⟨b, 0, none⟩ (.pointer (some ⟨b, 0, none⟩))) (some b) :=
      ⟨rfl, rfl, rfl, by simp [World.setCell], fun k _ hk => Below.heap_setCell w _ _ k (fun e => hk (by rw [e]))⟩
    refine ⟨rfl, ⟨v, ?_, hown.kept hg ?_⟩, hg⟩
    · simp [World.setCell, Array.getElem?_modify, hh]
    · cases hv : v.ownBlock with
      | none => exact .inl rfl
      | some k => exact .inr fun e => by have := (hown.lt k hv).1; injection e; omega
  · refine (check_used w b (by simp [World.cell?, hh])).mono ?_
    rintro e w' ⟨rfl, rfl⟩
    exact ⟨rfl, ⟨v, hh, hown⟩, World.grownBy.refl _ _⟩
theorem byte_one (n : Int) : ∀ u ∈ [Value.int .u8 n], u.oneCell' = true := by intro u hu; simp at hu; subst hu; rfl
theorem kept_block {w1 w2 : World} {B j n size : Nat} {e : TypeId} {v : Value} {xs : List Value} {o : Obj} (hown : w1.ownsRow B e size v n xs) (hg : (w1.alloc o).grownBy w2 v.ownBlock) (hb : j < B) (hlt : j < w1.heap.size) : w2.heap[j]? = w1.heap[j]? := by
  have h1 : j < (w1.alloc o).heap.size := by simp; omega
  have h2 : some j ≠ v.ownBlock := fun e => by
    have := (hown.lt j e.symm).1
    omega
  exact (hg.block j h1 h2).trans (Below.heap_alloc w1 o j hlt)
theorem after_append {w1 w2 : World} {B b n size : Nat} {e t : TypeId} {v : Value} {xs : List Value} {o : Obj} {p q : Value} (hown : w1.ownsRow B e size v n xs) (hg : (w1.alloc o).grownBy w2 v.ownBlock) (hb : b < B) (hlt : b < w1.heap.size)
    (hh : w1.heap[b]? = some (.cells #[p, q] t (0, 0))) : w2.heap[b]? = some (.cells #[p, q] t (0, 0)) ∧ w2.cell? ⟨b, 1, none⟩ = some q ∧ w2.frozen? ⟨b, 1, none⟩ = false := by
  have h := (kept_block hown hg hb hlt).trans hh
  exact ⟨h, by simp [World.cell?, h], by simp [World.frozen?, h]⟩
set_option maxHeartbeats 1000000 in
theorem write_byte (w : World) (B b : Nat) (l : List UInt8) (c : UInt8) (n : Int) (hn : n = (c.toNat : Int)) (h : Is w B b l) (hbB : b < B) (hB : B ≤ w.heap.size) (hl : l.length ≤ 1000000) :
    Calls Try.prog 26 #[.pointer (some ⟨b, 0, none⟩), .int .u8 n] w fun e w' => e = .returned .nilIface ∧ Is w' B b (l ++ [c]) ∧ But B b w w' := by
  subst hn
  obtain ⟨i0, hi, hz0, hz1, hz2⟩ := info_parts info8
  have hbl := h.lt
  go_enter Try.func26, Try.ntmps26
  go_wp2_with fail
  refine (check_any w B b l h hbB).mono ?_
  rintro e w1 ⟨rfl, ⟨v, hh, hown⟩, hg⟩
  have hs1 := hg.size
  have HG := Lib.hid hg; clear hg
  have c1 : w1.cell? ⟨b, 1, none⟩ = some v := by simp [World.cell?, hh]
  go_wp2_with (at_builtin; go_must (refine append_own _ rfl _ _ 53 rfl B 5 i0 _ 1 1 Try.underlying53 hi hz0 hz1 hz2 rfl (by decide) _ _ _ rfl (hown.alloc _) ⟨w1.heap.size, 0, none⟩ 1 1 [.int .u8 (c.toNat : Int)] rfl rfl (cell_one_new _ _ _) (byte_one _) (by unfold maxLen; omega) (by omega) (by simp; omega) (by decide) ?_); intro g cap w2 hown2 hg1 hg2 hgrow; obtain ⟨hb2, d1, f1⟩ := after_append hown hgrow hbB (by omega) hh)
  go_ret
  have hset : w2.grownBy (w2.setCell ⟨b, 1, none⟩ (.slice (some ⟨g, 0, none⟩) (l.length + 1) cap)) (some b) :=
    ⟨rfl, rfl, rfl, by simp [World.setCell], fun k _ hk => Below.heap_setCell w2 _ _ k (fun e => hk (by rw [e]))⟩
  refine ⟨rfl, ⟨.pointer (some ⟨b, 0, none⟩), .slice (some ⟨g, 0, none⟩) (l.length + 1) cap, .inr rfl, ?_, ?_, fun e => by simp at e⟩, ?_⟩
  · exact (show (w2.setCell ⟨b, 1, none⟩ (.slice (some ⟨g, 0, none⟩) (l.length + 1) cap)).heap[b]? = _ by simp [World.setCell, Array.getElem?_modify, hb2])
  · have := hown2.kept hset (.inr fun e => by simp [Value.ownBlock] at e; omega)
    simpa [u8s] using this
  · have e1 := HG.out
    refine ⟨hgrow.os.trans e1.os, hgrow.tape.trans e1.tape, hgrow.output.trans e1.output, by have := hgrow.size; simp [World.setCell] at this ⊢; omega, fun j hj hne => ?_⟩
    have h1 : j < w2.heap.size := by have := hgrow.size; simp at this; omega
    rw [hset.block j h1 (fun e => hne (Option.some.inj e)), kept_block hown hgrow hj (by omega), e1.block j (by omega) (fun e => hne (Option.some.inj e))]

theorem str_drew (w : World) : w.drew.heap = w.heap := rfl
set_option maxHeartbeats 1000000 in
theorem string_any (w : World) (B b : Nat) (l : List UInt8) (h : Is w B b l) (hbB : b < B) (hB : B ≤ w.heap.size) :
    Calls Try.prog 27 #[.pointer (some ⟨b, 0, none⟩)] w fun e w' => e = .returned (.string ⟨l.toArray⟩) ∧ But B b w w' := by
  obtain ⟨p, v, hp, hh, hown, hn⟩ := h
  by_cases h0 : l = []
  · subst h0
    have hv := hn rfl
    subst hv
    have hUS := fun w => Lib.run_unsafeString_none (P := Try.prog) w 77 3 9 none
    have hSD := fun w => Lib.run_unsafeSliceData_nil (P := Try.prog) w #[53] 77 0 0
    have c1 : w.cell? ⟨b, 1, none⟩ = some (.slice none 0 0) := by simp [World.cell?, hh]
    clear hown hn hp
    go_enter Try.func27, Try.ntmps27
    go_wp2
    go_region
    all_goals (go_wp2; go_ret; exact ⟨rfl, ⟨rfl, rfl, rfl, Nat.le_refl _, fun _ _ _ => rfl⟩⟩)
  · have hl0 : 0 < l.length := by cases l with | nil => exact absurd rfl h0 | cons => simp
    obtain ⟨g, cap, cur, rfl, hbg, hg, hnc, hcm, hcs, htake⟩ : ∃ g cap cur, v = .slice (some ⟨g, 0, none⟩) l.length cap ∧ B ≤ g ∧ w.heap[g]? = some (.cells cur 5 (0, 0)) ∧ l.length ≤ cap ∧ cap ≤ maxLen ∧ cur.size = cap * 1 ∧ cur.toList.take (l.length * 1) = u8s l := by
      rcases hown.2 with ⟨_, hz⟩ | ⟨g, cap, cur, hv, r⟩
      · omega
      · exact ⟨g, cap, cur, hv, r⟩
    have hSD := fun w => Lib.run_unsafeSliceData_row (P := Try.prog) w #[53] 77 ⟨g, 0, none⟩ l.length cap (by omega)
    have hUS : ∀ w2 : World, w2.heap = w.heap → (Builtin.unsafeString_ #[77, 3] 9 #[.pointer (some ⟨g, 0, none⟩), .int .i64 l.length]).run Try.prog w2 = .ok (.string ⟨l.toArray⟩) (w2.freeze ⟨g, 0, none⟩ l.length) := by
      intro w2 hw2
      refine Lib.run_unsafeString_row w2 77 3 9 5 Try.underlying77 cells8 g cur.size (by simp [World.shape?, hw2, hg]) l h0 (by omega) (by unfold maxLen at hcm; omega) ?_
      intro j x hx
      have := hown.cells (g := g) rfl j (.int .u8 x.toNat) (by simp [u8s, hx])
      rw [← this]
      exact World.cell?_of_block (by rw [hw2])
    have hUS1 := hUS w.drew rfl
    have hUS2 := hUS w rfl
    have c1 : w.cell? ⟨b, 1, none⟩ = some (.slice (some ⟨g, 0, none⟩) l.length cap) := by simp [World.cell?, hh]
    clear hown hn hp hUS htake hcs
    go_enter Try.func27, Try.ntmps27
    go_wp2
    go_region
    all_goals
      go_wp2
      go_ret
      have hfz := Lib.below_freeze (Below.refl B w.drew) (p := ⟨g, 0, none⟩) hbg l.length
      exact ⟨rfl, ⟨hfz.os, hfz.tape, hfz.output, hfz.size, fun j hj _ => hfz.block j hj⟩⟩
end Go.Proofs.Ytfjjjkfldekooaa.Sb
