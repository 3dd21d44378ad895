/-
  A set of texts in a map that the call itself made. No condition beyond those in each theorem.
-/
import Derived.Test.YtnaoonegeboflaaBs
import Derived.Maps.Own
import Derived.Maps.OwnOps
import Derived.Maps.Views
namespace Go.Proofs.Ytnaoonegeboflaa
open Go.RowKit Go.Maps Go.WideMaps
set_option linter.unusedVariables false
set_option linter.unusedSimpArgs false

theorem strKey : Keyed Try.prog 9 := string_keyed Try.underlying9
theorem zeroBool (w : World) : (zeroValue 4).run Try.prog w = .ok (.bool false) w := by kernel_rfl
theorem plainBool_inv {H : Type} {P : Program} {e : TypeId} (he : P.underlying e = some .bool) {v : Value} {z : DataW H × List MemPlace} (h : plainElem P e v = some z) : ∃ b, v = .bool b ∧ z = (.lit (.bool b), []) := by
  unfold plainElem at h
  rw [he] at h
  cases v <;> simp at h
  rename_i b
  exact ⟨b, rfl, h.symm⟩
/-- block M is a map of at most n entries in which just the texts of Z stand, each as true -/
def Seen (w : World) (M n : Nat) (Z : List (List UInt8)) : Prop :=
  ∃ D : DataW Unit, IsMap D ∧ w.ownsMap Try.prog 9 (plainElem Try.prog 4) M n D ∧ ∀ s : List UInt8, D.atKey (.string s) (.lit (.bool false)) = .lit (.bool (decide (s ∈ Z)))
section
variable {w w' : World} {M n : Nat} {Z : List (List UInt8)}
theorem Seen.new (w : World) : Seen (w.alloc (.map #[] 0)) w.heap.size 0 [] :=
  ⟨.map [], ⟨[], rfl⟩, World.ownsMap_made _ _ _ _, fun s => by simp [DataW.atKey]⟩
theorem Seen.lt (h : Seen w M n Z) : M < w.heap.size := by obtain ⟨D, _, ho, _⟩ := h; exact ho.lt
theorem Seen.kept {row : Option Nat} (h : Seen w M n Z) (hg : w.grownBy w' row) (hne : some M ≠ row) : Seen w' M n Z := by
  obtain ⟨D, hm, ⟨es, clock, hb, F⟩, ha⟩ := h
  have hlt : M < w.heap.size := (Array.getElem?_eq_some_iff.1 hb).1
  exact ⟨D, hm, ⟨es, clock, (hg.block M hlt hne).trans hb, F⟩, ha⟩
theorem Seen.lookup (h : Seen w M n Z) (s : ByteArray) (hs : s.size ≤ maxLen) : (Instr.lookup 44 (.map (some M)) (.string s) false).run Try.prog w = .ok (.bool (decide (bs s ∈ Z))) w := by
  obtain ⟨D, _, ho, ha⟩ := h
  obtain ⟨v, ps, hrun, hv⟩ := ho.lookup strKey Try.underlying44 (zeroBool _) (plainElem_bool Try.underlying4 false) (keyOf_string_mk Try.underlying9 hs)
  obtain ⟨b, rfl, hz⟩ := plainBool_inv Try.underlying4 hv
  rw [hrun]
  have h1 := ha (bs s)
  have h2 := congrArg Prod.fst hz
  simp only at h2
  rw [show s.data.toList = bs s from rfl, h1] at h2
  simp only [DataW.lit.injEq, Lit.bool.injEq] at h2
  rw [← h2]
theorem Seen.put {H : Type} (h : Seen w M n Z) (s : ByteArray) (hs : s.size ≤ maxLen) (hn : n < maxLen) {ops : Array Oper} {rest : List Oper} {o : Oper} {a : Act} {Q : Exit → Act → World → Prop}
    (hg : o.guard = none) (m x v : Operand) (hop : o.op = Op.mapUpdate 44 m x v) (hm : a.eval m = .map (some M)) (hx : a.eval x = .string s) (hv : a.eval v = .bool true)
    (hK : ∀ w', Seen w' M (n + 1) (bs s :: Z) → w.grownBy w' (some M) → wpList Try.prog ops Q rest (a.put o.dst undef) w') : wpList Try.prog ops Q (o :: rest) a w := by
  obtain ⟨D, hM, ho, ha⟩ := h
  refine wpList_mapUpdate_own w hg m x v 44 hop 9 4 strKey Try.underlying44 _ M n D hm ho hn (.string s) (.bool true) (.string (bs s)) hx hv (keyOf_string_mk Try.underlying9 hs) (.lit (.bool true)) [] (plainElem_bool Try.underlying4 true) ?_
  intro w1 hown1 hg1
  refine hK w1 ⟨_, hM.put _ _, hown1, fun t => ?_⟩ hg1
  by_cases ht : t = bs s
  · subst ht
    rw [atKey_put_same hM (by trivial)]
    simp
  · rw [atKey_put_other (by simpa using ht), ha]
    simp [ht]
end
end Go.Proofs.Ytnaoonegeboflaa
