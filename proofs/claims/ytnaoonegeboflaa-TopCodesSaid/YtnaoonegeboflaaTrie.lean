/-
  A tree of words as it lies in memory: nodes with maps to their children. No condition beyond those in each theorem.
-/
import Derived.Test.YtnaoonegeboflaaBs
import Derived.Maps.Own
import Derived.Maps.OwnOps
import Derived.Maps.Views
import Derived.Lib.ConvBytes
namespace Go.Proofs.Ytnaoonegeboflaa
open Go.RowKit Go.Maps Go.WideMaps
set_option linter.unusedVariables false
set_option linter.unusedSimpArgs false

theorem byteKey : Keyed Try.prog 5 := int_keyed Try.underlying5
theorem zeroPtr (w : World) : (zeroValue 73).run Try.prog w = .ok (.pointer none) w := by kernel_rfl
def pv : Option Nat → Value
  | some b => .pointer (some ⟨b, 0, none⟩)
  | none => .pointer none
def pd : Option Nat → DataW Unit
  | some b => .lit (.int .i64 (b : Int))
  | none => .lit (.int .i64 (-1))
theorem pd_inj : ∀ {a b : Option Nat}, pd a = pd b → a = b
  | none, none, _ => rfl
  | none, some b, h => by
    simp only [pd, DataW.lit.injEq, Lit.int.injEq, true_and] at h
    omega
  | some a, none, h => by
    simp only [pd, DataW.lit.injEq, Lit.int.injEq, true_and] at h
    omega
  | some a, some b, h => by
    simp only [pd, DataW.lit.injEq, Lit.int.injEq, true_and] at h
    rw [show a = b by omega]
/-- how a pointer reads: the block it points to -/
def ptrR : Value → Option (DataW Unit × List MemPlace)
  | .pointer (some ⟨b, 0, none⟩) => some (pd (some b), [])
  | .pointer none => some (pd none, [])
  | _ => none
theorem ptrR_pv (o : Option Nat) : ptrR (pv o) = some (pd o, []) := by cases o <;> rfl
theorem ptrR_shape {v : Value} {y : DataW Unit × List MemPlace} (h : ptrR v = some y) : ∃ o, v = pv o ∧ y = (pd o, []) := by
  unfold ptrR at h
  split at h
  · cases h; exact ⟨some _, rfl, rfl⟩
  · cases h; exact ⟨none, rfl, rfl⟩
  · cases h
def kb (c : UInt8) : Lit := .int .u8 (c.toNat : Int)
theorem kb_inj {c d : UInt8} (h : kb c = kb d) : c = d := by
  unfold kb at h
  injection h with _ h
  exact UInt8.toNat_inj.1 (by omega)
theorem kb_key (c : UInt8) : keyOf Try.prog 5 (.int .u8 (c.toNat : Int)) = some (kb c) := by
  have hw : (Lit.int .u8 (c.toNat : Int)).wf = true := by
    have := c.toNat_lt
    simp [Lit.wf, IntKind.min, IntKind.max, IntKind.signed, IntKind.bits]
    omega
  exact keyOf_int_mk Try.underlying5 hw
/-- block M is a map of at most n entries: to each byte its child -/
def Kids (w : World) (M n : Nat) (f : UInt8 → Option Nat) : Prop :=
  ∃ D : DataW Unit, IsMap D ∧ w.ownsMap Try.prog 5 ptrR M n D ∧ (∀ c, D.atKey (kb c) (pd none) = pd (f c)) ∧ ∀ c, has D (kb c) = (f c).isSome
section
variable {w w' : World} {M n : Nat} {f : UInt8 → Option Nat}
theorem Kids.new (w : World) : Kids (w.alloc (.map #[] 0)) w.heap.size 0 (fun _ => none) :=
  ⟨.map [], ⟨[], rfl⟩, World.ownsMap_made _ _ _ _, fun c => by simp [DataW.atKey], fun c => rfl⟩
theorem Kids.kept {row : Option Nat} (h : Kids w M n f) (hg : w.grownBy w' row) (hne : some M ≠ row) : Kids w' M n f := by
  obtain ⟨D, hm, ho, ha⟩ := h
  exact ⟨D, hm, ho.kept hg hne, ha⟩
theorem Kids.mono (h : Kids w M n f) {m : Nat} (hm : n ≤ m) : Kids w M m f := by
  obtain ⟨D, h1, ho, ha⟩ := h
  exact ⟨D, h1, ho.mono hm, ha⟩
theorem Kids.lt (h : Kids w M n f) : M < w.heap.size := by obtain ⟨D, _, ho, _⟩ := h; exact ho.lt
theorem Kids.map (h : Kids w M n f) : ∃ es clock, w.heap[M]? = some (.map es clock) := by obtain ⟨D, _, ⟨es, clock, hb, _⟩, _⟩ := h; exact ⟨es, clock, hb⟩
theorem Kids.lookup (h : Kids w M n f) (c : UInt8) : (Instr.lookup 75 (.map (some M)) (.int .u8 (c.toNat : Int)) false).run Try.prog w = .ok (pv (f c)) w := by
  obtain ⟨D, _, ho, ha, _⟩ := h
  obtain ⟨v, ps, hrun, hv⟩ := ho.lookup byteKey Try.underlying75 (zeroPtr _) (show ptrR (.pointer none) = some (pd none, []) from rfl) (kb_key c)
  obtain ⟨o, rfl, hz⟩ := ptrR_shape hv
  rw [hrun]
  have h1 := congrArg Prod.fst hz
  simp only at h1
  rw [ha c] at h1
  rw [pd_inj h1]
theorem Kids.put (h : Kids w M n f) (c : UInt8) (b : Nat) (hn : n < maxLen) :
    ∃ w', (Instr.mapUpdate 75 (.map (some M)) (.int .u8 (c.toNat : Int)) (.pointer (some ⟨b, 0, none⟩))).run Try.prog w = .ok () w' ∧ Kids w' M (n + 1) (fun d => if d = c then some b else f d) ∧ w.grownBy w' (some M) := by
  obtain ⟨D, hM, ho, ha, hh⟩ := h
  obtain ⟨w', hrun, ho', hg⟩ := ho.update byteKey Try.underlying75 hn (kb_key c) (show ptrR (.pointer (some ⟨b, 0, none⟩)) = some (pd (some b), []) from rfl)
  refine ⟨w', hrun, ⟨_, hM.put _ _, ho', fun d => ?_, fun d => ?_⟩, hg⟩
  · by_cases hd : d = c
    · subst hd
      rw [atKey_put_same hM (by trivial)]
      simp
    · rw [atKey_put_other (fun e => hd (kb_inj e)), ha]
      simp [hd]
  · by_cases hd : d = c
    · subst hd
      rw [has_put_same hM (by trivial)]
      simp
    · rw [has_put_other (fun e => hd (kb_inj e)), hh]
      simp [hd]
end

/-- the tree: to each text the block of its node, and its word -/
structure Tr (w : World) (base N : Nat) (at_ : List UInt8 → Option Nat) (wd : List UInt8 → Int) : Prop where
  node : ∀ u b, at_ u = some b → w.heap[b]? = some (.cells #[.map (some (b - 1)), .int .i64 (wd u)] 77 (0, 0))
  kids : ∀ u b, at_ u = some b → Kids w (b - 1) N (fun c => at_ (u ++ [c]))
  lo : ∀ u b, at_ u = some b → base + 1 ≤ b
  inj : ∀ u v b, at_ u = some b → at_ v = some b → u = v
  shut : ∀ u c, at_ u = none → at_ (u ++ [c]) = none
section
variable {w w' : World} {base N : Nat} {at_ : List UInt8 → Option Nat} {wd : List UInt8 → Int}
theorem Tr.lt (h : Tr w base N at_ wd) {u : List UInt8} {b : Nat} (hb : at_ u = some b) : b < w.heap.size := (Array.getElem?_eq_some_iff.1 (h.node u b hb)).1
theorem Tr.onto (h : Tr w base N at_ wd) (hg : w.grownBy w' none) : Tr w' base N at_ wd :=
  { h with
    node := fun u b hb => (hg.block b (h.lt hb) (by simp)).trans (h.node u b hb)
    kids := fun u b hb => (h.kids u b hb).kept hg (by simp) }
theorem Tr.cellM (h : Tr w base N at_ wd) {u : List UInt8} {b : Nat} (hb : at_ u = some b) : w.cell? ⟨b, 0, none⟩ = some (.map (some (b - 1))) := by
  rw [cell_of_row w b 0 _ _ (0, 0) (h.node u b hb)]; rfl
theorem Tr.cellW (h : Tr w base N at_ wd) {u : List UInt8} {b : Nat} (hb : at_ u = some b) : w.cell? ⟨b, 1, none⟩ = some (.int .i64 (wd u)) := by
  rw [cell_of_row w b 1 _ _ (0, 0) (h.node u b hb)]; rfl
theorem Tr.frozen (h : Tr w base N at_ wd) {u : List UInt8} {b : Nat} (hb : at_ u = some b) (i : Nat) : w.frozen? ⟨b, i, none⟩ = false := by
  have := h.node u b hb
  simp [World.frozen?, this]
/-- no node's block is a map's -/
theorem Tr.apart (h : Tr w base N at_ wd) {u v : List UInt8} {b c : Nat} (hb : at_ u = some b) (hc : at_ v = some c) : b ≠ c - 1 := by
  intro e
  obtain ⟨es, clock, hm⟩ := (h.kids v c hc).map
  have := h.node u b hb
  rw [e, hm] at this
  cases this
def upd {α : Type} (f : List UInt8 → α) (u : List UInt8) (x : α) (v : List UInt8) : α := if v = u then x else f v
theorem upd_same {α : Type} (f : List UInt8 → α) (u : List UInt8) (x : α) : upd f u x u = x := if_pos rfl
theorem upd_other {α : Type} (f : List UInt8 → α) {u v : List UInt8} (x : α) (h : v ≠ u) : upd f u x v = f v := if_neg h
theorem snoc_ne (u : List UInt8) (c : UInt8) : u ++ [c] ≠ u := fun e => by
  have := congrArg List.length e
  simp at this
/-- the tree of one node -/
theorem Tr.root (w : World) : Tr ((w.alloc (.map #[] 0)).alloc (.cells #[.map (some w.heap.size), .int .i64 (-1)] 77)) w.heap.size 0 (fun u => if u = [] then some (w.heap.size + 1) else none) (fun _ => -1) := by
  have hx : ∀ {u : List UInt8} {b : Nat}, (if u = [] then some (w.heap.size + 1) else none) = some b → u = [] ∧ b = w.heap.size + 1 := by
    intro u b h
    by_cases hu : u = []
    · rw [if_pos hu] at h; cases h; exact ⟨hu, rfl⟩
    · rw [if_neg hu] at h; cases h
  constructor
  · intro u b hb
    obtain ⟨rfl, rfl⟩ := hx hb
    have := heap_alloc_new (w.alloc (.map #[] 0)) (.cells #[.map (some w.heap.size), .int .i64 (-1)] 77)
    simpa using this
  · intro u b hb
    obtain ⟨rfl, rfl⟩ := hx hb
    have h1 := (Kids.new w).kept (World.grownBy_alloc _ (.cells #[.map (some w.heap.size), .int .i64 (-1)] 77) none) (by simp)
    simpa using h1
  · intro u b hb
    obtain ⟨rfl, rfl⟩ := hx hb
    omega
  · intro u v b hu hv
    rw [(hx hu).1, (hx hv).1]
  · intro u c hu
    simp
/-- a new child -/
theorem Tr.child (h : Tr w base N at_ wd) (hbase : base ≤ w.heap.size) {u : List UInt8} {b : Nat} (hb : at_ u = some b) {c : UInt8} (hc : at_ (u ++ [c]) = none) (hN : N < maxLen) :
    ∃ w', (Instr.mapUpdate 75 (.map (some (b - 1))) (.int .u8 (c.toNat : Int)) (.pointer (some ⟨w.heap.size + 1, 0, none⟩))).run Try.prog ((w.alloc (.map #[] 0)).alloc (.cells #[.map (some w.heap.size), .int .i64 (-1)] 77)) = .ok () w' ∧
      Tr w' base (N + 1) (upd at_ (u ++ [c]) (some (w.heap.size + 1))) (upd wd (u ++ [c]) (-1)) ∧ ((w.alloc (.map #[] 0)).alloc (.cells #[.map (some w.heap.size), .int .i64 (-1)] 77)).grownBy w' (some (b - 1)) := by
  have h1 : w.grownBy ((w.alloc (.map #[] 0)).alloc (.cells #[.map (some w.heap.size), .int .i64 (-1)] 77)) none :=
    (World.grownBy_alloc w (.map #[] 0) none).andThen (World.grownBy_alloc _ _ none) (by simp)
  have hT := h.onto h1
  have hnew : ((w.alloc (.map #[] 0)).alloc (.cells #[.map (some w.heap.size), .int .i64 (-1)] 77)).heap[w.heap.size + 1]? = some (.cells #[.map (some w.heap.size), .int .i64 (-1)] 77 (0, 0)) := by
    have := heap_alloc_new (w.alloc (.map #[] 0)) (.cells #[.map (some w.heap.size), .int .i64 (-1)] 77)
    simpa using this
  have hkn : Kids ((w.alloc (.map #[] 0)).alloc (.cells #[.map (some w.heap.size), .int .i64 (-1)] 77)) w.heap.size 0 (fun _ => none) := (Kids.new w).kept (World.grownBy_alloc _ _ none) (by simp)
  have hsz : ((w.alloc (.map #[] 0)).alloc (.cells #[.map (some w.heap.size), .int .i64 (-1)] 77)).heap.size = w.heap.size + 2 := by simp
  have hbl := h.lt hb
  have hlo := h.lo u b hb
  generalize (w.alloc (.map #[] 0)).alloc (.cells #[.map (some w.heap.size), .int .i64 (-1)] 77) = w1 at *
  obtain ⟨w', hrun, hk', hg⟩ := (hT.kids u b hb).put c (w.heap.size + 1) hN
  have hno : ∀ d, at_ ((u ++ [c]) ++ [d]) = none := fun d => h.shut _ d hc
  refine ⟨w', hrun, ?_, hg⟩
  have hcase : ∀ {v : List UInt8} {k : Nat}, upd at_ (u ++ [c]) (some (w.heap.size + 1)) v = some k → (v = u ++ [c] ∧ k = w.heap.size + 1) ∨ (v ≠ u ++ [c] ∧ at_ v = some k) := by
    intro v k hv
    by_cases he : v = u ++ [c]
    · rw [he, upd_same] at hv; cases hv; exact .inl ⟨he, rfl⟩
    · rw [upd_other _ _ he] at hv; exact .inr ⟨he, hv⟩
  constructor
  · intro v k hv
    rcases hcase hv with ⟨rfl, rfl⟩ | ⟨hne, hv'⟩
    · rw [upd_same, hg.block _ (by omega) (by simp; omega), hnew]
      simp
    · rw [upd_other _ _ hne, hg.block _ (hT.lt hv') (by simp; exact hT.apart hv' hb)]
      exact hT.node v k hv'
  · intro v k hv
    rcases hcase hv with ⟨rfl, rfl⟩ | ⟨hne, hv'⟩
    · have hk2 := (hkn.kept hg (by simp; omega)).mono (Nat.zero_le (N + 1))
      rw [show w.heap.size + 1 - 1 = w.heap.size by omega]
      have e : (fun d => upd at_ (u ++ [c]) (some (w.heap.size + 1)) ((u ++ [c]) ++ [d])) = fun _ => none := by
        funext d
        rw [upd_other _ _ (snoc_ne _ d), hno d]
      rw [e]
      exact hk2
    · by_cases hvu : v = u
      · subst hvu
        rw [hb] at hv'
        cases hv'
        have e : (fun d => upd at_ (v ++ [c]) (some (w.heap.size + 1)) (v ++ [d])) = fun d => if d = c then some (w.heap.size + 1) else at_ (v ++ [d]) := by
          funext d
          by_cases hdc : d = c
          · rw [if_pos hdc, hdc, upd_same]
          · rw [if_neg hdc, upd_other]
            intro e
            exact hdc (by simpa using e)
        rw [e]
        exact hk'
      · have hmne : (k - 1 : Nat) ≠ b - 1 := by
          intro e
          have h2 := h.lo v k hv'
          exact hvu (h.inj v u b (by rw [hv']; congr 1; omega) hb)
        have hk2 := ((hT.kids v k hv').kept hg (by simp; exact hmne)).mono (Nat.le_succ N)
        have e : (fun d => upd at_ (u ++ [c]) (some (w.heap.size + 1)) (v ++ [d])) = fun d => at_ (v ++ [d]) := by
          funext d
          rw [upd_other]
          intro e
          exact hvu (List.append_inj' e rfl).1
        rw [e]
        exact hk2
  · intro v k hv
    rcases hcase hv with ⟨rfl, rfl⟩ | ⟨hne, hv'⟩
    · omega
    · exact h.lo v k hv'
  · intro v x k hv hx
    rcases hcase hv with ⟨rfl, rfl⟩ | ⟨hne, hv'⟩
    · rcases hcase hx with ⟨rfl, _⟩ | ⟨_, hx'⟩
      · rfl
      · have := h.lt hx'; omega
    · rcases hcase hx with ⟨rfl, rfl⟩ | ⟨_, hx'⟩
      · have := h.lt hv'; omega
      · exact h.inj v x k hv' hx'
  · intro v d hv
    by_cases he : v = u ++ [c]
    · rw [he, upd_same] at hv; cases hv
    · rw [upd_other _ _ he] at hv
      by_cases he2 : v ++ [d] = u ++ [c]
      · have e := (List.append_inj' he2 rfl).1
        rw [e, hb] at hv; cases hv
      · rw [upd_other _ _ he2]
        exact h.shut v d hv
/-- a word's mark -/
theorem Tr.mark (h : Tr w base N at_ wd) {u : List UInt8} {b : Nat} (hb : at_ u = some b) (i : Int) : Tr (w.setCell ⟨b, 1, none⟩ (.int .i64 i)) base N at_ (upd wd u i) := by
  have hg : w.grownBy (w.setCell ⟨b, 1, none⟩ (.int .i64 i)) (some b) := ⟨rfl, rfl, rfl, by simp, fun k _ hk => Below.heap_setCell _ _ _ k (fun e => hk (by rw [e]))⟩
  refine { h with node := fun v k hv => ?_, kids := fun v k hv => (h.kids v k hv).kept hg (by simp; exact (h.apart hb hv).symm) }
  by_cases hvu : v = u
  · subst hvu
    rw [hb] at hv
    cases hv
    rw [upd_same]
    have := h.node v b hb
    simp [World.setCell, Array.getElem?_modify, this]
  · rw [upd_other _ _ hvu, Below.heap_setCell _ _ _ k (fun e => hvu (h.inj v u b (by rw [hv]; simpa using e) hb))]
    exact h.node v k hv
end
end Go.Proofs.Ytnaoonegeboflaa
