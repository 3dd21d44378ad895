/-
  A table of numbers in rows of its own; what package edit's reference lays there.
-/
import Derived.Test.YtjlgjadkcpdpmaaDoorEdPlain
import Derived.Test.YtjlgjadkcpdpmaaDoorOwn
import Derived.Test.YtjlgjadkcpdpmaaDoorIBlk
namespace Go.Proofs.YtjlgjadkcpdpmaaDoor.Ed
open Go.RowKit
set_option linter.unusedVariables false

def rowS (m g : Nat) : Value := .slice (some ⟨g, 0, none⟩) (m + 1) (m + 1)
theorem infoSl : (Tryd.prog.info? 34).map (fun i => (i.zero, i.size, i.bytes)) = some (some (.slice none 0 0), 1, 24) := by kernel_rfl
theorem slice_oneCell (A : Option Addr) (n c : Nat) : ∀ u ∈ [Value.slice A n c], u.oneCell' = true := by intro u hu; simp at hu; subst hu; rfl
structure GTab (B : Nat) (w : World) (v : Value) (m : Nat) (gs : List Nat) (f : Nat → Nat → Int) : Prop where
  own : w.ownsRow B 34 1 v gs.length (gs.map (rowS m))
  row : ∀ (r g : Nat), gs[r]? = some g → ∃ l, IBlk w g l ∧ l.length = m + 1 ∧ ∀ j, j ≤ m → l[j]? = some (f r j)
  apart : ∀ (r r' g : Nat), gs[r]? = some g → gs[r']? = some g → r = r'
  out : ∀ (r g : Nat), gs[r]? = some g → v.ownBlock ≠ some g
  ge : ∀ (r g : Nat), gs[r]? = some g → B ≤ g
section
variable {B m : Nat} {w w' : World} {v : Value} {gs : List Nat} {f : Nat → Nat → Int}
theorem GTab.nil (B m : Nat) (w : World) (f : Nat → Nat → Int) : GTab B w (.slice none 0 0) m [] f :=
  ⟨World.ownsRow_nil _ _ _ _, fun r g h => by simp at h, fun r r' g h => by simp at h, fun r g h => by simp at h, fun r g h => by simp at h⟩
theorem GTab.below (h : GTab B w v m gs f) (hb : Below w.heap.size w w') : GTab B w' v m gs f :=
  ⟨own_below h.own hb, fun r g hg => by
    obtain ⟨l, h1, h2⟩ := h.row r g hg
    exact ⟨l, h1.below hb h1.lt, h2⟩, h.apart, h.out, h.ge⟩
theorem GTab.slice (h : GTab B w v m gs f) {g0 cap : Nat} (hv : v = .slice (some ⟨g0, 0, none⟩) gs.length cap) {r g : Nat} (hg : gs[r]? = some g) : w.cell? ⟨g0, r, none⟩ = some (rowS m g) := by
  subst hv
  exact own_cell h.own (by rw [List.getElem?_map, hg]; rfl)
theorem GTab.num (h : GTab B w v m gs f) {r g j : Nat} (hg : gs[r]? = some g) (hj : j ≤ m) : w.cell? ⟨g, j, none⟩ = some (.int .i64 (f r j)) := by
  obtain ⟨l, h1, h2, h3⟩ := h.row r g hg
  exact h1.cell (h3 j hj)
theorem GTab.lt (h : GTab B w v m gs f) {r g : Nat} (hg : gs[r]? = some g) : g < w.heap.size := by
  obtain ⟨l, h1, _⟩ := h.row r g hg
  exact h1.lt
theorem GTab.frozen (h : GTab B w v m gs f) {r g : Nat} (hg : gs[r]? = some g) (j : Nat) : w.frozen? ⟨g, j, none⟩ = false := by
  obtain ⟨l, h1, _⟩ := h.row r g hg
  exact h1.frozen j
theorem own_far {base n cap : Nat} {e : TypeId} {xs : List Value} (h : w.ownsRow base e 1 v n xs) {p : Addr} (hp : v.ownBlock ≠ some p.block) (u : Value) : (w.setCell p u).ownsRow base e 1 v n xs := by
  refine h.kept (row := some p.block) ⟨rfl, rfl, rfl, by simp [World.setCell], fun k _ hk => Below.heap_setCell w p u k (fun e => hk (by rw [e]))⟩ (.inr hp)
theorem GTab.set_ (h : GTab B w v m gs f) {i g j : Nat} (hg : gs[i]? = some g) (hj : j ≤ m) (x : Int) (f' : Nat → Nat → Int) (h1 : f' i j = x) (h2 : ∀ r c, ¬ (r = i ∧ c = j) → f' r c = f r c) :
    GTab B (w.setCell ⟨g, j, none⟩ (.int .i64 x)) v m gs f' := by
  refine ⟨own_far (cap := 0) h.own (h.out i g hg) _, fun r g' hg' => ?_, h.apart, h.out, h.ge⟩
  obtain ⟨l, k1, k2, k3⟩ := h.row r g' hg'
  by_cases hr : r = i
  · subst hr
    rw [hg] at hg'
    obtain rfl := Option.some.inj hg'
    refine ⟨l.set j x, k1.set_ j x, by rw [List.length_set]; exact k2, fun c hc => ?_⟩
    by_cases hcj : c = j
    · subst hcj
      rw [List.getElem?_set_self (by omega), h1]
    · rw [List.getElem?_set_ne (by omega), h2 r c (fun e => hcj e.2)]
      exact k3 c hc
  · have hne : g' ≠ g := fun e => hr (by rw [e] at hg'; exact h.apart r i g hg' hg)
    refine ⟨l, k1.far hne _, k2, fun c hc => ?_⟩
    rw [h2 r c (fun e => hr e.1)]
    exact k3 c hc
theorem GTab.push (h : GTab B w v m gs (fun _ _ => 0)) {o : Obj} {w2 : World} {g2 cap2 : Nat} (hB : B ≤ w.heap.size)
    (hg : ((w.alloc (.cells (ints (List.replicate (m + 1) 0)).toArray 3)).alloc o).grownBy w2 v.ownBlock)
    (hown : w2.ownsRow B 34 1 (.slice (some ⟨g2, 0, none⟩) (gs.length + 1) cap2) (gs.length + 1) (gs.map (rowS m) ++ [rowS m w.heap.size])) (hat : v.ownBlock = some g2 ∨ g2 = w.heap.size + 2) :
    GTab B w2 (.slice (some ⟨g2, 0, none⟩) (gs.length + 1) cap2) m (gs ++ [w.heap.size]) (fun _ _ => 0) := by
  have hW : Below w.heap.size w ((w.alloc (.cells (ints (List.replicate (m + 1) 0)).toArray 3)).alloc o) := bmore (bnew _ _) _
  have hvlt : ∀ b, v.ownBlock = some b → b < w.heap.size := fun b hb => (h.own.lt b hb).2
  have hsplit : ∀ (r g : Nat), (gs ++ [w.heap.size])[r]? = some g → (gs[r]? = some g ∧ g < w.heap.size) ∨ (r = gs.length ∧ g = w.heap.size) := by
    intro r g hr
    rw [List.getElem?_append] at hr
    by_cases hl : r < gs.length
    · rw [if_pos hl] at hr
      exact .inl ⟨hr, h.lt hr⟩
    · rw [if_neg hl] at hr
      have h1 := (List.getElem?_eq_some_iff.1 hr).1
      simp at h1
      have hz : r - gs.length = 0 := by omega
      rw [hz] at hr
      exact .inr ⟨by omega, by simpa using hr.symm⟩
  refine ⟨by rw [List.length_append, List.length_singleton, List.map_append]; exact hown, fun r g hr => ?_, fun r r' g h1 h2 => ?_, fun r g hr e => ?_, fun r g hr => ?_⟩
  · rcases hsplit r g hr with ⟨h1, h2⟩ | ⟨h1, h2⟩
    · obtain ⟨l, k1, k2⟩ := h.row r g h1
      exact ⟨l, ((k1.alloc _).alloc _).kept hg (fun e => h.out r g h1 e.symm), k2⟩
    · subst h2
      refine ⟨List.replicate (m + 1) 0, ((IBlk.new w _).alloc _).kept hg (fun e => by have := hvlt _ e.symm; omega), by simp, fun j hj => ?_⟩
      rw [List.getElem?_replicate, if_pos (by omega)]
  · rcases hsplit r g h1 with ⟨a1, a2⟩ | ⟨a1, a2⟩ <;> rcases hsplit r' g h2 with ⟨b1, b2⟩ | ⟨b1, b2⟩
    · exact h.apart r r' g a1 b1
    · omega
    · omega
    · omega
  · have e := Option.some.inj (show some g2 = some g from e)
    rcases hsplit r g hr with ⟨h1, h2⟩ | ⟨h1, h2⟩
    · rcases hat with h3 | h3
      · exact h.out r g h1 (by rw [h3, e])
      · omega
    · rcases hat with h3 | h3
      · have := hvlt _ h3; omega
      · omega
  · rcases hsplit r g hr with ⟨h1, h2⟩ | ⟨h1, h2⟩
    · exact h.ge r g h1
    · omega
end
theorem lev_ref (x y : UInt8) (a b : List UInt8) : (lev (x :: a) (y :: b) : Int) = min (min ((lev a (y :: b) : Int) + 1) ((lev (x :: a) b : Int) + 1)) ((lev a b : Int) + (if x = y then 0 else 1)) := by
  have h1 := (lev_near _ a b (Nat.le_refl _)).1 y
  have h2 := (lev_near _ a b (Nat.le_refl _)).2 x
  rw [lev_cons]
  by_cases h : x = y
  · rw [if_pos h, if_pos h]; omega
  · rw [if_neg h, if_neg h]; omega
end Go.Proofs.YtjlgjadkcpdpmaaDoor.Ed
