/-
  What huff.Long keeps in memory: the heaps' variable and row, each heap's places, the numbers.
-/
import Derived.Test.YtnaoonegeboflaaHfPlain
import Derived.Test.YtnaoonegeboflaaHfChk
namespace Go.Proofs.Ytnaoonegeboflaa.Hf
open Go.RowKit
set_option linter.unusedVariables false
set_option linter.unusedSimpArgs false

/-- no block of numbers has changed but G -/
structure IK (G : Nat) (w w' : World) : Prop where
  size : w.heap.size ≤ w'.heap.size
  blk : ∀ k cur, w.heap[k]? = some (.cells cur 3 (0, 0)) → k ≠ G → w'.heap[k]? = w.heap[k]?
theorem lt_of_some {w : World} {k : Nat} {o : Obj} (h : w.heap[k]? = some o) : k < w.heap.size := by
  rcases Nat.lt_or_ge k w.heap.size with h1 | h1
  · exact h1
  · rw [Array.getElem?_eq_none h1] at h; cases h
theorem IK.refl (G : Nat) (w : World) : IK G w w := ⟨Nat.le_refl _, fun _ _ _ _ => rfl⟩
theorem IK.trans {G : Nat} {a b c : World} (h1 : IK G a b) (h2 : IK G b c) : IK G a c :=
  ⟨Nat.le_trans h1.size h2.size, fun k cur hk hG => (h2.blk k cur ((h1.blk k cur hk hG).trans hk) hG).trans (h1.blk k cur hk hG)⟩
theorem IK.of_below {G : Nat} {a b : World} (h : Below a.heap.size a b) : IK G a b := ⟨h.size, fun k cur hk _ => h.block k (lt_of_some hk)⟩
theorem IK.drewN {G : Nat} {a b : World} (h : IK G a b) (q : Nat) : IK G a (b.drewN q) := ⟨h.size, h.blk⟩
theorem ty_ne {w : World} {k : Nat} {c1 c2 : Array Value} {e1 e2 : TypeId} (h1 : w.heap[k]? = some (.cells c1 e1 (0, 0))) (h2 : w.heap[k]? = some (.cells c2 e2 (0, 0))) (hne : e1 ≠ e2) : False := by
  rw [h1] at h2
  injection h2 with h
  injection h with _ h
  exact hne h
theorem IK.but2 {G X g : Nat} {a b : World} {cX cg : Array Value} {eX eg : TypeId} (h : But2 X g a b) (hX : a.heap[X]? = some (.cells cX eX (0, 0))) (hg : a.heap[g]? = some (.cells cg eg (0, 0))) (n1 : eX ≠ 3) (n2 : eg ≠ 3) : IK G a b :=
  ⟨h.size, fun k cur hk hG => h.block k (lt_of_some hk) (fun e => ty_ne (e ▸ hX) hk n1) (fun e => ty_ne (e ▸ hg) hk n2)⟩
theorem IK.set {G k i : Nat} {a : World} {c : Array Value} {e : TypeId} (hk : a.heap[k]? = some (.cells c e (0, 0))) (hne : e ≠ 3 ∨ k = G) (u : Value) : IK G a (a.setCell ⟨k, i, none⟩ u) :=
  ⟨by simp [World.setCell], fun j cur hj hG => heap_far (p := ⟨k, i, none⟩) (fun (e' : j = k) => by
    rcases hne with h | h
    · exact ty_ne (e' ▸ hk) hj h
    · exact hG (e'.trans h))⟩
theorem IK.grown {G : Nat} {a b : World} {base n size : Nat} {e : TypeId} {v : Value} {xs : List Value} (hg : a.grownBy b v.ownBlock) (ho : a.ownsRow base e size v n xs) (hne : e ≠ 3) : IK G a b :=
  ⟨hg.size, fun k cur hk hG => hg.block k (lt_of_some hk) (fun e' => by
    rcases ho.2 with ⟨rfl, _⟩ | ⟨g, cap, cu, rfl, _, hh, _⟩
    · cases e'
    · injection e' with e'
      subst e'
      exact ty_ne hh hk hne)⟩
theorem own_ik {G base n : Nat} {w w' : World} {v : Value} {xs : List Value} (h : w.ownsRow base 3 1 v n xs) (hG : G < base) (hk : IK G w w') : w'.ownsRow base 3 1 v n xs := by
  refine ⟨h.1, ?_⟩
  rcases h.2 with h0 | ⟨g, cap, cur, h1, h2, h3, h4⟩
  · exact .inl h0
  · exact .inr ⟨g, cap, cur, h1, h2, (hk.blk g cur h3 (by omega)).trans h3, h4⟩

def nats (l : List Nat) : List Int := l.map fun (i : Nat) => (i : Int)
theorem nats_length (l : List Nat) : (nats l).length = l.length := by simp [nats]
/-- a heap in memory -/
def At (wr : World) (G : Nat) (p : Hp) (h : Heap) : Prop := p.1 = h.1 ∧ wr.ownsRow (G + 1) 3 1 p.2 h.2.length (ints (nats h.2))
theorem At.ik {w w' : World} {G : Nat} {p : Hp} {h : Heap} (a : At w G p h) (hk : IK G w w') : At w' G p h := ⟨a.1, own_ik a.2 (Nat.lt_succ_self _) hk⟩
def AllAt (wr : World) (G : Nat) : List Hp → List Heap → Prop
  | [], [] => True
  | p :: L, h :: hs => At wr G p h ∧ AllAt wr G L hs
  | _, _ => False
section
variable {w w' : World} {G : Nat}
theorem AllAt.ik : ∀ {L : List Hp} {hs : List Heap}, AllAt w G L hs → IK G w w' → AllAt w' G L hs
  | [], [], _, _ => trivial
  | _ :: _, _ :: _, h, hk => ⟨h.1.ik hk, AllAt.ik h.2 hk⟩
  | [], _ :: _, h, _ => h.elim
  | _ :: _, [], h, _ => h.elim
theorem AllAt.len : ∀ {L : List Hp} {hs : List Heap}, AllAt w G L hs → L.length = hs.length
  | [], [], _ => rfl
  | _ :: _, _ :: _, h => by simp [AllAt.len h.2]
  | [], _ :: _, h => h.elim
  | _ :: _, [], h => h.elim
theorem AllAt.wts : ∀ {L : List Hp} {hs : List Heap}, AllAt w G L hs → L.map (·.1) = Hf.wts hs
  | [], [], _ => rfl
  | p :: L, h :: hs, a => by
    have := AllAt.wts a.2
    simp only [List.map_cons, Hf.wts] at this ⊢
    rw [this, a.1.1]
  | [], _ :: _, h => h.elim
  | _ :: _, [], h => h.elim
theorem AllAt.get : ∀ {L : List Hp} {hs : List Heap}, AllAt w G L hs → ∀ (i : Nat) (p : Hp), L[i]? = some p → ∃ h, hs[i]? = some h ∧ At w G p h
  | [], [], _, i, p, hp => by simp at hp
  | q :: L, h :: hs, a, i, p, hp => by
    cases i with
    | zero => simp at hp; subst hp; exact ⟨h, rfl, a.1⟩
    | succ i => rw [List.getElem?_cons_succ] at hp ⊢; exact AllAt.get a.2 i p hp
  | [], _ :: _, h, _, _, _ => h.elim
  | _ :: _, [], h, _, _, _ => h.elim
theorem AllAt.erase : ∀ {L : List Hp} {hs : List Heap}, AllAt w G L hs → ∀ i, AllAt w G (L.eraseIdx i) (hs.eraseIdx i)
  | [], [], _, i => by simp [AllAt]
  | q :: L, h :: hs, a, i => by
    cases i with
    | zero => exact a.2
    | succ i => exact ⟨a.1, AllAt.erase a.2 i⟩
  | [], _ :: _, h, _ => h.elim
  | _ :: _, [], h, _ => h.elim
theorem AllAt.snoc : ∀ {L : List Hp} {hs : List Heap}, AllAt w G L hs → ∀ {p : Hp} {h : Heap}, At w G p h → AllAt w G (L ++ [p]) (hs ++ [h])
  | [], [], _, p, h, a => ⟨a, trivial⟩
  | _ :: _, _ :: _, b, p, h, a => ⟨b.1, AllAt.snoc b.2 a⟩
  | [], _ :: _, h, _, _, _ => h.elim
  | _ :: _, [], h, _, _, _ => h.elim
theorem At.slice {p : Hp} {h : Heap} (a : At w G p h) : ∃ A m c, p.2 = .slice A m c := by
  rcases a.2.2 with ⟨e, _⟩ | ⟨g, cap, cur, e, _⟩
  · exact ⟨_, _, _, e⟩
  · exact ⟨_, _, _, e⟩
theorem AllAt.slices {L : List Hp} {hs : List Heap} (a : AllAt w G L hs) : ∀ p ∈ L, ∃ A m c, p.2 = .slice A m c := by
  intro p hp
  obtain ⟨i, hi, rfl⟩ := List.getElem_of_mem hp
  obtain ⟨h, _, ha⟩ := a.get i _ (List.getElem?_eq_getElem hi)
  exact ha.slice
end

structure LRel (w wr : World) (X G : Nat) (hs : List Heap) (outs : List Int) (hv : Value) (L : List Hp) : Prop where
  cell : wr.heap[X]? = some (.cells #[hv] 51 (0, 0))
  own : wr.ownsRow w.heap.size 53 2 hv L.length (rc L)
  all : AllAt wr G L hs
  out : IBlk wr G outs
  below : Below w.heap.size w wr
  geG : w.heap.size ≤ G
  ltX : G < X

theorem own_block_ne {w : World} {base n size X : Nat} {e eX : TypeId} {v : Value} {xs : List Value} {c : Array Value} (ho : w.ownsRow base e size v n xs) (hX : w.heap[X]? = some (.cells c eX (0, 0))) (hne : e ≠ eX) : v.ownBlock ≠ some X := by
  intro e'
  rcases ho.2 with ⟨rfl, _⟩ | ⟨g, cap, cu, rfl, _, hh, _⟩
  · cases e'
  · injection e' with e'
    subst e'
    exact ty_ne hh hX hne
theorem own_block_ge {w : World} {base n size k : Nat} {e : TypeId} {v : Value} {xs : List Value} (ho : w.ownsRow base e size v n xs) (hk : v.ownBlock = some k) : base ≤ k := by
  rcases ho.2 with ⟨rfl, _⟩ | ⟨g, cap, cu, rfl, hb, hh, _⟩
  · cases hk
  · injection hk with hk
    subst hk
    exact hb
theorem grown_set (w : World) (k i : Nat) (u : Value) : w.grownBy (w.setCell ⟨k, i, none⟩ u) (some k) :=
  ⟨rfl, rfl, rfl, by simp [World.setCell], fun j _ hj => heap_far (p := ⟨k, i, none⟩) (fun e => hj (by rw [e]))⟩
section
variable {w wr : World} {X G : Nat} {hs : List Heap} {outs : List Int} {hv : Value} {L : List Hp}
theorem LRel.out_blk (h : LRel w wr X G hs outs hv L) : hv.ownBlock ≠ some G := own_block_ne h.own h.out (by decide)
theorem LRel.X_blk (h : LRel w wr X G hs outs hv L) : hv.ownBlock ≠ some X := own_block_ne h.own h.cell (by decide)
theorem LRel.alloc (h : LRel w wr X G hs outs hv L) (o : Obj) : LRel w (wr.alloc o) X G hs outs hv L :=
  ⟨((bnew wr o).block X (lt_of_some h.cell)).trans h.cell, h.own.alloc o, h.all.ik (IK.of_below (bnew wr o)), h.out.alloc o, bmore h.below o, h.geG, h.ltX⟩
theorem LRel.drewN (h : LRel w wr X G hs outs hv L) (q : Nat) : LRel w (wr.drewN q) X G hs outs hv L :=
  ⟨h.cell, own_drewN h.own q, h.all.ik ((IK.refl G wr).drewN q), h.out.drewN q, bdrew h.below q, h.geG, h.ltX⟩
theorem LRel.more {w2 : World} (h : LRel w wr X G hs outs hv L) (hb : Below wr.heap.size wr w2) : LRel w w2 X G hs outs hv L :=
  ⟨(hb.block X (lt_of_some h.cell)).trans h.cell, own_below h.own hb, h.all.ik (IK.of_below hb), h.out.below hb h.out.lt, h.below.trans (hb.mono h.below.size), h.geG, h.ltX⟩
theorem LRel.far (h : LRel w wr X G hs outs hv L) {R i : Nat} {c : Array Value} (hR : wr.heap[R]? = some (.cells c 53 (0, 0))) (hw : w.heap.size ≤ R) (hne : hv.ownBlock ≠ some R) (u : Value) : LRel w (wr.setCell ⟨R, i, none⟩ u) X G hs outs hv L :=
  ⟨(heap_far (p := ⟨R, i, none⟩) (fun (e : X = R) => ty_ne (e ▸ h.cell) hR (by decide))).trans h.cell, h.own.kept (grown_set wr R i u) (.inr hne), h.all.ik (IK.set hR (.inl (by decide)) u), h.out.far (fun e => ty_ne (e ▸ h.out) hR (by decide)) u, h.below.setCell (p := ⟨R, i, none⟩) hw u, h.geG, h.ltX⟩
theorem LRel.bump_ (h : LRel w wr X G hs outs hv L) (j : Nat) (n : Int) : LRel w (wr.setCell ⟨G, j, none⟩ (.int .i64 n)) X G hs (outs.set j n) hv L :=
  ⟨(heap_far (p := ⟨G, j, none⟩) (fun (e : X = G) => by have := h.ltX; omega)).trans h.cell, h.own.kept (grown_set wr G j _) (.inr h.out_blk), h.all.ik (IK.set h.out (.inr rfl) _), h.out.set_ j n, h.below.setCell (p := ⟨G, j, none⟩) h.geG _, h.geG, h.ltX⟩
theorem LRel.push {w2 : World} {g cap : Nat} {p : Hp} {hp : Heap} (h : LRel w wr X G hs outs hv L) (ha : At wr G p hp) (hg : wr.grownBy w2 hv.ownBlock) {n : Nat} (hn : n = (L ++ [p]).length) (ho : w2.ownsRow w.heap.size 53 2 (.slice (some ⟨g, 0, none⟩) n cap) n (rc (L ++ [p]))) :
    LRel w (w2.setCell ⟨X, 0, none⟩ (.slice (some ⟨g, 0, none⟩) n cap)) X G (hs ++ [hp]) outs (.slice (some ⟨g, 0, none⟩) n cap) (L ++ [p]) := by
  have hX2 : w2.heap[X]? = some (.cells #[hv] 51 (0, 0)) := (hg.block X (lt_of_some h.cell) (fun e => h.X_blk e.symm)).trans h.cell
  have hik : IK G wr (w2.setCell ⟨X, 0, none⟩ (.slice (some ⟨g, 0, none⟩) n cap)) := (IK.grown hg h.own (by decide)).trans (IK.set hX2 (.inl (by decide)) _)
  have hG2 : IBlk w2 G outs := (hg.block G h.out.lt (fun e => h.out_blk e.symm)).trans h.out
  refine ⟨row_set hX2 _, ?_, (h.all.ik hik).snoc (ha.ik hik), hG2.far (p := ⟨X, 0, none⟩) (by have := h.ltX; simp only; omega) _, (h.below.grown hg h.below.size (fun k hk => own_block_ge h.own hk)).setCell (p := ⟨X, 0, none⟩) (by have := h.geG; have := h.ltX; simp only; omega) _, h.geG, h.ltX⟩
  rw [← hn]
  exact ho.kept (grown_set w2 X 0 _) (.inr (own_block_ne ho hX2 (by decide)))
theorem LRel.took {w2 : World} {g cap i : Nat} {p : Hp} (h : LRel w wr X G hs outs hv L) (hv' : hv = .slice (some ⟨g, 0, none⟩) L.length cap) (hp : L[i]? = some p) (hX : w2.heap[X]? = some (.cells #[.slice (some ⟨g, 0, none⟩) (L.length - 1) cap] 51 (0, 0)))
    (ho : w2.ownsRow w.heap.size 53 2 (.slice (some ⟨g, 0, none⟩) (L.length - 1) cap) (L.length - 1) (rc (L.eraseIdx i))) (hb : But2 X g wr w2) :
    LRel w w2 X G (hs.eraseIdx i) outs (.slice (some ⟨g, 0, none⟩) (L.length - 1) cap) (L.eraseIdx i) ∧ ∃ x, hs[i]? = some x ∧ At w2 G p x := by
  have hlt : i < L.length := (List.getElem?_eq_some_iff.1 hp).1
  have hl : (L.eraseIdx i).length = L.length - 1 := List.length_eraseIdx_of_lt hlt
  obtain ⟨x, hx, hat⟩ := h.all.get i p hp
  have hgc : ∃ c, wr.heap[g]? = some (.cells c 53 (0, 0)) ∧ w.heap.size ≤ g := by
    rcases h.own.2 with ⟨_, h0⟩ | ⟨g', cap', cu, e, hbs, hh, _⟩
    · omega
    · rw [hv'] at e
      simp only [Value.slice.injEq, Option.some.injEq, Addr.mk.injEq, and_true, true_and] at e
      obtain ⟨rfl, rfl⟩ := e
      exact ⟨_, hh, hbs⟩
  obtain ⟨c, hgc, hgs⟩ := hgc
  have hik : IK G wr w2 := IK.but2 hb h.cell hgc (by decide) (by decide)
  have hG : IBlk w2 G outs := (hb.block G h.out.lt (by have := h.ltX; omega) (fun e => ty_ne (e ▸ h.out) hgc (by decide))).trans h.out
  refine ⟨⟨hX, by rw [hl]; exact ho, (h.all.ik hik).erase i, hG, ?_, h.geG, h.ltX⟩, x, hx, hat.ik hik⟩
  refine ⟨hb.os.trans h.below.os, hb.tape.trans h.below.tape, hb.output.trans h.below.output, Nat.le_trans h.below.size hb.size, fun k hk => ?_⟩
  have := h.below.size
  have := h.geG
  have := h.ltX
  exact (hb.block k (by omega) (by omega) (by omega)).trans (h.below.block k hk)
end

/-- how long the heaps' slice is, as memory says -/
def lenAt (w : World) (X : Nat) : Nat := match w.heap[X]? with
  | some (Obj.cells cs _ _) => match cs.toList[0]? with
    | some (Value.slice _ n _) => n
    | _ => 0
  | _ => 0
theorem LRel.len {w wr : World} {X G : Nat} {hs : List Heap} {outs : List Int} {hv : Value} {L : List Hp} (h : LRel w wr X G hs outs hv L) : lenAt wr X = L.length := by
  obtain ⟨A, cap, rfl⟩ := own_slice h.own
  unfold lenAt
  rw [h.cell]
  rfl

theorem own_heap {w : World} {base g n cap size : Nat} {e : TypeId} {xs : List Value} (h : w.ownsRow base e size (.slice (some ⟨g, 0, none⟩) n cap) n xs) (h0 : 0 < n) : ∃ c, w.heap[g]? = some (.cells c e (0, 0)) := by
  rcases h.2 with ⟨_, hn⟩ | ⟨g', cap', cu, e', hbs, hh, _⟩
  · omega
  · simp only [Value.slice.injEq, Option.some.injEq, Addr.mk.injEq, and_true, true_and] at e'
    obtain ⟨rfl, rfl⟩ := e'
    exact ⟨_, hh⟩
/-- a heap that has something: its slice, and that it can be read -/
theorem At.reads {w : World} {G : Nat} {p : Hp} {h : Heap} (a : At w G p h) (h0 : h.2 ≠ []) : ∃ g c, p = (h.1, .slice (some ⟨g, 0, none⟩) h.2.length c) ∧ Reads w (some ⟨g, 0, none⟩) h.2.length 1 (ints (nats h.2)) := by
  have hl : 0 < h.2.length := List.length_pos_iff.2 h0
  obtain ⟨g, c, hv, _, _⟩ := own_some a.2 hl
  refine ⟨g, c, ?_, ?_⟩
  · obtain ⟨p1, p2⟩ := p
    have h1 := a.1
    simp only at h1 hv
    rw [h1, hv]
  · have := a.2
    rw [hv] at this
    exact Reads.of_own this

theorem perm_at {α : Type} {l : List α} {i : Nat} {x : α} (h : l[i]? = some x) : l.Perm (x :: l.eraseIdx i) := by
  have hlt := (List.getElem?_eq_some_iff.1 h).1
  have := erase_perm l i x hlt
  rw [List.getD_eq_getElem?_getD, h] at this
  exact this
theorem nonneg_sum : ∀ {l : List Int}, (∀ x ∈ l, 0 ≤ x) → 0 ≤ l.sum
  | [], _ => by simp
  | x :: l, h => by
    have := h x (by simp)
    have := nonneg_sum (l := l) (fun y hy => h y (by simp [hy]))
    simp; omega
theorem fine_two {n : Nat} {hs : List Heap} {x y : Heap} {i j : Nat} (hf : Fine n hs) (hx : hs[i]? = some x) (hy : (hs.eraseIdx i)[j]? = some y) : x.1 ≤ 1000 * n ∧ y.1 ≤ 1000 * n ∧ x.2.length + y.2.length ≤ n := by
  have hp := (perm_at hx).trans ((perm_at hy).cons x)
  have h1 := sum_perm (hp.map (·.1))
  have h2 := nsum_perm (hp.map fun h => h.2.length)
  have h3 := hf.sum
  have h4 := hf.few
  unfold wts at h3
  have h5 : 0 ≤ (((hs.eraseIdx i).eraseIdx j).map (·.1)).sum := nonneg_sum fun z hz => by
    obtain ⟨a, ha, rfl⟩ := List.mem_map.1 hz
    exact (hf.has a ((List.eraseIdx_sublist _ _).subset ((List.eraseIdx_sublist _ _).subset ha))).2.2
  have h6 := (hf.has x (List.mem_of_getElem? hx)).2.2
  have h7 := (hf.has y ((List.eraseIdx_sublist _ _).subset (List.mem_of_getElem? hy))).2.2
  simp only [List.map_cons, List.sum_cons] at h1 h2
  omega

/-! ### the region that puts two heaps together: what holds behind each of its operations -/
structure HLD (w0 W w' : World) (X G : Nat) (hs : List Heap) (outs : List Int) (hv : Value) (L : List Hp) : Prop where
  rel : LRel w0 w' X G hs outs hv L
  bel : Below W.heap.size W w'
  own : ∀ k, hv.ownBlock = some k → k < W.heap.size
  ge : w0.heap.size ≤ W.heap.size
theorem own_block_lt {w : World} {base n size k : Nat} {e : TypeId} {v : Value} {xs : List Value} (ho : w.ownsRow base e size v n xs) (hk : v.ownBlock = some k) : k < w.heap.size := by
  rcases ho.2 with ⟨rfl, _⟩ | ⟨g, cap, cu, rfl, hb, hh, _⟩
  · cases hk
  · injection hk with hk
    subst hk
    exact lt_of_some hh
section
variable {w0 W w' : World} {X G R : Nat} {hs : List Heap} {outs : List Int} {hv : Value} {L : List Hp} {v10 v20 v11 v21 : Value}
theorem HLD.start (h : LRel w0 W X G hs outs hv L) : HLD w0 W W X G hs outs hv L := ⟨h, Below.refl _ _, fun _ hk => own_block_lt h.own hk, h.below.size⟩
theorem HLD.drewN (h : HLD w0 W w' X G hs outs hv L) (q : Nat) : HLD w0 W (w'.drewN q) X G hs outs hv L := ⟨h.rel.drewN q, bdrew h.bel q, h.own, h.ge⟩
theorem keep_same (h : w'.cell? ⟨R, 0, none⟩ = some v10 ∧ w'.cell? ⟨R + 1, 0, none⟩ = some v20 ∧ w'.cell? ⟨R, 1, none⟩ = some v11 ∧ w'.cell? ⟨R + 1, 1, none⟩ = some v21 ∧ HLD w0 W w' X G hs outs hv L) :
    w'.drew.cell? ⟨R, 0, none⟩ = some v10 ∧ w'.drew.cell? ⟨R + 1, 0, none⟩ = some v20 ∧ w'.drew.cell? ⟨R, 1, none⟩ = some v11 ∧ w'.drew.cell? ⟨R + 1, 1, none⟩ = some v21 ∧ HLD w0 W w'.drew X G hs outs hv L :=
  ⟨h.1, h.2.1, h.2.2.1, h.2.2.2.1, h.2.2.2.2.drewN 1⟩
theorem keep_more {w2 : World} (hR : R + 2 ≤ W.heap.size) (h : w'.cell? ⟨R, 0, none⟩ = some v10 ∧ w'.cell? ⟨R + 1, 0, none⟩ = some v20 ∧ w'.cell? ⟨R, 1, none⟩ = some v11 ∧ w'.cell? ⟨R + 1, 1, none⟩ = some v21 ∧ HLD w0 W w' X G hs outs hv L) (hb : Below w'.heap.size w' w2) :
    w2.cell? ⟨R, 0, none⟩ = some v10 ∧ w2.cell? ⟨R + 1, 0, none⟩ = some v20 ∧ w2.cell? ⟨R, 1, none⟩ = some v11 ∧ w2.cell? ⟨R + 1, 1, none⟩ = some v21 ∧ HLD w0 W w2 X G hs outs hv L := by
  have hs := h.2.2.2.2.bel.size
  exact ⟨(hb.cell (p := ⟨R, 0, none⟩) (by simp only; omega)).trans h.1, (hb.cell (p := ⟨R + 1, 0, none⟩) (by simp only; omega)).trans h.2.1, (hb.cell (p := ⟨R, 1, none⟩) (by simp only; omega)).trans h.2.2.1, (hb.cell (p := ⟨R + 1, 1, none⟩) (by simp only; omega)).trans h.2.2.2.1,
    h.2.2.2.2.rel.more hb, h.2.2.2.2.bel.trans (hb.mono hs), h.2.2.2.2.own, h.2.2.2.2.ge⟩
theorem keep_alloc (hR : R + 2 ≤ W.heap.size) (o : Obj) (h : w'.cell? ⟨R, 0, none⟩ = some v10 ∧ w'.cell? ⟨R + 1, 0, none⟩ = some v20 ∧ w'.cell? ⟨R, 1, none⟩ = some v11 ∧ w'.cell? ⟨R + 1, 1, none⟩ = some v21 ∧ HLD w0 W w' X G hs outs hv L) :
    (w'.alloc o).cell? ⟨R, 0, none⟩ = some v10 ∧ (w'.alloc o).cell? ⟨R + 1, 0, none⟩ = some v20 ∧ (w'.alloc o).cell? ⟨R, 1, none⟩ = some v11 ∧ (w'.alloc o).cell? ⟨R + 1, 1, none⟩ = some v21 ∧ HLD w0 W (w'.alloc o) X G hs outs hv L := keep_more hR h (bnew w' o)
theorem keep_far {R3 : Nat} {c : Array Value} (hR : R + 2 ≤ W.heap.size) (i : Nat) (u : Value) (h : w'.cell? ⟨R, 0, none⟩ = some v10 ∧ w'.cell? ⟨R + 1, 0, none⟩ = some v20 ∧ w'.cell? ⟨R, 1, none⟩ = some v11 ∧ w'.cell? ⟨R + 1, 1, none⟩ = some v21 ∧ HLD w0 W w' X G hs outs hv L) (h3 : w'.heap[R3]? = some (.cells c 53 (0, 0))) (hw : W.heap.size ≤ R3) :
    (w'.setCell ⟨R3, i, none⟩ u).cell? ⟨R, 0, none⟩ = some v10 ∧ (w'.setCell ⟨R3, i, none⟩ u).cell? ⟨R + 1, 0, none⟩ = some v20 ∧ (w'.setCell ⟨R3, i, none⟩ u).cell? ⟨R, 1, none⟩ = some v11 ∧ (w'.setCell ⟨R3, i, none⟩ u).cell? ⟨R + 1, 1, none⟩ = some v21 ∧ HLD w0 W (w'.setCell ⟨R3, i, none⟩ u) X G hs outs hv L := by
  have hge := h.2.2.2.2.ge
  exact ⟨(cell_far (by simp only; omega)).trans h.1, (cell_far (by simp only; omega)).trans h.2.1, (cell_far (by simp only; omega)).trans h.2.2.1, (cell_far (by simp only; omega)).trans h.2.2.2.1,
    h.2.2.2.2.rel.far h3 (by omega) (fun e => by have := h.2.2.2.2.own _ e; omega) u, h.2.2.2.2.bel.setCell (p := ⟨R3, i, none⟩) hw u, h.2.2.2.2.own, hge⟩
/-- a store of a heap into a fresh place -/
theorem put_heap {R3 : Nat} (h3 : w'.heap[R3]? = some (.cells #[.int .i64 0, .slice none 0 0] 53 (0, 0))) (a v : Value) :
    w'.cell? ⟨R3, 0, none⟩ = some (.int .i64 0) ∧ w'.frozen? ⟨R3, 0, none⟩ = false ∧ (w'.setCell ⟨R3, 0, none⟩ a).cell? ⟨R3, 1, none⟩ = some (.slice none 0 0) ∧ (w'.setCell ⟨R3, 0, none⟩ a).frozen? ⟨R3, 1, none⟩ = false ∧
      (w'.setCell ⟨R3, 0, none⟩ a).heap[R3]? = some (.cells #[a, .slice none 0 0] 53 (0, 0)) ∧ ((w'.setCell ⟨R3, 0, none⟩ a).setCell ⟨R3, 1, none⟩ v).heap[R3]? = some (.cells #[a, v] 53 (0, 0)) :=
  ⟨row_cell h3 rfl, row_frozen h3, row_cell (row_set h3 a) rfl, row_frozen (row_set h3 a), row_set h3 a, row_set (row_set h3 a) v⟩
/-- what the region leaves -/
structure Fin (w0 W wf : World) (X G R3 : Nat) (hs : List Heap) (outs : List Int) (hv : Value) (L : List Hp) (p : Hp) (h : Heap) : Prop where
  rel : LRel w0 wf X G hs outs hv L
  at3 : At wf G p h
  cell : wf.heap[R3]? = some (.cells #[.int .i64 p.1, p.2] 53 (0, 0))
theorem fin_alloc {p : Hp} {h : Heap} (hd : HLD w0 W w' X G hs outs hv L) (ha : At w' G p h) : Fin w0 W (w'.alloc (.cells #[.int .i64 p.1, p.2] 53)) X G w'.heap.size hs outs hv L p h :=
  ⟨hd.rel.alloc _, ha.ik (IK.of_below (bnew _ _)), heap_alloc_new _ _⟩
theorem fin_set {p : Hp} {h : Heap} {R3 : Nat} (hd : HLD w0 W w' X G hs outs hv L) (ha : At w' G p h) (h3 : w'.heap[R3]? = some (.cells #[.int .i64 0, .slice none 0 0] 53 (0, 0))) (hw : W.heap.size ≤ R3) :
    Fin w0 W ((w'.setCell ⟨R3, 0, none⟩ (.int .i64 p.1)).setCell ⟨R3, 1, none⟩ p.2) X G R3 hs outs hv L p h := by
  have hge := hd.ge
  have hne : hv.ownBlock ≠ some R3 := fun e => by have := hd.own _ e; omega
  have h4 := row_set (i := 0) h3 (.int .i64 p.1)
  exact ⟨(hd.rel.far h3 (by omega) hne _).far h4 (by omega) hne _, (ha.ik (IK.set h3 (.inl (by decide)) _)).ik (IK.set h4 (.inl (by decide)) _), row_set h4 _⟩
end

section
variable {W : World} {n : Nat} {cs cz : Array Value} {es ez : TypeId}
theorem lie1 (hz : W.heap.size = n) : (W.alloc (.cells cs es)).drew.heap[n]? = some (.cells cs es (0, 0)) ∧ n < (W.alloc (.cells cs es)).drew.heap.size := by
  subst hz
  exact ⟨heap_alloc_new W _, by simp [World.drew]⟩
theorem lie2 (hz : W.heap.size = n) : ((W.alloc (.cells cz ez)).alloc (.cells cs es)).drew.heap[n + 1]? = some (.cells cs es (0, 0)) ∧ n + 1 < ((W.alloc (.cells cz ez)).alloc (.cells cs es)).drew.heap.size ∧ ((W.alloc (.cells cz ez)).alloc (.cells cs es)).drew.heap[n]? = some (.cells cz ez (0, 0)) := by
  subst hz
  have h1 := heap_alloc_new (W.alloc (.cells cz ez)) (.cells cs es)
  have hz : (W.alloc (.cells cz ez)).heap.size = W.heap.size + 1 := by simp
  rw [hz] at h1
  exact ⟨h1, by simp [World.drew], ((bnew (W.alloc (.cells cz ez)) (.cells cs es)).block W.heap.size (by omega)).trans (heap_alloc_new W _)⟩
end

/-! ### counting up -/
theorem bump_snoc (is : List Nat) (i : Nat) : ∀ o, bump o (is ++ [i]) = (bump o is).set i ((bump o is).getD i 0 + 1) := by
  induction is with
  | nil => intro o; rfl
  | cons j is ih => intro o; rw [List.cons_append, bump, ih, bump]
theorem bump_bound (is : List Nat) (i : Nat) : ∀ o : List Int, o.getD i 0 ≤ (bump o is).getD i 0 ∧ (bump o is).getD i 0 ≤ o.getD i 0 + is.length := by
  induction is with
  | nil => intro o; simp [bump]
  | cons j is ih =>
    intro o
    rw [bump]
    have h := ih (o.set j (o.getD j 0 + 1))
    have e : o.getD i 0 ≤ (o.set j (o.getD j 0 + 1)).getD i 0 ∧ (o.set j (o.getD j 0 + 1)).getD i 0 ≤ o.getD i 0 + 1 := by
      simp only [List.getD_eq_getElem?_getD, List.getElem?_set]
      by_cases hj : j = i
      · subst hj
        rw [if_pos rfl]
        by_cases hl : j < o.length
        · simp [hl]; omega
        · simp [hl]
      · rw [if_neg hj]; omega
    simp only [List.length_cons]
    omega
theorem run_bound {ws : List Int} (h : ∀ x ∈ ws, 0 ≤ x ∧ x ≤ 1000) (i : Nat) : ∀ t, t < ws.length → 0 ≤ (run ws t).2.getD i 0 ∧ (run ws t).2.getD i 0 ≤ t * ws.length := by
  intro t
  induction t with
  | zero =>
    intro _
    have : (start ws).2.getD i 0 = 0 := by
      simp only [start, List.getD_eq_getElem?_getD, List.getElem?_replicate]
      split <;> rfl
    rw [run, this]; omega
  | succ t ih =>
    intro ht
    have hi := ih (by omega)
    have hf := run_fine h t (by omega)
    have hl := run_length ws t (by omega)
    obtain ⟨a, b, rest, hp, e1, e2, _⟩ := step_perm (s := run ws t) (by omega)
    have hfew := nsum_perm (hp.map fun h => h.2.length)
    have h2 := hf.few
    simp only [List.map_cons, List.sum_cons] at hfew
    rw [run, e2]
    have hb := bump_bound (a.2 ++ b.2) i (run ws t).2
    rw [List.length_append] at hb
    have e : ((t + 1 : Nat) : Int) * (ws.length : Int) = t * ws.length + ws.length := by
      rw [Int.natCast_add, Int.add_mul]; omega
    rw [e]
    omega
theorem Fin.bump_ {w0 W wf : World} {X G R3 : Nat} {hs : List Heap} {outs : List Int} {hv : Value} {L : List Hp} {p : Hp} {h : Heap} (f : Fin w0 W wf X G R3 hs outs hv L p h) (j : Nat) (n : Int) : Fin w0 W (wf.setCell ⟨G, j, none⟩ (.int .i64 n)) X G R3 hs (outs.set j n) hv L p h :=
  ⟨f.rel.bump_ j n, f.at3.ik (IK.set f.rel.out (.inr rfl) _), (heap_far (p := ⟨G, j, none⟩) (fun (e : R3 = G) => ty_ne (e ▸ f.cell) f.rel.out (by decide))).trans f.cell⟩
theorem Fin.alloc {w0 W wf : World} {X G R3 : Nat} {hs : List Heap} {outs : List Int} {hv : Value} {L : List Hp} {p : Hp} {h : Heap} (f : Fin w0 W wf X G R3 hs outs hv L p h) (o : Obj) : Fin w0 W (wf.alloc o) X G R3 hs outs hv L p h :=
  ⟨f.rel.alloc o, f.at3.ik (IK.of_below (bnew _ _)), ((bnew wf o).block R3 (lt_of_some f.cell)).trans f.cell⟩
theorem nats_get (l : List Nat) (k : Nat) : (nats l)[k]? = (l[k]?).map fun (i : Nat) => (i : Int) := by simp [nats]
end Go.Proofs.Ytnaoonegeboflaa.Hf
