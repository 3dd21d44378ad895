/-
  Where everything lies while suffix.Order sorts: the sort's own contract at its closure, and what each store leaves.
-/
import Derived.Test.YtfjjjkfldekooaaSfLess
import Derived.Test.YtfjjjkfldekooaaSfPlain
import Derived.Test.YtfjjjkfldekooaaSortF
import Derived.Test.YtfjjjkfldekooaaIBlk
namespace Go.Proofs.Ytfjjjkfldekooaa
open Go.RowKit Go.Shelf
set_option linter.unusedVariables false
set_option linter.unusedSimpArgs false

def encF (i : Fin 24) : Value := .int .i64 (i.val : Int)
def dN (d : Array (Fin 24)) : List Nat := d.toList.map Fin.val
def cfF (r : List Int) (h : Nat) (x y : Fin 24) : Int := cfR r h x.val y.val
def atV (b6 : Nat) : Value := .func (.func 42) #[] #[.pointer (some ⟨b6, 0, none⟩)]

structure OSt (w : World) (s : ByteArray) (b5 b6 b8 b9 D g co gr cr k : Nat) (d : Array (Fin 24)) (r : List Int) (W : World) : Prop where
  box1 : W.cell? ⟨w.heap.size, 0, none⟩ = some (.string s)
  box5 : W.cell? ⟨b5, 0, none⟩ = some (.slice (some ⟨g, 0, none⟩) s.size co)
  box6 : Boxed W b6 30 (.slice (some ⟨gr, 0, none⟩) s.size cr)
  box8 : W.cell? ⟨b8, 0, none⟩ = some (atV b6)
  box9 : Boxed W b9 3 (.int .i64 (k : Int))
  size : d.size = s.size
  row : Sort.Holds encF W g 0 d
  len : r.length = s.size
  ranks : ∀ (j : Nat) (u : Int), r[j]? = some u → W.cell? ⟨gr, j, none⟩ = some (.int .i64 u)
  lt1 : w.heap.size < W.heap.size
  lt5 : b5 < W.heap.size
  lt8 : b8 < W.heap.size
  ltg : g < W.heap.size
  ltr : gr < W.heap.size
  ne1 : w.heap.size ≠ g
  ne5 : b5 ≠ g
  ne6 : b6 ≠ g
  ne8 : b8 ≠ g
  ne9 : b9 ≠ g
  ner : gr ≠ g
  n61 : w.heap.size ≠ b6
  n65 : b5 ≠ b6
  n68 : b8 ≠ b6
  n69 : b9 ≠ b6
  n6r : gr ≠ b6
  dfr : W.heap[D]? = some (.deferred (some []))
  nDg : D ≠ g
  nD6 : D ≠ b6
  nD9 : D ≠ b9
  lo6 : w.heap.size ≤ b6
  loD : w.heap.size ≤ D
  log : w.heap.size ≤ g
  below : Below w.heap.size w W
namespace OSt
variable {w W W' : World} {s : ByteArray} {b5 b6 b8 b9 D g co gr cr k : Nat} {d : Array (Fin 24)} {r : List Int}
theorem lt6 (h : OSt w s b5 b6 b8 b9 D g co gr cr k d r W) : b6 < W.heap.size := h.box6.lt
theorem ltD (h : OSt w s b5 b6 b8 b9 D g co gr cr k d r W) : D < W.heap.size := (Array.getElem?_eq_some_iff.1 h.dfr).1
theorem lt9 (h : OSt w s b5 b6 b8 b9 D g co gr cr k d r W) : b9 < W.heap.size := h.box9.lt
theorem rbox (h : OSt w s b5 b6 b8 b9 D g co gr cr k d r W) : RBox W b6 gr cr r := ⟨by rw [h.len]; exact h.box6.cell, h.ranks⟩
theorem onto (h : OSt w s b5 b6 b8 b9 D g co gr cr k d r W) (hb : Below W.heap.size W W') : OSt w s b5 b6 b8 b9 D g co gr cr k d r W' :=
  { h with
    box1 := (hb.cell h.lt1).trans h.box1, box5 := (hb.cell h.lt5).trans h.box5, box6 := (hb.block _ h.lt6).trans h.box6, box8 := (hb.cell h.lt8).trans h.box8, box9 := (hb.block _ h.lt9).trans h.box9
    row := fun j hj => ⟨(hb.cell h.ltg).trans (h.row j hj).1, (hb.frozen h.ltg).trans (h.row j hj).2⟩
    ranks := fun j u hu => (hb.cell h.ltr).trans (h.ranks j u hu)
    dfr := (hb.block _ h.ltD).trans h.dfr
    lt1 := Nat.lt_of_lt_of_le h.lt1 hb.size, lt5 := Nat.lt_of_lt_of_le h.lt5 hb.size, lt8 := Nat.lt_of_lt_of_le h.lt8 hb.size, ltg := Nat.lt_of_lt_of_le h.ltg hb.size, ltr := Nat.lt_of_lt_of_le h.ltr hb.size
    below := h.below.trans (hb.mono (Nat.le_of_lt h.lt1)) }
theorem drew (h : OSt w s b5 b6 b8 b9 D g co gr cr k d r W) : OSt w s b5 b6 b8 b9 D g co gr cr k d r W.drew := h.onto (Below.refl _ _).drew
/-- behind the sort -/
theorem sorted {d' : Array (Fin 24)} (h : OSt w s b5 b6 b8 b9 D g co gr cr k d r W) (hd : d'.size = d.size) (m : Nat) (os : Array Obj) : OSt w s b5 b6 b8 b9 D g co gr cr k d' r (sortWorld encF W g 0 m d' os) := by
  have hb : ∀ j, j < W.heap.size → j ≠ g → (sortWorld encF W g 0 m d' os).heap[j]? = W.heap[j]? := by
    intro j hj hne
    unfold sortWorld
    rw [Sort.heap_grow_old _ _ (by simpa using hj)]
    show (Sort.mapBlock _ g _).heap[j]? = _
    unfold Sort.mapBlock
    simp [Array.getElem?_modify, Ne.symm hne]
  have hc : ∀ a : Addr, a.block < W.heap.size → a.block ≠ g → (sortWorld encF W g 0 m d' os).cell? a = W.cell? a := fun a h1 h2 => World.cell?_of_block (hb a.block h1 h2)
  have hsz : W.heap.size ≤ (sortWorld encF W g 0 m d' os).heap.size := by unfold sortWorld; simp
  exact { h with
    box1 := (hc _ h.lt1 h.ne1).trans h.box1, box5 := (hc _ h.lt5 h.ne5).trans h.box5, box6 := (hb _ h.lt6 h.ne6).trans h.box6, box8 := (hc _ h.lt8 h.ne8).trans h.box8, box9 := (hb _ h.lt9 h.ne9).trans h.box9
    size := hd.trans h.size
    dfr := (hb _ h.ltD h.nDg).trans h.dfr
    row := by
      unfold sortWorld
      exact Sort.holds_grow _ _ _ _ _ _ (by simpa using h.ltg) (Sort.holds_putRow _ _ _ _ d d' (Sort.holds_ahead _ _ _ _ _ _ h.row) hd)
    ranks := fun j u hu => (hc _ h.ltr h.ner).trans (h.ranks j u hu)
    lt1 := Nat.lt_of_lt_of_le h.lt1 hsz, lt5 := Nat.lt_of_lt_of_le h.lt5 hsz, lt8 := Nat.lt_of_lt_of_le h.lt8 hsz, ltg := Nat.lt_of_lt_of_le h.ltg hsz, ltr := Nat.lt_of_lt_of_le h.ltr hsz
    below := h.below.trans ⟨rfl, rfl, rfl, hsz, fun j hj => hb j (by have := h.lt1; omega) (by have := h.log; omega)⟩ }
/-- behind 'rank = next' -/
theorem turned {gn cn : Nat} {r' : List Int} (h : OSt w s b5 b6 b8 b9 D g co gr cr k d r W) (hlen : r'.length = s.size) (hn : IBlk W gn r') (h1 : gn ≠ g) (h2 : gn ≠ b6) :
    OSt w s b5 b6 b8 b9 D g co gn cn k d r' (W.setCell ⟨b6, 0, none⟩ (.slice (some ⟨gn, 0, none⟩) s.size cn)) := by
  have hb : ∀ j, j ≠ b6 → (W.setCell ⟨b6, 0, none⟩ (.slice (some ⟨gn, 0, none⟩) s.size cn)).heap[j]? = W.heap[j]? := fun j hj => Below.heap_setCell _ _ _ _ hj
  have hc : ∀ a : Addr, a.block ≠ b6 → (W.setCell ⟨b6, 0, none⟩ (.slice (some ⟨gn, 0, none⟩) s.size cn)).cell? a = W.cell? a := fun a h1 => World.cell?_of_block (hb a.block h1)
  have hsz : (W.setCell ⟨b6, 0, none⟩ (.slice (some ⟨gn, 0, none⟩) s.size cn)).heap.size = W.heap.size := by simp
  exact { h with
    box1 := (hc _ h.n61).trans h.box1, box5 := (hc _ h.n65).trans h.box5, box6 := h.box6.set _, box8 := (hc _ h.n68).trans h.box8, box9 := (hb _ h.n69).trans h.box9
    row := fun j hj => ⟨(hc _ (Ne.symm h.ne6)).trans (h.row j hj).1, by rw [World.frozen?_setCell]; exact (h.row j hj).2⟩
    len := hlen
    dfr := (hb _ h.nD6).trans h.dfr
    ranks := fun j u hu => (hc _ h2).trans (hn.cell hu)
    lt1 := by rw [hsz]; exact h.lt1
    lt5 := by rw [hsz]; exact h.lt5
    lt8 := by rw [hsz]; exact h.lt8
    ltg := by rw [hsz]; exact h.ltg
    ltr := by rw [hsz]; exact hn.lt
    ner := h1, n6r := h2
    below := h.below.setCell (p := ⟨b6, 0, none⟩) h.lo6 _ }
/-- behind the next round's own k -/
theorem next (h : OSt w s b5 b6 b8 b9 D g co gr cr k d r W) (k' : Nat) : OSt w s b5 b6 b8 W.heap.size D g co gr cr k' d r (W.alloc (.cells #[.int .i64 (k' : Int)] 3)) :=
  { h.onto ((Below.refl _ _).alloc (Nat.le_refl _) _) with
    box9 := Boxed.new _ _ _, nD9 := by have := h.ltD; omega, ne9 := by have := h.ltg; omega, n69 := by have := h.lt6; omega }
/-- .. and behind 'k *= 2' -/
theorem times (h : OSt w s b5 b6 b8 b9 D g co gr cr k d r W) (h1 : w.heap.size < b9) (h5 : b5 ≠ b9) (h8 : b8 ≠ b9) (hr : gr ≠ b9) (k' : Nat) : OSt w s b5 b6 b8 b9 D g co gr cr k' d r (W.setCell ⟨b9, 0, none⟩ (.int .i64 (k' : Int))) := by
  have hb : ∀ j, j ≠ b9 → (W.setCell ⟨b9, 0, none⟩ (.int .i64 (k' : Int))).heap[j]? = W.heap[j]? := fun j hj => Below.heap_setCell _ _ _ _ hj
  have hc : ∀ a : Addr, a.block ≠ b9 → (W.setCell ⟨b9, 0, none⟩ (.int .i64 (k' : Int))).cell? a = W.cell? a := fun a h1 => World.cell?_of_block (hb a.block h1)
  have hsz : (W.setCell ⟨b9, 0, none⟩ (.int .i64 (k' : Int))).heap.size = W.heap.size := by simp
  exact { h with
    box1 := (hc _ (by show w.heap.size ≠ b9; omega)).trans h.box1, box5 := (hc _ h5).trans h.box5, box6 := (hb _ (Ne.symm h.n69)).trans h.box6, box8 := (hc _ h8).trans h.box8, box9 := h.box9.set _
    row := fun j hj => ⟨(hc _ (Ne.symm h.ne9)).trans (h.row j hj).1, by rw [World.frozen?_setCell]; exact (h.row j hj).2⟩
    ranks := fun j u hu => (hc _ hr).trans (h.ranks j u hu)
    dfr := (hb _ h.nD9).trans h.dfr
    lt1 := by rw [hsz]; exact h.lt1
    lt5 := by rw [hsz]; exact h.lt5
    lt8 := by rw [hsz]; exact h.lt8
    ltg := by rw [hsz]; exact h.ltg
    ltr := by rw [hsz]; exact h.ltr
    below := h.below.setCell (p := ⟨b9, 0, none⟩) (by show w.heap.size ≤ b9; omega) _ }
theorem cellOut (h : OSt w s b5 b6 b8 b9 D g co gr cr k d r W) {t : Nat} {u : Nat} (ht : (dN d)[t]? = some u) : W.cell? ⟨g, t, none⟩ = some (.int .i64 (u : Int)) := by
  unfold dN at ht
  rw [List.getElem?_map] at ht
  obtain ⟨x, hx, rfl⟩ := Option.map_eq_some_iff.1 ht
  rw [Array.getElem?_toList] at hx
  obtain ⟨hlt, rfl⟩ := Array.getElem?_eq_some_iff.1 hx
  have := (h.row t hlt).1
  rw [Nat.zero_add, getElem!_pos d t hlt] at this
  exact this
theorem reads (h : OSt w s b5 b6 b8 b9 D g co gr cr k d r W) (hW : W'.heap[g]? = W.heap[g]?) (hs : W.heap.size ≤ W'.heap.size) : Reads W' (some ⟨g, 0, none⟩) s.size 1 (ints (natsI (dN d))) := by
  have hl : (dN d).length = s.size := by unfold dN; simpa using h.size
  refine ⟨by rw [ints_length, natsI_length, hl, Nat.mul_one], fun _ => ⟨g, 0, rfl, Nat.lt_of_lt_of_le h.ltg hs, fun j u hu => ?_⟩⟩
  rw [ints_get, natsI_get] at hu
  rw [Nat.zero_add, World.cell?_of_block (w := W) hW]
  cases ht : (dN d)[j]? with
  | none => rw [ht] at hu; cases hu
  | some x =>
    rw [ht] at hu
    simp at hu
    subst hu
    exact h.cellOut ht
end OSt

theorem below_grow (W : World) (n : Nat) (os : Array Obj) : Below W.heap.size W (Sort.grow (W.drewN n) os) := ⟨rfl, rfl, rfl, by simp, fun k hk => Sort.heap_grow_old _ _ hk⟩

/-- the closure, at any two places, where the ranks are right: the order by the first k bytes -/
theorem ltOf_bef {l : List UInt8} {m k h : Nat} {r : List Int} (hr : RankOk l m r) (hk : (k = 1 ∧ h = 0 ∧ m = 1) ∨ (k = m + m ∧ h = m)) (x y : Fin 24) : ltOf (cfF r h) x y = bef ((l.drop x.val).take k) ((l.drop y.val).take k) := by
  unfold ltOf cfF
  rw [Bool.eq_iff_iff, decide_eq_true_iff]
  exact cfR_bef hr hk x.val y.val

set_option maxHeartbeats 1000000 in
theorem less_in {w W : World} {s : ByteArray} {b5 b6 b8 b9 D g co gr cr k : Nat} {d : Array (Fin 24)} {r : List Int} (h : OSt w s b5 b6 b8 b9 D g co gr cr k d r W) (hs : s.size ≤ 24) (hk : k ≤ 100) (x y : Fin 24) :
    Calls Try.prog 43 #[.int .i64 (x.val : Int), .int .i64 (y.val : Int), .pointer (some ⟨b8, 0, none⟩), .pointer (some ⟨b9, 0, none⟩)] W fun e w' => e = .returned (.int .i64 (cfF r (k / 2) x y)) ∧ ∃ q os', w' = Sort.grow (W.drewN q) os' := by
  refine (less_any x.val y.val (k / 2) b6 b8 b9 gr cr (k : Int) r W h.rbox h.box8 h.box9.cell (by rw [Int.tdiv_eq_ediv_of_nonneg (by omega)]; omega) (by have := x.isLt; omega) (by have := y.isLt; omega) (by omega) (by have := h.len; omega)).mono ?_
  rintro e w' ⟨rfl, rfl⟩
  exact ⟨rfl, 1, #[.cells #[.int .i64 (cmpI (atR r x.val) (atR r y.val)), .int .i64 (cmpI (atR r (x.val + k / 2)) (atR r (y.val + k / 2)))] 3], by rw [Sort.alloc_eq_grow]; rfl⟩

set_option maxHeartbeats 1000000 in
theorem sort_any {w W : World} {s : ByteArray} {b5 b6 b8 b9 D g co gr cr k : Nat} {d : Array (Fin 24)} {r : List Int} (h : OSt w s b5 b6 b8 b9 D g co gr cr k d r W) (hs : s.size ≤ 24) (h0 : 0 < s.size) (hk : k ≤ 100)
    {m : Nat} (hr : RankOk (s.data.toList) m r) (hkm : (k = 1 ∧ k / 2 = 0 ∧ m = 1) ∨ (k = m + m ∧ k / 2 = m)) (hp : (dN d).Perm (List.range s.size)) :
    Calls Try.prog 46 #[.slice (some ⟨g, 0, none⟩) s.size co, .func (.func 43) #[] #[.pointer (some ⟨b8, 0, none⟩), .pointer (some ⟨b9, 0, none⟩)]] W fun e W' =>
      e = .returned (.tuple #[]) ∧ ∃ d' : Array (Fin 24), (dN d').Perm (List.range s.size) ∧ (∀ i j, i < j → j < s.size → bef ((s.data.toList.drop ((dN d')[j]?.getD 0)).take k) ((s.data.toList.drop ((dN d')[i]?.getD 0)).take k) = false) ∧ OSt w s b5 b6 b8 b9 D g co gr cr k d' r W' := by
  have hlt : ∀ x y : Fin 24, ltOf (cfF r (k / 2)) x y = bef ((s.data.toList.drop x.val).take k) ((s.data.toList.drop y.val).take k) := fun x y => ltOf_bef hr hkm x y
  have hO : Sort.SWO (ltOf (cfF r (k / 2) )) := ⟨fun x => by rw [hlt]; exact bef_irrefl _, fun x y z => by rw [hlt, hlt, hlt]; exact bef_trans _ _ _, fun x y z => by rw [hlt, hlt, hlt]; exact bef_ntrans⟩
  have eg : ∀ args w, (callFunc 43 args).run Try.prog w = .ok (.enter 43 args) w := enters_of Try.func43 (by kernel_rfl) rfl
  have hcmp : CmpLays1 Try.prog 43 #[.pointer (some ⟨b8, 0, none⟩), .pointer (some ⟨b9, 0, none⟩)] encF (cfF r (k / 2)) g 0 d.size W := by
    intro mm os dk hdk x y
    exact less_in (h.sorted hdk mm os) hs hk x y
  have hcon := Any.slices_SortFunc Try.sortF encF (fun _ => rfl) (cfF r (k / 2)) hO 43 #[.pointer (some ⟨b8, 0, none⟩), .pointer (some ⟨b9, 0, none⟩)] g 0 co d W eg hcmp h.row h.ltg (by have := h.size; omega)
  rw [h.size] at hcon
  change Calls Try.prog 46 _ _ _ at hcon
  refine hcon.mono ?_
  rintro e W' ⟨rfl, d', n, os, hperm, hsort, rfl⟩
  refine ⟨rfl, d', ?_, ?_, h.sorted (hperm.1) n os⟩
  · have h3 := hperm.2.2
    rw [← h.size] at h3
    have e1 : d'.extract 0 d.size = d' := by rw [← hperm.1]; simp
    have e2 : d.extract 0 d.size = d := by simp
    rw [e1, e2] at h3
    exact (h3.map Fin.val).trans hp
  · intro i j hij hj
    have h3 := hsort i j (Nat.zero_le _) hij hj
    have hd' : d'.size = s.size := hperm.1.trans h.size
    rw [getElem!_pos d' j (by omega), getElem!_pos d' i (by omega), hlt] at h3
    have g1 : ∀ t (ht : t < d'.size), (dN d')[t]?.getD 0 = d'[t].val := fun t ht => by
      unfold dN
      rw [List.getElem?_map, Array.getElem?_toList, Array.getElem?_eq_getElem ht]; rfl
    rw [g1 j (by omega), g1 i (by omega)]
    exact h3
end Go.Proofs.Ytfjjjkfldekooaa
