/-
  A region that draws its order, with loads taken first though stores of the same region turn what they read: each such store waits for each such load.
-/
import Derived.Test.YtfjjjkfldekooaaRound
namespace Go.Proofs.Ytfjjjkfldekooaa
open Go.RowKit
set_option linter.unusedVariables false
set_option linter.unusedSimpArgs false
section
variable {P : Program} {ops : Array Oper} {Q : Exit → Act → World → Prop} {md : Region.Mode} {S : World → Prop} {st : List Nat}

/-- whatever order is picked from here on, and S holds behind every operation that is none of st -/
def wpAnyL (P : Program) (md : Region.Mode) (ops : Array Oper) (Q : Exit → Act → World → Prop) (S : World → Prop) (st : List Nat) : Nat → Array Bool → Act → World → Prop
  | 0, listed, a, w => Region.ready md ops listed = [] ∧ Q .normal a w
  | fuel + 1, listed, a, w =>
    (Region.ready md ops listed = [] → Q .normal a w) ∧
    ∀ i ∈ Region.ready md ops listed, wpOp P ops Q i (fun a' w' => (i ∉ st → S w') ∧ wpAnyL P md ops Q S st fuel (listed.setIfInBounds i true) a' w') a w

theorem wpAny_of_late : ∀ (fuel : Nat) (listed : Array Bool) (a : Act) (w : World), wpAnyL P md ops Q S st fuel listed a w → wpAny P md ops Q fuel listed a w
  | 0, _, _, _, h => h
  | fuel + 1, _, _, _, h => ⟨h.1, fun i hi => wpOp_mono (fun a' w' h' => wpAny_of_late fuel _ a' w' h'.2) (h.2 i hi)⟩

/-- what is listed has all that it waits for listed -/
def Closed (md : Region.Mode) (ops : Array Oper) (listed : Array Bool) : Prop :=
  ∀ (j : Nat) (o : Oper), ops[j]? = some o → listed.getD j false = true → ∀ e ∈ o.after, Region.binds md e = true → listed.getD e.on false = true
theorem closed_none (md : Region.Mode) (ops : Array Oper) (n : Nat) : Closed md ops (Array.replicate n false) := by
  intro j o ho h
  simp [Array.getElem?_replicate] at h
  split at h <;> simp at h
theorem Closed.step {listed : Array Bool} {j : Nat} (h : Closed md ops listed) (hj : j ∈ Region.ready md ops listed) : Closed md ops (listed.setIfInBounds j true) := by
  intro k o ho hk e he hb
  obtain ⟨_, o', ho', hall⟩ := mem_ready.1 hj
  by_cases hkj : j = k
  · subst hkj
    rw [ho'] at ho
    cases ho
    exact getD_set_true (hall e he hb)
  · rw [getD_set_ne false hkj] at hk
    exact getD_set_true (h k o ho hk e he hb)

/-- each waits for the next -/
def linked (md : Region.Mode) (ops : Array Oper) : List Nat → Bool
  | x :: y :: r => ((ops[x]?).map (fun o => o.after.any fun e => Region.binds md e && e.on == y)).getD false && linked md ops (y :: r)
  | _ => true
theorem linked_edge {x y : Nat} {r : List Nat} (h : linked md ops (x :: y :: r) = true) : ∃ o, ops[x]? = some o ∧ ∃ e ∈ o.after, Region.binds md e = true ∧ e.on = y := by
  simp only [linked, Bool.and_eq_true] at h
  cases ho : ops[x]? with
  | none => rw [ho] at h; simp at h
  | some o =>
    rw [ho] at h
    obtain ⟨e, he, hb⟩ := Array.any_eq_true'.1 (show (o.after.any fun e => Region.binds md e && e.on == y) = true from h.1)
    simp only [Bool.and_eq_true, beq_iff_eq] at hb
    exact ⟨o, rfl, e, he, hb⟩
theorem linked_unlisted {listed : Array Bool} {i : Nat} (hc : Closed md ops listed) (hi : listed.getD i false = false) : ∀ (p : List Nat) (j : Nat), linked md ops (j :: p) = true → (j :: p).getLast? = some i → listed.getD j false = false
  | [], j, _, hl => by simp at hl; subst hl; exact hi
  | y :: r, j, h, hl => by
    have hy : listed.getD y false = false := linked_unlisted hc hi r y (by simp only [linked, Bool.and_eq_true] at h; exact h.2) (by simpa using hl)
    obtain ⟨o, ho, e, he, hb, rfl⟩ := linked_edge h
    cases hj : listed.getD j false
    · rfl
    · rw [hc j o ho hj e he hb] at hy; cases hy
theorem linked_wait {listed : Array Bool} {i j y : Nat} {r : List Nat} (hc : Closed md ops listed) (hi : listed.getD i false = false) (h : linked md ops (j :: y :: r) = true) (hl : (y :: r).getLast? = some i) : j ∉ Region.ready md ops listed := by
  intro hr
  have hy : listed.getD y false = false := linked_unlisted hc hi r y (by simp only [linked, Bool.and_eq_true] at h; exact h.2) hl
  obtain ⟨_, o', ho', hall⟩ := mem_ready.1 hr
  obtain ⟨o, ho, e, he, hb, rfl⟩ := linked_edge h
  rw [ho] at ho'
  cases ho'
  rw [hall e he hb] at hy; cases hy
/-- the paths from each of st to i -/
def waits (md : Region.Mode) (ops : Array Oper) (st : List Nat) (i : Nat) (ps : List (List Nat)) : Bool :=
  st.all fun j => ps.any fun p => match p with | x :: y :: r => x == j && linked md ops (x :: y :: r) && (y :: r).getLast? == some i | _ => false
theorem waits_spec {listed : Array Bool} {i j : Nat} {ps : List (List Nat)} (h : waits md ops st i ps = true) (hc : Closed md ops listed) (hi : listed.getD i false = false) (hj : j ∈ st) : j ∉ Region.ready md ops listed := by
  unfold waits at h
  obtain ⟨p, _, hp⟩ := List.any_eq_true.1 (List.all_eq_true.1 h j hj)
  match p, hp with
  | x :: y :: r, hp =>
    simp only [Bool.and_eq_true, beq_iff_eq] at hp
    obtain ⟨⟨rfl, h1⟩, h2⟩ := hp
    exact linked_wait hc hi h1 h2
theorem unlisted_of_ready {listed : Array Bool} {i : Nat} (h : i ∈ Region.ready md ops listed) : listed.getD i false = false := by
  have h0 := (mem_ready.1 h).1
  rcases Nat.lt_or_ge i listed.size with h' | h'
  · simpa [h'] using h0
  · simp [Array.getElem?_eq_none h']

theorem wpAnyL_first {i : Nat} {oi : Oper} {v : Value} {ps : List (List Nat)} (hi : ops[i]? = some oi) (hsel : ∀ (j : Nat) (o : Oper) cs b, ops[j]? = some o → o.op ≠ .select cs b) (hw : waits md ops st i ps = true)
    (hQ : ∀ c a w, Q (.panic c) (a.put oi.dst v) w → Q (.panic c) a w) :
    ∀ (fuel : Nat) (listed : Array Bool) (a : Act) (w : World),
      (∀ j oj, ops[j]? = some oj → j ≠ i → listed.getD j true = false → (∀ e ∈ oj.after, Region.binds md e = true → e.on ≠ i) → oi.apart ops oj = true) →
      Closed md ops listed → i ∈ Region.ready md ops listed → YieldsIf P ops S oi v a → S w →
      wpAnyL P md ops Q S st fuel (listed.setIfInBounds i true) (a.put oi.dst v) w → wpAnyL P md ops Q S st (fuel + 1) listed a w := by
  intro fuel
  induction fuel with
  | zero =>
    intro listed a w _ _ hr hy hS H
    refine ⟨fun h => (by rw [h] at hr; cases hr), fun j hj => ?_⟩
    by_cases hji : j = i
    · subst hji; exact hy.wpOp hi hS ⟨fun _ => hS, H⟩
    · have := ready_mono hj hji
      rw [H.1] at this
      cases this
  | succ fuel ih =>
    intro listed a w hfree hcl hr hy hS H
    refine ⟨fun h => (by rw [h] at hr; cases hr), fun j hj => ?_⟩
    by_cases hji : j = i
    · subst hji; exact hy.wpOp hi hS ⟨fun _ => hS, H⟩
    · have hjst : j ∉ st := fun hm => waits_spec hw hcl (unlisted_of_ready hr) hm hj
      have h1 := H.2 j (ready_mono hj hji)
      obtain ⟨hjun, oj, hoj, hall⟩ := mem_ready.1 hj
      have hnot : ∀ e ∈ oj.after, Region.binds md e = true → e.on ≠ i := fun e he hb heq => by
        have h1 := hall e he hb
        rw [heq, unlisted_of_ready hr] at h1
        cases h1
      have h2 := wpOp_putIf hoj (hfree j oj hoj hji hjun hnot) (fun cs b => hsel i oi cs b hi) (fun cs b => hsel j oj cs b hoj) hQ hy h1
      refine wpOp_mono (fun a' w' h3 => ⟨h3.2.1, ih (listed.setIfInBounds j true) a' w' (fun k ok hk hki hun hno => ?_) (hcl.step hj) (ready_mono hr (Ne.symm hji)) h3.1 (h3.2.1 hjst) ?_⟩) h2
      · refine hfree k ok hk hki ?_ hno
        by_cases hjk : j = k
        · subst hjk; exact hjun
        · rw [getD_set_ne true hjk] at hun; exact hun
      · rw [Array.setIfInBounds_comm _ _ hji]
        exact h3.2.2

/-- the state of a walk: what is listed is closed -/
def Walk (P : Program) (md : Region.Mode) (ops : Array Oper) (Q : Exit → Act → World → Prop) (S : World → Prop) (st : List Nat) (fuel : Nat) (listed : Array Bool) (a : Act) (w : World) : Prop :=
  Closed md ops listed → wpAnyL P md ops Q S st fuel listed a w
theorem walk_take {i : Nat} {oi : Oper} {v : Value} {fuel : Nat} {listed : Array Bool} {a : Act} {w : World} (ps : List (List Nat)) (hi : ops[i]? = some oi)
    (hs : Region.noSelect ops = true) (hf : Region.free md ops listed i = true) (hr : (Region.ready md ops listed).contains i = true) (hw : waits md ops st i ps = true)
    (hQ : ∀ c a w, Q (.panic c) (a.put oi.dst v) w → Q (.panic c) a w) (hy : YieldsIf P ops S oi v a) (hS : S w)
    (h : Walk P md ops Q S st fuel (listed.setIfInBounds i true) (a.put oi.dst v) w) : Walk P md ops Q S st (fuel + 1) listed a w := fun hcl =>
  wpAnyL_first hi (Region.noSelect_spec hs) hw hQ fuel listed a w (Region.free_spec hi hf) hcl (by simpa using hr) hy hS (h (hcl.step (by simpa using hr)))
/-- each of the operations rs comes up next -/
def Each (P : Program) (md : Region.Mode) (ops : Array Oper) (Q : Exit → Act → World → Prop) (S : World → Prop) (st : List Nat) (fuel : Nat) (listed : Array Bool) (a : Act) (w : World) (rs : List Nat) : Prop :=
  ∀ i ∈ rs, wpOp P ops Q i (fun a' w' => (i ∉ st → S w') ∧ Walk P md ops Q S st fuel (listed.setIfInBounds i true) a' w') a w
theorem Each.nil {fuel : Nat} {listed : Array Bool} {a : Act} {w : World} : Each P md ops Q S st fuel listed a w [] := fun _ h => by cases h
theorem Each.cons {fuel : Nat} {listed : Array Bool} {a : Act} {w : World} {i : Nat} {o : Oper} {rs : List Nat} (ho : ops[i]? = some o)
    (h : ∀ K' : Act → World → Prop, Shut (∀ a w, (i ∉ st → S w) → Walk P md ops Q S st fuel (listed.setIfInBounds i true) a w → K' a w) → if Region.wanted o (yielded ops a.tmps) = true then Oper.wp P o a w K' Q else K' (a.put o.dst undef) w)
    (hs : Each P md ops Q S st fuel listed a w rs) : Each P md ops Q S st fuel listed a w (i :: rs) := fun j hj => by
  rcases List.mem_cons.1 hj with rfl | hj
  · exact wpOp_step ho (fun K' hK => h K' (fun a w hS hW => hK a w ⟨hS, hW⟩))
  · exact hs j hj
theorem walk_ready {rs : List Nat} {fuel : Nat} {listed : Array Bool} {a : Act} {w : World} (hr : Region.ready md ops listed = rs) (hne : rs ≠ [])
    (h : Each P md ops Q S st fuel listed a w rs) : Walk P md ops Q S st (fuel + 1) listed a w := fun hcl =>
  ⟨fun h0 => absurd (hr ▸ h0) hne, fun i hi => wpOp_mono (fun a' w' h' => ⟨h'.1, h'.2 (hcl.step hi)⟩) (h i (hr ▸ hi))⟩
theorem walk_done {listed : Array Bool} {a : Act} {w : World} (hr : Region.ready md ops listed = []) (h : Q .normal a w) : ∀ fuel, Walk P md ops Q S st fuel listed a w
  | 0 => fun _ => ⟨hr, h⟩
  | _ + 1 => fun _ => ⟨fun _ => h, by rw [hr]; simp⟩

/-- the way into a round -/
theorem region_late {l n id : Nat} {a : Act} {w : World} (S : World → Prop) (st : List Nat) (hm : P.follows .mixedOrders = true) (hnd : noDefer ops = true) (hQ : ¬ LetsOut Q)
    (h : Walk P .any ops Q S st ops.size (Array.replicate ops.size false) a w.drew) : (Code.region id ops true).wpIn (Fence.wide.inRound l) n P Q a w :=
  wpIn_region_any hm (wpAny_round (noDefer_spec hnd) hQ _ _ _ _ (wpAny_of_late _ _ _ _ (h (closed_none _ _ _))))
/-- .. and outside of one -/
theorem region_late0 {id : Nat} {a : Act} {w : World} (S : World → Prop) (st : List Nat) (hm : P.follows .mixedOrders = true)
    (h : Walk P .any ops Q S st ops.size (Array.replicate ops.size false) a w.drew) : (Code.region id ops true).wp P Q a w :=
  wp_region_any hm (wpAny_of_late _ _ _ _ (h (closed_none _ _ _)))
end
end Go.Proofs.Ytfjjjkfldekooaa
