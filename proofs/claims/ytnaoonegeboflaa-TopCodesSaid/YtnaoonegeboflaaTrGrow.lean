/-
  The walk of trie.grow: words are laid into a tree.
-/
import Derived.Test.YtnaoonegeboflaaTrie
import Derived.Carry
import Derived.Laws.EntriesVeiled
import Derived.WideLaws
namespace Go.Proofs.Ytnaoonegeboflaa
open Go.RowKit
set_option linter.unusedVariables false
set_option linter.unusedSimpArgs false

/-- the place of a word, the last one; -1 of none -/
def wdOf (ws : List (List UInt8)) (v : List UInt8) : Int := ws.zipIdx.foldl (fun (r : Int) (p : List UInt8 × Nat) => if p.1 = v then (p.2 : Int) else r) (-1)
theorem wdOf_nil (v : List UInt8) : wdOf [] v = -1 := rfl
theorem wdOf_snoc (ws : List (List UInt8)) (x v : List UInt8) : wdOf (ws ++ [x]) v = if x = v then (ws.length : Int) else wdOf ws v := by
  unfold wdOf
  rw [List.zipIdx_append, List.foldl_append]
  simp
theorem wdOf_none {ws : List (List UInt8)} {v : List UInt8} (h : v ∉ ws) : wdOf ws v = -1 := by
  suffices ∀ (k : Nat) (r : Int), (ws.zipIdx k).foldl (fun (r : Int) (p : List UInt8 × Nat) => if p.1 = v then (p.2 : Int) else r) r = r from this 0 _
  induction ws with
  | nil => intro k r; rfl
  | cons x ws ih =>
    intro k r
    simp only [List.mem_cons, not_or] at h
    rw [List.zipIdx_cons, List.foldl_cons, if_neg (fun e => h.1 e.symm)]
    exact ih h.2 _ _
def Has (ws : List (List UInt8)) (p : List UInt8) (v : List UInt8) : Prop := v = [] ∨ (∃ x ∈ ws, v <+: x) ∨ v <+: p
theorem Has.word {ws : List (List UInt8)} {x v : List UInt8} : Has ws x v ↔ Has (ws ++ [x]) [] v := by
  unfold Has
  constructor
  · rintro (h | ⟨y, h1, h2⟩ | h)
    · exact .inl h
    · exact .inr (.inl ⟨y, by simp [h1], h2⟩)
    · exact .inr (.inl ⟨x, by simp, h⟩)
  · rintro (h | ⟨y, h1, h2⟩ | h)
    · exact .inl h
    · rcases List.mem_append.1 h1 with h1 | h1
      · exact .inr (.inl ⟨y, h1, h2⟩)
      · simp at h1; subst h1; exact .inr (.inr h2)
    · exact .inl (by simpa using h)
theorem prefix_snoc (v p : List UInt8) (c : UInt8) : v <+: p ++ [c] ↔ v <+: p ∨ v = p ++ [c] := by
  constructor
  · rintro ⟨r, h⟩
    rcases List.eq_nil_or_concat r with rfl | ⟨r', z, hr⟩
    · right; simpa using h
    · left
      rw [hr, List.concat_eq_append, ← List.append_assoc] at h
      exact ⟨r', (List.append_inj' h rfl).1⟩
  · rintro (h | h)
    · exact h.trans (List.prefix_append _ _)
    · rw [h]; exact List.prefix_refl _

set_option maxHeartbeats 1000000 in
set_option maxRecDepth 100000 in
theorem grow_any (A : Option Addr) (c : Nat) (L : List ByteArray) (w : World) (hr : Reads w A L.length 1 (texts L)) (hL : L.length ≤ 1000) (hsz : ∀ s ∈ L, s.size ≤ 1000) :
    Calls Try.prog 42 #[.slice A L.length c] w fun e w' => (∃ (N : Nat) (at_ : List UInt8 → Option Nat) (wd : List UInt8 → Int) (r : Nat), e = .returned (.pointer (some ⟨r, 0, none⟩)) ∧ Tr w' w.heap.size N at_ wd ∧ at_ [] = some r ∧
      (∀ v, at_ v ≠ none ↔ Has (L.map bs) [] v) ∧ ∀ v, at_ v ≠ none → wd v = wdOf (L.map bs) v) ∧ Below w.heap.size w w' := by
  obtain ⟨n, hn⟩ : ∃ n, n = L.length := ⟨_, rfl⟩
  rw [← hn] at hr hL ⊢
  have HN := Lib.hid hn
  clear hn
  have hcv := fun (W : World) (s : ByteArray) => Lib.run_convert_string_bytes W 9 61 5 s Try.underlying9 Try.underlying61 Try.underlying5
  have hmm := @run_makeMap Try.prog
  have hroot := Tr.root w
  go_enter Try.func42, Try.ntmps42
  go_wp2_with fail
  obtain ⟨rt, hrt⟩ : ∃ rt, rt = w.heap.size + 1 := ⟨_, rfl⟩
  have hb0 : Below w.heap.size w ((w.alloc (.map #[] 0)).alloc (.cells #[.map (some w.heap.size), .int .i64 (-1)] 77)) := bmore (bnew _ _) _
  rw [← hrt] at hroot ⊢
  obtain ⟨at0, ha0⟩ : ∃ at0 : List UInt8 → Option Nat, at0 = fun u => if u = [] then some rt else none := ⟨_, rfl⟩
  rw [← ha0] at hroot
  have hhas1 : ∀ v, at0 v ≠ none ↔ Has ((L.take 0).map bs) [] v := by
    intro v
    rw [ha0]
    by_cases hv : v = []
    · simp [hv, Has]
    · simp [hv, Has]
  have hat0 : at0 [] = some rt := by rw [ha0]; rfl
  have hwd0 : ∀ v, at0 v ≠ none → (fun _ : List UInt8 => (-1 : Int)) v = wdOf ((L.take 0).map bs) v := fun v _ => by simp [wdOf_nil]
  clear ha0
  generalize (fun _ : List UInt8 => (-1 : Int)) = wd0 at hroot hwd0
  generalize (w.alloc (.map #[] 0)).alloc (.cells #[.map (some w.heap.size), .int .i64 (-1)] 77) = wz at *
  clear hrt
  go_loopw [4, 5, 6, 8, 14, 15, 16, 17, 18, 19, 20, 21, 22, 23, 24, 25, 26, 27, 28, 29, 30, 31, 32, 33, 34, 35, 36, 37, 38, 39, 40, 41, 42, 43, 44, 45, 46, 47, 48, 49, 50, 51, 52, 53] (fun _ _ _ _ v14 _ _ _ _ _ _ _ _ _ _ _ _ _ _ _ _ _ _ _ _ _ _ _ _ _ _ _ _ _ _ _ _ _ _ _ _ _ _ _ wr => ∃ (i N : Nat) (at_ : List UInt8 → Option Nat) (wd : List UInt8 → Int), v14 = .int .i64 (i : Int) ∧ i ≤ n ∧ Tr wr w.heap.size N at_ wd ∧ N ≤ i * 1000 ∧ at_ [] = some rt ∧ (∀ v, at_ v ≠ none ↔ Has ((L.take i).map bs) [] v) ∧ (∀ v, at_ v ≠ none → wd v = wdOf ((L.take i).map bs) v) ∧ Below w.heap.size w wr) (fun _ _ _ _ v14 _ _ _ _ _ _ _ _ _ _ _ _ _ _ _ _ _ _ _ _ _ _ _ _ _ _ _ _ _ _ _ _ _ _ _ _ _ _ _ _ => n - (intOf v14).toNat)
  case atStart => exact ⟨0, 0, at0, wd0, rfl, by omega, hroot, by omega, hat0, hhas1, hwd0, hb0⟩
  case round =>
    obtain ⟨i, N, at_, wd, rfl, hin, hT, hN, hat, hmem, hwd, hb⟩ := hrel
    clear hroot hat0 hhas1 hwd0 hb0
    by_cases hlt : i < n
    · have kk : (i : Int) < (n : Int) := by omega
      have e1 : IntKind.i64.wrap ((i : Int) + 1) = (i : Int) + 1 := IntWalk.i64_in _ (by omega)
      obtain ⟨ba, of, rfl, hbl, hc⟩ := (hr.below hb).2 (by omega)
      obtain ⟨x, hx⟩ : ∃ x, L[i]? = some x := ⟨_, List.getElem?_eq_getElem (by have := HN.out; omega)⟩
      have c0 := hc i (.string x) (by rw [texts_get, hx]; rfl)
      have hxs := hsz x (List.mem_of_getElem? hx)
      obtain ⟨ws, hws⟩ : ∃ ws, ws = (L.take i).map bs := ⟨_, rfl⟩
      have hws2 : (L.take (i + 1)).map bs = ws ++ [bs x] := by rw [List.take_add_one, hx, List.map_append, hws]; rfl
      have hwl : ws.length = i := by rw [hws]; simp; have := HN.out; omega
      rw [← hws] at hmem hwd
      have hbw : wr.grownBy (Lib.bytesWorld wr 5 x) none := ⟨rfl, rfl, rfl, by rw [Lib.bytesWorld_size]; omega, fun k hk _ => Lib.bytesWorld_at_old wr 5 x k hk⟩
      have hT1 := hT.onto hbw
      have hb1 : Below w.heap.size w (Lib.bytesWorld wr 5 x) := hb.grown hbw hb.size (fun k e => by cases e)
      have hBB := Lib.bytesWorld_at_new wr 5 x
      have hcell : ∀ W' : World, W'.heap[wr.heap.size]? = (Lib.bytesWorld wr 5 x).heap[wr.heap.size]? → ∀ j, j < x.size → W'.cell? ⟨wr.heap.size, j, none⟩ = some (.int .u8 (((bs x)[j]?.getD 0).toNat : Int)) := by
        intro W' hW j hj
        rw [World.cell?_of_block (w := Lib.bytesWorld wr 5 x) hW, Lib.bytesWorld_cell wr 5 x j hj]
        rw [List.getD_eq_getElem?_getD]
        rfl
      have HBB := Lib.hid hBB
      have HCELL := Lib.hid hcell
      have HWS := Lib.hid hws2
      have HWL := Lib.hid hwl
      have hcx := hcv wr x
      clear hc hx hws hws2 hwl hcell hBB hT hb hbw
      go_wp2_with fail
      obtain ⟨B0, hB0⟩ : ∃ B0, B0 = wr.heap.size := ⟨_, rfl⟩
      rw [← hB0] at HCELL HBB ⊢
      have HB0 := Lib.hid hB0
      generalize Lib.bytesWorld wr 5 x = wb at *
      clear hcx hB0
      go_loopw [6, 8, 23, 24, 25, 26, 27, 28, 29, 30, 31, 32, 33, 34, 35, 36, 37, 38, 39, 40, 41, 42, 43, 44, 45, 46, 47, 48] (fun v6 _ v23 _ _ _ _ _ _ _ _ _ _ _ _ _ _ _ _ _ _ _ _ _ _ _ _ _ wx => ∃ (j N : Nat) (b : Nat) (at_ : List UInt8 → Option Nat) (wd : List UInt8 → Int), v6 = .pointer (some ⟨b, 0, none⟩) ∧ v23 = .int .i64 (j : Int) ∧ j ≤ x.size ∧ at_ ((bs x).take j) = some b ∧ Tr wx w.heap.size N at_ wd ∧ N ≤ i * 1000 + j ∧ at_ [] = some rt ∧ (∀ v, at_ v ≠ none ↔ Has ws ((bs x).take j) v) ∧ (∀ v, at_ v ≠ none → wd v = wdOf ws v) ∧ Below w.heap.size w wx ∧ wx.heap[B0]? = wb.heap[B0]?) (fun _ _ v23 _ _ _ _ _ _ _ _ _ _ _ _ _ _ _ _ _ _ _ _ _ _ _ _ _ _ => x.size - (intOf v23).toNat)
      case atStart => exact ⟨0, N, rt, at_, wd, rfl, rfl, by omega, hat, hT1, by omega, hat, by simpa using hmem, hwd, hb1, rfl⟩
      case round =>
        clear hT1 hb1 hmem hwd hat hN
        obtain ⟨j, N, b, at_, wd, rfl, rfl, hjx, hab, hT, hN, hat, hmem, hwd, hb, hBk⟩ := hrel
        by_cases hlt2 : j < x.size
        · have k2 : (j : Int) < (x.size : Int) := by omega
          have e2 : IntKind.i64.wrap ((j : Int) + 1) = (j : Int) + 1 := IntWalk.i64_in _ (by omega)
          have c1 := HCELL.out wr hBk j hlt2
          obtain ⟨ch, hch⟩ : ∃ ch, ch = (bs x)[j]?.getD 0 := ⟨_, rfl⟩
          rw [← hch] at c1
          have htk : (bs x).take (j + 1) = (bs x).take j ++ [ch] := by
            rw [List.take_add_one, hch, List.getElem?_eq_getElem (by rw [bs_length]; exact hlt2)]
            rfl
          have c2 := hT.cellM hab
          have lk := (hT.kids _ _ hab).lookup ch
          cases hnx : at_ ((bs x).take j ++ [ch]) with
          | some b2 =>
            rw [hnx] at lk
            have lk' : (Instr.lookup 75 (.map (some (b - 1))) (.int .u8 (ch.toNat : Int)) false).run Try.prog wr = .ok (.pointer (some ⟨b2, 0, none⟩)) wr := lk
            have HR := Lib.hid (show at_ ((bs x).take (j + 1)) = some b2 by rw [htk]; exact hnx)
            have HM := Lib.hid (show ∀ v, at_ v ≠ none ↔ Has ws ((bs x).take (j + 1)) v from by
              intro v
              rw [hmem v, htk]
              unfold Has
              rw [prefix_snoc]
              constructor
              · rintro (h | h | h)
                · exact .inl h
                · exact .inr (.inl h)
                · exact .inr (.inr (.inl h))
              · rintro (h | h | h | h)
                · exact .inl h
                · exact .inr (.inl h)
                · exact .inr (.inr h)
                · have := (hmem v).1 (by rw [h, hnx]; simp)
                  exact this)
            have HT := Lib.hid hT
            have HWD := Lib.hid hwd
            clear lk hT hwd hmem hnx htk hch hab
            go_wp2
            exact ⟨⟨j + 1, N, b2, at_, wd, rfl, by simp, by omega, HR.out, HT.out, by omega, hat, HM.out, HWD.out, hb, hBk⟩, by simp [intOf]; omega⟩
          | none =>
            rw [hnx] at lk
            have lk' : (Instr.lookup 75 (.map (some (b - 1))) (.int .u8 (ch.toNat : Int)) false).run Try.prog wr = .ok (.pointer none) wr := lk
            obtain ⟨w9, hrun, hT9, hg9⟩ := hT.child hb.size hab hnx (by unfold maxLen; omega)
            have hab9 : upd at_ ((bs x).take j ++ [ch]) (some (wr.heap.size + 1)) ((bs x).take j) = some b := by rw [upd_other _ _ (snoc_ne _ _).symm]; exact hab
            have c9 := hT9.cellM hab9
            have lk9 := (hT9.kids _ _ hab9).lookup ch
            rw [upd_same] at lk9
            have lk9' : (Instr.lookup 75 (.map (some (b - 1))) (.int .u8 (ch.toNat : Int)) false).run Try.prog w9 = .ok (.pointer (some ⟨wr.heap.size + 1, 0, none⟩)) w9 := lk9
            have hB0lt : B0 < wr.heap.size := by
              rcases Nat.lt_or_ge B0 wr.heap.size with h | h
              · exact h
              · rw [Array.getElem?_eq_none h, HBB.out] at hBk; cases hBk
            have hlo := hT.lo _ _ hab
            have hB0ne : B0 ≠ b - 1 := by
              intro e
              obtain ⟨es, clock, hm⟩ := (hT.kids _ _ hab).map
              rw [e, hm, ← e, HBB.out] at hBk
              cases hBk
            have HBK9 := Lib.hid (show w9.heap[B0]? = wb.heap[B0]? by
              rw [hg9.block B0 (by simp; omega) (by simp; exact hB0ne), Below.heap_alloc _ _ _ (by simp; omega), Below.heap_alloc _ _ _ hB0lt]
              exact hBk)
            have HBW9 := Lib.hid (show Below w.heap.size w w9 from (bmore (bmore hb _) _).grown hg9 (by have := hb.size; simp; omega) (fun k e => by cases e; omega))
            have HR := Lib.hid (show upd at_ ((bs x).take j ++ [ch]) (some (wr.heap.size + 1)) ((bs x).take (j + 1)) = some (wr.heap.size + 1) by rw [htk, upd_same])
            have HRT := Lib.hid (show upd at_ ((bs x).take j ++ [ch]) (some (wr.heap.size + 1)) [] = some rt by rw [upd_other _ _ (by simp)]; exact hat)
            have HM := Lib.hid (show ∀ v, upd at_ ((bs x).take j ++ [ch]) (some (wr.heap.size + 1)) v ≠ none ↔ Has ws ((bs x).take (j + 1)) v from by
              intro v
              rw [htk]
              by_cases hv : v = (bs x).take j ++ [ch]
              · rw [hv, upd_same]
                simp [Has]
              · rw [upd_other _ _ hv, hmem v]
                unfold Has
                rw [prefix_snoc]
                simp [hv])
            have HWD := Lib.hid (show ∀ v, upd at_ ((bs x).take j ++ [ch]) (some (wr.heap.size + 1)) v ≠ none → upd wd ((bs x).take j ++ [ch]) (-1) v = wdOf ws v from by
              intro v
              by_cases hv : v = (bs x).take j ++ [ch]
              · intro _
                rw [hv, upd_same, wdOf_none]
                intro hin
                exact (hmem _).2 (.inr (.inl ⟨_, hin, List.prefix_refl _⟩)) hnx
              · rw [upd_other _ _ hv, upd_other _ _ hv]
                exact hwd v)
            have HT := Lib.hid hT9
            have hN9 : N + 1 ≤ i * 1000 + (j + 1) := by omega
            clear lk hT hwd hmem hnx htk hch hab hT9 hg9 lk9 hab9 hB0ne hlo hb hBk hat
            go_wp2
            exact ⟨⟨j + 1, N + 1, wr.heap.size + 1, _, _, rfl, by simp, by omega, HR.out, HT.out, hN9, HRT.out, HM.out, HWD.out, HBW9.out, HBK9.out⟩, by simp [intOf]; omega⟩
        · obtain rfl : j = x.size := by omega
          have k2 : ¬ (x.size : Int) < (x.size : Int) := by omega
          rw [List.take_of_length_le (by rw [bs_length]; exact Nat.le_refl _)] at hab hmem
          have cw := hT.cellW hab
          have fw := hT.frozen hab 1
          have hlo := hT.lo _ _ hab
          have HT := Lib.hid (hT.mark hab (i : Int))
          have HBW := Lib.hid (show Below w.heap.size w (wr.setCell ⟨b, 1, none⟩ (.int .i64 (i : Int))) from hb.setCell (p := ⟨b, 1, none⟩) (by show w.heap.size ≤ b; omega) _)
          have HM := Lib.hid (show ∀ v, at_ v ≠ none ↔ Has ((L.take (i + 1)).map bs) [] v from fun v => by rw [HWS.out, hmem v]; exact Has.word)
          have HWD := Lib.hid (show ∀ v, at_ v ≠ none → upd wd (bs x) (i : Int) v = wdOf ((L.take (i + 1)).map bs) v from fun v hv => by
            rw [HWS.out, wdOf_snoc, HWL.out]
            by_cases he : v = bs x
            · rw [he, upd_same, if_pos rfl]
            · rw [upd_other _ _ he, if_neg (fun e => he e.symm)]
              exact hwd v hv)
          have hN9 : N ≤ (i + 1) * 1000 := by omega
          clear hT hb hmem hwd hab hlo hBk
          go_wp2
          exact ⟨⟨i + 1, N, at_, _, by simp, by omega, HT.out, hN9, hat, HM.out, HWD.out, HBW.out⟩, by simp [intOf]; omega⟩
    · obtain rfl : i = n := by omega
      have kk : ¬ (i : Int) < (i : Int) := by omega
      rw [HN.out, List.take_length] at hmem hwd
      have HT := Lib.hid hT; have HM := Lib.hid hmem; have HWD := Lib.hid hwd
      clear hT hmem hwd
      go_wp2
      go_ret
      exact ⟨⟨N, at_, wd, rt, rfl, HT.out, hat, HM.out, HWD.out⟩, hb⟩
end Go.Proofs.Ytnaoonegeboflaa
