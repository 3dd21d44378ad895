/-
  Rows of bytes that the call itself made; their string.
-/
import Derived.Test.YtjlgjadkcpdpmaaDoorOwn
import Derived.Lib.BytesEntry
namespace Go.Proofs.YtjlgjadkcpdpmaaDoor
open Go.RowKit Go.Lib
set_option linter.unusedVariables false

def u8s (l : List UInt8) : List Value := l.map fun c => .int .u8 (c.toNat : Int)
theorem u8s_get (l : List UInt8) (k : Nat) : (u8s l)[k]? = (l[k]?).map fun c => .int .u8 (c.toNat : Int) := by simp [u8s]
theorem info8 : (Tryd.prog.info? 5).map (fun i => (i.zero, i.size, i.bytes)) = some (some (.int .u8 0), 1, 1) := by kernel_rfl
theorem byte_oneCell (n : Int) : ∀ u ∈ [Value.int .u8 n], u.oneCell' = true := by intro u hu; simp at hu; subst hu; rfl
/-- string(b) of a row of bytes of the call's own -/
theorem bytes_string {w : World} {B n : Nat} {A : Option Addr} {cap : Nat} (l : List UInt8) (hn : l.length = n) (h : w.ownsRow B 5 1 (.slice A n cap) n (u8s l)) :
    (convert 41 9 (.slice A n cap)).run Tryd.prog w = .ok (.string ⟨l.toArray⟩) w := by
  subst hn
  have hr := Reads.of_own h
  rcases Nat.eq_zero_or_pos l.length with h0 | h0
  · have e : l = [] := List.eq_nil_of_length_eq_zero h0
    subst e
    rw [run_convert_bytes_string w 41 9 5 A [].length cap Tryd.underlying41 Tryd.underlying5 Tryd.underlying9]
    rcases A with _ | a
    · simp [Conv.bytesToString]; rfl
    · have hl := run_loadCells_list (P := Tryd.prog) w a [] (fun j v hj => by simp at hj)
      exact run_bytesToString w a 0 cap [] hl
  · obtain ⟨b, o, rfl, hb, hc⟩ := hr.2 h0
    refine run_convert_bytes_back w 41 9 5 ⟨b, o, none⟩ cap l Tryd.underlying41 Tryd.underlying5 Tryd.underlying9 fun j hj => ?_
    have e : (⟨b, o, none⟩ : Addr).add j = ⟨b, o + j, none⟩ := by unfold Addr.add; split <;> simp_all
    rw [e]
    exact hc j _ (by rw [u8s_get, List.getElem?_eq_getElem hj]; rfl)
end Go.Proofs.YtjlgjadkcpdpmaaDoor
