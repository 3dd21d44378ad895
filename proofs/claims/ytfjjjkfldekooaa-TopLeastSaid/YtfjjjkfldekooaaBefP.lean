/-
  Plain: the order of texts.
-/
import Derived.Test.YtfjjjkfldekooaaBase
namespace Go.Proofs.Ytfjjjkfldekooaa
set_option linter.unusedVariables false
set_option linter.unusedSimpArgs false

/-- the order of texts -/
def bef : List UInt8 → List UInt8 → Bool
  | _, [] => false
  | [], _ :: _ => true
  | x :: a, y :: b => if x = y then bef a b else decide (x.toNat < y.toNat)
theorem bef_same (x : UInt8) (a b : List UInt8) : bef (x :: a) (x :: b) = bef a b := by
  show (if x = x then bef a b else _) = _
  rw [if_pos rfl]
theorem bef_diff {x y : UInt8} (h : ¬ x = y) (a b : List UInt8) : bef (x :: a) (y :: b) = decide (x.toNat < y.toNat) := by
  show (if x = y then bef a b else _) = _
  rw [if_neg h]
theorem bef_irrefl : ∀ a : List UInt8, bef a a = false
  | [] => rfl
  | x :: a => by rw [bef_same]; exact bef_irrefl a
theorem toNat_ne {x y : UInt8} (h : x ≠ y) : x.toNat ≠ y.toNat := fun e => h (UInt8.toNat_inj.1 e)
theorem bef_total : ∀ a b : List UInt8, bef a b = false → bef b a = false → a = b
  | [], [], _, _ => rfl
  | [], y :: b, h, _ => by cases h
  | x :: a, [], _, h => by cases h
  | x :: a, y :: b, h1, h2 => by
    by_cases hxy : x = y
    · subst hxy
      rw [bef_same] at h1 h2
      rw [bef_total a b h1 h2]
    · have := toNat_ne hxy
      rw [bef_diff hxy] at h1
      rw [bef_diff (fun e => hxy e.symm)] at h2
      simp at h1 h2
      omega
theorem bef_trans : ∀ a b c : List UInt8, bef a b = true → bef b c = true → bef a c = true
  | _, [], [], _, h => by cases h
  | _, _ :: _, [], _, h => by cases h
  | [], [], _ :: _, h, _ => by cases h
  | _ :: _, [], _ :: _, h, _ => by cases h
  | [], _ :: _, _ :: _, _, _ => rfl
  | x :: a, y :: b, z :: c, h1, h2 => by
    by_cases hxy : x = y
    · subst hxy
      by_cases hxz : x = z
      · subst hxz
        rw [bef_same] at *
        exact bef_trans a b c h1 h2
      · rw [bef_diff hxz] at *
        exact h2
    · by_cases hyz : y = z
      · subst hyz
        rw [bef_diff hxy] at *
        exact h1
      · rw [bef_diff hxy] at h1
        rw [bef_diff hyz] at h2
        simp at h1 h2
        have hxz : x ≠ z := fun e => by rw [e] at h1; omega
        rw [bef_diff hxz]
        simp
        omega
theorem bef_asymm {a b : List UInt8} (h : bef a b = true) : bef b a = false := by
  cases hb : bef b a
  · rfl
  · have := bef_trans a b a h hb
    rw [bef_irrefl] at this
    cases this
theorem bef_ntrans {a b c : List UInt8} (h1 : bef a b = false) (h2 : bef b c = false) : bef a c = false := by
  cases h : bef a c
  · rfl
  · cases h3 : bef b a
    · rw [bef_total a b h1 h3] at h; rw [h] at h2; exact h2
    · rw [bef_trans b a c h3 h] at h2; exact h2
theorem bef_take_add : ∀ (h h' : Nat) (a b : List UInt8), bef (a.take (h + h')) (b.take (h + h')) = true ↔ bef (a.take h) (b.take h) = true ∨ (a.take h = b.take h ∧ bef ((a.drop h).take h') ((b.drop h).take h') = true)
  | 0, h', a, b => by simp [bef]
  | h + 1, h', [], [] => by simp [bef]
  | h + 1, h', [], y :: b => by rw [show h + 1 + h' = (h + h') + 1 by omega]; simp [bef]
  | h + 1, h', x :: a, [] => by rw [show h + 1 + h' = (h + h') + 1 by omega]; simp [bef]
  | h + 1, h', x :: a, y :: b => by
    rw [show h + 1 + h' = (h + h') + 1 by omega]
    simp only [List.take_succ_cons, List.drop_succ_cons]
    by_cases hxy : x = y
    · subst hxy
      rw [bef_same, bef_same, bef_take_add h h' a b]
      simp
    · rw [bef_diff hxy, bef_diff hxy]
      simp [hxy]

def natsI (l : List Nat) : List Int := l.map fun i : Nat => (i : Int)
theorem natsI_length (l : List Nat) : (natsI l).length = l.length := by simp [natsI]
theorem natsI_get (l : List Nat) (i : Nat) : (natsI l)[i]? = (l[i]?).map fun i : Nat => (i : Int) := by simp [natsI]
end Go.Proofs.Ytfjjjkfldekooaa
