/-
  What an append to a row of the call's own leaves.
-/
import Derived.Test.YtdafkkhbfgpcoaaBase
import Derived.Test.YtdafkkhbfgpcoaaOwn
import Derived.Maps.AppendAt
namespace Go.Proofs.Ytdafkkhbfgpcoaa
open Go.RowKit
set_option linter.unusedVariables false
set_option linter.unusedSimpArgs false

theorem own_ge {w : World} {base n size k : Nat} {e : TypeId} {v : Value} {xs : List Value} (ho : w.ownsRow base e size v n xs) (hk : v.ownBlock = some k) : base ≤ k := by
  rcases ho.2 with ⟨rfl, _⟩ | ⟨g, cap, cu, rfl, hb, hh, _⟩
  · cases hk
  · injection hk with hk
    subst hk
    exact hb
theorem below_app {w wr w2 : World} {n size : Nat} {e : TypeId} {v : Value} {xs : List Value} {o : Obj} (hbel : Below w.heap.size w wr) (hown : wr.ownsRow w.heap.size e size v n xs) (hg : (wr.alloc o).grownBy w2 v.ownBlock) : Below w.heap.size w w2 :=
  (bmore hbel o).grown hg (by have := hbel.size; simp; omega) (fun k hk => own_ge hown hk)
theorem ints_snoc (l : List Int) (x : Int) : ints l ++ [.int .i64 x] = ints (l ++ [x]) := by simp [ints]

end Go.Proofs.Ytdafkkhbfgpcoaa
