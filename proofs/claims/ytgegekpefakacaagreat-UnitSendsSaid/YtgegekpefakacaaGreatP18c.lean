/-
  The law in plain words: what its plain function gives is true. No condition beyond those that each theorem names.
-/
import Derived.Test.YtgegekpefakacaaGreatWalkUS0
import Derived.Test.YtgegekpefakacaaGreatP18b
namespace Go.Proofs.YtgegekpefakacaaGreat
open Go Go.RowKit BG TS
namespace CE
theorem ze3 {α : Type} {c : List α} {p : α → Bool} {i : Nat} (hi : i < c.length) : (c.take (i + 1)).filter p = (c.take i).filter p ++ (if p c[i] = true then [c[i]] else []) := by
 rw [List.take_succ_eq_append_getElem hi, List.filter_append, List.filter_cons]; rfl
end CE
end Go.Proofs.YtgegekpefakacaaGreat
