/-
  The law in plain words: what its plain function gives is true. No condition beyond those that each theorem names.
-/
import Derived.Test.YtkjinognbjmccaaDoorWalkSB1
import Derived.Test.YtkjinognbjmccaaDoorP21h
set_option linter.unusedSimpArgs false
set_option linter.unusedVariables false
set_option linter.unusedSectionVars false
namespace Go.Proofs.YtkjinognbjmccaaDoor
open Go Go.RowKit Go.Lib
set_option maxRecDepth 100000
/-! Lines that say nothing. -/
def rem : List UInt8 := [35, 32, 102, 101, 101, 100, 32, 49, 10, 32, 32, 10]
/-- What holds of the text so far and of that with the lines between. -/
structure RI (text s : List UInt8) (k : Nat) (Q P : List (List UInt8)) (cur : List UInt8) : Prop where
 le : k ≤ text.length
 spT : sp (text.take k) = Q ++ [cur]
 spS : sp s = P ++ [cur]
 same : P.filterMap rd = Q.filterMap rd
 num : P.length ≤ 3 * Q.length + (if cur = [] then 0 else 2)
 few : Q.length ≤ 100
 cl : cur.length ≤ 120
 lq : ∀ x ∈ Q, x.length ≤ 120
 lp : ∀ x ∈ P, x.length ≤ 120
end Go.Proofs.YtkjinognbjmccaaDoor
