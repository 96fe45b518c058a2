/-
  The law in plain words: what its plain function gives is true. No condition beyond those that each theorem names.
-/
import Derived.Test.YtkjinognbjmccaaDoorWalkSR1
import Derived.Test.YtkjinognbjmccaaDoorP21i
set_option linter.unusedSimpArgs false
set_option linter.unusedVariables false
set_option linter.unusedSectionVars false
namespace Go.Proofs.YtkjinognbjmccaaDoor
open Go Go.RowKit
theorem ScriptRemarks_all (t : GStr) (more : List UInt8) (h : Dat.ok t) (_ : Dat.ok more) : f_backwashlaw21_ScriptRemarks t.s more = some true := ScriptRemarks_holds t.s more (Nat.le_trans h (by unfold maxLen; omega))
end Go.Proofs.YtkjinognbjmccaaDoor
