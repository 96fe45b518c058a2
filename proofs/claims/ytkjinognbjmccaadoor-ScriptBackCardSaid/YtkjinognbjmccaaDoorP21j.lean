/-
  The law in plain words: what its plain function gives is true. No condition beyond those that each theorem names.
-/
import Derived.Test.YtkjinognbjmccaaDoorWalkSB1
import Derived.Test.YtkjinognbjmccaaDoorP21i
set_option linter.unusedSimpArgs false
set_option linter.unusedVariables false
set_option linter.unusedSectionVars false
namespace Go.Proofs.YtkjinognbjmccaaDoor
open Go Go.RowKit
theorem ScriptBack_all (l : List GAct) (t : GStr) (h : Dat.ok l) (_ : Dat.ok t) : f_backwashlaw21_ScriptBack l t.s = some true := ScriptBack_holds l t.s h
end Go.Proofs.YtkjinognbjmccaaDoor
