/-
  The law in plain words: what its plain function gives is true. No condition beyond those that each theorem names.
-/
import Derived.Test.YtocnabkanbifdaaGreatDoorWalkTS1
import Derived.Test.YtocnabkanbifdaaGreatDoorP23l
set_option linter.unusedSimpArgs false
set_option linter.unusedVariables false
set_option linter.unusedSectionVars false
namespace Go.Proofs.YtocnabkanbifdaaGreatDoor
open Go Go.RowKit Go.Lib
set_option maxRecDepth 100000
set_option linter.unusedVariables false
/-! What is read may be shown. -/
def goodP (g : GGraph) : Prop := showOK g ∧ argsIn g
end Go.Proofs.YtocnabkanbifdaaGreatDoor
