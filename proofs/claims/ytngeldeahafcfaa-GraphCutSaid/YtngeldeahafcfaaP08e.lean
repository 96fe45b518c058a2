/-
  The law in plain words: what its plain function gives is true. No condition beyond those that each theorem names.
-/
import Derived.Test.YtngeldeahafcfaaWalk1
set_option linter.unusedSimpArgs false
set_option linter.unusedVariables false
namespace Go.Proofs.Ytngeldeahafcfaa
open Go Go.RowKit
theorem awake08 : f_backwashlaw08_awake = some true := by kernel_rfl
end Go.Proofs.Ytngeldeahafcfaa

