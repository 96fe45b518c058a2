/-
  The law in plain words: what its plain function gives is true. No condition beyond those that each theorem names.
-/
import Derived.Test.YtocnabkanbifdaaGreatDoorWalkTB0
import Derived.Test.YtocnabkanbifdaaGreatDoorP21c
set_option linter.unusedSimpArgs false
set_option linter.unusedVariables false
set_option linter.unusedSectionVars false
namespace Go.Proofs.YtocnabkanbifdaaGreatDoor
open Go Go.RowKit Go.Lib
set_option maxRecDepth 100000
/-! Numbers and words of the lines of graphs. -/
theorem fieldsT_eq {s : List UInt8} (hs : s.length ≤ 4294967296) : f_strings_FieldsFunc s (fun x0_ => f_text_Parse_1 x0_) = some (flds s) := by
 unfold f_strings_FieldsFunc fieldsF
 refine Ok.eq (Ok.guard ⟨hs, fun x _ => rfl⟩ (Ok.some ?_))
 unfold flds
 congr 2
 funext x
 show ((x : Int) == 32) = (x == 32)
 by_cases h : x = 32
 · subst h; rfl
 ·
  rw [show (x == 32) = false by simpa using h]
  simp; omega
end Go.Proofs.YtocnabkanbifdaaGreatDoor
