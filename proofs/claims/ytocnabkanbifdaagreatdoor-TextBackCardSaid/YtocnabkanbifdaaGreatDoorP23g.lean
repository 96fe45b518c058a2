/-
  The law in plain words: what its plain function gives is true. No condition beyond those that each theorem names.
-/
import Derived.Test.YtocnabkanbifdaaGreatDoorWalkTB1
import Derived.Test.YtocnabkanbifdaaGreatDoorP23f
set_option linter.unusedSimpArgs false
set_option linter.unusedVariables false
set_option linter.unusedSectionVars false
namespace Go.Proofs.YtocnabkanbifdaaGreatDoor
open Go Go.RowKit Go.Lib
set_option maxRecDepth 100000
set_option linter.unusedVariables false
set_option linter.unusedSectionVars false
/-! A graph shown: the document. -/
structure StD (ls : List (List (List UInt8))) (s : List UInt8) : Prop where
 len : s.length ≤ 326 * ls.length
 eq : s = bodyL ls
theorem StD.add {ls : List (List (List UInt8))} {s : List UInt8} {ws : List (List UInt8)} {t : List UInt8} (h : StD ls s) (h5 : ws.length ≤ 5) (hw : ∀ w ∈ ws, w.length ≤ 64) (e : t = s ++ lineW ws) : StD (ls ++ [ws]) t := by
 subst e
 have h1 := h.len
 have := lineW_len h5 hw
 refine ⟨?_, ?_⟩
 · simp only [List.length_append, List.length_cons, List.length_nil]; omega
 · rw [bodyL_snoc, h.eq]
theorem StD.of_eq {ls ls' : List (List (List UInt8))} {s : List UInt8} (h : StD ls s) (e : ls = ls') : StD ls' s := e ▸ h
section
variable {g : GGraph} (hf : fitsG g) (ha : argsIn g)
include hf
end
end Go.Proofs.YtocnabkanbifdaaGreatDoor
