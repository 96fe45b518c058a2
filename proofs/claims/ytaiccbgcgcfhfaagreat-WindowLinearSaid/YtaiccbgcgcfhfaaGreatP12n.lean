/-
  The law in plain words: what its plain function gives is true. No condition beyond those that each theorem names.
-/
import Derived.Test.YtaiccbgcgcfhfaaGreatWalkWL0
import Derived.Test.YtaiccbgcgcfhfaaGreatP12m
set_option linter.unusedSimpArgs false
set_option linter.unusedVariables false
set_option linter.unusedSectionVars false
namespace Go.Proofs.YtaiccbgcgcfhfaaGreat
open Go Go.RowKit TS VA BG
namespace MN
open Classical
noncomputable def j00 (s : MS) (n : Int) (t : GTime) : List GItem := (s.past n).foldl (fun a c => if le c.Time t then q06 a (s.bags ⟨n, c.Time⟩) else a) []
theorem j0w {α R : Type} (a : Option R) (b : α -> Option R) : qs6 none a b = a := rfl
theorem j0v {α R : Type} (i : α) (a : Option R) (b : α -> Option R) : qs6 (some i) a b = b i := rfl
end MN
end Go.Proofs.YtaiccbgcgcfhfaaGreat
