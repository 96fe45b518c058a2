/-
  The law in plain words: what its plain function gives is true. No condition beyond those that each theorem names.
-/
import Derived.Test.YtghbgjnmccjhdaaGreatWalkWN0
import Derived.Test.YtghbgjnmccjhdaaGreatP09e
import Derived.Test.YtghbgjnmccjhdaaGreatP01a
set_option linter.unusedSimpArgs false
set_option linter.unusedVariables false
set_option linter.unusedSectionVars false
namespace Go.Proofs.YtghbgjnmccjhdaaGreat
open Go Go.RowKit TS VA
namespace UN
theorem gShort_ok (g : GGraph) : Ok (q59 g) fun r => r = true → (g.Parent.length ≤ 20 ∧ g.Bound.length ≤ 20 ∧ g.Nodes.length ≤ 60 ∧ g.Edges.length ≤ 100) ∧ ∀ x ∈ g.Nodes, x.Prog.length ≤ 100 := by
 unfold q59; refine j6k (fun _ => Ok.some fun h => by cases h) (fun hx => ?_); simp only [Bool.or_eq_false_iff, decide_eq_false_iff_not] at hx; refine j6p (l := g.Nodes) (by omega) (fun i => ∀ x ∈ g.Nodes.take i, x.Prog.length ≤ 100) 0 (fun rec i hi _ hI hr => ?_) (fun rec hI => ?_) (by simp) (Nat.zero_le _)
 · unfold q5l; rw [if_pos (by simpa using hi)]; refine Ok.bind (j6l hi ?_); refine j6k (fun _ => Ok.some fun h => by cases h) (fun h1 => ?_); rw [iw hi (by omega)]; exact hr ((qa2 hi).2 ⟨hI, by simp at h1; omega⟩)
 · unfold q5l; rw [if_neg (by simp)]; rw [List.take_length] at hI; exact Ok.some fun _ => ⟨by omega, hI⟩
end UN
end Go.Proofs.YtghbgjnmccjhdaaGreat
