/-
  The law in plain words: what its plain function gives is true. No condition beyond those that each theorem names.
-/
import Derived.Test.YtaiccbgcgcfhfaaGreatWalkWL0
import Derived.Test.YtaiccbgcgcfhfaaGreatWalkWL1
import Derived.Test.YtaiccbgcgcfhfaaGreatP12c
set_option linter.unusedSimpArgs false
set_option linter.unusedVariables false
set_option linter.unusedSectionVars false
namespace Go.Proofs.YtaiccbgcgcfhfaaGreat
open Go Go.RowKit
namespace WH
theorem Short_ok (g : GGraph) : Ok (q5m g) (fun r => r = true -> g.Nodes.length <= 60) := by
 unfold q5m; refine jl0 (fun _ => Ok.some (fun h => by cases h)) (fun hc => ?_); simp only [Bool.or_eq_false_iff, decide_eq_false_iff_not] at hc; have hn : g.Nodes.length <= 60 := by omega
 refine jl5 (l := g.Nodes) (by omega) (fun _ => True) 0 (fun rec i hi _ _ hr => ?_) (fun rec _ => ?_) trivial (Nat.zero_le _)
 . unfold q63; refine jl0 (fun _ => Ok.bind (jl1 hi (jl0 (fun _ => Ok.some (fun h => by cases h)) (fun _ => ?_)))) (fun _ => Ok.some (fun _ => hn)); rw [wrap_i64 ((i : Int) + 1) (by omega)]; exact hr trivial
 . unfold q63; exact jl0 (fun hx => by simp only [decide_eq_true_eq] at hx; omega) (fun _ => Ok.some (fun _ => hn))
def linB (k : Int) : Bool := ((decide (1 <= k) && decide (k <= 5)) || (decide (10 <= k) && decide (k <= 13))) || (k == 15)
theorem opsLinear_eq (k : Int) : q5b k = some (linB k) := by
 have h : linB k = (k == 1 || k == 2 || k == 3 || k == 4 || k == 5 || k == 10 || k == 11 || k == 12 || k == 13 || k == 15) := by
  rw [Bool.eq_iff_iff]; simp only [linB, Bool.or_eq_true, Bool.and_eq_true, decide_eq_true_eq, beq_iff_eq]; omega
 rw [h]; unfold q5b q1h
 repeat' split
 all_goals simp_all
theorem winLinear_eq (g : GGraph) (hl : g.Nodes.length <= 60) : q94 g = some (g.Nodes.all fun x => linB x.Kind) := by
 have h : q2k g.Nodes (fun x0_ => q65 x0_) = some (g.Nodes.any fun x => !linB x.Kind) := by
  show q7f _ _ = _
  exact q4f (by omega) (fun x _ => by simp [q65, opsLinear_eq, q9])
 unfold q94; rw [h]; simp only [q9, Option.bind_some]
 congr 1
 rw [List.any_eq_not_all_not, Bool.not_not]; simp
end WH
end Go.Proofs.YtaiccbgcgcfhfaaGreat
