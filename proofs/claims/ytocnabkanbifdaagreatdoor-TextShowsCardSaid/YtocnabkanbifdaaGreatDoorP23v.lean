/-
  The law in plain words: what its plain function gives is true. No condition beyond those that each theorem names.
-/
import Derived.Test.YtocnabkanbifdaaGreatDoorWalkTS0
import Derived.Test.YtocnabkanbifdaaGreatDoorWalkTS1
import Derived.Test.YtocnabkanbifdaaGreatDoorP23u
set_option linter.unusedSimpArgs false
set_option linter.unusedVariables false
set_option linter.unusedSectionVars false
namespace Go.Proofs.YtocnabkanbifdaaGreatDoor
open Go Go.RowKit Go.Lib
set_option maxRecDepth 100000
set_option linter.unusedVariables false
/-! The two laws. -/
theorem T_Short_ok (g : GGraph) : Ok (f_backwashref08_Short g) (fun r => True) := by
 unfold f_backwashref08_Short
 refine Ok.iteB (fun hc => Ok.some trivial) (fun hc => ?_)
 simp at hc
 refine Ok.each1 (l := g.Nodes) (by omega) (fun _ => True) 0 (fun rec i hi _ _ hr => ?_) (fun rec _ => ?_) trivial (by omega)
 ·
  unfold f_backwashref08_Short_B1
  rw [if_pos (by simp only [decide_eq_true_eq]; omega)]
  refine Ok.bind (Ok.idxN hi (Ok.iteB (fun _ => Ok.some trivial) (fun _ => ?_)))
  rw [wrap_succ (by omega)]
  exact hr trivial
 ·
  unfold f_backwashref08_Short_B1
  rw [if_neg (by simp)]
  exact Ok.some trivial
theorem T_ok_args {g : GGraph} (h : Dat.ok g) : argsIn g := by
 obtain ⟨h1, h2, h3, h4⟩ := h
 intro x hx
 obtain ⟨_, _, ha, hp⟩ := h3.2 x hx
 exact ⟨inI_i64 ha, fun i hi => inI_i64 (hp.2 i hi).2⟩
theorem TextShows_holds (g : GGraph) (og : Dat.ok g) : f_backwashlaw23_TextShows g = some true := by
 have ha := T_ok_args og
 unfold f_backwashlaw23_TextShows
 rw [awake23]
 refine Ok.eq (Ok.bind (Ok.some (Ok.iteB (fun hc => absurd hc (by decide)) (fun _ => ?_))))
 refine Ok.bind2 (T_Short_ok g) fun v _ => Ok.iteB (fun _ => Ok.some rfl) (fun _ => ?_)
 refine Ok.bind2 (Show_ok g ha) fun r hr => Ok.bind2 (refShow_ok g ha) fun q hq => Ok.some ?_
 have : r = q := by
  by_cases h : showOK g
  · rw [hr.1 h, hq.1 h]
  · rw [hr.2 h, hq.2 h]
 subst this
 simp
end Go.Proofs.YtocnabkanbifdaaGreatDoor
