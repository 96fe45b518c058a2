/-
  The law in plain words: what its plain function gives is true. No condition beyond those that each theorem names.
-/
import Derived.Test.YtocnabkanbifdaaGreatDoorWalkTB0
import Derived.Test.YtocnabkanbifdaaGreatDoorWalkTB1
import Derived.Test.YtocnabkanbifdaaGreatDoorP23u
set_option linter.unusedSimpArgs false
set_option linter.unusedVariables false
set_option linter.unusedSectionVars false
namespace Go.Proofs.YtocnabkanbifdaaGreatDoor
open Go Go.RowKit Go.Lib
set_option maxRecDepth 100000
set_option linter.unusedVariables false
/-! The two laws. -/
theorem T_Short_ok (g : GGraph) : Ok (f_backwashref08_Short g) (fun r => True) := by
 unfold f_backwashref08_Short
 refine Ok.iteB (fun hc => Ok.some trivial) (fun hc => ?_)
 simp at hc
 refine Ok.each1 (l := g.Nodes) (by omega) (fun _ => True) 0 (fun rec i hi _ _ hr => ?_) (fun rec _ => ?_) trivial (by omega)
 ·
  unfold f_backwashref08_Short_B1
  rw [if_pos (by simp only [decide_eq_true_eq]; omega)]
  refine Ok.bind (Ok.idxN hi (Ok.iteB (fun _ => Ok.some trivial) (fun _ => ?_)))
  rw [wrap_succ (by omega)]
  exact hr trivial
 ·
  unfold f_backwashref08_Short_B1
  rw [if_neg (by simp)]
  exact Ok.some trivial
theorem T_ok_args {g : GGraph} (h : Dat.ok g) : argsIn g := by
 obtain ⟨h1, h2, h3, h4⟩ := h
 intro x hx
 obtain ⟨_, _, ha, hp⟩ := h3.2 x hx
 exact ⟨inI_i64 ha, fun i hi => inI_i64 (hp.2 i hi).2⟩
theorem good_len {g : GGraph} (h : goodP g) : lenG g := by
 obtain ⟨⟨⟨⟨ps, bs, hP, hB, hl, hl7, hps, hbs⟩, hN, hE, hNl, hEl⟩, hK⟩, ha⟩ := h
 refine ⟨by rw [hP]; simp; omega, by rw [hB]; simp; omega, by omega, by omega, fun x hx => ?_⟩
 have := (hNl x hx).2.2.1
 omega
theorem Same_self {g : GGraph} (h : goodP g) : f_backwashref08_Same g g = some true := Ok.eq ((Same08_ok g g (good_len h)).mono fun r hr => hr.2 rfl)
theorem back_J1T (t : List UInt8) (ht : t.length ≤ 9223372036854775807) : Ok (f_backwashlaw23_TextBack_J1 t) (fun r => r = true) := by
 unfold f_backwashlaw23_TextBack_J1
 have hl : (List.drop (Int.toNat 0) (List.take (Int.toNat (min (List.length t : Int) 6000)) t)).length ≤ 100000000 := by
  simp only [List.length_drop, List.length_take]; omega
 refine Ok.bind2 (Parse_good hl) fun v hv => Ok.iteB (fun hc => Ok.some ?_) (fun hc => ?_)
 · rw [hv.1 (by simpa using hc)]; rfl
 ·
  have hg := hv.2 (by simpa using hc)
  rw [ShowR_good hg]
  refine Ok.bind (Ok.some ?_)
  rw [Parse_shown hg]
  refine Ok.bind (Ok.some (Ok.iteB (fun _ => ?_) (fun hc => absurd hc (by simp))))
  rw [Same_self hg]
  exact Ok.bind (Ok.some (Ok.some rfl))
theorem TextBack_holds (g : GGraph) (t : GStr) (og : Dat.ok g) (ot : t.s.length ≤ 9223372036854775807) : f_backwashlaw23_TextBack g t.s = some true := by
 have ha := T_ok_args og
 unfold f_backwashlaw23_TextBack
 rw [awake23]
 refine Ok.eq (Ok.bind (Ok.some (Ok.iteB (fun hc => absurd hc (by decide)) (fun _ => ?_))))
 refine Ok.guard (by omega) ?_
 refine Ok.bind2 (T_Short_ok g) fun v _ => Ok.iteB (fun _ => Ok.some rfl) (fun _ => ?_)
 refine Ok.bind2 (Show_ok g ha) fun r hr => Ok.iteB (fun hc => ?_) (fun _ => back_J1T _ ot)
 have ho : showOK g := Classical.byContradiction fun hn => by rw [hr.2 hn] at hc; simp at hc
 have hg : goodP g := ⟨ho, ha⟩
 rw [hr.1 ho]
 simp only
 rw [Parse_shown hg]
 refine Ok.bind (Ok.some (Ok.bind2 (Put_ok g ha) fun p hp => Ok.bind2 (Put_ok g ha) fun q hq => ?_))
 rw [hp.1 ho.1, hq.1 ho.1]
 refine Ok.iteB (fun hc => absurd hc (by simp)) (fun _ => ?_)
 rw [Same_self hg]
 refine Ok.bind (Ok.some (Ok.iteB (fun hc => absurd hc (by simp)) (fun _ => back_J1T _ ot)))
end Go.Proofs.YtocnabkanbifdaaGreatDoor
