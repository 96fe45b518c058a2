/-
  The law in plain words: what its plain function gives is true. No condition beyond those that each theorem names.
-/
import Derived.Test.YtfjjpdjnpmajlaaP12c
import Derived.Test.YtfjjpdjnpmajlaaWalkWR0
set_option linter.unusedSimpArgs false
set_option linter.unusedVariables false
namespace Go.Proofs.Ytfjjpdjnpmajlaa
open Go Go.RowKit
namespace WH
theorem Short_ok (g : GGraph) : Ok (f_backwashref08_Short g) (fun r => r = true → g.Nodes.length ≤ 60) := by
  unfold f_backwashref08_Short
  refine Ok.iteB (fun _ => Ok.some (fun h => by cases h)) (fun hc => ?_)
  simp only [Bool.or_eq_false_iff, decide_eq_false_iff_not] at hc
  have hn : g.Nodes.length ≤ 60 := by omega
  refine Ok.each1 (l := g.Nodes) (by omega) (fun _ => True) 0 (fun rec i hi _ _ hr => ?_) (fun rec _ => ?_) trivial (Nat.zero_le _)
  · unfold f_backwashref08_Short_B1
    refine Ok.iteB (fun _ => Ok.bind (Ok.idxN hi (Ok.iteB (fun _ => Ok.some (fun h => by cases h)) (fun _ => ?_)))) (fun _ => Ok.some (fun _ => hn))
    rw [wrap_i64 ((i : Int) + 1) (by omega)]
    exact hr trivial
  · unfold f_backwashref08_Short_B1
    exact Ok.iteB (fun hx => by simp only [decide_eq_true_eq] at hx; omega) (fun _ => Ok.some (fun _ => hn))
def linB (k : Int) : Bool := ((decide (1 ≤ k) && decide (k ≤ 5)) || (decide (10 ≤ k) && decide (k ≤ 13))) || (k == 15)
theorem opsLinear_eq (k : Int) : f_ops_Linear k = some (linB k) := by
  have h : linB k = (k == 1 || k == 2 || k == 3 || k == 4 || k == 5 || k == 10 || k == 11 || k == 12 || k == 13 || k == 15) := by
    rw [Bool.eq_iff_iff]
    simp only [linB, Bool.or_eq_true, Bool.and_eq_true, decide_eq_true_eq, beq_iff_eq]
    omega
  rw [h]
  unfold f_ops_Linear f_ops_Linear_J1
  repeat' split
  all_goals simp_all
theorem winLinear_eq (g : GGraph) (hl : g.Nodes.length ≤ 60) : f_window_Linear g = some (g.Nodes.all fun x => linB x.Kind) := by
  have h : f_slices_ContainsFunc_Node g.Nodes (fun x0_ => f_window_Linear_1 x0_) = some (g.Nodes.any fun x => !linB x.Kind) := by
    show gContainsFunc _ _ = _
    exact gContainsFunc_eq (by omega) (fun x _ => by simp [f_window_Linear_1, opsLinear_eq, bindO])
  unfold f_window_Linear
  rw [h]
  simp only [bindO, Option.bind_some]
  congr 1
  rw [List.any_eq_not_all_not, Bool.not_not]
  simp
theorem refLinear_ok (g : GGraph) (hl : g.Nodes.length ≤ 60) : f_backwashref33_Linear g = some (g.Nodes.all fun x => linB x.Kind) := by
  refine Ok.eq ?_
  unfold f_backwashref33_Linear
  refine Ok.each1 (l := g.Nodes) (by omega) (fun i => ∀ x ∈ g.Nodes.take i, linB x.Kind = true) 0 (fun rec i hi _ hI hr => ?_) (fun rec hI => ?_) (by simp) (Nat.zero_le _)
  · unfold f_backwashref33_Linear_B1
    refine Ok.iteB (fun _ => Ok.bind (Ok.idxN hi (Ok.bind (Ok.of_eq (show f_backwashref11_Linear g.Nodes[i].Kind = some (linB g.Nodes[i].Kind) from rfl) (Ok.iteB (fun hx => Ok.some ?_) (fun hx => ?_)))))) (fun hx => by simp only [decide_eq_false_iff_not] at hx; omega)
    · symm
      rw [Bool.not_eq_true'] at hx
      rw [List.all_eq_false]
      exact ⟨_, List.getElem_mem hi, by rw [hx]; simp⟩
    · rw [wrap_i64 ((i : Int) + 1) (by omega)]
      exact hr ((all_take_succ hi).2 ⟨hI, by simpa using hx⟩)
  · rw [List.take_length] at hI
    unfold f_backwashref33_Linear_B1
    exact Ok.iteB (fun hx => by simp only [decide_eq_true_eq] at hx; omega) (fun _ => Ok.some (List.all_eq_true.2 hI).symm)
theorem WindowRight_holds (l : List GFeed) (size step : Int) (outs : List GOut) (g : GGraph) (_ : Dat.ok l) (_ : inI .i64 size) (_ : inI .i64 step) (_ : Dat.ok outs) (_ : Dat.ok g) : f_backwashlaw33_WindowRight l size step outs g = some true := by
  refine Ok.eq ?_
  unfold f_backwashlaw33_WindowRight
  refine Ok.bind (Ok.of_eq awake_ok (Ok.iteB (fun h => by cases h) (fun _ => Ok.guard (by omega) (Ok.guard (by omega) ?_))))
  generalize hL : List.take (Int.toNat (min (List.length l : Int) 50)) l = L
  have hLl : L.length ≤ 50 := by rw [← hL, List.length_take]; omega
  generalize hO : List.take (Int.toNat (min (List.length outs : Int) 100)) outs = O
  have hOl : O.length ≤ 100 := by rw [← hO, List.length_take]; omega
  refine Ok.bind2 (Short_ok g) fun v1 hv1 => Ok.iteB (fun _ => Ok.some rfl) (fun hx => ?_)
  have hn := hv1 (by simpa using hx)
  refine Ok.bind2 (Slide_ok L size step (by omega)) fun r1 h1 => Ok.bind2 (refSlide_ok L size step hLl) fun r2 h2 => ?_
  obtain ⟨rfl, hb⟩ := slid_same h1 h2
  refine Ok.iteB (fun _ => Ok.bind (Ok.of_eq (sameFeeds_refl _ hb) (Ok.iteB (fun h => by cases h) (fun _ => ?_)))) (fun h => by simp at h)
  refine Ok.bind2 (Tumble_ok L size (by omega)) fun r3 h3 => Ok.bind2 (refSlide_ok L size size hLl) fun r4 h4 => ?_
  obtain ⟨rfl, hb3⟩ := slid_same h3 h4
  refine Ok.iteB (fun _ => Ok.bind (Ok.of_eq (sameFeeds_refl _ hb3) (Ok.iteB (fun h => by cases h) (fun _ => ?_)))) (fun h => by simp at h)
  refine Ok.bind2 (Gather_ok O size hOl) fun r5 h5 => Ok.bind2 (refGather_ok O size hOl) fun r6 h6 => ?_
  obtain ⟨rfl, hb5⟩ := gath_same h5 h6
  refine Ok.iteB (fun _ => Ok.bind (Ok.of_eq (same_refl _ (by omega)) (Ok.iteB (fun _ => ?_) (fun h => by cases h)))) (fun h => by simp at h)
  refine Ok.bind (Ok.of_eq (winLinear_eq g hn) (Ok.bind (Ok.of_eq (refLinear_ok g hn) (Ok.some (by simp)))))
end WH
end Go.Proofs.Ytfjjpdjnpmajlaa

