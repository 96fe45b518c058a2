/-
  The law in plain words: what its plain function gives is true. No condition beyond those that each theorem names.
-/
import Derived.Test.YtocnabkanbifdaaGreatDoorWalkTB1
import Derived.Test.YtocnabkanbifdaaGreatDoorP23e
set_option linter.unusedSimpArgs false
set_option linter.unusedVariables false
set_option linter.unusedSectionVars false
namespace Go.Proofs.YtocnabkanbifdaaGreatDoor
open Go Go.RowKit Go.Lib
set_option maxRecDepth 100000
set_option linter.unusedVariables false
/-! A graph shown: the code. -/
def showOK (g : GGraph) : Prop := fitsG g ∧ ∀ x ∈ g.Nodes, nodeOK x
theorem Show_ok (g : GGraph) (ha : argsIn g) : Ok (f_text_Show g) (sayR (showOK g) (linesG g)) := by
 unfold f_text_Show
 refine Ok.bind2 (Put_ok g ha) fun v hv => Ok.iteB (fun hc => Ok.some ⟨fun ho => ?_, fun _ => rfl⟩) (fun hc => ?_)
 · rw [hv.1 ho.1] at hc; simp at hc
 have hf : fitsG g := Classical.byContradiction fun hn => by rw [hv.2 hn] at hc; simp at hc
 have hf0 := hf
 obtain ⟨⟨ps, bs, hP, hB, hl, hl7, hps, hbs⟩, _⟩ := hf
 refine Ok.mono (P := sayR (∀ x ∈ g.Nodes, nodeOK x) (linesG g)) ?_ fun r hr => ⟨fun h => hr.1 h.2, fun h => hr.2 fun hx => h ⟨hf0, hx⟩⟩
 have hPl : g.Parent.length = ps.length + 1 := by rw [hP]; rfl
 have hz : (ps.zip bs).length = ps.length := by rw [List.length_zip]; omega
 have hd : (List.drop (Int.toNat 1) (List.take (List.length g.Parent) g.Parent)).length = ps.length := by rw [List.take_length, hP]; rfl
 have hlow : ∀ p ∈ ps.zip bs, low p.1 ∧ low p.2 := fun p hp => ⟨hps _ (List.of_mem_zip hp).1, hbs _ (List.of_mem_zip hp).2⟩
 refine Ok.guard (by omega) ?_
 have hln : linesG g = (ps.zip bs).map (fun p => scopeL p.1 p.2) ++ g.Nodes.flatMap nodeLs ++ g.Edges.map edgeL := by
  unfold linesG
  rw [hP, hB]; rfl
 rw [hln]
 refine Ok.each (l := ps.zip bs) (by omega) (fun i s => StS (((ps.zip bs).take i).map (fun p => scopeL p.1 p.2)) True s) 0 (s0 := (false, [])) (fun rec i hi s _ hI hr => ?_) (fun rec s hI => ?_) ⟨by simp, by simp, fun _ => by simp [bodyL]⟩ (by omega)
 ·
  obtain ⟨b, buf⟩ := s
  unfold f_text_Show_B8
  simp only [hd]
  rw [if_pos (by simp only [decide_eq_true_eq]; omega)]
  have hw : IntKind.i64.wrap (1 + (i : Int)) = ((i + 1 : Nat) : Int) := by rw [wrap_i64 _ (by omega)]; omega
  rw [hw]
  have e1 : g.Parent[i + 1]'(by omega) = ps[i]'(by omega) := by simp only [hP, List.getElem_cons_succ]
  have e2 : g.Bound[i + 1]'(by rw [hB]; simp only [List.length_cons]; omega) = bs[i]'(by omega) := by simp only [hB, List.getElem_cons_succ]
  refine Ok.bind (Ok.idxN (show i + 1 < g.Parent.length by omega) ?_)
  rw [e1]
  have i1 := low_In (hps _ (List.getElem_mem (show i < ps.length by omega)))
  have i2 := low_In (hbs _ (List.getElem_mem (show i < bs.length by omega)))
  refine Ok.bind (Ok.of_eq (itoaF_eq i1) (Ok.bind (Ok.idxN (show i + 1 < g.Bound.length by rw [hB]; simp only [List.length_cons]; omega) ?_)))
  rw [e2]
  refine Ok.bind (Ok.of_eq (itoaF_eq i2) ?_)
  have hlen : (((ps.zip bs).take i).map (fun p => scopeL p.1 p.2)).length ≤ 3000 := by simp only [List.length_map, List.length_take]; omega
  refine Ok.bind (StS.say hI hlen (ws := scopeL ps[i] bs[i]) (by simp [scopeL]) (by simp [scopeL]) ?_ fun r hr' => ?_)
  ·
   intro w hw
   simp only [scopeL, List.mem_cons, List.not_mem_nil, or_false] at hw
   rcases hw with rfl | rfl | rfl
   · decide
   · exact itoa64 i1
   · exact itoa64 i2
  rw [wrap_succ (by omega)]
  refine hr (r.2, r.1) (hr'.of_eq ?_)
  rw [getT hi, List.getElem_zip]
 ·
  rw [List.take_length] at hI
  obtain ⟨b, buf⟩ := s
  unfold f_text_Show_B8
  simp only [hd]
  rw [if_neg (by simp; omega)]
  have := J1_ok23 hf0 ha hI (by simp only [List.length_map]; omega)
  exact this
end Go.Proofs.YtocnabkanbifdaaGreatDoor
