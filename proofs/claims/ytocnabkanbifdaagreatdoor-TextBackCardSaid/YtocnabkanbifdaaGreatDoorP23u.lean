/-
  The law in plain words: what its plain function gives is true. No condition beyond those that each theorem names.
-/
import Derived.Test.YtocnabkanbifdaaGreatDoorWalkTB1
import Derived.Test.YtocnabkanbifdaaGreatDoorP23t
set_option linter.unusedSimpArgs false
set_option linter.unusedVariables false
set_option linter.unusedSectionVars false
namespace Go.Proofs.YtocnabkanbifdaaGreatDoor
open Go Go.RowKit Go.Lib
set_option maxRecDepth 100000
set_option linter.unusedVariables false
/-! The two laws. -/
theorem lines_len {g : GGraph} (h : goodP g) : (linesG g).length ≤ 2200 := by
 have hf := h.1.1
 have h1 := nodeLs_len hf h.2 (Nat.le_refl g.Nodes.length)
 rw [List.take_length] at h1
 obtain ⟨⟨ps, bs, hP, hB, hl, hl7, hps, hbs⟩, hN, hE, hNl, hEl⟩ := hf
 have hz : (ps.zip bs).length = ps.length := by rw [List.length_zip]; omega
 have e : linesG g = (ps.zip bs).map (fun p => scopeL p.1 p.2) ++ g.Nodes.flatMap nodeLs ++ g.Edges.map edgeL := by
  unfold linesG
  rw [hP, hB]; rfl
 rw [e]
 simp only [List.length_append, List.length_map]
 omega
theorem body_len {g : GGraph} (h : goodP g) : (bodyL (linesG g)).length ≤ 1000000 := by
 have h1 := lines_len h
 have h2 := flatMapL_len (f := lineW) (M := 257) (l := linesG g) (fun ws hws => by
  have := joinW_len21 (okW_lines h ws hws)
  unfold lineW
  simp only [List.length_append, List.length_cons, List.length_nil]; omega) _ (Nat.le_refl _)
 rw [List.take_length] at h2
 unfold bodyL
 omega
theorem Parse_shown {g : GGraph} (h : goodP g) : f_text_Parse (bodyL (linesG g)) = some (g, 0, 0) :=
 Parse_run (run_graph h) (okW_lines h) (by have := lines_len h; omega) (by have := body_len h; omega)
def g0 : GGraph := ⟨[-1], [0], [⟨1, 0, 0, []⟩, ⟨15, 0, 0, []⟩], [⟨0, 1, 0, true⟩]⟩
theorem g0_good : goodP g0 := by
 refine ⟨⟨⟨⟨[], [], rfl, rfl, rfl, by simp, by simp, by simp⟩, by decide, by decide, ?_, ?_⟩, ?_⟩, ?_⟩
 ·
  intro x hx
  simp only [g0, List.mem_cons, List.not_mem_nil, or_false] at hx
  rcases hx with rfl | rfl <;> exact ⟨⟨by decide, by decide⟩, ⟨by decide, by decide⟩, by decide, by simp⟩
 ·
  intro x hx
  simp only [g0, List.mem_cons, List.not_mem_nil, or_false] at hx
  subst hx
  exact ⟨⟨by decide, by decide⟩, ⟨by decide, by decide⟩, ⟨by decide, by decide⟩⟩
 ·
  intro x hx
  simp only [g0, List.mem_cons, List.not_mem_nil, or_false] at hx
  rcases hx with rfl | rfl <;> exact ⟨⟨by decide, by decide⟩, by simp⟩
 ·
  intro x hx
  simp only [g0, List.mem_cons, List.not_mem_nil, or_false] at hx
  rcases hx with rfl | rfl <;> exact ⟨⟨by decide, by decide⟩, by simp⟩
theorem g0_text : bodyL (linesG g0) = [110, 111, 100, 101, 32, 105, 110, 112, 117, 116, 32, 48, 32, 48, 10, 110, 111, 100, 101, 32, 115, 105, 110, 107, 32, 48, 32, 48, 10, 101, 100, 103, 101, 32, 48, 32, 49, 32, 48, 32, 107, 101, 121, 10] := by decide +kernel
theorem awake23 : f_backwashlaw23_awake = some true := by
 unfold f_backwashlaw23_awake
 rw [← g0_text]
 refine Ok.eq (Ok.bind (Ok.of_eq (Parse_shown g0_good) ?_))
 refine Ok.bind2 (Show_ok g0 g0_good.2) fun r hr => ?_
 rw [hr.1 g0_good.1]
 simp only
 refine Ok.iteB (fun _ => Ok.bind (Ok.idxN (i := 1) (by decide) (Ok.iteB (fun _ => Ok.bind (Ok.idxN (i := 0) (by decide) (Ok.some ?_))) (fun hc => absurd hc (by decide))))) (fun hc => absurd hc (by decide))
 rw [g0_text]; rfl
theorem ShowR_good {g : GGraph} (h : goodP g) : f_text_Show g = some (bodyL (linesG g), 0) := Ok.eq ((Show_ok g h.2).mono fun r hr => hr.1 h.1)
end Go.Proofs.YtocnabkanbifdaaGreatDoor
