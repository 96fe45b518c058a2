/-
  The law in plain words: what its plain function gives is true. No condition beyond those that each theorem names.
-/
import Derived.Test.YtocnabkanbifdaaGreatDoorWalkTB1
import Derived.Test.YtocnabkanbifdaaGreatDoorP23q
set_option linter.unusedSimpArgs false
set_option linter.unusedVariables false
set_option linter.unusedSectionVars false
namespace Go.Proofs.YtocnabkanbifdaaGreatDoor
open Go Go.RowKit Go.Lib
set_option maxRecDepth 100000
set_option linter.unusedVariables false
/-! Each shown line is read as it was. -/
theorem raw_itoa {n : Int} (h : In n) : raw ⟨itoa n⟩ = n := by unfold raw; rw [numOf_itoa h]; rfl
theorem cl_itoa {n : Int} (h : low n) : cl ⟨itoa n⟩ = n := by unfold cl; rw [numOf_itoa (low_In h)]; exact clampR_eq h
theorem is_itoa {n : Int} (h : In n) : (numOf (itoa n)).isSome = true := by rw [numOf_itoa h]; rfl
theorem len_itoa {n : Int} (h : In n) : (itoa n).length ≤ 1000000 := by have := (itoa_len h).2; omega
theorem step_scope {G : GGraph} {a b : Int} (h1 : low a) (h2 : low b) (h3 : G.Parent.length < 8) (h4 : G.Bound.length ≤ 1000) : StepL G (scopeL a b) ⟨G.Parent ++ [a], G.Bound ++ [b], G.Nodes, G.Edges⟩ := by
 unfold StepL f_text_reader_line_p0_s0_0_s0_1_s0_2_s0_3
 refine Ok.eq (Ok.bind (Ok.idxN (i := 0) (by simp [scopeL]) (Ok.iteB (fun _ => ?_) (fun hc => absurd hc (by simp [scopeL])))))
 refine Ok.guard (by simp [scopeL]) ?_
 have he : (roomR (G.Parent.length : Int) 8 (fitsR [cl ⟨itoa a⟩, cl ⟨itoa b⟩] (allR [⟨itoa a⟩, ⟨itoa b⟩] (⟨G, 0⟩ : GText_reader)))).e = 0 := by
  simp only [roomR_e, fitsR_e, allR_e, cl_itoa h1, cl_itoa h2]
  refine ⟨⟨⟨trivial, ?_⟩, ?_⟩, by omega⟩
  · simp [is_itoa (low_In h1), is_itoa (low_In h2)]
  · simp [h1, h2]
 refine Ok.bind (Ok.of_eq (scope_eq ⟨G, 0⟩ (w0 := ⟨itoa a⟩) (w1 := ⟨itoa b⟩) (len_itoa (low_In h1)) (len_itoa (low_In h2)) (by show G.Parent.length ≤ _; omega) h4) (Ok.some ?_))
 rw [he, cl_itoa h1, cl_itoa h2]
theorem step_node {G : GGraph} {x : GNode} (h1 : 1 ≤ x.Kind ∧ x.Kind ≤ 15) (h2 : low x.Scope) (h3 : In x.Arg) (h4 : G.Nodes.length < 32) : StepL G (nodeL x) ⟨G.Parent, G.Bound, G.Nodes ++ [⟨x.Kind, x.Scope, x.Arg, []⟩], G.Edges⟩ := by
 unfold StepL f_text_reader_line_p0_s0_0_s0_1_s0_2_s0_3
 refine Ok.eq (Ok.bind (Ok.idxN (i := 0) (by simp [nodeL]) (Ok.iteB (fun hc => absurd hc (by simp [nodeL])) (fun _ => Ok.iteB (fun _ => ?_) (fun hc => absurd hc (by simp [nodeL]))))))
 refine Ok.guard (by simp [nodeL]) ?_
 have hk := plc_nm kindsL_nd h1.1 (show x.Kind ≤ (kindsL.length : Int) from h1.2)
 have he : (roomR (G.Nodes.length : Int) 32 (fitsR [cl ⟨itoa x.Scope⟩] (num1 ⟨itoa x.Arg⟩ (allR [⟨itoa x.Scope⟩] (nameR kindsL (nmOf kindsL x.Kind) (⟨G, 0⟩ : GText_reader)))))).e = 0 := by
  simp only [roomR_e, fitsR_e, num1_e, allR_e, nameR_e, cl_itoa h2, hk]
  refine ⟨⟨⟨⟨⟨trivial, by omega⟩, ?_⟩, is_itoa h3⟩, by simp [h2]⟩, by omega⟩
  simp [is_itoa (low_In h2)]
 refine Ok.bind (Ok.of_eq (node_eq ⟨G, 0⟩ (w0 := ⟨nmOf kindsL x.Kind⟩) (w1 := ⟨itoa x.Scope⟩) (w2 := ⟨itoa x.Arg⟩) (len_itoa (low_In h2)) (len_itoa h3) (by show G.Nodes.length ≤ _; omega)) (Ok.some ?_))
 rw [he, cl_itoa h2, raw_itoa h3, hk]
theorem step_ins {G : GGraph} {ns : List GNode} {x : GNode} {y : GIns} (h0 : G.Nodes = ns ++ [x]) (h1 : insOK y) (h3 : In y.N) (h4 : x.Prog.length < 64) (h5 : ns.length ≤ 1000) : StepL G (insL y) ⟨G.Parent, G.Bound, ns ++ [⟨x.Kind, x.Scope, x.Arg, x.Prog ++ [y]⟩], G.Edges⟩ := by
 unfold StepL f_text_reader_line_p0_s0_0_s0_1_s0_2_s0_3
 refine Ok.eq (Ok.bind (Ok.idxN (i := 0) (by simp [insL]) (Ok.iteB (fun hc => absurd hc (by simp [insL])) (fun _ => Ok.iteB (fun hc => absurd hc (by simp [insL])) (fun _ => Ok.iteB (fun _ => ?_) (fun hc => absurd hc (by simp [insL])))))))
 refine Ok.guard (by simp [insL]) ?_
 have hk := plc_nm codesL_nd h1.1 (show y.Op ≤ (codesL.length : Int) from h1.2)
 have he : (roomR (x.Prog.length : Int) 64 (num1 ⟨itoa y.N⟩ (nameR codesL (nmOf codesL y.Op) (⟨G, 0⟩ : GText_reader)))).e = 0 := by
  simp only [roomR_e, num1_e, nameR_e, hk]
  exact ⟨⟨⟨trivial, by have := h1.1; omega⟩, is_itoa h3⟩, by omega⟩
 refine Ok.bind (Ok.of_eq (ins_eq ⟨G, 0⟩ (w0 := ⟨nmOf codesL y.Op⟩) (w1 := ⟨itoa y.N⟩) (len_itoa h3) h0 h5 (by omega)) (Ok.some ?_))
 rw [he, raw_itoa h3, hk]
theorem step_edge {G : GGraph} {e : GEdge} (h1 : lowE e) (h4 : G.Edges.length < 64) : StepL G (edgeL e) ⟨G.Parent, G.Bound, G.Nodes, G.Edges ++ [e]⟩ := by
 unfold StepL f_text_reader_line_p0_s0_0_s0_1_s0_2_s0_3
 refine Ok.eq (Ok.bind (Ok.idxN (i := 0) (by simp [edgeL]) (Ok.iteB (fun hc => absurd hc (by simp [edgeL])) (fun _ => Ok.iteB (fun hc => absurd hc (by simp [edgeL])) (fun _ => Ok.iteB (fun hc => absurd hc (by simp [edgeL])) (fun _ => Ok.iteB (fun _ => ?_) (fun hc => absurd hc (by simp [edgeL]))))))))
 refine Ok.guard (by simp [edgeL]) ?_
 obtain ⟨l1, l2, l3⟩ := h1
 have hway : ∃ w, (if e.Exchange = true then ([107, 101, 121] : List UInt8) else [112, 105, 112, 101]) = w ∧ plc waysL w ≠ 0 ∧ (plc waysL w == 2) = e.Exchange := by
  cases e.Exchange with
  | true => exact ⟨_, rfl, by rw [if_pos rfl, plc_at waysL_nd (k := 1) rfl]; decide, by rw [if_pos rfl, plc_at waysL_nd (k := 1) rfl]; rfl⟩
  | false => exact ⟨_, rfl, by rw [if_neg (by simp), plc_at waysL_nd (k := 0) rfl]; decide, by rw [if_neg (by simp), plc_at waysL_nd (k := 0) rfl]; rfl⟩
 obtain ⟨w, hw, hw0, hw2⟩ := hway
 have he : (roomR (G.Edges.length : Int) 64 (fitsR [cl ⟨itoa e.From⟩, cl ⟨itoa e.To⟩, cl ⟨itoa e.Port⟩] (nameR waysL w (allR [⟨itoa e.From⟩, ⟨itoa e.To⟩, ⟨itoa e.Port⟩] (⟨G, 0⟩ : GText_reader))))).e = 0 := by
  simp only [roomR_e, fitsR_e, allR_e, nameR_e, cl_itoa l1, cl_itoa l2, cl_itoa l3]
  refine ⟨⟨⟨⟨trivial, ?_⟩, hw0⟩, by simp [l1, l2, l3]⟩, by omega⟩
  simp [is_itoa (low_In l1), is_itoa (low_In l2), is_itoa (low_In l3)]
 have hl : List.drop (Int.toNat 1) (List.take ((edgeL e).map GStr.mk).length ((edgeL e).map GStr.mk)) = [⟨itoa e.From⟩, ⟨itoa e.To⟩, ⟨itoa e.Port⟩, ⟨w⟩] := by
  rw [List.take_length]; unfold edgeL; rw [hw]; rfl
 rw [hl]
 refine Ok.bind (Ok.of_eq (edge_eq ⟨G, 0⟩ (w3 := ⟨w⟩) (len_itoa (low_In l1)) (len_itoa (low_In l2)) (len_itoa (low_In l3)) (by show G.Edges.length ≤ _; omega)) (Ok.some ?_))
 rw [he, cl_itoa l1, cl_itoa l2, cl_itoa l3, hw2]
end Go.Proofs.YtocnabkanbifdaaGreatDoor
