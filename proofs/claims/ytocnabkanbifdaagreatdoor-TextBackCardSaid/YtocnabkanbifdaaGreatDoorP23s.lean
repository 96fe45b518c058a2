/-
  The law in plain words: what its plain function gives is true. No condition beyond those that each theorem names.
-/
import Derived.Test.YtocnabkanbifdaaGreatDoorWalkTB0
import Derived.Test.YtocnabkanbifdaaGreatDoorP23r
set_option linter.unusedSimpArgs false
set_option linter.unusedVariables false
set_option linter.unusedSectionVars false
namespace Go.Proofs.YtocnabkanbifdaaGreatDoor
open Go Go.RowKit Go.Lib
set_option maxRecDepth 100000
set_option linter.unusedVariables false
/-! A shown graph is read as it was. -/
theorem run_scopes {N : List GNode} {E : List GEdge} : ∀ (l : List (Int × Int)) (P B : List Int), (∀ p ∈ l, low p.1 ∧ low p.2) → P.length + l.length ≤ 8 → B.length ≤ 100 → l.length ≤ 100 →
  RunL ⟨P, B, N, E⟩ (l.map fun p => scopeL p.1 p.2) ⟨P ++ l.map (·.1), B ++ l.map (·.2), N, E⟩
 | [], P, B, _, _, _, _ => by simp [RunL]
 | p :: l, P, B, h, h1, h2, h3 => by
  have hp := h p (by simp)
  simp only [List.length_cons] at h1 h3
  refine ⟨⟨P ++ [p.1], B ++ [p.2], N, E⟩, step_scope (G := ⟨P, B, N, E⟩) hp.1 hp.2 (by show P.length < 8; omega) (by show B.length ≤ 1000; omega), ?_⟩
  have key : ∀ (l : List (Int × Int)) (P B : List Int), (∀ p ∈ l, low p.1 ∧ low p.2) → P.length + l.length ≤ 8 → B.length + l.length ≤ 300 → RunL ⟨P, B, N, E⟩ (l.map fun p => scopeL p.1 p.2) ⟨P ++ l.map (·.1), B ++ l.map (·.2), N, E⟩ := by
   intro l
   induction l with
   | nil => intro P B _ _ _; simp [RunL]
   | cons p l ih =>
    intro P B h h1 h2
    have hp := h p (by simp)
    simp only [List.length_cons] at h1 h2
    refine ⟨⟨P ++ [p.1], B ++ [p.2], N, E⟩, step_scope (G := ⟨P, B, N, E⟩) hp.1 hp.2 (by show P.length < 8; omega) (by show B.length ≤ 1000; omega), ?_⟩
    have := ih (P ++ [p.1]) (B ++ [p.2]) (fun q hq => h q (by simp [hq])) (by simp; omega) (by simp; omega)
    simpa using this
  have := key l (P ++ [p.1]) (B ++ [p.2]) (fun q hq => h q (by simp [hq])) (by simp; omega) (by simp; omega)
  simpa using this
theorem run_prog {P B : List Int} {E : List GEdge} {ns : List GNode} {k s a : Int} (hns : ns.length ≤ 1000) : ∀ (l pr : List GIns), (∀ y ∈ l, insOK y ∧ In y.N) → pr.length + l.length ≤ 64 →
  RunL ⟨P, B, ns ++ [⟨k, s, a, pr⟩], E⟩ (l.map insL) ⟨P, B, ns ++ [⟨k, s, a, pr ++ l⟩], E⟩
 | [], pr, _, _ => by simp [RunL]
 | y :: l, pr, h, h1 => by
  have hy := h y (by simp)
  simp only [List.length_cons] at h1
  have st : StepL ⟨P, B, ns ++ [⟨k, s, a, pr⟩], E⟩ (insL y) ⟨P, B, ns ++ [⟨k, s, a, pr ++ [y]⟩], E⟩ := by
   have h64 : pr.length < 64 := by omega
   have := step_ins (G := ⟨P, B, ns ++ [⟨k, s, a, pr⟩], E⟩) (ns := ns) (x := ⟨k, s, a, pr⟩) (y := y) rfl hy.1 hy.2 h64 hns
   exact this
  show ∃ G1, StepL _ (insL y) G1 ∧ RunL G1 (l.map insL) _
  refine ⟨_, st, ?_⟩
  have := run_prog (P := P) (B := B) (E := E) (k := k) (s := s) (a := a) hns l (pr ++ [y]) (fun z hz => h z (by simp [hz])) (by simp; omega)
  simpa using this
theorem run_nodes {P B : List Int} {E : List GEdge} : ∀ (l ns : List GNode), (∀ x ∈ l, nodeOK x ∧ lowN x ∧ In x.Arg ∧ ∀ y ∈ x.Prog, In y.N) → ns.length + l.length ≤ 32 →
  RunL ⟨P, B, ns, E⟩ (l.flatMap nodeLs) ⟨P, B, ns ++ l, E⟩
 | [], ns, _, _ => by simp [RunL]
 | x :: l, ns, h, h1 => by
  obtain ⟨hk, hl, ha, hp⟩ := h x (by simp)
  simp only [List.length_cons] at h1
  rw [List.flatMap_cons]
  refine RunL.app (G1 := ⟨P, B, ns ++ [x], E⟩) ?_ ?_
  ·
   refine ⟨⟨P, B, ns ++ [⟨x.Kind, x.Scope, x.Arg, []⟩], E⟩, step_node (G := ⟨P, B, ns, E⟩) hk.1 hl.2.1 ha (by show ns.length < 32; omega), ?_⟩
   have := run_prog (P := P) (B := B) (E := E) (k := x.Kind) (s := x.Scope) (a := x.Arg) (show ns.length ≤ 1000 by omega) x.Prog [] (fun y hy => ⟨hk.2 y hy, hp y hy⟩) (by simpa using hl.2.2.1)
   simpa using this
  ·
   have := run_nodes (P := P) (B := B) (E := E) l (ns ++ [x]) (fun z hz => h z (by simp [hz])) (by simp; omega)
   simpa using this
theorem run_edges {P B : List Int} {N : List GNode} : ∀ (l es : List GEdge), (∀ e ∈ l, lowE e) → es.length + l.length ≤ 64 → RunL ⟨P, B, N, es⟩ (l.map edgeL) ⟨P, B, N, es ++ l⟩
 | [], es, _, _ => by simp [RunL]
 | e :: l, es, h, h1 => by
  simp only [List.length_cons] at h1
  refine ⟨⟨P, B, N, es ++ [e]⟩, step_edge (G := ⟨P, B, N, es⟩) (h e (by simp)) (by show es.length < 64; omega), ?_⟩
  have := run_edges (P := P) (B := B) (N := N) l (es ++ [e]) (fun z hz => h z (by simp [hz])) (by simp; omega)
  simpa using this
theorem run_graph {g : GGraph} (h : goodP g) : RunL ⟨[-1], [0], [], []⟩ (linesG g) g := by
 obtain ⟨⟨⟨⟨ps, bs, hP, hB, hl, hl7, hps, hbs⟩, hN, hE, hNl, hEl⟩, hK⟩, ha⟩ := h
 unfold linesG
 rw [hP, hB]
 simp only [List.tail_cons]
 have hz : (ps.zip bs).length = ps.length := by rw [List.length_zip]; omega
 have r1 := run_scopes (N := []) (E := []) (ps.zip bs) [-1] [0] (fun p hp => ⟨hps _ (List.of_mem_zip hp).1, hbs _ (List.of_mem_zip hp).2⟩) (by simp; omega) (by simp) (by omega)
 rw [List.map_fst_zip (by omega), List.map_snd_zip (by omega)] at r1
 have r2 := run_nodes (P := [-1] ++ ps) (B := [0] ++ bs) (E := []) g.Nodes [] (fun x hx => ⟨hK x hx, hNl x hx, ha x hx⟩) (by simpa using hN)
 have r3 := run_edges (P := [-1] ++ ps) (B := [0] ++ bs) (N := g.Nodes) g.Edges [] hEl (by simpa using hE)
 have r := (r1.app r2).app r3
 have e : g = ⟨[-1] ++ ps, [0] ++ bs, g.Nodes, g.Edges⟩ := by
  cases g
  simp only at hP hB
  simp [hP, hB]
 rw [e]
 have hnl : nodeLs = fun x => nodeL x :: x.Prog.map insL := rfl
 rw [hnl] at r
 simpa using r
end Go.Proofs.YtocnabkanbifdaaGreatDoor
