/-
  The law in plain words: what its plain function gives is true. No condition beyond those that each theorem names.
-/
import Derived.Test.YtocnabkanbifdaaGreatDoorWalkTB1
import Derived.Test.YtocnabkanbifdaaGreatDoorWalkTB0
import Derived.Test.YtocnabkanbifdaaGreatDoorP08h
set_option linter.unusedSimpArgs false
set_option linter.unusedVariables false
set_option linter.unusedSectionVars false
namespace Go.Proofs.YtocnabkanbifdaaGreatDoor
open Go Go.RowKit
set_option linter.unusedSimpArgs false
set_option linter.unusedVariables false
/-! A graph's bytes, where the writer is a thing of ours. -/
theorem add_eq (w : List UInt8) (l : List Int) (hw : w.length ≤ 100000000) (hl : l.length ≤ 100) (h : ∀ n ∈ l, low n) : f_graph_writer_add_p0 ⟨w⟩ l = some ⟨w ++ l.flatMap putN⟩ := by
 refine Ok.eq ?_
 unfold f_graph_writer_add_p0
 refine Ok.each (l := l) (by omega) (fun i s => s = w ++ (l.take i).flatMap putN) 0 (fun rec i hi s _ hI hr => ?_) (fun rec s hI => ?_) (by simp) (by omega)
 ·
  unfold f_graph_writer_add_p0_B1
  simp only
  rw [if_pos (by simp only [decide_eq_true_eq]; omega)]
  have hli := h _ (List.getElem_mem hi)
  have hlen := flatMap_take_len (f := putN) (M := 10) (l := l) i (by omega) fun x hx => putN_len (h x hx)
  refine Ok.bind (Ok.idxN hi ?_)
  rw [wrap_low hli, Uint_eq s _ (by rw [hI, List.length_append]; omega) (by have := hli.2; omega)]
  refine Ok.bind (Ok.some ?_)
  rw [wrap_succ (by omega)]
  exact hr _ (by rw [hI, flatMap_take hi, List.append_assoc]; rfl)
 ·
  rw [List.take_length] at hI
  unfold f_graph_writer_add_p0_B1
  simp only
  rw [if_neg (by simp)]
  exact Ok.some (by rw [hI])
theorem sign_eq (w : List UInt8) (n : Int) (hw : w.length ≤ 100000000) (hn : In n) : f_graph_writer_sign_p0 ⟨w⟩ n = some ⟨w ++ putU (zig n)⟩ := by
 unfold f_graph_writer_sign_p0
 rw [Int_eq w n (by omega) hn]; rfl
section
variable {g : GGraph} (hf : fitsG g)
include hf
theorem PutJ2_ok (b : List UInt8) (hb : b.length ≤ 50000) : Ok (f_graph_Put_J2 g ⟨b⟩) (fun r => r = (b ++ (putU g.Edges.length ++ g.Edges.flatMap edgeB), 0)) := by
 obtain ⟨_, _, hE, _, hEl⟩ := hf
 unfold f_graph_Put_J2
 rw [add_eq b _ (by omega) (by simp) (by simp only [List.mem_singleton]; rintro n rfl; exact low_nat (by omega))]
 refine Ok.bind (Ok.some ?_)
 simp only [List.flatMap_cons, List.flatMap_nil, List.append_nil, putN_nat]
 have hpl := putU_len g.Edges.length (by omega)
 refine Ok.each (l := g.Edges) (by omega) (fun i s => s.b = b ++ (putU g.Edges.length ++ (g.Edges.take i).flatMap edgeB)) 0 (fun rec i hi s _ hI hr => ?_) (fun rec s hI => ?_) (by simp) (by omega)
 ·
  obtain ⟨s⟩ := s
  simp only at hI
  subst hI
  unfold f_graph_Put_B3
  simp only
  rw [if_pos (by simp only [decide_eq_true_eq]; omega)]
  have hm := List.getElem_mem hi
  have hli := hEl _ hm
  have hlen := flatMap_take_len (f := edgeB) (M := 40) (l := g.Edges) i (by omega) fun x hx => edgeB_len (hEl x hx)
  refine Ok.bind (Ok.idxN hi ?_)
  have key : ∀ q : Nat, q ≤ 1 → putU q = putU (if g.Edges[i].Exchange then 1 else 0) → Ok (f_graph_Put_J4 (i : Int) ⟨b ++ (putU g.Edges.length ++ (g.Edges.take i).flatMap edgeB)⟩ rec g.Edges[i] (q : Int)) (fun r => r = (b ++ (putU g.Edges.length ++ g.Edges.flatMap edgeB), 0)) := fun q hq he => by
   unfold f_graph_Put_J4
   rw [add_eq _ _ (by simp only [List.length_append]; omega) (by simp) (by
    intro n hn
    simp only [List.mem_cons, List.not_mem_nil, or_false] at hn
    rcases hn with rfl | rfl | rfl | rfl
    · exact hli.1
    · exact hli.2.1
    · exact hli.2.2
    · exact low_nat (by omega))]
   refine Ok.bind (Ok.some ?_)
   rw [wrap_succ (by omega)]
   refine hr _ ?_
   rw [flatMap_take hi]
   simp only [List.flatMap_cons, List.flatMap_nil, List.append_nil, edgeB, putN_nat, List.append_assoc, he]
  refine Ok.iteB (fun hx => key 1 (by omega) (by rw [if_pos hx])) (fun hx => key 0 (by omega) (by rw [if_neg (by rw [hx]; simp)]))
 ·
  rw [List.take_length] at hI
  unfold f_graph_Put_B3
  simp only
  rw [if_neg (by simp)]
  exact Ok.some (by rw [hI])
variable (ha : argsIn g)
include ha
theorem PutJ1_ok (b : List UInt8) (hb : b.length ≤ 1000) : Ok (f_graph_Put_J1 g ⟨b⟩) (fun r => r = (b ++ (putU g.Nodes.length ++ (g.Nodes.flatMap nodeB ++ (putU g.Edges.length ++ g.Edges.flatMap edgeB))), 0)) := by
 have hf0 := hf
 obtain ⟨_, hN, _, hNl, _⟩ := hf
 unfold f_graph_Put_J1
 rw [add_eq b _ (by omega) (by simp) (by simp only [List.mem_singleton]; rintro n rfl; exact low_nat (by omega))]
 refine Ok.bind (Ok.some ?_)
 simp only [List.flatMap_cons, List.flatMap_nil, List.append_nil, putN_nat]
 have hpl := putU_len g.Nodes.length (by omega)
 have hLen : ∀ i, i ≤ g.Nodes.length → ((g.Nodes.take i).flatMap nodeB).length ≤ i * 1320 := fun i hi => flatMap_take_len i hi fun x hx => nodeB_len (hNl x hx) (ha x hx)
 refine Ok.each (l := g.Nodes) (by omega) (fun i s => s.b = b ++ (putU g.Nodes.length ++ (g.Nodes.take i).flatMap nodeB)) 0 (fun rec i hi s _ hI hr => ?_) (fun rec s hI => ?_) (by simp) (by omega)
 ·
  obtain ⟨s⟩ := s
  simp only at hI
  unfold f_graph_Put_B5
  simp only
  rw [if_pos (by simp only [decide_eq_true_eq]; omega)]
  have hm := List.getElem_mem hi
  have hli := hNl _ hm
  have hlen := hLen i (by omega)
  have hs : s.length ≤ 50000 := by rw [hI]; simp only [List.length_append]; omega
  have hx1 := putN_len hli.1
  have hx2 := putN_len hli.2.1
  have hx3 := putU_len _ (zig_lt _ (ha _ hm).1)
  have hx5 := hli.2.2.1
  have hx4 := putU_len g.Nodes[i].Prog.length (by omega)
  refine Ok.bind (Ok.idxN hi ?_)
  rw [add_eq s _ (by omega) (by simp) (by
   intro n hn
   simp only [List.mem_cons, List.not_mem_nil, or_false] at hn
   rcases hn with rfl | rfl
   · exact hli.1
   · exact hli.2.1)]
  refine Ok.bind (Ok.some ?_)
  simp only [List.flatMap_cons, List.flatMap_nil, List.append_nil]
  rw [sign_eq _ _ (by simp only [List.length_append]; omega) (ha _ hm).1]
  refine Ok.bind (Ok.some ?_)
  rw [add_eq _ _ (by simp only [List.length_append]; omega) (by simp) (by simp only [List.mem_singleton]; rintro n rfl; exact low_nat (by omega))]
  refine Ok.bind (Ok.some ?_)
  simp only [List.flatMap_cons, List.flatMap_nil, List.append_nil, putN_nat]
  refine Ok.each (l := g.Nodes[i].Prog) (by omega) (fun k t => t.b = s ++ (putN g.Nodes[i].Kind ++ (putN g.Nodes[i].Scope ++ (putU (zig g.Nodes[i].Arg) ++ (putU g.Nodes[i].Prog.length ++ (g.Nodes[i].Prog.take k).flatMap insB))))) 0 (fun rec2 k hk t _ hI2 hr2 => ?_) (fun rec2 t hI2 => ?_) (by simp [List.append_assoc]) (by omega)
  ·
   obtain ⟨t⟩ := t
   simp only at hI2
   unfold f_graph_Put_B6
   simp only
   rw [if_pos (by simp only [decide_eq_true_eq]; omega)]
   have hmk := List.getElem_mem hk
   have hlk := hli.2.2.2 _ hmk
   have hk2 := flatMap_take_len (f := insB) (M := 20) (l := g.Nodes[i].Prog) k (by omega) fun x hx => insB_len (hli.2.2.2 x hx) ((ha _ hm).2 x hx)
   have ht : t.length ≤ 60000 := by rw [hI2]; simp only [List.length_append]; omega
   refine Ok.bind (Ok.idxN hk ?_)
   rw [add_eq t _ (by omega) (by simp) (by simp only [List.mem_singleton]; rintro n rfl; exact hlk)]
   refine Ok.bind (Ok.some ?_)
   simp only [List.flatMap_cons, List.flatMap_nil, List.append_nil]
   have hx6 := putN_len hlk
   rw [sign_eq _ _ (by simp only [List.length_append]; omega) ((ha _ hm).2 _ hmk)]
   refine Ok.bind (Ok.some ?_)
   rw [wrap_succ (by omega)]
   refine hr2 _ ?_
   rw [flatMap_take hk, hI2]
   simp only [insB, List.append_assoc]
  ·
   obtain ⟨t⟩ := t
   simp only at hI2
   rw [List.take_length] at hI2
   unfold f_graph_Put_B6
   simp only
   rw [if_neg (by simp), wrap_succ (by omega)]
   refine hr _ ?_
   rw [flatMap_take hi, hI2, hI]
   simp only [nodeB, List.append_assoc]
 ·
  obtain ⟨s⟩ := s
  simp only at hI
  rw [List.take_length] at hI
  have hlen := hLen g.Nodes.length (by omega)
  rw [List.take_length] at hlen
  unfold f_graph_Put_B5
  simp only
  rw [if_neg (by simp)]
  have hs : s.length ≤ 50000 := by rw [hI]; simp only [List.length_append]; omega
  refine (PutJ2_ok hf0 s hs).mono fun r hr => ?_
  rw [hr, hI]
  simp only [List.append_assoc]
end
theorem Put_ok (g : GGraph) (ha : argsIn g) : Ok (f_graph_Put g) (fun r => (fitsG g → r = (putG g, 0)) ∧ (¬ fitsG g → r = ([], 1))) := by
 unfold f_graph_Put
 refine Ok.bind2 (fits_ok g) fun v hv => Ok.iteB (fun hc => Ok.some ⟨fun h => ?_, fun _ => rfl⟩) (fun hc => ?_)
 · rw [hv.2 h] at hc; cases hc
 have hf : fitsG g := hv.1 (by simpa using hc)
 have hf0 := hf
 refine Ok.mono (P := fun r => r = (putG g, 0)) ?_ (fun r hr => ⟨fun _ => hr, fun h => absurd hf h⟩)
 obtain ⟨⟨ps, bs, hP, hB, hl, hl7, hps, hbs⟩, _⟩ := hf
 refine Ok.guard (by omega) (Ok.guard (by omega) (Ok.guard (by omega) ?_))
 have hPl : g.Parent.length = ps.length + 1 := by rw [hP]; rfl
 rw [add_eq _ _ (by simp) (by simp) (by simp only [List.mem_singleton]; rintro n rfl; exact low_nat (by omega))]
 refine Ok.bind (Ok.some (Ok.guard (by omega) ?_))
 simp only [List.flatMap_cons, List.flatMap_nil, List.append_nil, putN_nat]
 have hz : (ps.zip bs).length = ps.length := by rw [List.length_zip]; omega
 have hpl := putU_len g.Parent.length (by omega)
 have hlow : ∀ p ∈ ps.zip bs, low p.1 ∧ low p.2 := fun p hp => ⟨hps _ (List.of_mem_zip hp).1, hbs _ (List.of_mem_zip hp).2⟩
 have hd : (List.drop (Int.toNat 1) (List.take (List.length g.Parent) g.Parent)).length = ps.length := by rw [List.take_length, hP]; rfl
 refine Ok.each (l := ps.zip bs) (by omega) (fun i s => s.b = [66, 87, 49] ++ (putU g.Parent.length ++ ((ps.zip bs).take i).flatMap scopeB)) 0 (fun rec i hi s _ hI hr => ?_) (fun rec s hI => ?_) (by simp; exact ⟨rfl, rfl, rfl⟩) (by omega)
 ·
  obtain ⟨s⟩ := s
  simp only at hI
  unfold f_graph_Put_B7
  simp only [hd]
  rw [if_pos (by simp only [decide_eq_true_eq]; omega)]
  have hw : IntKind.i64.wrap (1 + (i : Int)) = ((i + 1 : Nat) : Int) := by rw [wrap_i64 _ (by omega)]; omega
  rw [hw]
  have hlen := flatMap_take_len (f := scopeB) (M := 20) (l := ps.zip bs) i (by omega) fun x hx => scopeB_len (hlow x hx).1 (hlow x hx).2
  have hs : s.length ≤ 1000 := by rw [hI]; simp only [List.length_append, List.length_cons, List.length_nil]; omega
  refine Ok.bind (Ok.idxN (show i + 1 < g.Parent.length by omega) (Ok.bind (Ok.idxN (show i + 1 < g.Bound.length by rw [hB]; simp only [List.length_cons]; omega) ?_)))
  have e1 : g.Parent[i + 1]'(by omega) = ps[i]'(by omega) := by simp only [hP, List.getElem_cons_succ]
  have e2 : g.Bound[i + 1]'(by rw [hB]; simp only [List.length_cons]; omega) = bs[i]'(by omega) := by simp only [hB, List.getElem_cons_succ]
  rw [e1, e2]
  rw [add_eq s _ (by omega) (by simp) (by
   intro n hn
   simp only [List.mem_cons, List.not_mem_nil, or_false] at hn
   rcases hn with rfl | rfl
   · exact hps _ (List.getElem_mem _)
   · exact hbs _ (List.getElem_mem _))]
  refine Ok.bind (Ok.some ?_)
  rw [wrap_succ (by omega)]
  refine hr _ ?_
  rw [flatMap_take hi, hI]
  simp only [List.flatMap_cons, List.flatMap_nil, List.append_nil, scopeB, List.getElem_zip, List.append_assoc]
 ·
  obtain ⟨s⟩ := s
  simp only at hI
  rw [List.take_length] at hI
  have hlen := flatMap_len (f := scopeB) (M := 20) (l := ps.zip bs) fun x hx => scopeB_len (hlow x hx).1 (hlow x hx).2
  have hs : s.length ≤ 1000 := by rw [hI]; simp only [List.length_append, List.length_cons, List.length_nil]; omega
  unfold f_graph_Put_B7
  simp only [hd]
  rw [if_neg (by simp; omega)]
  refine (PutJ1_ok hf0 ha s hs).mono fun r hr => ?_
  rw [hr, hI]
  simp only [putG, graphB, hP, hB, List.tail_cons, List.append_assoc, List.length_cons]
/-! The reference's. -/
end Go.Proofs.YtocnabkanbifdaaGreatDoor
