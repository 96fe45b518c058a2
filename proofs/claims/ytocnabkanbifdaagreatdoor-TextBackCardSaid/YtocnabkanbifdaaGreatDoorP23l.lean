/-
  The law in plain words: what its plain function gives is true. No condition beyond those that each theorem names.
-/
import Derived.Test.YtocnabkanbifdaaGreatDoorWalkTB1
import Derived.Test.YtocnabkanbifdaaGreatDoorP23k
set_option linter.unusedSimpArgs false
set_option linter.unusedVariables false
set_option linter.unusedSectionVars false
namespace Go.Proofs.YtocnabkanbifdaaGreatDoor
open Go Go.RowKit Go.Lib
set_option maxRecDepth 100000
set_option linter.unusedVariables false
/-! Lines of a graph, read. -/
theorem kindsL_nd : kindsL.Nodup := by decide +kernel
theorem codesL_nd : codesL.Nodup := by decide +kernel
def waysL : List (List UInt8) := [[112, 105, 112, 101], [107, 101, 121]]
theorem waysL_nd : waysL.Nodup := by decide +kernel
theorem node_eq (rv : GText_reader) {w0 w1 w2 : GStr} (h1 : w1.s.length ≤ 1000000) (h2 : w2.s.length ≤ 1000000) (hp : rv.g.Nodes.length ≤ 1000) :
  f_text_reader_node_p0_s0_0_s0_1_s0_2_s0_3 rv [w0, w1, w2] = some ⟨⟨rv.g.Parent, rv.g.Bound, rv.g.Nodes ++ [⟨plc kindsL w0.s, cl w1, raw w2, []⟩], rv.g.Edges⟩, (roomR (rv.g.Nodes.length : Int) 32 (fitsR [cl w1] (num1 w2 (allR [w1] (nameR kindsL w0.s rv))))).e⟩ := by
 refine Ok.eq ?_
 unfold f_text_reader_node_p0_s0_0_s0_1_s0_2_s0_3
 refine Ok.bind (Ok.of_eq kinds_eq (Ok.bind (Ok.idxN (i := 0) (by simp) ?_)))
 refine Ok.bind (Ok.of_eq (name_eq23 rv (by decide) kindsL_nd) (Ok.bind (Ok.idxN (i := 1) (by simp) ?_)))
 refine Ok.bind (Ok.of_eq (small_eq23 _ (by simp) (by simp; omega)) (Ok.bind (Ok.idxN (i := 2) (by simp) ?_)))
 refine Ok.bind (Ok.of_eq (numR_eq' _ (by simp; omega)) ?_)
 refine Ok.bind (Ok.of_eq (fits_eq23 _ (by simp [numsOf])) ?_)
 refine Ok.bind (Ok.of_eq (room_eq23 _ _ _) ?_)
 simp only [roomR_g, fitsR_g, allR_g, num1_g, nameR_g, numsOf, List.map_cons, List.map_nil, List.getElem_cons_succ, List.getElem_cons_zero]
 refine Ok.bind (Ok.idxN (i := 0) (by simp) ?_)
 exact Ok.guard (by omega) (Ok.some rfl)
theorem edge_eq (rv : GText_reader) {w0 w1 w2 w3 : GStr} (h0 : w0.s.length ≤ 1000000) (h1 : w1.s.length ≤ 1000000) (h2 : w2.s.length ≤ 1000000) (hp : rv.g.Edges.length ≤ 1000) :
  f_text_reader_edge_p0_s0_0_s0_1_s0_2_s0_3 rv [w0, w1, w2, w3] = some ⟨⟨rv.g.Parent, rv.g.Bound, rv.g.Nodes, rv.g.Edges ++ [⟨cl w0, cl w1, cl w2, plc waysL w3.s == 2⟩]⟩, (roomR (rv.g.Edges.length : Int) 64 (fitsR [cl w0, cl w1, cl w2] (nameR waysL w3.s (allR [w0, w1, w2] rv)))).e⟩ := by
 refine Ok.eq ?_
 unfold f_text_reader_edge_p0_s0_0_s0_1_s0_2_s0_3
 refine Ok.guard (by simp) ?_
 rw [show List.take (Int.toNat 3) [w0, w1, w2, w3] = [w0, w1, w2] from rfl]
 refine Ok.bind (Ok.of_eq (small_eq23 _ (by simp) (by simp; omega)) (Ok.bind (Ok.idxN (i := 3) (by simp) ?_)))
 refine Ok.bind (Ok.of_eq (name_eq23 (l := waysL) _ (by decide) waysL_nd) ?_)
 refine Ok.bind (Ok.of_eq (fits_eq23 _ (by simp [numsOf])) ?_)
 refine Ok.bind (Ok.of_eq (room_eq23 _ _ _) ?_)
 simp only [roomR_g, fitsR_g, allR_g, num1_g, nameR_g, numsOf, List.map_cons, List.map_nil, List.getElem_cons_succ, List.getElem_cons_zero]
 refine Ok.bind (Ok.idxN (i := 0) (by simp) (Ok.bind (Ok.idxN (i := 1) (by simp) (Ok.bind (Ok.idxN (i := 2) (by simp) ?_)))))
 exact Ok.guard (by simp only [List.length_cons, List.length_nil]; omega) (Ok.some rfl)
theorem ins_eq0 (rv : GText_reader) {w0 w1 : GStr} (h1 : w1.s.length ≤ 1000000) (hp : rv.g.Nodes = []) :
  Ok (f_text_reader_ins_p0_s0_0_s0_1_s0_2_s0_3 rv [w0, w1]) (fun r => r.e ≠ 0) := by
 unfold f_text_reader_ins_p0_s0_0_s0_1_s0_2_s0_3
 refine Ok.bind (Ok.of_eq codes_eq (Ok.bind (Ok.idxN (i := 0) (by simp) ?_)))
 refine Ok.bind (Ok.of_eq (name_eq23 rv (by decide) codesL_nd) (Ok.bind (Ok.idxN (i := 1) (by simp) ?_)))
 refine Ok.bind (Ok.of_eq (numR_eq' _ (by simp; omega)) ?_)
 simp only [num1_g, nameR_g, hp, List.length_nil]
 refine Ok.iteB (fun _ => ?_) (fun hx => absurd hx (by decide))
 rw [fail_eq]
 exact Ok.bind (Ok.some (Ok.some (failR_e (by decide))))
theorem ins_eq (rv : GText_reader) {w0 w1 : GStr} {ns : List GNode} {x : GNode} (h1 : w1.s.length ≤ 1000000) (hp : rv.g.Nodes = ns ++ [x]) (hl : ns.length ≤ 1000) (hx : x.Prog.length ≤ 1000) :
  f_text_reader_ins_p0_s0_0_s0_1_s0_2_s0_3 rv [w0, w1] = some ⟨⟨rv.g.Parent, rv.g.Bound, ns ++ [⟨x.Kind, x.Scope, x.Arg, x.Prog ++ [⟨plc codesL w0.s, raw w1⟩]⟩], rv.g.Edges⟩, (roomR (x.Prog.length : Int) 64 (num1 w1 (nameR codesL w0.s rv))).e⟩ := by
 refine Ok.eq ?_
 unfold f_text_reader_ins_p0_s0_0_s0_1_s0_2_s0_3
 refine Ok.bind (Ok.of_eq codes_eq (Ok.bind (Ok.idxN (i := 0) (by simp) ?_)))
 refine Ok.bind (Ok.of_eq (name_eq23 rv (by decide) codesL_nd) (Ok.bind (Ok.idxN (i := 1) (by simp) ?_)))
 refine Ok.bind (Ok.of_eq (numR_eq' _ (by simp; omega)) ?_)
 have hlen : IntKind.i64.wrap (((ns ++ [x]).length : Int) - 1) = (ns.length : Int) := by
  rw [List.length_append, List.length_cons, List.length_nil, wrap_i64 _ (by omega)]; omega
 simp only [num1_g, nameR_g, hp, hlen]
 refine Ok.iteB (fun hx => absurd hx (by simp)) (fun _ => ?_)
 refine Ok.bind (Ok.idxN (i := ns.length) (by simp) ?_)
 simp only [List.getElem_append_right (Nat.le_refl _), Nat.sub_self, List.getElem_cons_zero]
 refine Ok.bind (Ok.of_eq (room_eq23 _ _ _) ?_)
 simp only [roomR_g, num1_g, nameR_g, hp]
 refine Ok.bind (Ok.idxN (i := ns.length) (by simp) ?_)
 simp only [List.getElem_append_right (Nat.le_refl _), Nat.sub_self, List.getElem_cons_zero, Int.toNat_natCast]
 refine Ok.guard (by simp only [List.length_cons, List.length_nil]; omega) (Ok.some ?_)
 rw [List.set_append_right _ _ (Nat.le_refl _), Nat.sub_self]
 rfl
end Go.Proofs.YtocnabkanbifdaaGreatDoor
