/-
  The law in plain words: what its plain function gives is true. No condition beyond those that each theorem names.
-/
import Derived.Test.YtocnabkanbifdaaGreatDoorWalkTB0
import Derived.Test.YtocnabkanbifdaaGreatDoorP08g
set_option linter.unusedSimpArgs false
set_option linter.unusedVariables false
set_option linter.unusedSectionVars false
namespace Go.Proofs.YtocnabkanbifdaaGreatDoor
open Go Go.RowKit
set_option linter.unusedSimpArgs false
set_option linter.unusedVariables false
/-! A graph's bytes. -/
def putN (n : Int) : List UInt8 := putU n.toNat
def insB (i : GIns) : List UInt8 := putN i.Op ++ putU (zig i.N)
def nodeB (x : GNode) : List UInt8 := putN x.Kind ++ (putN x.Scope ++ (putU (zig x.Arg) ++ (putU x.Prog.length ++ x.Prog.flatMap insB)))
def edgeB (e : GEdge) : List UInt8 := putN e.From ++ (putN e.To ++ (putN e.Port ++ putU (if e.Exchange then 1 else 0)))
def scopeB (p : Int × Int) : List UInt8 := putN p.1 ++ putN p.2
def graphB (g : GGraph) : List UInt8 := putU g.Parent.length ++ ((g.Parent.tail.zip g.Bound.tail).flatMap scopeB ++ (putU g.Nodes.length ++ (g.Nodes.flatMap nodeB ++ (putU g.Edges.length ++ g.Edges.flatMap edgeB))))
def putG (g : GGraph) : List UInt8 := [66, 87, 49] ++ graphB g
def argsIn (g : GGraph) : Prop := ∀ x ∈ g.Nodes, In x.Arg ∧ ∀ i ∈ x.Prog, In i.N
theorem putN_len {n : Int} (h : low n) : (putN n).length ≤ 10 := putU_len _ (by unfold low at h; omega)
theorem insB_len {i : GIns} (h : lowI i) (hn : In i.N) : (insB i).length ≤ 20 := by
 have := putN_len h
 have := putU_len _ (zig_lt i.N hn)
 simp only [insB, List.length_append]; omega
theorem insBs_len {x : GNode} (h : lowN x) (hn : ∀ i ∈ x.Prog, In i.N) : (x.Prog.flatMap insB).length ≤ 1280 := by
 have := flatMap_len (f := insB) (M := 20) (l := x.Prog) fun i hi => insB_len (h.2.2.2 i hi) (hn i hi)
 have := h.2.2.1
 omega
theorem nodeB_len {x : GNode} (h : lowN x) (hn : In x.Arg ∧ ∀ i ∈ x.Prog, In i.N) : (nodeB x).length ≤ 1320 := by
 have h1 := putN_len h.1
 have h2 := putN_len h.2.1
 have h3 := putU_len _ (zig_lt x.Arg hn.1)
 have h5 := h.2.2.1
 have h4 := putU_len x.Prog.length (by omega)
 have := insBs_len h hn.2
 simp only [nodeB, List.length_append]; omega
theorem edgeB_len {e : GEdge} (h : lowE e) : (edgeB e).length ≤ 40 := by
 have h1 := putN_len h.1
 have h2 := putN_len h.2.1
 have h3 := putN_len h.2.2
 have h4 := putU_len (if e.Exchange then 1 else 0) (by split <;> omega)
 simp only [edgeB, List.length_append]; omega
theorem scopeB_len {p : Int × Int} (h1 : low p.1) (h2 : low p.2) : (scopeB p).length ≤ 20 := by
 have := putN_len h1
 have := putN_len h2
 simp only [scopeB, List.length_append]; omega
theorem wrap_low {n : Int} (h : low n) : IntKind.u64.wrap n = ((n.toNat : Nat) : Int) := by
 obtain ⟨h1, h2⟩ := h
 rw [wrap_u64_in n (by omega)]; omega
theorem low_nat {n : Nat} (h : n ≤ 2147483647) : low (n : Int) := ⟨by omega, by omega⟩
theorem putN_nat (n : Nat) : putN (n : Int) = putU n := by simp [putN]
section
variable {g : GGraph} (hf : fitsG g)
include hf
variable (ha : argsIn g)
include ha
end
/-! The reference's. -/
section
variable {g : GGraph} (hf : fitsG g)
include hf
variable (ha : argsIn g)
include ha
end
end Go.Proofs.YtocnabkanbifdaaGreatDoor
