/-
  No cell of these rows narrows 'for every input' (looked for: loops, veiled, ifaces, maps, wideKeys, modest, calm, conditions, laid).
  DERIVED. THE GIVEN ROWS OF THIS SEAT. 11 by the template 'for every input the law returns true; each argument reads behind the call as it read before'; 0 by the template 'total and deterministic' (their statements: YtngeldeahafcfaaTotals.lean).
  GIVEN WITH THE SEED: the statements are not yours to turn. If you find one false, say at which input.
  Laid BY PROGRAM, IN A SANDBOX (cutbox-rows.mjs): the forced cells as the released guide's own fill.sh prints them over the translation d0800a9687d102b4… (all of the seat's roots in one cut). By AI agents, Wed Nov 11 2026. No macro, syntax, notation, axiom, sorry.
-/
import Derived.Test.YtngeldeahafcfaaChecked
import GoSem.Claim
import GoSem.ClaimJoined
import GoSem.ClaimMapViews
import Derived.JoinedTies
import Derived.KernelRfl
namespace Go.Proofs.Ytngeldeahafcfaa
/- THE CELL 'sum', in the pinned program and in every row, IS THE sha256 OF THE DUMP (.gsa) THAT YtngeldeahafcfaaProg.lean LOADS. Nothing in Lean hashes anything: it is a label: what it is worth is what the hold of that sum in a sandbox is worth. -/
noncomputable def Try.pinned : Pinned := { name := "ytngeldeahafcfaa", sum := "d0800a9687d102b423e13f2cb7ecd536908b8914e206c2d708d59d0a5276d885", checked := Try.checked }
namespace Rows
def none {H : Type} : Left H := { results := [], args := [] }

/-- 'backwashlaw06.WireReads': WHATEVER THE INPUT: true; the input reads as it did. -/
def wireReadsSpec : ChangeSpec := { name := "wireReads", fn := fun _ => fun
  | [d] => { results := [.lit (.bool true)], args := [d] }
  | _ => none }
def wireReadsRow : OpenClaim := { program := "ytngeldeahafcfaa", sum := "d0800a9687d102b423e13f2cb7ecd536908b8914e206c2d708d59d0a5276d885", func := "backwash/backwashlaw06.WireReads", spec := "wireReads", apart := false }
def WireReadsSaid : Prop := wireReadsRow.holds Try.pinned (OpenSpec.ofChange wireReadsSpec)

/-- ITS FALSE NEIGHBOUR: 'it returns false'. Refute it at one input. -/
def wireReadsWrong : ChangeSpec := { name := "wireReads", fn := fun _ => fun
  | [d] => { results := [.lit (.bool false)], args := [d] }
  | _ => none }
def WireReadsWrongFalsely : Prop := wireReadsRow.holds Try.pinned (OpenSpec.ofChange wireReadsWrong)

/-- 'backwashlaw06.WirePuts': WHATEVER THE INPUT: true; the input reads as it did. -/
def wirePutsSpec : ChangeSpec := { name := "wirePuts", fn := fun _ => fun
  | [d1, d2, d3] => { results := [.lit (.bool true)], args := [d1, d2, d3] }
  | _ => none }
def wirePutsRow : OpenClaim := { program := "ytngeldeahafcfaa", sum := "d0800a9687d102b423e13f2cb7ecd536908b8914e206c2d708d59d0a5276d885", func := "backwash/backwashlaw06.WirePuts", spec := "wirePuts", apart := false }
def WirePutsSaid : Prop := wirePutsRow.holds Try.pinned (OpenSpec.ofChange wirePutsSpec)

/-- ITS FALSE NEIGHBOUR: 'it returns false'. Refute it at one input. -/
def wirePutsWrong : ChangeSpec := { name := "wirePuts", fn := fun _ => fun
  | [d1, d2, d3] => { results := [.lit (.bool false)], args := [d1, d2, d3] }
  | _ => none }
def WirePutsWrongFalsely : Prop := wirePutsRow.holds Try.pinned (OpenSpec.ofChange wirePutsWrong)

/-- 'backwashlaw06.WireBack': WHATEVER THE INPUT: true; the input reads as it did. -/
def wireBackSpec : ChangeSpec := { name := "wireBack", fn := fun _ => fun
  | [d1, d2, d3] => { results := [.lit (.bool true)], args := [d1, d2, d3] }
  | _ => none }
def wireBackRow : OpenClaim := { program := "ytngeldeahafcfaa", sum := "d0800a9687d102b423e13f2cb7ecd536908b8914e206c2d708d59d0a5276d885", func := "backwash/backwashlaw06.WireBack", spec := "wireBack", apart := false }
def WireBackSaid : Prop := wireBackRow.holds Try.pinned (OpenSpec.ofChange wireBackSpec)

/-- ITS FALSE NEIGHBOUR: 'it returns false'. Refute it at one input. -/
def wireBackWrong : ChangeSpec := { name := "wireBack", fn := fun _ => fun
  | [d1, d2, d3] => { results := [.lit (.bool false)], args := [d1, d2, d3] }
  | _ => none }
def WireBackWrongFalsely : Prop := wireBackRow.holds Try.pinned (OpenSpec.ofChange wireBackWrong)

/-- 'backwashlaw06.WireSize': WHATEVER THE INPUT: true; the input reads as it did. -/
def wireSizeSpec : ChangeSpec := { name := "wireSize", fn := fun _ => fun
  | [d1, d2, d3] => { results := [.lit (.bool true)], args := [d1, d2, d3] }
  | _ => none }
def wireSizeRow : OpenClaim := { program := "ytngeldeahafcfaa", sum := "d0800a9687d102b423e13f2cb7ecd536908b8914e206c2d708d59d0a5276d885", func := "backwash/backwashlaw06.WireSize", spec := "wireSize", apart := false }
def WireSizeSaid : Prop := wireSizeRow.holds Try.pinned (OpenSpec.ofChange wireSizeSpec)

/-- ITS FALSE NEIGHBOUR: 'it returns false'. Refute it at one input. -/
def wireSizeWrong : ChangeSpec := { name := "wireSize", fn := fun _ => fun
  | [d1, d2, d3] => { results := [.lit (.bool false)], args := [d1, d2, d3] }
  | _ => none }
def WireSizeWrongFalsely : Prop := wireSizeRow.holds Try.pinned (OpenSpec.ofChange wireSizeWrong)

/-- 'backwashlaw33.WindowHolds': WHATEVER THE INPUT: true; the input reads as it did. -/
def windowHoldsSpec : ChangeSpec := { name := "windowHolds", fn := fun _ => fun
  | [d1, d2, d3] => { results := [.lit (.bool true)], args := [d1, d2, d3] }
  | _ => none }
def windowHoldsRow : OpenClaim := { program := "ytngeldeahafcfaa", sum := "d0800a9687d102b423e13f2cb7ecd536908b8914e206c2d708d59d0a5276d885", func := "backwash/backwashlaw33.WindowHolds", spec := "windowHolds", unfollowed := true, recurses := true, apart := false }
def WindowHoldsSaid : Prop := windowHoldsRow.holds Try.pinned (OpenSpec.ofChange windowHoldsSpec)

/-- ITS FALSE NEIGHBOUR: 'it returns false'. Refute it at one input. -/
def windowHoldsWrong : ChangeSpec := { name := "windowHolds", fn := fun _ => fun
  | [d1, d2, d3] => { results := [.lit (.bool false)], args := [d1, d2, d3] }
  | _ => none }
def WindowHoldsWrongFalsely : Prop := windowHoldsRow.holds Try.pinned (OpenSpec.ofChange windowHoldsWrong)

/-- 'backwashlaw08.GraphReads': WHATEVER THE INPUT: true; the input reads as it did. -/
def graphReadsSpec : ChangeSpec := { name := "graphReads", fn := fun _ => fun
  | [d] => { results := [.lit (.bool true)], args := [d] }
  | _ => none }
def graphReadsRow : OpenClaim := { program := "ytngeldeahafcfaa", sum := "d0800a9687d102b423e13f2cb7ecd536908b8914e206c2d708d59d0a5276d885", func := "backwash/backwashlaw08.GraphReads", spec := "graphReads", unfollowed := true, recurses := true, apart := false }
def GraphReadsSaid : Prop := graphReadsRow.holds Try.pinned (OpenSpec.ofChange graphReadsSpec)

/-- ITS FALSE NEIGHBOUR: 'it returns false'. Refute it at one input. -/
def graphReadsWrong : ChangeSpec := { name := "graphReads", fn := fun _ => fun
  | [d] => { results := [.lit (.bool false)], args := [d] }
  | _ => none }
def GraphReadsWrongFalsely : Prop := graphReadsRow.holds Try.pinned (OpenSpec.ofChange graphReadsWrong)

/-- 'backwashlaw08.GraphBack': WHATEVER THE INPUT: true; the input reads as it did. -/
def graphBackSpec : ChangeSpec := { name := "graphBack", fn := fun _ => fun
  | [d1, d2] => { results := [.lit (.bool true)], args := [d1, d2] }
  | _ => none }
def graphBackRow : OpenClaim := { program := "ytngeldeahafcfaa", sum := "d0800a9687d102b423e13f2cb7ecd536908b8914e206c2d708d59d0a5276d885", func := "backwash/backwashlaw08.GraphBack", spec := "graphBack", unfollowed := true, recurses := true, apart := false }
def GraphBackSaid : Prop := graphBackRow.holds Try.pinned (OpenSpec.ofChange graphBackSpec)

/-- ITS FALSE NEIGHBOUR: 'it returns false'. Refute it at one input. -/
def graphBackWrong : ChangeSpec := { name := "graphBack", fn := fun _ => fun
  | [d1, d2] => { results := [.lit (.bool false)], args := [d1, d2] }
  | _ => none }
def GraphBackWrongFalsely : Prop := graphBackRow.holds Try.pinned (OpenSpec.ofChange graphBackWrong)

/-- 'backwashlaw08.GraphCut': WHATEVER THE INPUT: true; the input reads as it did. -/
def graphCutSpec : ChangeSpec := { name := "graphCut", fn := fun _ => fun
  | [d1, d2, d3] => { results := [.lit (.bool true)], args := [d1, d2, d3] }
  | _ => none }
def graphCutRow : OpenClaim := { program := "ytngeldeahafcfaa", sum := "d0800a9687d102b423e13f2cb7ecd536908b8914e206c2d708d59d0a5276d885", func := "backwash/backwashlaw08.GraphCut", spec := "graphCut", unfollowed := true, recurses := true, apart := false }
def GraphCutSaid : Prop := graphCutRow.holds Try.pinned (OpenSpec.ofChange graphCutSpec)

/-- ITS FALSE NEIGHBOUR: 'it returns false'. Refute it at one input. -/
def graphCutWrong : ChangeSpec := { name := "graphCut", fn := fun _ => fun
  | [d1, d2, d3] => { results := [.lit (.bool false)], args := [d1, d2, d3] }
  | _ => none }
def GraphCutWrongFalsely : Prop := graphCutRow.holds Try.pinned (OpenSpec.ofChange graphCutWrong)

/-- 'backwashlaw08.GraphPuts': WHATEVER THE INPUT: true; the input reads as it did. -/
def graphPutsSpec : ChangeSpec := { name := "graphPuts", fn := fun _ => fun
  | [d1, d2] => { results := [.lit (.bool true)], args := [d1, d2] }
  | _ => none }
def graphPutsRow : OpenClaim := { program := "ytngeldeahafcfaa", sum := "d0800a9687d102b423e13f2cb7ecd536908b8914e206c2d708d59d0a5276d885", func := "backwash/backwashlaw08.GraphPuts", spec := "graphPuts", unfollowed := true, recurses := true, apart := false }
def GraphPutsSaid : Prop := graphPutsRow.holds Try.pinned (OpenSpec.ofChange graphPutsSpec)

/-- ITS FALSE NEIGHBOUR: 'it returns false'. Refute it at one input. -/
def graphPutsWrong : ChangeSpec := { name := "graphPuts", fn := fun _ => fun
  | [d1, d2] => { results := [.lit (.bool false)], args := [d1, d2] }
  | _ => none }
def GraphPutsWrongFalsely : Prop := graphPutsRow.holds Try.pinned (OpenSpec.ofChange graphPutsWrong)

/-- 'backwashlaw24.FuseRight': WHATEVER THE INPUT: true; the input reads as it did. -/
def fuseRightSpec : ChangeSpec := { name := "fuseRight", fn := fun _ => fun
  | [d] => { results := [.lit (.bool true)], args := [d] }
  | _ => none }
def fuseRightRow : OpenClaim := { program := "ytngeldeahafcfaa", sum := "d0800a9687d102b423e13f2cb7ecd536908b8914e206c2d708d59d0a5276d885", func := "backwash/backwashlaw24.FuseRight", spec := "fuseRight", unfollowed := true, recurses := true, apart := false }
def FuseRightSaid : Prop := fuseRightRow.holds Try.pinned (OpenSpec.ofChange fuseRightSpec)

/-- ITS FALSE NEIGHBOUR: 'it returns false'. Refute it at one input. -/
def fuseRightWrong : ChangeSpec := { name := "fuseRight", fn := fun _ => fun
  | [d] => { results := [.lit (.bool false)], args := [d] }
  | _ => none }
def FuseRightWrongFalsely : Prop := fuseRightRow.holds Try.pinned (OpenSpec.ofChange fuseRightWrong)

/-- 'backwashlaw24.FuseRuns': WHATEVER THE INPUT: true; the input reads as it did. -/
def fuseRunsSpec : ChangeSpec := { name := "fuseRuns", fn := fun _ => fun
  | [d] => { results := [.lit (.bool true)], args := [d] }
  | _ => none }
def fuseRunsRow : OpenClaim := { program := "ytngeldeahafcfaa", sum := "d0800a9687d102b423e13f2cb7ecd536908b8914e206c2d708d59d0a5276d885", func := "backwash/backwashlaw24.FuseRuns", spec := "fuseRuns", unfollowed := true, recurses := true, apart := false }
def FuseRunsSaid : Prop := fuseRunsRow.holds Try.pinned (OpenSpec.ofChange fuseRunsSpec)

/-- ITS FALSE NEIGHBOUR: 'it returns false'. Refute it at one input. -/
def fuseRunsWrong : ChangeSpec := { name := "fuseRuns", fn := fun _ => fun
  | [d] => { results := [.lit (.bool false)], args := [d] }
  | _ => none }
def FuseRunsWrongFalsely : Prop := fuseRunsRow.holds Try.pinned (OpenSpec.ofChange fuseRunsWrong)

/- THE SECOND FORM. 'bulk': how many values and letters a reading holds, each counted each time it is reached (what is shared counts as often as it is met; a slice's spare places count too). A statement '..UptoSaid' is the law's where the arguments, and the package variables that the reading takes, are together of bulk at most 1048576: NARROWER than '..Said'. Prove '..Said' where nothing that the law and all that it calls make is longer than what came in: it says more and counts as full. Else prove '..UptoSaid'. A law counts once. -/
mutual
def uptoBulk {H : Type} : DataW H → Nat
  | .lit (.string bytes) => bytes.length + 1
  | .lit _ => 1
  | .nil => 1
  | .ptr d => uptoBulk d + 1
  | .slice elems spare => uptoBulkAll elems + uptoBulkAll spare + 1
  | .agg parts => uptoBulkAll parts + 1
  | .iface _ d => uptoBulk d + 1
  | .map entries => uptoBulkEntries entries + 1
  | .held _ => 1
def uptoBulkAll {H : Type} : List (DataW H) → Nat
  | [] => 0
  | d :: r => uptoBulk d + uptoBulkAll r
def uptoBulkEntries {H : Type} : List (Lit × DataW H) → Nat
  | [] => 0
  | x :: r => uptoBulkEntry x + uptoBulkEntries r
def uptoBulkEntry {H : Type} : Lit × DataW H → Nat
  | (.string bytes, d) => bytes.length + uptoBulk d + 1
  | (_, d) => uptoBulk d + 1
 end
def uptoSmall : (H : Type) → List (DataW H) → Bool := fun _ ds => decide (uptoBulkAll ds ≤ 1048576)
def OpenSpec.upto (s : _root_.Go.ChangeSpec) : _root_.Go.OpenSpec := { _root_.Go.OpenSpec.ofChange s with cond := some uptoSmall }

/-- 'backwashlaw06.WireReads', WHERE WHAT IT READS IS OF BULK AT MOST 1048576: true; the input reads as it did. -/
def wireReadsUptoRow : OpenClaim := { program := "ytngeldeahafcfaa", sum := "d0800a9687d102b423e13f2cb7ecd536908b8914e206c2d708d59d0a5276d885", func := "backwash/backwashlaw06.WireReads", spec := "wireReads", apart := false, narrowed := true }
def WireReadsUptoSaid : Prop := wireReadsUptoRow.holds Try.pinned (OpenSpec.upto wireReadsSpec)

/-- 'backwashlaw06.WirePuts', WHERE WHAT IT READS IS OF BULK AT MOST 1048576: true; the input reads as it did. -/
def wirePutsUptoRow : OpenClaim := { program := "ytngeldeahafcfaa", sum := "d0800a9687d102b423e13f2cb7ecd536908b8914e206c2d708d59d0a5276d885", func := "backwash/backwashlaw06.WirePuts", spec := "wirePuts", apart := false, narrowed := true }
def WirePutsUptoSaid : Prop := wirePutsUptoRow.holds Try.pinned (OpenSpec.upto wirePutsSpec)

/-- 'backwashlaw06.WireBack', WHERE WHAT IT READS IS OF BULK AT MOST 1048576: true; the input reads as it did. -/
def wireBackUptoRow : OpenClaim := { program := "ytngeldeahafcfaa", sum := "d0800a9687d102b423e13f2cb7ecd536908b8914e206c2d708d59d0a5276d885", func := "backwash/backwashlaw06.WireBack", spec := "wireBack", apart := false, narrowed := true }
def WireBackUptoSaid : Prop := wireBackUptoRow.holds Try.pinned (OpenSpec.upto wireBackSpec)

/-- 'backwashlaw06.WireSize', WHERE WHAT IT READS IS OF BULK AT MOST 1048576: true; the input reads as it did. -/
def wireSizeUptoRow : OpenClaim := { program := "ytngeldeahafcfaa", sum := "d0800a9687d102b423e13f2cb7ecd536908b8914e206c2d708d59d0a5276d885", func := "backwash/backwashlaw06.WireSize", spec := "wireSize", apart := false, narrowed := true }
def WireSizeUptoSaid : Prop := wireSizeUptoRow.holds Try.pinned (OpenSpec.upto wireSizeSpec)

/-- 'backwashlaw33.WindowHolds', WHERE WHAT IT READS IS OF BULK AT MOST 1048576: true; the input reads as it did. -/
def windowHoldsUptoRow : OpenClaim := { program := "ytngeldeahafcfaa", sum := "d0800a9687d102b423e13f2cb7ecd536908b8914e206c2d708d59d0a5276d885", func := "backwash/backwashlaw33.WindowHolds", spec := "windowHolds", unfollowed := true, recurses := true, apart := false, narrowed := true }
def WindowHoldsUptoSaid : Prop := windowHoldsUptoRow.holds Try.pinned (OpenSpec.upto windowHoldsSpec)

/-- 'backwashlaw08.GraphReads', WHERE WHAT IT READS IS OF BULK AT MOST 1048576: true; the input reads as it did. -/
def graphReadsUptoRow : OpenClaim := { program := "ytngeldeahafcfaa", sum := "d0800a9687d102b423e13f2cb7ecd536908b8914e206c2d708d59d0a5276d885", func := "backwash/backwashlaw08.GraphReads", spec := "graphReads", unfollowed := true, recurses := true, apart := false, narrowed := true }
def GraphReadsUptoSaid : Prop := graphReadsUptoRow.holds Try.pinned (OpenSpec.upto graphReadsSpec)

/-- 'backwashlaw08.GraphBack', WHERE WHAT IT READS IS OF BULK AT MOST 1048576: true; the input reads as it did. -/
def graphBackUptoRow : OpenClaim := { program := "ytngeldeahafcfaa", sum := "d0800a9687d102b423e13f2cb7ecd536908b8914e206c2d708d59d0a5276d885", func := "backwash/backwashlaw08.GraphBack", spec := "graphBack", unfollowed := true, recurses := true, apart := false, narrowed := true }
def GraphBackUptoSaid : Prop := graphBackUptoRow.holds Try.pinned (OpenSpec.upto graphBackSpec)

/-- 'backwashlaw08.GraphCut', WHERE WHAT IT READS IS OF BULK AT MOST 1048576: true; the input reads as it did. -/
def graphCutUptoRow : OpenClaim := { program := "ytngeldeahafcfaa", sum := "d0800a9687d102b423e13f2cb7ecd536908b8914e206c2d708d59d0a5276d885", func := "backwash/backwashlaw08.GraphCut", spec := "graphCut", unfollowed := true, recurses := true, apart := false, narrowed := true }
def GraphCutUptoSaid : Prop := graphCutUptoRow.holds Try.pinned (OpenSpec.upto graphCutSpec)

/-- 'backwashlaw08.GraphPuts', WHERE WHAT IT READS IS OF BULK AT MOST 1048576: true; the input reads as it did. -/
def graphPutsUptoRow : OpenClaim := { program := "ytngeldeahafcfaa", sum := "d0800a9687d102b423e13f2cb7ecd536908b8914e206c2d708d59d0a5276d885", func := "backwash/backwashlaw08.GraphPuts", spec := "graphPuts", unfollowed := true, recurses := true, apart := false, narrowed := true }
def GraphPutsUptoSaid : Prop := graphPutsUptoRow.holds Try.pinned (OpenSpec.upto graphPutsSpec)

/-- 'backwashlaw24.FuseRight', WHERE WHAT IT READS IS OF BULK AT MOST 1048576: true; the input reads as it did. -/
def fuseRightUptoRow : OpenClaim := { program := "ytngeldeahafcfaa", sum := "d0800a9687d102b423e13f2cb7ecd536908b8914e206c2d708d59d0a5276d885", func := "backwash/backwashlaw24.FuseRight", spec := "fuseRight", unfollowed := true, recurses := true, apart := false, narrowed := true }
def FuseRightUptoSaid : Prop := fuseRightUptoRow.holds Try.pinned (OpenSpec.upto fuseRightSpec)

/-- 'backwashlaw24.FuseRuns', WHERE WHAT IT READS IS OF BULK AT MOST 1048576: true; the input reads as it did. -/
def fuseRunsUptoRow : OpenClaim := { program := "ytngeldeahafcfaa", sum := "d0800a9687d102b423e13f2cb7ecd536908b8914e206c2d708d59d0a5276d885", func := "backwash/backwashlaw24.FuseRuns", spec := "fuseRuns", unfollowed := true, recurses := true, apart := false, narrowed := true }
def FuseRunsUptoSaid : Prop := fuseRunsUptoRow.holds Try.pinned (OpenSpec.upto fuseRunsSpec)

end Rows
end Go.Proofs.Ytngeldeahafcfaa
