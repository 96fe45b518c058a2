/-
  No cell of these rows narrows 'for every input' (looked for: loops, veiled, ifaces, maps, wideKeys, modest, calm, conditions, laid).
  DERIVED. THE GIVEN ROWS OF THIS SEAT. 10 by the template 'for every input the law returns true; each argument reads behind the call as it read before'; 0 by the template 'total and deterministic' (their statements: YthpahhhdapdcpaaTotals.lean).
  GIVEN WITH THE SEED: the statements are not yours to turn. If you find one false, say at which input.
  Laid BY PROGRAM, IN A SANDBOX (cutbox-rows.mjs): the forced cells as the released guide's own fill.sh prints them over the translation f9969ce3b65ca0d5… (all of the seat's roots in one cut). By AI agents, Wed Nov 11 2026. No macro, syntax, notation, axiom, sorry.
-/
import Derived.Test.YthpahhhdapdcpaaChecked
import GoSem.Claim
import GoSem.ClaimJoined
import GoSem.ClaimMapViews
import Derived.JoinedTies
import Derived.KernelRfl
namespace Go.Proofs.Ythpahhhdapdcpaa
/- THE CELL 'sum', in the pinned program and in every row, IS THE sha256 OF THE DUMP (.gsa) THAT YthpahhhdapdcpaaProg.lean LOADS. Nothing in Lean hashes anything: it is a label: what it is worth is what the hold of that sum in a sandbox is worth. -/
noncomputable def Try.pinned : Pinned := { name := "ythpahhhdapdcpaa", sum := "f9969ce3b65ca0d5d17f7f84e03c9732c7d0d0a01ae986375e175c5ac20873ef", checked := Try.checked }
namespace Rows
def none {H : Type} : Left H := { results := [], args := [] }

/-- 'backwashlaw32.QueryRows': WHATEVER THE INPUT: true; the input reads as it did. -/
def queryRowsSpec : ChangeSpec := { name := "queryRows", fn := fun _ => fun
  | [d1, d2, d3, d4] => { results := [.lit (.bool true)], args := [d1, d2, d3, d4] }
  | _ => none }
def queryRowsRow : OpenClaim := { program := "ythpahhhdapdcpaa", sum := "f9969ce3b65ca0d5d17f7f84e03c9732c7d0d0a01ae986375e175c5ac20873ef", func := "backwash/backwashlaw32.QueryRows", spec := "queryRows", inPlace := ["math/bits.Add64"], unfollowed := true, recurses := true, apart := false }
def QueryRowsSaid : Prop := queryRowsRow.holds Try.pinned (OpenSpec.ofChange queryRowsSpec)

/-- ITS FALSE NEIGHBOUR: 'it returns false'. Refute it at one input. -/
def queryRowsWrong : ChangeSpec := { name := "queryRows", fn := fun _ => fun
  | [d1, d2, d3, d4] => { results := [.lit (.bool false)], args := [d1, d2, d3, d4] }
  | _ => none }
def QueryRowsWrongFalsely : Prop := queryRowsRow.holds Try.pinned (OpenSpec.ofChange queryRowsWrong)

/-- 'backwashlaw11.OpsNone': WHATEVER THE INPUT: true; the input reads as it did. -/
def opsNoneSpec : ChangeSpec := { name := "opsNone", fn := fun _ => fun
  | [d1, d2, d3] => { results := [.lit (.bool true)], args := [d1, d2, d3] }
  | _ => none }
def opsNoneRow : OpenClaim := { program := "ythpahhhdapdcpaa", sum := "f9969ce3b65ca0d5d17f7f84e03c9732c7d0d0a01ae986375e175c5ac20873ef", func := "backwash/backwashlaw11.OpsNone", spec := "opsNone", inPlace := ["math/bits.Sub64", "math/bits.Add64", "slices.overlaps[backwash/api.Item]"], unfollowed := true, recurses := true, apart := false }
def OpsNoneSaid : Prop := opsNoneRow.holds Try.pinned (OpenSpec.ofChange opsNoneSpec)

/-- ITS FALSE NEIGHBOUR: 'it returns false'. Refute it at one input. -/
def opsNoneWrong : ChangeSpec := { name := "opsNone", fn := fun _ => fun
  | [d1, d2, d3] => { results := [.lit (.bool false)], args := [d1, d2, d3] }
  | _ => none }
def OpsNoneWrongFalsely : Prop := opsNoneRow.holds Try.pinned (OpenSpec.ofChange opsNoneWrong)

/-- 'backwashlaw11.OpsParts': WHATEVER THE INPUT: true; the input reads as it did. -/
def opsPartsSpec : ChangeSpec := { name := "opsParts", fn := fun _ => fun
  | [d1, d2, d3] => { results := [.lit (.bool true)], args := [d1, d2, d3] }
  | _ => none }
def opsPartsRow : OpenClaim := { program := "ythpahhhdapdcpaa", sum := "f9969ce3b65ca0d5d17f7f84e03c9732c7d0d0a01ae986375e175c5ac20873ef", func := "backwash/backwashlaw11.OpsParts", spec := "opsParts", inPlace := ["math/bits.Sub64", "math/bits.Add64", "slices.overlaps[backwash/api.Item]"], unfollowed := true, recurses := true, apart := false }
def OpsPartsSaid : Prop := opsPartsRow.holds Try.pinned (OpenSpec.ofChange opsPartsSpec)

/-- ITS FALSE NEIGHBOUR: 'it returns false'. Refute it at one input. -/
def opsPartsWrong : ChangeSpec := { name := "opsParts", fn := fun _ => fun
  | [d1, d2, d3] => { results := [.lit (.bool false)], args := [d1, d2, d3] }
  | _ => none }
def OpsPartsWrongFalsely : Prop := opsPartsRow.holds Try.pinned (OpenSpec.ofChange opsPartsWrong)

/-- 'backwashlaw11.OpsKeys': WHATEVER THE INPUT: true; the input reads as it did. -/
def opsKeysSpec : ChangeSpec := { name := "opsKeys", fn := fun _ => fun
  | [d1, d2, d3, d4] => { results := [.lit (.bool true)], args := [d1, d2, d3, d4] }
  | _ => none }
def opsKeysRow : OpenClaim := { program := "ythpahhhdapdcpaa", sum := "f9969ce3b65ca0d5d17f7f84e03c9732c7d0d0a01ae986375e175c5ac20873ef", func := "backwash/backwashlaw11.OpsKeys", spec := "opsKeys", inPlace := ["math/bits.Sub64", "math/bits.Add64", "slices.overlaps[backwash/api.Item]"], unfollowed := true, recurses := true, apart := false }
def OpsKeysSaid : Prop := opsKeysRow.holds Try.pinned (OpenSpec.ofChange opsKeysSpec)

/-- ITS FALSE NEIGHBOUR: 'it returns false'. Refute it at one input. -/
def opsKeysWrong : ChangeSpec := { name := "opsKeys", fn := fun _ => fun
  | [d1, d2, d3, d4] => { results := [.lit (.bool false)], args := [d1, d2, d3, d4] }
  | _ => none }
def OpsKeysWrongFalsely : Prop := opsKeysRow.holds Try.pinned (OpenSpec.ofChange opsKeysWrong)

/-- 'backwashlaw11.OpsOften': WHATEVER THE INPUT: true; the input reads as it did. -/
def opsOftenSpec : ChangeSpec := { name := "opsOften", fn := fun _ => fun
  | [d1, d2] => { results := [.lit (.bool true)], args := [d1, d2] }
  | _ => none }
def opsOftenRow : OpenClaim := { program := "ythpahhhdapdcpaa", sum := "f9969ce3b65ca0d5d17f7f84e03c9732c7d0d0a01ae986375e175c5ac20873ef", func := "backwash/backwashlaw11.OpsOften", spec := "opsOften", inPlace := ["math/bits.Sub64", "math/bits.Add64", "slices.overlaps[backwash/api.Item]"], unfollowed := true, recurses := true, apart := false }
def OpsOftenSaid : Prop := opsOftenRow.holds Try.pinned (OpenSpec.ofChange opsOftenSpec)

/-- ITS FALSE NEIGHBOUR: 'it returns false'. Refute it at one input. -/
def opsOftenWrong : ChangeSpec := { name := "opsOften", fn := fun _ => fun
  | [d1, d2] => { results := [.lit (.bool false)], args := [d1, d2] }
  | _ => none }
def OpsOftenWrongFalsely : Prop := opsOftenRow.holds Try.pinned (OpenSpec.ofChange opsOftenWrong)

/-- 'backwashlaw24.FuseRight': WHATEVER THE INPUT: true; the input reads as it did. -/
def fuseRightSpec : ChangeSpec := { name := "fuseRight", fn := fun _ => fun
  | [d] => { results := [.lit (.bool true)], args := [d] }
  | _ => none }
def fuseRightRow : OpenClaim := { program := "ythpahhhdapdcpaa", sum := "f9969ce3b65ca0d5d17f7f84e03c9732c7d0d0a01ae986375e175c5ac20873ef", func := "backwash/backwashlaw24.FuseRight", spec := "fuseRight", unfollowed := true, recurses := true, apart := false }
def FuseRightSaid : Prop := fuseRightRow.holds Try.pinned (OpenSpec.ofChange fuseRightSpec)

/-- ITS FALSE NEIGHBOUR: 'it returns false'. Refute it at one input. -/
def fuseRightWrong : ChangeSpec := { name := "fuseRight", fn := fun _ => fun
  | [d] => { results := [.lit (.bool false)], args := [d] }
  | _ => none }
def FuseRightWrongFalsely : Prop := fuseRightRow.holds Try.pinned (OpenSpec.ofChange fuseRightWrong)

/-- 'backwashlaw24.FuseRuns': WHATEVER THE INPUT: true; the input reads as it did. -/
def fuseRunsSpec : ChangeSpec := { name := "fuseRuns", fn := fun _ => fun
  | [d] => { results := [.lit (.bool true)], args := [d] }
  | _ => none }
def fuseRunsRow : OpenClaim := { program := "ythpahhhdapdcpaa", sum := "f9969ce3b65ca0d5d17f7f84e03c9732c7d0d0a01ae986375e175c5ac20873ef", func := "backwash/backwashlaw24.FuseRuns", spec := "fuseRuns", unfollowed := true, recurses := true, apart := false }
def FuseRunsSaid : Prop := fuseRunsRow.holds Try.pinned (OpenSpec.ofChange fuseRunsSpec)

/-- ITS FALSE NEIGHBOUR: 'it returns false'. Refute it at one input. -/
def fuseRunsWrong : ChangeSpec := { name := "fuseRuns", fn := fun _ => fun
  | [d] => { results := [.lit (.bool false)], args := [d] }
  | _ => none }
def FuseRunsWrongFalsely : Prop := fuseRunsRow.holds Try.pinned (OpenSpec.ofChange fuseRunsWrong)

/-- 'backwashlaw15.CellOrder': WHATEVER THE INPUT: true; the input reads as it did. -/
def cellOrderSpec : ChangeSpec := { name := "cellOrder", fn := fun _ => fun
  | [d1, d2, d3, d4, d5, d6, d7, d8] => { results := [.lit (.bool true)], args := [d1, d2, d3, d4, d5, d6, d7, d8] }
  | _ => none }
def cellOrderRow : OpenClaim := { program := "ythpahhhdapdcpaa", sum := "f9969ce3b65ca0d5d17f7f84e03c9732c7d0d0a01ae986375e175c5ac20873ef", func := "backwash/backwashlaw15.CellOrder", spec := "cellOrder", inPlace := ["slices.overlaps[backwash/api.Slot]", "slices.overlaps[backwash/api.Item]", "math/bits.Sub64", "math/bits.Add64"], unfollowed := true, recurses := true, apart := false }
def CellOrderSaid : Prop := cellOrderRow.holds Try.pinned (OpenSpec.ofChange cellOrderSpec)

/-- ITS FALSE NEIGHBOUR: 'it returns false'. Refute it at one input. -/
def cellOrderWrong : ChangeSpec := { name := "cellOrder", fn := fun _ => fun
  | [d1, d2, d3, d4, d5, d6, d7, d8] => { results := [.lit (.bool false)], args := [d1, d2, d3, d4, d5, d6, d7, d8] }
  | _ => none }
def CellOrderWrongFalsely : Prop := cellOrderRow.holds Try.pinned (OpenSpec.ofChange cellOrderWrong)

/-- 'backwashlaw15.CellComes': WHATEVER THE INPUT: true; the input reads as it did. -/
def cellComesSpec : ChangeSpec := { name := "cellComes", fn := fun _ => fun
  | [d1, d2, d3, d4, d5, d6] => { results := [.lit (.bool true)], args := [d1, d2, d3, d4, d5, d6] }
  | _ => none }
def cellComesRow : OpenClaim := { program := "ythpahhhdapdcpaa", sum := "f9969ce3b65ca0d5d17f7f84e03c9732c7d0d0a01ae986375e175c5ac20873ef", func := "backwash/backwashlaw15.CellComes", spec := "cellComes", inPlace := ["slices.overlaps[backwash/api.Slot]", "slices.overlaps[backwash/api.Item]", "math/bits.Sub64", "math/bits.Add64"], unfollowed := true, recurses := true, apart := false }
def CellComesSaid : Prop := cellComesRow.holds Try.pinned (OpenSpec.ofChange cellComesSpec)

/-- ITS FALSE NEIGHBOUR: 'it returns false'. Refute it at one input. -/
def cellComesWrong : ChangeSpec := { name := "cellComes", fn := fun _ => fun
  | [d1, d2, d3, d4, d5, d6] => { results := [.lit (.bool false)], args := [d1, d2, d3, d4, d5, d6] }
  | _ => none }
def CellComesWrongFalsely : Prop := cellComesRow.holds Try.pinned (OpenSpec.ofChange cellComesWrong)

/-- 'backwashlaw15.CellSettles': WHATEVER THE INPUT: true; the input reads as it did. -/
def cellSettlesSpec : ChangeSpec := { name := "cellSettles", fn := fun _ => fun
  | [d1, d2, d3] => { results := [.lit (.bool true)], args := [d1, d2, d3] }
  | _ => none }
def cellSettlesRow : OpenClaim := { program := "ythpahhhdapdcpaa", sum := "f9969ce3b65ca0d5d17f7f84e03c9732c7d0d0a01ae986375e175c5ac20873ef", func := "backwash/backwashlaw15.CellSettles", spec := "cellSettles", inPlace := ["slices.overlaps[backwash/api.Slot]", "slices.overlaps[backwash/api.Item]", "math/bits.Sub64", "math/bits.Add64"], unfollowed := true, recurses := true, apart := false }
def CellSettlesSaid : Prop := cellSettlesRow.holds Try.pinned (OpenSpec.ofChange cellSettlesSpec)

/-- ITS FALSE NEIGHBOUR: 'it returns false'. Refute it at one input. -/
def cellSettlesWrong : ChangeSpec := { name := "cellSettles", fn := fun _ => fun
  | [d1, d2, d3] => { results := [.lit (.bool false)], args := [d1, d2, d3] }
  | _ => none }
def CellSettlesWrongFalsely : Prop := cellSettlesRow.holds Try.pinned (OpenSpec.ofChange cellSettlesWrong)

/- THE SECOND FORM. 'bulk': how many values and letters a reading holds, each counted each time it is reached (what is shared counts as often as it is met; a slice's spare places count too). A statement '..UptoSaid' is the law's where the arguments, and the package variables that the reading takes, are together of bulk at most 1048576: NARROWER than '..Said'. Prove '..Said' where nothing that the law and all that it calls make is longer than what came in: it says more and counts as full. Else prove '..UptoSaid'. A law counts once. -/
mutual
def uptoBulk {H : Type} : DataW H → Nat
  | .lit (.string bytes) => bytes.length + 1
  | .lit _ => 1
  | .nil => 1
  | .ptr d => uptoBulk d + 1
  | .slice elems spare => uptoBulkAll elems + uptoBulkAll spare + 1
  | .agg parts => uptoBulkAll parts + 1
  | .iface _ d => uptoBulk d + 1
  | .map entries => uptoBulkEntries entries + 1
  | .held _ => 1
def uptoBulkAll {H : Type} : List (DataW H) → Nat
  | [] => 0
  | d :: r => uptoBulk d + uptoBulkAll r
def uptoBulkEntries {H : Type} : List (Lit × DataW H) → Nat
  | [] => 0
  | x :: r => uptoBulkEntry x + uptoBulkEntries r
def uptoBulkEntry {H : Type} : Lit × DataW H → Nat
  | (.string bytes, d) => bytes.length + uptoBulk d + 1
  | (_, d) => uptoBulk d + 1
 end
def uptoSmall : (H : Type) → List (DataW H) → Bool := fun _ ds => decide (uptoBulkAll ds ≤ 1048576)
def OpenSpec.upto (s : _root_.Go.ChangeSpec) : _root_.Go.OpenSpec := { _root_.Go.OpenSpec.ofChange s with cond := some uptoSmall }

/-- 'backwashlaw32.QueryRows', WHERE WHAT IT READS IS OF BULK AT MOST 1048576: true; the input reads as it did. -/
def queryRowsUptoRow : OpenClaim := { program := "ythpahhhdapdcpaa", sum := "f9969ce3b65ca0d5d17f7f84e03c9732c7d0d0a01ae986375e175c5ac20873ef", func := "backwash/backwashlaw32.QueryRows", spec := "queryRows", inPlace := ["math/bits.Add64"], unfollowed := true, recurses := true, apart := false, narrowed := true }
def QueryRowsUptoSaid : Prop := queryRowsUptoRow.holds Try.pinned (OpenSpec.upto queryRowsSpec)

/-- 'backwashlaw11.OpsNone', WHERE WHAT IT READS IS OF BULK AT MOST 1048576: true; the input reads as it did. -/
def opsNoneUptoRow : OpenClaim := { program := "ythpahhhdapdcpaa", sum := "f9969ce3b65ca0d5d17f7f84e03c9732c7d0d0a01ae986375e175c5ac20873ef", func := "backwash/backwashlaw11.OpsNone", spec := "opsNone", inPlace := ["math/bits.Sub64", "math/bits.Add64", "slices.overlaps[backwash/api.Item]"], unfollowed := true, recurses := true, apart := false, narrowed := true }
def OpsNoneUptoSaid : Prop := opsNoneUptoRow.holds Try.pinned (OpenSpec.upto opsNoneSpec)

/-- 'backwashlaw11.OpsParts', WHERE WHAT IT READS IS OF BULK AT MOST 1048576: true; the input reads as it did. -/
def opsPartsUptoRow : OpenClaim := { program := "ythpahhhdapdcpaa", sum := "f9969ce3b65ca0d5d17f7f84e03c9732c7d0d0a01ae986375e175c5ac20873ef", func := "backwash/backwashlaw11.OpsParts", spec := "opsParts", inPlace := ["math/bits.Sub64", "math/bits.Add64", "slices.overlaps[backwash/api.Item]"], unfollowed := true, recurses := true, apart := false, narrowed := true }
def OpsPartsUptoSaid : Prop := opsPartsUptoRow.holds Try.pinned (OpenSpec.upto opsPartsSpec)

/-- 'backwashlaw11.OpsKeys', WHERE WHAT IT READS IS OF BULK AT MOST 1048576: true; the input reads as it did. -/
def opsKeysUptoRow : OpenClaim := { program := "ythpahhhdapdcpaa", sum := "f9969ce3b65ca0d5d17f7f84e03c9732c7d0d0a01ae986375e175c5ac20873ef", func := "backwash/backwashlaw11.OpsKeys", spec := "opsKeys", inPlace := ["math/bits.Sub64", "math/bits.Add64", "slices.overlaps[backwash/api.Item]"], unfollowed := true, recurses := true, apart := false, narrowed := true }
def OpsKeysUptoSaid : Prop := opsKeysUptoRow.holds Try.pinned (OpenSpec.upto opsKeysSpec)

/-- 'backwashlaw11.OpsOften', WHERE WHAT IT READS IS OF BULK AT MOST 1048576: true; the input reads as it did. -/
def opsOftenUptoRow : OpenClaim := { program := "ythpahhhdapdcpaa", sum := "f9969ce3b65ca0d5d17f7f84e03c9732c7d0d0a01ae986375e175c5ac20873ef", func := "backwash/backwashlaw11.OpsOften", spec := "opsOften", inPlace := ["math/bits.Sub64", "math/bits.Add64", "slices.overlaps[backwash/api.Item]"], unfollowed := true, recurses := true, apart := false, narrowed := true }
def OpsOftenUptoSaid : Prop := opsOftenUptoRow.holds Try.pinned (OpenSpec.upto opsOftenSpec)

/-- 'backwashlaw24.FuseRight', WHERE WHAT IT READS IS OF BULK AT MOST 1048576: true; the input reads as it did. -/
def fuseRightUptoRow : OpenClaim := { program := "ythpahhhdapdcpaa", sum := "f9969ce3b65ca0d5d17f7f84e03c9732c7d0d0a01ae986375e175c5ac20873ef", func := "backwash/backwashlaw24.FuseRight", spec := "fuseRight", unfollowed := true, recurses := true, apart := false, narrowed := true }
def FuseRightUptoSaid : Prop := fuseRightUptoRow.holds Try.pinned (OpenSpec.upto fuseRightSpec)

/-- 'backwashlaw24.FuseRuns', WHERE WHAT IT READS IS OF BULK AT MOST 1048576: true; the input reads as it did. -/
def fuseRunsUptoRow : OpenClaim := { program := "ythpahhhdapdcpaa", sum := "f9969ce3b65ca0d5d17f7f84e03c9732c7d0d0a01ae986375e175c5ac20873ef", func := "backwash/backwashlaw24.FuseRuns", spec := "fuseRuns", unfollowed := true, recurses := true, apart := false, narrowed := true }
def FuseRunsUptoSaid : Prop := fuseRunsUptoRow.holds Try.pinned (OpenSpec.upto fuseRunsSpec)

/-- 'backwashlaw15.CellOrder', WHERE WHAT IT READS IS OF BULK AT MOST 1048576: true; the input reads as it did. -/
def cellOrderUptoRow : OpenClaim := { program := "ythpahhhdapdcpaa", sum := "f9969ce3b65ca0d5d17f7f84e03c9732c7d0d0a01ae986375e175c5ac20873ef", func := "backwash/backwashlaw15.CellOrder", spec := "cellOrder", inPlace := ["slices.overlaps[backwash/api.Slot]", "slices.overlaps[backwash/api.Item]", "math/bits.Sub64", "math/bits.Add64"], unfollowed := true, recurses := true, apart := false, narrowed := true }
def CellOrderUptoSaid : Prop := cellOrderUptoRow.holds Try.pinned (OpenSpec.upto cellOrderSpec)

/-- 'backwashlaw15.CellComes', WHERE WHAT IT READS IS OF BULK AT MOST 1048576: true; the input reads as it did. -/
def cellComesUptoRow : OpenClaim := { program := "ythpahhhdapdcpaa", sum := "f9969ce3b65ca0d5d17f7f84e03c9732c7d0d0a01ae986375e175c5ac20873ef", func := "backwash/backwashlaw15.CellComes", spec := "cellComes", inPlace := ["slices.overlaps[backwash/api.Slot]", "slices.overlaps[backwash/api.Item]", "math/bits.Sub64", "math/bits.Add64"], unfollowed := true, recurses := true, apart := false, narrowed := true }
def CellComesUptoSaid : Prop := cellComesUptoRow.holds Try.pinned (OpenSpec.upto cellComesSpec)

/-- 'backwashlaw15.CellSettles', WHERE WHAT IT READS IS OF BULK AT MOST 1048576: true; the input reads as it did. -/
def cellSettlesUptoRow : OpenClaim := { program := "ythpahhhdapdcpaa", sum := "f9969ce3b65ca0d5d17f7f84e03c9732c7d0d0a01ae986375e175c5ac20873ef", func := "backwash/backwashlaw15.CellSettles", spec := "cellSettles", inPlace := ["slices.overlaps[backwash/api.Slot]", "slices.overlaps[backwash/api.Item]", "math/bits.Sub64", "math/bits.Add64"], unfollowed := true, recurses := true, apart := false, narrowed := true }
def CellSettlesUptoSaid : Prop := cellSettlesUptoRow.holds Try.pinned (OpenSpec.upto cellSettlesSpec)

end Rows
end Go.Proofs.Ythpahhhdapdcpaa
