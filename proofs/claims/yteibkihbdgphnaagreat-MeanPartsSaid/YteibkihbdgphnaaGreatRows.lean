/-
  No cell of these rows narrows 'for every input' (looked for: loops, veiled, ifaces, maps, wideKeys, modest, calm, conditions, laid).
  DERIVED. THE GIVEN ROWS OF THIS SEAT. 4 by the template 'for every input the law returns true; each argument reads behind the call as it read before'; 0 by the template 'total and deterministic' (their statements: YteibkihbdgphnaaGreatTotals.lean).
  GIVEN WITH THE SEED: the statements are not yours to turn. If you find one false, say at which input.
  Laid BY PROGRAM, IN A SANDBOX (cutbox-rows.mjs): the forced cells as the released guide's own fill.sh prints them over the translation 2f01a51fbc277e4c… (all of the seat's roots in one cut). By AI agents, Wed Nov 11 2026. No macro, syntax, notation, axiom, sorry.
-/
import Derived.Test.YteibkihbdgphnaaGreatChecked
import GoSem.Claim
import GoSem.ClaimJoined
import GoSem.ClaimMapViews
import Derived.JoinedTies
import Derived.KernelRfl
namespace Go.Proofs.YteibkihbdgphnaaGreat
/- THE CELL 'sum', in the pinned program and in every row, IS THE sha256 OF THE DUMP (.gsa) THAT YteibkihbdgphnaaGreatProg.lean LOADS. Nothing in Lean hashes anything: it is a label: what it is worth is what the hold of that sum in a sandbox is worth. -/
noncomputable def Tryz.pinned : Pinned := { name := "yteibkihbdgphnaagreat", sum := "2f01a51fbc277e4c99be53b204220fb3489dd647dd791c7091889e3a939fd561", checked := Tryz.checked }
namespace Rows
def none {H : Type} : Left H := { results := [], args := [] }

/-- 'backwashlaw12.MeanOrder': WHATEVER THE INPUT: true; the input reads as it did. -/
def meanOrderSpec : ChangeSpec := { name := "meanOrder", fn := fun _ => fun
  | [d1, d2, d3] => { results := [.lit (.bool true)], args := [d1, d2, d3] }
  | _ => none }
def meanOrderRow : OpenClaim := { program := "yteibkihbdgphnaagreat", sum := "2f01a51fbc277e4c99be53b204220fb3489dd647dd791c7091889e3a939fd561", func := "backwash/backwashlaw12.MeanOrder", spec := "meanOrder", inPlace := ["slices.overlaps[backwash/api.Item]", "math/bits.Sub64", "math/bits.Add64"], unfollowed := true, recurses := true, plainKeys := false, apart := false }
def MeanOrderSaid : Prop := meanOrderRow.holds Tryz.pinned (OpenSpec.ofChange meanOrderSpec)

/-- ITS FALSE NEIGHBOUR: 'it returns false'. Refute it at one input. -/
def meanOrderWrong : ChangeSpec := { name := "meanOrder", fn := fun _ => fun
  | [d1, d2, d3] => { results := [.lit (.bool false)], args := [d1, d2, d3] }
  | _ => none }
def MeanOrderWrongFalsely : Prop := meanOrderRow.holds Tryz.pinned (OpenSpec.ofChange meanOrderWrong)

/-- 'backwashlaw12.MeanEpochs': WHATEVER THE INPUT: true; the input reads as it did. -/
def meanEpochsSpec : ChangeSpec := { name := "meanEpochs", fn := fun _ => fun
  | [d1, d2, d3] => { results := [.lit (.bool true)], args := [d1, d2, d3] }
  | _ => none }
def meanEpochsRow : OpenClaim := { program := "yteibkihbdgphnaagreat", sum := "2f01a51fbc277e4c99be53b204220fb3489dd647dd791c7091889e3a939fd561", func := "backwash/backwashlaw12.MeanEpochs", spec := "meanEpochs", inPlace := ["slices.overlaps[backwash/api.Item]", "math/bits.Sub64", "math/bits.Add64"], unfollowed := true, recurses := true, plainKeys := false, apart := false }
def MeanEpochsSaid : Prop := meanEpochsRow.holds Tryz.pinned (OpenSpec.ofChange meanEpochsSpec)

/-- ITS FALSE NEIGHBOUR: 'it returns false'. Refute it at one input. -/
def meanEpochsWrong : ChangeSpec := { name := "meanEpochs", fn := fun _ => fun
  | [d1, d2, d3] => { results := [.lit (.bool false)], args := [d1, d2, d3] }
  | _ => none }
def MeanEpochsWrongFalsely : Prop := meanEpochsRow.holds Tryz.pinned (OpenSpec.ofChange meanEpochsWrong)

/-- 'backwashlaw12.MeanAlone': WHATEVER THE INPUT: true; the input reads as it did. -/
def meanAloneSpec : ChangeSpec := { name := "meanAlone", fn := fun _ => fun
  | [d1, d2, d3] => { results := [.lit (.bool true)], args := [d1, d2, d3] }
  | _ => none }
def meanAloneRow : OpenClaim := { program := "yteibkihbdgphnaagreat", sum := "2f01a51fbc277e4c99be53b204220fb3489dd647dd791c7091889e3a939fd561", func := "backwash/backwashlaw12.MeanAlone", spec := "meanAlone", inPlace := ["slices.overlaps[backwash/api.Item]", "math/bits.Sub64", "math/bits.Add64"], unfollowed := true, recurses := true, plainKeys := false, apart := false }
def MeanAloneSaid : Prop := meanAloneRow.holds Tryz.pinned (OpenSpec.ofChange meanAloneSpec)

/-- ITS FALSE NEIGHBOUR: 'it returns false'. Refute it at one input. -/
def meanAloneWrong : ChangeSpec := { name := "meanAlone", fn := fun _ => fun
  | [d1, d2, d3] => { results := [.lit (.bool false)], args := [d1, d2, d3] }
  | _ => none }
def MeanAloneWrongFalsely : Prop := meanAloneRow.holds Tryz.pinned (OpenSpec.ofChange meanAloneWrong)

/-- 'backwashlaw12.MeanParts': WHATEVER THE INPUT: true; the input reads as it did. -/
def meanPartsSpec : ChangeSpec := { name := "meanParts", fn := fun _ => fun
  | [d1, d2, d3] => { results := [.lit (.bool true)], args := [d1, d2, d3] }
  | _ => none }
def meanPartsRow : OpenClaim := { program := "yteibkihbdgphnaagreat", sum := "2f01a51fbc277e4c99be53b204220fb3489dd647dd791c7091889e3a939fd561", func := "backwash/backwashlaw12.MeanParts", spec := "meanParts", inPlace := ["slices.overlaps[backwash/api.Item]", "math/bits.Sub64", "math/bits.Add64"], unfollowed := true, recurses := true, plainKeys := false, apart := false }
def MeanPartsSaid : Prop := meanPartsRow.holds Tryz.pinned (OpenSpec.ofChange meanPartsSpec)

/-- ITS FALSE NEIGHBOUR: 'it returns false'. Refute it at one input. -/
def meanPartsWrong : ChangeSpec := { name := "meanParts", fn := fun _ => fun
  | [d1, d2, d3] => { results := [.lit (.bool false)], args := [d1, d2, d3] }
  | _ => none }
def MeanPartsWrongFalsely : Prop := meanPartsRow.holds Tryz.pinned (OpenSpec.ofChange meanPartsWrong)

/- THE SECOND FORM. 'bulk': how many values and letters a reading holds, each counted each time it is reached (what is shared counts as often as it is met; a slice's spare places count too). A statement '..UptoSaid' is the law's where the arguments, and the package variables that the reading takes, are together of bulk at most 1048576: NARROWER than '..Said'. Prove '..Said' where nothing that the law and all that it calls make is longer than what came in: it says more and counts as full. Else prove '..UptoSaid'. A law counts once. -/
mutual
def uptoBulk {H : Type} : DataW H → Nat
  | .lit (.string bytes) => bytes.length + 1
  | .lit _ => 1
  | .nil => 1
  | .ptr d => uptoBulk d + 1
  | .slice elems spare => uptoBulkAll elems + uptoBulkAll spare + 1
  | .agg parts => uptoBulkAll parts + 1
  | .iface _ d => uptoBulk d + 1
  | .map entries => uptoBulkEntries entries + 1
  | .held _ => 1
def uptoBulkAll {H : Type} : List (DataW H) → Nat
  | [] => 0
  | d :: r => uptoBulk d + uptoBulkAll r
def uptoBulkEntries {H : Type} : List (Lit × DataW H) → Nat
  | [] => 0
  | x :: r => uptoBulkEntry x + uptoBulkEntries r
def uptoBulkEntry {H : Type} : Lit × DataW H → Nat
  | (.string bytes, d) => bytes.length + uptoBulk d + 1
  | (_, d) => uptoBulk d + 1
 end
def uptoSmall : (H : Type) → List (DataW H) → Bool := fun _ ds => decide (uptoBulkAll ds ≤ 1048576)
def OpenSpec.upto (s : _root_.Go.ChangeSpec) : _root_.Go.OpenSpec := { _root_.Go.OpenSpec.ofChange s with cond := some uptoSmall }

/-- 'backwashlaw12.MeanOrder', WHERE WHAT IT READS IS OF BULK AT MOST 1048576: true; the input reads as it did. -/
def meanOrderUptoRow : OpenClaim := { program := "yteibkihbdgphnaagreat", sum := "2f01a51fbc277e4c99be53b204220fb3489dd647dd791c7091889e3a939fd561", func := "backwash/backwashlaw12.MeanOrder", spec := "meanOrder", inPlace := ["slices.overlaps[backwash/api.Item]", "math/bits.Sub64", "math/bits.Add64"], unfollowed := true, recurses := true, plainKeys := false, apart := false, narrowed := true }
def MeanOrderUptoSaid : Prop := meanOrderUptoRow.holds Tryz.pinned (OpenSpec.upto meanOrderSpec)

/-- 'backwashlaw12.MeanEpochs', WHERE WHAT IT READS IS OF BULK AT MOST 1048576: true; the input reads as it did. -/
def meanEpochsUptoRow : OpenClaim := { program := "yteibkihbdgphnaagreat", sum := "2f01a51fbc277e4c99be53b204220fb3489dd647dd791c7091889e3a939fd561", func := "backwash/backwashlaw12.MeanEpochs", spec := "meanEpochs", inPlace := ["slices.overlaps[backwash/api.Item]", "math/bits.Sub64", "math/bits.Add64"], unfollowed := true, recurses := true, plainKeys := false, apart := false, narrowed := true }
def MeanEpochsUptoSaid : Prop := meanEpochsUptoRow.holds Tryz.pinned (OpenSpec.upto meanEpochsSpec)

/-- 'backwashlaw12.MeanAlone', WHERE WHAT IT READS IS OF BULK AT MOST 1048576: true; the input reads as it did. -/
def meanAloneUptoRow : OpenClaim := { program := "yteibkihbdgphnaagreat", sum := "2f01a51fbc277e4c99be53b204220fb3489dd647dd791c7091889e3a939fd561", func := "backwash/backwashlaw12.MeanAlone", spec := "meanAlone", inPlace := ["slices.overlaps[backwash/api.Item]", "math/bits.Sub64", "math/bits.Add64"], unfollowed := true, recurses := true, plainKeys := false, apart := false, narrowed := true }
def MeanAloneUptoSaid : Prop := meanAloneUptoRow.holds Tryz.pinned (OpenSpec.upto meanAloneSpec)

/-- 'backwashlaw12.MeanParts', WHERE WHAT IT READS IS OF BULK AT MOST 1048576: true; the input reads as it did. -/
def meanPartsUptoRow : OpenClaim := { program := "yteibkihbdgphnaagreat", sum := "2f01a51fbc277e4c99be53b204220fb3489dd647dd791c7091889e3a939fd561", func := "backwash/backwashlaw12.MeanParts", spec := "meanParts", inPlace := ["slices.overlaps[backwash/api.Item]", "math/bits.Sub64", "math/bits.Add64"], unfollowed := true, recurses := true, plainKeys := false, apart := false, narrowed := true }
def MeanPartsUptoSaid : Prop := meanPartsUptoRow.holds Tryz.pinned (OpenSpec.upto meanPartsSpec)

end Rows
end Go.Proofs.YteibkihbdgphnaaGreat
