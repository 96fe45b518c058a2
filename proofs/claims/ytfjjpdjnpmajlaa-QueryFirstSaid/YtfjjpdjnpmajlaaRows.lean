/-
  No cell of these rows narrows 'for every input' (looked for: loops, veiled, ifaces, maps, wideKeys, modest, calm, conditions, laid).
  DERIVED. THE GIVEN ROWS OF THIS SEAT. 9 by the template 'for every input the law returns true; each argument reads behind the call as it read before'; 0 by the template 'total and deterministic' (their statements: YtfjjpdjnpmajlaaTotals.lean).
  GIVEN WITH THE SEED: the statements are not yours to turn. If you find one false, say at which input.
  Laid BY PROGRAM, IN A SANDBOX (cutbox-rows.mjs): the forced cells as the released guide's own fill.sh prints them over the translation fb001c8ca1c76ad7… (all of the seat's roots in one cut). By AI agents, Wed Nov 11 2026. No macro, syntax, notation, axiom, sorry.
-/
import Derived.Test.YtfjjpdjnpmajlaaChecked
import GoSem.Claim
import GoSem.ClaimJoined
import GoSem.ClaimMapViews
import Derived.JoinedTies
import Derived.KernelRfl
namespace Go.Proofs.Ytfjjpdjnpmajlaa
/- THE CELL 'sum', in the pinned program and in every row, IS THE sha256 OF THE DUMP (.gsa) THAT YtfjjpdjnpmajlaaProg.lean LOADS. Nothing in Lean hashes anything: it is a label: what it is worth is what the hold of that sum in a sandbox is worth. -/
noncomputable def Try.pinned : Pinned := { name := "ytfjjpdjnpmajlaa", sum := "fb001c8ca1c76ad737bbfac814602b9508e3b2e7840e2c366c5fdf10d52224cc", checked := Try.checked }
namespace Rows
def none {H : Type} : Left H := { results := [], args := [] }

/-- 'backwashlaw33.WindowRight': WHATEVER THE INPUT: true; the input reads as it did. -/
def windowRightSpec : ChangeSpec := { name := "windowRight", fn := fun _ => fun
  | [d1, d2, d3, d4, d5] => { results := [.lit (.bool true)], args := [d1, d2, d3, d4, d5] }
  | _ => none }
def windowRightRow : OpenClaim := { program := "ytfjjpdjnpmajlaa", sum := "fb001c8ca1c76ad737bbfac814602b9508e3b2e7840e2c366c5fdf10d52224cc", func := "backwash/backwashlaw33.WindowRight", spec := "windowRight", unfollowed := true, recurses := true, apart := false }
def WindowRightSaid : Prop := windowRightRow.holds Try.pinned (OpenSpec.ofChange windowRightSpec)

/-- ITS FALSE NEIGHBOUR: 'it returns false'. Refute it at one input. -/
def windowRightWrong : ChangeSpec := { name := "windowRight", fn := fun _ => fun
  | [d1, d2, d3, d4, d5] => { results := [.lit (.bool false)], args := [d1, d2, d3, d4, d5] }
  | _ => none }
def WindowRightWrongFalsely : Prop := windowRightRow.holds Try.pinned (OpenSpec.ofChange windowRightWrong)

/-- 'backwashlaw11.OpsNone': WHATEVER THE INPUT: true; the input reads as it did. -/
def opsNoneSpec : ChangeSpec := { name := "opsNone", fn := fun _ => fun
  | [d1, d2, d3] => { results := [.lit (.bool true)], args := [d1, d2, d3] }
  | _ => none }
def opsNoneRow : OpenClaim := { program := "ytfjjpdjnpmajlaa", sum := "fb001c8ca1c76ad737bbfac814602b9508e3b2e7840e2c366c5fdf10d52224cc", func := "backwash/backwashlaw11.OpsNone", spec := "opsNone", inPlace := ["math/bits.Sub64", "math/bits.Add64", "slices.overlaps[backwash/api.Item]"], unfollowed := true, recurses := true, apart := false }
def OpsNoneSaid : Prop := opsNoneRow.holds Try.pinned (OpenSpec.ofChange opsNoneSpec)

/-- ITS FALSE NEIGHBOUR: 'it returns false'. Refute it at one input. -/
def opsNoneWrong : ChangeSpec := { name := "opsNone", fn := fun _ => fun
  | [d1, d2, d3] => { results := [.lit (.bool false)], args := [d1, d2, d3] }
  | _ => none }
def OpsNoneWrongFalsely : Prop := opsNoneRow.holds Try.pinned (OpenSpec.ofChange opsNoneWrong)

/-- 'backwashlaw32.QueryFirst': WHATEVER THE INPUT: true; the input reads as it did. -/
def queryFirstSpec : ChangeSpec := { name := "queryFirst", fn := fun _ => fun
  | [d1, d2, d3] => { results := [.lit (.bool true)], args := [d1, d2, d3] }
  | _ => none }
def queryFirstRow : OpenClaim := { program := "ytfjjpdjnpmajlaa", sum := "fb001c8ca1c76ad737bbfac814602b9508e3b2e7840e2c366c5fdf10d52224cc", func := "backwash/backwashlaw32.QueryFirst", spec := "queryFirst", inPlace := ["math/bits.Add64"], unfollowed := true, recurses := true, apart := false }
def QueryFirstSaid : Prop := queryFirstRow.holds Try.pinned (OpenSpec.ofChange queryFirstSpec)

/-- ITS FALSE NEIGHBOUR: 'it returns false'. Refute it at one input. -/
def queryFirstWrong : ChangeSpec := { name := "queryFirst", fn := fun _ => fun
  | [d1, d2, d3] => { results := [.lit (.bool false)], args := [d1, d2, d3] }
  | _ => none }
def QueryFirstWrongFalsely : Prop := queryFirstRow.holds Try.pinned (OpenSpec.ofChange queryFirstWrong)

/-- 'backwashlaw32.QueryAdds': WHATEVER THE INPUT: true; the input reads as it did. -/
def queryAddsSpec : ChangeSpec := { name := "queryAdds", fn := fun _ => fun
  | [d1, d2, d3] => { results := [.lit (.bool true)], args := [d1, d2, d3] }
  | _ => none }
def queryAddsRow : OpenClaim := { program := "ytfjjpdjnpmajlaa", sum := "fb001c8ca1c76ad737bbfac814602b9508e3b2e7840e2c366c5fdf10d52224cc", func := "backwash/backwashlaw32.QueryAdds", spec := "queryAdds", inPlace := ["math/bits.Add64"], unfollowed := true, recurses := true, apart := false }
def QueryAddsSaid : Prop := queryAddsRow.holds Try.pinned (OpenSpec.ofChange queryAddsSpec)

/-- ITS FALSE NEIGHBOUR: 'it returns false'. Refute it at one input. -/
def queryAddsWrong : ChangeSpec := { name := "queryAdds", fn := fun _ => fun
  | [d1, d2, d3] => { results := [.lit (.bool false)], args := [d1, d2, d3] }
  | _ => none }
def QueryAddsWrongFalsely : Prop := queryAddsRow.holds Try.pinned (OpenSpec.ofChange queryAddsWrong)

/-- 'backwashlaw32.QueryOrder': WHATEVER THE INPUT: true; the input reads as it did. -/
def queryOrderSpec : ChangeSpec := { name := "queryOrder", fn := fun _ => fun
  | [d1, d2, d3] => { results := [.lit (.bool true)], args := [d1, d2, d3] }
  | _ => none }
def queryOrderRow : OpenClaim := { program := "ytfjjpdjnpmajlaa", sum := "fb001c8ca1c76ad737bbfac814602b9508e3b2e7840e2c366c5fdf10d52224cc", func := "backwash/backwashlaw32.QueryOrder", spec := "queryOrder", inPlace := ["math/bits.Add64"], unfollowed := true, recurses := true, apart := false }
def QueryOrderSaid : Prop := queryOrderRow.holds Try.pinned (OpenSpec.ofChange queryOrderSpec)

/-- ITS FALSE NEIGHBOUR: 'it returns false'. Refute it at one input. -/
def queryOrderWrong : ChangeSpec := { name := "queryOrder", fn := fun _ => fun
  | [d1, d2, d3] => { results := [.lit (.bool false)], args := [d1, d2, d3] }
  | _ => none }
def QueryOrderWrongFalsely : Prop := queryOrderRow.holds Try.pinned (OpenSpec.ofChange queryOrderWrong)

/-- 'backwashlaw32.QueryTotal': WHATEVER THE INPUT: true; the input reads as it did. -/
def queryTotalSpec : ChangeSpec := { name := "queryTotal", fn := fun _ => fun
  | [d] => { results := [.lit (.bool true)], args := [d] }
  | _ => none }
def queryTotalRow : OpenClaim := { program := "ytfjjpdjnpmajlaa", sum := "fb001c8ca1c76ad737bbfac814602b9508e3b2e7840e2c366c5fdf10d52224cc", func := "backwash/backwashlaw32.QueryTotal", spec := "queryTotal", inPlace := ["math/bits.Add64"], unfollowed := true, recurses := true, apart := false }
def QueryTotalSaid : Prop := queryTotalRow.holds Try.pinned (OpenSpec.ofChange queryTotalSpec)

/-- ITS FALSE NEIGHBOUR: 'it returns false'. Refute it at one input. -/
def queryTotalWrong : ChangeSpec := { name := "queryTotal", fn := fun _ => fun
  | [d] => { results := [.lit (.bool false)], args := [d] }
  | _ => none }
def QueryTotalWrongFalsely : Prop := queryTotalRow.holds Try.pinned (OpenSpec.ofChange queryTotalWrong)

/-- 'backwashlaw11.OpsParts': WHATEVER THE INPUT: true; the input reads as it did. -/
def opsPartsSpec : ChangeSpec := { name := "opsParts", fn := fun _ => fun
  | [d1, d2, d3] => { results := [.lit (.bool true)], args := [d1, d2, d3] }
  | _ => none }
def opsPartsRow : OpenClaim := { program := "ytfjjpdjnpmajlaa", sum := "fb001c8ca1c76ad737bbfac814602b9508e3b2e7840e2c366c5fdf10d52224cc", func := "backwash/backwashlaw11.OpsParts", spec := "opsParts", inPlace := ["math/bits.Sub64", "math/bits.Add64", "slices.overlaps[backwash/api.Item]"], unfollowed := true, recurses := true, apart := false }
def OpsPartsSaid : Prop := opsPartsRow.holds Try.pinned (OpenSpec.ofChange opsPartsSpec)

/-- ITS FALSE NEIGHBOUR: 'it returns false'. Refute it at one input. -/
def opsPartsWrong : ChangeSpec := { name := "opsParts", fn := fun _ => fun
  | [d1, d2, d3] => { results := [.lit (.bool false)], args := [d1, d2, d3] }
  | _ => none }
def OpsPartsWrongFalsely : Prop := opsPartsRow.holds Try.pinned (OpenSpec.ofChange opsPartsWrong)

/-- 'backwashlaw11.OpsKeys': WHATEVER THE INPUT: true; the input reads as it did. -/
def opsKeysSpec : ChangeSpec := { name := "opsKeys", fn := fun _ => fun
  | [d1, d2, d3, d4] => { results := [.lit (.bool true)], args := [d1, d2, d3, d4] }
  | _ => none }
def opsKeysRow : OpenClaim := { program := "ytfjjpdjnpmajlaa", sum := "fb001c8ca1c76ad737bbfac814602b9508e3b2e7840e2c366c5fdf10d52224cc", func := "backwash/backwashlaw11.OpsKeys", spec := "opsKeys", inPlace := ["math/bits.Sub64", "math/bits.Add64", "slices.overlaps[backwash/api.Item]"], unfollowed := true, recurses := true, apart := false }
def OpsKeysSaid : Prop := opsKeysRow.holds Try.pinned (OpenSpec.ofChange opsKeysSpec)

/-- ITS FALSE NEIGHBOUR: 'it returns false'. Refute it at one input. -/
def opsKeysWrong : ChangeSpec := { name := "opsKeys", fn := fun _ => fun
  | [d1, d2, d3, d4] => { results := [.lit (.bool false)], args := [d1, d2, d3, d4] }
  | _ => none }
def OpsKeysWrongFalsely : Prop := opsKeysRow.holds Try.pinned (OpenSpec.ofChange opsKeysWrong)

/-- 'backwashlaw11.OpsOften': WHATEVER THE INPUT: true; the input reads as it did. -/
def opsOftenSpec : ChangeSpec := { name := "opsOften", fn := fun _ => fun
  | [d1, d2] => { results := [.lit (.bool true)], args := [d1, d2] }
  | _ => none }
def opsOftenRow : OpenClaim := { program := "ytfjjpdjnpmajlaa", sum := "fb001c8ca1c76ad737bbfac814602b9508e3b2e7840e2c366c5fdf10d52224cc", func := "backwash/backwashlaw11.OpsOften", spec := "opsOften", inPlace := ["math/bits.Sub64", "math/bits.Add64", "slices.overlaps[backwash/api.Item]"], unfollowed := true, recurses := true, apart := false }
def OpsOftenSaid : Prop := opsOftenRow.holds Try.pinned (OpenSpec.ofChange opsOftenSpec)

/-- ITS FALSE NEIGHBOUR: 'it returns false'. Refute it at one input. -/
def opsOftenWrong : ChangeSpec := { name := "opsOften", fn := fun _ => fun
  | [d1, d2] => { results := [.lit (.bool false)], args := [d1, d2] }
  | _ => none }
def OpsOftenWrongFalsely : Prop := opsOftenRow.holds Try.pinned (OpenSpec.ofChange opsOftenWrong)

/- THE SECOND FORM. 'bulk': how many values and letters a reading holds, each counted each time it is reached (what is shared counts as often as it is met; a slice's spare places count too). A statement '..UptoSaid' is the law's where the arguments, and the package variables that the reading takes, are together of bulk at most 1048576: NARROWER than '..Said'. Prove '..Said' where nothing that the law and all that it calls make is longer than what came in: it says more and counts as full. Else prove '..UptoSaid'. A law counts once. -/
mutual
def uptoBulk {H : Type} : DataW H → Nat
  | .lit (.string bytes) => bytes.length + 1
  | .lit _ => 1
  | .nil => 1
  | .ptr d => uptoBulk d + 1
  | .slice elems spare => uptoBulkAll elems + uptoBulkAll spare + 1
  | .agg parts => uptoBulkAll parts + 1
  | .iface _ d => uptoBulk d + 1
  | .map entries => uptoBulkEntries entries + 1
  | .held _ => 1
def uptoBulkAll {H : Type} : List (DataW H) → Nat
  | [] => 0
  | d :: r => uptoBulk d + uptoBulkAll r
def uptoBulkEntries {H : Type} : List (Lit × DataW H) → Nat
  | [] => 0
  | x :: r => uptoBulkEntry x + uptoBulkEntries r
def uptoBulkEntry {H : Type} : Lit × DataW H → Nat
  | (.string bytes, d) => bytes.length + uptoBulk d + 1
  | (_, d) => uptoBulk d + 1
 end
def uptoSmall : (H : Type) → List (DataW H) → Bool := fun _ ds => decide (uptoBulkAll ds ≤ 1048576)
def OpenSpec.upto (s : _root_.Go.ChangeSpec) : _root_.Go.OpenSpec := { _root_.Go.OpenSpec.ofChange s with cond := some uptoSmall }

/-- 'backwashlaw33.WindowRight', WHERE WHAT IT READS IS OF BULK AT MOST 1048576: true; the input reads as it did. -/
def windowRightUptoRow : OpenClaim := { program := "ytfjjpdjnpmajlaa", sum := "fb001c8ca1c76ad737bbfac814602b9508e3b2e7840e2c366c5fdf10d52224cc", func := "backwash/backwashlaw33.WindowRight", spec := "windowRight", unfollowed := true, recurses := true, apart := false, narrowed := true }
def WindowRightUptoSaid : Prop := windowRightUptoRow.holds Try.pinned (OpenSpec.upto windowRightSpec)

/-- 'backwashlaw11.OpsNone', WHERE WHAT IT READS IS OF BULK AT MOST 1048576: true; the input reads as it did. -/
def opsNoneUptoRow : OpenClaim := { program := "ytfjjpdjnpmajlaa", sum := "fb001c8ca1c76ad737bbfac814602b9508e3b2e7840e2c366c5fdf10d52224cc", func := "backwash/backwashlaw11.OpsNone", spec := "opsNone", inPlace := ["math/bits.Sub64", "math/bits.Add64", "slices.overlaps[backwash/api.Item]"], unfollowed := true, recurses := true, apart := false, narrowed := true }
def OpsNoneUptoSaid : Prop := opsNoneUptoRow.holds Try.pinned (OpenSpec.upto opsNoneSpec)

/-- 'backwashlaw32.QueryFirst', WHERE WHAT IT READS IS OF BULK AT MOST 1048576: true; the input reads as it did. -/
def queryFirstUptoRow : OpenClaim := { program := "ytfjjpdjnpmajlaa", sum := "fb001c8ca1c76ad737bbfac814602b9508e3b2e7840e2c366c5fdf10d52224cc", func := "backwash/backwashlaw32.QueryFirst", spec := "queryFirst", inPlace := ["math/bits.Add64"], unfollowed := true, recurses := true, apart := false, narrowed := true }
def QueryFirstUptoSaid : Prop := queryFirstUptoRow.holds Try.pinned (OpenSpec.upto queryFirstSpec)

/-- 'backwashlaw32.QueryAdds', WHERE WHAT IT READS IS OF BULK AT MOST 1048576: true; the input reads as it did. -/
def queryAddsUptoRow : OpenClaim := { program := "ytfjjpdjnpmajlaa", sum := "fb001c8ca1c76ad737bbfac814602b9508e3b2e7840e2c366c5fdf10d52224cc", func := "backwash/backwashlaw32.QueryAdds", spec := "queryAdds", inPlace := ["math/bits.Add64"], unfollowed := true, recurses := true, apart := false, narrowed := true }
def QueryAddsUptoSaid : Prop := queryAddsUptoRow.holds Try.pinned (OpenSpec.upto queryAddsSpec)

/-- 'backwashlaw32.QueryOrder', WHERE WHAT IT READS IS OF BULK AT MOST 1048576: true; the input reads as it did. -/
def queryOrderUptoRow : OpenClaim := { program := "ytfjjpdjnpmajlaa", sum := "fb001c8ca1c76ad737bbfac814602b9508e3b2e7840e2c366c5fdf10d52224cc", func := "backwash/backwashlaw32.QueryOrder", spec := "queryOrder", inPlace := ["math/bits.Add64"], unfollowed := true, recurses := true, apart := false, narrowed := true }
def QueryOrderUptoSaid : Prop := queryOrderUptoRow.holds Try.pinned (OpenSpec.upto queryOrderSpec)

/-- 'backwashlaw32.QueryTotal', WHERE WHAT IT READS IS OF BULK AT MOST 1048576: true; the input reads as it did. -/
def queryTotalUptoRow : OpenClaim := { program := "ytfjjpdjnpmajlaa", sum := "fb001c8ca1c76ad737bbfac814602b9508e3b2e7840e2c366c5fdf10d52224cc", func := "backwash/backwashlaw32.QueryTotal", spec := "queryTotal", inPlace := ["math/bits.Add64"], unfollowed := true, recurses := true, apart := false, narrowed := true }
def QueryTotalUptoSaid : Prop := queryTotalUptoRow.holds Try.pinned (OpenSpec.upto queryTotalSpec)

/-- 'backwashlaw11.OpsParts', WHERE WHAT IT READS IS OF BULK AT MOST 1048576: true; the input reads as it did. -/
def opsPartsUptoRow : OpenClaim := { program := "ytfjjpdjnpmajlaa", sum := "fb001c8ca1c76ad737bbfac814602b9508e3b2e7840e2c366c5fdf10d52224cc", func := "backwash/backwashlaw11.OpsParts", spec := "opsParts", inPlace := ["math/bits.Sub64", "math/bits.Add64", "slices.overlaps[backwash/api.Item]"], unfollowed := true, recurses := true, apart := false, narrowed := true }
def OpsPartsUptoSaid : Prop := opsPartsUptoRow.holds Try.pinned (OpenSpec.upto opsPartsSpec)

/-- 'backwashlaw11.OpsKeys', WHERE WHAT IT READS IS OF BULK AT MOST 1048576: true; the input reads as it did. -/
def opsKeysUptoRow : OpenClaim := { program := "ytfjjpdjnpmajlaa", sum := "fb001c8ca1c76ad737bbfac814602b9508e3b2e7840e2c366c5fdf10d52224cc", func := "backwash/backwashlaw11.OpsKeys", spec := "opsKeys", inPlace := ["math/bits.Sub64", "math/bits.Add64", "slices.overlaps[backwash/api.Item]"], unfollowed := true, recurses := true, apart := false, narrowed := true }
def OpsKeysUptoSaid : Prop := opsKeysUptoRow.holds Try.pinned (OpenSpec.upto opsKeysSpec)

/-- 'backwashlaw11.OpsOften', WHERE WHAT IT READS IS OF BULK AT MOST 1048576: true; the input reads as it did. -/
def opsOftenUptoRow : OpenClaim := { program := "ytfjjpdjnpmajlaa", sum := "fb001c8ca1c76ad737bbfac814602b9508e3b2e7840e2c366c5fdf10d52224cc", func := "backwash/backwashlaw11.OpsOften", spec := "opsOften", inPlace := ["math/bits.Sub64", "math/bits.Add64", "slices.overlaps[backwash/api.Item]"], unfollowed := true, recurses := true, apart := false, narrowed := true }
def OpsOftenUptoSaid : Prop := opsOftenUptoRow.holds Try.pinned (OpenSpec.upto opsOftenSpec)

end Rows
end Go.Proofs.Ytfjjpdjnpmajlaa
