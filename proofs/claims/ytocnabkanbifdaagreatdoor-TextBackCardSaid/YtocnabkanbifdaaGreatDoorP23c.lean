/-
  The law in plain words: what its plain function gives is true. No condition beyond those that each theorem names.
-/
import Derived.Test.YtocnabkanbifdaaGreatDoorWalkTB0
import Derived.Test.YtocnabkanbifdaaGreatDoorP23b
set_option linter.unusedSimpArgs false
set_option linter.unusedVariables false
set_option linter.unusedSectionVars false
namespace Go.Proofs.YtocnabkanbifdaaGreatDoor
open Go Go.RowKit Go.Lib
set_option maxRecDepth 100000
/-! The words of the lines of graphs. -/
def kindsL : List (List UInt8) := [[105, 110, 112, 117, 116], [112, 114, 111, 103], [115, 104, 105, 102, 116], [107, 101, 101, 112], [99, 111, 110, 99, 97, 116], [115, 117, 109], [99, 111, 117, 110, 116], [100, 105, 115, 116, 105, 110, 99, 116], [106, 111, 105, 110], [101, 110, 116, 101, 114], [108, 101, 97, 118, 101], [98, 97, 99, 107], [105, 110, 115, 112, 101, 99, 116], [116, 111, 116, 97, 108], [115, 105, 110, 107]]
def codesL : List (List UInt8) := [[112, 117, 115, 104], [107, 101, 121], [118, 97, 108], [97, 100, 100], [115, 117, 98], [109, 117, 108], [100, 105, 118], [109, 111, 100], [108, 101, 115, 115], [115, 97, 109, 101], [100, 117, 112], [115, 119, 97, 112], [100, 114, 111, 112], [106, 117, 109, 112], [122, 101, 114, 111], [101, 109, 105, 116]]
theorem kinds_eq : f_text_kinds = some (kindsL.map GStr.mk) := by
 unfold f_text_kinds f_strings_Fields wordsF
 refine Ok.eq (Ok.bind (Ok.guard (by decide +kernel) (Ok.some (Ok.some ?_))))
 congr 1
theorem codes_eq : f_text_codes = some (codesL.map GStr.mk) := by
 unfold f_text_codes f_strings_Fields wordsF
 refine Ok.eq (Ok.bind (Ok.guard (by decide +kernel) (Ok.some (Ok.some ?_))))
 congr 1
/-- A name's place, from one on. -/
def nmOf (l : List (List UInt8)) (n : Int) : List UInt8 := l.getD (n.toNat - 1) []
theorem nmOf_mem {l : List (List UInt8)} {n : Int} (h1 : 1 ≤ n) (h2 : n ≤ l.length) : nmOf l n ∈ l := by
 unfold nmOf
 rw [List.getD_eq_getElem?_getD, List.getElem?_eq_getElem (by omega)]
 exact List.getElem_mem _
theorem name_ok {b : List UInt8 × Bool} {l : List (List UInt8)} {n : Int} (h1 : 1 ≤ n) (h2 : n ≤ l.length) (hl : l.length ≤ 100) : f_text_shower_name_p0 b (l.map GStr.mk) n = some (nmOf l n, b) := by
 unfold f_text_shower_name_p0
 refine Ok.eq (Ok.iteB (fun hc => absurd hc (by simp; omega)) (fun _ => ?_))
 have e : IntKind.i64.wrap (n - 1) = ((n.toNat - 1 : Nat) : Int) := by rw [wrap_i64 _ (by omega)]; omega
 rw [e]
 refine Ok.bind (Ok.idxN (by simp; omega) (Ok.some ?_))
 unfold nmOf
 rw [List.getD_eq_getElem?_getD, List.getElem?_eq_getElem (by omega)]
 simp
theorem name_bad {b : List UInt8 × Bool} {l : List (List UInt8)} {n : Int} (h : n < 1 ∨ (l.length : Int) < n) : f_text_shower_name_p0 b (l.map GStr.mk) n = some ([], (b.1, true)) := by
 unfold f_text_shower_name_p0
 refine Ok.eq (Ok.iteB (fun _ => Ok.some rfl) (fun hc => absurd hc (by simp; omega)))
theorem kindsL_ok : ∀ w ∈ kindsL, w.length ≤ 64 ∧ Wd w ∧ w ≠ [] := by
 unfold Wd; decide +kernel
theorem codesL_ok : ∀ w ∈ codesL, w.length ≤ 64 ∧ Wd w ∧ w ≠ [] := by
 unfold Wd; decide +kernel
def lineW (ws : List (List UInt8)) : List UInt8 := joinW ws ++ [10]
theorem say_eq {b : List UInt8 × Bool} {ws : List (List UInt8)} (h2 : 2 ≤ ws.length) (h5 : ws.length ≤ 5) (hw : ∀ w ∈ ws, w.length ≤ 64) (hb : b.1.length ≤ 100000000) : f_text_shower_say_p0 b (ws.map GStr.mk) = some (b.1 ++ lineW ws, b.2) := by
 have hl := joinW_len hw
 unfold f_text_shower_say_p0
 refine Ok.eq (Ok.bind (Ok.of_eq (Join_eq h2 h5 hw) (Ok.guard (by simp only [List.length_cons, List.length_nil]; omega) ?_)))
 unfold f_strings_Builder_WriteString_T51_p0 bwriteF
 refine Ok.bind (Ok.bind (Ok.guard (by simp only [List.length_append, List.length_cons, List.length_nil]; omega) (Ok.some (Ok.some (Ok.some rfl)))))
theorem lineW_len {ws : List (List UInt8)} (h5 : ws.length ≤ 5) (hw : ∀ w ∈ ws, w.length ≤ 64) : (lineW ws).length ≤ 326 := by
 have := joinW_len hw
 unfold lineW
 simp only [List.length_append, List.length_cons, List.length_nil]
 omega
/-! The lines of a graph. -/
def scopeL (a b : Int) : List (List UInt8) := [[115, 99, 111, 112, 101], itoa a, itoa b]
def nodeL (x : GNode) : List (List UInt8) := [[110, 111, 100, 101], nmOf kindsL x.Kind, itoa x.Scope, itoa x.Arg]
def insL (y : GIns) : List (List UInt8) := [[105, 110, 115], nmOf codesL y.Op, itoa y.N]
def edgeL (e : GEdge) : List (List UInt8) := [[101, 100, 103, 101], itoa e.From, itoa e.To, itoa e.Port, if e.Exchange = true then [107, 101, 121] else [112, 105, 112, 101]]
def insOK (y : GIns) : Prop := 1 ≤ y.Op ∧ y.Op ≤ 16
def nodeOK (x : GNode) : Prop := (1 ≤ x.Kind ∧ x.Kind ≤ 15) ∧ ∀ y ∈ x.Prog, insOK y
def bodyL (ls : List (List (List UInt8))) : List UInt8 := ls.flatMap lineW
def linesG (g : GGraph) : List (List (List UInt8)) := (g.Parent.tail.zip g.Bound.tail).map (fun p => scopeL p.1 p.2) ++ g.Nodes.flatMap (fun x => nodeL x :: x.Prog.map insL) ++ g.Edges.map edgeL
end Go.Proofs.YtocnabkanbifdaaGreatDoor
