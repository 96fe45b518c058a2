/-
  What functions of the program compute, each told as a plain function that may give nothing, with the proof that the code does so. No condition beyond those that each theorem names.
-/
import Derived.Test.YteibkihbdgphnaaGreatLibD
import Derived.Test.YteibkihbdgphnaaGreatProg
import Derived.Test.YteibkihbdgphnaaGreatLibM
import Derived.DeepKeys4
import Derived.Test.YteibkihbdgphnaaGreatLibI
set_option linter.unusedSimpArgs false
set_option linter.unusedVariables false
set_option linter.unusedSectionVars false
set_option maxHeartbeats 2000000
set_option maxRecDepth 100000
namespace Go.Proofs.YteibkihbdgphnaaGreat
open Go Go.RowKit
open Go.IntKind (i64)
noncomputable abbrev pp : Program := Tryz.prog
theorem z7w : Tryz.prog.underlying 55 = some (.map 78 79) := by kernel_rfl
theorem z7v : Tryz.prog.underlying 56 = some (.map 3 107) := by kernel_rfl
theorem z0q : Tryz.prog.underlying 57 = some (.map 78 66) := by kernel_rfl
@[reducible] def tyF (P : Program) (t s : Nat) (a : Bool) (b : Nat) (n : List (Option Nat)) (r : Option (Nat × Nat)) (z : Option (List Value)) : Prop := szT P t = s ∧ q0x P t = true ∧ q4y P t = a ∧ q1r P t = b ∧ q86 P t = n ∧ qc0 P t = r ∧ q1f P t = z
@[go_sem] theorem j9n : tyF pp 2 1 false 8 [none] none (some [.int .i64 0]) ∧ (qh6 pp 2 = some .i64) ∧ tyF pp 3 1 false 8 [none] none (some [.int .i64 0]) ∧ (qh6 pp 3 = some .i64) ∧ tyF pp 4 1 false 1 [none] none (some [.bool false]) ∧ (Tryz.prog.underlying 4 = some .bool) ∧ tyF pp 5 1 false 1 [none] none (some [.int .u8 0]) ∧ (qh6 pp 5 = some .u8) ∧ tyF pp 22 1 false 24 [some 1] none (some [.slice none 0 0]) ∧ (sliceT pp 22 = some 3) ∧ tyF pp 23 1 false 24 [some 4] none (some [.slice none 0 0]) ∧ (sliceT pp 23 = some 44) ∧ tyF pp 24 1 false 24 [some 4] none (some [.slice none 0 0]) ∧ (sliceT pp 24 = some 52) ∧ (szT pp 26 = 4) ∧ (q0x pp 26 = true) ∧ (q4y pp 26 = true) ∧ (q1r pp 26 = 96) := by (repeat' apply And.intro) <;> kernel_rfl
@[go_sem] theorem j92 : (q86 pp 26 = [some 1, some 1, some 4, some 4]) ∧ (qc0 pp 26 = none) ∧ (q0m pp 26 0 = some (0, 22)) ∧ (q0m pp 26 1 = some (1, 22)) ∧ (q0m pp 26 2 = some (2, 23)) ∧ (q0m pp 26 3 = some (3, 24)) ∧ (q4q pp 26 = some [(0, 1), (1, 1), (2, 1), (3, 1)]) ∧ (q1f pp 26 = some [.slice none 0 0, .slice none 0 0, .slice none 0 0, .slice none 0 0]) ∧ tyF pp 27 1 false 24 [some 4] none (some [.slice none 0 0]) ∧ (sliceT pp 27 = some 33) ∧ tyF pp 31 2 true 16 [none, none] none (some [.int .i64 0, .int .i64 0]) ∧ (q0m pp 31 0 = some (0, 2)) ∧ (q0m pp 31 1 = some (1, 2)) ∧ (q4q pp 31 = some [(0, 1), (1, 1)]) ∧ tyF pp 33 4 true 32 [none, none, none, none] none (some [.int .i64 0, .int .i64 0, .int .i64 0, .int .i64 0]) ∧ (q0m pp 33 0 = some (0, 3)) ∧ (q0m pp 33 1 = some (1, 3)) ∧ (q0m pp 33 2 = some (2, 31)) ∧ (q4q pp 33 = some [(0, 1), (1, 1), (2, 2)]) ∧ tyF pp 34 1 false 24 [some 4] none (some [.slice none 0 0]) ∧ (sliceT pp 34 = some 45) ∧ tyF pp 35 1 false 8 [none] none (some [.int .i64 0]) ∧ (qh6 pp 35 = some .i64) ∧ (szT pp 42 = 1) ∧ (q0x pp 42 = true) ∧ (q4y pp 42 = false) ∧ (q1r pp 42 = 24) ∧ (sliceT pp 42 = some 153) ∧ (q86 pp 42 = [some 2]) ∧ (qc0 pp 42 = none) := by (repeat' apply And.intro) <;> kernel_rfl
@[go_sem] theorem j91 : (q1f pp 42 = some [.slice none 0 0]) ∧ tyF pp 44 4 true 48 [none, none, none, some 2] none (some [.int .i64 0, .int .i64 0, .int .i64 0, .slice none 0 0]) ∧ (q0m pp 44 0 = some (0, 3)) ∧ (q0m pp 44 1 = some (1, 3)) ∧ (q0m pp 44 2 = some (2, 2)) ∧ (q0m pp 44 3 = some (3, 42)) ∧ (q4q pp 44 = some [(0, 1), (1, 1), (2, 1), (3, 1)]) ∧ tyF pp 45 4 true 32 [none, none, none, none] none (some [.int .i64 0, .int .i64 0, .int .i64 0, .int .i64 0]) ∧ (q0m pp 45 0 = some (0, 3)) ∧ (q0m pp 45 1 = some (1, 3)) ∧ (q0m pp 45 2 = some (2, 31)) ∧ (q4q pp 45 = some [(0, 1), (1, 1), (2, 2)]) ∧ tyF pp 46 1 false 8 [none] none (some [.int .u64 0]) ∧ (qh6 pp 46 = some .u64) ∧ tyF pp 48 1 false 8 [none] none (some [.int .u64 0]) ∧ (qh6 pp 48 = some .u64) ∧ tyF pp 52 4 true 32 [none, none, none, none] none (some [.int .i64 0, .int .i64 0, .int .i64 0, .bool false]) ∧ (q0m pp 52 0 = some (0, 3)) ∧ (q0m pp 52 1 = some (1, 3)) ∧ (q0m pp 52 2 = some (2, 3)) ∧ (q0m pp 52 3 = some (3, 4)) ∧ (q4q pp 52 = some [(0, 1), (1, 1), (2, 1), (3, 1)]) ∧ (z0g pp 54 = true) ∧ tyF pp 54 1 false 8 [none] none (some [.pointer none]) := by (repeat' apply And.intro) <;> kernel_rfl
@[go_sem] theorem j90 : (Tryz.prog.underlying 55 = some (.map 78 79)) ∧ ((Tryz.prog.info? 79).bind (·.zero) = some (.pointer none)) ∧ tyF pp 55 1 false 8 [none] none (some [.map none]) ∧ (Tryz.prog.underlying 56 = some (.map 3 107)) ∧ ((Tryz.prog.info? 107).bind (·.zero) = some (.slice none 0 0)) ∧ tyF pp 56 1 false 8 [none] none (some [.map none]) ∧ (Tryz.prog.underlying 57 = some (.map 78 66)) ∧ ((Tryz.prog.info? 66).bind (·.zero) = some (.slice none 0 0)) ∧ tyF pp 57 1 false 8 [none] none (some [.map none]) ∧ tyF pp 59 11 true 168 [some 1, some 1, some 4, some 4, none, none, none, none, none, some 4, none] none (some [.slice none 0 0, .slice none 0 0, .slice none 0 0, .slice none 0 0, .map none, .map none, .map none, .int .i64 0, .int .i64 0, .slice none 0 0, .int .i64 0]) ∧ (q0m pp 59 0 = some (0, 26)) ∧ (q0m pp 59 1 = some (4, 55)) ∧ (q0m pp 59 2 = some (5, 56)) ∧ (q0m pp 59 3 = some (6, 57)) ∧ (q0m pp 59 4 = some (7, 3)) ∧ (q0m pp 59 5 = some (8, 3)) ∧ (q0m pp 59 6 = some (9, 34)) ∧ (q0m pp 59 7 = some (10, 35)) ∧ (q4q pp 59 = some [(0, 4), (4, 1), (5, 1), (6, 1), (7, 1), (8, 1), (9, 1), (10, 1)]) ∧ tyF pp 61 4 true 32 [none, none, none, none] (some (4, 3)) (some [.int .i64 0, .int .i64 0, .int .i64 0, .int .i64 0]) ∧ (q4q pp 61 = some [(0, 1), (1, 1), (2, 1), (3, 1)]) ∧ (szT pp 63 = 5) ∧ (q0x pp 63 = true) ∧ (q4y pp 63 = true) ∧ (q1r pp 63 = 40) ∧ (q86 pp 63 = [none, none, none, none, none]) ∧ (qc0 pp 63 = none) ∧ (q0m pp 63 0 = some (0, 3)) ∧ (q0m pp 63 1 = some (1, 61)) ∧ (q4q pp 63 = some [(0, 1), (1, 4)]) := by (repeat' apply And.intro) <;> kernel_rfl
@[go_sem] theorem j8z : (q1f pp 63 = some [.int .i64 0, .int .i64 0, .int .i64 0, .int .i64 0, .int .i64 0]) ∧ tyF pp 65 3 true 24 [none, none, none] none (some [.int .i64 0, .int .i64 0, .int .i64 0]) ∧ (q0m pp 65 0 = some (0, 31)) ∧ (q0m pp 65 1 = some (2, 3)) ∧ (q4q pp 65 = some [(0, 2), (2, 1)]) ∧ tyF pp 66 1 false 24 [some 3] none (some [.slice none 0 0]) ∧ (sliceT pp 66 = some 65) ∧ tyF pp 72 1 false 8 [none] none (some [.nilFunc]) ∧ tyF pp 76 1 false 8 [none] none (some [.nilFunc]) ∧ tyF pp 78 6 true 48 [none, none, none, none, none, none] none (some [.int .i64 0, .int .i64 0, .int .i64 0, .int .i64 0, .int .i64 0, .int .i64 0]) ∧ (q0m pp 78 0 = some (0, 3)) ∧ (q0m pp 78 1 = some (1, 63)) ∧ (q4q pp 78 = some [(0, 1), (1, 5)]) ∧ (z0g pp 79 = true) ∧ tyF pp 79 1 false 8 [none] none (some [.pointer none]) ∧ tyF pp 80 2 true 48 [some 3, some 3] (some (2, 66)) (some [.slice none 0 0, .slice none 0 0]) ∧ (q4q pp 80 = some [(0, 1), (1, 1)]) ∧ (szT pp 103 = 1) := by (repeat' apply And.intro) <;> kernel_rfl
@[go_sem] theorem j8y : (q0x pp 103 = true) ∧ (q4y pp 103 = false) ∧ (q1r pp 103 = 4) ∧ (qh6 pp 103 = some .u32) ∧ (q86 pp 103 = [none]) ∧ (qc0 pp 103 = none) ∧ (q1f pp 103 = some [.int .u32 0]) ∧ tyF pp 106 1 false 24 [some 1] none (some [.slice none 0 0]) ∧ (sliceT pp 106 = some 66) ∧ tyF pp 107 1 false 24 [some 6] none (some [.slice none 0 0]) ∧ (sliceT pp 107 = some 109) ∧ tyF pp 109 6 true 48 [none, none, none, none, none, none] none (some [.int .i64 0, .int .i64 0, .int .i64 0, .int .i64 0, .int .i64 0, .int .i64 0]) ∧ (q0m pp 109 0 = some (0, 63)) ∧ (q0m pp 109 1 = some (5, 3)) ∧ (q4q pp 109 = some [(0, 5), (5, 1)]) ∧ tyF pp 113 1 false 24 [some 2] none (some [.slice none 0 0]) ∧ (sliceT pp 113 = some 31) ∧ tyF pp 127 1 false 24 [some 1] none (some [.slice none 0 0]) ∧ (sliceT pp 127 = some 4) ∧ tyF pp 128 1 false 8 [none] none (some [.nilFunc]) ∧ (z0g pp 141 = true) ∧ (szT pp 141 = 1) ∧ (q0x pp 141 = true) ∧ (q4y pp 141 = false) := by (repeat' apply And.intro) <;> kernel_rfl
@[go_sem] theorem j8x : (q1r pp 141 = 8) ∧ (q86 pp 141 = [none]) ∧ (qc0 pp 141 = none) ∧ (q1f pp 141 = some [.pointer none]) ∧ tyF pp 143 2 true 32 [some 3, none] none (some [.slice none 0 0, .int .i64 0]) ∧ (q0m pp 143 0 = some (0, 66)) ∧ (q0m pp 143 1 = some (1, 3)) ∧ (q4q pp 143 = some [(0, 1), (1, 1)]) ∧ tyF pp 151 1 false 8 [none] none (some [.nilFunc]) ∧ tyF pp 153 2 true 16 [none, none] none (some [.int .i64 0, .int .i64 0]) ∧ (q0m pp 153 0 = some (0, 3)) ∧ (q0m pp 153 1 = some (1, 2)) ∧ (q4q pp 153 = some [(0, 1), (1, 1)]) ∧ tyF pp 155 1 false 8 [none] none (some [.nilFunc]) ∧ tyF pp 159 1 false 8 [none] none (some [.nilFunc]) ∧ tyF pp 168 1 false 8 [none] none (some [.nilFunc]) ∧ (szT pp 170 = 2) ∧ (q0x pp 170 = true) ∧ (q4y pp 170 = true) ∧ (q1r pp 170 = 16) ∧ (q86 pp 170 = [none, none]) ∧ (qc0 pp 170 = none) ∧ (q0m pp 170 0 = some (0, 2)) ∧ (q0m pp 170 1 = some (1, 46)) := by (repeat' apply And.intro) <;> kernel_rfl
@[go_sem] theorem j8w : (q4q pp 170 = some [(0, 1), (1, 1)]) ∧ (q1f pp 170 = some [.int .i64 0, .int .u64 0]) ∧ (z0g pp 188 = true) ∧ tyF pp 188 1 false 8 [none] none (some [.pointer none]) ∧ tyF pp 189 1 false 24 [some 1] none (some [.slice none 0 0]) ∧ (sliceT pp 189 = some 2) ∧ tyF pp 191 6 true 80 [none, none, some 1, some 2, none, none] none (some [.int .i64 0, .int .i64 0, .slice none 0 0, .slice none 0 0, .int .i64 0, .int .i64 0]) ∧ (q0m pp 191 0 = some (0, 31)) ∧ (q0m pp 191 1 = some (2, 189)) ∧ (q0m pp 191 2 = some (3, 113)) ∧ (q0m pp 191 3 = some (4, 3)) ∧ (q0m pp 191 4 = some (5, 3)) ∧ (q4q pp 191 = some [(0, 2), (2, 1), (3, 1), (4, 1), (5, 1)]) ∧ (p8 pp 3 = true) ∧ (p8 pp 4 = true) ∧ (p8 pp 5 = true) ∧ (p8 pp 6 = true) ∧ (p8 pp 7 = true) ∧ (p8 pp 8 = true) ∧ (p8 pp 9 = true) ∧ (p8 pp 10 = true) ∧ (p8 pp 11 = true) ∧ (p8 pp 12 = true) ∧ (p8 pp 13 = true) ∧ (p8 pp 14 = true) ∧ (p8 pp 15 = true) ∧ (p8 pp 16 = true) ∧ (p8 pp 17 = true) ∧ (p8 pp 18 = true) ∧ (p8 pp 19 = true) ∧ (p8 pp 20 = true) ∧ (p8 pp 21 = true) ∧ (p8 pp 22 = true) ∧ (p8 pp 23 = true) ∧ (p8 pp 24 = true) ∧ (p8 pp 25 = true) ∧ (p8 pp 26 = true) ∧ (p8 pp 29 = true) ∧ (p8 pp 30 = true) ∧ (p8 pp 31 = true) ∧ (p8 pp 32 = true) ∧ (p8 pp 33 = true) := by (repeat' apply And.intro) <;> kernel_rfl
@[go_sem] theorem j8v : (p8 pp 34 = true) ∧ (p8 pp 35 = true) ∧ (p8 pp 36 = true) ∧ (p8 pp 37 = true) ∧ (p8 pp 38 = true) ∧ (p8 pp 39 = true) ∧ (p8 pp 40 = true) ∧ (p8 pp 41 = true) ∧ (p8 pp 53 = true) ∧ (p8 pp 54 = true) ∧ (p8 pp 55 = true) ∧ (p8 pp 56 = true) ∧ (p8 pp 57 = true) ∧ (p8 pp 58 = true) ∧ (p8 pp 59 = true) ∧ (p8 pp 60 = true) ∧ (p8 pp 61 = true) ∧ (p8 pp 62 = true) ∧ (p8 pp 63 = true) ∧ (p8 pp 64 = true) ∧ (p8 pp 65 = true) ∧ (p8 pp 66 = true) ∧ (p8 pp 67 = true) ∧ (p8 pp 68 = true) ∧ (p8 pp 69 = true) ∧ (p8 pp 70 = true) ∧ (p8 pp 71 = true) ∧ (p8 pp 72 = true) ∧ (p8 pp 73 = true) ∧ (p8 pp 74 = true) ∧ (p8 pp 75 = true) ∧ (p8 pp 76 = true) ∧ (p8 pp 77 = true) ∧ (p8 pp 83 = true) ∧ (p8 pp 84 = true) ∧ (p8 pp 85 = true) ∧ (p8 pp 86 = true) ∧ (p8 pp 87 = true) ∧ (p8 pp 88 = true) ∧ (p8 pp 89 = true) ∧ (p8 pp 90 = true) ∧ (p8 pp 91 = true) ∧ (p8 pp 92 = true) ∧ (p8 pp 93 = true) ∧ (p8 pp 94 = true) ∧ (p8 pp 95 = true) ∧ (p8 pp 96 = true) ∧ (p8 pp 97 = true) ∧ (p8 pp 98 = true) ∧ (p8 pp 99 = true) ∧ (p8 pp 100 = true) ∧ (p8 pp 101 = true) ∧ (p8 pp 102 = true) ∧ (p8 pp 103 = true) ∧ (p8 pp 104 = true) ∧ (p8 pp 105 = true) ∧ (p8 pp 107 = true) ∧ (p8 pp 108 = true) ∧ (p8 pp 109 = true) ∧ (p8 pp 110 = true) := by (repeat' apply And.intro) <;> kernel_rfl
@[go_sem] theorem j8u : (p8 pp 111 = true) ∧ (p8 pp 112 = true) ∧ (p8 pp 113 = true) ∧ (p8 pp 114 = true) ∧ (p8 pp 115 = true) ∧ (p8 pp 116 = true) ∧ (p8 pp 117 = true) ∧ (p8 pp 118 = true) ∧ (p8 pp 119 = true) ∧ (p8 pp 120 = true) ∧ (p8 pp 121 = true) ∧ (p8 pp 124 = true) ∧ (p8 pp 125 = true) ∧ (p8 pp 126 = true) ∧ (p8 pp 127 = true) ∧ (p8 pp 128 = true) ∧ (p8 pp 129 = true) ∧ (p8 pp 131 = true) ∧ (p8 pp 135 = true) ∧ (p8 pp 136 = true) ∧ (p8 pp 137 = true) ∧ (p8 pp 138 = true) ∧ (p8 pp 139 = true) ∧ (p8 pp 140 = true) ∧ (p8 pp 141 = true) := by (repeat' apply And.intro) <;> kernel_rfl
theorem mixed : Tryz.prog.follows .mixedOrders = true := by kernel_rfl
structure Arr2 (α : Type) where
  a0 : α
  a1 : α
instance {α : Type} [Row α] : Row (Arr2 α) := ⟨Row.sz α + Row.sz α, fun x => Row.row x.a0 ++ Row.row x.a1⟩
instance {α : Type} [Dat α] : Dat (Arr2 α) where
  ct := Dat.ct α ++ (Dat.ct α)
  ok x := Dat.ok x.a0 ∧ Dat.ok x.a1
  len := by simp only [List.length_append, Dat.len]; (try simp only [Row.sz]); (try omega)
  of avs h := by
    obtain ⟨b0, r0, rfl, h0, g0⟩ := q0g h; obtain ⟨x0, rfl, k0⟩ := Dat.of (α := α) _ h0; obtain ⟨x1, rfl, k1⟩ := Dat.of (α := α) _ g0; exact ⟨⟨x0, x1⟩, by simp only [Row.row, List.append_assoc], k0, k1⟩
structure Arr4 (α : Type) where
  a0 : α
  a1 : α
  a2 : α
  a3 : α
instance {α : Type} [Row α] : Row (Arr4 α) := ⟨Row.sz α + Row.sz α + Row.sz α + Row.sz α, fun x => Row.row x.a0 ++ Row.row x.a1 ++ Row.row x.a2 ++ Row.row x.a3⟩
instance {α : Type} [Dat α] : Dat (Arr4 α) where
  ct := Dat.ct α ++ (Dat.ct α ++ (Dat.ct α ++ (Dat.ct α)))
  ok x := Dat.ok x.a0 ∧ Dat.ok x.a1 ∧ Dat.ok x.a2 ∧ Dat.ok x.a3
  len := by simp only [List.length_append, Dat.len]; (try simp only [Row.sz]); (try omega)
  of avs h := by
    obtain ⟨b0, r0, rfl, h0, g0⟩ := q0g h; obtain ⟨b1, r1, rfl, h1, g1⟩ := q0g g0; obtain ⟨b2, r2, rfl, h2, g2⟩ := q0g g1; obtain ⟨x0, rfl, k0⟩ := Dat.of (α := α) _ h0; obtain ⟨x1, rfl, k1⟩ := Dat.of (α := α) _ h1; obtain ⟨x2, rfl, k2⟩ := Dat.of (α := α) _ h2; obtain ⟨x3, rfl, k3⟩ := Dat.of (α := α) _ g2; exact ⟨⟨x0, x1, x2, x3⟩, by simp only [Row.row, List.append_assoc], k0, k1, k2, k3⟩
structure Nu64 where
  n : Int
instance : Row Nu64 := ⟨1, fun x => [.v (.int .u64 x.n)]⟩
@[go_sem] theorem j98 (x : Nu64) : Row.row x = [.v (.int .u64 x.n)] := rfl
instance : Dat Nu64 where
  ct := [.int .u64]
  ok x := inI .u64 x.n
  len := rfl
  of avs h := by
    simp only [q2p, qu7] at h; obtain ⟨_, _, rfl, ⟨n, rfl, hw⟩, rfl⟩ := h; exact ⟨⟨n⟩, rfl, hw⟩
structure GIns where
  Op : Int
  N : Int
instance : Row GIns := ⟨2, fun x => [.v (.int .i64 x.Op), .v (.int .i64 x.N)]⟩
@[go_sem] theorem j9b (x : GIns) : Row.row x = [.v (.int .i64 x.Op), .v (.int .i64 x.N)] := rfl
@[go_sem] theorem j9q : Row.sz GIns = 2 := rfl
instance : Dat GIns where
  ct := Dat.ct Int ++ (Dat.ct Int)
  ok x := Dat.ok x.Op ∧ Dat.ok x.N
  len := rfl
  of avs h := by
    obtain ⟨b0, r0, rfl, h0, g0⟩ := q0g h; obtain ⟨x0, rfl, k0⟩ := Dat.of (α := Int) _ h0; obtain ⟨x1, rfl, k1⟩ := Dat.of (α := Int) _ g0; exact ⟨⟨x0, x1⟩, rfl, k0, k1⟩
structure GNode where
  Kind : Int
  Scope : Int
  Arg : Int
  Prog : List GIns
instance : Row GNode := ⟨4, fun x => [.v (.int .i64 x.Kind), .v (.int .i64 x.Scope), .v (.int .i64 x.Arg), .sl 2 (enc x.Prog)]⟩
@[go_sem] theorem j8p (x : GNode) : Row.row x = [.v (.int .i64 x.Kind), .v (.int .i64 x.Scope), .v (.int .i64 x.Arg), .sl 2 (enc x.Prog)] := rfl
@[go_sem] theorem j94 : Row.sz GNode = 4 := rfl
instance : Dat GNode where
  ct := Dat.ct Int ++ (Dat.ct Int ++ (Dat.ct Int ++ (Dat.ct (List GIns))))
  ok x := Dat.ok x.Kind ∧ Dat.ok x.Scope ∧ Dat.ok x.Arg ∧ Dat.ok x.Prog
  len := rfl
  of avs h := by
    obtain ⟨b0, r0, rfl, h0, g0⟩ := q0g h; obtain ⟨b1, r1, rfl, h1, g1⟩ := q0g g0; obtain ⟨b2, r2, rfl, h2, g2⟩ := q0g g1; obtain ⟨x0, rfl, k0⟩ := Dat.of (α := Int) _ h0; obtain ⟨x1, rfl, k1⟩ := Dat.of (α := Int) _ h1; obtain ⟨x2, rfl, k2⟩ := Dat.of (α := Int) _ h2; obtain ⟨x3, rfl, k3⟩ := Dat.of (α := List GIns) _ g2; exact ⟨⟨x0, x1, x2, x3⟩, rfl, k0, k1, k2, k3⟩
structure GEdge where
  From : Int
  To : Int
  Port : Int
  Exchange : Bool
instance : Row GEdge := ⟨4, fun x => [.v (.int .i64 x.From), .v (.int .i64 x.To), .v (.int .i64 x.Port), .v (.bool x.Exchange)]⟩
@[go_sem] theorem j8r (x : GEdge) : Row.row x = [.v (.int .i64 x.From), .v (.int .i64 x.To), .v (.int .i64 x.Port), .v (.bool x.Exchange)] := rfl
@[go_sem] theorem j97 : Row.sz GEdge = 4 := rfl
instance : Dat GEdge where
  ct := Dat.ct Int ++ (Dat.ct Int ++ (Dat.ct Int ++ (Dat.ct Bool)))
  ok x := Dat.ok x.From ∧ Dat.ok x.To ∧ Dat.ok x.Port ∧ Dat.ok x.Exchange
  len := rfl
  of avs h := by
    obtain ⟨b0, r0, rfl, h0, g0⟩ := q0g h; obtain ⟨b1, r1, rfl, h1, g1⟩ := q0g g0; obtain ⟨b2, r2, rfl, h2, g2⟩ := q0g g1; obtain ⟨x0, rfl, k0⟩ := Dat.of (α := Int) _ h0; obtain ⟨x1, rfl, k1⟩ := Dat.of (α := Int) _ h1; obtain ⟨x2, rfl, k2⟩ := Dat.of (α := Int) _ h2; obtain ⟨x3, rfl, k3⟩ := Dat.of (α := Bool) _ g2; exact ⟨⟨x0, x1, x2, x3⟩, rfl, k0, k1, k2, k3⟩
structure GGraph where
  Parent : List Int
  Bound : List Int
  Nodes : List GNode
  Edges : List GEdge
instance : Row GGraph := ⟨4, fun x => [.sl 1 (enc x.Parent), .sl 1 (enc x.Bound), .sl 4 (enc x.Nodes), .sl 4 (enc x.Edges)]⟩
@[go_sem] theorem j82 (x : GGraph) : Row.row x = [.sl 1 (enc x.Parent), .sl 1 (enc x.Bound), .sl 4 (enc x.Nodes), .sl 4 (enc x.Edges)] := rfl
@[go_sem] theorem j8m : Row.sz GGraph = 4 := rfl
instance : Dat GGraph where
  ct := Dat.ct (List Int) ++ (Dat.ct (List Int) ++ (Dat.ct (List GNode) ++ (Dat.ct (List GEdge))))
  ok x := Dat.ok x.Parent ∧ Dat.ok x.Bound ∧ Dat.ok x.Nodes ∧ Dat.ok x.Edges
  len := rfl
  of avs h := by
    obtain ⟨b0, r0, rfl, h0, g0⟩ := q0g h; obtain ⟨b1, r1, rfl, h1, g1⟩ := q0g g0; obtain ⟨b2, r2, rfl, h2, g2⟩ := q0g g1; obtain ⟨x0, rfl, k0⟩ := Dat.of (α := List Int) _ h0; obtain ⟨x1, rfl, k1⟩ := Dat.of (α := List Int) _ h1; obtain ⟨x2, rfl, k2⟩ := Dat.of (α := List GNode) _ h2; obtain ⟨x3, rfl, k3⟩ := Dat.of (α := List GEdge) _ g2; exact ⟨⟨x0, x1, x2, x3⟩, rfl, k0, k1, k2, k3⟩
structure GRec where
  K : Int
  V : Int
instance : Row GRec := ⟨2, fun x => [.v (.int .i64 x.K), .v (.int .i64 x.V)]⟩
@[go_sem] theorem j99 (x : GRec) : Row.row x = [.v (.int .i64 x.K), .v (.int .i64 x.V)] := rfl
@[go_sem] theorem j9o : Row.sz GRec = 2 := rfl
instance : Dat GRec where
  ct := Dat.ct Int ++ (Dat.ct Int)
  ok x := Dat.ok x.K ∧ Dat.ok x.V
  len := rfl
  of avs h := by
    obtain ⟨b0, r0, rfl, h0, g0⟩ := q0g h; obtain ⟨x0, rfl, k0⟩ := Dat.of (α := Int) _ h0; obtain ⟨x1, rfl, k1⟩ := Dat.of (α := Int) _ g0; exact ⟨⟨x0, x1⟩, rfl, k0, k1⟩
structure GFeed where
  Node : Int
  Epoch : Int
  Rec : GRec
instance : Row GFeed := ⟨4, fun x => [.v (.int .i64 x.Node), .v (.int .i64 x.Epoch), .v (.int .i64 x.Rec.K), .v (.int .i64 x.Rec.V)]⟩
@[go_sem] theorem j8q (x : GFeed) : Row.row x = [.v (.int .i64 x.Node), .v (.int .i64 x.Epoch), .v (.int .i64 x.Rec.K), .v (.int .i64 x.Rec.V)] := rfl
@[go_sem] theorem j96 : Row.sz GFeed = 4 := rfl
instance : Dat GFeed where
  ct := Dat.ct Int ++ (Dat.ct Int ++ (Dat.ct GRec))
  ok x := Dat.ok x.Node ∧ Dat.ok x.Epoch ∧ Dat.ok x.Rec
  len := rfl
  of avs h := by
    obtain ⟨b0, r0, rfl, h0, g0⟩ := q0g h; obtain ⟨b1, r1, rfl, h1, g1⟩ := q0g g0; obtain ⟨x0, rfl, k0⟩ := Dat.of (α := Int) _ h0; obtain ⟨x1, rfl, k1⟩ := Dat.of (α := Int) _ h1; obtain ⟨x2, rfl, k2⟩ := Dat.of (α := GRec) _ g1; exact ⟨⟨x0, x1, x2⟩, rfl, k0, k1, k2⟩
structure GItem where
  Rec : GRec
  N : Int
instance : Row GItem := ⟨3, fun x => [.v (.int .i64 x.Rec.K), .v (.int .i64 x.Rec.V), .v (.int .i64 x.N)]⟩
@[go_sem] theorem zz6 (x : GItem) : Row.row x = [.v (.int .i64 x.Rec.K), .v (.int .i64 x.Rec.V), .v (.int .i64 x.N)] := rfl
@[go_sem] theorem j95 : Row.sz GItem = 3 := rfl
instance : Dat GItem where
  ct := Dat.ct GRec ++ (Dat.ct Int)
  ok x := Dat.ok x.Rec ∧ Dat.ok x.N
  len := rfl
  of avs h := by
    obtain ⟨b0, r0, rfl, h0, g0⟩ := q0g h; obtain ⟨x0, rfl, k0⟩ := Dat.of (α := GRec) _ h0; obtain ⟨x1, rfl, k1⟩ := Dat.of (α := Int) _ g0; exact ⟨⟨x0, x1⟩, rfl, k0, k1⟩
structure GTime where
  D : Int
  C : Arr4 Int
instance : Row GTime := ⟨5, fun x => [.v (.int .i64 x.D), .v (.int .i64 x.C.a0), .v (.int .i64 x.C.a1), .v (.int .i64 x.C.a2), .v (.int .i64 x.C.a3)]⟩
@[go_sem] theorem j8o (x : GTime) : Row.row x = [.v (.int .i64 x.D), .v (.int .i64 x.C.a0), .v (.int .i64 x.C.a1), .v (.int .i64 x.C.a2), .v (.int .i64 x.C.a3)] := rfl
@[go_sem] theorem j93 : Row.sz GTime = 5 := rfl
instance : Dat GTime where
  ct := Dat.ct Int ++ (Dat.ct (Arr4 Int))
  ok x := Dat.ok x.D ∧ Dat.ok x.C
  len := rfl
  of avs h := by
    obtain ⟨b0, r0, rfl, h0, g0⟩ := q0g h; obtain ⟨x0, rfl, k0⟩ := Dat.of (α := Int) _ h0; obtain ⟨x1, rfl, k1⟩ := Dat.of (α := Arr4 Int) _ g0; exact ⟨⟨x0, x1⟩, rfl, k0, k1⟩
structure GMean_point where
  node : Int
  time : GTime
instance : Row GMean_point := ⟨6, fun x => [.v (.int .i64 x.node), .v (.int .i64 x.time.D), .v (.int .i64 x.time.C.a0), .v (.int .i64 x.time.C.a1), .v (.int .i64 x.time.C.a2), .v (.int .i64 x.time.C.a3)]⟩
@[go_sem] theorem j3v (x : GMean_point) : Row.row x = [.v (.int .i64 x.node), .v (.int .i64 x.time.D), .v (.int .i64 x.time.C.a0), .v (.int .i64 x.time.C.a1), .v (.int .i64 x.time.C.a2), .v (.int .i64 x.time.C.a3)] := rfl
@[go_sem] theorem j4z : Row.sz GMean_point = 6 := rfl
instance : Dat GMean_point where
  ct := Dat.ct Int ++ (Dat.ct GTime)
  ok x := Dat.ok x.node ∧ Dat.ok x.time
  len := rfl
  of avs h := by
    obtain ⟨b0, r0, rfl, h0, g0⟩ := q0g h; obtain ⟨x0, rfl, k0⟩ := Dat.of (α := Int) _ h0; obtain ⟨x1, rfl, k1⟩ := Dat.of (α := GTime) _ g0; exact ⟨⟨x0, x1⟩, rfl, k0, k1⟩
structure GCount where
  Time : GTime
  N : Int
instance : Row GCount := ⟨6, fun x => [.v (.int .i64 x.Time.D), .v (.int .i64 x.Time.C.a0), .v (.int .i64 x.Time.C.a1), .v (.int .i64 x.Time.C.a2), .v (.int .i64 x.Time.C.a3), .v (.int .i64 x.N)]⟩
@[go_sem] theorem j83 (x : GCount) : Row.row x = [.v (.int .i64 x.Time.D), .v (.int .i64 x.Time.C.a0), .v (.int .i64 x.Time.C.a1), .v (.int .i64 x.Time.C.a2), .v (.int .i64 x.Time.C.a3), .v (.int .i64 x.N)] := rfl
@[go_sem] theorem j8n : Row.sz GCount = 6 := rfl
instance : Dat GCount where
  ct := Dat.ct GTime ++ (Dat.ct Int)
  ok x := Dat.ok x.Time ∧ Dat.ok x.N
  len := rfl
  of avs h := by
    obtain ⟨b0, r0, rfl, h0, g0⟩ := q0g h; obtain ⟨x0, rfl, k0⟩ := Dat.of (α := GTime) _ h0; obtain ⟨x1, rfl, k1⟩ := Dat.of (α := Int) _ g0; exact ⟨⟨x0, x1⟩, rfl, k0, k1⟩
structure GOut where
  Node : Int
  Epoch : Int
  Rec : GRec
instance : Row GOut := ⟨4, fun x => [.v (.int .i64 x.Node), .v (.int .i64 x.Epoch), .v (.int .i64 x.Rec.K), .v (.int .i64 x.Rec.V)]⟩
@[go_sem] theorem j9a (x : GOut) : Row.row x = [.v (.int .i64 x.Node), .v (.int .i64 x.Epoch), .v (.int .i64 x.Rec.K), .v (.int .i64 x.Rec.V)] := rfl
@[go_sem] theorem j9p : Row.sz GOut = 4 := rfl
instance : Dat GOut where
  ct := Dat.ct Int ++ (Dat.ct Int ++ (Dat.ct GRec))
  ok x := Dat.ok x.Node ∧ Dat.ok x.Epoch ∧ Dat.ok x.Rec
  len := rfl
  of avs h := by
    obtain ⟨b0, r0, rfl, h0, g0⟩ := q0g h; obtain ⟨b1, r1, rfl, h1, g1⟩ := q0g g0; obtain ⟨x0, rfl, k0⟩ := Dat.of (α := Int) _ h0; obtain ⟨x1, rfl, k1⟩ := Dat.of (α := Int) _ h1; obtain ⟨x2, rfl, k2⟩ := Dat.of (α := GRec) _ g1; exact ⟨⟨x0, x1, x2⟩, rfl, k0, k1, k2⟩
structure GMean_runner where
  g : GGraph
  ins : List GMean_point × List (Arr2 (List GItem))
  past : List Int × List (List GCount)
  bags : List GMean_point × List (List GItem)
  work : Int
  most : Int
  outs : List GOut
  e : Int
structure GProg_machine where
  r : GRec
  stack : List Int
  out : List GRec
  at_ : Int
  bad : Int
instance : Row GProg_machine := ⟨6, fun x => [.v (.int .i64 x.r.K), .v (.int .i64 x.r.V), .sl 1 (enc x.stack), .sl 2 (enc x.out), .v (.int .i64 x.at_), .v (.int .i64 x.bad)]⟩
@[go_sem] theorem j1k (x : GProg_machine) : Row.row x = [.v (.int .i64 x.r.K), .v (.int .i64 x.r.V), .sl 1 (enc x.stack), .sl 2 (enc x.out), .v (.int .i64 x.at_), .v (.int .i64 x.bad)] := rfl
@[go_sem] theorem j26 : Row.sz GProg_machine = 6 := rfl
instance : Dat GProg_machine where
  ct := Dat.ct GRec ++ (Dat.ct (List Int) ++ (Dat.ct (List GRec) ++ (Dat.ct Int ++ (Dat.ct Int))))
  ok x := Dat.ok x.r ∧ Dat.ok x.stack ∧ Dat.ok x.out ∧ Dat.ok x.at_ ∧ Dat.ok x.bad
  len := rfl
  of avs h := by
    obtain ⟨b0, r0, rfl, h0, g0⟩ := q0g h; obtain ⟨b1, r1, rfl, h1, g1⟩ := q0g g0; obtain ⟨b2, r2, rfl, h2, g2⟩ := q0g g1; obtain ⟨b3, r3, rfl, h3, g3⟩ := q0g g2; obtain ⟨x0, rfl, k0⟩ := Dat.of (α := GRec) _ h0; obtain ⟨x1, rfl, k1⟩ := Dat.of (α := List Int) _ h1; obtain ⟨x2, rfl, k2⟩ := Dat.of (α := List GRec) _ h2; obtain ⟨x3, rfl, k3⟩ := Dat.of (α := Int) _ h3; obtain ⟨x4, rfl, k4⟩ := Dat.of (α := Int) _ g3; exact ⟨⟨x0, x1, x2, x3, x4⟩, rfl, k0, k1, k2, k3, k4⟩
structure GOps_maker where
  out : List GItem
  many : Int
instance : Row GOps_maker := ⟨2, fun x => [.sl 3 (enc x.out), .v (.int .i64 x.many)]⟩
@[go_sem] theorem j58 (x : GOps_maker) : Row.row x = [.sl 3 (enc x.out), .v (.int .i64 x.many)] := rfl
@[go_sem] theorem j6b : Row.sz GOps_maker = 2 := rfl
instance : Dat GOps_maker where
  ct := Dat.ct (List GItem) ++ (Dat.ct Int)
  ok x := Dat.ok x.out ∧ Dat.ok x.many
  len := rfl
  of avs h := by
    obtain ⟨b0, r0, rfl, h0, g0⟩ := q0g h; obtain ⟨x0, rfl, k0⟩ := Dat.of (α := List GItem) _ h0; obtain ⟨x1, rfl, k1⟩ := Dat.of (α := Int) _ g0; exact ⟨⟨x0, x1⟩, rfl, k0, k1⟩
structure GOps_wide where
  hi : Int
  lo : Nu64
instance : Row GOps_wide := ⟨2, fun x => [.v (.int .i64 x.hi), .v (.int .u64 x.lo.n)]⟩
@[go_sem] theorem j6c (x : GOps_wide) : Row.row x = [.v (.int .i64 x.hi), .v (.int .u64 x.lo.n)] := rfl
@[go_sem] theorem j6p : Row.sz GOps_wide = 2 := rfl
instance : Dat GOps_wide where
  ct := Dat.ct Int ++ (Dat.ct Nu64)
  ok x := Dat.ok x.hi ∧ Dat.ok x.lo
  len := rfl
  of avs h := by
    obtain ⟨b0, r0, rfl, h0, g0⟩ := q0g h; obtain ⟨x0, rfl, k0⟩ := Dat.of (α := Int) _ h0; obtain ⟨x1, rfl, k1⟩ := Dat.of (α := Nu64) _ g0; exact ⟨⟨x0, x1⟩, rfl, k0, k1⟩
instance : Key GMean_point where
  kv x := .agg ⟨[.int .i64 x.node, .int .i64 x.time.D, .int .i64 x.time.C.a0, .int .i64 x.time.C.a1, .int .i64 x.time.C.a2, .int .i64 x.time.C.a3]⟩
  keq a b := (a.node == b.node) && (a.time.D == b.time.D) && (a.time.C.a0 == b.time.C.a0) && (a.time.C.a1 == b.time.C.a1) && (a.time.C.a2 == b.time.C.a2) && (a.time.C.a3 == b.time.C.a3)
  keq_iff := by
    intro a b; obtain ⟨a1, ⟨a2, ⟨a3, a4, a5, a6⟩⟩⟩ := a; obtain ⟨b1, ⟨b2, ⟨b3, b4, b5, b6⟩⟩⟩ := b
    constructor
    · intro h; simp only [Bool.and_eq_true, beq_iff_eq] at h; simp [h]
    · intro h; cases h; simp
  okb a := (Key.okb a.node) && (Key.okb a.time.D) && (Key.okb a.time.C.a0) && (Key.okb a.time.C.a1) && (Key.okb a.time.C.a2) && (Key.okb a.time.C.a3)
  inj := by
    intro a b h; obtain ⟨a1, ⟨a2, ⟨a3, a4, a5, a6⟩⟩⟩ := a; obtain ⟨b1, ⟨b2, ⟨b3, b4, b5, b6⟩⟩⟩ := b; simp at h; simp [h]
theorem j2z : laidOutB pp = true := by kernel_rfl
theorem z0z : Go.Maps.Keyed pp 3 := Go.Maps.int_keyed (q := .i64) (by kernel_rfl)
theorem j0m (p : Int) (h : Key.okb p = true) : ∃ l, keyOf pp 3 (Key.kv p) = some l := keyOf_i64 (by kernel_rfl) h
theorem q4a : Go.Maps.Keyed pp 78 := Go.Maps.Keyed.of_law (deep_law_laid j2z (m := 6) (by omega) (of_decide_eq_true (by kernel_rfl)) (by kernel_rfl) (by kernel_rfl))
theorem z0x (p : GMean_point) (h : Key.okb p = true) : ∃ l, keyOf pp 78 (Key.kv p) = some l := by
  obtain ⟨a1, ⟨a2, ⟨a3, a4, a5, a6⟩⟩⟩ := p; replace h : (Key.okb a1 && Key.okb a2 && Key.okb a3 && Key.okb a4 && Key.okb a5 && Key.okb a6) = true := h; simp only [Bool.and_eq_true] at h; obtain ⟨⟨⟨⟨⟨h1, h2⟩, h3⟩, h4⟩, h5⟩, h6⟩ := h; exact zu7 (by rw [Tryz.underlying78]) (by kernel_rfl) (by kernel_rfl) (by kernel_rfl) (by kernel_rfl) (List.forall_mem_cons.2 ⟨qw7 h1, List.forall_mem_cons.2 ⟨qw7 h2, List.forall_mem_cons.2 ⟨qw7 h3, List.forall_mem_cons.2 ⟨qw7 h4, List.forall_mem_cons.2 ⟨qw7 h5, List.forall_mem_cons.2 ⟨qw7 h6, fun _ h => nomatch h⟩⟩⟩⟩⟩⟩)
@[go_sem] theorem j9y : EqT pp 45 [some .i64, some .i64, some .i64, some .i64] := j7z (by kernel_rfl) (by kernel_rfl) (by kernel_rfl)
attribute [go_sem] Tryz.ntmps3 Tryz.results3 Tryz.ntmps4 Tryz.results4 Tryz.ntmps5 Tryz.results5 Tryz.ntmps6 Tryz.results6 Tryz.ntmps7 Tryz.results7 Tryz.ntmps8 Tryz.results8 Tryz.ntmps9 Tryz.results9 Tryz.ntmps10 Tryz.results10 Tryz.ntmps11 Tryz.results11 Tryz.ntmps12 Tryz.results12 Tryz.ntmps13 Tryz.results13 Tryz.ntmps14 Tryz.results14 Tryz.ntmps15 Tryz.results15 Tryz.ntmps16 Tryz.results16 Tryz.ntmps17 Tryz.results17 Tryz.ntmps18 Tryz.results18 Tryz.ntmps19 Tryz.results19 Tryz.ntmps20 Tryz.results20 Tryz.ntmps21 Tryz.results21 Tryz.ntmps22 Tryz.results22 Tryz.ntmps23 Tryz.results23 Tryz.ntmps24 Tryz.results24 Tryz.ntmps25 Tryz.results25 Tryz.ntmps26 Tryz.results26 Tryz.ntmps29 Tryz.results29 Tryz.ntmps30 Tryz.results30 Tryz.ntmps31 Tryz.results31 Tryz.ntmps32 Tryz.results32 Tryz.ntmps33 Tryz.results33 Tryz.ntmps34 Tryz.results34 Tryz.ntmps35 Tryz.results35 Tryz.ntmps36 Tryz.results36 Tryz.ntmps37 Tryz.results37 Tryz.ntmps38 Tryz.results38 Tryz.ntmps39 Tryz.results39 Tryz.ntmps40 Tryz.results40 Tryz.ntmps41 Tryz.results41 Tryz.ntmps53 Tryz.results53 Tryz.ntmps54 Tryz.results54 Tryz.ntmps55 Tryz.results55 Tryz.ntmps56 Tryz.results56 Tryz.ntmps57 Tryz.results57 Tryz.ntmps58 Tryz.results58 Tryz.ntmps59 Tryz.results59 Tryz.ntmps60 Tryz.results60 Tryz.ntmps61 Tryz.results61 Tryz.ntmps62 Tryz.results62 Tryz.ntmps63 Tryz.results63 Tryz.ntmps64 Tryz.results64 Tryz.ntmps65 Tryz.results65 Tryz.ntmps66 Tryz.results66 Tryz.ntmps67 Tryz.results67 Tryz.ntmps68 Tryz.results68 Tryz.ntmps69 Tryz.results69 Tryz.ntmps70 Tryz.results70 Tryz.ntmps71 Tryz.results71 Tryz.ntmps72 Tryz.results72 Tryz.ntmps73 Tryz.results73 Tryz.ntmps74 Tryz.results74 Tryz.ntmps75 Tryz.results75 Tryz.ntmps76 Tryz.results76 Tryz.ntmps77 Tryz.results77 Tryz.ntmps83 Tryz.results83 Tryz.ntmps84 Tryz.results84 Tryz.ntmps85 Tryz.results85 Tryz.ntmps86 Tryz.results86 Tryz.ntmps87 Tryz.results87 Tryz.ntmps88 Tryz.results88 Tryz.ntmps89 Tryz.results89 Tryz.ntmps90 Tryz.results90 Tryz.ntmps91 Tryz.results91 Tryz.ntmps92 Tryz.results92 Tryz.ntmps93 Tryz.results93 Tryz.ntmps94 Tryz.results94 Tryz.ntmps95 Tryz.results95 Tryz.ntmps96 Tryz.results96 Tryz.ntmps97 Tryz.results97 Tryz.ntmps98 Tryz.results98 Tryz.ntmps99 Tryz.results99 Tryz.ntmps100 Tryz.results100 Tryz.ntmps101 Tryz.results101 Tryz.ntmps102 Tryz.results102 Tryz.ntmps103 Tryz.results103 Tryz.ntmps104 Tryz.results104 Tryz.ntmps105 Tryz.results105 Tryz.ntmps107 Tryz.results107 Tryz.ntmps108 Tryz.results108 Tryz.ntmps109 Tryz.results109 Tryz.ntmps110 Tryz.results110 Tryz.ntmps111 Tryz.results111 Tryz.ntmps112 Tryz.results112 Tryz.ntmps113 Tryz.results113 Tryz.ntmps114 Tryz.results114 Tryz.ntmps115 Tryz.results115 Tryz.ntmps116 Tryz.results116 Tryz.ntmps117 Tryz.results117 Tryz.ntmps118 Tryz.results118 Tryz.ntmps119 Tryz.results119 Tryz.ntmps120 Tryz.results120 Tryz.ntmps121 Tryz.results121 Tryz.ntmps124 Tryz.results124 Tryz.ntmps125 Tryz.results125 Tryz.ntmps126 Tryz.results126 Tryz.ntmps127 Tryz.results127 Tryz.ntmps128 Tryz.results128 Tryz.ntmps129 Tryz.results129 Tryz.ntmps131 Tryz.results131 Tryz.ntmps135 Tryz.results135 Tryz.ntmps136 Tryz.results136 Tryz.ntmps137 Tryz.results137 Tryz.ntmps138 Tryz.results138 Tryz.ntmps139 Tryz.results139 Tryz.ntmps140 Tryz.results140 Tryz.ntmps141 Tryz.results141
def q8g (i_0 : Int) : Option Int :=
 (if (i_0 == 0) = true then some 1048576
 else some 64)
instance z5o (i_0 : Int) : Ct pp 83 (q8g i_0) [.v (.int .i64 i_0)] fun r => (.v (.int .i64 r)) := ctI Tryz.func83 rfl (by rw [q8g]; exact au1)
def qk6 (t_0 : GTime) (rec_1 : Int → Option Bool) : Int → Option Bool :=
 fun t15_1 =>
 (if (decide (t15_1 < 4)) = true then q9 (idx ([t_0.C.a0, t_0.C.a1, t_0.C.a2, t_0.C.a3] : List Int) t15_1) (fun xv_1 =>
 (if (decide (xv_1 < 0)) = true then some false
 else (if (decide (t15_1 < t_0.D)) = true then q9 (q8g t15_1) (fun v_2 =>
 (if ((decide (v_2 < xv_1)) || ((decide (t_0.D ≤ t15_1)) && (!(xv_1 == 0)))) = true then some false
 else rec_1 (i64.wrap (t15_1 + 1))))
 else (if ((decide (t_0.D ≤ t15_1)) && (!(xv_1 == 0))) = true then some false
 else rec_1 (i64.wrap (t15_1 + 1))))))
 else some true)
def q6m (t_0 : GTime) : Option Bool :=
 (if ((decide (t_0.D < 1)) || (decide (4 < t_0.D))) = true then some false
 else d9 (qk6 t_0) rounds 0)
instance za3 (t_0 : GTime) : Ct pp 55 (q6m t_0) [.agg (Row.row t_0)] fun r => (.v (.bool r)) := ctK Tryz.func55 rfl (by rw [q6m]) (by
 intro r h F; refine sM ?_; refine sg fun _ Q2 => ?_; refine sM ?_; refine sB h (fun _ h => ?_) fun _ h => ?_
 · exact au
 ·
  refine y7 (q8 Q2 (jg fun _ Q5 => ?_)); refine sM ?_; refine w9 fun _ Q7 => ?_; refine q0n h [1, 14] (fun t15_1 => ([(15, .v (.int .i64 t15_1))], [(0, .box (Row.row t_0))])) 1 ?_; rintro m_1 t15_1 h _ Q8; rw [qk6] at h; refine sM ?_; refine sg fun _ Q10 => ?_; refine sB h (fun _ h => ?_) fun _ h => ?_
  · refine y7 (q8 Q10 (sg fun _ Q11 => ?_)); refine w9 fun _ Q12 => ?_; refine sg fun _ Q13 => ?_; obtain ⟨xv_1, ex1, h⟩ := z8 h; obtain ⟨f1a, f1b, f1c, fxv_1d⟩ := j0q (f := (fun y => AV.v (.int .i64 y))) ex1; simp only [List.cons_append, List.nil_append, List.append_nil, List.map_cons, List.map_nil, List.length_cons, List.length_nil, Nat.zero_add, Nat.reduceAdd, q67] at f1b f1c fxv_1d; simp only [go_sem, f1a, f1b, f1c, fxv_1d]; refine ai ?_; refine ai ?_; simp only [List.getD_eq_getElem?_getD, Nat.mul_one, fxv_1d, Option.map_some, Option.getD_some, true_and]; exact au
  · exact au)
def z05 (a_0 : GTime) (b_0 : GTime) : Option Bool :=
 q9 (q6m a_0) (fun v_0 =>
 (if v_0 = true then q9 (q6m b_0) (fun v_1 =>
 some (v_1 && (a_0.D == b_0.D)))
 else some false))
instance j7e (a_0 : GTime) (b_0 : GTime) : Ct pp 107 (z05 a_0 b_0) [.agg (Row.row a_0), .agg (Row.row b_0)] fun r => (.v (.bool r)) := ctI Tryz.func107 rfl (by rw [z05]; exact au1)
def qw1 (a_0 : GTime) (b_0 : GTime) (rec_1 : Int → Option Bool) : Int → Option Bool :=
 fun t10_1 =>
 (if (decide (t10_1 < 4)) = true then p9 (0 ≤ t10_1 ∧ t10_1 < 4) (
 q9 (idx ([a_0.C.a0, a_0.C.a1, a_0.C.a2, a_0.C.a3] : List Int) t10_1) (fun xv_2 =>
 p9 (0 ≤ t10_1 ∧ t10_1 < 4) (
 q9 (idx ([b_0.C.a0, b_0.C.a1, b_0.C.a2, b_0.C.a3] : List Int) t10_1) (fun xv_3 =>
 (if (decide (xv_3 < xv_2)) = true then some false
 else rec_1 (i64.wrap (t10_1 + 1)))))))
 else some true)
def z10 (a_0 : GTime) (b_0 : GTime) : Option Bool :=
 q9 (z05 a_0 b_0) (fun v_0 =>
 (if (!v_0) = true then some false
 else d9 (qw1 a_0 b_0) rounds 0))
instance zv4 (a_0 : GTime) (b_0 : GTime) : Ct pp 84 (z10 a_0 b_0) [.agg (Row.row a_0), .agg (Row.row b_0)] fun r => (.v (.bool r)) := ctK Tryz.func84 rfl (by rw [z10]) (by
 intro r h F; refine sM ?_; refine sg fun _ Q2 => ?_; refine sg fun _ Q3 => ?_; simp only [go_sem]; refine q5u h fun v_0 h => ?_; simp only [go_sem]; refine q8 Q3 (sB h (fun _ h => ?_) fun _ h => ?_)
 · exact au
 ·
  refine y7 (q8 Q2 (jg fun _ Q5 => ?_)); refine sM ?_; refine w9 fun _ Q7 => ?_; refine q0n h [2, 3] (fun t10_1 => ([(10, .v (.int .i64 t10_1))], [(0, .box (Row.row a_0)), (1, .box (Row.row b_0))])) 2 ?_; rintro m_1 t10_1 h _ Q8; rw [qw1] at h; refine sM ?_; refine sg fun _ Q10 => ?_; refine sB h (fun _ h => ?_) fun _ h => ?_
  · refine y7 (q8 Q10 (sg fun _ Q11 => ?_)); refine w9 fun _ Q12 => ?_; refine sM ?_; refine sg fun _ Q14 => ?_; refine q07 ?_; refine j8g ?_; obtain ⟨F, h⟩ := bG F h; obtain ⟨xv_2, ex2, h⟩ := z8 h; obtain ⟨f2a, f2b, f2c, fxv_2d⟩ := qr1 (f := (fun y => AV.v (.int .i64 y))) [.v (.int .i64 a_0.D)] [] ex2; simp only [List.cons_append, List.nil_append, List.append_nil, List.map_cons, List.map_nil, List.length_cons, List.length_nil, Nat.zero_add, Nat.reduceAdd, q67] at f2b f2c fxv_2d; obtain ⟨F, h⟩ := bG F h; obtain ⟨xv_3, ex3, h⟩ := z8 h; obtain ⟨f3a, f3b, f3c, fxv_3d⟩ := qr1 (f := (fun y => AV.v (.int .i64 y))) [.v (.int .i64 b_0.D)] [] ex3; simp only [List.cons_append, List.nil_append, List.append_nil, List.map_cons, List.map_nil, List.length_cons, List.length_nil, Nat.zero_add, Nat.reduceAdd, q67] at f3b f3c fxv_3d; simp only [go_sem, f2a, f2b, f2c, fxv_2d, f3a, f3b, f3c, fxv_3d, F]; refine ai ?_; refine ai ?_; simp only [List.getD_eq_getElem?_getD, Nat.mul_one, fxv_2d, Option.map_some, Option.getD_some, true_and, List.getD_eq_getElem?_getD, Nat.mul_one, fxv_3d, Option.map_some, Option.getD_some, true_and]; exact au
  · exact au)
def q2m (nv_0 : Int) (size_0 : Int) : Option Bool :=
 some ((decide (0 ≤ nv_0)) && (decide (nv_0 < size_0)))
instance j1l (nv_0 : Int) (size_0 : Int) : Ct pp 63 (q2m nv_0 size_0) [.v (.int .i64 nv_0), .v (.int .i64 size_0)] fun r => (.v (.bool r)) := ctI Tryz.func63 rfl (by rw [q2m]; exact au1)
def ql9 (g_0 : GGraph) (rec_1 : Int × Int → Option Int) : Int × Int → Option Int :=
 fun (d_1, s_1) =>
 q9 (q2m s_1 (g_0.Parent.length : Int)) (fun v_2 =>
 (if (v_2 && (decide (d_1 ≤ 8))) = true then q9 (idx g_0.Parent s_1) (fun xv_2 =>
 rec_1 (i64.wrap (d_1 + 1), xv_2))
 else some d_1))
def qk5 (g_0 : GGraph) (scope_0 : Int) : Option Int :=
 d9 (ql9 g_0) rounds (0, scope_0)
instance j3a (g_0 : GGraph) (scope_0 : Int) : Ct pp 64 (qk5 g_0 scope_0) [.agg (Row.row g_0), .v (.int .i64 scope_0)] fun r => (.v (.int .i64 r)) := ctK Tryz.func64 rfl (by rw [qk5]) (by
 intro r h F; refine sM ?_; refine sM ?_; refine jg fun _ Q3 => ?_; refine sM ?_; refine w9 fun _ Q5 => ?_; refine q0n h [2] (fun x => ([(5, .v (.int .i64 x.1)), (6, .v (.int .i64 x.2))], [(0, .box (Row.row g_0))])) 1 ?_; rintro m_1 ⟨d_1, s_1⟩ h _ Q6; rw [ql9] at h; exact au)
def qa6 (g_0 : GGraph) (s_0 : Int) : Option Bool :=
 (if (s_0 == 0) = true then q9 (idx g_0.Parent 0) (fun xv_0 =>
 (if (xv_0 == (-1)) = true then q9 (idx g_0.Bound 0) (fun xv_1 =>
 some (xv_1 == 0))
 else some false))
 else q9 (idx g_0.Parent s_0) (fun xv_2 =>
 q9 (q2m xv_2 s_0) (fun v_0 =>
 (if v_0 = true then q9 (idx g_0.Bound s_0) (fun xv_3 =>
 (if (decide (1 ≤ xv_3)) = true then (if (decide (xv_3 ≤ 64)) = true then q9 (qk5 g_0 s_0) (fun v_1 =>
 some (decide (v_1 ≤ 4)))
 else some false)
 else some false))
 else some false))))
instance j35 (g_0 : GGraph) (s_0 : Int) : Ct pp 35 (qa6 g_0 s_0) [.agg (Row.row g_0), .v (.int .i64 s_0)] fun r => (.v (.bool r)) := ctI Tryz.func35 rfl (by rw [qa6]; exact au1)
def qb3 (s_0 : List GNode) (f_0 : GNode → Option Bool) (rec_1 : Int → Option Int) : Int → Option Int :=
 fun t8_1 =>
 (if (decide (t8_1 < (s_0.length : Int))) = true then q9 (idx s_0 t8_1) (fun xv_2 =>
 q9 (f_0 xv_2) (fun v_2 =>
 (if v_2 = true then some t8_1
 else rec_1 (i64.wrap (t8_1 + 1)))))
 else some (-1))
def q89 (s_0 : List GNode) (f_0 : GNode → Option Bool) : Option Int :=
 d9 (qb3 s_0 f_0) rounds 0
theorem qu2 (s_0 : List GNode) (f_0 : GNode → Option Bool) (g_f_0 : FuncId) (c_f_0 : List AV) (F_f_0 : q0b c_f_0 = true) (E_f_0 : p8 pp g_f_0 = true) (H_f_0 : ∀ (x0 : GNode) (r : Bool), f_0 x0 = some r → PureS pp g_f_0 ([.agg (Row.row x0)] ++ c_f_0) 0 (.v (.bool r))) (r : Int) (h : q89 s_0 f_0 = some r) : PureS pp 118 [.sl 4 (enc s_0), .clo g_f_0 c_f_0] 0 (.v (.int .i64 r)) := by
 refine ptI Tryz.func118 rfl ?_; rw [q89] at h; have F := trivial; refine sM ?_; refine jg fun _ Q2 => ?_; refine sM ?_; refine w9 fun _ Q4 => ?_; refine q0n h [0, 1, 7] (fun t8_1 => ([(8, .v (.int .i64 t8_1))], [])) 0 ?_; rintro m_1 t8_1 h _ Q5; rw [qb3] at h; refine sM ?_; refine sg fun _ Q7 => ?_; refine sB h (fun _ h => ?_) fun _ h => ?_
 ·
  refine y7 (q8 Q7 (sg fun _ Q8 => ?_)); refine w9 fun _ Q9 => ?_; refine sM ?_; refine sg fun _ Q11 => ?_; obtain ⟨xv_2, F, h⟩ := bI F h; obtain ⟨v_2, ev_2, h⟩ := z8 h; simp only [go_sem, E_f_0, F]; refine ai ?_; refine q99 (H_f_0 xv_2 v_2 ev_2) (by rfl) (by simp [go_sem, q0b, q0f, F_f_0]) ?_; simp only [go_sem]; refine q8 Q11 (sB h (fun _ h => ?_) fun _ h => ?_)
  · refine sM ?_; refine q02 (q0p Q9 (q15 Q8 (q2o Q5 (q0p Q4 (q15 Q2 ?_))))); simp only [go_sem]; obtain rfl := Option.some.inj h; refine q68 rfl ?_; exact leA
  · refine y7 (q04 Q9 (q8 Q8 ?_)); simp only [go_sem]; refine x9 Q5 ?_; exact nxC _ h [] leA
 · refine q0s (q23 Q7 (q0t Q5 (q0k Q4 (q8 Q2 (sM ?_))))); refine q02 ?_; simp only [go_sem]; obtain rfl := Option.some.inj h; refine q68 rfl ?_; exact leA
def q5i (s_0 : List GNode) (f_0 : GNode → Option Bool) : Option Bool :=
 q9 (q89 s_0 f_0) (fun v_0 =>
 some (decide (0 ≤ v_0)))
theorem qp9 (s_0 : List GNode) (f_0 : GNode → Option Bool) (g_f_0 : FuncId) (c_f_0 : List AV) (F_f_0 : q0b c_f_0 = true) (E_f_0 : p8 pp g_f_0 = true) (H_f_0 : ∀ (x0 : GNode) (r : Bool), f_0 x0 = some r → PureS pp g_f_0 ([.agg (Row.row x0)] ++ c_f_0) 0 (.v (.bool r))) (r : Bool) (h : q5i s_0 f_0 = some r) : PureS pp 94 [.sl 4 (enc s_0), .clo g_f_0 c_f_0] 0 (.v (.bool r)) := by
 refine ptI Tryz.func94 rfl ?_; rw [q5i] at h; have F := trivial; refine sM ?_; refine sg fun _ Q2 => ?_; obtain ⟨v_0, ev_0, h⟩ := z8 h; simp only [go_sem]; refine q99 (qu2 s_0 f_0 g_f_0 c_f_0 F_f_0 E_f_0 H_f_0 v_0 ev_0) (by rfl) (by simp [go_sem, q0b, q0f, F_f_0]) ?_; simp only [go_sem]; refine q8 Q2 (q02 ?_); simp only [go_sem]; obtain rfl := Option.some.inj h; refine q68 rfl ?_; exact leA
def q7s (xv_0 : GNode) (cap_0 : Int) : Option Bool :=
 some (xv_0.Scope == cap_0)
instance z2h (xv_0 : GNode) (cap_0 : Int) : Ct pp 95 (q7s xv_0 cap_0) [.agg (Row.row xv_0), .el 1 [[.v (.int .i64 cap_0)]] 0 0] fun r => (.v (.bool r)) := ctI Tryz.func95 rfl (by rw [q7s]; exact au1)
def q7a (g_0 : GGraph) (nv_0 : Int) (xv_0 : GNode) (fresh_2 : Bool) : Option Bool :=
 (if fresh_2 = true then p9 (0 ≤ 0 ∧ 0 ≤ nv_0 ∧ nv_0 ≤ (g_0.Nodes.length : Int)) (
 q9 (q5i (List.take (nv_0.toNat) g_0.Nodes) (fun x0_ => q7s x0_ xv_0.Scope)) (fun v_0 =>
 some (!v_0)))
 else some false)
def qj4 (g_0 : GGraph) (nv_0 : Int) (xv_0 : GNode) (xv_2 : Int) (rec_2 : Bool × Int → Option Bool) : Bool × Int → Option Bool :=
 fun (fresh_4, p_3) =>
 (if (decide (0 ≤ p_3)) = true then (if (p_3 == xv_0.Scope) = true then some true
 else q9 (idx g_0.Parent p_3) (fun xv_8 =>
 rec_2 ((fresh_4 || (p_3 == xv_2)), xv_8)))
 else q7a g_0 nv_0 xv_0 fresh_4)
def q9c (g_0 : GGraph) (nv_0 : Int) : Option Bool :=
 q9 (idx g_0.Nodes nv_0) (fun xv_0 =>
 (if (nv_0 == 0) = true then some (xv_0.Scope == 0)
 else q9 (idx g_0.Nodes (i64.wrap (nv_0 - 1))) (fun xv_1 =>
 q9 (idx g_0.Parent xv_0.Scope) (fun xv_2 =>
 d9 (qj4 g_0 nv_0 xv_0 xv_2) rounds (false, xv_1.Scope)))))
instance j1m (g_0 : GGraph) (nv_0 : Int) : Ct pp 66 (q9c g_0 nv_0) [.agg (Row.row g_0), .v (.int .i64 nv_0)] fun r => (.v (.bool r)) := ctK Tryz.func66 rfl (by rw [q9c]) (by
 intro r h F; refine sM ?_; refine sg fun _ Q2 => ?_; obtain ⟨xv_0, F, h⟩ := bI F h; simp only [go_sem, F]; refine ai ?_; refine q8 Q2 (sg fun _ Q3 => ?_); refine sM ?_; refine sB h (fun _ h => ?_) fun _ h => ?_
 · exact au
 ·
  refine y7 (q8 Q3 (sg fun _ Q6 => ?_)); obtain ⟨xv_1, F, h⟩ := bI F h; simp only [go_sem, F]; refine ai ?_; refine q8 Q6 (sg fun _ Q7 => ?_); obtain ⟨xv_2, F, h⟩ := bI F h; simp only [go_sem, F]; refine ai ?_; refine q8 Q7 (sM ?_); refine q3p (fun (fresh_2 : Bool) => q7a g_0 nv_0 xv_0 fresh_2 = some r) [1, 2, 5] (fun fresh_2 => ([(8, .v (.bool fresh_2))], [(0, .box (Row.row g_0)), (1, .box [.v (.int .i64 xv_0.Scope)])])) 2 ?_ ?_
  · intro _ Q10; refine sM ?_; refine w9 fun _ Q12 => ?_; refine q0n h [1, 2, 5, 7] (fun x => ([(8, .v (.bool x.1)), (9, .v (.int .i64 x.2))], [(0, .box (Row.row g_0)), (1, .box [.v (.int .i64 xv_0.Scope)])])) 2 ?_; rintro m_2 ⟨fresh_4, p_3⟩ h _ Q13; rw [qj4] at h; exact au
  ·
   rintro fresh_2 h
   try dsimp only at h
   rw [q7a] at h; refine sg fun _ Q9 => ?_; simp only [go_sem]; rcases hb_7 : fresh_2 with _ | _
   · replace h := q45 h hb_7; simp only [go_sem, hb_7]; exact au
   · replace h := q44 h hb_7; obtain ⟨F, h⟩ := bG F h; obtain ⟨v_0, ev_0, h⟩ := z8 h; simp only [go_sem, hb_7, F]; refine z14 (qp9 (List.take (nv_0.toNat) g_0.Nodes) (fun x0_ => q7s x0_ xv_0.Scope) 95 [.el 1 [[.v (.int .i64 xv_0.Scope)]] 0 0] (by rfl) (by kernel_rfl) (fun y0 r_ e_ => z2h y0 xv_0.Scope r_ e_) v_0 ev_0) ?_; simp only [go_sem]; exact au)
def qg3 (op_0 : Int) : Option Bool :=
 some ((op_0 == 14) || (op_0 == 15))
instance j47 (op_0 : Int) : Ct pp 96 (qg3 op_0) [.v (.int .i64 op_0)] fun r => (.v (.bool r)) := ctI Tryz.func96 rfl (by rw [qg3]; exact au1)
def q73 (p_0 : List GIns) (rec_1 : Int → Option Bool) : Int → Option Bool :=
 fun t10_1 =>
 (if (decide (t10_1 < (p_0.length : Int))) = true then q9 (idx p_0 t10_1) (fun xv_2 =>
 (if ((decide (xv_2.Op < 1)) || (decide (16 < xv_2.Op))) = true then some false
 else q9 (qg3 xv_2.Op) (fun v_2 =>
 (if v_2 = true then (if ((decide (xv_2.N < 0)) || (decide ((p_0.length : Int) < xv_2.N))) = true then some false
 else rec_1 (i64.wrap (t10_1 + 1)))
 else (if ((!(xv_2.Op == 1)) && (!(xv_2.N == 0))) = true then some false
 else rec_1 (i64.wrap (t10_1 + 1)))))))
 else some true)
def q6w (p_0 : List GIns) : Option Bool :=
 (if (decide (64 < (p_0.length : Int))) = true then some false
 else d9 (q73 p_0) rounds 0)
instance j48 (p_0 : List GIns) : Ct pp 67 (q6w p_0) [.sl 2 (enc p_0)] fun r => (.v (.bool r)) := ctK Tryz.func67 rfl (by rw [q6w]) (by
 intro r h F; refine sM ?_; refine sg fun _ Q2 => ?_; refine sM ?_; refine sB h (fun _ h => ?_) fun _ h => ?_
 · exact au
 · refine y7 (q8 Q2 (jg fun _ Q5 => ?_)); refine sM ?_; refine w9 fun _ Q7 => ?_; refine q0n h [0, 8, 9] (fun t10_1 => ([(10, .v (.int .i64 t10_1))], [])) 0 ?_; rintro m_1 t10_1 h _ Q8; rw [q73] at h; exact au)
def qh7 (kind_0 : Int) : Option (Bool × Bool) :=
 some ((((kind_0 == 10) || (kind_0 == 11)) || (kind_0 == 12)), ((kind_0 == 1) || (kind_0 == 15)))
instance j1n (kind_0 : Int) : Ct pp 65 (qh7 kind_0) [.v (.int .i64 kind_0)] fun r => (.tup [.v (.bool r.1), .v (.bool r.2)]) := ctI Tryz.func65 rfl (by rw [qh7]; exact au1)
def qf7 (g_0 : GGraph) (nv_0 : Int) : Option Int :=
 q9 (idx g_0.Nodes nv_0) (fun xv_0 =>
 q9 (qh7 xv_0.Kind) (fun v_0 =>
 (if ((decide (xv_0.Kind < 1)) || (decide (15 < xv_0.Kind))) = true then some 1
 else q9 (q2m xv_0.Scope (g_0.Parent.length : Int)) (fun v_1 =>
 (if (((!v_1) || (v_0.1 && (xv_0.Scope == 0))) || (v_0.2 && (!(xv_0.Scope == 0)))) = true then some 6
 else q9 (q9c g_0 nv_0) (fun v_2 =>
 (if (!v_2) = true then some 6
 else (if (((xv_0.Kind == 4) && (decide (xv_0.Arg < 1))) || (((!(xv_0.Kind == 4)) && (!(xv_0.Kind == 3))) && (!(xv_0.Arg == 0)))) = true then some 1
 else q9 (q6w xv_0.Prog) (fun v_3 =>
 (if ((!v_3) || ((!(xv_0.Kind == 2)) && (decide (0 < (xv_0.Prog.length : Int))))) = true then some 13
 else some 0))))))))))
instance j42 (g_0 : GGraph) (nv_0 : Int) : Ct pp 36 (qf7 g_0 nv_0) [.agg (Row.row g_0), .v (.int .i64 nv_0)] fun r => (.v (.int .i64 r)) := ctI Tryz.func36 rfl (by rw [qf7]; exact au1)
def q8f (kind_0 : Int) : Option Int :=
 (if ((kind_0 == 5) || (kind_0 == 9)) = true then some 2
 else (if ((decide (1 < kind_0)) && (decide (kind_0 ≤ 15))) = true then some 1
 else some 0))
instance j39 (kind_0 : Int) : Ct pp 68 (q8f kind_0) [.v (.int .i64 kind_0)] fun r => (.v (.int .i64 r)) := ctI Tryz.func68 rfl (by rw [q8f]; exact au1)
def qa8 (g_0 : GGraph) (xv_0 : GNode) : Option Int :=
 (if (xv_0.Kind == 11) = true then q9 (idx g_0.Parent xv_0.Scope) (fun xv_1 =>
 some xv_1)
 else some xv_0.Scope)
instance j37 (g_0 : GGraph) (xv_0 : GNode) : Ct pp 69 (qa8 g_0 xv_0) [.agg (Row.row g_0), .agg (Row.row xv_0)] fun r => (.v (.int .i64 r)) := ctI Tryz.func69 rfl (by rw [qa8]; exact au1)
def qa5 (g_0 : GGraph) (xv_0 : GNode) : Option Int :=
 (if (xv_0.Kind == 10) = true then q9 (idx g_0.Parent xv_0.Scope) (fun xv_1 =>
 some xv_1)
 else some xv_0.Scope)
instance j34 (g_0 : GGraph) (xv_0 : GNode) : Ct pp 70 (qa5 g_0 xv_0) [.agg (Row.row g_0), .agg (Row.row xv_0)] fun r => (.v (.int .i64 r)) := ctI Tryz.func70 rfl (by rw [qa5]; exact au1)
def qa7 (kind_0 : Int) : Option Bool :=
 some (((decide (6 ≤ kind_0)) && (decide (kind_0 ≤ 9))) || (kind_0 == 14))
instance j36 (kind_0 : Int) : Ct pp 71 (qa7 kind_0) [.v (.int .i64 kind_0)] fun r => (.v (.bool r)) := ctI Tryz.func71 rfl (by rw [qa7]; exact au1)
def qb5 (s_0 : List GEdge) (f_0 : GEdge → Option Bool) (rec_1 : Int → Option Int) : Int → Option Int :=
 fun t8_1 =>
 (if (decide (t8_1 < (s_0.length : Int))) = true then q9 (idx s_0 t8_1) (fun xv_2 =>
 q9 (f_0 xv_2) (fun v_2 =>
 (if v_2 = true then some t8_1
 else rec_1 (i64.wrap (t8_1 + 1)))))
 else some (-1))
def q8b (s_0 : List GEdge) (f_0 : GEdge → Option Bool) : Option Int :=
 d9 (qb5 s_0 f_0) rounds 0
theorem qu4 (s_0 : List GEdge) (f_0 : GEdge → Option Bool) (g_f_0 : FuncId) (c_f_0 : List AV) (F_f_0 : q0b c_f_0 = true) (E_f_0 : p8 pp g_f_0 = true) (H_f_0 : ∀ (x0 : GEdge) (r : Bool), f_0 x0 = some r → PureS pp g_f_0 ([.agg (Row.row x0)] ++ c_f_0) 0 (.v (.bool r))) (r : Int) (h : q8b s_0 f_0 = some r) : PureS pp 119 [.sl 4 (enc s_0), .clo g_f_0 c_f_0] 0 (.v (.int .i64 r)) := by
 refine ptI Tryz.func119 rfl ?_; rw [q8b] at h; have F := trivial; refine sM ?_; refine jg fun _ Q2 => ?_; refine sM ?_; refine w9 fun _ Q4 => ?_; refine q0n h [0, 1, 7] (fun t8_1 => ([(8, .v (.int .i64 t8_1))], [])) 0 ?_; rintro m_1 t8_1 h _ Q5; rw [qb5] at h; refine sM ?_; refine sg fun _ Q7 => ?_; refine sB h (fun _ h => ?_) fun _ h => ?_
 ·
  refine y7 (q8 Q7 (sg fun _ Q8 => ?_)); refine w9 fun _ Q9 => ?_; refine sM ?_; refine sg fun _ Q11 => ?_; obtain ⟨xv_2, F, h⟩ := bI F h; obtain ⟨v_2, ev_2, h⟩ := z8 h; simp only [go_sem, E_f_0, F]; refine ai ?_; refine q99 (H_f_0 xv_2 v_2 ev_2) (by rfl) (by simp [go_sem, q0b, q0f, F_f_0]) ?_; simp only [go_sem]; refine q8 Q11 (sB h (fun _ h => ?_) fun _ h => ?_)
  · refine sM ?_; refine q02 (q0p Q9 (q15 Q8 (q2o Q5 (q0p Q4 (q15 Q2 ?_))))); simp only [go_sem]; obtain rfl := Option.some.inj h; refine q68 rfl ?_; exact leA
  · refine y7 (q04 Q9 (q8 Q8 ?_)); simp only [go_sem]; refine x9 Q5 ?_; exact nxC _ h [] leA
 · refine q0s (q23 Q7 (q0t Q5 (q0k Q4 (q8 Q2 (sM ?_))))); refine q02 ?_; simp only [go_sem]; obtain rfl := Option.some.inj h; refine q68 rfl ?_; exact leA
def q5k (s_0 : List GEdge) (f_0 : GEdge → Option Bool) : Option Bool :=
 q9 (q8b s_0 f_0) (fun v_0 =>
 some (decide (0 ≤ v_0)))
theorem qq1 (s_0 : List GEdge) (f_0 : GEdge → Option Bool) (g_f_0 : FuncId) (c_f_0 : List AV) (F_f_0 : q0b c_f_0 = true) (E_f_0 : p8 pp g_f_0 = true) (H_f_0 : ∀ (x0 : GEdge) (r : Bool), f_0 x0 = some r → PureS pp g_f_0 ([.agg (Row.row x0)] ++ c_f_0) 0 (.v (.bool r))) (r : Bool) (h : q5k s_0 f_0 = some r) : PureS pp 97 [.sl 4 (enc s_0), .clo g_f_0 c_f_0] 0 (.v (.bool r)) := by
 refine ptI Tryz.func97 rfl ?_; rw [q5k] at h; have F := trivial; refine sM ?_; refine sg fun _ Q2 => ?_; obtain ⟨v_0, ev_0, h⟩ := z8 h; simp only [go_sem]; refine q99 (qu4 s_0 f_0 g_f_0 c_f_0 F_f_0 E_f_0 H_f_0 v_0 ev_0) (by rfl) (by simp [go_sem, q0b, q0f, F_f_0]) ?_; simp only [go_sem]; refine q8 Q2 (q02 ?_); simp only [go_sem]; obtain rfl := Option.some.inj h; refine q68 rfl ?_; exact leA
def qa9 (e_0 : GEdge) (cap_0 : Int) (cap_1 : Int) : Option Bool :=
 some ((e_0.To == cap_0) && (e_0.Port == cap_1))
instance z5n (e_0 : GEdge) (cap_0 : Int) (cap_1 : Int) : Ct pp 98 (qa9 e_0 cap_0 cap_1) [.agg (Row.row e_0), .el 1 [[.v (.int .i64 cap_0)]] 0 0, .el 1 [[.v (.int .i64 cap_1)]] 0 0] fun r => (.v (.bool r)) := ctI Tryz.func98 rfl (by rw [qa9]; exact au1)
def qd0 (l_0 : List GEdge) (node_0 : Int) (port_0 : Int) : Option Bool :=
 q9 (q5k l_0 (fun x0_ => qa9 x0_ node_0 port_0)) (fun v_0 =>
 some v_0)
instance j5o (l_0 : List GEdge) (node_0 : Int) (port_0 : Int) : Ct pp 72 (qd0 l_0 node_0 port_0) [.sl 4 (enc l_0), .v (.int .i64 node_0), .v (.int .i64 port_0)] fun r => (.v (.bool r)) := ctK Tryz.func72 rfl (by rw [qd0]) (by
 intro r h F; refine sM ?_; refine sg fun _ Q2 => ?_; obtain ⟨v_0, ev_0, h⟩ := z8 h; simp only [go_sem]; refine z14 (qq1 l_0 (fun x0_ => qa9 x0_ node_0 port_0) 98 [.el 1 [[.v (.int .i64 node_0)]] 0 0, .el 1 [[.v (.int .i64 port_0)]] 0 0] (by rfl) (by kernel_rfl) (fun y0 r_ e_ => z5n y0 node_0 port_0 r_ e_) v_0 ev_0) ?_; simp only [go_sem]; exact au)
def qf9 (g_0 : GGraph) (nv_0 : Int) : Option Int :=
 q9 (idx g_0.Edges nv_0) (fun xv_0 =>
 q9 (q2m xv_0.From (g_0.Nodes.length : Int)) (fun v_0 =>
 (if v_0 = true then q9 (q2m xv_0.To (g_0.Nodes.length : Int)) (fun v_1 =>
 (if (!v_1) = true then some 7
 else q9 (idx g_0.Nodes xv_0.From) (fun xv_1 =>
 q9 (idx g_0.Nodes xv_0.To) (fun xv_2 =>
 (if (xv_1.Kind == 15) = true then some 7
 else q9 (q8f xv_2.Kind) (fun v_2 =>
 q9 (q2m xv_0.Port v_2) (fun v_3 =>
 (if (!v_3) = true then some 7
 else q9 (qa8 g_0 xv_1) (fun v_4 =>
 q9 (qa5 g_0 xv_2) (fun v_5 =>
 (if (!(v_4 == v_5)) = true then some 6
 else (if ((decide (xv_0.To ≤ xv_0.From)) && (!(xv_1.Kind == 12))) = true then some 8
 else q9 (qa7 xv_2.Kind) (fun v_6 =>
 (if (v_6 && (!xv_0.Exchange)) = true then some 1
 else p9 (0 ≤ 0 ∧ 0 ≤ nv_0 ∧ nv_0 ≤ (g_0.Edges.length : Int)) (
 q9 (qd0 (List.take (nv_0.toNat) g_0.Edges) xv_0.To xv_0.Port) (fun v_7 =>
 (if v_7 = true then some 7
 else some 0)))))))))))))))))
 else some 7)))
instance j44 (g_0 : GGraph) (nv_0 : Int) : Ct pp 37 (qf9 g_0 nv_0) [.agg (Row.row g_0), .v (.int .i64 nv_0)] fun r => (.v (.int .i64 r)) := ctK Tryz.func37 rfl (by rw [qf9]) (by
 intro r h F; refine sM ?_; refine sg fun _ Q2 => ?_; obtain ⟨xv_0, F, h⟩ := bI F h; simp only [go_sem, F]; refine ai ?_; refine q8 Q2 (sg fun _ Q3 => ?_); refine sg fun _ Q4 => ?_; simp only [go_sem]; refine q5u h fun v_0 h => ?_; simp only [go_sem]; rcases hb_0 : v_0 with _ | _
 · replace h := q45 h hb_0; simp only [go_sem, hb_0]; exact au
 ·
  replace h := q44 h hb_0; simp only [go_sem, hb_0]; refine q5u h fun v_1 h => ?_; simp only [go_sem]; refine q8 Q4 (sB h (fun _ h => ?_) fun _ h => ?_)
  · exact au
  · refine y7 (q8 Q3 (sg fun _ Q7 => ?_)); refine q07 ?_; refine q3g 15 0 14 [0, 1, 0, 4, 15, 31, 0, 64, 0, 256, 960, 1984, 0, 0, 12351, 32767] [2, 3] [0, 1, 2, 3, 4, 5, 6, 7, 8, 9, 10, 11] [] [14] [12, 13] mixed (by kernel_rfl) (of_decide_eq_true (by kernel_rfl)) (by kernel_rfl) (by kernel_rfl) (by rfl) ?_; obtain ⟨xv_1, F, h⟩ := bI F h; obtain ⟨xv_2, F, h⟩ := bI F h; simp only [go_sem, F]; refine ai ?_; refine ai ?_; exact au)
def qd7 (g_0 : GGraph) (nv_0 : Int) (v_0 : Int) (rec_1 : Int → Option Bool) : Int → Option Bool :=
 fun t13_1 =>
 (if (decide (t13_1 < v_0)) = true then q9 (qd0 g_0.Edges nv_0 t13_1) (fun v_3 =>
 (if (!v_3) = true then some false
 else rec_1 (i64.wrap (t13_1 + 1))))
 else some true)
def qf8 (g_0 : GGraph) (nv_0 : Int) : Option Bool :=
 q9 (idx g_0.Nodes nv_0) (fun xv_0 =>
 q9 (q8f xv_0.Kind) (fun v_0 =>
 d9 (qd7 g_0 nv_0 v_0) rounds 0))
instance j43 (g_0 : GGraph) (nv_0 : Int) : Ct pp 38 (qf8 g_0 nv_0) [.agg (Row.row g_0), .v (.int .i64 nv_0)] fun r => (.v (.bool r)) := ctK Tryz.func38 rfl (by rw [qf8]) (by
 intro r h F; refine sM ?_; refine jg fun _ Q2 => ?_; refine sg fun _ Q3 => ?_; obtain ⟨xv_0, F, h⟩ := bI F h; simp only [go_sem, F]; refine ai ?_; refine q5u h fun v_0 h => ?_; simp only [go_sem]; refine q8 Q3 (w9 fun _ Q4 => ?_); refine q0n h [1, 2, 12] (fun t13_1 => ([(13, .v (.int .i64 t13_1))], [(0, .box (Row.row g_0))])) 1 ?_; rintro m_1 t13_1 h _ Q5; rw [qd7] at h; exact au)
def ql8 (g_0 : GGraph) (s_0 : Int) (rec_1 : Int → Option Bool) : Int → Option Bool :=
 fun p_1 =>
 (if (decide (0 ≤ p_1)) = true then (if (p_1 == s_0) = true then some true
 else q9 (idx g_0.Parent p_1) (fun xv_3 =>
 rec_1 xv_3))
 else some false)
def qa4 (g_0 : GGraph) (s_0 : Int) (of_0 : Int) : Option Bool :=
 q9 (idx g_0.Parent of_0) (fun xv_0 =>
 d9 (ql8 g_0 s_0) rounds xv_0)
instance j33 (g_0 : GGraph) (s_0 : Int) (of_0 : Int) : Ct pp 74 (qa4 g_0 s_0 of_0) [.agg (Row.row g_0), .v (.int .i64 s_0), .v (.int .i64 of_0)] fun r => (.v (.bool r)) := ctK Tryz.func74 rfl (by rw [qa4]) (by
 intro r h F; refine sM ?_; refine jg fun _ Q2 => ?_; refine sg fun _ Q3 => ?_; obtain ⟨xv_0, F, h⟩ := bI F h; simp only [go_sem, F]; refine ai ?_; refine q8 Q3 (w9 fun _ Q4 => ?_); refine q0n h [1, 3] (fun p_1 => ([(7, .v (.int .i64 p_1))], [(0, .box (Row.row g_0))])) 1 ?_; rintro m_1 p_1 h _ Q5; rw [ql8] at h; exact au)
def q3i (fromv_0 : Int) (cap_0 : GGraph) (self : Int → GGraph → (List Bool) → Int → Option (GGraph × (List Bool) × Int)) (rec_1 : Int × GGraph × Int × (List Bool) → Option (GGraph × (List Bool) × Int)) : Int × GGraph × Int × (List Bool) → Option (GGraph × (List Bool) × Int) :=
 fun (t12_1, b_2, b_3, a_1) =>
 (if (decide (t12_1 < (cap_0.Edges.length : Int))) = true then q9 (idx cap_0.Edges t12_1) (fun xv_6 =>
 (if (xv_6.From == fromv_0) = true then q9 (idx a_1 xv_6.To) (fun xv_7 =>
 (if xv_7 = true then rec_1 (i64.wrap (t12_1 + 1), b_2, b_3, a_1)
 else q9 (idx b_2.Nodes xv_6.To) (fun xv_8 =>
 (if (xv_8.Kind == 12) = true then q9 (qa4 b_2 xv_8.Scope b_3) (fun v_7 =>
 (if (!v_7) = true then q9 (self xv_6.To b_2 (List.set a_1 (xv_6.To.toNat) true) b_3) (fun v_8 =>
 rec_1 (i64.wrap (t12_1 + 1), v_8.1, v_8.2.2, v_8.2.1))
 else rec_1 (i64.wrap (t12_1 + 1), b_2, b_3, (List.set a_1 (xv_6.To.toNat) true))))
 else q9 (self xv_6.To b_2 (List.set a_1 (xv_6.To.toNat) true) b_3) (fun v_6 =>
 rec_1 (i64.wrap (t12_1 + 1), v_6.1, v_6.2.2, v_6.2.1))))))
 else rec_1 (i64.wrap (t12_1 + 1), b_2, b_3, a_1)))
 else some (b_2, a_1, b_3))
def q2i (self : Int → GGraph → (List Bool) → Int → Option (GGraph × (List Bool) × Int)) (fromv_0 : Int) (cap_0 : GGraph) (cap_1 : List Bool) (cap_2 : Int) : Option (GGraph × (List Bool) × Int) :=
 d9 (q3i fromv_0 cap_0 self) rounds (0, cap_0, cap_2, cap_1)
def q0y : Nat → Int → GGraph → (List Bool) → Int → Option (GGraph × (List Bool) × Int)
 | 0 => fun _ _ _ _ => none
 | n + 1 => q2i (q0y n)
def q94 (fromv_0 : Int) (cap_0 : GGraph) (cap_1 : List Bool) (cap_2 : Int) : Option (GGraph × (List Bool) × Int) := q0y rounds fromv_0 cap_0 cap_1 cap_2
theorem qh8 (self : Int → GGraph → (List Bool) → Int → Option (GGraph × (List Bool) × Int)) (Hself : ∀ (fromv_0 : Int) (cap_0 : GGraph) (cap_1 : List Bool) (cap_2 : Int)  (r : GGraph × (List Bool) × Int), self fromv_0 cap_0 cap_1 cap_2 = some r → DetS pp 73 [.v (.int .i64 fromv_0), .ptr 0 0, .ptr 1 0, .ptr 3 0, .ptr 4 0] [(0, .box (Row.row cap_0)), (1, .box [.osl 2 1 (0) (cap_1.length)]), (2, .arr 1 (enc cap_1)), (3, .box [.v (.int .i64 cap_2)]), (4, .box [.clo 73 [.ptr 0 0, .ptr 1 0, .ptr 3 0, .ptr 4 0]])] 5 (.tup []) [(0, .box (Row.row r.1)), (1, .box [.osl 5 1 (0) (r.2.1.length)]), (3, .box [.v (.int .i64 r.2.2)]), (4, .box [.clo 73 [.ptr 0 0, .ptr 1 0, .ptr 3 0, .ptr 4 0]]), (5, .arr 1 (enc r.2.1))] 6) (fromv_0 : Int) (cap_0 : GGraph) (cap_1 : List Bool) (cap_2 : Int)  (r : GGraph × (List Bool) × Int) (h : q2i self fromv_0 cap_0 cap_1 cap_2 = some r) : DetS pp 73 [.v (.int .i64 fromv_0), .ptr 0 0, .ptr 1 0, .ptr 3 0, .ptr 4 0] [(0, .box (Row.row cap_0)), (1, .box [.osl 2 1 (0) (cap_1.length)]), (2, .arr 1 (enc cap_1)), (3, .box [.v (.int .i64 cap_2)]), (4, .box [.clo 73 [.ptr 0 0, .ptr 1 0, .ptr 3 0, .ptr 4 0]])] 5 (.tup []) [(0, .box (Row.row r.1)), (1, .box [.osl 5 1 (0) (r.2.1.length)]), (3, .box [.v (.int .i64 r.2.2)]), (4, .box [.clo 73 [.ptr 0 0, .ptr 1 0, .ptr 3 0, .ptr 4 0]]), (5, .arr 1 (enc r.2.1))] 6 := by
 refine dtI Tryz.func73 rfl ?_; rw [q2i] at h; have F := trivial; refine sM ?_; refine w9 fun _ Q2 => ?_; refine q0n h [0, 1, 2, 3, 4, 10, 11] (fun x => ([(12, .v (.int .i64 x.1))], [(0, .box (Row.row x.2.1)), (1, .box [.osl 5 1 (0) (x.2.2.2.length)]), (3, .box [.v (.int .i64 x.2.2.1)]), (4, .box [.clo 73 [.ptr 0 0, .ptr 1 0, .ptr 3 0, .ptr 4 0]]), (5, .arr 1 (enc x.2.2.2))])) 6 ?_; rintro m_1 ⟨t12_1, b_2, b_3, a_1⟩ h _ Q3; rw [q3i] at h; refine sM ?_; refine sg fun _ Q5 => ?_; refine sB h (fun _ h => ?_) fun _ h => ?_
 ·
  refine y7 (q8 Q5 (jg fun _ Q6 => ?_)); refine w9 fun _ Q7 => ?_; refine sg fun _ Q8 => ?_; obtain ⟨xv_6, F, h⟩ := bI F h; simp only [go_sem, F]; refine ai ?_; refine q8 Q8 (sg fun _ Q9 => ?_); refine sg fun _ Q10 => ?_; simp only [go_sem]; rcases hb_11 : (xv_6.From == fromv_0) with _ | _
  · replace h := q45 h hb_11; simp only [go_sem, hb_11]; exact au
  ·
   replace h := q44 h hb_11; obtain ⟨xv_7, F, h⟩ := bI F h; simp only [go_sem, hb_11, F]; refine ai ?_; refine q8 Q10 (sB h (fun _ h => ?_) fun _ h => ?_)
   · exact au
   ·
    refine y7 (q8 Q9 (sg fun _ Q11 => ?_)); have rf_2 : (enc a_1).set (xv_6.To.toNat) [.v (.bool true)] = enc (List.set a_1 (xv_6.To.toNat) true) := by exact qd4 _ _ _
    simp only [go_sem, rf_2, F]; refine ai ?_; refine q8 Q11 (sg fun _ Q12 => ?_); obtain ⟨xv_8, F, h⟩ := bI F h; simp only [go_sem, F]; refine ai ?_; refine q8 Q12 (sg fun _ Q13 => ?_); simp only [go_sem]; rcases hb_13 : (xv_8.Kind == 12) with _ | _
    · replace h := q45 h hb_13; simp only [go_sem, hb_13]; refine q8 Q13 (j9z ?_); obtain ⟨v_6, ev_6, h⟩ := z8 h; simp only [go_sem]; refine q9l [0, 1, 2, 3, 4, 10, 11, 12, 21, 22, 23, 25] ([], [(0, .box (Row.row b_2)), (1, .box [.osl 5 1 (0) (List.length (List.set a_1 (xv_6.To.toNat) true))]), (3, .box [.v (.int .i64 b_3)]), (4, .box [.clo 73 [.ptr 0 0, .ptr 1 0, .ptr 3 0, .ptr 4 0]]), (5, .arr 1 (enc (List.set a_1 (xv_6.To.toNat) true))), (6, .box (Row.row xv_6)), (7, .box (Row.row xv_8))]) 8 [some 5, some 6, some 7] [.v (.int .i64 xv_6.To), .ptr 0 0, .ptr 1 0, .ptr 3 0, .ptr 4 0] ?_; refine q1o [0, 1, 5, 3, 4] (Hself xv_6.To b_2 (List.set a_1 (xv_6.To.toNat) true) b_3 v_6 ev_6) ?_; simp only [go_sem]; exact au
    ·
     replace h := q44 h hb_13; simp only [go_sem, hb_13]; refine q5u h fun v_7 h => ?_; simp only [go_sem]; refine q8 Q13 (sB h (fun _ h => ?_) fun _ h => ?_)
     · obtain ⟨v_8, ev_8, h⟩ := z8 h; simp only [go_sem]; refine q9l [0, 1, 2, 3, 4, 10, 11, 12, 21, 22, 23, 25, 41, 42, 43, 44, 45, 46] ([], [(0, .box (Row.row b_2)), (1, .box [.osl 5 1 (0) (List.length (List.set a_1 (xv_6.To.toNat) true))]), (3, .box [.v (.int .i64 b_3)]), (4, .box [.clo 73 [.ptr 0 0, .ptr 1 0, .ptr 3 0, .ptr 4 0]]), (5, .arr 1 (enc (List.set a_1 (xv_6.To.toNat) true))), (6, .box (Row.row xv_6)), (7, .box (Row.row xv_8))]) 8 [some 5, some 6, some 7] [.v (.int .i64 xv_6.To), .ptr 0 0, .ptr 1 0, .ptr 3 0, .ptr 4 0] ?_; refine q1o [0, 1, 5, 3, 4] (Hself xv_6.To b_2 (List.set a_1 (xv_6.To.toNat) true) b_3 v_8 ev_8) ?_; simp only [go_sem]; exact au
     · exact au
 · exact au
theorem q72 : ∀ (n : Nat) (fromv_0 : Int) (cap_0 : GGraph) (cap_1 : List Bool) (cap_2 : Int)  (r : GGraph × (List Bool) × Int), q0y n fromv_0 cap_0 cap_1 cap_2 = some r → DetS pp 73 [.v (.int .i64 fromv_0), .ptr 0 0, .ptr 1 0, .ptr 3 0, .ptr 4 0] [(0, .box (Row.row cap_0)), (1, .box [.osl 2 1 (0) (cap_1.length)]), (2, .arr 1 (enc cap_1)), (3, .box [.v (.int .i64 cap_2)]), (4, .box [.clo 73 [.ptr 0 0, .ptr 1 0, .ptr 3 0, .ptr 4 0]])] 5 (.tup []) [(0, .box (Row.row r.1)), (1, .box [.osl 5 1 (0) (r.2.1.length)]), (3, .box [.v (.int .i64 r.2.2)]), (4, .box [.clo 73 [.ptr 0 0, .ptr 1 0, .ptr 3 0, .ptr 4 0]]), (5, .arr 1 (enc r.2.1))] 6
  | 0, fromv_0, cap_0, cap_1, cap_2, r, h => by simp [q0y] at h
  | n + 1, fromv_0, cap_0, cap_1, cap_2, r, h => qh8 (q0y n) (q72 n) fromv_0 cap_0 cap_1 cap_2  r h
theorem qk1 (fromv_0 : Int) (cap_0 : GGraph) (cap_1 : List Bool) (cap_2 : Int)  (r : GGraph × (List Bool) × Int) (h : q94 fromv_0 cap_0 cap_1 cap_2 = some r) : DetS pp 73 [.v (.int .i64 fromv_0), .ptr 0 0, .ptr 1 0, .ptr 3 0, .ptr 4 0] [(0, .box (Row.row cap_0)), (1, .box [.osl 2 1 (0) (cap_1.length)]), (2, .arr 1 (enc cap_1)), (3, .box [.v (.int .i64 cap_2)]), (4, .box [.clo 73 [.ptr 0 0, .ptr 1 0, .ptr 3 0, .ptr 4 0]])] 5 (.tup []) [(0, .box (Row.row r.1)), (1, .box [.osl 5 1 (0) (r.2.1.length)]), (3, .box [.v (.int .i64 r.2.2)]), (4, .box [.clo 73 [.ptr 0 0, .ptr 1 0, .ptr 3 0, .ptr 4 0]]), (5, .arr 1 (enc r.2.1))] 6 := q72 rounds fromv_0 cap_0 cap_1 cap_2  r h
def q9s (g_0 : GGraph) (nv_0 : Int) (rec_1 : Int × Int × (List Bool) × GGraph → Option Bool) : Int × Int × (List Bool) × GGraph → Option Bool :=
 fun (t31_1, b_2, a_1, b_3) =>
 (if (decide (t31_1 < (g_0.Nodes.length : Int))) = true then q9 (idx g_0.Nodes t31_1) (fun xv_5 =>
 (if ((xv_5.Kind == 11) && (xv_5.Scope == b_2)) = true then q9 (q94 t31_1 b_3 a_1 b_2) (fun v_2 =>
 rec_1 (i64.wrap (t31_1 + 1), v_2.2.2, v_2.2.1, v_2.1))
 else rec_1 (i64.wrap (t31_1 + 1), b_2, a_1, b_3)))
 else q9 (idx a_1 nv_0) (fun xv_6 =>
 some xv_6))
def qb0 (g_0 : GGraph) (nv_0 : Int) : Option Bool :=
 q9 (idx g_0.Nodes nv_0) (fun xv_0 =>
 (if (!(xv_0.Kind == 10)) = true then some false
 else p9 (0 ≤ (g_0.Nodes.length : Int) ∧ (g_0.Nodes.length : Int) * 1 ≤ 140737488355328) (
 d9 (q9s g_0 nv_0) rounds (0, xv_0.Scope, (List.replicate (g_0.Nodes.length) false), g_0))))
instance j38 (g_0 : GGraph) (nv_0 : Int) : Ct pp 39 (qb0 g_0 nv_0) [.agg (Row.row g_0), .v (.int .i64 nv_0)] fun r => (.v (.bool r)) := ctK Tryz.func39 rfl (by rw [qb0]) (by
 intro r h F; refine sM ?_; refine sg fun _ Q2 => ?_; obtain ⟨xv_0, F, h⟩ := bI F h; simp only [go_sem, F]; refine ai ?_; refine q8 Q2 (sg fun _ Q3 => ?_); refine sg fun _ Q4 => ?_; simp only [go_sem, F]; refine ai ?_; refine q8 Q4 (sB h (fun _ h => ?_) fun _ h => ?_)
 · exact au
 ·
  refine y7 (q8 Q3 (sg fun _ Q6 => ?_)); obtain ⟨F, h⟩ := bG F h; have rf_0 : List.replicate (g_0.Nodes.length) [.v (.bool false)] = enc (List.replicate (g_0.Nodes.length) false) := by (simp [enc, z3w, z1b, q9m, q67]; done)
  simp only [go_sem, F]; simp only [rf_0]; refine q8 Q6 (sM ?_); refine sM ?_; refine jg fun _ Q9 => ?_; refine sM ?_; refine w9 fun _ Q11 => ?_; refine q0n h [1, 29, 30] (fun x => ([(5, .ptr 0 0), (6, .ptr 1 0), (7, .ptr 2 0), (31, .v (.int .i64 x.1))], [(0, .box [.v (.int .i64 x.2.1)]), (1, .box [.osl 3 1 (0) (x.2.2.1.length)]), (2, .box [.clo 73 [.ptr 4 0, .ptr 1 0, .ptr 0 0, .ptr 2 0]]), (3, .arr 1 (enc x.2.2.1)), (4, .box (Row.row x.2.2.2))])) 5 ?_; rintro m_1 ⟨t31_1, b_2, a_1, b_3⟩ h _ Q12; rw [q9s] at h; refine sM ?_; refine sg fun _ Q14 => ?_; refine sB h (fun _ h => ?_) fun _ h => ?_
  ·
   refine y7 (q8 Q14 (jg fun _ Q15 => ?_)); refine w9 fun _ Q16 => ?_; refine sg fun _ Q17 => ?_; obtain ⟨xv_5, F, h⟩ := bI F h; simp only [go_sem, F]; refine ai ?_; refine q8 Q17 (sM ?_); refine sB h (fun _ h => ?_) fun _ h => ?_
   · obtain ⟨v_2, ev_2, h⟩ := z8 h; simp only [go_sem]; refine q1o [4, 1, 3, 0, 2] (qk1 t31_1 b_3 a_1 b_2 v_2 ev_2) ?_; simp only [go_sem]; exact au
   · exact au
  · exact au)
def q9x (g_0 : GGraph) (rec_5 : Int → Option (Int × Int)) : Int → Option (Int × Int) :=
 fun t101_1 =>
 (if (decide (t101_1 < (g_0.Nodes.length : Int))) = true then q9 (qb0 g_0 t101_1) (fun v_14 =>
 (if v_14 = true then some (8, t101_1)
 else rec_5 (i64.wrap (t101_1 + 1))))
 else some (0, 0))
def q7t (g_0 : GGraph) : Option (Int × Int) :=
 d9 (q9x g_0) rounds 0
def q9w (g_0 : GGraph) (rec_6 : Int → Option (Int × Int)) : Int → Option (Int × Int) :=
 fun t89_3 =>
 (if (decide (t89_3 < (g_0.Nodes.length : Int))) = true then q9 (qf8 g_0 t89_3) (fun v_17 =>
 (if (!v_17) = true then some (7, t89_3)
 else rec_6 (i64.wrap (t89_3 + 1))))
 else q7t g_0)
def q7u (g_0 : GGraph) : Option (Int × Int) :=
 d9 (q9w g_0) rounds 0
def q9v (g_0 : GGraph) (rec_7 : Int → Option (Int × Int)) : Int → Option (Int × Int) :=
 fun t75_3 =>
 (if (decide (t75_3 < (g_0.Edges.length : Int))) = true then q9 (qf9 g_0 t75_3) (fun v_20 =>
 (if (!(v_20 == 0)) = true then some (v_20, t75_3)
 else rec_7 (i64.wrap (t75_3 + 1))))
 else q7u g_0)
def q7v (g_0 : GGraph) : Option (Int × Int) :=
 d9 (q9v g_0) rounds 0
def q9u (g_0 : GGraph) (rec_8 : Int → Option (Int × Int)) : Int → Option (Int × Int) :=
 fun t61_3 =>
 (if (decide (t61_3 < (g_0.Nodes.length : Int))) = true then q9 (qf7 g_0 t61_3) (fun v_23 =>
 (if (!(v_23 == 0)) = true then some (v_23, t61_3)
 else rec_8 (i64.wrap (t61_3 + 1))))
 else q7v g_0)
def q7w (g_0 : GGraph) : Option (Int × Int) :=
 (if (((decide ((g_0.Nodes.length : Int) < 1)) || (decide (32 < (g_0.Nodes.length : Int)))) || (decide (64 < (g_0.Edges.length : Int)))) = true then some (11, 0)
 else d9 (q9u g_0) rounds 0)
def q9t (g_0 : GGraph) (rec_9 : Int → Option (Int × Int)) : Int → Option (Int × Int) :=
 fun t33_3 =>
 (if (decide (t33_3 < (g_0.Parent.length : Int))) = true then q9 (qa6 g_0 t33_3) (fun v_26 =>
 (if (!v_26) = true then some (6, t33_3)
 else rec_9 (i64.wrap (t33_3 + 1))))
 else q7w g_0)
def qb1 (g_0 : GGraph) : Option (Int × Int) :=
 (if (((decide ((g_0.Parent.length : Int) < 1)) || (decide (8 < (g_0.Parent.length : Int)))) || (!((g_0.Bound.length : Int) == (g_0.Parent.length : Int)))) = true then some (6, 0)
 else d9 (q9t g_0) rounds 0)
instance j3b (g_0 : GGraph) : Ct pp 23 (qb1 g_0) [.agg (Row.row g_0)] fun r => (.tup [.v (.int .i64 r.1), .v (.int .i64 r.2)]) := ctK Tryz.func23 rfl (by rw [qb1]) (by
 intro r h F; refine sM ?_; refine sg fun _ Q2 => ?_; refine sM ?_; refine sB h (fun _ h => ?_) fun _ h => ?_
 · exact au
 ·
  refine y7 (q8 Q2 (q3p (fun (_ : Unit) => q7w g_0 = some r) [1] (fun _ => ([], [(0, .box (Row.row g_0))])) 1 ?_ ?_))
  · intro _ Q55; refine sM ?_; refine w9 fun _ Q57 => ?_; refine q0n h [1, 32] (fun t33_3 => ([(33, .v (.int .i64 t33_3))], [(0, .box (Row.row g_0))])) 1 ?_; rintro m_9 t33_3 h _ Q58; rw [q9t] at h; exact au
  ·
   rintro ⟨⟩ h
   try dsimp only at h
   rw [q7w] at h; refine sg fun _ Q5 => ?_; refine sM ?_; refine sB h (fun _ h => ?_) fun _ h => ?_
   · exact au
   ·
    refine y7 (q8 Q5 (q3p (fun (_ : Unit) => q7v g_0 = some r) [1] (fun _ => ([], [(0, .box (Row.row g_0))])) 1 ?_ ?_))
    · intro _ Q43; refine sM ?_; refine w9 fun _ Q45 => ?_; refine q0n h [1, 60] (fun t61_3 => ([(61, .v (.int .i64 t61_3))], [(0, .box (Row.row g_0))])) 1 ?_; rintro m_8 t61_3 h _ Q46; rw [q9u] at h; exact au
    ·
     rintro ⟨⟩ h
     try dsimp only at h
     rw [q7v] at h; refine q3p (fun (_ : Unit) => q7u g_0 = some r) [1] (fun _ => ([], [(0, .box (Row.row g_0))])) 1 ?_ ?_
     · intro _ Q31; refine sM ?_; refine w9 fun _ Q33 => ?_; refine q0n h [1, 74] (fun t75_3 => ([(75, .v (.int .i64 t75_3))], [(0, .box (Row.row g_0))])) 1 ?_; rintro m_7 t75_3 h _ Q34; rw [q9v] at h; exact au
     ·
      rintro ⟨⟩ h
      try dsimp only at h
      rw [q7u] at h; refine q3p (fun (_ : Unit) => q7t g_0 = some r) [1] (fun _ => ([], [(0, .box (Row.row g_0))])) 1 ?_ ?_
      · intro _ Q20; refine sM ?_; refine w9 fun _ Q22 => ?_; refine q0n h [1, 88] (fun t89_3 => ([(89, .v (.int .i64 t89_3))], [(0, .box (Row.row g_0))])) 1 ?_; rintro m_6 t89_3 h _ Q23; rw [q9w] at h; exact au
      ·
       rintro ⟨⟩ h
       try dsimp only at h
       rw [q7t] at h; refine jg fun _ Q8 => ?_; refine sM ?_; refine w9 fun _ Q10 => ?_; refine q0n h [1, 100] (fun t101_1 => ([(101, .v (.int .i64 t101_1))], [(0, .box (Row.row g_0))])) 1 ?_; rintro m_5 t101_1 h _ Q11; rw [q9x] at h; exact au)
def q7b (xv_0 : Int) : Option Bool :=
 some (!(xv_0 == xv_0))
instance zv6 (xv_0 : Int) : Ct pp 129 (q7b xv_0) [.v (.int .i64 xv_0)] fun r => (.v (.bool r)) := ctI Tryz.func129 rfl (by rw [q7b]; exact au1)
def q5d (xv_0 : Int) (y_0 : Int) : Option Int :=
 q9 (q7b xv_0) (fun v_0 =>
 q9 (q7b y_0) (fun v_1 =>
 (if v_0 = true then (if v_1 = true then some 0
 else some (-1))
 else (if v_1 = true then some 1
 else (if (decide (xv_0 < y_0)) = true then some (-1)
 else (if (decide (y_0 < xv_0)) = true then some 1
 else some 0))))))
instance z0m (xv_0 : Int) (y_0 : Int) : Ct pp 121 (q5d xv_0 y_0) [.v (.int .i64 xv_0), .v (.int .i64 y_0)] fun r => (.v (.int .i64 r)) := ctI Tryz.func121 rfl (by rw [q5d]; exact au1)
def qd9 (vals_0 : List Int) (rec_1 : Int → Option Int) : Int → Option Int :=
 fun t8_1 =>
 (if (decide (t8_1 < (vals_0.length : Int))) = true then q9 (idx vals_0 t8_1) (fun xv_2 =>
 (if (!(xv_2 == 0)) = true then some xv_2
 else rec_1 (i64.wrap (t8_1 + 1))))
 else some 0)
def qg5 (vals_0 : List Int) : Option Int :=
 d9 (qd9 vals_0) rounds 0
instance z7f (vals_0 : List Int) : Ct pp 120 (qg5 vals_0) [.sl 1 (enc vals_0)] fun r => (.v (.int .i64 r)) := ctK Tryz.func120 rfl (by rw [qg5]) (by
 intro r h F; refine sM ?_; refine sM ?_; refine jg fun _ Q3 => ?_; refine sM ?_; refine w9 fun _ Q5 => ?_; refine q0n h [3, 6, 7] (fun t8_1 => ([(8, .v (.int .i64 t8_1))], [])) 0 ?_; rintro m_1 t8_1 h _ Q6; rw [qd9] at h; exact au)
def qd2 (a_0 : GRec) (b_0 : GRec) : Option Int :=
 q9 (q5d a_0.K b_0.K) (fun v_0 =>
 q9 (q5d a_0.V b_0.V) (fun v_1 =>
 q9 (qg5 ([v_0, v_1] : List Int)) (fun v_2 =>
 some v_2)))
instance j5q (a_0 : GRec) (b_0 : GRec) : Ct pp 103 (qd2 a_0 b_0) [.agg (Row.row a_0), .agg (Row.row b_0)] fun r => (.v (.int .i64 r)) := ctK Tryz.func103 rfl (by rw [qd2]) (by
 intro r h F; refine sM ?_; refine sg fun _ Q2 => ?_; refine q07 ?_; refine j8g ?_; obtain ⟨v_0, ev_0, h⟩ := z8 h; simp only [go_sem]; refine callq (fun _ => (z0m a_0.K b_0.K v_0 ev_0)) (by rfl) (by rfl) ?_; simp only [go_sem]; refine q5u h fun v_1 h => ?_; have rf_0 : [[.v (.int .i64 v_0)], [.v (.int .i64 v_1)]] = enc ([v_0, v_1] : List Int) := by rfl
 obtain ⟨v_2, ev_2, h⟩ := z8 h; simp only [go_sem]; simp only [rf_0]; refine z14 (z7f ([v_0, v_1] : List Int) v_2 ev_2) ?_; simp only [go_sem]; exact au)
def qp2 (a_0 : GRec) (b_0 : GRec) : Option Bool :=
 q9 (qd2 a_0 b_0) (fun v_0 =>
 some (decide (v_0 < 0)))
instance j6g (a_0 : GRec) (b_0 : GRec) : Ct pp 100 (qp2 a_0 b_0) [.agg (Row.row a_0), .agg (Row.row b_0)] fun r => (.v (.bool r)) := ctI Tryz.func100 rfl (by rw [qp2]; exact au1)
def q3j (xv_0 : List GItem) (target_0 : GRec) (cmp_0 : GItem → GRec → Option Int) (i_2 : Int) : Option (Int × Bool) :=
 (if (decide (i_2 < (xv_0.length : Int))) = true then q9 (idx xv_0 i_2) (fun xv_4 =>
 q9 (cmp_0 xv_4 target_0) (fun v_3 =>
 some (i_2, (v_3 == 0))))
 else some (i_2, false))
def q5n (xv_0 : List GItem) (target_0 : GRec) (cmp_0 : GItem → GRec → Option Int) (rec_2 : Int × Int → Option (Int × Bool)) : Int × Int → Option (Int × Bool) :=
 fun (i_4, j_3) =>
 (if (decide (i_4 < j_3)) = true then q9 (idx xv_0 (i64.wrap (q26 .u64 (IntKind.u64.wrap (i64.wrap (i_4 + j_3))) 1))) (fun xv_7 =>
 q9 (cmp_0 xv_7 target_0) (fun v_6 =>
 (if (decide (v_6 < 0)) = true then rec_2 (i64.wrap ((i64.wrap (q26 .u64 (IntKind.u64.wrap (i64.wrap (i_4 + j_3))) 1)) + 1), j_3)
 else rec_2 (i_4, i64.wrap (q26 .u64 (IntKind.u64.wrap (i64.wrap (i_4 + j_3))) 1)))))
 else q3j xv_0 target_0 cmp_0 i_4)
def q2u (xv_0 : List GItem) (target_0 : GRec) (cmp_0 : GItem → GRec → Option Int) : Option (Int × Bool) :=
 d9 (q5n xv_0 target_0 cmp_0) rounds (0, (xv_0.length : Int))
theorem qm0 (xv_0 : List GItem) (target_0 : GRec) (cmp_0 : GItem → GRec → Option Int) (g_cmp_0 : FuncId) (c_cmp_0 : List AV) (F_cmp_0 : q0b c_cmp_0 = true) (E_cmp_0 : p8 pp g_cmp_0 = true) (H_cmp_0 : ∀ (x0 : GItem) (x1 : GRec) (r : Int), cmp_0 x0 x1 = some r → PureS pp g_cmp_0 ([.agg (Row.row x0), .agg (Row.row x1)] ++ c_cmp_0) 0 (.v (.int .i64 r))) (r : Int × Bool) (h : q2u xv_0 target_0 cmp_0 = some r) : PureS pp 101 [.sl 3 (enc xv_0), .agg (Row.row target_0), .clo g_cmp_0 c_cmp_0] 0 (.tup [.v (.int .i64 r.1), .v (.bool r.2)]) := by
 refine ptI Tryz.func101 rfl ?_; rw [q2u] at h; have F := trivial; refine sM ?_; refine sM ?_; refine sM ?_; refine q3p (fun (i_2 : Int) => q3j xv_0 target_0 cmp_0 i_2 = some r) [0, 2, 4, 8] (fun i_2 => ([(9, .v (.int .i64 i_2))], [(0, .box (Row.row target_0))])) 1 ?_ ?_
 ·
  intro _ Q5; refine w9 fun _ Q6 => ?_; refine q0n h [0, 2, 4, 8] (fun x => ([(9, .v (.int .i64 x.1)), (10, .v (.int .i64 x.2))], [(0, .box (Row.row target_0))])) 1 ?_; rintro m_2 ⟨i_4, j_3⟩ h _ Q7; rw [q5n] at h; refine sg fun _ Q8 => ?_; refine sM ?_; refine sB h (fun _ h => ?_) fun _ h => ?_
  ·
   refine y7 (q8 Q8 (w9 fun _ Q10 => ?_)); refine sM ?_; refine sg fun _ Q12 => ?_; refine q07 ?_; refine j8g ?_; obtain ⟨xv_7, F, h⟩ := bI F h; obtain ⟨v_6, ev_6, h⟩ := z8 h; simp only [go_sem, E_cmp_0, F]; refine ai ?_; refine q99 (H_cmp_0 xv_7 target_0 v_6 ev_6) (by rfl) (by simp [go_sem, q0b, q0f, F_cmp_0]) ?_; simp only [go_sem]; refine q8 Q12 (sB h (fun _ h => ?_) fun _ h => ?_)
   · simp only [go_sem]; refine q04 Q10 (x9 Q7 ?_); exact nxC _ h [some 0] leA
   · simp only [go_sem]; refine q04 Q10 (x9 Q7 ?_); exact nxC _ h [some 0] leA
  · refine q0s (q23 Q8 (q0t Q7 (q0k Q6 (x9 Q5 (⟨i_4, [some 0], ?_, h⟩))))); exact leA
 ·
  rintro i_2 h
  try dsimp only at h
  rw [q3j] at h; refine sg fun _ Q4 => ?_; refine q07 ?_; refine j8g ?_; simp only [go_sem]; rcases hb_6 : (decide (i_2 < (xv_0.length : Int))) with _ | _
  · replace h := q45 h hb_6; simp only [go_sem, hb_6]; refine q8 Q4 (q02 ?_); simp only [go_sem]; obtain rfl := Option.some.inj h; refine q68 rfl ?_; exact leA
  · replace h := q44 h hb_6; obtain ⟨xv_4, F, h⟩ := bI F h; obtain ⟨v_3, ev_3, h⟩ := z8 h; simp only [go_sem, hb_6, E_cmp_0, F]; refine ai ?_; refine ai ?_; refine callq (fun _ => (H_cmp_0 xv_4 target_0 v_3 ev_3)) (by rfl) (by simp [go_sem, q0b, q0f, F_cmp_0]) ?_; simp only [go_sem]; refine q8 Q4 (q02 ?_); simp only [go_sem]; obtain rfl := Option.some.inj h; refine q68 rfl ?_; exact leA
def q90 (xv_0 : GItem) (rv_0 : GRec) : Option Int :=
 q9 (qd2 xv_0.Rec rv_0) (fun v_0 =>
 some v_0)
instance z8m (xv_0 : GItem) (rv_0 : GRec) : Ct pp 102 (q90 xv_0 rv_0) [.agg (Row.row xv_0), .agg (Row.row rv_0)] fun r => (.v (.int .i64 r)) := ctI Tryz.func102 rfl (by rw [q90]; exact au1)
def qg6 (nv_0 : Int) : Option Bool :=
 some ((decide ((-2147483648) ≤ nv_0)) && (decide (nv_0 ≤ 2147483648)))
instance j7g (nv_0 : Int) : Ct pp 99 (qg6 nv_0) [.v (.int .i64 nv_0)] fun r => (.v (.bool r)) := ctI Tryz.func99 rfl (by rw [qg6]; exact au1)
def qi5 (b_0 : List GItem) (rec_1 : Int → Option Bool) : Int → Option Bool :=
 fun t7_1 =>
 (if (decide (t7_1 < (b_0.length : Int))) = true then q9 (idx b_0 t7_1) (fun xv_4 =>
 (if (xv_4.N == 0) = true then some false
 else q9 (qg6 xv_4.N) (fun v_4 =>
 (if v_4 = true then (if (decide (0 < t7_1)) = true then q9 (idx b_0 (i64.wrap (t7_1 - 1))) (fun xv_5 =>
 q9 (qp2 xv_5.Rec xv_4.Rec) (fun v_5 =>
 (if (!v_5) = true then some false
 else rec_1 (i64.wrap (t7_1 + 1)))))
 else rec_1 (i64.wrap (t7_1 + 1)))
 else some false))))
 else some true)
def q6p (b_0 : List GItem) : Option Bool :=
 d9 (qi5 b_0) rounds 0
instance j5r (b_0 : List GItem) : Ct pp 76 (q6p b_0) [.sl 3 (enc b_0)] fun r => (.v (.bool r)) := ctK Tryz.func76 rfl (by rw [q6p]) (by
 intro r h F; refine sM ?_; refine jg fun _ Q2 => ?_; refine sM ?_; refine w9 fun _ Q4 => ?_; refine q0n h [0, 5, 6] (fun t7_1 => ([(7, .v (.int .i64 t7_1))], [])) 0 ?_; rintro m_1 t7_1 h _ Q5; rw [qi5] at h; exact au)
def q3v (x_0 : List GItem) (i_0 : Int) (v_0 : List GItem) : Option (List GItem) := z8h 24 x_0 i_0 v_0
theorem qj5 : InsLay pp (j0o 104 122 123 0 3 4 65 66) 3 24 (.agg #[.int .i64 0, .int .i64 0, .int .i64 0] : Value) := { mixed := by kernel_rfl, t0 := Tryz.underlying0, a0 := Tryz.isAgg0, z0 := Tryz.sizeOf0, v0 := Tryz.zeroValue0, t3 := Tryz.underlying3, a3 := Tryz.isAgg3, z3 := Tryz.sizeOf3, v3 := Tryz.zeroValue3, t4 := Tryz.underlying4, a4 := Tryz.isAgg4, z4 := Tryz.sizeOf4, v4 := Tryz.zeroValue4, t24 := Tryz.underlying66, a24 := Tryz.isAgg66, z24 := Tryz.sizeOf66, v24 := Tryz.zeroValue66, z9 := Tryz.sizeOf65, i9 := zp3 (by kernel_rfl), f22 := ⟨"slices.Insert[[]backwash/api.Item,backwash/api.Item]", by decide, by kernel_rfl⟩, ov := ⟨_, Tryz.func122, by kernel_rfl, by kernel_rfl, by kernel_rfl, by kernel_rfl⟩ }
theorem qj6 (x_0 : List GItem) (i_0 : Int) (v_0 : List GItem) (r : List GItem) (h : q3v x_0 i_0 v_0 = some r) : DetS pp 104 [.osl 0 3 0 (x_0.length), .v (.int .i64 i_0), .osl 1 3 0 (v_0.length)] [(0, .arr 3 (enc x_0)), (1, .arr 3 (enc v_0))] 2 (.osl 2 3 0 (r.length)) [(2, .arr 3 (enc r))] 3 :=
  zv0 qj5 (by kernel_rfl) (by kernel_rfl) (by decide) (by rfl) (by decide) rfl (fun _ => rfl) h
def q7g (x_0 : List GItem) (i_0 : Int) (j_0 : Int) : Option (List GItem) := z8q x_0 i_0 j_0
theorem qp7 : DelLay pp (j0o 105 0 0 0 3 4 65 66) 3 (.agg #[.int .i64 0, .int .i64 0, .int .i64 0] : Value) := { mixed := by kernel_rfl, t0 := Tryz.underlying0, a0 := Tryz.isAgg0, z0 := Tryz.sizeOf0, v0 := Tryz.zeroValue0, t3 := Tryz.underlying3, a3 := Tryz.isAgg3, z3 := Tryz.sizeOf3, v3 := Tryz.zeroValue3, t4 := Tryz.underlying4, a4 := Tryz.isAgg4, z4 := Tryz.sizeOf4, v4 := Tryz.zeroValue4, t24 := Tryz.underlying66, a24 := Tryz.isAgg66, z24 := Tryz.sizeOf66, v24 := Tryz.zeroValue66, z9 := Tryz.sizeOf65, v9 := Tryz.zeroValue65, i9 := j30 (b := 24) (by kernel_rfl), f24 := ⟨"slices.Delete[[]backwash/api.Item,backwash/api.Item]", by decide, by kernel_rfl⟩ }
theorem qp8 (x_0 : List GItem) (i_0 : Int) (j_0 : Int) (r : List GItem) (h : q7g x_0 i_0 j_0 = some r) : DetS pp 105 [.osl 0 3 0 (x_0.length), .v (.int .i64 i_0), .v (.int .i64 j_0)] [(0, .arr 3 (enc x_0))] 1 (.osl 1 3 0 (r.length)) [(1, .arr 3 (enc r))] 2 :=
  zw2 qp7 (by kernel_rfl) (by decide) (by rfl) (by rfl) (fun _ => rfl) h
def q5c (s_0 : List GItem) : Option (List GItem) :=
 p9 ((List.length ([] : List GItem) + s_0.length) * 24 ≤ 140737488355328) (
 some (([] : List GItem) ++ s_0))
theorem qj1 (s_0 : List GItem)  (r : List GItem) (h : q5c s_0 = some r) : DetS pp 75 [.sl 3 (enc s_0)] [] 0 (.osl 0 3 (0) (r.length)) [(0, .arr 3 (enc r))] 1 := by
 refine dtI Tryz.func75 rfl ?_; rw [q5c] at h; have F := trivial; refine sM ?_; refine sg fun _ Q2 => ?_; refine sg fun _ Q3 => ?_; simp only [go_sem]; intro nb_0 hnb_0; rcases nb_0 with _ | _
 ·
  refine q8 Q3 (ja0 ?_); refine y7 (q8 Q2 (sg fun _ Q4 => ?_)); obtain ⟨g_0, h⟩ := q09 h; have F := And.intro F g_0; simp only [List.length_cons, List.length_nil, Nat.zero_add, List.length_append] at g_0; have rf_0 : enc ([] : List GItem) ++ enc s_0 = enc (([] : List GItem) ++ s_0) := by exact (q4x ([] : List GItem) s_0).symm
  simp only [go_sem, g_0, rf_0]; exact au
 ·
  have hE_nb_0 : s_0 = [] := by cases hq : (s_0) with | nil => rfl | cons y ys => exact absurd (hnb_0 (by rw [hq]; simp [enc])) (by simp)
  simp only [hE_nb_0] at h; exact au
def q6g (b_0 : List GItem) (rv_0 : GRec) (nv_0 : Int) : Option (List GItem) :=
 q9 (q2u b_0 rv_0 (fun x0_ x1_ => q90 x0_ x1_)) (fun v_0 =>
 (if (nv_0 == 0) = true then some b_0
 else q9 (qg6 nv_0) (fun v_1 =>
 (if (!v_1) = true then some b_0
 else (if (!v_0.2) = true then q9 (q3v b_0 v_0.1 ([(⟨rv_0, nv_0⟩ : GItem)] : List GItem)) (fun v_2 =>
 some v_2)
 else q9 (idx b_0 v_0.1) (fun xv_0 =>
 (if ((i64.wrap (xv_0.N + nv_0)) == 0) = true then q9 (q7g b_0 v_0.1 (i64.wrap (v_0.1 + 1))) (fun v_3 =>
 some v_3)
 else q9 (qg6 (i64.wrap (xv_0.N + nv_0))) (fun v_4 =>
 (if v_4 = true then some (List.set b_0 (v_0.1.toNat) (⟨xv_0.Rec, i64.wrap (xv_0.N + nv_0)⟩ : GItem))
 else some b_0)))))))))
theorem qt3 (b_0 : List GItem) (rv_0 : GRec) (nv_0 : Int)  (r : List GItem) (h : q6g b_0 rv_0 nv_0 = some r) : DetS pp 77 [.osl 0 3 (0) (b_0.length), .agg (Row.row rv_0), .v (.int .i64 nv_0)] [(0, .arr 3 (enc b_0))] 1 (.osl 1 3 (0) (r.length)) [(1, .arr 3 (enc r))] 2 := by
 refine dtI Tryz.func77 rfl ?_; rw [q6g] at h; have F := trivial; refine sM ?_; refine sg fun _ Q2 => ?_; obtain ⟨v_0, ev_0, h⟩ := z8 h; simp only [go_sem]; refine z14 (qm0 b_0 rv_0 (fun x0_ x1_ => q90 x0_ x1_) 102 [] (by rfl) (by kernel_rfl) (fun y0 y1 r_ e_ => z8m y0 y1 r_ e_) v_0 ev_0) ?_; simp only [go_sem]; refine q8 Q2 (jg fun _ Q3 => ?_); refine w9 fun _ Q4 => ?_; refine sg fun _ Q5 => ?_; simp only [go_sem]; rcases hb_0 : (nv_0 == 0) with _ | _
 ·
  replace h := q45 h hb_0; simp only [go_sem, hb_0]; refine q5u h fun v_1 h => ?_; simp only [go_sem]; refine q8 Q5 (sB h (fun _ h => ?_) fun _ h => ?_)
  · exact au
  ·
   refine sM ?_; refine sB h (fun _ h => ?_) fun _ h => ?_
   ·
    refine sg fun _ Q8 => ?_; have rf_0 : [[.v (.int .i64 rv_0.K), .v (.int .i64 rv_0.V), .v (.int .i64 nv_0)]] = enc ([(⟨rv_0, nv_0⟩ : GItem)] : List GItem) := by rfl
    obtain ⟨v_2, ev_2, h⟩ := z8 h; simp only [go_sem]; simp only [rf_0]; refine q1o [0, 2] (qj6 b_0 v_0.1 ([(⟨rv_0, nv_0⟩ : GItem)] : List GItem) v_2 ev_2) ?_; simp only [go_sem]; exact au
   ·
    refine sg fun _ Q9 => ?_; obtain ⟨xv_0, F, h⟩ := bI F h; simp only [go_sem, F]; refine ai ?_; refine q8 Q9 (sB h (fun _ h => ?_) fun _ h => ?_)
    · refine sg fun _ Q10 => ?_; obtain ⟨v_3, ev_3, h⟩ := z8 h; simp only [go_sem]; refine q1o [0] (qp8 b_0 v_0.1 (i64.wrap (v_0.1 + 1)) v_3 ev_3) ?_; simp only [go_sem]; exact au
    ·
     refine sg fun _ Q11 => ?_; simp only [go_sem, F]; refine ai ?_; refine q5u h fun v_4 h => ?_; simp only [go_sem]; refine q8 Q11 (sB h (fun _ h => ?_) fun _ h => ?_)
     · have rf_1 := qd4 b_0 (v_0.1.toNat) (⟨xv_0.Rec, i64.wrap (xv_0.N + nv_0)⟩ : GItem); simp only [zz6] at rf_1; simp only [go_sem, rf_1, F]; refine ai ?_; refine ai ?_; exact au
     · exact au
 · replace h := q44 h hb_0; simp only [go_sem, hb_0]; exact au
def qt4 (b_0 : List GItem) (rv_0 : GRec) (nv_0 : Int) : Option (List GItem) :=
 q9 (q5c b_0) (fun v_0 =>
 q9 (q6p b_0) (fun v_1 =>
 (if (!v_1) = true then some v_0
 else q9 (q6g v_0 rv_0 nv_0) (fun v_2 =>
 some v_2))))
theorem za6 (b_0 : List GItem) (rv_0 : GRec) (nv_0 : Int)  (r : List GItem) (h : qt4 b_0 rv_0 nv_0 = some r) : DetS pp 115 [.sl 3 (enc b_0), .agg (Row.row rv_0), .v (.int .i64 nv_0)] [] 0 (.osl 0 3 (0) (r.length)) [(0, .arr 3 (enc r))] 1 := by
 refine dtI Tryz.func115 rfl ?_; rw [qt4] at h; have F := trivial; refine sM ?_; refine sg fun _ Q2 => ?_; obtain ⟨v_0, ev_0, h⟩ := z8 h; simp only [go_sem]; refine q1o [] (qj1 b_0 v_0 ev_0) ?_; simp only [go_sem]; refine q8 Q2 (sg fun _ Q3 => ?_); refine sg fun _ Q4 => ?_; simp only [go_sem]; refine q5u h fun v_1 h => ?_; simp only [go_sem]; refine q8 Q4 (sB h (fun _ h => ?_) fun _ h => ?_)
 · exact au
 · refine y7 (q8 Q3 (sg fun _ Q6 => ?_)); obtain ⟨v_2, ev_2, h⟩ := z8 h; simp only [go_sem]; refine q1o [1] (qt3 v_0 rv_0 nv_0 v_2 ev_2) ?_; simp only [go_sem]; exact au
def qe0 (b_0 : List GItem) (times_0 : Int) (rec_1 : Int × (List GItem) → Option (List GItem)) : Int × (List GItem) → Option (List GItem) :=
 fun (t23_1, a_2) =>
 (if (decide (t23_1 < (b_0.length : Int))) = true then q9 (idx b_0 t23_1) (fun xv_2 =>
 q9 (q6g a_2 xv_2.Rec (i64.wrap (times_0 * xv_2.N))) (fun v_5 =>
 rec_1 (i64.wrap (t23_1 + 1), v_5)))
 else some a_2)
def qp0 (a_0 : List GItem) (b_0 : List GItem) (times_0 : Int) : Option (List GItem) :=
 q9 (q5c a_0) (fun v_0 =>
 q9 (q6p a_0) (fun v_1 =>
 (if v_1 = true then q9 (q6p b_0) (fun v_2 =>
 (if (!v_2) = true then some v_0
 else d9 (qe0 b_0 times_0) rounds (0, v_0)))
 else some v_0)))
theorem z5p (a_0 : List GItem) (b_0 : List GItem) (times_0 : Int)  (r : List GItem) (h : qp0 a_0 b_0 times_0 = some r) : DetS pp 41 [.sl 3 (enc a_0), .sl 3 (enc b_0), .v (.int .i64 times_0)] [] 0 (.osl 0 3 (0) (r.length)) [(0, .arr 3 (enc r))] 1 := by
 refine dtI Tryz.func41 rfl ?_; rw [qp0] at h; have F := trivial; refine sM ?_; refine sg fun _ Q2 => ?_; obtain ⟨v_0, ev_0, h⟩ := z8 h; simp only [go_sem]; refine q1o [] (qj1 a_0 v_0 ev_0) ?_; simp only [go_sem]; refine q8 Q2 (sg fun _ Q3 => ?_); refine sg fun _ Q4 => ?_; simp only [go_sem]; refine q5u h fun v_1 h => ?_; simp only [go_sem]; rcases hb_0 : v_1 with _ | _
 · replace h := q45 h hb_0; simp only [go_sem, hb_0]; exact au
 ·
  replace h := q44 h hb_0; simp only [go_sem, hb_0]; refine q5u h fun v_2 h => ?_; simp only [go_sem]; refine q8 Q4 (sB h (fun _ h => ?_) fun _ h => ?_)
  · exact au
  ·
   refine y7 (q8 Q3 (jg fun _ Q7 => ?_)); refine sM ?_; refine w9 fun _ Q9 => ?_; refine q0n h [2, 21, 22] (fun x => ([(7, .osl 0 3 (0) (x.2.length)), (23, .v (.int .i64 x.1))], [(0, .arr 3 (enc x.2))])) 1 ?_; rintro m_1 ⟨t23_1, a_2⟩ h _ Q10; rw [qe0] at h; refine sM ?_; refine sg fun _ Q12 => ?_; refine sB h (fun _ h => ?_) fun _ h => ?_
   · refine y7 (q8 Q12 (sg fun _ Q13 => ?_)); refine w9 fun _ Q14 => ?_; refine sg fun _ Q15 => ?_; obtain ⟨xv_2, F, h⟩ := bI F h; simp only [go_sem, F]; refine ai ?_; refine q8 Q15 ?_; obtain ⟨v_5, ev_5, h⟩ := z8 h; simp only [go_sem]; refine q1o [0] (qt3 a_2 xv_2.Rec (i64.wrap (times_0 * xv_2.N)) v_5 ev_5) ?_; simp only [go_sem]; exact au
   · exact au
def q42 (a_0 : List GItem) (b_0 : List GItem) : Option (List GItem) :=
 q9 (qp0 a_0 b_0 1) (fun v_0 =>
 some v_0)
theorem qr7 (a_0 : List GItem) (b_0 : List GItem)  (r : List GItem) (h : q42 a_0 b_0 = some r) : DetS pp 26 [.sl 3 (enc a_0), .sl 3 (enc b_0)] [] 0 (.osl 0 3 (0) (r.length)) [(0, .arr 3 (enc r))] 1 := by
 refine dtI Tryz.func26 rfl ?_; rw [q42] at h; have F := trivial; refine sM ?_; refine sg fun _ Q2 => ?_; obtain ⟨v_0, ev_0, h⟩ := z8 h; simp only [go_sem]; refine q1o [] (z5p a_0 b_0 1 v_0 ev_0) ?_; simp only [go_sem]; exact au
instance z2d (a_0 : List GItem) (b_0 : List GItem) : Ct pp 26 (q42 a_0 b_0) [.sl 3 (enc a_0), .sl 3 (enc b_0)] fun r => (.sl 3 (enc r)) := ⟨fun r h => (qr7 a_0 b_0  r h).pure leA⟩
def qi3 (b_0 : List GItem) (a_2 : List GItem) : Option (List GItem) :=
 q9 (q6p b_0) (fun v_0 =>
 (if (!v_0) = true then some ([] : List GItem)
 else some a_2))
def qi4 (b_0 : List GItem) (rec_2 : Int × (List GItem) → Option (List GItem)) : Int × (List GItem) → Option (List GItem) :=
 fun (t8_3, a_4) =>
 (if (decide (t8_3 < (b_0.length : Int))) = true then q9 (idx b_0 t8_3) (fun xv_5 =>
 (if (decide (0 < xv_5.N)) = true then p9 ((a_4.length + List.length ([xv_5] : List GItem)) * 24 ≤ 140737488355328) (
 rec_2 (i64.wrap (t8_3 + 1), (a_4 ++ ([xv_5] : List GItem))))
 else rec_2 (i64.wrap (t8_3 + 1), a_4)))
 else qi3 b_0 a_4)
def qd3 (b_0 : List GItem) : Option (List GItem) :=
 d9 (qi4 b_0) rounds (0, [])
theorem z06 (b_0 : List GItem)  (r : List GItem) (h : qd3 b_0 = some r) : DetS pp 86 [.sl 3 (enc b_0)] [] 0 (.osl 0 3 (0) (r.length)) [(0, .arr 3 (enc r))] 1 := by
 refine dtI Tryz.func86 rfl ?_; rw [qd3] at h; have F := trivial; refine sM ?_; refine sM ?_; refine q3p (fun (a_2 : (List GItem)) => qi3 b_0 a_2 = some r) [0] (fun a_2 => ([(3, .osl 0 3 (0) (a_2.length))], [(0, .arr 3 (enc a_2))])) 1 ?_ ?_
 ·
  intro _ Q7; refine sM ?_; refine w9 fun _ Q9 => ?_; refine q0n h [0, 6, 7] (fun x => ([(3, .osl 0 3 (0) (x.2.length)), (8, .v (.int .i64 x.1))], [(0, .arr 3 (enc x.2))])) 1 ?_; rintro m_2 ⟨t8_3, a_4⟩ h _ Q10; rw [qi4] at h; refine sM ?_; refine sg fun _ Q12 => ?_; refine sB h (fun _ h => ?_) fun _ h => ?_
  ·
   refine y7 (q8 Q12 (jg fun _ Q13 => ?_)); refine w9 fun _ Q14 => ?_; refine sg fun _ Q15 => ?_; obtain ⟨xv_5, F, h⟩ := bI F h; simp only [go_sem, F]; refine ai ?_; refine q8 Q15 (sM ?_); refine sB h (fun _ h => ?_) fun _ h => ?_
   ·
    have rf_8 : [[.v (.int .i64 xv_5.Rec.K), .v (.int .i64 xv_5.Rec.V), .v (.int .i64 xv_5.N)]] = enc ([xv_5] : List GItem) := by rfl
    obtain ⟨g_5, h⟩ := q09 h; have F := And.intro F g_5; simp only [List.length_cons, List.length_nil, Nat.zero_add, List.length_append] at g_5; have rf_9 : enc a_4 ++ [[.v (.int .i64 xv_5.Rec.K), .v (.int .i64 xv_5.Rec.V), .v (.int .i64 xv_5.N)]] = enc (a_4 ++ ([xv_5] : List GItem)) := by exact (q4x a_4 ([xv_5] : List GItem)).symm
    simp only [go_sem, g_5, rf_9]; simp only [rf_8]; exact au
   · exact au
  · exact au
 ·
  rintro a_2 h
  try dsimp only at h
  rw [qi3] at h; exact au
def q05 (mv_0 : GProg_machine) (nv_0 : Int) : Option GProg_machine :=
 (if ((mv_0.stack.length : Int) == 8) = true then some (⟨mv_0.r, mv_0.stack, mv_0.out, mv_0.at_, 1⟩ : GProg_machine)
 else p9 ((mv_0.stack.length + List.length ([nv_0] : List Int)) * 8 ≤ 140737488355328) (
 some (⟨mv_0.r, (mv_0.stack ++ ([nv_0] : List Int)), mv_0.out, mv_0.at_, mv_0.bad⟩ : GProg_machine)))
theorem q0i (mv_0 : GProg_machine) (nv_0 : Int)  (r : GProg_machine) (h : q05 mv_0 nv_0 = some r) : DetS pp 138 [.ptr 0 0, .v (.int .i64 nv_0)] [(0, .box [.v (.int .i64 mv_0.r.K), .v (.int .i64 mv_0.r.V), .osl 1 1 (0) (mv_0.stack.length), .osl 2 2 (0) (mv_0.out.length), .v (.int .i64 mv_0.at_), .v (.int .i64 mv_0.bad)]), (1, .arr 1 (enc mv_0.stack)), (2, .arr 2 (enc mv_0.out))] 3 (.tup []) [(0, .box [.v (.int .i64 r.r.K), .v (.int .i64 r.r.V), .osl 3 1 (0) (r.stack.length), .osl 4 2 (0) (r.out.length), .v (.int .i64 r.at_), .v (.int .i64 r.bad)]), (3, .arr 1 (enc r.stack)), (4, .arr 2 (enc r.out))] 5 := by
 refine dtI Tryz.func138 rfl ?_; rw [q05] at h; have F := trivial; refine sg fun _ Q1 => ?_; refine sM ?_; refine sB h (fun _ h => ?_) fun _ h => ?_
 · exact au
 ·
  refine y7 (q8 Q1 ?_); have rf_0 : [[.v (.int .i64 nv_0)]] = enc ([nv_0] : List Int) := by rfl
  obtain ⟨g_0, h⟩ := q09 h; have F := And.intro F g_0; simp only [List.length_cons, List.length_nil, Nat.zero_add, List.length_append] at g_0; have rf_1 : enc mv_0.stack ++ [[.v (.int .i64 nv_0)]] = enc (mv_0.stack ++ ([nv_0] : List Int)) := by exact (q4x mv_0.stack ([nv_0] : List Int)).symm
  simp only [go_sem, g_0, rf_1]; simp only [rf_0]; obtain rfl := Option.some.inj h; refine q1s [some 4, some 2] ?_; exact leA
def q28 (mv_0 : GProg_machine) (xv_0 : GIns) : Option (Bool × GProg_machine) :=
 (if (xv_0.Op == 1) = true then q9 (q05 mv_0 xv_0.N) (fun v_0 =>
 some (true, v_0))
 else (if (xv_0.Op == 2) = true then q9 (q05 mv_0 mv_0.r.K) (fun v_1 =>
 some (true, v_1))
 else (if (xv_0.Op == 3) = true then q9 (q05 mv_0 mv_0.r.V) (fun v_2 =>
 some (true, v_2))
 else (if (xv_0.Op == 11) = true then (if (decide ((i64.wrap ((mv_0.stack.length : Int) - 1)) < 0)) = true then some (true, (⟨mv_0.r, mv_0.stack, mv_0.out, mv_0.at_, 1⟩ : GProg_machine))
 else p9 (0 ≤ i64.wrap ((mv_0.stack.length : Int) - 1) ∧ i64.wrap ((mv_0.stack.length : Int) - 1) ≤ (mv_0.stack.length : Int) ∧ (mv_0.stack.length : Int) ≤ (mv_0.stack.length : Int) ∧ (mv_0.stack.length : Int) ≤ (mv_0.stack.length : Int)) (
 p9 (0 ≤ 0 ∧ 0 ≤ i64.wrap ((mv_0.stack.length : Int) - 1) ∧ i64.wrap ((mv_0.stack.length : Int) - 1) ≤ (mv_0.stack.length : Int)) (
 p9 (0 < Int.toNat (mv_0.stack.length : Int) - Int.toNat (i64.wrap ((mv_0.stack.length : Int) - 1))) (
 q9 (idx (List.take (Int.toNat (mv_0.stack.length : Int) - Int.toNat (i64.wrap ((mv_0.stack.length : Int) - 1))) (List.drop (Int.toNat (i64.wrap ((mv_0.stack.length : Int) - 1))) mv_0.stack)) 0) (fun xv_1 =>
 q9 (q05 (⟨mv_0.r, (List.take (Int.toNat (i64.wrap ((mv_0.stack.length : Int) - 1))) mv_0.stack), mv_0.out, mv_0.at_, mv_0.bad⟩ : GProg_machine) xv_1) (fun v_3 =>
 q9 (q05 v_3 xv_1) (fun v_4 =>
 some (true, v_4))))))))
 else (if (xv_0.Op == 12) = true then (if (decide ((i64.wrap ((mv_0.stack.length : Int) - 2)) < 0)) = true then some (true, (⟨mv_0.r, mv_0.stack, mv_0.out, mv_0.at_, 1⟩ : GProg_machine))
 else p9 (0 ≤ i64.wrap ((mv_0.stack.length : Int) - 2) ∧ i64.wrap ((mv_0.stack.length : Int) - 2) ≤ (mv_0.stack.length : Int) ∧ (mv_0.stack.length : Int) ≤ (mv_0.stack.length : Int) ∧ (mv_0.stack.length : Int) ≤ (mv_0.stack.length : Int)) (
 p9 (0 ≤ 0 ∧ 0 ≤ i64.wrap ((mv_0.stack.length : Int) - 2) ∧ i64.wrap ((mv_0.stack.length : Int) - 2) ≤ (mv_0.stack.length : Int)) (
 p9 (0 < Int.toNat (mv_0.stack.length : Int) - Int.toNat (i64.wrap ((mv_0.stack.length : Int) - 2))) (
 q9 (idx (List.take (Int.toNat (mv_0.stack.length : Int) - Int.toNat (i64.wrap ((mv_0.stack.length : Int) - 2))) (List.drop (Int.toNat (i64.wrap ((mv_0.stack.length : Int) - 2))) mv_0.stack)) 0) (fun xv_2 =>
 q9 (idx (List.take (Int.toNat (mv_0.stack.length : Int) - Int.toNat (i64.wrap ((mv_0.stack.length : Int) - 2))) (List.drop (Int.toNat (i64.wrap ((mv_0.stack.length : Int) - 2))) mv_0.stack)) 1) (fun xv_3 =>
 q9 (q05 (⟨mv_0.r, (List.take (Int.toNat (i64.wrap ((mv_0.stack.length : Int) - 2))) mv_0.stack), mv_0.out, mv_0.at_, mv_0.bad⟩ : GProg_machine) xv_3) (fun v_5 =>
 q9 (q05 v_5 xv_2) (fun v_6 =>
 some (true, v_6)))))))))
 else (if (xv_0.Op == 13) = true then (if (decide ((i64.wrap ((mv_0.stack.length : Int) - 1)) < 0)) = true then some (true, (⟨mv_0.r, mv_0.stack, mv_0.out, mv_0.at_, 1⟩ : GProg_machine))
 else p9 (0 ≤ i64.wrap ((mv_0.stack.length : Int) - 1) ∧ i64.wrap ((mv_0.stack.length : Int) - 1) ≤ (mv_0.stack.length : Int) ∧ (mv_0.stack.length : Int) ≤ (mv_0.stack.length : Int) ∧ (mv_0.stack.length : Int) ≤ (mv_0.stack.length : Int)) (
 p9 (0 ≤ 0 ∧ 0 ≤ i64.wrap ((mv_0.stack.length : Int) - 1) ∧ i64.wrap ((mv_0.stack.length : Int) - 1) ≤ (mv_0.stack.length : Int)) (
 some (true, (⟨mv_0.r, (List.take (Int.toNat (i64.wrap ((mv_0.stack.length : Int) - 1))) mv_0.stack), mv_0.out, mv_0.at_, mv_0.bad⟩ : GProg_machine)))))
 else some (false, mv_0)))))))
theorem qe1 (mv_0 : GProg_machine) (xv_0 : GIns)  (r : Bool × GProg_machine) (h : q28 mv_0 xv_0 = some r) : DetS pp 135 [.ptr 0 0, .agg (Row.row xv_0)] [(0, .box [.v (.int .i64 mv_0.r.K), .v (.int .i64 mv_0.r.V), .osl 1 1 (0) (mv_0.stack.length), .osl 2 2 (0) (mv_0.out.length), .v (.int .i64 mv_0.at_), .v (.int .i64 mv_0.bad)]), (1, .arr 1 (enc mv_0.stack)), (2, .arr 2 (enc mv_0.out))] 3 (.v (.bool r.1)) [(0, .box [.v (.int .i64 r.2.r.K), .v (.int .i64 r.2.r.V), .osl 3 1 (0) (r.2.stack.length), .osl 4 2 (0) (r.2.out.length), .v (.int .i64 r.2.at_), .v (.int .i64 r.2.bad)]), (3, .arr 1 (enc r.2.stack)), (4, .arr 2 (enc r.2.out))] 5 := by
 refine dtI Tryz.func135 rfl ?_; rw [q28] at h; have F := trivial; refine sM ?_; refine jg fun _ Q2 => ?_; refine sM ?_; refine w9 fun _ Q4 => ?_; refine sM ?_; refine sB h (fun _ h => ?_) fun _ h => ?_
 · obtain ⟨v_0, ev_0, h⟩ := z8 h; simp only [go_sem]; refine q1o [0, 1, 2] (q0i mv_0 xv_0.N v_0 ev_0) ?_; simp only [go_sem]; exact au
 ·
  refine sM ?_; refine sB h (fun _ h => ?_) fun _ h => ?_
  · obtain ⟨v_1, ev_1, h⟩ := z8 h; simp only [go_sem]; refine q1o [0, 1, 2] (q0i mv_0 mv_0.r.K v_1 ev_1) ?_; simp only [go_sem]; exact au
  ·
   refine sM ?_; refine sB h (fun _ h => ?_) fun _ h => ?_
   · obtain ⟨v_2, ev_2, h⟩ := z8 h; simp only [go_sem]; refine q1o [0, 1, 2] (q0i mv_0 mv_0.r.V v_2 ev_2) ?_; simp only [go_sem]; exact au
   ·
    refine sM ?_; refine sB h (fun _ h => ?_) fun _ h => ?_
    ·
     refine sg fun _ Q12 => ?_; simp only [go_sem]; refine q6y Tryz.func136 rfl (by kernel_rfl) (by kernel_rfl) ?_; refine sM ?_; refine sM ?_; refine sg fun _ Q15 => ?_; refine sM ?_; refine sB h (fun _ h => ?_) fun _ h => ?_
     ·
      refine sM ?_; refine sM ?_; refine q02 (q15 Q15 ?_); simp only [go_sem]; refine q1p [] [(0, .box [.v (.int .i64 mv_0.r.K), .v (.int .i64 mv_0.r.V), .osl 1 1 (0) (mv_0.stack.length), .osl 2 2 (0) (mv_0.out.length), .v (.int .i64 mv_0.at_), .v (.int .i64 1)]), (1, .arr 1 (enc mv_0.stack)), (2, .arr 2 (enc mv_0.out)), (3, .box (Row.row xv_0))] 4 (.v (.slice none 0 0)) ?_ ?_
      · exact leA
      refine q29 ?_; simp only [go_sem]; exact au
     ·
      refine y7 (q8 Q15 (sg fun _ Q21 => ?_)); refine q07 ?_; refine j8g ?_; obtain ⟨F, h⟩ := bG F h; simp only [go_sem, F]; refine q8 Q21 (sg fun _ Q22 => ?_); obtain ⟨F, h⟩ := bG F h; simp only [go_sem, F]; refine q8 Q22 (sM ?_); refine q02 ?_; simp only [go_sem]; refine q1p [] [(0, .box [.v (.int .i64 mv_0.r.K), .v (.int .i64 mv_0.r.V), .osl 1 1 (0) (Int.toNat (i64.wrap ((mv_0.stack.length : Int) - 1))), .osl 2 2 (0) (mv_0.out.length), .v (.int .i64 mv_0.at_), .v (.int .i64 mv_0.bad)]), (1, .arr 1 (enc mv_0.stack)), (2, .arr 2 (enc mv_0.out)), (3, .box (Row.row xv_0))] 4 (.osl 1 1 (Int.toNat (i64.wrap ((mv_0.stack.length : Int) - 1))) (Int.toNat (mv_0.stack.length : Int) - Int.toNat (i64.wrap ((mv_0.stack.length : Int) - 1)))) ?_ ?_
      · exact leA
      refine q29 ?_; simp only [go_sem]; refine q8 Q12 (sg fun _ Q24 => ?_); obtain ⟨F, h⟩ := bG F h; simp only [go_sem, F]; refine ai ?_; refine q8 Q24 (j9z ?_); refine sg fun _ Q25 => ?_; obtain ⟨xv_1, ex1, h⟩ := z8 h; obtain ⟨f1a, f1b, f1c, fxv_1d⟩ := qf3 ex1; simp only [Int.toNat_natCast, Int.reduceToNat, Nat.zero_add, Nat.add_zero] at f1c fxv_1d; simp only [go_sem, f1a, f1b, f1c, fxv_1d]; refine ai ?_; refine q8 Q25 (sg fun _ Q26 => ?_); obtain ⟨v_3, ev_3, h⟩ := z8 h; simp only [go_sem]; refine q9l [0, 6] ([], [(0, .box [.v (.int .i64 mv_0.r.K), .v (.int .i64 mv_0.r.V), .osl 1 1 (0) (List.length (List.take (Int.toNat (i64.wrap ((mv_0.stack.length : Int) - 1))) mv_0.stack)), .osl 2 2 (0) (mv_0.out.length), .v (.int .i64 mv_0.at_), .v (.int .i64 mv_0.bad)]), (1, .arr 1 (enc (List.take (Int.toNat (i64.wrap ((mv_0.stack.length : Int) - 1))) mv_0.stack))), (2, .arr 2 (enc mv_0.out)), (3, .box (Row.row xv_0))]) 4 [some 3] [.ptr 0 0, .v (.int .i64 xv_1)] ?_; refine q1o [0, 1, 2] (q0i (⟨mv_0.r, (List.take (Int.toNat (i64.wrap ((mv_0.stack.length : Int) - 1))) mv_0.stack), mv_0.out, mv_0.at_, mv_0.bad⟩ : GProg_machine) xv_1 v_3 ev_3) ?_; simp only [go_sem]; refine q8 Q26 ?_; obtain ⟨v_4, ev_4, h⟩ := z8 h; simp only [go_sem]; refine q1o [0, 4, 5] (q0i v_3 xv_1 v_4 ev_4) ?_; simp only [go_sem]; exact au
    ·
     refine sM ?_; refine sB h (fun _ h => ?_) fun _ h => ?_
     ·
      refine sg fun _ Q29 => ?_; simp only [go_sem]; refine q6y Tryz.func136 rfl (by kernel_rfl) (by kernel_rfl) ?_; refine sM ?_; refine sM ?_; refine sg fun _ Q32 => ?_; refine sM ?_; refine sB h (fun _ h => ?_) fun _ h => ?_
      ·
       refine sM ?_; refine sM ?_; refine q02 (q15 Q32 ?_); simp only [go_sem]; refine q1p [] [(0, .box [.v (.int .i64 mv_0.r.K), .v (.int .i64 mv_0.r.V), .osl 1 1 (0) (mv_0.stack.length), .osl 2 2 (0) (mv_0.out.length), .v (.int .i64 mv_0.at_), .v (.int .i64 1)]), (1, .arr 1 (enc mv_0.stack)), (2, .arr 2 (enc mv_0.out)), (3, .box (Row.row xv_0))] 4 (.v (.slice none 0 0)) ?_ ?_
       · exact leA
       refine q29 ?_; simp only [go_sem]; exact au
      ·
       refine y7 (q8 Q32 (sg fun _ Q38 => ?_)); refine q07 ?_; refine j8g ?_; obtain ⟨F, h⟩ := bG F h; simp only [go_sem, F]; refine q8 Q38 (sg fun _ Q39 => ?_); obtain ⟨F, h⟩ := bG F h; simp only [go_sem, F]; refine q8 Q39 (sM ?_); refine q02 ?_; simp only [go_sem]; refine q1p [] [(0, .box [.v (.int .i64 mv_0.r.K), .v (.int .i64 mv_0.r.V), .osl 1 1 (0) (Int.toNat (i64.wrap ((mv_0.stack.length : Int) - 2))), .osl 2 2 (0) (mv_0.out.length), .v (.int .i64 mv_0.at_), .v (.int .i64 mv_0.bad)]), (1, .arr 1 (enc mv_0.stack)), (2, .arr 2 (enc mv_0.out)), (3, .box (Row.row xv_0))] 4 (.osl 1 1 (Int.toNat (i64.wrap ((mv_0.stack.length : Int) - 2))) (Int.toNat (mv_0.stack.length : Int) - Int.toNat (i64.wrap ((mv_0.stack.length : Int) - 2)))) ?_ ?_
       · exact leA
       refine q29 ?_; simp only [go_sem]; refine q8 Q29 (sg fun _ Q41 => ?_); obtain ⟨F, h⟩ := bG F h; simp only [go_sem, F]; refine ai ?_; refine q8 Q41 (j9z ?_); refine sg fun _ Q42 => ?_; refine q07 ?_; refine j8g ?_; obtain ⟨xv_2, ex2, h⟩ := z8 h; obtain ⟨f2a, f2b, f2c, fxv_2d⟩ := qf3 ex2; simp only [Int.toNat_natCast, Int.reduceToNat, Nat.zero_add, Nat.add_zero] at f2c fxv_2d; obtain ⟨xv_3, ex3, h⟩ := z8 h; obtain ⟨f3a, f3b, f3c, fxv_3d⟩ := qf3 ex3; simp only [Int.toNat_natCast, Int.reduceToNat, Nat.zero_add, Nat.add_zero] at f3c fxv_3d; simp only [go_sem, f2a, f2b, f2c, fxv_2d, f3a, f3b, f3c, fxv_3d]; refine ai ?_; refine ai ?_; refine q8 Q42 (sg fun _ Q43 => ?_); obtain ⟨v_5, ev_5, h⟩ := z8 h; simp only [go_sem]; refine q9l [0, 8] ([], [(0, .box [.v (.int .i64 mv_0.r.K), .v (.int .i64 mv_0.r.V), .osl 1 1 (0) (List.length (List.take (Int.toNat (i64.wrap ((mv_0.stack.length : Int) - 2))) mv_0.stack)), .osl 2 2 (0) (mv_0.out.length), .v (.int .i64 mv_0.at_), .v (.int .i64 mv_0.bad)]), (1, .arr 1 (enc (List.take (Int.toNat (i64.wrap ((mv_0.stack.length : Int) - 2))) mv_0.stack))), (2, .arr 2 (enc mv_0.out)), (3, .box (Row.row xv_0))]) 4 [some 3] [.ptr 0 0, .v (.int .i64 xv_3)] ?_; refine q1o [0, 1, 2] (q0i (⟨mv_0.r, (List.take (Int.toNat (i64.wrap ((mv_0.stack.length : Int) - 2))) mv_0.stack), mv_0.out, mv_0.at_, mv_0.bad⟩ : GProg_machine) xv_3 v_5 ev_5) ?_; simp only [go_sem]; refine q8 Q43 ?_; obtain ⟨v_6, ev_6, h⟩ := z8 h; simp only [go_sem]; refine q1o [0, 4, 5] (q0i v_5 xv_2 v_6 ev_6) ?_; simp only [go_sem]; exact au
     ·
      refine sM ?_; refine sB h (fun _ h => ?_) fun _ h => ?_
      ·
       simp only [go_sem]; refine q6y Tryz.func136 rfl (by kernel_rfl) (by kernel_rfl) ?_; refine sM ?_; refine sM ?_; refine sg fun _ Q48 => ?_; refine sM ?_; refine sB h (fun _ h => ?_) fun _ h => ?_
       ·
        refine sM ?_; refine sM ?_; refine q02 (q15 Q48 ?_); simp only [go_sem]; refine q1p [] [(0, .box [.v (.int .i64 mv_0.r.K), .v (.int .i64 mv_0.r.V), .osl 1 1 (0) (mv_0.stack.length), .osl 2 2 (0) (mv_0.out.length), .v (.int .i64 mv_0.at_), .v (.int .i64 1)]), (1, .arr 1 (enc mv_0.stack)), (2, .arr 2 (enc mv_0.out)), (3, .box (Row.row xv_0))] 4 (.v (.slice none 0 0)) ?_ ?_
        · exact leA
        refine q29 ?_; simp only [go_sem]; exact au
       ·
        refine y7 (q8 Q48 (sg fun _ Q53 => ?_)); refine q07 ?_; refine j8g ?_; obtain ⟨F, h⟩ := bG F h; simp only [go_sem, F]; refine q8 Q53 (sg fun _ Q54 => ?_); obtain ⟨F, h⟩ := bG F h; simp only [go_sem, F]; refine q8 Q54 (sM ?_); refine q02 ?_; simp only [go_sem]; refine q1p [] [(0, .box [.v (.int .i64 mv_0.r.K), .v (.int .i64 mv_0.r.V), .osl 1 1 (0) (Int.toNat (i64.wrap ((mv_0.stack.length : Int) - 1))), .osl 2 2 (0) (mv_0.out.length), .v (.int .i64 mv_0.at_), .v (.int .i64 mv_0.bad)]), (1, .arr 1 (enc mv_0.stack)), (2, .arr 2 (enc mv_0.out)), (3, .box (Row.row xv_0))] 4 (.osl 1 1 (Int.toNat (i64.wrap ((mv_0.stack.length : Int) - 1))) (Int.toNat (mv_0.stack.length : Int) - Int.toNat (i64.wrap ((mv_0.stack.length : Int) - 1)))) ?_ ?_
        · exact leA
        refine q29 ?_; simp only [go_sem]; exact au
      · exact au
def q7o (nv_0 : Int) : Option Int :=
 (if (decide (nv_0 < 0)) = true then some (IntKind.u64.wrap (0 - (IntKind.u64.wrap nv_0)))
 else some (IntKind.u64.wrap nv_0))
instance j1o (nv_0 : Int) : Ct pp 141 (q7o nv_0) [.v (.int .i64 nv_0)] fun r => (.v (.int .u64 r)) := ctI Tryz.func141 rfl (by rw [q7o]; exact au1)
def q34 (xv_0 : Int) (y_0 : Int) : Option (Int × Int) :=
 some (IntKind.u64.wrap ((IntKind.u64.wrap ((IntKind.u64.wrap ((q26 .u64 xv_0 32) * (q26 .u64 y_0 32))) + (q26 .u64 (IntKind.u64.wrap ((IntKind.u64.wrap ((q26 .u64 xv_0 32) * (qr9 .u64 y_0 4294967295))) + (q26 .u64 (IntKind.u64.wrap ((qr9 .u64 xv_0 4294967295) * (qr9 .u64 y_0 4294967295))) 32))) 32))) + (q26 .u64 (IntKind.u64.wrap ((qr9 .u64 (IntKind.u64.wrap ((IntKind.u64.wrap ((q26 .u64 xv_0 32) * (qr9 .u64 y_0 4294967295))) + (q26 .u64 (IntKind.u64.wrap ((qr9 .u64 xv_0 4294967295) * (qr9 .u64 y_0 4294967295))) 32))) 4294967295) + (IntKind.u64.wrap ((qr9 .u64 xv_0 4294967295) * (q26 .u64 y_0 32))))) 32)), IntKind.u64.wrap (xv_0 * y_0))
instance zv5 (xv_0 : Int) (y_0 : Int) : Ct pp 128 (q34 xv_0 y_0) [.v (.int .u64 xv_0), .v (.int .u64 y_0)] fun r => (.tup [.v (.int .u64 r.1), .v (.int .u64 r.2)]) := ctI Tryz.func128 rfl (by rw [q34]; exact au1)
def qg1 (a_0 : Int) (b_0 : Int) : Option (Int × Bool) :=
 q9 (q7o a_0) (fun v_0 =>
 q9 (q7o b_0) (fun v_1 =>
 q9 (q34 v_0 v_1) (fun v_2 =>
 (if (!((decide (a_0 < 0)) == (decide (b_0 < 0)))) = true then some (i64.wrap (0 - (i64.wrap v_2.2)), ((v_2.1 == 0) && (decide (v_2.2 ≤ 9223372036854775808))))
 else some (i64.wrap v_2.2, ((v_2.1 == 0) && (decide (v_2.2 < 9223372036854775808))))))))
instance j46 (a_0 : Int) (b_0 : Int) : Ct pp 139 (qg1 a_0 b_0) [.v (.int .i64 a_0), .v (.int .i64 b_0)] fun r => (.tup [.v (.int .i64 r.1), .v (.bool r.2)]) := ctI Tryz.func139 rfl (by rw [qg1]; exact au1)
def q9d (ok_0 : Bool) : Option Int :=
 (if ok_0 = true then some 1
 else some 0)
instance j45 (ok_0 : Bool) : Ct pp 140 (q9d ok_0) [.v (.bool ok_0)] fun r => (.v (.int .i64 r)) := ctI Tryz.func140 rfl (by rw [q9d]; exact au1)
def q2b (nv_0 : Int) (ok_0 : Bool) : Option (Int × Int) :=
 (if (!ok_0) = true then some (0, 2)
 else some (nv_0, 0))
def q8h (op_0 : Int) (a_0 : Int) (b_0 : Int) (t53_1 : Bool) : Option (Int × Int) :=
 (if t53_1 = true then (if (b_0 == 0) = true then some (0, 3)
 else (if ((b_0 == (-1)) && (op_0 == 8)) = true then q2b 0 true
 else (if (b_0 == (-1)) = true then q2b (i64.wrap (0 - a_0)) (!(a_0 == (-9223372036854775808)))
 else (if (op_0 == 7) = true then p9 (b_0 ≠ 0) (
 q2b (i64.wrap (Int.tdiv a_0 b_0)) true)
 else p9 (b_0 ≠ 0) (
 q2b (Int.tmod a_0 b_0) true)))))
 else (if (op_0 == 9) = true then q9 (q9d (decide (a_0 < b_0))) (fun v_4 =>
 q2b v_4 true)
 else (if (op_0 == 10) = true then q9 (q9d (a_0 == b_0)) (fun v_5 =>
 q2b v_5 true)
 else q2b 0 true)))
def qo5 (op_0 : Int) (a_0 : Int) (b_0 : Int) : Option (Int × Int) :=
 (if (op_0 == 4) = true then q2b (i64.wrap (a_0 + b_0)) ((!((decide (a_0 < 0)) == (decide (b_0 < 0)))) || ((decide ((i64.wrap (a_0 + b_0)) < 0)) == (decide (a_0 < 0))))
 else (if (op_0 == 5) = true then q2b (i64.wrap (a_0 - b_0)) (((decide (a_0 < 0)) == (decide (b_0 < 0))) || ((decide ((i64.wrap (a_0 - b_0)) < 0)) == (decide (a_0 < 0))))
 else (if (op_0 == 6) = true then q9 (qg1 a_0 b_0) (fun v_3 =>
 q2b v_3.1 v_3.2)
 else (if (op_0 == 7) = true then q8h op_0 a_0 b_0 (op_0 == 7)
 else q8h op_0 a_0 b_0 (op_0 == 8)))))
instance za4 (op_0 : Int) (a_0 : Int) (b_0 : Int) : Ct pp 137 (qo5 op_0 a_0 b_0) [.v (.int .i64 op_0), .v (.int .i64 a_0), .v (.int .i64 b_0)] fun r => (.tup [.v (.int .i64 r.1), .v (.int .i64 r.2)]) := ctK Tryz.func137 rfl (by rw [qo5]) (by
 intro r h F; refine sM ?_; refine sM ?_; refine q3p (fun ((nv_0, ok_0) : Int × Bool) => q2b nv_0 ok_0 = some r) [] (fun x => ([(8, .v (.int .i64 x.1)), (9, .v (.bool x.2))], [])) 0 ?_ ?_
 ·
  intro _ Q7; refine sM ?_; refine w9 fun _ Q9 => ?_; refine sM ?_; refine sB h (fun _ h => ?_) fun _ h => ?_
  · exact au
  ·
   refine sM ?_; refine sB h (fun _ h => ?_) fun _ h => ?_
   · exact au
   ·
    refine sM ?_; refine sB h (fun _ h => ?_) fun _ h => ?_
    · exact au
    ·
     refine q3p (fun (t53_1 : Bool) => q8h op_0 a_0 b_0 t53_1 = some r) [0, 1, 2, 8, 9, 10] (fun t53_1 => ([(53, .v (.bool t53_1))], [])) 0 ?_ ?_
     · intro _ Q23; exact au
     ·
      rintro t53_1 h
      try dsimp only at h
      rw [q8h] at h; exact au
 ·
  rintro ⟨nv_0, ok_0⟩ h
  try dsimp only at h
  rw [q2b] at h; exact au)
def q2d (mv_0 : GProg_machine) (xv_0 : GIns) : Option GProg_machine :=
 q9 (q28 (⟨mv_0.r, mv_0.stack, mv_0.out, i64.wrap (mv_0.at_ + 1), mv_0.bad⟩ : GProg_machine) xv_0) (fun v_0 =>
 (if v_0.1 = true then some v_0.2
 else (if (xv_0.Op == 14) = true then some (⟨v_0.2.r, v_0.2.stack, v_0.2.out, xv_0.N, v_0.2.bad⟩ : GProg_machine)
 else (if (xv_0.Op == 15) = true then (if (decide ((i64.wrap ((v_0.2.stack.length : Int) - 1)) < 0)) = true then some (⟨v_0.2.r, v_0.2.stack, v_0.2.out, v_0.2.at_, 1⟩ : GProg_machine)
 else p9 (0 ≤ i64.wrap ((v_0.2.stack.length : Int) - 1) ∧ i64.wrap ((v_0.2.stack.length : Int) - 1) ≤ (v_0.2.stack.length : Int) ∧ (v_0.2.stack.length : Int) ≤ (v_0.2.stack.length : Int) ∧ (v_0.2.stack.length : Int) ≤ (v_0.2.stack.length : Int)) (
 p9 (0 ≤ 0 ∧ 0 ≤ i64.wrap ((v_0.2.stack.length : Int) - 1) ∧ i64.wrap ((v_0.2.stack.length : Int) - 1) ≤ (v_0.2.stack.length : Int)) (
 p9 (0 < Int.toNat (v_0.2.stack.length : Int) - Int.toNat (i64.wrap ((v_0.2.stack.length : Int) - 1))) (
 q9 (idx (List.take (Int.toNat (v_0.2.stack.length : Int) - Int.toNat (i64.wrap ((v_0.2.stack.length : Int) - 1))) (List.drop (Int.toNat (i64.wrap ((v_0.2.stack.length : Int) - 1))) v_0.2.stack)) 0) (fun xv_1 =>
 (if (xv_1 == 0) = true then some (⟨v_0.2.r, (List.take (Int.toNat (i64.wrap ((v_0.2.stack.length : Int) - 1))) v_0.2.stack), v_0.2.out, xv_0.N, v_0.2.bad⟩ : GProg_machine)
 else some (⟨v_0.2.r, (List.take (Int.toNat (i64.wrap ((v_0.2.stack.length : Int) - 1))) v_0.2.stack), v_0.2.out, v_0.2.at_, v_0.2.bad⟩ : GProg_machine)))))))
 else (if (xv_0.Op == 16) = true then (if (decide ((i64.wrap ((v_0.2.stack.length : Int) - 2)) < 0)) = true then some (⟨v_0.2.r, v_0.2.stack, v_0.2.out, v_0.2.at_, 1⟩ : GProg_machine)
 else p9 (0 ≤ i64.wrap ((v_0.2.stack.length : Int) - 2) ∧ i64.wrap ((v_0.2.stack.length : Int) - 2) ≤ (v_0.2.stack.length : Int) ∧ (v_0.2.stack.length : Int) ≤ (v_0.2.stack.length : Int) ∧ (v_0.2.stack.length : Int) ≤ (v_0.2.stack.length : Int)) (
 p9 (0 ≤ 0 ∧ 0 ≤ i64.wrap ((v_0.2.stack.length : Int) - 2) ∧ i64.wrap ((v_0.2.stack.length : Int) - 2) ≤ (v_0.2.stack.length : Int)) (
 p9 (0 < Int.toNat (v_0.2.stack.length : Int) - Int.toNat (i64.wrap ((v_0.2.stack.length : Int) - 2))) (
 (if ((v_0.2.out.length : Int) == 8) = true then some (⟨v_0.2.r, (List.take (Int.toNat (i64.wrap ((v_0.2.stack.length : Int) - 2))) v_0.2.stack), v_0.2.out, v_0.2.at_, 5⟩ : GProg_machine)
 else q9 (idx (List.take (Int.toNat (v_0.2.stack.length : Int) - Int.toNat (i64.wrap ((v_0.2.stack.length : Int) - 2))) (List.drop (Int.toNat (i64.wrap ((v_0.2.stack.length : Int) - 2))) v_0.2.stack)) 0) (fun xv_2 =>
 q9 (idx (List.take (Int.toNat (v_0.2.stack.length : Int) - Int.toNat (i64.wrap ((v_0.2.stack.length : Int) - 2))) (List.drop (Int.toNat (i64.wrap ((v_0.2.stack.length : Int) - 2))) v_0.2.stack)) 1) (fun xv_3 =>
 p9 ((v_0.2.out.length + List.length ([(⟨xv_2, xv_3⟩ : GRec)] : List GRec)) * 16 ≤ 140737488355328) (
 some (⟨v_0.2.r, (List.take (Int.toNat (i64.wrap ((v_0.2.stack.length : Int) - 2))) v_0.2.stack), (v_0.2.out ++ ([(⟨xv_2, xv_3⟩ : GRec)] : List GRec)), v_0.2.at_, v_0.2.bad⟩ : GProg_machine)))))))))
 else (if (decide ((i64.wrap ((v_0.2.stack.length : Int) - 2)) < 0)) = true then some (⟨v_0.2.r, v_0.2.stack, v_0.2.out, v_0.2.at_, 1⟩ : GProg_machine)
 else p9 (0 ≤ i64.wrap ((v_0.2.stack.length : Int) - 2) ∧ i64.wrap ((v_0.2.stack.length : Int) - 2) ≤ (v_0.2.stack.length : Int) ∧ (v_0.2.stack.length : Int) ≤ (v_0.2.stack.length : Int) ∧ (v_0.2.stack.length : Int) ≤ (v_0.2.stack.length : Int)) (
 p9 (0 ≤ 0 ∧ 0 ≤ i64.wrap ((v_0.2.stack.length : Int) - 2) ∧ i64.wrap ((v_0.2.stack.length : Int) - 2) ≤ (v_0.2.stack.length : Int)) (
 p9 (0 < Int.toNat (v_0.2.stack.length : Int) - Int.toNat (i64.wrap ((v_0.2.stack.length : Int) - 2))) (
 q9 (idx (List.take (Int.toNat (v_0.2.stack.length : Int) - Int.toNat (i64.wrap ((v_0.2.stack.length : Int) - 2))) (List.drop (Int.toNat (i64.wrap ((v_0.2.stack.length : Int) - 2))) v_0.2.stack)) 0) (fun xv_4 =>
 q9 (idx (List.take (Int.toNat (v_0.2.stack.length : Int) - Int.toNat (i64.wrap ((v_0.2.stack.length : Int) - 2))) (List.drop (Int.toNat (i64.wrap ((v_0.2.stack.length : Int) - 2))) v_0.2.stack)) 1) (fun xv_5 =>
 q9 (qo5 xv_0.Op xv_4 xv_5) (fun v_1 =>
 q9 (q05 (⟨v_0.2.r, (List.take (Int.toNat (i64.wrap ((v_0.2.stack.length : Int) - 2))) v_0.2.stack), v_0.2.out, v_0.2.at_, v_1.2⟩ : GProg_machine) v_1.1) (fun v_2 =>
 some v_2)))))))))))))
theorem qg2 (mv_0 : GProg_machine) (xv_0 : GIns)  (r : GProg_machine) (h : q2d mv_0 xv_0 = some r) : DetS pp 131 [.ptr 0 0, .agg (Row.row xv_0)] [(0, .box [.v (.int .i64 mv_0.r.K), .v (.int .i64 mv_0.r.V), .osl 1 1 (0) (mv_0.stack.length), .osl 2 2 (0) (mv_0.out.length), .v (.int .i64 mv_0.at_), .v (.int .i64 mv_0.bad)]), (1, .arr 1 (enc mv_0.stack)), (2, .arr 2 (enc mv_0.out))] 3 (.tup []) [(0, .box [.v (.int .i64 r.r.K), .v (.int .i64 r.r.V), .osl 3 1 (0) (r.stack.length), .osl 4 2 (0) (r.out.length), .v (.int .i64 r.at_), .v (.int .i64 r.bad)]), (3, .arr 1 (enc r.stack)), (4, .arr 2 (enc r.out))] 5 := by
 refine dtI Tryz.func131 rfl ?_; rw [q2d] at h; have F := trivial; refine sM ?_; refine sM ?_; refine sg fun _ Q3 => ?_; refine sg fun _ Q4 => ?_; obtain ⟨v_0, ev_0, h⟩ := z8 h; simp only [go_sem]; refine q1o [0, 1, 2] (qe1 (⟨mv_0.r, mv_0.stack, mv_0.out, i64.wrap (mv_0.at_ + 1), mv_0.bad⟩ : GProg_machine) xv_0 v_0 ev_0) ?_; simp only [go_sem]; refine q8 Q4 (sB h (fun _ h => ?_) fun _ h => ?_)
 · exact au
 ·
  refine y7 (q8 Q3 (sM ?_)); refine w9 fun _ Q6 => ?_; refine sM ?_; refine sB h (fun _ h => ?_) fun _ h => ?_
  · exact au
  ·
   refine sM ?_; refine sB h (fun _ h => ?_) fun _ h => ?_
   ·
    refine sg fun _ Q9 => ?_; simp only [go_sem]; refine q6y Tryz.func136 rfl (by kernel_rfl) (by kernel_rfl) ?_; refine sM ?_; refine sM ?_; refine sg fun _ Q12 => ?_; refine sM ?_; refine sB h (fun _ h => ?_) fun _ h => ?_
    ·
     refine sM ?_; refine sM ?_; refine q02 (q15 Q12 ?_); simp only [go_sem]; refine q1p [] [(0, .box [.v (.int .i64 v_0.2.r.K), .v (.int .i64 v_0.2.r.V), .osl 4 1 (0) (v_0.2.stack.length), .osl 5 2 (0) (v_0.2.out.length), .v (.int .i64 v_0.2.at_), .v (.int .i64 1)]), (3, .box (Row.row xv_0)), (4, .arr 1 (enc v_0.2.stack)), (5, .arr 2 (enc v_0.2.out))] 6 (.v (.slice none 0 0)) ?_ ?_
     · exact leA
     refine q29 ?_; simp only [go_sem]; exact au
    ·
     refine y7 (q8 Q12 (sg fun _ Q17 => ?_)); refine q07 ?_; refine j8g ?_; obtain ⟨F, h⟩ := bG F h; simp only [go_sem, F]; refine q8 Q17 (sg fun _ Q18 => ?_); obtain ⟨F, h⟩ := bG F h; simp only [go_sem, F]; refine q8 Q18 (sM ?_); refine q02 ?_; simp only [go_sem]; refine q1p [] [(0, .box [.v (.int .i64 v_0.2.r.K), .v (.int .i64 v_0.2.r.V), .osl 4 1 (0) (Int.toNat (i64.wrap ((v_0.2.stack.length : Int) - 1))), .osl 5 2 (0) (v_0.2.out.length), .v (.int .i64 v_0.2.at_), .v (.int .i64 v_0.2.bad)]), (3, .box (Row.row xv_0)), (4, .arr 1 (enc v_0.2.stack)), (5, .arr 2 (enc v_0.2.out))] 6 (.osl 4 1 (Int.toNat (i64.wrap ((v_0.2.stack.length : Int) - 1))) (Int.toNat (v_0.2.stack.length : Int) - Int.toNat (i64.wrap ((v_0.2.stack.length : Int) - 1)))) ?_ ?_
     · exact leA
     refine q29 ?_; simp only [go_sem]; refine q8 Q9 (sg fun _ Q20 => ?_); obtain ⟨F, h⟩ := bG F h; obtain ⟨xv_1, ex1, h⟩ := z8 h; obtain ⟨f1a, f1b, f1c, fxv_1d⟩ := qf3 ex1; simp only [Int.toNat_natCast, Int.reduceToNat, Nat.zero_add, Nat.add_zero] at f1c fxv_1d; simp only [go_sem, f1a, f1b, f1c, fxv_1d, F]; refine ai ?_; refine ai ?_; exact au
   ·
    refine sM ?_; refine sB h (fun _ h => ?_) fun _ h => ?_
    ·
     refine sg fun _ Q22 => ?_; simp only [go_sem]; refine q6y Tryz.func136 rfl (by kernel_rfl) (by kernel_rfl) ?_; refine sM ?_; refine sM ?_; refine sg fun _ Q25 => ?_; refine sM ?_; refine sB h (fun _ h => ?_) fun _ h => ?_
     ·
      refine sM ?_; refine sM ?_; refine q02 (q15 Q25 ?_); simp only [go_sem]; refine q1p [] [(0, .box [.v (.int .i64 v_0.2.r.K), .v (.int .i64 v_0.2.r.V), .osl 4 1 (0) (v_0.2.stack.length), .osl 5 2 (0) (v_0.2.out.length), .v (.int .i64 v_0.2.at_), .v (.int .i64 1)]), (3, .box (Row.row xv_0)), (4, .arr 1 (enc v_0.2.stack)), (5, .arr 2 (enc v_0.2.out))] 6 (.v (.slice none 0 0)) ?_ ?_
      · exact leA
      refine q29 ?_; simp only [go_sem]; exact au
     ·
      refine y7 (q8 Q25 (sg fun _ Q31 => ?_)); refine q07 ?_; refine j8g ?_; obtain ⟨F, h⟩ := bG F h; simp only [go_sem, F]; refine q8 Q31 (sg fun _ Q32 => ?_); obtain ⟨F, h⟩ := bG F h; simp only [go_sem, F]; refine q8 Q32 (sM ?_); refine q02 ?_; simp only [go_sem]; refine q1p [] [(0, .box [.v (.int .i64 v_0.2.r.K), .v (.int .i64 v_0.2.r.V), .osl 4 1 (0) (Int.toNat (i64.wrap ((v_0.2.stack.length : Int) - 2))), .osl 5 2 (0) (v_0.2.out.length), .v (.int .i64 v_0.2.at_), .v (.int .i64 v_0.2.bad)]), (3, .box (Row.row xv_0)), (4, .arr 1 (enc v_0.2.stack)), (5, .arr 2 (enc v_0.2.out))] 6 (.osl 4 1 (Int.toNat (i64.wrap ((v_0.2.stack.length : Int) - 2))) (Int.toNat (v_0.2.stack.length : Int) - Int.toNat (i64.wrap ((v_0.2.stack.length : Int) - 2)))) ?_ ?_
      · exact leA
      refine q29 ?_; simp only [go_sem]; refine q8 Q22 (w9 fun _ Q34 => ?_); refine sg fun _ Q35 => ?_; obtain ⟨F, h⟩ := bG F h; simp only [go_sem, F]; refine ai ?_; refine q8 Q35 (ja0 ?_); refine sM ?_; refine sB h (fun _ h => ?_) fun _ h => ?_
      · exact au
      ·
       refine q07 ?_; refine q3g 14 0 0 [0, 0, 2, 6, 14, 0, 32, 96, 0, 256, 768, 2016, 4064, 8190, 16383, 32767, 65535] [5, 6] [0] [] [13] [] mixed (by kernel_rfl) (of_decide_eq_true (by kernel_rfl)) (by kernel_rfl) (by kernel_rfl) (by rfl) ?_; obtain ⟨xv_2, ex2, h⟩ := z8 h; obtain ⟨f2a, f2b, f2c, fxv_2d⟩ := qf3 ex2; simp only [Int.toNat_natCast, Int.reduceToNat, Nat.zero_add, Nat.add_zero] at f2c fxv_2d; obtain ⟨xv_3, ex3, h⟩ := z8 h; obtain ⟨f3a, f3b, f3c, fxv_3d⟩ := qf3 ex3; simp only [Int.toNat_natCast, Int.reduceToNat, Nat.zero_add, Nat.add_zero] at f3c fxv_3d; have rf_0 : [[.v (.int .i64 xv_2), .v (.int .i64 xv_3)]] = enc ([(⟨xv_2, xv_3⟩ : GRec)] : List GRec) := by rfl
       obtain ⟨g_6, h⟩ := q09 h; have F := And.intro F g_6; simp only [List.length_cons, List.length_nil, Nat.zero_add, List.length_append] at g_6; have rf_1 : enc v_0.2.out ++ [[.v (.int .i64 xv_2), .v (.int .i64 xv_3)]] = enc (v_0.2.out ++ ([(⟨xv_2, xv_3⟩ : GRec)] : List GRec)) := by exact (q4x v_0.2.out ([(⟨xv_2, xv_3⟩ : GRec)] : List GRec)).symm
       simp only [go_sem, f2a, f2b, f2c, fxv_2d, f3a, f3b, f3c, fxv_3d, g_6, rf_1]; refine ai ?_; refine ai ?_; simp only [rf_0]; exact au
    ·
     refine sg fun _ Q37 => ?_; simp only [go_sem]; refine q6y Tryz.func136 rfl (by kernel_rfl) (by kernel_rfl) ?_; refine sM ?_; refine sM ?_; refine sg fun _ Q40 => ?_; refine sM ?_; refine sB h (fun _ h => ?_) fun _ h => ?_
     ·
      refine sM ?_; refine sM ?_; refine q02 (q15 Q40 ?_); simp only [go_sem]; refine q1p [] [(0, .box [.v (.int .i64 v_0.2.r.K), .v (.int .i64 v_0.2.r.V), .osl 4 1 (0) (v_0.2.stack.length), .osl 5 2 (0) (v_0.2.out.length), .v (.int .i64 v_0.2.at_), .v (.int .i64 1)]), (3, .box (Row.row xv_0)), (4, .arr 1 (enc v_0.2.stack)), (5, .arr 2 (enc v_0.2.out))] 6 (.v (.slice none 0 0)) ?_ ?_
      · exact leA
      refine q29 ?_; simp only [go_sem]; exact au
     ·
      refine y7 (q8 Q40 (sg fun _ Q45 => ?_)); refine q07 ?_; refine j8g ?_; obtain ⟨F, h⟩ := bG F h; simp only [go_sem, F]; refine q8 Q45 (sg fun _ Q46 => ?_); obtain ⟨F, h⟩ := bG F h; simp only [go_sem, F]; refine q8 Q46 (sM ?_); refine q02 ?_; simp only [go_sem]; refine q1p [] [(0, .box [.v (.int .i64 v_0.2.r.K), .v (.int .i64 v_0.2.r.V), .osl 4 1 (0) (Int.toNat (i64.wrap ((v_0.2.stack.length : Int) - 2))), .osl 5 2 (0) (v_0.2.out.length), .v (.int .i64 v_0.2.at_), .v (.int .i64 v_0.2.bad)]), (3, .box (Row.row xv_0)), (4, .arr 1 (enc v_0.2.stack)), (5, .arr 2 (enc v_0.2.out))] 6 (.osl 4 1 (Int.toNat (i64.wrap ((v_0.2.stack.length : Int) - 2))) (Int.toNat (v_0.2.stack.length : Int) - Int.toNat (i64.wrap ((v_0.2.stack.length : Int) - 2)))) ?_ ?_
      · exact leA
      refine q29 ?_; simp only [go_sem]; refine q8 Q37 (sg fun _ Q48 => ?_); obtain ⟨F, h⟩ := bG F h; simp only [go_sem, F]; refine ai ?_; refine q8 Q48 (j9z ?_); refine sg fun _ Q49 => ?_; refine q07 ?_; refine j8g ?_; obtain ⟨xv_4, ex4, h⟩ := z8 h; obtain ⟨f4a, f4b, f4c, fxv_4d⟩ := qf3 ex4; simp only [Int.toNat_natCast, Int.reduceToNat, Nat.zero_add, Nat.add_zero] at f4c fxv_4d; obtain ⟨xv_5, ex5, h⟩ := z8 h; obtain ⟨f5a, f5b, f5c, fxv_5d⟩ := qf3 ex5; simp only [Int.toNat_natCast, Int.reduceToNat, Nat.zero_add, Nat.add_zero] at f5c fxv_5d; obtain ⟨v_1, ev_1, h⟩ := z8 h; simp only [go_sem, f4a, f4b, f4c, fxv_4d, f5a, f5b, f5c, fxv_5d]; refine ai ?_; refine ai ?_; refine callq (fun _ => (za4 xv_0.Op xv_4 xv_5 v_1 ev_1)) (by rfl) (by rfl) ?_; simp only [go_sem]; refine q8 Q49 (sM ?_); obtain ⟨v_2, ev_2, h⟩ := z8 h; simp only [go_sem]; refine q9l [] ([], [(0, .box [.v (.int .i64 v_0.2.r.K), .v (.int .i64 v_0.2.r.V), .osl 4 1 (0) (List.length (List.take (Int.toNat (i64.wrap ((v_0.2.stack.length : Int) - 2))) v_0.2.stack)), .osl 5 2 (0) (v_0.2.out.length), .v (.int .i64 v_0.2.at_), .v (.int .i64 v_1.2)]), (3, .box (Row.row xv_0)), (4, .arr 1 (enc (List.take (Int.toNat (i64.wrap ((v_0.2.stack.length : Int) - 2))) v_0.2.stack))), (5, .arr 2 (enc v_0.2.out))]) 6 [some 3, some 4, some 5] [.ptr 0 0, .v (.int .i64 v_1.1)] ?_; refine q1o [0, 4, 5] (q0i (⟨v_0.2.r, (List.take (Int.toNat (i64.wrap ((v_0.2.stack.length : Int) - 2))) v_0.2.stack), v_0.2.out, v_0.2.at_, v_1.2⟩ : GProg_machine) v_1.1 v_2 ev_2) ?_; simp only [go_sem]; exact au
def q8i (rv_0 : GRec) (b_8 : Int) (b_9 : Int) (b_10 : Int) (b_11 : Int) (a_4 : List Int) (a_5 : List GRec) : Option ((List GRec) × Int) :=
 (if (!(b_11 == 0)) = true then some (([(⟨rv_0.K, i64.wrap ((-9223372036854775808) + b_11)⟩ : GRec)] : List GRec), b_11)
 else some (a_5, 0))
def qu5 (p_0 : List GIns) (rv_0 : GRec) (rec_2 : Int × Int × Int × Int × Int × (List Int) × (List GRec) → Option ((List GRec) × Int)) : Int × Int × Int × Int × Int × (List Int) × (List GRec) → Option ((List GRec) × Int) :=
 fun (fuel_3, b_16, b_17, b_18, b_19, a_8, a_9) =>
 (if ((decide (b_18 < (p_0.length : Int))) && (b_19 == 0)) = true then (if (fuel_3 == 0) = true then q8i rv_0 b_16 b_17 b_18 4 a_8 a_9
 else q9 (idx p_0 b_18) (fun xv_5 =>
 q9 (q2d (⟨(⟨b_16, b_17⟩ : GRec), a_8, a_9, b_18, b_19⟩ : GProg_machine) xv_5) (fun v_6 =>
 rec_2 (i64.wrap (fuel_3 - 1), v_6.r.K, v_6.r.V, v_6.at_, v_6.bad, v_6.stack, v_6.out))))
 else q8i rv_0 b_16 b_17 b_18 b_19 a_8 a_9)
def qo6 (p_0 : List GIns) (rv_0 : GRec) : Option ((List GRec) × Int) :=
 q9 (q6w p_0) (fun v_0 =>
 (if (!v_0) = true then some (([] : List GRec), 0)
 else d9 (qu5 p_0 rv_0) rounds (256, rv_0.K, rv_0.V, 0, 0, [], [])))
instance j6f (p_0 : List GIns) (rv_0 : GRec) : Ct pp 124 (qo6 p_0 rv_0) [.sl 2 (enc p_0), .agg (Row.row rv_0)] fun r => (.tup [.sl 2 (enc r.1), .v (.int .i64 r.2)]) := ctK Tryz.func124 rfl (by rw [qo6]) (by
 intro r h F; refine sM ?_; refine sg fun _ Q2 => ?_; refine sg fun _ Q3 => ?_; simp only [go_sem]; refine q5u h fun v_0 h => ?_; simp only [go_sem]; refine q8 Q3 (sB h (fun _ h => ?_) fun _ h => ?_)
 · exact au
 ·
  refine y7 (q8 Q2 (sM ?_)); refine q3p (fun ((b_8, b_9, b_10, b_11, a_4, a_5) : Int × Int × Int × Int × (List Int) × (List GRec)) => q8i rv_0 b_8 b_9 b_10 b_11 a_4 a_5 = some r) [3, 6] (fun x => ([], [(0, .box (Row.row rv_0)), (1, .box [.v (.int .i64 x.1), .v (.int .i64 x.2.1), .osl 2 1 (0) (x.2.2.2.2.1.length), .osl 3 2 (0) (x.2.2.2.2.2.length), .v (.int .i64 x.2.2.1), .v (.int .i64 x.2.2.2.1)]), (2, .arr 1 (enc x.2.2.2.2.1)), (3, .arr 2 (enc x.2.2.2.2.2))])) 4 ?_ ?_
  ·
   intro _ Q10; refine sM ?_; refine w9 fun _ Q12 => ?_; refine q0n h [0, 3, 6] (fun x => ([(7, .v (.int .i64 x.1))], [(0, .box (Row.row rv_0)), (1, .box [.v (.int .i64 x.2.1), .v (.int .i64 x.2.2.1), .osl 2 1 (0) (x.2.2.2.2.2.1.length), .osl 3 2 (0) (x.2.2.2.2.2.2.length), .v (.int .i64 x.2.2.2.1), .v (.int .i64 x.2.2.2.2.1)]), (2, .arr 1 (enc x.2.2.2.2.2.1)), (3, .arr 2 (enc x.2.2.2.2.2.2))])) 4 ?_; rintro m_2 ⟨fuel_3, b_16, b_17, b_18, b_19, a_8, a_9⟩ h _ Q13; rw [qu5] at h; refine sg fun _ Q14 => ?_; refine sM ?_; refine sB h (fun _ h => ?_) fun _ h => ?_
   ·
    refine y7 (q8 Q14 (sg fun _ Q16 => ?_)); refine w9 fun _ Q17 => ?_; refine sg fun _ Q18 => ?_; refine sM ?_; refine sB h (fun _ h => ?_) fun _ h => ?_
    · exact au
    · refine y7 (q8 Q18 ?_); obtain ⟨xv_5, F, h⟩ := bI F h; obtain ⟨v_6, ev_6, h⟩ := z8 h; simp only [go_sem, F]; refine ai ?_; refine q1o [1, 2, 3] (qg2 (⟨(⟨b_16, b_17⟩ : GRec), a_8, a_9, b_18, b_19⟩ : GProg_machine) xv_5 v_6 ev_6) ?_; simp only [go_sem]; exact au
   · exact au
  ·
   rintro ⟨b_8, b_9, b_10, b_11, a_4, a_5⟩ h
   try dsimp only at h
   rw [q8i] at h; refine sg fun _ Q6 => ?_; refine sM ?_; refine sB h (fun _ h => ?_) fun _ h => ?_
   ·
    refine sg fun _ Q8 => ?_; refine q07 ?_; refine j8g ?_; have rf_0 : [[.v (.int .i64 rv_0.K), .v (.int .i64 (i64.wrap ((-9223372036854775808) + b_11)))]] = enc ([(⟨rv_0.K, i64.wrap ((-9223372036854775808) + b_11)⟩ : GRec)] : List GRec) := by rfl
    simp only [go_sem]; simp only [rf_0]; exact au
   · exact au)
def qd1 (k_0 : Int) : Option GRec :=
 some (⟨k_0, -9223372036854775806⟩ : GRec)
instance j5p (k_0 : Int) : Ct pp 125 (qd1 k_0) [.v (.int .i64 k_0)] fun r => (.agg (Row.row r)) := ctI Tryz.func125 rfl (by rw [qd1]; exact au1)
def q8q (k_0 : Int) (a_0 : Int) (b_0 : Int) : Option GRec :=
 (if (((decide (a_0 < 0)) == (decide (b_0 < 0))) && (!((decide ((i64.wrap (a_0 + b_0)) < 0)) == (decide (a_0 < 0))))) = true then q9 (qd1 k_0) (fun v_0 =>
 some v_0)
 else some (⟨k_0, i64.wrap (a_0 + b_0)⟩ : GRec))
instance za5 (k_0 : Int) (a_0 : Int) (b_0 : Int) : Ct pp 111 (q8q k_0 a_0 b_0) [.v (.int .i64 k_0), .v (.int .i64 a_0), .v (.int .i64 b_0)] fun r => (.agg (Row.row r)) := ctI Tryz.func111 rfl (by rw [q8q]; exact au1)
def q6x (xv_0 : GNode) (rv_0 : GRec) : Option (List GRec) :=
 (if (xv_0.Kind == 2) = true then q9 (qo6 xv_0.Prog rv_0) (fun v_0 =>
 some v_0.1)
 else (if (xv_0.Kind == 3) = true then q9 (q8q rv_0.K rv_0.V xv_0.Arg) (fun v_1 =>
 some ([v_1] : List GRec))
 else (if (xv_0.Kind == 4) = true then (if (decide (xv_0.Arg < 1)) = true then some ([] : List GRec)
 else p9 (xv_0.Arg ≠ 0) (
 (if (!((Int.tmod rv_0.V xv_0.Arg) == 0)) = true then some ([] : List GRec)
 else some ([rv_0] : List GRec))))
 else some ([rv_0] : List GRec))))
instance j49 (xv_0 : GNode) (rv_0 : GRec) : Ct pp 108 (q6x xv_0 rv_0) [.agg (Row.row xv_0), .agg (Row.row rv_0)] fun r => (.sl 2 (enc r)) := ctK Tryz.func108 rfl (by rw [q6x]) (by
 intro r h F; refine sM ?_; refine jg fun _ Q2 => ?_; refine sM ?_; refine w9 fun _ Q4 => ?_; refine sM ?_; refine sB h (fun _ h => ?_) fun _ h => ?_
 · exact au
 ·
  refine sM ?_; refine sB h (fun _ h => ?_) fun _ h => ?_
  ·
   refine sg fun _ Q9 => ?_; simp only [go_sem]; refine q5u h fun v_1 h => ?_; have rf_0 : [[.v (.int .i64 v_1.K), .v (.int .i64 v_1.V)]] = enc ([v_1] : List GRec) := by rfl
   simp only [go_sem]; simp only [rf_0]; exact au
  ·
   refine sM ?_; refine sB h (fun _ h => ?_) fun _ h => ?_
   ·
    refine sg fun _ Q11 => ?_; simp only [go_sem]; rcases hb_3 : (decide (xv_0.Arg < 1)) with _ | _
    ·
     replace h := q45 h hb_3; obtain ⟨F, h⟩ := bG F h; simp only [go_sem, hb_3, F]; refine q8 Q11 (sB h (fun _ h => ?_) fun _ h => ?_)
     · exact au
     ·
      refine y7 (q04 Q4 (q8 Q2 (sg fun _ Q13 => ?_))); have rf_1 : [[.v (.int .i64 rv_0.K), .v (.int .i64 rv_0.V)]] = enc ([rv_0] : List GRec) := by rfl
      simp only [go_sem]; simp only [rf_1]; exact au
    · replace h := q44 h hb_3; simp only [go_sem, hb_3]; exact au
   ·
    refine y7 (q04 Q4 (q8 Q2 (sg fun _ Q15 => ?_))); have rf_2 : [[.v (.int .i64 rv_0.K), .v (.int .i64 rv_0.V)]] = enc ([rv_0] : List GRec) := by rfl
    simp only [go_sem]; simp only [rf_2]; exact au)
def q10 (mv_0 : GOps_maker) (rv_0 : GRec) (nv_0 : Int) : Option (Bool × GOps_maker) :=
 (if (decide ((i64.wrap (65536 - mv_0.many)) < nv_0)) = true then some (false, mv_0)
 else p9 ((mv_0.out.length + List.length ([(⟨rv_0, nv_0⟩ : GItem)] : List GItem)) * 24 ≤ 140737488355328) (
 some (true, (⟨(mv_0.out ++ ([(⟨rv_0, nv_0⟩ : GItem)] : List GItem)), i64.wrap (mv_0.many + nv_0)⟩ : GOps_maker))))
theorem q2h (mv_0 : GOps_maker) (rv_0 : GRec) (nv_0 : Int)  (r : Bool × GOps_maker) (h : q10 mv_0 rv_0 nv_0 = some r) : DetS pp 88 [.ptr 0 0, .agg (Row.row rv_0), .v (.int .i64 nv_0)] [(0, .box [.osl 1 3 (0) (mv_0.out.length), .v (.int .i64 mv_0.many)]), (1, .arr 3 (enc mv_0.out))] 2 (.v (.bool r.1)) [(0, .box [.osl 2 3 (0) (r.2.out.length), .v (.int .i64 r.2.many)]), (2, .arr 3 (enc r.2.out))] 3 := by
 refine dtI Tryz.func88 rfl ?_; rw [q10] at h; have F := trivial; refine sM ?_; refine sg fun _ Q2 => ?_; refine sM ?_; refine sB h (fun _ h => ?_) fun _ h => ?_
 · exact au
 ·
  refine y7 (q8 Q2 (sM ?_)); refine sg fun _ Q6 => ?_; refine q07 ?_; refine q3g 10 0 0 [0, 0, 2, 6, 14, 0, 0, 96, 224, 510, 1023, 2047, 4095] [1, 3] [0] [] [9] [] mixed (by kernel_rfl) (of_decide_eq_true (by kernel_rfl)) (by kernel_rfl) (by kernel_rfl) (by rfl) ?_; have rf_0 : [[.v (.int .i64 rv_0.K), .v (.int .i64 rv_0.V), .v (.int .i64 nv_0)]] = enc ([(⟨rv_0, nv_0⟩ : GItem)] : List GItem) := by rfl
  obtain ⟨g_0, h⟩ := q09 h; have F := And.intro F g_0; simp only [List.length_cons, List.length_nil, Nat.zero_add, List.length_append] at g_0; have rf_1 : enc mv_0.out ++ [[.v (.int .i64 rv_0.K), .v (.int .i64 rv_0.V), .v (.int .i64 nv_0)]] = enc (mv_0.out ++ ([(⟨rv_0, nv_0⟩ : GItem)] : List GItem)) := by exact (q4x mv_0.out ([(⟨rv_0, nv_0⟩ : GItem)] : List GItem)).symm
  simp only [go_sem, g_0, rf_1]; simp only [rf_0]; exact au
def q4b (t13_1 : Int) (rec_1 : (Int × Int × (List GItem) → Option (Bool × GOps_maker))) (xv_9 : GItem) (v_8 : List GRec) (rec_2 : Int × Int × (List GItem) → Option (Bool × GOps_maker)) : Int × Int × (List GItem) → Option (Bool × GOps_maker) :=
 fun (t22_5, b_8, a_7) =>
 (if (decide (t22_5 < (v_8.length : Int))) = true then q9 (idx v_8 t22_5) (fun xv_12 =>
 q9 (q10 (⟨a_7, b_8⟩ : GOps_maker) xv_12 xv_9.N) (fun v_11 =>
 (if (!v_11.1) = true then some (false, v_11.2)
 else rec_2 (i64.wrap (t22_5 + 1), v_11.2.many, v_11.2.out))))
 else rec_1 (i64.wrap (t13_1 + 1), b_8, a_7))
def q4c (xv_0 : GNode) (b_0 : List GItem) (rec_1 : Int × Int × (List GItem) → Option (Bool × GOps_maker)) : Int × Int × (List GItem) → Option (Bool × GOps_maker) :=
 fun (t13_1, b_6, a_5) =>
 (if (decide (t13_1 < (b_0.length : Int))) = true then q9 (idx b_0 t13_1) (fun xv_9 =>
 q9 (q6x xv_0 xv_9.Rec) (fun v_8 =>
 d9 (q4b t13_1 rec_1 xv_9 v_8) rounds (0, b_6, a_5)))
 else some (true, (⟨a_5, b_6⟩ : GOps_maker)))
def q21 (mv_0 : GOps_maker) (xv_0 : GNode) (b_0 : List GItem) : Option (Bool × GOps_maker) :=
 d9 (q4c xv_0 b_0) rounds (0, mv_0.many, mv_0.out)
theorem q60 (mv_0 : GOps_maker) (xv_0 : GNode) (b_0 : List GItem)  (r : Bool × GOps_maker) (h : q21 mv_0 xv_0 b_0 = some r) : DetS pp 87 [.ptr 0 0, .agg (Row.row xv_0), .sl 3 (enc b_0)] [(0, .box [.osl 1 3 (0) (mv_0.out.length), .v (.int .i64 mv_0.many)]), (1, .arr 3 (enc mv_0.out))] 2 (.v (.bool r.1)) [(0, .box [.osl 2 3 (0) (r.2.out.length), .v (.int .i64 r.2.many)]), (2, .arr 3 (enc r.2.out))] 3 := by
 refine dtI Tryz.func87 rfl ?_; rw [q21] at h; have F := trivial; refine sM ?_; refine jg fun _ Q2 => ?_; refine sM ?_; refine w9 fun _ Q4 => ?_; refine q0n h [0, 4, 11, 12] (fun x => ([(13, .v (.int .i64 x.1))], [(0, .box [.osl 3 3 (0) (x.2.2.length), .v (.int .i64 x.2.1)]), (2, .box (Row.row xv_0)), (3, .arr 3 (enc x.2.2))])) 4 ?_; rintro m_1 ⟨t13_1, b_6, a_5⟩ h _ Q5; rw [q4c] at h; refine sM ?_; refine sg fun _ Q7 => ?_; refine sB h (fun _ h => ?_) fun _ h => ?_
 ·
  refine y7 (q8 Q7 (jg fun _ Q8 => ?_)); refine w9 fun _ Q9 => ?_; refine sg fun _ Q10 => ?_; obtain ⟨xv_9, F, h⟩ := bI F h; simp only [go_sem, F]; refine ai ?_; refine q8 Q10 (sg fun _ Q11 => ?_); simp only [go_sem]; refine q5u h fun v_8 h => ?_; simp only [go_sem]; refine q8 Q11 (w9 fun _ Q12 => ?_); refine q0n h [0, 4, 11, 12, 13, 20, 21] (fun x => ([(8, .ptr 3 0), (22, .v (.int .i64 x.1))], [(0, .box [.osl 4 3 (0) (x.2.2.length), .v (.int .i64 x.2.1)]), (2, .box (Row.row xv_0)), (3, .box (Row.row xv_9)), (4, .arr 3 (enc x.2.2))])) 5 ?_; rintro m_2 ⟨t22_5, b_8, a_7⟩ h _ Q13; rw [q4b] at h; refine sM ?_; refine sg fun _ Q15 => ?_; refine sB h (fun _ h => ?_) fun _ h => ?_
  · refine y7 (q8 Q15 (sg fun _ Q16 => ?_)); refine w9 fun _ Q17 => ?_; refine sg fun _ Q18 => ?_; obtain ⟨xv_12, F, h⟩ := bI F h; simp only [go_sem, F]; refine ai ?_; refine q8 Q18 (sg fun _ Q19 => ?_); obtain ⟨v_11, ev_11, h⟩ := z8 h; simp only [go_sem]; refine q1o [0, 4] (q2h (⟨a_7, b_8⟩ : GOps_maker) xv_12 xv_9.N v_11 ev_11) ?_; simp only [go_sem]; exact au
  · exact au
 · exact au
def q5b (mv_0 : GOps_maker) (rec_1 : Int × (List GItem) → Option ((List GItem) × GOps_maker)) : Int × (List GItem) → Option ((List GItem) × GOps_maker) :=
 fun (t11_1, a_1) =>
 (if (decide (t11_1 < (mv_0.out.length : Int))) = true then q9 (idx mv_0.out t11_1) (fun xv_2 =>
 q9 (qt4 a_1 xv_2.Rec xv_2.N) (fun v_2 =>
 rec_1 (i64.wrap (t11_1 + 1), v_2)))
 else some (a_1, mv_0))
def q4l (mv_0 : GOps_maker) : Option ((List GItem) × GOps_maker) :=
 d9 (q5b mv_0) rounds (0, [])
theorem qr3 (mv_0 : GOps_maker)  (r : (List GItem) × GOps_maker) (h : q4l mv_0 = some r) : DetS pp 91 [.ptr 0 0] [(0, .box [.osl 1 3 (0) (mv_0.out.length), .v (.int .i64 mv_0.many)]), (1, .arr 3 (enc mv_0.out))] 2 (.osl 2 3 (0) (r.1.length)) [(0, .box [.osl 3 3 (0) (r.2.out.length), .v (.int .i64 r.2.many)]), (2, .arr 3 (enc r.1)), (3, .arr 3 (enc r.2.out))] 4 := by
 refine dtI Tryz.func91 rfl ?_; rw [q4l] at h; have F := trivial; refine sM ?_; refine sM ?_; refine jg fun _ Q3 => ?_; refine sM ?_; refine w9 fun _ Q5 => ?_; refine q0n h [9, 10] (fun x => ([(3, .osl 2 3 (0) (x.2.length)), (11, .v (.int .i64 x.1))], [(0, .box [.osl 1 3 (0) (mv_0.out.length), .v (.int .i64 mv_0.many)]), (1, .arr 3 (enc mv_0.out)), (2, .arr 3 (enc x.2))])) 3 ?_; rintro m_1 ⟨t11_1, a_1⟩ h _ Q6; rw [q5b] at h; refine sM ?_; refine sg fun _ Q8 => ?_; refine sB h (fun _ h => ?_) fun _ h => ?_
 · refine y7 (q8 Q8 (sg fun _ Q9 => ?_)); refine w9 fun _ Q10 => ?_; refine sg fun _ Q11 => ?_; obtain ⟨xv_2, F, h⟩ := bI F h; simp only [go_sem, F]; refine ai ?_; refine q8 Q11 ?_; obtain ⟨v_2, ev_2, h⟩ := z8 h; simp only [go_sem]; refine q9l [9, 10, 11] ([(3, .sl 3 (enc a_1))], [(0, .box [.osl 1 3 (0) (mv_0.out.length), .v (.int .i64 mv_0.many)]), (1, .arr 3 (enc mv_0.out)), (2, .box (Row.row xv_2))]) 3 [some 3] [.sl 3 (enc a_1), .agg (Row.row xv_2.Rec), .v (.int .i64 xv_2.N)] ?_; refine q1o [] (za6 a_1 xv_2.Rec xv_2.N v_2 ev_2) ?_; simp only [go_sem]; exact au
 · exact au
def qj7 (x_0 : Int) (y_0 : Int) (c_0 : Int) : Option (Int × Int) := zc8 x_0 y_0 c_0
theorem z1p (x_0 : Int) (y_0 : Int) (c_0 : Int) (r : Int × Int) (h : qj7 x_0 y_0 c_0 = some r) : PureS pp 132 [.v (.int .u64 x_0), .v (.int .u64 y_0), .v (.int .u64 c_0)] 0 (.tup [.v (.int .u64 r.1), .v (.int .u64 r.2)]) :=
  zr4 Tryz.func132 (by kernel_rfl) (by kernel_rfl) (by kernel_rfl) (by kernel_rfl) h
def qj8 (x_0 : Int) (y_0 : Int) (c_0 : Int) : Option (Int × Int) := zk1 x_0 y_0 c_0
theorem z1q (x_0 : Int) (y_0 : Int) (c_0 : Int) (r : Int × Int) (h : qj8 x_0 y_0 c_0 = some r) : PureS pp 133 [.v (.int .u64 x_0), .v (.int .u64 y_0), .v (.int .u64 c_0)] 0 (.tup [.v (.int .u64 r.1), .v (.int .u64 r.2)]) :=
  zx1 Tryz.func133 (by kernel_rfl) (by kernel_rfl) (by kernel_rfl) (by kernel_rfl) h
def q66 (w_0 : GOps_wide) (v_0 : Int) (nv_0 : Int) (size_0 : Int) : Option GOps_wide :=
 q9 (q34 size_0 (IntKind.u64.wrap nv_0)) (fun v_1 =>
 (if (decide (v_0 < 0)) = true then q9 (qj7 w_0.lo.n v_1.2 0) (fun v_2 =>
 some (⟨i64.wrap (w_0.hi - (i64.wrap ((i64.wrap v_1.1) + (i64.wrap v_2.2)))), (⟨v_2.1⟩ : Nu64)⟩ : GOps_wide))
 else q9 (qj8 w_0.lo.n v_1.2 0) (fun v_3 =>
 some (⟨i64.wrap (w_0.hi + (i64.wrap ((i64.wrap v_1.1) + (i64.wrap v_3.2)))), (⟨v_3.1⟩ : Nu64)⟩ : GOps_wide))))
def q9e (w_0 : GOps_wide) (v_0 : Int) (nv_0 : Int) : Option GOps_wide :=
 (if (decide (v_0 < 0)) = true then q66 w_0 v_0 nv_0 (IntKind.u64.wrap (0 - (IntKind.u64.wrap v_0)))
 else q66 w_0 v_0 nv_0 (IntKind.u64.wrap v_0))
instance j1p (w_0 : GOps_wide) (v_0 : Int) (nv_0 : Int) : Ct pp 126 (q9e w_0 v_0 nv_0) [.agg (Row.row w_0), .v (.int .i64 v_0), .v (.int .i64 nv_0)] fun r => (.agg (Row.row r)) := ctK Tryz.func126 rfl (by rw [q9e]) (by
 intro r h F; refine sM ?_; refine sM ?_; refine q3p (fun (size_0 : Int) => q66 w_0 v_0 nv_0 size_0 = some r) [1, 2, 3, 6] (fun size_0 => ([(7, .v (.int .u64 size_0))], [(0, .box (Row.row w_0)), (1, .box [.v (.int .i64 0), .v (.int .u64 0)])])) 2 ?_ ?_
 · intro _ Q13; exact au
 ·
  rintro size_0 h
  try dsimp only at h
  rw [q66] at h; refine sg fun _ Q3 => ?_; simp only [go_sem]; refine q5u h fun v_1 h => ?_; simp only [go_sem]; refine q8 Q3 (sM ?_); refine sg fun _ Q5 => ?_; refine sM ?_; refine sB h (fun _ h => ?_) fun _ h => ?_
  · refine sg fun _ Q7 => ?_; obtain ⟨v_2, ev_2, h⟩ := z8 h; simp only [go_sem]; refine q99 (z1p w_0.lo.n v_1.2 0 v_2 ev_2) (by rfl) (by rfl) ?_; simp only [go_sem]; exact au
  · refine y7 (q8 Q5 (sg fun _ Q10 => ?_)); obtain ⟨v_3, ev_3, h⟩ := z8 h; simp only [go_sem]; refine q99 (z1q w_0.lo.n v_1.2 0 v_3 ev_3) (by rfl) (by rfl) ?_; simp only [go_sem]; exact au)
def qo8 (l_0 : List GItem) (rec_1 : Int × GOps_wide → Option GOps_wide) : Int × GOps_wide → Option GOps_wide :=
 fun (t8_1, b_1) =>
 (if (decide (t8_1 < (l_0.length : Int))) = true then q9 (idx l_0 t8_1) (fun xv_2 =>
 q9 (q9e b_1 xv_2.Rec.V xv_2.N) (fun v_2 =>
 rec_1 (i64.wrap (t8_1 + 1), v_2)))
 else some b_1)
def q9h (l_0 : List GItem) : Option GOps_wide :=
 d9 (qo8 l_0) rounds (0, (⟨0, (⟨0⟩ : Nu64)⟩ : GOps_wide))
instance z3g (l_0 : List GItem) : Ct pp 113 (q9h l_0) [.sl 3 (enc l_0)] fun r => (.agg (Row.row r)) := ctK Tryz.func113 rfl (by rw [q9h]) (by
 intro r h F; refine sM ?_; refine sM ?_; refine jg fun _ Q3 => ?_; refine sM ?_; refine w9 fun _ Q5 => ?_; refine q0n h [2, 3, 6, 7] (fun x => ([(8, .v (.int .i64 x.1))], [(0, .box [.v (.int .i64 0), .v (.int .u64 0)]), (1, .box (Row.row x.2))])) 2 ?_; rintro m_1 ⟨t8_1, b_1⟩ h _ Q6; rw [qo8] at h; exact au)
def q3r (w_0 : GOps_wide) (k_0 : Int) : Option GRec :=
 (if (((w_0.hi == 0) && (decide (0 ≤ (i64.wrap w_0.lo.n)))) || ((w_0.hi == (-1)) && (decide ((i64.wrap w_0.lo.n) < 0)))) = true then some (⟨k_0, i64.wrap w_0.lo.n⟩ : GRec)
 else q9 (qd1 k_0) (fun v_0 =>
 some v_0))
instance qo7 (w_0 : GOps_wide) (k_0 : Int) : Ct pp 114 (q3r w_0 k_0) [.agg (Row.row w_0), .v (.int .i64 k_0)] fun r => (.agg (Row.row r)) := ctI Tryz.func114 rfl (by rw [q3r]; exact au1)
def q3x (b_2 : Int) (a_12 : List GItem) (rec_1 : (Int × Int × (List GItem) → Option (Bool × GOps_maker))) (tov_12 : Int) (xv_63 : GItem) (a_15 : List GItem) : Option (Bool × GOps_maker) :=
 q9 (q9h a_15) (fun v_26 =>
 q9 (q3r v_26 xv_63.Rec.K) (fun v_27 =>
 q9 (q10 (⟨a_12, b_2⟩ : GOps_maker) v_27 1) (fun v_28 =>
 (if (!v_28.1) = true then some (false, v_28.2)
 else rec_1 (tov_12, v_28.2.many, v_28.2.out)))))
def q40 (b_0 : List GItem) (b_2 : Int) (a_12 : List GItem) (rec_1 : (Int × Int × (List GItem) → Option (Bool × GOps_maker))) (tov_12 : Int) (xv_63 : GItem) (rec_5 : Int × (List GItem) → Option (Bool × GOps_maker)) : Int × (List GItem) → Option (Bool × GOps_maker) :=
 fun (t43_11, a_17) =>
 (if (decide (t43_11 < (b_0.length : Int))) = true then q9 (idx b_0 t43_11) (fun xv_75 =>
 (if (xv_75.Rec.K == xv_63.Rec.K) = true then p9 ((a_17.length + List.length ([xv_75] : List GItem)) * 24 ≤ 140737488355328) (
 rec_5 (i64.wrap (t43_11 + 1), (a_17 ++ ([xv_75] : List GItem))))
 else rec_5 (i64.wrap (t43_11 + 1), a_17)))
 else q3x b_2 a_12 rec_1 tov_12 xv_63 a_17)
def q3y (b_0 : List GItem) (b_2 : Int) (a_12 : List GItem) (rec_1 : (Int × Int × (List GItem) → Option (Bool × GOps_maker))) (tov_12 : Int) (xv_63 : GItem) : Option (Bool × GOps_maker) :=
 d9 (q40 b_0 b_2 a_12 rec_1 tov_12 xv_63) rounds (0, [])
def q3w (b_2 : Int) (a_12 : List GItem) (rec_1 : (Int × Int × (List GItem) → Option (Bool × GOps_maker))) (tov_12 : Int) (xv_63 : GItem) (nv_27 : Int) : Option (Bool × GOps_maker) :=
 q9 (q10 (⟨a_12, b_2⟩ : GOps_maker) (⟨xv_63.Rec.K, nv_27⟩ : GRec) 1) (fun v_29 =>
 (if (!v_29.1) = true then some (false, v_29.2)
 else rec_1 (tov_12, v_29.2.many, v_29.2.out)))
def q61 (a_0 : List GItem) (fromv_1 : Int) (b_2 : Int) (a_12 : List GItem) (rec_1 : (Int × Int × (List GItem) → Option (Bool × GOps_maker))) (tov_12 : Int) (xv_63 : GItem) (rec_7 : Int × Int → Option (Bool × GOps_maker)) : Int × Int → Option (Bool × GOps_maker) :=
 fun (nv_29, t19_23) =>
 (if (decide (t19_23 < (List.length (List.drop (fromv_1.toNat) (List.take (tov_12.toNat) a_0)) : Int))) = true then q9 (idx (List.drop (fromv_1.toNat) (List.take (tov_12.toNat) a_0)) t19_23) (fun xv_81 =>
 rec_7 (i64.wrap (nv_29 + xv_81.N), i64.wrap (t19_23 + 1)))
 else q3w b_2 a_12 rec_1 tov_12 xv_63 nv_29)
def q1w (kind_0 : Int) (a_0 : List GItem) (b_0 : List GItem) (fromv_1 : Int) (b_2 : Int) (a_12 : List GItem) (rec_1 : (Int × Int × (List GItem) → Option (Bool × GOps_maker))) (tov_12 : Int) : Option (Bool × GOps_maker) :=
 q9 (idx a_0 fromv_1) (fun xv_63 =>
 p9 (0 ≤ fromv_1 ∧ fromv_1 ≤ tov_12 ∧ tov_12 ≤ (a_0.length : Int)) (
 (if (kind_0 == 7) = true then d9 (q61 a_0 fromv_1 b_2 a_12 rec_1 tov_12 xv_63) rounds (0, 0)
 else (if (kind_0 == 6) = true then q9 (q9h (List.drop (fromv_1.toNat) (List.take (tov_12.toNat) a_0))) (fun v_30 =>
 q9 (q3r v_30 xv_63.Rec.K) (fun v_31 =>
 q9 (q10 (⟨a_12, b_2⟩ : GOps_maker) v_31 1) (fun v_32 =>
 (if (!v_32.1) = true then some (false, v_32.2)
 else rec_1 (tov_12, v_32.2.many, v_32.2.out)))))
 else q3y b_0 b_2 a_12 rec_1 tov_12 xv_63))))
def q8r (kind_0 : Int) (a_0 : List GItem) (b_0 : List GItem) (fromv_1 : Int) (b_2 : Int) (a_12 : List GItem) (rec_1 : (Int × Int × (List GItem) → Option (Bool × GOps_maker))) (rec_8 : Int → Option (Bool × GOps_maker)) : Int → Option (Bool × GOps_maker) :=
 fun tov_14 =>
 (if (decide (tov_14 < (a_0.length : Int))) = true then q9 (idx a_0 tov_14) (fun xv_85 =>
 q9 (idx a_0 fromv_1) (fun xv_86 =>
 (if (xv_85.Rec.K == xv_86.Rec.K) = true then rec_8 (i64.wrap (tov_14 + 1))
 else q1w kind_0 a_0 b_0 fromv_1 b_2 a_12 rec_1 tov_14)))
 else q1w kind_0 a_0 b_0 fromv_1 b_2 a_12 rec_1 tov_14)
def q1h (kind_0 : Int) (a_0 : List GItem) (b_0 : List GItem) (rec_1 : Int × Int × (List GItem) → Option (Bool × GOps_maker)) : Int × Int × (List GItem) → Option (Bool × GOps_maker) :=
 fun (fromv_1, b_2, a_12) =>
 (if (decide (fromv_1 < (a_0.length : Int))) = true then d9 (q8r kind_0 a_0 b_0 fromv_1 b_2 a_12 rec_1) rounds fromv_1
 else some (true, (⟨a_12, b_2⟩ : GOps_maker)))
def q3e (mv_0 : GOps_maker) (kind_0 : Int) (a_0 : List GItem) (b_0 : List GItem) : Option (Bool × GOps_maker) :=
 d9 (q1h kind_0 a_0 b_0) rounds (0, mv_0.many, mv_0.out)
theorem qn2 (mv_0 : GOps_maker) (kind_0 : Int) (a_0 : List GItem) (b_0 : List GItem)  (r : Bool × GOps_maker) (h : q3e mv_0 kind_0 a_0 b_0 = some r) : DetS pp 90 [.ptr 0 0, .v (.int .i64 kind_0), .sl 3 (enc a_0), .sl 3 (enc b_0)] [(0, .box [.osl 1 3 (0) (mv_0.out.length), .v (.int .i64 mv_0.many)]), (1, .arr 3 (enc mv_0.out))] 2 (.v (.bool r.1)) [(0, .box [.osl 2 3 (0) (r.2.out.length), .v (.int .i64 r.2.many)]), (2, .arr 3 (enc r.2.out))] 3 := by
 refine dtI Tryz.func90 rfl ?_; rw [q3e] at h; have F := trivial; refine sM ?_; refine sg fun _ Q2 => ?_; simp only [go_sem]; refine q6y Tryz.func109 rfl (by kernel_rfl) (by kernel_rfl) ?_; refine sM ?_; refine jg fun _ Q4 => ?_; refine sM ?_; refine w9 fun _ Q6 => ?_; refine q0n h [0, 1] (fun x => ([(5, .v (.int .i64 x.1))], [(0, .box [.osl 5 3 (0) (x.2.2.length), .v (.int .i64 x.2.1)]), (2, .box [.ptr 0 0]), (3, .box [.v (.int .i64 kind_0)]), (4, .box [.sl 3 (enc b_0)]), (5, .arr 3 (enc x.2.2))])) 6 ?_; rintro m_1 ⟨fromv_1, b_2, a_12⟩ h _ Q7; rw [q1h] at h; refine sg fun _ Q8 => ?_; refine sM ?_; refine sB h (fun _ h => ?_) fun _ h => ?_
 ·
  refine y7 (q8 Q8 (w9 fun _ Q10 => ?_)); refine sM ?_; refine q3p (fun (tov_12 : Int) => q1w kind_0 a_0 b_0 fromv_1 b_2 a_12 (d9 (q1h kind_0 a_0 b_0) m_1) tov_12 = some r) [0, 1, 5] (fun tov_12 => ([(6, .v (.int .i64 tov_12))], [(0, .box [.osl 5 3 (0) (a_12.length), .v (.int .i64 b_2)]), (2, .box [.ptr 0 0]), (3, .box [.v (.int .i64 kind_0)]), (4, .box [.sl 3 (enc b_0)]), (5, .arr 3 (enc a_12))])) 6 ?_ ?_
  ·
   intro _ Q47; refine w9 fun _ Q48 => ?_; refine q0n h [0, 1, 5] (fun tov_14 => ([(6, .v (.int .i64 tov_14))], [(0, .box [.osl 5 3 (0) (a_12.length), .v (.int .i64 b_2)]), (2, .box [.ptr 0 0]), (3, .box [.v (.int .i64 kind_0)]), (4, .box [.sl 3 (enc b_0)]), (5, .arr 3 (enc a_12))])) 6 ?_; rintro m_8 tov_14 h _ Q49; rw [q8r] at h; refine sg fun _ Q50 => ?_; refine sg fun _ Q51 => ?_; refine q07 ?_; refine j8g ?_; simp only [go_sem]; rcases hb_130 : (decide (tov_14 < (a_0.length : Int))) with _ | _
   · replace h := q45 h hb_130; simp only [go_sem, hb_130]; exact au
   · replace h := q44 h hb_130; obtain ⟨xv_85, F, h⟩ := bI F h; obtain ⟨xv_86, F, h⟩ := bI F h; simp only [go_sem, hb_130, F]; refine ai ?_; refine ai ?_; exact au
  ·
   rintro tov_12 h
   try dsimp only at h
   rw [q1w] at h; refine sg fun _ Q12 => ?_; refine sg fun _ Q13 => ?_; refine q07 ?_; refine j8g ?_; obtain ⟨xv_63, F, h⟩ := bI F h; obtain ⟨F, h⟩ := bG F h; simp only [go_sem, F]; refine ai ?_; refine q6y Tryz.func112 rfl (by kernel_rfl) (by kernel_rfl) ?_; refine sM ?_; refine q3p (fun (_ : Unit) => q3y b_0 b_2 a_12 (d9 (q1h kind_0 a_0 b_0) m_1) tov_12 xv_63 = some r) [0, 3, 4] (fun _ => ([], [(0, .box [.osl 5 3 (0) (a_12.length), .v (.int .i64 b_2)]), (2, .box [.ptr 0 0]), (3, .box [.v (.int .i64 kind_0)]), (4, .box [.sl 3 (enc b_0)]), (5, .arr 3 (enc a_12))])) 6 ?_ ?_
   ·
    intro _ Q28; refine sM ?_; refine w9 fun _ Q30 => ?_; refine sM ?_; refine sB h (fun _ h => ?_) fun _ h => ?_
    ·
     refine sM ?_; refine q3p (fun (nv_27 : Int) => q3w b_2 a_12 (d9 (q1h kind_0 a_0 b_0) m_1) tov_12 xv_63 nv_27 = some r) [0, 3] (fun nv_27 => ([(8, .v (.int .i64 nv_27))], [(0, .box [.osl 5 3 (0) (a_12.length), .v (.int .i64 b_2)]), (2, .box [.ptr 0 0]), (3, .box [.v (.int .i64 kind_0)]), (4, .box [.sl 3 (enc b_0)]), (5, .arr 3 (enc a_12))])) 6 ?_ ?_
     · intro _ Q35; refine sM ?_; refine w9 fun _ Q37 => ?_; refine q0n h [0, 3, 17, 18] (fun x => ([(8, .v (.int .i64 x.1)), (19, .v (.int .i64 x.2))], [(0, .box [.osl 5 3 (0) (a_12.length), .v (.int .i64 b_2)]), (2, .box [.ptr 0 0]), (3, .box [.v (.int .i64 kind_0)]), (4, .box [.sl 3 (enc b_0)]), (5, .arr 3 (enc a_12))])) 6 ?_; rintro m_7 ⟨nv_29, t19_23⟩ h _ Q38; rw [q61] at h; exact au
     ·
      rintro nv_27 h
      try dsimp only at h
      rw [q3w] at h; refine sg fun _ Q33 => ?_; obtain ⟨v_29, ev_29, h⟩ := z8 h; simp only [go_sem]; refine q1o [0, 5] (q2h (⟨a_12, b_2⟩ : GOps_maker) (⟨xv_63.Rec.K, nv_27⟩ : GRec) 1 v_29 ev_29) ?_; simp only [go_sem]; refine q8 Q33 (q02 (q0p Q30 (q2o Q28 ?_))); simp only [go_sem]; refine q1p [some 6] [(0, .box [.osl 6 3 (0) (v_29.2.out.length), .v (.int .i64 v_29.2.many)]), (2, .box [.ptr 0 0]), (3, .box [.v (.int .i64 kind_0)]), (4, .box [.sl 3 (enc b_0)]), (6, .arr 3 (enc v_29.2.out))] 7 (.v (.bool v_29.1)) ?_ ?_
      · exact leA
      refine q29 ?_; simp only [go_sem]; refine q8 Q13 (sB h (fun _ h => ?_) fun _ h => ?_)
      ·
       refine sM ?_; refine q02 (q15 Q12 (q0p Q10 (q2o Q7 (q0p Q6 (q15 Q4 ?_))))); simp only [go_sem]; refine q1p [some 6] [(0, .box [.osl 5 3 (0) (v_29.2.out.length), .v (.int .i64 v_29.2.many)]), (2, .box [.ptr 0 0]), (3, .box [.v (.int .i64 kind_0)]), (4, .box [.sl 3 (enc b_0)]), (5, .arr 3 (enc v_29.2.out))] 6 (.v (.bool false)) ?_ ?_
       · exact leA
       refine q29 ?_; simp only [go_sem]; exact au
      · exact au
    ·
     refine sM ?_; refine sB h (fun _ h => ?_) fun _ h => ?_
     ·
      refine sg fun _ Q45 => ?_; refine q07 ?_; refine j8g ?_; obtain ⟨v_30, ev_30, h⟩ := z8 h; simp only [go_sem]; refine callq (fun _ => (z3g (List.drop (fromv_1.toNat) (List.take (tov_12.toNat) a_0)) v_30 ev_30)) (by rfl) (by rfl) ?_; obtain ⟨v_31, ev_31, h⟩ := z8 h; simp only [go_sem]; refine callq (fun _ => (qo7 v_30 xv_63.Rec.K v_31 ev_31)) (by rfl) (by rfl) ?_; obtain ⟨v_32, ev_32, h⟩ := z8 h; simp only [go_sem]; refine q1o [0, 5] (q2h (⟨a_12, b_2⟩ : GOps_maker) v_31 1 v_32 ev_32) ?_; simp only [go_sem]; refine q8 Q45 (q02 (q0p Q30 (q2o Q28 ?_))); simp only [go_sem]; refine q1p [some 6] [(0, .box [.osl 6 3 (0) (v_32.2.out.length), .v (.int .i64 v_32.2.many)]), (2, .box [.ptr 0 0]), (3, .box [.v (.int .i64 kind_0)]), (4, .box [.sl 3 (enc b_0)]), (6, .arr 3 (enc v_32.2.out))] 7 (.v (.bool v_32.1)) ?_ ?_
      · exact leA
      refine q29 ?_; simp only [go_sem]; refine q8 Q13 (sB h (fun _ h => ?_) fun _ h => ?_)
      ·
       refine sM ?_; refine q02 (q15 Q12 (q0p Q10 (q2o Q7 (q0p Q6 (q15 Q4 ?_))))); simp only [go_sem]; refine q1p [some 6] [(0, .box [.osl 5 3 (0) (v_32.2.out.length), .v (.int .i64 v_32.2.many)]), (2, .box [.ptr 0 0]), (3, .box [.v (.int .i64 kind_0)]), (4, .box [.sl 3 (enc b_0)]), (5, .arr 3 (enc v_32.2.out))] 6 (.v (.bool false)) ?_ ?_
       · exact leA
       refine q29 ?_; simp only [go_sem]; exact au
      · exact au
     · exact au
   ·
    rintro ⟨⟩ h
    try dsimp only at h
    rw [q3y] at h; refine sM ?_; refine q3p (fun (a_15 : (List GItem)) => q3x b_2 a_12 (d9 (q1h kind_0 a_0 b_0) m_1) tov_12 xv_63 a_15 = some r) [0, 3] (fun a_15 => ([(11, .osl 6 3 (0) (a_15.length))], [(0, .box [.osl 5 3 (0) (a_12.length), .v (.int .i64 b_2)]), (2, .box [.ptr 0 0]), (3, .box [.v (.int .i64 kind_0)]), (4, .box [.sl 3 (enc b_0)]), (5, .arr 3 (enc a_12)), (6, .arr 3 (enc a_15))])) 7 ?_ ?_
    ·
     intro _ Q18; refine sM ?_; refine w9 fun _ Q20 => ?_; refine q0n h [0, 3, 41, 42] (fun x => ([(11, .osl 6 3 (0) (x.2.length)), (43, .v (.int .i64 x.1))], [(0, .box [.osl 5 3 (0) (a_12.length), .v (.int .i64 b_2)]), (2, .box [.ptr 0 0]), (3, .box [.v (.int .i64 kind_0)]), (4, .box [.sl 3 (enc b_0)]), (5, .arr 3 (enc a_12)), (6, .arr 3 (enc x.2))])) 7 ?_; rintro m_5 ⟨t43_11, a_17⟩ h _ Q21; rw [q40] at h; refine sM ?_; refine sg fun _ Q23 => ?_; refine sB h (fun _ h => ?_) fun _ h => ?_
     ·
      refine y7 (q8 Q23 (jg fun _ Q24 => ?_)); refine w9 fun _ Q25 => ?_; refine sg fun _ Q26 => ?_; obtain ⟨xv_75, F, h⟩ := bI F h; simp only [go_sem, F]; refine ai ?_; refine q8 Q26 (sM ?_); refine sB h (fun _ h => ?_) fun _ h => ?_
      ·
       have rf_28 : [[.v (.int .i64 xv_75.Rec.K), .v (.int .i64 xv_75.Rec.V), .v (.int .i64 xv_75.N)]] = enc ([xv_75] : List GItem) := by rfl
       obtain ⟨g_20, h⟩ := q09 h; have F := And.intro F g_20; simp only [List.length_cons, List.length_nil, Nat.zero_add, List.length_append] at g_20; have rf_29 : enc a_17 ++ [[.v (.int .i64 xv_75.Rec.K), .v (.int .i64 xv_75.Rec.V), .v (.int .i64 xv_75.N)]] = enc (a_17 ++ ([xv_75] : List GItem)) := by exact (q4x a_17 ([xv_75] : List GItem)).symm
       simp only [go_sem, g_20, rf_29]; simp only [rf_28]; exact au
      · exact au
     · exact au
    ·
     rintro a_15 h
     try dsimp only at h
     rw [q3x] at h; refine sg fun _ Q16 => ?_; refine q07 ?_; refine zw0 (s' := (⟨6, [(0, .v (.int .i64 xv_63.Rec.K)), (3, .ptr 2 0), (11, .sl 3 (enc a_15))], [(0, .box [.osl 5 3 (0) (a_12.length), .v (.int .i64 b_2)]), (2, .box [.ptr 0 0]), (3, .box [.v (.int .i64 kind_0)]), (4, .box [.sl 3 (enc b_0)]), (5, .arr 3 (enc a_12))], 6, 63⟩ : St)) (l := []) ?_ ?_
     · exact leA
     refine j8g ?_; obtain ⟨v_26, ev_26, h⟩ := z8 h; simp only [go_sem]; refine callq (fun _ => (z3g a_15 v_26 ev_26)) (by rfl) (by rfl) ?_; obtain ⟨v_27, ev_27, h⟩ := z8 h; simp only [go_sem]; refine callq (fun _ => (qo7 v_26 xv_63.Rec.K v_27 ev_27)) (by rfl) (by rfl) ?_; obtain ⟨v_28, ev_28, h⟩ := z8 h; simp only [go_sem]; refine q1o [0, 5] (q2h (⟨a_12, b_2⟩ : GOps_maker) v_27 1 v_28 ev_28) ?_; simp only [go_sem]; refine q8 Q16 (q02 ?_); simp only [go_sem]; refine q1p [some 6] [(0, .box [.osl 6 3 (0) (v_28.2.out.length), .v (.int .i64 v_28.2.many)]), (2, .box [.ptr 0 0]), (3, .box [.v (.int .i64 kind_0)]), (4, .box [.sl 3 (enc b_0)]), (6, .arr 3 (enc v_28.2.out))] 7 (.v (.bool v_28.1)) ?_ ?_
     · exact leA
     refine q29 ?_; simp only [go_sem]; refine q8 Q13 (sB h (fun _ h => ?_) fun _ h => ?_)
     ·
      refine sM ?_; refine q02 (q15 Q12 (q0p Q10 (q2o Q7 (q0p Q6 (q15 Q4 ?_))))); simp only [go_sem]; refine q1p [some 6] [(0, .box [.osl 5 3 (0) (v_28.2.out.length), .v (.int .i64 v_28.2.many)]), (2, .box [.ptr 0 0]), (3, .box [.v (.int .i64 kind_0)]), (4, .box [.sl 3 (enc b_0)]), (5, .arr 3 (enc v_28.2.out))] 6 (.v (.bool false)) ?_ ?_
      · exact leA
      refine q29 ?_; simp only [go_sem]; exact au
     · exact au
 ·
  refine q0s (q23 Q8 (q0t Q7 (q0k Q6 (q8 Q4 (sM ?_))))); refine q02 ?_; simp only [go_sem]; refine q1p [some 5] [(0, .box [.osl 5 3 (0) (a_12.length), .v (.int .i64 b_2)]), (2, .box [.ptr 0 0]), (3, .box [.v (.int .i64 kind_0)]), (4, .box [.sl 3 (enc b_0)]), (5, .arr 3 (enc a_12))] 6 (.v (.bool true)) ?_ ?_
  · exact leA
  refine q29 ?_; simp only [go_sem]; exact au
def q58 (b_0 : List GItem) (xv_51 : GItem) (t13_5 : Int) (rec_3 : (Int × Int × (List GItem) → Option (Bool × GOps_maker))) (xv_60 : GItem) (rec_4 : Int × Int × (List GItem) → Option (Bool × GOps_maker)) : Int × Int × (List GItem) → Option (Bool × GOps_maker) :=
 fun (t19_17, b_26, a_26) =>
 (if (decide (t19_17 < (b_0.length : Int))) = true then q9 (idx b_0 t19_17) (fun xv_63 =>
 (if (!(xv_63.Rec.K == xv_51.Rec.K)) = true then rec_4 (i64.wrap (t19_17 + 1), b_26, a_26)
 else (if ((decide (65536 < xv_60.N)) || (decide (65536 < xv_63.N))) = true then some (false, (⟨a_26, b_26⟩ : GOps_maker))
 else q9 (q8q xv_51.Rec.K xv_60.Rec.V xv_63.Rec.V) (fun v_52 =>
 q9 (q10 (⟨a_26, b_26⟩ : GOps_maker) v_52 (i64.wrap (xv_60.N * xv_63.N))) (fun v_53 =>
 (if (!v_53.1) = true then some (false, v_53.2)
 else rec_4 (i64.wrap (t19_17 + 1), v_53.2.many, v_53.2.out)))))))
 else rec_3 (i64.wrap (t13_5 + 1), b_26, a_26))
def q59 (a_0 : List GItem) (b_0 : List GItem) (fromv_1 : Int) (rec_1 : (Int × Int × (List GItem) → Option (Bool × GOps_maker))) (tov_12 : Int) (xv_51 : GItem) (rec_3 : Int × Int × (List GItem) → Option (Bool × GOps_maker)) : Int × Int × (List GItem) → Option (Bool × GOps_maker) :=
 fun (t13_5, b_24, a_24) =>
 (if (decide (t13_5 < (List.length (List.drop (fromv_1.toNat) (List.take (tov_12.toNat) a_0)) : Int))) = true then q9 (idx (List.drop (fromv_1.toNat) (List.take (tov_12.toNat) a_0)) t13_5) (fun xv_60 =>
 d9 (q58 b_0 xv_51 t13_5 rec_3 xv_60) rounds (0, b_24, a_24))
 else rec_1 (tov_12, b_24, a_24))
def q2g (a_0 : List GItem) (b_0 : List GItem) (fromv_1 : Int) (b_18 : Int) (a_18 : List GItem) (rec_1 : (Int × Int × (List GItem) → Option (Bool × GOps_maker))) (tov_12 : Int) : Option (Bool × GOps_maker) :=
 q9 (idx a_0 fromv_1) (fun xv_51 =>
 p9 (0 ≤ fromv_1 ∧ fromv_1 ≤ tov_12 ∧ tov_12 ≤ (a_0.length : Int)) (
 d9 (q59 a_0 b_0 fromv_1 rec_1 tov_12 xv_51) rounds (0, b_18, a_18)))
def q9i (a_0 : List GItem) (b_0 : List GItem) (fromv_1 : Int) (b_18 : Int) (a_18 : List GItem) (rec_1 : (Int × Int × (List GItem) → Option (Bool × GOps_maker))) (rec_5 : Int → Option (Bool × GOps_maker)) : Int → Option (Bool × GOps_maker) :=
 fun tov_14 =>
 (if (decide (tov_14 < (a_0.length : Int))) = true then q9 (idx a_0 tov_14) (fun xv_67 =>
 q9 (idx a_0 fromv_1) (fun xv_68 =>
 (if (xv_67.Rec.K == xv_68.Rec.K) = true then rec_5 (i64.wrap (tov_14 + 1))
 else q2g a_0 b_0 fromv_1 b_18 a_18 rec_1 tov_14)))
 else q2g a_0 b_0 fromv_1 b_18 a_18 rec_1 tov_14)
def q5a (a_0 : List GItem) (b_0 : List GItem) (rec_1 : Int × Int × (List GItem) → Option (Bool × GOps_maker)) : Int × Int × (List GItem) → Option (Bool × GOps_maker) :=
 fun (fromv_1, b_18, a_18) =>
 (if (decide (fromv_1 < (a_0.length : Int))) = true then d9 (q9i a_0 b_0 fromv_1 b_18 a_18 rec_1) rounds fromv_1
 else some (true, (⟨a_18, b_18⟩ : GOps_maker)))
def q4k (mv_0 : GOps_maker) (a_0 : List GItem) (b_0 : List GItem) : Option (Bool × GOps_maker) :=
 d9 (q5a a_0 b_0) rounds (0, mv_0.many, mv_0.out)
theorem qr2 (mv_0 : GOps_maker) (a_0 : List GItem) (b_0 : List GItem)  (r : Bool × GOps_maker) (h : q4k mv_0 a_0 b_0 = some r) : DetS pp 89 [.ptr 0 0, .sl 3 (enc a_0), .sl 3 (enc b_0)] [(0, .box [.osl 1 3 (0) (mv_0.out.length), .v (.int .i64 mv_0.many)]), (1, .arr 3 (enc mv_0.out))] 2 (.v (.bool r.1)) [(0, .box [.osl 2 3 (0) (r.2.out.length), .v (.int .i64 r.2.many)]), (2, .arr 3 (enc r.2.out))] 3 := by
 refine dtI Tryz.func89 rfl ?_; rw [q4k] at h; have F := trivial; refine sM ?_; refine sg fun _ Q2 => ?_; simp only [go_sem]; refine q6y Tryz.func109 rfl (by kernel_rfl) (by kernel_rfl) ?_; refine sM ?_; refine jg fun _ Q4 => ?_; refine sM ?_; refine w9 fun _ Q6 => ?_; refine q0n h [0, 1] (fun x => ([(5, .v (.int .i64 x.1))], [(0, .box [.osl 4 3 (0) (x.2.2.length), .v (.int .i64 x.2.1)]), (2, .box [.ptr 0 0]), (3, .box [.sl 3 (enc b_0)]), (4, .arr 3 (enc x.2.2))])) 5 ?_; rintro m_1 ⟨fromv_1, b_18, a_18⟩ h _ Q7; rw [q5a] at h; refine sg fun _ Q8 => ?_; refine sM ?_; refine sB h (fun _ h => ?_) fun _ h => ?_
 ·
  refine y7 (q8 Q8 (w9 fun _ Q10 => ?_)); refine sM ?_; refine q3p (fun (tov_12 : Int) => q2g a_0 b_0 fromv_1 b_18 a_18 (d9 (q5a a_0 b_0) m_1) tov_12 = some r) [0, 1, 5] (fun tov_12 => ([(6, .v (.int .i64 tov_12))], [(0, .box [.osl 4 3 (0) (a_18.length), .v (.int .i64 b_18)]), (2, .box [.ptr 0 0]), (3, .box [.sl 3 (enc b_0)]), (4, .arr 3 (enc a_18))])) 5 ?_ ?_
  ·
   intro _ Q40; refine w9 fun _ Q41 => ?_; refine q0n h [0, 1, 5] (fun tov_14 => ([(6, .v (.int .i64 tov_14))], [(0, .box [.osl 4 3 (0) (a_18.length), .v (.int .i64 b_18)]), (2, .box [.ptr 0 0]), (3, .box [.sl 3 (enc b_0)]), (4, .arr 3 (enc a_18))])) 5 ?_; rintro m_5 tov_14 h _ Q42; rw [q9i] at h; refine sg fun _ Q43 => ?_; refine sg fun _ Q44 => ?_; refine q07 ?_; refine j8g ?_; simp only [go_sem]; rcases hb_154 : (decide (tov_14 < (a_0.length : Int))) with _ | _
   · replace h := q45 h hb_154; simp only [go_sem, hb_154]; exact au
   · replace h := q44 h hb_154; obtain ⟨xv_67, F, h⟩ := bI F h; obtain ⟨xv_68, F, h⟩ := bI F h; simp only [go_sem, hb_154, F]; refine ai ?_; refine ai ?_; exact au
  ·
   rintro tov_12 h
   try dsimp only at h
   rw [q2g] at h; refine sg fun _ Q12 => ?_; refine sg fun _ Q13 => ?_; refine q07 ?_; refine j8g ?_; obtain ⟨xv_51, F, h⟩ := bI F h; obtain ⟨F, h⟩ := bG F h; simp only [go_sem, F]; refine ai ?_; refine q6y Tryz.func110 rfl (by kernel_rfl) (by kernel_rfl) ?_; refine sM ?_; refine jg fun _ Q15 => ?_; refine sM ?_; refine w9 fun _ Q17 => ?_; refine q0n h [0, 2, 3, 11, 12] (fun x => ([(13, .v (.int .i64 x.1))], [(0, .box [.osl 5 3 (0) (x.2.2.length), .v (.int .i64 x.2.1)]), (2, .box [.ptr 0 0]), (3, .box [.sl 3 (enc b_0)]), (5, .arr 3 (enc x.2.2))])) 6 ?_; rintro m_3 ⟨t13_5, b_24, a_24⟩ h _ Q18; rw [q59] at h; refine sM ?_; refine sg fun _ Q20 => ?_; refine sB h (fun _ h => ?_) fun _ h => ?_
   ·
    refine y7 (q8 Q20 (jg fun _ Q21 => ?_)); refine w9 fun _ Q22 => ?_; refine sg fun _ Q23 => ?_; obtain ⟨xv_60, F, h⟩ := bI F h; simp only [go_sem, F]; refine ai ?_; refine q8 Q23 (sM ?_); refine w9 fun _ Q25 => ?_; refine q0n h [0, 2, 3, 11, 12, 13, 17, 18] (fun x => ([(8, .ptr 5 0), (19, .v (.int .i64 x.1))], [(0, .box [.osl 6 3 (0) (x.2.2.length), .v (.int .i64 x.2.1)]), (2, .box [.ptr 0 0]), (3, .box [.sl 3 (enc b_0)]), (5, .box (Row.row xv_60)), (6, .arr 3 (enc x.2.2))])) 7 ?_; rintro m_4 ⟨t19_17, b_26, a_26⟩ h _ Q26; rw [q58] at h; refine sM ?_; refine sg fun _ Q28 => ?_; refine sB h (fun _ h => ?_) fun _ h => ?_
    ·
     refine y7 (q8 Q28 (sg fun _ Q29 => ?_)); refine w9 fun _ Q30 => ?_; refine sg fun _ Q31 => ?_; obtain ⟨xv_63, F, h⟩ := bI F h; simp only [go_sem, F]; refine ai ?_; refine q8 Q31 (sg fun _ Q32 => ?_); refine sM ?_; refine sB h (fun _ h => ?_) fun _ h => ?_
     · exact au
     ·
      refine y7 (q8 Q32 (sg fun _ Q34 => ?_)); refine q07 ?_; refine j8g ?_; simp only [go_sem]; rcases hb_148 : ((decide (65536 < xv_60.N)) || (decide (65536 < xv_63.N))) with _ | _
      ·
       replace h := q45 h hb_148; obtain ⟨v_52, ev_52, h⟩ := z8 h; simp only [go_sem, hb_148]; refine callq (fun _ => (za5 xv_51.Rec.K xv_60.Rec.V xv_63.Rec.V v_52 ev_52)) (by rfl) (by rfl) ?_; obtain ⟨v_53, ev_53, h⟩ := z8 h; simp only [go_sem]; refine q1o [0, 6] (q2h (⟨a_26, b_26⟩ : GOps_maker) v_52 (i64.wrap (xv_60.N * xv_63.N)) v_53 ev_53) ?_; simp only [go_sem]; refine q8 Q34 (sB h (fun _ h => ?_) fun _ h => ?_)
       ·
        refine sM ?_; refine q02 (q0p Q30 (q15 Q29 (q2o Q26 (q0p Q25 (q0p Q22 (q15 Q21 (q2o Q18 (q0p Q17 (q15 Q15 ?_))))))))); simp only [go_sem]; refine q1p [some 5, some 7, some 8] [(0, .box [.osl 7 3 (0) (v_53.2.out.length), .v (.int .i64 v_53.2.many)]), (2, .box [.ptr 0 0]), (3, .box [.sl 3 (enc b_0)]), (5, .box (Row.row xv_60)), (6, .box (Row.row xv_63)), (7, .arr 3 (enc v_53.2.out))] 8 (.v (.bool false)) ?_ ?_
        · exact leA
        refine q29 ?_; simp only [go_sem]; refine q8 Q13 (j9z ?_); refine sM ?_; refine q02 (q15 Q12 (q0p Q10 (q2o Q7 (q0p Q6 (q15 Q4 ?_))))); simp only [go_sem]; refine q1p [some 5, some 6, some 7] [(0, .box [.osl 6 3 (0) (v_53.2.out.length), .v (.int .i64 v_53.2.many)]), (2, .box [.ptr 0 0]), (3, .box [.sl 3 (enc b_0)]), (4, .box (Row.row xv_60)), (5, .box (Row.row xv_63)), (6, .arr 3 (enc v_53.2.out))] 7 (.v (.bool false)) ?_ ?_
        · exact leA
        refine q29 ?_; simp only [go_sem]; exact au
       · exact au
      ·
       replace h := q44 h hb_148; simp only [go_sem, hb_148]; refine q8 Q34 (j9z ?_); refine sM ?_; refine q02 (q0p Q30 (q15 Q29 (q2o Q26 (q0p Q25 (q0p Q22 (q15 Q21 (q2o Q18 (q0p Q17 (q15 Q15 ?_))))))))); simp only [go_sem]; refine q1p [some 5, some 6, some 7] [(0, .box [.osl 6 3 (0) (a_26.length), .v (.int .i64 b_26)]), (2, .box [.ptr 0 0]), (3, .box [.sl 3 (enc b_0)]), (5, .box (Row.row xv_60)), (6, .arr 3 (enc a_26)), (7, .box (Row.row xv_63))] 8 (.v (.bool false)) ?_ ?_
       · exact leA
       refine q29 ?_; simp only [go_sem]; refine q8 Q13 (j9z ?_); refine sM ?_; refine q02 (q15 Q12 (q0p Q10 (q2o Q7 (q0p Q6 (q15 Q4 ?_))))); simp only [go_sem]; refine q1p [some 5, some 6, some 7] [(0, .box [.osl 5 3 (0) (a_26.length), .v (.int .i64 b_26)]), (2, .box [.ptr 0 0]), (3, .box [.sl 3 (enc b_0)]), (4, .box (Row.row xv_60)), (5, .arr 3 (enc a_26)), (6, .box (Row.row xv_63))] 7 (.v (.bool false)) ?_ ?_
       · exact leA
       refine q29 ?_; simp only [go_sem]; exact au
    · exact au
   ·
    refine q0s (q23 Q20 (q0t Q18 (q0k Q17 (q8 Q15 (sM ?_))))); refine q02 ?_; simp only [go_sem]; refine q1p [some 5] [(0, .box [.osl 5 3 (0) (a_24.length), .v (.int .i64 b_24)]), (2, .box [.ptr 0 0]), (3, .box [.sl 3 (enc b_0)]), (5, .arr 3 (enc a_24))] 6 (.v (.bool true)) ?_ ?_
    · exact leA
    refine q29 ?_; simp only [go_sem]; exact au
 ·
  refine q0s (q23 Q8 (q0t Q7 (q0k Q6 (q8 Q4 (sM ?_))))); refine q02 ?_; simp only [go_sem]; refine q1p [some 4] [(0, .box [.osl 4 3 (0) (a_18.length), .v (.int .i64 b_18)]), (2, .box [.ptr 0 0]), (3, .box [.sl 3 (enc b_0)]), (4, .arr 3 (enc a_18))] 5 (.v (.bool true)) ?_ ?_
  · exact leA
  refine q29 ?_; simp only [go_sem]; exact au
end Go.Proofs.YteibkihbdgphnaaGreat
