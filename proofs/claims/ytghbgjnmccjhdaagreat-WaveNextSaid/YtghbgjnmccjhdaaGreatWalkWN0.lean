/-
  What functions of the program compute, each told as a plain function that may give nothing, with the proof that the code does so. No condition beyond those that each theorem names.
-/
import Derived.Test.YtghbgjnmccjhdaaGreatLibD
import Derived.Test.YtghbgjnmccjhdaaGreatProg
import Derived.Test.YtghbgjnmccjhdaaGreatLibI
set_option linter.unusedSimpArgs false
set_option linter.unusedVariables false
set_option linter.unusedSectionVars false
set_option maxHeartbeats 2000000
set_option maxRecDepth 100000
namespace Go.Proofs.YtghbgjnmccjhdaaGreat
open Go Go.RowKit
open Go.IntKind (i64)
noncomputable abbrev pp : Program := Tryz.prog
@[reducible] def tyF (P : Program) (t s : Nat) (a : Bool) (b : Nat) (n : List (Option Nat)) (r : Option (Nat × Nat)) (z : Option (List Value)) : Prop := szT P t = s ∧ q1b P t = true ∧ q4w P t = a ∧ q1t P t = b ∧ q5u P t = n ∧ qi8 P t = r ∧ q1n P t = z
@[go_sem] theorem j66 : tyF pp 2 1 false 8 [none] none (some [.int .i64 0]) ∧ (qj1 pp 2 = some .i64) ∧ tyF pp 3 1 false 8 [none] none (some [.int .i64 0]) ∧ (qj1 pp 3 = some .i64) ∧ tyF pp 4 1 false 1 [none] none (some [.bool false]) ∧ (Tryz.prog.underlying 4 = some .bool) ∧ tyF pp 22 1 false 24 [some 1] none (some [.slice none 0 0]) ∧ (sliceT pp 22 = some 3) ∧ tyF pp 23 1 false 24 [some 4] none (some [.slice none 0 0]) ∧ (sliceT pp 23 = some 56) ∧ tyF pp 24 1 false 24 [some 4] none (some [.slice none 0 0]) ∧ (sliceT pp 24 = some 58) ∧ tyF pp 26 4 true 96 [some 1, some 1, some 4, some 4] none (some [.slice none 0 0, .slice none 0 0, .slice none 0 0, .slice none 0 0]) ∧ (q0e pp 26 0 = some (0, 22)) ∧ (q0e pp 26 1 = some (1, 22)) ∧ (q0e pp 26 2 = some (2, 23)) ∧ (q0e pp 26 3 = some (3, 24)) ∧ (q3g pp 26 = some [(0, 1), (1, 1), (2, 1), (3, 1)]) := by (repeat' apply And.intro) <;> kernel_rfl
@[go_sem] theorem j5h : tyF pp 27 1 false 24 [some 4] none (some [.slice none 0 0]) ∧ (sliceT pp 27 = some 62) ∧ tyF pp 30 1 false 24 [some 8] none (some [.slice none 0 0]) ∧ (sliceT pp 30 = some 41) ∧ tyF pp 31 1 false 24 [some 4] none (some [.slice none 0 0]) ∧ (sliceT pp 31 = some 63) ∧ tyF pp 32 1 false 8 [none] none (some [.int .i64 0]) ∧ (qj1 pp 32 = some .i64) ∧ tyF pp 35 4 true 32 [none, none, none, none] (some (4, 3)) (some [.int .i64 0, .int .i64 0, .int .i64 0, .int .i64 0]) ∧ (q3g pp 35 = some [(0, 1), (1, 1), (2, 1), (3, 1)]) ∧ tyF pp 37 5 true 40 [none, none, none, none, none] none (some [.int .i64 0, .int .i64 0, .int .i64 0, .int .i64 0, .int .i64 0]) ∧ (q0e pp 37 0 = some (0, 3)) ∧ (q0e pp 37 1 = some (1, 35)) ∧ (q3g pp 37 = some [(0, 1), (1, 4)]) ∧ tyF pp 39 6 true 48 [none, none, none, none, none, none] none (some [.int .i64 0, .int .i64 0, .int .i64 0, .int .i64 0, .int .i64 0, .int .i64 0]) ∧ (q0e pp 39 0 = some (0, 3)) ∧ (q0e pp 39 1 = some (1, 37)) ∧ (q3g pp 39 = some [(0, 1), (1, 5)]) := by (repeat' apply And.intro) <;> kernel_rfl
@[go_sem] theorem j5g : tyF pp 41 8 true 64 [none, none, none, none, none, none, none, none] none (some [.int .i64 0, .int .i64 0, .int .i64 0, .int .i64 0, .int .i64 0, .int .i64 0, .int .i64 0, .int .i64 0]) ∧ (q0e pp 41 0 = some (0, 39)) ∧ (q0e pp 41 1 = some (6, 3)) ∧ (q0e pp 41 2 = some (7, 3)) ∧ (q3g pp 41 = some [(0, 6), (6, 1), (7, 1)]) ∧ tyF pp 44 1 false 24 [some 1] none (some [.slice none 0 0]) ∧ (sliceT pp 44 = some 51) ∧ tyF pp 46 1 false 24 [some 6] none (some [.slice none 0 0]) ∧ (sliceT pp 46 = some 39) ∧ tyF pp 51 1 false 24 [some 1] none (some [.slice none 0 0]) ∧ (sliceT pp 51 = some 83) ∧ tyF pp 54 1 false 24 [some 2] none (some [.slice none 0 0]) ∧ (sliceT pp 54 = some 172) ∧ tyF pp 56 4 true 48 [none, none, none, some 2] none (some [.int .i64 0, .int .i64 0, .int .i64 0, .slice none 0 0]) ∧ (q0e pp 56 0 = some (0, 3)) ∧ (q0e pp 56 1 = some (1, 3)) ∧ (q0e pp 56 2 = some (2, 2)) ∧ (q0e pp 56 3 = some (3, 54)) ∧ (q3g pp 56 = some [(0, 1), (1, 1), (2, 1), (3, 1)]) ∧ (szT pp 58 = 4) ∧ (q1b pp 58 = true) ∧ (q4w pp 58 = true) ∧ (q1t pp 58 = 32) ∧ (q5u pp 58 = [none, none, none, none]) := by (repeat' apply And.intro) <;> kernel_rfl
@[go_sem] theorem j5f : (qi8 pp 58 = none) ∧ (q0e pp 58 0 = some (0, 3)) ∧ (q0e pp 58 1 = some (1, 3)) ∧ (q0e pp 58 2 = some (2, 3)) ∧ (q0e pp 58 3 = some (3, 4)) ∧ (q3g pp 58 = some [(0, 1), (1, 1), (2, 1), (3, 1)]) ∧ (q1n pp 58 = some [.int .i64 0, .int .i64 0, .int .i64 0, .bool false]) ∧ tyF pp 60 2 true 16 [none, none] none (some [.int .i64 0, .int .i64 0]) ∧ (q0e pp 60 0 = some (0, 2)) ∧ (q0e pp 60 1 = some (1, 2)) ∧ (q3g pp 60 = some [(0, 1), (1, 1)]) ∧ tyF pp 62 4 true 32 [none, none, none, none] none (some [.int .i64 0, .int .i64 0, .int .i64 0, .int .i64 0]) ∧ (q0e pp 62 0 = some (0, 3)) ∧ (q0e pp 62 1 = some (1, 3)) ∧ (q0e pp 62 2 = some (2, 60)) ∧ (q3g pp 62 = some [(0, 1), (1, 1), (2, 2)]) ∧ tyF pp 63 4 true 32 [none, none, none, none] none (some [.int .i64 0, .int .i64 0, .int .i64 0, .int .i64 0]) ∧ (q0e pp 63 0 = some (0, 3)) ∧ (q0e pp 63 1 = some (1, 3)) ∧ (q0e pp 63 2 = some (2, 60)) ∧ (q3g pp 63 = some [(0, 1), (1, 1), (2, 2)]) ∧ tyF pp 65 1 false 8 [none] none (some [.pointer none]) ∧ tyF pp 66 1 false 24 [some 2] none (some [.slice none 0 0]) ∧ (sliceT pp 66 = some 110) ∧ (szT pp 68 = 2) ∧ (q1b pp 68 = true) ∧ (q4w pp 68 = true) ∧ (q1t pp 68 = 48) ∧ (q5u pp 68 = [some 6, some 2]) ∧ (qi8 pp 68 = none) := by (repeat' apply And.intro) <;> kernel_rfl
@[go_sem] theorem j5e : (q0e pp 68 0 = some (0, 46)) ∧ (q0e pp 68 1 = some (1, 66)) ∧ (q3g pp 68 = some [(0, 1), (1, 1)]) ∧ (q1n pp 68 = some [.slice none 0 0, .slice none 0 0]) ∧ tyF pp 70 12 true 272 [some 6, some 2, some 1, some 1, some 4, some 4, some 1, some 6, some 2, none, some 8, some 4] none (some [.slice none 0 0, .slice none 0 0, .slice none 0 0, .slice none 0 0, .slice none 0 0, .slice none 0 0, .slice none 0 0, .slice none 0 0, .slice none 0 0, .int .i64 0, .slice none 0 0, .slice none 0 0]) ∧ (q0e pp 70 0 = some (0, 68)) ∧ (q0e pp 70 1 = some (2, 26)) ∧ (q0e pp 70 2 = some (6, 44)) ∧ (q0e pp 70 3 = some (7, 68)) ∧ (q0e pp 70 4 = some (9, 3)) ∧ (q0e pp 70 5 = some (10, 30)) ∧ (q0e pp 70 6 = some (11, 31)) ∧ (q3g pp 70 = some [(0, 2), (2, 4), (6, 1), (7, 2), (9, 1), (10, 1), (11, 1)]) ∧ tyF pp 73 3 true 24 [none, none, none] none (some [.int .i64 0, .int .i64 0, .int .i64 0]) ∧ (q0e pp 73 0 = some (0, 60)) ∧ (q0e pp 73 1 = some (2, 3)) ∧ (q3g pp 73 = some [(0, 2), (2, 1)]) ∧ tyF pp 74 1 false 24 [some 3] none (some [.slice none 0 0]) ∧ (sliceT pp 74 = some 73) ∧ tyF pp 80 1 false 8 [none] none (some [.nilFunc]) ∧ tyF pp 83 1 false 24 [some 11] none (some [.slice none 0 0]) ∧ (sliceT pp 83 = some 86) ∧ (szT pp 86 = 11) ∧ (q1b pp 86 = true) ∧ (q4w pp 86 = true) ∧ (q1t pp 86 = 88) ∧ (q5u pp 86 = [none, none, none, none, none, none, none, none, none, none, none]) ∧ (qi8 pp 86 = none) ∧ (q0e pp 86 0 = some (0, 3)) ∧ (q0e pp 86 1 = some (1, 3)) := by (repeat' apply And.intro) <;> kernel_rfl
@[go_sem] theorem j5d : (q0e pp 86 2 = some (2, 3)) ∧ (q0e pp 86 3 = some (3, 35)) ∧ (q0e pp 86 4 = some (7, 35)) ∧ (q3g pp 86 = some [(0, 1), (1, 1), (2, 1), (3, 4), (7, 4)]) ∧ (q1n pp 86 = some [.int .i64 0, .int .i64 0, .int .i64 0, .int .i64 0, .int .i64 0, .int .i64 0, .int .i64 0, .int .i64 0, .int .i64 0, .int .i64 0, .int .i64 0]) ∧ tyF pp 101 1 false 24 [some 1] none (some [.slice none 0 0]) ∧ (sliceT pp 101 = some 4) ∧ tyF pp 107 1 false 8 [none] none (some [.nilFunc]) ∧ tyF pp 110 2 true 48 [some 3, some 3] (some (2, 74)) (some [.slice none 0 0, .slice none 0 0]) ∧ (q3g pp 110 = some [(0, 1), (1, 1)]) ∧ tyF pp 114 1 false 24 [some 1] none (some [.slice none 0 0]) ∧ (sliceT pp 114 = some 74) ∧ tyF pp 131 1 false 8 [none] none (some [.nilFunc]) ∧ tyF pp 149 1 false 8 [none] none (some [.pointer none]) ∧ tyF pp 151 2 true 32 [some 3, none] none (some [.slice none 0 0, .int .i64 0]) ∧ (q0e pp 151 0 = some (0, 74)) ∧ (q0e pp 151 1 = some (1, 3)) ∧ (q3g pp 151 = some [(0, 1), (1, 1)]) := by (repeat' apply And.intro) <;> kernel_rfl
@[go_sem] theorem j5c : tyF pp 157 1 false 24 [some 2] none (some [.slice none 0 0]) ∧ (sliceT pp 157 = some 60) ∧ tyF pp 167 1 false 8 [none] none (some [.nilFunc]) ∧ tyF pp 172 2 true 16 [none, none] none (some [.int .i64 0, .int .i64 0]) ∧ (q0e pp 172 0 = some (0, 3)) ∧ (q0e pp 172 1 = some (1, 2)) ∧ (q3g pp 172 = some [(0, 1), (1, 1)]) ∧ tyF pp 178 1 false 8 [none] none (some [.nilFunc]) ∧ tyF pp 179 1 false 8 [none] none (some [.int .u64 0]) ∧ (qj1 pp 179 = some .u64) ∧ tyF pp 181 2 true 16 [none, none] none (some [.int .i64 0, .int .u64 0]) ∧ (q0e pp 181 0 = some (0, 2)) ∧ (q0e pp 181 1 = some (1, 179)) ∧ (q3g pp 181 = some [(0, 1), (1, 1)]) ∧ tyF pp 186 1 false 8 [none] none (some [.int .u64 0]) ∧ (qj1 pp 186 = some .u64) ∧ (szT pp 188 = 1) ∧ (q1b pp 188 = true) := by (repeat' apply And.intro) <;> kernel_rfl
@[go_sem] theorem j5b : (q4w pp 188 = false) ∧ (q1t pp 188 = 8) ∧ (q5u pp 188 = [none]) ∧ (qi8 pp 188 = none) ∧ (q1n pp 188 = some [.nilFunc]) ∧ tyF pp 190 1 false 8 [none] none (some [.nilFunc]) ∧ tyF pp 194 1 false 8 [none] none (some [.nilFunc]) ∧ tyF pp 206 1 false 8 [none] none (some [.pointer none]) ∧ tyF pp 207 1 false 24 [some 1] none (some [.slice none 0 0]) ∧ (sliceT pp 207 = some 2) ∧ tyF pp 209 6 true 80 [none, none, some 1, some 2, none, none] none (some [.int .i64 0, .int .i64 0, .slice none 0 0, .slice none 0 0, .int .i64 0, .int .i64 0]) ∧ (q0e pp 209 0 = some (0, 60)) ∧ (q0e pp 209 1 = some (2, 207)) ∧ (q0e pp 209 2 = some (3, 157)) ∧ (q0e pp 209 3 = some (4, 3)) ∧ (q0e pp 209 4 = some (5, 3)) ∧ (q3g pp 209 = some [(0, 2), (2, 1), (3, 1), (4, 1), (5, 1)]) ∧ tyF pp 214 1 false 4 [none] none (some [.int .u32 0]) ∧ (qj1 pp 214 = some .u32) ∧ (x8 pp 3 = true) ∧ (x8 pp 5 = true) ∧ (x8 pp 6 = true) ∧ (x8 pp 7 = true) ∧ (x8 pp 8 = true) := by (repeat' apply And.intro) <;> kernel_rfl
@[go_sem] theorem j5a : (x8 pp 9 = true) ∧ (x8 pp 10 = true) ∧ (x8 pp 11 = true) ∧ (x8 pp 16 = true) ∧ (x8 pp 17 = true) ∧ (x8 pp 18 = true) ∧ (x8 pp 19 = true) ∧ (x8 pp 20 = true) ∧ (x8 pp 21 = true) ∧ (x8 pp 22 = true) ∧ (x8 pp 23 = true) ∧ (x8 pp 24 = true) ∧ (x8 pp 25 = true) ∧ (x8 pp 26 = true) ∧ (x8 pp 27 = true) ∧ (x8 pp 28 = true) ∧ (x8 pp 29 = true) ∧ (x8 pp 30 = true) ∧ (x8 pp 31 = true) ∧ (x8 pp 32 = true) ∧ (x8 pp 33 = true) ∧ (x8 pp 34 = true) ∧ (x8 pp 47 = true) ∧ (x8 pp 48 = true) ∧ (x8 pp 49 = true) ∧ (x8 pp 50 = true) ∧ (x8 pp 51 = true) ∧ (x8 pp 52 = true) ∧ (x8 pp 53 = true) ∧ (x8 pp 54 = true) ∧ (x8 pp 55 = true) ∧ (x8 pp 56 = true) ∧ (x8 pp 57 = true) ∧ (x8 pp 58 = true) ∧ (x8 pp 59 = true) ∧ (x8 pp 60 = true) ∧ (x8 pp 61 = true) ∧ (x8 pp 62 = true) ∧ (x8 pp 63 = true) ∧ (x8 pp 64 = true) ∧ (x8 pp 65 = true) ∧ (x8 pp 66 = true) ∧ (x8 pp 67 = true) ∧ (x8 pp 68 = true) ∧ (x8 pp 69 = true) ∧ (x8 pp 70 = true) ∧ (x8 pp 71 = true) ∧ (x8 pp 72 = true) ∧ (x8 pp 73 = true) ∧ (x8 pp 74 = true) ∧ (x8 pp 75 = true) ∧ (x8 pp 76 = true) ∧ (x8 pp 77 = true) ∧ (x8 pp 87 = true) ∧ (x8 pp 88 = true) ∧ (x8 pp 89 = true) ∧ (x8 pp 90 = true) ∧ (x8 pp 91 = true) ∧ (x8 pp 92 = true) ∧ (x8 pp 93 = true) := by (repeat' apply And.intro) <;> kernel_rfl
@[go_sem] theorem j59 : (x8 pp 94 = true) ∧ (x8 pp 95 = true) ∧ (x8 pp 96 = true) ∧ (x8 pp 97 = true) ∧ (x8 pp 98 = true) ∧ (x8 pp 99 = true) ∧ (x8 pp 100 = true) ∧ (x8 pp 101 = true) ∧ (x8 pp 102 = true) ∧ (x8 pp 103 = true) ∧ (x8 pp 104 = true) ∧ (x8 pp 105 = true) ∧ (x8 pp 106 = true) ∧ (x8 pp 107 = true) ∧ (x8 pp 108 = true) ∧ (x8 pp 109 = true) ∧ (x8 pp 110 = true) ∧ (x8 pp 111 = true) ∧ (x8 pp 112 = true) ∧ (x8 pp 113 = true) ∧ (x8 pp 114 = true) ∧ (x8 pp 115 = true) ∧ (x8 pp 116 = true) ∧ (x8 pp 117 = true) ∧ (x8 pp 118 = true) ∧ (x8 pp 119 = true) ∧ (x8 pp 120 = true) ∧ (x8 pp 121 = true) ∧ (x8 pp 122 = true) ∧ (x8 pp 123 = true) ∧ (x8 pp 124 = true) ∧ (x8 pp 125 = true) ∧ (x8 pp 126 = true) ∧ (x8 pp 127 = true) ∧ (x8 pp 128 = true) ∧ (x8 pp 129 = true) ∧ (x8 pp 130 = true) ∧ (x8 pp 131 = true) ∧ (x8 pp 132 = true) ∧ (x8 pp 133 = true) ∧ (x8 pp 134 = true) ∧ (x8 pp 135 = true) ∧ (x8 pp 136 = true) ∧ (x8 pp 137 = true) ∧ (x8 pp 138 = true) ∧ (x8 pp 139 = true) ∧ (x8 pp 140 = true) ∧ (x8 pp 141 = true) ∧ (x8 pp 142 = true) ∧ (x8 pp 143 = true) ∧ (x8 pp 144 = true) ∧ (x8 pp 145 = true) ∧ (x8 pp 146 = true) ∧ (x8 pp 147 = true) ∧ (x8 pp 148 = true) ∧ (x8 pp 149 = true) ∧ (x8 pp 150 = true) ∧ (x8 pp 151 = true) ∧ (x8 pp 152 = true) ∧ (x8 pp 155 = true) := by (repeat' apply And.intro) <;> kernel_rfl
@[go_sem] theorem j58 : (x8 pp 156 = true) ∧ (x8 pp 159 = true) ∧ (x8 pp 160 = true) ∧ (x8 pp 162 = true) ∧ (x8 pp 163 = true) ∧ (x8 pp 164 = true) ∧ (x8 pp 165 = true) ∧ (x8 pp 167 = true) ∧ (x8 pp 168 = true) ∧ (x8 pp 169 = true) := by (repeat' apply And.intro) <;> kernel_rfl
theorem mixed : Tryz.prog.follows .mixedOrders = true := by kernel_rfl
structure Arr2 (α : Type) where
  a0 : α
  a1 : α
instance {α : Type} [Row α] : Row (Arr2 α) := ⟨Row.sz α + Row.sz α, fun x => Row.row x.a0 ++ Row.row x.a1⟩
instance {α : Type} [Dat α] : Dat (Arr2 α) where
  ct := Dat.ct α ++ (Dat.ct α)
  ok x := Dat.ok x.a0 ∧ Dat.ok x.a1
  len := by simp only [List.length_append, Dat.len]; (try simp only [Row.sz]); (try omega)
  of avs h := by
    obtain ⟨b0, r0, rfl, h0, g0⟩ := d9 h; obtain ⟨x0, rfl, k0⟩ := Dat.of (α := α) _ h0; obtain ⟨x1, rfl, k1⟩ := Dat.of (α := α) _ g0; exact ⟨⟨x0, x1⟩, by simp only [Row.row, List.append_assoc], k0, k1⟩
structure Arr4 (α : Type) where
  a0 : α
  a1 : α
  a2 : α
  a3 : α
instance {α : Type} [Row α] : Row (Arr4 α) := ⟨Row.sz α + Row.sz α + Row.sz α + Row.sz α, fun x => Row.row x.a0 ++ Row.row x.a1 ++ Row.row x.a2 ++ Row.row x.a3⟩
instance {α : Type} [Dat α] : Dat (Arr4 α) where
  ct := Dat.ct α ++ (Dat.ct α ++ (Dat.ct α ++ (Dat.ct α)))
  ok x := Dat.ok x.a0 ∧ Dat.ok x.a1 ∧ Dat.ok x.a2 ∧ Dat.ok x.a3
  len := by simp only [List.length_append, Dat.len]; (try simp only [Row.sz]); (try omega)
  of avs h := by
    obtain ⟨b0, r0, rfl, h0, g0⟩ := d9 h; obtain ⟨b1, r1, rfl, h1, g1⟩ := d9 g0; obtain ⟨b2, r2, rfl, h2, g2⟩ := d9 g1; obtain ⟨x0, rfl, k0⟩ := Dat.of (α := α) _ h0; obtain ⟨x1, rfl, k1⟩ := Dat.of (α := α) _ h1; obtain ⟨x2, rfl, k2⟩ := Dat.of (α := α) _ h2; obtain ⟨x3, rfl, k3⟩ := Dat.of (α := α) _ g2; exact ⟨⟨x0, x1, x2, x3⟩, by simp only [Row.row, List.append_assoc], k0, k1, k2, k3⟩
structure Nu64 where
  n : Int
instance : Row Nu64 := ⟨1, fun x => [.v (.int .u64 x.n)]⟩
@[go_sem] theorem j5p (x : Nu64) : Row.row x = [.v (.int .u64 x.n)] := rfl
instance : Dat Nu64 where
  ct := [.int .u64]
  ok x := inI .u64 x.n
  len := rfl
  of avs h := by
    simp only [q2p, qx4] at h; obtain ⟨_, _, rfl, ⟨n, rfl, hw⟩, rfl⟩ := h; exact ⟨⟨n⟩, rfl, hw⟩
structure GIns where
  Op : Int
  N : Int
instance : Row GIns := ⟨2, fun x => [.v (.int .i64 x.Op), .v (.int .i64 x.N)]⟩
@[go_sem] theorem j5s (x : GIns) : Row.row x = [.v (.int .i64 x.Op), .v (.int .i64 x.N)] := rfl
@[go_sem] theorem j69 : Row.sz GIns = 2 := rfl
instance : Dat GIns where
  ct := Dat.ct Int ++ (Dat.ct Int)
  ok x := Dat.ok x.Op ∧ Dat.ok x.N
  len := rfl
  of avs h := by
    obtain ⟨b0, r0, rfl, h0, g0⟩ := d9 h; obtain ⟨x0, rfl, k0⟩ := Dat.of (α := Int) _ h0; obtain ⟨x1, rfl, k1⟩ := Dat.of (α := Int) _ g0; exact ⟨⟨x0, x1⟩, rfl, k0, k1⟩
structure GNode where
  Kind : Int
  Scope : Int
  Arg : Int
  Prog : List GIns
instance : Row GNode := ⟨4, fun x => [.v (.int .i64 x.Kind), .v (.int .i64 x.Scope), .v (.int .i64 x.Arg), .sl 2 (enc x.Prog)]⟩
@[go_sem] theorem j52 (x : GNode) : Row.row x = [.v (.int .i64 x.Kind), .v (.int .i64 x.Scope), .v (.int .i64 x.Arg), .sl 2 (enc x.Prog)] := rfl
@[go_sem] theorem j5k : Row.sz GNode = 4 := rfl
instance : Dat GNode where
  ct := Dat.ct Int ++ (Dat.ct Int ++ (Dat.ct Int ++ (Dat.ct (List GIns))))
  ok x := Dat.ok x.Kind ∧ Dat.ok x.Scope ∧ Dat.ok x.Arg ∧ Dat.ok x.Prog
  len := rfl
  of avs h := by
    obtain ⟨b0, r0, rfl, h0, g0⟩ := d9 h; obtain ⟨b1, r1, rfl, h1, g1⟩ := d9 g0; obtain ⟨b2, r2, rfl, h2, g2⟩ := d9 g1; obtain ⟨x0, rfl, k0⟩ := Dat.of (α := Int) _ h0; obtain ⟨x1, rfl, k1⟩ := Dat.of (α := Int) _ h1; obtain ⟨x2, rfl, k2⟩ := Dat.of (α := Int) _ h2; obtain ⟨x3, rfl, k3⟩ := Dat.of (α := List GIns) _ g2; exact ⟨⟨x0, x1, x2, x3⟩, rfl, k0, k1, k2, k3⟩
structure GEdge where
  From : Int
  To : Int
  Port : Int
  Exchange : Bool
instance : Row GEdge := ⟨4, fun x => [.v (.int .i64 x.From), .v (.int .i64 x.To), .v (.int .i64 x.Port), .v (.bool x.Exchange)]⟩
@[go_sem] theorem j54 (x : GEdge) : Row.row x = [.v (.int .i64 x.From), .v (.int .i64 x.To), .v (.int .i64 x.Port), .v (.bool x.Exchange)] := rfl
@[go_sem] theorem j5n : Row.sz GEdge = 4 := rfl
instance : Dat GEdge where
  ct := Dat.ct Int ++ (Dat.ct Int ++ (Dat.ct Int ++ (Dat.ct Bool)))
  ok x := Dat.ok x.From ∧ Dat.ok x.To ∧ Dat.ok x.Port ∧ Dat.ok x.Exchange
  len := rfl
  of avs h := by
    obtain ⟨b0, r0, rfl, h0, g0⟩ := d9 h; obtain ⟨b1, r1, rfl, h1, g1⟩ := d9 g0; obtain ⟨b2, r2, rfl, h2, g2⟩ := d9 g1; obtain ⟨x0, rfl, k0⟩ := Dat.of (α := Int) _ h0; obtain ⟨x1, rfl, k1⟩ := Dat.of (α := Int) _ h1; obtain ⟨x2, rfl, k2⟩ := Dat.of (α := Int) _ h2; obtain ⟨x3, rfl, k3⟩ := Dat.of (α := Bool) _ g2; exact ⟨⟨x0, x1, x2, x3⟩, rfl, k0, k1, k2, k3⟩
structure GGraph where
  Parent : List Int
  Bound : List Int
  Nodes : List GNode
  Edges : List GEdge
instance : Row GGraph := ⟨4, fun x => [.sl 1 (enc x.Parent), .sl 1 (enc x.Bound), .sl 4 (enc x.Nodes), .sl 4 (enc x.Edges)]⟩
@[go_sem] theorem j4j (x : GGraph) : Row.row x = [.sl 1 (enc x.Parent), .sl 1 (enc x.Bound), .sl 4 (enc x.Nodes), .sl 4 (enc x.Edges)] := rfl
@[go_sem] theorem j4z : Row.sz GGraph = 4 := rfl
instance : Dat GGraph where
  ct := Dat.ct (List Int) ++ (Dat.ct (List Int) ++ (Dat.ct (List GNode) ++ (Dat.ct (List GEdge))))
  ok x := Dat.ok x.Parent ∧ Dat.ok x.Bound ∧ Dat.ok x.Nodes ∧ Dat.ok x.Edges
  len := rfl
  of avs h := by
    obtain ⟨b0, r0, rfl, h0, g0⟩ := d9 h; obtain ⟨b1, r1, rfl, h1, g1⟩ := d9 g0; obtain ⟨b2, r2, rfl, h2, g2⟩ := d9 g1; obtain ⟨x0, rfl, k0⟩ := Dat.of (α := List Int) _ h0; obtain ⟨x1, rfl, k1⟩ := Dat.of (α := List Int) _ h1; obtain ⟨x2, rfl, k2⟩ := Dat.of (α := List GNode) _ h2; obtain ⟨x3, rfl, k3⟩ := Dat.of (α := List GEdge) _ g2; exact ⟨⟨x0, x1, x2, x3⟩, rfl, k0, k1, k2, k3⟩
structure GRec where
  K : Int
  V : Int
instance : Row GRec := ⟨2, fun x => [.v (.int .i64 x.K), .v (.int .i64 x.V)]⟩
@[go_sem] theorem j5q (x : GRec) : Row.row x = [.v (.int .i64 x.K), .v (.int .i64 x.V)] := rfl
@[go_sem] theorem j67 : Row.sz GRec = 2 := rfl
instance : Dat GRec where
  ct := Dat.ct Int ++ (Dat.ct Int)
  ok x := Dat.ok x.K ∧ Dat.ok x.V
  len := rfl
  of avs h := by
    obtain ⟨b0, r0, rfl, h0, g0⟩ := d9 h; obtain ⟨x0, rfl, k0⟩ := Dat.of (α := Int) _ h0; obtain ⟨x1, rfl, k1⟩ := Dat.of (α := Int) _ g0; exact ⟨⟨x0, x1⟩, rfl, k0, k1⟩
structure GFeed where
  Node : Int
  Epoch : Int
  Rec : GRec
instance : Row GFeed := ⟨4, fun x => [.v (.int .i64 x.Node), .v (.int .i64 x.Epoch), .v (.int .i64 x.Rec.K), .v (.int .i64 x.Rec.V)]⟩
@[go_sem] theorem j53 (x : GFeed) : Row.row x = [.v (.int .i64 x.Node), .v (.int .i64 x.Epoch), .v (.int .i64 x.Rec.K), .v (.int .i64 x.Rec.V)] := rfl
@[go_sem] theorem j5m : Row.sz GFeed = 4 := rfl
instance : Dat GFeed where
  ct := Dat.ct Int ++ (Dat.ct Int ++ (Dat.ct GRec))
  ok x := Dat.ok x.Node ∧ Dat.ok x.Epoch ∧ Dat.ok x.Rec
  len := rfl
  of avs h := by
    obtain ⟨b0, r0, rfl, h0, g0⟩ := d9 h; obtain ⟨b1, r1, rfl, h1, g1⟩ := d9 g0; obtain ⟨x0, rfl, k0⟩ := Dat.of (α := Int) _ h0; obtain ⟨x1, rfl, k1⟩ := Dat.of (α := Int) _ h1; obtain ⟨x2, rfl, k2⟩ := Dat.of (α := GRec) _ g1; exact ⟨⟨x0, x1, x2⟩, rfl, k0, k1, k2⟩
structure GHop where
  From : Int
  Keep : Int
  Tail : Int
  Add : Arr4 Int
  T : Arr4 Int
instance : Row GHop := ⟨11, fun x => [.v (.int .i64 x.From), .v (.int .i64 x.Keep), .v (.int .i64 x.Tail), .v (.int .i64 x.Add.a0), .v (.int .i64 x.Add.a1), .v (.int .i64 x.Add.a2), .v (.int .i64 x.Add.a3), .v (.int .i64 x.T.a0), .v (.int .i64 x.T.a1), .v (.int .i64 x.T.a2), .v (.int .i64 x.T.a3)]⟩
@[go_sem] theorem j5t (x : GHop) : Row.row x = [.v (.int .i64 x.From), .v (.int .i64 x.Keep), .v (.int .i64 x.Tail), .v (.int .i64 x.Add.a0), .v (.int .i64 x.Add.a1), .v (.int .i64 x.Add.a2), .v (.int .i64 x.Add.a3), .v (.int .i64 x.T.a0), .v (.int .i64 x.T.a1), .v (.int .i64 x.T.a2), .v (.int .i64 x.T.a3)] := rfl
@[go_sem] theorem j6a : Row.sz GHop = 11 := rfl
instance : Dat GHop where
  ct := Dat.ct Int ++ (Dat.ct Int ++ (Dat.ct Int ++ (Dat.ct (Arr4 Int) ++ (Dat.ct (Arr4 Int)))))
  ok x := Dat.ok x.From ∧ Dat.ok x.Keep ∧ Dat.ok x.Tail ∧ Dat.ok x.Add ∧ Dat.ok x.T
  len := rfl
  of avs h := by
    obtain ⟨b0, r0, rfl, h0, g0⟩ := d9 h; obtain ⟨b1, r1, rfl, h1, g1⟩ := d9 g0; obtain ⟨b2, r2, rfl, h2, g2⟩ := d9 g1; obtain ⟨b3, r3, rfl, h3, g3⟩ := d9 g2; obtain ⟨x0, rfl, k0⟩ := Dat.of (α := Int) _ h0; obtain ⟨x1, rfl, k1⟩ := Dat.of (α := Int) _ h1; obtain ⟨x2, rfl, k2⟩ := Dat.of (α := Int) _ h2; obtain ⟨x3, rfl, k3⟩ := Dat.of (α := Arr4 Int) _ h3; obtain ⟨x4, rfl, k4⟩ := Dat.of (α := Arr4 Int) _ g3; exact ⟨⟨x0, x1, x2, x3, x4⟩, rfl, k0, k1, k2, k3, k4⟩
structure GTime where
  D : Int
  C : Arr4 Int
instance : Row GTime := ⟨5, fun x => [.v (.int .i64 x.D), .v (.int .i64 x.C.a0), .v (.int .i64 x.C.a1), .v (.int .i64 x.C.a2), .v (.int .i64 x.C.a3)]⟩
@[go_sem] theorem j51 (x : GTime) : Row.row x = [.v (.int .i64 x.D), .v (.int .i64 x.C.a0), .v (.int .i64 x.C.a1), .v (.int .i64 x.C.a2), .v (.int .i64 x.C.a3)] := rfl
@[go_sem] theorem j5j : Row.sz GTime = 5 := rfl
instance : Dat GTime where
  ct := Dat.ct Int ++ (Dat.ct (Arr4 Int))
  ok x := Dat.ok x.D ∧ Dat.ok x.C
  len := rfl
  of avs h := by
    obtain ⟨b0, r0, rfl, h0, g0⟩ := d9 h; obtain ⟨x0, rfl, k0⟩ := Dat.of (α := Int) _ h0; obtain ⟨x1, rfl, k1⟩ := Dat.of (α := Arr4 Int) _ g0; exact ⟨⟨x0, x1⟩, rfl, k0, k1⟩
structure GPoint where
  Node : Int
  Time : GTime
instance : Row GPoint := ⟨6, fun x => [.v (.int .i64 x.Node), .v (.int .i64 x.Time.D), .v (.int .i64 x.Time.C.a0), .v (.int .i64 x.Time.C.a1), .v (.int .i64 x.Time.C.a2), .v (.int .i64 x.Time.C.a3)]⟩
@[go_sem] theorem j4i (x : GPoint) : Row.row x = [.v (.int .i64 x.Node), .v (.int .i64 x.Time.D), .v (.int .i64 x.Time.C.a0), .v (.int .i64 x.Time.C.a1), .v (.int .i64 x.Time.C.a2), .v (.int .i64 x.Time.C.a3)] := rfl
@[go_sem] theorem j4y : Row.sz GPoint = 6 := rfl
instance : Dat GPoint where
  ct := Dat.ct Int ++ (Dat.ct GTime)
  ok x := Dat.ok x.Node ∧ Dat.ok x.Time
  len := rfl
  of avs h := by
    obtain ⟨b0, r0, rfl, h0, g0⟩ := d9 h; obtain ⟨x0, rfl, k0⟩ := Dat.of (α := Int) _ h0; obtain ⟨x1, rfl, k1⟩ := Dat.of (α := GTime) _ g0; exact ⟨⟨x0, x1⟩, rfl, k0, k1⟩
structure GItem where
  Rec : GRec
  N : Int
instance : Row GItem := ⟨3, fun x => [.v (.int .i64 x.Rec.K), .v (.int .i64 x.Rec.V), .v (.int .i64 x.N)]⟩
@[go_sem] theorem zm7 (x : GItem) : Row.row x = [.v (.int .i64 x.Rec.K), .v (.int .i64 x.Rec.V), .v (.int .i64 x.N)] := rfl
@[go_sem] theorem j5l : Row.sz GItem = 3 := rfl
instance : Dat GItem where
  ct := Dat.ct GRec ++ (Dat.ct Int)
  ok x := Dat.ok x.Rec ∧ Dat.ok x.N
  len := rfl
  of avs h := by
    obtain ⟨b0, r0, rfl, h0, g0⟩ := d9 h; obtain ⟨x0, rfl, k0⟩ := Dat.of (α := GRec) _ h0; obtain ⟨x1, rfl, k1⟩ := Dat.of (α := Int) _ g0; exact ⟨⟨x0, x1⟩, rfl, k0, k1⟩
structure GWave_pool where
  points : List GPoint
  in_ : List (Arr2 (List GItem))
instance : Row GWave_pool := ⟨2, fun x => [.sl 6 (enc x.points), .sl 2 (enc x.in_)]⟩
@[go_sem] theorem j1a (x : GWave_pool) : Row.row x = [.sl 6 (enc x.points), .sl 2 (enc x.in_)] := rfl
@[go_sem] theorem j2k : Row.sz GWave_pool = 2 := rfl
instance : Dat GWave_pool where
  ct := Dat.ct (List GPoint) ++ (Dat.ct (List (Arr2 (List GItem))))
  ok x := Dat.ok x.points ∧ Dat.ok x.in_
  len := rfl
  of avs h := by
    obtain ⟨b0, r0, rfl, h0, g0⟩ := d9 h; obtain ⟨x0, rfl, k0⟩ := Dat.of (α := List GPoint) _ h0; obtain ⟨x1, rfl, k1⟩ := Dat.of (α := List (Arr2 (List GItem))) _ g0; exact ⟨⟨x0, x1⟩, rfl, k0, k1⟩
structure GWave where
  Point : GPoint
  Came : Int
  Gave : Int
instance : Row GWave := ⟨8, fun x => [.v (.int .i64 x.Point.Node), .v (.int .i64 x.Point.Time.D), .v (.int .i64 x.Point.Time.C.a0), .v (.int .i64 x.Point.Time.C.a1), .v (.int .i64 x.Point.Time.C.a2), .v (.int .i64 x.Point.Time.C.a3), .v (.int .i64 x.Came), .v (.int .i64 x.Gave)]⟩
@[go_sem] theorem j50 (x : GWave) : Row.row x = [.v (.int .i64 x.Point.Node), .v (.int .i64 x.Point.Time.D), .v (.int .i64 x.Point.Time.C.a0), .v (.int .i64 x.Point.Time.C.a1), .v (.int .i64 x.Point.Time.C.a2), .v (.int .i64 x.Point.Time.C.a3), .v (.int .i64 x.Came), .v (.int .i64 x.Gave)] := rfl
@[go_sem] theorem j5i : Row.sz GWave = 8 := rfl
instance : Dat GWave where
  ct := Dat.ct GPoint ++ (Dat.ct Int ++ (Dat.ct Int))
  ok x := Dat.ok x.Point ∧ Dat.ok x.Came ∧ Dat.ok x.Gave
  len := rfl
  of avs h := by
    obtain ⟨b0, r0, rfl, h0, g0⟩ := d9 h; obtain ⟨b1, r1, rfl, h1, g1⟩ := d9 g0; obtain ⟨x0, rfl, k0⟩ := Dat.of (α := GPoint) _ h0; obtain ⟨x1, rfl, k1⟩ := Dat.of (α := Int) _ h1; obtain ⟨x2, rfl, k2⟩ := Dat.of (α := Int) _ g1; exact ⟨⟨x0, x1, x2⟩, rfl, k0, k1, k2⟩
structure GOut where
  Node : Int
  Epoch : Int
  Rec : GRec
instance : Row GOut := ⟨4, fun x => [.v (.int .i64 x.Node), .v (.int .i64 x.Epoch), .v (.int .i64 x.Rec.K), .v (.int .i64 x.Rec.V)]⟩
@[go_sem] theorem j5r (x : GOut) : Row.row x = [.v (.int .i64 x.Node), .v (.int .i64 x.Epoch), .v (.int .i64 x.Rec.K), .v (.int .i64 x.Rec.V)] := rfl
@[go_sem] theorem j68 : Row.sz GOut = 4 := rfl
instance : Dat GOut where
  ct := Dat.ct Int ++ (Dat.ct Int ++ (Dat.ct GRec))
  ok x := Dat.ok x.Node ∧ Dat.ok x.Epoch ∧ Dat.ok x.Rec
  len := rfl
  of avs h := by
    obtain ⟨b0, r0, rfl, h0, g0⟩ := d9 h; obtain ⟨b1, r1, rfl, h1, g1⟩ := d9 g0; obtain ⟨x0, rfl, k0⟩ := Dat.of (α := Int) _ h0; obtain ⟨x1, rfl, k1⟩ := Dat.of (α := Int) _ h1; obtain ⟨x2, rfl, k2⟩ := Dat.of (α := GRec) _ g1; exact ⟨⟨x0, x1, x2⟩, rfl, k0, k1, k2⟩
structure GWave_runner where
  pool : GWave_pool
  g : GGraph
  table : List (List (List GHop))
  past : GWave_pool
  work : Int
  waves : List GWave
  outs : List GOut
instance : Row GWave_runner := ⟨12, fun x => [.sl 6 (enc x.pool.points), .sl 2 (enc x.pool.in_), .sl 1 (enc x.g.Parent), .sl 1 (enc x.g.Bound), .sl 4 (enc x.g.Nodes), .sl 4 (enc x.g.Edges), .sl 1 (enc x.table), .sl 6 (enc x.past.points), .sl 2 (enc x.past.in_), .v (.int .i64 x.work), .sl 8 (enc x.waves), .sl 4 (enc x.outs)]⟩
@[go_sem] theorem zt8 (x : GWave_runner) : Row.row x = [.sl 6 (enc x.pool.points), .sl 2 (enc x.pool.in_), .sl 1 (enc x.g.Parent), .sl 1 (enc x.g.Bound), .sl 4 (enc x.g.Nodes), .sl 4 (enc x.g.Edges), .sl 1 (enc x.table), .sl 6 (enc x.past.points), .sl 2 (enc x.past.in_), .v (.int .i64 x.work), .sl 8 (enc x.waves), .sl 4 (enc x.outs)] := rfl
@[go_sem] theorem zz0 : Row.sz GWave_runner = 12 := rfl
instance : Dat GWave_runner where
  ct := Dat.ct GWave_pool ++ (Dat.ct GGraph ++ (Dat.ct (List (List (List GHop))) ++ (Dat.ct GWave_pool ++ (Dat.ct Int ++ (Dat.ct (List GWave) ++ (Dat.ct (List GOut)))))))
  ok x := Dat.ok x.pool ∧ Dat.ok x.g ∧ Dat.ok x.table ∧ Dat.ok x.past ∧ Dat.ok x.work ∧ Dat.ok x.waves ∧ Dat.ok x.outs
  len := rfl
  of avs h := by
    obtain ⟨b0, r0, rfl, h0, g0⟩ := d9 h; obtain ⟨b1, r1, rfl, h1, g1⟩ := d9 g0; obtain ⟨b2, r2, rfl, h2, g2⟩ := d9 g1; obtain ⟨b3, r3, rfl, h3, g3⟩ := d9 g2; obtain ⟨b4, r4, rfl, h4, g4⟩ := d9 g3; obtain ⟨b5, r5, rfl, h5, g5⟩ := d9 g4; obtain ⟨x0, rfl, k0⟩ := Dat.of (α := GWave_pool) _ h0; obtain ⟨x1, rfl, k1⟩ := Dat.of (α := GGraph) _ h1; obtain ⟨x2, rfl, k2⟩ := Dat.of (α := List (List (List GHop))) _ h2; obtain ⟨x3, rfl, k3⟩ := Dat.of (α := GWave_pool) _ h3; obtain ⟨x4, rfl, k4⟩ := Dat.of (α := Int) _ h4; obtain ⟨x5, rfl, k5⟩ := Dat.of (α := List GWave) _ h5; obtain ⟨x6, rfl, k6⟩ := Dat.of (α := List GOut) _ g5; exact ⟨⟨x0, x1, x2, x3, x4, x5, x6⟩, rfl, k0, k1, k2, k3, k4, k5, k6⟩
structure GProg_machine where
  r : GRec
  stack : List Int
  out : List GRec
  at_ : Int
  bad : Int
instance : Row GProg_machine := ⟨6, fun x => [.v (.int .i64 x.r.K), .v (.int .i64 x.r.V), .sl 1 (enc x.stack), .sl 2 (enc x.out), .v (.int .i64 x.at_), .v (.int .i64 x.bad)]⟩
@[go_sem] theorem zp9 (x : GProg_machine) : Row.row x = [.v (.int .i64 x.r.K), .v (.int .i64 x.r.V), .sl 1 (enc x.stack), .sl 2 (enc x.out), .v (.int .i64 x.at_), .v (.int .i64 x.bad)] := rfl
@[go_sem] theorem zs4 : Row.sz GProg_machine = 6 := rfl
instance : Dat GProg_machine where
  ct := Dat.ct GRec ++ (Dat.ct (List Int) ++ (Dat.ct (List GRec) ++ (Dat.ct Int ++ (Dat.ct Int))))
  ok x := Dat.ok x.r ∧ Dat.ok x.stack ∧ Dat.ok x.out ∧ Dat.ok x.at_ ∧ Dat.ok x.bad
  len := rfl
  of avs h := by
    obtain ⟨b0, r0, rfl, h0, g0⟩ := d9 h; obtain ⟨b1, r1, rfl, h1, g1⟩ := d9 g0; obtain ⟨b2, r2, rfl, h2, g2⟩ := d9 g1; obtain ⟨b3, r3, rfl, h3, g3⟩ := d9 g2; obtain ⟨x0, rfl, k0⟩ := Dat.of (α := GRec) _ h0; obtain ⟨x1, rfl, k1⟩ := Dat.of (α := List Int) _ h1; obtain ⟨x2, rfl, k2⟩ := Dat.of (α := List GRec) _ h2; obtain ⟨x3, rfl, k3⟩ := Dat.of (α := Int) _ h3; obtain ⟨x4, rfl, k4⟩ := Dat.of (α := Int) _ g3; exact ⟨⟨x0, x1, x2, x3, x4⟩, rfl, k0, k1, k2, k3, k4⟩
structure GOps_maker where
  out : List GItem
  many : Int
instance : Row GOps_maker := ⟨2, fun x => [.sl 3 (enc x.out), .v (.int .i64 x.many)]⟩
@[go_sem] theorem j1b (x : GOps_maker) : Row.row x = [.sl 3 (enc x.out), .v (.int .i64 x.many)] := rfl
@[go_sem] theorem j2l : Row.sz GOps_maker = 2 := rfl
instance : Dat GOps_maker where
  ct := Dat.ct (List GItem) ++ (Dat.ct Int)
  ok x := Dat.ok x.out ∧ Dat.ok x.many
  len := rfl
  of avs h := by
    obtain ⟨b0, r0, rfl, h0, g0⟩ := d9 h; obtain ⟨x0, rfl, k0⟩ := Dat.of (α := List GItem) _ h0; obtain ⟨x1, rfl, k1⟩ := Dat.of (α := Int) _ g0; exact ⟨⟨x0, x1⟩, rfl, k0, k1⟩
structure GOps_wide where
  hi : Int
  lo : Nu64
instance : Row GOps_wide := ⟨2, fun x => [.v (.int .i64 x.hi), .v (.int .u64 x.lo.n)]⟩
@[go_sem] theorem j2m (x : GOps_wide) : Row.row x = [.v (.int .i64 x.hi), .v (.int .u64 x.lo.n)] := rfl
@[go_sem] theorem j34 : Row.sz GOps_wide = 2 := rfl
instance : Dat GOps_wide where
  ct := Dat.ct Int ++ (Dat.ct Nu64)
  ok x := Dat.ok x.hi ∧ Dat.ok x.lo
  len := rfl
  of avs h := by
    obtain ⟨b0, r0, rfl, h0, g0⟩ := d9 h; obtain ⟨x0, rfl, k0⟩ := Dat.of (α := Int) _ h0; obtain ⟨x1, rfl, k1⟩ := Dat.of (α := Nu64) _ g0; exact ⟨⟨x0, x1⟩, rfl, k0, k1⟩
@[go_sem] theorem j5o (x : Arr2 (List GItem)) : Row.row x = [.sl 3 (enc x.a0), .sl 3 (enc x.a1)] := rfl
@[go_sem] theorem j6f : EqT pp 39 [some .i64, some .i64, some .i64, some .i64, some .i64, some .i64] := j4c (by kernel_rfl) (by kernel_rfl) (by kernel_rfl)
attribute [go_sem] Tryz.ntmps3 Tryz.results3 Tryz.ntmps5 Tryz.results5 Tryz.ntmps6 Tryz.results6 Tryz.ntmps7 Tryz.results7 Tryz.ntmps8 Tryz.results8 Tryz.ntmps9 Tryz.results9 Tryz.ntmps10 Tryz.results10 Tryz.ntmps11 Tryz.results11 Tryz.ntmps16 Tryz.results16 Tryz.ntmps17 Tryz.results17 Tryz.ntmps18 Tryz.results18 Tryz.ntmps19 Tryz.results19 Tryz.ntmps20 Tryz.results20 Tryz.ntmps21 Tryz.results21 Tryz.ntmps22 Tryz.results22 Tryz.ntmps23 Tryz.results23 Tryz.ntmps24 Tryz.results24 Tryz.ntmps25 Tryz.results25 Tryz.ntmps26 Tryz.results26 Tryz.ntmps27 Tryz.results27 Tryz.ntmps28 Tryz.results28 Tryz.ntmps29 Tryz.results29 Tryz.ntmps30 Tryz.results30 Tryz.ntmps31 Tryz.results31 Tryz.ntmps32 Tryz.results32 Tryz.ntmps33 Tryz.results33 Tryz.ntmps34 Tryz.results34 Tryz.ntmps47 Tryz.results47 Tryz.ntmps48 Tryz.results48 Tryz.ntmps49 Tryz.results49 Tryz.ntmps50 Tryz.results50 Tryz.ntmps51 Tryz.results51 Tryz.ntmps52 Tryz.results52 Tryz.ntmps53 Tryz.results53 Tryz.ntmps54 Tryz.results54 Tryz.ntmps55 Tryz.results55 Tryz.ntmps56 Tryz.results56 Tryz.ntmps57 Tryz.results57 Tryz.ntmps58 Tryz.results58 Tryz.ntmps59 Tryz.results59 Tryz.ntmps60 Tryz.results60 Tryz.ntmps61 Tryz.results61 Tryz.ntmps62 Tryz.results62 Tryz.ntmps63 Tryz.results63 Tryz.ntmps64 Tryz.results64 Tryz.ntmps65 Tryz.results65 Tryz.ntmps66 Tryz.results66 Tryz.ntmps67 Tryz.results67 Tryz.ntmps68 Tryz.results68 Tryz.ntmps69 Tryz.results69 Tryz.ntmps70 Tryz.results70 Tryz.ntmps71 Tryz.results71 Tryz.ntmps72 Tryz.results72 Tryz.ntmps73 Tryz.results73 Tryz.ntmps74 Tryz.results74 Tryz.ntmps75 Tryz.results75 Tryz.ntmps76 Tryz.results76 Tryz.ntmps77 Tryz.results77 Tryz.ntmps87 Tryz.results87 Tryz.ntmps88 Tryz.results88 Tryz.ntmps89 Tryz.results89 Tryz.ntmps90 Tryz.results90 Tryz.ntmps91 Tryz.results91 Tryz.ntmps92 Tryz.results92 Tryz.ntmps93 Tryz.results93 Tryz.ntmps94 Tryz.results94 Tryz.ntmps95 Tryz.results95 Tryz.ntmps96 Tryz.results96 Tryz.ntmps97 Tryz.results97 Tryz.ntmps98 Tryz.results98 Tryz.ntmps99 Tryz.results99 Tryz.ntmps100 Tryz.results100 Tryz.ntmps101 Tryz.results101 Tryz.ntmps102 Tryz.results102 Tryz.ntmps103 Tryz.results103 Tryz.ntmps104 Tryz.results104 Tryz.ntmps105 Tryz.results105 Tryz.ntmps106 Tryz.results106 Tryz.ntmps107 Tryz.results107 Tryz.ntmps108 Tryz.results108 Tryz.ntmps109 Tryz.results109 Tryz.ntmps110 Tryz.results110 Tryz.ntmps111 Tryz.results111 Tryz.ntmps112 Tryz.results112 Tryz.ntmps113 Tryz.results113 Tryz.ntmps114 Tryz.results114 Tryz.ntmps115 Tryz.results115 Tryz.ntmps116 Tryz.results116 Tryz.ntmps117 Tryz.results117 Tryz.ntmps118 Tryz.results118 Tryz.ntmps119 Tryz.results119 Tryz.ntmps120 Tryz.results120 Tryz.ntmps121 Tryz.results121 Tryz.ntmps122 Tryz.results122 Tryz.ntmps123 Tryz.results123 Tryz.ntmps124 Tryz.results124 Tryz.ntmps125 Tryz.results125 Tryz.ntmps126 Tryz.results126 Tryz.ntmps127 Tryz.results127 Tryz.ntmps128 Tryz.results128 Tryz.ntmps129 Tryz.results129 Tryz.ntmps130 Tryz.results130 Tryz.ntmps131 Tryz.results131 Tryz.ntmps132 Tryz.results132 Tryz.ntmps133 Tryz.results133 Tryz.ntmps134 Tryz.results134 Tryz.ntmps135 Tryz.results135 Tryz.ntmps136 Tryz.results136 Tryz.ntmps137 Tryz.results137 Tryz.ntmps138 Tryz.results138 Tryz.ntmps139 Tryz.results139 Tryz.ntmps140 Tryz.results140 Tryz.ntmps141 Tryz.results141 Tryz.ntmps142 Tryz.results142 Tryz.ntmps143 Tryz.results143 Tryz.ntmps144 Tryz.results144 Tryz.ntmps145 Tryz.results145 Tryz.ntmps146 Tryz.results146 Tryz.ntmps147 Tryz.results147 Tryz.ntmps148 Tryz.results148 Tryz.ntmps149 Tryz.results149 Tryz.ntmps150 Tryz.results150 Tryz.ntmps151 Tryz.results151 Tryz.ntmps152 Tryz.results152 Tryz.ntmps155 Tryz.results155 Tryz.ntmps156 Tryz.results156 Tryz.ntmps159 Tryz.results159 Tryz.ntmps160 Tryz.results160 Tryz.ntmps162 Tryz.results162 Tryz.ntmps163 Tryz.results163 Tryz.ntmps164 Tryz.results164 Tryz.ntmps165 Tryz.results165 Tryz.ntmps167 Tryz.results167 Tryz.ntmps168 Tryz.results168 Tryz.ntmps169 Tryz.results169
def q7x (i_0 : Int) : Option Int :=
 (if (i_0 == 0) = true then some 1048576
 else some 64)
instance z3x (i_0 : Int) : Ct pp 105 (q7x i_0) [.v (.int .i64 i_0)] fun r => (.v (.int .i64 r)) := ctI Tryz.func105 rfl (by rw [q7x]; exact au1)
def q5w (t_0 : GTime) (rec_1 : Int × (List Int) → Option ((List Int) × Bool)) : Int × (List Int) → Option ((List Int) × Bool) :=
 fun (i_1, a_1) =>
 (if (decide (i_1 < 4)) = true then y9 (0 ≤ i_1 ∧ i_1 < 4) (
 q9 (idx ([t_0.C.a0, t_0.C.a1, t_0.C.a2, t_0.C.a3] : List Int) i_1) (fun xv_1 =>
 (if (decide (t_0.D ≤ i_1)) = true then (if (!(xv_1 == 0)) = true then some (([] : List Int), false)
 else rec_1 (i64.wrap (i_1 + 1), a_1))
 else (if (((decide (xv_1 < 0)) || ((i_1 == 0) && (decide (1048576 < xv_1)))) || ((decide (0 < i_1)) && (decide (64 < xv_1)))) = true then some (([] : List Int), false)
 else y9 ((a_1.length + List.length ([xv_1] : List Int)) * 8 ≤ 140737488355328) (
 rec_1 (i64.wrap (i_1 + 1), (a_1 ++ ([xv_1] : List Int))))))))
 else some (a_1, true))
def q2m (t_0 : GTime) : Option ((List Int) × Bool) :=
 (if ((decide (t_0.D < 1)) || (decide (4 < t_0.D))) = true then some (([] : List Int), false)
 else u7 (q5w t_0) rounds (0, []))
theorem q7i (t_0 : GTime)  (r : (List Int) × Bool) (h : q2m t_0 = some r) : DetS pp 24 [.agg (Row.row t_0)] [] 0 (.tup [.osl 0 1 (0) (r.1.length), .v (.bool r.2)]) [(0, .arr 1 (enc r.1))] 1 := by
 refine dtI Tryz.func24 rfl ?_; rw [q2m] at h; have F := trivial; refine sM ?_; refine sg fun _ Q2 => ?_; refine sM ?_; refine sB h (fun _ h => ?_) fun _ h => ?_
 · exact au
 ·
  refine y5 (q8 Q2 (sM ?_)); refine jg fun _ Q6 => ?_; refine sM ?_; refine w9 fun _ Q8 => ?_; refine q0a h [1] (fun x => ([(4, .osl 1 1 (0) (x.2.length)), (5, .v (.int .i64 x.1))], [(0, .box (Row.row t_0)), (1, .arr 1 (enc x.2))])) 2 ?_; rintro m_1 ⟨i_1, a_1⟩ h _ Q9; rw [q5w] at h; refine sg fun _ Q10 => ?_; refine sM ?_; refine sB h (fun _ h => ?_) fun _ h => ?_
  ·
   refine y5 (q8 Q10 (sg fun _ Q12 => ?_)); refine w9 fun _ Q13 => ?_; refine sg fun _ Q14 => ?_; obtain ⟨F, h⟩ := bG F h; obtain ⟨xv_1, ex1, h⟩ := z8 h; obtain ⟨f1a, f1b, f1c, fxv_1d⟩ := q3x (f := (fun y => AV.v (.int .i64 y))) [.v (.int .i64 t_0.D)] [] ex1; simp only [List.cons_append, List.nil_append, List.append_nil, List.map_cons, List.map_nil, List.length_cons, List.length_nil, Nat.zero_add, Nat.reduceAdd] at f1b f1c fxv_1d; simp only [go_sem, f1a, f1b, f1c, fxv_1d, F]; refine ai ?_; simp only [List.getD_eq_getElem?_getD, Nat.mul_one, fxv_1d, Option.map_some, Option.getD_some, true_and]; refine q8 Q14 (sg fun _ Q15 => ?_); refine sM ?_; refine sB h (fun _ h => ?_) fun _ h => ?_
   · exact au
   ·
    refine y5 (q8 Q15 (sg fun _ Q20 => ?_)); refine sg fun _ Q21 => ?_; simp only [go_sem]; refine And.intro (by first | omega | (simp +contextual only [and_self, implies_true, true_and, and_true, imp_self]; done)) ?_; refine And.intro (by first | omega | (simp +contextual only [and_self, implies_true, true_and, and_true, imp_self]; done)) ?_; refine q8 Q21 (sB h (fun _ h => ?_) fun _ h => ?_)
    · exact au
    ·
     refine y5 (q8 Q20 ?_); have rf_3 : [[.v (.int .i64 xv_1)]] = enc ([xv_1] : List Int) := by rfl
     obtain ⟨g_4, h⟩ := q0r h; have F := And.intro F g_4; simp only [List.length_cons, List.length_nil, Nat.zero_add, List.length_append] at g_4; have rf_4 : enc a_1 ++ [[.v (.int .i64 xv_1)]] = enc (a_1 ++ ([xv_1] : List Int)) := by exact (q3h a_1 ([xv_1] : List Int)).symm
     simp only [go_sem, g_4, rf_4]; simp only [rf_3]; exact au
  · exact au
instance zb5 (t_0 : GTime) : Ct pp 24 (q2m t_0) [.agg (Row.row t_0)] fun r => (.tup [.sl 1 (enc r.1), .v (.bool r.2)]) := ⟨fun r h => (q7i t_0  r h).pure leA⟩
def qj5 (t_0 : GTime) (rec_1 : Int → Option Bool) : Int → Option Bool :=
 fun t15_1 =>
 (if (decide (t15_1 < 4)) = true then q9 (idx ([t_0.C.a0, t_0.C.a1, t_0.C.a2, t_0.C.a3] : List Int) t15_1) (fun xv_1 =>
 (if (decide (xv_1 < 0)) = true then some false
 else (if (decide (t15_1 < t_0.D)) = true then q9 (q7x t15_1) (fun v_2 =>
 (if ((decide (v_2 < xv_1)) || ((decide (t_0.D ≤ t15_1)) && (!(xv_1 == 0)))) = true then some false
 else rec_1 (i64.wrap (t15_1 + 1))))
 else (if ((decide (t_0.D ≤ t15_1)) && (!(xv_1 == 0))) = true then some false
 else rec_1 (i64.wrap (t15_1 + 1))))))
 else some true)
def q3b (t_0 : GTime) : Option Bool :=
 (if ((decide (t_0.D < 1)) || (decide (4 < t_0.D))) = true then some false
 else u7 (qj5 t_0) rounds 0)
instance z1d (t_0 : GTime) : Ct pp 60 (q3b t_0) [.agg (Row.row t_0)] fun r => (.v (.bool r)) := ctK Tryz.func60 rfl (by rw [q3b]) (by
 intro r h F; refine sM ?_; refine sg fun _ Q2 => ?_; refine sM ?_; refine sB h (fun _ h => ?_) fun _ h => ?_
 · exact au
 ·
  refine y5 (q8 Q2 (jg fun _ Q5 => ?_)); refine sM ?_; refine w9 fun _ Q7 => ?_; refine q0a h [1, 14] (fun t15_1 => ([(15, .v (.int .i64 t15_1))], [(0, .box (Row.row t_0))])) 1 ?_; rintro m_1 t15_1 h _ Q8; rw [qj5] at h; refine sM ?_; refine sg fun _ Q10 => ?_; refine sB h (fun _ h => ?_) fun _ h => ?_
  · refine y5 (q8 Q10 (sg fun _ Q11 => ?_)); refine w9 fun _ Q12 => ?_; refine sg fun _ Q13 => ?_; obtain ⟨xv_1, ex1, h⟩ := z8 h; obtain ⟨f1a, f1b, f1c, fxv_1d⟩ := z9e (f := (fun y => AV.v (.int .i64 y))) ex1; simp only [List.cons_append, List.nil_append, List.append_nil, List.map_cons, List.map_nil, List.length_cons, List.length_nil, Nat.zero_add, Nat.reduceAdd] at f1b f1c fxv_1d; simp only [go_sem, f1a, f1b, f1c, fxv_1d]; refine ai ?_; refine ai ?_; simp only [List.getD_eq_getElem?_getD, Nat.mul_one, fxv_1d, Option.map_some, Option.getD_some, true_and]; exact au
  · exact au)
def qy3 (a_0 : GTime) (b_0 : GTime) : Option Bool :=
 q9 (q3b a_0) (fun v_0 =>
 (if v_0 = true then q9 (q3b b_0) (fun v_1 =>
 some (v_1 && (a_0.D == b_0.D)))
 else some false))
instance j3p (a_0 : GTime) (b_0 : GTime) : Ct pp 62 (qy3 a_0 b_0) [.agg (Row.row a_0), .agg (Row.row b_0)] fun r => (.v (.bool r)) := ctI Tryz.func62 rfl (by rw [qy3]; exact au1)
def qu8 (a_0 : GTime) (b_0 : GTime) (rec_1 : Int → Option Bool) : Int → Option Bool :=
 fun t10_1 =>
 (if (decide (t10_1 < 4)) = true then y9 (0 ≤ t10_1 ∧ t10_1 < 4) (
 q9 (idx ([a_0.C.a0, a_0.C.a1, a_0.C.a2, a_0.C.a3] : List Int) t10_1) (fun xv_2 =>
 y9 (0 ≤ t10_1 ∧ t10_1 < 4) (
 q9 (idx ([b_0.C.a0, b_0.C.a1, b_0.C.a2, b_0.C.a3] : List Int) t10_1) (fun xv_3 =>
 (if (decide (xv_3 < xv_2)) = true then some false
 else rec_1 (i64.wrap (t10_1 + 1)))))))
 else some true)
def qv4 (a_0 : GTime) (b_0 : GTime) : Option Bool :=
 q9 (qy3 a_0 b_0) (fun v_0 =>
 (if (!v_0) = true then some false
 else u7 (qu8 a_0 b_0) rounds 0))
instance j4t (a_0 : GTime) (b_0 : GTime) : Ct pp 27 (qv4 a_0 b_0) [.agg (Row.row a_0), .agg (Row.row b_0)] fun r => (.v (.bool r)) := ctK Tryz.func27 rfl (by rw [qv4]) (by
 intro r h F; refine sM ?_; refine sg fun _ Q2 => ?_; refine sg fun _ Q3 => ?_; simp only [go_sem]; refine q1s h fun v_0 h => ?_; simp only [go_sem]; refine q8 Q3 (sB h (fun _ h => ?_) fun _ h => ?_)
 · exact au
 ·
  refine y5 (q8 Q2 (jg fun _ Q5 => ?_)); refine sM ?_; refine w9 fun _ Q7 => ?_; refine q0a h [2, 3] (fun t10_1 => ([(10, .v (.int .i64 t10_1))], [(0, .box (Row.row a_0)), (1, .box (Row.row b_0))])) 2 ?_; rintro m_1 t10_1 h _ Q8; rw [qu8] at h; refine sM ?_; refine sg fun _ Q10 => ?_; refine sB h (fun _ h => ?_) fun _ h => ?_
  · refine y5 (q8 Q10 (sg fun _ Q11 => ?_)); refine w9 fun _ Q12 => ?_; refine sM ?_; refine sg fun _ Q14 => ?_; refine p9 ?_; refine j4u ?_; obtain ⟨F, h⟩ := bG F h; obtain ⟨xv_2, ex2, h⟩ := z8 h; obtain ⟨f2a, f2b, f2c, fxv_2d⟩ := q3x (f := (fun y => AV.v (.int .i64 y))) [.v (.int .i64 a_0.D)] [] ex2; simp only [List.cons_append, List.nil_append, List.append_nil, List.map_cons, List.map_nil, List.length_cons, List.length_nil, Nat.zero_add, Nat.reduceAdd] at f2b f2c fxv_2d; obtain ⟨F, h⟩ := bG F h; obtain ⟨xv_3, ex3, h⟩ := z8 h; obtain ⟨f3a, f3b, f3c, fxv_3d⟩ := q3x (f := (fun y => AV.v (.int .i64 y))) [.v (.int .i64 b_0.D)] [] ex3; simp only [List.cons_append, List.nil_append, List.append_nil, List.map_cons, List.map_nil, List.length_cons, List.length_nil, Nat.zero_add, Nat.reduceAdd] at f3b f3c fxv_3d; simp only [go_sem, f2a, f2b, f2c, fxv_2d, f3a, f3b, f3c, fxv_3d, F]; refine ai ?_; refine ai ?_; simp only [List.getD_eq_getElem?_getD, Nat.mul_one, fxv_2d, Option.map_some, Option.getD_some, true_and, List.getD_eq_getElem?_getD, Nat.mul_one, fxv_3d, Option.map_some, Option.getD_some, true_and]; exact au
  · exact au)
def q5x (v_0 : (List Int) × Bool) (v_1 : (List Int) × Bool) (rec_1 : Int → Option Bool) : Int → Option Bool :=
 fun i_1 =>
 (if (decide (i_1 < (v_0.1.length : Int))) = true then (if (i_1 == (v_1.1.length : Int)) = true then some false
 else q9 (idx v_0.1 i_1) (fun xv_4 =>
 q9 (idx v_1.1 i_1) (fun xv_5 =>
 (if (decide (xv_5 < xv_4)) = true then some false
 else (if (decide (xv_4 < xv_5)) = true then some true
 else rec_1 (i64.wrap (i_1 + 1)))))))
 else some (decide ((v_0.1.length : Int) < (v_1.1.length : Int))))
def q5m (a_0 : GTime) (b_0 : GTime) : Option Bool :=
 q9 (q2m a_0) (fun v_0 =>
 q9 (q2m b_0) (fun v_1 =>
 (if ((!v_0.2) || (!v_1.2)) = true then some false
 else u7 (q5x v_0 v_1) rounds 0)))
instance zb6 (a_0 : GTime) (b_0 : GTime) : Ct pp 8 (q5m a_0 b_0) [.agg (Row.row a_0), .agg (Row.row b_0)] fun r => (.v (.bool r)) := ctK Tryz.func8 rfl (by rw [q5m]) (by
 intro r h F; refine sM ?_; refine sg fun _ Q2 => ?_; obtain ⟨v_0, ev_0, h⟩ := z8 h; simp only [go_sem]; refine q18 [] (q7i a_0 v_0 ev_0) ?_; simp only [go_sem]; refine q8 Q2 (sg fun _ Q3 => ?_); obtain ⟨v_1, ev_1, h⟩ := z8 h; simp only [go_sem]; refine q18 [] (q7i b_0 v_1 ev_1) ?_; simp only [go_sem]; refine q8 Q3 (sg fun _ Q4 => ?_); refine sM ?_; refine sB h (fun _ h => ?_) fun _ h => ?_
 · exact au
 · refine y5 (q8 Q4 (jg fun _ Q7 => ?_)); refine sM ?_; refine w9 fun _ Q9 => ?_; refine q0a h [] (fun i_1 => ([(5, .osl 0 1 (0) (v_0.1.length)), (7, .osl 1 1 (0) (v_1.1.length)), (9, .v (.int .i64 i_1))], [(0, .arr 1 (enc v_0.1)), (1, .arr 1 (enc v_1.1))])) 2 ?_; rintro m_1 i_1 h _ Q10; rw [q5x] at h; exact au)
def qm7 (a_0 : GTime) (b_0 : GTime) (rec_1 : Int → Option Bool) : Int → Option Bool :=
 fun t19_1 =>
 (if (decide (t19_1 < (min a_0.D b_0.D))) = true then y9 (0 ≤ t19_1 ∧ t19_1 < 4) (
 q9 (idx ([a_0.C.a0, a_0.C.a1, a_0.C.a2, a_0.C.a3] : List Int) t19_1) (fun xv_4 =>
 y9 (0 ≤ t19_1 ∧ t19_1 < 4) (
 q9 (idx ([b_0.C.a0, b_0.C.a1, b_0.C.a2, b_0.C.a3] : List Int) t19_1) (fun xv_5 =>
 (if (!(xv_4 == xv_5)) = true then y9 (0 ≤ t19_1 ∧ t19_1 < 4) (
 q9 (idx ([a_0.C.a0, a_0.C.a1, a_0.C.a2, a_0.C.a3] : List Int) t19_1) (fun xv_6 =>
 y9 (0 ≤ t19_1 ∧ t19_1 < 4) (
 q9 (idx ([b_0.C.a0, b_0.C.a1, b_0.C.a2, b_0.C.a3] : List Int) t19_1) (fun xv_7 =>
 some (decide (xv_6 < xv_7))))))
 else rec_1 (i64.wrap (t19_1 + 1)))))))
 else some (decide (a_0.D < b_0.D)))
def ql3 (a_0 : GTime) (b_0 : GTime) : Option Bool :=
 q9 (q3b a_0) (fun v_0 =>
 (if v_0 = true then q9 (q3b b_0) (fun v_1 =>
 (if (!v_1) = true then some false
 else u7 (qm7 a_0 b_0) rounds 0))
 else some false))
instance j3r (a_0 : GTime) (b_0 : GTime) : Ct pp 89 (ql3 a_0 b_0) [.agg (Row.row a_0), .agg (Row.row b_0)] fun r => (.v (.bool r)) := ctK Tryz.func89 rfl (by rw [ql3]) (by
 intro r h F; refine sM ?_; refine sg fun _ Q2 => ?_; refine sg fun _ Q3 => ?_; simp only [go_sem]; refine q1s h fun v_0 h => ?_; simp only [go_sem]; rcases hb_0 : v_0 with _ | _
 · replace h := q5g h hb_0; simp only [go_sem, hb_0]; exact au
 ·
  replace h := q5f h hb_0; simp only [go_sem, hb_0]; refine q1s h fun v_1 h => ?_; simp only [go_sem]; refine q8 Q3 (sB h (fun _ h => ?_) fun _ h => ?_)
  · exact au
  ·
   refine y5 (q8 Q2 (jg fun _ Q6 => ?_)); refine sM ?_; refine w9 fun _ Q8 => ?_; refine q0a h [2, 3, 18] (fun t19_1 => ([(19, .v (.int .i64 t19_1))], [(0, .box (Row.row a_0)), (1, .box (Row.row b_0))])) 2 ?_; rintro m_1 t19_1 h _ Q9; rw [qm7] at h; refine sM ?_; refine sg fun _ Q11 => ?_; refine sB h (fun _ h => ?_) fun _ h => ?_
   ·
    refine y5 (q8 Q11 (sg fun _ Q12 => ?_)); refine w9 fun _ Q13 => ?_; refine sM ?_; refine sg fun _ Q15 => ?_; refine p9 ?_; refine j4u ?_; obtain ⟨F, h⟩ := bG F h; obtain ⟨xv_4, ex4, h⟩ := z8 h; obtain ⟨f4a, f4b, f4c, fxv_4d⟩ := q3x (f := (fun y => AV.v (.int .i64 y))) [.v (.int .i64 a_0.D)] [] ex4; simp only [List.cons_append, List.nil_append, List.append_nil, List.map_cons, List.map_nil, List.length_cons, List.length_nil, Nat.zero_add, Nat.reduceAdd] at f4b f4c fxv_4d; obtain ⟨F, h⟩ := bG F h; obtain ⟨xv_5, ex5, h⟩ := z8 h; obtain ⟨f5a, f5b, f5c, fxv_5d⟩ := q3x (f := (fun y => AV.v (.int .i64 y))) [.v (.int .i64 b_0.D)] [] ex5; simp only [List.cons_append, List.nil_append, List.append_nil, List.map_cons, List.map_nil, List.length_cons, List.length_nil, Nat.zero_add, Nat.reduceAdd] at f5b f5c fxv_5d; simp only [go_sem, f4a, f4b, f4c, fxv_4d, f5a, f5b, f5c, fxv_5d, F]; refine ai ?_; refine ai ?_; simp only [List.getD_eq_getElem?_getD, Nat.mul_one, fxv_4d, Option.map_some, Option.getD_some, true_and, List.getD_eq_getElem?_getD, Nat.mul_one, fxv_5d, Option.map_some, Option.getD_some, true_and]; refine q8 Q15 (sB h (fun _ h => ?_) fun _ h => ?_)
    · refine sg fun _ Q16 => ?_; refine p9 ?_; refine j4u ?_; obtain ⟨F, h⟩ := bG F h; obtain ⟨xv_6, ex6, h⟩ := z8 h; obtain ⟨f6a, f6b, f6c, fxv_6d⟩ := q3x (f := (fun y => AV.v (.int .i64 y))) [.v (.int .i64 a_0.D)] [] ex6; simp only [List.cons_append, List.nil_append, List.append_nil, List.map_cons, List.map_nil, List.length_cons, List.length_nil, Nat.zero_add, Nat.reduceAdd] at f6b f6c fxv_6d; obtain ⟨F, h⟩ := bG F h; obtain ⟨xv_7, ex7, h⟩ := z8 h; obtain ⟨f7a, f7b, f7c, fxv_7d⟩ := q3x (f := (fun y => AV.v (.int .i64 y))) [.v (.int .i64 b_0.D)] [] ex7; simp only [List.cons_append, List.nil_append, List.append_nil, List.map_cons, List.map_nil, List.length_cons, List.length_nil, Nat.zero_add, Nat.reduceAdd] at f7b f7c fxv_7d; simp only [go_sem, f6a, f6b, f6c, fxv_6d, f7a, f7b, f7c, fxv_7d, F]; refine ai ?_; refine ai ?_; simp only [List.getD_eq_getElem?_getD, Nat.mul_one, fxv_6d, Option.map_some, Option.getD_some, true_and, List.getD_eq_getElem?_getD, Nat.mul_one, fxv_7d, Option.map_some, Option.getD_some, true_and]; exact au
    · exact au
   · exact au)
def q1o (nv_0 : Int) (size_0 : Int) : Option Bool :=
 some ((decide (0 ≤ nv_0)) && (decide (nv_0 < size_0)))
instance zq1 (nv_0 : Int) (size_0 : Int) : Ct pp 72 (q1o nv_0 size_0) [.v (.int .i64 nv_0), .v (.int .i64 size_0)] fun r => (.v (.bool r)) := ctI Tryz.func72 rfl (by rw [q1o]; exact au1)
def qk8 (g_0 : GGraph) (rec_1 : Int × Int → Option Int) : Int × Int → Option Int :=
 fun (d_1, s_1) =>
 q9 (q1o s_1 (g_0.Parent.length : Int)) (fun v_2 =>
 (if (v_2 && (decide (d_1 ≤ 8))) = true then q9 (idx g_0.Parent s_1) (fun xv_2 =>
 rec_1 (i64.wrap (d_1 + 1), xv_2))
 else some d_1))
def q9x (g_0 : GGraph) (scope_0 : Int) : Option Int :=
 u7 (qk8 g_0) rounds (0, scope_0)
instance zw5 (g_0 : GGraph) (scope_0 : Int) : Ct pp 73 (q9x g_0 scope_0) [.agg (Row.row g_0), .v (.int .i64 scope_0)] fun r => (.v (.int .i64 r)) := ctK Tryz.func73 rfl (by rw [q9x]) (by
 intro r h F; refine sM ?_; refine sM ?_; refine jg fun _ Q3 => ?_; refine sM ?_; refine w9 fun _ Q5 => ?_; refine q0a h [2] (fun x => ([(5, .v (.int .i64 x.1)), (6, .v (.int .i64 x.2))], [(0, .box (Row.row g_0))])) 1 ?_; rintro m_1 ⟨d_1, s_1⟩ h _ Q6; rw [qk8] at h; exact au)
def q9s (g_0 : GGraph) (s_0 : Int) : Option Bool :=
 (if (s_0 == 0) = true then q9 (idx g_0.Parent 0) (fun xv_0 =>
 (if (xv_0 == (-1)) = true then q9 (idx g_0.Bound 0) (fun xv_1 =>
 some (xv_1 == 0))
 else some false))
 else q9 (idx g_0.Parent s_0) (fun xv_2 =>
 q9 (q1o xv_2 s_0) (fun v_0 =>
 (if v_0 = true then q9 (idx g_0.Bound s_0) (fun xv_3 =>
 (if (decide (1 ≤ xv_3)) = true then (if (decide (xv_3 ≤ 64)) = true then q9 (q9x g_0 s_0) (fun v_1 =>
 some (decide (v_1 ≤ 4)))
 else some false)
 else some false))
 else some false))))
instance zw0 (g_0 : GGraph) (s_0 : Int) : Ct pp 63 (q9s g_0 s_0) [.agg (Row.row g_0), .v (.int .i64 s_0)] fun r => (.v (.bool r)) := ctI Tryz.func63 rfl (by rw [q9s]; exact au1)
def q9z (s_0 : List GNode) (f_0 : GNode → Option Bool) (rec_1 : Int → Option Int) : Int → Option Int :=
 fun t8_1 =>
 (if (decide (t8_1 < (s_0.length : Int))) = true then q9 (idx s_0 t8_1) (fun xv_2 =>
 q9 (f_0 xv_2) (fun v_2 =>
 (if v_2 = true then some t8_1
 else rec_1 (i64.wrap (t8_1 + 1)))))
 else some (-1))
def q7p (s_0 : List GNode) (f_0 : GNode → Option Bool) : Option Int :=
 u7 (q9z s_0 f_0) rounds 0
theorem qt3 (s_0 : List GNode) (f_0 : GNode → Option Bool) (g_f_0 : FuncId) (c_f_0 : List AV) (F_f_0 : q06 c_f_0 = true) (E_f_0 : x8 pp g_f_0 = true) (H_f_0 : ∀ (x0 : GNode) (r : Bool), f_0 x0 = some r → PureS pp g_f_0 ([.agg (Row.row x0)] ++ c_f_0) 0 (.v (.bool r))) (r : Int) (h : q7p s_0 f_0 = some r) : PureS pp 150 [.sl 4 (enc s_0), .clo g_f_0 c_f_0] 0 (.v (.int .i64 r)) := by
 refine ptI Tryz.func150 rfl ?_; rw [q7p] at h; have F := trivial; refine sM ?_; refine jg fun _ Q2 => ?_; refine sM ?_; refine w9 fun _ Q4 => ?_; refine q0a h [0, 1, 7] (fun t8_1 => ([(8, .v (.int .i64 t8_1))], [])) 0 ?_; rintro m_1 t8_1 h _ Q5; rw [q9z] at h; refine sM ?_; refine sg fun _ Q7 => ?_; refine sB h (fun _ h => ?_) fun _ h => ?_
 ·
  refine y5 (q8 Q7 (sg fun _ Q8 => ?_)); refine w9 fun _ Q9 => ?_; refine sM ?_; refine sg fun _ Q11 => ?_; obtain ⟨xv_2, F, h⟩ := bI F h; obtain ⟨v_2, ev_2, h⟩ := z8 h; simp only [go_sem, E_f_0, F]; refine ai ?_; refine q8j (H_f_0 xv_2 v_2 ev_2) (by rfl) (by simp [go_sem, q06, q0d, F_f_0]) ?_; simp only [go_sem]; refine q8 Q11 (sB h (fun _ h => ?_) fun _ h => ?_)
  · refine sM ?_; refine q05 (q0o Q9 (q0q Q8 (q2t Q5 (q0o Q4 (q0q Q2 ?_))))); simp only [go_sem]; obtain rfl := Option.some.inj h; refine q45 rfl ?_; exact leA
  · refine y5 (q0b Q9 (q8 Q8 ?_)); simp only [go_sem]; refine u6 Q5 ?_; exact nxC _ h [] leA
 · refine q11 (q1g Q7 (q12 Q5 (q0s Q4 (q8 Q2 (sM ?_))))); refine q05 ?_; simp only [go_sem]; obtain rfl := Option.some.inj h; refine q45 rfl ?_; exact leA
def q4x (s_0 : List GNode) (f_0 : GNode → Option Bool) : Option Bool :=
 q9 (q7p s_0 f_0) (fun v_0 =>
 some (decide (0 ≤ v_0)))
theorem qo7 (s_0 : List GNode) (f_0 : GNode → Option Bool) (g_f_0 : FuncId) (c_f_0 : List AV) (F_f_0 : q06 c_f_0 = true) (E_f_0 : x8 pp g_f_0 = true) (H_f_0 : ∀ (x0 : GNode) (r : Bool), f_0 x0 = some r → PureS pp g_f_0 ([.agg (Row.row x0)] ++ c_f_0) 0 (.v (.bool r))) (r : Bool) (h : q4x s_0 f_0 = some r) : PureS pp 133 [.sl 4 (enc s_0), .clo g_f_0 c_f_0] 0 (.v (.bool r)) := by
 refine ptI Tryz.func133 rfl ?_; rw [q4x] at h; have F := trivial; refine sM ?_; refine sg fun _ Q2 => ?_; obtain ⟨v_0, ev_0, h⟩ := z8 h; simp only [go_sem]; refine q8j (qt3 s_0 f_0 g_f_0 c_f_0 F_f_0 E_f_0 H_f_0 v_0 ev_0) (by rfl) (by simp [go_sem, q06, q0d, F_f_0]) ?_; simp only [go_sem]; refine q8 Q2 (q05 ?_); simp only [go_sem]; obtain rfl := Option.some.inj h; refine q45 rfl ?_; exact leA
def q78 (xv_0 : GNode) (cap_0 : Int) : Option Bool :=
 some (xv_0.Scope == cap_0)
instance z1j (xv_0 : GNode) (cap_0 : Int) : Ct pp 134 (q78 xv_0 cap_0) [.agg (Row.row xv_0), .el 1 [[.v (.int .i64 cap_0)]] 0 0] fun r => (.v (.bool r)) := ctI Tryz.func134 rfl (by rw [q78]; exact au1)
def q6s (g_0 : GGraph) (nv_0 : Int) (xv_0 : GNode) (fresh_2 : Bool) : Option Bool :=
 (if fresh_2 = true then y9 (0 ≤ 0 ∧ 0 ≤ nv_0 ∧ nv_0 ≤ (g_0.Nodes.length : Int)) (
 q9 (q4x (List.take (nv_0.toNat) g_0.Nodes) (fun x0_ => q78 x0_ xv_0.Scope)) (fun v_0 =>
 some (!v_0)))
 else some false)
def qh4 (g_0 : GGraph) (nv_0 : Int) (xv_0 : GNode) (xv_2 : Int) (rec_2 : Bool × Int → Option Bool) : Bool × Int → Option Bool :=
 fun (fresh_4, p_3) =>
 (if (decide (0 ≤ p_3)) = true then (if (p_3 == xv_0.Scope) = true then some true
 else q9 (idx g_0.Parent p_3) (fun xv_8 =>
 rec_2 ((fresh_4 || (p_3 == xv_2)), xv_8)))
 else q6s g_0 nv_0 xv_0 fresh_4)
def q8r (g_0 : GGraph) (nv_0 : Int) : Option Bool :=
 q9 (idx g_0.Nodes nv_0) (fun xv_0 =>
 (if (nv_0 == 0) = true then some (xv_0.Scope == 0)
 else q9 (idx g_0.Nodes (i64.wrap (nv_0 - 1))) (fun xv_1 =>
 q9 (idx g_0.Parent xv_0.Scope) (fun xv_2 =>
 u7 (qh4 g_0 nv_0 xv_0 xv_2) rounds (false, xv_1.Scope)))))
instance zq2 (g_0 : GGraph) (nv_0 : Int) : Ct pp 107 (q8r g_0 nv_0) [.agg (Row.row g_0), .v (.int .i64 nv_0)] fun r => (.v (.bool r)) := ctK Tryz.func107 rfl (by rw [q8r]) (by
 intro r h F; refine sM ?_; refine sg fun _ Q2 => ?_; obtain ⟨xv_0, F, h⟩ := bI F h; simp only [go_sem, F]; refine ai ?_; refine q8 Q2 (sg fun _ Q3 => ?_); refine sM ?_; refine sB h (fun _ h => ?_) fun _ h => ?_
 · exact au
 ·
  refine y5 (q8 Q3 (sg fun _ Q6 => ?_)); obtain ⟨xv_1, F, h⟩ := bI F h; simp only [go_sem, F]; refine ai ?_; refine q8 Q6 (sg fun _ Q7 => ?_); obtain ⟨xv_2, F, h⟩ := bI F h; simp only [go_sem, F]; refine ai ?_; refine q8 Q7 (sM ?_); refine q2s (fun (fresh_2 : Bool) => q6s g_0 nv_0 xv_0 fresh_2 = some r) [1, 2, 5] (fun fresh_2 => ([(8, .v (.bool fresh_2))], [(0, .box (Row.row g_0)), (1, .box [.v (.int .i64 xv_0.Scope)])])) 2 ?_ ?_
  · intro _ Q10; refine sM ?_; refine w9 fun _ Q12 => ?_; refine q0a h [1, 2, 5, 7] (fun x => ([(8, .v (.bool x.1)), (9, .v (.int .i64 x.2))], [(0, .box (Row.row g_0)), (1, .box [.v (.int .i64 xv_0.Scope)])])) 2 ?_; rintro m_2 ⟨fresh_4, p_3⟩ h _ Q13; rw [qh4] at h; exact au
  ·
   rintro fresh_2 h
   try dsimp only at h
   rw [q6s] at h; refine sg fun _ Q9 => ?_; simp only [go_sem]; rcases hb_7 : fresh_2 with _ | _
   · replace h := q5g h hb_7; simp only [go_sem, hb_7]; exact au
   · replace h := q5f h hb_7; obtain ⟨F, h⟩ := bG F h; obtain ⟨v_0, ev_0, h⟩ := z8 h; simp only [go_sem, hb_7, F]; refine qi7 (qo7 (List.take (nv_0.toNat) g_0.Nodes) (fun x0_ => q78 x0_ xv_0.Scope) 134 [.el 1 [[.v (.int .i64 xv_0.Scope)]] 0 0] (by rfl) (by kernel_rfl) (fun y0 r_ e_ => z1j y0 xv_0.Scope r_ e_) v_0 ev_0) ?_; simp only [go_sem]; exact au)
def qe5 (op_0 : Int) : Option Bool :=
 some ((op_0 == 14) || (op_0 == 15))
instance j01 (op_0 : Int) : Ct pp 135 (qe5 op_0) [.v (.int .i64 op_0)] fun r => (.v (.bool r)) := ctI Tryz.func135 rfl (by rw [qe5]; exact au1)
def q6k (p_0 : List GIns) (rec_1 : Int → Option Bool) : Int → Option Bool :=
 fun t10_1 =>
 (if (decide (t10_1 < (p_0.length : Int))) = true then q9 (idx p_0 t10_1) (fun xv_2 =>
 (if ((decide (xv_2.Op < 1)) || (decide (16 < xv_2.Op))) = true then some false
 else q9 (qe5 xv_2.Op) (fun v_2 =>
 (if v_2 = true then (if ((decide (xv_2.N < 0)) || (decide ((p_0.length : Int) < xv_2.N))) = true then some false
 else rec_1 (i64.wrap (t10_1 + 1)))
 else (if ((!(xv_2.Op == 1)) && (!(xv_2.N == 0))) = true then some false
 else rec_1 (i64.wrap (t10_1 + 1)))))))
 else some true)
def q6e (p_0 : List GIns) : Option Bool :=
 (if (decide (64 < (p_0.length : Int))) = true then some false
 else u7 (q6k p_0) rounds 0)
instance j02 (p_0 : List GIns) : Ct pp 108 (q6e p_0) [.sl 2 (enc p_0)] fun r => (.v (.bool r)) := ctK Tryz.func108 rfl (by rw [q6e]) (by
 intro r h F; refine sM ?_; refine sg fun _ Q2 => ?_; refine sM ?_; refine sB h (fun _ h => ?_) fun _ h => ?_
 · exact au
 · refine y5 (q8 Q2 (jg fun _ Q5 => ?_)); refine sM ?_; refine w9 fun _ Q7 => ?_; refine q0a h [0, 8, 9] (fun t10_1 => ([(10, .v (.int .i64 t10_1))], [])) 0 ?_; rintro m_1 t10_1 h _ Q8; rw [q6k] at h; exact au)
def qb6 (l_0 : Arr4 Int) (nv_0 : Int) (rec_1 : Int → Option Bool) : Int → Option Bool :=
 fun t8_1 =>
 (if (decide (t8_1 < 4)) = true then q9 (idx ([l_0.a0, l_0.a1, l_0.a2, l_0.a3] : List Int) t8_1) (fun xv_1 =>
 (if (((decide (xv_1 < 0)) || (decide (1048576 < xv_1))) || ((decide (nv_0 ≤ t8_1)) && (!(xv_1 == 0)))) = true then some false
 else rec_1 (i64.wrap (t8_1 + 1))))
 else some true)
def q6g (l_0 : Arr4 Int) (nv_0 : Int) : Option Bool :=
 u7 (qb6 l_0 nv_0) rounds 0
instance j06 (l_0 : Arr4 Int) (nv_0 : Int) : Ct pp 104 (q6g l_0 nv_0) [.agg [.v (.int .i64 l_0.a0), .v (.int .i64 l_0.a1), .v (.int .i64 l_0.a2), .v (.int .i64 l_0.a3)], .v (.int .i64 nv_0)] fun r => (.v (.bool r)) := ctK Tryz.func104 rfl (by rw [q6g]) (by
 intro r h F; refine sM ?_; refine jg fun _ Q2 => ?_; refine sM ?_; refine w9 fun _ Q4 => ?_; refine q0a h [1, 7] (fun t8_1 => ([(8, .v (.int .i64 t8_1))], [])) 0 ?_; rintro m_1 t8_1 h _ Q5; rw [qb6] at h; refine sM ?_; refine sg fun _ Q7 => ?_; refine sB h (fun _ h => ?_) fun _ h => ?_
 · refine y5 (q8 Q7 (sg fun _ Q8 => ?_)); refine w9 fun _ Q9 => ?_; refine sg fun _ Q10 => ?_; obtain ⟨xv_1, ex1, h⟩ := z8 h; obtain ⟨f1a, f1b, f1c, fxv_1d⟩ := z9e (f := (fun y => AV.v (.int .i64 y))) ex1; simp only [List.cons_append, List.nil_append, List.append_nil, List.map_cons, List.map_nil, List.length_cons, List.length_nil, Nat.zero_add, Nat.reduceAdd] at f1b f1c fxv_1d; simp only [go_sem, f1a, f1b, f1c, fxv_1d]; refine ai ?_; refine ai ?_; simp only [List.getD_eq_getElem?_getD, Nat.mul_one, fxv_1d, Option.map_some, Option.getD_some, true_and]; exact au
 · exact au)
def qq6 (hv_0 : GHop) (i_0 : Int) : Option (Int × Bool) :=
 (if (decide (i_0 < hv_0.Keep)) = true then y9 (0 ≤ i_0 ∧ i_0 < 4) (
 q9 (idx ([hv_0.Add.a0, hv_0.Add.a1, hv_0.Add.a2, hv_0.Add.a3] : List Int) i_0) (fun xv_0 =>
 some (xv_0, true)))
 else y9 (0 ≤ i64.wrap (i_0 - hv_0.Keep) ∧ i64.wrap (i_0 - hv_0.Keep) < 4) (
 q9 (idx ([hv_0.T.a0, hv_0.T.a1, hv_0.T.a2, hv_0.T.a3] : List Int) (i64.wrap (i_0 - hv_0.Keep))) (fun xv_1 =>
 some (xv_1, false))))
instance j4e (hv_0 : GHop) (i_0 : Int) : Ct pp 115 (qq6 hv_0 i_0) [.agg (Row.row hv_0), .v (.int .i64 i_0)] fun r => (.tup [.v (.int .i64 r.1), .v (.bool r.2)]) := ctK Tryz.func115 rfl (by rw [qq6]) (by
 intro r h F; refine sM ?_; refine sg fun _ Q2 => ?_; refine sM ?_; refine sB h (fun _ h => ?_) fun _ h => ?_
 · refine sg fun _ Q4 => ?_; obtain ⟨F, h⟩ := bG F h; obtain ⟨xv_0, ex0, h⟩ := z8 h; obtain ⟨f0a, f0b, f0c, fxv_0d⟩ := q3x (f := (fun y => AV.v (.int .i64 y))) [.v (.int .i64 hv_0.From), .v (.int .i64 hv_0.Keep), .v (.int .i64 hv_0.Tail)] [.v (.int .i64 hv_0.T.a0), .v (.int .i64 hv_0.T.a1), .v (.int .i64 hv_0.T.a2), .v (.int .i64 hv_0.T.a3)] ex0; simp only [List.cons_append, List.nil_append, List.append_nil, List.map_cons, List.map_nil, List.length_cons, List.length_nil, Nat.zero_add, Nat.reduceAdd] at f0b f0c fxv_0d; simp only [go_sem, f0a, f0b, f0c, fxv_0d, F]; refine ai ?_; simp only [List.getD_eq_getElem?_getD, Nat.mul_one, fxv_0d, Option.map_some, Option.getD_some, true_and]; exact au
 · refine y5 (q8 Q2 (sg fun _ Q5 => ?_)); obtain ⟨F, h⟩ := bG F h; obtain ⟨xv_1, ex1, h⟩ := z8 h; obtain ⟨f1a, f1b, f1c, fxv_1d⟩ := q3x (f := (fun y => AV.v (.int .i64 y))) [.v (.int .i64 hv_0.From), .v (.int .i64 hv_0.Keep), .v (.int .i64 hv_0.Tail), .v (.int .i64 hv_0.Add.a0), .v (.int .i64 hv_0.Add.a1), .v (.int .i64 hv_0.Add.a2), .v (.int .i64 hv_0.Add.a3)] [] ex1; simp only [List.cons_append, List.nil_append, List.append_nil, List.map_cons, List.map_nil, List.length_cons, List.length_nil, Nat.zero_add, Nat.reduceAdd] at f1b f1c fxv_1d; simp only [go_sem, f1a, f1b, f1c, fxv_1d, F]; refine ai ?_; simp only [List.getD_eq_getElem?_getD, Nat.mul_one, fxv_1d, Option.map_some, Option.getD_some, true_and]; exact au)
def q4u (hv_0 : GHop) : Option Int :=
 some (i64.wrap (hv_0.Keep + hv_0.Tail))
instance z0b (hv_0 : GHop) : Ct pp 61 (q4u hv_0) [.agg (Row.row hv_0)] fun r => (.v (.int .i64 r)) := ctI Tryz.func61 rfl (by rw [q4u]; exact au1)
def q34 (hv_0 : GHop) : Option Bool :=
 (if ((((((decide (hv_0.From < 1)) || (decide (4 < hv_0.From))) || (decide (hv_0.Keep < 0))) || (decide (hv_0.From < hv_0.Keep))) || (decide (hv_0.Tail < 0))) || (decide (4 < hv_0.Tail))) = true then some false
 else q9 (q4u hv_0) (fun v_0 =>
 (if (decide (1 ≤ v_0)) = true then q9 (q4u hv_0) (fun v_1 =>
 (if (decide (v_1 ≤ 4)) = true then q9 (q6g hv_0.Add hv_0.Keep) (fun v_2 =>
 (if v_2 = true then q9 (q6g hv_0.T hv_0.Tail) (fun v_3 =>
 some v_3)
 else some false))
 else some false))
 else some false)))
instance qg4 (hv_0 : GHop) : Ct pp 59 (q34 hv_0) [.agg (Row.row hv_0)] fun r => (.v (.bool r)) := ctI Tryz.func59 rfl (by rw [q34]; exact au1)
def qr3 (a_0 : GHop) (b_0 : GHop) (v_4 : Int) (rec_1 : Int → Option Bool) : Int → Option Bool :=
 fun t34_1 =>
 (if (decide (t34_1 < v_4)) = true then q9 (qq6 a_0 t34_1) (fun v_9 =>
 q9 (qq6 b_0 t34_1) (fun v_10 =>
 (if ((v_9.2 && (!v_10.2)) || (decide (v_10.1 < v_9.1))) = true then some false
 else rec_1 (i64.wrap (t34_1 + 1)))))
 else some true)
def qq7 (a_0 : GHop) (b_0 : GHop) : Option Bool :=
 q9 (q34 a_0) (fun v_0 =>
 (if v_0 = true then q9 (q34 b_0) (fun v_1 =>
 (if ((!v_1) || (!(a_0.From == b_0.From))) = true then some false
 else q9 (q4u a_0) (fun v_2 =>
 q9 (q4u b_0) (fun v_3 =>
 (if (!(v_2 == v_3)) = true then some false
 else q9 (q4u a_0) (fun v_4 =>
 u7 (qr3 a_0 b_0 v_4) rounds 0))))))
 else some false))
instance j4f (a_0 : GHop) (b_0 : GHop) : Ct pp 75 (qq7 a_0 b_0) [.agg (Row.row a_0), .agg (Row.row b_0)] fun r => (.v (.bool r)) := ctK Tryz.func75 rfl (by rw [qq7]) (by
 intro r h F; refine sM ?_; refine sg fun _ Q2 => ?_; refine sg fun _ Q3 => ?_; refine p9 ?_; refine j4u ?_; obtain ⟨v_0, ev_0, h⟩ := z8 h; simp only [go_sem]; refine callq (fun _ => (qg4 a_0 v_0 ev_0)) (by rfl) (by rfl) ?_; simp only [go_sem]; rcases hb_0 : v_0 with _ | _
 · replace h := q5g h hb_0; simp only [go_sem, hb_0]; exact au
 ·
  replace h := q5f h hb_0; obtain ⟨v_1, ev_1, h⟩ := z8 h; simp only [go_sem, hb_0]; refine callq (fun _ => (qg4 b_0 v_1 ev_1)) (by rfl) (by rfl) ?_; simp only [go_sem]; rcases hb_1 : ((!v_1) || (!(a_0.From == b_0.From))) with _ | _
  ·
   replace h := q5g h hb_1; obtain ⟨v_2, ev_2, h⟩ := z8 h; simp only [go_sem, hb_1]; refine callq (fun _ => (z0b a_0 v_2 ev_2)) (by rfl) (by rfl) ?_; simp only [go_sem]; refine q1s h fun v_3 h => ?_; simp only [go_sem]; refine q8 Q3 (sB h (fun _ h => ?_) fun _ h => ?_)
   · exact au
   · refine y5 (q8 Q2 (jg fun _ Q6 => ?_)); refine sg fun _ Q7 => ?_; simp only [go_sem]; refine q1s h fun v_4 h => ?_; simp only [go_sem]; refine q8 Q7 (w9 fun _ Q8 => ?_); refine q0a h [2, 3, 33] (fun t34_1 => ([(34, .v (.int .i64 t34_1))], [(0, .box (Row.row a_0)), (1, .box (Row.row b_0))])) 2 ?_; rintro m_1 t34_1 h _ Q9; rw [qr3] at h; exact au
  · replace h := q5f h hb_1; simp only [go_sem, hb_1]; exact au)
def qj6 (b_6 : GHop) : Option (GHop × Bool) :=
 q9 (q34 b_6) (fun v_3 =>
 (if (!v_3) = true then some ((⟨0, 0, 0, (⟨0, 0, 0, 0⟩ : Arr4 Int), (⟨0, 0, 0, 0⟩ : Arr4 Int)⟩ : GHop), false)
 else some (b_6, true)))
def qj9 (b_0 : GHop) (rec_3 : Int × GHop → Option (GHop × Bool)) : Int × GHop → Option (GHop × Bool) :=
 fun (t81_3, b_8) =>
 (if (decide (t81_3 < ((Int.toNat (b_0.Tail) : Nat) : Int))) = true then y9 (0 ≤ t81_3 ∧ t81_3 < ((b_0.Tail.toNat : Nat) : Int) ∧ ((b_0.Tail.toNat : Nat) : Int) ≤ 4) (
 q9 (idx ([b_0.T.a0, b_0.T.a1, b_0.T.a2, b_0.T.a3] : List Int) t81_3) (fun xv_14 =>
 y9 (0 ≤ b_8.Tail ∧ b_8.Tail < 4) (
 q9 (some (if b_8.Tail.toNat = 0 then xv_14 else b_8.T.a0)) (fun w_36 =>
 q9 (some (if b_8.Tail.toNat = 1 then xv_14 else b_8.T.a1)) (fun w_37 =>
 q9 (some (if b_8.Tail.toNat = 2 then xv_14 else b_8.T.a2)) (fun w_38 =>
 q9 (some (if b_8.Tail.toNat = 3 then xv_14 else b_8.T.a3)) (fun w_39 =>
 rec_3 (i64.wrap (t81_3 + 1), (⟨b_8.From, b_8.Keep, i64.wrap (b_8.Tail + 1), b_8.Add, (⟨w_36, w_37, w_38, w_39⟩ : Arr4 Int)⟩ : GHop)))))))))
 else qj6 b_8)
def qj7 (b_0 : GHop) (b_3 : GHop) : Option (GHop × Bool) :=
 y9 (0 ≤ 0 ∧ 0 ≤ b_0.Tail ∧ b_0.Tail ≤ 4) (
 u7 (qj9 b_0) rounds (0, b_3))
def qj8 (a_0 : GHop) (b_0 : GHop) (rec_4 : Int × GHop → Option (GHop × Bool)) : Int × GHop → Option (GHop × Bool) :=
 fun (t36_3, b_10) =>
 (if (decide (t36_3 < b_0.Keep)) = true then (if (decide (t36_3 < a_0.Keep)) = true then y9 (0 ≤ t36_3 ∧ t36_3 < 4) (
 q9 (idx ([a_0.Add.a0, a_0.Add.a1, a_0.Add.a2, a_0.Add.a3] : List Int) t36_3) (fun xv_20 =>
 y9 (0 ≤ t36_3 ∧ t36_3 < 4) (
 q9 (idx ([b_0.Add.a0, b_0.Add.a1, b_0.Add.a2, b_0.Add.a3] : List Int) t36_3) (fun xv_21 =>
 y9 (0 ≤ t36_3 ∧ t36_3 < 4) (
 q9 (some (if t36_3.toNat = 0 then i64.wrap (xv_20 + xv_21) else b_10.Add.a0)) (fun w_48 =>
 q9 (some (if t36_3.toNat = 1 then i64.wrap (xv_20 + xv_21) else b_10.Add.a1)) (fun w_49 =>
 q9 (some (if t36_3.toNat = 2 then i64.wrap (xv_20 + xv_21) else b_10.Add.a2)) (fun w_50 =>
 q9 (some (if t36_3.toNat = 3 then i64.wrap (xv_20 + xv_21) else b_10.Add.a3)) (fun w_51 =>
 rec_4 (i64.wrap (t36_3 + 1), (⟨b_10.From, b_10.Keep, b_10.Tail, (⟨w_48, w_49, w_50, w_51⟩ : Arr4 Int), b_10.T⟩ : GHop)))))))))))
 else y9 (0 ≤ i64.wrap (t36_3 - a_0.Keep) ∧ i64.wrap (t36_3 - a_0.Keep) < 4) (
 q9 (idx ([a_0.T.a0, a_0.T.a1, a_0.T.a2, a_0.T.a3] : List Int) (i64.wrap (t36_3 - a_0.Keep))) (fun xv_22 =>
 y9 (0 ≤ t36_3 ∧ t36_3 < 4) (
 q9 (idx ([b_0.Add.a0, b_0.Add.a1, b_0.Add.a2, b_0.Add.a3] : List Int) t36_3) (fun xv_23 =>
 y9 (0 ≤ b_10.Tail ∧ b_10.Tail < 4) (
 q9 (some (if b_10.Tail.toNat = 0 then i64.wrap (xv_22 + xv_23) else b_10.T.a0)) (fun w_52 =>
 q9 (some (if b_10.Tail.toNat = 1 then i64.wrap (xv_22 + xv_23) else b_10.T.a1)) (fun w_53 =>
 q9 (some (if b_10.Tail.toNat = 2 then i64.wrap (xv_22 + xv_23) else b_10.T.a2)) (fun w_54 =>
 q9 (some (if b_10.Tail.toNat = 3 then i64.wrap (xv_22 + xv_23) else b_10.T.a3)) (fun w_55 =>
 rec_4 (i64.wrap (t36_3 + 1), (⟨b_10.From, b_10.Keep, i64.wrap (b_10.Tail + 1), b_10.Add, (⟨w_52, w_53, w_54, w_55⟩ : Arr4 Int)⟩ : GHop))))))))))))
 else qj7 b_0 b_10)
def qg2 (a_0 : GHop) (b_0 : GHop) : Option (GHop × Bool) :=
 q9 (q34 a_0) (fun v_0 =>
 (if v_0 = true then q9 (q34 b_0) (fun v_1 =>
 (if v_1 = true then q9 (q4u a_0) (fun v_2 =>
 (if (!(v_2 == b_0.From)) = true then some ((⟨0, 0, 0, (⟨0, 0, 0, 0⟩ : Arr4 Int), (⟨0, 0, 0, 0⟩ : Arr4 Int)⟩ : GHop), false)
 else u7 (qj8 a_0 b_0) rounds (0, (⟨a_0.From, min a_0.Keep b_0.Keep, 0, (⟨0, 0, 0, 0⟩ : Arr4 Int), (⟨0, 0, 0, 0⟩ : Arr4 Int)⟩ : GHop))))
 else some ((⟨0, 0, 0, (⟨0, 0, 0, 0⟩ : Arr4 Int), (⟨0, 0, 0, 0⟩ : Arr4 Int)⟩ : GHop), false)))
 else some ((⟨0, 0, 0, (⟨0, 0, 0, 0⟩ : Arr4 Int), (⟨0, 0, 0, 0⟩ : Arr4 Int)⟩ : GHop), false)))
instance z7u (a_0 : GHop) (b_0 : GHop) : Ct pp 32 (qg2 a_0 b_0) [.agg (Row.row a_0), .agg (Row.row b_0)] fun r => (.tup [.agg (Row.row r.1), .v (.bool r.2)]) := ctK Tryz.func32 rfl (by rw [qg2]) (by
 intro r h F; refine sM ?_; refine sg fun _ Q2 => ?_; refine sg fun _ Q3 => ?_; refine p9 ?_; refine j4u ?_; obtain ⟨v_0, ev_0, h⟩ := z8 h; simp only [go_sem]; refine callq (fun _ => (qg4 a_0 v_0 ev_0)) (by rfl) (by rfl) ?_; simp only [go_sem]; rcases hb_0 : v_0 with _ | _
 · replace h := q5g h hb_0; simp only [go_sem, hb_0]; exact au
 ·
  replace h := q5f h hb_0; obtain ⟨v_1, ev_1, h⟩ := z8 h; simp only [go_sem, hb_0]; refine callq (fun _ => (qg4 b_0 v_1 ev_1)) (by rfl) (by rfl) ?_; simp only [go_sem]; rcases hb_1 : v_1 with _ | _
  · replace h := q5g h hb_1; simp only [go_sem, hb_1]; exact au
  ·
   replace h := q5f h hb_1; obtain ⟨v_2, ev_2, h⟩ := z8 h; simp only [go_sem, hb_1]; refine callq (fun _ => (z0b a_0 v_2 ev_2)) (by rfl) (by rfl) ?_; simp only [go_sem]; refine q8 Q3 (sB h (fun _ h => ?_) fun _ h => ?_)
   · exact au
   ·
    refine y5 (q8 Q2 (sM ?_)); refine q2s (fun (b_3 : GHop) => qj7 b_0 b_3 = some r) [] (fun b_3 => ([(3, .ptr 0 0), (4, .ptr 1 0), (6, .ptr 2 0)], [(0, .box (Row.row b_0)), (1, .box [.v (.int .i64 0), .v (.int .i64 0), .v (.int .i64 0), .v (.int .i64 0), .v (.int .i64 0), .v (.int .i64 0), .v (.int .i64 0), .v (.int .i64 0), .v (.int .i64 0), .v (.int .i64 0), .v (.int .i64 0)]), (2, .box (Row.row b_3))])) 3 ?_ ?_
    ·
     intro _ Q22; refine sM ?_; refine w9 fun _ Q24 => ?_; refine q0a h [2, 3, 4, 6, 35] (fun x => ([(36, .v (.int .i64 x.1))], [(0, .box (Row.row a_0)), (1, .box (Row.row b_0)), (2, .box [.v (.int .i64 0), .v (.int .i64 0), .v (.int .i64 0), .v (.int .i64 0), .v (.int .i64 0), .v (.int .i64 0), .v (.int .i64 0), .v (.int .i64 0), .v (.int .i64 0), .v (.int .i64 0), .v (.int .i64 0)]), (3, .box (Row.row x.2))])) 4 ?_; rintro m_4 ⟨t36_3, b_10⟩ h _ Q25; rw [qj8] at h; refine sM ?_; refine sg fun _ Q27 => ?_; refine sB h (fun _ h => ?_) fun _ h => ?_
     ·
      refine y5 (q8 Q27 (sg fun _ Q28 => ?_)); refine w9 fun _ Q29 => ?_; refine sM ?_; refine sg fun _ Q31 => ?_; refine sM ?_; refine sB h (fun _ h => ?_) fun _ h => ?_
      ·
       refine sg fun _ Q33 => ?_; refine p9 ?_; refine j4u ?_; obtain ⟨F, h⟩ := bG F h; obtain ⟨xv_20, ex20, h⟩ := z8 h; obtain ⟨f20a, f20b, f20c, fxv_20d⟩ := q3x (f := (fun y => AV.v (.int .i64 y))) [.v (.int .i64 a_0.From), .v (.int .i64 a_0.Keep), .v (.int .i64 a_0.Tail)] [.v (.int .i64 a_0.T.a0), .v (.int .i64 a_0.T.a1), .v (.int .i64 a_0.T.a2), .v (.int .i64 a_0.T.a3)] ex20; simp only [List.cons_append, List.nil_append, List.append_nil, List.map_cons, List.map_nil, List.length_cons, List.length_nil, Nat.zero_add, Nat.reduceAdd] at f20b f20c fxv_20d; obtain ⟨F, h⟩ := bG F h; obtain ⟨xv_21, ex21, h⟩ := z8 h; obtain ⟨f21a, f21b, f21c, fxv_21d⟩ := q3x (f := (fun y => AV.v (.int .i64 y))) [.v (.int .i64 b_0.From), .v (.int .i64 b_0.Keep), .v (.int .i64 b_0.Tail)] [.v (.int .i64 b_0.T.a0), .v (.int .i64 b_0.T.a1), .v (.int .i64 b_0.T.a2), .v (.int .i64 b_0.T.a3)] ex21; simp only [List.cons_append, List.nil_append, List.append_nil, List.map_cons, List.map_nil, List.length_cons, List.length_nil, Nat.zero_add, Nat.reduceAdd] at f21b f21c fxv_21d; obtain ⟨F, h⟩ := bG F h; obtain ⟨w_48, ew_48, h⟩ := z8 h; obtain ⟨w_49, ew_49, h⟩ := z8 h; obtain ⟨w_50, ew_50, h⟩ := z8 h; obtain ⟨w_51, ew_51, h⟩ := z8 h; have sf_12 := qs1 (f := (fun y => AV.v (.int .i64 y))) [.v (.int .i64 b_10.From), .v (.int .i64 b_10.Keep), .v (.int .i64 b_10.Tail)] [.v (.int .i64 b_10.T.a0), .v (.int .i64 b_10.T.a1), .v (.int .i64 b_10.T.a2), .v (.int .i64 b_10.T.a3)] [b_10.Add.a0, b_10.Add.a1, b_10.Add.a2, b_10.Add.a3] [w_48, w_49, w_50, w_51] (t36_3.toNat) (i64.wrap (xv_20 + xv_21)) (by simp only [List.length_cons, List.length_nil]; omega) (by simp only [List.mapIdx_cons, List.mapIdx_nil, Nat.zero_add, Nat.reduceAdd, Option.some.inj ew_48, Option.some.inj ew_49, Option.some.inj ew_50, Option.some.inj ew_51]); simp only [List.cons_append, List.nil_append, List.append_nil, List.map_cons, List.map_nil, List.length_cons, List.length_nil, Nat.zero_add, Nat.reduceAdd, q5d, Nat.add_assoc, q3y] at sf_12
       simp only [go_sem, f20a, f20b, f20c, fxv_20d, f21a, f21b, f21c, fxv_21d, sf_12, Nat.mul_one, F]; simp only [List.getD_eq_getElem?_getD, Nat.mul_one, fxv_20d, Option.map_some, Option.getD_some, true_and, List.getD_eq_getElem?_getD, Nat.mul_one, fxv_21d, Option.map_some, Option.getD_some, true_and]; simp only [go_sem, f20a, f20b, f20c, fxv_20d, f21a, f21b, f21c, fxv_21d, sf_12, Nat.mul_one, List.getD_eq_getElem?_getD, Nat.mul_one, fxv_20d, Option.map_some, Option.getD_some, true_and, List.getD_eq_getElem?_getD, Nat.mul_one, fxv_21d, Option.map_some, Option.getD_some, true_and, F]; refine ai ?_; exact au
      ·
       refine y5 (q8 Q31 (sg fun _ Q34 => ?_)); refine p9 ?_; refine j4u ?_; obtain ⟨F, h⟩ := bG F h; obtain ⟨xv_22, ex22, h⟩ := z8 h; obtain ⟨f22a, f22b, f22c, fxv_22d⟩ := q3x (f := (fun y => AV.v (.int .i64 y))) [.v (.int .i64 a_0.From), .v (.int .i64 a_0.Keep), .v (.int .i64 a_0.Tail), .v (.int .i64 a_0.Add.a0), .v (.int .i64 a_0.Add.a1), .v (.int .i64 a_0.Add.a2), .v (.int .i64 a_0.Add.a3)] [] ex22; simp only [List.cons_append, List.nil_append, List.append_nil, List.map_cons, List.map_nil, List.length_cons, List.length_nil, Nat.zero_add, Nat.reduceAdd] at f22b f22c fxv_22d; obtain ⟨F, h⟩ := bG F h; obtain ⟨xv_23, ex23, h⟩ := z8 h; obtain ⟨f23a, f23b, f23c, fxv_23d⟩ := q3x (f := (fun y => AV.v (.int .i64 y))) [.v (.int .i64 b_0.From), .v (.int .i64 b_0.Keep), .v (.int .i64 b_0.Tail)] [.v (.int .i64 b_0.T.a0), .v (.int .i64 b_0.T.a1), .v (.int .i64 b_0.T.a2), .v (.int .i64 b_0.T.a3)] ex23; simp only [List.cons_append, List.nil_append, List.append_nil, List.map_cons, List.map_nil, List.length_cons, List.length_nil, Nat.zero_add, Nat.reduceAdd] at f23b f23c fxv_23d; obtain ⟨F, h⟩ := bG F h; obtain ⟨w_52, ew_52, h⟩ := z8 h; obtain ⟨w_53, ew_53, h⟩ := z8 h; obtain ⟨w_54, ew_54, h⟩ := z8 h; obtain ⟨w_55, ew_55, h⟩ := z8 h; have sf_13 := qs1 (f := (fun y => AV.v (.int .i64 y))) [.v (.int .i64 b_10.From), .v (.int .i64 b_10.Keep), .v (.int .i64 b_10.Tail), .v (.int .i64 b_10.Add.a0), .v (.int .i64 b_10.Add.a1), .v (.int .i64 b_10.Add.a2), .v (.int .i64 b_10.Add.a3)] [] [b_10.T.a0, b_10.T.a1, b_10.T.a2, b_10.T.a3] [w_52, w_53, w_54, w_55] (b_10.Tail.toNat) (i64.wrap (xv_22 + xv_23)) (by simp only [List.length_cons, List.length_nil]; omega) (by simp only [List.mapIdx_cons, List.mapIdx_nil, Nat.zero_add, Nat.reduceAdd, Option.some.inj ew_52, Option.some.inj ew_53, Option.some.inj ew_54, Option.some.inj ew_55])
       simp only [List.cons_append, List.nil_append, List.append_nil, List.map_cons, List.map_nil, List.length_cons, List.length_nil, Nat.zero_add, Nat.reduceAdd, q5d, Nat.add_assoc, q3y] at sf_13; simp only [go_sem, f22a, f22b, f22c, fxv_22d, f23a, f23b, f23c, fxv_23d, sf_13, Nat.mul_one, F]; simp only [List.getD_eq_getElem?_getD, Nat.mul_one, fxv_22d, Option.map_some, Option.getD_some, true_and, List.getD_eq_getElem?_getD, Nat.mul_one, fxv_23d, Option.map_some, Option.getD_some, true_and]; simp only [go_sem, f22a, f22b, f22c, fxv_22d, f23a, f23b, f23c, fxv_23d, sf_13, Nat.mul_one, List.getD_eq_getElem?_getD, Nat.mul_one, fxv_22d, Option.map_some, Option.getD_some, true_and, List.getD_eq_getElem?_getD, Nat.mul_one, fxv_23d, Option.map_some, Option.getD_some, true_and, F]; refine ai ?_; exact au
     · exact au
    ·
     rintro b_3 h
     try dsimp only at h
     rw [qj7] at h; refine q2s (fun (b_6 : GHop) => qj6 b_6 = some r) [] (fun b_6 => ([(4, .ptr 0 0), (6, .ptr 1 0)], [(0, .box [.v (.int .i64 0), .v (.int .i64 0), .v (.int .i64 0), .v (.int .i64 0), .v (.int .i64 0), .v (.int .i64 0), .v (.int .i64 0), .v (.int .i64 0), .v (.int .i64 0), .v (.int .i64 0), .v (.int .i64 0)]), (1, .box (Row.row b_6))])) 2 ?_ ?_
     ·
      intro _ Q12; refine sg fun _ Q13 => ?_; obtain ⟨F, h⟩ := bG F h; simp only [go_sem, F]; refine q8 Q13 (w9 fun _ Q14 => ?_); refine q0a h [80] (fun x => ([(4, .ptr 0 0), (6, .ptr 1 0), (79, .bsl 2 (7) (Int.toNat (b_0.Tail))), (81, .v (.int .i64 x.1))], [(0, .box [.v (.int .i64 0), .v (.int .i64 0), .v (.int .i64 0), .v (.int .i64 0), .v (.int .i64 0), .v (.int .i64 0), .v (.int .i64 0), .v (.int .i64 0), .v (.int .i64 0), .v (.int .i64 0), .v (.int .i64 0)]), (1, .box (Row.row x.2)), (2, .box (Row.row b_0))])) 3 ?_; rintro m_3 ⟨t81_3, b_8⟩ h _ Q15; rw [qj9] at h; refine sM ?_; refine sg fun _ Q17 => ?_; refine sB h (fun _ h => ?_) fun _ h => ?_
      · refine y5 (q8 Q17 (sg fun _ Q18 => ?_)); refine w9 fun _ Q19 => ?_; refine sg fun _ Q20 => ?_; obtain ⟨F, h⟩ := bG F h; obtain ⟨xv_14, ex14, h⟩ := z8 h; obtain ⟨f14a, f14b, f14c, fxv_14d⟩ := q3x (f := (fun y => AV.v (.int .i64 y))) [.v (.int .i64 b_0.From), .v (.int .i64 b_0.Keep), .v (.int .i64 b_0.Tail), .v (.int .i64 b_0.Add.a0), .v (.int .i64 b_0.Add.a1), .v (.int .i64 b_0.Add.a2), .v (.int .i64 b_0.Add.a3)] [] ex14; simp only [List.cons_append, List.nil_append, List.append_nil, List.map_cons, List.map_nil, List.length_cons, List.length_nil, Nat.zero_add, Nat.reduceAdd] at f14b f14c fxv_14d; simp only [go_sem, f14a, f14b, f14c, fxv_14d, F]; simp only [List.getD_eq_getElem?_getD, Nat.mul_one, fxv_14d, Option.map_some, Option.getD_some, true_and]; refine q8 Q20 (sg fun _ Q21 => ?_); obtain ⟨F, h⟩ := bG F h; obtain ⟨w_36, ew_36, h⟩ := z8 h; obtain ⟨w_37, ew_37, h⟩ := z8 h; obtain ⟨w_38, ew_38, h⟩ := z8 h; obtain ⟨w_39, ew_39, h⟩ := z8 h; have sf_9 := qs1 (f := (fun y => AV.v (.int .i64 y))) [.v (.int .i64 b_8.From), .v (.int .i64 b_8.Keep), .v (.int .i64 b_8.Tail), .v (.int .i64 b_8.Add.a0), .v (.int .i64 b_8.Add.a1), .v (.int .i64 b_8.Add.a2), .v (.int .i64 b_8.Add.a3)] [] [b_8.T.a0, b_8.T.a1, b_8.T.a2, b_8.T.a3] [w_36, w_37, w_38, w_39] (b_8.Tail.toNat) xv_14 (by simp only [List.length_cons, List.length_nil]; omega) (by simp only [List.mapIdx_cons, List.mapIdx_nil, Nat.zero_add, Nat.reduceAdd, Option.some.inj ew_36, Option.some.inj ew_37, Option.some.inj ew_38, Option.some.inj ew_39]); simp only [List.cons_append, List.nil_append, List.append_nil, List.map_cons, List.map_nil, List.length_cons, List.length_nil, Nat.zero_add, Nat.reduceAdd, q5d, Nat.add_assoc, q3y] at sf_9; simp only [go_sem, sf_9, Nat.mul_one, F]; refine ai ?_; exact au
      · exact au
     ·
      rintro b_6 h
      try dsimp only at h
      rw [qj6] at h; exact au)
def qg1 (l_0 : List GHop) (hv_0 : GHop) (rec_1 : Int × (List GHop) → Option ((List GHop) × Bool)) : Int × (List GHop) → Option ((List GHop) × Bool) :=
 fun (t15_1, a_1) =>
 (if (decide (t15_1 < (l_0.length : Int))) = true then q9 (idx l_0 t15_1) (fun xv_2 =>
 q9 (qq7 xv_2 hv_0) (fun v_5 =>
 (if v_5 = true then some (l_0, false)
 else q9 (qq7 hv_0 xv_2) (fun v_6 =>
 (if (!v_6) = true then y9 ((a_1.length + List.length ([xv_2] : List GHop)) * 88 ≤ 140737488355328) (
 rec_1 (i64.wrap (t15_1 + 1), (a_1 ++ ([xv_2] : List GHop))))
 else rec_1 (i64.wrap (t15_1 + 1), a_1))))))
 else y9 ((a_1.length + List.length ([hv_0] : List GHop)) * 88 ≤ 140737488355328) (
 some ((a_1 ++ ([hv_0] : List GHop)), true)))
def qi2 (l_0 : List GHop) (hv_0 : GHop) : Option ((List GHop) × Bool) :=
 q9 (q34 hv_0) (fun v_0 =>
 (if (!v_0) = true then some (l_0, false)
 else u7 (qg1 l_0 hv_0) rounds (0, [])))
instance z6d (l_0 : List GHop) (hv_0 : GHop) : Ct pp 33 (qi2 l_0 hv_0) [.sl 11 (enc l_0), .agg (Row.row hv_0)] fun r => (.tup [.sl 11 (enc r.1), .v (.bool r.2)]) := ctK Tryz.func33 rfl (by rw [qi2]) (by
 intro r h F; refine sM ?_; refine sg fun _ Q2 => ?_; refine sg fun _ Q3 => ?_; simp only [go_sem]; refine q1s h fun v_0 h => ?_; simp only [go_sem]; refine q8 Q3 (sB h (fun _ h => ?_) fun _ h => ?_)
 · exact au
 ·
  refine y5 (q8 Q2 (sM ?_)); refine jg fun _ Q6 => ?_; refine sM ?_; refine w9 fun _ Q8 => ?_; refine q0a h [0, 3, 13, 14] (fun x => ([(6, .osl 1 11 (0) (x.2.length)), (15, .v (.int .i64 x.1))], [(0, .box (Row.row hv_0)), (1, .arr 11 (enc x.2))])) 2 ?_; rintro m_1 ⟨t15_1, a_1⟩ h _ Q9; rw [qg1] at h; refine sM ?_; refine sg fun _ Q11 => ?_; refine sB h (fun _ h => ?_) fun _ h => ?_
  ·
   refine y5 (q8 Q11 (jg fun _ Q12 => ?_)); refine w9 fun _ Q13 => ?_; refine sg fun _ Q14 => ?_; obtain ⟨xv_2, F, h⟩ := bI F h; simp only [go_sem, F]; refine ai ?_; refine q8 Q14 (sg fun _ Q15 => ?_); refine sg fun _ Q16 => ?_; simp only [go_sem]; refine q1s h fun v_5 h => ?_; simp only [go_sem]; refine q8 Q16 (sB h (fun _ h => ?_) fun _ h => ?_)
   · exact au
   ·
    refine y5 (q8 Q15 (sg fun _ Q18 => ?_)); simp only [go_sem]; refine q1s h fun v_6 h => ?_; simp only [go_sem]; refine q8 Q18 (sB h (fun _ h => ?_) fun _ h => ?_)
    ·
     have rf_6 : [[.v (.int .i64 xv_2.From), .v (.int .i64 xv_2.Keep), .v (.int .i64 xv_2.Tail), .v (.int .i64 xv_2.Add.a0), .v (.int .i64 xv_2.Add.a1), .v (.int .i64 xv_2.Add.a2), .v (.int .i64 xv_2.Add.a3), .v (.int .i64 xv_2.T.a0), .v (.int .i64 xv_2.T.a1), .v (.int .i64 xv_2.T.a2), .v (.int .i64 xv_2.T.a3)]] = enc ([xv_2] : List GHop) := by rfl
     obtain ⟨g_4, h⟩ := q0r h; have F := And.intro F g_4; simp only [List.length_cons, List.length_nil, Nat.zero_add, List.length_append] at g_4; have rf_7 : enc a_1 ++ [[.v (.int .i64 xv_2.From), .v (.int .i64 xv_2.Keep), .v (.int .i64 xv_2.Tail), .v (.int .i64 xv_2.Add.a0), .v (.int .i64 xv_2.Add.a1), .v (.int .i64 xv_2.Add.a2), .v (.int .i64 xv_2.Add.a3), .v (.int .i64 xv_2.T.a0), .v (.int .i64 xv_2.T.a1), .v (.int .i64 xv_2.T.a2), .v (.int .i64 xv_2.T.a3)]] = enc (a_1 ++ ([xv_2] : List GHop)) := by exact (q3h a_1 ([xv_2] : List GHop)).symm
     simp only [go_sem, g_4, rf_7]; simp only [rf_6]; exact au
    · exact au
  ·
   refine q11 (q1g Q11 (q12 Q9 (q0s Q8 (q8 Q6 (sg fun _ Q19 => ?_))))); have rf_8 : [[.v (.int .i64 hv_0.From), .v (.int .i64 hv_0.Keep), .v (.int .i64 hv_0.Tail), .v (.int .i64 hv_0.Add.a0), .v (.int .i64 hv_0.Add.a1), .v (.int .i64 hv_0.Add.a2), .v (.int .i64 hv_0.Add.a3), .v (.int .i64 hv_0.T.a0), .v (.int .i64 hv_0.T.a1), .v (.int .i64 hv_0.T.a2), .v (.int .i64 hv_0.T.a3)]] = enc ([hv_0] : List GHop) := by rfl
   obtain ⟨g_5, h⟩ := q0r h; have F := And.intro F g_5; simp only [List.length_cons, List.length_nil, Nat.zero_add, List.length_append] at g_5; have rf_9 : enc a_1 ++ [[.v (.int .i64 hv_0.From), .v (.int .i64 hv_0.Keep), .v (.int .i64 hv_0.Tail), .v (.int .i64 hv_0.Add.a0), .v (.int .i64 hv_0.Add.a1), .v (.int .i64 hv_0.Add.a2), .v (.int .i64 hv_0.Add.a3), .v (.int .i64 hv_0.T.a0), .v (.int .i64 hv_0.T.a1), .v (.int .i64 hv_0.T.a2), .v (.int .i64 hv_0.T.a3)]] = enc (a_1 ++ ([hv_0] : List GHop)) := by exact (q3h a_1 ([hv_0] : List GHop)).symm
   simp only [go_sem, g_5, rf_9]; simp only [rf_8]; exact au)
def qf7 (kind_0 : Int) : Option (Bool × Bool) :=
 some ((((kind_0 == 10) || (kind_0 == 11)) || (kind_0 == 12)), ((kind_0 == 1) || (kind_0 == 15)))
instance zq3 (kind_0 : Int) : Ct pp 106 (qf7 kind_0) [.v (.int .i64 kind_0)] fun r => (.tup [.v (.bool r.1), .v (.bool r.2)]) := ctI Tryz.func106 rfl (by rw [qf7]; exact au1)
def q7v (kind_0 : Int) : Option Int :=
 (if ((kind_0 == 5) || (kind_0 == 9)) = true then some 2
 else (if ((decide (1 < kind_0)) && (decide (kind_0 ≤ 15))) = true then some 1
 else some 0))
instance zw4 (kind_0 : Int) : Ct pp 109 (q7v kind_0) [.v (.int .i64 kind_0)] fun r => (.v (.int .i64 r)) := ctI Tryz.func109 rfl (by rw [q7v]; exact au1)
def q9u (g_0 : GGraph) (xv_0 : GNode) : Option Int :=
 (if (xv_0.Kind == 11) = true then q9 (idx g_0.Parent xv_0.Scope) (fun xv_1 =>
 some xv_1)
 else some xv_0.Scope)
instance zw2 (g_0 : GGraph) (xv_0 : GNode) : Ct pp 110 (q9u g_0 xv_0) [.agg (Row.row g_0), .agg (Row.row xv_0)] fun r => (.v (.int .i64 r)) := ctI Tryz.func110 rfl (by rw [q9u]; exact au1)
def q9t (kind_0 : Int) : Option Bool :=
 some (((decide (6 ≤ kind_0)) && (decide (kind_0 ≤ 9))) || (kind_0 == 14))
instance zw1 (kind_0 : Int) : Ct pp 111 (q9t kind_0) [.v (.int .i64 kind_0)] fun r => (.v (.bool r)) := ctI Tryz.func111 rfl (by rw [q9t]; exact au1)
def qa1 (s_0 : List GEdge) (f_0 : GEdge → Option Bool) (rec_1 : Int → Option Int) : Int → Option Int :=
 fun t8_1 =>
 (if (decide (t8_1 < (s_0.length : Int))) = true then q9 (idx s_0 t8_1) (fun xv_2 =>
 q9 (f_0 xv_2) (fun v_2 =>
 (if v_2 = true then some t8_1
 else rec_1 (i64.wrap (t8_1 + 1)))))
 else some (-1))
def q7r (s_0 : List GEdge) (f_0 : GEdge → Option Bool) : Option Int :=
 u7 (qa1 s_0 f_0) rounds 0
theorem qt5 (s_0 : List GEdge) (f_0 : GEdge → Option Bool) (g_f_0 : FuncId) (c_f_0 : List AV) (F_f_0 : q06 c_f_0 = true) (E_f_0 : x8 pp g_f_0 = true) (H_f_0 : ∀ (x0 : GEdge) (r : Bool), f_0 x0 = some r → PureS pp g_f_0 ([.agg (Row.row x0)] ++ c_f_0) 0 (.v (.bool r))) (r : Int) (h : q7r s_0 f_0 = some r) : PureS pp 151 [.sl 4 (enc s_0), .clo g_f_0 c_f_0] 0 (.v (.int .i64 r)) := by
 refine ptI Tryz.func151 rfl ?_; rw [q7r] at h; have F := trivial; refine sM ?_; refine jg fun _ Q2 => ?_; refine sM ?_; refine w9 fun _ Q4 => ?_; refine q0a h [0, 1, 7] (fun t8_1 => ([(8, .v (.int .i64 t8_1))], [])) 0 ?_; rintro m_1 t8_1 h _ Q5; rw [qa1] at h; refine sM ?_; refine sg fun _ Q7 => ?_; refine sB h (fun _ h => ?_) fun _ h => ?_
 ·
  refine y5 (q8 Q7 (sg fun _ Q8 => ?_)); refine w9 fun _ Q9 => ?_; refine sM ?_; refine sg fun _ Q11 => ?_; obtain ⟨xv_2, F, h⟩ := bI F h; obtain ⟨v_2, ev_2, h⟩ := z8 h; simp only [go_sem, E_f_0, F]; refine ai ?_; refine q8j (H_f_0 xv_2 v_2 ev_2) (by rfl) (by simp [go_sem, q06, q0d, F_f_0]) ?_; simp only [go_sem]; refine q8 Q11 (sB h (fun _ h => ?_) fun _ h => ?_)
  · refine sM ?_; refine q05 (q0o Q9 (q0q Q8 (q2t Q5 (q0o Q4 (q0q Q2 ?_))))); simp only [go_sem]; obtain rfl := Option.some.inj h; refine q45 rfl ?_; exact leA
  · refine y5 (q0b Q9 (q8 Q8 ?_)); simp only [go_sem]; refine u6 Q5 ?_; exact nxC _ h [] leA
 · refine q11 (q1g Q7 (q12 Q5 (q0s Q4 (q8 Q2 (sM ?_))))); refine q05 ?_; simp only [go_sem]; obtain rfl := Option.some.inj h; refine q45 rfl ?_; exact leA
def q50 (s_0 : List GEdge) (f_0 : GEdge → Option Bool) : Option Bool :=
 q9 (q7r s_0 f_0) (fun v_0 =>
 some (decide (0 ≤ v_0)))
theorem qo9 (s_0 : List GEdge) (f_0 : GEdge → Option Bool) (g_f_0 : FuncId) (c_f_0 : List AV) (F_f_0 : q06 c_f_0 = true) (E_f_0 : x8 pp g_f_0 = true) (H_f_0 : ∀ (x0 : GEdge) (r : Bool), f_0 x0 = some r → PureS pp g_f_0 ([.agg (Row.row x0)] ++ c_f_0) 0 (.v (.bool r))) (r : Bool) (h : q50 s_0 f_0 = some r) : PureS pp 136 [.sl 4 (enc s_0), .clo g_f_0 c_f_0] 0 (.v (.bool r)) := by
 refine ptI Tryz.func136 rfl ?_; rw [q50] at h; have F := trivial; refine sM ?_; refine sg fun _ Q2 => ?_; obtain ⟨v_0, ev_0, h⟩ := z8 h; simp only [go_sem]; refine q8j (qt5 s_0 f_0 g_f_0 c_f_0 F_f_0 E_f_0 H_f_0 v_0 ev_0) (by rfl) (by simp [go_sem, q06, q0d, F_f_0]) ?_; simp only [go_sem]; refine q8 Q2 (q05 ?_); simp only [go_sem]; obtain rfl := Option.some.inj h; refine q45 rfl ?_; exact leA
def q9v (e_0 : GEdge) (cap_0 : Int) (cap_1 : Int) : Option Bool :=
 some ((e_0.To == cap_0) && (e_0.Port == cap_1))
instance z3v (e_0 : GEdge) (cap_0 : Int) (cap_1 : Int) : Ct pp 137 (q9v e_0 cap_0 cap_1) [.agg (Row.row e_0), .el 1 [[.v (.int .i64 cap_0)]] 0 0, .el 1 [[.v (.int .i64 cap_1)]] 0 0] fun r => (.v (.bool r)) := ctI Tryz.func137 rfl (by rw [q9v]; exact au1)
def qa7 (l_0 : List GEdge) (node_0 : Int) (port_0 : Int) : Option Bool :=
 q9 (q50 l_0 (fun x0_ => q9v x0_ node_0 port_0)) (fun v_0 =>
 some v_0)
instance j1r (l_0 : List GEdge) (node_0 : Int) (port_0 : Int) : Ct pp 112 (qa7 l_0 node_0 port_0) [.sl 4 (enc l_0), .v (.int .i64 node_0), .v (.int .i64 port_0)] fun r => (.v (.bool r)) := ctK Tryz.func112 rfl (by rw [qa7]) (by
 intro r h F; refine sM ?_; refine sg fun _ Q2 => ?_; obtain ⟨v_0, ev_0, h⟩ := z8 h; simp only [go_sem]; refine qi7 (qo9 l_0 (fun x0_ => q9v x0_ node_0 port_0) 137 [.el 1 [[.v (.int .i64 node_0)]] 0 0, .el 1 [[.v (.int .i64 port_0)]] 0 0] (by rfl) (by kernel_rfl) (fun y0 r_ e_ => z3v y0 node_0 port_0 r_ e_) v_0 ev_0) ?_; simp only [go_sem]; exact au)
def qd8 (g_0 : GGraph) (nv_0 : Int) : Option Int :=
 q9 (idx g_0.Nodes nv_0) (fun xv_0 =>
 q9 (qf7 xv_0.Kind) (fun v_0 =>
 (if ((decide (xv_0.Kind < 1)) || (decide (15 < xv_0.Kind))) = true then some 1
 else q9 (q1o xv_0.Scope (g_0.Parent.length : Int)) (fun v_1 =>
 (if (((!v_1) || (v_0.1 && (xv_0.Scope == 0))) || (v_0.2 && (!(xv_0.Scope == 0)))) = true then some 6
 else q9 (q8r g_0 nv_0) (fun v_2 =>
 (if (!v_2) = true then some 6
 else (if (((xv_0.Kind == 4) && (decide (xv_0.Arg < 1))) || (((!(xv_0.Kind == 4)) && (!(xv_0.Kind == 3))) && (!(xv_0.Arg == 0)))) = true then some 1
 else q9 (q6e xv_0.Prog) (fun v_3 =>
 (if ((!v_3) || ((!(xv_0.Kind == 2)) && (decide (0 < (xv_0.Prog.length : Int))))) = true then some 13
 else some 0))))))))))
instance zz6 (g_0 : GGraph) (nv_0 : Int) : Ct pp 64 (qd8 g_0 nv_0) [.agg (Row.row g_0), .v (.int .i64 nv_0)] fun r => (.v (.int .i64 r)) := ctI Tryz.func64 rfl (by rw [qd8]; exact au1)
def q5p (g_0 : GGraph) (xv_0 : GNode) : Option Int :=
 (if (xv_0.Kind == 10) = true then q9 (idx g_0.Parent xv_0.Scope) (fun xv_1 =>
 some xv_1)
 else some xv_0.Scope)
instance zv9 (g_0 : GGraph) (xv_0 : GNode) : Ct pp 74 (q5p g_0 xv_0) [.agg (Row.row g_0), .agg (Row.row xv_0)] fun r => (.v (.int .i64 r)) := ctI Tryz.func74 rfl (by rw [q5p]; exact au1)
def qe0 (g_0 : GGraph) (nv_0 : Int) : Option Int :=
 q9 (idx g_0.Edges nv_0) (fun xv_0 =>
 q9 (q1o xv_0.From (g_0.Nodes.length : Int)) (fun v_0 =>
 (if v_0 = true then q9 (q1o xv_0.To (g_0.Nodes.length : Int)) (fun v_1 =>
 (if (!v_1) = true then some 7
 else q9 (idx g_0.Nodes xv_0.From) (fun xv_1 =>
 q9 (idx g_0.Nodes xv_0.To) (fun xv_2 =>
 (if (xv_1.Kind == 15) = true then some 7
 else q9 (q7v xv_2.Kind) (fun v_2 =>
 q9 (q1o xv_0.Port v_2) (fun v_3 =>
 (if (!v_3) = true then some 7
 else q9 (q9u g_0 xv_1) (fun v_4 =>
 q9 (q5p g_0 xv_2) (fun v_5 =>
 (if (!(v_4 == v_5)) = true then some 6
 else (if ((decide (xv_0.To ≤ xv_0.From)) && (!(xv_1.Kind == 12))) = true then some 8
 else q9 (q9t xv_2.Kind) (fun v_6 =>
 (if (v_6 && (!xv_0.Exchange)) = true then some 1
 else y9 (0 ≤ 0 ∧ 0 ≤ nv_0 ∧ nv_0 ≤ (g_0.Edges.length : Int)) (
 q9 (qa7 (List.take (nv_0.toNat) g_0.Edges) xv_0.To xv_0.Port) (fun v_7 =>
 (if v_7 = true then some 7
 else some 0)))))))))))))))))
 else some 7)))
instance zz8 (g_0 : GGraph) (nv_0 : Int) : Ct pp 65 (qe0 g_0 nv_0) [.agg (Row.row g_0), .v (.int .i64 nv_0)] fun r => (.v (.int .i64 r)) := ctK Tryz.func65 rfl (by rw [qe0]) (by
 intro r h F; refine sM ?_; refine sg fun _ Q2 => ?_; obtain ⟨xv_0, F, h⟩ := bI F h; simp only [go_sem, F]; refine ai ?_; refine q8 Q2 (sg fun _ Q3 => ?_); refine sg fun _ Q4 => ?_; simp only [go_sem]; refine q1s h fun v_0 h => ?_; simp only [go_sem]; rcases hb_0 : v_0 with _ | _
 · replace h := q5g h hb_0; simp only [go_sem, hb_0]; exact au
 ·
  replace h := q5f h hb_0; simp only [go_sem, hb_0]; refine q1s h fun v_1 h => ?_; simp only [go_sem]; refine q8 Q4 (sB h (fun _ h => ?_) fun _ h => ?_)
  · exact au
  · refine y5 (q8 Q3 (sg fun _ Q7 => ?_)); refine p9 ?_; refine q2n 15 0 14 [0, 1, 0, 4, 15, 31, 0, 64, 0, 256, 960, 1984, 0, 0, 12351, 32767] [2, 3] [0, 1, 2, 3, 4, 5, 6, 7, 8, 9, 10, 11] [] [14] [12, 13] mixed (by kernel_rfl) (of_decide_eq_true (by kernel_rfl)) (by kernel_rfl) (by kernel_rfl) (by rfl) ?_; obtain ⟨xv_1, F, h⟩ := bI F h; obtain ⟨xv_2, F, h⟩ := bI F h; simp only [go_sem, F]; refine ai ?_; refine ai ?_; exact au)
def qk7 (g_0 : GGraph) (s_0 : Int) (rec_1 : Int → Option Bool) : Int → Option Bool :=
 fun p_1 =>
 (if (decide (0 ≤ p_1)) = true then (if (p_1 == s_0) = true then some true
 else q9 (idx g_0.Parent p_1) (fun xv_3 =>
 rec_1 xv_3))
 else some false)
def q9r (g_0 : GGraph) (s_0 : Int) (of_0 : Int) : Option Bool :=
 q9 (idx g_0.Parent of_0) (fun xv_0 =>
 u7 (qk7 g_0 s_0) rounds xv_0)
instance zv8 (g_0 : GGraph) (s_0 : Int) (of_0 : Int) : Ct pp 114 (q9r g_0 s_0 of_0) [.agg (Row.row g_0), .v (.int .i64 s_0), .v (.int .i64 of_0)] fun r => (.v (.bool r)) := ctK Tryz.func114 rfl (by rw [q9r]) (by
 intro r h F; refine sM ?_; refine jg fun _ Q2 => ?_; refine sg fun _ Q3 => ?_; obtain ⟨xv_0, F, h⟩ := bI F h; simp only [go_sem, F]; refine ai ?_; refine q8 Q3 (w9 fun _ Q4 => ?_); refine q0a h [1, 3] (fun p_1 => ([(7, .v (.int .i64 p_1))], [(0, .box (Row.row g_0))])) 1 ?_; rintro m_1 p_1 h _ Q5; rw [qk7] at h; exact au)
def q3a (fromv_0 : Int) (cap_0 : GGraph) (self : Int → GGraph → (List Bool) → Int → Option (GGraph × (List Bool) × Int)) (rec_1 : Int × GGraph × Int × (List Bool) → Option (GGraph × (List Bool) × Int)) : Int × GGraph × Int × (List Bool) → Option (GGraph × (List Bool) × Int) :=
 fun (t12_1, b_2, b_3, a_1) =>
 (if (decide (t12_1 < (cap_0.Edges.length : Int))) = true then q9 (idx cap_0.Edges t12_1) (fun xv_6 =>
 (if (xv_6.From == fromv_0) = true then q9 (idx a_1 xv_6.To) (fun xv_7 =>
 (if xv_7 = true then rec_1 (i64.wrap (t12_1 + 1), b_2, b_3, a_1)
 else q9 (idx b_2.Nodes xv_6.To) (fun xv_8 =>
 (if (xv_8.Kind == 12) = true then q9 (q9r b_2 xv_8.Scope b_3) (fun v_7 =>
 (if (!v_7) = true then q9 (self xv_6.To b_2 (List.set a_1 (xv_6.To.toNat) true) b_3) (fun v_8 =>
 rec_1 (i64.wrap (t12_1 + 1), v_8.1, v_8.2.2, v_8.2.1))
 else rec_1 (i64.wrap (t12_1 + 1), b_2, b_3, (List.set a_1 (xv_6.To.toNat) true))))
 else q9 (self xv_6.To b_2 (List.set a_1 (xv_6.To.toNat) true) b_3) (fun v_6 =>
 rec_1 (i64.wrap (t12_1 + 1), v_6.1, v_6.2.2, v_6.2.1))))))
 else rec_1 (i64.wrap (t12_1 + 1), b_2, b_3, a_1)))
 else some (b_2, a_1, b_3))
def q2c (self : Int → GGraph → (List Bool) → Int → Option (GGraph × (List Bool) × Int)) (fromv_0 : Int) (cap_0 : GGraph) (cap_1 : List Bool) (cap_2 : Int) : Option (GGraph × (List Bool) × Int) :=
 u7 (q3a fromv_0 cap_0 self) rounds (0, cap_0, cap_2, cap_1)
def q0w : Nat → Int → GGraph → (List Bool) → Int → Option (GGraph × (List Bool) × Int)
 | 0 => fun _ _ _ _ => none
 | n + 1 => q2c (q0w n)
def q8f (fromv_0 : Int) (cap_0 : GGraph) (cap_1 : List Bool) (cap_2 : Int) : Option (GGraph × (List Bool) × Int) := q0w rounds fromv_0 cap_0 cap_1 cap_2
theorem qf8 (self : Int → GGraph → (List Bool) → Int → Option (GGraph × (List Bool) × Int)) (Hself : ∀ (fromv_0 : Int) (cap_0 : GGraph) (cap_1 : List Bool) (cap_2 : Int)  (r : GGraph × (List Bool) × Int), self fromv_0 cap_0 cap_1 cap_2 = some r → DetS pp 113 [.v (.int .i64 fromv_0), .ptr 0 0, .ptr 1 0, .ptr 3 0, .ptr 4 0] [(0, .box (Row.row cap_0)), (1, .box [.osl 2 1 (0) (cap_1.length)]), (2, .arr 1 (enc cap_1)), (3, .box [.v (.int .i64 cap_2)]), (4, .box [.clo 113 [.ptr 0 0, .ptr 1 0, .ptr 3 0, .ptr 4 0]])] 5 (.tup []) [(0, .box (Row.row r.1)), (1, .box [.osl 5 1 (0) (r.2.1.length)]), (3, .box [.v (.int .i64 r.2.2)]), (4, .box [.clo 113 [.ptr 0 0, .ptr 1 0, .ptr 3 0, .ptr 4 0]]), (5, .arr 1 (enc r.2.1))] 6) (fromv_0 : Int) (cap_0 : GGraph) (cap_1 : List Bool) (cap_2 : Int)  (r : GGraph × (List Bool) × Int) (h : q2c self fromv_0 cap_0 cap_1 cap_2 = some r) : DetS pp 113 [.v (.int .i64 fromv_0), .ptr 0 0, .ptr 1 0, .ptr 3 0, .ptr 4 0] [(0, .box (Row.row cap_0)), (1, .box [.osl 2 1 (0) (cap_1.length)]), (2, .arr 1 (enc cap_1)), (3, .box [.v (.int .i64 cap_2)]), (4, .box [.clo 113 [.ptr 0 0, .ptr 1 0, .ptr 3 0, .ptr 4 0]])] 5 (.tup []) [(0, .box (Row.row r.1)), (1, .box [.osl 5 1 (0) (r.2.1.length)]), (3, .box [.v (.int .i64 r.2.2)]), (4, .box [.clo 113 [.ptr 0 0, .ptr 1 0, .ptr 3 0, .ptr 4 0]]), (5, .arr 1 (enc r.2.1))] 6 := by
 refine dtI Tryz.func113 rfl ?_; rw [q2c] at h; have F := trivial; refine sM ?_; refine w9 fun _ Q2 => ?_; refine q0a h [0, 1, 2, 3, 4, 10, 11] (fun x => ([(12, .v (.int .i64 x.1))], [(0, .box (Row.row x.2.1)), (1, .box [.osl 5 1 (0) (x.2.2.2.length)]), (3, .box [.v (.int .i64 x.2.2.1)]), (4, .box [.clo 113 [.ptr 0 0, .ptr 1 0, .ptr 3 0, .ptr 4 0]]), (5, .arr 1 (enc x.2.2.2))])) 6 ?_; rintro m_1 ⟨t12_1, b_2, b_3, a_1⟩ h _ Q3; rw [q3a] at h; refine sM ?_; refine sg fun _ Q5 => ?_; refine sB h (fun _ h => ?_) fun _ h => ?_
 ·
  refine y5 (q8 Q5 (jg fun _ Q6 => ?_)); refine w9 fun _ Q7 => ?_; refine sg fun _ Q8 => ?_; obtain ⟨xv_6, F, h⟩ := bI F h; simp only [go_sem, F]; refine ai ?_; refine q8 Q8 (sg fun _ Q9 => ?_); refine sg fun _ Q10 => ?_; simp only [go_sem]; rcases hb_11 : (xv_6.From == fromv_0) with _ | _
  · replace h := q5g h hb_11; simp only [go_sem, hb_11]; exact au
  ·
   replace h := q5f h hb_11; obtain ⟨xv_7, F, h⟩ := bI F h; simp only [go_sem, hb_11, F]; refine ai ?_; refine q8 Q10 (sB h (fun _ h => ?_) fun _ h => ?_)
   · exact au
   ·
    refine y5 (q8 Q9 (sg fun _ Q11 => ?_)); have rf_2 : (enc a_1).set (xv_6.To.toNat) [.v (.bool true)] = enc (List.set a_1 (xv_6.To.toNat) true) := by exact q5b _ _ _
    simp only [go_sem, rf_2, F]; refine ai ?_; refine q8 Q11 (sg fun _ Q12 => ?_); obtain ⟨xv_8, F, h⟩ := bI F h; simp only [go_sem, F]; refine ai ?_; refine q8 Q12 (sg fun _ Q13 => ?_); simp only [go_sem]; rcases hb_13 : (xv_8.Kind == 12) with _ | _
    · replace h := q5g h hb_13; simp only [go_sem, hb_13]; refine q8 Q13 (j6g ?_); obtain ⟨v_6, ev_6, h⟩ := z8 h; simp only [go_sem]; refine q8g [0, 1, 2, 3, 4, 10, 11, 12, 21, 22, 23, 25] ([], [(0, .box (Row.row b_2)), (1, .box [.osl 5 1 (0) (List.length (List.set a_1 (xv_6.To.toNat) true))]), (3, .box [.v (.int .i64 b_3)]), (4, .box [.clo 113 [.ptr 0 0, .ptr 1 0, .ptr 3 0, .ptr 4 0]]), (5, .arr 1 (enc (List.set a_1 (xv_6.To.toNat) true))), (6, .box (Row.row xv_6)), (7, .box (Row.row xv_8))]) 8 [some 5, some 6, some 7] [.v (.int .i64 xv_6.To), .ptr 0 0, .ptr 1 0, .ptr 3 0, .ptr 4 0] ?_; refine q18 [0, 1, 5, 3, 4] (Hself xv_6.To b_2 (List.set a_1 (xv_6.To.toNat) true) b_3 v_6 ev_6) ?_; simp only [go_sem]; exact au
    ·
     replace h := q5f h hb_13; simp only [go_sem, hb_13]; refine q1s h fun v_7 h => ?_; simp only [go_sem]; refine q8 Q13 (sB h (fun _ h => ?_) fun _ h => ?_)
     · obtain ⟨v_8, ev_8, h⟩ := z8 h; simp only [go_sem]; refine q8g [0, 1, 2, 3, 4, 10, 11, 12, 21, 22, 23, 25, 41, 42, 43, 44, 45, 46] ([], [(0, .box (Row.row b_2)), (1, .box [.osl 5 1 (0) (List.length (List.set a_1 (xv_6.To.toNat) true))]), (3, .box [.v (.int .i64 b_3)]), (4, .box [.clo 113 [.ptr 0 0, .ptr 1 0, .ptr 3 0, .ptr 4 0]]), (5, .arr 1 (enc (List.set a_1 (xv_6.To.toNat) true))), (6, .box (Row.row xv_6)), (7, .box (Row.row xv_8))]) 8 [some 5, some 6, some 7] [.v (.int .i64 xv_6.To), .ptr 0 0, .ptr 1 0, .ptr 3 0, .ptr 4 0] ?_; refine q18 [0, 1, 5, 3, 4] (Hself xv_6.To b_2 (List.set a_1 (xv_6.To.toNat) true) b_3 v_8 ev_8) ?_; simp only [go_sem]; exact au
     · exact au
 · exact au
theorem q6j : ∀ (n : Nat) (fromv_0 : Int) (cap_0 : GGraph) (cap_1 : List Bool) (cap_2 : Int)  (r : GGraph × (List Bool) × Int), q0w n fromv_0 cap_0 cap_1 cap_2 = some r → DetS pp 113 [.v (.int .i64 fromv_0), .ptr 0 0, .ptr 1 0, .ptr 3 0, .ptr 4 0] [(0, .box (Row.row cap_0)), (1, .box [.osl 2 1 (0) (cap_1.length)]), (2, .arr 1 (enc cap_1)), (3, .box [.v (.int .i64 cap_2)]), (4, .box [.clo 113 [.ptr 0 0, .ptr 1 0, .ptr 3 0, .ptr 4 0]])] 5 (.tup []) [(0, .box (Row.row r.1)), (1, .box [.osl 5 1 (0) (r.2.1.length)]), (3, .box [.v (.int .i64 r.2.2)]), (4, .box [.clo 113 [.ptr 0 0, .ptr 1 0, .ptr 3 0, .ptr 4 0]]), (5, .arr 1 (enc r.2.1))] 6
  | 0, fromv_0, cap_0, cap_1, cap_2, r, h => by simp [q0w] at h
  | n + 1, fromv_0, cap_0, cap_1, cap_2, r, h => qf8 (q0w n) (q6j n) fromv_0 cap_0 cap_1 cap_2  r h
theorem qi1 (fromv_0 : Int) (cap_0 : GGraph) (cap_1 : List Bool) (cap_2 : Int)  (r : GGraph × (List Bool) × Int) (h : q8f fromv_0 cap_0 cap_1 cap_2 = some r) : DetS pp 113 [.v (.int .i64 fromv_0), .ptr 0 0, .ptr 1 0, .ptr 3 0, .ptr 4 0] [(0, .box (Row.row cap_0)), (1, .box [.osl 2 1 (0) (cap_1.length)]), (2, .arr 1 (enc cap_1)), (3, .box [.v (.int .i64 cap_2)]), (4, .box [.clo 113 [.ptr 0 0, .ptr 1 0, .ptr 3 0, .ptr 4 0]])] 5 (.tup []) [(0, .box (Row.row r.1)), (1, .box [.osl 5 1 (0) (r.2.1.length)]), (3, .box [.v (.int .i64 r.2.2)]), (4, .box [.clo 113 [.ptr 0 0, .ptr 1 0, .ptr 3 0, .ptr 4 0]]), (5, .arr 1 (enc r.2.1))] 6 := q6j rounds fromv_0 cap_0 cap_1 cap_2  r h
def qb4 (g_0 : GGraph) (nv_0 : Int) (v_0 : Int) (rec_1 : Int → Option Bool) : Int → Option Bool :=
 fun t13_1 =>
 (if (decide (t13_1 < v_0)) = true then q9 (qa7 g_0.Edges nv_0 t13_1) (fun v_3 =>
 (if (!v_3) = true then some false
 else rec_1 (i64.wrap (t13_1 + 1))))
 else some true)
def qd9 (g_0 : GGraph) (nv_0 : Int) : Option Bool :=
 q9 (idx g_0.Nodes nv_0) (fun xv_0 =>
 q9 (q7v xv_0.Kind) (fun v_0 =>
 u7 (qb4 g_0 nv_0 v_0) rounds 0))
instance zz7 (g_0 : GGraph) (nv_0 : Int) : Ct pp 66 (qd9 g_0 nv_0) [.agg (Row.row g_0), .v (.int .i64 nv_0)] fun r => (.v (.bool r)) := ctK Tryz.func66 rfl (by rw [qd9]) (by
 intro r h F; refine sM ?_; refine jg fun _ Q2 => ?_; refine sg fun _ Q3 => ?_; obtain ⟨xv_0, F, h⟩ := bI F h; simp only [go_sem, F]; refine ai ?_; refine q1s h fun v_0 h => ?_; simp only [go_sem]; refine q8 Q3 (w9 fun _ Q4 => ?_); refine q0a h [1, 2, 12] (fun t13_1 => ([(13, .v (.int .i64 t13_1))], [(0, .box (Row.row g_0))])) 1 ?_; rintro m_1 t13_1 h _ Q5; rw [qb4] at h; exact au)
def q9d (g_0 : GGraph) (nv_0 : Int) (rec_1 : Int × Int × (List Bool) × GGraph → Option Bool) : Int × Int × (List Bool) × GGraph → Option Bool :=
 fun (t31_1, b_2, a_1, b_3) =>
 (if (decide (t31_1 < (g_0.Nodes.length : Int))) = true then q9 (idx g_0.Nodes t31_1) (fun xv_5 =>
 (if ((xv_5.Kind == 11) && (xv_5.Scope == b_2)) = true then q9 (q8f t31_1 b_3 a_1 b_2) (fun v_2 =>
 rec_1 (i64.wrap (t31_1 + 1), v_2.2.2, v_2.2.1, v_2.1))
 else rec_1 (i64.wrap (t31_1 + 1), b_2, a_1, b_3)))
 else q9 (idx a_1 nv_0) (fun xv_6 =>
 some xv_6))
def q9w (g_0 : GGraph) (nv_0 : Int) : Option Bool :=
 q9 (idx g_0.Nodes nv_0) (fun xv_0 =>
 (if (!(xv_0.Kind == 10)) = true then some false
 else y9 (0 ≤ (g_0.Nodes.length : Int) ∧ (g_0.Nodes.length : Int) * 1 ≤ 140737488355328) (
 u7 (q9d g_0 nv_0) rounds (0, xv_0.Scope, (List.replicate (g_0.Nodes.length) false), g_0))))
instance zw3 (g_0 : GGraph) (nv_0 : Int) : Ct pp 67 (q9w g_0 nv_0) [.agg (Row.row g_0), .v (.int .i64 nv_0)] fun r => (.v (.bool r)) := ctK Tryz.func67 rfl (by rw [q9w]) (by
 intro r h F; refine sM ?_; refine sg fun _ Q2 => ?_; obtain ⟨xv_0, F, h⟩ := bI F h; simp only [go_sem, F]; refine ai ?_; refine q8 Q2 (sg fun _ Q3 => ?_); refine sg fun _ Q4 => ?_; simp only [go_sem, F]; refine ai ?_; refine q8 Q4 (sB h (fun _ h => ?_) fun _ h => ?_)
 · exact au
 ·
  refine y5 (q8 Q3 (sg fun _ Q6 => ?_)); obtain ⟨F, h⟩ := bG F h; have rf_0 : List.replicate (g_0.Nodes.length) [.v (.bool false)] = enc (List.replicate (g_0.Nodes.length) false) := by (simp [enc, qp4, qk4, q86, q3y]; done)
  simp only [go_sem, F]; simp only [rf_0]; refine q8 Q6 (sM ?_); refine sM ?_; refine jg fun _ Q9 => ?_; refine sM ?_; refine w9 fun _ Q11 => ?_; refine q0a h [1, 29, 30] (fun x => ([(5, .ptr 0 0), (6, .ptr 1 0), (7, .ptr 2 0), (31, .v (.int .i64 x.1))], [(0, .box [.v (.int .i64 x.2.1)]), (1, .box [.osl 3 1 (0) (x.2.2.1.length)]), (2, .box [.clo 113 [.ptr 4 0, .ptr 1 0, .ptr 0 0, .ptr 2 0]]), (3, .arr 1 (enc x.2.2.1)), (4, .box (Row.row x.2.2.2))])) 5 ?_; rintro m_1 ⟨t31_1, b_2, a_1, b_3⟩ h _ Q12; rw [q9d] at h; refine sM ?_; refine sg fun _ Q14 => ?_; refine sB h (fun _ h => ?_) fun _ h => ?_
  ·
   refine y5 (q8 Q14 (jg fun _ Q15 => ?_)); refine w9 fun _ Q16 => ?_; refine sg fun _ Q17 => ?_; obtain ⟨xv_5, F, h⟩ := bI F h; simp only [go_sem, F]; refine ai ?_; refine q8 Q17 (sM ?_); refine sB h (fun _ h => ?_) fun _ h => ?_
   · obtain ⟨v_2, ev_2, h⟩ := z8 h; simp only [go_sem]; refine q18 [4, 1, 3, 0, 2] (qi1 t31_1 b_3 a_1 b_2 v_2 ev_2) ?_; simp only [go_sem]; exact au
   · exact au
  · exact au)
def q9i (g_0 : GGraph) (rec_5 : Int → Option (Int × Int)) : Int → Option (Int × Int) :=
 fun t101_1 =>
 (if (decide (t101_1 < (g_0.Nodes.length : Int))) = true then q9 (q9w g_0 t101_1) (fun v_14 =>
 (if v_14 = true then some (8, t101_1)
 else rec_5 (i64.wrap (t101_1 + 1))))
 else some (0, 0))
def q79 (g_0 : GGraph) : Option (Int × Int) :=
 u7 (q9i g_0) rounds 0
def q9h (g_0 : GGraph) (rec_6 : Int → Option (Int × Int)) : Int → Option (Int × Int) :=
 fun t89_3 =>
 (if (decide (t89_3 < (g_0.Nodes.length : Int))) = true then q9 (qd9 g_0 t89_3) (fun v_17 =>
 (if (!v_17) = true then some (7, t89_3)
 else rec_6 (i64.wrap (t89_3 + 1))))
 else q79 g_0)
def q7a (g_0 : GGraph) : Option (Int × Int) :=
 u7 (q9h g_0) rounds 0
def q9g (g_0 : GGraph) (rec_7 : Int → Option (Int × Int)) : Int → Option (Int × Int) :=
 fun t75_3 =>
 (if (decide (t75_3 < (g_0.Edges.length : Int))) = true then q9 (qe0 g_0 t75_3) (fun v_20 =>
 (if (!(v_20 == 0)) = true then some (v_20, t75_3)
 else rec_7 (i64.wrap (t75_3 + 1))))
 else q7a g_0)
def q7b (g_0 : GGraph) : Option (Int × Int) :=
 u7 (q9g g_0) rounds 0
def q9f (g_0 : GGraph) (rec_8 : Int → Option (Int × Int)) : Int → Option (Int × Int) :=
 fun t61_3 =>
 (if (decide (t61_3 < (g_0.Nodes.length : Int))) = true then q9 (qd8 g_0 t61_3) (fun v_23 =>
 (if (!(v_23 == 0)) = true then some (v_23, t61_3)
 else rec_8 (i64.wrap (t61_3 + 1))))
 else q7b g_0)
def q7c (g_0 : GGraph) : Option (Int × Int) :=
 (if (((decide ((g_0.Nodes.length : Int) < 1)) || (decide (32 < (g_0.Nodes.length : Int)))) || (decide (64 < (g_0.Edges.length : Int)))) = true then some (11, 0)
 else u7 (q9f g_0) rounds 0)
def q9e (g_0 : GGraph) (rec_9 : Int → Option (Int × Int)) : Int → Option (Int × Int) :=
 fun t33_3 =>
 (if (decide (t33_3 < (g_0.Parent.length : Int))) = true then q9 (q9s g_0 t33_3) (fun v_26 =>
 (if (!v_26) = true then some (6, t33_3)
 else rec_9 (i64.wrap (t33_3 + 1))))
 else q7c g_0)
def q7w (g_0 : GGraph) : Option (Int × Int) :=
 (if (((decide ((g_0.Parent.length : Int) < 1)) || (decide (8 < (g_0.Parent.length : Int)))) || (!((g_0.Bound.length : Int) == (g_0.Parent.length : Int)))) = true then some (6, 0)
 else u7 (q9e g_0) rounds 0)
instance zw6 (g_0 : GGraph) : Ct pp 28 (q7w g_0) [.agg (Row.row g_0)] fun r => (.tup [.v (.int .i64 r.1), .v (.int .i64 r.2)]) := ctK Tryz.func28 rfl (by rw [q7w]) (by
 intro r h F; refine sM ?_; refine sg fun _ Q2 => ?_; refine sM ?_; refine sB h (fun _ h => ?_) fun _ h => ?_
 · exact au
 ·
  refine y5 (q8 Q2 (q2s (fun (_ : Unit) => q7c g_0 = some r) [1] (fun _ => ([], [(0, .box (Row.row g_0))])) 1 ?_ ?_))
  · intro _ Q55; refine sM ?_; refine w9 fun _ Q57 => ?_; refine q0a h [1, 32] (fun t33_3 => ([(33, .v (.int .i64 t33_3))], [(0, .box (Row.row g_0))])) 1 ?_; rintro m_9 t33_3 h _ Q58; rw [q9e] at h; exact au
  ·
   rintro ⟨⟩ h
   try dsimp only at h
   rw [q7c] at h; refine sg fun _ Q5 => ?_; refine sM ?_; refine sB h (fun _ h => ?_) fun _ h => ?_
   · exact au
   ·
    refine y5 (q8 Q5 (q2s (fun (_ : Unit) => q7b g_0 = some r) [1] (fun _ => ([], [(0, .box (Row.row g_0))])) 1 ?_ ?_))
    · intro _ Q43; refine sM ?_; refine w9 fun _ Q45 => ?_; refine q0a h [1, 60] (fun t61_3 => ([(61, .v (.int .i64 t61_3))], [(0, .box (Row.row g_0))])) 1 ?_; rintro m_8 t61_3 h _ Q46; rw [q9f] at h; exact au
    ·
     rintro ⟨⟩ h
     try dsimp only at h
     rw [q7b] at h; refine q2s (fun (_ : Unit) => q7a g_0 = some r) [1] (fun _ => ([], [(0, .box (Row.row g_0))])) 1 ?_ ?_
     · intro _ Q31; refine sM ?_; refine w9 fun _ Q33 => ?_; refine q0a h [1, 74] (fun t75_3 => ([(75, .v (.int .i64 t75_3))], [(0, .box (Row.row g_0))])) 1 ?_; rintro m_7 t75_3 h _ Q34; rw [q9g] at h; exact au
     ·
      rintro ⟨⟩ h
      try dsimp only at h
      rw [q7a] at h; refine q2s (fun (_ : Unit) => q79 g_0 = some r) [1] (fun _ => ([], [(0, .box (Row.row g_0))])) 1 ?_ ?_
      · intro _ Q20; refine sM ?_; refine w9 fun _ Q22 => ?_; refine q0a h [1, 88] (fun t89_3 => ([(89, .v (.int .i64 t89_3))], [(0, .box (Row.row g_0))])) 1 ?_; rintro m_6 t89_3 h _ Q23; rw [q9h] at h; exact au
      ·
       rintro ⟨⟩ h
       try dsimp only at h
       rw [q79] at h; refine jg fun _ Q8 => ?_; refine sM ?_; refine w9 fun _ Q10 => ?_; refine q0a h [1, 100] (fun t101_1 => ([(101, .v (.int .i64 t101_1))], [(0, .box (Row.row g_0))])) 1 ?_; rintro m_5 t101_1 h _ Q11; rw [q9i] at h; exact au)
def q5q (g_0 : GGraph) (node_0 : Int) : Option Int :=
 q9 (q1o node_0 (g_0.Nodes.length : Int)) (fun v_0 =>
 (if (!v_0) = true then some 0
 else q9 (idx g_0.Nodes node_0) (fun xv_0 =>
 q9 (q5p g_0 xv_0) (fun v_1 =>
 q9 (q9x g_0 v_1) (fun v_2 =>
 some v_2)))))
instance z3w (g_0 : GGraph) (node_0 : Int) : Ct pp 31 (q5q g_0 node_0) [.agg (Row.row g_0), .v (.int .i64 node_0)] fun r => (.v (.int .i64 r)) := ctI Tryz.func31 rfl (by rw [q5q]; exact au1)
def q9n (hv_0 : GHop) : Option (GHop × Bool) :=
 q9 (q34 hv_0) (fun v_0 =>
 (if (!v_0) = true then some ((⟨0, 0, 0, (⟨0, 0, 0, 0⟩ : Arr4 Int), (⟨0, 0, 0, 0⟩ : Arr4 Int)⟩ : GHop), false)
 else some (hv_0, true)))
instance j2r (hv_0 : GHop) : Ct pp 71 (q9n hv_0) [.agg (Row.row hv_0)] fun r => (.tup [.agg (Row.row r.1), .v (.bool r.2)]) := ctI Tryz.func71 rfl (by rw [q9n]; exact au1)
def qi4 (d_0 : Int) : Option (GHop × Bool) :=
 q9 (q9n (⟨d_0, d_0, 1, (⟨0, 0, 0, 0⟩ : Arr4 Int), (⟨0, 0, 0, 0⟩ : Arr4 Int)⟩ : GHop)) (fun v_0 =>
 some (v_0.1, v_0.2))
instance j1u (d_0 : Int) : Ct pp 68 (qi4 d_0) [.v (.int .i64 d_0)] fun r => (.tup [.agg (Row.row r.1), .v (.bool r.2)]) := ctI Tryz.func68 rfl (by rw [qi4]; exact au1)
def qi3 (d_0 : Int) : Option (GHop × Bool) :=
 (if (decide (d_0 < 2)) = true then some ((⟨0, 0, 0, (⟨0, 0, 0, 0⟩ : Arr4 Int), (⟨0, 0, 0, 0⟩ : Arr4 Int)⟩ : GHop), false)
 else q9 (q9n (⟨d_0, i64.wrap (d_0 - 1), 0, (⟨0, 0, 0, 0⟩ : Arr4 Int), (⟨0, 0, 0, 0⟩ : Arr4 Int)⟩ : GHop)) (fun v_0 =>
 some (v_0.1, v_0.2)))
instance j1t (d_0 : Int) : Ct pp 69 (qi3 d_0) [.v (.int .i64 d_0)] fun r => (.tup [.agg (Row.row r.1), .v (.bool r.2)]) := ctI Tryz.func69 rfl (by rw [qi3]; exact au1)
def qn9 (d_0 : Int) : Option (GHop × Bool) :=
 q9 (q34 (⟨d_0, d_0, 0, (⟨0, 0, 0, 0⟩ : Arr4 Int), (⟨0, 0, 0, 0⟩ : Arr4 Int)⟩ : GHop)) (fun v_0 =>
 (if (!v_0) = true then some ((⟨0, 0, 0, (⟨0, 0, 0, 0⟩ : Arr4 Int), (⟨0, 0, 0, 0⟩ : Arr4 Int)⟩ : GHop), false)
 else y9 (0 ≤ i64.wrap (d_0 - 1) ∧ i64.wrap (d_0 - 1) < 4) (
 q9 (some (if Int.toNat (i64.wrap (d_0 - 1)) = 0 then 1 else 0)) (fun w_0 =>
 q9 (some (if Int.toNat (i64.wrap (d_0 - 1)) = 1 then 1 else 0)) (fun w_1 =>
 q9 (some (if Int.toNat (i64.wrap (d_0 - 1)) = 2 then 1 else 0)) (fun w_2 =>
 q9 (some (if Int.toNat (i64.wrap (d_0 - 1)) = 3 then 1 else 0)) (fun w_3 =>
 some ((⟨d_0, d_0, 0, (⟨w_0, w_1, w_2, w_3⟩ : Arr4 Int), (⟨0, 0, 0, 0⟩ : Arr4 Int)⟩ : GHop), true))))))))
instance j2t (d_0 : Int) : Ct pp 70 (qn9 d_0) [.v (.int .i64 d_0)] fun r => (.tup [.agg (Row.row r.1), .v (.bool r.2)]) := ctK Tryz.func70 rfl (by rw [qn9]) (by
 intro r h F; refine sM ?_; refine sM ?_; refine sg fun _ Q3 => ?_; refine sg fun _ Q4 => ?_; simp only [go_sem]; refine q1s h fun v_0 h => ?_; simp only [go_sem]; refine q8 Q4 (sB h (fun _ h => ?_) fun _ h => ?_)
 · exact au
 · refine y5 (q8 Q3 (sg fun _ Q6 => ?_)); obtain ⟨F, h⟩ := bG F h; obtain ⟨w_0, ew_0, h⟩ := z8 h; obtain ⟨w_1, ew_1, h⟩ := z8 h; obtain ⟨w_2, ew_2, h⟩ := z8 h; obtain ⟨w_3, ew_3, h⟩ := z8 h; have sf_0 := qs1 (f := (fun y => AV.v (.int .i64 y))) [.v (.int .i64 d_0), .v (.int .i64 d_0), .v (.int .i64 0)] [.v (.int .i64 0), .v (.int .i64 0), .v (.int .i64 0), .v (.int .i64 0)] [0, 0, 0, 0] [w_0, w_1, w_2, w_3] (Int.toNat (i64.wrap (d_0 - 1))) 1 (by simp only [List.length_cons, List.length_nil]; omega) (by simp only [List.mapIdx_cons, List.mapIdx_nil, Nat.zero_add, Nat.reduceAdd, Option.some.inj ew_0, Option.some.inj ew_1, Option.some.inj ew_2, Option.some.inj ew_3]); simp only [List.cons_append, List.nil_append, List.append_nil, List.map_cons, List.map_nil, List.length_cons, List.length_nil, Nat.zero_add, Nat.reduceAdd, q5d, Nat.add_assoc, q3y] at sf_0; simp only [go_sem, sf_0, Nat.mul_one, F]; refine ai ?_; exact au)
def qg3 (d_0 : Int) : Option (GHop × Bool) :=
 q9 (q9n (⟨d_0, d_0, 0, (⟨0, 0, 0, 0⟩ : Arr4 Int), (⟨0, 0, 0, 0⟩ : Arr4 Int)⟩ : GHop)) (fun v_0 =>
 some (v_0.1, v_0.2))
instance j2s (d_0 : Int) : Ct pp 30 (qg3 d_0) [.v (.int .i64 d_0)] fun r => (.tup [.agg (Row.row r.1), .v (.bool r.2)]) := ctI Tryz.func30 rfl (by rw [qg3]; exact au1)
def qe6 (g_0 : GGraph) (e_0 : GEdge) : Option GHop :=
 q9 (q5q g_0 e_0.From) (fun v_0 =>
 q9 (idx g_0.Nodes e_0.From) (fun xv_0 =>
 (if (xv_0.Kind == 10) = true then q9 (qi4 v_0) (fun v_1 =>
 some v_1.1)
 else (if (xv_0.Kind == 11) = true then q9 (qi3 v_0) (fun v_2 =>
 some v_2.1)
 else (if (xv_0.Kind == 12) = true then q9 (qn9 v_0) (fun v_3 =>
 some v_3.1)
 else q9 (qg3 v_0) (fun v_4 =>
 some v_4.1))))))
instance j03 (g_0 : GGraph) (e_0 : GEdge) : Ct pp 29 (qe6 g_0 e_0) [.agg (Row.row g_0), .agg (Row.row e_0)] fun r => (.agg (Row.row r)) := ctI Tryz.func29 rfl (by rw [qe6]; exact au1)
def q7e (a_2 : List GHop) (t77_17 : Int) (rec_4 : (Bool × Int × (List (List GHop)) → Option (List (List (List GHop))))) (xv_300 : GEdge) (xv_301 : List GHop) (rec_5 : Bool × Int × (List (List GHop)) → Option (List (List (List GHop)))) : Bool × Int × (List (List GHop)) → Option (List (List (List GHop))) :=
 fun (more_77, t88_53, a_82) =>
 (if (decide (t88_53 < (xv_301.length : Int))) = true then q9 (idx xv_301 t88_53) (fun xv_308 =>
 q9 (idx a_2 t77_17) (fun xv_309 =>
 q9 (qg2 xv_308 xv_309) (fun v_170 =>
 (if v_170.2 = true then q9 (idx a_82 xv_300.To) (fun xv_310 =>
 q9 (qi2 xv_310 v_170.1) (fun v_171 =>
 rec_5 ((more_77 || v_171.2), i64.wrap (t88_53 + 1), (List.set a_82 (xv_300.To.toNat) v_171.1))))
 else rec_5 (more_77, i64.wrap (t88_53 + 1), a_82)))))
 else rec_4 (more_77, i64.wrap (t77_17 + 1), a_82))
def q7f (g_0 : GGraph) (a_2 : List GHop) (rec_3 : (Bool × (List (List GHop)) → Option (List (List (List GHop))))) (rec_4 : Bool × Int × (List (List GHop)) → Option (List (List (List GHop)))) : Bool × Int × (List (List GHop)) → Option (List (List (List GHop))) :=
 fun (more_75, t77_17, a_80) =>
 (if (decide (t77_17 < (g_0.Edges.length : Int))) = true then q9 (idx g_0.Edges t77_17) (fun xv_300 =>
 q9 (idx a_80 xv_300.From) (fun xv_301 =>
 u7 (q7e a_2 t77_17 rec_4 xv_300 xv_301) rounds (more_75, 0, a_80)))
 else rec_3 (more_75, a_80))
def q9l (g_0 : GGraph) (a_2 : List GHop) (t56_1 : Int) (a_56 : List (List (List GHop))) (rec_2 : (Int × (List (List (List GHop))) → Option (List (List (List GHop))))) (rec_3 : Bool × (List (List GHop)) → Option (List (List (List GHop)))) : Bool × (List (List GHop)) → Option (List (List (List GHop))) :=
 fun (more_69, a_74) =>
 (if more_69 = true then u7 (q7f g_0 a_2 rec_3) rounds (false, 0, a_74)
 else q9 (idx a_56 t56_1) (fun xv_311 =>
 rec_2 (i64.wrap (t56_1 + 1), (List.set a_56 (t56_1.toNat) a_74))))
def q9m (g_0 : GGraph) (a_2 : List GHop) (rec_2 : Int × (List (List (List GHop))) → Option (List (List (List GHop)))) : Int × (List (List (List GHop))) → Option (List (List (List GHop))) :=
 fun (t56_1, a_56) =>
 (if (decide (t56_1 < (List.length (List.replicate (g_0.Nodes.length) ([] : List (List GHop))) : Int))) = true then y9 (0 ≤ (g_0.Nodes.length : Int) ∧ (g_0.Nodes.length : Int) * 24 ≤ 140737488355328) (
 q9 (q5q g_0 t56_1) (fun v_116 =>
 q9 (qg3 v_116) (fun v_117 =>
 q9 (idx (List.replicate (g_0.Nodes.length) ([] : List GHop)) t56_1) (fun xv_210 =>
 u7 (q9l g_0 a_2 t56_1 a_56 rec_2) rounds (true, (List.set (List.replicate (g_0.Nodes.length) ([] : List GHop)) (t56_1.toNat) ([v_117.1] : List GHop)))))))
 else some a_56)
def q9j (g_0 : GGraph) (a_2 : List GHop) : Option (List (List (List GHop))) :=
 u7 (q9m g_0 a_2) rounds (0, (List.replicate (g_0.Nodes.length) ([] : List (List GHop))))
def q9k (g_0 : GGraph) (rec_6 : Int × (List GHop) → Option (List (List (List GHop)))) : Int × (List GHop) → Option (List (List (List GHop))) :=
 fun (t42_3, a_84) =>
 (if (decide (t42_3 < (g_0.Edges.length : Int))) = true then q9 (idx g_0.Edges t42_3) (fun xv_316 =>
 q9 (qe6 g_0 xv_316) (fun v_174 =>
 q9 (idx a_84 t42_3) (fun xv_317 =>
 rec_6 (i64.wrap (t42_3 + 1), (List.set a_84 (t42_3.toNat) v_174)))))
 else q9j g_0 a_84)
def q51 (g_0 : GGraph) : Option (List (List (List GHop))) :=
 q9 (q7w g_0) (fun v_0 =>
 (if (!(v_0.1 == 0)) = true then some ([] : List (List (List GHop)))
 else y9 (0 ≤ (g_0.Nodes.length : Int) ∧ (g_0.Nodes.length : Int) * 24 ≤ 140737488355328) (
 y9 (0 ≤ (g_0.Edges.length : Int) ∧ (g_0.Edges.length : Int) * 88 ≤ 140737488355328) (
 u7 (q9k g_0) rounds (0, (List.replicate (g_0.Edges.length) (⟨0, 0, 0, (⟨0, 0, 0, 0⟩ : Arr4 Int), (⟨0, 0, 0, 0⟩ : Arr4 Int)⟩ : GHop)))))))
theorem z2z (g_0 : GGraph)  (r : List (List (List GHop))) (h : q51 g_0 = some r) : DetS pp 10 [.agg (Row.row g_0)] [] 0 (.osl 0 1 (0) (r.length)) [(0, .arr 1 (enc r))] 1 := by
 refine dtI Tryz.func10 rfl ?_; rw [q51] at h; have F := trivial; refine sM ?_; refine sg fun _ Q2 => ?_; refine sg fun _ Q3 => ?_; simp only [go_sem]; refine q1s h fun v_0 h => ?_; simp only [go_sem]; refine q8 Q3 (sM ?_); refine sB h (fun _ h => ?_) fun _ h => ?_
 · exact au
 ·
  refine y5 (q8 Q2 (sM ?_)); refine sg fun _ Q7 => ?_; obtain ⟨F, h⟩ := bG F h; have rf_0 : List.replicate (g_0.Nodes.length) [.sl 1 (enc ([] : List (List GHop)))] = enc (List.replicate (g_0.Nodes.length) ([] : List (List GHop))) := by (simp [enc, qp4, qk4, q86, q3y]; exact .inr rfl)
  have rf_0n := rf_0; simp only [q3y] at rf_0n; simp only [go_sem, F]; refine ai ?_; simp only [rf_0n, rf_0]; refine q8 Q7 (sg fun _ Q8 => ?_); obtain ⟨F, h⟩ := bG F h; have rf_1 : List.replicate (g_0.Edges.length) [.v (.int .i64 0), .v (.int .i64 0), .v (.int .i64 0), .v (.int .i64 0), .v (.int .i64 0), .v (.int .i64 0), .v (.int .i64 0), .v (.int .i64 0), .v (.int .i64 0), .v (.int .i64 0), .v (.int .i64 0)] = enc (List.replicate (g_0.Edges.length) (⟨0, 0, 0, (⟨0, 0, 0, 0⟩ : Arr4 Int), (⟨0, 0, 0, 0⟩ : Arr4 Int)⟩ : GHop)) := by (simp [enc, qp4, qk4, q86, q3y]; exact .inr rfl)
  simp only [go_sem, F]; refine ai ?_; simp only [rf_1]; refine q8 Q8 (q2s (fun (a_2 : (List GHop)) => q9j g_0 a_2 = some r) [1, 5] (fun a_2 => ([(6, .osl 1 1 (0) (List.length (List.replicate (g_0.Nodes.length) ([] : List (List GHop))))), (7, .osl 2 11 (0) (a_2.length))], [(0, .box (Row.row g_0)), (1, .arr 1 (enc (List.replicate (g_0.Nodes.length) ([] : List (List GHop))))), (2, .arr 11 (enc a_2))])) 3 ?_ ?_)
  ·
   intro _ Q50; refine sM ?_; refine w9 fun _ Q52 => ?_; refine q0a h [1, 5, 40, 41] (fun x => ([(6, .osl 1 1 (0) (List.length (List.replicate (g_0.Nodes.length) ([] : List (List GHop))))), (7, .osl 2 11 (0) (x.2.length)), (42, .v (.int .i64 x.1))], [(0, .box (Row.row g_0)), (1, .arr 1 (enc (List.replicate (g_0.Nodes.length) ([] : List (List GHop))))), (2, .arr 11 (enc x.2))])) 3 ?_; rintro m_6 ⟨t42_3, a_84⟩ h _ Q53; rw [q9k] at h; refine sM ?_; refine sg fun _ Q55 => ?_; refine sB h (fun _ h => ?_) fun _ h => ?_
   ·
    refine y5 (q8 Q55 (sg fun _ Q56 => ?_)); refine w9 fun _ Q57 => ?_; refine sg fun _ Q58 => ?_; obtain ⟨xv_316, F, h⟩ := bI F h; simp only [go_sem, F]; refine ai ?_; refine q8 Q58 ?_; simp only [go_sem]; refine q1s h fun v_174 h => ?_; obtain ⟨xv_317, F, h⟩ := bI F h; have rf_103 : (enc a_84).set (t42_3.toNat) [.v (.int .i64 v_174.From), .v (.int .i64 v_174.Keep), .v (.int .i64 v_174.Tail), .v (.int .i64 v_174.Add.a0), .v (.int .i64 v_174.Add.a1), .v (.int .i64 v_174.Add.a2), .v (.int .i64 v_174.Add.a3), .v (.int .i64 v_174.T.a0), .v (.int .i64 v_174.T.a1), .v (.int .i64 v_174.T.a2), .v (.int .i64 v_174.T.a3)] = enc (List.set a_84 (t42_3.toNat) v_174) := by exact q5b _ _ _
    simp only [go_sem, rf_103, F]; refine ai ?_; exact au
   · exact au
  ·
   rintro a_2 h
   try dsimp only at h
   rw [q9j] at h; refine jg fun _ Q9 => ?_; refine sM ?_; refine w9 fun _ Q11 => ?_; refine q0a h [1, 5, 7, 55] (fun x => ([(6, .osl 1 1 (0) (x.2.length)), (56, .v (.int .i64 x.1))], [(0, .box (Row.row g_0)), (1, .arr 1 (enc x.2)), (2, .arr 11 (enc a_2))])) 3 ?_; rintro m_2 ⟨t56_1, a_56⟩ h _ Q12; rw [q9m] at h; refine sM ?_; refine sg fun _ Q14 => ?_; refine sB h (fun _ h => ?_) fun _ h => ?_
   ·
    refine y5 (q8 Q14 (jg fun _ Q15 => ?_)); refine w9 fun _ Q16 => ?_; refine sM ?_; refine sg fun _ Q18 => ?_; obtain ⟨F, h⟩ := bG F h; have rf_69 : List.replicate (g_0.Nodes.length) [.sl 11 (enc ([] : List GHop))] = enc (List.replicate (g_0.Nodes.length) ([] : List GHop)) := by (simp [enc, qp4, qk4, q86, q3y]; exact .inr rfl)
    have rf_69n := rf_69; simp only [q3y] at rf_69n; simp only [go_sem, F]; refine ai ?_; simp only [rf_69n, rf_69]; refine q8 Q18 (sg fun _ Q19 => ?_); simp only [go_sem]; refine q1s h fun v_116 h => ?_; simp only [go_sem]; refine q1s h fun v_117 h => ?_; simp only [go_sem]; refine q8 Q19 (sg fun _ Q20 => ?_); have rf_70 : [[.v (.int .i64 v_117.1.From), .v (.int .i64 v_117.1.Keep), .v (.int .i64 v_117.1.Tail), .v (.int .i64 v_117.1.Add.a0), .v (.int .i64 v_117.1.Add.a1), .v (.int .i64 v_117.1.Add.a2), .v (.int .i64 v_117.1.Add.a3), .v (.int .i64 v_117.1.T.a0), .v (.int .i64 v_117.1.T.a1), .v (.int .i64 v_117.1.T.a2), .v (.int .i64 v_117.1.T.a3)]] = enc ([v_117.1] : List GHop) := by rfl
    obtain ⟨xv_210, F, h⟩ := bI F h; have rf_71 : (enc (List.replicate (g_0.Nodes.length) ([] : List GHop))).set (t56_1.toNat) [.sl 11 (enc ([v_117.1] : List GHop))] = enc (List.set (List.replicate (g_0.Nodes.length) ([] : List GHop)) (t56_1.toNat) ([v_117.1] : List GHop)) := by exact q5b _ _ _
    simp only [go_sem, rf_71, F]; refine And.intro (by first | omega | (intros; simp_all; done)) ?_; refine And.intro (by first | omega | (intros; simp_all; done)) ?_; simp only [rf_70]; refine q8 Q20 (jg fun _ Q21 => ?_); refine sM ?_; refine w9 fun _ Q23 => ?_; refine q0a h [1, 5, 6, 7, 10, 55, 56] (fun x => ([(11, .osl 3 1 (0) (x.2.length)), (14, .v (.bool x.1))], [(0, .box (Row.row g_0)), (1, .arr 1 (enc a_56)), (2, .arr 11 (enc a_2)), (3, .arr 1 (enc x.2))])) 4 ?_; rintro m_3 ⟨more_69, a_74⟩ h _ Q24; rw [q9l] at h; refine sg fun _ Q25 => ?_; refine sM ?_; refine sB h (fun _ h => ?_) fun _ h => ?_
    ·
     refine y5 (q8 Q25 (w9 fun _ Q27 => ?_)); refine sM ?_; refine sM ?_; refine w9 fun _ Q30 => ?_; refine q0a h [1, 5, 6, 7, 10, 55, 56, 75, 76] (fun x => ([(11, .osl 3 1 (0) (x.2.2.length)), (14, .v (.bool x.1)), (77, .v (.int .i64 x.2.1))], [(0, .box (Row.row g_0)), (1, .arr 1 (enc a_56)), (2, .arr 11 (enc a_2)), (3, .arr 1 (enc x.2.2))])) 4 ?_; rintro m_4 ⟨more_75, t77_17, a_80⟩ h _ Q31; rw [q7f] at h; refine sM ?_; refine sg fun _ Q33 => ?_; refine sB h (fun _ h => ?_) fun _ h => ?_
     ·
      refine y5 (q8 Q33 (jg fun _ Q34 => ?_)); refine w9 fun _ Q35 => ?_; refine sg fun _ Q36 => ?_; obtain ⟨xv_300, F, h⟩ := bI F h; simp only [go_sem, F]; refine ai ?_; refine q8 Q36 (sg fun _ Q37 => ?_); obtain ⟨xv_301, F, h⟩ := bI F h; simp only [go_sem, F]; refine ai ?_; refine q8 Q37 (w9 fun _ Q38 => ?_); refine q0a h [1, 5, 6, 7, 10, 15, 16, 55, 56, 75, 76, 77, 86, 87] (fun x => ([(11, .osl 3 1 (0) (x.2.2.length)), (14, .v (.bool x.1)), (88, .v (.int .i64 x.2.1))], [(0, .box (Row.row g_0)), (1, .arr 1 (enc a_56)), (2, .arr 11 (enc a_2)), (3, .arr 1 (enc x.2.2)), (4, .box (Row.row xv_300))])) 5 ?_; rintro m_5 ⟨more_77, t88_53, a_82⟩ h _ Q39; rw [q7e] at h; refine sM ?_; refine sg fun _ Q41 => ?_; refine sB h (fun _ h => ?_) fun _ h => ?_
      ·
       refine y5 (q8 Q41 (jg fun _ Q42 => ?_)); refine w9 fun _ Q43 => ?_; refine sg fun _ Q44 => ?_; obtain ⟨xv_308, F, h⟩ := bI F h; simp only [go_sem, F]; refine ai ?_; refine q8 Q44 (sg fun _ Q45 => ?_); refine p9 ?_; refine q2n 11 0 0 [0, 0, 0, 6, 14, 31, 63, 127, 127, 0, 767, 2047] [6] [0, 1, 2, 3, 4, 5, 6, 7, 8] [] [9, 10] [] mixed (by kernel_rfl) (of_decide_eq_true (by kernel_rfl)) (by kernel_rfl) (by kernel_rfl) (by rfl) ?_; obtain ⟨xv_309, F, h⟩ := bI F h; obtain ⟨v_170, ev_170, h⟩ := z8 h; simp only [go_sem, F]; refine ai ?_; refine callq (fun _ => (z7u xv_308 xv_309 v_170 ev_170)) (by rfl) (by rfl) ?_; simp only [go_sem]; refine q8 Q45 (sM ?_); refine sB h (fun _ h => ?_) fun _ h => ?_
       ·
        refine sg fun _ Q47 => ?_; refine p9 ?_; refine j4u ?_; obtain ⟨xv_310, F, h⟩ := bI F h; obtain ⟨v_171, ev_171, h⟩ := z8 h; simp only [go_sem, F]; refine ai ?_; refine callq (fun _ => (z6d xv_310 v_170.1 v_171 ev_171)) (by rfl) (by rfl) ?_; simp only [go_sem]; refine q8 Q47 (sg fun _ Q48 => ?_); have rf_99 : (enc a_82).set (xv_300.To.toNat) [.sl 11 (enc v_171.1)] = enc (List.set a_82 (xv_300.To.toNat) v_171.1) := by exact q5b _ _ _
        simp only [go_sem, rf_99, F]; refine ai ?_; exact au
       · exact au
      · exact au
     · exact au
    ·
     refine q11 (q1g Q25 (q12 Q24 (q0s Q23 (q8 Q21 ?_)))); obtain ⟨xv_311, F, h⟩ := bI F h; have rf_100 : (enc a_56).set (t56_1.toNat) [.sl 1 (enc a_74)] = enc (List.set a_56 (t56_1.toNat) a_74) := by exact q5b _ _ _
     simp only [go_sem, rf_100, F]; refine ai ?_; exact au
   · exact au
instance z3y (g_0 : GGraph) : Ct pp 10 (q51 g_0) [.agg (Row.row g_0)] fun r => (.sl 1 (enc r)) := ⟨fun r h => (z2z g_0  r h).pure leA⟩
def qg5 (hv_0 : GHop) (b_2 : GTime) : Option (GTime × Bool) :=
 y9 (0 ≤ hv_0.Keep ∧ hv_0.Keep ≤ 4 ∧ 4 ≤ 4) (
 y9 (0 ≤ 0 ∧ 0 ≤ hv_0.Tail ∧ hv_0.Tail ≤ 4) (
 q9 (some ((cpL [b_2.C.a0, b_2.C.a1, b_2.C.a2, b_2.C.a3] [hv_0.T.a0, hv_0.T.a1, hv_0.T.a2, hv_0.T.a3] (hv_0.Keep.toNat) (hv_0.Tail.toNat)).getD 0 0)) (fun w_8 =>
 q9 (some ((cpL [b_2.C.a0, b_2.C.a1, b_2.C.a2, b_2.C.a3] [hv_0.T.a0, hv_0.T.a1, hv_0.T.a2, hv_0.T.a3] (hv_0.Keep.toNat) (hv_0.Tail.toNat)).getD 1 0)) (fun w_9 =>
 q9 (some ((cpL [b_2.C.a0, b_2.C.a1, b_2.C.a2, b_2.C.a3] [hv_0.T.a0, hv_0.T.a1, hv_0.T.a2, hv_0.T.a3] (hv_0.Keep.toNat) (hv_0.Tail.toNat)).getD 2 0)) (fun w_10 =>
 q9 (some ((cpL [b_2.C.a0, b_2.C.a1, b_2.C.a2, b_2.C.a3] [hv_0.T.a0, hv_0.T.a1, hv_0.T.a2, hv_0.T.a3] (hv_0.Keep.toNat) (hv_0.Tail.toNat)).getD 3 0)) (fun w_11 =>
 q9 (q3b (⟨b_2.D, (⟨w_8, w_9, w_10, w_11⟩ : Arr4 Int)⟩ : GTime)) (fun v_3 =>
 (if (!v_3) = true then some ((⟨0, (⟨0, 0, 0, 0⟩ : Arr4 Int)⟩ : GTime), false)
 else some ((⟨b_2.D, (⟨w_8, w_9, w_10, w_11⟩ : Arr4 Int)⟩ : GTime), true)))))))))
def qg6 (hv_0 : GHop) (t_0 : GTime) (rec_2 : Int × GTime → Option (GTime × Bool)) : Int × GTime → Option (GTime × Bool) :=
 fun (t29_3, b_4) =>
 (if (decide (t29_3 < hv_0.Keep)) = true then y9 (0 ≤ t29_3 ∧ t29_3 < 4) (
 q9 (idx ([t_0.C.a0, t_0.C.a1, t_0.C.a2, t_0.C.a3] : List Int) t29_3) (fun xv_6 =>
 y9 (0 ≤ t29_3 ∧ t29_3 < 4) (
 q9 (idx ([hv_0.Add.a0, hv_0.Add.a1, hv_0.Add.a2, hv_0.Add.a3] : List Int) t29_3) (fun xv_7 =>
 y9 (0 ≤ t29_3 ∧ t29_3 < 4) (
 q9 (some (if t29_3.toNat = 0 then i64.wrap (xv_6 + xv_7) else b_4.C.a0)) (fun w_16 =>
 q9 (some (if t29_3.toNat = 1 then i64.wrap (xv_6 + xv_7) else b_4.C.a1)) (fun w_17 =>
 q9 (some (if t29_3.toNat = 2 then i64.wrap (xv_6 + xv_7) else b_4.C.a2)) (fun w_18 =>
 q9 (some (if t29_3.toNat = 3 then i64.wrap (xv_6 + xv_7) else b_4.C.a3)) (fun w_19 =>
 rec_2 (i64.wrap (t29_3 + 1), (⟨b_4.D, (⟨w_16, w_17, w_18, w_19⟩ : Arr4 Int)⟩ : GTime)))))))))))
 else qg5 hv_0 b_4)
def qi5 (hv_0 : GHop) (t_0 : GTime) : Option (GTime × Bool) :=
 q9 (q34 hv_0) (fun v_0 =>
 (if v_0 = true then q9 (q3b t_0) (fun v_1 =>
 (if ((!v_1) || (!(t_0.D == hv_0.From))) = true then some ((⟨0, (⟨0, 0, 0, 0⟩ : Arr4 Int)⟩ : GTime), false)
 else q9 (q4u hv_0) (fun v_2 =>
 u7 (qg6 hv_0 t_0) rounds (0, (⟨v_2, (⟨0, 0, 0, 0⟩ : Arr4 Int)⟩ : GTime)))))
 else some ((⟨0, (⟨0, 0, 0, 0⟩ : Arr4 Int)⟩ : GTime), false)))
instance j1v (hv_0 : GHop) (t_0 : GTime) : Ct pp 26 (qi5 hv_0 t_0) [.agg (Row.row hv_0), .agg (Row.row t_0)] fun r => (.tup [.agg (Row.row r.1), .v (.bool r.2)]) := ctK Tryz.func26 rfl (by rw [qi5]) (by
 intro r h F; refine sM ?_; refine sg fun _ Q2 => ?_; refine sg fun _ Q3 => ?_; simp only [go_sem]; refine q1s h fun v_0 h => ?_; simp only [go_sem]; rcases hb_0 : v_0 with _ | _
 · replace h := q5g h hb_0; simp only [go_sem, hb_0]; exact au
 ·
  replace h := q5f h hb_0; simp only [go_sem, hb_0]; refine q1s h fun v_1 h => ?_; simp only [go_sem]; refine q8 Q3 (sB h (fun _ h => ?_) fun _ h => ?_)
  · exact au
  ·
   refine y5 (q8 Q2 (sg fun _ Q6 => ?_)); simp only [go_sem]; refine q1s h fun v_2 h => ?_; simp only [go_sem]; refine q8 Q6 (q2s (fun (b_2 : GTime) => qg5 hv_0 b_2 = some r) [2] (fun b_2 => ([(4, .ptr 1 0), (6, .ptr 2 0)], [(0, .box (Row.row hv_0)), (1, .box [.v (.int .i64 0), .v (.int .i64 0), .v (.int .i64 0), .v (.int .i64 0), .v (.int .i64 0)]), (2, .box (Row.row b_2))])) 3 ?_ ?_)
   ·
    intro _ Q12; refine sM ?_; refine w9 fun _ Q14 => ?_; refine q0a h [2, 3, 4, 6, 28] (fun x => ([(29, .v (.int .i64 x.1))], [(0, .box (Row.row hv_0)), (1, .box (Row.row t_0)), (2, .box [.v (.int .i64 0), .v (.int .i64 0), .v (.int .i64 0), .v (.int .i64 0), .v (.int .i64 0)]), (3, .box (Row.row x.2))])) 4 ?_; rintro m_2 ⟨t29_3, b_4⟩ h _ Q15; rw [qg6] at h; refine sM ?_; refine sg fun _ Q17 => ?_; refine sB h (fun _ h => ?_) fun _ h => ?_
    ·
     refine y5 (q8 Q17 (sg fun _ Q18 => ?_)); refine w9 fun _ Q19 => ?_; refine sM ?_; refine p9 ?_; refine j4u ?_; obtain ⟨F, h⟩ := bG F h; obtain ⟨xv_6, ex6, h⟩ := z8 h; obtain ⟨f6a, f6b, f6c, fxv_6d⟩ := q3x (f := (fun y => AV.v (.int .i64 y))) [.v (.int .i64 t_0.D)] [] ex6; simp only [List.cons_append, List.nil_append, List.append_nil, List.map_cons, List.map_nil, List.length_cons, List.length_nil, Nat.zero_add, Nat.reduceAdd] at f6b f6c fxv_6d; obtain ⟨F, h⟩ := bG F h; obtain ⟨xv_7, ex7, h⟩ := z8 h; obtain ⟨f7a, f7b, f7c, fxv_7d⟩ := q3x (f := (fun y => AV.v (.int .i64 y))) [.v (.int .i64 hv_0.From), .v (.int .i64 hv_0.Keep), .v (.int .i64 hv_0.Tail)] [.v (.int .i64 hv_0.T.a0), .v (.int .i64 hv_0.T.a1), .v (.int .i64 hv_0.T.a2), .v (.int .i64 hv_0.T.a3)] ex7; simp only [List.cons_append, List.nil_append, List.append_nil, List.map_cons, List.map_nil, List.length_cons, List.length_nil, Nat.zero_add, Nat.reduceAdd] at f7b f7c fxv_7d; obtain ⟨F, h⟩ := bG F h; obtain ⟨w_16, ew_16, h⟩ := z8 h; obtain ⟨w_17, ew_17, h⟩ := z8 h; obtain ⟨w_18, ew_18, h⟩ := z8 h; obtain ⟨w_19, ew_19, h⟩ := z8 h; have sf_3 := qs1 (f := (fun y => AV.v (.int .i64 y))) [.v (.int .i64 b_4.D)] [] [b_4.C.a0, b_4.C.a1, b_4.C.a2, b_4.C.a3] [w_16, w_17, w_18, w_19] (t29_3.toNat) (i64.wrap (xv_6 + xv_7)) (by simp only [List.length_cons, List.length_nil]; omega) (by simp only [List.mapIdx_cons, List.mapIdx_nil, Nat.zero_add, Nat.reduceAdd, Option.some.inj ew_16, Option.some.inj ew_17, Option.some.inj ew_18, Option.some.inj ew_19]); simp only [List.cons_append, List.nil_append, List.append_nil, List.map_cons, List.map_nil, List.length_cons, List.length_nil, Nat.zero_add, Nat.reduceAdd, q5d, Nat.add_assoc, q3y] at sf_3; simp only [go_sem, f6a, f6b, f6c, fxv_6d, f7a, f7b, f7c, fxv_7d, sf_3, Nat.mul_one, F]; simp only [List.getD_eq_getElem?_getD, Nat.mul_one, fxv_6d, Option.map_some, Option.getD_some, true_and, List.getD_eq_getElem?_getD, Nat.mul_one, fxv_7d, Option.map_some, Option.getD_some, true_and]
     simp only [go_sem, f6a, f6b, f6c, fxv_6d, f7a, f7b, f7c, fxv_7d, sf_3, Nat.mul_one, List.getD_eq_getElem?_getD, Nat.mul_one, fxv_6d, Option.map_some, Option.getD_some, true_and, List.getD_eq_getElem?_getD, Nat.mul_one, fxv_7d, Option.map_some, Option.getD_some, true_and, F]; refine ai ?_; exact au
    · exact au
   ·
    rintro b_2 h
    try dsimp only at h
    rw [qg5] at h; refine sg fun _ Q7 => ?_; refine p9 ?_; refine j4u ?_; obtain ⟨F, h⟩ := bG F h; obtain ⟨F, h⟩ := bG F h; obtain ⟨w_8, ew_8, h⟩ := z8 h; obtain ⟨w_9, ew_9, h⟩ := z8 h; obtain ⟨w_10, ew_10, h⟩ := z8 h; obtain ⟨w_11, ew_11, h⟩ := z8 h; have cf_0 := j3z (f := (fun y => AV.v (.int .i64 y))) [.v (.int .i64 b_2.D)] [] [.v (.int .i64 hv_0.From), .v (.int .i64 hv_0.Keep), .v (.int .i64 hv_0.Tail), .v (.int .i64 hv_0.Add.a0), .v (.int .i64 hv_0.Add.a1), .v (.int .i64 hv_0.Add.a2), .v (.int .i64 hv_0.Add.a3)] [] [b_2.C.a0, b_2.C.a1, b_2.C.a2, b_2.C.a3] [hv_0.T.a0, hv_0.T.a1, hv_0.T.a2, hv_0.T.a3] [w_8, w_9, w_10, w_11] (hv_0.Keep.toNat) (hv_0.Tail.toNat) (by simp only [List.length_cons, List.length_nil]; omega) (by simp only [List.length_cons, List.length_nil]; omega) (j40 (0) (by omega) _ rfl (Option.some.inj ew_8) (Option.some.inj ew_9) (Option.some.inj ew_10) (Option.some.inj ew_11)); simp only [List.cons_append, List.nil_append, List.append_nil, List.map_cons, List.map_nil, List.length_cons, List.length_nil, Nat.zero_add, Nat.reduceAdd, Nat.reduceSub, Nat.sub_zero, q5d, Nat.add_assoc, List.drop_zero, List.drop_succ_cons] at cf_0; simp only [go_sem, cf_0, F]; refine ai ?_; refine ai ?_; exact au)
def q5i (p_0 : List (List (List GHop))) (nv_0 : Int) (mv_0 : Int) : Option (List GHop) :=
 (if (((decide (nv_0 < 0)) || (decide ((p_0.length : Int) ≤ nv_0))) || (decide (mv_0 < 0))) = true then some ([] : List GHop)
 else q9 (idx p_0 nv_0) (fun xv_0 =>
 (if (decide ((xv_0.length : Int) ≤ mv_0)) = true then some ([] : List GHop)
 else q9 (idx xv_0 mv_0) (fun xv_1 =>
 some xv_1))))
instance zo3 (p_0 : List (List (List GHop))) (nv_0 : Int) (mv_0 : Int) : Ct pp 25 (q5i p_0 nv_0 mv_0) [.sl 1 (enc p_0), .v (.int .i64 nv_0), .v (.int .i64 mv_0)] fun r => (.sl 11 (enc r)) := ctI Tryz.func25 rfl (by rw [q5i]; exact au1)
def q6f (t_0 : GTime) (u_0 : GTime) (v_0 : List GHop) (rec_1 : Int → Option Bool) : Int → Option Bool :=
 fun t20_1 =>
 (if (decide (t20_1 < (v_0.length : Int))) = true then q9 (idx v_0 t20_1) (fun xv_2 =>
 q9 (qi5 xv_2 t_0) (fun v_5 =>
 (if v_5.2 = true then q9 (qv4 v_5.1 u_0) (fun v_6 =>
 (if v_6 = true then some true
 else rec_1 (i64.wrap (t20_1 + 1))))
 else rec_1 (i64.wrap (t20_1 + 1)))))
 else some false)
def q1q (p_0 : List (List (List GHop))) (nv_0 : Int) (t_0 : GTime) (mv_0 : Int) (u_0 : GTime) : Option Bool :=
 q9 (q5i p_0 nv_0 mv_0) (fun v_0 =>
 u7 (q6f t_0 u_0 v_0) rounds 0)
instance zo4 (p_0 : List (List (List GHop))) (nv_0 : Int) (t_0 : GTime) (mv_0 : Int) (u_0 : GTime) : Ct pp 9 (q1q p_0 nv_0 t_0 mv_0 u_0) [.sl 1 (enc p_0), .v (.int .i64 nv_0), .agg (Row.row t_0), .v (.int .i64 mv_0), .agg (Row.row u_0)] fun r => (.v (.bool r)) := ctK Tryz.func9 rfl (by rw [q1q]) (by
 intro r h F; refine sM ?_; refine jg fun _ Q2 => ?_; refine sg fun _ Q3 => ?_; simp only [go_sem]; refine q1s h fun v_0 h => ?_; simp only [go_sem]; refine q8 Q3 (w9 fun _ Q4 => ?_); refine q0a h [7, 9, 18, 19] (fun t20_1 => ([(20, .v (.int .i64 t20_1))], [(0, .box (Row.row t_0)), (1, .box (Row.row u_0))])) 2 ?_; rintro m_1 t20_1 h _ Q5; rw [q6f] at h; exact au)
def q5l (g_0 : GGraph) (rec_1 : Int → Option Bool) : Int → Option Bool :=
 fun i_1 =>
 (if (decide (i_1 < (g_0.Nodes.length : Int))) = true then q9 (idx g_0.Nodes i_1) (fun xv_2 =>
 (if (decide (100 < (xv_2.Prog.length : Int))) = true then some false
 else rec_1 (i64.wrap (i_1 + 1))))
 else some true)
def q59 (g_0 : GGraph) : Option Bool :=
 (if ((((decide (20 < (g_0.Parent.length : Int))) || (decide (20 < (g_0.Bound.length : Int)))) || (decide (60 < (g_0.Nodes.length : Int)))) || (decide (100 < (g_0.Edges.length : Int)))) = true then some false
 else u7 (q5l g_0) rounds 0)
instance z9j (g_0 : GGraph) : Ct pp 11 (q59 g_0) [.agg (Row.row g_0)] fun r => (.v (.bool r)) := ctK Tryz.func11 rfl (by rw [q59]) (by
 intro r h F; refine sM ?_; refine sg fun _ Q2 => ?_; refine sM ?_; refine sB h (fun _ h => ?_) fun _ h => ?_
 · exact au
 · refine y5 (q8 Q2 (jg fun _ Q5 => ?_)); refine sM ?_; refine w9 fun _ Q7 => ?_; refine q0a h [1] (fun i_1 => ([(3, .v (.int .i64 i_1))], [(0, .box (Row.row g_0))])) 1 ?_; rintro m_1 i_1 h _ Q8; rw [q5l] at h; exact au)
def qm9 (t_0 : GTime) : Option (GTime × Bool) :=
 q9 (q3b t_0) (fun v_0 =>
 (if ((!v_0) || (t_0.D == 4)) = true then some ((⟨0, (⟨0, 0, 0, 0⟩ : Arr4 Int)⟩ : GTime), false)
 else some ((⟨i64.wrap (t_0.D + 1), t_0.C⟩ : GTime), true)))
instance j2p (t_0 : GTime) : Ct pp 129 (qm9 t_0) [.agg (Row.row t_0)] fun r => (.tup [.agg (Row.row r.1), .v (.bool r.2)]) := ctI Tryz.func129 rfl (by rw [qm9]; exact au1)
def qm8 (t_0 : GTime) : Option (GTime × Bool) :=
 q9 (q3b t_0) (fun v_0 =>
 (if ((!v_0) || (t_0.D == 1)) = true then some ((⟨0, (⟨0, 0, 0, 0⟩ : Arr4 Int)⟩ : GTime), false)
 else y9 (0 ≤ i64.wrap (t_0.D - 1) ∧ i64.wrap (t_0.D - 1) < 4) (
 q9 (some (if Int.toNat (i64.wrap (t_0.D - 1)) = 0 then 0 else t_0.C.a0)) (fun w_0 =>
 q9 (some (if Int.toNat (i64.wrap (t_0.D - 1)) = 1 then 0 else t_0.C.a1)) (fun w_1 =>
 q9 (some (if Int.toNat (i64.wrap (t_0.D - 1)) = 2 then 0 else t_0.C.a2)) (fun w_2 =>
 q9 (some (if Int.toNat (i64.wrap (t_0.D - 1)) = 3 then 0 else t_0.C.a3)) (fun w_3 =>
 some ((⟨i64.wrap (t_0.D - 1), (⟨w_0, w_1, w_2, w_3⟩ : Arr4 Int)⟩ : GTime), true))))))))
instance j2o (t_0 : GTime) : Ct pp 130 (qm8 t_0) [.agg (Row.row t_0)] fun r => (.tup [.agg (Row.row r.1), .v (.bool r.2)]) := ctK Tryz.func130 rfl (by rw [qm8]) (by
 intro r h F; refine sM ?_; refine sg fun _ Q2 => ?_; refine sg fun _ Q3 => ?_; simp only [go_sem]; refine q1s h fun v_0 h => ?_; simp only [go_sem]; refine q8 Q3 (sB h (fun _ h => ?_) fun _ h => ?_)
 · exact au
 · refine y5 (q8 Q2 (sM ?_)); refine sg fun _ Q6 => ?_; obtain ⟨F, h⟩ := bG F h; obtain ⟨w_0, ew_0, h⟩ := z8 h; obtain ⟨w_1, ew_1, h⟩ := z8 h; obtain ⟨w_2, ew_2, h⟩ := z8 h; obtain ⟨w_3, ew_3, h⟩ := z8 h; have sf_0 := qs1 (f := (fun y => AV.v (.int .i64 y))) [.v (.int .i64 (i64.wrap (t_0.D - 1)))] [] [t_0.C.a0, t_0.C.a1, t_0.C.a2, t_0.C.a3] [w_0, w_1, w_2, w_3] (Int.toNat (i64.wrap (t_0.D - 1))) 0 (by simp only [List.length_cons, List.length_nil]; omega) (by simp only [List.mapIdx_cons, List.mapIdx_nil, Nat.zero_add, Nat.reduceAdd, Option.some.inj ew_0, Option.some.inj ew_1, Option.some.inj ew_2, Option.some.inj ew_3]); simp only [List.cons_append, List.nil_append, List.append_nil, List.map_cons, List.map_nil, List.length_cons, List.length_nil, Nat.zero_add, Nat.reduceAdd, q5d, Nat.add_assoc, q3y] at sf_0; simp only [go_sem, sf_0, Nat.mul_one, F]; refine ai ?_; exact au)
def qs5 (t_0 : GTime) : Option (GTime × Bool) :=
 q9 (q3b t_0) (fun v_0 =>
 (if v_0 = true then y9 (0 ≤ i64.wrap (t_0.D - 1) ∧ i64.wrap (t_0.D - 1) < 4) (
 q9 (idx ([t_0.C.a0, t_0.C.a1, t_0.C.a2, t_0.C.a3] : List Int) (i64.wrap (t_0.D - 1))) (fun xv_0 =>
 q9 (q7x (i64.wrap (t_0.D - 1))) (fun v_1 =>
 (if (xv_0 == v_1) = true then some ((⟨0, (⟨0, 0, 0, 0⟩ : Arr4 Int)⟩ : GTime), false)
 else y9 (0 ≤ i64.wrap (t_0.D - 1) ∧ i64.wrap (t_0.D - 1) < 4) (
 q9 (idx ([t_0.C.a0, t_0.C.a1, t_0.C.a2, t_0.C.a3] : List Int) (i64.wrap (t_0.D - 1))) (fun xv_1 =>
 y9 (0 ≤ i64.wrap (t_0.D - 1) ∧ i64.wrap (t_0.D - 1) < 4) (
 q9 (some (if Int.toNat (i64.wrap (t_0.D - 1)) = 0 then i64.wrap (xv_1 + 1) else t_0.C.a0)) (fun w_0 =>
 q9 (some (if Int.toNat (i64.wrap (t_0.D - 1)) = 1 then i64.wrap (xv_1 + 1) else t_0.C.a1)) (fun w_1 =>
 q9 (some (if Int.toNat (i64.wrap (t_0.D - 1)) = 2 then i64.wrap (xv_1 + 1) else t_0.C.a2)) (fun w_2 =>
 q9 (some (if Int.toNat (i64.wrap (t_0.D - 1)) = 3 then i64.wrap (xv_1 + 1) else t_0.C.a3)) (fun w_3 =>
 some ((⟨t_0.D, (⟨w_0, w_1, w_2, w_3⟩ : Arr4 Int)⟩ : GTime), true))))))))))))
 else some ((⟨0, (⟨0, 0, 0, 0⟩ : Arr4 Int)⟩ : GTime), false)))
instance j3q (t_0 : GTime) : Ct pp 131 (qs5 t_0) [.agg (Row.row t_0)] fun r => (.tup [.agg (Row.row r.1), .v (.bool r.2)]) := ctK Tryz.func131 rfl (by rw [qs5]) (by
 intro r h F; refine sM ?_; refine sg fun _ Q2 => ?_; refine sg fun _ Q3 => ?_; refine p9 ?_; refine j4u ?_; obtain ⟨v_0, ev_0, h⟩ := z8 h; simp only [go_sem]; refine callq (fun _ => (z1d t_0 v_0 ev_0)) (by rfl) (by rfl) ?_; simp only [go_sem]; rcases hb_0 : v_0 with _ | _
 · replace h := q5g h hb_0; simp only [go_sem, hb_0]; exact au
 ·
  replace h := q5f h hb_0; obtain ⟨F, h⟩ := bG F h; obtain ⟨xv_0, ex0, h⟩ := z8 h; obtain ⟨f0a, f0b, f0c, fxv_0d⟩ := q3x (f := (fun y => AV.v (.int .i64 y))) [.v (.int .i64 t_0.D)] [] ex0; simp only [List.cons_append, List.nil_append, List.append_nil, List.map_cons, List.map_nil, List.length_cons, List.length_nil, Nat.zero_add, Nat.reduceAdd] at f0b f0c fxv_0d; obtain ⟨v_1, ev_1, h⟩ := z8 h; simp only [go_sem, hb_0, f0a, f0b, f0c, fxv_0d, F]; refine ai ?_; simp only [List.getD_eq_getElem?_getD, Nat.mul_one, fxv_0d, Option.map_some, Option.getD_some, true_and]; refine callq (fun _ => (z3x (i64.wrap (t_0.D - 1)) v_1 ev_1)) (by rfl) (by rfl) ?_; simp only [go_sem]; refine q8 Q3 (sB h (fun _ h => ?_) fun _ h => ?_)
  · exact au
  · refine y5 (q8 Q2 (sg fun _ Q6 => ?_)); obtain ⟨F, h⟩ := bG F h; obtain ⟨xv_1, ex1, h⟩ := z8 h; obtain ⟨f1a, f1b, f1c, fxv_1d⟩ := q3x (f := (fun y => AV.v (.int .i64 y))) [.v (.int .i64 t_0.D)] [] ex1; simp only [List.cons_append, List.nil_append, List.append_nil, List.map_cons, List.map_nil, List.length_cons, List.length_nil, Nat.zero_add, Nat.reduceAdd] at f1b f1c fxv_1d; obtain ⟨F, h⟩ := bG F h; obtain ⟨w_0, ew_0, h⟩ := z8 h; obtain ⟨w_1, ew_1, h⟩ := z8 h; obtain ⟨w_2, ew_2, h⟩ := z8 h; obtain ⟨w_3, ew_3, h⟩ := z8 h; have sf_0 := qs1 (f := (fun y => AV.v (.int .i64 y))) [.v (.int .i64 t_0.D)] [] [t_0.C.a0, t_0.C.a1, t_0.C.a2, t_0.C.a3] [w_0, w_1, w_2, w_3] (Int.toNat (i64.wrap (t_0.D - 1))) (i64.wrap (xv_1 + 1)) (by simp only [List.length_cons, List.length_nil]; omega) (by simp only [List.mapIdx_cons, List.mapIdx_nil, Nat.zero_add, Nat.reduceAdd, Option.some.inj ew_0, Option.some.inj ew_1, Option.some.inj ew_2, Option.some.inj ew_3]); simp only [List.cons_append, List.nil_append, List.append_nil, List.map_cons, List.map_nil, List.length_cons, List.length_nil, Nat.zero_add, Nat.reduceAdd, q5d, Nat.add_assoc, q3y] at sf_0; simp only [go_sem, f1a, f1b, f1c, fxv_1d, sf_0, Nat.mul_one, F]; simp only [List.getD_eq_getElem?_getD, Nat.mul_one, fxv_1d, Option.map_some, Option.getD_some, true_and]; simp only [go_sem, f1a, f1b, f1c, fxv_1d, sf_0, Nat.mul_one, List.getD_eq_getElem?_getD, Nat.mul_one, fxv_1d, Option.map_some, Option.getD_some, true_and, F]; refine ai ?_; exact au)
def qe1 (g_0 : GGraph) (node_0 : Int) (t_0 : GTime) : Option (GTime × Bool) :=
 (if ((decide (node_0 < 0)) || (decide ((g_0.Nodes.length : Int) ≤ node_0))) = true then some ((⟨0, (⟨0, 0, 0, 0⟩ : Arr4 Int)⟩ : GTime), false)
 else q9 (q3b t_0) (fun v_0 =>
 (if v_0 = true then q9 (q5q g_0 node_0) (fun v_1 =>
 (if (!(t_0.D == v_1)) = true then some ((⟨0, (⟨0, 0, 0, 0⟩ : Arr4 Int)⟩ : GTime), false)
 else q9 (idx g_0.Nodes node_0) (fun xv_0 =>
 (if (xv_0.Kind == 10) = true then q9 (qm9 t_0) (fun v_2 =>
 some (v_2.1, v_2.2))
 else (if (xv_0.Kind == 11) = true then q9 (qm8 t_0) (fun v_3 =>
 some (v_3.1, v_3.2))
 else (if (xv_0.Kind == 12) = true then y9 (0 ≤ i64.wrap (t_0.D - 1) ∧ i64.wrap (t_0.D - 1) < 4) (
 q9 (idx ([t_0.C.a0, t_0.C.a1, t_0.C.a2, t_0.C.a3] : List Int) (i64.wrap (t_0.D - 1))) (fun xv_1 =>
 q9 (idx g_0.Bound xv_0.Scope) (fun xv_2 =>
 (if (decide (xv_2 ≤ (i64.wrap (xv_1 + 1)))) = true then some ((⟨0, (⟨0, 0, 0, 0⟩ : Arr4 Int)⟩ : GTime), false)
 else q9 (qs5 t_0) (fun v_4 =>
 some (v_4.1, v_4.2))))))
 else some (t_0, true)))))))
 else some ((⟨0, (⟨0, 0, 0, 0⟩ : Arr4 Int)⟩ : GTime), false))))
instance z5i (g_0 : GGraph) (node_0 : Int) (t_0 : GTime) : Ct pp 101 (qe1 g_0 node_0 t_0) [.agg (Row.row g_0), .v (.int .i64 node_0), .agg (Row.row t_0)] fun r => (.tup [.agg (Row.row r.1), .v (.bool r.2)]) := ctK Tryz.func101 rfl (by rw [qe1]) (by
 intro r h F; refine sM ?_; refine sg fun _ Q2 => ?_; refine sg fun _ Q3 => ?_; refine p9 ?_; refine j4u ?_; simp only [go_sem]; rcases hb_0 : ((decide (node_0 < 0)) || (decide ((g_0.Nodes.length : Int) ≤ node_0))) with _ | _
 ·
  replace h := q5g h hb_0; obtain ⟨v_0, ev_0, h⟩ := z8 h; simp only [go_sem, hb_0]; refine callq (fun _ => (z1d t_0 v_0 ev_0)) (by rfl) (by rfl) ?_; simp only [go_sem]; rcases hb_1 : v_0 with _ | _
  · replace h := q5g h hb_1; simp only [go_sem, hb_1]; exact au
  ·
   replace h := q5f h hb_1; obtain ⟨v_1, ev_1, h⟩ := z8 h; simp only [go_sem, hb_1]; refine callq (fun _ => (z3w g_0 node_0 v_1 ev_1)) (by rfl) (by rfl) ?_; simp only [go_sem]; refine q8 Q3 (sB h (fun _ h => ?_) fun _ h => ?_)
   · exact au
   ·
    refine y5 (q8 Q2 (sg fun _ Q6 => ?_)); obtain ⟨xv_0, F, h⟩ := bI F h; simp only [go_sem, F]; refine ai ?_; refine q8 Q6 (sg fun _ Q7 => ?_); refine sM ?_; refine w9 fun _ Q9 => ?_; refine sM ?_; refine sB h (fun _ h => ?_) fun _ h => ?_
    · exact au
    ·
     refine sM ?_; refine sB h (fun _ h => ?_) fun _ h => ?_
     · exact au
     ·
      refine sM ?_; refine sB h (fun _ h => ?_) fun _ h => ?_
      · refine sg fun _ Q15 => ?_; refine sg fun _ Q16 => ?_; refine p9 ?_; refine j4u ?_; obtain ⟨F, h⟩ := bG F h; obtain ⟨xv_1, ex1, h⟩ := z8 h; obtain ⟨f1a, f1b, f1c, fxv_1d⟩ := q3x (f := (fun y => AV.v (.int .i64 y))) [.v (.int .i64 t_0.D)] [] ex1; simp only [List.cons_append, List.nil_append, List.append_nil, List.map_cons, List.map_nil, List.length_cons, List.length_nil, Nat.zero_add, Nat.reduceAdd] at f1b f1c fxv_1d; obtain ⟨xv_2, F, h⟩ := bI F h; simp only [go_sem, f1a, f1b, f1c, fxv_1d, F]; refine ai ?_; simp only [List.getD_eq_getElem?_getD, Nat.mul_one, fxv_1d, Option.map_some, Option.getD_some, true_and]; refine ai ?_; exact au
      · exact au
 · replace h := q5f h hb_0; simp only [go_sem, hb_0]; exact au)
def q84 (xv_0 : Int) : Option Bool :=
 some (!(xv_0 == xv_0))
instance zo6 (xv_0 : Int) : Ct pp 58 (q84 xv_0) [.v (.int .i64 xv_0)] fun r => (.v (.bool r)) := ctI Tryz.func58 rfl (by rw [q84]; exact au1)
def q4j (xv_0 : Int) (y_0 : Int) : Option Int :=
 q9 (q84 xv_0) (fun v_0 =>
 q9 (q84 y_0) (fun v_1 =>
 (if v_0 = true then (if v_1 = true then some 0
 else some (-1))
 else (if v_1 = true then some 1
 else (if (decide (xv_0 < y_0)) = true then some (-1)
 else (if (decide (y_0 < xv_0)) = true then some 1
 else some 0))))))
instance z0z (xv_0 : Int) (y_0 : Int) : Ct pp 23 (q4j xv_0 y_0) [.v (.int .i64 xv_0), .v (.int .i64 y_0)] fun r => (.v (.int .i64 r)) := ctI Tryz.func23 rfl (by rw [q4j]; exact au1)
def q8p (a_0 : GPoint) (b_0 : GPoint) : Option Int :=
 q9 (q4j a_0.Node b_0.Node) (fun v_0 =>
 (if (!(v_0 == 0)) = true then some v_0
 else q9 (ql3 a_0.Time b_0.Time) (fun v_1 =>
 (if v_1 = true then some (-1)
 else q9 (ql3 b_0.Time a_0.Time) (fun v_2 =>
 (if v_2 = true then some 1
 else some 0))))))
instance zz4 (a_0 : GPoint) (b_0 : GPoint) : Ct pp 51 (q8p a_0 b_0) [.agg (Row.row a_0), .agg (Row.row b_0)] fun r => (.v (.int .i64 r)) := ctI Tryz.func51 rfl (by rw [q8p]; exact au1)
def q8y (s_0 : List GPoint) (f_0 : GPoint → Option Bool) (rec_1 : Int → Option Int) : Int → Option Int :=
 fun t8_1 =>
 (if (decide (t8_1 < (s_0.length : Int))) = true then q9 (idx s_0 t8_1) (fun xv_2 =>
 q9 (f_0 xv_2) (fun v_2 =>
 (if v_2 = true then some t8_1
 else rec_1 (i64.wrap (t8_1 + 1)))))
 else some (-1))
def q7d (s_0 : List GPoint) (f_0 : GPoint → Option Bool) : Option Int :=
 u7 (q8y s_0 f_0) rounds 0
theorem qs6 (s_0 : List GPoint) (f_0 : GPoint → Option Bool) (g_f_0 : FuncId) (c_f_0 : List AV) (F_f_0 : q06 c_f_0 = true) (E_f_0 : x8 pp g_f_0 = true) (H_f_0 : ∀ (x0 : GPoint) (r : Bool), f_0 x0 = some r → PureS pp g_f_0 ([.agg (Row.row x0)] ++ c_f_0) 0 (.v (.bool r))) (r : Int) (h : q7d s_0 f_0 = some r) : PureS pp 116 [.sl 6 (enc s_0), .clo g_f_0 c_f_0] 0 (.v (.int .i64 r)) := by
 refine ptI Tryz.func116 rfl ?_; rw [q7d] at h; have F := trivial; refine sM ?_; refine jg fun _ Q2 => ?_; refine sM ?_; refine w9 fun _ Q4 => ?_; refine q0a h [0, 1, 7] (fun t8_1 => ([(8, .v (.int .i64 t8_1))], [])) 0 ?_; rintro m_1 t8_1 h _ Q5; rw [q8y] at h; refine sM ?_; refine sg fun _ Q7 => ?_; refine sB h (fun _ h => ?_) fun _ h => ?_
 ·
  refine y5 (q8 Q7 (sg fun _ Q8 => ?_)); refine w9 fun _ Q9 => ?_; refine sM ?_; refine sg fun _ Q11 => ?_; obtain ⟨xv_2, F, h⟩ := bI F h; obtain ⟨v_2, ev_2, h⟩ := z8 h; simp only [go_sem, E_f_0, F]; refine ai ?_; refine q8j (H_f_0 xv_2 v_2 ev_2) (by rfl) (by simp [go_sem, q06, q0d, F_f_0]) ?_; simp only [go_sem]; refine q8 Q11 (sB h (fun _ h => ?_) fun _ h => ?_)
  · refine sM ?_; refine q05 (q0o Q9 (q0q Q8 (q2t Q5 (q0o Q4 (q0q Q2 ?_))))); simp only [go_sem]; obtain rfl := Option.some.inj h; refine q45 rfl ?_; exact leA
  · refine y5 (q0b Q9 (q8 Q8 ?_)); simp only [go_sem]; refine u6 Q5 ?_; exact nxC _ h [] leA
 · refine q11 (q1g Q7 (q12 Q5 (q0s Q4 (q8 Q2 (sM ?_))))); refine q05 ?_; simp only [go_sem]; obtain rfl := Option.some.inj h; refine q45 rfl ?_; exact leA
def q4l (s_0 : List GPoint) (f_0 : GPoint → Option Bool) : Option Bool :=
 q9 (q7d s_0 f_0) (fun v_0 =>
 some (decide (0 ≤ v_0)))
theorem qn4 (s_0 : List GPoint) (f_0 : GPoint → Option Bool) (g_f_0 : FuncId) (c_f_0 : List AV) (F_f_0 : q06 c_f_0 = true) (E_f_0 : x8 pp g_f_0 = true) (H_f_0 : ∀ (x0 : GPoint) (r : Bool), f_0 x0 = some r → PureS pp g_f_0 ([.agg (Row.row x0)] ++ c_f_0) 0 (.v (.bool r))) (r : Bool) (h : q4l s_0 f_0 = some r) : PureS pp 76 [.sl 6 (enc s_0), .clo g_f_0 c_f_0] 0 (.v (.bool r)) := by
 refine ptI Tryz.func76 rfl ?_; rw [q4l] at h; have F := trivial; refine sM ?_; refine sg fun _ Q2 => ?_; obtain ⟨v_0, ev_0, h⟩ := z8 h; simp only [go_sem]; refine q8j (qs6 s_0 f_0 g_f_0 c_f_0 F_f_0 E_f_0 H_f_0 v_0 ev_0) (by rfl) (by simp [go_sem, q06, q0d, F_f_0]) ?_; simp only [go_sem]; refine q8 Q2 (q05 ?_); simp only [go_sem]; obtain rfl := Option.some.inj h; refine q45 rfl ?_; exact leA
def q76 (q_0 : GPoint) (cap_0 : GPoint) (cap_1 : List (List (List GHop))) : Option Bool :=
 (if ((q_0.Node == cap_0.Node) && ((q_0.Time.D == cap_0.Time.D) && ((q_0.Time.C.a0 == cap_0.Time.C.a0) && ((q_0.Time.C.a1 == cap_0.Time.C.a1) && ((q_0.Time.C.a2 == cap_0.Time.C.a2) && (q_0.Time.C.a3 == cap_0.Time.C.a3)))))) = true then some false
 else q9 (q1q cap_1 q_0.Node q_0.Time cap_0.Node cap_0.Time) (fun v_0 =>
 some v_0))
instance z1i (q_0 : GPoint) (cap_0 : GPoint) (cap_1 : List (List (List GHop))) : Ct pp 77 (q76 q_0 cap_0 cap_1) [.agg (Row.row q_0), .el 6 [(Row.row cap_0)] 0 0, .el 1 [[.sl 1 (enc cap_1)]] 0 0] fun r => (.v (.bool r)) := ctI Tryz.func77 rfl (by rw [q76]; exact au1)
def q57 (table_0 : List (List (List GHop))) (waits_0 : List GPoint) (p_0 : GPoint) : Option Bool :=
 q9 (q4l waits_0 (fun x0_ => q76 x0_ p_0 table_0)) (fun v_0 =>
 some (!v_0))
instance zq0 (table_0 : List (List (List GHop))) (waits_0 : List GPoint) (p_0 : GPoint) : Ct pp 34 (q57 table_0 waits_0 p_0) [.sl 1 (enc table_0), .sl 6 (enc waits_0), .agg (Row.row p_0)] fun r => (.v (.bool r)) := ctK Tryz.func34 rfl (by rw [q57]) (by
 intro r h F; refine sM ?_; refine sg fun _ Q2 => ?_; obtain ⟨v_0, ev_0, h⟩ := z8 h; simp only [go_sem]; refine qi7 (qn4 waits_0 (fun x0_ => q76 x0_ p_0 table_0) 77 [.el 6 [(Row.row p_0)] 0 0, .el 1 [[.sl 1 (enc table_0)]] 0 0] (by rfl) (by kernel_rfl) (fun y0 r_ e_ => z1i y0 p_0 table_0 r_ e_) v_0 ev_0) ?_; simp only [go_sem]; exact au)
def q1l (rv_0 : GWave_runner) (rec_1 : Int × Int → Option (Int × GWave_runner)) : Int × Int → Option (Int × GWave_runner) :=
 fun (best_1, t12_1) =>
 (if (decide (t12_1 < (rv_0.pool.points.length : Int))) = true then q9 (idx rv_0.pool.points t12_1) (fun xv_4 =>
 (if (decide (best_1 < 0)) = true then q9 (q57 rv_0.table rv_0.pool.points xv_4) (fun v_8 =>
 (if v_8 = true then rec_1 (t12_1, i64.wrap (t12_1 + 1))
 else rec_1 (best_1, i64.wrap (t12_1 + 1))))
 else q9 (idx rv_0.pool.points best_1) (fun xv_5 =>
 q9 (q8p xv_4 xv_5) (fun v_6 =>
 (if (decide (v_6 < 0)) = true then q9 (q57 rv_0.table rv_0.pool.points xv_4) (fun v_7 =>
 (if v_7 = true then rec_1 (t12_1, i64.wrap (t12_1 + 1))
 else rec_1 (best_1, i64.wrap (t12_1 + 1))))
 else rec_1 (best_1, i64.wrap (t12_1 + 1)))))))
 else some (best_1, rv_0))
def q0c (rv_0 : GWave_runner) : Option (Int × GWave_runner) :=
 u7 (q1l rv_0) rounds ((-1), 0)
theorem q2u (rv_0 : GWave_runner)  (r : Int × GWave_runner) (h : q0c rv_0 = some r) : DetS pp 18 [.ptr 0 0] [(0, .box [.osl 1 6 (0) (rv_0.pool.points.length), .osl 2 2 (0) (rv_0.pool.in_.length), .sl 1 (enc rv_0.g.Parent), .sl 1 (enc rv_0.g.Bound), .sl 4 (enc rv_0.g.Nodes), .sl 4 (enc rv_0.g.Edges), .sl 1 (enc rv_0.table), .osl 3 6 (0) (rv_0.past.points.length), .osl 4 2 (0) (rv_0.past.in_.length), .v (.int .i64 rv_0.work), .osl 5 8 (0) (rv_0.waves.length), .osl 6 4 (0) (rv_0.outs.length)]), (1, .arr 6 (enc rv_0.pool.points)), (2, .arr 2 (enc rv_0.pool.in_)), (3, .arr 6 (enc rv_0.past.points)), (4, .arr 2 (enc rv_0.past.in_)), (5, .arr 8 (enc rv_0.waves)), (6, .arr 4 (enc rv_0.outs))] 7 (.v (.int .i64 r.1)) [(0, .box [.osl 7 6 (0) (r.2.pool.points.length), .osl 8 2 (0) (r.2.pool.in_.length), .sl 1 (enc r.2.g.Parent), .sl 1 (enc r.2.g.Bound), .sl 4 (enc r.2.g.Nodes), .sl 4 (enc r.2.g.Edges), .sl 1 (enc r.2.table), .osl 9 6 (0) (r.2.past.points.length), .osl 10 2 (0) (r.2.past.in_.length), .v (.int .i64 r.2.work), .osl 11 8 (0) (r.2.waves.length), .osl 12 4 (0) (r.2.outs.length)]), (7, .arr 6 (enc r.2.pool.points)), (8, .arr 2 (enc r.2.pool.in_)), (9, .arr 6 (enc r.2.past.points)), (10, .arr 2 (enc r.2.past.in_)), (11, .arr 8 (enc r.2.waves)), (12, .arr 4 (enc r.2.outs))] 13 := by
 refine dtI Tryz.func18 rfl ?_; rw [q0c] at h; have F := trivial; refine sM ?_; refine sM ?_; refine jg fun _ Q3 => ?_; refine sM ?_; refine w9 fun _ Q5 => ?_; refine q0a h [0, 10, 11] (fun x => ([(3, .v (.int .i64 x.1)), (12, .v (.int .i64 x.2))], [(0, .box [.osl 1 6 (0) (rv_0.pool.points.length), .osl 2 2 (0) (rv_0.pool.in_.length), .sl 1 (enc rv_0.g.Parent), .sl 1 (enc rv_0.g.Bound), .sl 4 (enc rv_0.g.Nodes), .sl 4 (enc rv_0.g.Edges), .sl 1 (enc rv_0.table), .osl 3 6 (0) (rv_0.past.points.length), .osl 4 2 (0) (rv_0.past.in_.length), .v (.int .i64 rv_0.work), .osl 5 8 (0) (rv_0.waves.length), .osl 6 4 (0) (rv_0.outs.length)]), (1, .arr 6 (enc rv_0.pool.points)), (2, .arr 2 (enc rv_0.pool.in_)), (3, .arr 6 (enc rv_0.past.points)), (4, .arr 2 (enc rv_0.past.in_)), (5, .arr 8 (enc rv_0.waves)), (6, .arr 4 (enc rv_0.outs))])) 7 ?_; rintro m_1 ⟨best_1, t12_1⟩ h _ Q6; rw [q1l] at h; exact au
def qe7 (nv_0 : Int) : Option Bool :=
 some ((decide ((-2147483648) ≤ nv_0)) && (decide (nv_0 ≤ 2147483648)))
instance j3s (nv_0 : Int) : Ct pp 138 (qe7 nv_0) [.v (.int .i64 nv_0)] fun r => (.v (.bool r)) := ctI Tryz.func138 rfl (by rw [qe7]; exact au1)
def q6t (xv_0 : Int) : Option Bool :=
 some (!(xv_0 == xv_0))
instance zk1 (xv_0 : Int) : Ct pp 160 (q6t xv_0) [.v (.int .i64 xv_0)] fun r => (.v (.bool r)) := ctI Tryz.func160 rfl (by rw [q6t]; exact au1)
def q4s (xv_0 : Int) (y_0 : Int) : Option Int :=
 q9 (q6t xv_0) (fun v_0 =>
 q9 (q6t y_0) (fun v_1 =>
 (if v_0 = true then (if v_1 = true then some 0
 else some (-1))
 else (if v_1 = true then some 1
 else (if (decide (xv_0 < y_0)) = true then some (-1)
 else (if (decide (y_0 < xv_0)) = true then some 1
 else some 0))))))
instance qz6 (xv_0 : Int) (y_0 : Int) : Ct pp 152 (q4s xv_0 y_0) [.v (.int .i64 xv_0), .v (.int .i64 y_0)] fun r => (.v (.int .i64 r)) := ctI Tryz.func152 rfl (by rw [q4s]; exact au1)
def qb7 (vals_0 : List Int) (rec_1 : Int → Option Int) : Int → Option Int :=
 fun t8_1 =>
 (if (decide (t8_1 < (vals_0.length : Int))) = true then q9 (idx vals_0 t8_1) (fun xv_2 =>
 (if (!(xv_2 == 0)) = true then some xv_2
 else rec_1 (i64.wrap (t8_1 + 1))))
 else some 0)
def q8u (vals_0 : List Int) : Option Int :=
 u7 (qb7 vals_0) rounds 0
instance qy4 (vals_0 : List Int) : Ct pp 22 (q8u vals_0) [.sl 1 (enc vals_0)] fun r => (.v (.int .i64 r)) := ctK Tryz.func22 rfl (by rw [q8u]) (by
 intro r h F; refine sM ?_; refine sM ?_; refine jg fun _ Q3 => ?_; refine sM ?_; refine w9 fun _ Q5 => ?_; refine q0a h [3, 6, 7] (fun t8_1 => ([(8, .v (.int .i64 t8_1))], [])) 0 ?_; rintro m_1 t8_1 h _ Q6; rw [qb7] at h; exact au)
def qa9 (a_0 : GRec) (b_0 : GRec) : Option Int :=
 q9 (q4s a_0.K b_0.K) (fun v_0 =>
 q9 (q4s a_0.V b_0.V) (fun v_1 =>
 q9 (q8u ([v_0, v_1] : List Int)) (fun v_2 =>
 some v_2)))
instance j1w (a_0 : GRec) (b_0 : GRec) : Ct pp 142 (qa9 a_0 b_0) [.agg (Row.row a_0), .agg (Row.row b_0)] fun r => (.v (.int .i64 r)) := ctK Tryz.func142 rfl (by rw [qa9]) (by
 intro r h F; refine sM ?_; refine sg fun _ Q2 => ?_; refine p9 ?_; refine j4u ?_; obtain ⟨v_0, ev_0, h⟩ := z8 h; simp only [go_sem]; refine callq (fun _ => (qz6 a_0.K b_0.K v_0 ev_0)) (by rfl) (by rfl) ?_; simp only [go_sem]; refine q1s h fun v_1 h => ?_; have rf_0 : [[.v (.int .i64 v_0)], [.v (.int .i64 v_1)]] = enc ([v_0, v_1] : List Int) := by rfl
 obtain ⟨v_2, ev_2, h⟩ := z8 h; simp only [go_sem]; simp only [rf_0]; refine qi7 (qy4 ([v_0, v_1] : List Int) v_2 ev_2) ?_; simp only [go_sem]; exact au)
def qo1 (a_0 : GRec) (b_0 : GRec) : Option Bool :=
 q9 (qa9 a_0 b_0) (fun v_0 =>
 some (decide (v_0 < 0)))
instance j2v (a_0 : GRec) (b_0 : GRec) : Ct pp 139 (qo1 a_0 b_0) [.agg (Row.row a_0), .agg (Row.row b_0)] fun r => (.v (.bool r)) := ctI Tryz.func139 rfl (by rw [qo1]; exact au1)
def qg9 (b_0 : List GItem) (rec_1 : Int → Option Bool) : Int → Option Bool :=
 fun t7_1 =>
 (if (decide (t7_1 < (b_0.length : Int))) = true then q9 (idx b_0 t7_1) (fun xv_4 =>
 (if (xv_4.N == 0) = true then some false
 else q9 (qe7 xv_4.N) (fun v_4 =>
 (if v_4 = true then (if (decide (0 < t7_1)) = true then q9 (idx b_0 (i64.wrap (t7_1 - 1))) (fun xv_5 =>
 q9 (qo1 xv_5.Rec xv_4.Rec) (fun v_5 =>
 (if (!v_5) = true then some false
 else rec_1 (i64.wrap (t7_1 + 1)))))
 else rec_1 (i64.wrap (t7_1 + 1)))
 else some false))))
 else some true)
def q69 (b_0 : List GItem) : Option Bool :=
 u7 (qg9 b_0) rounds 0
instance j1y (b_0 : List GItem) : Ct pp 118 (q69 b_0) [.sl 3 (enc b_0)] fun r => (.v (.bool r)) := ctK Tryz.func118 rfl (by rw [q69]) (by
 intro r h F; refine sM ?_; refine jg fun _ Q2 => ?_; refine sM ?_; refine w9 fun _ Q4 => ?_; refine q0a h [0, 5, 6] (fun t7_1 => ([(7, .v (.int .i64 t7_1))], [])) 0 ?_; rintro m_1 t7_1 h _ Q5; rw [qg9] at h; exact au)
def q3c (xv_0 : List GItem) (target_0 : GRec) (cmp_0 : GItem → GRec → Option Int) (i_2 : Int) : Option (Int × Bool) :=
 (if (decide (i_2 < (xv_0.length : Int))) = true then q9 (idx xv_0 i_2) (fun xv_4 =>
 q9 (cmp_0 xv_4 target_0) (fun v_3 =>
 some (i_2, (v_3 == 0))))
 else some (i_2, false))
def q55 (xv_0 : List GItem) (target_0 : GRec) (cmp_0 : GItem → GRec → Option Int) (rec_2 : Int × Int → Option (Int × Bool)) : Int × Int → Option (Int × Bool) :=
 fun (i_4, j_3) =>
 (if (decide (i_4 < j_3)) = true then q9 (idx xv_0 (i64.wrap (q1x .u64 (IntKind.u64.wrap (i64.wrap (i_4 + j_3))) 1))) (fun xv_7 =>
 q9 (cmp_0 xv_7 target_0) (fun v_6 =>
 (if (decide (v_6 < 0)) = true then rec_2 (i64.wrap ((i64.wrap (q1x .u64 (IntKind.u64.wrap (i64.wrap (i_4 + j_3))) 1)) + 1), j_3)
 else rec_2 (i_4, i64.wrap (q1x .u64 (IntKind.u64.wrap (i64.wrap (i_4 + j_3))) 1)))))
 else q3c xv_0 target_0 cmp_0 i_4)
def q2q (xv_0 : List GItem) (target_0 : GRec) (cmp_0 : GItem → GRec → Option Int) : Option (Int × Bool) :=
 u7 (q55 xv_0 target_0 cmp_0) rounds (0, (xv_0.length : Int))
theorem qk9 (xv_0 : List GItem) (target_0 : GRec) (cmp_0 : GItem → GRec → Option Int) (g_cmp_0 : FuncId) (c_cmp_0 : List AV) (F_cmp_0 : q06 c_cmp_0 = true) (E_cmp_0 : x8 pp g_cmp_0 = true) (H_cmp_0 : ∀ (x0 : GItem) (x1 : GRec) (r : Int), cmp_0 x0 x1 = some r → PureS pp g_cmp_0 ([.agg (Row.row x0), .agg (Row.row x1)] ++ c_cmp_0) 0 (.v (.int .i64 r))) (r : Int × Bool) (h : q2q xv_0 target_0 cmp_0 = some r) : PureS pp 140 [.sl 3 (enc xv_0), .agg (Row.row target_0), .clo g_cmp_0 c_cmp_0] 0 (.tup [.v (.int .i64 r.1), .v (.bool r.2)]) := by
 refine ptI Tryz.func140 rfl ?_; rw [q2q] at h; have F := trivial; refine sM ?_; refine sM ?_; refine sM ?_; refine q2s (fun (i_2 : Int) => q3c xv_0 target_0 cmp_0 i_2 = some r) [0, 2, 4, 8] (fun i_2 => ([(9, .v (.int .i64 i_2))], [(0, .box (Row.row target_0))])) 1 ?_ ?_
 ·
  intro _ Q5; refine w9 fun _ Q6 => ?_; refine q0a h [0, 2, 4, 8] (fun x => ([(9, .v (.int .i64 x.1)), (10, .v (.int .i64 x.2))], [(0, .box (Row.row target_0))])) 1 ?_; rintro m_2 ⟨i_4, j_3⟩ h _ Q7; rw [q55] at h; refine sg fun _ Q8 => ?_; refine sM ?_; refine sB h (fun _ h => ?_) fun _ h => ?_
  ·
   refine y5 (q8 Q8 (w9 fun _ Q10 => ?_)); refine sM ?_; refine sg fun _ Q12 => ?_; refine p9 ?_; refine j4u ?_; obtain ⟨xv_7, F, h⟩ := bI F h; obtain ⟨v_6, ev_6, h⟩ := z8 h; simp only [go_sem, E_cmp_0, F]; refine ai ?_; refine q8j (H_cmp_0 xv_7 target_0 v_6 ev_6) (by rfl) (by simp [go_sem, q06, q0d, F_cmp_0]) ?_; simp only [go_sem]; refine q8 Q12 (sB h (fun _ h => ?_) fun _ h => ?_)
   · simp only [go_sem]; refine q0b Q10 (u6 Q7 ?_); exact nxC _ h [some 0] leA
   · simp only [go_sem]; refine q0b Q10 (u6 Q7 ?_); exact nxC _ h [some 0] leA
  · refine q11 (q1g Q8 (q12 Q7 (q0s Q6 (u6 Q5 (⟨i_4, [some 0], ?_, h⟩))))); exact leA
 ·
  rintro i_2 h
  try dsimp only at h
  rw [q3c] at h; refine sg fun _ Q4 => ?_; refine p9 ?_; refine j4u ?_; simp only [go_sem]; rcases hb_6 : (decide (i_2 < (xv_0.length : Int))) with _ | _
  · replace h := q5g h hb_6; simp only [go_sem, hb_6]; refine q8 Q4 (q05 ?_); simp only [go_sem]; obtain rfl := Option.some.inj h; refine q45 rfl ?_; exact leA
  · replace h := q5f h hb_6; obtain ⟨xv_4, F, h⟩ := bI F h; obtain ⟨v_3, ev_3, h⟩ := z8 h; simp only [go_sem, hb_6, E_cmp_0, F]; refine ai ?_; refine ai ?_; refine callq (fun _ => (H_cmp_0 xv_4 target_0 v_3 ev_3)) (by rfl) (by simp [go_sem, q06, q0d, F_cmp_0]) ?_; simp only [go_sem]; refine q8 Q4 (q05 ?_); simp only [go_sem]; obtain rfl := Option.some.inj h; refine q45 rfl ?_; exact leA
def q8c (xv_0 : GItem) (rv_0 : GRec) : Option Int :=
 q9 (qa9 xv_0.Rec rv_0) (fun v_0 =>
 some v_0)
instance z6f (xv_0 : GItem) (rv_0 : GRec) : Ct pp 141 (q8c xv_0 rv_0) [.agg (Row.row xv_0), .agg (Row.row rv_0)] fun r => (.v (.int .i64 r)) := ctI Tryz.func141 rfl (by rw [q8c]; exact au1)
def q3m (s_0 : List GItem) : Option (List GItem) :=
 y9 ((List.length ([] : List GItem) + s_0.length) * 24 ≤ 140737488355328) (
 some (([] : List GItem) ++ s_0))
theorem q7s (s_0 : List GItem)  (r : List GItem) (h : q3m s_0 = some r) : DetS pp 117 [.sl 3 (enc s_0)] [] 0 (.osl 0 3 (0) (r.length)) [(0, .arr 3 (enc r))] 1 := by
 refine dtI Tryz.func117 rfl ?_; rw [q3m] at h; have F := trivial; refine sM ?_; refine sg fun _ Q2 => ?_; refine sg fun _ Q3 => ?_; simp only [go_sem]; intro nb_0 hnb_0; rcases nb_0 with _ | _
 ·
  refine q8 Q3 (j6h ?_); refine y5 (q8 Q2 (sg fun _ Q4 => ?_)); obtain ⟨g_0, h⟩ := q0r h; have F := And.intro F g_0; simp only [List.length_cons, List.length_nil, Nat.zero_add, List.length_append] at g_0; have rf_0 : enc ([] : List GItem) ++ enc s_0 = enc (([] : List GItem) ++ s_0) := by exact (q3h ([] : List GItem) s_0).symm
  simp only [go_sem, g_0, rf_0]; exact au
 ·
  have hE_nb_0 : s_0 = [] := by cases hq : (s_0) with | nil => rfl | cons y ys => exact absurd (hnb_0 (by rw [hq]; simp [enc])) (by simp)
  simp only [hE_nb_0] at h; exact au
instance zc9 (s_0 : List GItem) : Ct pp 117 (q3m s_0) [.sl 3 (enc s_0)] fun r => (.sl 3 (enc r)) := ⟨fun r h => (q7s s_0  r h).pure leA⟩
def q3n (x_0 : List GItem) (i_0 : Int) (v_0 : List GItem) : Option (List GItem) := z6b 24 x_0 i_0 v_0
theorem qh5 : InsLay pp (z5c 143 153 154 0 3 4 73 74) 3 24 (.agg #[.int .i64 0, .int .i64 0, .int .i64 0] : Value) := { mixed := by kernel_rfl, t0 := Tryz.underlying0, a0 := Tryz.isAgg0, z0 := Tryz.sizeOf0, v0 := Tryz.zeroValue0, t3 := Tryz.underlying3, a3 := Tryz.isAgg3, z3 := Tryz.sizeOf3, v3 := Tryz.zeroValue3, t4 := Tryz.underlying4, a4 := Tryz.isAgg4, z4 := Tryz.sizeOf4, v4 := Tryz.zeroValue4, t24 := Tryz.underlying74, a24 := Tryz.isAgg74, z24 := Tryz.sizeOf74, v24 := Tryz.zeroValue74, z9 := Tryz.sizeOf73, i9 := zf6 (by kernel_rfl), f22 := ⟨"slices.Insert[[]backwash/api.Item,backwash/api.Item]", by decide, by kernel_rfl⟩, ov := ⟨_, Tryz.func153, by kernel_rfl, by kernel_rfl, by kernel_rfl, by kernel_rfl⟩ }
theorem qh6 (x_0 : List GItem) (i_0 : Int) (v_0 : List GItem) (r : List GItem) (h : q3n x_0 i_0 v_0 = some r) : DetS pp 143 [.osl 0 3 0 (x_0.length), .v (.int .i64 i_0), .osl 1 3 0 (v_0.length)] [(0, .arr 3 (enc x_0)), (1, .arr 3 (enc v_0))] 2 (.osl 2 3 0 (r.length)) [(2, .arr 3 (enc r))] 3 :=
  zj5 qh5 (by kernel_rfl) (by kernel_rfl) (by decide) (by rfl) (by decide) rfl (fun _ => rfl) h
end Go.Proofs.YtghbgjnmccjhdaaGreat
