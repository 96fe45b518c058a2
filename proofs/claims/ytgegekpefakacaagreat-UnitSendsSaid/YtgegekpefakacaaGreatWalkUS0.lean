/-
  What functions of the program compute, each told as a plain function that may give nothing, with the proof that the code does so. No condition beyond those that each theorem names.
-/
import Derived.Test.YtgegekpefakacaaGreatLibD
import Derived.Test.YtgegekpefakacaaGreatProg
import Derived.Test.YtgegekpefakacaaGreatLibI
set_option linter.unusedSimpArgs false
set_option linter.unusedVariables false
set_option linter.unusedSectionVars false
set_option maxHeartbeats 2000000
set_option maxRecDepth 100000
namespace Go.Proofs.YtgegekpefakacaaGreat
open Go Go.RowKit
open Go.IntKind (i64)
noncomputable abbrev pp : Program := Tryz.prog
@[reducible] def tyF (P : Program) (t s : Nat) (a : Bool) (b : Nat) (n : List (Option Nat)) (r : Option (Nat × Nat)) (z : Option (List Value)) : Prop := szT P t = s ∧ q0x P t = true ∧ q4i P t = a ∧ q1i P t = b ∧ q6g P t = n ∧ qj3 P t = r ∧ q1j P t = z
@[go_sem] theorem jd6 : tyF pp 2 1 false 8 [none] none (some [.int .i64 0]) ∧ (qv9 pp 2 = some .i64) ∧ tyF pp 3 1 false 8 [none] none (some [.int .i64 0]) ∧ (qv9 pp 3 = some .i64) ∧ tyF pp 4 1 false 1 [none] none (some [.bool false]) ∧ (Tryz.prog.underlying 4 = some .bool) ∧ tyF pp 22 1 false 24 [some 1] none (some [.slice none 0 0]) ∧ (sliceT pp 22 = some 3) ∧ tyF pp 23 1 false 24 [some 4] none (some [.slice none 0 0]) ∧ (sliceT pp 23 = some 61) ∧ tyF pp 24 1 false 24 [some 4] none (some [.slice none 0 0]) ∧ (sliceT pp 24 = some 54) ∧ tyF pp 26 4 true 96 [some 1, some 1, some 4, some 4] none (some [.slice none 0 0, .slice none 0 0, .slice none 0 0, .slice none 0 0]) ∧ (q0a pp 26 0 = some (0, 22)) ∧ (q0a pp 26 1 = some (1, 22)) ∧ (q0a pp 26 2 = some (2, 23)) ∧ (q0a pp 26 3 = some (3, 24)) ∧ (q34 pp 26 = some [(0, 1), (1, 1), (2, 1), (3, 1)]) := by (repeat' apply And.intro) <;> kernel_rfl
@[go_sem] theorem jb3 : tyF pp 27 1 false 24 [some 1] none (some [.slice none 0 0]) ∧ (sliceT pp 27 = some 70) ∧ tyF pp 28 2 true 16 [none, none] (some (2, 3)) (some [.int .i64 0, .int .i64 0]) ∧ (q34 pp 28 = some [(0, 1), (1, 1)]) ∧ tyF pp 29 1 false 24 [some 1] none (some [.slice none 0 0]) ∧ (sliceT pp 29 = some 71) ∧ tyF pp 31 10 true 112 [none, some 1, none, none, none, none, none, some 1, none, none] none (some [.int .i64 0, .slice none 0 0, .int .i64 0, .int .i64 0, .int .i64 0, .int .i64 0, .int .i64 0, .slice none 0 0, .int .i64 0, .int .i64 0]) ∧ (q0a pp 31 0 = some (0, 3)) ∧ (q0a pp 31 1 = some (1, 27)) ∧ (q0a pp 31 2 = some (2, 3)) ∧ (q0a pp 31 3 = some (3, 28)) ∧ (q0a pp 31 4 = some (5, 28)) ∧ (q0a pp 31 5 = some (7, 29)) ∧ (q0a pp 31 6 = some (8, 3)) ∧ (q0a pp 31 7 = some (9, 3)) ∧ (q34 pp 31 = some [(0, 1), (1, 1), (2, 1), (3, 2), (5, 2), (7, 1), (8, 1), (9, 1)]) ∧ tyF pp 32 4 true 32 [none, none, none, none] (some (4, 3)) (some [.int .i64 0, .int .i64 0, .int .i64 0, .int .i64 0]) ∧ (q34 pp 32 = some [(0, 1), (1, 1), (2, 1), (3, 1)]) ∧ tyF pp 34 5 true 40 [none, none, none, none, none] none (some [.int .i64 0, .int .i64 0, .int .i64 0, .int .i64 0, .int .i64 0]) ∧ (q0a pp 34 0 = some (0, 3)) ∧ (q0a pp 34 1 = some (1, 32)) ∧ (q34 pp 34 = some [(0, 1), (1, 4)]) ∧ (szT pp 36 = 6) ∧ (q0x pp 36 = true) := by (repeat' apply And.intro) <;> kernel_rfl
@[go_sem] theorem jb2 : (q4i pp 36 = true) ∧ (q1i pp 36 = 48) ∧ (q6g pp 36 = [none, none, none, none, none, none]) ∧ (qj3 pp 36 = none) ∧ (q0a pp 36 0 = some (0, 3)) ∧ (q0a pp 36 1 = some (1, 34)) ∧ (q34 pp 36 = some [(0, 1), (1, 5)]) ∧ (q1j pp 36 = some [.int .i64 0, .int .i64 0, .int .i64 0, .int .i64 0, .int .i64 0, .int .i64 0]) ∧ tyF pp 40 1 false 24 [some 11] none (some [.slice none 0 0]) ∧ (sliceT pp 40 = some 52) ∧ tyF pp 45 1 false 24 [some 1] none (some [.slice none 0 0]) ∧ (sliceT pp 45 = some 96) ∧ tyF pp 48 2 true 16 [none, none] none (some [.int .i64 0, .int .i64 0]) ∧ (q0a pp 48 0 = some (0, 2)) ∧ (q0a pp 48 1 = some (1, 2)) ∧ (q34 pp 48 = some [(0, 1), (1, 1)]) ∧ tyF pp 50 10 true 80 [none, none, none, none, none, none, none, none, none, none] none (some [.int .i64 0, .int .i64 0, .int .i64 0, .int .i64 0, .int .i64 0, .int .i64 0, .int .i64 0, .int .i64 0, .int .i64 0, .int .i64 0]) ∧ (q0a pp 50 0 = some (0, 3)) ∧ (q0a pp 50 1 = some (1, 34)) ∧ (q0a pp 50 2 = some (6, 48)) ∧ (q0a pp 50 3 = some (8, 3)) ∧ (q0a pp 50 4 = some (9, 3)) ∧ (q34 pp 50 = some [(0, 1), (1, 5), (6, 2), (8, 1), (9, 1)]) ∧ tyF pp 52 11 true 88 [none, none, none, none, none, none, none, none, none, none, none] none (some [.int .i64 0, .int .i64 0, .int .i64 0, .int .i64 0, .int .i64 0, .int .i64 0, .int .i64 0, .int .i64 0, .int .i64 0, .int .i64 0, .int .i64 0]) ∧ (q0a pp 52 0 = some (0, 3)) ∧ (q0a pp 52 1 = some (1, 50)) ∧ (q34 pp 52 = some [(0, 1), (1, 10)]) ∧ (szT pp 54 = 4) ∧ (q0x pp 54 = true) ∧ (q4i pp 54 = true) := by (repeat' apply And.intro) <;> kernel_rfl
@[go_sem] theorem jb1 : (q1i pp 54 = 32) ∧ (q6g pp 54 = [none, none, none, none]) ∧ (qj3 pp 54 = none) ∧ (q0a pp 54 0 = some (0, 3)) ∧ (q0a pp 54 1 = some (1, 3)) ∧ (q0a pp 54 2 = some (2, 3)) ∧ (q0a pp 54 3 = some (3, 4)) ∧ (q34 pp 54 = some [(0, 1), (1, 1), (2, 1), (3, 1)]) ∧ (q1j pp 54 = some [.int .i64 0, .int .i64 0, .int .i64 0, .bool false]) ∧ tyF pp 56 1 false 24 [some 6] none (some [.slice none 0 0]) ∧ (sliceT pp 56 = some 36) ∧ tyF pp 59 1 false 24 [some 2] none (some [.slice none 0 0]) ∧ (sliceT pp 59 = some 190) ∧ tyF pp 61 4 true 48 [none, none, none, some 2] none (some [.int .i64 0, .int .i64 0, .int .i64 0, .slice none 0 0]) ∧ (q0a pp 61 0 = some (0, 3)) ∧ (q0a pp 61 1 = some (1, 3)) ∧ (q0a pp 61 2 = some (2, 2)) ∧ (q0a pp 61 3 = some (3, 59)) ∧ (q34 pp 61 = some [(0, 1), (1, 1), (2, 1), (3, 1)]) ∧ tyF pp 66 4 true 32 [none, none, none, none] none (some [.int .i64 0, .int .i64 0, .int .i64 0, .int .i64 0]) ∧ (q0a pp 66 0 = some (0, 3)) ∧ (q0a pp 66 1 = some (1, 3)) ∧ (q0a pp 66 2 = some (2, 48)) ∧ (q34 pp 66 = some [(0, 1), (1, 1), (2, 2)]) ∧ tyF pp 69 1 false 8 [none] none (some [.nilFunc]) ∧ (szT pp 70 = 1) ∧ (q0x pp 70 = true) ∧ (q4i pp 70 = false) ∧ (q1i pp 70 = 24) ∧ (sliceT pp 70 = some 116) := by (repeat' apply And.intro) <;> kernel_rfl
@[go_sem] theorem jb0 : (q6g pp 70 = [some 10]) ∧ (qj3 pp 70 = none) ∧ (q1j pp 70 = some [.slice none 0 0]) ∧ tyF pp 71 1 false 24 [some 5] none (some [.slice none 0 0]) ∧ (sliceT pp 71 = some 34) ∧ tyF pp 73 1 false 24 [some 3] none (some [.slice none 0 0]) ∧ (sliceT pp 73 = some 135) ∧ tyF pp 76 1 false 8 [none] none (some [.pointer none]) ∧ tyF pp 79 12 true 144 [none, some 1, none, none, none, none, none, some 1, none, none, some 11, none] none (some [.int .i64 0, .slice none 0 0, .int .i64 0, .int .i64 0, .int .i64 0, .int .i64 0, .int .i64 0, .slice none 0 0, .int .i64 0, .int .i64 0, .slice none 0 0, .int .i64 0]) ∧ (q0a pp 79 0 = some (0, 31)) ∧ (q0a pp 79 1 = some (10, 40)) ∧ (q0a pp 79 2 = some (11, 3)) ∧ (q34 pp 79 = some [(0, 10), (10, 1), (11, 1)]) ∧ tyF pp 88 1 false 8 [none] none (some [.nilFunc]) ∧ tyF pp 89 1 false 8 [none] none (some [.int .i64 0]) ∧ (qv9 pp 89 = some .i64) ∧ tyF pp 92 1 false 24 [some 11] none (some [.slice none 0 0]) ∧ (sliceT pp 92 = some 94) := by (repeat' apply And.intro) <;> kernel_rfl
@[go_sem] theorem ja9 : tyF pp 94 11 true 88 [none, none, none, none, none, none, none, none, none, none, none] none (some [.int .i64 0, .int .i64 0, .int .i64 0, .int .i64 0, .int .i64 0, .int .i64 0, .int .i64 0, .int .i64 0, .int .i64 0, .int .i64 0, .int .i64 0]) ∧ (q0a pp 94 0 = some (0, 3)) ∧ (q0a pp 94 1 = some (1, 3)) ∧ (q0a pp 94 2 = some (2, 3)) ∧ (q0a pp 94 3 = some (3, 32)) ∧ (q0a pp 94 4 = some (7, 32)) ∧ (q34 pp 94 = some [(0, 1), (1, 1), (2, 1), (3, 4), (7, 4)]) ∧ tyF pp 96 1 false 24 [some 1] none (some [.slice none 0 0]) ∧ (sliceT pp 96 = some 92) ∧ tyF pp 108 1 false 8 [none] none (some [.nilFunc]) ∧ tyF pp 112 1 false 24 [some 1] none (some [.slice none 0 0]) ∧ (sliceT pp 112 = some 4) ∧ tyF pp 114 2 true 48 [some 3, some 3] (some (2, 73)) (some [.slice none 0 0, .slice none 0 0]) ∧ (q34 pp 114 = some [(0, 1), (1, 1)]) ∧ tyF pp 116 10 true 120 [none, none, none, none, none, some 3, some 3, some 3, none, none] none (some [.int .i64 0, .int .i64 0, .int .i64 0, .int .i64 0, .int .i64 0, .slice none 0 0, .slice none 0 0, .slice none 0 0, .bool false, .bool false]) ∧ (q0a pp 116 0 = some (0, 34)) ∧ (q0a pp 116 1 = some (5, 114)) ∧ (q0a pp 116 2 = some (7, 73)) ∧ (q0a pp 116 3 = some (8, 4)) ∧ (q0a pp 116 4 = some (9, 4)) ∧ (q34 pp 116 = some [(0, 5), (5, 2), (7, 1), (8, 1), (9, 1)]) ∧ (szT pp 121 = 1) ∧ (q0x pp 121 = true) ∧ (q4i pp 121 = false) := by (repeat' apply And.intro) <;> kernel_rfl
@[go_sem] theorem ja8 : (q1i pp 121 = 24) ∧ (sliceT pp 121 = some 73) ∧ (q6g pp 121 = [some 1]) ∧ (qj3 pp 121 = none) ∧ (q1j pp 121 = some [.slice none 0 0]) ∧ tyF pp 132 1 false 8 [none] none (some [.nilFunc]) ∧ tyF pp 135 3 true 24 [none, none, none] none (some [.int .i64 0, .int .i64 0, .int .i64 0]) ∧ (q0a pp 135 0 = some (0, 48)) ∧ (q0a pp 135 1 = some (2, 3)) ∧ (q34 pp 135 = some [(0, 2), (2, 1)]) ∧ tyF pp 156 16 true 128 [none, none, none, none, none, none, none, none, none, none, none, none, none, none, none, none] (some (16, 3)) (some [.int .i64 0, .int .i64 0, .int .i64 0, .int .i64 0, .int .i64 0, .int .i64 0, .int .i64 0, .int .i64 0, .int .i64 0, .int .i64 0, .int .i64 0, .int .i64 0, .int .i64 0, .int .i64 0, .int .i64 0, .int .i64 0]) ∧ (q34 pp 156 = some [(0, 1), (1, 1), (2, 1), (3, 1), (4, 1), (5, 1), (6, 1), (7, 1), (8, 1), (9, 1), (10, 1), (11, 1), (12, 1), (13, 1), (14, 1), (15, 1)]) ∧ tyF pp 161 1 false 8 [none] none (some [.pointer none]) ∧ tyF pp 163 2 true 32 [some 3, none] none (some [.slice none 0 0, .int .i64 0]) ∧ (q0a pp 163 0 = some (0, 73)) ∧ (q0a pp 163 1 = some (1, 3)) ∧ (q34 pp 163 = some [(0, 1), (1, 1)]) ∧ tyF pp 170 1 false 8 [none] none (some [.nilFunc]) ∧ (szT pp 175 = 1) ∧ (q0x pp 175 = true) ∧ (q4i pp 175 = false) ∧ (q1i pp 175 = 8) ∧ (q6g pp 175 = [none]) ∧ (qj3 pp 175 = none) := by (repeat' apply And.intro) <;> kernel_rfl
@[go_sem] theorem ja7 : (q1j pp 175 = some [.nilFunc]) ∧ tyF pp 181 1 false 8 [none] none (some [.nilFunc]) ∧ tyF pp 190 2 true 16 [none, none] none (some [.int .i64 0, .int .i64 0]) ∧ (q0a pp 190 0 = some (0, 3)) ∧ (q0a pp 190 1 = some (1, 2)) ∧ (q34 pp 190 = some [(0, 1), (1, 1)]) ∧ tyF pp 192 1 false 24 [some 2] none (some [.slice none 0 0]) ∧ (sliceT pp 192 = some 48) ∧ tyF pp 196 1 false 8 [none] none (some [.nilFunc]) ∧ tyF pp 197 1 false 8 [none] none (some [.int .u64 0]) ∧ (qv9 pp 197 = some .u64) ∧ tyF pp 199 2 true 16 [none, none] none (some [.int .i64 0, .int .u64 0]) ∧ (q0a pp 199 0 = some (0, 2)) ∧ (q0a pp 199 1 = some (1, 197)) ∧ (q34 pp 199 = some [(0, 1), (1, 1)]) ∧ tyF pp 202 1 false 8 [none] none (some [.int .u64 0]) ∧ (qv9 pp 202 = some .u64) ∧ (szT pp 208 = 1) := by (repeat' apply And.intro) <;> kernel_rfl
@[go_sem] theorem ja6 : (q0x pp 208 = true) ∧ (q4i pp 208 = false) ∧ (q1i pp 208 = 8) ∧ (q6g pp 208 = [none]) ∧ (qj3 pp 208 = none) ∧ (q1j pp 208 = some [.nilFunc]) ∧ tyF pp 210 1 false 8 [none] none (some [.nilFunc]) ∧ tyF pp 220 1 false 8 [none] none (some [.nilFunc]) ∧ tyF pp 223 1 false 8 [none] none (some [.pointer none]) ∧ tyF pp 224 1 false 24 [some 1] none (some [.slice none 0 0]) ∧ (sliceT pp 224 = some 2) ∧ tyF pp 226 6 true 80 [none, none, some 1, some 2, none, none] none (some [.int .i64 0, .int .i64 0, .slice none 0 0, .slice none 0 0, .int .i64 0, .int .i64 0]) ∧ (q0a pp 226 0 = some (0, 48)) ∧ (q0a pp 226 1 = some (2, 224)) ∧ (q0a pp 226 2 = some (3, 192)) ∧ (q0a pp 226 3 = some (4, 3)) ∧ (q0a pp 226 4 = some (5, 3)) ∧ (q34 pp 226 = some [(0, 2), (2, 1), (3, 1), (4, 1), (5, 1)]) ∧ (y8 pp 3 = true) ∧ (y8 pp 4 = true) ∧ (y8 pp 5 = true) ∧ (y8 pp 6 = true) ∧ (y8 pp 7 = true) ∧ (y8 pp 8 = true) ∧ (y8 pp 9 = true) ∧ (y8 pp 10 = true) ∧ (y8 pp 11 = true) ∧ (y8 pp 12 = true) ∧ (y8 pp 13 = true) ∧ (y8 pp 14 = true) := by (repeat' apply And.intro) <;> kernel_rfl
@[go_sem] theorem ja5 : (y8 pp 15 = true) ∧ (y8 pp 16 = true) ∧ (y8 pp 17 = true) ∧ (y8 pp 18 = true) ∧ (y8 pp 19 = true) ∧ (y8 pp 20 = true) ∧ (y8 pp 21 = true) ∧ (y8 pp 22 = true) ∧ (y8 pp 23 = true) ∧ (y8 pp 24 = true) ∧ (y8 pp 25 = true) ∧ (y8 pp 26 = true) ∧ (y8 pp 27 = true) ∧ (y8 pp 28 = true) ∧ (y8 pp 29 = true) ∧ (y8 pp 30 = true) ∧ (y8 pp 31 = true) ∧ (y8 pp 32 = true) ∧ (y8 pp 33 = true) ∧ (y8 pp 34 = true) ∧ (y8 pp 35 = true) ∧ (y8 pp 36 = true) ∧ (y8 pp 37 = true) ∧ (y8 pp 38 = true) ∧ (y8 pp 39 = true) ∧ (y8 pp 40 = true) ∧ (y8 pp 41 = true) ∧ (y8 pp 42 = true) ∧ (y8 pp 43 = true) ∧ (y8 pp 44 = true) ∧ (y8 pp 45 = true) ∧ (y8 pp 46 = true) ∧ (y8 pp 47 = true) ∧ (y8 pp 48 = true) ∧ (y8 pp 49 = true) ∧ (y8 pp 50 = true) ∧ (y8 pp 51 = true) ∧ (y8 pp 52 = true) ∧ (y8 pp 53 = true) ∧ (y8 pp 54 = true) ∧ (y8 pp 55 = true) ∧ (y8 pp 56 = true) ∧ (y8 pp 57 = true) ∧ (y8 pp 58 = true) ∧ (y8 pp 59 = true) ∧ (y8 pp 60 = true) ∧ (y8 pp 61 = true) ∧ (y8 pp 62 = true) ∧ (y8 pp 63 = true) ∧ (y8 pp 64 = true) ∧ (y8 pp 65 = true) ∧ (y8 pp 66 = true) ∧ (y8 pp 67 = true) ∧ (y8 pp 68 = true) ∧ (y8 pp 69 = true) ∧ (y8 pp 70 = true) ∧ (y8 pp 71 = true) ∧ (y8 pp 72 = true) ∧ (y8 pp 73 = true) ∧ (y8 pp 74 = true) := by (repeat' apply And.intro) <;> kernel_rfl
@[go_sem] theorem ja4 : (y8 pp 75 = true) ∧ (y8 pp 76 = true) ∧ (y8 pp 77 = true) ∧ (y8 pp 78 = true) ∧ (y8 pp 79 = true) ∧ (y8 pp 80 = true) ∧ (y8 pp 81 = true) ∧ (y8 pp 82 = true) ∧ (y8 pp 83 = true) ∧ (y8 pp 84 = true) ∧ (y8 pp 85 = true) ∧ (y8 pp 86 = true) ∧ (y8 pp 87 = true) ∧ (y8 pp 88 = true) ∧ (y8 pp 89 = true) ∧ (y8 pp 90 = true) ∧ (y8 pp 91 = true) ∧ (y8 pp 92 = true) ∧ (y8 pp 93 = true) ∧ (y8 pp 94 = true) ∧ (y8 pp 95 = true) ∧ (y8 pp 96 = true) ∧ (y8 pp 97 = true) ∧ (y8 pp 98 = true) ∧ (y8 pp 99 = true) ∧ (y8 pp 100 = true) ∧ (y8 pp 101 = true) ∧ (y8 pp 102 = true) ∧ (y8 pp 103 = true) ∧ (y8 pp 104 = true) ∧ (y8 pp 105 = true) ∧ (y8 pp 106 = true) ∧ (y8 pp 107 = true) ∧ (y8 pp 108 = true) ∧ (y8 pp 109 = true) ∧ (y8 pp 110 = true) ∧ (y8 pp 111 = true) ∧ (y8 pp 112 = true) ∧ (y8 pp 113 = true) ∧ (y8 pp 114 = true) ∧ (y8 pp 115 = true) ∧ (y8 pp 116 = true) ∧ (y8 pp 117 = true) ∧ (y8 pp 118 = true) ∧ (y8 pp 119 = true) ∧ (y8 pp 120 = true) ∧ (y8 pp 121 = true) ∧ (y8 pp 122 = true) ∧ (y8 pp 123 = true) ∧ (y8 pp 124 = true) ∧ (y8 pp 125 = true) ∧ (y8 pp 126 = true) ∧ (y8 pp 127 = true) ∧ (y8 pp 128 = true) ∧ (y8 pp 129 = true) ∧ (y8 pp 130 = true) ∧ (y8 pp 131 = true) ∧ (y8 pp 132 = true) ∧ (y8 pp 133 = true) ∧ (y8 pp 134 = true) := by (repeat' apply And.intro) <;> kernel_rfl
@[go_sem] theorem ja3 : (y8 pp 135 = true) ∧ (y8 pp 136 = true) ∧ (y8 pp 137 = true) ∧ (y8 pp 138 = true) ∧ (y8 pp 139 = true) ∧ (y8 pp 140 = true) ∧ (y8 pp 141 = true) ∧ (y8 pp 142 = true) ∧ (y8 pp 143 = true) ∧ (y8 pp 144 = true) ∧ (y8 pp 145 = true) ∧ (y8 pp 146 = true) ∧ (y8 pp 147 = true) ∧ (y8 pp 150 = true) ∧ (y8 pp 151 = true) ∧ (y8 pp 152 = true) ∧ (y8 pp 153 = true) ∧ (y8 pp 154 = true) ∧ (y8 pp 155 = true) ∧ (y8 pp 156 = true) ∧ (y8 pp 159 = true) ∧ (y8 pp 160 = true) ∧ (y8 pp 161 = true) ∧ (y8 pp 162 = true) ∧ (y8 pp 163 = true) ∧ (y8 pp 165 = true) ∧ (y8 pp 166 = true) ∧ (y8 pp 167 = true) ∧ (y8 pp 168 = true) ∧ (y8 pp 169 = true) ∧ (y8 pp 171 = true) ∧ (y8 pp 172 = true) ∧ (y8 pp 173 = true) ∧ (y8 pp 174 = true) ∧ (y8 pp 175 = true) ∧ (y8 pp 176 = true) ∧ (y8 pp 180 = true) ∧ (y8 pp 184 = true) ∧ (y8 pp 185 = true) ∧ (y8 pp 186 = true) ∧ (y8 pp 187 = true) ∧ (y8 pp 189 = true) ∧ (y8 pp 190 = true) ∧ (y8 pp 192 = true) := by (repeat' apply And.intro) <;> kernel_rfl
theorem mixed : Tryz.prog.follows .mixedOrders = true := by kernel_rfl
structure Arr2 (α : Type) where
  a0 : α
  a1 : α
instance {α : Type} [Row α] : Row (Arr2 α) := ⟨Row.sz α + Row.sz α, fun x => Row.row x.a0 ++ Row.row x.a1⟩
instance {α : Type} [Dat α] : Dat (Arr2 α) where
  ct := Dat.ct α ++ (Dat.ct α)
  ok x := Dat.ok x.a0 ∧ Dat.ok x.a1
  len := by simp only [List.length_append, Dat.len]; (try simp only [Row.sz]); (try omega)
  of avs h := by
    obtain ⟨b0, r0, rfl, h0, g0⟩ := p8 h; obtain ⟨x0, rfl, k0⟩ := Dat.of (α := α) _ h0; obtain ⟨x1, rfl, k1⟩ := Dat.of (α := α) _ g0; exact ⟨⟨x0, x1⟩, by simp only [Row.row, List.append_assoc], k0, k1⟩
structure Arr4 (α : Type) where
  a0 : α
  a1 : α
  a2 : α
  a3 : α
instance {α : Type} [Row α] : Row (Arr4 α) := ⟨Row.sz α + Row.sz α + Row.sz α + Row.sz α, fun x => Row.row x.a0 ++ Row.row x.a1 ++ Row.row x.a2 ++ Row.row x.a3⟩
instance {α : Type} [Dat α] : Dat (Arr4 α) where
  ct := Dat.ct α ++ (Dat.ct α ++ (Dat.ct α ++ (Dat.ct α)))
  ok x := Dat.ok x.a0 ∧ Dat.ok x.a1 ∧ Dat.ok x.a2 ∧ Dat.ok x.a3
  len := by simp only [List.length_append, Dat.len]; (try simp only [Row.sz]); (try omega)
  of avs h := by
    obtain ⟨b0, r0, rfl, h0, g0⟩ := p8 h; obtain ⟨b1, r1, rfl, h1, g1⟩ := p8 g0; obtain ⟨b2, r2, rfl, h2, g2⟩ := p8 g1; obtain ⟨x0, rfl, k0⟩ := Dat.of (α := α) _ h0; obtain ⟨x1, rfl, k1⟩ := Dat.of (α := α) _ h1; obtain ⟨x2, rfl, k2⟩ := Dat.of (α := α) _ h2; obtain ⟨x3, rfl, k3⟩ := Dat.of (α := α) _ g2; exact ⟨⟨x0, x1, x2, x3⟩, by simp only [Row.row, List.append_assoc], k0, k1, k2, k3⟩
structure Nu64 where
  n : Int
instance : Row Nu64 := ⟨1, fun x => [.v (.int .u64 x.n)]⟩
@[go_sem] theorem jc1 (x : Nu64) : Row.row x = [.v (.int .u64 x.n)] := rfl
instance : Dat Nu64 where
  ct := [.int .u64]
  ok x := inI .u64 x.n
  len := rfl
  of avs h := by
    simp only [q33, z2e] at h; obtain ⟨_, _, rfl, ⟨n, rfl, hw⟩, rfl⟩ := h; exact ⟨⟨n⟩, rfl, hw⟩
structure GIns where
  Op : Int
  N : Int
instance : Row GIns := ⟨2, fun x => [.v (.int .i64 x.Op), .v (.int .i64 x.N)]⟩
@[go_sem] theorem jc4 (x : GIns) : Row.row x = [.v (.int .i64 x.Op), .v (.int .i64 x.N)] := rfl
@[go_sem] theorem jd9 : Row.sz GIns = 2 := rfl
instance : Dat GIns where
  ct := Dat.ct Int ++ (Dat.ct Int)
  ok x := Dat.ok x.Op ∧ Dat.ok x.N
  len := rfl
  of avs h := by
    obtain ⟨b0, r0, rfl, h0, g0⟩ := p8 h; obtain ⟨x0, rfl, k0⟩ := Dat.of (α := Int) _ h0; obtain ⟨x1, rfl, k1⟩ := Dat.of (α := Int) _ g0; exact ⟨⟨x0, x1⟩, rfl, k0, k1⟩
structure GNode where
  Kind : Int
  Scope : Int
  Arg : Int
  Prog : List GIns
instance : Row GNode := ⟨4, fun x => [.v (.int .i64 x.Kind), .v (.int .i64 x.Scope), .v (.int .i64 x.Arg), .sl 2 (enc x.Prog)]⟩
@[go_sem] theorem j9y (x : GNode) : Row.row x = [.v (.int .i64 x.Kind), .v (.int .i64 x.Scope), .v (.int .i64 x.Arg), .sl 2 (enc x.Prog)] := rfl
@[go_sem] theorem jb7 : Row.sz GNode = 4 := rfl
instance : Dat GNode where
  ct := Dat.ct Int ++ (Dat.ct Int ++ (Dat.ct Int ++ (Dat.ct (List GIns))))
  ok x := Dat.ok x.Kind ∧ Dat.ok x.Scope ∧ Dat.ok x.Arg ∧ Dat.ok x.Prog
  len := rfl
  of avs h := by
    obtain ⟨b0, r0, rfl, h0, g0⟩ := p8 h; obtain ⟨b1, r1, rfl, h1, g1⟩ := p8 g0; obtain ⟨b2, r2, rfl, h2, g2⟩ := p8 g1; obtain ⟨x0, rfl, k0⟩ := Dat.of (α := Int) _ h0; obtain ⟨x1, rfl, k1⟩ := Dat.of (α := Int) _ h1; obtain ⟨x2, rfl, k2⟩ := Dat.of (α := Int) _ h2; obtain ⟨x3, rfl, k3⟩ := Dat.of (α := List GIns) _ g2; exact ⟨⟨x0, x1, x2, x3⟩, rfl, k0, k1, k2, k3⟩
structure GEdge where
  From : Int
  To : Int
  Port : Int
  Exchange : Bool
instance : Row GEdge := ⟨4, fun x => [.v (.int .i64 x.From), .v (.int .i64 x.To), .v (.int .i64 x.Port), .v (.bool x.Exchange)]⟩
@[go_sem] theorem ja0 (x : GEdge) : Row.row x = [.v (.int .i64 x.From), .v (.int .i64 x.To), .v (.int .i64 x.Port), .v (.bool x.Exchange)] := rfl
@[go_sem] theorem jc0 : Row.sz GEdge = 4 := rfl
instance : Dat GEdge where
  ct := Dat.ct Int ++ (Dat.ct Int ++ (Dat.ct Int ++ (Dat.ct Bool)))
  ok x := Dat.ok x.From ∧ Dat.ok x.To ∧ Dat.ok x.Port ∧ Dat.ok x.Exchange
  len := rfl
  of avs h := by
    obtain ⟨b0, r0, rfl, h0, g0⟩ := p8 h; obtain ⟨b1, r1, rfl, h1, g1⟩ := p8 g0; obtain ⟨b2, r2, rfl, h2, g2⟩ := p8 g1; obtain ⟨x0, rfl, k0⟩ := Dat.of (α := Int) _ h0; obtain ⟨x1, rfl, k1⟩ := Dat.of (α := Int) _ h1; obtain ⟨x2, rfl, k2⟩ := Dat.of (α := Int) _ h2; obtain ⟨x3, rfl, k3⟩ := Dat.of (α := Bool) _ g2; exact ⟨⟨x0, x1, x2, x3⟩, rfl, k0, k1, k2, k3⟩
structure GGraph where
  Parent : List Int
  Bound : List Int
  Nodes : List GNode
  Edges : List GEdge
instance : Row GGraph := ⟨4, fun x => [.sl 1 (enc x.Parent), .sl 1 (enc x.Bound), .sl 4 (enc x.Nodes), .sl 4 (enc x.Edges)]⟩
@[go_sem] theorem j9b (x : GGraph) : Row.row x = [.sl 1 (enc x.Parent), .sl 1 (enc x.Bound), .sl 4 (enc x.Nodes), .sl 4 (enc x.Edges)] := rfl
@[go_sem] theorem j9v : Row.sz GGraph = 4 := rfl
instance : Dat GGraph where
  ct := Dat.ct (List Int) ++ (Dat.ct (List Int) ++ (Dat.ct (List GNode) ++ (Dat.ct (List GEdge))))
  ok x := Dat.ok x.Parent ∧ Dat.ok x.Bound ∧ Dat.ok x.Nodes ∧ Dat.ok x.Edges
  len := rfl
  of avs h := by
    obtain ⟨b0, r0, rfl, h0, g0⟩ := p8 h; obtain ⟨b1, r1, rfl, h1, g1⟩ := p8 g0; obtain ⟨b2, r2, rfl, h2, g2⟩ := p8 g1; obtain ⟨x0, rfl, k0⟩ := Dat.of (α := List Int) _ h0; obtain ⟨x1, rfl, k1⟩ := Dat.of (α := List Int) _ h1; obtain ⟨x2, rfl, k2⟩ := Dat.of (α := List GNode) _ h2; obtain ⟨x3, rfl, k3⟩ := Dat.of (α := List GEdge) _ g2; exact ⟨⟨x0, x1, x2, x3⟩, rfl, k0, k1, k2, k3⟩
structure GTime where
  D : Int
  C : Arr4 Int
instance : Row GTime := ⟨5, fun x => [.v (.int .i64 x.D), .v (.int .i64 x.C.a0), .v (.int .i64 x.C.a1), .v (.int .i64 x.C.a2), .v (.int .i64 x.C.a3)]⟩
@[go_sem] theorem j9x (x : GTime) : Row.row x = [.v (.int .i64 x.D), .v (.int .i64 x.C.a0), .v (.int .i64 x.C.a1), .v (.int .i64 x.C.a2), .v (.int .i64 x.C.a3)] := rfl
@[go_sem] theorem jb5 : Row.sz GTime = 5 := rfl
instance : Dat GTime where
  ct := Dat.ct Int ++ (Dat.ct (Arr4 Int))
  ok x := Dat.ok x.D ∧ Dat.ok x.C
  len := rfl
  of avs h := by
    obtain ⟨b0, r0, rfl, h0, g0⟩ := p8 h; obtain ⟨x0, rfl, k0⟩ := Dat.of (α := Int) _ h0; obtain ⟨x1, rfl, k1⟩ := Dat.of (α := Arr4 Int) _ g0; exact ⟨⟨x0, x1⟩, rfl, k0, k1⟩
structure GRec where
  K : Int
  V : Int
instance : Row GRec := ⟨2, fun x => [.v (.int .i64 x.K), .v (.int .i64 x.V)]⟩
@[go_sem] theorem jc2 (x : GRec) : Row.row x = [.v (.int .i64 x.K), .v (.int .i64 x.V)] := rfl
@[go_sem] theorem jd7 : Row.sz GRec = 2 := rfl
instance : Dat GRec where
  ct := Dat.ct Int ++ (Dat.ct Int)
  ok x := Dat.ok x.K ∧ Dat.ok x.V
  len := rfl
  of avs h := by
    obtain ⟨b0, r0, rfl, h0, g0⟩ := p8 h; obtain ⟨x0, rfl, k0⟩ := Dat.of (α := Int) _ h0; obtain ⟨x1, rfl, k1⟩ := Dat.of (α := Int) _ g0; exact ⟨⟨x0, x1⟩, rfl, k0, k1⟩
structure GItem where
  Rec : GRec
  N : Int
instance : Row GItem := ⟨3, fun x => [.v (.int .i64 x.Rec.K), .v (.int .i64 x.Rec.V), .v (.int .i64 x.N)]⟩
@[go_sem] theorem j0k (x : GItem) : Row.row x = [.v (.int .i64 x.Rec.K), .v (.int .i64 x.Rec.V), .v (.int .i64 x.N)] := rfl
@[go_sem] theorem jb8 : Row.sz GItem = 3 := rfl
instance : Dat GItem where
  ct := Dat.ct GRec ++ (Dat.ct Int)
  ok x := Dat.ok x.Rec ∧ Dat.ok x.N
  len := rfl
  of avs h := by
    obtain ⟨b0, r0, rfl, h0, g0⟩ := p8 h; obtain ⟨x0, rfl, k0⟩ := Dat.of (α := GRec) _ h0; obtain ⟨x1, rfl, k1⟩ := Dat.of (α := Int) _ g0; exact ⟨⟨x0, x1⟩, rfl, k0, k1⟩
structure GSlot where
  Time : GTime
  In : Arr2 (List GItem)
  Sent : List GItem
  Dirty : Bool
  Fired : Bool
instance : Row GSlot := ⟨10, fun x => [.v (.int .i64 x.Time.D), .v (.int .i64 x.Time.C.a0), .v (.int .i64 x.Time.C.a1), .v (.int .i64 x.Time.C.a2), .v (.int .i64 x.Time.C.a3), .sl 3 (enc x.In.a0), .sl 3 (enc x.In.a1), .sl 3 (enc x.Sent), .v (.bool x.Dirty), .v (.bool x.Fired)]⟩
@[go_sem] theorem q92 (x : GSlot) : Row.row x = [.v (.int .i64 x.Time.D), .v (.int .i64 x.Time.C.a0), .v (.int .i64 x.Time.C.a1), .v (.int .i64 x.Time.C.a2), .v (.int .i64 x.Time.C.a3), .sl 3 (enc x.In.a0), .sl 3 (enc x.In.a1), .sl 3 (enc x.Sent), .v (.bool x.Dirty), .v (.bool x.Fired)] := rfl
@[go_sem] theorem jb6 : Row.sz GSlot = 10 := rfl
instance : Dat GSlot where
  ct := Dat.ct GTime ++ (Dat.ct (Arr2 (List GItem)) ++ (Dat.ct (List GItem) ++ (Dat.ct Bool ++ (Dat.ct Bool))))
  ok x := Dat.ok x.Time ∧ Dat.ok x.In ∧ Dat.ok x.Sent ∧ Dat.ok x.Dirty ∧ Dat.ok x.Fired
  len := rfl
  of avs h := by
    obtain ⟨b0, r0, rfl, h0, g0⟩ := p8 h; obtain ⟨b1, r1, rfl, h1, g1⟩ := p8 g0; obtain ⟨b2, r2, rfl, h2, g2⟩ := p8 g1; obtain ⟨b3, r3, rfl, h3, g3⟩ := p8 g2; obtain ⟨x0, rfl, k0⟩ := Dat.of (α := GTime) _ h0; obtain ⟨x1, rfl, k1⟩ := Dat.of (α := Arr2 (List GItem)) _ h1; obtain ⟨x2, rfl, k2⟩ := Dat.of (α := List GItem) _ h2; obtain ⟨x3, rfl, k3⟩ := Dat.of (α := Bool) _ h3; obtain ⟨x4, rfl, k4⟩ := Dat.of (α := Bool) _ g3; exact ⟨⟨x0, x1, x2, x3, x4⟩, rfl, k0, k1, k2, k3, k4⟩
structure GUnit where
  ID : Int
  Cells : List (List GSlot)
  Colour : Int
  Sent : Arr2 Int
  Got : Arr2 Int
  Red : List (List GTime)
  Late : Int
  Backs : Int
instance : Row GUnit := ⟨10, fun x => [.v (.int .i64 x.ID), .sl 1 (enc x.Cells), .v (.int .i64 x.Colour), .v (.int .i64 x.Sent.a0), .v (.int .i64 x.Sent.a1), .v (.int .i64 x.Got.a0), .v (.int .i64 x.Got.a1), .sl 1 (enc x.Red), .v (.int .i64 x.Late), .v (.int .i64 x.Backs)]⟩
@[go_sem] theorem j9w (x : GUnit) : Row.row x = [.v (.int .i64 x.ID), .sl 1 (enc x.Cells), .v (.int .i64 x.Colour), .v (.int .i64 x.Sent.a0), .v (.int .i64 x.Sent.a1), .v (.int .i64 x.Got.a0), .v (.int .i64 x.Got.a1), .sl 1 (enc x.Red), .v (.int .i64 x.Late), .v (.int .i64 x.Backs)] := rfl
@[go_sem] theorem jb4 : Row.sz GUnit = 10 := rfl
instance : Dat GUnit where
  ct := Dat.ct Int ++ (Dat.ct (List (List GSlot)) ++ (Dat.ct Int ++ (Dat.ct (Arr2 Int) ++ (Dat.ct (Arr2 Int) ++ (Dat.ct (List (List GTime)) ++ (Dat.ct Int ++ (Dat.ct Int)))))))
  ok x := Dat.ok x.ID ∧ Dat.ok x.Cells ∧ Dat.ok x.Colour ∧ Dat.ok x.Sent ∧ Dat.ok x.Got ∧ Dat.ok x.Red ∧ Dat.ok x.Late ∧ Dat.ok x.Backs
  len := rfl
  of avs h := by
    obtain ⟨b0, r0, rfl, h0, g0⟩ := p8 h; obtain ⟨b1, r1, rfl, h1, g1⟩ := p8 g0; obtain ⟨b2, r2, rfl, h2, g2⟩ := p8 g1; obtain ⟨b3, r3, rfl, h3, g3⟩ := p8 g2; obtain ⟨b4, r4, rfl, h4, g4⟩ := p8 g3; obtain ⟨b5, r5, rfl, h5, g5⟩ := p8 g4; obtain ⟨b6, r6, rfl, h6, g6⟩ := p8 g5; obtain ⟨x0, rfl, k0⟩ := Dat.of (α := Int) _ h0; obtain ⟨x1, rfl, k1⟩ := Dat.of (α := List (List GSlot)) _ h1; obtain ⟨x2, rfl, k2⟩ := Dat.of (α := Int) _ h2; obtain ⟨x3, rfl, k3⟩ := Dat.of (α := Arr2 Int) _ h3; obtain ⟨x4, rfl, k4⟩ := Dat.of (α := Arr2 Int) _ h4; obtain ⟨x5, rfl, k5⟩ := Dat.of (α := List (List GTime)) _ h5; obtain ⟨x6, rfl, k6⟩ := Dat.of (α := Int) _ h6; obtain ⟨x7, rfl, k7⟩ := Dat.of (α := Int) _ g6; exact ⟨⟨x0, x1, x2, x3, x4, x5, x6, x7⟩, rfl, k0, k1, k2, k3, k4, k5, k6, k7⟩
structure GFeed where
  Node : Int
  Epoch : Int
  Rec : GRec
instance : Row GFeed := ⟨4, fun x => [.v (.int .i64 x.Node), .v (.int .i64 x.Epoch), .v (.int .i64 x.Rec.K), .v (.int .i64 x.Rec.V)]⟩
@[go_sem] theorem j9z (x : GFeed) : Row.row x = [.v (.int .i64 x.Node), .v (.int .i64 x.Epoch), .v (.int .i64 x.Rec.K), .v (.int .i64 x.Rec.V)] := rfl
@[go_sem] theorem jb9 : Row.sz GFeed = 4 := rfl
instance : Dat GFeed where
  ct := Dat.ct Int ++ (Dat.ct Int ++ (Dat.ct GRec))
  ok x := Dat.ok x.Node ∧ Dat.ok x.Epoch ∧ Dat.ok x.Rec
  len := rfl
  of avs h := by
    obtain ⟨b0, r0, rfl, h0, g0⟩ := p8 h; obtain ⟨b1, r1, rfl, h1, g1⟩ := p8 g0; obtain ⟨x0, rfl, k0⟩ := Dat.of (α := Int) _ h0; obtain ⟨x1, rfl, k1⟩ := Dat.of (α := Int) _ h1; obtain ⟨x2, rfl, k2⟩ := Dat.of (α := GRec) _ g1; exact ⟨⟨x0, x1, x2⟩, rfl, k0, k1, k2⟩
structure GPoint where
  Node : Int
  Time : GTime
instance : Row GPoint := ⟨6, fun x => [.v (.int .i64 x.Node), .v (.int .i64 x.Time.D), .v (.int .i64 x.Time.C.a0), .v (.int .i64 x.Time.C.a1), .v (.int .i64 x.Time.C.a2), .v (.int .i64 x.Time.C.a3)]⟩
@[go_sem] theorem j9a (x : GPoint) : Row.row x = [.v (.int .i64 x.Node), .v (.int .i64 x.Time.D), .v (.int .i64 x.Time.C.a0), .v (.int .i64 x.Time.C.a1), .v (.int .i64 x.Time.C.a2), .v (.int .i64 x.Time.C.a3)] := rfl
@[go_sem] theorem j9u : Row.sz GPoint = 6 := rfl
instance : Dat GPoint where
  ct := Dat.ct Int ++ (Dat.ct GTime)
  ok x := Dat.ok x.Node ∧ Dat.ok x.Time
  len := rfl
  of avs h := by
    obtain ⟨b0, r0, rfl, h0, g0⟩ := p8 h; obtain ⟨x0, rfl, k0⟩ := Dat.of (α := Int) _ h0; obtain ⟨x1, rfl, k1⟩ := Dat.of (α := GTime) _ g0; exact ⟨⟨x0, x1⟩, rfl, k0, k1⟩
structure GProg_machine where
  r : GRec
  stack : List Int
  out : List GRec
  at_ : Int
  bad : Int
instance : Row GProg_machine := ⟨6, fun x => [.v (.int .i64 x.r.K), .v (.int .i64 x.r.V), .sl 1 (enc x.stack), .sl 2 (enc x.out), .v (.int .i64 x.at_), .v (.int .i64 x.bad)]⟩
@[go_sem] theorem j1o (x : GProg_machine) : Row.row x = [.v (.int .i64 x.r.K), .v (.int .i64 x.r.V), .sl 1 (enc x.stack), .sl 2 (enc x.out), .v (.int .i64 x.at_), .v (.int .i64 x.bad)] := rfl
@[go_sem] theorem j2b : Row.sz GProg_machine = 6 := rfl
instance : Dat GProg_machine where
  ct := Dat.ct GRec ++ (Dat.ct (List Int) ++ (Dat.ct (List GRec) ++ (Dat.ct Int ++ (Dat.ct Int))))
  ok x := Dat.ok x.r ∧ Dat.ok x.stack ∧ Dat.ok x.out ∧ Dat.ok x.at_ ∧ Dat.ok x.bad
  len := rfl
  of avs h := by
    obtain ⟨b0, r0, rfl, h0, g0⟩ := p8 h; obtain ⟨b1, r1, rfl, h1, g1⟩ := p8 g0; obtain ⟨b2, r2, rfl, h2, g2⟩ := p8 g1; obtain ⟨b3, r3, rfl, h3, g3⟩ := p8 g2; obtain ⟨x0, rfl, k0⟩ := Dat.of (α := GRec) _ h0; obtain ⟨x1, rfl, k1⟩ := Dat.of (α := List Int) _ h1; obtain ⟨x2, rfl, k2⟩ := Dat.of (α := List GRec) _ h2; obtain ⟨x3, rfl, k3⟩ := Dat.of (α := Int) _ h3; obtain ⟨x4, rfl, k4⟩ := Dat.of (α := Int) _ g3; exact ⟨⟨x0, x1, x2, x3, x4⟩, rfl, k0, k1, k2, k3, k4⟩
structure GOps_maker where
  out : List GItem
  many : Int
instance : Row GOps_maker := ⟨2, fun x => [.sl 3 (enc x.out), .v (.int .i64 x.many)]⟩
@[go_sem] theorem j5v (x : GOps_maker) : Row.row x = [.sl 3 (enc x.out), .v (.int .i64 x.many)] := rfl
@[go_sem] theorem j77 : Row.sz GOps_maker = 2 := rfl
instance : Dat GOps_maker where
  ct := Dat.ct (List GItem) ++ (Dat.ct Int)
  ok x := Dat.ok x.out ∧ Dat.ok x.many
  len := rfl
  of avs h := by
    obtain ⟨b0, r0, rfl, h0, g0⟩ := p8 h; obtain ⟨x0, rfl, k0⟩ := Dat.of (α := List GItem) _ h0; obtain ⟨x1, rfl, k1⟩ := Dat.of (α := Int) _ g0; exact ⟨⟨x0, x1⟩, rfl, k0, k1⟩
structure GOps_wide where
  hi : Int
  lo : Nu64
instance : Row GOps_wide := ⟨2, fun x => [.v (.int .i64 x.hi), .v (.int .u64 x.lo.n)]⟩
@[go_sem] theorem j78 (x : GOps_wide) : Row.row x = [.v (.int .i64 x.hi), .v (.int .u64 x.lo.n)] := rfl
@[go_sem] theorem j7r : Row.sz GOps_wide = 2 := rfl
instance : Dat GOps_wide where
  ct := Dat.ct Int ++ (Dat.ct Nu64)
  ok x := Dat.ok x.hi ∧ Dat.ok x.lo
  len := rfl
  of avs h := by
    obtain ⟨b0, r0, rfl, h0, g0⟩ := p8 h; obtain ⟨x0, rfl, k0⟩ := Dat.of (α := Int) _ h0; obtain ⟨x1, rfl, k1⟩ := Dat.of (α := Nu64) _ g0; exact ⟨⟨x0, x1⟩, rfl, k0, k1⟩
structure GMsg where
  Edge : Int
  Time : GTime
  Rec : GRec
  N : Int
  Colour : Int
instance : Row GMsg := ⟨10, fun x => [.v (.int .i64 x.Edge), .v (.int .i64 x.Time.D), .v (.int .i64 x.Time.C.a0), .v (.int .i64 x.Time.C.a1), .v (.int .i64 x.Time.C.a2), .v (.int .i64 x.Time.C.a3), .v (.int .i64 x.Rec.K), .v (.int .i64 x.Rec.V), .v (.int .i64 x.N), .v (.int .i64 x.Colour)]⟩
@[go_sem] theorem jc3 (x : GMsg) : Row.row x = [.v (.int .i64 x.Edge), .v (.int .i64 x.Time.D), .v (.int .i64 x.Time.C.a0), .v (.int .i64 x.Time.C.a1), .v (.int .i64 x.Time.C.a2), .v (.int .i64 x.Time.C.a3), .v (.int .i64 x.Rec.K), .v (.int .i64 x.Rec.V), .v (.int .i64 x.N), .v (.int .i64 x.Colour)] := rfl
@[go_sem] theorem jd8 : Row.sz GMsg = 10 := rfl
instance : Dat GMsg where
  ct := Dat.ct Int ++ (Dat.ct GTime ++ (Dat.ct GRec ++ (Dat.ct Int ++ (Dat.ct Int))))
  ok x := Dat.ok x.Edge ∧ Dat.ok x.Time ∧ Dat.ok x.Rec ∧ Dat.ok x.N ∧ Dat.ok x.Colour
  len := rfl
  of avs h := by
    obtain ⟨b0, r0, rfl, h0, g0⟩ := p8 h; obtain ⟨b1, r1, rfl, h1, g1⟩ := p8 g0; obtain ⟨b2, r2, rfl, h2, g2⟩ := p8 g1; obtain ⟨b3, r3, rfl, h3, g3⟩ := p8 g2; obtain ⟨x0, rfl, k0⟩ := Dat.of (α := Int) _ h0; obtain ⟨x1, rfl, k1⟩ := Dat.of (α := GTime) _ h1; obtain ⟨x2, rfl, k2⟩ := Dat.of (α := GRec) _ h2; obtain ⟨x3, rfl, k3⟩ := Dat.of (α := Int) _ h3; obtain ⟨x4, rfl, k4⟩ := Dat.of (α := Int) _ g3; exact ⟨⟨x0, x1, x2, x3, x4⟩, rfl, k0, k1, k2, k3, k4⟩
structure GLetter where
  To : Int
  Msg : GMsg
instance : Row GLetter := ⟨11, fun x => [.v (.int .i64 x.To), .v (.int .i64 x.Msg.Edge), .v (.int .i64 x.Msg.Time.D), .v (.int .i64 x.Msg.Time.C.a0), .v (.int .i64 x.Msg.Time.C.a1), .v (.int .i64 x.Msg.Time.C.a2), .v (.int .i64 x.Msg.Time.C.a3), .v (.int .i64 x.Msg.Rec.K), .v (.int .i64 x.Msg.Rec.V), .v (.int .i64 x.Msg.N), .v (.int .i64 x.Msg.Colour)]⟩
@[go_sem] theorem j93 (x : GLetter) : Row.row x = [.v (.int .i64 x.To), .v (.int .i64 x.Msg.Edge), .v (.int .i64 x.Msg.Time.D), .v (.int .i64 x.Msg.Time.C.a0), .v (.int .i64 x.Msg.Time.C.a1), .v (.int .i64 x.Msg.Time.C.a2), .v (.int .i64 x.Msg.Time.C.a3), .v (.int .i64 x.Msg.Rec.K), .v (.int .i64 x.Msg.Rec.V), .v (.int .i64 x.Msg.N), .v (.int .i64 x.Msg.Colour)] := rfl
@[go_sem] theorem j99 : Row.sz GLetter = 11 := rfl
instance : Dat GLetter where
  ct := Dat.ct Int ++ (Dat.ct GMsg)
  ok x := Dat.ok x.To ∧ Dat.ok x.Msg
  len := rfl
  of avs h := by
    obtain ⟨b0, r0, rfl, h0, g0⟩ := p8 h; obtain ⟨x0, rfl, k0⟩ := Dat.of (α := Int) _ h0; obtain ⟨x1, rfl, k1⟩ := Dat.of (α := GMsg) _ g0; exact ⟨⟨x0, x1⟩, rfl, k0, k1⟩
structure GUnit_sender where
  Unit : GUnit
  out : List GLetter
  workers : Int
instance : Row GUnit_sender := ⟨12, fun x => [.v (.int .i64 x.Unit.ID), .sl 1 (enc x.Unit.Cells), .v (.int .i64 x.Unit.Colour), .v (.int .i64 x.Unit.Sent.a0), .v (.int .i64 x.Unit.Sent.a1), .v (.int .i64 x.Unit.Got.a0), .v (.int .i64 x.Unit.Got.a1), .sl 1 (enc x.Unit.Red), .v (.int .i64 x.Unit.Late), .v (.int .i64 x.Unit.Backs), .sl 11 (enc x.out), .v (.int .i64 x.workers)]⟩
@[go_sem] theorem j2l (x : GUnit_sender) : Row.row x = [.v (.int .i64 x.Unit.ID), .sl 1 (enc x.Unit.Cells), .v (.int .i64 x.Unit.Colour), .v (.int .i64 x.Unit.Sent.a0), .v (.int .i64 x.Unit.Sent.a1), .v (.int .i64 x.Unit.Got.a0), .v (.int .i64 x.Unit.Got.a1), .sl 1 (enc x.Unit.Red), .v (.int .i64 x.Unit.Late), .v (.int .i64 x.Unit.Backs), .sl 11 (enc x.out), .v (.int .i64 x.workers)] := rfl
@[go_sem] theorem j4a : Row.sz GUnit_sender = 12 := rfl
instance : Dat GUnit_sender where
  ct := Dat.ct GUnit ++ (Dat.ct (List GLetter) ++ (Dat.ct Int))
  ok x := Dat.ok x.Unit ∧ Dat.ok x.out ∧ Dat.ok x.workers
  len := rfl
  of avs h := by
    obtain ⟨b0, r0, rfl, h0, g0⟩ := p8 h; obtain ⟨b1, r1, rfl, h1, g1⟩ := p8 g0; obtain ⟨x0, rfl, k0⟩ := Dat.of (α := GUnit) _ h0; obtain ⟨x1, rfl, k1⟩ := Dat.of (α := List GLetter) _ h1; obtain ⟨x2, rfl, k2⟩ := Dat.of (α := Int) _ g1; exact ⟨⟨x0, x1, x2⟩, rfl, k0, k1, k2⟩
structure GHop where
  From : Int
  Keep : Int
  Tail : Int
  Add : Arr4 Int
  T : Arr4 Int
instance : Row GHop := ⟨11, fun x => [.v (.int .i64 x.From), .v (.int .i64 x.Keep), .v (.int .i64 x.Tail), .v (.int .i64 x.Add.a0), .v (.int .i64 x.Add.a1), .v (.int .i64 x.Add.a2), .v (.int .i64 x.Add.a3), .v (.int .i64 x.T.a0), .v (.int .i64 x.T.a1), .v (.int .i64 x.T.a2), .v (.int .i64 x.T.a3)]⟩
@[go_sem] theorem jc5 (x : GHop) : Row.row x = [.v (.int .i64 x.From), .v (.int .i64 x.Keep), .v (.int .i64 x.Tail), .v (.int .i64 x.Add.a0), .v (.int .i64 x.Add.a1), .v (.int .i64 x.Add.a2), .v (.int .i64 x.Add.a3), .v (.int .i64 x.T.a0), .v (.int .i64 x.T.a1), .v (.int .i64 x.T.a2), .v (.int .i64 x.T.a3)] := rfl
@[go_sem] theorem je0 : Row.sz GHop = 11 := rfl
instance : Dat GHop where
  ct := Dat.ct Int ++ (Dat.ct Int ++ (Dat.ct Int ++ (Dat.ct (Arr4 Int) ++ (Dat.ct (Arr4 Int)))))
  ok x := Dat.ok x.From ∧ Dat.ok x.Keep ∧ Dat.ok x.Tail ∧ Dat.ok x.Add ∧ Dat.ok x.T
  len := rfl
  of avs h := by
    obtain ⟨b0, r0, rfl, h0, g0⟩ := p8 h; obtain ⟨b1, r1, rfl, h1, g1⟩ := p8 g0; obtain ⟨b2, r2, rfl, h2, g2⟩ := p8 g1; obtain ⟨b3, r3, rfl, h3, g3⟩ := p8 g2; obtain ⟨x0, rfl, k0⟩ := Dat.of (α := Int) _ h0; obtain ⟨x1, rfl, k1⟩ := Dat.of (α := Int) _ h1; obtain ⟨x2, rfl, k2⟩ := Dat.of (α := Int) _ h2; obtain ⟨x3, rfl, k3⟩ := Dat.of (α := Arr4 Int) _ h3; obtain ⟨x4, rfl, k4⟩ := Dat.of (α := Arr4 Int) _ g3; exact ⟨⟨x0, x1, x2, x3, x4⟩, rfl, k0, k1, k2, k3, k4⟩
@[go_sem] theorem jf0 : EqT pp 28 [some .i64, some .i64] := z9s (by kernel_rfl) (by kernel_rfl) (by kernel_rfl)
@[go_sem] theorem je9 : EqT pp 34 [some .i64, some .i64, some .i64, some .i64, some .i64] := z9s (by kernel_rfl) (by kernel_rfl) (by kernel_rfl)
@[go_sem] theorem je8 : EqT pp 36 [some .i64, some .i64, some .i64, some .i64, some .i64, some .i64] := z9s (by kernel_rfl) (by kernel_rfl) (by kernel_rfl)
@[go_sem] theorem je7 : EqT pp 135 [some .i64, some .i64, some .i64] := z9s (by kernel_rfl) (by kernel_rfl) (by kernel_rfl)
attribute [go_sem] Tryz.ntmps3 Tryz.results3 Tryz.ntmps4 Tryz.results4 Tryz.ntmps5 Tryz.results5 Tryz.ntmps6 Tryz.results6 Tryz.ntmps7 Tryz.results7 Tryz.ntmps8 Tryz.results8 Tryz.ntmps9 Tryz.results9 Tryz.ntmps10 Tryz.results10 Tryz.ntmps11 Tryz.results11 Tryz.ntmps12 Tryz.results12 Tryz.ntmps13 Tryz.results13 Tryz.ntmps14 Tryz.results14 Tryz.ntmps15 Tryz.results15 Tryz.ntmps16 Tryz.results16 Tryz.ntmps17 Tryz.results17 Tryz.ntmps18 Tryz.results18 Tryz.ntmps19 Tryz.results19 Tryz.ntmps20 Tryz.results20 Tryz.ntmps21 Tryz.results21 Tryz.ntmps22 Tryz.results22 Tryz.ntmps23 Tryz.results23 Tryz.ntmps24 Tryz.results24 Tryz.ntmps25 Tryz.results25 Tryz.ntmps26 Tryz.results26 Tryz.ntmps27 Tryz.results27 Tryz.ntmps28 Tryz.results28 Tryz.ntmps29 Tryz.results29 Tryz.ntmps30 Tryz.results30 Tryz.ntmps31 Tryz.results31 Tryz.ntmps32 Tryz.results32 Tryz.ntmps33 Tryz.results33 Tryz.ntmps34 Tryz.results34 Tryz.ntmps35 Tryz.results35 Tryz.ntmps36 Tryz.results36 Tryz.ntmps37 Tryz.results37 Tryz.ntmps38 Tryz.results38 Tryz.ntmps39 Tryz.results39 Tryz.ntmps40 Tryz.results40 Tryz.ntmps41 Tryz.results41 Tryz.ntmps42 Tryz.results42 Tryz.ntmps43 Tryz.results43 Tryz.ntmps44 Tryz.results44 Tryz.ntmps45 Tryz.results45 Tryz.ntmps46 Tryz.results46 Tryz.ntmps47 Tryz.results47 Tryz.ntmps48 Tryz.results48 Tryz.ntmps49 Tryz.results49 Tryz.ntmps50 Tryz.results50 Tryz.ntmps51 Tryz.results51 Tryz.ntmps52 Tryz.results52 Tryz.ntmps53 Tryz.results53 Tryz.ntmps54 Tryz.results54 Tryz.ntmps55 Tryz.results55 Tryz.ntmps56 Tryz.results56 Tryz.ntmps57 Tryz.results57 Tryz.ntmps58 Tryz.results58 Tryz.ntmps59 Tryz.results59 Tryz.ntmps60 Tryz.results60 Tryz.ntmps61 Tryz.results61 Tryz.ntmps62 Tryz.results62 Tryz.ntmps63 Tryz.results63 Tryz.ntmps64 Tryz.results64 Tryz.ntmps65 Tryz.results65 Tryz.ntmps66 Tryz.results66 Tryz.ntmps67 Tryz.results67 Tryz.ntmps68 Tryz.results68 Tryz.ntmps69 Tryz.results69 Tryz.ntmps70 Tryz.results70 Tryz.ntmps71 Tryz.results71 Tryz.ntmps72 Tryz.results72 Tryz.ntmps73 Tryz.results73 Tryz.ntmps74 Tryz.results74 Tryz.ntmps75 Tryz.results75 Tryz.ntmps76 Tryz.results76 Tryz.ntmps77 Tryz.results77 Tryz.ntmps78 Tryz.results78 Tryz.ntmps79 Tryz.results79 Tryz.ntmps80 Tryz.results80 Tryz.ntmps81 Tryz.results81 Tryz.ntmps82 Tryz.results82 Tryz.ntmps83 Tryz.results83 Tryz.ntmps84 Tryz.results84 Tryz.ntmps85 Tryz.results85 Tryz.ntmps86 Tryz.results86 Tryz.ntmps87 Tryz.results87 Tryz.ntmps88 Tryz.results88 Tryz.ntmps89 Tryz.results89 Tryz.ntmps90 Tryz.results90 Tryz.ntmps91 Tryz.results91 Tryz.ntmps92 Tryz.results92 Tryz.ntmps93 Tryz.results93 Tryz.ntmps94 Tryz.results94 Tryz.ntmps95 Tryz.results95 Tryz.ntmps96 Tryz.results96 Tryz.ntmps97 Tryz.results97 Tryz.ntmps98 Tryz.results98 Tryz.ntmps99 Tryz.results99 Tryz.ntmps100 Tryz.results100 Tryz.ntmps101 Tryz.results101 Tryz.ntmps102 Tryz.results102 Tryz.ntmps103 Tryz.results103 Tryz.ntmps104 Tryz.results104 Tryz.ntmps105 Tryz.results105 Tryz.ntmps106 Tryz.results106 Tryz.ntmps107 Tryz.results107 Tryz.ntmps108 Tryz.results108 Tryz.ntmps109 Tryz.results109 Tryz.ntmps110 Tryz.results110 Tryz.ntmps111 Tryz.results111 Tryz.ntmps112 Tryz.results112 Tryz.ntmps113 Tryz.results113 Tryz.ntmps114 Tryz.results114 Tryz.ntmps115 Tryz.results115 Tryz.ntmps116 Tryz.results116 Tryz.ntmps117 Tryz.results117 Tryz.ntmps118 Tryz.results118 Tryz.ntmps119 Tryz.results119 Tryz.ntmps120 Tryz.results120 Tryz.ntmps121 Tryz.results121 Tryz.ntmps122 Tryz.results122 Tryz.ntmps123 Tryz.results123 Tryz.ntmps124 Tryz.results124 Tryz.ntmps125 Tryz.results125 Tryz.ntmps126 Tryz.results126 Tryz.ntmps127 Tryz.results127 Tryz.ntmps128 Tryz.results128 Tryz.ntmps129 Tryz.results129 Tryz.ntmps130 Tryz.results130 Tryz.ntmps131 Tryz.results131 Tryz.ntmps132 Tryz.results132 Tryz.ntmps133 Tryz.results133 Tryz.ntmps134 Tryz.results134 Tryz.ntmps135 Tryz.results135 Tryz.ntmps136 Tryz.results136 Tryz.ntmps137 Tryz.results137 Tryz.ntmps138 Tryz.results138 Tryz.ntmps139 Tryz.results139 Tryz.ntmps140 Tryz.results140 Tryz.ntmps141 Tryz.results141 Tryz.ntmps142 Tryz.results142 Tryz.ntmps143 Tryz.results143 Tryz.ntmps144 Tryz.results144 Tryz.ntmps145 Tryz.results145 Tryz.ntmps146 Tryz.results146 Tryz.ntmps147 Tryz.results147 Tryz.ntmps150 Tryz.results150 Tryz.ntmps151 Tryz.results151 Tryz.ntmps152 Tryz.results152 Tryz.ntmps153 Tryz.results153 Tryz.ntmps154 Tryz.results154 Tryz.ntmps155 Tryz.results155 Tryz.ntmps156 Tryz.results156 Tryz.ntmps159 Tryz.results159 Tryz.ntmps160 Tryz.results160 Tryz.ntmps161 Tryz.results161 Tryz.ntmps162 Tryz.results162 Tryz.ntmps163 Tryz.results163 Tryz.ntmps165 Tryz.results165 Tryz.ntmps166 Tryz.results166 Tryz.ntmps167 Tryz.results167 Tryz.ntmps168 Tryz.results168 Tryz.ntmps169 Tryz.results169 Tryz.ntmps171 Tryz.results171 Tryz.ntmps172 Tryz.results172 Tryz.ntmps173 Tryz.results173 Tryz.ntmps174 Tryz.results174 Tryz.ntmps175 Tryz.results175 Tryz.ntmps176 Tryz.results176 Tryz.ntmps180 Tryz.results180 Tryz.ntmps184 Tryz.results184 Tryz.ntmps185 Tryz.results185 Tryz.ntmps186 Tryz.results186 Tryz.ntmps187 Tryz.results187 Tryz.ntmps189 Tryz.results189 Tryz.ntmps190 Tryz.results190 Tryz.ntmps192 Tryz.results192
def qa0 (i_0 : Int) : Option Int :=
 (if (i_0 == 0) = true then some 1048576
 else some 64)
instance z8d (i_0 : Int) : Ct pp 110 (qa0 i_0) [.v (.int .i64 i_0)] fun r => (.v (.int .i64 r)) := ctI Tryz.func110 rfl (by rw [qa0]; exact au1)
def qt0 (t_0 : GTime) (rec_1 : Int → Option Bool) : Int → Option Bool :=
 fun t15_1 =>
 (if (decide (t15_1 < 4)) = true then q9 (idx ([t_0.C.a0, t_0.C.a1, t_0.C.a2, t_0.C.a3] : List Int) t15_1) (fun xv_1 =>
 (if (decide (xv_1 < 0)) = true then some false
 else (if (decide (t15_1 < t_0.D)) = true then q9 (qa0 t15_1) (fun v_2 =>
 (if ((decide (v_2 < xv_1)) || ((decide (t_0.D ≤ t15_1)) && (!(xv_1 == 0)))) = true then some false
 else rec_1 (i64.wrap (t15_1 + 1))))
 else (if ((decide (t_0.D ≤ t15_1)) && (!(xv_1 == 0))) = true then some false
 else rec_1 (i64.wrap (t15_1 + 1))))))
 else some true)
def q21 (t_0 : GTime) : Option Bool :=
 (if ((decide (t_0.D < 1)) || (decide (4 < t_0.D))) = true then some false
 else x8 (qt0 t_0) rounds 0)
instance z5m (t_0 : GTime) : Ct pp 61 (q21 t_0) [.agg (Row.row t_0)] fun r => (.v (.bool r)) := ctK Tryz.func61 rfl (by rw [q21]) (by
 intro r h F; refine sM ?_; refine sg fun _ Q2 => ?_; refine sM ?_; refine sB h (fun _ h => ?_) fun _ h => ?_
 · exact au
 ·
  refine y5 (q8 Q2 (jg fun _ Q5 => ?_)); refine sM ?_; refine w9 fun _ Q7 => ?_; refine d9 h [1, 14] (fun t15_1 => ([(15, .v (.int .i64 t15_1))], [(0, .box (Row.row t_0))])) 1 ?_; rintro m_1 t15_1 h _ Q8; rw [qt0] at h; refine sM ?_; refine sg fun _ Q10 => ?_; refine sB h (fun _ h => ?_) fun _ h => ?_
  · refine y5 (q8 Q10 (sg fun _ Q11 => ?_)); refine w9 fun _ Q12 => ?_; refine sg fun _ Q13 => ?_; obtain ⟨xv_1, ex1, h⟩ := z8 h; obtain ⟨f1a, f1b, f1c, fxv_1d⟩ := z96 (f := (fun y => AV.v (.int .i64 y))) ex1; simp only [List.cons_append, List.nil_append, List.append_nil, List.map_cons, List.map_nil, List.length_cons, List.length_nil, Nat.zero_add, Nat.reduceAdd] at f1b f1c fxv_1d; simp only [go_sem, f1a, f1b, f1c, fxv_1d]; refine ai ?_; refine ai ?_; simp only [List.getD_eq_getElem?_getD, Nat.mul_one, fxv_1d, Option.map_some, Option.getD_some, true_and]; exact au
  · exact au)
def z2r (a_0 : GTime) (b_0 : GTime) : Option Bool :=
 q9 (q21 a_0) (fun v_0 =>
 (if v_0 = true then q9 (q21 b_0) (fun v_1 =>
 some (v_1 && (a_0.D == b_0.D)))
 else some false))
instance j8e (a_0 : GTime) (b_0 : GTime) : Ct pp 89 (z2r a_0 b_0) [.agg (Row.row a_0), .agg (Row.row b_0)] fun r => (.v (.bool r)) := ctI Tryz.func89 rfl (by rw [z2r]; exact au1)
def z1d (a_0 : GTime) (b_0 : GTime) (rec_1 : Int → Option Bool) : Int → Option Bool :=
 fun t10_1 =>
 (if (decide (t10_1 < 4)) = true then x9 (0 ≤ t10_1 ∧ t10_1 < 4) (
 q9 (idx ([a_0.C.a0, a_0.C.a1, a_0.C.a2, a_0.C.a3] : List Int) t10_1) (fun xv_2 =>
 x9 (0 ≤ t10_1 ∧ t10_1 < 4) (
 q9 (idx ([b_0.C.a0, b_0.C.a1, b_0.C.a2, b_0.C.a3] : List Int) t10_1) (fun xv_3 =>
 (if (decide (xv_3 < xv_2)) = true then some false
 else rec_1 (i64.wrap (t10_1 + 1)))))))
 else some true)
def qo9 (a_0 : GTime) (b_0 : GTime) : Option Bool :=
 q9 (z2r a_0 b_0) (fun v_0 =>
 (if (!v_0) = true then some false
 else x8 (z1d a_0 b_0) rounds 0))
instance j9l (a_0 : GTime) (b_0 : GTime) : Ct pp 40 (qo9 a_0 b_0) [.agg (Row.row a_0), .agg (Row.row b_0)] fun r => (.v (.bool r)) := ctK Tryz.func40 rfl (by rw [qo9]) (by
 intro r h F; refine sM ?_; refine sg fun _ Q2 => ?_; refine sg fun _ Q3 => ?_; simp only [go_sem]; refine q0o h fun v_0 h => ?_; simp only [go_sem]; refine q8 Q3 (sB h (fun _ h => ?_) fun _ h => ?_)
 · exact au
 ·
  refine y5 (q8 Q2 (jg fun _ Q5 => ?_)); refine sM ?_; refine w9 fun _ Q7 => ?_; refine d9 h [2, 3] (fun t10_1 => ([(10, .v (.int .i64 t10_1))], [(0, .box (Row.row a_0)), (1, .box (Row.row b_0))])) 2 ?_; rintro m_1 t10_1 h _ Q8; rw [z1d] at h; refine sM ?_; refine sg fun _ Q10 => ?_; refine sB h (fun _ h => ?_) fun _ h => ?_
  · refine y5 (q8 Q10 (sg fun _ Q11 => ?_)); refine w9 fun _ Q12 => ?_; refine sM ?_; refine sg fun _ Q14 => ?_; refine q02 ?_; refine j9m ?_; obtain ⟨F, h⟩ := bG F h; obtain ⟨xv_2, ex2, h⟩ := z8 h; obtain ⟨f2a, f2b, f2c, fxv_2d⟩ := q4k (f := (fun y => AV.v (.int .i64 y))) [.v (.int .i64 a_0.D)] [] ex2; simp only [List.cons_append, List.nil_append, List.append_nil, List.map_cons, List.map_nil, List.length_cons, List.length_nil, Nat.zero_add, Nat.reduceAdd] at f2b f2c fxv_2d; obtain ⟨F, h⟩ := bG F h; obtain ⟨xv_3, ex3, h⟩ := z8 h; obtain ⟨f3a, f3b, f3c, fxv_3d⟩ := q4k (f := (fun y => AV.v (.int .i64 y))) [.v (.int .i64 b_0.D)] [] ex3; simp only [List.cons_append, List.nil_append, List.append_nil, List.map_cons, List.map_nil, List.length_cons, List.length_nil, Nat.zero_add, Nat.reduceAdd] at f3b f3c fxv_3d; simp only [go_sem, f2a, f2b, f2c, fxv_2d, f3a, f3b, f3c, fxv_3d, F]; refine ai ?_; refine ai ?_; simp only [List.getD_eq_getElem?_getD, Nat.mul_one, fxv_2d, Option.map_some, Option.getD_some, true_and, List.getD_eq_getElem?_getD, Nat.mul_one, fxv_3d, Option.map_some, Option.getD_some, true_and]; exact au
  · exact au)
def qw5 (a_0 : GTime) (b_0 : GTime) (rec_1 : Int → Option Bool) : Int → Option Bool :=
 fun t19_1 =>
 (if (decide (t19_1 < (min a_0.D b_0.D))) = true then x9 (0 ≤ t19_1 ∧ t19_1 < 4) (
 q9 (idx ([a_0.C.a0, a_0.C.a1, a_0.C.a2, a_0.C.a3] : List Int) t19_1) (fun xv_4 =>
 x9 (0 ≤ t19_1 ∧ t19_1 < 4) (
 q9 (idx ([b_0.C.a0, b_0.C.a1, b_0.C.a2, b_0.C.a3] : List Int) t19_1) (fun xv_5 =>
 (if (!(xv_4 == xv_5)) = true then x9 (0 ≤ t19_1 ∧ t19_1 < 4) (
 q9 (idx ([a_0.C.a0, a_0.C.a1, a_0.C.a2, a_0.C.a3] : List Int) t19_1) (fun xv_6 =>
 x9 (0 ≤ t19_1 ∧ t19_1 < 4) (
 q9 (idx ([b_0.C.a0, b_0.C.a1, b_0.C.a2, b_0.C.a3] : List Int) t19_1) (fun xv_7 =>
 some (decide (xv_6 < xv_7))))))
 else rec_1 (i64.wrap (t19_1 + 1)))))))
 else some (decide (a_0.D < b_0.D)))
def qa7 (a_0 : GTime) (b_0 : GTime) : Option Bool :=
 q9 (q21 a_0) (fun v_0 =>
 (if v_0 = true then q9 (q21 b_0) (fun v_1 =>
 (if (!v_1) = true then some false
 else x8 (qw5 a_0 b_0) rounds 0))
 else some false))
instance j8g (a_0 : GTime) (b_0 : GTime) : Ct pp 44 (qa7 a_0 b_0) [.agg (Row.row a_0), .agg (Row.row b_0)] fun r => (.v (.bool r)) := ctK Tryz.func44 rfl (by rw [qa7]) (by
 intro r h F; refine sM ?_; refine sg fun _ Q2 => ?_; refine sg fun _ Q3 => ?_; simp only [go_sem]; refine q0o h fun v_0 h => ?_; simp only [go_sem]; rcases hb_0 : v_0 with _ | _
 · replace h := q1m h hb_0; simp only [go_sem, hb_0]; exact au
 ·
  replace h := q1l h hb_0; simp only [go_sem, hb_0]; refine q0o h fun v_1 h => ?_; simp only [go_sem]; refine q8 Q3 (sB h (fun _ h => ?_) fun _ h => ?_)
  · exact au
  ·
   refine y5 (q8 Q2 (jg fun _ Q6 => ?_)); refine sM ?_; refine w9 fun _ Q8 => ?_; refine d9 h [2, 3, 18] (fun t19_1 => ([(19, .v (.int .i64 t19_1))], [(0, .box (Row.row a_0)), (1, .box (Row.row b_0))])) 2 ?_; rintro m_1 t19_1 h _ Q9; rw [qw5] at h; refine sM ?_; refine sg fun _ Q11 => ?_; refine sB h (fun _ h => ?_) fun _ h => ?_
   ·
    refine y5 (q8 Q11 (sg fun _ Q12 => ?_)); refine w9 fun _ Q13 => ?_; refine sM ?_; refine sg fun _ Q15 => ?_; refine q02 ?_; refine j9m ?_; obtain ⟨F, h⟩ := bG F h; obtain ⟨xv_4, ex4, h⟩ := z8 h; obtain ⟨f4a, f4b, f4c, fxv_4d⟩ := q4k (f := (fun y => AV.v (.int .i64 y))) [.v (.int .i64 a_0.D)] [] ex4; simp only [List.cons_append, List.nil_append, List.append_nil, List.map_cons, List.map_nil, List.length_cons, List.length_nil, Nat.zero_add, Nat.reduceAdd] at f4b f4c fxv_4d; obtain ⟨F, h⟩ := bG F h; obtain ⟨xv_5, ex5, h⟩ := z8 h; obtain ⟨f5a, f5b, f5c, fxv_5d⟩ := q4k (f := (fun y => AV.v (.int .i64 y))) [.v (.int .i64 b_0.D)] [] ex5; simp only [List.cons_append, List.nil_append, List.append_nil, List.map_cons, List.map_nil, List.length_cons, List.length_nil, Nat.zero_add, Nat.reduceAdd] at f5b f5c fxv_5d; simp only [go_sem, f4a, f4b, f4c, fxv_4d, f5a, f5b, f5c, fxv_5d, F]; refine ai ?_; refine ai ?_; simp only [List.getD_eq_getElem?_getD, Nat.mul_one, fxv_4d, Option.map_some, Option.getD_some, true_and, List.getD_eq_getElem?_getD, Nat.mul_one, fxv_5d, Option.map_some, Option.getD_some, true_and]; refine q8 Q15 (sB h (fun _ h => ?_) fun _ h => ?_)
    · refine sg fun _ Q16 => ?_; refine q02 ?_; refine j9m ?_; obtain ⟨F, h⟩ := bG F h; obtain ⟨xv_6, ex6, h⟩ := z8 h; obtain ⟨f6a, f6b, f6c, fxv_6d⟩ := q4k (f := (fun y => AV.v (.int .i64 y))) [.v (.int .i64 a_0.D)] [] ex6; simp only [List.cons_append, List.nil_append, List.append_nil, List.map_cons, List.map_nil, List.length_cons, List.length_nil, Nat.zero_add, Nat.reduceAdd] at f6b f6c fxv_6d; obtain ⟨F, h⟩ := bG F h; obtain ⟨xv_7, ex7, h⟩ := z8 h; obtain ⟨f7a, f7b, f7c, fxv_7d⟩ := q4k (f := (fun y => AV.v (.int .i64 y))) [.v (.int .i64 b_0.D)] [] ex7; simp only [List.cons_append, List.nil_append, List.append_nil, List.map_cons, List.map_nil, List.length_cons, List.length_nil, Nat.zero_add, Nat.reduceAdd] at f7b f7c fxv_7d; simp only [go_sem, f6a, f6b, f6c, fxv_6d, f7a, f7b, f7c, fxv_7d, F]; refine ai ?_; refine ai ?_; simp only [List.getD_eq_getElem?_getD, Nat.mul_one, fxv_6d, Option.map_some, Option.getD_some, true_and, List.getD_eq_getElem?_getD, Nat.mul_one, fxv_7d, Option.map_some, Option.getD_some, true_and]; exact au
    · exact au
   · exact au)
def qn7 (nv_0 : Int) : Option Bool :=
 some ((decide ((-2147483648) ≤ nv_0)) && (decide (nv_0 ≤ 2147483648)))
instance j8i (nv_0 : Int) : Ct pp 118 (qn7 nv_0) [.v (.int .i64 nv_0)] fun r => (.v (.bool r)) := ctI Tryz.func118 rfl (by rw [qn7]; exact au1)
def q8u (xv_0 : Int) : Option Bool :=
 some (!(xv_0 == xv_0))
instance zz3 (xv_0 : Int) : Ct pp 180 (q8u xv_0) [.v (.int .i64 xv_0)] fun r => (.v (.bool r)) := ctI Tryz.func180 rfl (by rw [q8u]; exact au1)
def q5s (xv_0 : Int) (y_0 : Int) : Option Int :=
 q9 (q8u xv_0) (fun v_0 =>
 q9 (q8u y_0) (fun v_1 =>
 (if v_0 = true then (if v_1 = true then some 0
 else some (-1))
 else (if v_1 = true then some 1
 else (if (decide (xv_0 < y_0)) = true then some (-1)
 else (if (decide (y_0 < xv_0)) = true then some 1
 else some 0))))))
instance z3i (xv_0 : Int) (y_0 : Int) : Ct pp 166 (q5s xv_0 y_0) [.v (.int .i64 xv_0), .v (.int .i64 y_0)] fun r => (.v (.int .i64 r)) := ctI Tryz.func166 rfl (by rw [q5s]; exact au1)
def qk9 (vals_0 : List Int) (rec_1 : Int → Option Int) : Int → Option Int :=
 fun t8_1 =>
 (if (decide (t8_1 < (vals_0.length : Int))) = true then q9 (idx vals_0 t8_1) (fun xv_2 =>
 (if (!(xv_2 == 0)) = true then some xv_2
 else rec_1 (i64.wrap (t8_1 + 1))))
 else some 0)
def qn6 (vals_0 : List Int) : Option Int :=
 x8 (qk9 vals_0) rounds 0
instance z9a (vals_0 : List Int) : Ct pp 165 (qn6 vals_0) [.sl 1 (enc vals_0)] fun r => (.v (.int .i64 r)) := ctK Tryz.func165 rfl (by rw [qn6]) (by
 intro r h F; refine sM ?_; refine sM ?_; refine jg fun _ Q3 => ?_; refine sM ?_; refine w9 fun _ Q5 => ?_; refine d9 h [3, 6, 7] (fun t8_1 => ([(8, .v (.int .i64 t8_1))], [])) 0 ?_; rintro m_1 t8_1 h _ Q6; rw [qk9] at h; exact au)
def qk2 (a_0 : GRec) (b_0 : GRec) : Option Int :=
 q9 (q5s a_0.K b_0.K) (fun v_0 =>
 q9 (q5s a_0.V b_0.V) (fun v_1 =>
 q9 (qn6 ([v_0, v_1] : List Int)) (fun v_2 =>
 some v_2)))
instance j6k (a_0 : GRec) (b_0 : GRec) : Ct pp 150 (qk2 a_0 b_0) [.agg (Row.row a_0), .agg (Row.row b_0)] fun r => (.v (.int .i64 r)) := ctK Tryz.func150 rfl (by rw [qk2]) (by
 intro r h F; refine sM ?_; refine sg fun _ Q2 => ?_; refine q02 ?_; refine j9m ?_; obtain ⟨v_0, ev_0, h⟩ := z8 h; simp only [go_sem]; refine callq (fun _ => (z3i a_0.K b_0.K v_0 ev_0)) (by rfl) (by rfl) ?_; simp only [go_sem]; refine q0o h fun v_1 h => ?_; have rf_0 : [[.v (.int .i64 v_0)], [.v (.int .i64 v_1)]] = enc ([v_0, v_1] : List Int) := by rfl
 obtain ⟨v_2, ev_2, h⟩ := z8 h; simp only [go_sem]; simp only [rf_0]; refine qj2 (z9a ([v_0, v_1] : List Int) v_2 ev_2) ?_; simp only [go_sem]; exact au)
def qx8 (a_0 : GRec) (b_0 : GRec) : Option Bool :=
 q9 (qk2 a_0 b_0) (fun v_0 =>
 some (decide (v_0 < 0)))
instance j7i (a_0 : GRec) (b_0 : GRec) : Ct pp 119 (qx8 a_0 b_0) [.agg (Row.row a_0), .agg (Row.row b_0)] fun r => (.v (.bool r)) := ctI Tryz.func119 rfl (by rw [qx8]; exact au1)
def q3p (xv_0 : List GItem) (target_0 : GRec) (cmp_0 : GItem → GRec → Option Int) (i_2 : Int) : Option (Int × Bool) :=
 (if (decide (i_2 < (xv_0.length : Int))) = true then q9 (idx xv_0 i_2) (fun xv_4 =>
 q9 (cmp_0 xv_4 target_0) (fun v_3 =>
 some (i_2, (v_3 == 0))))
 else some (i_2, false))
def q67 (xv_0 : List GItem) (target_0 : GRec) (cmp_0 : GItem → GRec → Option Int) (rec_2 : Int × Int → Option (Int × Bool)) : Int × Int → Option (Int × Bool) :=
 fun (i_4, j_3) =>
 (if (decide (i_4 < j_3)) = true then q9 (idx xv_0 (i64.wrap (q1o .u64 (IntKind.u64.wrap (i64.wrap (i_4 + j_3))) 1))) (fun xv_7 =>
 q9 (cmp_0 xv_7 target_0) (fun v_6 =>
 (if (decide (v_6 < 0)) = true then rec_2 (i64.wrap ((i64.wrap (q1o .u64 (IntKind.u64.wrap (i64.wrap (i_4 + j_3))) 1)) + 1), j_3)
 else rec_2 (i_4, i64.wrap (q1o .u64 (IntKind.u64.wrap (i64.wrap (i_4 + j_3))) 1)))))
 else q3p xv_0 target_0 cmp_0 i_4)
def q39 (xv_0 : List GItem) (target_0 : GRec) (cmp_0 : GItem → GRec → Option Int) : Option (Int × Bool) :=
 x8 (q67 xv_0 target_0 cmp_0) rounds (0, (xv_0.length : Int))
theorem qu4 (xv_0 : List GItem) (target_0 : GRec) (cmp_0 : GItem → GRec → Option Int) (g_cmp_0 : FuncId) (c_cmp_0 : List AV) (F_cmp_0 : q00 c_cmp_0 = true) (E_cmp_0 : y8 pp g_cmp_0 = true) (H_cmp_0 : ∀ (x0 : GItem) (x1 : GRec) (r : Int), cmp_0 x0 x1 = some r → PureS pp g_cmp_0 ([.agg (Row.row x0), .agg (Row.row x1)] ++ c_cmp_0) 0 (.v (.int .i64 r))) (r : Int × Bool) (h : q39 xv_0 target_0 cmp_0 = some r) : PureS pp 171 [.sl 3 (enc xv_0), .agg (Row.row target_0), .clo g_cmp_0 c_cmp_0] 0 (.tup [.v (.int .i64 r.1), .v (.bool r.2)]) := by
 refine ptI Tryz.func171 rfl ?_; rw [q39] at h; have F := trivial; refine sM ?_; refine sM ?_; refine sM ?_; refine q1n (fun (i_2 : Int) => q3p xv_0 target_0 cmp_0 i_2 = some r) [0, 2, 4, 8] (fun i_2 => ([(9, .v (.int .i64 i_2))], [(0, .box (Row.row target_0))])) 1 ?_ ?_
 ·
  intro _ Q5; refine w9 fun _ Q6 => ?_; refine d9 h [0, 2, 4, 8] (fun x => ([(9, .v (.int .i64 x.1)), (10, .v (.int .i64 x.2))], [(0, .box (Row.row target_0))])) 1 ?_; rintro m_2 ⟨i_4, j_3⟩ h _ Q7; rw [q67] at h; refine sg fun _ Q8 => ?_; refine sM ?_; refine sB h (fun _ h => ?_) fun _ h => ?_
  ·
   refine y5 (q8 Q8 (w9 fun _ Q10 => ?_)); refine sM ?_; refine sg fun _ Q12 => ?_; refine q02 ?_; refine j9m ?_; obtain ⟨xv_7, F, h⟩ := bI F h; obtain ⟨v_6, ev_6, h⟩ := z8 h; simp only [go_sem, E_cmp_0, F]; refine ai ?_; refine q6k (H_cmp_0 xv_7 target_0 v_6 ev_6) (by rfl) (by simp [go_sem, q00, q09, F_cmp_0]) ?_; simp only [go_sem]; refine q8 Q12 (sB h (fun _ h => ?_) fun _ h => ?_)
   · simp only [go_sem]; refine q05 Q10 (u7 Q7 ?_); exact nxC _ h [some 0] leA
   · simp only [go_sem]; refine q05 Q10 (u7 Q7 ?_); exact nxC _ h [some 0] leA
  · refine q0i (q0r Q8 (q0j Q7 (q0d Q6 (u7 Q5 (⟨i_4, [some 0], ?_, h⟩))))); exact leA
 ·
  rintro i_2 h
  try dsimp only at h
  rw [q3p] at h; refine sg fun _ Q4 => ?_; refine q02 ?_; refine j9m ?_; simp only [go_sem]; rcases hb_6 : (decide (i_2 < (xv_0.length : Int))) with _ | _
  · replace h := q1m h hb_6; simp only [go_sem, hb_6]; refine q8 Q4 (q04 ?_); simp only [go_sem]; obtain rfl := Option.some.inj h; refine q1u rfl ?_; exact leA
  · replace h := q1l h hb_6; obtain ⟨xv_4, F, h⟩ := bI F h; obtain ⟨v_3, ev_3, h⟩ := z8 h; simp only [go_sem, hb_6, E_cmp_0, F]; refine ai ?_; refine ai ?_; refine callq (fun _ => (H_cmp_0 xv_4 target_0 v_3 ev_3)) (by rfl) (by simp [go_sem, q00, q09, F_cmp_0]) ?_; simp only [go_sem]; refine q8 Q4 (q04 ?_); simp only [go_sem]; obtain rfl := Option.some.inj h; refine q1u rfl ?_; exact leA
def qc0 (xv_0 : GItem) (rv_0 : GRec) : Option Int :=
 q9 (qk2 xv_0.Rec rv_0) (fun v_0 =>
 some v_0)
instance zb0 (xv_0 : GItem) (rv_0 : GRec) : Ct pp 172 (qc0 xv_0 rv_0) [.agg (Row.row xv_0), .agg (Row.row rv_0)] fun r => (.v (.int .i64 r)) := ctI Tryz.func172 rfl (by rw [qc0]; exact au1)
def qq1 (b_0 : List GItem) (rec_1 : Int → Option Bool) : Int → Option Bool :=
 fun t7_1 =>
 (if (decide (t7_1 < (b_0.length : Int))) = true then q9 (idx b_0 t7_1) (fun xv_4 =>
 (if (xv_4.N == 0) = true then some false
 else q9 (qn7 xv_4.N) (fun v_4 =>
 (if v_4 = true then (if (decide (0 < t7_1)) = true then q9 (idx b_0 (i64.wrap (t7_1 - 1))) (fun xv_5 =>
 q9 (qx8 xv_5.Rec xv_4.Rec) (fun v_5 =>
 (if (!v_5) = true then some false
 else rec_1 (i64.wrap (t7_1 + 1)))))
 else rec_1 (i64.wrap (t7_1 + 1)))
 else some false))))
 else some true)
def q1k (b_0 : List GItem) : Option Bool :=
 x8 (qq1 b_0) rounds 0
instance j6m (b_0 : List GItem) : Ct pp 71 (q1k b_0) [.sl 3 (enc b_0)] fun r => (.v (.bool r)) := ctK Tryz.func71 rfl (by rw [q1k]) (by
 intro r h F; refine sM ?_; refine jg fun _ Q2 => ?_; refine sM ?_; refine w9 fun _ Q4 => ?_; refine d9 h [0, 5, 6] (fun t7_1 => ([(7, .v (.int .i64 t7_1))], [])) 0 ?_; rintro m_1 t7_1 h _ Q5; rw [qq1] at h; exact au)
def q43 (s1_0 : List GItem) (s2_0 : List GItem) (rec_1 : Int → Option Bool) : Int → Option Bool :=
 fun t13_1 =>
 (if (decide (t13_1 < (s1_0.length : Int))) = true then q9 (idx s1_0 t13_1) (fun xv_4 =>
 q9 (idx s2_0 t13_1) (fun xv_5 =>
 (if (!((xv_4.Rec.K == xv_5.Rec.K) && ((xv_4.Rec.V == xv_5.Rec.V) && (xv_4.N == xv_5.N)))) = true then some false
 else rec_1 (i64.wrap (t13_1 + 1)))))
 else some true)
def q7z (s1_0 : List GItem) (s2_0 : List GItem) : Option Bool :=
 (if (!((s1_0.length : Int) == (s2_0.length : Int))) = true then some false
 else x8 (q43 s1_0 s2_0) rounds 0)
instance zr4 (s1_0 : List GItem) (s2_0 : List GItem) : Ct pp 144 (q7z s1_0 s2_0) [.sl 3 (enc s1_0), .sl 3 (enc s2_0)] fun r => (.v (.bool r)) := ctK Tryz.func144 rfl (by rw [q7z]) (by
 intro r h F; refine sM ?_; refine sg fun _ Q2 => ?_; refine sM ?_; refine sB h (fun _ h => ?_) fun _ h => ?_
 · exact au
 · refine y5 (q8 Q2 (jg fun _ Q5 => ?_)); refine sM ?_; refine w9 fun _ Q7 => ?_; refine d9 h [0, 1, 12] (fun t13_1 => ([(13, .v (.int .i64 t13_1))], [])) 0 ?_; rintro m_1 t13_1 h _ Q8; rw [q43] at h; exact au)
def qh4 (a_0 : List GItem) (b_0 : List GItem) : Option Bool :=
 q9 (q7z a_0 b_0) (fun v_0 =>
 some v_0)
instance j7g (a_0 : List GItem) (b_0 : List GItem) : Ct pp 106 (qh4 a_0 b_0) [.sl 3 (enc a_0), .sl 3 (enc b_0)] fun r => (.v (.bool r)) := ctI Tryz.func106 rfl (by rw [qh4]; exact au1)
def q4a (s_0 : List GItem) : Option (List GItem) :=
 x9 ((List.length ([] : List GItem) + s_0.length) * 24 ≤ 140737488355328) (
 some (([] : List GItem) ++ s_0))
theorem q9x (s_0 : List GItem)  (r : List GItem) (h : q4a s_0 = some r) : DetS pp 159 [.sl 3 (enc s_0)] [] 0 (.osl 0 3 (0) (r.length)) [(0, .arr 3 (enc r))] 1 := by
 refine dtI Tryz.func159 rfl ?_; rw [q4a] at h; have F := trivial; refine sM ?_; refine sg fun _ Q2 => ?_; refine sg fun _ Q3 => ?_; simp only [go_sem]; intro nb_0 hnb_0; rcases nb_0 with _ | _
 ·
  refine q8 Q3 (jf2 ?_); refine y5 (q8 Q2 (sg fun _ Q4 => ?_)); obtain ⟨g_0, h⟩ := q0v h; have F := And.intro F g_0; simp only [List.length_cons, List.length_nil, Nat.zero_add, List.length_append] at g_0; have rf_0 : enc ([] : List GItem) ++ enc s_0 = enc (([] : List GItem) ++ s_0) := by exact (q6f ([] : List GItem) s_0).symm
  simp only [go_sem, g_0, rf_0]; exact au
 ·
  have hE_nb_0 : s_0 = [] := by cases hq : (s_0) with | nil => rfl | cons y ys => exact absurd (hnb_0 (by rw [hq]; simp [enc])) (by simp)
  simp only [hE_nb_0] at h; exact au
instance zr7 (s_0 : List GItem) : Ct pp 159 (q4a s_0) [.sl 3 (enc s_0)] fun r => (.sl 3 (enc r)) := ⟨fun r h => (q9x s_0  r h).pure leA⟩
def q1q (x_0 : List GItem) (i_0 : Int) (v_0 : List GItem) : Option (List GItem) := z00 24 x_0 i_0 v_0
theorem qr3 : InsLay pp (z6i 173 182 183 0 3 4 135 73) 3 24 (.agg #[.int .i64 0, .int .i64 0, .int .i64 0] : Value) := { mixed := by kernel_rfl, t0 := Tryz.underlying0, a0 := Tryz.isAgg0, z0 := Tryz.sizeOf0, v0 := Tryz.zeroValue0, t3 := Tryz.underlying3, a3 := Tryz.isAgg3, z3 := Tryz.sizeOf3, v3 := Tryz.zeroValue3, t4 := Tryz.underlying4, a4 := Tryz.isAgg4, z4 := Tryz.sizeOf4, v4 := Tryz.zeroValue4, t24 := Tryz.underlying73, a24 := Tryz.isAgg73, z24 := Tryz.sizeOf73, v24 := Tryz.zeroValue73, z9 := Tryz.sizeOf135, i9 := z7e (by kernel_rfl), f22 := ⟨"slices.Insert[[]backwash/api.Item,backwash/api.Item]", by decide, by kernel_rfl⟩, ov := ⟨_, Tryz.func182, by kernel_rfl, by kernel_rfl, by kernel_rfl, by kernel_rfl⟩ }
theorem qr4 (x_0 : List GItem) (i_0 : Int) (v_0 : List GItem) (r : List GItem) (h : q1q x_0 i_0 v_0 = some r) : DetS pp 173 [.osl 0 3 0 (x_0.length), .v (.int .i64 i_0), .osl 1 3 0 (v_0.length)] [(0, .arr 3 (enc x_0)), (1, .arr 3 (enc v_0))] 2 (.osl 2 3 0 (r.length)) [(2, .arr 3 (enc r))] 3 :=
  z4u qr3 (by kernel_rfl) (by kernel_rfl) (by decide) (by rfl) (by decide) rfl (fun _ => rfl) h
def q6h (x_0 : List GItem) (i_0 : Int) (j_0 : Int) : Option (List GItem) := z1k x_0 i_0 j_0
theorem qy6 : DelLay pp (z6i 174 0 0 0 3 4 135 73) 3 (.agg #[.int .i64 0, .int .i64 0, .int .i64 0] : Value) := { mixed := by kernel_rfl, t0 := Tryz.underlying0, a0 := Tryz.isAgg0, z0 := Tryz.sizeOf0, v0 := Tryz.zeroValue0, t3 := Tryz.underlying3, a3 := Tryz.isAgg3, z3 := Tryz.sizeOf3, v3 := Tryz.zeroValue3, t4 := Tryz.underlying4, a4 := Tryz.isAgg4, z4 := Tryz.sizeOf4, v4 := Tryz.zeroValue4, t24 := Tryz.underlying73, a24 := Tryz.isAgg73, z24 := Tryz.sizeOf73, v24 := Tryz.zeroValue73, z9 := Tryz.sizeOf135, v9 := Tryz.zeroValue135, i9 := zl2 (b := 24) (by kernel_rfl), f24 := ⟨"slices.Delete[[]backwash/api.Item,backwash/api.Item]", by decide, by kernel_rfl⟩ }
theorem qy7 (x_0 : List GItem) (i_0 : Int) (j_0 : Int) (r : List GItem) (h : q6h x_0 i_0 j_0 = some r) : DetS pp 174 [.osl 0 3 0 (x_0.length), .v (.int .i64 i_0), .v (.int .i64 j_0)] [(0, .arr 3 (enc x_0))] 1 (.osl 1 3 0 (r.length)) [(1, .arr 3 (enc r))] 2 :=
  z9k qy6 (by kernel_rfl) (by decide) (by rfl) (by rfl) (fun _ => rfl) h
def q45 (b_0 : List GItem) (rv_0 : GRec) (nv_0 : Int) : Option (List GItem) :=
 q9 (q39 b_0 rv_0 (fun x0_ x1_ => qc0 x0_ x1_)) (fun v_0 =>
 (if (nv_0 == 0) = true then some b_0
 else q9 (qn7 nv_0) (fun v_1 =>
 (if (!v_1) = true then some b_0
 else (if (!v_0.2) = true then q9 (q1q b_0 v_0.1 ([(⟨rv_0, nv_0⟩ : GItem)] : List GItem)) (fun v_2 =>
 some v_2)
 else q9 (idx b_0 v_0.1) (fun xv_0 =>
 (if ((i64.wrap (xv_0.N + nv_0)) == 0) = true then q9 (q6h b_0 v_0.1 (i64.wrap (v_0.1 + 1))) (fun v_3 =>
 some v_3)
 else q9 (qn7 (i64.wrap (xv_0.N + nv_0))) (fun v_4 =>
 (if v_4 = true then some (List.set b_0 (v_0.1.toNat) (⟨xv_0.Rec, i64.wrap (xv_0.N + nv_0)⟩ : GItem))
 else some b_0)))))))))
theorem z0s (b_0 : List GItem) (rv_0 : GRec) (nv_0 : Int)  (r : List GItem) (h : q45 b_0 rv_0 nv_0 = some r) : DetS pp 160 [.osl 0 3 (0) (b_0.length), .agg (Row.row rv_0), .v (.int .i64 nv_0)] [(0, .arr 3 (enc b_0))] 1 (.osl 1 3 (0) (r.length)) [(1, .arr 3 (enc r))] 2 := by
 refine dtI Tryz.func160 rfl ?_; rw [q45] at h; have F := trivial; refine sM ?_; refine sg fun _ Q2 => ?_; obtain ⟨v_0, ev_0, h⟩ := z8 h; simp only [go_sem]; refine qj2 (qu4 b_0 rv_0 (fun x0_ x1_ => qc0 x0_ x1_) 172 [] (by rfl) (by kernel_rfl) (fun y0 y1 r_ e_ => zb0 y0 y1 r_ e_) v_0 ev_0) ?_; simp only [go_sem]; refine q8 Q2 (jg fun _ Q3 => ?_); refine w9 fun _ Q4 => ?_; refine sg fun _ Q5 => ?_; simp only [go_sem]; rcases hb_0 : (nv_0 == 0) with _ | _
 ·
  replace h := q1m h hb_0; simp only [go_sem, hb_0]; refine q0o h fun v_1 h => ?_; simp only [go_sem]; refine q8 Q5 (sB h (fun _ h => ?_) fun _ h => ?_)
  · exact au
  ·
   refine sM ?_; refine sB h (fun _ h => ?_) fun _ h => ?_
   ·
    refine sg fun _ Q8 => ?_; have rf_0 : [[.v (.int .i64 rv_0.K), .v (.int .i64 rv_0.V), .v (.int .i64 nv_0)]] = enc ([(⟨rv_0, nv_0⟩ : GItem)] : List GItem) := by rfl
    obtain ⟨v_2, ev_2, h⟩ := z8 h; simp only [go_sem]; simp only [rf_0]; refine q0b [0, 2] (qr4 b_0 v_0.1 ([(⟨rv_0, nv_0⟩ : GItem)] : List GItem) v_2 ev_2) ?_; simp only [go_sem]; exact au
   ·
    refine sg fun _ Q9 => ?_; obtain ⟨xv_0, F, h⟩ := bI F h; simp only [go_sem, F]; refine ai ?_; refine q8 Q9 (sB h (fun _ h => ?_) fun _ h => ?_)
    · refine sg fun _ Q10 => ?_; obtain ⟨v_3, ev_3, h⟩ := z8 h; simp only [go_sem]; refine q0b [0] (qy7 b_0 v_0.1 (i64.wrap (v_0.1 + 1)) v_3 ev_3) ?_; simp only [go_sem]; exact au
    ·
     refine sg fun _ Q11 => ?_; simp only [go_sem, F]; refine ai ?_; refine q0o h fun v_4 h => ?_; simp only [go_sem]; refine q8 Q11 (sB h (fun _ h => ?_) fun _ h => ?_)
     · have rf_1 := q1a b_0 (v_0.1.toNat) (⟨xv_0.Rec, i64.wrap (xv_0.N + nv_0)⟩ : GItem); simp only [j0k] at rf_1; simp only [go_sem, rf_1, F]; refine ai ?_; refine ai ?_; exact au
     · exact au
 · replace h := q1l h hb_0; simp only [go_sem, hb_0]; exact au
def qf2 (b_0 : List GItem) (rv_0 : GRec) (nv_0 : Int) : Option (List GItem) :=
 q9 (q4a b_0) (fun v_0 =>
 q9 (q1k b_0) (fun v_1 =>
 (if (!v_1) = true then some v_0
 else q9 (q45 v_0 rv_0 nv_0) (fun v_2 =>
 some v_2))))
theorem z5n (b_0 : List GItem) (rv_0 : GRec) (nv_0 : Int)  (r : List GItem) (h : qf2 b_0 rv_0 nv_0 = some r) : DetS pp 134 [.sl 3 (enc b_0), .agg (Row.row rv_0), .v (.int .i64 nv_0)] [] 0 (.osl 0 3 (0) (r.length)) [(0, .arr 3 (enc r))] 1 := by
 refine dtI Tryz.func134 rfl ?_; rw [qf2] at h; have F := trivial; refine sM ?_; refine sg fun _ Q2 => ?_; obtain ⟨v_0, ev_0, h⟩ := z8 h; simp only [go_sem]; refine q0b [] (q9x b_0 v_0 ev_0) ?_; simp only [go_sem]; refine q8 Q2 (sg fun _ Q3 => ?_); refine sg fun _ Q4 => ?_; simp only [go_sem]; refine q0o h fun v_1 h => ?_; simp only [go_sem]; refine q8 Q4 (sB h (fun _ h => ?_) fun _ h => ?_)
 · exact au
 · refine y5 (q8 Q3 (sg fun _ Q6 => ?_)); obtain ⟨v_2, ev_2, h⟩ := z8 h; simp only [go_sem]; refine q0b [1] (z0s v_0 rv_0 nv_0 v_2 ev_2) ?_; simp only [go_sem]; exact au
instance zl8 (b_0 : List GItem) (rv_0 : GRec) (nv_0 : Int) : Ct pp 134 (qf2 b_0 rv_0 nv_0) [.sl 3 (enc b_0), .agg (Row.row rv_0), .v (.int .i64 nv_0)] fun r => (.sl 3 (enc r)) := ⟨fun r h => (z5n b_0 rv_0 nv_0  r h).pure leA⟩
def q8k (b_0 : List GItem) (times_0 : Int) (rec_1 : Int × (List GItem) → Option (List GItem)) : Int × (List GItem) → Option (List GItem) :=
 fun (t23_1, a_2) =>
 (if (decide (t23_1 < (b_0.length : Int))) = true then q9 (idx b_0 t23_1) (fun xv_2 =>
 q9 (q45 a_2 xv_2.Rec (i64.wrap (times_0 * xv_2.N))) (fun v_5 =>
 rec_1 (i64.wrap (t23_1 + 1), v_5)))
 else some a_2)
def q8g (a_0 : List GItem) (b_0 : List GItem) (times_0 : Int) : Option (List GItem) :=
 q9 (q4a a_0) (fun v_0 =>
 q9 (q1k a_0) (fun v_1 =>
 (if v_1 = true then q9 (q1k b_0) (fun v_2 =>
 (if (!v_2) = true then some v_0
 else x8 (q8k b_0 times_0) rounds (0, v_0)))
 else some v_0)))
theorem qu6 (a_0 : List GItem) (b_0 : List GItem) (times_0 : Int)  (r : List GItem) (h : q8g a_0 b_0 times_0 = some r) : DetS pp 136 [.sl 3 (enc a_0), .sl 3 (enc b_0), .v (.int .i64 times_0)] [] 0 (.osl 0 3 (0) (r.length)) [(0, .arr 3 (enc r))] 1 := by
 refine dtI Tryz.func136 rfl ?_; rw [q8g] at h; have F := trivial; refine sM ?_; refine sg fun _ Q2 => ?_; obtain ⟨v_0, ev_0, h⟩ := z8 h; simp only [go_sem]; refine q0b [] (q9x a_0 v_0 ev_0) ?_; simp only [go_sem]; refine q8 Q2 (sg fun _ Q3 => ?_); refine sg fun _ Q4 => ?_; simp only [go_sem]; refine q0o h fun v_1 h => ?_; simp only [go_sem]; rcases hb_0 : v_1 with _ | _
 · replace h := q1m h hb_0; simp only [go_sem, hb_0]; exact au
 ·
  replace h := q1l h hb_0; simp only [go_sem, hb_0]; refine q0o h fun v_2 h => ?_; simp only [go_sem]; refine q8 Q4 (sB h (fun _ h => ?_) fun _ h => ?_)
  · exact au
  ·
   refine y5 (q8 Q3 (jg fun _ Q7 => ?_)); refine sM ?_; refine w9 fun _ Q9 => ?_; refine d9 h [2, 21, 22] (fun x => ([(7, .osl 0 3 (0) (x.2.length)), (23, .v (.int .i64 x.1))], [(0, .arr 3 (enc x.2))])) 1 ?_; rintro m_1 ⟨t23_1, a_2⟩ h _ Q10; rw [q8k] at h; refine sM ?_; refine sg fun _ Q12 => ?_; refine sB h (fun _ h => ?_) fun _ h => ?_
   · refine y5 (q8 Q12 (sg fun _ Q13 => ?_)); refine w9 fun _ Q14 => ?_; refine sg fun _ Q15 => ?_; obtain ⟨xv_2, F, h⟩ := bI F h; simp only [go_sem, F]; refine ai ?_; refine q8 Q15 ?_; obtain ⟨v_5, ev_5, h⟩ := z8 h; simp only [go_sem]; refine q0b [0] (z0s a_2 xv_2.Rec (i64.wrap (times_0 * xv_2.N)) v_5 ev_5) ?_; simp only [go_sem]; exact au
   · exact au
instance j4w (a_0 : List GItem) (b_0 : List GItem) (times_0 : Int) : Ct pp 136 (q8g a_0 b_0 times_0) [.sl 3 (enc a_0), .sl 3 (enc b_0), .v (.int .i64 times_0)] fun r => (.sl 3 (enc r)) := ⟨fun r h => (qu6 a_0 b_0 times_0  r h).pure leA⟩
def qx6 (a_0 : List GItem) (b_0 : List GItem) : Option (List GItem) :=
 q9 (q8g a_0 b_0 1) (fun v_0 =>
 some v_0)
theorem z4e (a_0 : List GItem) (b_0 : List GItem)  (r : List GItem) (h : qx6 a_0 b_0 = some r) : DetS pp 96 [.sl 3 (enc a_0), .sl 3 (enc b_0)] [] 0 (.osl 0 3 (0) (r.length)) [(0, .arr 3 (enc r))] 1 := by
 refine dtI Tryz.func96 rfl ?_; rw [qx6] at h; have F := trivial; refine sM ?_; refine sg fun _ Q2 => ?_; obtain ⟨v_0, ev_0, h⟩ := z8 h; simp only [go_sem]; refine q0b [] (qu6 a_0 b_0 1 v_0 ev_0) ?_; simp only [go_sem]; exact au
instance j7h (a_0 : List GItem) (b_0 : List GItem) : Ct pp 96 (qx6 a_0 b_0) [.sl 3 (enc a_0), .sl 3 (enc b_0)] fun r => (.sl 3 (enc r)) := ⟨fun r h => (z4e a_0 b_0  r h).pure leA⟩
def qp9 (b_0 : List GItem) (a_2 : List GItem) : Option (List GItem) :=
 q9 (q1k b_0) (fun v_0 =>
 (if (!v_0) = true then some ([] : List GItem)
 else some a_2))
def qq0 (b_0 : List GItem) (rec_2 : Int × (List GItem) → Option (List GItem)) : Int × (List GItem) → Option (List GItem) :=
 fun (t8_3, a_4) =>
 (if (decide (t8_3 < (b_0.length : Int))) = true then q9 (idx b_0 t8_3) (fun xv_5 =>
 (if (decide (0 < xv_5.N)) = true then x9 ((a_4.length + List.length ([xv_5] : List GItem)) * 24 ≤ 140737488355328) (
 rec_2 (i64.wrap (t8_3 + 1), (a_4 ++ ([xv_5] : List GItem))))
 else rec_2 (i64.wrap (t8_3 + 1), a_4)))
 else qp9 b_0 a_4)
def q6o (b_0 : List GItem) : Option (List GItem) :=
 x8 (qq0 b_0) rounds (0, [])
theorem q8l (b_0 : List GItem)  (r : List GItem) (h : q6o b_0 = some r) : DetS pp 98 [.sl 3 (enc b_0)] [] 0 (.osl 0 3 (0) (r.length)) [(0, .arr 3 (enc r))] 1 := by
 refine dtI Tryz.func98 rfl ?_; rw [q6o] at h; have F := trivial; refine sM ?_; refine sM ?_; refine q1n (fun (a_2 : (List GItem)) => qp9 b_0 a_2 = some r) [0] (fun a_2 => ([(3, .osl 0 3 (0) (a_2.length))], [(0, .arr 3 (enc a_2))])) 1 ?_ ?_
 ·
  intro _ Q7; refine sM ?_; refine w9 fun _ Q9 => ?_; refine d9 h [0, 6, 7] (fun x => ([(3, .osl 0 3 (0) (x.2.length)), (8, .v (.int .i64 x.1))], [(0, .arr 3 (enc x.2))])) 1 ?_; rintro m_2 ⟨t8_3, a_4⟩ h _ Q10; rw [qq0] at h; refine sM ?_; refine sg fun _ Q12 => ?_; refine sB h (fun _ h => ?_) fun _ h => ?_
  ·
   refine y5 (q8 Q12 (jg fun _ Q13 => ?_)); refine w9 fun _ Q14 => ?_; refine sg fun _ Q15 => ?_; obtain ⟨xv_5, F, h⟩ := bI F h; simp only [go_sem, F]; refine ai ?_; refine q8 Q15 (sM ?_); refine sB h (fun _ h => ?_) fun _ h => ?_
   ·
    have rf_8 : [[.v (.int .i64 xv_5.Rec.K), .v (.int .i64 xv_5.Rec.V), .v (.int .i64 xv_5.N)]] = enc ([xv_5] : List GItem) := by rfl
    obtain ⟨g_5, h⟩ := q0v h; have F := And.intro F g_5; simp only [List.length_cons, List.length_nil, Nat.zero_add, List.length_append] at g_5; have rf_9 : enc a_4 ++ [[.v (.int .i64 xv_5.Rec.K), .v (.int .i64 xv_5.Rec.V), .v (.int .i64 xv_5.N)]] = enc (a_4 ++ ([xv_5] : List GItem)) := by exact (q6f a_4 ([xv_5] : List GItem)).symm
    simp only [go_sem, g_5, rf_9]; simp only [rf_8]; exact au
   · exact au
  · exact au
 ·
  rintro a_2 h
  try dsimp only at h
  rw [qp9] at h; exact au
instance j6l (b_0 : List GItem) : Ct pp 98 (q6o b_0) [.sl 3 (enc b_0)] fun r => (.sl 3 (enc r)) := ⟨fun r h => (q8l b_0  r h).pure leA⟩
def q7w (a_0 : List GItem) (b_0 : List GItem) (rec_1 : Int → Option Bool) : Int → Option Bool :=
 fun i_1 =>
 (if (decide (i_1 < (a_0.length : Int))) = true then q9 (idx a_0 i_1) (fun xv_4 =>
 q9 (idx b_0 i_1) (fun xv_5 =>
 (if (!((xv_4.Rec.K == xv_5.Rec.K) && ((xv_4.Rec.V == xv_5.Rec.V) && (xv_4.N == xv_5.N)))) = true then some false
 else rec_1 (i64.wrap (i_1 + 1)))))
 else some true)
def q2w (a_0 : List GItem) (b_0 : List GItem) : Option Bool :=
 (if (!((a_0.length : Int) == (b_0.length : Int))) = true then some false
 else x8 (q7w a_0 b_0) rounds 0)
instance zp9 (a_0 : List GItem) (b_0 : List GItem) : Ct pp 68 (q2w a_0 b_0) [.sl 3 (enc a_0), .sl 3 (enc b_0)] fun r => (.v (.bool r)) := ctK Tryz.func68 rfl (by rw [q2w]) (by
 intro r h F; refine sM ?_; refine sg fun _ Q2 => ?_; refine sM ?_; refine sB h (fun _ h => ?_) fun _ h => ?_
 · exact au
 · refine y5 (q8 Q2 (jg fun _ Q5 => ?_)); refine sM ?_; refine w9 fun _ Q7 => ?_; refine d9 h [0, 1] (fun i_1 => ([(5, .v (.int .i64 i_1))], [])) 0 ?_; rintro m_1 i_1 h _ Q8; rw [q7w] at h; exact au)
def q26 (xv_0 : List GSlot) (target_0 : GTime) (cmp_0 : GSlot → GTime → Option Int) (i_2 : Int) : Option (Int × Bool) :=
 (if (decide (i_2 < (xv_0.length : Int))) = true then q9 (idx xv_0 i_2) (fun xv_4 =>
 q9 (cmp_0 xv_4 target_0) (fun v_3 =>
 some (i_2, (v_3 == 0))))
 else some (i_2, false))
def q3h (xv_0 : List GSlot) (target_0 : GTime) (cmp_0 : GSlot → GTime → Option Int) (rec_2 : Int × Int → Option (Int × Bool)) : Int × Int → Option (Int × Bool) :=
 fun (i_4, j_3) =>
 (if (decide (i_4 < j_3)) = true then q9 (idx xv_0 (i64.wrap (q1o .u64 (IntKind.u64.wrap (i64.wrap (i_4 + j_3))) 1))) (fun xv_7 =>
 q9 (cmp_0 xv_7 target_0) (fun v_6 =>
 (if (decide (v_6 < 0)) = true then rec_2 (i64.wrap ((i64.wrap (q1o .u64 (IntKind.u64.wrap (i64.wrap (i_4 + j_3))) 1)) + 1), j_3)
 else rec_2 (i_4, i64.wrap (q1o .u64 (IntKind.u64.wrap (i64.wrap (i_4 + j_3))) 1)))))
 else q26 xv_0 target_0 cmp_0 i_4)
def q2v (xv_0 : List GSlot) (target_0 : GTime) (cmp_0 : GSlot → GTime → Option Int) : Option (Int × Bool) :=
 x8 (q3h xv_0 target_0 cmp_0) rounds (0, (xv_0.length : Int))
theorem qs1 (xv_0 : List GSlot) (target_0 : GTime) (cmp_0 : GSlot → GTime → Option Int) (g_cmp_0 : FuncId) (c_cmp_0 : List AV) (F_cmp_0 : q00 c_cmp_0 = true) (E_cmp_0 : y8 pp g_cmp_0 = true) (H_cmp_0 : ∀ (x0 : GSlot) (x1 : GTime) (r : Int), cmp_0 x0 x1 = some r → PureS pp g_cmp_0 ([.agg (Row.row x0), .agg (Row.row x1)] ++ c_cmp_0) 0 (.v (.int .i64 r))) (r : Int × Bool) (h : q2v xv_0 target_0 cmp_0 = some r) : PureS pp 107 [.sl 10 (enc xv_0), .agg (Row.row target_0), .clo g_cmp_0 c_cmp_0] 0 (.tup [.v (.int .i64 r.1), .v (.bool r.2)]) := by
 refine ptI Tryz.func107 rfl ?_; rw [q2v] at h; have F := trivial; refine sM ?_; refine sM ?_; refine sM ?_; refine q1n (fun (i_2 : Int) => q26 xv_0 target_0 cmp_0 i_2 = some r) [0, 2, 4, 8] (fun i_2 => ([(9, .v (.int .i64 i_2))], [(0, .box (Row.row target_0))])) 1 ?_ ?_
 ·
  intro _ Q5; refine w9 fun _ Q6 => ?_; refine d9 h [0, 2, 4, 8] (fun x => ([(9, .v (.int .i64 x.1)), (10, .v (.int .i64 x.2))], [(0, .box (Row.row target_0))])) 1 ?_; rintro m_2 ⟨i_4, j_3⟩ h _ Q7; rw [q3h] at h; refine sg fun _ Q8 => ?_; refine sM ?_; refine sB h (fun _ h => ?_) fun _ h => ?_
  ·
   refine y5 (q8 Q8 (w9 fun _ Q10 => ?_)); refine sM ?_; refine sg fun _ Q12 => ?_; refine q02 ?_; refine j9m ?_; obtain ⟨xv_7, F, h⟩ := bI F h; obtain ⟨v_6, ev_6, h⟩ := z8 h; simp only [go_sem, E_cmp_0, F]; refine ai ?_; refine q6k (H_cmp_0 xv_7 target_0 v_6 ev_6) (by rfl) (by simp [go_sem, q00, q09, F_cmp_0]) ?_; simp only [go_sem]; refine q8 Q12 (sB h (fun _ h => ?_) fun _ h => ?_)
   · simp only [go_sem]; refine q05 Q10 (u7 Q7 ?_); exact nxC _ h [some 0] leA
   · simp only [go_sem]; refine q05 Q10 (u7 Q7 ?_); exact nxC _ h [some 0] leA
  · refine q0i (q0r Q8 (q0j Q7 (q0d Q6 (u7 Q5 (⟨i_4, [some 0], ?_, h⟩))))); exact leA
 ·
  rintro i_2 h
  try dsimp only at h
  rw [q26] at h; refine sg fun _ Q4 => ?_; refine q02 ?_; refine j9m ?_; simp only [go_sem]; rcases hb_6 : (decide (i_2 < (xv_0.length : Int))) with _ | _
  · replace h := q1m h hb_6; simp only [go_sem, hb_6]; refine q8 Q4 (q04 ?_); simp only [go_sem]; obtain rfl := Option.some.inj h; refine q1u rfl ?_; exact leA
  · replace h := q1l h hb_6; obtain ⟨xv_4, F, h⟩ := bI F h; obtain ⟨v_3, ev_3, h⟩ := z8 h; simp only [go_sem, hb_6, E_cmp_0, F]; refine ai ?_; refine ai ?_; refine callq (fun _ => (H_cmp_0 xv_4 target_0 v_3 ev_3)) (by rfl) (by simp [go_sem, q00, q09, F_cmp_0]) ?_; simp only [go_sem]; refine q8 Q4 (q04 ?_); simp only [go_sem]; obtain rfl := Option.some.inj h; refine q1u rfl ?_; exact leA
def q7n (s_0 : GSlot) (t_0 : GTime) : Option Int :=
 (if ((s_0.Time.D == t_0.D) && ((s_0.Time.C.a0 == t_0.C.a0) && ((s_0.Time.C.a1 == t_0.C.a1) && ((s_0.Time.C.a2 == t_0.C.a2) && (s_0.Time.C.a3 == t_0.C.a3))))) = true then some 0
 else q9 (qa7 s_0.Time t_0) (fun v_0 =>
 (if v_0 = true then some (-1)
 else some 1)))
instance z8e (s_0 : GSlot) (t_0 : GTime) : Ct pp 108 (q7n s_0 t_0) [.agg (Row.row s_0), .agg (Row.row t_0)] fun r => (.v (.int .i64 r)) := ctI Tryz.func108 rfl (by rw [q7n]; exact au1)
def qe2 (s_0 : GSlot) : Option Bool :=
 some ((i64.wrap ((i64.wrap ((s_0.In.a0.length : Int) + (s_0.In.a1.length : Int))) + (s_0.Sent.length : Int))) == 0)
instance j4t (s_0 : GSlot) : Ct pp 70 (qe2 s_0) [.agg (Row.row s_0)] fun r => (.v (.bool r)) := ctI Tryz.func70 rfl (by rw [qe2]; exact au1)
def ql1 (c_0 : List GSlot) (rec_1 : Int → Option Bool) : Int → Option Bool :=
 fun t7_1 =>
 (if (decide (t7_1 < (c_0.length : Int))) = true then q9 (idx c_0 t7_1) (fun xv_4 =>
 q9 (q21 xv_4.Time) (fun v_18 =>
 (if v_18 = true then q9 (qe2 xv_4) (fun v_19 =>
 (if v_19 = true then some false
 else (if (decide (0 < t7_1)) = true then q9 (idx c_0 (i64.wrap (t7_1 - 1))) (fun xv_5 =>
 q9 (qa7 xv_5.Time xv_4.Time) (fun v_23 =>
 (if (!v_23) = true then some false
 else q9 (q1k xv_4.In.a0) (fun v_24 =>
 (if v_24 = true then q9 (q1k xv_4.In.a1) (fun v_25 =>
 (if v_25 = true then q9 (q1k xv_4.Sent) (fun v_26 =>
 (if (!v_26) = true then some false
 else rec_1 (i64.wrap (t7_1 + 1))))
 else some false))
 else some false)))))
 else q9 (q1k xv_4.In.a0) (fun v_20 =>
 (if v_20 = true then q9 (q1k xv_4.In.a1) (fun v_21 =>
 (if v_21 = true then q9 (q1k xv_4.Sent) (fun v_22 =>
 (if (!v_22) = true then some false
 else rec_1 (i64.wrap (t7_1 + 1))))
 else some false))
 else some false)))))
 else some false)))
 else some true)
def q8f (c_0 : List GSlot) : Option Bool :=
 x8 (ql1 c_0) rounds 0
instance j4v (c_0 : List GSlot) : Ct pp 28 (q8f c_0) [.sl 10 (enc c_0)] fun r => (.v (.bool r)) := ctK Tryz.func28 rfl (by rw [q8f]) (by
 intro r h F; refine sM ?_; refine jg fun _ Q2 => ?_; refine sM ?_; refine w9 fun _ Q4 => ?_; refine d9 h [0, 5, 6] (fun t7_1 => ([(7, .v (.int .i64 t7_1))], [])) 0 ?_; rintro m_1 t7_1 h _ Q5; rw [ql1] at h; exact au)
def q89 (c_0 : List GSlot) (t_0 : GTime) : Option (Int × Bool) :=
 q9 (q2v c_0 t_0 (fun x0_ x1_ => q7n x0_ x1_)) (fun v_0 =>
 some (v_0.1, v_0.2))
instance z4d (c_0 : List GSlot) (t_0 : GTime) : Ct pp 57 (q89 c_0 t_0) [.sl 10 (enc c_0), .agg (Row.row t_0)] fun r => (.tup [.v (.int .i64 r.1), .v (.bool r.2)]) := ctK Tryz.func57 rfl (by rw [q89]) (by
 intro r h F; refine sM ?_; refine sg fun _ Q2 => ?_; obtain ⟨v_0, ev_0, h⟩ := z8 h; simp only [go_sem]; refine q6k (qs1 c_0 t_0 (fun x0_ x1_ => q7n x0_ x1_) 108 [] (by rfl) (by kernel_rfl) (fun y0 y1 r_ e_ => z8e y0 y1 r_ e_) v_0 ev_0) (by rfl) (by rfl) ?_; simp only [go_sem]; exact au)
def q8y (x_0 : List GSlot) (i_0 : Int) (j_0 : Int) : Option (List GSlot) := z1k x_0 i_0 j_0
theorem qy4 : DelLay pp (z6i 109 0 0 0 3 4 116 70) 10 (.agg #[.int .i64 0, .int .i64 0, .int .i64 0, .int .i64 0, .int .i64 0, .slice none 0 0, .slice none 0 0, .slice none 0 0, .bool false, .bool false] : Value) := { mixed := by kernel_rfl, t0 := Tryz.underlying0, a0 := Tryz.isAgg0, z0 := Tryz.sizeOf0, v0 := Tryz.zeroValue0, t3 := Tryz.underlying3, a3 := Tryz.isAgg3, z3 := Tryz.sizeOf3, v3 := Tryz.zeroValue3, t4 := Tryz.underlying4, a4 := Tryz.isAgg4, z4 := Tryz.sizeOf4, v4 := Tryz.zeroValue4, t24 := Tryz.underlying70, a24 := Tryz.isAgg70, z24 := Tryz.sizeOf70, v24 := Tryz.zeroValue70, z9 := Tryz.sizeOf116, v9 := Tryz.zeroValue116, i9 := zl2 (b := 120) (by kernel_rfl), f24 := ⟨"slices.Delete[[]backwash/api.Slot,backwash/api.Slot]", by decide, by kernel_rfl⟩ }
theorem qy5 (x_0 : List GSlot) (i_0 : Int) (j_0 : Int) (r : List GSlot) (h : q8y x_0 i_0 j_0 = some r) : DetS pp 109 [.osl 0 10 0 (x_0.length), .v (.int .i64 i_0), .v (.int .i64 j_0)] [(0, .arr 10 (enc x_0))] 1 (.osl 1 10 0 (r.length)) [(1, .arr 10 (enc r))] 2 :=
  z9k qy4 (by kernel_rfl) (by decide) (by rfl) (by rfl) (fun _ => rfl) h
def qz3 (c_0 : List GSlot) (kind_0 : Int) (atv_0 : Int) (rec_1 : Bool × Int × (List GSlot) → Option (Bool × (List GSlot))) : Bool × Int × (List GSlot) → Option (Bool × (List GSlot)) :=
 fun (straggler_1, t11_1, a_1) =>
 (if (decide (t11_1 < (c_0.length : Int))) = true then (if (t11_1 == atv_0) = true then (if straggler_1 = true then q9 (idx a_1 t11_1) (fun xv_10 =>
 rec_1 (true, i64.wrap (t11_1 + 1), (List.set a_1 (t11_1.toNat) (⟨xv_10.Time, xv_10.In, xv_10.Sent, true, xv_10.Fired⟩ : GSlot))))
 else q9 (idx a_1 t11_1) (fun xv_9 =>
 (if xv_9.Fired = true then rec_1 ((!xv_9.Dirty), i64.wrap (t11_1 + 1), (List.set a_1 (t11_1.toNat) (⟨xv_9.Time, xv_9.In, xv_9.Sent, true, xv_9.Fired⟩ : GSlot)))
 else rec_1 (false, i64.wrap (t11_1 + 1), (List.set a_1 (t11_1.toNat) (⟨xv_9.Time, xv_9.In, xv_9.Sent, true, xv_9.Fired⟩ : GSlot))))))
 else (if (kind_0 == 14) = true then q9 (idx a_1 atv_0) (fun xv_7 =>
 q9 (idx a_1 t11_1) (fun xv_8 =>
 q9 (qo9 xv_7.Time xv_8.Time) (fun v_2 =>
 (if (!v_2) = true then rec_1 (straggler_1, i64.wrap (t11_1 + 1), a_1)
 else (if straggler_1 = true then rec_1 (true, i64.wrap (t11_1 + 1), (List.set a_1 (t11_1.toNat) (⟨xv_8.Time, xv_8.In, xv_8.Sent, true, xv_8.Fired⟩ : GSlot)))
 else (if xv_8.Fired = true then rec_1 ((!xv_8.Dirty), i64.wrap (t11_1 + 1), (List.set a_1 (t11_1.toNat) (⟨xv_8.Time, xv_8.In, xv_8.Sent, true, xv_8.Fired⟩ : GSlot)))
 else rec_1 (false, i64.wrap (t11_1 + 1), (List.set a_1 (t11_1.toNat) (⟨xv_8.Time, xv_8.In, xv_8.Sent, true, xv_8.Fired⟩ : GSlot)))))))))
 else rec_1 (straggler_1, i64.wrap (t11_1 + 1), a_1)))
 else some (straggler_1, a_1))
def qu5 (c_0 : List GSlot) (kind_0 : Int) (atv_0 : Int) : Option (Bool × (List GSlot)) :=
 x8 (qz3 c_0 kind_0 atv_0) rounds (false, 0, c_0)
theorem z5a (c_0 : List GSlot) (kind_0 : Int) (atv_0 : Int)  (r : Bool × (List GSlot)) (h : qu5 c_0 kind_0 atv_0 = some r) : DetS pp 135 [.osl 0 10 (0) (c_0.length), .v (.int .i64 kind_0), .v (.int .i64 atv_0)] [(0, .arr 10 (enc c_0))] 1 (.v (.bool r.1)) [(0, .arr 10 (enc r.2))] 1 := by
 refine dtI Tryz.func135 rfl ?_; rw [qu5] at h; have F := trivial; refine sM ?_; refine sM ?_; refine jg fun _ Q3 => ?_; refine sM ?_; refine w9 fun _ Q5 => ?_; refine d9 h [1, 2, 10] (fun x => ([(0, .osl 0 10 (0) (x.2.2.length)), (7, .v (.bool x.1)), (11, .v (.int .i64 x.2.1))], [(0, .arr 10 (enc x.2.2))])) 1 ?_; rintro m_1 ⟨straggler_1, t11_1, a_1⟩ h _ Q6; rw [qz3] at h; refine sM ?_; refine sg fun _ Q8 => ?_; refine sB h (fun _ h => ?_) fun _ h => ?_
 ·
  refine y5 (q8 Q8 (sg fun _ Q9 => ?_)); refine w9 fun _ Q10 => ?_; refine sM ?_; refine sg fun _ Q12 => ?_; refine sg fun _ Q13 => ?_; refine q02 ?_; refine j9m ?_; simp only [go_sem]; rcases hb_15 : (t11_1 == atv_0) with _ | _
  ·
   replace h := q1m h hb_15; simp only [go_sem, hb_15]; rcases hb_16 : (kind_0 == 14) with _ | _
   · replace h := q1m h hb_16; simp only [go_sem, hb_16]; exact au
   ·
    replace h := q1l h hb_16; obtain ⟨xv_7, F, h⟩ := bI F h; obtain ⟨xv_8, F, h⟩ := bI F h; simp only [go_sem, hb_16, F]; refine ai ?_; refine ai ?_; refine q0o h fun v_2 h => ?_; simp only [go_sem]; refine q8 Q13 (sB h (fun _ h => ?_) fun _ h => ?_)
    · exact au
    ·
     refine y5 (q8 Q12 (sg fun _ Q14 => ?_)); simp only [go_sem]; rcases hb_18 : straggler_1 with _ | _
     ·
      replace h := q1m h hb_18; simp only [go_sem, hb_18, F]; refine ai ?_; rcases hb_19 : xv_8.Fired with _ | _
      · replace h := q1m h hb_19; simp only [go_sem, hb_19]; refine q8 Q14 ?_; have rf_10 := q1a a_1 (t11_1.toNat) (⟨xv_8.Time, xv_8.In, xv_8.Sent, true, xv_8.Fired⟩ : GSlot); simp only [q92] at rf_10; simp only [go_sem, rf_10, F]; refine ai ?_; exact au
      · replace h := q1l h hb_19; simp only [go_sem, hb_19, F]; refine ai ?_; refine q8 Q14 ?_; have rf_11 := q1a a_1 (t11_1.toNat) (⟨xv_8.Time, xv_8.In, xv_8.Sent, true, xv_8.Fired⟩ : GSlot); simp only [q92] at rf_11; simp only [go_sem, rf_11, F]; refine ai ?_; exact au
     · replace h := q1l h hb_18; simp only [go_sem, hb_18]; refine q8 Q14 ?_; have rf_12 := q1a a_1 (t11_1.toNat) (⟨xv_8.Time, xv_8.In, xv_8.Sent, true, xv_8.Fired⟩ : GSlot); simp only [q92] at rf_12; simp only [go_sem, rf_12, F]; refine ai ?_; exact au
  ·
   replace h := q1l h hb_15; simp only [go_sem, hb_15]; refine q8 Q13 (jf2 ?_); refine y5 (q8 Q12 (sg fun _ Q15 => ?_)); simp only [go_sem]; rcases hb_20 : straggler_1 with _ | _
   ·
    replace h := q1m h hb_20; obtain ⟨xv_9, F, h⟩ := bI F h; simp only [go_sem, hb_20, F]; refine ai ?_; rcases hb_21 : xv_9.Fired with _ | _
    · replace h := q1m h hb_21; simp only [go_sem, hb_21]; refine q8 Q15 ?_; have rf_13 := q1a a_1 (t11_1.toNat) (⟨xv_9.Time, xv_9.In, xv_9.Sent, true, xv_9.Fired⟩ : GSlot); simp only [q92] at rf_13; simp only [go_sem, rf_13, F]; refine ai ?_; exact au
    · replace h := q1l h hb_21; simp only [go_sem, hb_21, F]; refine ai ?_; refine q8 Q15 ?_; have rf_14 := q1a a_1 (t11_1.toNat) (⟨xv_9.Time, xv_9.In, xv_9.Sent, true, xv_9.Fired⟩ : GSlot); simp only [q92] at rf_14; simp only [go_sem, rf_14, F]; refine ai ?_; exact au
   · replace h := q1l h hb_20; simp only [go_sem, hb_20]; refine q8 Q15 ?_; obtain ⟨xv_10, F, h⟩ := bI F h; have rf_15 := q1a a_1 (t11_1.toNat) (⟨xv_10.Time, xv_10.In, xv_10.Sent, true, xv_10.Fired⟩ : GSlot); simp only [q92] at rf_15; simp only [go_sem, rf_15, F]; refine ai ?_; exact au
 · exact au
def q49 (s_0 : List GSlot) : Option (List GSlot) :=
 x9 ((List.length ([] : List GSlot) + s_0.length) * 120 ≤ 140737488355328) (
 some (([] : List GSlot) ++ s_0))
theorem q9w (s_0 : List GSlot)  (r : List GSlot) (h : q49 s_0 = some r) : DetS pp 52 [.sl 10 (enc s_0)] [] 0 (.osl 0 10 (0) (r.length)) [(0, .arr 10 (enc r))] 1 := by
 refine dtI Tryz.func52 rfl ?_; rw [q49] at h; have F := trivial; refine sM ?_; refine sg fun _ Q2 => ?_; refine sg fun _ Q3 => ?_; simp only [go_sem]; intro nb_0 hnb_0; rcases nb_0 with _ | _
 ·
  refine q8 Q3 (jf2 ?_); refine y5 (q8 Q2 (sg fun _ Q4 => ?_)); obtain ⟨g_0, h⟩ := q0v h; have F := And.intro F g_0; simp only [List.length_cons, List.length_nil, Nat.zero_add, List.length_append] at g_0; have rf_0 : enc ([] : List GSlot) ++ enc s_0 = enc (([] : List GSlot) ++ s_0) := by exact (q6f ([] : List GSlot) s_0).symm
  simp only [go_sem, g_0, rf_0]; exact au
 ·
  have hE_nb_0 : s_0 = [] := by cases hq : (s_0) with | nil => rfl | cons y ys => exact absurd (hnb_0 (by rw [hq]; simp [enc])) (by simp)
  simp only [hE_nb_0] at h; exact au
instance zr6 (s_0 : List GSlot) : Ct pp 52 (q49 s_0) [.sl 10 (enc s_0)] fun r => (.sl 10 (enc r)) := ⟨fun r h => (q9w s_0  r h).pure leA⟩
def q5t (c_0 : List GSlot) (atv_0 : Int) : Option (List GSlot) :=
 q9 (idx c_0 atv_0) (fun xv_0 =>
 q9 (qe2 xv_0) (fun v_0 =>
 (if v_0 = true then q9 (q8y c_0 atv_0 (i64.wrap (atv_0 + 1))) (fun v_1 =>
 some v_1)
 else some c_0)))
theorem qq4 (c_0 : List GSlot) (atv_0 : Int)  (r : List GSlot) (h : q5t c_0 atv_0 = some r) : DetS pp 58 [.osl 0 10 (0) (c_0.length), .v (.int .i64 atv_0)] [(0, .arr 10 (enc c_0))] 1 (.osl 1 10 (0) (r.length)) [(1, .arr 10 (enc r))] 2 := by
 refine dtI Tryz.func58 rfl ?_; rw [q5t] at h; have F := trivial; refine sM ?_; refine sg fun _ Q2 => ?_; refine sg fun _ Q3 => ?_; obtain ⟨xv_0, F, h⟩ := bI F h; simp only [go_sem, F]; refine ai ?_; refine q0o h fun v_0 h => ?_; simp only [go_sem]; refine q8 Q3 (sB h (fun _ h => ?_) fun _ h => ?_)
 · refine sg fun _ Q4 => ?_; obtain ⟨v_1, ev_1, h⟩ := z8 h; simp only [go_sem]; refine q0b [0] (qy5 c_0 atv_0 (i64.wrap (atv_0 + 1)) v_1 ev_1) ?_; simp only [go_sem]; exact au
 · exact au
def qa8 (x_0 : List GSlot) (i_0 : Int) (v_0 : List GSlot) : Option (List GSlot) := z00 120 x_0 i_0 v_0
theorem qr1 : InsLay pp (z6i 133 157 158 0 3 4 116 70) 10 120 (.agg #[.int .i64 0, .int .i64 0, .int .i64 0, .int .i64 0, .int .i64 0, .slice none 0 0, .slice none 0 0, .slice none 0 0, .bool false, .bool false] : Value) := { mixed := by kernel_rfl, t0 := Tryz.underlying0, a0 := Tryz.isAgg0, z0 := Tryz.sizeOf0, v0 := Tryz.zeroValue0, t3 := Tryz.underlying3, a3 := Tryz.isAgg3, z3 := Tryz.sizeOf3, v3 := Tryz.zeroValue3, t4 := Tryz.underlying4, a4 := Tryz.isAgg4, z4 := Tryz.sizeOf4, v4 := Tryz.zeroValue4, t24 := Tryz.underlying70, a24 := Tryz.isAgg70, z24 := Tryz.sizeOf70, v24 := Tryz.zeroValue70, z9 := Tryz.sizeOf116, i9 := z7e (by kernel_rfl), f22 := ⟨"slices.Insert[[]backwash/api.Slot,backwash/api.Slot]", by decide, by kernel_rfl⟩, ov := ⟨_, Tryz.func157, by kernel_rfl, by kernel_rfl, by kernel_rfl, by kernel_rfl⟩ }
theorem qr2 (x_0 : List GSlot) (i_0 : Int) (v_0 : List GSlot) (r : List GSlot) (h : qa8 x_0 i_0 v_0 = some r) : DetS pp 133 [.osl 0 10 0 (x_0.length), .v (.int .i64 i_0), .osl 1 10 0 (v_0.length)] [(0, .arr 10 (enc x_0)), (1, .arr 10 (enc v_0))] 2 (.osl 2 10 0 (r.length)) [(2, .arr 10 (enc r))] 3 :=
  z4u qr1 (by kernel_rfl) (by kernel_rfl) (by decide) (by rfl) (by decide) rfl (fun _ => rfl) h
def qp8 (kind_0 : Int) (port_0 : Int) (rv_0 : GRec) (nv_0 : Int) (v_3 : Int × Bool) (a_0 : List GSlot) : Option ((List GSlot) × Bool × Bool) :=
 q9 (idx a_0 v_3.1) (fun xv_0 =>
 x9 (0 ≤ port_0 ∧ port_0 < 2) (
 q9 (idx ([xv_0.In.a0, xv_0.In.a1] : List (List GItem)) port_0) (fun xv_1 =>
 q9 (qf2 xv_1 rv_0 nv_0) (fun v_5 =>
 x9 (0 ≤ port_0 ∧ port_0 < 2) (
 q9 (some (if port_0.toNat = 0 then v_5 else xv_0.In.a0)) (fun w_0 =>
 q9 (some (if port_0.toNat = 1 then v_5 else xv_0.In.a1)) (fun w_1 =>
 q9 (qu5 (List.set a_0 (v_3.1.toNat) (⟨xv_0.Time, (⟨w_0, w_1⟩ : Arr2 (List GItem)), xv_0.Sent, xv_0.Dirty, xv_0.Fired⟩ : GSlot)) kind_0 v_3.1) (fun v_6 =>
 x9 (v_6.2.length = List.length (List.set a_0 (v_3.1.toNat) (⟨xv_0.Time, (⟨w_0, w_1⟩ : Arr2 (List GItem)), xv_0.Sent, xv_0.Dirty, xv_0.Fired⟩ : GSlot))) (
 q9 (q5t v_6.2 v_3.1) (fun v_7 =>
 some (v_7, v_6.1, true)))))))))))
def z0g (c_0 : List GSlot) (kind_0 : Int) (port_0 : Int) (t_0 : GTime) (rv_0 : GRec) (nv_0 : Int) : Option ((List GSlot) × Bool × Bool) :=
 q9 (q49 c_0) (fun v_0 =>
 q9 (q8f c_0) (fun v_1 =>
 (if (((!v_1) || (decide (port_0 < 0))) || (decide (1 < port_0))) = true then some (v_0, false, false)
 else q9 (q21 t_0) (fun v_2 =>
 (if ((((!v_2) || (nv_0 == 0)) || (decide (nv_0 < (-2147483648)))) || (decide (2147483648 < nv_0))) = true then some (v_0, false, false)
 else q9 (q89 v_0 t_0) (fun v_3 =>
 (if (!v_3.2) = true then q9 (qa8 v_0 v_3.1 ([(⟨t_0, (⟨([] : List GItem), ([] : List GItem)⟩ : Arr2 (List GItem)), ([] : List GItem), false, false⟩ : GSlot)] : List GSlot)) (fun v_8 =>
 qp8 kind_0 port_0 rv_0 nv_0 v_3 v_8)
 else qp8 kind_0 port_0 rv_0 nv_0 v_3 v_0)))))))
theorem z9f (c_0 : List GSlot) (kind_0 : Int) (port_0 : Int) (t_0 : GTime) (rv_0 : GRec) (nv_0 : Int)  (r : (List GSlot) × Bool × Bool) (h : z0g c_0 kind_0 port_0 t_0 rv_0 nv_0 = some r) : DetS pp 91 [.sl 10 (enc c_0), .v (.int .i64 kind_0), .v (.int .i64 port_0), .agg [.v (.int .i64 t_0.D), .v (.int .i64 t_0.C.a0), .v (.int .i64 t_0.C.a1), .v (.int .i64 t_0.C.a2), .v (.int .i64 t_0.C.a3)], .agg [.v (.int .i64 rv_0.K), .v (.int .i64 rv_0.V)], .v (.int .i64 nv_0)] [] 0 (.tup [.osl 0 10 (0) (r.1.length), .v (.bool r.2.1), .v (.bool r.2.2)]) [(0, .arr 10 (enc r.1))] 1 := by
 refine dtI Tryz.func91 rfl ?_; rw [z0g] at h; have F := trivial; refine sM ?_; refine sg fun _ Q2 => ?_; obtain ⟨v_0, ev_0, h⟩ := z8 h; simp only [go_sem]; refine q0b [] (q9w c_0 v_0 ev_0) ?_; simp only [go_sem]; refine q8 Q2 (sg fun _ Q3 => ?_); refine sg fun _ Q4 => ?_; simp only [go_sem]; refine q0o h fun v_1 h => ?_; simp only [go_sem]; rcases hb_0 : (((!v_1) || (decide (port_0 < 0))) || (decide (1 < port_0))) with _ | _
 ·
  replace h := q1m h hb_0; simp only [go_sem, hb_0]; refine q0o h fun v_2 h => ?_; simp only [go_sem]; refine q8 Q4 (sB h (fun _ h => ?_) fun _ h => ?_)
  · exact au
  ·
   refine y5 (q8 Q3 (sg fun _ Q6 => ?_)); obtain ⟨v_3, ev_3, h⟩ := z8 h; simp only [go_sem]; refine qj2 (z4d v_0 t_0 v_3 ev_3) ?_; simp only [go_sem]; refine q8 Q6 (q1n (fun (a_0 : (List GSlot)) => qp8 kind_0 port_0 rv_0 nv_0 v_3 a_0 = some r) [1, 2, 5, 16] (fun a_0 => ([(10, .ptr 0 0), (15, .osl 1 10 (0) (a_0.length))], [(0, .box [.v (.int .i64 rv_0.K), .v (.int .i64 rv_0.V)]), (1, .arr 10 (enc a_0))])) 2 ?_ ?_)
   ·
    intro _ Q10; refine sM ?_; refine sB h (fun _ h => ?_) fun _ h => ?_
    ·
     have rf_2 : [[.v (.int .i64 t_0.D), .v (.int .i64 t_0.C.a0), .v (.int .i64 t_0.C.a1), .v (.int .i64 t_0.C.a2), .v (.int .i64 t_0.C.a3), .sl 3 (enc ([] : List GItem)), .sl 3 (enc ([] : List GItem)), .sl 3 (enc ([] : List GItem)), .v (.bool false), .v (.bool false)]] = enc ([(⟨t_0, (⟨([] : List GItem), ([] : List GItem)⟩ : Arr2 (List GItem)), ([] : List GItem), false, false⟩ : GSlot)] : List GSlot) := by rfl
     have rf_2n := rf_2; simp only [q37] at rf_2n; obtain ⟨v_8, ev_8, h⟩ := z8 h; simp only [go_sem]; simp only [rf_2n, rf_2]; refine q0b [2, 3] (qr2 v_0 v_3.1 ([(⟨t_0, (⟨([] : List GItem), ([] : List GItem)⟩ : Arr2 (List GItem)), ([] : List GItem), false, false⟩ : GSlot)] : List GSlot) v_8 ev_8) ?_; simp only [go_sem]; exact au
    · exact au
   ·
    rintro a_0 h
    try dsimp only at h
    rw [qp8] at h; refine sg fun _ Q7 => ?_; refine q02 ?_; refine j9m ?_; obtain ⟨xv_0, F, h⟩ := bI F h; obtain ⟨F, h⟩ := bG F h; obtain ⟨xv_1, ex1, h⟩ := z8 h; obtain ⟨f1a, f1b, f1c, fxv_1d⟩ := q4k (f := (fun y => AV.sl 3 (enc y))) [.v (.int .i64 xv_0.Time.D), .v (.int .i64 xv_0.Time.C.a0), .v (.int .i64 xv_0.Time.C.a1), .v (.int .i64 xv_0.Time.C.a2), .v (.int .i64 xv_0.Time.C.a3)] [.sl 3 (enc xv_0.Sent), .v (.bool xv_0.Dirty), .v (.bool xv_0.Fired)] ex1; simp only [List.cons_append, List.nil_append, List.append_nil, List.map_cons, List.map_nil, List.length_cons, List.length_nil, Nat.zero_add, Nat.reduceAdd] at f1b f1c fxv_1d; obtain ⟨v_5, ev_5, h⟩ := z8 h; simp only [go_sem, f1a, f1b, f1c, fxv_1d, F]; refine And.intro (by first | omega | (intros; simp_all; done)) ?_; refine And.intro (by first | omega | (intros; simp_all; done)) ?_; refine And.intro (by first | omega | (intros; simp_all; done)) ?_; simp only [List.getD_eq_getElem?_getD, Nat.mul_one, fxv_1d, Option.map_some, Option.getD_some, true_and]; simp only [go_sem, f1a, f1b, f1c, fxv_1d, List.getD_eq_getElem?_getD, Nat.mul_one, fxv_1d, Option.map_some, Option.getD_some, true_and, F]; refine callq (fun _ => (zl8 xv_1 rv_0 nv_0 v_5 ev_5)) (by rfl) (by rfl) ?_; obtain ⟨F, h⟩ := bG F h; obtain ⟨w_0, ew_0, h⟩ := z8 h; obtain ⟨w_1, ew_1, h⟩ := z8 h; have sf_0 := qv4 (f := (fun y => AV.sl 3 (enc y))) [.v (.int .i64 xv_0.Time.D), .v (.int .i64 xv_0.Time.C.a0), .v (.int .i64 xv_0.Time.C.a1), .v (.int .i64 xv_0.Time.C.a2), .v (.int .i64 xv_0.Time.C.a3)] [.sl 3 (enc xv_0.Sent), .v (.bool xv_0.Dirty), .v (.bool xv_0.Fired)] [xv_0.In.a0, xv_0.In.a1] [w_0, w_1] (port_0.toNat) v_5 (by simp only [List.length_cons, List.length_nil]; omega) (by simp only [List.mapIdx_cons, List.mapIdx_nil, Nat.zero_add, Nat.reduceAdd, Option.some.inj ew_0, Option.some.inj ew_1])
    simp only [List.cons_append, List.nil_append, List.append_nil, List.map_cons, List.map_nil, List.length_cons, List.length_nil, Nat.zero_add, Nat.reduceAdd, q64, Nat.add_assoc, q37] at sf_0; have rf_1 := q1a a_0 (v_3.1.toNat) (⟨xv_0.Time, (⟨w_0, w_1⟩ : Arr2 (List GItem)), xv_0.Sent, xv_0.Dirty, xv_0.Fired⟩ : GSlot); simp only [q92] at rf_1; simp only [go_sem, sf_0, Nat.mul_one, rf_1, F]; refine ai ?_; refine ai ?_; refine q8 Q7 (sg fun _ Q8 => ?_); obtain ⟨v_6, ev_6, h⟩ := z8 h; simp only [go_sem]; refine q7q [15, 16] ([], [(0, .box [.v (.int .i64 rv_0.K), .v (.int .i64 rv_0.V)]), (1, .arr 10 (enc (List.set a_0 (v_3.1.toNat) (⟨xv_0.Time, (⟨w_0, w_1⟩ : Arr2 (List GItem)), xv_0.Sent, xv_0.Dirty, xv_0.Fired⟩ : GSlot))))]) 2 [some 0, some 1] [.osl 1 10 (0) (List.length (List.set a_0 (v_3.1.toNat) (⟨xv_0.Time, (⟨w_0, w_1⟩ : Arr2 (List GItem)), xv_0.Sent, xv_0.Dirty, xv_0.Fired⟩ : GSlot))), .v (.int .i64 kind_0), .v (.int .i64 v_3.1)] ?_; refine q0b [1] (z5a (List.set a_0 (v_3.1.toNat) (⟨xv_0.Time, (⟨w_0, w_1⟩ : Arr2 (List GItem)), xv_0.Sent, xv_0.Dirty, xv_0.Fired⟩ : GSlot)) kind_0 v_3.1 v_6 ev_6) ?_; obtain ⟨g_2, h⟩ := q0v h; have F := And.intro F g_2; simp only [List.length_set] at g_2; simp only [go_sem, g_2]; refine q8 Q8 (sg fun _ Q9 => ?_); obtain ⟨v_7, ev_7, h⟩ := z8 h; simp only [go_sem]; refine q7q [18] ([], [(0, .box [.v (.int .i64 rv_0.K), .v (.int .i64 rv_0.V)]), (1, .arr 10 (enc v_6.2))]) 2 [some 0, some 1] [.osl 1 10 (0) (v_6.2.length), .v (.int .i64 v_3.1)] ?_; refine q0b [1] (qq4 v_6.2 v_3.1 v_7 ev_7) ?_; simp only [go_sem]; exact au
 · replace h := q1l h hb_0; simp only [go_sem, hb_0]; exact au
instance za9 (c_0 : List GSlot) (kind_0 : Int) (port_0 : Int) (t_0 : GTime) (rv_0 : GRec) (nv_0 : Int) : Ct pp 91 (z0g c_0 kind_0 port_0 t_0 rv_0 nv_0) [.sl 10 (enc c_0), .v (.int .i64 kind_0), .v (.int .i64 port_0), .agg [.v (.int .i64 t_0.D), .v (.int .i64 t_0.C.a0), .v (.int .i64 t_0.C.a1), .v (.int .i64 t_0.C.a2), .v (.int .i64 t_0.C.a3)], .agg [.v (.int .i64 rv_0.K), .v (.int .i64 rv_0.V)], .v (.int .i64 nv_0)] fun r => (.tup [.sl 10 (enc r.1), .v (.bool r.2.1), .v (.bool r.2.2)]) := ⟨fun r h => (z9f c_0 kind_0 port_0 t_0 rv_0 nv_0  r h).pure leA⟩
def q72 (c_0 : List GSlot) (rec_1 : Int → Option Bool) : Int → Option Bool :=
 fun i_1 =>
 (if (decide (i_1 < (c_0.length : Int))) = true then q9 (idx c_0 i_1) (fun xv_2 =>
 (if (decide (40 < (xv_2.In.a0.length : Int))) = true then some false
 else (if (decide (40 < (xv_2.In.a1.length : Int))) = true then some false
 else (if (decide (40 < (xv_2.Sent.length : Int))) = true then some false
 else rec_1 (i64.wrap (i_1 + 1))))))
 else some true)
def q6b (c_0 : List GSlot) : Option Bool :=
 (if (decide (40 < (c_0.length : Int))) = true then some false
 else x8 (q72 c_0) rounds 0)
instance zm0 (c_0 : List GSlot) : Ct pp 17 (q6b c_0) [.sl 10 (enc c_0)] fun r => (.v (.bool r)) := ctK Tryz.func17 rfl (by rw [q6b]) (by
 intro r h F; refine sM ?_; refine sg fun _ Q2 => ?_; refine sM ?_; refine sB h (fun _ h => ?_) fun _ h => ?_
 · exact au
 · refine y5 (q8 Q2 (jg fun _ Q5 => ?_)); refine sM ?_; refine w9 fun _ Q7 => ?_; refine d9 h [0] (fun i_1 => ([(3, .v (.int .i64 i_1))], [])) 0 ?_; rintro m_1 i_1 h _ Q8; rw [q72] at h; exact au)
def q7v (a_0 : List GSlot) (b_0 : List GSlot) (rec_1 : Int → Option Bool) : Int → Option Bool :=
 fun i_1 =>
 (if (decide (i_1 < (a_0.length : Int))) = true then q9 (idx a_0 i_1) (fun xv_4 =>
 q9 (idx b_0 i_1) (fun xv_5 =>
 (if (((!((xv_4.Time.D == xv_5.Time.D) && ((xv_4.Time.C.a0 == xv_5.Time.C.a0) && ((xv_4.Time.C.a1 == xv_5.Time.C.a1) && ((xv_4.Time.C.a2 == xv_5.Time.C.a2) && (xv_4.Time.C.a3 == xv_5.Time.C.a3)))))) || (!(xv_4.Dirty == xv_5.Dirty))) || (!(xv_4.Fired == xv_5.Fired))) = true then some false
 else q9 (q2w xv_4.In.a0 xv_5.In.a0) (fun v_6 =>
 (if v_6 = true then q9 (q2w xv_4.In.a1 xv_5.In.a1) (fun v_7 =>
 (if v_7 = true then q9 (q2w xv_4.Sent xv_5.Sent) (fun v_8 =>
 (if (!v_8) = true then some false
 else rec_1 (i64.wrap (i_1 + 1))))
 else some false))
 else some false)))))
 else some true)
def q73 (a_0 : List GSlot) (b_0 : List GSlot) : Option Bool :=
 (if (!((a_0.length : Int) == (b_0.length : Int))) = true then some false
 else x8 (q7v a_0 b_0) rounds 0)
instance zp6 (a_0 : List GSlot) (b_0 : List GSlot) : Ct pp 24 (q73 a_0 b_0) [.sl 10 (enc a_0), .sl 10 (enc b_0)] fun r => (.v (.bool r)) := ctK Tryz.func24 rfl (by rw [q73]) (by
 intro r h F; refine sM ?_; refine sg fun _ Q2 => ?_; refine sM ?_; refine sB h (fun _ h => ?_) fun _ h => ?_
 · exact au
 ·
  refine y5 (q8 Q2 (jg fun _ Q5 => ?_)); refine sM ?_; refine w9 fun _ Q7 => ?_; refine d9 h [0, 1] (fun i_1 => ([(5, .v (.int .i64 i_1))], [])) 0 ?_; rintro m_1 i_1 h _ Q8; rw [q7v] at h; refine sg fun _ Q9 => ?_; refine sM ?_; refine sB h (fun _ h => ?_) fun _ h => ?_
  · refine y5 (q8 Q9 (sg fun _ Q11 => ?_)); refine w9 fun _ Q12 => ?_; refine sg fun _ Q13 => ?_; refine q02 ?_; refine q56 11 0 10 [0, 0, 3, 7, 0, 0, 48, 112, 0, 0, 783, 2047] [0, 1] [0, 1, 2, 3, 4, 5, 6, 7] [] [10] [8, 9] mixed (by kernel_rfl) (of_decide_eq_true (by kernel_rfl)) (by kernel_rfl) (by kernel_rfl) (by rfl) ?_; obtain ⟨xv_4, F, h⟩ := bI F h; obtain ⟨xv_5, F, h⟩ := bI F h; simp only [go_sem, F]; refine ai ?_; refine ai ?_; exact au
  · exact au)
def q7x (a_0 : List GTime) (b_0 : List GTime) (rec_1 : Int → Option Bool) : Int → Option Bool :=
 fun i_1 =>
 (if (decide (i_1 < (a_0.length : Int))) = true then q9 (idx a_0 i_1) (fun xv_4 =>
 q9 (idx b_0 i_1) (fun xv_5 =>
 (if (!((xv_4.D == xv_5.D) && ((xv_4.C.a0 == xv_5.C.a0) && ((xv_4.C.a1 == xv_5.C.a1) && ((xv_4.C.a2 == xv_5.C.a2) && (xv_4.C.a3 == xv_5.C.a3)))))) = true then some false
 else rec_1 (i64.wrap (i_1 + 1)))))
 else some true)
def q58 (a_0 : List GTime) (b_0 : List GTime) : Option Bool :=
 (if (!((a_0.length : Int) == (b_0.length : Int))) = true then some false
 else x8 (q7x a_0 b_0) rounds 0)
instance zq0 (a_0 : List GTime) (b_0 : List GTime) : Ct pp 25 (q58 a_0 b_0) [.sl 5 (enc a_0), .sl 5 (enc b_0)] fun r => (.v (.bool r)) := ctK Tryz.func25 rfl (by rw [q58]) (by
 intro r h F; refine sM ?_; refine sg fun _ Q2 => ?_; refine sM ?_; refine sB h (fun _ h => ?_) fun _ h => ?_
 · exact au
 · refine y5 (q8 Q2 (jg fun _ Q5 => ?_)); refine sM ?_; refine w9 fun _ Q7 => ?_; refine d9 h [0, 1] (fun i_1 => ([(5, .v (.int .i64 i_1))], [])) 0 ?_; rintro m_1 i_1 h _ Q8; rw [q7x] at h; exact au)
def ql0 (c_0 : List GSlot) (rec_1 : Int × (List GTime) → Option (List GTime)) : Int × (List GTime) → Option (List GTime) :=
 fun (t11_1, a_1) =>
 (if (decide (t11_1 < (c_0.length : Int))) = true then q9 (idx c_0 t11_1) (fun xv_2 =>
 (if xv_2.Dirty = true then x9 ((a_1.length + List.length ([xv_2.Time] : List GTime)) * 40 ≤ 140737488355328) (
 rec_1 (i64.wrap (t11_1 + 1), (a_1 ++ ([xv_2.Time] : List GTime))))
 else rec_1 (i64.wrap (t11_1 + 1), a_1)))
 else some a_1)
def qe3 (c_0 : List GSlot) : Option (List GTime) :=
 q9 (q8f c_0) (fun v_0 =>
 (if (!v_0) = true then some ([] : List GTime)
 else x8 (ql0 c_0) rounds (0, [])))
theorem z1x (c_0 : List GSlot)  (r : List GTime) (h : qe3 c_0 = some r) : DetS pp 41 [.sl 10 (enc c_0)] [] 0 (.osl 0 5 (0) (r.length)) [(0, .arr 5 (enc r))] 1 := by
 refine dtI Tryz.func41 rfl ?_; rw [qe3] at h; have F := trivial; refine sM ?_; refine sM ?_; refine sg fun _ Q3 => ?_; refine sg fun _ Q4 => ?_; simp only [go_sem]; refine q0o h fun v_0 h => ?_; simp only [go_sem]; refine q8 Q4 (sB h (fun _ h => ?_) fun _ h => ?_)
 · exact au
 ·
  refine y5 (q8 Q3 (jg fun _ Q6 => ?_)); refine sM ?_; refine w9 fun _ Q8 => ?_; refine d9 h [9, 10] (fun x => ([(3, .osl 0 5 (0) (x.2.length)), (11, .v (.int .i64 x.1))], [(0, .arr 5 (enc x.2))])) 1 ?_; rintro m_1 ⟨t11_1, a_1⟩ h _ Q9; rw [ql0] at h; refine sM ?_; refine sg fun _ Q11 => ?_; refine sB h (fun _ h => ?_) fun _ h => ?_
  ·
   refine y5 (q8 Q11 (jg fun _ Q12 => ?_)); refine w9 fun _ Q13 => ?_; refine sg fun _ Q14 => ?_; obtain ⟨xv_2, F, h⟩ := bI F h; simp only [go_sem, F]; refine ai ?_; refine q8 Q14 (sM ?_); refine sB h (fun _ h => ?_) fun _ h => ?_
   ·
    have rf_3 : [[.v (.int .i64 xv_2.Time.D), .v (.int .i64 xv_2.Time.C.a0), .v (.int .i64 xv_2.Time.C.a1), .v (.int .i64 xv_2.Time.C.a2), .v (.int .i64 xv_2.Time.C.a3)]] = enc ([xv_2.Time] : List GTime) := by rfl
    obtain ⟨g_2, h⟩ := q0v h; have F := And.intro F g_2; simp only [List.length_cons, List.length_nil, Nat.zero_add, List.length_append] at g_2; have rf_4 : enc a_1 ++ [[.v (.int .i64 xv_2.Time.D), .v (.int .i64 xv_2.Time.C.a0), .v (.int .i64 xv_2.Time.C.a1), .v (.int .i64 xv_2.Time.C.a2), .v (.int .i64 xv_2.Time.C.a3)]] = enc (a_1 ++ ([xv_2.Time] : List GTime)) := by exact (q6f a_1 ([xv_2.Time] : List GTime)).symm
    simp only [go_sem, g_2, rf_4]; simp only [rf_3]; exact au
   · exact au
  · exact au
instance j4u (c_0 : List GSlot) : Ct pp 41 (qe3 c_0) [.sl 10 (enc c_0)] fun r => (.sl 5 (enc r)) := ⟨fun r h => (z1x c_0  r h).pure leA⟩
def z0r (c_0 : List GSlot) (t_0 : GTime) : Option (GSlot × Bool) :=
 q9 (q8f c_0) (fun v_0 =>
 (if (!v_0) = true then some ((⟨(⟨0, (⟨0, 0, 0, 0⟩ : Arr4 Int)⟩ : GTime), (⟨([] : List GItem), ([] : List GItem)⟩ : Arr2 (List GItem)), ([] : List GItem), false, false⟩ : GSlot), false)
 else q9 (q89 c_0 t_0) (fun v_1 =>
 (if (!v_1.2) = true then some ((⟨(⟨0, (⟨0, 0, 0, 0⟩ : Arr4 Int)⟩ : GTime), (⟨([] : List GItem), ([] : List GItem)⟩ : Arr2 (List GItem)), ([] : List GItem), false, false⟩ : GSlot), false)
 else q9 (idx c_0 v_1.1) (fun xv_0 =>
 some (xv_0, true))))))
instance j8h (c_0 : List GSlot) (t_0 : GTime) : Ct pp 53 (z0r c_0 t_0) [.sl 10 (enc c_0), .agg (Row.row t_0)] fun r => (.tup [.agg (Row.row r.1), .v (.bool r.2)]) := ctI Tryz.func53 rfl (by rw [z0r]; exact au1)
def qn3 (op_0 : Int) : Option Bool :=
 some ((op_0 == 14) || (op_0 == 15))
instance j4n (op_0 : Int) : Ct pp 153 (qn3 op_0) [.v (.int .i64 op_0)] fun r => (.v (.bool r)) := ctI Tryz.func153 rfl (by rw [qn3]; exact au1)
def q8j (p_0 : List GIns) (rec_1 : Int → Option Bool) : Int → Option Bool :=
 fun t10_1 =>
 (if (decide (t10_1 < (p_0.length : Int))) = true then q9 (idx p_0 t10_1) (fun xv_2 =>
 (if ((decide (xv_2.Op < 1)) || (decide (16 < xv_2.Op))) = true then some false
 else q9 (qn3 xv_2.Op) (fun v_2 =>
 (if v_2 = true then (if ((decide (xv_2.N < 0)) || (decide ((p_0.length : Int) < xv_2.N))) = true then some false
 else rec_1 (i64.wrap (t10_1 + 1)))
 else (if ((!(xv_2.Op == 1)) && (!(xv_2.N == 0))) = true then some false
 else rec_1 (i64.wrap (t10_1 + 1)))))))
 else some true)
def q8d (p_0 : List GIns) : Option Bool :=
 (if (decide (64 < (p_0.length : Int))) = true then some false
 else x8 (q8j p_0) rounds 0)
instance j4o (p_0 : List GIns) : Ct pp 122 (q8d p_0) [.sl 2 (enc p_0)] fun r => (.v (.bool r)) := ctK Tryz.func122 rfl (by rw [q8d]) (by
 intro r h F; refine sM ?_; refine sg fun _ Q2 => ?_; refine sM ?_; refine sB h (fun _ h => ?_) fun _ h => ?_
 · exact au
 · refine y5 (q8 Q2 (jg fun _ Q5 => ?_)); refine sM ?_; refine w9 fun _ Q7 => ?_; refine d9 h [0, 8, 9] (fun t10_1 => ([(10, .v (.int .i64 t10_1))], [])) 0 ?_; rintro m_1 t10_1 h _ Q8; rw [q8j] at h; exact au)
def q07 (mv_0 : GProg_machine) (nv_0 : Int) : Option GProg_machine :=
 (if ((mv_0.stack.length : Int) == 8) = true then some (⟨mv_0.r, mv_0.stack, mv_0.out, mv_0.at_, 1⟩ : GProg_machine)
 else x9 ((mv_0.stack.length + List.length ([nv_0] : List Int)) * 8 ≤ 140737488355328) (
 some (⟨mv_0.r, (mv_0.stack ++ ([nv_0] : List Int)), mv_0.out, mv_0.at_, mv_0.bad⟩ : GProg_machine)))
theorem q0e (mv_0 : GProg_machine) (nv_0 : Int)  (r : GProg_machine) (h : q07 mv_0 nv_0 = some r) : DetS pp 187 [.ptr 0 0, .v (.int .i64 nv_0)] [(0, .box [.v (.int .i64 mv_0.r.K), .v (.int .i64 mv_0.r.V), .osl 1 1 (0) (mv_0.stack.length), .osl 2 2 (0) (mv_0.out.length), .v (.int .i64 mv_0.at_), .v (.int .i64 mv_0.bad)]), (1, .arr 1 (enc mv_0.stack)), (2, .arr 2 (enc mv_0.out))] 3 (.tup []) [(0, .box [.v (.int .i64 r.r.K), .v (.int .i64 r.r.V), .osl 3 1 (0) (r.stack.length), .osl 4 2 (0) (r.out.length), .v (.int .i64 r.at_), .v (.int .i64 r.bad)]), (3, .arr 1 (enc r.stack)), (4, .arr 2 (enc r.out))] 5 := by
 refine dtI Tryz.func187 rfl ?_; rw [q07] at h; have F := trivial; refine sg fun _ Q1 => ?_; refine sM ?_; refine sB h (fun _ h => ?_) fun _ h => ?_
 · exact au
 ·
  refine y5 (q8 Q1 ?_); have rf_0 : [[.v (.int .i64 nv_0)]] = enc ([nv_0] : List Int) := by rfl
  obtain ⟨g_0, h⟩ := q0v h; have F := And.intro F g_0; simp only [List.length_cons, List.length_nil, Nat.zero_add, List.length_append] at g_0; have rf_1 : enc mv_0.stack ++ [[.v (.int .i64 nv_0)]] = enc (mv_0.stack ++ ([nv_0] : List Int)) := by exact (q6f mv_0.stack ([nv_0] : List Int)).symm
  simp only [go_sem, g_0, rf_1]; simp only [rf_0]; obtain rfl := Option.some.inj h; refine q83 [some 4, some 2] ?_; exact leA
def q27 (mv_0 : GProg_machine) (xv_0 : GIns) : Option (Bool × GProg_machine) :=
 (if (xv_0.Op == 1) = true then q9 (q07 mv_0 xv_0.N) (fun v_0 =>
 some (true, v_0))
 else (if (xv_0.Op == 2) = true then q9 (q07 mv_0 mv_0.r.K) (fun v_1 =>
 some (true, v_1))
 else (if (xv_0.Op == 3) = true then q9 (q07 mv_0 mv_0.r.V) (fun v_2 =>
 some (true, v_2))
 else (if (xv_0.Op == 11) = true then (if (decide ((i64.wrap ((mv_0.stack.length : Int) - 1)) < 0)) = true then some (true, (⟨mv_0.r, mv_0.stack, mv_0.out, mv_0.at_, 1⟩ : GProg_machine))
 else x9 (0 ≤ i64.wrap ((mv_0.stack.length : Int) - 1) ∧ i64.wrap ((mv_0.stack.length : Int) - 1) ≤ (mv_0.stack.length : Int) ∧ (mv_0.stack.length : Int) ≤ (mv_0.stack.length : Int) ∧ (mv_0.stack.length : Int) ≤ (mv_0.stack.length : Int)) (
 x9 (0 ≤ 0 ∧ 0 ≤ i64.wrap ((mv_0.stack.length : Int) - 1) ∧ i64.wrap ((mv_0.stack.length : Int) - 1) ≤ (mv_0.stack.length : Int)) (
 x9 (0 < Int.toNat (mv_0.stack.length : Int) - Int.toNat (i64.wrap ((mv_0.stack.length : Int) - 1))) (
 q9 (idx (List.take (Int.toNat (mv_0.stack.length : Int) - Int.toNat (i64.wrap ((mv_0.stack.length : Int) - 1))) (List.drop (Int.toNat (i64.wrap ((mv_0.stack.length : Int) - 1))) mv_0.stack)) 0) (fun xv_1 =>
 q9 (q07 (⟨mv_0.r, (List.take (Int.toNat (i64.wrap ((mv_0.stack.length : Int) - 1))) mv_0.stack), mv_0.out, mv_0.at_, mv_0.bad⟩ : GProg_machine) xv_1) (fun v_3 =>
 q9 (q07 v_3 xv_1) (fun v_4 =>
 some (true, v_4))))))))
 else (if (xv_0.Op == 12) = true then (if (decide ((i64.wrap ((mv_0.stack.length : Int) - 2)) < 0)) = true then some (true, (⟨mv_0.r, mv_0.stack, mv_0.out, mv_0.at_, 1⟩ : GProg_machine))
 else x9 (0 ≤ i64.wrap ((mv_0.stack.length : Int) - 2) ∧ i64.wrap ((mv_0.stack.length : Int) - 2) ≤ (mv_0.stack.length : Int) ∧ (mv_0.stack.length : Int) ≤ (mv_0.stack.length : Int) ∧ (mv_0.stack.length : Int) ≤ (mv_0.stack.length : Int)) (
 x9 (0 ≤ 0 ∧ 0 ≤ i64.wrap ((mv_0.stack.length : Int) - 2) ∧ i64.wrap ((mv_0.stack.length : Int) - 2) ≤ (mv_0.stack.length : Int)) (
 x9 (0 < Int.toNat (mv_0.stack.length : Int) - Int.toNat (i64.wrap ((mv_0.stack.length : Int) - 2))) (
 q9 (idx (List.take (Int.toNat (mv_0.stack.length : Int) - Int.toNat (i64.wrap ((mv_0.stack.length : Int) - 2))) (List.drop (Int.toNat (i64.wrap ((mv_0.stack.length : Int) - 2))) mv_0.stack)) 0) (fun xv_2 =>
 q9 (idx (List.take (Int.toNat (mv_0.stack.length : Int) - Int.toNat (i64.wrap ((mv_0.stack.length : Int) - 2))) (List.drop (Int.toNat (i64.wrap ((mv_0.stack.length : Int) - 2))) mv_0.stack)) 1) (fun xv_3 =>
 q9 (q07 (⟨mv_0.r, (List.take (Int.toNat (i64.wrap ((mv_0.stack.length : Int) - 2))) mv_0.stack), mv_0.out, mv_0.at_, mv_0.bad⟩ : GProg_machine) xv_3) (fun v_5 =>
 q9 (q07 v_5 xv_2) (fun v_6 =>
 some (true, v_6)))))))))
 else (if (xv_0.Op == 13) = true then (if (decide ((i64.wrap ((mv_0.stack.length : Int) - 1)) < 0)) = true then some (true, (⟨mv_0.r, mv_0.stack, mv_0.out, mv_0.at_, 1⟩ : GProg_machine))
 else x9 (0 ≤ i64.wrap ((mv_0.stack.length : Int) - 1) ∧ i64.wrap ((mv_0.stack.length : Int) - 1) ≤ (mv_0.stack.length : Int) ∧ (mv_0.stack.length : Int) ≤ (mv_0.stack.length : Int) ∧ (mv_0.stack.length : Int) ≤ (mv_0.stack.length : Int)) (
 x9 (0 ≤ 0 ∧ 0 ≤ i64.wrap ((mv_0.stack.length : Int) - 1) ∧ i64.wrap ((mv_0.stack.length : Int) - 1) ≤ (mv_0.stack.length : Int)) (
 some (true, (⟨mv_0.r, (List.take (Int.toNat (i64.wrap ((mv_0.stack.length : Int) - 1))) mv_0.stack), mv_0.out, mv_0.at_, mv_0.bad⟩ : GProg_machine)))))
 else some (false, mv_0)))))))
theorem ql4 (mv_0 : GProg_machine) (xv_0 : GIns)  (r : Bool × GProg_machine) (h : q27 mv_0 xv_0 = some r) : DetS pp 184 [.ptr 0 0, .agg (Row.row xv_0)] [(0, .box [.v (.int .i64 mv_0.r.K), .v (.int .i64 mv_0.r.V), .osl 1 1 (0) (mv_0.stack.length), .osl 2 2 (0) (mv_0.out.length), .v (.int .i64 mv_0.at_), .v (.int .i64 mv_0.bad)]), (1, .arr 1 (enc mv_0.stack)), (2, .arr 2 (enc mv_0.out))] 3 (.v (.bool r.1)) [(0, .box [.v (.int .i64 r.2.r.K), .v (.int .i64 r.2.r.V), .osl 3 1 (0) (r.2.stack.length), .osl 4 2 (0) (r.2.out.length), .v (.int .i64 r.2.at_), .v (.int .i64 r.2.bad)]), (3, .arr 1 (enc r.2.stack)), (4, .arr 2 (enc r.2.out))] 5 := by
 refine dtI Tryz.func184 rfl ?_; rw [q27] at h; have F := trivial; refine sM ?_; refine jg fun _ Q2 => ?_; refine sM ?_; refine w9 fun _ Q4 => ?_; refine sM ?_; refine sB h (fun _ h => ?_) fun _ h => ?_
 · obtain ⟨v_0, ev_0, h⟩ := z8 h; simp only [go_sem]; refine q0b [0, 1, 2] (q0e mv_0 xv_0.N v_0 ev_0) ?_; simp only [go_sem]; exact au
 ·
  refine sM ?_; refine sB h (fun _ h => ?_) fun _ h => ?_
  · obtain ⟨v_1, ev_1, h⟩ := z8 h; simp only [go_sem]; refine q0b [0, 1, 2] (q0e mv_0 mv_0.r.K v_1 ev_1) ?_; simp only [go_sem]; exact au
  ·
   refine sM ?_; refine sB h (fun _ h => ?_) fun _ h => ?_
   · obtain ⟨v_2, ev_2, h⟩ := z8 h; simp only [go_sem]; refine q0b [0, 1, 2] (q0e mv_0 mv_0.r.V v_2 ev_2) ?_; simp only [go_sem]; exact au
   ·
    refine sM ?_; refine sB h (fun _ h => ?_) fun _ h => ?_
    ·
     refine sg fun _ Q12 => ?_; simp only [go_sem]; refine q95 Tryz.func185 rfl (by kernel_rfl) (by kernel_rfl) ?_; refine sM ?_; refine sM ?_; refine sg fun _ Q15 => ?_; refine sM ?_; refine sB h (fun _ h => ?_) fun _ h => ?_
     ·
      refine sM ?_; refine sM ?_; refine q04 (q0m Q15 ?_); simp only [go_sem]; refine q1s [] [(0, .box [.v (.int .i64 mv_0.r.K), .v (.int .i64 mv_0.r.V), .osl 1 1 (0) (mv_0.stack.length), .osl 2 2 (0) (mv_0.out.length), .v (.int .i64 mv_0.at_), .v (.int .i64 1)]), (1, .arr 1 (enc mv_0.stack)), (2, .arr 2 (enc mv_0.out)), (3, .box (Row.row xv_0))] 4 (.v (.slice none 0 0)) ?_ ?_
      · exact leA
      refine q2l ?_; simp only [go_sem]; exact au
     ·
      refine y5 (q8 Q15 (sg fun _ Q21 => ?_)); refine q02 ?_; refine j9m ?_; obtain ⟨F, h⟩ := bG F h; simp only [go_sem, F]; refine q8 Q21 (sg fun _ Q22 => ?_); obtain ⟨F, h⟩ := bG F h; simp only [go_sem, F]; refine q8 Q22 (sM ?_); refine q04 ?_; simp only [go_sem]; refine q1s [] [(0, .box [.v (.int .i64 mv_0.r.K), .v (.int .i64 mv_0.r.V), .osl 1 1 (0) (Int.toNat (i64.wrap ((mv_0.stack.length : Int) - 1))), .osl 2 2 (0) (mv_0.out.length), .v (.int .i64 mv_0.at_), .v (.int .i64 mv_0.bad)]), (1, .arr 1 (enc mv_0.stack)), (2, .arr 2 (enc mv_0.out)), (3, .box (Row.row xv_0))] 4 (.osl 1 1 (Int.toNat (i64.wrap ((mv_0.stack.length : Int) - 1))) (Int.toNat (mv_0.stack.length : Int) - Int.toNat (i64.wrap ((mv_0.stack.length : Int) - 1)))) ?_ ?_
      · exact leA
      refine q2l ?_; simp only [go_sem]; refine q8 Q12 (sg fun _ Q24 => ?_); obtain ⟨F, h⟩ := bG F h; simp only [go_sem, F]; refine ai ?_; refine q8 Q24 (jf1 ?_); refine sg fun _ Q25 => ?_; obtain ⟨xv_1, ex1, h⟩ := z8 h; obtain ⟨f1a, f1b, f1c, fxv_1d⟩ := qm1 ex1; simp only [Int.toNat_natCast, Int.reduceToNat, Nat.zero_add, Nat.add_zero] at f1c fxv_1d; simp only [go_sem, f1a, f1b, f1c, fxv_1d]; refine ai ?_; refine q8 Q25 (sg fun _ Q26 => ?_); obtain ⟨v_3, ev_3, h⟩ := z8 h; simp only [go_sem]; refine q7q [0, 6] ([], [(0, .box [.v (.int .i64 mv_0.r.K), .v (.int .i64 mv_0.r.V), .osl 1 1 (0) (List.length (List.take (Int.toNat (i64.wrap ((mv_0.stack.length : Int) - 1))) mv_0.stack)), .osl 2 2 (0) (mv_0.out.length), .v (.int .i64 mv_0.at_), .v (.int .i64 mv_0.bad)]), (1, .arr 1 (enc (List.take (Int.toNat (i64.wrap ((mv_0.stack.length : Int) - 1))) mv_0.stack))), (2, .arr 2 (enc mv_0.out)), (3, .box (Row.row xv_0))]) 4 [some 3] [.ptr 0 0, .v (.int .i64 xv_1)] ?_; refine q0b [0, 1, 2] (q0e (⟨mv_0.r, (List.take (Int.toNat (i64.wrap ((mv_0.stack.length : Int) - 1))) mv_0.stack), mv_0.out, mv_0.at_, mv_0.bad⟩ : GProg_machine) xv_1 v_3 ev_3) ?_; simp only [go_sem]; refine q8 Q26 ?_; obtain ⟨v_4, ev_4, h⟩ := z8 h; simp only [go_sem]; refine q0b [0, 4, 5] (q0e v_3 xv_1 v_4 ev_4) ?_; simp only [go_sem]; exact au
    ·
     refine sM ?_; refine sB h (fun _ h => ?_) fun _ h => ?_
     ·
      refine sg fun _ Q29 => ?_; simp only [go_sem]; refine q95 Tryz.func185 rfl (by kernel_rfl) (by kernel_rfl) ?_; refine sM ?_; refine sM ?_; refine sg fun _ Q32 => ?_; refine sM ?_; refine sB h (fun _ h => ?_) fun _ h => ?_
      ·
       refine sM ?_; refine sM ?_; refine q04 (q0m Q32 ?_); simp only [go_sem]; refine q1s [] [(0, .box [.v (.int .i64 mv_0.r.K), .v (.int .i64 mv_0.r.V), .osl 1 1 (0) (mv_0.stack.length), .osl 2 2 (0) (mv_0.out.length), .v (.int .i64 mv_0.at_), .v (.int .i64 1)]), (1, .arr 1 (enc mv_0.stack)), (2, .arr 2 (enc mv_0.out)), (3, .box (Row.row xv_0))] 4 (.v (.slice none 0 0)) ?_ ?_
       · exact leA
       refine q2l ?_; simp only [go_sem]; exact au
      ·
       refine y5 (q8 Q32 (sg fun _ Q38 => ?_)); refine q02 ?_; refine j9m ?_; obtain ⟨F, h⟩ := bG F h; simp only [go_sem, F]; refine q8 Q38 (sg fun _ Q39 => ?_); obtain ⟨F, h⟩ := bG F h; simp only [go_sem, F]; refine q8 Q39 (sM ?_); refine q04 ?_; simp only [go_sem]; refine q1s [] [(0, .box [.v (.int .i64 mv_0.r.K), .v (.int .i64 mv_0.r.V), .osl 1 1 (0) (Int.toNat (i64.wrap ((mv_0.stack.length : Int) - 2))), .osl 2 2 (0) (mv_0.out.length), .v (.int .i64 mv_0.at_), .v (.int .i64 mv_0.bad)]), (1, .arr 1 (enc mv_0.stack)), (2, .arr 2 (enc mv_0.out)), (3, .box (Row.row xv_0))] 4 (.osl 1 1 (Int.toNat (i64.wrap ((mv_0.stack.length : Int) - 2))) (Int.toNat (mv_0.stack.length : Int) - Int.toNat (i64.wrap ((mv_0.stack.length : Int) - 2)))) ?_ ?_
       · exact leA
       refine q2l ?_; simp only [go_sem]; refine q8 Q29 (sg fun _ Q41 => ?_); obtain ⟨F, h⟩ := bG F h; simp only [go_sem, F]; refine ai ?_; refine q8 Q41 (jf1 ?_); refine sg fun _ Q42 => ?_; refine q02 ?_; refine j9m ?_; obtain ⟨xv_2, ex2, h⟩ := z8 h; obtain ⟨f2a, f2b, f2c, fxv_2d⟩ := qm1 ex2; simp only [Int.toNat_natCast, Int.reduceToNat, Nat.zero_add, Nat.add_zero] at f2c fxv_2d; obtain ⟨xv_3, ex3, h⟩ := z8 h; obtain ⟨f3a, f3b, f3c, fxv_3d⟩ := qm1 ex3; simp only [Int.toNat_natCast, Int.reduceToNat, Nat.zero_add, Nat.add_zero] at f3c fxv_3d; simp only [go_sem, f2a, f2b, f2c, fxv_2d, f3a, f3b, f3c, fxv_3d]; refine ai ?_; refine ai ?_; refine q8 Q42 (sg fun _ Q43 => ?_); obtain ⟨v_5, ev_5, h⟩ := z8 h; simp only [go_sem]; refine q7q [0, 8] ([], [(0, .box [.v (.int .i64 mv_0.r.K), .v (.int .i64 mv_0.r.V), .osl 1 1 (0) (List.length (List.take (Int.toNat (i64.wrap ((mv_0.stack.length : Int) - 2))) mv_0.stack)), .osl 2 2 (0) (mv_0.out.length), .v (.int .i64 mv_0.at_), .v (.int .i64 mv_0.bad)]), (1, .arr 1 (enc (List.take (Int.toNat (i64.wrap ((mv_0.stack.length : Int) - 2))) mv_0.stack))), (2, .arr 2 (enc mv_0.out)), (3, .box (Row.row xv_0))]) 4 [some 3] [.ptr 0 0, .v (.int .i64 xv_3)] ?_; refine q0b [0, 1, 2] (q0e (⟨mv_0.r, (List.take (Int.toNat (i64.wrap ((mv_0.stack.length : Int) - 2))) mv_0.stack), mv_0.out, mv_0.at_, mv_0.bad⟩ : GProg_machine) xv_3 v_5 ev_5) ?_; simp only [go_sem]; refine q8 Q43 ?_; obtain ⟨v_6, ev_6, h⟩ := z8 h; simp only [go_sem]; refine q0b [0, 4, 5] (q0e v_5 xv_2 v_6 ev_6) ?_; simp only [go_sem]; exact au
     ·
      refine sM ?_; refine sB h (fun _ h => ?_) fun _ h => ?_
      ·
       simp only [go_sem]; refine q95 Tryz.func185 rfl (by kernel_rfl) (by kernel_rfl) ?_; refine sM ?_; refine sM ?_; refine sg fun _ Q48 => ?_; refine sM ?_; refine sB h (fun _ h => ?_) fun _ h => ?_
       ·
        refine sM ?_; refine sM ?_; refine q04 (q0m Q48 ?_); simp only [go_sem]; refine q1s [] [(0, .box [.v (.int .i64 mv_0.r.K), .v (.int .i64 mv_0.r.V), .osl 1 1 (0) (mv_0.stack.length), .osl 2 2 (0) (mv_0.out.length), .v (.int .i64 mv_0.at_), .v (.int .i64 1)]), (1, .arr 1 (enc mv_0.stack)), (2, .arr 2 (enc mv_0.out)), (3, .box (Row.row xv_0))] 4 (.v (.slice none 0 0)) ?_ ?_
        · exact leA
        refine q2l ?_; simp only [go_sem]; exact au
       ·
        refine y5 (q8 Q48 (sg fun _ Q53 => ?_)); refine q02 ?_; refine j9m ?_; obtain ⟨F, h⟩ := bG F h; simp only [go_sem, F]; refine q8 Q53 (sg fun _ Q54 => ?_); obtain ⟨F, h⟩ := bG F h; simp only [go_sem, F]; refine q8 Q54 (sM ?_); refine q04 ?_; simp only [go_sem]; refine q1s [] [(0, .box [.v (.int .i64 mv_0.r.K), .v (.int .i64 mv_0.r.V), .osl 1 1 (0) (Int.toNat (i64.wrap ((mv_0.stack.length : Int) - 1))), .osl 2 2 (0) (mv_0.out.length), .v (.int .i64 mv_0.at_), .v (.int .i64 mv_0.bad)]), (1, .arr 1 (enc mv_0.stack)), (2, .arr 2 (enc mv_0.out)), (3, .box (Row.row xv_0))] 4 (.osl 1 1 (Int.toNat (i64.wrap ((mv_0.stack.length : Int) - 1))) (Int.toNat (mv_0.stack.length : Int) - Int.toNat (i64.wrap ((mv_0.stack.length : Int) - 1)))) ?_ ?_
        · exact leA
        refine q2l ?_; simp only [go_sem]; exact au
      · exact au
def q97 (nv_0 : Int) : Option Int :=
 (if (decide (nv_0 < 0)) = true then some (IntKind.u64.wrap (0 - (IntKind.u64.wrap nv_0)))
 else some (IntKind.u64.wrap nv_0))
instance j1t (nv_0 : Int) : Ct pp 192 (q97 nv_0) [.v (.int .i64 nv_0)] fun r => (.v (.int .u64 r)) := ctI Tryz.func192 rfl (by rw [q97]; exact au1)
def q7h (xv_0 : Int) (y_0 : Int) : Option (Int × Int) :=
 some (IntKind.u64.wrap ((IntKind.u64.wrap ((IntKind.u64.wrap ((q1o .u64 xv_0 32) * (q1o .u64 y_0 32))) + (q1o .u64 (IntKind.u64.wrap ((IntKind.u64.wrap ((q1o .u64 xv_0 32) * (z3k .u64 y_0 4294967295))) + (q1o .u64 (IntKind.u64.wrap ((z3k .u64 xv_0 4294967295) * (z3k .u64 y_0 4294967295))) 32))) 32))) + (q1o .u64 (IntKind.u64.wrap ((z3k .u64 (IntKind.u64.wrap ((IntKind.u64.wrap ((q1o .u64 xv_0 32) * (z3k .u64 y_0 4294967295))) + (q1o .u64 (IntKind.u64.wrap ((z3k .u64 xv_0 4294967295) * (z3k .u64 y_0 4294967295))) 32))) 4294967295) + (IntKind.u64.wrap ((z3k .u64 xv_0 4294967295) * (q1o .u64 y_0 32))))) 32)), IntKind.u64.wrap (xv_0 * y_0))
instance zz2 (xv_0 : Int) (y_0 : Int) : Ct pp 176 (q7h xv_0 y_0) [.v (.int .u64 xv_0), .v (.int .u64 y_0)] fun r => (.tup [.v (.int .u64 r.1), .v (.int .u64 r.2)]) := ctI Tryz.func176 rfl (by rw [q7h]; exact au1)
def qn1 (a_0 : Int) (b_0 : Int) : Option (Int × Bool) :=
 q9 (q97 a_0) (fun v_0 =>
 q9 (q97 b_0) (fun v_1 =>
 q9 (q7h v_0 v_1) (fun v_2 =>
 (if (!((decide (a_0 < 0)) == (decide (b_0 < 0)))) = true then some (i64.wrap (0 - (i64.wrap v_2.2)), ((v_2.1 == 0) && (decide (v_2.2 ≤ 9223372036854775808))))
 else some (i64.wrap v_2.2, ((v_2.1 == 0) && (decide (v_2.2 < 9223372036854775808))))))))
instance j4m (a_0 : Int) (b_0 : Int) : Ct pp 189 (qn1 a_0 b_0) [.v (.int .i64 a_0), .v (.int .i64 b_0)] fun r => (.tup [.v (.int .i64 r.1), .v (.bool r.2)]) := ctI Tryz.func189 rfl (by rw [qn1]; exact au1)
def qd8 (ok_0 : Bool) : Option Int :=
 (if ok_0 = true then some 1
 else some 0)
instance j4l (ok_0 : Bool) : Ct pp 190 (qd8 ok_0) [.v (.bool ok_0)] fun r => (.v (.int .i64 r)) := ctI Tryz.func190 rfl (by rw [qd8]; exact au1)
def q2b (nv_0 : Int) (ok_0 : Bool) : Option (Int × Int) :=
 (if (!ok_0) = true then some (0, 2)
 else some (nv_0, 0))
def qa1 (op_0 : Int) (a_0 : Int) (b_0 : Int) (t53_1 : Bool) : Option (Int × Int) :=
 (if t53_1 = true then (if (b_0 == 0) = true then some (0, 3)
 else (if ((b_0 == (-1)) && (op_0 == 8)) = true then q2b 0 true
 else (if (b_0 == (-1)) = true then q2b (i64.wrap (0 - a_0)) (!(a_0 == (-9223372036854775808)))
 else (if (op_0 == 7) = true then x9 (b_0 ≠ 0) (
 q2b (i64.wrap (Int.tdiv a_0 b_0)) true)
 else x9 (b_0 ≠ 0) (
 q2b (Int.tmod a_0 b_0) true)))))
 else (if (op_0 == 9) = true then q9 (qd8 (decide (a_0 < b_0))) (fun v_4 =>
 q2b v_4 true)
 else (if (op_0 == 10) = true then q9 (qd8 (a_0 == b_0)) (fun v_5 =>
 q2b v_5 true)
 else q2b 0 true)))
def qx1 (op_0 : Int) (a_0 : Int) (b_0 : Int) : Option (Int × Int) :=
 (if (op_0 == 4) = true then q2b (i64.wrap (a_0 + b_0)) ((!((decide (a_0 < 0)) == (decide (b_0 < 0)))) || ((decide ((i64.wrap (a_0 + b_0)) < 0)) == (decide (a_0 < 0))))
 else (if (op_0 == 5) = true then q2b (i64.wrap (a_0 - b_0)) (((decide (a_0 < 0)) == (decide (b_0 < 0))) || ((decide ((i64.wrap (a_0 - b_0)) < 0)) == (decide (a_0 < 0))))
 else (if (op_0 == 6) = true then q9 (qn1 a_0 b_0) (fun v_3 =>
 q2b v_3.1 v_3.2)
 else (if (op_0 == 7) = true then qa1 op_0 a_0 b_0 (op_0 == 7)
 else qa1 op_0 a_0 b_0 (op_0 == 8)))))
instance zg0 (op_0 : Int) (a_0 : Int) (b_0 : Int) : Ct pp 186 (qx1 op_0 a_0 b_0) [.v (.int .i64 op_0), .v (.int .i64 a_0), .v (.int .i64 b_0)] fun r => (.tup [.v (.int .i64 r.1), .v (.int .i64 r.2)]) := ctK Tryz.func186 rfl (by rw [qx1]) (by
 intro r h F; refine sM ?_; refine sM ?_; refine q1n (fun ((nv_0, ok_0) : Int × Bool) => q2b nv_0 ok_0 = some r) [] (fun x => ([(8, .v (.int .i64 x.1)), (9, .v (.bool x.2))], [])) 0 ?_ ?_
 ·
  intro _ Q7; refine sM ?_; refine w9 fun _ Q9 => ?_; refine sM ?_; refine sB h (fun _ h => ?_) fun _ h => ?_
  · exact au
  ·
   refine sM ?_; refine sB h (fun _ h => ?_) fun _ h => ?_
   · exact au
   ·
    refine sM ?_; refine sB h (fun _ h => ?_) fun _ h => ?_
    · exact au
    ·
     refine q1n (fun (t53_1 : Bool) => qa1 op_0 a_0 b_0 t53_1 = some r) [0, 1, 2, 8, 9, 10] (fun t53_1 => ([(53, .v (.bool t53_1))], [])) 0 ?_ ?_
     · intro _ Q23; exact au
     ·
      rintro t53_1 h
      try dsimp only at h
      rw [qa1] at h; exact au
 ·
  rintro ⟨nv_0, ok_0⟩ h
  try dsimp only at h
  rw [q2b] at h; exact au)
def q2c (mv_0 : GProg_machine) (xv_0 : GIns) : Option GProg_machine :=
 q9 (q27 (⟨mv_0.r, mv_0.stack, mv_0.out, i64.wrap (mv_0.at_ + 1), mv_0.bad⟩ : GProg_machine) xv_0) (fun v_0 =>
 (if v_0.1 = true then some v_0.2
 else (if (xv_0.Op == 14) = true then some (⟨v_0.2.r, v_0.2.stack, v_0.2.out, xv_0.N, v_0.2.bad⟩ : GProg_machine)
 else (if (xv_0.Op == 15) = true then (if (decide ((i64.wrap ((v_0.2.stack.length : Int) - 1)) < 0)) = true then some (⟨v_0.2.r, v_0.2.stack, v_0.2.out, v_0.2.at_, 1⟩ : GProg_machine)
 else x9 (0 ≤ i64.wrap ((v_0.2.stack.length : Int) - 1) ∧ i64.wrap ((v_0.2.stack.length : Int) - 1) ≤ (v_0.2.stack.length : Int) ∧ (v_0.2.stack.length : Int) ≤ (v_0.2.stack.length : Int) ∧ (v_0.2.stack.length : Int) ≤ (v_0.2.stack.length : Int)) (
 x9 (0 ≤ 0 ∧ 0 ≤ i64.wrap ((v_0.2.stack.length : Int) - 1) ∧ i64.wrap ((v_0.2.stack.length : Int) - 1) ≤ (v_0.2.stack.length : Int)) (
 x9 (0 < Int.toNat (v_0.2.stack.length : Int) - Int.toNat (i64.wrap ((v_0.2.stack.length : Int) - 1))) (
 q9 (idx (List.take (Int.toNat (v_0.2.stack.length : Int) - Int.toNat (i64.wrap ((v_0.2.stack.length : Int) - 1))) (List.drop (Int.toNat (i64.wrap ((v_0.2.stack.length : Int) - 1))) v_0.2.stack)) 0) (fun xv_1 =>
 (if (xv_1 == 0) = true then some (⟨v_0.2.r, (List.take (Int.toNat (i64.wrap ((v_0.2.stack.length : Int) - 1))) v_0.2.stack), v_0.2.out, xv_0.N, v_0.2.bad⟩ : GProg_machine)
 else some (⟨v_0.2.r, (List.take (Int.toNat (i64.wrap ((v_0.2.stack.length : Int) - 1))) v_0.2.stack), v_0.2.out, v_0.2.at_, v_0.2.bad⟩ : GProg_machine)))))))
 else (if (xv_0.Op == 16) = true then (if (decide ((i64.wrap ((v_0.2.stack.length : Int) - 2)) < 0)) = true then some (⟨v_0.2.r, v_0.2.stack, v_0.2.out, v_0.2.at_, 1⟩ : GProg_machine)
 else x9 (0 ≤ i64.wrap ((v_0.2.stack.length : Int) - 2) ∧ i64.wrap ((v_0.2.stack.length : Int) - 2) ≤ (v_0.2.stack.length : Int) ∧ (v_0.2.stack.length : Int) ≤ (v_0.2.stack.length : Int) ∧ (v_0.2.stack.length : Int) ≤ (v_0.2.stack.length : Int)) (
 x9 (0 ≤ 0 ∧ 0 ≤ i64.wrap ((v_0.2.stack.length : Int) - 2) ∧ i64.wrap ((v_0.2.stack.length : Int) - 2) ≤ (v_0.2.stack.length : Int)) (
 x9 (0 < Int.toNat (v_0.2.stack.length : Int) - Int.toNat (i64.wrap ((v_0.2.stack.length : Int) - 2))) (
 (if ((v_0.2.out.length : Int) == 8) = true then some (⟨v_0.2.r, (List.take (Int.toNat (i64.wrap ((v_0.2.stack.length : Int) - 2))) v_0.2.stack), v_0.2.out, v_0.2.at_, 5⟩ : GProg_machine)
 else q9 (idx (List.take (Int.toNat (v_0.2.stack.length : Int) - Int.toNat (i64.wrap ((v_0.2.stack.length : Int) - 2))) (List.drop (Int.toNat (i64.wrap ((v_0.2.stack.length : Int) - 2))) v_0.2.stack)) 0) (fun xv_2 =>
 q9 (idx (List.take (Int.toNat (v_0.2.stack.length : Int) - Int.toNat (i64.wrap ((v_0.2.stack.length : Int) - 2))) (List.drop (Int.toNat (i64.wrap ((v_0.2.stack.length : Int) - 2))) v_0.2.stack)) 1) (fun xv_3 =>
 x9 ((v_0.2.out.length + List.length ([(⟨xv_2, xv_3⟩ : GRec)] : List GRec)) * 16 ≤ 140737488355328) (
 some (⟨v_0.2.r, (List.take (Int.toNat (i64.wrap ((v_0.2.stack.length : Int) - 2))) v_0.2.stack), (v_0.2.out ++ ([(⟨xv_2, xv_3⟩ : GRec)] : List GRec)), v_0.2.at_, v_0.2.bad⟩ : GProg_machine)))))))))
 else (if (decide ((i64.wrap ((v_0.2.stack.length : Int) - 2)) < 0)) = true then some (⟨v_0.2.r, v_0.2.stack, v_0.2.out, v_0.2.at_, 1⟩ : GProg_machine)
 else x9 (0 ≤ i64.wrap ((v_0.2.stack.length : Int) - 2) ∧ i64.wrap ((v_0.2.stack.length : Int) - 2) ≤ (v_0.2.stack.length : Int) ∧ (v_0.2.stack.length : Int) ≤ (v_0.2.stack.length : Int) ∧ (v_0.2.stack.length : Int) ≤ (v_0.2.stack.length : Int)) (
 x9 (0 ≤ 0 ∧ 0 ≤ i64.wrap ((v_0.2.stack.length : Int) - 2) ∧ i64.wrap ((v_0.2.stack.length : Int) - 2) ≤ (v_0.2.stack.length : Int)) (
 x9 (0 < Int.toNat (v_0.2.stack.length : Int) - Int.toNat (i64.wrap ((v_0.2.stack.length : Int) - 2))) (
 q9 (idx (List.take (Int.toNat (v_0.2.stack.length : Int) - Int.toNat (i64.wrap ((v_0.2.stack.length : Int) - 2))) (List.drop (Int.toNat (i64.wrap ((v_0.2.stack.length : Int) - 2))) v_0.2.stack)) 0) (fun xv_4 =>
 q9 (idx (List.take (Int.toNat (v_0.2.stack.length : Int) - Int.toNat (i64.wrap ((v_0.2.stack.length : Int) - 2))) (List.drop (Int.toNat (i64.wrap ((v_0.2.stack.length : Int) - 2))) v_0.2.stack)) 1) (fun xv_5 =>
 q9 (qx1 xv_0.Op xv_4 xv_5) (fun v_1 =>
 q9 (q07 (⟨v_0.2.r, (List.take (Int.toNat (i64.wrap ((v_0.2.stack.length : Int) - 2))) v_0.2.stack), v_0.2.out, v_0.2.at_, v_1.2⟩ : GProg_machine) v_1.1) (fun v_2 =>
 some v_2)))))))))))))
theorem qn2 (mv_0 : GProg_machine) (xv_0 : GIns)  (r : GProg_machine) (h : q2c mv_0 xv_0 = some r) : DetS pp 175 [.ptr 0 0, .agg (Row.row xv_0)] [(0, .box [.v (.int .i64 mv_0.r.K), .v (.int .i64 mv_0.r.V), .osl 1 1 (0) (mv_0.stack.length), .osl 2 2 (0) (mv_0.out.length), .v (.int .i64 mv_0.at_), .v (.int .i64 mv_0.bad)]), (1, .arr 1 (enc mv_0.stack)), (2, .arr 2 (enc mv_0.out))] 3 (.tup []) [(0, .box [.v (.int .i64 r.r.K), .v (.int .i64 r.r.V), .osl 3 1 (0) (r.stack.length), .osl 4 2 (0) (r.out.length), .v (.int .i64 r.at_), .v (.int .i64 r.bad)]), (3, .arr 1 (enc r.stack)), (4, .arr 2 (enc r.out))] 5 := by
 refine dtI Tryz.func175 rfl ?_; rw [q2c] at h; have F := trivial; refine sM ?_; refine sM ?_; refine sg fun _ Q3 => ?_; refine sg fun _ Q4 => ?_; obtain ⟨v_0, ev_0, h⟩ := z8 h; simp only [go_sem]; refine q0b [0, 1, 2] (ql4 (⟨mv_0.r, mv_0.stack, mv_0.out, i64.wrap (mv_0.at_ + 1), mv_0.bad⟩ : GProg_machine) xv_0 v_0 ev_0) ?_; simp only [go_sem]; refine q8 Q4 (sB h (fun _ h => ?_) fun _ h => ?_)
 · exact au
 ·
  refine y5 (q8 Q3 (sM ?_)); refine w9 fun _ Q6 => ?_; refine sM ?_; refine sB h (fun _ h => ?_) fun _ h => ?_
  · exact au
  ·
   refine sM ?_; refine sB h (fun _ h => ?_) fun _ h => ?_
   ·
    refine sg fun _ Q9 => ?_; simp only [go_sem]; refine q95 Tryz.func185 rfl (by kernel_rfl) (by kernel_rfl) ?_; refine sM ?_; refine sM ?_; refine sg fun _ Q12 => ?_; refine sM ?_; refine sB h (fun _ h => ?_) fun _ h => ?_
    ·
     refine sM ?_; refine sM ?_; refine q04 (q0m Q12 ?_); simp only [go_sem]; refine q1s [] [(0, .box [.v (.int .i64 v_0.2.r.K), .v (.int .i64 v_0.2.r.V), .osl 4 1 (0) (v_0.2.stack.length), .osl 5 2 (0) (v_0.2.out.length), .v (.int .i64 v_0.2.at_), .v (.int .i64 1)]), (3, .box (Row.row xv_0)), (4, .arr 1 (enc v_0.2.stack)), (5, .arr 2 (enc v_0.2.out))] 6 (.v (.slice none 0 0)) ?_ ?_
     · exact leA
     refine q2l ?_; simp only [go_sem]; exact au
    ·
     refine y5 (q8 Q12 (sg fun _ Q17 => ?_)); refine q02 ?_; refine j9m ?_; obtain ⟨F, h⟩ := bG F h; simp only [go_sem, F]; refine q8 Q17 (sg fun _ Q18 => ?_); obtain ⟨F, h⟩ := bG F h; simp only [go_sem, F]; refine q8 Q18 (sM ?_); refine q04 ?_; simp only [go_sem]; refine q1s [] [(0, .box [.v (.int .i64 v_0.2.r.K), .v (.int .i64 v_0.2.r.V), .osl 4 1 (0) (Int.toNat (i64.wrap ((v_0.2.stack.length : Int) - 1))), .osl 5 2 (0) (v_0.2.out.length), .v (.int .i64 v_0.2.at_), .v (.int .i64 v_0.2.bad)]), (3, .box (Row.row xv_0)), (4, .arr 1 (enc v_0.2.stack)), (5, .arr 2 (enc v_0.2.out))] 6 (.osl 4 1 (Int.toNat (i64.wrap ((v_0.2.stack.length : Int) - 1))) (Int.toNat (v_0.2.stack.length : Int) - Int.toNat (i64.wrap ((v_0.2.stack.length : Int) - 1)))) ?_ ?_
     · exact leA
     refine q2l ?_; simp only [go_sem]; refine q8 Q9 (sg fun _ Q20 => ?_); obtain ⟨F, h⟩ := bG F h; obtain ⟨xv_1, ex1, h⟩ := z8 h; obtain ⟨f1a, f1b, f1c, fxv_1d⟩ := qm1 ex1; simp only [Int.toNat_natCast, Int.reduceToNat, Nat.zero_add, Nat.add_zero] at f1c fxv_1d; simp only [go_sem, f1a, f1b, f1c, fxv_1d, F]; refine ai ?_; refine ai ?_; exact au
   ·
    refine sM ?_; refine sB h (fun _ h => ?_) fun _ h => ?_
    ·
     refine sg fun _ Q22 => ?_; simp only [go_sem]; refine q95 Tryz.func185 rfl (by kernel_rfl) (by kernel_rfl) ?_; refine sM ?_; refine sM ?_; refine sg fun _ Q25 => ?_; refine sM ?_; refine sB h (fun _ h => ?_) fun _ h => ?_
     ·
      refine sM ?_; refine sM ?_; refine q04 (q0m Q25 ?_); simp only [go_sem]; refine q1s [] [(0, .box [.v (.int .i64 v_0.2.r.K), .v (.int .i64 v_0.2.r.V), .osl 4 1 (0) (v_0.2.stack.length), .osl 5 2 (0) (v_0.2.out.length), .v (.int .i64 v_0.2.at_), .v (.int .i64 1)]), (3, .box (Row.row xv_0)), (4, .arr 1 (enc v_0.2.stack)), (5, .arr 2 (enc v_0.2.out))] 6 (.v (.slice none 0 0)) ?_ ?_
      · exact leA
      refine q2l ?_; simp only [go_sem]; exact au
     ·
      refine y5 (q8 Q25 (sg fun _ Q31 => ?_)); refine q02 ?_; refine j9m ?_; obtain ⟨F, h⟩ := bG F h; simp only [go_sem, F]; refine q8 Q31 (sg fun _ Q32 => ?_); obtain ⟨F, h⟩ := bG F h; simp only [go_sem, F]; refine q8 Q32 (sM ?_); refine q04 ?_; simp only [go_sem]; refine q1s [] [(0, .box [.v (.int .i64 v_0.2.r.K), .v (.int .i64 v_0.2.r.V), .osl 4 1 (0) (Int.toNat (i64.wrap ((v_0.2.stack.length : Int) - 2))), .osl 5 2 (0) (v_0.2.out.length), .v (.int .i64 v_0.2.at_), .v (.int .i64 v_0.2.bad)]), (3, .box (Row.row xv_0)), (4, .arr 1 (enc v_0.2.stack)), (5, .arr 2 (enc v_0.2.out))] 6 (.osl 4 1 (Int.toNat (i64.wrap ((v_0.2.stack.length : Int) - 2))) (Int.toNat (v_0.2.stack.length : Int) - Int.toNat (i64.wrap ((v_0.2.stack.length : Int) - 2)))) ?_ ?_
      · exact leA
      refine q2l ?_; simp only [go_sem]; refine q8 Q22 (w9 fun _ Q34 => ?_); refine sg fun _ Q35 => ?_; obtain ⟨F, h⟩ := bG F h; simp only [go_sem, F]; refine ai ?_; refine q8 Q35 (jf2 ?_); refine sM ?_; refine sB h (fun _ h => ?_) fun _ h => ?_
      · exact au
      ·
       refine q02 ?_; refine q56 14 0 0 [0, 0, 2, 6, 14, 0, 32, 96, 0, 256, 768, 2016, 4064, 8190, 16383, 32767, 65535] [5, 6] [0] [] [13] [] mixed (by kernel_rfl) (of_decide_eq_true (by kernel_rfl)) (by kernel_rfl) (by kernel_rfl) (by rfl) ?_; obtain ⟨xv_2, ex2, h⟩ := z8 h; obtain ⟨f2a, f2b, f2c, fxv_2d⟩ := qm1 ex2; simp only [Int.toNat_natCast, Int.reduceToNat, Nat.zero_add, Nat.add_zero] at f2c fxv_2d; obtain ⟨xv_3, ex3, h⟩ := z8 h; obtain ⟨f3a, f3b, f3c, fxv_3d⟩ := qm1 ex3; simp only [Int.toNat_natCast, Int.reduceToNat, Nat.zero_add, Nat.add_zero] at f3c fxv_3d; have rf_0 : [[.v (.int .i64 xv_2), .v (.int .i64 xv_3)]] = enc ([(⟨xv_2, xv_3⟩ : GRec)] : List GRec) := by rfl
       obtain ⟨g_6, h⟩ := q0v h; have F := And.intro F g_6; simp only [List.length_cons, List.length_nil, Nat.zero_add, List.length_append] at g_6; have rf_1 : enc v_0.2.out ++ [[.v (.int .i64 xv_2), .v (.int .i64 xv_3)]] = enc (v_0.2.out ++ ([(⟨xv_2, xv_3⟩ : GRec)] : List GRec)) := by exact (q6f v_0.2.out ([(⟨xv_2, xv_3⟩ : GRec)] : List GRec)).symm
       simp only [go_sem, f2a, f2b, f2c, fxv_2d, f3a, f3b, f3c, fxv_3d, g_6, rf_1]; refine ai ?_; refine ai ?_; simp only [rf_0]; exact au
    ·
     refine sg fun _ Q37 => ?_; simp only [go_sem]; refine q95 Tryz.func185 rfl (by kernel_rfl) (by kernel_rfl) ?_; refine sM ?_; refine sM ?_; refine sg fun _ Q40 => ?_; refine sM ?_; refine sB h (fun _ h => ?_) fun _ h => ?_
     ·
      refine sM ?_; refine sM ?_; refine q04 (q0m Q40 ?_); simp only [go_sem]; refine q1s [] [(0, .box [.v (.int .i64 v_0.2.r.K), .v (.int .i64 v_0.2.r.V), .osl 4 1 (0) (v_0.2.stack.length), .osl 5 2 (0) (v_0.2.out.length), .v (.int .i64 v_0.2.at_), .v (.int .i64 1)]), (3, .box (Row.row xv_0)), (4, .arr 1 (enc v_0.2.stack)), (5, .arr 2 (enc v_0.2.out))] 6 (.v (.slice none 0 0)) ?_ ?_
      · exact leA
      refine q2l ?_; simp only [go_sem]; exact au
     ·
      refine y5 (q8 Q40 (sg fun _ Q45 => ?_)); refine q02 ?_; refine j9m ?_; obtain ⟨F, h⟩ := bG F h; simp only [go_sem, F]; refine q8 Q45 (sg fun _ Q46 => ?_); obtain ⟨F, h⟩ := bG F h; simp only [go_sem, F]; refine q8 Q46 (sM ?_); refine q04 ?_; simp only [go_sem]; refine q1s [] [(0, .box [.v (.int .i64 v_0.2.r.K), .v (.int .i64 v_0.2.r.V), .osl 4 1 (0) (Int.toNat (i64.wrap ((v_0.2.stack.length : Int) - 2))), .osl 5 2 (0) (v_0.2.out.length), .v (.int .i64 v_0.2.at_), .v (.int .i64 v_0.2.bad)]), (3, .box (Row.row xv_0)), (4, .arr 1 (enc v_0.2.stack)), (5, .arr 2 (enc v_0.2.out))] 6 (.osl 4 1 (Int.toNat (i64.wrap ((v_0.2.stack.length : Int) - 2))) (Int.toNat (v_0.2.stack.length : Int) - Int.toNat (i64.wrap ((v_0.2.stack.length : Int) - 2)))) ?_ ?_
      · exact leA
      refine q2l ?_; simp only [go_sem]; refine q8 Q37 (sg fun _ Q48 => ?_); obtain ⟨F, h⟩ := bG F h; simp only [go_sem, F]; refine ai ?_; refine q8 Q48 (jf1 ?_); refine sg fun _ Q49 => ?_; refine q02 ?_; refine j9m ?_; obtain ⟨xv_4, ex4, h⟩ := z8 h; obtain ⟨f4a, f4b, f4c, fxv_4d⟩ := qm1 ex4; simp only [Int.toNat_natCast, Int.reduceToNat, Nat.zero_add, Nat.add_zero] at f4c fxv_4d; obtain ⟨xv_5, ex5, h⟩ := z8 h; obtain ⟨f5a, f5b, f5c, fxv_5d⟩ := qm1 ex5; simp only [Int.toNat_natCast, Int.reduceToNat, Nat.zero_add, Nat.add_zero] at f5c fxv_5d; obtain ⟨v_1, ev_1, h⟩ := z8 h; simp only [go_sem, f4a, f4b, f4c, fxv_4d, f5a, f5b, f5c, fxv_5d]; refine ai ?_; refine ai ?_; refine callq (fun _ => (zg0 xv_0.Op xv_4 xv_5 v_1 ev_1)) (by rfl) (by rfl) ?_; simp only [go_sem]; refine q8 Q49 (sM ?_); obtain ⟨v_2, ev_2, h⟩ := z8 h; simp only [go_sem]; refine q7q [] ([], [(0, .box [.v (.int .i64 v_0.2.r.K), .v (.int .i64 v_0.2.r.V), .osl 4 1 (0) (List.length (List.take (Int.toNat (i64.wrap ((v_0.2.stack.length : Int) - 2))) v_0.2.stack)), .osl 5 2 (0) (v_0.2.out.length), .v (.int .i64 v_0.2.at_), .v (.int .i64 v_1.2)]), (3, .box (Row.row xv_0)), (4, .arr 1 (enc (List.take (Int.toNat (i64.wrap ((v_0.2.stack.length : Int) - 2))) v_0.2.stack))), (5, .arr 2 (enc v_0.2.out))]) 6 [some 3, some 4, some 5] [.ptr 0 0, .v (.int .i64 v_1.1)] ?_; refine q0b [0, 4, 5] (q0e (⟨v_0.2.r, (List.take (Int.toNat (i64.wrap ((v_0.2.stack.length : Int) - 2))) v_0.2.stack), v_0.2.out, v_0.2.at_, v_1.2⟩ : GProg_machine) v_1.1 v_2 ev_2) ?_; simp only [go_sem]; exact au
def qa2 (rv_0 : GRec) (b_8 : Int) (b_9 : Int) (b_10 : Int) (b_11 : Int) (a_4 : List Int) (a_5 : List GRec) : Option ((List GRec) × Int) :=
 (if (!(b_11 == 0)) = true then some (([(⟨rv_0.K, i64.wrap ((-9223372036854775808) + b_11)⟩ : GRec)] : List GRec), b_11)
 else some (a_5, 0))
def z0z (p_0 : List GIns) (rv_0 : GRec) (rec_2 : Int × Int × Int × Int × Int × (List Int) × (List GRec) → Option ((List GRec) × Int)) : Int × Int × Int × Int × Int × (List Int) × (List GRec) → Option ((List GRec) × Int) :=
 fun (fuel_3, b_16, b_17, b_18, b_19, a_8, a_9) =>
 (if ((decide (b_18 < (p_0.length : Int))) && (b_19 == 0)) = true then (if (fuel_3 == 0) = true then qa2 rv_0 b_16 b_17 b_18 4 a_8 a_9
 else q9 (idx p_0 b_18) (fun xv_5 =>
 q9 (q2c (⟨(⟨b_16, b_17⟩ : GRec), a_8, a_9, b_18, b_19⟩ : GProg_machine) xv_5) (fun v_6 =>
 rec_2 (i64.wrap (fuel_3 - 1), v_6.r.K, v_6.r.V, v_6.at_, v_6.bad, v_6.stack, v_6.out))))
 else qa2 rv_0 b_16 b_17 b_18 b_19 a_8 a_9)
def qx2 (p_0 : List GIns) (rv_0 : GRec) : Option ((List GRec) × Int) :=
 q9 (q8d p_0) (fun v_0 =>
 (if (!v_0) = true then some (([] : List GRec), 0)
 else x8 (z0z p_0 rv_0) rounds (256, rv_0.K, rv_0.V, 0, 0, [], [])))
instance j7b (p_0 : List GIns) (rv_0 : GRec) : Ct pp 161 (qx2 p_0 rv_0) [.sl 2 (enc p_0), .agg (Row.row rv_0)] fun r => (.tup [.sl 2 (enc r.1), .v (.int .i64 r.2)]) := ctK Tryz.func161 rfl (by rw [qx2]) (by
 intro r h F; refine sM ?_; refine sg fun _ Q2 => ?_; refine sg fun _ Q3 => ?_; simp only [go_sem]; refine q0o h fun v_0 h => ?_; simp only [go_sem]; refine q8 Q3 (sB h (fun _ h => ?_) fun _ h => ?_)
 · exact au
 ·
  refine y5 (q8 Q2 (sM ?_)); refine q1n (fun ((b_8, b_9, b_10, b_11, a_4, a_5) : Int × Int × Int × Int × (List Int) × (List GRec)) => qa2 rv_0 b_8 b_9 b_10 b_11 a_4 a_5 = some r) [3, 6] (fun x => ([], [(0, .box (Row.row rv_0)), (1, .box [.v (.int .i64 x.1), .v (.int .i64 x.2.1), .osl 2 1 (0) (x.2.2.2.2.1.length), .osl 3 2 (0) (x.2.2.2.2.2.length), .v (.int .i64 x.2.2.1), .v (.int .i64 x.2.2.2.1)]), (2, .arr 1 (enc x.2.2.2.2.1)), (3, .arr 2 (enc x.2.2.2.2.2))])) 4 ?_ ?_
  ·
   intro _ Q10; refine sM ?_; refine w9 fun _ Q12 => ?_; refine d9 h [0, 3, 6] (fun x => ([(7, .v (.int .i64 x.1))], [(0, .box (Row.row rv_0)), (1, .box [.v (.int .i64 x.2.1), .v (.int .i64 x.2.2.1), .osl 2 1 (0) (x.2.2.2.2.2.1.length), .osl 3 2 (0) (x.2.2.2.2.2.2.length), .v (.int .i64 x.2.2.2.1), .v (.int .i64 x.2.2.2.2.1)]), (2, .arr 1 (enc x.2.2.2.2.2.1)), (3, .arr 2 (enc x.2.2.2.2.2.2))])) 4 ?_; rintro m_2 ⟨fuel_3, b_16, b_17, b_18, b_19, a_8, a_9⟩ h _ Q13; rw [z0z] at h; refine sg fun _ Q14 => ?_; refine sM ?_; refine sB h (fun _ h => ?_) fun _ h => ?_
   ·
    refine y5 (q8 Q14 (sg fun _ Q16 => ?_)); refine w9 fun _ Q17 => ?_; refine sg fun _ Q18 => ?_; refine sM ?_; refine sB h (fun _ h => ?_) fun _ h => ?_
    · exact au
    · refine y5 (q8 Q18 ?_); obtain ⟨xv_5, F, h⟩ := bI F h; obtain ⟨v_6, ev_6, h⟩ := z8 h; simp only [go_sem, F]; refine ai ?_; refine q0b [1, 2, 3] (qn2 (⟨(⟨b_16, b_17⟩ : GRec), a_8, a_9, b_18, b_19⟩ : GProg_machine) xv_5 v_6 ev_6) ?_; simp only [go_sem]; exact au
   · exact au
  ·
   rintro ⟨b_8, b_9, b_10, b_11, a_4, a_5⟩ h
   try dsimp only at h
   rw [qa2] at h; refine sg fun _ Q6 => ?_; refine sM ?_; refine sB h (fun _ h => ?_) fun _ h => ?_
   ·
    refine sg fun _ Q8 => ?_; refine q02 ?_; refine j9m ?_; have rf_0 : [[.v (.int .i64 rv_0.K), .v (.int .i64 (i64.wrap ((-9223372036854775808) + b_11)))]] = enc ([(⟨rv_0.K, i64.wrap ((-9223372036854775808) + b_11)⟩ : GRec)] : List GRec) := by rfl
    simp only [go_sem]; simp only [rf_0]; exact au
   · exact au)
def qk0 (k_0 : Int) : Option GRec :=
 some (⟨k_0, -9223372036854775806⟩ : GRec)
instance j6e (k_0 : Int) : Ct pp 162 (qk0 k_0) [.v (.int .i64 k_0)] fun r => (.agg (Row.row r)) := ctI Tryz.func162 rfl (by rw [qk0]; exact au1)
def qb0 (k_0 : Int) (a_0 : Int) (b_0 : Int) : Option GRec :=
 (if (((decide (a_0 < 0)) == (decide (b_0 < 0))) && (!((decide ((i64.wrap (a_0 + b_0)) < 0)) == (decide (a_0 < 0))))) = true then q9 (qk0 k_0) (fun v_0 =>
 some v_0)
 else some (⟨k_0, i64.wrap (a_0 + b_0)⟩ : GRec))
instance zg1 (k_0 : Int) (a_0 : Int) (b_0 : Int) : Ct pp 140 (qb0 k_0 a_0 b_0) [.v (.int .i64 k_0), .v (.int .i64 a_0), .v (.int .i64 b_0)] fun r => (.agg (Row.row r)) := ctI Tryz.func140 rfl (by rw [qb0]; exact au1)
def q9o (xv_0 : GNode) (rv_0 : GRec) : Option (List GRec) :=
 (if (xv_0.Kind == 2) = true then q9 (qx2 xv_0.Prog rv_0) (fun v_0 =>
 some v_0.1)
 else (if (xv_0.Kind == 3) = true then q9 (qb0 rv_0.K rv_0.V xv_0.Arg) (fun v_1 =>
 some ([v_1] : List GRec))
 else (if (xv_0.Kind == 4) = true then (if (decide (xv_0.Arg < 1)) = true then some ([] : List GRec)
 else x9 (xv_0.Arg ≠ 0) (
 (if (!((Int.tmod rv_0.V xv_0.Arg) == 0)) = true then some ([] : List GRec)
 else some ([rv_0] : List GRec))))
 else some ([rv_0] : List GRec))))
instance j4q (xv_0 : GNode) (rv_0 : GRec) : Ct pp 137 (q9o xv_0 rv_0) [.agg (Row.row xv_0), .agg (Row.row rv_0)] fun r => (.sl 2 (enc r)) := ctK Tryz.func137 rfl (by rw [q9o]) (by
 intro r h F; refine sM ?_; refine jg fun _ Q2 => ?_; refine sM ?_; refine w9 fun _ Q4 => ?_; refine sM ?_; refine sB h (fun _ h => ?_) fun _ h => ?_
 · exact au
 ·
  refine sM ?_; refine sB h (fun _ h => ?_) fun _ h => ?_
  ·
   refine sg fun _ Q9 => ?_; simp only [go_sem]; refine q0o h fun v_1 h => ?_; have rf_0 : [[.v (.int .i64 v_1.K), .v (.int .i64 v_1.V)]] = enc ([v_1] : List GRec) := by rfl
   simp only [go_sem]; simp only [rf_0]; exact au
  ·
   refine sM ?_; refine sB h (fun _ h => ?_) fun _ h => ?_
   ·
    refine sg fun _ Q11 => ?_; simp only [go_sem]; rcases hb_3 : (decide (xv_0.Arg < 1)) with _ | _
    ·
     replace h := q1m h hb_3; obtain ⟨F, h⟩ := bG F h; simp only [go_sem, hb_3, F]; refine q8 Q11 (sB h (fun _ h => ?_) fun _ h => ?_)
     · exact au
     ·
      refine y5 (q05 Q4 (q8 Q2 (sg fun _ Q13 => ?_))); have rf_1 : [[.v (.int .i64 rv_0.K), .v (.int .i64 rv_0.V)]] = enc ([rv_0] : List GRec) := by rfl
      simp only [go_sem]; simp only [rf_1]; exact au
    · replace h := q1l h hb_3; simp only [go_sem, hb_3]; exact au
   ·
    refine y5 (q05 Q4 (q8 Q2 (sg fun _ Q15 => ?_))); have rf_2 : [[.v (.int .i64 rv_0.K), .v (.int .i64 rv_0.V)]] = enc ([rv_0] : List GRec) := by rfl
    simp only [go_sem]; simp only [rf_2]; exact au)
def q0q (mv_0 : GOps_maker) (rv_0 : GRec) (nv_0 : Int) : Option (Bool × GOps_maker) :=
 (if (decide ((i64.wrap (65536 - mv_0.many)) < nv_0)) = true then some (false, mv_0)
 else x9 ((mv_0.out.length + List.length ([(⟨rv_0, nv_0⟩ : GItem)] : List GItem)) * 24 ≤ 140737488355328) (
 some (true, (⟨(mv_0.out ++ ([(⟨rv_0, nv_0⟩ : GItem)] : List GItem)), i64.wrap (mv_0.many + nv_0)⟩ : GOps_maker))))
theorem q2h (mv_0 : GOps_maker) (rv_0 : GRec) (nv_0 : Int)  (r : Bool × GOps_maker) (h : q0q mv_0 rv_0 nv_0 = some r) : DetS pp 101 [.ptr 0 0, .agg (Row.row rv_0), .v (.int .i64 nv_0)] [(0, .box [.osl 1 3 (0) (mv_0.out.length), .v (.int .i64 mv_0.many)]), (1, .arr 3 (enc mv_0.out))] 2 (.v (.bool r.1)) [(0, .box [.osl 2 3 (0) (r.2.out.length), .v (.int .i64 r.2.many)]), (2, .arr 3 (enc r.2.out))] 3 := by
 refine dtI Tryz.func101 rfl ?_; rw [q0q] at h; have F := trivial; refine sM ?_; refine sg fun _ Q2 => ?_; refine sM ?_; refine sB h (fun _ h => ?_) fun _ h => ?_
 · exact au
 ·
  refine y5 (q8 Q2 (sM ?_)); refine sg fun _ Q6 => ?_; refine q02 ?_; refine q56 10 0 0 [0, 0, 2, 6, 14, 0, 0, 96, 224, 510, 1023, 2047, 4095] [1, 3] [0] [] [9] [] mixed (by kernel_rfl) (of_decide_eq_true (by kernel_rfl)) (by kernel_rfl) (by kernel_rfl) (by rfl) ?_; have rf_0 : [[.v (.int .i64 rv_0.K), .v (.int .i64 rv_0.V), .v (.int .i64 nv_0)]] = enc ([(⟨rv_0, nv_0⟩ : GItem)] : List GItem) := by rfl
  obtain ⟨g_0, h⟩ := q0v h; have F := And.intro F g_0; simp only [List.length_cons, List.length_nil, Nat.zero_add, List.length_append] at g_0; have rf_1 : enc mv_0.out ++ [[.v (.int .i64 rv_0.K), .v (.int .i64 rv_0.V), .v (.int .i64 nv_0)]] = enc (mv_0.out ++ ([(⟨rv_0, nv_0⟩ : GItem)] : List GItem)) := by exact (q6f mv_0.out ([(⟨rv_0, nv_0⟩ : GItem)] : List GItem)).symm
  simp only [go_sem, g_0, rf_1]; simp only [rf_0]; exact au
def q5q (mv_0 : GOps_maker) (rec_1 : Int × (List GItem) → Option ((List GItem) × GOps_maker)) : Int × (List GItem) → Option ((List GItem) × GOps_maker) :=
 fun (t11_1, a_1) =>
 (if (decide (t11_1 < (mv_0.out.length : Int))) = true then q9 (idx mv_0.out t11_1) (fun xv_2 =>
 q9 (qf2 a_1 xv_2.Rec xv_2.N) (fun v_2 =>
 rec_1 (i64.wrap (t11_1 + 1), v_2)))
 else some (a_1, mv_0))
def q50 (mv_0 : GOps_maker) : Option ((List GItem) × GOps_maker) :=
 x8 (q5q mv_0) rounds (0, [])
theorem z05 (mv_0 : GOps_maker)  (r : (List GItem) × GOps_maker) (h : q50 mv_0 = some r) : DetS pp 104 [.ptr 0 0] [(0, .box [.osl 1 3 (0) (mv_0.out.length), .v (.int .i64 mv_0.many)]), (1, .arr 3 (enc mv_0.out))] 2 (.osl 2 3 (0) (r.1.length)) [(0, .box [.osl 3 3 (0) (r.2.out.length), .v (.int .i64 r.2.many)]), (2, .arr 3 (enc r.1)), (3, .arr 3 (enc r.2.out))] 4 := by
 refine dtI Tryz.func104 rfl ?_; rw [q50] at h; have F := trivial; refine sM ?_; refine sM ?_; refine jg fun _ Q3 => ?_; refine sM ?_; refine w9 fun _ Q5 => ?_; refine d9 h [9, 10] (fun x => ([(3, .osl 2 3 (0) (x.2.length)), (11, .v (.int .i64 x.1))], [(0, .box [.osl 1 3 (0) (mv_0.out.length), .v (.int .i64 mv_0.many)]), (1, .arr 3 (enc mv_0.out)), (2, .arr 3 (enc x.2))])) 3 ?_; rintro m_1 ⟨t11_1, a_1⟩ h _ Q6; rw [q5q] at h; refine sM ?_; refine sg fun _ Q8 => ?_; refine sB h (fun _ h => ?_) fun _ h => ?_
 · refine y5 (q8 Q8 (sg fun _ Q9 => ?_)); refine w9 fun _ Q10 => ?_; refine sg fun _ Q11 => ?_; obtain ⟨xv_2, F, h⟩ := bI F h; simp only [go_sem, F]; refine ai ?_; refine q8 Q11 ?_; obtain ⟨v_2, ev_2, h⟩ := z8 h; simp only [go_sem]; refine q7q [9, 10, 11] ([(3, .sl 3 (enc a_1))], [(0, .box [.osl 1 3 (0) (mv_0.out.length), .v (.int .i64 mv_0.many)]), (1, .arr 3 (enc mv_0.out)), (2, .box (Row.row xv_2))]) 3 [some 3] [.sl 3 (enc a_1), .agg (Row.row xv_2.Rec), .v (.int .i64 xv_2.N)] ?_; refine q0b [] (z5n a_1 xv_2.Rec xv_2.N v_2 ev_2) ?_; simp only [go_sem]; exact au
 · exact au
def q4o (t13_1 : Int) (rec_1 : (Int × Int × (List GItem) → Option (Bool × GOps_maker))) (xv_9 : GItem) (v_8 : List GRec) (rec_2 : Int × Int × (List GItem) → Option (Bool × GOps_maker)) : Int × Int × (List GItem) → Option (Bool × GOps_maker) :=
 fun (t22_5, b_8, a_7) =>
 (if (decide (t22_5 < (v_8.length : Int))) = true then q9 (idx v_8 t22_5) (fun xv_12 =>
 q9 (q0q (⟨a_7, b_8⟩ : GOps_maker) xv_12 xv_9.N) (fun v_11 =>
 (if (!v_11.1) = true then some (false, v_11.2)
 else rec_2 (i64.wrap (t22_5 + 1), v_11.2.many, v_11.2.out))))
 else rec_1 (i64.wrap (t13_1 + 1), b_8, a_7))
def q4p (xv_0 : GNode) (b_0 : List GItem) (rec_1 : Int × Int × (List GItem) → Option (Bool × GOps_maker)) : Int × Int × (List GItem) → Option (Bool × GOps_maker) :=
 fun (t13_1, b_6, a_5) =>
 (if (decide (t13_1 < (b_0.length : Int))) = true then q9 (idx b_0 t13_1) (fun xv_9 =>
 q9 (q9o xv_0 xv_9.Rec) (fun v_8 =>
 x8 (q4o t13_1 rec_1 xv_9 v_8) rounds (0, b_6, a_5)))
 else some (true, (⟨a_5, b_6⟩ : GOps_maker)))
def q1t (mv_0 : GOps_maker) (xv_0 : GNode) (b_0 : List GItem) : Option (Bool × GOps_maker) :=
 x8 (q4p xv_0 b_0) rounds (0, mv_0.many, mv_0.out)
theorem q6v (mv_0 : GOps_maker) (xv_0 : GNode) (b_0 : List GItem)  (r : Bool × GOps_maker) (h : q1t mv_0 xv_0 b_0 = some r) : DetS pp 99 [.ptr 0 0, .agg (Row.row xv_0), .sl 3 (enc b_0)] [(0, .box [.osl 1 3 (0) (mv_0.out.length), .v (.int .i64 mv_0.many)]), (1, .arr 3 (enc mv_0.out))] 2 (.v (.bool r.1)) [(0, .box [.osl 2 3 (0) (r.2.out.length), .v (.int .i64 r.2.many)]), (2, .arr 3 (enc r.2.out))] 3 := by
 refine dtI Tryz.func99 rfl ?_; rw [q1t] at h; have F := trivial; refine sM ?_; refine jg fun _ Q2 => ?_; refine sM ?_; refine w9 fun _ Q4 => ?_; refine d9 h [0, 4, 11, 12] (fun x => ([(13, .v (.int .i64 x.1))], [(0, .box [.osl 3 3 (0) (x.2.2.length), .v (.int .i64 x.2.1)]), (2, .box (Row.row xv_0)), (3, .arr 3 (enc x.2.2))])) 4 ?_; rintro m_1 ⟨t13_1, b_6, a_5⟩ h _ Q5; rw [q4p] at h; refine sM ?_; refine sg fun _ Q7 => ?_; refine sB h (fun _ h => ?_) fun _ h => ?_
 ·
  refine y5 (q8 Q7 (jg fun _ Q8 => ?_)); refine w9 fun _ Q9 => ?_; refine sg fun _ Q10 => ?_; obtain ⟨xv_9, F, h⟩ := bI F h; simp only [go_sem, F]; refine ai ?_; refine q8 Q10 (sg fun _ Q11 => ?_); simp only [go_sem]; refine q0o h fun v_8 h => ?_; simp only [go_sem]; refine q8 Q11 (w9 fun _ Q12 => ?_); refine d9 h [0, 4, 11, 12, 13, 20, 21] (fun x => ([(8, .ptr 3 0), (22, .v (.int .i64 x.1))], [(0, .box [.osl 4 3 (0) (x.2.2.length), .v (.int .i64 x.2.1)]), (2, .box (Row.row xv_0)), (3, .box (Row.row xv_9)), (4, .arr 3 (enc x.2.2))])) 5 ?_; rintro m_2 ⟨t22_5, b_8, a_7⟩ h _ Q13; rw [q4o] at h; refine sM ?_; refine sg fun _ Q15 => ?_; refine sB h (fun _ h => ?_) fun _ h => ?_
  · refine y5 (q8 Q15 (sg fun _ Q16 => ?_)); refine w9 fun _ Q17 => ?_; refine sg fun _ Q18 => ?_; obtain ⟨xv_12, F, h⟩ := bI F h; simp only [go_sem, F]; refine ai ?_; refine q8 Q18 (sg fun _ Q19 => ?_); obtain ⟨v_11, ev_11, h⟩ := z8 h; simp only [go_sem]; refine q0b [0, 4] (q2h (⟨a_7, b_8⟩ : GOps_maker) xv_12 xv_9.N v_11 ev_11) ?_; simp only [go_sem]; exact au
  · exact au
 · exact au
def qr6 (x_0 : Int) (y_0 : Int) (c_0 : Int) : Option (Int × Int) := zi4 x_0 y_0 c_0
theorem z4y (x_0 : Int) (y_0 : Int) (c_0 : Int) (r : Int × Int) (h : qr6 x_0 y_0 c_0 = some r) : PureS pp 177 [.v (.int .u64 x_0), .v (.int .u64 y_0), .v (.int .u64 c_0)] 0 (.tup [.v (.int .u64 r.1), .v (.int .u64 r.2)]) :=
  zw1 Tryz.func177 (by kernel_rfl) (by kernel_rfl) (by kernel_rfl) (by kernel_rfl) h
def qr7 (x_0 : Int) (y_0 : Int) (c_0 : Int) : Option (Int × Int) := zo2 x_0 y_0 c_0
theorem z4z (x_0 : Int) (y_0 : Int) (c_0 : Int) (r : Int × Int) (h : qr7 x_0 y_0 c_0 = some r) : PureS pp 178 [.v (.int .u64 x_0), .v (.int .u64 y_0), .v (.int .u64 c_0)] 0 (.tup [.v (.int .u64 r.1), .v (.int .u64 r.2)]) :=
  j01 Tryz.func178 (by kernel_rfl) (by kernel_rfl) (by kernel_rfl) (by kernel_rfl) h
def q7g (w_0 : GOps_wide) (v_0 : Int) (nv_0 : Int) (size_0 : Int) : Option GOps_wide :=
 q9 (q7h size_0 (IntKind.u64.wrap nv_0)) (fun v_1 =>
 (if (decide (v_0 < 0)) = true then q9 (qr6 w_0.lo.n v_1.2 0) (fun v_2 =>
 some (⟨i64.wrap (w_0.hi - (i64.wrap ((i64.wrap v_1.1) + (i64.wrap v_2.2)))), (⟨v_2.1⟩ : Nu64)⟩ : GOps_wide))
 else q9 (qr7 w_0.lo.n v_1.2 0) (fun v_3 =>
 some (⟨i64.wrap (w_0.hi + (i64.wrap ((i64.wrap v_1.1) + (i64.wrap v_3.2)))), (⟨v_3.1⟩ : Nu64)⟩ : GOps_wide))))
def qd9 (w_0 : GOps_wide) (v_0 : Int) (nv_0 : Int) : Option GOps_wide :=
 (if (decide (v_0 < 0)) = true then q7g w_0 v_0 nv_0 (IntKind.u64.wrap (0 - (IntKind.u64.wrap v_0)))
 else q7g w_0 v_0 nv_0 (IntKind.u64.wrap v_0))
instance j1u (w_0 : GOps_wide) (v_0 : Int) (nv_0 : Int) : Ct pp 163 (qd9 w_0 v_0 nv_0) [.agg (Row.row w_0), .v (.int .i64 v_0), .v (.int .i64 nv_0)] fun r => (.agg (Row.row r)) := ctK Tryz.func163 rfl (by rw [qd9]) (by
 intro r h F; refine sM ?_; refine sM ?_; refine q1n (fun (size_0 : Int) => q7g w_0 v_0 nv_0 size_0 = some r) [1, 2, 3, 6] (fun size_0 => ([(7, .v (.int .u64 size_0))], [(0, .box (Row.row w_0)), (1, .box [.v (.int .i64 0), .v (.int .u64 0)])])) 2 ?_ ?_
 · intro _ Q13; exact au
 ·
  rintro size_0 h
  try dsimp only at h
  rw [q7g] at h; refine sg fun _ Q3 => ?_; simp only [go_sem]; refine q0o h fun v_1 h => ?_; simp only [go_sem]; refine q8 Q3 (sM ?_); refine sg fun _ Q5 => ?_; refine sM ?_; refine sB h (fun _ h => ?_) fun _ h => ?_
  · refine sg fun _ Q7 => ?_; obtain ⟨v_2, ev_2, h⟩ := z8 h; simp only [go_sem]; refine q6k (z4y w_0.lo.n v_1.2 0 v_2 ev_2) (by rfl) (by rfl) ?_; simp only [go_sem]; exact au
  · refine y5 (q8 Q5 (sg fun _ Q10 => ?_)); obtain ⟨v_3, ev_3, h⟩ := z8 h; simp only [go_sem]; refine q6k (z4z w_0.lo.n v_1.2 0 v_3 ev_3) (by rfl) (by rfl) ?_; simp only [go_sem]; exact au)
def qx4 (l_0 : List GItem) (rec_1 : Int × GOps_wide → Option GOps_wide) : Int × GOps_wide → Option GOps_wide :=
 fun (t8_1, b_1) =>
 (if (decide (t8_1 < (l_0.length : Int))) = true then q9 (idx l_0 t8_1) (fun xv_2 =>
 q9 (qd9 b_1 xv_2.Rec.V xv_2.N) (fun v_2 =>
 rec_1 (i64.wrap (t8_1 + 1), v_2)))
 else some b_1)
def qf0 (l_0 : List GItem) : Option GOps_wide :=
 x8 (qx4 l_0) rounds (0, (⟨0, (⟨0⟩ : Nu64)⟩ : GOps_wide))
instance z6m (l_0 : List GItem) : Ct pp 142 (qf0 l_0) [.sl 3 (enc l_0)] fun r => (.agg (Row.row r)) := ctK Tryz.func142 rfl (by rw [qf0]) (by
 intro r h F; refine sM ?_; refine sM ?_; refine jg fun _ Q3 => ?_; refine sM ?_; refine w9 fun _ Q5 => ?_; refine d9 h [2, 3, 6, 7] (fun x => ([(8, .v (.int .i64 x.1))], [(0, .box [.v (.int .i64 0), .v (.int .u64 0)]), (1, .box (Row.row x.2))])) 2 ?_; rintro m_1 ⟨t8_1, b_1⟩ h _ Q6; rw [qx4] at h; exact au)
def q46 (w_0 : GOps_wide) (k_0 : Int) : Option GRec :=
 (if (((w_0.hi == 0) && (decide (0 ≤ (i64.wrap w_0.lo.n)))) || ((w_0.hi == (-1)) && (decide ((i64.wrap w_0.lo.n) < 0)))) = true then some (⟨k_0, i64.wrap w_0.lo.n⟩ : GRec)
 else q9 (qk0 k_0) (fun v_0 =>
 some v_0))
instance qx3 (w_0 : GOps_wide) (k_0 : Int) : Ct pp 143 (q46 w_0 k_0) [.agg (Row.row w_0), .v (.int .i64 k_0)] fun r => (.agg (Row.row r)) := ctI Tryz.func143 rfl (by rw [q46]; exact au1)
end Go.Proofs.YtgegekpefakacaaGreat
