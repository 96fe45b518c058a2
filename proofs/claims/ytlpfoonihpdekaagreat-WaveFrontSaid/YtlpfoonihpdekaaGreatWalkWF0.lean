/-
  What functions of the program compute, each told as a plain function that may give nothing, with the proof that the code does so. No condition beyond those that each theorem names.
-/
import Derived.Test.YtlpfoonihpdekaaGreatLibD
import Derived.Test.YtlpfoonihpdekaaGreatProg
set_option linter.unusedSimpArgs false
set_option linter.unusedVariables false
set_option linter.unusedSectionVars false
set_option maxHeartbeats 2000000
set_option maxRecDepth 100000
namespace Go.Proofs.YtlpfoonihpdekaaGreat
open Go Go.RowKit
open Go.IntKind (i64)
noncomputable abbrev pp : Program := Tryz.prog
@[reducible] def tyF (P : Program) (t s : Nat) (a : Bool) (b : Nat) (n : List (Option Nat)) (r : Option (Nat × Nat)) (z : Option (List Value)) : Prop := u7 P t = s ∧ q0t P t = true ∧ q5i P t = a ∧ q20 P t = b ∧ qd2 P t = n ∧ qq4 P t = r ∧ q1i P t = z
@[go_sem] theorem j9a : tyF pp 2 1 false 8 [none] none (some [.int .i64 0]) ∧ (qq6 pp 2 = some .i64) ∧ tyF pp 3 1 false 8 [none] none (some [.int .i64 0]) ∧ (qq6 pp 3 = some .i64) ∧ tyF pp 4 1 false 1 [none] none (some [.bool false]) ∧ (Tryz.prog.underlying 4 = some .bool) ∧ tyF pp 22 1 false 24 [some 1] none (some [.slice none 0 0]) ∧ (sliceT pp 22 = some 3) ∧ tyF pp 23 1 false 24 [some 4] none (some [.slice none 0 0]) ∧ (sliceT pp 23 = some 45) ∧ tyF pp 24 1 false 24 [some 4] none (some [.slice none 0 0]) ∧ (sliceT pp 24 = some 47) ∧ tyF pp 26 4 true 96 [some 1, some 1, some 4, some 4] none (some [.slice none 0 0, .slice none 0 0, .slice none 0 0, .slice none 0 0]) ∧ (q05 pp 26 0 = some (0, 22)) ∧ (q05 pp 26 1 = some (1, 22)) ∧ (q05 pp 26 2 = some (2, 23)) ∧ (q05 pp 26 3 = some (3, 24)) ∧ (q33 pp 26 = some [(0, 1), (1, 1), (2, 1), (3, 1)]) := by (repeat' apply And.intro) <;> kernel_rfl
@[go_sem] theorem j8o : tyF pp 27 1 false 24 [some 6] none (some [.slice none 0 0]) ∧ (sliceT pp 27 = some 40) ∧ tyF pp 33 1 false 24 [some 1] none (some [.slice none 0 0]) ∧ (sliceT pp 33 = some 34) ∧ tyF pp 34 1 false 24 [some 1] none (some [.slice none 0 0]) ∧ (sliceT pp 34 = some 71) ∧ tyF pp 36 4 true 32 [none, none, none, none] (some (4, 3)) (some [.int .i64 0, .int .i64 0, .int .i64 0, .int .i64 0]) ∧ (q33 pp 36 = some [(0, 1), (1, 1), (2, 1), (3, 1)]) ∧ tyF pp 38 5 true 40 [none, none, none, none, none] none (some [.int .i64 0, .int .i64 0, .int .i64 0, .int .i64 0, .int .i64 0]) ∧ (q05 pp 38 0 = some (0, 3)) ∧ (q05 pp 38 1 = some (1, 36)) ∧ (q33 pp 38 = some [(0, 1), (1, 4)]) ∧ tyF pp 40 6 true 48 [none, none, none, none, none, none] none (some [.int .i64 0, .int .i64 0, .int .i64 0, .int .i64 0, .int .i64 0, .int .i64 0]) ∧ (q05 pp 40 0 = some (0, 3)) ∧ (q05 pp 40 1 = some (1, 38)) ∧ (q33 pp 40 = some [(0, 1), (1, 5)]) ∧ tyF pp 43 1 false 24 [some 2] none (some [.slice none 0 0]) ∧ (sliceT pp 43 = some 143) := by (repeat' apply And.intro) <;> kernel_rfl
@[go_sem] theorem j8n : tyF pp 45 4 true 48 [none, none, none, some 2] none (some [.int .i64 0, .int .i64 0, .int .i64 0, .slice none 0 0]) ∧ (q05 pp 45 0 = some (0, 3)) ∧ (q05 pp 45 1 = some (1, 3)) ∧ (q05 pp 45 2 = some (2, 2)) ∧ (q05 pp 45 3 = some (3, 43)) ∧ (q33 pp 45 = some [(0, 1), (1, 1), (2, 1), (3, 1)]) ∧ tyF pp 47 4 true 32 [none, none, none, none] none (some [.int .i64 0, .int .i64 0, .int .i64 0, .bool false]) ∧ (q05 pp 47 0 = some (0, 3)) ∧ (q05 pp 47 1 = some (1, 3)) ∧ (q05 pp 47 2 = some (2, 3)) ∧ (q05 pp 47 3 = some (3, 4)) ∧ (q33 pp 47 = some [(0, 1), (1, 1), (2, 1), (3, 1)]) ∧ tyF pp 48 1 false 24 [some 8] none (some [.slice none 0 0]) ∧ (sliceT pp 48 = some 59) ∧ tyF pp 49 1 false 24 [some 4] none (some [.slice none 0 0]) ∧ (sliceT pp 49 = some 60) ∧ tyF pp 50 1 false 8 [none] none (some [.int .i64 0]) ∧ (qq6 pp 50 = some .i64) ∧ tyF pp 54 2 true 16 [none, none] none (some [.int .i64 0, .int .i64 0]) ∧ (q05 pp 54 0 = some (0, 2)) ∧ (q05 pp 54 1 = some (1, 2)) ∧ (q33 pp 54 = some [(0, 1), (1, 1)]) ∧ (u7 pp 56 = 4) ∧ (q0t pp 56 = true) := by (repeat' apply And.intro) <;> kernel_rfl
@[go_sem] theorem j8m : (q5i pp 56 = true) ∧ (q20 pp 56 = 32) ∧ (qd2 pp 56 = [none, none, none, none]) ∧ (qq4 pp 56 = none) ∧ (q05 pp 56 0 = some (0, 3)) ∧ (q05 pp 56 1 = some (1, 3)) ∧ (q05 pp 56 2 = some (2, 54)) ∧ (q33 pp 56 = some [(0, 1), (1, 1), (2, 2)]) ∧ (q1i pp 56 = some [.int .i64 0, .int .i64 0, .int .i64 0, .int .i64 0]) ∧ tyF pp 57 1 false 24 [some 4] none (some [.slice none 0 0]) ∧ (sliceT pp 57 = some 56) ∧ tyF pp 59 8 true 64 [none, none, none, none, none, none, none, none] none (some [.int .i64 0, .int .i64 0, .int .i64 0, .int .i64 0, .int .i64 0, .int .i64 0, .int .i64 0, .int .i64 0]) ∧ (q05 pp 59 0 = some (0, 40)) ∧ (q05 pp 59 1 = some (6, 3)) ∧ (q05 pp 59 2 = some (7, 3)) ∧ (q33 pp 59 = some [(0, 6), (6, 1), (7, 1)]) ∧ tyF pp 60 4 true 32 [none, none, none, none] none (some [.int .i64 0, .int .i64 0, .int .i64 0, .int .i64 0]) ∧ (q05 pp 60 0 = some (0, 3)) ∧ (q05 pp 60 1 = some (1, 3)) ∧ (q05 pp 60 2 = some (2, 54)) ∧ (q33 pp 60 = some [(0, 1), (1, 1), (2, 2)]) ∧ tyF pp 66 1 false 24 [some 1] none (some [.slice none 0 0]) ∧ (sliceT pp 66 = some 4) ∧ tyF pp 70 11 true 88 [none, none, none, none, none, none, none, none, none, none, none] none (some [.int .i64 0, .int .i64 0, .int .i64 0, .int .i64 0, .int .i64 0, .int .i64 0, .int .i64 0, .int .i64 0, .int .i64 0, .int .i64 0, .int .i64 0]) ∧ (q05 pp 70 0 = some (0, 3)) ∧ (q05 pp 70 1 = some (1, 3)) ∧ (q05 pp 70 2 = some (2, 3)) ∧ (q05 pp 70 3 = some (3, 36)) ∧ (q05 pp 70 4 = some (7, 36)) ∧ (q33 pp 70 = some [(0, 1), (1, 1), (2, 1), (3, 4), (7, 4)]) := by (repeat' apply And.intro) <;> kernel_rfl
@[go_sem] theorem j8l : tyF pp 71 1 false 24 [some 11] none (some [.slice none 0 0]) ∧ (sliceT pp 71 = some 70) ∧ tyF pp 81 1 false 8 [none] none (some [.pointer none]) ∧ tyF pp 82 1 false 24 [some 2] none (some [.slice none 0 0]) ∧ (sliceT pp 82 = some 123) ∧ tyF pp 84 2 true 48 [some 6, some 2] none (some [.slice none 0 0, .slice none 0 0]) ∧ (q05 pp 84 0 = some (0, 27)) ∧ (q05 pp 84 1 = some (1, 82)) ∧ (q33 pp 84 = some [(0, 1), (1, 1)]) ∧ tyF pp 86 12 true 272 [some 6, some 2, some 1, some 1, some 4, some 4, some 1, some 6, some 2, none, some 8, some 4] none (some [.slice none 0 0, .slice none 0 0, .slice none 0 0, .slice none 0 0, .slice none 0 0, .slice none 0 0, .slice none 0 0, .slice none 0 0, .slice none 0 0, .int .i64 0, .slice none 0 0, .slice none 0 0]) ∧ (q05 pp 86 0 = some (0, 84)) ∧ (q05 pp 86 1 = some (2, 26)) ∧ (q05 pp 86 2 = some (6, 33)) ∧ (q05 pp 86 3 = some (7, 84)) ∧ (q05 pp 86 4 = some (9, 3)) ∧ (q05 pp 86 5 = some (10, 48)) ∧ (q05 pp 86 6 = some (11, 49)) ∧ (q33 pp 86 = some [(0, 2), (2, 4), (6, 1), (7, 2), (9, 1), (10, 1), (11, 1)]) ∧ tyF pp 89 3 true 24 [none, none, none] none (some [.int .i64 0, .int .i64 0, .int .i64 0]) ∧ (q05 pp 89 0 = some (0, 54)) ∧ (q05 pp 89 1 = some (2, 3)) ∧ (q33 pp 89 = some [(0, 2), (2, 1)]) ∧ (u7 pp 90 = 1) ∧ (q0t pp 90 = true) := by (repeat' apply And.intro) <;> kernel_rfl
@[go_sem] theorem j8k : (q5i pp 90 = false) ∧ (q20 pp 90 = 24) ∧ (sliceT pp 90 = some 89) ∧ (qd2 pp 90 = [some 3]) ∧ (qq4 pp 90 = none) ∧ (q1i pp 90 = some [.slice none 0 0]) ∧ tyF pp 96 1 false 8 [none] none (some [.nilFunc]) ∧ tyF pp 103 1 false 8 [none] none (some [.nilFunc]) ∧ tyF pp 106 16 true 128 [none, none, none, none, none, none, none, none, none, none, none, none, none, none, none, none] (some (16, 3)) (some [.int .i64 0, .int .i64 0, .int .i64 0, .int .i64 0, .int .i64 0, .int .i64 0, .int .i64 0, .int .i64 0, .int .i64 0, .int .i64 0, .int .i64 0, .int .i64 0, .int .i64 0, .int .i64 0, .int .i64 0, .int .i64 0]) ∧ (q33 pp 106 = some [(0, 1), (1, 1), (2, 1), (3, 1), (4, 1), (5, 1), (6, 1), (7, 1), (8, 1), (9, 1), (10, 1), (11, 1), (12, 1), (13, 1), (14, 1), (15, 1)]) ∧ tyF pp 108 1 false 24 [some 2] none (some [.slice none 0 0]) ∧ (sliceT pp 108 = some 112) ∧ tyF pp 112 2 true 16 [none, none] none (some [.int .i64 0, .int .i64 0]) ∧ (q05 pp 112 0 = some (0, 3)) ∧ (q05 pp 112 1 = some (1, 3)) ∧ (q33 pp 112 = some [(0, 1), (1, 1)]) ∧ tyF pp 120 1 false 8 [none] none (some [.nilFunc]) ∧ (u7 pp 123 = 2) ∧ (q0t pp 123 = true) ∧ (q5i pp 123 = true) ∧ (q20 pp 123 = 48) ∧ (qd2 pp 123 = [some 3, some 3]) ∧ (qq4 pp 123 = some (2, 90)) ∧ (q33 pp 123 = some [(0, 1), (1, 1)]) := by (repeat' apply And.intro) <;> kernel_rfl
@[go_sem] theorem j8j : (q1i pp 123 = some [.slice none 0 0, .slice none 0 0]) ∧ tyF pp 127 1 false 24 [some 1] none (some [.slice none 0 0]) ∧ (sliceT pp 127 = some 90) ∧ tyF pp 143 2 true 16 [none, none] none (some [.int .i64 0, .int .i64 0]) ∧ (q05 pp 143 0 = some (0, 3)) ∧ (q05 pp 143 1 = some (1, 2)) ∧ (q33 pp 143 = some [(0, 1), (1, 1)]) ∧ tyF pp 150 1 false 8 [none] none (some [.pointer none]) ∧ tyF pp 152 2 true 32 [some 3, none] none (some [.slice none 0 0, .int .i64 0]) ∧ (q05 pp 152 0 = some (0, 90)) ∧ (q05 pp 152 1 = some (1, 3)) ∧ (q33 pp 152 = some [(0, 1), (1, 1)]) ∧ tyF pp 158 1 false 24 [some 2] none (some [.slice none 0 0]) ∧ (sliceT pp 158 = some 54) ∧ tyF pp 167 1 false 8 [none] none (some [.nilFunc]) ∧ tyF pp 177 1 false 8 [none] none (some [.nilFunc]) ∧ (u7 pp 178 = 1) ∧ (q0t pp 178 = true) := by (repeat' apply And.intro) <;> kernel_rfl
@[go_sem] theorem j8i : (q5i pp 178 = false) ∧ (q20 pp 178 = 8) ∧ (qq6 pp 178 = some .u64) ∧ (qd2 pp 178 = [none]) ∧ (qq4 pp 178 = none) ∧ (q1i pp 178 = some [.int .u64 0]) ∧ tyF pp 180 2 true 16 [none, none] none (some [.int .i64 0, .int .u64 0]) ∧ (q05 pp 180 0 = some (0, 2)) ∧ (q05 pp 180 1 = some (1, 178)) ∧ (q33 pp 180 = some [(0, 1), (1, 1)]) ∧ tyF pp 185 1 false 8 [none] none (some [.int .u64 0]) ∧ (qq6 pp 185 = some .u64) ∧ tyF pp 187 1 false 8 [none] none (some [.nilFunc]) ∧ tyF pp 189 1 false 8 [none] none (some [.nilFunc]) ∧ tyF pp 193 1 false 8 [none] none (some [.nilFunc]) ∧ tyF pp 205 1 false 8 [none] none (some [.pointer none]) ∧ tyF pp 206 1 false 24 [some 1] none (some [.slice none 0 0]) ∧ (sliceT pp 206 = some 2) := by (repeat' apply And.intro) <;> kernel_rfl
@[go_sem] theorem j8h : tyF pp 208 6 true 80 [none, none, some 1, some 2, none, none] none (some [.int .i64 0, .int .i64 0, .slice none 0 0, .slice none 0 0, .int .i64 0, .int .i64 0]) ∧ (q05 pp 208 0 = some (0, 54)) ∧ (q05 pp 208 1 = some (2, 206)) ∧ (q05 pp 208 2 = some (3, 158)) ∧ (q05 pp 208 3 = some (4, 3)) ∧ (q05 pp 208 4 = some (5, 3)) ∧ (q33 pp 208 = some [(0, 2), (2, 1), (3, 1), (4, 1), (5, 1)]) ∧ tyF pp 213 1 false 4 [none] none (some [.int .u32 0]) ∧ (qq6 pp 213 = some .u32) ∧ (y8 pp 3 = true) ∧ (y8 pp 4 = true) ∧ (y8 pp 5 = true) ∧ (y8 pp 6 = true) ∧ (y8 pp 7 = true) ∧ (y8 pp 8 = true) ∧ (y8 pp 9 = true) ∧ (y8 pp 10 = true) ∧ (y8 pp 11 = true) ∧ (y8 pp 12 = true) ∧ (y8 pp 13 = true) ∧ (y8 pp 14 = true) ∧ (y8 pp 15 = true) ∧ (y8 pp 16 = true) ∧ (y8 pp 17 = true) ∧ (y8 pp 18 = true) ∧ (y8 pp 19 = true) ∧ (y8 pp 20 = true) ∧ (y8 pp 21 = true) ∧ (y8 pp 22 = true) ∧ (y8 pp 23 = true) ∧ (y8 pp 24 = true) ∧ (y8 pp 25 = true) ∧ (y8 pp 26 = true) ∧ (y8 pp 27 = true) ∧ (y8 pp 28 = true) ∧ (y8 pp 29 = true) ∧ (y8 pp 30 = true) ∧ (y8 pp 31 = true) ∧ (y8 pp 32 = true) ∧ (y8 pp 33 = true) ∧ (y8 pp 34 = true) ∧ (y8 pp 35 = true) ∧ (y8 pp 36 = true) ∧ (y8 pp 37 = true) ∧ (y8 pp 38 = true) ∧ (y8 pp 39 = true) ∧ (y8 pp 40 = true) ∧ (y8 pp 41 = true) := by (repeat' apply And.intro) <;> kernel_rfl
@[go_sem] theorem j8g : (y8 pp 42 = true) ∧ (y8 pp 43 = true) ∧ (y8 pp 44 = true) ∧ (y8 pp 45 = true) ∧ (y8 pp 46 = true) ∧ (y8 pp 47 = true) ∧ (y8 pp 48 = true) ∧ (y8 pp 49 = true) ∧ (y8 pp 50 = true) ∧ (y8 pp 51 = true) ∧ (y8 pp 52 = true) ∧ (y8 pp 53 = true) ∧ (y8 pp 54 = true) ∧ (y8 pp 55 = true) ∧ (y8 pp 56 = true) ∧ (y8 pp 57 = true) ∧ (y8 pp 58 = true) ∧ (y8 pp 59 = true) ∧ (y8 pp 60 = true) ∧ (y8 pp 61 = true) ∧ (y8 pp 62 = true) ∧ (y8 pp 63 = true) ∧ (y8 pp 64 = true) ∧ (y8 pp 65 = true) ∧ (y8 pp 66 = true) ∧ (y8 pp 67 = true) ∧ (y8 pp 68 = true) ∧ (y8 pp 69 = true) ∧ (y8 pp 70 = true) ∧ (y8 pp 71 = true) ∧ (y8 pp 72 = true) ∧ (y8 pp 73 = true) ∧ (y8 pp 74 = true) ∧ (y8 pp 75 = true) ∧ (y8 pp 76 = true) ∧ (y8 pp 77 = true) ∧ (y8 pp 78 = true) ∧ (y8 pp 79 = true) ∧ (y8 pp 80 = true) ∧ (y8 pp 81 = true) ∧ (y8 pp 82 = true) ∧ (y8 pp 83 = true) ∧ (y8 pp 84 = true) ∧ (y8 pp 85 = true) ∧ (y8 pp 86 = true) ∧ (y8 pp 87 = true) ∧ (y8 pp 88 = true) ∧ (y8 pp 89 = true) ∧ (y8 pp 90 = true) ∧ (y8 pp 91 = true) ∧ (y8 pp 92 = true) ∧ (y8 pp 93 = true) ∧ (y8 pp 94 = true) ∧ (y8 pp 95 = true) ∧ (y8 pp 96 = true) ∧ (y8 pp 97 = true) ∧ (y8 pp 98 = true) ∧ (y8 pp 99 = true) ∧ (y8 pp 100 = true) ∧ (y8 pp 101 = true) := by (repeat' apply And.intro) <;> kernel_rfl
@[go_sem] theorem j8f : (y8 pp 102 = true) ∧ (y8 pp 103 = true) ∧ (y8 pp 104 = true) ∧ (y8 pp 105 = true) ∧ (y8 pp 106 = true) ∧ (y8 pp 107 = true) ∧ (y8 pp 108 = true) ∧ (y8 pp 109 = true) ∧ (y8 pp 110 = true) ∧ (y8 pp 111 = true) ∧ (y8 pp 112 = true) ∧ (y8 pp 113 = true) ∧ (y8 pp 114 = true) ∧ (y8 pp 115 = true) ∧ (y8 pp 116 = true) ∧ (y8 pp 117 = true) ∧ (y8 pp 118 = true) ∧ (y8 pp 119 = true) ∧ (y8 pp 120 = true) ∧ (y8 pp 121 = true) ∧ (y8 pp 122 = true) ∧ (y8 pp 123 = true) ∧ (y8 pp 124 = true) ∧ (y8 pp 125 = true) ∧ (y8 pp 126 = true) ∧ (y8 pp 127 = true) ∧ (y8 pp 128 = true) ∧ (y8 pp 129 = true) ∧ (y8 pp 130 = true) ∧ (y8 pp 131 = true) ∧ (y8 pp 132 = true) ∧ (y8 pp 133 = true) ∧ (y8 pp 134 = true) ∧ (y8 pp 135 = true) ∧ (y8 pp 136 = true) ∧ (y8 pp 137 = true) ∧ (y8 pp 138 = true) ∧ (y8 pp 139 = true) ∧ (y8 pp 140 = true) ∧ (y8 pp 141 = true) ∧ (y8 pp 142 = true) ∧ (y8 pp 143 = true) ∧ (y8 pp 144 = true) ∧ (y8 pp 145 = true) ∧ (y8 pp 146 = true) ∧ (y8 pp 147 = true) ∧ (y8 pp 148 = true) ∧ (y8 pp 149 = true) ∧ (y8 pp 152 = true) ∧ (y8 pp 153 = true) ∧ (y8 pp 156 = true) ∧ (y8 pp 157 = true) ∧ (y8 pp 159 = true) ∧ (y8 pp 160 = true) ∧ (y8 pp 161 = true) ∧ (y8 pp 162 = true) ∧ (y8 pp 164 = true) ∧ (y8 pp 165 = true) ∧ (y8 pp 166 = true) := by (repeat' apply And.intro) <;> kernel_rfl
theorem mixed : Tryz.prog.follows .mixedOrders = true := by kernel_rfl
structure Arr2 (α : Type) where
  a0 : α
  a1 : α
instance {α : Type} [Row α] : Row (Arr2 α) := ⟨Row.sz α + Row.sz α, fun x => Row.row x.a0 ++ Row.row x.a1⟩
instance {α : Type} [Dat α] : Dat (Arr2 α) where
  ct := Dat.ct α ++ (Dat.ct α)
  ok x := Dat.ok x.a0 ∧ Dat.ok x.a1
  len := by simp only [List.length_append, Dat.len]; (try simp only [Row.sz]); (try omega)
  of avs h := by
    obtain ⟨b0, r0, rfl, h0, g0⟩ := p8 h; obtain ⟨x0, rfl, k0⟩ := Dat.of (α := α) _ h0; obtain ⟨x1, rfl, k1⟩ := Dat.of (α := α) _ g0; exact ⟨⟨x0, x1⟩, by simp only [Row.row, List.append_assoc], k0, k1⟩
structure Arr4 (α : Type) where
  a0 : α
  a1 : α
  a2 : α
  a3 : α
instance {α : Type} [Row α] : Row (Arr4 α) := ⟨Row.sz α + Row.sz α + Row.sz α + Row.sz α, fun x => Row.row x.a0 ++ Row.row x.a1 ++ Row.row x.a2 ++ Row.row x.a3⟩
instance {α : Type} [Dat α] : Dat (Arr4 α) where
  ct := Dat.ct α ++ (Dat.ct α ++ (Dat.ct α ++ (Dat.ct α)))
  ok x := Dat.ok x.a0 ∧ Dat.ok x.a1 ∧ Dat.ok x.a2 ∧ Dat.ok x.a3
  len := by simp only [List.length_append, Dat.len]; (try simp only [Row.sz]); (try omega)
  of avs h := by
    obtain ⟨b0, r0, rfl, h0, g0⟩ := p8 h; obtain ⟨b1, r1, rfl, h1, g1⟩ := p8 g0; obtain ⟨b2, r2, rfl, h2, g2⟩ := p8 g1; obtain ⟨x0, rfl, k0⟩ := Dat.of (α := α) _ h0; obtain ⟨x1, rfl, k1⟩ := Dat.of (α := α) _ h1; obtain ⟨x2, rfl, k2⟩ := Dat.of (α := α) _ h2; obtain ⟨x3, rfl, k3⟩ := Dat.of (α := α) _ g2; exact ⟨⟨x0, x1, x2, x3⟩, by simp only [Row.row, List.append_assoc], k0, k1, k2, k3⟩
structure Nu64 where
  n : Int
instance : Row Nu64 := ⟨1, fun x => [.v (.int .u64 x.n)]⟩
@[go_sem] theorem j8w (x : Nu64) : Row.row x = [.v (.int .u64 x.n)] := rfl
instance : Dat Nu64 where
  ct := [.int .u64]
  ok x := inI .u64 x.n
  len := rfl
  of avs h := by
    simp only [q2j, z0d] at h; obtain ⟨_, _, rfl, ⟨n, rfl, hw⟩, rfl⟩ := h; exact ⟨⟨n⟩, rfl, hw⟩
structure GIns where
  Op : Int
  N : Int
instance : Row GIns := ⟨2, fun x => [.v (.int .i64 x.Op), .v (.int .i64 x.N)]⟩
@[go_sem] theorem j8z (x : GIns) : Row.row x = [.v (.int .i64 x.Op), .v (.int .i64 x.N)] := rfl
@[go_sem] theorem j9d : Row.sz GIns = 2 := rfl
instance : Dat GIns where
  ct := Dat.ct Int ++ (Dat.ct Int)
  ok x := Dat.ok x.Op ∧ Dat.ok x.N
  len := rfl
  of avs h := by
    obtain ⟨b0, r0, rfl, h0, g0⟩ := p8 h; obtain ⟨x0, rfl, k0⟩ := Dat.of (α := Int) _ h0; obtain ⟨x1, rfl, k1⟩ := Dat.of (α := Int) _ g0; exact ⟨⟨x0, x1⟩, rfl, k0, k1⟩
structure GNode where
  Kind : Int
  Scope : Int
  Arg : Int
  Prog : List GIns
instance : Row GNode := ⟨4, fun x => [.v (.int .i64 x.Kind), .v (.int .i64 x.Scope), .v (.int .i64 x.Arg), .sl 2 (enc x.Prog)]⟩
@[go_sem] theorem j8a (x : GNode) : Row.row x = [.v (.int .i64 x.Kind), .v (.int .i64 x.Scope), .v (.int .i64 x.Arg), .sl 2 (enc x.Prog)] := rfl
@[go_sem] theorem j8r : Row.sz GNode = 4 := rfl
instance : Dat GNode where
  ct := Dat.ct Int ++ (Dat.ct Int ++ (Dat.ct Int ++ (Dat.ct (List GIns))))
  ok x := Dat.ok x.Kind ∧ Dat.ok x.Scope ∧ Dat.ok x.Arg ∧ Dat.ok x.Prog
  len := rfl
  of avs h := by
    obtain ⟨b0, r0, rfl, h0, g0⟩ := p8 h; obtain ⟨b1, r1, rfl, h1, g1⟩ := p8 g0; obtain ⟨b2, r2, rfl, h2, g2⟩ := p8 g1; obtain ⟨x0, rfl, k0⟩ := Dat.of (α := Int) _ h0; obtain ⟨x1, rfl, k1⟩ := Dat.of (α := Int) _ h1; obtain ⟨x2, rfl, k2⟩ := Dat.of (α := Int) _ h2; obtain ⟨x3, rfl, k3⟩ := Dat.of (α := List GIns) _ g2; exact ⟨⟨x0, x1, x2, x3⟩, rfl, k0, k1, k2, k3⟩
structure GEdge where
  From : Int
  To : Int
  Port : Int
  Exchange : Bool
instance : Row GEdge := ⟨4, fun x => [.v (.int .i64 x.From), .v (.int .i64 x.To), .v (.int .i64 x.Port), .v (.bool x.Exchange)]⟩
@[go_sem] theorem j8c (x : GEdge) : Row.row x = [.v (.int .i64 x.From), .v (.int .i64 x.To), .v (.int .i64 x.Port), .v (.bool x.Exchange)] := rfl
@[go_sem] theorem j8u : Row.sz GEdge = 4 := rfl
instance : Dat GEdge where
  ct := Dat.ct Int ++ (Dat.ct Int ++ (Dat.ct Int ++ (Dat.ct Bool)))
  ok x := Dat.ok x.From ∧ Dat.ok x.To ∧ Dat.ok x.Port ∧ Dat.ok x.Exchange
  len := rfl
  of avs h := by
    obtain ⟨b0, r0, rfl, h0, g0⟩ := p8 h; obtain ⟨b1, r1, rfl, h1, g1⟩ := p8 g0; obtain ⟨b2, r2, rfl, h2, g2⟩ := p8 g1; obtain ⟨x0, rfl, k0⟩ := Dat.of (α := Int) _ h0; obtain ⟨x1, rfl, k1⟩ := Dat.of (α := Int) _ h1; obtain ⟨x2, rfl, k2⟩ := Dat.of (α := Int) _ h2; obtain ⟨x3, rfl, k3⟩ := Dat.of (α := Bool) _ g2; exact ⟨⟨x0, x1, x2, x3⟩, rfl, k0, k1, k2, k3⟩
structure GGraph where
  Parent : List Int
  Bound : List Int
  Nodes : List GNode
  Edges : List GEdge
instance : Row GGraph := ⟨4, fun x => [.sl 1 (enc x.Parent), .sl 1 (enc x.Bound), .sl 4 (enc x.Nodes), .sl 4 (enc x.Edges)]⟩
@[go_sem] theorem j7r (x : GGraph) : Row.row x = [.sl 1 (enc x.Parent), .sl 1 (enc x.Bound), .sl 4 (enc x.Nodes), .sl 4 (enc x.Edges)] := rfl
@[go_sem] theorem j87 : Row.sz GGraph = 4 := rfl
instance : Dat GGraph where
  ct := Dat.ct (List Int) ++ (Dat.ct (List Int) ++ (Dat.ct (List GNode) ++ (Dat.ct (List GEdge))))
  ok x := Dat.ok x.Parent ∧ Dat.ok x.Bound ∧ Dat.ok x.Nodes ∧ Dat.ok x.Edges
  len := rfl
  of avs h := by
    obtain ⟨b0, r0, rfl, h0, g0⟩ := p8 h; obtain ⟨b1, r1, rfl, h1, g1⟩ := p8 g0; obtain ⟨b2, r2, rfl, h2, g2⟩ := p8 g1; obtain ⟨x0, rfl, k0⟩ := Dat.of (α := List Int) _ h0; obtain ⟨x1, rfl, k1⟩ := Dat.of (α := List Int) _ h1; obtain ⟨x2, rfl, k2⟩ := Dat.of (α := List GNode) _ h2; obtain ⟨x3, rfl, k3⟩ := Dat.of (α := List GEdge) _ g2; exact ⟨⟨x0, x1, x2, x3⟩, rfl, k0, k1, k2, k3⟩
structure GRec where
  K : Int
  V : Int
instance : Row GRec := ⟨2, fun x => [.v (.int .i64 x.K), .v (.int .i64 x.V)]⟩
@[go_sem] theorem j8x (x : GRec) : Row.row x = [.v (.int .i64 x.K), .v (.int .i64 x.V)] := rfl
@[go_sem] theorem j9b : Row.sz GRec = 2 := rfl
instance : Dat GRec where
  ct := Dat.ct Int ++ (Dat.ct Int)
  ok x := Dat.ok x.K ∧ Dat.ok x.V
  len := rfl
  of avs h := by
    obtain ⟨b0, r0, rfl, h0, g0⟩ := p8 h; obtain ⟨x0, rfl, k0⟩ := Dat.of (α := Int) _ h0; obtain ⟨x1, rfl, k1⟩ := Dat.of (α := Int) _ g0; exact ⟨⟨x0, x1⟩, rfl, k0, k1⟩
structure GFeed where
  Node : Int
  Epoch : Int
  Rec : GRec
instance : Row GFeed := ⟨4, fun x => [.v (.int .i64 x.Node), .v (.int .i64 x.Epoch), .v (.int .i64 x.Rec.K), .v (.int .i64 x.Rec.V)]⟩
@[go_sem] theorem j8b (x : GFeed) : Row.row x = [.v (.int .i64 x.Node), .v (.int .i64 x.Epoch), .v (.int .i64 x.Rec.K), .v (.int .i64 x.Rec.V)] := rfl
@[go_sem] theorem j8t : Row.sz GFeed = 4 := rfl
instance : Dat GFeed where
  ct := Dat.ct Int ++ (Dat.ct Int ++ (Dat.ct GRec))
  ok x := Dat.ok x.Node ∧ Dat.ok x.Epoch ∧ Dat.ok x.Rec
  len := rfl
  of avs h := by
    obtain ⟨b0, r0, rfl, h0, g0⟩ := p8 h; obtain ⟨b1, r1, rfl, h1, g1⟩ := p8 g0; obtain ⟨x0, rfl, k0⟩ := Dat.of (α := Int) _ h0; obtain ⟨x1, rfl, k1⟩ := Dat.of (α := Int) _ h1; obtain ⟨x2, rfl, k2⟩ := Dat.of (α := GRec) _ g1; exact ⟨⟨x0, x1, x2⟩, rfl, k0, k1, k2⟩
structure GHop where
  From : Int
  Keep : Int
  Tail : Int
  Add : Arr4 Int
  T : Arr4 Int
instance : Row GHop := ⟨11, fun x => [.v (.int .i64 x.From), .v (.int .i64 x.Keep), .v (.int .i64 x.Tail), .v (.int .i64 x.Add.a0), .v (.int .i64 x.Add.a1), .v (.int .i64 x.Add.a2), .v (.int .i64 x.Add.a3), .v (.int .i64 x.T.a0), .v (.int .i64 x.T.a1), .v (.int .i64 x.T.a2), .v (.int .i64 x.T.a3)]⟩
@[go_sem] theorem j90 (x : GHop) : Row.row x = [.v (.int .i64 x.From), .v (.int .i64 x.Keep), .v (.int .i64 x.Tail), .v (.int .i64 x.Add.a0), .v (.int .i64 x.Add.a1), .v (.int .i64 x.Add.a2), .v (.int .i64 x.Add.a3), .v (.int .i64 x.T.a0), .v (.int .i64 x.T.a1), .v (.int .i64 x.T.a2), .v (.int .i64 x.T.a3)] := rfl
@[go_sem] theorem j9e : Row.sz GHop = 11 := rfl
instance : Dat GHop where
  ct := Dat.ct Int ++ (Dat.ct Int ++ (Dat.ct Int ++ (Dat.ct (Arr4 Int) ++ (Dat.ct (Arr4 Int)))))
  ok x := Dat.ok x.From ∧ Dat.ok x.Keep ∧ Dat.ok x.Tail ∧ Dat.ok x.Add ∧ Dat.ok x.T
  len := rfl
  of avs h := by
    obtain ⟨b0, r0, rfl, h0, g0⟩ := p8 h; obtain ⟨b1, r1, rfl, h1, g1⟩ := p8 g0; obtain ⟨b2, r2, rfl, h2, g2⟩ := p8 g1; obtain ⟨b3, r3, rfl, h3, g3⟩ := p8 g2; obtain ⟨x0, rfl, k0⟩ := Dat.of (α := Int) _ h0; obtain ⟨x1, rfl, k1⟩ := Dat.of (α := Int) _ h1; obtain ⟨x2, rfl, k2⟩ := Dat.of (α := Int) _ h2; obtain ⟨x3, rfl, k3⟩ := Dat.of (α := Arr4 Int) _ h3; obtain ⟨x4, rfl, k4⟩ := Dat.of (α := Arr4 Int) _ g3; exact ⟨⟨x0, x1, x2, x3, x4⟩, rfl, k0, k1, k2, k3, k4⟩
structure GTime where
  D : Int
  C : Arr4 Int
instance : Row GTime := ⟨5, fun x => [.v (.int .i64 x.D), .v (.int .i64 x.C.a0), .v (.int .i64 x.C.a1), .v (.int .i64 x.C.a2), .v (.int .i64 x.C.a3)]⟩
@[go_sem] theorem j89 (x : GTime) : Row.row x = [.v (.int .i64 x.D), .v (.int .i64 x.C.a0), .v (.int .i64 x.C.a1), .v (.int .i64 x.C.a2), .v (.int .i64 x.C.a3)] := rfl
@[go_sem] theorem j8q : Row.sz GTime = 5 := rfl
instance : Dat GTime where
  ct := Dat.ct Int ++ (Dat.ct (Arr4 Int))
  ok x := Dat.ok x.D ∧ Dat.ok x.C
  len := rfl
  of avs h := by
    obtain ⟨b0, r0, rfl, h0, g0⟩ := p8 h; obtain ⟨x0, rfl, k0⟩ := Dat.of (α := Int) _ h0; obtain ⟨x1, rfl, k1⟩ := Dat.of (α := Arr4 Int) _ g0; exact ⟨⟨x0, x1⟩, rfl, k0, k1⟩
structure GPoint where
  Node : Int
  Time : GTime
instance : Row GPoint := ⟨6, fun x => [.v (.int .i64 x.Node), .v (.int .i64 x.Time.D), .v (.int .i64 x.Time.C.a0), .v (.int .i64 x.Time.C.a1), .v (.int .i64 x.Time.C.a2), .v (.int .i64 x.Time.C.a3)]⟩
@[go_sem] theorem j7q (x : GPoint) : Row.row x = [.v (.int .i64 x.Node), .v (.int .i64 x.Time.D), .v (.int .i64 x.Time.C.a0), .v (.int .i64 x.Time.C.a1), .v (.int .i64 x.Time.C.a2), .v (.int .i64 x.Time.C.a3)] := rfl
@[go_sem] theorem j86 : Row.sz GPoint = 6 := rfl
instance : Dat GPoint where
  ct := Dat.ct Int ++ (Dat.ct GTime)
  ok x := Dat.ok x.Node ∧ Dat.ok x.Time
  len := rfl
  of avs h := by
    obtain ⟨b0, r0, rfl, h0, g0⟩ := p8 h; obtain ⟨x0, rfl, k0⟩ := Dat.of (α := Int) _ h0; obtain ⟨x1, rfl, k1⟩ := Dat.of (α := GTime) _ g0; exact ⟨⟨x0, x1⟩, rfl, k0, k1⟩
structure GItem where
  Rec : GRec
  N : Int
instance : Row GItem := ⟨3, fun x => [.v (.int .i64 x.Rec.K), .v (.int .i64 x.Rec.V), .v (.int .i64 x.N)]⟩
@[go_sem] theorem zz1 (x : GItem) : Row.row x = [.v (.int .i64 x.Rec.K), .v (.int .i64 x.Rec.V), .v (.int .i64 x.N)] := rfl
@[go_sem] theorem j8s : Row.sz GItem = 3 := rfl
instance : Dat GItem where
  ct := Dat.ct GRec ++ (Dat.ct Int)
  ok x := Dat.ok x.Rec ∧ Dat.ok x.N
  len := rfl
  of avs h := by
    obtain ⟨b0, r0, rfl, h0, g0⟩ := p8 h; obtain ⟨x0, rfl, k0⟩ := Dat.of (α := GRec) _ h0; obtain ⟨x1, rfl, k1⟩ := Dat.of (α := Int) _ g0; exact ⟨⟨x0, x1⟩, rfl, k0, k1⟩
structure GWave_pool where
  points : List GPoint
  in_ : List (Arr2 (List GItem))
instance : Row GWave_pool := ⟨2, fun x => [.sl 6 (enc x.points), .sl 2 (enc x.in_)]⟩
@[go_sem] theorem j4l (x : GWave_pool) : Row.row x = [.sl 6 (enc x.points), .sl 2 (enc x.in_)] := rfl
@[go_sem] theorem j5p : Row.sz GWave_pool = 2 := rfl
instance : Dat GWave_pool where
  ct := Dat.ct (List GPoint) ++ (Dat.ct (List (Arr2 (List GItem))))
  ok x := Dat.ok x.points ∧ Dat.ok x.in_
  len := rfl
  of avs h := by
    obtain ⟨b0, r0, rfl, h0, g0⟩ := p8 h; obtain ⟨x0, rfl, k0⟩ := Dat.of (α := List GPoint) _ h0; obtain ⟨x1, rfl, k1⟩ := Dat.of (α := List (Arr2 (List GItem))) _ g0; exact ⟨⟨x0, x1⟩, rfl, k0, k1⟩
structure GWave where
  Point : GPoint
  Came : Int
  Gave : Int
instance : Row GWave := ⟨8, fun x => [.v (.int .i64 x.Point.Node), .v (.int .i64 x.Point.Time.D), .v (.int .i64 x.Point.Time.C.a0), .v (.int .i64 x.Point.Time.C.a1), .v (.int .i64 x.Point.Time.C.a2), .v (.int .i64 x.Point.Time.C.a3), .v (.int .i64 x.Came), .v (.int .i64 x.Gave)]⟩
@[go_sem] theorem j88 (x : GWave) : Row.row x = [.v (.int .i64 x.Point.Node), .v (.int .i64 x.Point.Time.D), .v (.int .i64 x.Point.Time.C.a0), .v (.int .i64 x.Point.Time.C.a1), .v (.int .i64 x.Point.Time.C.a2), .v (.int .i64 x.Point.Time.C.a3), .v (.int .i64 x.Came), .v (.int .i64 x.Gave)] := rfl
@[go_sem] theorem j8p : Row.sz GWave = 8 := rfl
instance : Dat GWave where
  ct := Dat.ct GPoint ++ (Dat.ct Int ++ (Dat.ct Int))
  ok x := Dat.ok x.Point ∧ Dat.ok x.Came ∧ Dat.ok x.Gave
  len := rfl
  of avs h := by
    obtain ⟨b0, r0, rfl, h0, g0⟩ := p8 h; obtain ⟨b1, r1, rfl, h1, g1⟩ := p8 g0; obtain ⟨x0, rfl, k0⟩ := Dat.of (α := GPoint) _ h0; obtain ⟨x1, rfl, k1⟩ := Dat.of (α := Int) _ h1; obtain ⟨x2, rfl, k2⟩ := Dat.of (α := Int) _ g1; exact ⟨⟨x0, x1, x2⟩, rfl, k0, k1, k2⟩
structure GOut where
  Node : Int
  Epoch : Int
  Rec : GRec
instance : Row GOut := ⟨4, fun x => [.v (.int .i64 x.Node), .v (.int .i64 x.Epoch), .v (.int .i64 x.Rec.K), .v (.int .i64 x.Rec.V)]⟩
@[go_sem] theorem j8y (x : GOut) : Row.row x = [.v (.int .i64 x.Node), .v (.int .i64 x.Epoch), .v (.int .i64 x.Rec.K), .v (.int .i64 x.Rec.V)] := rfl
@[go_sem] theorem j9c : Row.sz GOut = 4 := rfl
instance : Dat GOut where
  ct := Dat.ct Int ++ (Dat.ct Int ++ (Dat.ct GRec))
  ok x := Dat.ok x.Node ∧ Dat.ok x.Epoch ∧ Dat.ok x.Rec
  len := rfl
  of avs h := by
    obtain ⟨b0, r0, rfl, h0, g0⟩ := p8 h; obtain ⟨b1, r1, rfl, h1, g1⟩ := p8 g0; obtain ⟨x0, rfl, k0⟩ := Dat.of (α := Int) _ h0; obtain ⟨x1, rfl, k1⟩ := Dat.of (α := Int) _ h1; obtain ⟨x2, rfl, k2⟩ := Dat.of (α := GRec) _ g1; exact ⟨⟨x0, x1, x2⟩, rfl, k0, k1, k2⟩
structure GWave_runner where
  pool : GWave_pool
  g : GGraph
  table : List (List (List GHop))
  past : GWave_pool
  work : Int
  waves : List GWave
  outs : List GOut
instance : Row GWave_runner := ⟨12, fun x => [.sl 6 (enc x.pool.points), .sl 2 (enc x.pool.in_), .sl 1 (enc x.g.Parent), .sl 1 (enc x.g.Bound), .sl 4 (enc x.g.Nodes), .sl 4 (enc x.g.Edges), .sl 1 (enc x.table), .sl 6 (enc x.past.points), .sl 2 (enc x.past.in_), .v (.int .i64 x.work), .sl 8 (enc x.waves), .sl 4 (enc x.outs)]⟩
@[go_sem] theorem j1u (x : GWave_runner) : Row.row x = [.sl 6 (enc x.pool.points), .sl 2 (enc x.pool.in_), .sl 1 (enc x.g.Parent), .sl 1 (enc x.g.Bound), .sl 4 (enc x.g.Nodes), .sl 4 (enc x.g.Edges), .sl 1 (enc x.table), .sl 6 (enc x.past.points), .sl 2 (enc x.past.in_), .v (.int .i64 x.work), .sl 8 (enc x.waves), .sl 4 (enc x.outs)] := rfl
@[go_sem] theorem j37 : Row.sz GWave_runner = 12 := rfl
instance : Dat GWave_runner where
  ct := Dat.ct GWave_pool ++ (Dat.ct GGraph ++ (Dat.ct (List (List (List GHop))) ++ (Dat.ct GWave_pool ++ (Dat.ct Int ++ (Dat.ct (List GWave) ++ (Dat.ct (List GOut)))))))
  ok x := Dat.ok x.pool ∧ Dat.ok x.g ∧ Dat.ok x.table ∧ Dat.ok x.past ∧ Dat.ok x.work ∧ Dat.ok x.waves ∧ Dat.ok x.outs
  len := rfl
  of avs h := by
    obtain ⟨b0, r0, rfl, h0, g0⟩ := p8 h; obtain ⟨b1, r1, rfl, h1, g1⟩ := p8 g0; obtain ⟨b2, r2, rfl, h2, g2⟩ := p8 g1; obtain ⟨b3, r3, rfl, h3, g3⟩ := p8 g2; obtain ⟨b4, r4, rfl, h4, g4⟩ := p8 g3; obtain ⟨b5, r5, rfl, h5, g5⟩ := p8 g4; obtain ⟨x0, rfl, k0⟩ := Dat.of (α := GWave_pool) _ h0; obtain ⟨x1, rfl, k1⟩ := Dat.of (α := GGraph) _ h1; obtain ⟨x2, rfl, k2⟩ := Dat.of (α := List (List (List GHop))) _ h2; obtain ⟨x3, rfl, k3⟩ := Dat.of (α := GWave_pool) _ h3; obtain ⟨x4, rfl, k4⟩ := Dat.of (α := Int) _ h4; obtain ⟨x5, rfl, k5⟩ := Dat.of (α := List GWave) _ h5; obtain ⟨x6, rfl, k6⟩ := Dat.of (α := List GOut) _ g5; exact ⟨⟨x0, x1, x2, x3, x4, x5, x6⟩, rfl, k0, k1, k2, k3, k4, k5, k6⟩
structure GProg_machine where
  r : GRec
  stack : List Int
  out : List GRec
  at_ : Int
  bad : Int
instance : Row GProg_machine := ⟨6, fun x => [.v (.int .i64 x.r.K), .v (.int .i64 x.r.V), .sl 1 (enc x.stack), .sl 2 (enc x.out), .v (.int .i64 x.at_), .v (.int .i64 x.bad)]⟩
@[go_sem] theorem j0v (x : GProg_machine) : Row.row x = [.v (.int .i64 x.r.K), .v (.int .i64 x.r.V), .sl 1 (enc x.stack), .sl 2 (enc x.out), .v (.int .i64 x.at_), .v (.int .i64 x.bad)] := rfl
@[go_sem] theorem j1j : Row.sz GProg_machine = 6 := rfl
instance : Dat GProg_machine where
  ct := Dat.ct GRec ++ (Dat.ct (List Int) ++ (Dat.ct (List GRec) ++ (Dat.ct Int ++ (Dat.ct Int))))
  ok x := Dat.ok x.r ∧ Dat.ok x.stack ∧ Dat.ok x.out ∧ Dat.ok x.at_ ∧ Dat.ok x.bad
  len := rfl
  of avs h := by
    obtain ⟨b0, r0, rfl, h0, g0⟩ := p8 h; obtain ⟨b1, r1, rfl, h1, g1⟩ := p8 g0; obtain ⟨b2, r2, rfl, h2, g2⟩ := p8 g1; obtain ⟨b3, r3, rfl, h3, g3⟩ := p8 g2; obtain ⟨x0, rfl, k0⟩ := Dat.of (α := GRec) _ h0; obtain ⟨x1, rfl, k1⟩ := Dat.of (α := List Int) _ h1; obtain ⟨x2, rfl, k2⟩ := Dat.of (α := List GRec) _ h2; obtain ⟨x3, rfl, k3⟩ := Dat.of (α := Int) _ h3; obtain ⟨x4, rfl, k4⟩ := Dat.of (α := Int) _ g3; exact ⟨⟨x0, x1, x2, x3, x4⟩, rfl, k0, k1, k2, k3, k4⟩
structure GOps_maker where
  out : List GItem
  many : Int
instance : Row GOps_maker := ⟨2, fun x => [.sl 3 (enc x.out), .v (.int .i64 x.many)]⟩
@[go_sem] theorem j4m (x : GOps_maker) : Row.row x = [.sl 3 (enc x.out), .v (.int .i64 x.many)] := rfl
@[go_sem] theorem j5q : Row.sz GOps_maker = 2 := rfl
instance : Dat GOps_maker where
  ct := Dat.ct (List GItem) ++ (Dat.ct Int)
  ok x := Dat.ok x.out ∧ Dat.ok x.many
  len := rfl
  of avs h := by
    obtain ⟨b0, r0, rfl, h0, g0⟩ := p8 h; obtain ⟨x0, rfl, k0⟩ := Dat.of (α := List GItem) _ h0; obtain ⟨x1, rfl, k1⟩ := Dat.of (α := Int) _ g0; exact ⟨⟨x0, x1⟩, rfl, k0, k1⟩
structure GOps_wide where
  hi : Int
  lo : Nu64
instance : Row GOps_wide := ⟨2, fun x => [.v (.int .i64 x.hi), .v (.int .u64 x.lo.n)]⟩
@[go_sem] theorem j5r (x : GOps_wide) : Row.row x = [.v (.int .i64 x.hi), .v (.int .u64 x.lo.n)] := rfl
@[go_sem] theorem j69 : Row.sz GOps_wide = 2 := rfl
instance : Dat GOps_wide where
  ct := Dat.ct Int ++ (Dat.ct Nu64)
  ok x := Dat.ok x.hi ∧ Dat.ok x.lo
  len := rfl
  of avs h := by
    obtain ⟨b0, r0, rfl, h0, g0⟩ := p8 h; obtain ⟨x0, rfl, k0⟩ := Dat.of (α := Int) _ h0; obtain ⟨x1, rfl, k1⟩ := Dat.of (α := Nu64) _ g0; exact ⟨⟨x0, x1⟩, rfl, k0, k1⟩
structure GBackwashref02_Part where
  Of : Int
  Add : Int
instance : Row GBackwashref02_Part := ⟨2, fun x => [.v (.int .i64 x.Of), .v (.int .i64 x.Add)]⟩
@[go_sem] theorem zn4 (x : GBackwashref02_Part) : Row.row x = [.v (.int .i64 x.Of), .v (.int .i64 x.Add)] := rfl
@[go_sem] theorem zo0 : Row.sz GBackwashref02_Part = 2 := rfl
instance : Dat GBackwashref02_Part where
  ct := Dat.ct Int ++ (Dat.ct Int)
  ok x := Dat.ok x.Of ∧ Dat.ok x.Add
  len := rfl
  of avs h := by
    obtain ⟨b0, r0, rfl, h0, g0⟩ := p8 h; obtain ⟨x0, rfl, k0⟩ := Dat.of (α := Int) _ h0; obtain ⟨x1, rfl, k1⟩ := Dat.of (α := Int) _ g0; exact ⟨⟨x0, x1⟩, rfl, k0, k1⟩
@[go_sem] theorem j8v (x : Arr2 (List GItem)) : Row.row x = [.sl 3 (enc x.a0), .sl 3 (enc x.a1)] := rfl
@[go_sem] theorem j9m : EqT pp 40 [some .i64, some .i64, some .i64, some .i64, some .i64, some .i64] := j7k (by kernel_rfl) (by kernel_rfl) (by kernel_rfl)
attribute [go_sem] Tryz.ntmps3 Tryz.results3 Tryz.ntmps4 Tryz.results4 Tryz.ntmps5 Tryz.results5 Tryz.ntmps6 Tryz.results6 Tryz.ntmps7 Tryz.results7 Tryz.ntmps8 Tryz.results8 Tryz.ntmps9 Tryz.results9 Tryz.ntmps10 Tryz.results10 Tryz.ntmps11 Tryz.results11 Tryz.ntmps12 Tryz.results12 Tryz.ntmps13 Tryz.results13 Tryz.ntmps14 Tryz.results14 Tryz.ntmps15 Tryz.results15 Tryz.ntmps16 Tryz.results16 Tryz.ntmps17 Tryz.results17 Tryz.ntmps18 Tryz.results18 Tryz.ntmps19 Tryz.results19 Tryz.ntmps20 Tryz.results20 Tryz.ntmps21 Tryz.results21 Tryz.ntmps22 Tryz.results22 Tryz.ntmps23 Tryz.results23 Tryz.ntmps24 Tryz.results24 Tryz.ntmps25 Tryz.results25 Tryz.ntmps26 Tryz.results26 Tryz.ntmps27 Tryz.results27 Tryz.ntmps28 Tryz.results28 Tryz.ntmps29 Tryz.results29 Tryz.ntmps30 Tryz.results30 Tryz.ntmps31 Tryz.results31 Tryz.ntmps32 Tryz.results32 Tryz.ntmps33 Tryz.results33 Tryz.ntmps34 Tryz.results34 Tryz.ntmps35 Tryz.results35 Tryz.ntmps36 Tryz.results36 Tryz.ntmps37 Tryz.results37 Tryz.ntmps38 Tryz.results38 Tryz.ntmps39 Tryz.results39 Tryz.ntmps40 Tryz.results40 Tryz.ntmps41 Tryz.results41 Tryz.ntmps42 Tryz.results42 Tryz.ntmps43 Tryz.results43 Tryz.ntmps44 Tryz.results44 Tryz.ntmps45 Tryz.results45 Tryz.ntmps46 Tryz.results46 Tryz.ntmps47 Tryz.results47 Tryz.ntmps48 Tryz.results48 Tryz.ntmps49 Tryz.results49 Tryz.ntmps50 Tryz.results50 Tryz.ntmps51 Tryz.results51 Tryz.ntmps52 Tryz.results52 Tryz.ntmps53 Tryz.results53 Tryz.ntmps54 Tryz.results54 Tryz.ntmps55 Tryz.results55 Tryz.ntmps56 Tryz.results56 Tryz.ntmps57 Tryz.results57 Tryz.ntmps58 Tryz.results58 Tryz.ntmps59 Tryz.results59 Tryz.ntmps60 Tryz.results60 Tryz.ntmps61 Tryz.results61 Tryz.ntmps62 Tryz.results62 Tryz.ntmps63 Tryz.results63 Tryz.ntmps64 Tryz.results64 Tryz.ntmps65 Tryz.results65 Tryz.ntmps66 Tryz.results66 Tryz.ntmps67 Tryz.results67 Tryz.ntmps68 Tryz.results68 Tryz.ntmps69 Tryz.results69 Tryz.ntmps70 Tryz.results70 Tryz.ntmps71 Tryz.results71 Tryz.ntmps72 Tryz.results72 Tryz.ntmps73 Tryz.results73 Tryz.ntmps74 Tryz.results74 Tryz.ntmps75 Tryz.results75 Tryz.ntmps76 Tryz.results76 Tryz.ntmps77 Tryz.results77 Tryz.ntmps78 Tryz.results78 Tryz.ntmps79 Tryz.results79 Tryz.ntmps80 Tryz.results80 Tryz.ntmps81 Tryz.results81 Tryz.ntmps82 Tryz.results82 Tryz.ntmps83 Tryz.results83 Tryz.ntmps84 Tryz.results84 Tryz.ntmps85 Tryz.results85 Tryz.ntmps86 Tryz.results86 Tryz.ntmps87 Tryz.results87 Tryz.ntmps88 Tryz.results88 Tryz.ntmps89 Tryz.results89 Tryz.ntmps90 Tryz.results90 Tryz.ntmps91 Tryz.results91 Tryz.ntmps92 Tryz.results92 Tryz.ntmps93 Tryz.results93 Tryz.ntmps94 Tryz.results94 Tryz.ntmps95 Tryz.results95 Tryz.ntmps96 Tryz.results96 Tryz.ntmps97 Tryz.results97 Tryz.ntmps98 Tryz.results98 Tryz.ntmps99 Tryz.results99 Tryz.ntmps100 Tryz.results100 Tryz.ntmps101 Tryz.results101 Tryz.ntmps102 Tryz.results102 Tryz.ntmps103 Tryz.results103 Tryz.ntmps104 Tryz.results104 Tryz.ntmps105 Tryz.results105 Tryz.ntmps106 Tryz.results106 Tryz.ntmps107 Tryz.results107 Tryz.ntmps108 Tryz.results108 Tryz.ntmps109 Tryz.results109 Tryz.ntmps110 Tryz.results110 Tryz.ntmps111 Tryz.results111 Tryz.ntmps112 Tryz.results112 Tryz.ntmps113 Tryz.results113 Tryz.ntmps114 Tryz.results114 Tryz.ntmps115 Tryz.results115 Tryz.ntmps116 Tryz.results116 Tryz.ntmps117 Tryz.results117 Tryz.ntmps118 Tryz.results118 Tryz.ntmps119 Tryz.results119 Tryz.ntmps120 Tryz.results120 Tryz.ntmps121 Tryz.results121 Tryz.ntmps122 Tryz.results122 Tryz.ntmps123 Tryz.results123 Tryz.ntmps124 Tryz.results124 Tryz.ntmps125 Tryz.results125 Tryz.ntmps126 Tryz.results126 Tryz.ntmps127 Tryz.results127 Tryz.ntmps128 Tryz.results128 Tryz.ntmps129 Tryz.results129 Tryz.ntmps130 Tryz.results130 Tryz.ntmps131 Tryz.results131 Tryz.ntmps132 Tryz.results132 Tryz.ntmps133 Tryz.results133 Tryz.ntmps134 Tryz.results134 Tryz.ntmps135 Tryz.results135 Tryz.ntmps136 Tryz.results136 Tryz.ntmps137 Tryz.results137 Tryz.ntmps138 Tryz.results138 Tryz.ntmps139 Tryz.results139 Tryz.ntmps140 Tryz.results140 Tryz.ntmps141 Tryz.results141 Tryz.ntmps142 Tryz.results142 Tryz.ntmps143 Tryz.results143 Tryz.ntmps144 Tryz.results144 Tryz.ntmps145 Tryz.results145 Tryz.ntmps146 Tryz.results146 Tryz.ntmps147 Tryz.results147 Tryz.ntmps148 Tryz.results148 Tryz.ntmps149 Tryz.results149 Tryz.ntmps152 Tryz.results152 Tryz.ntmps153 Tryz.results153 Tryz.ntmps156 Tryz.results156 Tryz.ntmps157 Tryz.results157 Tryz.ntmps159 Tryz.results159 Tryz.ntmps160 Tryz.results160 Tryz.ntmps161 Tryz.results161 Tryz.ntmps162 Tryz.results162 Tryz.ntmps164 Tryz.results164 Tryz.ntmps165 Tryz.results165 Tryz.ntmps166 Tryz.results166
def qi2 (i_0 : Int) : Option Int :=
 (if (i_0 == 0) = true then some 1048576
 else some 64)
instance z88 (i_0 : Int) : Ct pp 134 (qi2 i_0) [.v (.int .i64 i_0)] fun r => (.v (.int .i64 r)) := ctI Tryz.func134 rfl (by rw [qi2]; exact au1)
def qq9 (t_0 : GTime) (rec_1 : Int → Option Bool) : Int → Option Bool :=
 fun t15_1 =>
 (if (decide (t15_1 < 4)) = true then q9 (idx ([t_0.C.a0, t_0.C.a1, t_0.C.a2, t_0.C.a3] : List Int) t15_1) (fun xv_1 =>
 (if (decide (xv_1 < 0)) = true then some false
 else (if (decide (t15_1 < t_0.D)) = true then q9 (qi2 t15_1) (fun v_2 =>
 (if ((decide (v_2 < xv_1)) || ((decide (t_0.D ≤ t15_1)) && (!(xv_1 == 0)))) = true then some false
 else rec_1 (i64.wrap (t15_1 + 1))))
 else (if ((decide (t_0.D ≤ t15_1)) && (!(xv_1 == 0))) = true then some false
 else rec_1 (i64.wrap (t15_1 + 1))))))
 else some true)
def q3g (t_0 : GTime) : Option Bool :=
 (if ((decide (t_0.D < 1)) || (decide (4 < t_0.D))) = true then some false
 else w9 (qq9 t_0) rounds 0)
instance z5e (t_0 : GTime) : Ct pp 111 (q3g t_0) [.agg (Row.row t_0)] fun r => (.v (.bool r)) := ctK Tryz.func111 rfl (by rw [q3g]) (by
 intro r h F; refine sM ?_; refine sg fun _ Q2 => ?_; refine sM ?_; refine sB h (fun _ h => ?_) fun _ h => ?_
 · exact au
 ·
  refine j4 (q8 Q2 (jg fun _ Q5 => ?_)); refine sM ?_; refine j3 fun _ Q7 => ?_; refine u6 h [1, 14] (fun t15_1 => ([(15, .v (.int .i64 t15_1))], [(0, .box (Row.row t_0))])) 1 ?_; rintro m_1 t15_1 h _ Q8; rw [qq9] at h; refine sM ?_; refine sg fun _ Q10 => ?_; refine sB h (fun _ h => ?_) fun _ h => ?_
  · refine j4 (q8 Q10 (sg fun _ Q11 => ?_)); refine j3 fun _ Q12 => ?_; refine sg fun _ Q13 => ?_; obtain ⟨xv_1, ex1, h⟩ := z8 h; obtain ⟨f1a, f1b, f1c, fxv_1d⟩ := z9b (f := (fun y => AV.v (.int .i64 y))) ex1; simp only [List.cons_append, List.nil_append, List.append_nil, List.map_cons, List.map_nil, List.length_cons, List.length_nil, Nat.zero_add, Nat.reduceAdd] at f1b f1c fxv_1d; simp only [go_sem, f1a, f1b, f1c, fxv_1d]; refine ai ?_; refine ai ?_; simp only [List.getD_eq_getElem?_getD, Nat.mul_one, fxv_1d, Option.map_some, Option.getD_some, true_and]; exact au
  · exact au)
def z2f (a_0 : GTime) (b_0 : GTime) : Option Bool :=
 q9 (q3g a_0) (fun v_0 =>
 (if v_0 = true then q9 (q3g b_0) (fun v_1 =>
 some (v_1 && (a_0.D == b_0.D)))
 else some false))
instance j6x (a_0 : GTime) (b_0 : GTime) : Ct pp 112 (z2f a_0 b_0) [.agg (Row.row a_0), .agg (Row.row b_0)] fun r => (.v (.bool r)) := ctI Tryz.func112 rfl (by rw [z2f]; exact au1)
def q78 (t_0 : GTime) (rec_1 : Int × (List Int) → Option ((List Int) × Bool)) : Int × (List Int) → Option ((List Int) × Bool) :=
 fun (i_1, a_1) =>
 (if (decide (i_1 < 4)) = true then y5 (0 ≤ i_1 ∧ i_1 < 4) (
 q9 (idx ([t_0.C.a0, t_0.C.a1, t_0.C.a2, t_0.C.a3] : List Int) i_1) (fun xv_1 =>
 (if (decide (t_0.D ≤ i_1)) = true then (if (!(xv_1 == 0)) = true then some (([] : List Int), false)
 else rec_1 (i64.wrap (i_1 + 1), a_1))
 else (if (((decide (xv_1 < 0)) || ((i_1 == 0) && (decide (1048576 < xv_1)))) || ((decide (0 < i_1)) && (decide (64 < xv_1)))) = true then some (([] : List Int), false)
 else y5 ((a_1.length + List.length ([xv_1] : List Int)) * 8 ≤ 140737488355328) (
 rec_1 (i64.wrap (i_1 + 1), (a_1 ++ ([xv_1] : List Int))))))))
 else some (a_1, true))
def q1q (t_0 : GTime) : Option ((List Int) × Bool) :=
 (if ((decide (t_0.D < 1)) || (decide (4 < t_0.D))) = true then some (([] : List Int), false)
 else w9 (q78 t_0) rounds (0, []))
theorem q4f (t_0 : GTime)  (r : (List Int) × Bool) (h : q1q t_0 = some r) : DetS pp 50 [.agg (Row.row t_0)] [] 0 (.tup [.osl 0 1 (0) (r.1.length), .v (.bool r.2)]) [(0, .arr 1 (enc r.1))] 1 := by
 refine dtI Tryz.func50 rfl ?_; rw [q1q] at h; have F := trivial; refine sM ?_; refine sg fun _ Q2 => ?_; refine sM ?_; refine sB h (fun _ h => ?_) fun _ h => ?_
 · exact au
 ·
  refine j4 (q8 Q2 (sM ?_)); refine jg fun _ Q6 => ?_; refine sM ?_; refine j3 fun _ Q8 => ?_; refine u6 h [1] (fun x => ([(4, .osl 1 1 (0) (x.2.length)), (5, .v (.int .i64 x.1))], [(0, .box (Row.row t_0)), (1, .arr 1 (enc x.2))])) 2 ?_; rintro m_1 ⟨i_1, a_1⟩ h _ Q9; rw [q78] at h; refine sg fun _ Q10 => ?_; refine sM ?_; refine sB h (fun _ h => ?_) fun _ h => ?_
  ·
   refine j4 (q8 Q10 (sg fun _ Q12 => ?_)); refine j3 fun _ Q13 => ?_; refine sg fun _ Q14 => ?_; obtain ⟨F, h⟩ := bG F h; obtain ⟨xv_1, ex1, h⟩ := z8 h; obtain ⟨f1a, f1b, f1c, fxv_1d⟩ := q3e (f := (fun y => AV.v (.int .i64 y))) [.v (.int .i64 t_0.D)] [] ex1; simp only [List.cons_append, List.nil_append, List.append_nil, List.map_cons, List.map_nil, List.length_cons, List.length_nil, Nat.zero_add, Nat.reduceAdd] at f1b f1c fxv_1d; simp only [go_sem, f1a, f1b, f1c, fxv_1d, F]; refine ai ?_; simp only [List.getD_eq_getElem?_getD, Nat.mul_one, fxv_1d, Option.map_some, Option.getD_some, true_and]; refine q8 Q14 (sg fun _ Q15 => ?_); refine sM ?_; refine sB h (fun _ h => ?_) fun _ h => ?_
   · exact au
   ·
    refine j4 (q8 Q15 (sg fun _ Q20 => ?_)); refine sg fun _ Q21 => ?_; simp only [go_sem]; refine And.intro (by first | omega | (simp +contextual only [and_self, implies_true, true_and, and_true, imp_self]; done)) ?_; refine And.intro (by first | omega | (simp +contextual only [and_self, implies_true, true_and, and_true, imp_self]; done)) ?_; refine q8 Q21 (sB h (fun _ h => ?_) fun _ h => ?_)
    · exact au
    ·
     refine j4 (q8 Q20 ?_); have rf_3 : [[.v (.int .i64 xv_1)]] = enc ([xv_1] : List Int) := by rfl
     obtain ⟨g_4, h⟩ := q02 h; have F := And.intro F g_4; simp only [List.length_cons, List.length_nil, Nat.zero_add, List.length_append] at g_4; have rf_4 : enc a_1 ++ [[.v (.int .i64 xv_1)]] = enc (a_1 ++ ([xv_1] : List Int)) := by exact (q19 a_1 ([xv_1] : List Int)).symm
     simp only [go_sem, g_4, rf_4]; simp only [rf_3]; exact au
  · exact au
instance zn7 (t_0 : GTime) : Ct pp 50 (q1q t_0) [.agg (Row.row t_0)] fun r => (.tup [.sl 1 (enc r.1), .v (.bool r.2)]) := ⟨fun r h => (q4f t_0  r h).pure leA⟩
def q8b (v_0 : (List Int) × Bool) (v_1 : (List Int) × Bool) (rec_1 : Int → Option Bool) : Int → Option Bool :=
 fun i_1 =>
 (if (decide (i_1 < (v_0.1.length : Int))) = true then q9 (idx v_0.1 i_1) (fun xv_4 =>
 q9 (idx v_1.1 i_1) (fun xv_5 =>
 (if (decide (xv_5 < xv_4)) = true then some false
 else rec_1 (i64.wrap (i_1 + 1)))))
 else some true)
def q83 (a_0 : GTime) (b_0 : GTime) : Option Bool :=
 q9 (q1q a_0) (fun v_0 =>
 q9 (q1q b_0) (fun v_1 =>
 (if (((!v_0.2) || (!v_1.2)) || (!((v_0.1.length : Int) == (v_1.1.length : Int)))) = true then some false
 else w9 (q8b v_0 v_1) rounds 0)))
instance zs1 (a_0 : GTime) (b_0 : GTime) : Ct pp 24 (q83 a_0 b_0) [.agg (Row.row a_0), .agg (Row.row b_0)] fun r => (.v (.bool r)) := ctK Tryz.func24 rfl (by rw [q83]) (by
 intro r h F; refine sM ?_; refine sg fun _ Q2 => ?_; obtain ⟨v_0, ev_0, h⟩ := z8 h; simp only [go_sem]; refine q0c [] (q4f a_0 v_0 ev_0) ?_; simp only [go_sem]; refine q8 Q2 (sg fun _ Q3 => ?_); obtain ⟨v_1, ev_1, h⟩ := z8 h; simp only [go_sem]; refine q0c [] (q4f b_0 v_1 ev_1) ?_; simp only [go_sem]; refine q8 Q3 (sg fun _ Q4 => ?_); refine sM ?_; refine sB h (fun _ h => ?_) fun _ h => ?_
 · exact au
 · refine j4 (q8 Q4 (jg fun _ Q7 => ?_)); refine sM ?_; refine j3 fun _ Q9 => ?_; refine u6 h [] (fun i_1 => ([(5, .osl 0 1 (0) (v_0.1.length)), (7, .osl 1 1 (0) (v_1.1.length)), (9, .v (.int .i64 i_1))], [(0, .arr 1 (enc v_0.1)), (1, .arr 1 (enc v_1.1))])) 2 ?_; rintro m_1 i_1 h _ Q10; rw [q8b] at h; exact au)
def z0q (a_0 : GTime) (b_0 : GTime) (rec_1 : Int → Option Bool) : Int → Option Bool :=
 fun t10_1 =>
 (if (decide (t10_1 < 4)) = true then y5 (0 ≤ t10_1 ∧ t10_1 < 4) (
 q9 (idx ([a_0.C.a0, a_0.C.a1, a_0.C.a2, a_0.C.a3] : List Int) t10_1) (fun xv_2 =>
 y5 (0 ≤ t10_1 ∧ t10_1 < 4) (
 q9 (idx ([b_0.C.a0, b_0.C.a1, b_0.C.a2, b_0.C.a3] : List Int) t10_1) (fun xv_3 =>
 (if (decide (xv_3 < xv_2)) = true then some false
 else rec_1 (i64.wrap (t10_1 + 1)))))))
 else some true)
def z0w (a_0 : GTime) (b_0 : GTime) : Option Bool :=
 q9 (z2f a_0 b_0) (fun v_0 =>
 (if (!v_0) = true then some false
 else w9 (z0q a_0 b_0) rounds 0))
instance j82 (a_0 : GTime) (b_0 : GTime) : Ct pp 82 (z0w a_0 b_0) [.agg (Row.row a_0), .agg (Row.row b_0)] fun r => (.v (.bool r)) := ctK Tryz.func82 rfl (by rw [z0w]) (by
 intro r h F; refine sM ?_; refine sg fun _ Q2 => ?_; refine sg fun _ Q3 => ?_; simp only [go_sem]; refine q15 h fun v_0 h => ?_; simp only [go_sem]; refine q8 Q3 (sB h (fun _ h => ?_) fun _ h => ?_)
 · exact au
 ·
  refine j4 (q8 Q2 (jg fun _ Q5 => ?_)); refine sM ?_; refine j3 fun _ Q7 => ?_; refine u6 h [2, 3] (fun t10_1 => ([(10, .v (.int .i64 t10_1))], [(0, .box (Row.row a_0)), (1, .box (Row.row b_0))])) 2 ?_; rintro m_1 t10_1 h _ Q8; rw [z0q] at h; refine sM ?_; refine sg fun _ Q10 => ?_; refine sB h (fun _ h => ?_) fun _ h => ?_
  · refine j4 (q8 Q10 (sg fun _ Q11 => ?_)); refine j3 fun _ Q12 => ?_; refine sM ?_; refine sg fun _ Q14 => ?_; refine x9 ?_; refine j83 ?_; obtain ⟨F, h⟩ := bG F h; obtain ⟨xv_2, ex2, h⟩ := z8 h; obtain ⟨f2a, f2b, f2c, fxv_2d⟩ := q3e (f := (fun y => AV.v (.int .i64 y))) [.v (.int .i64 a_0.D)] [] ex2; simp only [List.cons_append, List.nil_append, List.append_nil, List.map_cons, List.map_nil, List.length_cons, List.length_nil, Nat.zero_add, Nat.reduceAdd] at f2b f2c fxv_2d; obtain ⟨F, h⟩ := bG F h; obtain ⟨xv_3, ex3, h⟩ := z8 h; obtain ⟨f3a, f3b, f3c, fxv_3d⟩ := q3e (f := (fun y => AV.v (.int .i64 y))) [.v (.int .i64 b_0.D)] [] ex3; simp only [List.cons_append, List.nil_append, List.append_nil, List.map_cons, List.map_nil, List.length_cons, List.length_nil, Nat.zero_add, Nat.reduceAdd] at f3b f3c fxv_3d; simp only [go_sem, f2a, f2b, f2c, fxv_2d, f3a, f3b, f3c, fxv_3d, F]; refine ai ?_; refine ai ?_; simp only [List.getD_eq_getElem?_getD, Nat.mul_one, fxv_2d, Option.map_some, Option.getD_some, true_and, List.getD_eq_getElem?_getD, Nat.mul_one, fxv_3d, Option.map_some, Option.getD_some, true_and]; exact au
  · exact au)
def z6e (a_0 : GTime) (b_0 : GTime) (rec_1 : Int → Option Bool) : Int → Option Bool :=
 fun t19_1 =>
 (if (decide (t19_1 < (min a_0.D b_0.D))) = true then y5 (0 ≤ t19_1 ∧ t19_1 < 4) (
 q9 (idx ([a_0.C.a0, a_0.C.a1, a_0.C.a2, a_0.C.a3] : List Int) t19_1) (fun xv_4 =>
 y5 (0 ≤ t19_1 ∧ t19_1 < 4) (
 q9 (idx ([b_0.C.a0, b_0.C.a1, b_0.C.a2, b_0.C.a3] : List Int) t19_1) (fun xv_5 =>
 (if (!(xv_4 == xv_5)) = true then y5 (0 ≤ t19_1 ∧ t19_1 < 4) (
 q9 (idx ([a_0.C.a0, a_0.C.a1, a_0.C.a2, a_0.C.a3] : List Int) t19_1) (fun xv_6 =>
 y5 (0 ≤ t19_1 ∧ t19_1 < 4) (
 q9 (idx ([b_0.C.a0, b_0.C.a1, b_0.C.a2, b_0.C.a3] : List Int) t19_1) (fun xv_7 =>
 some (decide (xv_6 < xv_7))))))
 else rec_1 (i64.wrap (t19_1 + 1)))))))
 else some (decide (a_0.D < b_0.D)))
def z2g (a_0 : GTime) (b_0 : GTime) : Option Bool :=
 q9 (q3g a_0) (fun v_0 =>
 (if v_0 = true then q9 (q3g b_0) (fun v_1 =>
 (if (!v_1) = true then some false
 else w9 (z6e a_0 b_0) rounds 0))
 else some false))
instance j6z (a_0 : GTime) (b_0 : GTime) : Ct pp 85 (z2g a_0 b_0) [.agg (Row.row a_0), .agg (Row.row b_0)] fun r => (.v (.bool r)) := ctK Tryz.func85 rfl (by rw [z2g]) (by
 intro r h F; refine sM ?_; refine sg fun _ Q2 => ?_; refine sg fun _ Q3 => ?_; simp only [go_sem]; refine q15 h fun v_0 h => ?_; simp only [go_sem]; rcases hb_0 : v_0 with _ | _
 · replace h := q23 h hb_0; simp only [go_sem, hb_0]; exact au
 ·
  replace h := q21 h hb_0; simp only [go_sem, hb_0]; refine q15 h fun v_1 h => ?_; simp only [go_sem]; refine q8 Q3 (sB h (fun _ h => ?_) fun _ h => ?_)
  · exact au
  ·
   refine j4 (q8 Q2 (jg fun _ Q6 => ?_)); refine sM ?_; refine j3 fun _ Q8 => ?_; refine u6 h [2, 3, 18] (fun t19_1 => ([(19, .v (.int .i64 t19_1))], [(0, .box (Row.row a_0)), (1, .box (Row.row b_0))])) 2 ?_; rintro m_1 t19_1 h _ Q9; rw [z6e] at h; refine sM ?_; refine sg fun _ Q11 => ?_; refine sB h (fun _ h => ?_) fun _ h => ?_
   ·
    refine j4 (q8 Q11 (sg fun _ Q12 => ?_)); refine j3 fun _ Q13 => ?_; refine sM ?_; refine sg fun _ Q15 => ?_; refine x9 ?_; refine j83 ?_; obtain ⟨F, h⟩ := bG F h; obtain ⟨xv_4, ex4, h⟩ := z8 h; obtain ⟨f4a, f4b, f4c, fxv_4d⟩ := q3e (f := (fun y => AV.v (.int .i64 y))) [.v (.int .i64 a_0.D)] [] ex4; simp only [List.cons_append, List.nil_append, List.append_nil, List.map_cons, List.map_nil, List.length_cons, List.length_nil, Nat.zero_add, Nat.reduceAdd] at f4b f4c fxv_4d; obtain ⟨F, h⟩ := bG F h; obtain ⟨xv_5, ex5, h⟩ := z8 h; obtain ⟨f5a, f5b, f5c, fxv_5d⟩ := q3e (f := (fun y => AV.v (.int .i64 y))) [.v (.int .i64 b_0.D)] [] ex5; simp only [List.cons_append, List.nil_append, List.append_nil, List.map_cons, List.map_nil, List.length_cons, List.length_nil, Nat.zero_add, Nat.reduceAdd] at f5b f5c fxv_5d; simp only [go_sem, f4a, f4b, f4c, fxv_4d, f5a, f5b, f5c, fxv_5d, F]; refine ai ?_; refine ai ?_; simp only [List.getD_eq_getElem?_getD, Nat.mul_one, fxv_4d, Option.map_some, Option.getD_some, true_and, List.getD_eq_getElem?_getD, Nat.mul_one, fxv_5d, Option.map_some, Option.getD_some, true_and]; refine q8 Q15 (sB h (fun _ h => ?_) fun _ h => ?_)
    · refine sg fun _ Q16 => ?_; refine x9 ?_; refine j83 ?_; obtain ⟨F, h⟩ := bG F h; obtain ⟨xv_6, ex6, h⟩ := z8 h; obtain ⟨f6a, f6b, f6c, fxv_6d⟩ := q3e (f := (fun y => AV.v (.int .i64 y))) [.v (.int .i64 a_0.D)] [] ex6; simp only [List.cons_append, List.nil_append, List.append_nil, List.map_cons, List.map_nil, List.length_cons, List.length_nil, Nat.zero_add, Nat.reduceAdd] at f6b f6c fxv_6d; obtain ⟨F, h⟩ := bG F h; obtain ⟨xv_7, ex7, h⟩ := z8 h; obtain ⟨f7a, f7b, f7c, fxv_7d⟩ := q3e (f := (fun y => AV.v (.int .i64 y))) [.v (.int .i64 b_0.D)] [] ex7; simp only [List.cons_append, List.nil_append, List.append_nil, List.map_cons, List.map_nil, List.length_cons, List.length_nil, Nat.zero_add, Nat.reduceAdd] at f7b f7c fxv_7d; simp only [go_sem, f6a, f6b, f6c, fxv_6d, f7a, f7b, f7c, fxv_7d, F]; refine ai ?_; refine ai ?_; simp only [List.getD_eq_getElem?_getD, Nat.mul_one, fxv_6d, Option.map_some, Option.getD_some, true_and, List.getD_eq_getElem?_getD, Nat.mul_one, fxv_7d, Option.map_some, Option.getD_some, true_and]; exact au
    · exact au
   · exact au)
def q9e (g_0 : GGraph) (rec_1 : Int × (List Int) → Option (List Int)) : Int × (List Int) → Option (List Int) :=
 fun (s_2, a_1) =>
 (if (((decide (0 ≤ s_2)) && (decide (s_2 < (g_0.Parent.length : Int)))) && (decide ((a_1.length : Int) < 10))) = true then y5 ((List.length ([s_2] : List Int) + a_1.length) * 8 ≤ 140737488355328) (
 q9 (idx g_0.Parent s_2) (fun xv_2 =>
 rec_1 (xv_2, (([s_2] : List Int) ++ a_1))))
 else some a_1)
def q1y (g_0 : GGraph) (s_0 : Int) : Option (List Int) :=
 w9 (q9e g_0) rounds (s_0, [])
theorem q2u (g_0 : GGraph) (s_0 : Int)  (r : List Int) (h : q1y g_0 s_0 = some r) : DetS pp 13 [.agg (Row.row g_0), .v (.int .i64 s_0)] [] 0 (.osl 0 1 (0) (r.length)) [(0, .arr 1 (enc r))] 1 := by
 refine dtI Tryz.func13 rfl ?_; rw [q1y] at h; have F := trivial; refine sM ?_; refine sM ?_; refine jg fun _ Q3 => ?_; refine j3 fun _ Q4 => ?_; refine u6 h [2] (fun x => ([(1, .v (.int .i64 x.1)), (5, .osl 1 1 (0) (x.2.length))], [(0, .box (Row.row g_0)), (1, .arr 1 (enc x.2))])) 2 ?_; rintro m_1 ⟨s_2, a_1⟩ h _ Q5; rw [q9e] at h; refine sg fun _ Q6 => ?_; refine sM ?_; refine sB h (fun _ h => ?_) fun _ h => ?_
 ·
  refine j4 (q8 Q6 (j3 fun _ Q8 => ?_)); refine sg fun _ Q9 => ?_; have rf_4 : [[.v (.int .i64 s_2)]] = enc ([s_2] : List Int) := by rfl
  obtain ⟨g_3, h⟩ := q02 h; have F := And.intro F g_3; simp only [List.length_cons, List.length_nil, Nat.zero_add, List.length_append] at g_3; have rf_5 : [[.v (.int .i64 s_2)]] ++ enc a_1 = enc (([s_2] : List Int) ++ a_1) := by exact (q19 ([s_2] : List Int) a_1).symm
  simp only [go_sem, g_3, rf_5]; refine And.intro (by (intros; simp_all; done)) ?_; exact au
 · exact au
instance zk6 (g_0 : GGraph) (s_0 : Int) : Ct pp 13 (q1y g_0 s_0) [.agg (Row.row g_0), .v (.int .i64 s_0)] fun r => (.sl 1 (enc r)) := ⟨fun r h => (q2u g_0 s_0  r h).pure leA⟩
def q1v (nv_0 : Int) (size_0 : Int) : Option Bool :=
 some ((decide (0 ≤ nv_0)) && (decide (nv_0 < size_0)))
instance j0w (nv_0 : Int) (size_0 : Int) : Ct pp 73 (q1v nv_0 size_0) [.v (.int .i64 nv_0), .v (.int .i64 size_0)] fun r => (.v (.bool r)) := ctI Tryz.func73 rfl (by rw [q1v]; exact au1)
def qs2 (g_0 : GGraph) (rec_1 : Int × Int → Option Int) : Int × Int → Option Int :=
 fun (d_1, s_1) =>
 q9 (q1v s_1 (g_0.Parent.length : Int)) (fun v_2 =>
 (if (v_2 && (decide (d_1 ≤ 8))) = true then q9 (idx g_0.Parent s_1) (fun xv_2 =>
 rec_1 (i64.wrap (d_1 + 1), xv_2))
 else some d_1))
def qi1 (g_0 : GGraph) (scope_0 : Int) : Option Int :=
 w9 (qs2 g_0) rounds (0, scope_0)
instance j2j (g_0 : GGraph) (scope_0 : Int) : Ct pp 74 (qi1 g_0 scope_0) [.agg (Row.row g_0), .v (.int .i64 scope_0)] fun r => (.v (.int .i64 r)) := ctK Tryz.func74 rfl (by rw [qi1]) (by
 intro r h F; refine sM ?_; refine sM ?_; refine jg fun _ Q3 => ?_; refine sM ?_; refine j3 fun _ Q5 => ?_; refine u6 h [2] (fun x => ([(5, .v (.int .i64 x.1)), (6, .v (.int .i64 x.2))], [(0, .box (Row.row g_0))])) 1 ?_; rintro m_1 ⟨d_1, s_1⟩ h _ Q6; rw [qs2] at h; exact au)
def qh6 (g_0 : GGraph) (s_0 : Int) : Option Bool :=
 (if (s_0 == 0) = true then q9 (idx g_0.Parent 0) (fun xv_0 =>
 (if (xv_0 == (-1)) = true then q9 (idx g_0.Bound 0) (fun xv_1 =>
 some (xv_1 == 0))
 else some false))
 else q9 (idx g_0.Parent s_0) (fun xv_2 =>
 q9 (q1v xv_2 s_0) (fun v_0 =>
 (if v_0 = true then q9 (idx g_0.Bound s_0) (fun xv_3 =>
 (if (decide (1 ≤ xv_3)) = true then (if (decide (xv_3 ≤ 64)) = true then q9 (qi1 g_0 s_0) (fun v_1 =>
 some (decide (v_1 ≤ 4)))
 else some false)
 else some false))
 else some false))))
instance j2e (g_0 : GGraph) (s_0 : Int) : Ct pp 64 (qh6 g_0 s_0) [.agg (Row.row g_0), .v (.int .i64 s_0)] fun r => (.v (.bool r)) := ctI Tryz.func64 rfl (by rw [qh6]; exact au1)
def qi4 (s_0 : List GNode) (f_0 : GNode → Option Bool) (rec_1 : Int → Option Int) : Int → Option Int :=
 fun t8_1 =>
 (if (decide (t8_1 < (s_0.length : Int))) = true then q9 (idx s_0 t8_1) (fun xv_2 =>
 q9 (f_0 xv_2) (fun v_2 =>
 (if v_2 = true then some t8_1
 else rec_1 (i64.wrap (t8_1 + 1)))))
 else some (-1))
def q9p (s_0 : List GNode) (f_0 : GNode → Option Bool) : Option Int :=
 w9 (qi4 s_0 f_0) rounds 0
theorem z07 (s_0 : List GNode) (f_0 : GNode → Option Bool) (g_f_0 : FuncId) (c_f_0 : List AV) (F_f_0 : q03 c_f_0 = true) (E_f_0 : y8 pp g_f_0 = true) (H_f_0 : ∀ (x0 : GNode) (r : Bool), f_0 x0 = some r → PureS pp g_f_0 ([.agg (Row.row x0)] ++ c_f_0) 0 (.v (.bool r))) (r : Int) (h : q9p s_0 f_0 = some r) : PureS pp 147 [.sl 4 (enc s_0), .clo g_f_0 c_f_0] 0 (.v (.int .i64 r)) := by
 refine ptI Tryz.func147 rfl ?_; rw [q9p] at h; have F := trivial; refine sM ?_; refine jg fun _ Q2 => ?_; refine sM ?_; refine j3 fun _ Q4 => ?_; refine u6 h [0, 1, 7] (fun t8_1 => ([(8, .v (.int .i64 t8_1))], [])) 0 ?_; rintro m_1 t8_1 h _ Q5; rw [qi4] at h; refine sM ?_; refine sg fun _ Q7 => ?_; refine sB h (fun _ h => ?_) fun _ h => ?_
 ·
  refine j4 (q8 Q7 (sg fun _ Q8 => ?_)); refine j3 fun _ Q9 => ?_; refine sM ?_; refine sg fun _ Q11 => ?_; obtain ⟨xv_2, F, h⟩ := bI F h; obtain ⟨v_2, ev_2, h⟩ := z8 h; simp only [go_sem, E_f_0, F]; refine ai ?_; refine q9m (H_f_0 xv_2 v_2 ev_2) (by rfl) (by simp [go_sem, q03, q0a, F_f_0]) ?_; simp only [go_sem]; refine q8 Q11 (sB h (fun _ h => ?_) fun _ h => ?_)
  · refine sM ?_; refine q00 (q0g Q9 (q0k Q8 (q2i Q5 (q0g Q4 (q0k Q2 ?_))))); simp only [go_sem]; obtain rfl := Option.some.inj h; refine q42 rfl ?_; exact leA
  · refine j4 (d9 Q9 (q8 Q8 ?_)); simp only [go_sem]; refine y9 Q5 ?_; exact nxC _ h [] leA
 · refine q0h (q1c Q7 (q0i Q5 (q0b Q4 (q8 Q2 (sM ?_))))); refine q00 ?_; simp only [go_sem]; obtain rfl := Option.some.inj h; refine q42 rfl ?_; exact leA
def q5j (s_0 : List GNode) (f_0 : GNode → Option Bool) : Option Bool :=
 q9 (q9p s_0 f_0) (fun v_0 =>
 some (decide (0 ≤ v_0)))
theorem qv7 (s_0 : List GNode) (f_0 : GNode → Option Bool) (g_f_0 : FuncId) (c_f_0 : List AV) (F_f_0 : q03 c_f_0 = true) (E_f_0 : y8 pp g_f_0 = true) (H_f_0 : ∀ (x0 : GNode) (r : Bool), f_0 x0 = some r → PureS pp g_f_0 ([.agg (Row.row x0)] ++ c_f_0) 0 (.v (.bool r))) (r : Bool) (h : q5j s_0 f_0 = some r) : PureS pp 129 [.sl 4 (enc s_0), .clo g_f_0 c_f_0] 0 (.v (.bool r)) := by
 refine ptI Tryz.func129 rfl ?_; rw [q5j] at h; have F := trivial; refine sM ?_; refine sg fun _ Q2 => ?_; obtain ⟨v_0, ev_0, h⟩ := z8 h; simp only [go_sem]; refine q9m (z07 s_0 f_0 g_f_0 c_f_0 F_f_0 E_f_0 H_f_0 v_0 ev_0) (by rfl) (by simp [go_sem, q03, q0a, F_f_0]) ?_; simp only [go_sem]; refine q8 Q2 (q00 ?_); simp only [go_sem]; obtain rfl := Option.some.inj h; refine q42 rfl ?_; exact leA
def q93 (xv_0 : GNode) (cap_0 : Int) : Option Bool :=
 some (xv_0.Scope == cap_0)
instance z5p (xv_0 : GNode) (cap_0 : Int) : Ct pp 130 (q93 xv_0 cap_0) [.agg (Row.row xv_0), .el 1 [[.v (.int .i64 cap_0)]] 0 0] fun r => (.v (.bool r)) := ctI Tryz.func130 rfl (by rw [q93]; exact au1)
def q8m (g_0 : GGraph) (nv_0 : Int) (xv_0 : GNode) (fresh_2 : Bool) : Option Bool :=
 (if fresh_2 = true then y5 (0 ≤ 0 ∧ 0 ≤ nv_0 ∧ nv_0 ≤ (g_0.Nodes.length : Int)) (
 q9 (q5j (List.take (nv_0.toNat) g_0.Nodes) (fun x0_ => q93 x0_ xv_0.Scope)) (fun v_0 =>
 some (!v_0)))
 else some false)
def qp2 (g_0 : GGraph) (nv_0 : Int) (xv_0 : GNode) (xv_2 : Int) (rec_2 : Bool × Int → Option Bool) : Bool × Int → Option Bool :=
 fun (fresh_4, p_3) =>
 (if (decide (0 ≤ p_3)) = true then (if (p_3 == xv_0.Scope) = true then some true
 else q9 (idx g_0.Parent p_3) (fun xv_8 =>
 rec_2 ((fresh_4 || (p_3 == xv_2)), xv_8)))
 else q8m g_0 nv_0 xv_0 fresh_4)
def qe4 (g_0 : GGraph) (nv_0 : Int) : Option Bool :=
 q9 (idx g_0.Nodes nv_0) (fun xv_0 =>
 (if (nv_0 == 0) = true then some (xv_0.Scope == 0)
 else q9 (idx g_0.Nodes (i64.wrap (nv_0 - 1))) (fun xv_1 =>
 q9 (idx g_0.Parent xv_0.Scope) (fun xv_2 =>
 w9 (qp2 g_0 nv_0 xv_0 xv_2) rounds (false, xv_1.Scope)))))
instance j0x (g_0 : GGraph) (nv_0 : Int) : Ct pp 101 (qe4 g_0 nv_0) [.agg (Row.row g_0), .v (.int .i64 nv_0)] fun r => (.v (.bool r)) := ctK Tryz.func101 rfl (by rw [qe4]) (by
 intro r h F; refine sM ?_; refine sg fun _ Q2 => ?_; obtain ⟨xv_0, F, h⟩ := bI F h; simp only [go_sem, F]; refine ai ?_; refine q8 Q2 (sg fun _ Q3 => ?_); refine sM ?_; refine sB h (fun _ h => ?_) fun _ h => ?_
 · exact au
 ·
  refine j4 (q8 Q3 (sg fun _ Q6 => ?_)); obtain ⟨xv_1, F, h⟩ := bI F h; simp only [go_sem, F]; refine ai ?_; refine q8 Q6 (sg fun _ Q7 => ?_); obtain ⟨xv_2, F, h⟩ := bI F h; simp only [go_sem, F]; refine ai ?_; refine q8 Q7 (sM ?_); refine q14 (fun (fresh_2 : Bool) => q8m g_0 nv_0 xv_0 fresh_2 = some r) [1, 2, 5] (fun fresh_2 => ([(8, .v (.bool fresh_2))], [(0, .box (Row.row g_0)), (1, .box [.v (.int .i64 xv_0.Scope)])])) 2 ?_ ?_
  · intro _ Q10; refine sM ?_; refine j3 fun _ Q12 => ?_; refine u6 h [1, 2, 5, 7] (fun x => ([(8, .v (.bool x.1)), (9, .v (.int .i64 x.2))], [(0, .box (Row.row g_0)), (1, .box [.v (.int .i64 xv_0.Scope)])])) 2 ?_; rintro m_2 ⟨fresh_4, p_3⟩ h _ Q13; rw [qp2] at h; exact au
  ·
   rintro fresh_2 h
   try dsimp only at h
   rw [q8m] at h; refine sg fun _ Q9 => ?_; simp only [go_sem]; rcases hb_7 : fresh_2 with _ | _
   · replace h := q23 h hb_7; simp only [go_sem, hb_7]; exact au
   · replace h := q21 h hb_7; obtain ⟨F, h⟩ := bG F h; obtain ⟨v_0, ev_0, h⟩ := z8 h; simp only [go_sem, hb_7, F]; refine qm5 (qv7 (List.take (nv_0.toNat) g_0.Nodes) (fun x0_ => q93 x0_ xv_0.Scope) 130 [.el 1 [[.v (.int .i64 xv_0.Scope)]] 0 0] (by rfl) (by kernel_rfl) (fun y0 r_ e_ => z5p y0 xv_0.Scope r_ e_) v_0 ev_0) ?_; simp only [go_sem]; exact au)
def qu6 (op_0 : Int) : Option Bool :=
 some ((op_0 == 14) || (op_0 == 15))
instance j3k (op_0 : Int) : Ct pp 131 (qu6 op_0) [.v (.int .i64 op_0)] fun r => (.v (.bool r)) := ctI Tryz.func131 rfl (by rw [qu6]; exact au1)
def qk0 (p_0 : List GIns) (rec_1 : Int → Option Bool) : Int → Option Bool :=
 fun t10_1 =>
 (if (decide (t10_1 < (p_0.length : Int))) = true then q9 (idx p_0 t10_1) (fun xv_2 =>
 (if ((decide (xv_2.Op < 1)) || (decide (16 < xv_2.Op))) = true then some false
 else q9 (qu6 xv_2.Op) (fun v_2 =>
 (if v_2 = true then (if ((decide (xv_2.N < 0)) || (decide ((p_0.length : Int) < xv_2.N))) = true then some false
 else rec_1 (i64.wrap (t10_1 + 1)))
 else (if ((!(xv_2.Op == 1)) && (!(xv_2.N == 0))) = true then some false
 else rec_1 (i64.wrap (t10_1 + 1)))))))
 else some true)
def qe5 (p_0 : List GIns) : Option Bool :=
 (if (decide (64 < (p_0.length : Int))) = true then some false
 else w9 (qk0 p_0) rounds 0)
instance j3l (p_0 : List GIns) : Ct pp 102 (qe5 p_0) [.sl 2 (enc p_0)] fun r => (.v (.bool r)) := ctK Tryz.func102 rfl (by rw [qe5]) (by
 intro r h F; refine sM ?_; refine sg fun _ Q2 => ?_; refine sM ?_; refine sB h (fun _ h => ?_) fun _ h => ?_
 · exact au
 · refine j4 (q8 Q2 (jg fun _ Q5 => ?_)); refine sM ?_; refine j3 fun _ Q7 => ?_; refine u6 h [0, 8, 9] (fun t10_1 => ([(10, .v (.int .i64 t10_1))], [])) 0 ?_; rintro m_1 t10_1 h _ Q8; rw [qk0] at h; exact au)
def q3j (g_0 : GGraph) (nv_0 : Int) (xv_0 : GNode) (rec_2 : Int → Option Bool) : Int → Option Bool :=
 fun i_3 =>
 (if (decide (i_3 < nv_0)) = true then q9 (idx g_0.Nodes i_3) (fun xv_10 =>
 (if (xv_10.Scope == xv_0.Scope) = true then some false
 else rec_2 (i64.wrap (i_3 + 1))))
 else some true)
def q3i (g_0 : GGraph) (nv_0 : Int) (xv_0 : GNode) (under_2 : Bool) : Option Bool :=
 (if (!under_2) = true then some false
 else w9 (q3j g_0 nv_0 xv_0) rounds 0)
def q5m (g_0 : GGraph) (nv_0 : Int) (xv_0 : GNode) (v_0 : List Int) (rec_3 : Bool × Int → Option Bool) : Bool × Int → Option Bool :=
 fun (under_4, i_5) =>
 (if (decide (i_5 < (v_0.length : Int))) = true then q9 (idx v_0 i_5) (fun xv_15 =>
 (if (xv_15 == xv_0.Scope) = true then some true
 else (if under_4 = true then rec_3 (true, i64.wrap (i_5 + 1))
 else q9 (idx g_0.Parent xv_0.Scope) (fun xv_16 =>
 rec_3 ((xv_15 == xv_16), i64.wrap (i_5 + 1))))))
 else q3i g_0 nv_0 xv_0 under_4)
def q4q (g_0 : GGraph) (nv_0 : Int) : Option Bool :=
 q9 (idx g_0.Nodes nv_0) (fun xv_0 =>
 (if (nv_0 == 0) = true then some (xv_0.Scope == 0)
 else q9 (idx g_0.Nodes (i64.wrap (nv_0 - 1))) (fun xv_1 =>
 q9 (q1y g_0 xv_1.Scope) (fun v_0 =>
 w9 (q5m g_0 nv_0 xv_0 v_0) rounds (false, 0)))))
instance zf3 (g_0 : GGraph) (nv_0 : Int) : Ct pp 42 (q4q g_0 nv_0) [.agg (Row.row g_0), .v (.int .i64 nv_0)] fun r => (.v (.bool r)) := ctK Tryz.func42 rfl (by rw [q4q]) (by
 intro r h F; refine sM ?_; refine sg fun _ Q2 => ?_; obtain ⟨xv_0, F, h⟩ := bI F h; simp only [go_sem, F]; refine ai ?_; refine q8 Q2 (sg fun _ Q3 => ?_); refine sM ?_; refine sB h (fun _ h => ?_) fun _ h => ?_
 · exact au
 ·
  refine j4 (q8 Q3 (sg fun _ Q6 => ?_)); refine x9 ?_; refine j83 ?_; obtain ⟨xv_1, F, h⟩ := bI F h; obtain ⟨v_0, ev_0, h⟩ := z8 h; simp only [go_sem, F]; refine ai ?_; refine q0c [] (q2u g_0 xv_1.Scope v_0 ev_0) ?_; simp only [go_sem]; refine q8 Q6 (sM ?_); refine q14 (fun (under_2 : Bool) => q3i g_0 nv_0 xv_0 under_2 = some r) [1, 2, 5] (fun under_2 => ([(7, .v (.bool under_2))], [(0, .box (Row.row g_0))])) 1 ?_ ?_
  · intro _ Q22; refine sM ?_; refine j3 fun _ Q24 => ?_; refine u6 h [1, 2, 5, 6] (fun x => ([(7, .v (.bool x.1)), (8, .v (.int .i64 x.2))], [(0, .box (Row.row g_0)), (1, .arr 1 (enc v_0))])) 2 ?_; rintro m_3 ⟨under_4, i_5⟩ h _ Q25; rw [q5m] at h; exact au
  ·
   rintro under_2 h
   try dsimp only at h
   rw [q3i] at h; refine sg fun _ Q8 => ?_; refine sM ?_; refine sB h (fun _ h => ?_) fun _ h => ?_
   · exact au
   · refine j4 (q8 Q8 (jg fun _ Q11 => ?_)); refine sM ?_; refine j3 fun _ Q13 => ?_; refine u6 h [1, 2, 5] (fun i_3 => ([(9, .v (.int .i64 i_3))], [(0, .box (Row.row g_0))])) 1 ?_; rintro m_2 i_3 h _ Q14; rw [q3j] at h; exact au)
def q6t (p_0 : List GIns) (rec_1 : Int → Option Bool) : Int → Option Bool :=
 fun i_1 =>
 (if (decide (i_1 < (p_0.length : Int))) = true then q9 (idx p_0 i_1) (fun xv_2 =>
 (if ((((decide (xv_2.Op < 1)) || (decide (16 < xv_2.Op))) || (((xv_2.Op == 14) || (xv_2.Op == 15)) && ((decide (xv_2.N < 0)) || (decide ((p_0.length : Int) < xv_2.N))))) || ((((!(xv_2.Op == 1)) && (!(xv_2.Op == 14))) && (!(xv_2.Op == 15))) && (!(xv_2.N == 0)))) = true then some false
 else rec_1 (i64.wrap (i_1 + 1))))
 else some (decide ((p_0.length : Int) ≤ 64)))
def q5y (p_0 : List GIns) : Option Bool :=
 w9 (q6t p_0) rounds 0
instance zk9 (p_0 : List GIns) : Ct pp 43 (q5y p_0) [.sl 2 (enc p_0)] fun r => (.v (.bool r)) := ctK Tryz.func43 rfl (by rw [q5y]) (by
 intro r h F; refine sM ?_; refine jg fun _ Q2 => ?_; refine sM ?_; refine j3 fun _ Q4 => ?_; refine u6 h [0] (fun i_1 => ([(3, .v (.int .i64 i_1))], [])) 0 ?_; rintro m_1 i_1 h _ Q5; rw [q6t] at h; exact au)
def qk2 (l_0 : Arr4 Int) (nv_0 : Int) (rec_1 : Int → Option Bool) : Int → Option Bool :=
 fun t8_1 =>
 (if (decide (t8_1 < 4)) = true then q9 (idx ([l_0.a0, l_0.a1, l_0.a2, l_0.a3] : List Int) t8_1) (fun xv_1 =>
 (if (((decide (xv_1 < 0)) || (decide (1048576 < xv_1))) || ((decide (nv_0 ≤ t8_1)) && (!(xv_1 == 0)))) = true then some false
 else rec_1 (i64.wrap (t8_1 + 1))))
 else some true)
def q80 (l_0 : Arr4 Int) (nv_0 : Int) : Option Bool :=
 w9 (qk2 l_0 nv_0) rounds 0
instance j3p (l_0 : Arr4 Int) (nv_0 : Int) : Ct pp 109 (q80 l_0 nv_0) [.agg [.v (.int .i64 l_0.a0), .v (.int .i64 l_0.a1), .v (.int .i64 l_0.a2), .v (.int .i64 l_0.a3)], .v (.int .i64 nv_0)] fun r => (.v (.bool r)) := ctK Tryz.func109 rfl (by rw [q80]) (by
 intro r h F; refine sM ?_; refine jg fun _ Q2 => ?_; refine sM ?_; refine j3 fun _ Q4 => ?_; refine u6 h [1, 7] (fun t8_1 => ([(8, .v (.int .i64 t8_1))], [])) 0 ?_; rintro m_1 t8_1 h _ Q5; rw [qk2] at h; refine sM ?_; refine sg fun _ Q7 => ?_; refine sB h (fun _ h => ?_) fun _ h => ?_
 · refine j4 (q8 Q7 (sg fun _ Q8 => ?_)); refine j3 fun _ Q9 => ?_; refine sg fun _ Q10 => ?_; obtain ⟨xv_1, ex1, h⟩ := z8 h; obtain ⟨f1a, f1b, f1c, fxv_1d⟩ := z9b (f := (fun y => AV.v (.int .i64 y))) ex1; simp only [List.cons_append, List.nil_append, List.append_nil, List.map_cons, List.map_nil, List.length_cons, List.length_nil, Nat.zero_add, Nat.reduceAdd] at f1b f1c fxv_1d; simp only [go_sem, f1a, f1b, f1c, fxv_1d]; refine ai ?_; refine ai ?_; simp only [List.getD_eq_getElem?_getD, Nat.mul_one, fxv_1d, Option.map_some, Option.getD_some, true_and]; exact au
 · exact au)
def qx5 (hv_0 : GHop) (i_0 : Int) : Option (Int × Bool) :=
 (if (decide (i_0 < hv_0.Keep)) = true then y5 (0 ≤ i_0 ∧ i_0 < 4) (
 q9 (idx ([hv_0.Add.a0, hv_0.Add.a1, hv_0.Add.a2, hv_0.Add.a3] : List Int) i_0) (fun xv_0 =>
 some (xv_0, true)))
 else y5 (0 ≤ i64.wrap (i_0 - hv_0.Keep) ∧ i64.wrap (i_0 - hv_0.Keep) < 4) (
 q9 (idx ([hv_0.T.a0, hv_0.T.a1, hv_0.T.a2, hv_0.T.a3] : List Int) (i64.wrap (i_0 - hv_0.Keep))) (fun xv_1 =>
 some (xv_1, false))))
instance j7l (hv_0 : GHop) (i_0 : Int) : Ct pp 110 (qx5 hv_0 i_0) [.agg (Row.row hv_0), .v (.int .i64 i_0)] fun r => (.tup [.v (.int .i64 r.1), .v (.bool r.2)]) := ctK Tryz.func110 rfl (by rw [qx5]) (by
 intro r h F; refine sM ?_; refine sg fun _ Q2 => ?_; refine sM ?_; refine sB h (fun _ h => ?_) fun _ h => ?_
 · refine sg fun _ Q4 => ?_; obtain ⟨F, h⟩ := bG F h; obtain ⟨xv_0, ex0, h⟩ := z8 h; obtain ⟨f0a, f0b, f0c, fxv_0d⟩ := q3e (f := (fun y => AV.v (.int .i64 y))) [.v (.int .i64 hv_0.From), .v (.int .i64 hv_0.Keep), .v (.int .i64 hv_0.Tail)] [.v (.int .i64 hv_0.T.a0), .v (.int .i64 hv_0.T.a1), .v (.int .i64 hv_0.T.a2), .v (.int .i64 hv_0.T.a3)] ex0; simp only [List.cons_append, List.nil_append, List.append_nil, List.map_cons, List.map_nil, List.length_cons, List.length_nil, Nat.zero_add, Nat.reduceAdd] at f0b f0c fxv_0d; simp only [go_sem, f0a, f0b, f0c, fxv_0d, F]; refine ai ?_; simp only [List.getD_eq_getElem?_getD, Nat.mul_one, fxv_0d, Option.map_some, Option.getD_some, true_and]; exact au
 · refine j4 (q8 Q2 (sg fun _ Q5 => ?_)); obtain ⟨F, h⟩ := bG F h; obtain ⟨xv_1, ex1, h⟩ := z8 h; obtain ⟨f1a, f1b, f1c, fxv_1d⟩ := q3e (f := (fun y => AV.v (.int .i64 y))) [.v (.int .i64 hv_0.From), .v (.int .i64 hv_0.Keep), .v (.int .i64 hv_0.Tail), .v (.int .i64 hv_0.Add.a0), .v (.int .i64 hv_0.Add.a1), .v (.int .i64 hv_0.Add.a2), .v (.int .i64 hv_0.Add.a3)] [] ex1; simp only [List.cons_append, List.nil_append, List.append_nil, List.map_cons, List.map_nil, List.length_cons, List.length_nil, Nat.zero_add, Nat.reduceAdd] at f1b f1c fxv_1d; simp only [go_sem, f1a, f1b, f1c, fxv_1d, F]; refine ai ?_; simp only [List.getD_eq_getElem?_getD, Nat.mul_one, fxv_1d, Option.map_some, Option.getD_some, true_and]; exact au)
def q5c (hv_0 : GHop) : Option Int :=
 some (i64.wrap (hv_0.Keep + hv_0.Tail))
instance z3q (hv_0 : GHop) : Ct pp 77 (q5c hv_0) [.agg (Row.row hv_0)] fun r => (.v (.int .i64 r)) := ctI Tryz.func77 rfl (by rw [q5c]; exact au1)
def q38 (hv_0 : GHop) : Option Bool :=
 (if ((((((decide (hv_0.From < 1)) || (decide (4 < hv_0.From))) || (decide (hv_0.Keep < 0))) || (decide (hv_0.From < hv_0.Keep))) || (decide (hv_0.Tail < 0))) || (decide (4 < hv_0.Tail))) = true then some false
 else q9 (q5c hv_0) (fun v_0 =>
 (if (decide (1 ≤ v_0)) = true then q9 (q5c hv_0) (fun v_1 =>
 (if (decide (v_1 ≤ 4)) = true then q9 (q80 hv_0.Add hv_0.Keep) (fun v_2 =>
 (if v_2 = true then q9 (q80 hv_0.T hv_0.Tail) (fun v_3 =>
 some v_3)
 else some false))
 else some false))
 else some false)))
instance qo3 (hv_0 : GHop) : Ct pp 76 (q38 hv_0) [.agg (Row.row hv_0)] fun r => (.v (.bool r)) := ctI Tryz.func76 rfl (by rw [q38]; exact au1)
def qy7 (a_0 : GHop) (b_0 : GHop) (v_4 : Int) (rec_1 : Int → Option Bool) : Int → Option Bool :=
 fun t34_1 =>
 (if (decide (t34_1 < v_4)) = true then q9 (qx5 a_0 t34_1) (fun v_9 =>
 q9 (qx5 b_0 t34_1) (fun v_10 =>
 (if ((v_9.2 && (!v_10.2)) || (decide (v_10.1 < v_9.1))) = true then some false
 else rec_1 (i64.wrap (t34_1 + 1)))))
 else some true)
def qx6 (a_0 : GHop) (b_0 : GHop) : Option Bool :=
 q9 (q38 a_0) (fun v_0 =>
 (if v_0 = true then q9 (q38 b_0) (fun v_1 =>
 (if ((!v_1) || (!(a_0.From == b_0.From))) = true then some false
 else q9 (q5c a_0) (fun v_2 =>
 q9 (q5c b_0) (fun v_3 =>
 (if (!(v_2 == v_3)) = true then some false
 else q9 (q5c a_0) (fun v_4 =>
 w9 (qy7 a_0 b_0 v_4) rounds 0))))))
 else some false))
instance j7m (a_0 : GHop) (b_0 : GHop) : Ct pp 78 (qx6 a_0 b_0) [.agg (Row.row a_0), .agg (Row.row b_0)] fun r => (.v (.bool r)) := ctK Tryz.func78 rfl (by rw [qx6]) (by
 intro r h F; refine sM ?_; refine sg fun _ Q2 => ?_; refine sg fun _ Q3 => ?_; refine x9 ?_; refine j83 ?_; obtain ⟨v_0, ev_0, h⟩ := z8 h; simp only [go_sem]; refine callq (fun _ => (qo3 a_0 v_0 ev_0)) (by rfl) (by rfl) ?_; simp only [go_sem]; rcases hb_0 : v_0 with _ | _
 · replace h := q23 h hb_0; simp only [go_sem, hb_0]; exact au
 ·
  replace h := q21 h hb_0; obtain ⟨v_1, ev_1, h⟩ := z8 h; simp only [go_sem, hb_0]; refine callq (fun _ => (qo3 b_0 v_1 ev_1)) (by rfl) (by rfl) ?_; simp only [go_sem]; rcases hb_1 : ((!v_1) || (!(a_0.From == b_0.From))) with _ | _
  ·
   replace h := q23 h hb_1; obtain ⟨v_2, ev_2, h⟩ := z8 h; simp only [go_sem, hb_1]; refine callq (fun _ => (z3q a_0 v_2 ev_2)) (by rfl) (by rfl) ?_; simp only [go_sem]; refine q15 h fun v_3 h => ?_; simp only [go_sem]; refine q8 Q3 (sB h (fun _ h => ?_) fun _ h => ?_)
   · exact au
   · refine j4 (q8 Q2 (jg fun _ Q6 => ?_)); refine sg fun _ Q7 => ?_; simp only [go_sem]; refine q15 h fun v_4 h => ?_; simp only [go_sem]; refine q8 Q7 (j3 fun _ Q8 => ?_); refine u6 h [2, 3, 33] (fun t34_1 => ([(34, .v (.int .i64 t34_1))], [(0, .box (Row.row a_0)), (1, .box (Row.row b_0))])) 2 ?_; rintro m_1 t34_1 h _ Q9; rw [qy7] at h; exact au
  · replace h := q21 h hb_1; simp only [go_sem, hb_1]; exact au)
def qr2 (b_6 : GHop) : Option (GHop × Bool) :=
 q9 (q38 b_6) (fun v_3 =>
 (if (!v_3) = true then some ((⟨0, 0, 0, (⟨0, 0, 0, 0⟩ : Arr4 Int), (⟨0, 0, 0, 0⟩ : Arr4 Int)⟩ : GHop), false)
 else some (b_6, true)))
def qr5 (b_0 : GHop) (rec_3 : Int × GHop → Option (GHop × Bool)) : Int × GHop → Option (GHop × Bool) :=
 fun (t81_3, b_8) =>
 (if (decide (t81_3 < ((Int.toNat (b_0.Tail) : Nat) : Int))) = true then y5 (0 ≤ t81_3 ∧ t81_3 < ((b_0.Tail.toNat : Nat) : Int) ∧ ((b_0.Tail.toNat : Nat) : Int) ≤ 4) (
 q9 (idx ([b_0.T.a0, b_0.T.a1, b_0.T.a2, b_0.T.a3] : List Int) t81_3) (fun xv_14 =>
 y5 (0 ≤ b_8.Tail ∧ b_8.Tail < 4) (
 q9 (some (if b_8.Tail.toNat = 0 then xv_14 else b_8.T.a0)) (fun w_36 =>
 q9 (some (if b_8.Tail.toNat = 1 then xv_14 else b_8.T.a1)) (fun w_37 =>
 q9 (some (if b_8.Tail.toNat = 2 then xv_14 else b_8.T.a2)) (fun w_38 =>
 q9 (some (if b_8.Tail.toNat = 3 then xv_14 else b_8.T.a3)) (fun w_39 =>
 rec_3 (i64.wrap (t81_3 + 1), (⟨b_8.From, b_8.Keep, i64.wrap (b_8.Tail + 1), b_8.Add, (⟨w_36, w_37, w_38, w_39⟩ : Arr4 Int)⟩ : GHop)))))))))
 else qr2 b_8)
def qr3 (b_0 : GHop) (b_3 : GHop) : Option (GHop × Bool) :=
 y5 (0 ≤ 0 ∧ 0 ≤ b_0.Tail ∧ b_0.Tail ≤ 4) (
 w9 (qr5 b_0) rounds (0, b_3))
def qr4 (a_0 : GHop) (b_0 : GHop) (rec_4 : Int × GHop → Option (GHop × Bool)) : Int × GHop → Option (GHop × Bool) :=
 fun (t36_3, b_10) =>
 (if (decide (t36_3 < b_0.Keep)) = true then (if (decide (t36_3 < a_0.Keep)) = true then y5 (0 ≤ t36_3 ∧ t36_3 < 4) (
 q9 (idx ([a_0.Add.a0, a_0.Add.a1, a_0.Add.a2, a_0.Add.a3] : List Int) t36_3) (fun xv_20 =>
 y5 (0 ≤ t36_3 ∧ t36_3 < 4) (
 q9 (idx ([b_0.Add.a0, b_0.Add.a1, b_0.Add.a2, b_0.Add.a3] : List Int) t36_3) (fun xv_21 =>
 y5 (0 ≤ t36_3 ∧ t36_3 < 4) (
 q9 (some (if t36_3.toNat = 0 then i64.wrap (xv_20 + xv_21) else b_10.Add.a0)) (fun w_48 =>
 q9 (some (if t36_3.toNat = 1 then i64.wrap (xv_20 + xv_21) else b_10.Add.a1)) (fun w_49 =>
 q9 (some (if t36_3.toNat = 2 then i64.wrap (xv_20 + xv_21) else b_10.Add.a2)) (fun w_50 =>
 q9 (some (if t36_3.toNat = 3 then i64.wrap (xv_20 + xv_21) else b_10.Add.a3)) (fun w_51 =>
 rec_4 (i64.wrap (t36_3 + 1), (⟨b_10.From, b_10.Keep, b_10.Tail, (⟨w_48, w_49, w_50, w_51⟩ : Arr4 Int), b_10.T⟩ : GHop)))))))))))
 else y5 (0 ≤ i64.wrap (t36_3 - a_0.Keep) ∧ i64.wrap (t36_3 - a_0.Keep) < 4) (
 q9 (idx ([a_0.T.a0, a_0.T.a1, a_0.T.a2, a_0.T.a3] : List Int) (i64.wrap (t36_3 - a_0.Keep))) (fun xv_22 =>
 y5 (0 ≤ t36_3 ∧ t36_3 < 4) (
 q9 (idx ([b_0.Add.a0, b_0.Add.a1, b_0.Add.a2, b_0.Add.a3] : List Int) t36_3) (fun xv_23 =>
 y5 (0 ≤ b_10.Tail ∧ b_10.Tail < 4) (
 q9 (some (if b_10.Tail.toNat = 0 then i64.wrap (xv_22 + xv_23) else b_10.T.a0)) (fun w_52 =>
 q9 (some (if b_10.Tail.toNat = 1 then i64.wrap (xv_22 + xv_23) else b_10.T.a1)) (fun w_53 =>
 q9 (some (if b_10.Tail.toNat = 2 then i64.wrap (xv_22 + xv_23) else b_10.T.a2)) (fun w_54 =>
 q9 (some (if b_10.Tail.toNat = 3 then i64.wrap (xv_22 + xv_23) else b_10.T.a3)) (fun w_55 =>
 rec_4 (i64.wrap (t36_3 + 1), (⟨b_10.From, b_10.Keep, i64.wrap (b_10.Tail + 1), b_10.Add, (⟨w_52, w_53, w_54, w_55⟩ : Arr4 Int)⟩ : GHop))))))))))))
 else qr3 b_0 b_10)
def qo1 (a_0 : GHop) (b_0 : GHop) : Option (GHop × Bool) :=
 q9 (q38 a_0) (fun v_0 =>
 (if v_0 = true then q9 (q38 b_0) (fun v_1 =>
 (if v_1 = true then q9 (q5c a_0) (fun v_2 =>
 (if (!(v_2 == b_0.From)) = true then some ((⟨0, 0, 0, (⟨0, 0, 0, 0⟩ : Arr4 Int), (⟨0, 0, 0, 0⟩ : Arr4 Int)⟩ : GHop), false)
 else w9 (qr4 a_0 b_0) rounds (0, (⟨a_0.From, min a_0.Keep b_0.Keep, 0, (⟨0, 0, 0, 0⟩ : Arr4 Int), (⟨0, 0, 0, 0⟩ : Arr4 Int)⟩ : GHop))))
 else some ((⟨0, 0, 0, (⟨0, 0, 0, 0⟩ : Arr4 Int), (⟨0, 0, 0, 0⟩ : Arr4 Int)⟩ : GHop), false)))
 else some ((⟨0, 0, 0, (⟨0, 0, 0, 0⟩ : Arr4 Int), (⟨0, 0, 0, 0⟩ : Arr4 Int)⟩ : GHop), false)))
instance zf1 (a_0 : GHop) (b_0 : GHop) : Ct pp 37 (qo1 a_0 b_0) [.agg (Row.row a_0), .agg (Row.row b_0)] fun r => (.tup [.agg (Row.row r.1), .v (.bool r.2)]) := ctK Tryz.func37 rfl (by rw [qo1]) (by
 intro r h F; refine sM ?_; refine sg fun _ Q2 => ?_; refine sg fun _ Q3 => ?_; refine x9 ?_; refine j83 ?_; obtain ⟨v_0, ev_0, h⟩ := z8 h; simp only [go_sem]; refine callq (fun _ => (qo3 a_0 v_0 ev_0)) (by rfl) (by rfl) ?_; simp only [go_sem]; rcases hb_0 : v_0 with _ | _
 · replace h := q23 h hb_0; simp only [go_sem, hb_0]; exact au
 ·
  replace h := q21 h hb_0; obtain ⟨v_1, ev_1, h⟩ := z8 h; simp only [go_sem, hb_0]; refine callq (fun _ => (qo3 b_0 v_1 ev_1)) (by rfl) (by rfl) ?_; simp only [go_sem]; rcases hb_1 : v_1 with _ | _
  · replace h := q23 h hb_1; simp only [go_sem, hb_1]; exact au
  ·
   replace h := q21 h hb_1; obtain ⟨v_2, ev_2, h⟩ := z8 h; simp only [go_sem, hb_1]; refine callq (fun _ => (z3q a_0 v_2 ev_2)) (by rfl) (by rfl) ?_; simp only [go_sem]; refine q8 Q3 (sB h (fun _ h => ?_) fun _ h => ?_)
   · exact au
   ·
    refine j4 (q8 Q2 (sM ?_)); refine q14 (fun (b_3 : GHop) => qr3 b_0 b_3 = some r) [] (fun b_3 => ([(3, .ptr 0 0), (4, .ptr 1 0), (6, .ptr 2 0)], [(0, .box (Row.row b_0)), (1, .box [.v (.int .i64 0), .v (.int .i64 0), .v (.int .i64 0), .v (.int .i64 0), .v (.int .i64 0), .v (.int .i64 0), .v (.int .i64 0), .v (.int .i64 0), .v (.int .i64 0), .v (.int .i64 0), .v (.int .i64 0)]), (2, .box (Row.row b_3))])) 3 ?_ ?_
    ·
     intro _ Q22; refine sM ?_; refine j3 fun _ Q24 => ?_; refine u6 h [2, 3, 4, 6, 35] (fun x => ([(36, .v (.int .i64 x.1))], [(0, .box (Row.row a_0)), (1, .box (Row.row b_0)), (2, .box [.v (.int .i64 0), .v (.int .i64 0), .v (.int .i64 0), .v (.int .i64 0), .v (.int .i64 0), .v (.int .i64 0), .v (.int .i64 0), .v (.int .i64 0), .v (.int .i64 0), .v (.int .i64 0), .v (.int .i64 0)]), (3, .box (Row.row x.2))])) 4 ?_; rintro m_4 ⟨t36_3, b_10⟩ h _ Q25; rw [qr4] at h; refine sM ?_; refine sg fun _ Q27 => ?_; refine sB h (fun _ h => ?_) fun _ h => ?_
     ·
      refine j4 (q8 Q27 (sg fun _ Q28 => ?_)); refine j3 fun _ Q29 => ?_; refine sM ?_; refine sg fun _ Q31 => ?_; refine sM ?_; refine sB h (fun _ h => ?_) fun _ h => ?_
      ·
       refine sg fun _ Q33 => ?_; refine x9 ?_; refine j83 ?_; obtain ⟨F, h⟩ := bG F h; obtain ⟨xv_20, ex20, h⟩ := z8 h; obtain ⟨f20a, f20b, f20c, fxv_20d⟩ := q3e (f := (fun y => AV.v (.int .i64 y))) [.v (.int .i64 a_0.From), .v (.int .i64 a_0.Keep), .v (.int .i64 a_0.Tail)] [.v (.int .i64 a_0.T.a0), .v (.int .i64 a_0.T.a1), .v (.int .i64 a_0.T.a2), .v (.int .i64 a_0.T.a3)] ex20; simp only [List.cons_append, List.nil_append, List.append_nil, List.map_cons, List.map_nil, List.length_cons, List.length_nil, Nat.zero_add, Nat.reduceAdd] at f20b f20c fxv_20d; obtain ⟨F, h⟩ := bG F h; obtain ⟨xv_21, ex21, h⟩ := z8 h; obtain ⟨f21a, f21b, f21c, fxv_21d⟩ := q3e (f := (fun y => AV.v (.int .i64 y))) [.v (.int .i64 b_0.From), .v (.int .i64 b_0.Keep), .v (.int .i64 b_0.Tail)] [.v (.int .i64 b_0.T.a0), .v (.int .i64 b_0.T.a1), .v (.int .i64 b_0.T.a2), .v (.int .i64 b_0.T.a3)] ex21; simp only [List.cons_append, List.nil_append, List.append_nil, List.map_cons, List.map_nil, List.length_cons, List.length_nil, Nat.zero_add, Nat.reduceAdd] at f21b f21c fxv_21d; obtain ⟨F, h⟩ := bG F h; obtain ⟨w_48, ew_48, h⟩ := z8 h; obtain ⟨w_49, ew_49, h⟩ := z8 h; obtain ⟨w_50, ew_50, h⟩ := z8 h; obtain ⟨w_51, ew_51, h⟩ := z8 h; have sf_12 := qh2 (f := (fun y => AV.v (.int .i64 y))) [.v (.int .i64 b_10.From), .v (.int .i64 b_10.Keep), .v (.int .i64 b_10.Tail)] [.v (.int .i64 b_10.T.a0), .v (.int .i64 b_10.T.a1), .v (.int .i64 b_10.T.a2), .v (.int .i64 b_10.T.a3)] [b_10.Add.a0, b_10.Add.a1, b_10.Add.a2, b_10.Add.a3] [w_48, w_49, w_50, w_51] (t36_3.toNat) (i64.wrap (xv_20 + xv_21)) (by simp only [List.length_cons, List.length_nil]; omega) (by simp only [List.mapIdx_cons, List.mapIdx_nil, Nat.zero_add, Nat.reduceAdd, Option.some.inj ew_48, Option.some.inj ew_49, Option.some.inj ew_50, Option.some.inj ew_51]); simp only [List.cons_append, List.nil_append, List.append_nil, List.map_cons, List.map_nil, List.length_cons, List.length_nil, Nat.zero_add, Nat.reduceAdd, q3a, Nat.add_assoc, q1p] at sf_12
       simp only [go_sem, f20a, f20b, f20c, fxv_20d, f21a, f21b, f21c, fxv_21d, sf_12, Nat.mul_one, F]; simp only [List.getD_eq_getElem?_getD, Nat.mul_one, fxv_20d, Option.map_some, Option.getD_some, true_and, List.getD_eq_getElem?_getD, Nat.mul_one, fxv_21d, Option.map_some, Option.getD_some, true_and]; simp only [go_sem, f20a, f20b, f20c, fxv_20d, f21a, f21b, f21c, fxv_21d, sf_12, Nat.mul_one, List.getD_eq_getElem?_getD, Nat.mul_one, fxv_20d, Option.map_some, Option.getD_some, true_and, List.getD_eq_getElem?_getD, Nat.mul_one, fxv_21d, Option.map_some, Option.getD_some, true_and, F]; refine ai ?_; exact au
      ·
       refine j4 (q8 Q31 (sg fun _ Q34 => ?_)); refine x9 ?_; refine j83 ?_; obtain ⟨F, h⟩ := bG F h; obtain ⟨xv_22, ex22, h⟩ := z8 h; obtain ⟨f22a, f22b, f22c, fxv_22d⟩ := q3e (f := (fun y => AV.v (.int .i64 y))) [.v (.int .i64 a_0.From), .v (.int .i64 a_0.Keep), .v (.int .i64 a_0.Tail), .v (.int .i64 a_0.Add.a0), .v (.int .i64 a_0.Add.a1), .v (.int .i64 a_0.Add.a2), .v (.int .i64 a_0.Add.a3)] [] ex22; simp only [List.cons_append, List.nil_append, List.append_nil, List.map_cons, List.map_nil, List.length_cons, List.length_nil, Nat.zero_add, Nat.reduceAdd] at f22b f22c fxv_22d; obtain ⟨F, h⟩ := bG F h; obtain ⟨xv_23, ex23, h⟩ := z8 h; obtain ⟨f23a, f23b, f23c, fxv_23d⟩ := q3e (f := (fun y => AV.v (.int .i64 y))) [.v (.int .i64 b_0.From), .v (.int .i64 b_0.Keep), .v (.int .i64 b_0.Tail)] [.v (.int .i64 b_0.T.a0), .v (.int .i64 b_0.T.a1), .v (.int .i64 b_0.T.a2), .v (.int .i64 b_0.T.a3)] ex23; simp only [List.cons_append, List.nil_append, List.append_nil, List.map_cons, List.map_nil, List.length_cons, List.length_nil, Nat.zero_add, Nat.reduceAdd] at f23b f23c fxv_23d; obtain ⟨F, h⟩ := bG F h; obtain ⟨w_52, ew_52, h⟩ := z8 h; obtain ⟨w_53, ew_53, h⟩ := z8 h; obtain ⟨w_54, ew_54, h⟩ := z8 h; obtain ⟨w_55, ew_55, h⟩ := z8 h; have sf_13 := qh2 (f := (fun y => AV.v (.int .i64 y))) [.v (.int .i64 b_10.From), .v (.int .i64 b_10.Keep), .v (.int .i64 b_10.Tail), .v (.int .i64 b_10.Add.a0), .v (.int .i64 b_10.Add.a1), .v (.int .i64 b_10.Add.a2), .v (.int .i64 b_10.Add.a3)] [] [b_10.T.a0, b_10.T.a1, b_10.T.a2, b_10.T.a3] [w_52, w_53, w_54, w_55] (b_10.Tail.toNat) (i64.wrap (xv_22 + xv_23)) (by simp only [List.length_cons, List.length_nil]; omega) (by simp only [List.mapIdx_cons, List.mapIdx_nil, Nat.zero_add, Nat.reduceAdd, Option.some.inj ew_52, Option.some.inj ew_53, Option.some.inj ew_54, Option.some.inj ew_55])
       simp only [List.cons_append, List.nil_append, List.append_nil, List.map_cons, List.map_nil, List.length_cons, List.length_nil, Nat.zero_add, Nat.reduceAdd, q3a, Nat.add_assoc, q1p] at sf_13; simp only [go_sem, f22a, f22b, f22c, fxv_22d, f23a, f23b, f23c, fxv_23d, sf_13, Nat.mul_one, F]; simp only [List.getD_eq_getElem?_getD, Nat.mul_one, fxv_22d, Option.map_some, Option.getD_some, true_and, List.getD_eq_getElem?_getD, Nat.mul_one, fxv_23d, Option.map_some, Option.getD_some, true_and]; simp only [go_sem, f22a, f22b, f22c, fxv_22d, f23a, f23b, f23c, fxv_23d, sf_13, Nat.mul_one, List.getD_eq_getElem?_getD, Nat.mul_one, fxv_22d, Option.map_some, Option.getD_some, true_and, List.getD_eq_getElem?_getD, Nat.mul_one, fxv_23d, Option.map_some, Option.getD_some, true_and, F]; refine ai ?_; exact au
     · exact au
    ·
     rintro b_3 h
     try dsimp only at h
     rw [qr3] at h; refine q14 (fun (b_6 : GHop) => qr2 b_6 = some r) [] (fun b_6 => ([(4, .ptr 0 0), (6, .ptr 1 0)], [(0, .box [.v (.int .i64 0), .v (.int .i64 0), .v (.int .i64 0), .v (.int .i64 0), .v (.int .i64 0), .v (.int .i64 0), .v (.int .i64 0), .v (.int .i64 0), .v (.int .i64 0), .v (.int .i64 0), .v (.int .i64 0)]), (1, .box (Row.row b_6))])) 2 ?_ ?_
     ·
      intro _ Q12; refine sg fun _ Q13 => ?_; obtain ⟨F, h⟩ := bG F h; simp only [go_sem, F]; refine q8 Q13 (j3 fun _ Q14 => ?_); refine u6 h [80] (fun x => ([(4, .ptr 0 0), (6, .ptr 1 0), (79, .bsl 2 (7) (Int.toNat (b_0.Tail))), (81, .v (.int .i64 x.1))], [(0, .box [.v (.int .i64 0), .v (.int .i64 0), .v (.int .i64 0), .v (.int .i64 0), .v (.int .i64 0), .v (.int .i64 0), .v (.int .i64 0), .v (.int .i64 0), .v (.int .i64 0), .v (.int .i64 0), .v (.int .i64 0)]), (1, .box (Row.row x.2)), (2, .box (Row.row b_0))])) 3 ?_; rintro m_3 ⟨t81_3, b_8⟩ h _ Q15; rw [qr5] at h; refine sM ?_; refine sg fun _ Q17 => ?_; refine sB h (fun _ h => ?_) fun _ h => ?_
      · refine j4 (q8 Q17 (sg fun _ Q18 => ?_)); refine j3 fun _ Q19 => ?_; refine sg fun _ Q20 => ?_; obtain ⟨F, h⟩ := bG F h; obtain ⟨xv_14, ex14, h⟩ := z8 h; obtain ⟨f14a, f14b, f14c, fxv_14d⟩ := q3e (f := (fun y => AV.v (.int .i64 y))) [.v (.int .i64 b_0.From), .v (.int .i64 b_0.Keep), .v (.int .i64 b_0.Tail), .v (.int .i64 b_0.Add.a0), .v (.int .i64 b_0.Add.a1), .v (.int .i64 b_0.Add.a2), .v (.int .i64 b_0.Add.a3)] [] ex14; simp only [List.cons_append, List.nil_append, List.append_nil, List.map_cons, List.map_nil, List.length_cons, List.length_nil, Nat.zero_add, Nat.reduceAdd] at f14b f14c fxv_14d; simp only [go_sem, f14a, f14b, f14c, fxv_14d, F]; simp only [List.getD_eq_getElem?_getD, Nat.mul_one, fxv_14d, Option.map_some, Option.getD_some, true_and]; refine q8 Q20 (sg fun _ Q21 => ?_); obtain ⟨F, h⟩ := bG F h; obtain ⟨w_36, ew_36, h⟩ := z8 h; obtain ⟨w_37, ew_37, h⟩ := z8 h; obtain ⟨w_38, ew_38, h⟩ := z8 h; obtain ⟨w_39, ew_39, h⟩ := z8 h; have sf_9 := qh2 (f := (fun y => AV.v (.int .i64 y))) [.v (.int .i64 b_8.From), .v (.int .i64 b_8.Keep), .v (.int .i64 b_8.Tail), .v (.int .i64 b_8.Add.a0), .v (.int .i64 b_8.Add.a1), .v (.int .i64 b_8.Add.a2), .v (.int .i64 b_8.Add.a3)] [] [b_8.T.a0, b_8.T.a1, b_8.T.a2, b_8.T.a3] [w_36, w_37, w_38, w_39] (b_8.Tail.toNat) xv_14 (by simp only [List.length_cons, List.length_nil]; omega) (by simp only [List.mapIdx_cons, List.mapIdx_nil, Nat.zero_add, Nat.reduceAdd, Option.some.inj ew_36, Option.some.inj ew_37, Option.some.inj ew_38, Option.some.inj ew_39]); simp only [List.cons_append, List.nil_append, List.append_nil, List.map_cons, List.map_nil, List.length_cons, List.length_nil, Nat.zero_add, Nat.reduceAdd, q3a, Nat.add_assoc, q1p] at sf_9; simp only [go_sem, sf_9, Nat.mul_one, F]; refine ai ?_; exact au
      · exact au
     ·
      rintro b_6 h
      try dsimp only at h
      rw [qr2] at h; exact au)
def qo0 (l_0 : List GHop) (hv_0 : GHop) (rec_1 : Int × (List GHop) → Option ((List GHop) × Bool)) : Int × (List GHop) → Option ((List GHop) × Bool) :=
 fun (t15_1, a_1) =>
 (if (decide (t15_1 < (l_0.length : Int))) = true then q9 (idx l_0 t15_1) (fun xv_2 =>
 q9 (qx6 xv_2 hv_0) (fun v_5 =>
 (if v_5 = true then some (l_0, false)
 else q9 (qx6 hv_0 xv_2) (fun v_6 =>
 (if (!v_6) = true then y5 ((a_1.length + List.length ([xv_2] : List GHop)) * 88 ≤ 140737488355328) (
 rec_1 (i64.wrap (t15_1 + 1), (a_1 ++ ([xv_2] : List GHop))))
 else rec_1 (i64.wrap (t15_1 + 1), a_1))))))
 else y5 ((a_1.length + List.length ([hv_0] : List GHop)) * 88 ≤ 140737488355328) (
 some ((a_1 ++ ([hv_0] : List GHop)), true)))
def qp9 (l_0 : List GHop) (hv_0 : GHop) : Option ((List GHop) × Bool) :=
 q9 (q38 hv_0) (fun v_0 =>
 (if (!v_0) = true then some (l_0, false)
 else w9 (qo0 l_0 hv_0) rounds (0, [])))
instance za4 (l_0 : List GHop) (hv_0 : GHop) : Ct pp 38 (qp9 l_0 hv_0) [.sl 11 (enc l_0), .agg (Row.row hv_0)] fun r => (.tup [.sl 11 (enc r.1), .v (.bool r.2)]) := ctK Tryz.func38 rfl (by rw [qp9]) (by
 intro r h F; refine sM ?_; refine sg fun _ Q2 => ?_; refine sg fun _ Q3 => ?_; simp only [go_sem]; refine q15 h fun v_0 h => ?_; simp only [go_sem]; refine q8 Q3 (sB h (fun _ h => ?_) fun _ h => ?_)
 · exact au
 ·
  refine j4 (q8 Q2 (sM ?_)); refine jg fun _ Q6 => ?_; refine sM ?_; refine j3 fun _ Q8 => ?_; refine u6 h [0, 3, 13, 14] (fun x => ([(6, .osl 1 11 (0) (x.2.length)), (15, .v (.int .i64 x.1))], [(0, .box (Row.row hv_0)), (1, .arr 11 (enc x.2))])) 2 ?_; rintro m_1 ⟨t15_1, a_1⟩ h _ Q9; rw [qo0] at h; refine sM ?_; refine sg fun _ Q11 => ?_; refine sB h (fun _ h => ?_) fun _ h => ?_
  ·
   refine j4 (q8 Q11 (jg fun _ Q12 => ?_)); refine j3 fun _ Q13 => ?_; refine sg fun _ Q14 => ?_; obtain ⟨xv_2, F, h⟩ := bI F h; simp only [go_sem, F]; refine ai ?_; refine q8 Q14 (sg fun _ Q15 => ?_); refine sg fun _ Q16 => ?_; simp only [go_sem]; refine q15 h fun v_5 h => ?_; simp only [go_sem]; refine q8 Q16 (sB h (fun _ h => ?_) fun _ h => ?_)
   · exact au
   ·
    refine j4 (q8 Q15 (sg fun _ Q18 => ?_)); simp only [go_sem]; refine q15 h fun v_6 h => ?_; simp only [go_sem]; refine q8 Q18 (sB h (fun _ h => ?_) fun _ h => ?_)
    ·
     have rf_6 : [[.v (.int .i64 xv_2.From), .v (.int .i64 xv_2.Keep), .v (.int .i64 xv_2.Tail), .v (.int .i64 xv_2.Add.a0), .v (.int .i64 xv_2.Add.a1), .v (.int .i64 xv_2.Add.a2), .v (.int .i64 xv_2.Add.a3), .v (.int .i64 xv_2.T.a0), .v (.int .i64 xv_2.T.a1), .v (.int .i64 xv_2.T.a2), .v (.int .i64 xv_2.T.a3)]] = enc ([xv_2] : List GHop) := by rfl
     obtain ⟨g_4, h⟩ := q02 h; have F := And.intro F g_4; simp only [List.length_cons, List.length_nil, Nat.zero_add, List.length_append] at g_4; have rf_7 : enc a_1 ++ [[.v (.int .i64 xv_2.From), .v (.int .i64 xv_2.Keep), .v (.int .i64 xv_2.Tail), .v (.int .i64 xv_2.Add.a0), .v (.int .i64 xv_2.Add.a1), .v (.int .i64 xv_2.Add.a2), .v (.int .i64 xv_2.Add.a3), .v (.int .i64 xv_2.T.a0), .v (.int .i64 xv_2.T.a1), .v (.int .i64 xv_2.T.a2), .v (.int .i64 xv_2.T.a3)]] = enc (a_1 ++ ([xv_2] : List GHop)) := by exact (q19 a_1 ([xv_2] : List GHop)).symm
     simp only [go_sem, g_4, rf_7]; simp only [rf_6]; exact au
    · exact au
  ·
   refine q0h (q1c Q11 (q0i Q9 (q0b Q8 (q8 Q6 (sg fun _ Q19 => ?_))))); have rf_8 : [[.v (.int .i64 hv_0.From), .v (.int .i64 hv_0.Keep), .v (.int .i64 hv_0.Tail), .v (.int .i64 hv_0.Add.a0), .v (.int .i64 hv_0.Add.a1), .v (.int .i64 hv_0.Add.a2), .v (.int .i64 hv_0.Add.a3), .v (.int .i64 hv_0.T.a0), .v (.int .i64 hv_0.T.a1), .v (.int .i64 hv_0.T.a2), .v (.int .i64 hv_0.T.a3)]] = enc ([hv_0] : List GHop) := by rfl
   obtain ⟨g_5, h⟩ := q02 h; have F := And.intro F g_5; simp only [List.length_cons, List.length_nil, Nat.zero_add, List.length_append] at g_5; have rf_9 : enc a_1 ++ [[.v (.int .i64 hv_0.From), .v (.int .i64 hv_0.Keep), .v (.int .i64 hv_0.Tail), .v (.int .i64 hv_0.Add.a0), .v (.int .i64 hv_0.Add.a1), .v (.int .i64 hv_0.Add.a2), .v (.int .i64 hv_0.Add.a3), .v (.int .i64 hv_0.T.a0), .v (.int .i64 hv_0.T.a1), .v (.int .i64 hv_0.T.a2), .v (.int .i64 hv_0.T.a3)]] = enc (a_1 ++ ([hv_0] : List GHop)) := by exact (q19 a_1 ([hv_0] : List GHop)).symm
   simp only [go_sem, g_5, rf_9]; simp only [rf_8]; exact au)
def qn5 (kind_0 : Int) : Option (Bool × Bool) :=
 some ((((kind_0 == 10) || (kind_0 == 11)) || (kind_0 == 12)), ((kind_0 == 1) || (kind_0 == 15)))
instance j0y (kind_0 : Int) : Ct pp 100 (qn5 kind_0) [.v (.int .i64 kind_0)] fun r => (.tup [.v (.bool r.1), .v (.bool r.2)]) := ctI Tryz.func100 rfl (by rw [qn5]; exact au1)
def q9x (kind_0 : Int) : Option Int :=
 (if ((kind_0 == 5) || (kind_0 == 9)) = true then some 2
 else (if ((decide (1 < kind_0)) && (decide (kind_0 ≤ 15))) = true then some 1
 else some 0))
instance j2i (kind_0 : Int) : Ct pp 103 (q9x kind_0) [.v (.int .i64 kind_0)] fun r => (.v (.int .i64 r)) := ctI Tryz.func103 rfl (by rw [q9x]; exact au1)
def qh8 (g_0 : GGraph) (xv_0 : GNode) : Option Int :=
 (if (xv_0.Kind == 11) = true then q9 (idx g_0.Parent xv_0.Scope) (fun xv_1 =>
 some xv_1)
 else some xv_0.Scope)
instance j2g (g_0 : GGraph) (xv_0 : GNode) : Ct pp 104 (qh8 g_0 xv_0) [.agg (Row.row g_0), .agg (Row.row xv_0)] fun r => (.v (.int .i64 r)) := ctI Tryz.func104 rfl (by rw [qh8]; exact au1)
def qh7 (kind_0 : Int) : Option Bool :=
 some (((decide (6 ≤ kind_0)) && (decide (kind_0 ≤ 9))) || (kind_0 == 14))
instance j2f (kind_0 : Int) : Ct pp 105 (qh7 kind_0) [.v (.int .i64 kind_0)] fun r => (.v (.bool r)) := ctI Tryz.func105 rfl (by rw [qh7]; exact au1)
def qi6 (s_0 : List GEdge) (f_0 : GEdge → Option Bool) (rec_1 : Int → Option Int) : Int → Option Int :=
 fun t8_1 =>
 (if (decide (t8_1 < (s_0.length : Int))) = true then q9 (idx s_0 t8_1) (fun xv_2 =>
 q9 (f_0 xv_2) (fun v_2 =>
 (if v_2 = true then some t8_1
 else rec_1 (i64.wrap (t8_1 + 1)))))
 else some (-1))
def q9r (s_0 : List GEdge) (f_0 : GEdge → Option Bool) : Option Int :=
 w9 (qi6 s_0 f_0) rounds 0
theorem z09 (s_0 : List GEdge) (f_0 : GEdge → Option Bool) (g_f_0 : FuncId) (c_f_0 : List AV) (F_f_0 : q03 c_f_0 = true) (E_f_0 : y8 pp g_f_0 = true) (H_f_0 : ∀ (x0 : GEdge) (r : Bool), f_0 x0 = some r → PureS pp g_f_0 ([.agg (Row.row x0)] ++ c_f_0) 0 (.v (.bool r))) (r : Int) (h : q9r s_0 f_0 = some r) : PureS pp 148 [.sl 4 (enc s_0), .clo g_f_0 c_f_0] 0 (.v (.int .i64 r)) := by
 refine ptI Tryz.func148 rfl ?_; rw [q9r] at h; have F := trivial; refine sM ?_; refine jg fun _ Q2 => ?_; refine sM ?_; refine j3 fun _ Q4 => ?_; refine u6 h [0, 1, 7] (fun t8_1 => ([(8, .v (.int .i64 t8_1))], [])) 0 ?_; rintro m_1 t8_1 h _ Q5; rw [qi6] at h; refine sM ?_; refine sg fun _ Q7 => ?_; refine sB h (fun _ h => ?_) fun _ h => ?_
 ·
  refine j4 (q8 Q7 (sg fun _ Q8 => ?_)); refine j3 fun _ Q9 => ?_; refine sM ?_; refine sg fun _ Q11 => ?_; obtain ⟨xv_2, F, h⟩ := bI F h; obtain ⟨v_2, ev_2, h⟩ := z8 h; simp only [go_sem, E_f_0, F]; refine ai ?_; refine q9m (H_f_0 xv_2 v_2 ev_2) (by rfl) (by simp [go_sem, q03, q0a, F_f_0]) ?_; simp only [go_sem]; refine q8 Q11 (sB h (fun _ h => ?_) fun _ h => ?_)
  · refine sM ?_; refine q00 (q0g Q9 (q0k Q8 (q2i Q5 (q0g Q4 (q0k Q2 ?_))))); simp only [go_sem]; obtain rfl := Option.some.inj h; refine q42 rfl ?_; exact leA
  · refine j4 (d9 Q9 (q8 Q8 ?_)); simp only [go_sem]; refine y9 Q5 ?_; exact nxC _ h [] leA
 · refine q0h (q1c Q7 (q0i Q5 (q0b Q4 (q8 Q2 (sM ?_))))); refine q00 ?_; simp only [go_sem]; obtain rfl := Option.some.inj h; refine q42 rfl ?_; exact leA
def q5k (s_0 : List GEdge) (f_0 : GEdge → Option Bool) : Option Bool :=
 q9 (q9r s_0 f_0) (fun v_0 =>
 some (decide (0 ≤ v_0)))
theorem qv9 (s_0 : List GEdge) (f_0 : GEdge → Option Bool) (g_f_0 : FuncId) (c_f_0 : List AV) (F_f_0 : q03 c_f_0 = true) (E_f_0 : y8 pp g_f_0 = true) (H_f_0 : ∀ (x0 : GEdge) (r : Bool), f_0 x0 = some r → PureS pp g_f_0 ([.agg (Row.row x0)] ++ c_f_0) 0 (.v (.bool r))) (r : Bool) (h : q5k s_0 f_0 = some r) : PureS pp 132 [.sl 4 (enc s_0), .clo g_f_0 c_f_0] 0 (.v (.bool r)) := by
 refine ptI Tryz.func132 rfl ?_; rw [q5k] at h; have F := trivial; refine sM ?_; refine sg fun _ Q2 => ?_; obtain ⟨v_0, ev_0, h⟩ := z8 h; simp only [go_sem]; refine q9m (z09 s_0 f_0 g_f_0 c_f_0 F_f_0 E_f_0 H_f_0 v_0 ev_0) (by rfl) (by simp [go_sem, q03, q0a, F_f_0]) ?_; simp only [go_sem]; refine q8 Q2 (q00 ?_); simp only [go_sem]; obtain rfl := Option.some.inj h; refine q42 rfl ?_; exact leA
def qh9 (e_0 : GEdge) (cap_0 : Int) (cap_1 : Int) : Option Bool :=
 some ((e_0.To == cap_0) && (e_0.Port == cap_1))
instance z7z (e_0 : GEdge) (cap_0 : Int) (cap_1 : Int) : Ct pp 133 (qh9 e_0 cap_0 cap_1) [.agg (Row.row e_0), .el 1 [[.v (.int .i64 cap_0)]] 0 0, .el 1 [[.v (.int .i64 cap_1)]] 0 0] fun r => (.v (.bool r)) := ctI Tryz.func133 rfl (by rw [qh9]; exact au1)
def qj3 (l_0 : List GEdge) (node_0 : Int) (port_0 : Int) : Option Bool :=
 q9 (q5k l_0 (fun x0_ => qh9 x0_ node_0 port_0)) (fun v_0 =>
 some v_0)
instance j52 (l_0 : List GEdge) (node_0 : Int) (port_0 : Int) : Ct pp 106 (qj3 l_0 node_0 port_0) [.sl 4 (enc l_0), .v (.int .i64 node_0), .v (.int .i64 port_0)] fun r => (.v (.bool r)) := ctK Tryz.func106 rfl (by rw [qj3]) (by
 intro r h F; refine sM ?_; refine sg fun _ Q2 => ?_; obtain ⟨v_0, ev_0, h⟩ := z8 h; simp only [go_sem]; refine qm5 (qv9 l_0 (fun x0_ => qh9 x0_ node_0 port_0) 133 [.el 1 [[.v (.int .i64 node_0)]] 0 0, .el 1 [[.v (.int .i64 port_0)]] 0 0] (by rfl) (by kernel_rfl) (fun y0 r_ e_ => z7z y0 node_0 port_0 r_ e_) v_0 ev_0) ?_; simp only [go_sem]; exact au)
def q26 (xv_0 : GNode) : Option Int :=
 (if (xv_0.Kind == 2) = true then q9 (q5y xv_0.Prog) (fun v_1 =>
 (if ((!v_1) || ((!(xv_0.Kind == 2)) && (decide (0 < (xv_0.Prog.length : Int))))) = true then some 13
 else some 0))
 else (if ((!(xv_0.Kind == 2)) && (decide (0 < (xv_0.Prog.length : Int)))) = true then some 13
 else some 0))
def q6k (g_0 : GGraph) (nv_0 : Int) : Option Int :=
 q9 (idx g_0.Nodes nv_0) (fun xv_0 =>
 (if ((decide (xv_0.Kind < 1)) || (decide (15 < xv_0.Kind))) = true then some 1
 else (if ((decide (xv_0.Scope < 0)) || (decide ((g_0.Parent.length : Int) ≤ xv_0.Scope))) = true then some 6
 else (if ((((xv_0.Scope == 0) && (decide (10 ≤ xv_0.Kind))) && (decide (xv_0.Kind ≤ 12))) || ((decide (0 < xv_0.Scope)) && ((xv_0.Kind == 1) || (xv_0.Kind == 15)))) = true then some 6
 else q9 (q4q g_0 nv_0) (fun v_0 =>
 (if (!v_0) = true then some 6
 else (if (xv_0.Kind == 4) = true then (if (decide (xv_0.Arg < 1)) = true then some 1
 else q26 xv_0)
 else (if (xv_0.Kind == 3) = true then q26 xv_0
 else (if (!(xv_0.Arg == 0)) = true then some 1
 else q26 xv_0)))))))))
instance zn5 (g_0 : GGraph) (nv_0 : Int) : Ct pp 14 (q6k g_0 nv_0) [.agg (Row.row g_0), .v (.int .i64 nv_0)] fun r => (.v (.int .i64 r)) := ctK Tryz.func14 rfl (by rw [q6k]) (by
 intro r h F; refine sM ?_; refine sg fun _ Q2 => ?_; obtain ⟨xv_0, F, h⟩ := bI F h; simp only [go_sem, F]; refine ai ?_; refine q8 Q2 (sg fun _ Q3 => ?_); refine sM ?_; refine sB h (fun _ h => ?_) fun _ h => ?_
 · exact au
 ·
  refine j4 (q8 Q3 (sg fun _ Q6 => ?_)); refine sM ?_; refine sB h (fun _ h => ?_) fun _ h => ?_
  · exact au
  ·
   refine j4 (q8 Q6 (sg fun _ Q9 => ?_)); refine sg fun _ Q10 => ?_; simp only [go_sem]; refine And.intro (by (simp +contextual only [and_self, implies_true, true_and, and_true, imp_self]; done)) ?_; refine And.intro (by (simp +contextual only [and_self, implies_true, true_and, and_true, imp_self]; done)) ?_; refine q8 Q10 (sB h (fun _ h => ?_) fun _ h => ?_)
   · exact au
   ·
    refine j4 (q8 Q9 (sg fun _ Q12 => ?_)); refine sg fun _ Q13 => ?_; simp only [go_sem]; refine q15 h fun v_0 h => ?_; simp only [go_sem]; refine q8 Q13 (sB h (fun _ h => ?_) fun _ h => ?_)
    · exact au
    ·
     refine j4 (q8 Q12 (q14 (fun (_ : Unit) => q26 xv_0 = some r) [] (fun _ => ([(5, .ptr 0 0)], [(0, .box (Row.row xv_0))])) 1 ?_ ?_))
     · intro _ Q21; exact au
     ·
      rintro ⟨⟩ h
      try dsimp only at h
      rw [q26] at h; exact au)
def q3x (kind_0 : Int) : Option Int :=
 (if ((decide (kind_0 < 1)) || (decide (15 < kind_0))) = true then some 0
 else q9 (idx ([0, 0, 1, 1, 1, 2, 1, 1, 1, 2, 1, 1, 1, 1, 1, 1] : List Int) kind_0) (fun xv_0 =>
 some xv_0))
instance z1k (kind_0 : Int) : Ct pp 16 (q3x kind_0) [.v (.int .i64 kind_0)] fun r => (.v (.int .i64 r)) := ctK Tryz.func16 rfl (by rw [q3x]) (by
 intro r h F; refine sM ?_; refine sg fun _ Q2 => ?_; refine sM ?_; refine sB h (fun _ h => ?_) fun _ h => ?_
 · exact au
 · refine j4 (q8 Q2 (sg fun _ Q5 => ?_)); obtain ⟨xv_0, ex0, h⟩ := z8 h; obtain ⟨f0a, f0b, f0c, fxv_0d⟩ := z9b (f := (fun y => AV.v (.int .i64 y))) ex0; simp only [List.cons_append, List.nil_append, List.append_nil, List.map_cons, List.map_nil, List.length_cons, List.length_nil, Nat.zero_add, Nat.reduceAdd] at f0b f0c fxv_0d; simp only [go_sem, f0a, f0b, f0c, fxv_0d]; refine ai ?_; refine ai ?_; simp only [List.getD_eq_getElem?_getD, Nat.mul_one, fxv_0d, Option.map_some, Option.getD_some, true_and]; exact au)
def q35 (g_0 : GGraph) (nv_0 : Int) (gives_0 : Bool) : Option Int :=
 q9 (idx g_0.Nodes nv_0) (fun xv_0 =>
 (if (((xv_0.Kind == 10) && (!gives_0)) || ((xv_0.Kind == 11) && gives_0)) = true then q9 (idx g_0.Parent xv_0.Scope) (fun xv_1 =>
 some xv_1)
 else some xv_0.Scope))
instance qm4 (g_0 : GGraph) (nv_0 : Int) (gives_0 : Bool) : Ct pp 44 (q35 g_0 nv_0 gives_0) [.agg (Row.row g_0), .v (.int .i64 nv_0), .v (.bool gives_0)] fun r => (.v (.int .i64 r)) := ctI Tryz.func44 rfl (by rw [q35]; exact au1)
def q4r (g_0 : GGraph) (nv_0 : Int) (xv_0 : GEdge) (rec_1 : Int → Option Int) : Int → Option Int :=
 fun i_1 =>
 (if (decide (i_1 < nv_0)) = true then q9 (idx g_0.Edges i_1) (fun xv_5 =>
 (if (xv_5.To == xv_0.To) = true then (if (xv_5.Port == xv_0.Port) = true then some 7
 else rec_1 (i64.wrap (i_1 + 1)))
 else rec_1 (i64.wrap (i_1 + 1))))
 else some 0)
def q6l (g_0 : GGraph) (nv_0 : Int) : Option Int :=
 q9 (idx g_0.Edges nv_0) (fun xv_0 =>
 (if ((((decide (xv_0.From < 0)) || (decide ((g_0.Nodes.length : Int) ≤ xv_0.From))) || (decide (xv_0.To < 0))) || (decide ((g_0.Nodes.length : Int) ≤ xv_0.To))) = true then some 7
 else q9 (idx g_0.Nodes xv_0.From) (fun xv_1 =>
 (if ((xv_1.Kind == 15) || (decide (xv_0.Port < 0))) = true then some 7
 else q9 (idx g_0.Nodes xv_0.To) (fun xv_2 =>
 q9 (q3x xv_2.Kind) (fun v_0 =>
 (if (decide (v_0 ≤ xv_0.Port)) = true then some 7
 else q9 (q35 g_0 xv_0.From true) (fun v_1 =>
 q9 (q35 g_0 xv_0.To false) (fun v_2 =>
 (if (!(v_1 == v_2)) = true then some 6
 else (if ((!(xv_1.Kind == 12)) && (decide (xv_0.To ≤ xv_0.From))) = true then some 8
 else (if ((!xv_0.Exchange) && (((((xv_2.Kind == 6) || (xv_2.Kind == 7)) || (xv_2.Kind == 8)) || (xv_2.Kind == 9)) || (xv_2.Kind == 14))) = true then some 1
 else w9 (q4r g_0 nv_0 xv_0) rounds 0))))))))))))
instance zn6 (g_0 : GGraph) (nv_0 : Int) : Ct pp 15 (q6l g_0 nv_0) [.agg (Row.row g_0), .v (.int .i64 nv_0)] fun r => (.v (.int .i64 r)) := ctK Tryz.func15 rfl (by rw [q6l]) (by
 intro r h F; refine sM ?_; refine sg fun _ Q2 => ?_; obtain ⟨xv_0, F, h⟩ := bI F h; simp only [go_sem, F]; refine ai ?_; refine q8 Q2 (sM ?_); refine sg fun _ Q4 => ?_; refine sg fun _ Q5 => ?_; refine x9 ?_; refine j83 ?_; simp only [go_sem]; rcases hb_0 : ((((decide (xv_0.From < 0)) || (decide ((g_0.Nodes.length : Int) ≤ xv_0.From))) || (decide (xv_0.To < 0))) || (decide ((g_0.Nodes.length : Int) ≤ xv_0.To))) with _ | _
 ·
  replace h := q23 h hb_0; obtain ⟨xv_1, F, h⟩ := bI F h; simp only [go_sem, hb_0, F]; refine ai ?_; rcases hb_1 : ((xv_1.Kind == 15) || (decide (xv_0.Port < 0))) with _ | _
  ·
   replace h := q23 h hb_1; obtain ⟨xv_2, F, h⟩ := bI F h; obtain ⟨v_0, ev_0, h⟩ := z8 h; simp only [go_sem, hb_1, F]; refine ai ?_; refine callq (fun _ => (z1k xv_2.Kind v_0 ev_0)) (by rfl) (by rfl) ?_; simp only [go_sem]; refine q8 Q5 (sB h (fun _ h => ?_) fun _ h => ?_)
   · exact au
   ·
    refine j4 (q8 Q4 (sg fun _ Q7 => ?_)); refine sg fun _ Q8 => ?_; refine x9 ?_; refine j83 ?_; obtain ⟨v_1, ev_1, h⟩ := z8 h; simp only [go_sem]; refine callq (fun _ => (qm4 g_0 xv_0.From true v_1 ev_1)) (by rfl) (by rfl) ?_; simp only [go_sem]; refine q15 h fun v_2 h => ?_; simp only [go_sem]; refine q8 Q8 (sB h (fun _ h => ?_) fun _ h => ?_)
    · exact au
    ·
     refine j4 (q8 Q7 (sg fun _ Q10 => ?_)); refine sg fun _ Q11 => ?_; simp only [go_sem, F]; refine ai ?_; refine q8 Q11 (sB h (fun _ h => ?_) fun _ h => ?_)
     · exact au
     ·
      refine j4 (q8 Q10 (sg fun _ Q13 => ?_)); simp only [go_sem, F]; refine ai ?_; refine q8 Q13 (sg fun _ Q14 => ?_); refine sg fun _ Q15 => ?_; simp only [go_sem]; refine And.intro (by (simp +contextual only [and_self, implies_true, true_and, and_true, imp_self]; done)) ?_; refine And.intro (by (simp +contextual only [and_self, implies_true, true_and, and_true, imp_self]; done)) ?_; refine And.intro (by (simp +contextual only [and_self, implies_true, true_and, and_true, imp_self]; done)) ?_; refine And.intro (by (simp +contextual only [and_self, implies_true, true_and, and_true, imp_self]; done)) ?_; refine q8 Q15 (sB h (fun _ h => ?_) fun _ h => ?_)
      · exact au
      · refine j4 (q8 Q14 (jg fun _ Q17 => ?_)); refine sM ?_; refine j3 fun _ Q19 => ?_; refine u6 h [1, 2, 5] (fun i_1 => ([(8, .v (.int .i64 i_1))], [(0, .box (Row.row g_0)), (1, .box (Row.row xv_0))])) 2 ?_; rintro m_1 i_1 h _ Q20; rw [q4r] at h; exact au
  · replace h := q21 h hb_1; simp only [go_sem, hb_1]; exact au
 · replace h := q21 h hb_0; simp only [go_sem, hb_0]; exact au)
def ql8 (g_0 : GGraph) (nv_0 : Int) : Option Int :=
 q9 (idx g_0.Nodes nv_0) (fun xv_0 =>
 q9 (qn5 xv_0.Kind) (fun v_0 =>
 (if ((decide (xv_0.Kind < 1)) || (decide (15 < xv_0.Kind))) = true then some 1
 else q9 (q1v xv_0.Scope (g_0.Parent.length : Int)) (fun v_1 =>
 (if (((!v_1) || (v_0.1 && (xv_0.Scope == 0))) || (v_0.2 && (!(xv_0.Scope == 0)))) = true then some 6
 else q9 (qe4 g_0 nv_0) (fun v_2 =>
 (if (!v_2) = true then some 6
 else (if (((xv_0.Kind == 4) && (decide (xv_0.Arg < 1))) || (((!(xv_0.Kind == 4)) && (!(xv_0.Kind == 3))) && (!(xv_0.Arg == 0)))) = true then some 1
 else q9 (qe5 xv_0.Prog) (fun v_3 =>
 (if ((!v_3) || ((!(xv_0.Kind == 2)) && (decide (0 < (xv_0.Prog.length : Int))))) = true then some 13
 else some 0))))))))))
instance j3f (g_0 : GGraph) (nv_0 : Int) : Ct pp 65 (ql8 g_0 nv_0) [.agg (Row.row g_0), .v (.int .i64 nv_0)] fun r => (.v (.int .i64 r)) := ctI Tryz.func65 rfl (by rw [ql8]; exact au1)
def q70 (g_0 : GGraph) (xv_0 : GNode) : Option Int :=
 (if (xv_0.Kind == 10) = true then q9 (idx g_0.Parent xv_0.Scope) (fun xv_1 =>
 some xv_1)
 else some xv_0.Scope)
instance j2d (g_0 : GGraph) (xv_0 : GNode) : Ct pp 75 (q70 g_0 xv_0) [.agg (Row.row g_0), .agg (Row.row xv_0)] fun r => (.v (.int .i64 r)) := ctI Tryz.func75 rfl (by rw [q70]; exact au1)
def qm0 (g_0 : GGraph) (nv_0 : Int) : Option Int :=
 q9 (idx g_0.Edges nv_0) (fun xv_0 =>
 q9 (q1v xv_0.From (g_0.Nodes.length : Int)) (fun v_0 =>
 (if v_0 = true then q9 (q1v xv_0.To (g_0.Nodes.length : Int)) (fun v_1 =>
 (if (!v_1) = true then some 7
 else q9 (idx g_0.Nodes xv_0.From) (fun xv_1 =>
 q9 (idx g_0.Nodes xv_0.To) (fun xv_2 =>
 (if (xv_1.Kind == 15) = true then some 7
 else q9 (q9x xv_2.Kind) (fun v_2 =>
 q9 (q1v xv_0.Port v_2) (fun v_3 =>
 (if (!v_3) = true then some 7
 else q9 (qh8 g_0 xv_1) (fun v_4 =>
 q9 (q70 g_0 xv_2) (fun v_5 =>
 (if (!(v_4 == v_5)) = true then some 6
 else (if ((decide (xv_0.To ≤ xv_0.From)) && (!(xv_1.Kind == 12))) = true then some 8
 else q9 (qh7 xv_2.Kind) (fun v_6 =>
 (if (v_6 && (!xv_0.Exchange)) = true then some 1
 else y5 (0 ≤ 0 ∧ 0 ≤ nv_0 ∧ nv_0 ≤ (g_0.Edges.length : Int)) (
 q9 (qj3 (List.take (nv_0.toNat) g_0.Edges) xv_0.To xv_0.Port) (fun v_7 =>
 (if v_7 = true then some 7
 else some 0)))))))))))))))))
 else some 7)))
instance j3h (g_0 : GGraph) (nv_0 : Int) : Ct pp 66 (qm0 g_0 nv_0) [.agg (Row.row g_0), .v (.int .i64 nv_0)] fun r => (.v (.int .i64 r)) := ctK Tryz.func66 rfl (by rw [qm0]) (by
 intro r h F; refine sM ?_; refine sg fun _ Q2 => ?_; obtain ⟨xv_0, F, h⟩ := bI F h; simp only [go_sem, F]; refine ai ?_; refine q8 Q2 (sg fun _ Q3 => ?_); refine sg fun _ Q4 => ?_; simp only [go_sem]; refine q15 h fun v_0 h => ?_; simp only [go_sem]; rcases hb_0 : v_0 with _ | _
 · replace h := q23 h hb_0; simp only [go_sem, hb_0]; exact au
 ·
  replace h := q21 h hb_0; simp only [go_sem, hb_0]; refine q15 h fun v_1 h => ?_; simp only [go_sem]; refine q8 Q4 (sB h (fun _ h => ?_) fun _ h => ?_)
  · exact au
  · refine j4 (q8 Q3 (sg fun _ Q7 => ?_)); refine x9 ?_; refine q27 15 0 14 [0, 1, 0, 4, 15, 31, 0, 64, 0, 256, 960, 1984, 0, 0, 12351, 32767] [2, 3] [0, 1, 2, 3, 4, 5, 6, 7, 8, 9, 10, 11] [] [14] [12, 13] mixed (by kernel_rfl) (of_decide_eq_true (by kernel_rfl)) (by kernel_rfl) (by kernel_rfl) (by rfl) ?_; obtain ⟨xv_1, F, h⟩ := bI F h; obtain ⟨xv_2, F, h⟩ := bI F h; simp only [go_sem, F]; refine ai ?_; refine ai ?_; exact au)
def qs1 (g_0 : GGraph) (s_0 : Int) (rec_1 : Int → Option Bool) : Int → Option Bool :=
 fun p_1 =>
 (if (decide (0 ≤ p_1)) = true then (if (p_1 == s_0) = true then some true
 else q9 (idx g_0.Parent p_1) (fun xv_3 =>
 rec_1 xv_3))
 else some false)
def qh5 (g_0 : GGraph) (s_0 : Int) (of_0 : Int) : Option Bool :=
 q9 (idx g_0.Parent of_0) (fun xv_0 =>
 w9 (qs1 g_0 s_0) rounds xv_0)
instance j2c (g_0 : GGraph) (s_0 : Int) (of_0 : Int) : Ct pp 108 (qh5 g_0 s_0 of_0) [.agg (Row.row g_0), .v (.int .i64 s_0), .v (.int .i64 of_0)] fun r => (.v (.bool r)) := ctK Tryz.func108 rfl (by rw [qh5]) (by
 intro r h F; refine sM ?_; refine jg fun _ Q2 => ?_; refine sg fun _ Q3 => ?_; obtain ⟨xv_0, F, h⟩ := bI F h; simp only [go_sem, F]; refine ai ?_; refine q8 Q3 (j3 fun _ Q4 => ?_); refine u6 h [1, 3] (fun p_1 => ([(7, .v (.int .i64 p_1))], [(0, .box (Row.row g_0))])) 1 ?_; rintro m_1 p_1 h _ Q5; rw [qs1] at h; exact au)
def q3f (fromv_0 : Int) (cap_0 : GGraph) (self : Int → GGraph → (List Bool) → Int → Option (GGraph × (List Bool) × Int)) (rec_1 : Int × GGraph × Int × (List Bool) → Option (GGraph × (List Bool) × Int)) : Int × GGraph × Int × (List Bool) → Option (GGraph × (List Bool) × Int) :=
 fun (t12_1, b_2, b_3, a_1) =>
 (if (decide (t12_1 < (cap_0.Edges.length : Int))) = true then q9 (idx cap_0.Edges t12_1) (fun xv_6 =>
 (if (xv_6.From == fromv_0) = true then q9 (idx a_1 xv_6.To) (fun xv_7 =>
 (if xv_7 = true then rec_1 (i64.wrap (t12_1 + 1), b_2, b_3, a_1)
 else q9 (idx b_2.Nodes xv_6.To) (fun xv_8 =>
 (if (xv_8.Kind == 12) = true then q9 (qh5 b_2 xv_8.Scope b_3) (fun v_7 =>
 (if (!v_7) = true then q9 (self xv_6.To b_2 (List.set a_1 (xv_6.To.toNat) true) b_3) (fun v_8 =>
 rec_1 (i64.wrap (t12_1 + 1), v_8.1, v_8.2.2, v_8.2.1))
 else rec_1 (i64.wrap (t12_1 + 1), b_2, b_3, (List.set a_1 (xv_6.To.toNat) true))))
 else q9 (self xv_6.To b_2 (List.set a_1 (xv_6.To.toNat) true) b_3) (fun v_6 =>
 rec_1 (i64.wrap (t12_1 + 1), v_6.1, v_6.2.2, v_6.2.1))))))
 else rec_1 (i64.wrap (t12_1 + 1), b_2, b_3, a_1)))
 else some (b_2, a_1, b_3))
def q2f (self : Int → GGraph → (List Bool) → Int → Option (GGraph × (List Bool) × Int)) (fromv_0 : Int) (cap_0 : GGraph) (cap_1 : List Bool) (cap_2 : Int) : Option (GGraph × (List Bool) × Int) :=
 w9 (q3f fromv_0 cap_0 self) rounds (0, cap_0, cap_2, cap_1)
def q0s : Nat → Int → GGraph → (List Bool) → Int → Option (GGraph × (List Bool) × Int)
 | 0 => fun _ _ _ _ => none
 | n + 1 => q2f (q0s n)
def qb9 (fromv_0 : Int) (cap_0 : GGraph) (cap_1 : List Bool) (cap_2 : Int) : Option (GGraph × (List Bool) × Int) := q0s rounds fromv_0 cap_0 cap_1 cap_2
theorem qn6 (self : Int → GGraph → (List Bool) → Int → Option (GGraph × (List Bool) × Int)) (Hself : ∀ (fromv_0 : Int) (cap_0 : GGraph) (cap_1 : List Bool) (cap_2 : Int)  (r : GGraph × (List Bool) × Int), self fromv_0 cap_0 cap_1 cap_2 = some r → DetS pp 107 [.v (.int .i64 fromv_0), .ptr 0 0, .ptr 1 0, .ptr 3 0, .ptr 4 0] [(0, .box (Row.row cap_0)), (1, .box [.osl 2 1 (0) (cap_1.length)]), (2, .arr 1 (enc cap_1)), (3, .box [.v (.int .i64 cap_2)]), (4, .box [.clo 107 [.ptr 0 0, .ptr 1 0, .ptr 3 0, .ptr 4 0]])] 5 (.tup []) [(0, .box (Row.row r.1)), (1, .box [.osl 5 1 (0) (r.2.1.length)]), (3, .box [.v (.int .i64 r.2.2)]), (4, .box [.clo 107 [.ptr 0 0, .ptr 1 0, .ptr 3 0, .ptr 4 0]]), (5, .arr 1 (enc r.2.1))] 6) (fromv_0 : Int) (cap_0 : GGraph) (cap_1 : List Bool) (cap_2 : Int)  (r : GGraph × (List Bool) × Int) (h : q2f self fromv_0 cap_0 cap_1 cap_2 = some r) : DetS pp 107 [.v (.int .i64 fromv_0), .ptr 0 0, .ptr 1 0, .ptr 3 0, .ptr 4 0] [(0, .box (Row.row cap_0)), (1, .box [.osl 2 1 (0) (cap_1.length)]), (2, .arr 1 (enc cap_1)), (3, .box [.v (.int .i64 cap_2)]), (4, .box [.clo 107 [.ptr 0 0, .ptr 1 0, .ptr 3 0, .ptr 4 0]])] 5 (.tup []) [(0, .box (Row.row r.1)), (1, .box [.osl 5 1 (0) (r.2.1.length)]), (3, .box [.v (.int .i64 r.2.2)]), (4, .box [.clo 107 [.ptr 0 0, .ptr 1 0, .ptr 3 0, .ptr 4 0]]), (5, .arr 1 (enc r.2.1))] 6 := by
 refine dtI Tryz.func107 rfl ?_; rw [q2f] at h; have F := trivial; refine sM ?_; refine j3 fun _ Q2 => ?_; refine u6 h [0, 1, 2, 3, 4, 10, 11] (fun x => ([(12, .v (.int .i64 x.1))], [(0, .box (Row.row x.2.1)), (1, .box [.osl 5 1 (0) (x.2.2.2.length)]), (3, .box [.v (.int .i64 x.2.2.1)]), (4, .box [.clo 107 [.ptr 0 0, .ptr 1 0, .ptr 3 0, .ptr 4 0]]), (5, .arr 1 (enc x.2.2.2))])) 6 ?_; rintro m_1 ⟨t12_1, b_2, b_3, a_1⟩ h _ Q3; rw [q3f] at h; refine sM ?_; refine sg fun _ Q5 => ?_; refine sB h (fun _ h => ?_) fun _ h => ?_
 ·
  refine j4 (q8 Q5 (jg fun _ Q6 => ?_)); refine j3 fun _ Q7 => ?_; refine sg fun _ Q8 => ?_; obtain ⟨xv_6, F, h⟩ := bI F h; simp only [go_sem, F]; refine ai ?_; refine q8 Q8 (sg fun _ Q9 => ?_); refine sg fun _ Q10 => ?_; simp only [go_sem]; rcases hb_11 : (xv_6.From == fromv_0) with _ | _
  · replace h := q23 h hb_11; simp only [go_sem, hb_11]; exact au
  ·
   replace h := q21 h hb_11; obtain ⟨xv_7, F, h⟩ := bI F h; simp only [go_sem, hb_11, F]; refine ai ?_; refine q8 Q10 (sB h (fun _ h => ?_) fun _ h => ?_)
   · exact au
   ·
    refine j4 (q8 Q9 (sg fun _ Q11 => ?_)); have rf_2 : (enc a_1).set (xv_6.To.toNat) [.v (.bool true)] = enc (List.set a_1 (xv_6.To.toNat) true) := by exact q2v _ _ _
    simp only [go_sem, rf_2, F]; refine ai ?_; refine q8 Q11 (sg fun _ Q12 => ?_); obtain ⟨xv_8, F, h⟩ := bI F h; simp only [go_sem, F]; refine ai ?_; refine q8 Q12 (sg fun _ Q13 => ?_); simp only [go_sem]; rcases hb_13 : (xv_8.Kind == 12) with _ | _
    · replace h := q23 h hb_13; simp only [go_sem, hb_13]; refine q8 Q13 (j9n ?_); obtain ⟨v_6, ev_6, h⟩ := z8 h; simp only [go_sem]; refine qc8 [0, 1, 2, 3, 4, 10, 11, 12, 21, 22, 23, 25] ([], [(0, .box (Row.row b_2)), (1, .box [.osl 5 1 (0) (List.length (List.set a_1 (xv_6.To.toNat) true))]), (3, .box [.v (.int .i64 b_3)]), (4, .box [.clo 107 [.ptr 0 0, .ptr 1 0, .ptr 3 0, .ptr 4 0]]), (5, .arr 1 (enc (List.set a_1 (xv_6.To.toNat) true))), (6, .box (Row.row xv_6)), (7, .box (Row.row xv_8))]) 8 [some 5, some 6, some 7] [.v (.int .i64 xv_6.To), .ptr 0 0, .ptr 1 0, .ptr 3 0, .ptr 4 0] ?_; refine q0c [0, 1, 5, 3, 4] (Hself xv_6.To b_2 (List.set a_1 (xv_6.To.toNat) true) b_3 v_6 ev_6) ?_; simp only [go_sem]; exact au
    ·
     replace h := q21 h hb_13; simp only [go_sem, hb_13]; refine q15 h fun v_7 h => ?_; simp only [go_sem]; refine q8 Q13 (sB h (fun _ h => ?_) fun _ h => ?_)
     · obtain ⟨v_8, ev_8, h⟩ := z8 h; simp only [go_sem]; refine qc8 [0, 1, 2, 3, 4, 10, 11, 12, 21, 22, 23, 25, 41, 42, 43, 44, 45, 46] ([], [(0, .box (Row.row b_2)), (1, .box [.osl 5 1 (0) (List.length (List.set a_1 (xv_6.To.toNat) true))]), (3, .box [.v (.int .i64 b_3)]), (4, .box [.clo 107 [.ptr 0 0, .ptr 1 0, .ptr 3 0, .ptr 4 0]]), (5, .arr 1 (enc (List.set a_1 (xv_6.To.toNat) true))), (6, .box (Row.row xv_6)), (7, .box (Row.row xv_8))]) 8 [some 5, some 6, some 7] [.v (.int .i64 xv_6.To), .ptr 0 0, .ptr 1 0, .ptr 3 0, .ptr 4 0] ?_; refine q0c [0, 1, 5, 3, 4] (Hself xv_6.To b_2 (List.set a_1 (xv_6.To.toNat) true) b_3 v_8 ev_8) ?_; simp only [go_sem]; exact au
     · exact au
 · exact au
theorem q85 : ∀ (n : Nat) (fromv_0 : Int) (cap_0 : GGraph) (cap_1 : List Bool) (cap_2 : Int)  (r : GGraph × (List Bool) × Int), q0s n fromv_0 cap_0 cap_1 cap_2 = some r → DetS pp 107 [.v (.int .i64 fromv_0), .ptr 0 0, .ptr 1 0, .ptr 3 0, .ptr 4 0] [(0, .box (Row.row cap_0)), (1, .box [.osl 2 1 (0) (cap_1.length)]), (2, .arr 1 (enc cap_1)), (3, .box [.v (.int .i64 cap_2)]), (4, .box [.clo 107 [.ptr 0 0, .ptr 1 0, .ptr 3 0, .ptr 4 0]])] 5 (.tup []) [(0, .box (Row.row r.1)), (1, .box [.osl 5 1 (0) (r.2.1.length)]), (3, .box [.v (.int .i64 r.2.2)]), (4, .box [.clo 107 [.ptr 0 0, .ptr 1 0, .ptr 3 0, .ptr 4 0]]), (5, .arr 1 (enc r.2.1))] 6
  | 0, fromv_0, cap_0, cap_1, cap_2, r, h => by simp [q0s] at h
  | n + 1, fromv_0, cap_0, cap_1, cap_2, r, h => qn6 (q0s n) (q85 n) fromv_0 cap_0 cap_1 cap_2  r h
theorem qp7 (fromv_0 : Int) (cap_0 : GGraph) (cap_1 : List Bool) (cap_2 : Int)  (r : GGraph × (List Bool) × Int) (h : qb9 fromv_0 cap_0 cap_1 cap_2 = some r) : DetS pp 107 [.v (.int .i64 fromv_0), .ptr 0 0, .ptr 1 0, .ptr 3 0, .ptr 4 0] [(0, .box (Row.row cap_0)), (1, .box [.osl 2 1 (0) (cap_1.length)]), (2, .arr 1 (enc cap_1)), (3, .box [.v (.int .i64 cap_2)]), (4, .box [.clo 107 [.ptr 0 0, .ptr 1 0, .ptr 3 0, .ptr 4 0]])] 5 (.tup []) [(0, .box (Row.row r.1)), (1, .box [.osl 5 1 (0) (r.2.1.length)]), (3, .box [.v (.int .i64 r.2.2)]), (4, .box [.clo 107 [.ptr 0 0, .ptr 1 0, .ptr 3 0, .ptr 4 0]]), (5, .arr 1 (enc r.2.1))] 6 := q85 rounds fromv_0 cap_0 cap_1 cap_2  r h
def q62 (s_0 : Int) (v_0 : List Int) (rec_1 : Int → Option Bool) : Int → Option Bool :=
 fun i_1 =>
 (if (decide ((i64.wrap (i_1 + 1)) < (v_0.length : Int))) = true then q9 (idx v_0 i_1) (fun xv_2 =>
 (if (xv_2 == s_0) = true then some true
 else rec_1 (i64.wrap (i_1 + 1))))
 else some false)
def q5g (g_0 : GGraph) (s_0 : Int) (of_0 : Int) : Option Bool :=
 q9 (q1y g_0 of_0) (fun v_0 =>
 w9 (q62 s_0 v_0) rounds 0)
instance zg2 (g_0 : GGraph) (s_0 : Int) (of_0 : Int) : Ct pp 45 (q5g g_0 s_0 of_0) [.agg (Row.row g_0), .v (.int .i64 s_0), .v (.int .i64 of_0)] fun r => (.v (.bool r)) := ctK Tryz.func45 rfl (by rw [q5g]) (by
 intro r h F; refine sM ?_; refine sg fun _ Q2 => ?_; obtain ⟨v_0, ev_0, h⟩ := z8 h; simp only [go_sem]; refine q0c [] (q2u g_0 of_0 v_0 ev_0) ?_; simp only [go_sem]; refine q8 Q2 (jg fun _ Q3 => ?_); refine sM ?_; refine j3 fun _ Q5 => ?_; refine u6 h [1] (fun i_1 => ([(7, .osl 0 1 (0) (v_0.length)), (8, .v (.int .i64 i_1))], [(0, .arr 1 (enc v_0))])) 1 ?_; rintro m_1 i_1 h _ Q6; rw [q62] at h; exact au)
def q6q (g_0 : GGraph) (s_0 : Int) (round_1 : Int) (rec_1 : (Int × (List Bool) → Option (List Bool))) (rec_2 : Int × (List Bool) → Option (List Bool)) : Int × (List Bool) → Option (List Bool) :=
 fun (i_5, a_7) =>
 (if (decide (i_5 < (g_0.Edges.length : Int))) = true then q9 (idx g_0.Edges i_5) (fun xv_48 =>
 q9 (idx g_0.Nodes xv_48.From) (fun xv_49 =>
 (if ((xv_49.Kind == 11) && (xv_49.Scope == s_0)) = true then q9 (idx a_7 xv_48.To) (fun xv_53 =>
 rec_2 (i64.wrap (i_5 + 1), (List.set a_7 (xv_48.To.toNat) true)))
 else q9 (idx a_7 xv_48.From) (fun xv_50 =>
 (if xv_50 = true then (if (xv_49.Kind == 12) = true then q9 (q5g g_0 xv_49.Scope s_0) (fun v_8 =>
 (if (!v_8) = true then q9 (idx a_7 xv_48.To) (fun xv_52 =>
 rec_2 (i64.wrap (i_5 + 1), (List.set a_7 (xv_48.To.toNat) true)))
 else rec_2 (i64.wrap (i_5 + 1), a_7)))
 else q9 (idx a_7 xv_48.To) (fun xv_51 =>
 rec_2 (i64.wrap (i_5 + 1), (List.set a_7 (xv_48.To.toNat) true))))
 else rec_2 (i64.wrap (i_5 + 1), a_7))))))
 else rec_1 (i64.wrap (round_1 + 1), a_7))
def q6r (g_0 : GGraph) (s_0 : Int) (rec_1 : Int × (List Bool) → Option (List Bool)) : Int × (List Bool) → Option (List Bool) :=
 fun (round_1, a_5) =>
 (if (decide (round_1 ≤ (g_0.Nodes.length : Int))) = true then w9 (q6q g_0 s_0 round_1 rec_1) rounds (0, a_5)
 else some a_5)
def q40 (g_0 : GGraph) (s_0 : Int) : Option (List Bool) :=
 y5 (0 ≤ (g_0.Nodes.length : Int) ∧ (g_0.Nodes.length : Int) * 1 ≤ 140737488355328) (
 w9 (q6r g_0 s_0) rounds (0, (List.replicate (g_0.Nodes.length) false)))
theorem z0t (g_0 : GGraph) (s_0 : Int)  (r : List Bool) (h : q40 g_0 s_0 = some r) : DetS pp 17 [.agg (Row.row g_0), .v (.int .i64 s_0)] [] 0 (.osl 0 1 (0) (r.length)) [(0, .arr 1 (enc r))] 1 := by
 refine dtI Tryz.func17 rfl ?_; rw [q40] at h; have F := trivial; refine sM ?_; refine sg fun _ Q2 => ?_; obtain ⟨F, h⟩ := bG F h; have rf_0 : List.replicate (g_0.Nodes.length) [.v (.bool false)] = enc (List.replicate (g_0.Nodes.length) false) := by (simp [enc, q9u, q8f, q5o, q1p]; done)
 simp only [go_sem, F]; simp only [rf_0]; refine q8 Q2 (jg fun _ Q3 => ?_); refine sM ?_; refine j3 fun _ Q5 => ?_; refine u6 h [1, 2] (fun x => ([(5, .osl 1 1 (0) (x.2.length)), (6, .v (.int .i64 x.1))], [(0, .box (Row.row g_0)), (1, .arr 1 (enc x.2))])) 2 ?_; rintro m_1 ⟨round_1, a_5⟩ h _ Q6; rw [q6r] at h; refine sg fun _ Q7 => ?_; refine sM ?_; refine sB h (fun _ h => ?_) fun _ h => ?_
 ·
  refine j4 (q8 Q7 (jg fun _ Q9 => ?_)); refine j3 fun _ Q10 => ?_; refine sM ?_; refine j3 fun _ Q12 => ?_; refine u6 h [1, 2, 6] (fun x => ([(5, .osl 1 1 (0) (x.2.length)), (7, .v (.int .i64 x.1))], [(0, .box (Row.row g_0)), (1, .arr 1 (enc x.2))])) 2 ?_; rintro m_2 ⟨i_5, a_7⟩ h _ Q13; rw [q6q] at h; refine sg fun _ Q14 => ?_; refine sM ?_; refine sB h (fun _ h => ?_) fun _ h => ?_
  ·
   refine j4 (q8 Q14 (jg fun _ Q16 => ?_)); refine j3 fun _ Q17 => ?_; refine sg fun _ Q18 => ?_; obtain ⟨xv_48, F, h⟩ := bI F h; simp only [go_sem, F]; refine ai ?_; refine q8 Q18 (sg fun _ Q19 => ?_); obtain ⟨xv_49, F, h⟩ := bI F h; simp only [go_sem, F]; refine ai ?_; refine q8 Q19 (sg fun _ Q20 => ?_); simp only [go_sem]; rcases hb_44 : ((xv_49.Kind == 11) && (xv_49.Scope == s_0)) with _ | _
   ·
    replace h := q23 h hb_44; obtain ⟨xv_50, F, h⟩ := bI F h; simp only [go_sem, hb_44, F]; refine ai ?_; rcases hb_45 : xv_50 with _ | _
    · replace h := q23 h hb_45; simp only [go_sem, hb_45]; exact au
    ·
     replace h := q21 h hb_45; simp only [go_sem, hb_45]; rcases hb_46 : (xv_49.Kind == 12) with _ | _
     ·
      replace h := q23 h hb_46; simp only [go_sem, hb_46]; refine q8 Q20 (j9n ?_); obtain ⟨xv_51, F, h⟩ := bI F h; have rf_25 : (enc a_7).set (xv_48.To.toNat) [.v (.bool true)] = enc (List.set a_7 (xv_48.To.toNat) true) := by exact q2v _ _ _
      simp only [go_sem, rf_25, F]; refine ai ?_; exact au
     ·
      replace h := q21 h hb_46; simp only [go_sem, hb_46]; refine q15 h fun v_8 h => ?_; simp only [go_sem]; refine q8 Q20 (sB h (fun _ h => ?_) fun _ h => ?_)
      ·
       obtain ⟨xv_52, F, h⟩ := bI F h; have rf_26 : (enc a_7).set (xv_48.To.toNat) [.v (.bool true)] = enc (List.set a_7 (xv_48.To.toNat) true) := by exact q2v _ _ _
       simp only [go_sem, rf_26, F]; refine ai ?_; exact au
      · exact au
   ·
    replace h := q21 h hb_44; simp only [go_sem, hb_44]; refine q8 Q20 (j9n ?_); obtain ⟨xv_53, F, h⟩ := bI F h; have rf_27 : (enc a_7).set (xv_48.To.toNat) [.v (.bool true)] = enc (List.set a_7 (xv_48.To.toNat) true) := by exact q2v _ _ _
    simp only [go_sem, rf_27, F]; refine ai ?_; exact au
  · exact au
 · exact au
instance zk7 (g_0 : GGraph) (s_0 : Int) : Ct pp 17 (q40 g_0 s_0) [.agg (Row.row g_0), .v (.int .i64 s_0)] fun r => (.sl 1 (enc r)) := ⟨fun r h => (z0t g_0 s_0  r h).pure leA⟩
def qj8 (g_0 : GGraph) (nv_0 : Int) (v_0 : Int) (rec_1 : Int → Option Bool) : Int → Option Bool :=
 fun t13_1 =>
 (if (decide (t13_1 < v_0)) = true then q9 (qj3 g_0.Edges nv_0 t13_1) (fun v_3 =>
 (if (!v_3) = true then some false
 else rec_1 (i64.wrap (t13_1 + 1))))
 else some true)
def ql9 (g_0 : GGraph) (nv_0 : Int) : Option Bool :=
 q9 (idx g_0.Nodes nv_0) (fun xv_0 =>
 q9 (q9x xv_0.Kind) (fun v_0 =>
 w9 (qj8 g_0 nv_0 v_0) rounds 0))
instance j3g (g_0 : GGraph) (nv_0 : Int) : Ct pp 67 (ql9 g_0 nv_0) [.agg (Row.row g_0), .v (.int .i64 nv_0)] fun r => (.v (.bool r)) := ctK Tryz.func67 rfl (by rw [ql9]) (by
 intro r h F; refine sM ?_; refine jg fun _ Q2 => ?_; refine sg fun _ Q3 => ?_; obtain ⟨xv_0, F, h⟩ := bI F h; simp only [go_sem, F]; refine ai ?_; refine q15 h fun v_0 h => ?_; simp only [go_sem]; refine q8 Q3 (j3 fun _ Q4 => ?_); refine u6 h [1, 2, 12] (fun t13_1 => ([(13, .v (.int .i64 t13_1))], [(0, .box (Row.row g_0))])) 1 ?_; rintro m_1 t13_1 h _ Q5; rw [qj8] at h; exact au)
def qf7 (g_0 : GGraph) (nv_0 : Int) (rec_1 : Int × Int × (List Bool) × GGraph → Option Bool) : Int × Int × (List Bool) × GGraph → Option Bool :=
 fun (t31_1, b_2, a_1, b_3) =>
 (if (decide (t31_1 < (g_0.Nodes.length : Int))) = true then q9 (idx g_0.Nodes t31_1) (fun xv_5 =>
 (if ((xv_5.Kind == 11) && (xv_5.Scope == b_2)) = true then q9 (qb9 t31_1 b_3 a_1 b_2) (fun v_2 =>
 rec_1 (i64.wrap (t31_1 + 1), v_2.2.2, v_2.2.1, v_2.1))
 else rec_1 (i64.wrap (t31_1 + 1), b_2, a_1, b_3)))
 else q9 (idx a_1 nv_0) (fun xv_6 =>
 some xv_6))
def qi0 (g_0 : GGraph) (nv_0 : Int) : Option Bool :=
 q9 (idx g_0.Nodes nv_0) (fun xv_0 =>
 (if (!(xv_0.Kind == 10)) = true then some false
 else y5 (0 ≤ (g_0.Nodes.length : Int) ∧ (g_0.Nodes.length : Int) * 1 ≤ 140737488355328) (
 w9 (qf7 g_0 nv_0) rounds (0, xv_0.Scope, (List.replicate (g_0.Nodes.length) false), g_0))))
instance j2h (g_0 : GGraph) (nv_0 : Int) : Ct pp 68 (qi0 g_0 nv_0) [.agg (Row.row g_0), .v (.int .i64 nv_0)] fun r => (.v (.bool r)) := ctK Tryz.func68 rfl (by rw [qi0]) (by
 intro r h F; refine sM ?_; refine sg fun _ Q2 => ?_; obtain ⟨xv_0, F, h⟩ := bI F h; simp only [go_sem, F]; refine ai ?_; refine q8 Q2 (sg fun _ Q3 => ?_); refine sg fun _ Q4 => ?_; simp only [go_sem, F]; refine ai ?_; refine q8 Q4 (sB h (fun _ h => ?_) fun _ h => ?_)
 · exact au
 ·
  refine j4 (q8 Q3 (sg fun _ Q6 => ?_)); obtain ⟨F, h⟩ := bG F h; have rf_0 : List.replicate (g_0.Nodes.length) [.v (.bool false)] = enc (List.replicate (g_0.Nodes.length) false) := by (simp [enc, q9u, q8f, q5o, q1p]; done)
  simp only [go_sem, F]; simp only [rf_0]; refine q8 Q6 (sM ?_); refine sM ?_; refine jg fun _ Q9 => ?_; refine sM ?_; refine j3 fun _ Q11 => ?_; refine u6 h [1, 29, 30] (fun x => ([(5, .ptr 0 0), (6, .ptr 1 0), (7, .ptr 2 0), (31, .v (.int .i64 x.1))], [(0, .box [.v (.int .i64 x.2.1)]), (1, .box [.osl 3 1 (0) (x.2.2.1.length)]), (2, .box [.clo 107 [.ptr 4 0, .ptr 1 0, .ptr 0 0, .ptr 2 0]]), (3, .arr 1 (enc x.2.2.1)), (4, .box (Row.row x.2.2.2))])) 5 ?_; rintro m_1 ⟨t31_1, b_2, a_1, b_3⟩ h _ Q12; rw [qf7] at h; refine sM ?_; refine sg fun _ Q14 => ?_; refine sB h (fun _ h => ?_) fun _ h => ?_
  ·
   refine j4 (q8 Q14 (jg fun _ Q15 => ?_)); refine j3 fun _ Q16 => ?_; refine sg fun _ Q17 => ?_; obtain ⟨xv_5, F, h⟩ := bI F h; simp only [go_sem, F]; refine ai ?_; refine q8 Q17 (sM ?_); refine sB h (fun _ h => ?_) fun _ h => ?_
   · obtain ⟨v_2, ev_2, h⟩ := z8 h; simp only [go_sem]; refine q0c [4, 1, 3, 0, 2] (qp7 t31_1 b_3 a_1 b_2 v_2 ev_2) ?_; simp only [go_sem]; exact au
   · exact au
  · exact au)
def qg2 (g_0 : GGraph) (rec_5 : Int → Option (Int × Int)) : Int → Option (Int × Int) :=
 fun t101_1 =>
 (if (decide (t101_1 < (g_0.Nodes.length : Int))) = true then q9 (qi0 g_0 t101_1) (fun v_14 =>
 (if v_14 = true then some (8, t101_1)
 else rec_5 (i64.wrap (t101_1 + 1))))
 else some (0, 0))
def q94 (g_0 : GGraph) : Option (Int × Int) :=
 w9 (qg2 g_0) rounds 0
def qg1 (g_0 : GGraph) (rec_6 : Int → Option (Int × Int)) : Int → Option (Int × Int) :=
 fun t89_3 =>
 (if (decide (t89_3 < (g_0.Nodes.length : Int))) = true then q9 (ql9 g_0 t89_3) (fun v_17 =>
 (if (!v_17) = true then some (7, t89_3)
 else rec_6 (i64.wrap (t89_3 + 1))))
 else q94 g_0)
def q95 (g_0 : GGraph) : Option (Int × Int) :=
 w9 (qg1 g_0) rounds 0
def qg0 (g_0 : GGraph) (rec_7 : Int → Option (Int × Int)) : Int → Option (Int × Int) :=
 fun t75_3 =>
 (if (decide (t75_3 < (g_0.Edges.length : Int))) = true then q9 (qm0 g_0 t75_3) (fun v_20 =>
 (if (!(v_20 == 0)) = true then some (v_20, t75_3)
 else rec_7 (i64.wrap (t75_3 + 1))))
 else q95 g_0)
def q96 (g_0 : GGraph) : Option (Int × Int) :=
 w9 (qg0 g_0) rounds 0
def qf9 (g_0 : GGraph) (rec_8 : Int → Option (Int × Int)) : Int → Option (Int × Int) :=
 fun t61_3 =>
 (if (decide (t61_3 < (g_0.Nodes.length : Int))) = true then q9 (ql8 g_0 t61_3) (fun v_23 =>
 (if (!(v_23 == 0)) = true then some (v_23, t61_3)
 else rec_8 (i64.wrap (t61_3 + 1))))
 else q96 g_0)
def q97 (g_0 : GGraph) : Option (Int × Int) :=
 (if (((decide ((g_0.Nodes.length : Int) < 1)) || (decide (32 < (g_0.Nodes.length : Int)))) || (decide (64 < (g_0.Edges.length : Int)))) = true then some (11, 0)
 else w9 (qf9 g_0) rounds 0)
def qf8 (g_0 : GGraph) (rec_9 : Int → Option (Int × Int)) : Int → Option (Int × Int) :=
 fun t33_3 =>
 (if (decide (t33_3 < (g_0.Parent.length : Int))) = true then q9 (qh6 g_0 t33_3) (fun v_26 =>
 (if (!v_26) = true then some (6, t33_3)
 else rec_9 (i64.wrap (t33_3 + 1))))
 else q97 g_0)
def q8i (g_0 : GGraph) : Option (Int × Int) :=
 (if (((decide ((g_0.Parent.length : Int) < 1)) || (decide (8 < (g_0.Parent.length : Int)))) || (!((g_0.Bound.length : Int) == (g_0.Parent.length : Int)))) = true then some (6, 0)
 else w9 (qf8 g_0) rounds 0)
instance j2k (g_0 : GGraph) : Ct pp 33 (q8i g_0) [.agg (Row.row g_0)] fun r => (.tup [.v (.int .i64 r.1), .v (.int .i64 r.2)]) := ctK Tryz.func33 rfl (by rw [q8i]) (by
 intro r h F; refine sM ?_; refine sg fun _ Q2 => ?_; refine sM ?_; refine sB h (fun _ h => ?_) fun _ h => ?_
 · exact au
 ·
  refine j4 (q8 Q2 (q14 (fun (_ : Unit) => q97 g_0 = some r) [1] (fun _ => ([], [(0, .box (Row.row g_0))])) 1 ?_ ?_))
  · intro _ Q55; refine sM ?_; refine j3 fun _ Q57 => ?_; refine u6 h [1, 32] (fun t33_3 => ([(33, .v (.int .i64 t33_3))], [(0, .box (Row.row g_0))])) 1 ?_; rintro m_9 t33_3 h _ Q58; rw [qf8] at h; exact au
  ·
   rintro ⟨⟩ h
   try dsimp only at h
   rw [q97] at h; refine sg fun _ Q5 => ?_; refine sM ?_; refine sB h (fun _ h => ?_) fun _ h => ?_
   · exact au
   ·
    refine j4 (q8 Q5 (q14 (fun (_ : Unit) => q96 g_0 = some r) [1] (fun _ => ([], [(0, .box (Row.row g_0))])) 1 ?_ ?_))
    · intro _ Q43; refine sM ?_; refine j3 fun _ Q45 => ?_; refine u6 h [1, 60] (fun t61_3 => ([(61, .v (.int .i64 t61_3))], [(0, .box (Row.row g_0))])) 1 ?_; rintro m_8 t61_3 h _ Q46; rw [qf9] at h; exact au
    ·
     rintro ⟨⟩ h
     try dsimp only at h
     rw [q96] at h; refine q14 (fun (_ : Unit) => q95 g_0 = some r) [1] (fun _ => ([], [(0, .box (Row.row g_0))])) 1 ?_ ?_
     · intro _ Q31; refine sM ?_; refine j3 fun _ Q33 => ?_; refine u6 h [1, 74] (fun t75_3 => ([(75, .v (.int .i64 t75_3))], [(0, .box (Row.row g_0))])) 1 ?_; rintro m_7 t75_3 h _ Q34; rw [qg0] at h; exact au
     ·
      rintro ⟨⟩ h
      try dsimp only at h
      rw [q95] at h; refine q14 (fun (_ : Unit) => q94 g_0 = some r) [1] (fun _ => ([], [(0, .box (Row.row g_0))])) 1 ?_ ?_
      · intro _ Q20; refine sM ?_; refine j3 fun _ Q22 => ?_; refine u6 h [1, 88] (fun t89_3 => ([(89, .v (.int .i64 t89_3))], [(0, .box (Row.row g_0))])) 1 ?_; rintro m_6 t89_3 h _ Q23; rw [qg1] at h; exact au
      ·
       rintro ⟨⟩ h
       try dsimp only at h
       rw [q94] at h; refine jg fun _ Q8 => ?_; refine sM ?_; refine j3 fun _ Q10 => ?_; refine u6 h [1, 100] (fun t101_1 => ([(101, .v (.int .i64 t101_1))], [(0, .box (Row.row g_0))])) 1 ?_; rintro m_5 t101_1 h _ Q11; rw [qg2] at h; exact au)
def q6p (g_0 : GGraph) (rec_5 : Int → Option (Int × Int)) : Int → Option (Int × Int) :=
 fun nv_7 =>
 (if (decide (nv_7 < (g_0.Nodes.length : Int))) = true then q9 (idx g_0.Nodes nv_7) (fun xv_37 =>
 (if (xv_37.Kind == 10) = true then q9 (q40 g_0 xv_37.Scope) (fun v_23 =>
 q9 (idx v_23 nv_7) (fun xv_38 =>
 (if xv_38 = true then some (8, nv_7)
 else rec_5 (i64.wrap (nv_7 + 1)))))
 else rec_5 (i64.wrap (nv_7 + 1))))
 else some (0, 0))
def q4a (g_0 : GGraph) : Option (Int × Int) :=
 w9 (q6p g_0) rounds 0
def q6m (g_0 : GGraph) (nv_9 : Int) (rec_6 : (Int → Option (Int × Int))) (count_27 : Int) : Option (Int × Int) :=
 q9 (idx g_0.Nodes nv_9) (fun xv_56 =>
 q9 (q3x xv_56.Kind) (fun v_26 =>
 (if (decide (count_27 < v_26)) = true then some (7, nv_9)
 else rec_6 (i64.wrap (nv_9 + 1)))))
def q6o (g_0 : GGraph) (nv_9 : Int) (rec_6 : (Int → Option (Int × Int))) (rec_8 : Int × Int → Option (Int × Int)) : Int × Int → Option (Int × Int) :=
 fun (count_29, i_23) =>
 (if (decide (i_23 < (g_0.Edges.length : Int))) = true then q9 (idx g_0.Edges i_23) (fun xv_59 =>
 (if (xv_59.To == nv_9) = true then rec_8 (i64.wrap (count_29 + 1), i64.wrap (i_23 + 1))
 else rec_8 (count_29, i64.wrap (i_23 + 1))))
 else q6m g_0 nv_9 rec_6 count_29)
def q4e (g_0 : GGraph) (rec_6 : Int → Option (Int × Int)) : Int → Option (Int × Int) :=
 fun nv_9 =>
 (if (decide (nv_9 < (g_0.Nodes.length : Int))) = true then w9 (q6o g_0 nv_9 rec_6) rounds (0, 0)
 else q4a g_0)
def q4b (g_0 : GGraph) : Option (Int × Int) :=
 w9 (q4e g_0) rounds 0
def q6n (g_0 : GGraph) (rec_9 : Int → Option (Int × Int)) : Int → Option (Int × Int) :=
 fun nv_11 =>
 (if (decide (nv_11 < (g_0.Edges.length : Int))) = true then q9 (q6l g_0 nv_11) (fun v_29 =>
 (if (!(v_29 == 0)) = true then some (v_29, nv_11)
 else rec_9 (i64.wrap (nv_11 + 1))))
 else q4b g_0)
def q4c (g_0 : GGraph) : Option (Int × Int) :=
 w9 (q6n g_0) rounds 0
def q63 (g_0 : GGraph) (rec_10 : Int → Option (Int × Int)) : Int → Option (Int × Int) :=
 fun nv_13 =>
 (if (decide (nv_13 < (g_0.Nodes.length : Int))) = true then q9 (q6k g_0 nv_13) (fun v_32 =>
 (if (!(v_32 == 0)) = true then some (v_32, nv_13)
 else rec_10 (i64.wrap (nv_13 + 1))))
 else q4c g_0)
def q4d (g_0 : GGraph) : Option (Int × Int) :=
 (if ((((g_0.Nodes.length : Int) == 0) || (decide (32 < (g_0.Nodes.length : Int)))) || (decide (64 < (g_0.Edges.length : Int)))) = true then some (11, 0)
 else w9 (q63 g_0) rounds 0)
def q1n (s_3 : Int) (rec_11 : (Int → Option (Int × Int))) (ok_10 : Bool) : Option (Int × Int) :=
 (if (!ok_10) = true then some (6, s_3)
 else rec_11 (i64.wrap (s_3 + 1)))
def q1m (s_3 : Int) (rec_11 : (Int → Option (Int × Int))) (ok_11 : Bool) : Option (Int × Int) :=
 (if (!ok_11) = true then some (6, s_3)
 else rec_11 (i64.wrap (s_3 + 1)))
def q2t (g_0 : GGraph) (rec_11 : Int → Option (Int × Int)) : Int → Option (Int × Int) :=
 fun s_3 =>
 (if (decide (s_3 < (g_0.Parent.length : Int))) = true then q9 (idx g_0.Parent s_3) (fun xv_68 =>
 (if (xv_68 == (-1)) = true then q9 (idx g_0.Bound s_3) (fun xv_71 =>
 (if (decide (0 < s_3)) = true then (if (decide (0 ≤ xv_68)) = true then (if (decide (xv_68 < s_3)) = true then (if (decide (1 ≤ xv_71)) = true then (if (decide (xv_71 ≤ 64)) = true then q9 (q1y g_0 s_3) (fun v_44 =>
 q1m s_3 rec_11 (decide ((v_44.length : Int) ≤ 4)))
 else q1m s_3 rec_11 false)
 else q1m s_3 rec_11 false)
 else q1m s_3 rec_11 false)
 else q1m s_3 rec_11 false)
 else q1m s_3 rec_11 (xv_71 == 0)))
 else (if (decide (0 < s_3)) = true then (if (decide (0 ≤ xv_68)) = true then (if (decide (xv_68 < s_3)) = true then q9 (idx g_0.Bound s_3) (fun xv_70 =>
 (if (decide (1 ≤ xv_70)) = true then (if (decide (xv_70 ≤ 64)) = true then q9 (q1y g_0 s_3) (fun v_42 =>
 q1n s_3 rec_11 (decide ((v_42.length : Int) ≤ 4)))
 else q1n s_3 rec_11 false)
 else q1n s_3 rec_11 false))
 else q1n s_3 rec_11 false)
 else q1n s_3 rec_11 false)
 else q1n s_3 rec_11 false)))
 else q4d g_0)
def q3y (g_0 : GGraph) : Option (Int × Int) :=
 (if ((((g_0.Parent.length : Int) == 0) || (decide (8 < (g_0.Parent.length : Int)))) || (!((g_0.Parent.length : Int) == (g_0.Bound.length : Int)))) = true then some (6, 0)
 else w9 (q2t g_0) rounds 0)
instance zk5 (g_0 : GGraph) : Ct pp 7 (q3y g_0) [.agg (Row.row g_0)] fun r => (.tup [.v (.int .i64 r.1), .v (.int .i64 r.2)]) := ctK Tryz.func7 rfl (by rw [q3y]) (by
 intro r h F; refine sM ?_; refine sg fun _ Q2 => ?_; refine sM ?_; refine sB h (fun _ h => ?_) fun _ h => ?_
 · exact au
 ·
  refine j4 (q8 Q2 (q14 (fun (_ : Unit) => q4d g_0 = some r) [1] (fun _ => ([], [(0, .box (Row.row g_0))])) 1 ?_ ?_))
  ·
   intro _ Q61; refine sM ?_; refine j3 fun _ Q63 => ?_; refine u6 h [1] (fun s_3 => ([(4, .v (.int .i64 s_3))], [(0, .box (Row.row g_0))])) 1 ?_; rintro m_11 s_3 h _ Q64; rw [q2t] at h; refine sg fun _ Q65 => ?_; refine sM ?_; refine sB h (fun _ h => ?_) fun _ h => ?_
   ·
    refine j4 (q8 Q65 (jg fun _ Q67 => ?_)); refine j3 fun _ Q68 => ?_; refine sg fun _ Q69 => ?_; obtain ⟨xv_68, F, h⟩ := bI F h; simp only [go_sem, F]; refine ai ?_; rcases hb_240 : (xv_68 == (-1)) with _ | _
    ·
     replace h := q23 h hb_240; simp only [go_sem, hb_240]; refine q8 Q69 (q14 (fun (ok_10 : Bool) => q1n s_3 (w9 (q2t g_0) m_11) ok_10 = some r) [1, 4] (fun ok_10 => ([(5, .v (.bool ok_10))], [(0, .box (Row.row g_0))])) 1 ?_ ?_)
     ·
      intro _ Q72; refine sM ?_; refine sB h (fun _ h => ?_) fun _ h => ?_
      ·
       refine sg fun _ Q74 => ?_; simp only [go_sem, F]; refine ai ?_; rcases hb_248 : (decide (0 ≤ xv_68)) with _ | _
       · replace h := q23 h hb_248; simp only [go_sem, hb_248]; exact au
       ·
        replace h := q21 h hb_248; simp only [go_sem, hb_248, F]; refine ai ?_; rcases hb_249 : (decide (xv_68 < s_3)) with _ | _
        · replace h := q23 h hb_249; simp only [go_sem, hb_249]; exact au
        ·
         replace h := q21 h hb_249; obtain ⟨xv_70, F, h⟩ := bI F h; simp only [go_sem, hb_249, F]; refine ai ?_; rcases hb_250 : (decide (1 ≤ xv_70)) with _ | _
         · replace h := q23 h hb_250; simp only [go_sem, hb_250]; exact au
         ·
          replace h := q21 h hb_250; simp only [go_sem, hb_250, F]; refine ai ?_; refine q8 Q74 ?_; simp only [go_sem]; rcases hb_251 : (decide (xv_70 ≤ 64)) with _ | _
          · replace h := q23 h hb_251; simp only [go_sem, hb_251]; exact au
          · replace h := q21 h hb_251; obtain ⟨v_42, ev_42, h⟩ := z8 h; simp only [go_sem, hb_251]; refine q0c [] (q2u g_0 s_3 v_42 ev_42) ?_; simp only [go_sem]; exact au
      · exact au
     ·
      rintro ok_10 h
      try dsimp only at h
      rw [q1n] at h; exact au
    ·
     replace h := q21 h hb_240; obtain ⟨xv_71, F, h⟩ := bI F h; simp only [go_sem, hb_240, F]; refine ai ?_; refine q8 Q69 (q14 (fun (ok_11 : Bool) => q1m s_3 (w9 (q2t g_0) m_11) ok_11 = some r) [1, 4, 47, 48, 49, 51, 52] (fun ok_11 => ([(5, .v (.bool ok_11))], [(0, .box (Row.row g_0))])) 1 ?_ ?_)
     ·
      intro _ Q77; refine sM ?_; refine sB h (fun _ h => ?_) fun _ h => ?_
      ·
       refine sg fun _ Q79 => ?_; simp only [go_sem, F]; refine ai ?_; rcases hb_259 : (decide (0 ≤ xv_68)) with _ | _
       · replace h := q23 h hb_259; simp only [go_sem, hb_259]; exact au
       ·
        replace h := q21 h hb_259; simp only [go_sem, hb_259, F]; refine ai ?_; rcases hb_260 : (decide (xv_68 < s_3)) with _ | _
        · replace h := q23 h hb_260; simp only [go_sem, hb_260]; exact au
        ·
         replace h := q21 h hb_260; simp only [go_sem, hb_260, F]; refine ai ?_; rcases hb_261 : (decide (1 ≤ xv_71)) with _ | _
         · replace h := q23 h hb_261; simp only [go_sem, hb_261]; exact au
         ·
          replace h := q21 h hb_261; simp only [go_sem, hb_261, F]; refine ai ?_; refine q8 Q79 ?_; simp only [go_sem]; rcases hb_262 : (decide (xv_71 ≤ 64)) with _ | _
          · replace h := q23 h hb_262; simp only [go_sem, hb_262]; exact au
          · replace h := q21 h hb_262; obtain ⟨v_44, ev_44, h⟩ := z8 h; simp only [go_sem, hb_262]; refine q0c [] (q2u g_0 s_3 v_44 ev_44) ?_; simp only [go_sem]; exact au
      · exact au
     ·
      rintro ok_11 h
      try dsimp only at h
      rw [q1m] at h; exact au
   · exact au
  ·
   rintro ⟨⟩ h
   try dsimp only at h
   rw [q4d] at h; refine sg fun _ Q5 => ?_; refine sM ?_; refine sB h (fun _ h => ?_) fun _ h => ?_
   · exact au
   ·
    refine j4 (q8 Q5 (q14 (fun (_ : Unit) => q4c g_0 = some r) [1] (fun _ => ([], [(0, .box (Row.row g_0))])) 1 ?_ ?_))
    · intro _ Q50; refine sM ?_; refine j3 fun _ Q52 => ?_; refine u6 h [1] (fun nv_13 => ([(6, .v (.int .i64 nv_13))], [(0, .box (Row.row g_0))])) 1 ?_; rintro m_10 nv_13 h _ Q53; rw [q63] at h; exact au
    ·
     rintro ⟨⟩ h
     try dsimp only at h
     rw [q4c] at h; refine q14 (fun (_ : Unit) => q4b g_0 = some r) [1] (fun _ => ([], [(0, .box (Row.row g_0))])) 1 ?_ ?_
     · intro _ Q39; refine sM ?_; refine j3 fun _ Q41 => ?_; refine u6 h [1] (fun nv_11 => ([(8, .v (.int .i64 nv_11))], [(0, .box (Row.row g_0))])) 1 ?_; rintro m_9 nv_11 h _ Q42; rw [q6n] at h; exact au
     ·
      rintro ⟨⟩ h
      try dsimp only at h
      rw [q4b] at h; refine q14 (fun (_ : Unit) => q4a g_0 = some r) [1] (fun _ => ([], [(0, .box (Row.row g_0))])) 1 ?_ ?_
      ·
       intro _ Q19; refine sM ?_; refine j3 fun _ Q21 => ?_; refine u6 h [1] (fun nv_9 => ([(10, .v (.int .i64 nv_9))], [(0, .box (Row.row g_0))])) 1 ?_; rintro m_6 nv_9 h _ Q22; rw [q4e] at h; refine sg fun _ Q23 => ?_; refine sM ?_; refine sB h (fun _ h => ?_) fun _ h => ?_
       ·
        refine j4 (q8 Q23 (jg fun _ Q25 => ?_)); refine j3 fun _ Q26 => ?_; refine sM ?_; refine q14 (fun (count_27 : Int) => q6m g_0 nv_9 (w9 (q4e g_0) m_6) count_27 = some r) [1, 10] (fun count_27 => ([(11, .v (.int .i64 count_27))], [(0, .box (Row.row g_0))])) 1 ?_ ?_
        · intro _ Q30; refine sM ?_; refine j3 fun _ Q32 => ?_; refine u6 h [1, 10] (fun x => ([(11, .v (.int .i64 x.1)), (12, .v (.int .i64 x.2))], [(0, .box (Row.row g_0))])) 1 ?_; rintro m_8 ⟨count_29, i_23⟩ h _ Q33; rw [q6o] at h; exact au
        ·
         rintro count_27 h
         try dsimp only at h
         rw [q6m] at h; exact au
       · exact au
      ·
       rintro ⟨⟩ h
       try dsimp only at h
       rw [q4a] at h; refine jg fun _ Q8 => ?_; refine sM ?_; refine j3 fun _ Q10 => ?_; refine u6 h [1] (fun nv_7 => ([(13, .v (.int .i64 nv_7))], [(0, .box (Row.row g_0))])) 1 ?_; rintro m_5 nv_7 h _ Q11; rw [q6p] at h; exact au)
def q71 (g_0 : GGraph) (node_0 : Int) : Option Int :=
 q9 (q1v node_0 (g_0.Nodes.length : Int)) (fun v_0 =>
 (if (!v_0) = true then some 0
 else q9 (idx g_0.Nodes node_0) (fun xv_0 =>
 q9 (q70 g_0 xv_0) (fun v_1 =>
 q9 (qi1 g_0 v_1) (fun v_2 =>
 some v_2)))))
instance z81 (g_0 : GGraph) (node_0 : Int) : Ct pp 36 (q71 g_0 node_0) [.agg (Row.row g_0), .v (.int .i64 node_0)] fun r => (.v (.int .i64 r)) := ctI Tryz.func36 rfl (by rw [q71]; exact au1)
def qg7 (hv_0 : GHop) : Option (GHop × Bool) :=
 q9 (q38 hv_0) (fun v_0 =>
 (if (!v_0) = true then some ((⟨0, 0, 0, (⟨0, 0, 0, 0⟩ : Arr4 Int), (⟨0, 0, 0, 0⟩ : Arr4 Int)⟩ : GHop), false)
 else some (hv_0, true)))
instance j5w (hv_0 : GHop) : Ct pp 72 (qg7 hv_0) [.agg (Row.row hv_0)] fun r => (.tup [.agg (Row.row r.1), .v (.bool r.2)]) := ctI Tryz.func72 rfl (by rw [qg7]; exact au1)
def qq1 (d_0 : Int) : Option (GHop × Bool) :=
 q9 (qg7 (⟨d_0, d_0, 1, (⟨0, 0, 0, 0⟩ : Arr4 Int), (⟨0, 0, 0, 0⟩ : Arr4 Int)⟩ : GHop)) (fun v_0 =>
 some (v_0.1, v_0.2))
instance j55 (d_0 : Int) : Ct pp 69 (qq1 d_0) [.v (.int .i64 d_0)] fun r => (.tup [.agg (Row.row r.1), .v (.bool r.2)]) := ctI Tryz.func69 rfl (by rw [qq1]; exact au1)
def qq0 (d_0 : Int) : Option (GHop × Bool) :=
 (if (decide (d_0 < 2)) = true then some ((⟨0, 0, 0, (⟨0, 0, 0, 0⟩ : Arr4 Int), (⟨0, 0, 0, 0⟩ : Arr4 Int)⟩ : GHop), false)
 else q9 (qg7 (⟨d_0, i64.wrap (d_0 - 1), 0, (⟨0, 0, 0, 0⟩ : Arr4 Int), (⟨0, 0, 0, 0⟩ : Arr4 Int)⟩ : GHop)) (fun v_0 =>
 some (v_0.1, v_0.2)))
instance j54 (d_0 : Int) : Ct pp 70 (qq0 d_0) [.v (.int .i64 d_0)] fun r => (.tup [.agg (Row.row r.1), .v (.bool r.2)]) := ctI Tryz.func70 rfl (by rw [qq0]; exact au1)
def qu9 (d_0 : Int) : Option (GHop × Bool) :=
 q9 (q38 (⟨d_0, d_0, 0, (⟨0, 0, 0, 0⟩ : Arr4 Int), (⟨0, 0, 0, 0⟩ : Arr4 Int)⟩ : GHop)) (fun v_0 =>
 (if (!v_0) = true then some ((⟨0, 0, 0, (⟨0, 0, 0, 0⟩ : Arr4 Int), (⟨0, 0, 0, 0⟩ : Arr4 Int)⟩ : GHop), false)
 else y5 (0 ≤ i64.wrap (d_0 - 1) ∧ i64.wrap (d_0 - 1) < 4) (
 q9 (some (if Int.toNat (i64.wrap (d_0 - 1)) = 0 then 1 else 0)) (fun w_0 =>
 q9 (some (if Int.toNat (i64.wrap (d_0 - 1)) = 1 then 1 else 0)) (fun w_1 =>
 q9 (some (if Int.toNat (i64.wrap (d_0 - 1)) = 2 then 1 else 0)) (fun w_2 =>
 q9 (some (if Int.toNat (i64.wrap (d_0 - 1)) = 3 then 1 else 0)) (fun w_3 =>
 some ((⟨d_0, d_0, 0, (⟨w_0, w_1, w_2, w_3⟩ : Arr4 Int), (⟨0, 0, 0, 0⟩ : Arr4 Int)⟩ : GHop), true))))))))
instance j5y (d_0 : Int) : Ct pp 71 (qu9 d_0) [.v (.int .i64 d_0)] fun r => (.tup [.agg (Row.row r.1), .v (.bool r.2)]) := ctK Tryz.func71 rfl (by rw [qu9]) (by
 intro r h F; refine sM ?_; refine sM ?_; refine sg fun _ Q3 => ?_; refine sg fun _ Q4 => ?_; simp only [go_sem]; refine q15 h fun v_0 h => ?_; simp only [go_sem]; refine q8 Q4 (sB h (fun _ h => ?_) fun _ h => ?_)
 · exact au
 · refine j4 (q8 Q3 (sg fun _ Q6 => ?_)); obtain ⟨F, h⟩ := bG F h; obtain ⟨w_0, ew_0, h⟩ := z8 h; obtain ⟨w_1, ew_1, h⟩ := z8 h; obtain ⟨w_2, ew_2, h⟩ := z8 h; obtain ⟨w_3, ew_3, h⟩ := z8 h; have sf_0 := qh2 (f := (fun y => AV.v (.int .i64 y))) [.v (.int .i64 d_0), .v (.int .i64 d_0), .v (.int .i64 0)] [.v (.int .i64 0), .v (.int .i64 0), .v (.int .i64 0), .v (.int .i64 0)] [0, 0, 0, 0] [w_0, w_1, w_2, w_3] (Int.toNat (i64.wrap (d_0 - 1))) 1 (by simp only [List.length_cons, List.length_nil]; omega) (by simp only [List.mapIdx_cons, List.mapIdx_nil, Nat.zero_add, Nat.reduceAdd, Option.some.inj ew_0, Option.some.inj ew_1, Option.some.inj ew_2, Option.some.inj ew_3]); simp only [List.cons_append, List.nil_append, List.append_nil, List.map_cons, List.map_nil, List.length_cons, List.length_nil, Nat.zero_add, Nat.reduceAdd, q3a, Nat.add_assoc, q1p] at sf_0; simp only [go_sem, sf_0, Nat.mul_one, F]; refine ai ?_; exact au)
def qo2 (d_0 : Int) : Option (GHop × Bool) :=
 q9 (qg7 (⟨d_0, d_0, 0, (⟨0, 0, 0, 0⟩ : Arr4 Int), (⟨0, 0, 0, 0⟩ : Arr4 Int)⟩ : GHop)) (fun v_0 =>
 some (v_0.1, v_0.2))
instance j5x (d_0 : Int) : Ct pp 35 (qo2 d_0) [.v (.int .i64 d_0)] fun r => (.tup [.agg (Row.row r.1), .v (.bool r.2)]) := ctI Tryz.func35 rfl (by rw [qo2]; exact au1)
def qm3 (g_0 : GGraph) (e_0 : GEdge) : Option GHop :=
 q9 (q71 g_0 e_0.From) (fun v_0 =>
 q9 (idx g_0.Nodes e_0.From) (fun xv_0 =>
 (if (xv_0.Kind == 10) = true then q9 (qq1 v_0) (fun v_1 =>
 some v_1.1)
 else (if (xv_0.Kind == 11) = true then q9 (qq0 v_0) (fun v_2 =>
 some v_2.1)
 else (if (xv_0.Kind == 12) = true then q9 (qu9 v_0) (fun v_3 =>
 some v_3.1)
 else q9 (qo2 v_0) (fun v_4 =>
 some v_4.1))))))
instance j3m (g_0 : GGraph) (e_0 : GEdge) : Ct pp 34 (qm3 g_0 e_0) [.agg (Row.row g_0), .agg (Row.row e_0)] fun r => (.agg (Row.row r)) := ctI Tryz.func34 rfl (by rw [qm3]; exact au1)
def q9a (a_2 : List GHop) (t77_17 : Int) (rec_4 : (Bool × Int × (List (List GHop)) → Option (List (List (List GHop))))) (xv_300 : GEdge) (xv_301 : List GHop) (rec_5 : Bool × Int × (List (List GHop)) → Option (List (List (List GHop)))) : Bool × Int × (List (List GHop)) → Option (List (List (List GHop))) :=
 fun (more_77, t88_53, a_82) =>
 (if (decide (t88_53 < (xv_301.length : Int))) = true then q9 (idx xv_301 t88_53) (fun xv_308 =>
 q9 (idx a_2 t77_17) (fun xv_309 =>
 q9 (qo1 xv_308 xv_309) (fun v_170 =>
 (if v_170.2 = true then q9 (idx a_82 xv_300.To) (fun xv_310 =>
 q9 (qp9 xv_310 v_170.1) (fun v_171 =>
 rec_5 ((more_77 || v_171.2), i64.wrap (t88_53 + 1), (List.set a_82 (xv_300.To.toNat) v_171.1))))
 else rec_5 (more_77, i64.wrap (t88_53 + 1), a_82)))))
 else rec_4 (more_77, i64.wrap (t77_17 + 1), a_82))
def q9b (g_0 : GGraph) (a_2 : List GHop) (rec_3 : (Bool × (List (List GHop)) → Option (List (List (List GHop))))) (rec_4 : Bool × Int × (List (List GHop)) → Option (List (List (List GHop)))) : Bool × Int × (List (List GHop)) → Option (List (List (List GHop))) :=
 fun (more_75, t77_17, a_80) =>
 (if (decide (t77_17 < (g_0.Edges.length : Int))) = true then q9 (idx g_0.Edges t77_17) (fun xv_300 =>
 q9 (idx a_80 xv_300.From) (fun xv_301 =>
 w9 (q9a a_2 t77_17 rec_4 xv_300 xv_301) rounds (more_75, 0, a_80)))
 else rec_3 (more_75, a_80))
def qg5 (g_0 : GGraph) (a_2 : List GHop) (t56_1 : Int) (a_56 : List (List (List GHop))) (rec_2 : (Int × (List (List (List GHop))) → Option (List (List (List GHop))))) (rec_3 : Bool × (List (List GHop)) → Option (List (List (List GHop)))) : Bool × (List (List GHop)) → Option (List (List (List GHop))) :=
 fun (more_69, a_74) =>
 (if more_69 = true then w9 (q9b g_0 a_2 rec_3) rounds (false, 0, a_74)
 else q9 (idx a_56 t56_1) (fun xv_311 =>
 rec_2 (i64.wrap (t56_1 + 1), (List.set a_56 (t56_1.toNat) a_74))))
def qg6 (g_0 : GGraph) (a_2 : List GHop) (rec_2 : Int × (List (List (List GHop))) → Option (List (List (List GHop)))) : Int × (List (List (List GHop))) → Option (List (List (List GHop))) :=
 fun (t56_1, a_56) =>
 (if (decide (t56_1 < (List.length (List.replicate (g_0.Nodes.length) ([] : List (List GHop))) : Int))) = true then y5 (0 ≤ (g_0.Nodes.length : Int) ∧ (g_0.Nodes.length : Int) * 24 ≤ 140737488355328) (
 q9 (q71 g_0 t56_1) (fun v_116 =>
 q9 (qo2 v_116) (fun v_117 =>
 q9 (idx (List.replicate (g_0.Nodes.length) ([] : List GHop)) t56_1) (fun xv_210 =>
 w9 (qg5 g_0 a_2 t56_1 a_56 rec_2) rounds (true, (List.set (List.replicate (g_0.Nodes.length) ([] : List GHop)) (t56_1.toNat) ([v_117.1] : List GHop)))))))
 else some a_56)
def qg3 (g_0 : GGraph) (a_2 : List GHop) : Option (List (List (List GHop))) :=
 w9 (qg6 g_0 a_2) rounds (0, (List.replicate (g_0.Nodes.length) ([] : List (List GHop))))
def qg4 (g_0 : GGraph) (rec_6 : Int × (List GHop) → Option (List (List (List GHop)))) : Int × (List GHop) → Option (List (List (List GHop))) :=
 fun (t42_3, a_84) =>
 (if (decide (t42_3 < (g_0.Edges.length : Int))) = true then q9 (idx g_0.Edges t42_3) (fun xv_316 =>
 q9 (qm3 g_0 xv_316) (fun v_174 =>
 q9 (idx a_84 t42_3) (fun xv_317 =>
 rec_6 (i64.wrap (t42_3 + 1), (List.set a_84 (t42_3.toNat) v_174)))))
 else qg3 g_0 a_84)
def q8k (g_0 : GGraph) : Option (List (List (List GHop))) :=
 q9 (q8i g_0) (fun v_0 =>
 (if (!(v_0.1 == 0)) = true then some ([] : List (List (List GHop)))
 else y5 (0 ≤ (g_0.Nodes.length : Int) ∧ (g_0.Nodes.length : Int) * 24 ≤ 140737488355328) (
 y5 (0 ≤ (g_0.Edges.length : Int) ∧ (g_0.Edges.length : Int) * 88 ≤ 140737488355328) (
 w9 (qg4 g_0) rounds (0, (List.replicate (g_0.Edges.length) (⟨0, 0, 0, (⟨0, 0, 0, 0⟩ : Arr4 Int), (⟨0, 0, 0, 0⟩ : Arr4 Int)⟩ : GHop)))))))
theorem z0e (g_0 : GGraph)  (r : List (List (List GHop))) (h : q8k g_0 = some r) : DetS pp 11 [.agg (Row.row g_0)] [] 0 (.osl 0 1 (0) (r.length)) [(0, .arr 1 (enc r))] 1 := by
 refine dtI Tryz.func11 rfl ?_; rw [q8k] at h; have F := trivial; refine sM ?_; refine sg fun _ Q2 => ?_; refine sg fun _ Q3 => ?_; simp only [go_sem]; refine q15 h fun v_0 h => ?_; simp only [go_sem]; refine q8 Q3 (sM ?_); refine sB h (fun _ h => ?_) fun _ h => ?_
 · exact au
 ·
  refine j4 (q8 Q2 (sM ?_)); refine sg fun _ Q7 => ?_; obtain ⟨F, h⟩ := bG F h; have rf_0 : List.replicate (g_0.Nodes.length) [.sl 1 (enc ([] : List (List GHop)))] = enc (List.replicate (g_0.Nodes.length) ([] : List (List GHop))) := by (simp [enc, q9u, q8f, q5o, q1p]; exact .inr rfl)
  have rf_0n := rf_0; simp only [q1p] at rf_0n; simp only [go_sem, F]; refine ai ?_; simp only [rf_0n, rf_0]; refine q8 Q7 (sg fun _ Q8 => ?_); obtain ⟨F, h⟩ := bG F h; have rf_1 : List.replicate (g_0.Edges.length) [.v (.int .i64 0), .v (.int .i64 0), .v (.int .i64 0), .v (.int .i64 0), .v (.int .i64 0), .v (.int .i64 0), .v (.int .i64 0), .v (.int .i64 0), .v (.int .i64 0), .v (.int .i64 0), .v (.int .i64 0)] = enc (List.replicate (g_0.Edges.length) (⟨0, 0, 0, (⟨0, 0, 0, 0⟩ : Arr4 Int), (⟨0, 0, 0, 0⟩ : Arr4 Int)⟩ : GHop)) := by (simp [enc, q9u, q8f, q5o, q1p]; exact .inr rfl)
  simp only [go_sem, F]; refine ai ?_; simp only [rf_1]; refine q8 Q8 (q14 (fun (a_2 : (List GHop)) => qg3 g_0 a_2 = some r) [1, 5] (fun a_2 => ([(6, .osl 1 1 (0) (List.length (List.replicate (g_0.Nodes.length) ([] : List (List GHop))))), (7, .osl 2 11 (0) (a_2.length))], [(0, .box (Row.row g_0)), (1, .arr 1 (enc (List.replicate (g_0.Nodes.length) ([] : List (List GHop))))), (2, .arr 11 (enc a_2))])) 3 ?_ ?_)
  ·
   intro _ Q50; refine sM ?_; refine j3 fun _ Q52 => ?_; refine u6 h [1, 5, 40, 41] (fun x => ([(6, .osl 1 1 (0) (List.length (List.replicate (g_0.Nodes.length) ([] : List (List GHop))))), (7, .osl 2 11 (0) (x.2.length)), (42, .v (.int .i64 x.1))], [(0, .box (Row.row g_0)), (1, .arr 1 (enc (List.replicate (g_0.Nodes.length) ([] : List (List GHop))))), (2, .arr 11 (enc x.2))])) 3 ?_; rintro m_6 ⟨t42_3, a_84⟩ h _ Q53; rw [qg4] at h; refine sM ?_; refine sg fun _ Q55 => ?_; refine sB h (fun _ h => ?_) fun _ h => ?_
   ·
    refine j4 (q8 Q55 (sg fun _ Q56 => ?_)); refine j3 fun _ Q57 => ?_; refine sg fun _ Q58 => ?_; obtain ⟨xv_316, F, h⟩ := bI F h; simp only [go_sem, F]; refine ai ?_; refine q8 Q58 ?_; simp only [go_sem]; refine q15 h fun v_174 h => ?_; obtain ⟨xv_317, F, h⟩ := bI F h; have rf_103 : (enc a_84).set (t42_3.toNat) [.v (.int .i64 v_174.From), .v (.int .i64 v_174.Keep), .v (.int .i64 v_174.Tail), .v (.int .i64 v_174.Add.a0), .v (.int .i64 v_174.Add.a1), .v (.int .i64 v_174.Add.a2), .v (.int .i64 v_174.Add.a3), .v (.int .i64 v_174.T.a0), .v (.int .i64 v_174.T.a1), .v (.int .i64 v_174.T.a2), .v (.int .i64 v_174.T.a3)] = enc (List.set a_84 (t42_3.toNat) v_174) := by exact q2v _ _ _
    simp only [go_sem, rf_103, F]; refine ai ?_; exact au
   · exact au
  ·
   rintro a_2 h
   try dsimp only at h
   rw [qg3] at h; refine jg fun _ Q9 => ?_; refine sM ?_; refine j3 fun _ Q11 => ?_; refine u6 h [1, 5, 7, 55] (fun x => ([(6, .osl 1 1 (0) (x.2.length)), (56, .v (.int .i64 x.1))], [(0, .box (Row.row g_0)), (1, .arr 1 (enc x.2)), (2, .arr 11 (enc a_2))])) 3 ?_; rintro m_2 ⟨t56_1, a_56⟩ h _ Q12; rw [qg6] at h; refine sM ?_; refine sg fun _ Q14 => ?_; refine sB h (fun _ h => ?_) fun _ h => ?_
   ·
    refine j4 (q8 Q14 (jg fun _ Q15 => ?_)); refine j3 fun _ Q16 => ?_; refine sM ?_; refine sg fun _ Q18 => ?_; obtain ⟨F, h⟩ := bG F h; have rf_69 : List.replicate (g_0.Nodes.length) [.sl 11 (enc ([] : List GHop))] = enc (List.replicate (g_0.Nodes.length) ([] : List GHop)) := by (simp [enc, q9u, q8f, q5o, q1p]; exact .inr rfl)
    have rf_69n := rf_69; simp only [q1p] at rf_69n; simp only [go_sem, F]; refine ai ?_; simp only [rf_69n, rf_69]; refine q8 Q18 (sg fun _ Q19 => ?_); simp only [go_sem]; refine q15 h fun v_116 h => ?_; simp only [go_sem]; refine q15 h fun v_117 h => ?_; simp only [go_sem]; refine q8 Q19 (sg fun _ Q20 => ?_); have rf_70 : [[.v (.int .i64 v_117.1.From), .v (.int .i64 v_117.1.Keep), .v (.int .i64 v_117.1.Tail), .v (.int .i64 v_117.1.Add.a0), .v (.int .i64 v_117.1.Add.a1), .v (.int .i64 v_117.1.Add.a2), .v (.int .i64 v_117.1.Add.a3), .v (.int .i64 v_117.1.T.a0), .v (.int .i64 v_117.1.T.a1), .v (.int .i64 v_117.1.T.a2), .v (.int .i64 v_117.1.T.a3)]] = enc ([v_117.1] : List GHop) := by rfl
    obtain ⟨xv_210, F, h⟩ := bI F h; have rf_71 : (enc (List.replicate (g_0.Nodes.length) ([] : List GHop))).set (t56_1.toNat) [.sl 11 (enc ([v_117.1] : List GHop))] = enc (List.set (List.replicate (g_0.Nodes.length) ([] : List GHop)) (t56_1.toNat) ([v_117.1] : List GHop)) := by exact q2v _ _ _
    simp only [go_sem, rf_71, F]; refine And.intro (by first | omega | (intros; simp_all; done)) ?_; refine And.intro (by first | omega | (intros; simp_all; done)) ?_; simp only [rf_70]; refine q8 Q20 (jg fun _ Q21 => ?_); refine sM ?_; refine j3 fun _ Q23 => ?_; refine u6 h [1, 5, 6, 7, 10, 55, 56] (fun x => ([(11, .osl 3 1 (0) (x.2.length)), (14, .v (.bool x.1))], [(0, .box (Row.row g_0)), (1, .arr 1 (enc a_56)), (2, .arr 11 (enc a_2)), (3, .arr 1 (enc x.2))])) 4 ?_; rintro m_3 ⟨more_69, a_74⟩ h _ Q24; rw [qg5] at h; refine sg fun _ Q25 => ?_; refine sM ?_; refine sB h (fun _ h => ?_) fun _ h => ?_
    ·
     refine j4 (q8 Q25 (j3 fun _ Q27 => ?_)); refine sM ?_; refine sM ?_; refine j3 fun _ Q30 => ?_; refine u6 h [1, 5, 6, 7, 10, 55, 56, 75, 76] (fun x => ([(11, .osl 3 1 (0) (x.2.2.length)), (14, .v (.bool x.1)), (77, .v (.int .i64 x.2.1))], [(0, .box (Row.row g_0)), (1, .arr 1 (enc a_56)), (2, .arr 11 (enc a_2)), (3, .arr 1 (enc x.2.2))])) 4 ?_; rintro m_4 ⟨more_75, t77_17, a_80⟩ h _ Q31; rw [q9b] at h; refine sM ?_; refine sg fun _ Q33 => ?_; refine sB h (fun _ h => ?_) fun _ h => ?_
     ·
      refine j4 (q8 Q33 (jg fun _ Q34 => ?_)); refine j3 fun _ Q35 => ?_; refine sg fun _ Q36 => ?_; obtain ⟨xv_300, F, h⟩ := bI F h; simp only [go_sem, F]; refine ai ?_; refine q8 Q36 (sg fun _ Q37 => ?_); obtain ⟨xv_301, F, h⟩ := bI F h; simp only [go_sem, F]; refine ai ?_; refine q8 Q37 (j3 fun _ Q38 => ?_); refine u6 h [1, 5, 6, 7, 10, 15, 16, 55, 56, 75, 76, 77, 86, 87] (fun x => ([(11, .osl 3 1 (0) (x.2.2.length)), (14, .v (.bool x.1)), (88, .v (.int .i64 x.2.1))], [(0, .box (Row.row g_0)), (1, .arr 1 (enc a_56)), (2, .arr 11 (enc a_2)), (3, .arr 1 (enc x.2.2)), (4, .box (Row.row xv_300))])) 5 ?_; rintro m_5 ⟨more_77, t88_53, a_82⟩ h _ Q39; rw [q9a] at h; refine sM ?_; refine sg fun _ Q41 => ?_; refine sB h (fun _ h => ?_) fun _ h => ?_
      ·
       refine j4 (q8 Q41 (jg fun _ Q42 => ?_)); refine j3 fun _ Q43 => ?_; refine sg fun _ Q44 => ?_; obtain ⟨xv_308, F, h⟩ := bI F h; simp only [go_sem, F]; refine ai ?_; refine q8 Q44 (sg fun _ Q45 => ?_); refine x9 ?_; refine q27 11 0 0 [0, 0, 0, 6, 14, 31, 63, 127, 127, 0, 767, 2047] [6] [0, 1, 2, 3, 4, 5, 6, 7, 8] [] [9, 10] [] mixed (by kernel_rfl) (of_decide_eq_true (by kernel_rfl)) (by kernel_rfl) (by kernel_rfl) (by rfl) ?_; obtain ⟨xv_309, F, h⟩ := bI F h; obtain ⟨v_170, ev_170, h⟩ := z8 h; simp only [go_sem, F]; refine ai ?_; refine callq (fun _ => (zf1 xv_308 xv_309 v_170 ev_170)) (by rfl) (by rfl) ?_; simp only [go_sem]; refine q8 Q45 (sM ?_); refine sB h (fun _ h => ?_) fun _ h => ?_
       ·
        refine sg fun _ Q47 => ?_; refine x9 ?_; refine j83 ?_; obtain ⟨xv_310, F, h⟩ := bI F h; obtain ⟨v_171, ev_171, h⟩ := z8 h; simp only [go_sem, F]; refine ai ?_; refine callq (fun _ => (za4 xv_310 v_170.1 v_171 ev_171)) (by rfl) (by rfl) ?_; simp only [go_sem]; refine q8 Q47 (sg fun _ Q48 => ?_); have rf_99 : (enc a_82).set (xv_300.To.toNat) [.sl 11 (enc v_171.1)] = enc (List.set a_82 (xv_300.To.toNat) v_171.1) := by exact q2v _ _ _
        simp only [go_sem, rf_99, F]; refine ai ?_; exact au
       · exact au
      · exact au
     · exact au
    ·
     refine q0h (q1c Q25 (q0i Q24 (q0b Q23 (q8 Q21 ?_)))); obtain ⟨xv_311, F, h⟩ := bI F h; have rf_100 : (enc a_56).set (t56_1.toNat) [.sl 1 (enc a_74)] = enc (List.set a_56 (t56_1.toNat) a_74) := by exact q2v _ _ _
     simp only [go_sem, rf_100, F]; refine ai ?_; exact au
   · exact au
instance z8a (g_0 : GGraph) : Ct pp 11 (q8k g_0) [.agg (Row.row g_0)] fun r => (.sl 1 (enc r)) := ⟨fun r h => (z0e g_0  r h).pure leA⟩
end Go.Proofs.YtlpfoonihpdekaaGreat
