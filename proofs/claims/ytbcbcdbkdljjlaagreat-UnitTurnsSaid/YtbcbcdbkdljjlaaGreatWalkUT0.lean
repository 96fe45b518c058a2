/-
  What functions of the program compute, each told as a plain function that may give nothing, with the proof that the code does so. No condition beyond those that each theorem names.
-/
import Derived.Test.YtbcbcdbkdljjlaaGreatLibD
import Derived.Test.YtbcbcdbkdljjlaaGreatProg
import Derived.Test.YtbcbcdbkdljjlaaGreatLibI
set_option linter.unusedSimpArgs false
set_option linter.unusedVariables false
set_option linter.unusedSectionVars false
set_option maxHeartbeats 2000000
set_option maxRecDepth 100000
namespace Go.Proofs.YtbcbcdbkdljjlaaGreat
open Go Go.RowKit
open Go.IntKind (i64)
@[go_sem] theorem zq5 : (szT Tryz.prog 2 = 1) ∧ (q0j Tryz.prog 2 = true) ∧ (q0u Tryz.prog 2 = false) ∧ (q0h Tryz.prog 2 = 8) ∧ (qk0 Tryz.prog 2 = some .i64) ∧ (q0r Tryz.prog 2 = [none]) ∧ (q0s Tryz.prog 2 = none) ∧ (q0i Tryz.prog 2 = some [.int .i64 0]) ∧ (szT Tryz.prog 3 = 1) ∧ (q0j Tryz.prog 3 = true) ∧ (q0u Tryz.prog 3 = false) ∧ (q0h Tryz.prog 3 = 8) ∧ (qk0 Tryz.prog 3 = some .i64) ∧ (q0r Tryz.prog 3 = [none]) ∧ (q0s Tryz.prog 3 = none) ∧ (q0i Tryz.prog 3 = some [.int .i64 0]) ∧ (szT Tryz.prog 4 = 1) ∧ (q0j Tryz.prog 4 = true) ∧ (q0u Tryz.prog 4 = false) ∧ (q0h Tryz.prog 4 = 1) ∧ (Tryz.prog.underlying 4 = some .bool) ∧ (q0r Tryz.prog 4 = [none]) ∧ (q0s Tryz.prog 4 = none) ∧ (q0i Tryz.prog 4 = some [.bool false]) ∧ (szT Tryz.prog 22 = 1) ∧ (q0j Tryz.prog 22 = true) ∧ (q0u Tryz.prog 22 = false) ∧ (q0h Tryz.prog 22 = 24) ∧ (sliceT Tryz.prog 22 = some 3) ∧ (q0r Tryz.prog 22 = [some 1]) ∧ (q0s Tryz.prog 22 = none) ∧ (q0i Tryz.prog 22 = some [.slice none 0 0]) ∧ (szT Tryz.prog 23 = 1) ∧ (q0j Tryz.prog 23 = true) ∧ (q0u Tryz.prog 23 = false) ∧ (q0h Tryz.prog 23 = 24) ∧ (sliceT Tryz.prog 23 = some 86) ∧ (q0r Tryz.prog 23 = [some 4]) ∧ (q0s Tryz.prog 23 = none) ∧ (q0i Tryz.prog 23 = some [.slice none 0 0]) ∧ (szT Tryz.prog 24 = 1) ∧ (q0j Tryz.prog 24 = true) ∧ (q0u Tryz.prog 24 = false) ∧ (q0h Tryz.prog 24 = 24) ∧ (sliceT Tryz.prog 24 = some 81) ∧ (q0r Tryz.prog 24 = [some 4]) ∧ (q0s Tryz.prog 24 = none) ∧ (q0i Tryz.prog 24 = some [.slice none 0 0]) ∧ (szT Tryz.prog 26 = 4) ∧ (q0j Tryz.prog 26 = true) ∧ (q0u Tryz.prog 26 = true) ∧ (q0h Tryz.prog 26 = 96) ∧ (q0r Tryz.prog 26 = [some 1, some 1, some 4, some 4]) ∧ (q0s Tryz.prog 26 = none) ∧ (q0p Tryz.prog 26 0 = some (0, 22)) ∧ (q0p Tryz.prog 26 1 = some (1, 22)) ∧ (q0p Tryz.prog 26 2 = some (2, 23)) ∧ (q0p Tryz.prog 26 3 = some (3, 24)) ∧ (q2i Tryz.prog 26 = some [(0, 1), (1, 1), (2, 1), (3, 1)]) ∧ (q0i Tryz.prog 26 = some [.slice none 0 0, .slice none 0 0, .slice none 0 0, .slice none 0 0]) := by (repeat' apply And.intro) <;> kernel_rfl
@[go_sem] theorem zo8 : (szT Tryz.prog 27 = 1) ∧ (q0j Tryz.prog 27 = true) ∧ (q0u Tryz.prog 27 = false) ∧ (q0h Tryz.prog 27 = 24) ∧ (sliceT Tryz.prog 27 = some 88) ∧ (q0r Tryz.prog 27 = [some 1]) ∧ (q0s Tryz.prog 27 = none) ∧ (q0i Tryz.prog 27 = some [.slice none 0 0]) ∧ (szT Tryz.prog 28 = 2) ∧ (q0j Tryz.prog 28 = true) ∧ (q0u Tryz.prog 28 = true) ∧ (q0h Tryz.prog 28 = 16) ∧ (q0r Tryz.prog 28 = [none, none]) ∧ (q0s Tryz.prog 28 = some (2, 3)) ∧ (q2i Tryz.prog 28 = some [(0, 1), (1, 1)]) ∧ (q0i Tryz.prog 28 = some [.int .i64 0, .int .i64 0]) ∧ (szT Tryz.prog 29 = 1) ∧ (q0j Tryz.prog 29 = true) ∧ (q0u Tryz.prog 29 = false) ∧ (q0h Tryz.prog 29 = 24) ∧ (sliceT Tryz.prog 29 = some 37) ∧ (q0r Tryz.prog 29 = [some 1]) ∧ (q0s Tryz.prog 29 = none) ∧ (q0i Tryz.prog 29 = some [.slice none 0 0]) ∧ (szT Tryz.prog 31 = 10) ∧ (q0j Tryz.prog 31 = true) ∧ (q0u Tryz.prog 31 = true) ∧ (q0h Tryz.prog 31 = 112) ∧ (q0r Tryz.prog 31 = [none, some 1, none, none, none, none, none, some 1, none, none]) ∧ (q0s Tryz.prog 31 = none) ∧ (q0p Tryz.prog 31 0 = some (0, 3)) ∧ (q0p Tryz.prog 31 1 = some (1, 27)) ∧ (q0p Tryz.prog 31 2 = some (2, 3)) ∧ (q0p Tryz.prog 31 3 = some (3, 28)) ∧ (q0p Tryz.prog 31 4 = some (5, 28)) ∧ (q0p Tryz.prog 31 5 = some (7, 29)) ∧ (q0p Tryz.prog 31 6 = some (8, 3)) ∧ (q0p Tryz.prog 31 7 = some (9, 3)) ∧ (q2i Tryz.prog 31 = some [(0, 1), (1, 1), (2, 1), (3, 2), (5, 2), (7, 1), (8, 1), (9, 1)]) ∧ (q0i Tryz.prog 31 = some [.int .i64 0, .slice none 0 0, .int .i64 0, .int .i64 0, .int .i64 0, .int .i64 0, .int .i64 0, .slice none 0 0, .int .i64 0, .int .i64 0]) ∧ (szT Tryz.prog 37 = 1) ∧ (q0j Tryz.prog 37 = true) ∧ (q0u Tryz.prog 37 = false) ∧ (q0h Tryz.prog 37 = 24) ∧ (sliceT Tryz.prog 37 = some 41) ∧ (q0r Tryz.prog 37 = [some 5]) ∧ (q0s Tryz.prog 37 = none) ∧ (q0i Tryz.prog 37 = some [.slice none 0 0]) ∧ (szT Tryz.prog 39 = 4) ∧ (q0j Tryz.prog 39 = true) ∧ (q0u Tryz.prog 39 = true) ∧ (q0h Tryz.prog 39 = 32) ∧ (q0r Tryz.prog 39 = [none, none, none, none]) ∧ (q0s Tryz.prog 39 = some (4, 3)) ∧ (q2i Tryz.prog 39 = some [(0, 1), (1, 1), (2, 1), (3, 1)]) ∧ (q0i Tryz.prog 39 = some [.int .i64 0, .int .i64 0, .int .i64 0, .int .i64 0]) ∧ (szT Tryz.prog 41 = 5) ∧ (q0j Tryz.prog 41 = true) ∧ (q0u Tryz.prog 41 = true) ∧ (q0h Tryz.prog 41 = 40) := by (repeat' apply And.intro) <;> kernel_rfl
@[go_sem] theorem zo7 : (q0r Tryz.prog 41 = [none, none, none, none, none]) ∧ (q0s Tryz.prog 41 = none) ∧ (q0p Tryz.prog 41 0 = some (0, 3)) ∧ (q0p Tryz.prog 41 1 = some (1, 39)) ∧ (q2i Tryz.prog 41 = some [(0, 1), (1, 4)]) ∧ (q0i Tryz.prog 41 = some [.int .i64 0, .int .i64 0, .int .i64 0, .int .i64 0, .int .i64 0]) ∧ (szT Tryz.prog 43 = 2) ∧ (q0j Tryz.prog 43 = true) ∧ (q0u Tryz.prog 43 = true) ∧ (q0h Tryz.prog 43 = 16) ∧ (q0r Tryz.prog 43 = [none, none]) ∧ (q0s Tryz.prog 43 = none) ∧ (q0p Tryz.prog 43 0 = some (0, 2)) ∧ (q0p Tryz.prog 43 1 = some (1, 2)) ∧ (q2i Tryz.prog 43 = some [(0, 1), (1, 1)]) ∧ (q0i Tryz.prog 43 = some [.int .i64 0, .int .i64 0]) ∧ (szT Tryz.prog 45 = 10) ∧ (q0j Tryz.prog 45 = true) ∧ (q0u Tryz.prog 45 = true) ∧ (q0h Tryz.prog 45 = 80) ∧ (q0r Tryz.prog 45 = [none, none, none, none, none, none, none, none, none, none]) ∧ (q0s Tryz.prog 45 = none) ∧ (q0p Tryz.prog 45 0 = some (0, 3)) ∧ (q0p Tryz.prog 45 1 = some (1, 41)) ∧ (q0p Tryz.prog 45 2 = some (6, 43)) ∧ (q0p Tryz.prog 45 3 = some (8, 3)) ∧ (q0p Tryz.prog 45 4 = some (9, 3)) ∧ (q2i Tryz.prog 45 = some [(0, 1), (1, 5), (6, 2), (8, 1), (9, 1)]) ∧ (q0i Tryz.prog 45 = some [.int .i64 0, .int .i64 0, .int .i64 0, .int .i64 0, .int .i64 0, .int .i64 0, .int .i64 0, .int .i64 0, .int .i64 0, .int .i64 0]) ∧ (szT Tryz.prog 47 = 4) ∧ (q0j Tryz.prog 47 = true) ∧ (q0u Tryz.prog 47 = true) ∧ (q0h Tryz.prog 47 = 32) ∧ (q0r Tryz.prog 47 = [none, none, none, none]) ∧ (q0s Tryz.prog 47 = none) ∧ (q0p Tryz.prog 47 0 = some (0, 3)) ∧ (q0p Tryz.prog 47 1 = some (1, 3)) ∧ (q0p Tryz.prog 47 2 = some (2, 43)) ∧ (q2i Tryz.prog 47 = some [(0, 1), (1, 1), (2, 2)]) ∧ (q0i Tryz.prog 47 = some [.int .i64 0, .int .i64 0, .int .i64 0, .int .i64 0]) ∧ (szT Tryz.prog 61 = 6) ∧ (q0j Tryz.prog 61 = true) ∧ (q0u Tryz.prog 61 = true) ∧ (q0h Tryz.prog 61 = 48) ∧ (q0r Tryz.prog 61 = [none, none, none, none, none, none]) ∧ (q0s Tryz.prog 61 = none) ∧ (q0p Tryz.prog 61 0 = some (0, 3)) ∧ (q0p Tryz.prog 61 1 = some (1, 41)) ∧ (q2i Tryz.prog 61 = some [(0, 1), (1, 5)]) ∧ (q0i Tryz.prog 61 = some [.int .i64 0, .int .i64 0, .int .i64 0, .int .i64 0, .int .i64 0, .int .i64 0]) ∧ (szT Tryz.prog 68 = 1) ∧ (q0j Tryz.prog 68 = true) ∧ (q0u Tryz.prog 68 = false) ∧ (q0h Tryz.prog 68 = 24) ∧ (sliceT Tryz.prog 68 = some 61) ∧ (q0r Tryz.prog 68 = [some 6]) ∧ (q0s Tryz.prog 68 = none) ∧ (q0i Tryz.prog 68 = some [.slice none 0 0]) ∧ (szT Tryz.prog 75 = 1) ∧ (q0j Tryz.prog 75 = true) := by (repeat' apply And.intro) <;> kernel_rfl
@[go_sem] theorem zo6 : (q0u Tryz.prog 75 = false) ∧ (q0h Tryz.prog 75 = 24) ∧ (sliceT Tryz.prog 75 = some 79) ∧ (q0r Tryz.prog 75 = [some 11]) ∧ (q0s Tryz.prog 75 = none) ∧ (q0i Tryz.prog 75 = some [.slice none 0 0]) ∧ (szT Tryz.prog 79 = 11) ∧ (q0j Tryz.prog 79 = true) ∧ (q0u Tryz.prog 79 = true) ∧ (q0h Tryz.prog 79 = 88) ∧ (q0r Tryz.prog 79 = [none, none, none, none, none, none, none, none, none, none, none]) ∧ (q0s Tryz.prog 79 = none) ∧ (q0p Tryz.prog 79 0 = some (0, 3)) ∧ (q0p Tryz.prog 79 1 = some (1, 45)) ∧ (q2i Tryz.prog 79 = some [(0, 1), (1, 10)]) ∧ (q0i Tryz.prog 79 = some [.int .i64 0, .int .i64 0, .int .i64 0, .int .i64 0, .int .i64 0, .int .i64 0, .int .i64 0, .int .i64 0, .int .i64 0, .int .i64 0, .int .i64 0]) ∧ (szT Tryz.prog 81 = 4) ∧ (q0j Tryz.prog 81 = true) ∧ (q0u Tryz.prog 81 = true) ∧ (q0h Tryz.prog 81 = 32) ∧ (q0r Tryz.prog 81 = [none, none, none, none]) ∧ (q0s Tryz.prog 81 = none) ∧ (q0p Tryz.prog 81 0 = some (0, 3)) ∧ (q0p Tryz.prog 81 1 = some (1, 3)) ∧ (q0p Tryz.prog 81 2 = some (2, 3)) ∧ (q0p Tryz.prog 81 3 = some (3, 4)) ∧ (q2i Tryz.prog 81 = some [(0, 1), (1, 1), (2, 1), (3, 1)]) ∧ (q0i Tryz.prog 81 = some [.int .i64 0, .int .i64 0, .int .i64 0, .bool false]) ∧ (szT Tryz.prog 84 = 1) ∧ (q0j Tryz.prog 84 = true) ∧ (q0u Tryz.prog 84 = false) ∧ (q0h Tryz.prog 84 = 24) ∧ (sliceT Tryz.prog 84 = some 247) ∧ (q0r Tryz.prog 84 = [some 2]) ∧ (q0s Tryz.prog 84 = none) ∧ (q0i Tryz.prog 84 = some [.slice none 0 0]) ∧ (szT Tryz.prog 86 = 4) ∧ (q0j Tryz.prog 86 = true) ∧ (q0u Tryz.prog 86 = true) ∧ (q0h Tryz.prog 86 = 48) ∧ (q0r Tryz.prog 86 = [none, none, none, some 2]) ∧ (q0s Tryz.prog 86 = none) ∧ (q0p Tryz.prog 86 0 = some (0, 3)) ∧ (q0p Tryz.prog 86 1 = some (1, 3)) ∧ (q0p Tryz.prog 86 2 = some (2, 2)) ∧ (q0p Tryz.prog 86 3 = some (3, 84)) ∧ (q2i Tryz.prog 86 = some [(0, 1), (1, 1), (2, 1), (3, 1)]) ∧ (q0i Tryz.prog 86 = some [.int .i64 0, .int .i64 0, .int .i64 0, .slice none 0 0]) ∧ (szT Tryz.prog 87 = 1) ∧ (q0j Tryz.prog 87 = true) ∧ (q0u Tryz.prog 87 = false) ∧ (q0h Tryz.prog 87 = 8) ∧ (q0r Tryz.prog 87 = [none]) ∧ (q0s Tryz.prog 87 = none) ∧ (q0i Tryz.prog 87 = some [.nilFunc]) ∧ (szT Tryz.prog 88 = 1) ∧ (q0j Tryz.prog 88 = true) ∧ (q0u Tryz.prog 88 = false) ∧ (q0h Tryz.prog 88 = 24) ∧ (sliceT Tryz.prog 88 = some 157) := by (repeat' apply And.intro) <;> kernel_rfl
@[go_sem] theorem zo5 : (q0r Tryz.prog 88 = [some 10]) ∧ (q0s Tryz.prog 88 = none) ∧ (q0i Tryz.prog 88 = some [.slice none 0 0]) ∧ (szT Tryz.prog 91 = 1) ∧ (q0j Tryz.prog 91 = true) ∧ (q0u Tryz.prog 91 = false) ∧ (q0h Tryz.prog 91 = 8) ∧ (q0r Tryz.prog 91 = [none]) ∧ (q0s Tryz.prog 91 = none) ∧ (q0i Tryz.prog 91 = some [.nilFunc]) ∧ (szT Tryz.prog 109 = 3) ∧ (q0j Tryz.prog 109 = true) ∧ (q0u Tryz.prog 109 = true) ∧ (q0h Tryz.prog 109 = 24) ∧ (q0r Tryz.prog 109 = [none, none, none]) ∧ (q0s Tryz.prog 109 = none) ∧ (q0p Tryz.prog 109 0 = some (0, 43)) ∧ (q0p Tryz.prog 109 1 = some (2, 3)) ∧ (q2i Tryz.prog 109 = some [(0, 2), (2, 1)]) ∧ (q0i Tryz.prog 109 = some [.int .i64 0, .int .i64 0, .int .i64 0]) ∧ (szT Tryz.prog 110 = 1) ∧ (q0j Tryz.prog 110 = true) ∧ (q0u Tryz.prog 110 = false) ∧ (q0h Tryz.prog 110 = 24) ∧ (sliceT Tryz.prog 110 = some 109) ∧ (q0r Tryz.prog 110 = [some 3]) ∧ (q0s Tryz.prog 110 = none) ∧ (q0i Tryz.prog 110 = some [.slice none 0 0]) ∧ (szT Tryz.prog 137 = 1) ∧ (q0j Tryz.prog 137 = true) ∧ (q0u Tryz.prog 137 = false) ∧ (q0h Tryz.prog 137 = 24) ∧ (sliceT Tryz.prog 137 = some 4) ∧ (q0r Tryz.prog 137 = [some 1]) ∧ (q0s Tryz.prog 137 = none) ∧ (q0i Tryz.prog 137 = some [.slice none 0 0]) ∧ (szT Tryz.prog 145 = 1) ∧ (q0j Tryz.prog 145 = true) ∧ (q0u Tryz.prog 145 = false) ∧ (q0h Tryz.prog 145 = 8) ∧ (q0r Tryz.prog 145 = [none]) ∧ (q0s Tryz.prog 145 = none) ∧ (q0i Tryz.prog 145 = some [.pointer none]) ∧ (szT Tryz.prog 148 = 12) ∧ (q0j Tryz.prog 148 = true) ∧ (q0u Tryz.prog 148 = true) ∧ (q0h Tryz.prog 148 = 144) ∧ (q0r Tryz.prog 148 = [none, some 1, none, none, none, none, none, some 1, none, none, some 11, none]) ∧ (q0s Tryz.prog 148 = none) ∧ (q0p Tryz.prog 148 0 = some (0, 31)) ∧ (q0p Tryz.prog 148 1 = some (10, 75)) ∧ (q0p Tryz.prog 148 2 = some (11, 3)) ∧ (q2i Tryz.prog 148 = some [(0, 10), (10, 1), (11, 1)]) ∧ (q0i Tryz.prog 148 = some [.int .i64 0, .slice none 0 0, .int .i64 0, .int .i64 0, .int .i64 0, .int .i64 0, .int .i64 0, .slice none 0 0, .int .i64 0, .int .i64 0, .slice none 0 0, .int .i64 0]) ∧ (szT Tryz.prog 154 = 1) ∧ (q0j Tryz.prog 154 = true) ∧ (q0u Tryz.prog 154 = false) ∧ (q0h Tryz.prog 154 = 8) ∧ (q0r Tryz.prog 154 = [none]) ∧ (q0s Tryz.prog 154 = none) := by (repeat' apply And.intro) <;> kernel_rfl
@[go_sem] theorem zo4 : (q0i Tryz.prog 154 = some [.nilFunc]) ∧ (szT Tryz.prog 155 = 2) ∧ (q0j Tryz.prog 155 = true) ∧ (q0u Tryz.prog 155 = true) ∧ (q0h Tryz.prog 155 = 48) ∧ (q0r Tryz.prog 155 = [some 3, some 3]) ∧ (q0s Tryz.prog 155 = some (2, 110)) ∧ (q2i Tryz.prog 155 = some [(0, 1), (1, 1)]) ∧ (q0i Tryz.prog 155 = some [.slice none 0 0, .slice none 0 0]) ∧ (szT Tryz.prog 157 = 10) ∧ (q0j Tryz.prog 157 = true) ∧ (q0u Tryz.prog 157 = true) ∧ (q0h Tryz.prog 157 = 120) ∧ (q0r Tryz.prog 157 = [none, none, none, none, none, some 3, some 3, some 3, none, none]) ∧ (q0s Tryz.prog 157 = none) ∧ (q0p Tryz.prog 157 0 = some (0, 41)) ∧ (q0p Tryz.prog 157 1 = some (5, 155)) ∧ (q0p Tryz.prog 157 2 = some (7, 110)) ∧ (q0p Tryz.prog 157 3 = some (8, 4)) ∧ (q0p Tryz.prog 157 4 = some (9, 4)) ∧ (q2i Tryz.prog 157 = some [(0, 5), (5, 2), (7, 1), (8, 1), (9, 1)]) ∧ (q0i Tryz.prog 157 = some [.int .i64 0, .int .i64 0, .int .i64 0, .int .i64 0, .int .i64 0, .slice none 0 0, .slice none 0 0, .slice none 0 0, .bool false, .bool false]) ∧ (szT Tryz.prog 159 = 1) ∧ (q0j Tryz.prog 159 = true) ∧ (q0u Tryz.prog 159 = false) ∧ (q0h Tryz.prog 159 = 8) ∧ (q0r Tryz.prog 159 = [none]) ∧ (q0s Tryz.prog 159 = none) ∧ (q0i Tryz.prog 159 = some [.nilFunc]) ∧ (szT Tryz.prog 171 = 1) ∧ (q0j Tryz.prog 171 = true) ∧ (q0u Tryz.prog 171 = false) ∧ (q0h Tryz.prog 171 = 24) ∧ (sliceT Tryz.prog 171 = some 110) ∧ (q0r Tryz.prog 171 = [some 1]) ∧ (q0s Tryz.prog 171 = none) ∧ (q0i Tryz.prog 171 = some [.slice none 0 0]) ∧ (szT Tryz.prog 189 = 16) ∧ (q0j Tryz.prog 189 = true) ∧ (q0u Tryz.prog 189 = true) ∧ (q0h Tryz.prog 189 = 128) ∧ (q0r Tryz.prog 189 = [none, none, none, none, none, none, none, none, none, none, none, none, none, none, none, none]) ∧ (q0s Tryz.prog 189 = some (16, 3)) ∧ (q2i Tryz.prog 189 = some [(0, 1), (1, 1), (2, 1), (3, 1), (4, 1), (5, 1), (6, 1), (7, 1), (8, 1), (9, 1), (10, 1), (11, 1), (12, 1), (13, 1), (14, 1), (15, 1)]) ∧ (q0i Tryz.prog 189 = some [.int .i64 0, .int .i64 0, .int .i64 0, .int .i64 0, .int .i64 0, .int .i64 0, .int .i64 0, .int .i64 0, .int .i64 0, .int .i64 0, .int .i64 0, .int .i64 0, .int .i64 0, .int .i64 0, .int .i64 0, .int .i64 0]) ∧ (szT Tryz.prog 217 = 1) ∧ (q0j Tryz.prog 217 = true) ∧ (q0u Tryz.prog 217 = false) ∧ (q0h Tryz.prog 217 = 8) ∧ (q0r Tryz.prog 217 = [none]) ∧ (q0s Tryz.prog 217 = none) ∧ (q0i Tryz.prog 217 = some [.nilFunc]) ∧ (szT Tryz.prog 227 = 1) ∧ (q0j Tryz.prog 227 = true) ∧ (q0u Tryz.prog 227 = false) ∧ (q0h Tryz.prog 227 = 8) ∧ (q0r Tryz.prog 227 = [none]) ∧ (q0s Tryz.prog 227 = none) ∧ (q0i Tryz.prog 227 = some [.pointer none]) ∧ (szT Tryz.prog 229 = 2) := by (repeat' apply And.intro) <;> kernel_rfl
@[go_sem] theorem zo3 : (q0j Tryz.prog 229 = true) ∧ (q0u Tryz.prog 229 = true) ∧ (q0h Tryz.prog 229 = 32) ∧ (q0r Tryz.prog 229 = [some 3, none]) ∧ (q0s Tryz.prog 229 = none) ∧ (q0p Tryz.prog 229 0 = some (0, 110)) ∧ (q0p Tryz.prog 229 1 = some (1, 3)) ∧ (q2i Tryz.prog 229 = some [(0, 1), (1, 1)]) ∧ (q0i Tryz.prog 229 = some [.slice none 0 0, .int .i64 0]) ∧ (szT Tryz.prog 234 = 1) ∧ (q0j Tryz.prog 234 = true) ∧ (q0u Tryz.prog 234 = false) ∧ (q0h Tryz.prog 234 = 24) ∧ (sliceT Tryz.prog 234 = some 43) ∧ (q0r Tryz.prog 234 = [some 2]) ∧ (q0s Tryz.prog 234 = none) ∧ (q0i Tryz.prog 234 = some [.slice none 0 0]) ∧ (szT Tryz.prog 247 = 2) ∧ (q0j Tryz.prog 247 = true) ∧ (q0u Tryz.prog 247 = true) ∧ (q0h Tryz.prog 247 = 16) ∧ (q0r Tryz.prog 247 = [none, none]) ∧ (q0s Tryz.prog 247 = none) ∧ (q0p Tryz.prog 247 0 = some (0, 3)) ∧ (q0p Tryz.prog 247 1 = some (1, 2)) ∧ (q2i Tryz.prog 247 = some [(0, 1), (1, 1)]) ∧ (q0i Tryz.prog 247 = some [.int .i64 0, .int .i64 0]) ∧ (szT Tryz.prog 249 = 1) ∧ (q0j Tryz.prog 249 = true) ∧ (q0u Tryz.prog 249 = false) ∧ (q0h Tryz.prog 249 = 8) ∧ (q0r Tryz.prog 249 = [none]) ∧ (q0s Tryz.prog 249 = none) ∧ (q0i Tryz.prog 249 = some [.nilFunc]) ∧ (szT Tryz.prog 256 = 1) ∧ (q0j Tryz.prog 256 = true) ∧ (q0u Tryz.prog 256 = false) ∧ (q0h Tryz.prog 256 = 8) ∧ (qk0 Tryz.prog 256 = some .u64) ∧ (q0r Tryz.prog 256 = [none]) ∧ (q0s Tryz.prog 256 = none) ∧ (q0i Tryz.prog 256 = some [.int .u64 0]) ∧ (szT Tryz.prog 275 = 1) ∧ (q0j Tryz.prog 275 = true) ∧ (q0u Tryz.prog 275 = false) ∧ (q0h Tryz.prog 275 = 8) ∧ (q0r Tryz.prog 275 = [none]) ∧ (q0s Tryz.prog 275 = none) ∧ (q0i Tryz.prog 275 = some [.nilFunc]) ∧ (q02 Tryz.prog 3 = true) ∧ (q02 Tryz.prog 4 = true) ∧ (q02 Tryz.prog 8 = true) ∧ (q02 Tryz.prog 9 = true) ∧ (q02 Tryz.prog 10 = true) ∧ (q02 Tryz.prog 11 = true) ∧ (q02 Tryz.prog 12 = true) ∧ (q02 Tryz.prog 13 = true) ∧ (q02 Tryz.prog 14 = true) ∧ (q02 Tryz.prog 15 = true) ∧ (q02 Tryz.prog 16 = true) := by (repeat' apply And.intro) <;> kernel_rfl
@[go_sem] theorem zo2 : (q02 Tryz.prog 17 = true) ∧ (q02 Tryz.prog 18 = true) ∧ (q02 Tryz.prog 19 = true) ∧ (q02 Tryz.prog 20 = true) ∧ (q02 Tryz.prog 21 = true) ∧ (q02 Tryz.prog 25 = true) ∧ (q02 Tryz.prog 28 = true) ∧ (q02 Tryz.prog 30 = true) ∧ (q02 Tryz.prog 33 = true) ∧ (q02 Tryz.prog 34 = true) ∧ (q02 Tryz.prog 35 = true) ∧ (q02 Tryz.prog 36 = true) ∧ (q02 Tryz.prog 37 = true) ∧ (q02 Tryz.prog 38 = true) ∧ (q02 Tryz.prog 39 = true) ∧ (q02 Tryz.prog 40 = true) ∧ (q02 Tryz.prog 41 = true) ∧ (q02 Tryz.prog 42 = true) ∧ (q02 Tryz.prog 43 = true) ∧ (q02 Tryz.prog 44 = true) ∧ (q02 Tryz.prog 45 = true) ∧ (q02 Tryz.prog 46 = true) ∧ (q02 Tryz.prog 47 = true) ∧ (q02 Tryz.prog 48 = true) ∧ (q02 Tryz.prog 55 = true) ∧ (q02 Tryz.prog 57 = true) ∧ (q02 Tryz.prog 60 = true) ∧ (q02 Tryz.prog 64 = true) ∧ (q02 Tryz.prog 68 = true) ∧ (q02 Tryz.prog 69 = true) ∧ (q02 Tryz.prog 70 = true) ∧ (q02 Tryz.prog 71 = true) ∧ (q02 Tryz.prog 72 = true) ∧ (q02 Tryz.prog 79 = true) ∧ (q02 Tryz.prog 80 = true) ∧ (q02 Tryz.prog 81 = true) ∧ (q02 Tryz.prog 82 = true) ∧ (q02 Tryz.prog 83 = true) ∧ (q02 Tryz.prog 84 = true) ∧ (q02 Tryz.prog 85 = true) ∧ (q02 Tryz.prog 86 = true) ∧ (q02 Tryz.prog 87 = true) ∧ (q02 Tryz.prog 88 = true) ∧ (q02 Tryz.prog 89 = true) ∧ (q02 Tryz.prog 90 = true) ∧ (q02 Tryz.prog 91 = true) ∧ (q02 Tryz.prog 92 = true) ∧ (q02 Tryz.prog 93 = true) ∧ (q02 Tryz.prog 94 = true) ∧ (q02 Tryz.prog 95 = true) ∧ (q02 Tryz.prog 96 = true) ∧ (q02 Tryz.prog 97 = true) ∧ (q02 Tryz.prog 98 = true) ∧ (q02 Tryz.prog 99 = true) ∧ (q02 Tryz.prog 100 = true) ∧ (q02 Tryz.prog 101 = true) ∧ (q02 Tryz.prog 104 = true) ∧ (q02 Tryz.prog 109 = true) ∧ (q02 Tryz.prog 116 = true) ∧ (q02 Tryz.prog 126 = true) := by (repeat' apply And.intro) <;> kernel_rfl
@[go_sem] theorem zo1 : (q02 Tryz.prog 127 = true) ∧ (q02 Tryz.prog 128 = true) ∧ (q02 Tryz.prog 132 = true) ∧ (q02 Tryz.prog 133 = true) ∧ (q02 Tryz.prog 134 = true) ∧ (q02 Tryz.prog 135 = true) ∧ (q02 Tryz.prog 141 = true) ∧ (q02 Tryz.prog 142 = true) ∧ (q02 Tryz.prog 143 = true) ∧ (q02 Tryz.prog 144 = true) ∧ (q02 Tryz.prog 145 = true) ∧ (q02 Tryz.prog 146 = true) ∧ (q02 Tryz.prog 147 = true) ∧ (q02 Tryz.prog 148 = true) ∧ (q02 Tryz.prog 149 = true) ∧ (q02 Tryz.prog 150 = true) ∧ (q02 Tryz.prog 151 = true) ∧ (q02 Tryz.prog 152 = true) ∧ (q02 Tryz.prog 153 = true) ∧ (q02 Tryz.prog 154 = true) ∧ (q02 Tryz.prog 155 = true) ∧ (q02 Tryz.prog 156 = true) ∧ (q02 Tryz.prog 157 = true) ∧ (q02 Tryz.prog 158 = true) ∧ (q02 Tryz.prog 159 = true) ∧ (q02 Tryz.prog 160 = true) ∧ (q02 Tryz.prog 161 = true) ∧ (q02 Tryz.prog 162 = true) ∧ (q02 Tryz.prog 163 = true) ∧ (q02 Tryz.prog 164 = true) ∧ (q02 Tryz.prog 165 = true) ∧ (q02 Tryz.prog 166 = true) ∧ (q02 Tryz.prog 167 = true) ∧ (q02 Tryz.prog 169 = true) ∧ (q02 Tryz.prog 172 = true) ∧ (q02 Tryz.prog 173 = true) ∧ (q02 Tryz.prog 174 = true) ∧ (q02 Tryz.prog 175 = true) ∧ (q02 Tryz.prog 176 = true) ∧ (q02 Tryz.prog 177 = true) ∧ (q02 Tryz.prog 178 = true) ∧ (q02 Tryz.prog 179 = true) ∧ (q02 Tryz.prog 195 = true) ∧ (q02 Tryz.prog 196 = true) ∧ (q02 Tryz.prog 197 = true) ∧ (q02 Tryz.prog 198 = true) ∧ (q02 Tryz.prog 199 = true) ∧ (q02 Tryz.prog 200 = true) ∧ (q02 Tryz.prog 201 = true) ∧ (q02 Tryz.prog 202 = true) ∧ (q02 Tryz.prog 203 = true) ∧ (q02 Tryz.prog 204 = true) ∧ (q02 Tryz.prog 205 = true) ∧ (q02 Tryz.prog 206 = true) ∧ (q02 Tryz.prog 211 = true) ∧ (q02 Tryz.prog 212 = true) ∧ (q02 Tryz.prog 213 = true) ∧ (q02 Tryz.prog 216 = true) ∧ (q02 Tryz.prog 229 = true) ∧ (q02 Tryz.prog 232 = true) := by (repeat' apply And.intro) <;> kernel_rfl
@[go_sem] theorem zo0 : (q02 Tryz.prog 233 = true) ∧ (q02 Tryz.prog 234 = true) ∧ (q02 Tryz.prog 235 = true) ∧ (q02 Tryz.prog 236 = true) ∧ (q02 Tryz.prog 244 = true) := by (repeat' apply And.intro) <;> kernel_rfl
theorem mixed : Tryz.prog.follows .mixedOrders = true := by kernel_rfl
structure Arr2 (α : Type) where
 a0 : α
 a1 : α
instance {α : Type} [Row α] : Row (Arr2 α) := ⟨Row.sz α + Row.sz α, fun x => Row.row x.a0 ++ Row.row x.a1⟩
instance {α : Type} [Dat α] : Dat (Arr2 α) where
 ct := Dat.ct α ++ (Dat.ct α)
 ok x := Dat.ok x.a0 ∧ Dat.ok x.a1
 len := by simp only [List.length_append, Dat.len]; (try simp only [Row.sz]); (try omega)
 of avs h := by
  obtain ⟨b0, r0, rfl, h0, g0⟩ := q0d h; obtain ⟨x0, rfl, k0⟩ := Dat.of (α := α) _ h0; obtain ⟨x1, rfl, k1⟩ := Dat.of (α := α) _ g0; exact ⟨⟨x0, x1⟩, by simp only [Row.row, List.append_assoc], k0, k1⟩
structure Arr4 (α : Type) where
 a0 : α
 a1 : α
 a2 : α
 a3 : α
instance {α : Type} [Row α] : Row (Arr4 α) := ⟨Row.sz α + Row.sz α + Row.sz α + Row.sz α, fun x => Row.row x.a0 ++ Row.row x.a1 ++ Row.row x.a2 ++ Row.row x.a3⟩
instance {α : Type} [Dat α] : Dat (Arr4 α) where
 ct := Dat.ct α ++ (Dat.ct α ++ (Dat.ct α ++ (Dat.ct α)))
 ok x := Dat.ok x.a0 ∧ Dat.ok x.a1 ∧ Dat.ok x.a2 ∧ Dat.ok x.a3
 len := by simp only [List.length_append, Dat.len]; (try simp only [Row.sz]); (try omega)
 of avs h := by
  obtain ⟨b0, r0, rfl, h0, g0⟩ := q0d h; obtain ⟨b1, r1, rfl, h1, g1⟩ := q0d g0; obtain ⟨b2, r2, rfl, h2, g2⟩ := q0d g1; obtain ⟨x0, rfl, k0⟩ := Dat.of (α := α) _ h0; obtain ⟨x1, rfl, k1⟩ := Dat.of (α := α) _ h1; obtain ⟨x2, rfl, k2⟩ := Dat.of (α := α) _ h2; obtain ⟨x3, rfl, k3⟩ := Dat.of (α := α) _ g2; exact ⟨⟨x0, x1, x2, x3⟩, by simp only [Row.row, List.append_assoc], k0, k1, k2, k3⟩
structure Nu64 where
 n : Int
instance : Row Nu64 := ⟨1, fun x => [.v (.int .u64 x.n)]⟩
@[go_sem] theorem zp6 (x : Nu64) : Row.row x = [.v (.int .u64 x.n)] := rfl
instance : Dat Nu64 where
 ct := [.int .u64]
 ok x := inI .u64 x.n
 len := rfl
 of avs h := by
  simp only [q1y, qn4] at h; obtain ⟨_, _, rfl, ⟨n, rfl, hw⟩, rfl⟩ := h; exact ⟨⟨n⟩, rfl, hw⟩
structure GIns where
 Op : Int
 N : Int
instance : Row GIns := ⟨2, fun x => [.v (.int .i64 x.Op), .v (.int .i64 x.N)]⟩
@[go_sem] theorem zp9 (x : GIns) : Row.row x = [.v (.int .i64 x.Op), .v (.int .i64 x.N)] := rfl
@[go_sem] theorem zq8 : Row.sz GIns = 2 := rfl
instance : Dat GIns where
 ct := Dat.ct Int ++ (Dat.ct Int)
 ok x := Dat.ok x.Op ∧ Dat.ok x.N
 len := rfl
 of avs h := by
  obtain ⟨b0, r0, rfl, h0, g0⟩ := q0d h; obtain ⟨x0, rfl, k0⟩ := Dat.of (α := Int) _ h0; obtain ⟨x1, rfl, k1⟩ := Dat.of (α := Int) _ g0; exact ⟨⟨x0, x1⟩, rfl, k0, k1⟩
structure GNode where
 Kind : Int
 Scope : Int
 Arg : Int
 Prog : List GIns
instance : Row GNode := ⟨4, fun x => [.v (.int .i64 x.Kind), .v (.int .i64 x.Scope), .v (.int .i64 x.Arg), .sl 2 (enc x.Prog)]⟩
@[go_sem] theorem zn4 (x : GNode) : Row.row x = [.v (.int .i64 x.Kind), .v (.int .i64 x.Scope), .v (.int .i64 x.Arg), .sl 2 (enc x.Prog)] := rfl
@[go_sem] theorem zp2 : Row.sz GNode = 4 := rfl
instance : Dat GNode where
 ct := Dat.ct Int ++ (Dat.ct Int ++ (Dat.ct Int ++ (Dat.ct (List GIns))))
 ok x := Dat.ok x.Kind ∧ Dat.ok x.Scope ∧ Dat.ok x.Arg ∧ Dat.ok x.Prog
 len := rfl
 of avs h := by
  obtain ⟨b0, r0, rfl, h0, g0⟩ := q0d h; obtain ⟨b1, r1, rfl, h1, g1⟩ := q0d g0; obtain ⟨b2, r2, rfl, h2, g2⟩ := q0d g1; obtain ⟨x0, rfl, k0⟩ := Dat.of (α := Int) _ h0; obtain ⟨x1, rfl, k1⟩ := Dat.of (α := Int) _ h1; obtain ⟨x2, rfl, k2⟩ := Dat.of (α := Int) _ h2; obtain ⟨x3, rfl, k3⟩ := Dat.of (α := List GIns) _ g2; exact ⟨⟨x0, x1, x2, x3⟩, rfl, k0, k1, k2, k3⟩
structure GEdge where
 From : Int
 To : Int
 Port : Int
 Exchange : Bool
instance : Row GEdge := ⟨4, fun x => [.v (.int .i64 x.From), .v (.int .i64 x.To), .v (.int .i64 x.Port), .v (.bool x.Exchange)]⟩
@[go_sem] theorem zn7 (x : GEdge) : Row.row x = [.v (.int .i64 x.From), .v (.int .i64 x.To), .v (.int .i64 x.Port), .v (.bool x.Exchange)] := rfl
@[go_sem] theorem zp5 : Row.sz GEdge = 4 := rfl
instance : Dat GEdge where
 ct := Dat.ct Int ++ (Dat.ct Int ++ (Dat.ct Int ++ (Dat.ct Bool)))
 ok x := Dat.ok x.From ∧ Dat.ok x.To ∧ Dat.ok x.Port ∧ Dat.ok x.Exchange
 len := rfl
 of avs h := by
  obtain ⟨b0, r0, rfl, h0, g0⟩ := q0d h; obtain ⟨b1, r1, rfl, h1, g1⟩ := q0d g0; obtain ⟨b2, r2, rfl, h2, g2⟩ := q0d g1; obtain ⟨x0, rfl, k0⟩ := Dat.of (α := Int) _ h0; obtain ⟨x1, rfl, k1⟩ := Dat.of (α := Int) _ h1; obtain ⟨x2, rfl, k2⟩ := Dat.of (α := Int) _ h2; obtain ⟨x3, rfl, k3⟩ := Dat.of (α := Bool) _ g2; exact ⟨⟨x0, x1, x2, x3⟩, rfl, k0, k1, k2, k3⟩
structure GGraph where
 Parent : List Int
 Bound : List Int
 Nodes : List GNode
 Edges : List GEdge
instance : Row GGraph := ⟨4, fun x => [.sl 1 (enc x.Parent), .sl 1 (enc x.Bound), .sl 4 (enc x.Nodes), .sl 4 (enc x.Edges)]⟩
@[go_sem] theorem zm0 (x : GGraph) : Row.row x = [.sl 1 (enc x.Parent), .sl 1 (enc x.Bound), .sl 4 (enc x.Nodes), .sl 4 (enc x.Edges)] := rfl
@[go_sem] theorem zn0 : Row.sz GGraph = 4 := rfl
instance : Dat GGraph where
 ct := Dat.ct (List Int) ++ (Dat.ct (List Int) ++ (Dat.ct (List GNode) ++ (Dat.ct (List GEdge))))
 ok x := Dat.ok x.Parent ∧ Dat.ok x.Bound ∧ Dat.ok x.Nodes ∧ Dat.ok x.Edges
 len := rfl
 of avs h := by
  obtain ⟨b0, r0, rfl, h0, g0⟩ := q0d h; obtain ⟨b1, r1, rfl, h1, g1⟩ := q0d g0; obtain ⟨b2, r2, rfl, h2, g2⟩ := q0d g1; obtain ⟨x0, rfl, k0⟩ := Dat.of (α := List Int) _ h0; obtain ⟨x1, rfl, k1⟩ := Dat.of (α := List Int) _ h1; obtain ⟨x2, rfl, k2⟩ := Dat.of (α := List GNode) _ h2; obtain ⟨x3, rfl, k3⟩ := Dat.of (α := List GEdge) _ g2; exact ⟨⟨x0, x1, x2, x3⟩, rfl, k0, k1, k2, k3⟩
structure GTime where
 D : Int
 C : Arr4 Int
instance : Row GTime := ⟨5, fun x => [.v (.int .i64 x.D), .v (.int .i64 x.C.a0), .v (.int .i64 x.C.a1), .v (.int .i64 x.C.a2), .v (.int .i64 x.C.a3)]⟩
@[go_sem] theorem zn2 (x : GTime) : Row.row x = [.v (.int .i64 x.D), .v (.int .i64 x.C.a0), .v (.int .i64 x.C.a1), .v (.int .i64 x.C.a2), .v (.int .i64 x.C.a3)] := rfl
@[go_sem] theorem zp0 : Row.sz GTime = 5 := rfl
instance : Dat GTime where
 ct := Dat.ct Int ++ (Dat.ct (Arr4 Int))
 ok x := Dat.ok x.D ∧ Dat.ok x.C
 len := rfl
 of avs h := by
  obtain ⟨b0, r0, rfl, h0, g0⟩ := q0d h; obtain ⟨x0, rfl, k0⟩ := Dat.of (α := Int) _ h0; obtain ⟨x1, rfl, k1⟩ := Dat.of (α := Arr4 Int) _ g0; exact ⟨⟨x0, x1⟩, rfl, k0, k1⟩
structure GRec where
 K : Int
 V : Int
instance : Row GRec := ⟨2, fun x => [.v (.int .i64 x.K), .v (.int .i64 x.V)]⟩
@[go_sem] theorem zp7 (x : GRec) : Row.row x = [.v (.int .i64 x.K), .v (.int .i64 x.V)] := rfl
@[go_sem] theorem zq6 : Row.sz GRec = 2 := rfl
instance : Dat GRec where
 ct := Dat.ct Int ++ (Dat.ct Int)
 ok x := Dat.ok x.K ∧ Dat.ok x.V
 len := rfl
 of avs h := by
  obtain ⟨b0, r0, rfl, h0, g0⟩ := q0d h; obtain ⟨x0, rfl, k0⟩ := Dat.of (α := Int) _ h0; obtain ⟨x1, rfl, k1⟩ := Dat.of (α := Int) _ g0; exact ⟨⟨x0, x1⟩, rfl, k0, k1⟩
structure GItem where
 Rec : GRec
 N : Int
instance : Row GItem := ⟨3, fun x => [.v (.int .i64 x.Rec.K), .v (.int .i64 x.Rec.V), .v (.int .i64 x.N)]⟩
@[go_sem] theorem zn5 (x : GItem) : Row.row x = [.v (.int .i64 x.Rec.K), .v (.int .i64 x.Rec.V), .v (.int .i64 x.N)] := rfl
@[go_sem] theorem zp3 : Row.sz GItem = 3 := rfl
instance : Dat GItem where
 ct := Dat.ct GRec ++ (Dat.ct Int)
 ok x := Dat.ok x.Rec ∧ Dat.ok x.N
 len := rfl
 of avs h := by
  obtain ⟨b0, r0, rfl, h0, g0⟩ := q0d h; obtain ⟨x0, rfl, k0⟩ := Dat.of (α := GRec) _ h0; obtain ⟨x1, rfl, k1⟩ := Dat.of (α := Int) _ g0; exact ⟨⟨x0, x1⟩, rfl, k0, k1⟩
structure GSlot where
 Time : GTime
 In : Arr2 (List GItem)
 Sent : List GItem
 Dirty : Bool
 Fired : Bool
instance : Row GSlot := ⟨10, fun x => [.v (.int .i64 x.Time.D), .v (.int .i64 x.Time.C.a0), .v (.int .i64 x.Time.C.a1), .v (.int .i64 x.Time.C.a2), .v (.int .i64 x.Time.C.a3), .sl 3 (enc x.In.a0), .sl 3 (enc x.In.a1), .sl 3 (enc x.Sent), .v (.bool x.Dirty), .v (.bool x.Fired)]⟩
@[go_sem] theorem zn3 (x : GSlot) : Row.row x = [.v (.int .i64 x.Time.D), .v (.int .i64 x.Time.C.a0), .v (.int .i64 x.Time.C.a1), .v (.int .i64 x.Time.C.a2), .v (.int .i64 x.Time.C.a3), .sl 3 (enc x.In.a0), .sl 3 (enc x.In.a1), .sl 3 (enc x.Sent), .v (.bool x.Dirty), .v (.bool x.Fired)] := rfl
@[go_sem] theorem zp1 : Row.sz GSlot = 10 := rfl
instance : Dat GSlot where
 ct := Dat.ct GTime ++ (Dat.ct (Arr2 (List GItem)) ++ (Dat.ct (List GItem) ++ (Dat.ct Bool ++ (Dat.ct Bool))))
 ok x := Dat.ok x.Time ∧ Dat.ok x.In ∧ Dat.ok x.Sent ∧ Dat.ok x.Dirty ∧ Dat.ok x.Fired
 len := rfl
 of avs h := by
  obtain ⟨b0, r0, rfl, h0, g0⟩ := q0d h; obtain ⟨b1, r1, rfl, h1, g1⟩ := q0d g0; obtain ⟨b2, r2, rfl, h2, g2⟩ := q0d g1; obtain ⟨b3, r3, rfl, h3, g3⟩ := q0d g2; obtain ⟨x0, rfl, k0⟩ := Dat.of (α := GTime) _ h0; obtain ⟨x1, rfl, k1⟩ := Dat.of (α := Arr2 (List GItem)) _ h1; obtain ⟨x2, rfl, k2⟩ := Dat.of (α := List GItem) _ h2; obtain ⟨x3, rfl, k3⟩ := Dat.of (α := Bool) _ h3; obtain ⟨x4, rfl, k4⟩ := Dat.of (α := Bool) _ g3; exact ⟨⟨x0, x1, x2, x3, x4⟩, rfl, k0, k1, k2, k3, k4⟩
structure GUnit where
 ID : Int
 Cells : List (List GSlot)
 Colour : Int
 Sent : Arr2 Int
 Got : Arr2 Int
 Red : List (List GTime)
 Late : Int
 Backs : Int
instance : Row GUnit := ⟨10, fun x => [.v (.int .i64 x.ID), .sl 1 (enc x.Cells), .v (.int .i64 x.Colour), .v (.int .i64 x.Sent.a0), .v (.int .i64 x.Sent.a1), .v (.int .i64 x.Got.a0), .v (.int .i64 x.Got.a1), .sl 1 (enc x.Red), .v (.int .i64 x.Late), .v (.int .i64 x.Backs)]⟩
@[go_sem] theorem zn1 (x : GUnit) : Row.row x = [.v (.int .i64 x.ID), .sl 1 (enc x.Cells), .v (.int .i64 x.Colour), .v (.int .i64 x.Sent.a0), .v (.int .i64 x.Sent.a1), .v (.int .i64 x.Got.a0), .v (.int .i64 x.Got.a1), .sl 1 (enc x.Red), .v (.int .i64 x.Late), .v (.int .i64 x.Backs)] := rfl
@[go_sem] theorem zo9 : Row.sz GUnit = 10 := rfl
instance : Dat GUnit where
 ct := Dat.ct Int ++ (Dat.ct (List (List GSlot)) ++ (Dat.ct Int ++ (Dat.ct (Arr2 Int) ++ (Dat.ct (Arr2 Int) ++ (Dat.ct (List (List GTime)) ++ (Dat.ct Int ++ (Dat.ct Int)))))))
 ok x := Dat.ok x.ID ∧ Dat.ok x.Cells ∧ Dat.ok x.Colour ∧ Dat.ok x.Sent ∧ Dat.ok x.Got ∧ Dat.ok x.Red ∧ Dat.ok x.Late ∧ Dat.ok x.Backs
 len := rfl
 of avs h := by
  obtain ⟨b0, r0, rfl, h0, g0⟩ := q0d h; obtain ⟨b1, r1, rfl, h1, g1⟩ := q0d g0; obtain ⟨b2, r2, rfl, h2, g2⟩ := q0d g1; obtain ⟨b3, r3, rfl, h3, g3⟩ := q0d g2; obtain ⟨b4, r4, rfl, h4, g4⟩ := q0d g3; obtain ⟨b5, r5, rfl, h5, g5⟩ := q0d g4; obtain ⟨b6, r6, rfl, h6, g6⟩ := q0d g5; obtain ⟨x0, rfl, k0⟩ := Dat.of (α := Int) _ h0; obtain ⟨x1, rfl, k1⟩ := Dat.of (α := List (List GSlot)) _ h1; obtain ⟨x2, rfl, k2⟩ := Dat.of (α := Int) _ h2; obtain ⟨x3, rfl, k3⟩ := Dat.of (α := Arr2 Int) _ h3; obtain ⟨x4, rfl, k4⟩ := Dat.of (α := Arr2 Int) _ h4; obtain ⟨x5, rfl, k5⟩ := Dat.of (α := List (List GTime)) _ h5; obtain ⟨x6, rfl, k6⟩ := Dat.of (α := Int) _ h6; obtain ⟨x7, rfl, k7⟩ := Dat.of (α := Int) _ g6; exact ⟨⟨x0, x1, x2, x3, x4, x5, x6, x7⟩, rfl, k0, k1, k2, k3, k4, k5, k6, k7⟩
structure GFeed where
 Node : Int
 Epoch : Int
 Rec : GRec
instance : Row GFeed := ⟨4, fun x => [.v (.int .i64 x.Node), .v (.int .i64 x.Epoch), .v (.int .i64 x.Rec.K), .v (.int .i64 x.Rec.V)]⟩
@[go_sem] theorem zn6 (x : GFeed) : Row.row x = [.v (.int .i64 x.Node), .v (.int .i64 x.Epoch), .v (.int .i64 x.Rec.K), .v (.int .i64 x.Rec.V)] := rfl
@[go_sem] theorem zp4 : Row.sz GFeed = 4 := rfl
instance : Dat GFeed where
 ct := Dat.ct Int ++ (Dat.ct Int ++ (Dat.ct GRec))
 ok x := Dat.ok x.Node ∧ Dat.ok x.Epoch ∧ Dat.ok x.Rec
 len := rfl
 of avs h := by
  obtain ⟨b0, r0, rfl, h0, g0⟩ := q0d h; obtain ⟨b1, r1, rfl, h1, g1⟩ := q0d g0; obtain ⟨x0, rfl, k0⟩ := Dat.of (α := Int) _ h0; obtain ⟨x1, rfl, k1⟩ := Dat.of (α := Int) _ h1; obtain ⟨x2, rfl, k2⟩ := Dat.of (α := GRec) _ g1; exact ⟨⟨x0, x1, x2⟩, rfl, k0, k1, k2⟩
structure GPoint where
 Node : Int
 Time : GTime
instance : Row GPoint := ⟨6, fun x => [.v (.int .i64 x.Node), .v (.int .i64 x.Time.D), .v (.int .i64 x.Time.C.a0), .v (.int .i64 x.Time.C.a1), .v (.int .i64 x.Time.C.a2), .v (.int .i64 x.Time.C.a3)]⟩
@[go_sem] theorem zl9 (x : GPoint) : Row.row x = [.v (.int .i64 x.Node), .v (.int .i64 x.Time.D), .v (.int .i64 x.Time.C.a0), .v (.int .i64 x.Time.C.a1), .v (.int .i64 x.Time.C.a2), .v (.int .i64 x.Time.C.a3)] := rfl
@[go_sem] theorem zm9 : Row.sz GPoint = 6 := rfl
instance : Dat GPoint where
 ct := Dat.ct Int ++ (Dat.ct GTime)
 ok x := Dat.ok x.Node ∧ Dat.ok x.Time
 len := rfl
 of avs h := by
  obtain ⟨b0, r0, rfl, h0, g0⟩ := q0d h; obtain ⟨x0, rfl, k0⟩ := Dat.of (α := Int) _ h0; obtain ⟨x1, rfl, k1⟩ := Dat.of (α := GTime) _ g0; exact ⟨⟨x0, x1⟩, rfl, k0, k1⟩
structure GProg_machine where
 r : GRec
 stack : List Int
 out : List GRec
 at_ : Int
 bad : Int
instance : Row GProg_machine := ⟨6, fun x => [.v (.int .i64 x.r.K), .v (.int .i64 x.r.V), .sl 1 (enc x.stack), .sl 2 (enc x.out), .v (.int .i64 x.at_), .v (.int .i64 x.bad)]⟩
@[go_sem] theorem z9f (x : GProg_machine) : Row.row x = [.v (.int .i64 x.r.K), .v (.int .i64 x.r.V), .sl 1 (enc x.stack), .sl 2 (enc x.out), .v (.int .i64 x.at_), .v (.int .i64 x.bad)] := rfl
@[go_sem] theorem z9r : Row.sz GProg_machine = 6 := rfl
instance : Dat GProg_machine where
 ct := Dat.ct GRec ++ (Dat.ct (List Int) ++ (Dat.ct (List GRec) ++ (Dat.ct Int ++ (Dat.ct Int))))
 ok x := Dat.ok x.r ∧ Dat.ok x.stack ∧ Dat.ok x.out ∧ Dat.ok x.at_ ∧ Dat.ok x.bad
 len := rfl
 of avs h := by
  obtain ⟨b0, r0, rfl, h0, g0⟩ := q0d h; obtain ⟨b1, r1, rfl, h1, g1⟩ := q0d g0; obtain ⟨b2, r2, rfl, h2, g2⟩ := q0d g1; obtain ⟨b3, r3, rfl, h3, g3⟩ := q0d g2; obtain ⟨x0, rfl, k0⟩ := Dat.of (α := GRec) _ h0; obtain ⟨x1, rfl, k1⟩ := Dat.of (α := List Int) _ h1; obtain ⟨x2, rfl, k2⟩ := Dat.of (α := List GRec) _ h2; obtain ⟨x3, rfl, k3⟩ := Dat.of (α := Int) _ h3; obtain ⟨x4, rfl, k4⟩ := Dat.of (α := Int) _ g3; exact ⟨⟨x0, x1, x2, x3, x4⟩, rfl, k0, k1, k2, k3, k4⟩
structure GOps_maker where
 out : List GItem
 many : Int
instance : Row GOps_maker := ⟨2, fun x => [.sl 3 (enc x.out), .v (.int .i64 x.many)]⟩
@[go_sem] theorem zg0 (x : GOps_maker) : Row.row x = [.sl 3 (enc x.out), .v (.int .i64 x.many)] := rfl
@[go_sem] theorem zh7 : Row.sz GOps_maker = 2 := rfl
instance : Dat GOps_maker where
 ct := Dat.ct (List GItem) ++ (Dat.ct Int)
 ok x := Dat.ok x.out ∧ Dat.ok x.many
 len := rfl
 of avs h := by
  obtain ⟨b0, r0, rfl, h0, g0⟩ := q0d h; obtain ⟨x0, rfl, k0⟩ := Dat.of (α := List GItem) _ h0; obtain ⟨x1, rfl, k1⟩ := Dat.of (α := Int) _ g0; exact ⟨⟨x0, x1⟩, rfl, k0, k1⟩
structure GOps_wide where
 hi : Int
 lo : Nu64
instance : Row GOps_wide := ⟨2, fun x => [.v (.int .i64 x.hi), .v (.int .u64 x.lo.n)]⟩
@[go_sem] theorem zh8 (x : GOps_wide) : Row.row x = [.v (.int .i64 x.hi), .v (.int .u64 x.lo.n)] := rfl
@[go_sem] theorem zi5 : Row.sz GOps_wide = 2 := rfl
instance : Dat GOps_wide where
 ct := Dat.ct Int ++ (Dat.ct Nu64)
 ok x := Dat.ok x.hi ∧ Dat.ok x.lo
 len := rfl
 of avs h := by
  obtain ⟨b0, r0, rfl, h0, g0⟩ := q0d h; obtain ⟨x0, rfl, k0⟩ := Dat.of (α := Int) _ h0; obtain ⟨x1, rfl, k1⟩ := Dat.of (α := Nu64) _ g0; exact ⟨⟨x0, x1⟩, rfl, k0, k1⟩
structure GMsg where
 Edge : Int
 Time : GTime
 Rec : GRec
 N : Int
 Colour : Int
instance : Row GMsg := ⟨10, fun x => [.v (.int .i64 x.Edge), .v (.int .i64 x.Time.D), .v (.int .i64 x.Time.C.a0), .v (.int .i64 x.Time.C.a1), .v (.int .i64 x.Time.C.a2), .v (.int .i64 x.Time.C.a3), .v (.int .i64 x.Rec.K), .v (.int .i64 x.Rec.V), .v (.int .i64 x.N), .v (.int .i64 x.Colour)]⟩
@[go_sem] theorem zp8 (x : GMsg) : Row.row x = [.v (.int .i64 x.Edge), .v (.int .i64 x.Time.D), .v (.int .i64 x.Time.C.a0), .v (.int .i64 x.Time.C.a1), .v (.int .i64 x.Time.C.a2), .v (.int .i64 x.Time.C.a3), .v (.int .i64 x.Rec.K), .v (.int .i64 x.Rec.V), .v (.int .i64 x.N), .v (.int .i64 x.Colour)] := rfl
@[go_sem] theorem zq7 : Row.sz GMsg = 10 := rfl
instance : Dat GMsg where
 ct := Dat.ct Int ++ (Dat.ct GTime ++ (Dat.ct GRec ++ (Dat.ct Int ++ (Dat.ct Int))))
 ok x := Dat.ok x.Edge ∧ Dat.ok x.Time ∧ Dat.ok x.Rec ∧ Dat.ok x.N ∧ Dat.ok x.Colour
 len := rfl
 of avs h := by
  obtain ⟨b0, r0, rfl, h0, g0⟩ := q0d h; obtain ⟨b1, r1, rfl, h1, g1⟩ := q0d g0; obtain ⟨b2, r2, rfl, h2, g2⟩ := q0d g1; obtain ⟨b3, r3, rfl, h3, g3⟩ := q0d g2; obtain ⟨x0, rfl, k0⟩ := Dat.of (α := Int) _ h0; obtain ⟨x1, rfl, k1⟩ := Dat.of (α := GTime) _ h1; obtain ⟨x2, rfl, k2⟩ := Dat.of (α := GRec) _ h2; obtain ⟨x3, rfl, k3⟩ := Dat.of (α := Int) _ h3; obtain ⟨x4, rfl, k4⟩ := Dat.of (α := Int) _ g3; exact ⟨⟨x0, x1, x2, x3, x4⟩, rfl, k0, k1, k2, k3, k4⟩
structure GLetter where
 To : Int
 Msg : GMsg
instance : Row GLetter := ⟨11, fun x => [.v (.int .i64 x.To), .v (.int .i64 x.Msg.Edge), .v (.int .i64 x.Msg.Time.D), .v (.int .i64 x.Msg.Time.C.a0), .v (.int .i64 x.Msg.Time.C.a1), .v (.int .i64 x.Msg.Time.C.a2), .v (.int .i64 x.Msg.Time.C.a3), .v (.int .i64 x.Msg.Rec.K), .v (.int .i64 x.Msg.Rec.V), .v (.int .i64 x.Msg.N), .v (.int .i64 x.Msg.Colour)]⟩
@[go_sem] theorem zl6 (x : GLetter) : Row.row x = [.v (.int .i64 x.To), .v (.int .i64 x.Msg.Edge), .v (.int .i64 x.Msg.Time.D), .v (.int .i64 x.Msg.Time.C.a0), .v (.int .i64 x.Msg.Time.C.a1), .v (.int .i64 x.Msg.Time.C.a2), .v (.int .i64 x.Msg.Time.C.a3), .v (.int .i64 x.Msg.Rec.K), .v (.int .i64 x.Msg.Rec.V), .v (.int .i64 x.Msg.N), .v (.int .i64 x.Msg.Colour)] := rfl
@[go_sem] theorem zl8 : Row.sz GLetter = 11 := rfl
instance : Dat GLetter where
 ct := Dat.ct Int ++ (Dat.ct GMsg)
 ok x := Dat.ok x.To ∧ Dat.ok x.Msg
 len := rfl
 of avs h := by
  obtain ⟨b0, r0, rfl, h0, g0⟩ := q0d h; obtain ⟨x0, rfl, k0⟩ := Dat.of (α := Int) _ h0; obtain ⟨x1, rfl, k1⟩ := Dat.of (α := GMsg) _ g0; exact ⟨⟨x0, x1⟩, rfl, k0, k1⟩
structure GUnit_sender where
 Unit : GUnit
 out : List GLetter
 workers : Int
instance : Row GUnit_sender := ⟨12, fun x => [.v (.int .i64 x.Unit.ID), .sl 1 (enc x.Unit.Cells), .v (.int .i64 x.Unit.Colour), .v (.int .i64 x.Unit.Sent.a0), .v (.int .i64 x.Unit.Sent.a1), .v (.int .i64 x.Unit.Got.a0), .v (.int .i64 x.Unit.Got.a1), .sl 1 (enc x.Unit.Red), .v (.int .i64 x.Unit.Late), .v (.int .i64 x.Unit.Backs), .sl 11 (enc x.out), .v (.int .i64 x.workers)]⟩
@[go_sem] theorem z9z (x : GUnit_sender) : Row.row x = [.v (.int .i64 x.Unit.ID), .sl 1 (enc x.Unit.Cells), .v (.int .i64 x.Unit.Colour), .v (.int .i64 x.Unit.Sent.a0), .v (.int .i64 x.Unit.Sent.a1), .v (.int .i64 x.Unit.Got.a0), .v (.int .i64 x.Unit.Got.a1), .sl 1 (enc x.Unit.Red), .v (.int .i64 x.Unit.Late), .v (.int .i64 x.Unit.Backs), .sl 11 (enc x.out), .v (.int .i64 x.workers)] := rfl
@[go_sem] theorem zc7 : Row.sz GUnit_sender = 12 := rfl
instance : Dat GUnit_sender where
 ct := Dat.ct GUnit ++ (Dat.ct (List GLetter) ++ (Dat.ct Int))
 ok x := Dat.ok x.Unit ∧ Dat.ok x.out ∧ Dat.ok x.workers
 len := rfl
 of avs h := by
  obtain ⟨b0, r0, rfl, h0, g0⟩ := q0d h; obtain ⟨b1, r1, rfl, h1, g1⟩ := q0d g0; obtain ⟨x0, rfl, k0⟩ := Dat.of (α := GUnit) _ h0; obtain ⟨x1, rfl, k1⟩ := Dat.of (α := List GLetter) _ h1; obtain ⟨x2, rfl, k2⟩ := Dat.of (α := Int) _ g1; exact ⟨⟨x0, x1, x2⟩, rfl, k0, k1, k2⟩
@[go_sem] theorem zr4 : EqT Tryz.prog 28 [some .i64, some .i64] := qx7 (by kernel_rfl) (by kernel_rfl) (by kernel_rfl)
@[go_sem] theorem zr3 : EqT Tryz.prog 41 [some .i64, some .i64, some .i64, some .i64, some .i64] := qx7 (by kernel_rfl) (by kernel_rfl) (by kernel_rfl)
@[go_sem] theorem zr2 : EqT Tryz.prog 43 [some .i64, some .i64] := qx7 (by kernel_rfl) (by kernel_rfl) (by kernel_rfl)
@[go_sem] theorem zr1 : EqT Tryz.prog 61 [some .i64, some .i64, some .i64, some .i64, some .i64, some .i64] := qx7 (by kernel_rfl) (by kernel_rfl) (by kernel_rfl)
@[go_sem] theorem zr0 : EqT Tryz.prog 109 [some .i64, some .i64, some .i64] := qx7 (by kernel_rfl) (by kernel_rfl) (by kernel_rfl)
attribute [go_sem] Tryz.ntmps3 Tryz.results3 Tryz.ntmps4 Tryz.results4 Tryz.ntmps8 Tryz.results8 Tryz.ntmps9 Tryz.results9 Tryz.ntmps10 Tryz.results10 Tryz.ntmps11 Tryz.results11 Tryz.ntmps12 Tryz.results12 Tryz.ntmps13 Tryz.results13 Tryz.ntmps14 Tryz.results14 Tryz.ntmps15 Tryz.results15 Tryz.ntmps16 Tryz.results16 Tryz.ntmps17 Tryz.results17 Tryz.ntmps18 Tryz.results18 Tryz.ntmps19 Tryz.results19 Tryz.ntmps20 Tryz.results20 Tryz.ntmps21 Tryz.results21 Tryz.ntmps25 Tryz.results25 Tryz.ntmps28 Tryz.results28 Tryz.ntmps30 Tryz.results30 Tryz.ntmps33 Tryz.results33 Tryz.ntmps34 Tryz.results34 Tryz.ntmps35 Tryz.results35 Tryz.ntmps36 Tryz.results36 Tryz.ntmps37 Tryz.results37 Tryz.ntmps38 Tryz.results38 Tryz.ntmps39 Tryz.results39 Tryz.ntmps40 Tryz.results40 Tryz.ntmps41 Tryz.results41 Tryz.ntmps42 Tryz.results42 Tryz.ntmps43 Tryz.results43 Tryz.ntmps44 Tryz.results44 Tryz.ntmps45 Tryz.results45 Tryz.ntmps46 Tryz.results46 Tryz.ntmps47 Tryz.results47 Tryz.ntmps48 Tryz.results48 Tryz.ntmps55 Tryz.results55 Tryz.ntmps57 Tryz.results57 Tryz.ntmps60 Tryz.results60 Tryz.ntmps64 Tryz.results64 Tryz.ntmps68 Tryz.results68 Tryz.ntmps69 Tryz.results69 Tryz.ntmps70 Tryz.results70 Tryz.ntmps71 Tryz.results71 Tryz.ntmps72 Tryz.results72 Tryz.ntmps79 Tryz.results79 Tryz.ntmps80 Tryz.results80 Tryz.ntmps81 Tryz.results81 Tryz.ntmps82 Tryz.results82 Tryz.ntmps83 Tryz.results83 Tryz.ntmps84 Tryz.results84 Tryz.ntmps85 Tryz.results85 Tryz.ntmps86 Tryz.results86 Tryz.ntmps87 Tryz.results87 Tryz.ntmps88 Tryz.results88 Tryz.ntmps89 Tryz.results89 Tryz.ntmps90 Tryz.results90 Tryz.ntmps91 Tryz.results91 Tryz.ntmps92 Tryz.results92 Tryz.ntmps93 Tryz.results93 Tryz.ntmps94 Tryz.results94 Tryz.ntmps95 Tryz.results95 Tryz.ntmps96 Tryz.results96 Tryz.ntmps97 Tryz.results97 Tryz.ntmps98 Tryz.results98 Tryz.ntmps99 Tryz.results99 Tryz.ntmps100 Tryz.results100 Tryz.ntmps101 Tryz.results101 Tryz.ntmps104 Tryz.results104 Tryz.ntmps109 Tryz.results109 Tryz.ntmps116 Tryz.results116 Tryz.ntmps126 Tryz.results126 Tryz.ntmps127 Tryz.results127 Tryz.ntmps128 Tryz.results128 Tryz.ntmps132 Tryz.results132 Tryz.ntmps133 Tryz.results133 Tryz.ntmps134 Tryz.results134 Tryz.ntmps135 Tryz.results135 Tryz.ntmps141 Tryz.results141 Tryz.ntmps142 Tryz.results142 Tryz.ntmps143 Tryz.results143 Tryz.ntmps144 Tryz.results144 Tryz.ntmps145 Tryz.results145 Tryz.ntmps146 Tryz.results146 Tryz.ntmps147 Tryz.results147 Tryz.ntmps148 Tryz.results148 Tryz.ntmps149 Tryz.results149 Tryz.ntmps150 Tryz.results150 Tryz.ntmps151 Tryz.results151 Tryz.ntmps152 Tryz.results152 Tryz.ntmps153 Tryz.results153 Tryz.ntmps154 Tryz.results154 Tryz.ntmps155 Tryz.results155 Tryz.ntmps156 Tryz.results156 Tryz.ntmps157 Tryz.results157 Tryz.ntmps158 Tryz.results158 Tryz.ntmps159 Tryz.results159 Tryz.ntmps160 Tryz.results160 Tryz.ntmps161 Tryz.results161 Tryz.ntmps162 Tryz.results162 Tryz.ntmps163 Tryz.results163 Tryz.ntmps164 Tryz.results164 Tryz.ntmps165 Tryz.results165 Tryz.ntmps166 Tryz.results166 Tryz.ntmps167 Tryz.results167 Tryz.ntmps169 Tryz.results169 Tryz.ntmps172 Tryz.results172 Tryz.ntmps173 Tryz.results173 Tryz.ntmps174 Tryz.results174 Tryz.ntmps175 Tryz.results175 Tryz.ntmps176 Tryz.results176 Tryz.ntmps177 Tryz.results177 Tryz.ntmps178 Tryz.results178 Tryz.ntmps179 Tryz.results179 Tryz.ntmps195 Tryz.results195 Tryz.ntmps196 Tryz.results196 Tryz.ntmps197 Tryz.results197 Tryz.ntmps198 Tryz.results198 Tryz.ntmps199 Tryz.results199 Tryz.ntmps200 Tryz.results200 Tryz.ntmps201 Tryz.results201 Tryz.ntmps202 Tryz.results202 Tryz.ntmps203 Tryz.results203 Tryz.ntmps204 Tryz.results204 Tryz.ntmps205 Tryz.results205 Tryz.ntmps206 Tryz.results206 Tryz.ntmps211 Tryz.results211 Tryz.ntmps212 Tryz.results212 Tryz.ntmps213 Tryz.results213 Tryz.ntmps216 Tryz.results216 Tryz.ntmps229 Tryz.results229 Tryz.ntmps232 Tryz.results232 Tryz.ntmps233 Tryz.results233 Tryz.ntmps234 Tryz.results234 Tryz.ntmps235 Tryz.results235 Tryz.ntmps236 Tryz.results236 Tryz.ntmps244 Tryz.results244

def q9r (i_0 : Int) : Option Int :=
 (if (i_0 == 0) = true then some 1048576
 else some 64)
theorem z0f (i_0 : Int)  (r : Int) (h : q9r i_0 = some r) : PureS Tryz.prog 155 [.v (.int .i64 i_0)] 0 (.v (.int .i64 r)) := by
 unfold PureS; refine Spec.of_vc Tryz.func155 rfl (by kernel_rfl) (by kernel_rfl) ?_; rw [q9r] at h; refine sg fun _ Q1 => ?_; simp only [go_sem]; refine q8 Q1 (sg fun _ Q2 => ?_); refine sg fun _ Q3 => ?_; simp only [go_sem]; refine q8 Q3 ?_; refine j3 (b := (i_0 == 0)) (by (simp only [go_sem]; done)) (fun hb_0 => ?_) (fun hb_0 => ?_)
 · replace h := x9 h hb_0; simp only [bool_to_prop] at hb_0; refine sg fun _ Q4 => ?_; simp only [go_sem]; refine q8 Q4 (z8 (y5 Q2 ?_)); simp only [go_sem]; obtain rfl := Option.some.inj h; refine j5 rfl ?_; simp only [go_sem, Le]
 · replace h := u6 h hb_0; simp only [bool_to_prop] at hb_0; refine j4 (q8 Q2 (sg fun _ Q5 => ?_)); simp only [go_sem]; refine q8 Q5 (z8 ?_); simp only [go_sem]; obtain rfl := Option.some.inj h; refine j5 rfl ?_; simp only [go_sem, Le]

def q7s (t_0 : GTime) (rec_1 : Int → Option Bool) : Int → Option Bool :=
 fun t15_1 =>
 (if (decide (t15_1 < 4)) = true then j6 (idx ([t_0.C.a0, t_0.C.a1, t_0.C.a2, t_0.C.a3] : List Int) t15_1) (fun (xv_1 : Int) =>
 (if (decide (xv_1 < 0)) = true then some false
 else (if (decide (t15_1 < t_0.D)) = true then j6 (q9r t15_1) (fun (v_2 : Int) =>
 (if ((decide (v_2 < xv_1)) || ((decide (t_0.D ≤ t15_1)) && (!(xv_1 == 0)))) = true then some false
 else rec_1 (i64.wrap (t15_1 + 1))))
 else (if ((decide (t_0.D ≤ t15_1)) && (!(xv_1 == 0))) = true then some false
 else rec_1 (i64.wrap (t15_1 + 1))))))
 else some true)
def q2l (t_0 : GTime) : Option Bool :=
 (if ((decide (t_0.D < 1)) || (decide (4 < t_0.D))) = true then some false
 else p9 (q7s t_0) rounds 0)
theorem q3y (t_0 : GTime)  (r : Bool) (h : q2l t_0 = some r) : PureS Tryz.prog 91 [.agg [.v (.int .i64 t_0.D), .v (.int .i64 t_0.C.a0), .v (.int .i64 t_0.C.a1), .v (.int .i64 t_0.C.a2), .v (.int .i64 t_0.C.a3)]] 0 (.v (.bool r)) := by
 unfold PureS; refine Spec.of_vc Tryz.func91 rfl (by kernel_rfl) (by kernel_rfl) ?_; rw [q2l] at h; refine sg fun _ Q1 => ?_; simp only [go_sem]; refine q8 Q1 (sg fun _ Q2 => ?_); refine sg fun _ Q3 => ?_; simp only [go_sem]; refine q8 Q3 ?_; refine j3 (b := ((decide (t_0.D < 1)) || (decide (4 < t_0.D)))) (by (simp only [go_sem]; done)) (fun hb_0 => ?_) (fun hb_0 => ?_)
 · replace h := x9 h hb_0; simp only [bool_to_prop] at hb_0; refine sg fun _ Q4 => ?_; simp only [go_sem]; refine q8 Q4 (z8 (y5 Q2 ?_)); simp only [go_sem]; obtain rfl := Option.some.inj h; refine j5 rfl ?_; simp only [go_sem, Le]
 ·
  replace h := u6 h hb_0; simp only [bool_to_prop] at hb_0; refine j4 (q8 Q2 (q0a (by kernel_rfl) ?_)); refine q0c ?_; intro _ Q5; refine sg fun _ Q6 => ?_; simp only [go_sem]; refine q8 Q6 (y7 ?_); intro _ Q7; refine q06 ?_; refine q0g (ι := Nat × Int) (fun ((_, t15_1) : Nat × Int) => (⟨0, [(1, .ptr 0 0), (14, .agg [.v (.int .i64 t_0.C.a0), .v (.int .i64 t_0.C.a1), .v (.int .i64 t_0.C.a2), .v (.int .i64 t_0.C.a3)]), (15, .v (.int .i64 t15_1))], [(0, .box [.v (.int .i64 t_0.D), .v (.int .i64 t_0.C.a0), .v (.int .i64 t_0.C.a1), .v (.int .i64 t_0.C.a2), .v (.int .i64 t_0.C.a3)])], 1, 44⟩ : St)) (fun ((n_, t15_1) : Nat × Int) => p9 (q7s t_0) n_ t15_1 = some r) (fun p => p.1) (rounds, 0) [some 0] ?_ h ?_
  · simp only [go_sem, Le]
  ·
   rintro ⟨n_1, t15_1⟩ h _ Q8; dsimp only at h; replace h := q08 h; obtain ⟨m_1, rfl, h⟩ := h; rw [q7s] at h; refine sg fun _ Q9 => ?_; simp only [go_sem]; refine q8 Q9 (sg fun _ Q10 => ?_); refine j3 (b := (decide (t15_1 < 4))) (by (simp only [go_sem]; done)) (fun hb_11 => ?_) (fun hb_11 => ?_)
   ·
    replace h := x9 h hb_11; simp only [bool_to_prop] at hb_11; refine j4 (q8 Q10 (sg fun _ Q11 => ?_)); refine y7 ?_; intro _ Q12; refine sg fun _ Q13 => ?_; obtain ⟨xv_1, ex1, h⟩ := q9 h; obtain ⟨f1a, f1b, f1c, fxv_1d⟩ := z4x (f := (fun y => AV.v (.int .i64 y))) ex1; simp only [List.cons_append, List.nil_append, List.append_nil, List.map_cons, List.map_nil, List.length_cons, List.length_nil, Nat.zero_add, Nat.reduceAdd] at f1b f1c fxv_1d; simp only [go_sem, f1a, f1b, f1c, fxv_1d]; refine And.intro (by omega) ?_; refine And.intro (by omega) ?_; simp only [List.getD_eq_getElem?_getD, Nat.mul_one, fxv_1d, Option.map_some, Option.getD_some, true_and]; refine q8 Q13 (sg fun _ Q14 => ?_); simp only [go_sem]; rcases hb_12 : (decide (xv_1 < 0)) with _ | _
    ·
     replace h := u6 h hb_12; simp only [go_sem, hb_12]; rcases hb_13 : (decide (t15_1 < t_0.D)) with _ | _
     ·
      replace h := u6 h hb_13; simp only [go_sem, hb_13]; refine q8 Q14 ?_; refine j3 (b := ((decide (t_0.D ≤ t15_1)) && (!(xv_1 == 0)))) (by (simp only [go_sem]; done)) (fun hb_14 => ?_) (fun hb_14 => ?_)
      · replace h := x9 h hb_14; simp only [bool_to_prop] at hb_14; refine sg fun _ Q15 => ?_; simp only [go_sem]; refine q8 Q15 (z8 (y9 Q12 (y5 Q11 (q04 Q8 (y9 Q7 (y5 Q5 ?_)))))); simp only [go_sem]; obtain rfl := Option.some.inj h; refine j5 rfl ?_; simp only [go_sem, Le]
      · replace h := u6 h hb_14; simp only [bool_to_prop] at hb_14; refine j4 (y8 Q12 (q8 Q11 ?_)); simp only [go_sem]; refine w9 Q8 (⟨(m_1, i64.wrap (t15_1 + 1)), [some 0], ?_, h, Nat.lt_succ_self _⟩); simp only [go_sem, Le]
     ·
      replace h := x9 h hb_13; obtain ⟨v_2, ev_2, h⟩ := q9 h; simp only [go_sem, hb_13]; refine q0f (z0f t15_1 v_2 ev_2) (by rfl) (by rfl) ?_; simp only [go_sem]; refine And.intro (by omega) ?_; refine q8 Q14 ?_; refine j3 (b := ((decide (v_2 < xv_1)) || ((decide (t_0.D ≤ t15_1)) && (!(xv_1 == 0))))) (by (simp only [go_sem]; done)) (fun hb_15 => ?_) (fun hb_15 => ?_)
      · replace h := x9 h hb_15; simp only [bool_to_prop] at hb_15; refine sg fun _ Q16 => ?_; simp only [go_sem]; refine q8 Q16 (z8 (y9 Q12 (y5 Q11 (q04 Q8 (y9 Q7 (y5 Q5 ?_)))))); simp only [go_sem]; obtain rfl := Option.some.inj h; refine j5 rfl ?_; simp only [go_sem, Le]
      · replace h := u6 h hb_15; simp only [bool_to_prop] at hb_15; refine j4 (y8 Q12 (q8 Q11 ?_)); simp only [go_sem]; refine w9 Q8 (⟨(m_1, i64.wrap (t15_1 + 1)), [some 0], ?_, h, Nat.lt_succ_self _⟩); simp only [go_sem, Le]
    · replace h := x9 h hb_12; simp only [go_sem, hb_12]; refine q8 Q14 ?_; refine q0o (by (simp only [go_sem]; done)) ?_; refine sg fun _ Q17 => ?_; simp only [go_sem]; refine q8 Q17 (z8 (y9 Q12 (y5 Q11 (q04 Q8 (y9 Q7 (y5 Q5 ?_)))))); simp only [go_sem]; obtain rfl := Option.some.inj h; refine j5 rfl ?_; simp only [go_sem, Le]
   · replace h := u6 h hb_11; simp only [bool_to_prop] at hb_11; refine q03 (q09 Q10 (q07 Q8 (d9 Q7 (q8 Q5 (sg fun _ Q18 => ?_))))); simp only [go_sem]; refine q8 Q18 (z8 ?_); simp only [go_sem]; obtain rfl := Option.some.inj h; refine j5 rfl ?_; simp only [go_sem, Le]

def qp1 (a_0 : GTime) (b_0 : GTime) : Option Bool :=
 j6 (q2l a_0) (fun (v_0 : Bool) =>
 (if v_0 = true then j6 (q2l b_0) (fun (v_1 : Bool) =>
 some (v_1 && (a_0.D == b_0.D)))
 else some false))
theorem z5a (a_0 : GTime) (b_0 : GTime)  (r : Bool) (h : qp1 a_0 b_0 = some r) : PureS Tryz.prog 116 [.agg [.v (.int .i64 a_0.D), .v (.int .i64 a_0.C.a0), .v (.int .i64 a_0.C.a1), .v (.int .i64 a_0.C.a2), .v (.int .i64 a_0.C.a3)], .agg [.v (.int .i64 b_0.D), .v (.int .i64 b_0.C.a0), .v (.int .i64 b_0.C.a1), .v (.int .i64 b_0.C.a2), .v (.int .i64 b_0.C.a3)]] 0 (.v (.bool r)) := by
 unfold PureS; refine Spec.of_vc Tryz.func116 rfl (by kernel_rfl) (by kernel_rfl) ?_; rw [qp1] at h; refine sg fun _ Q1 => ?_; simp only [go_sem]; refine q8 Q1 (sg fun _ Q2 => ?_); obtain ⟨v_0, ev_0, h⟩ := q9 h; simp only [go_sem]; refine q0f (q3y a_0 v_0 ev_0) (by rfl) (by rfl) ?_; simp only [go_sem]; rcases hb_0 : v_0 with _ | _
 · replace h := u6 h hb_0; simp only [go_sem, hb_0]; refine q8 Q2 (z8 ?_); simp only [go_sem]; obtain rfl := Option.some.inj h; refine j5 rfl ?_; simp only [go_sem, Le]
 · replace h := x9 h hb_0; obtain ⟨v_1, ev_1, h⟩ := q9 h; simp only [go_sem, hb_0]; refine q0f (q3y b_0 v_1 ev_1) (by rfl) (by rfl) ?_; simp only [go_sem]; refine q8 Q2 (z8 ?_); simp only [go_sem]; obtain rfl := Option.some.inj h; refine j5 rfl ?_; simp only [go_sem, Le]

def q67 (t_0 : GTime) (rec_1 : Int × (List Int) → Option ((List Int) × Bool)) : Int × (List Int) → Option ((List Int) × Bool) :=
 fun (i_1, a_1) =>
 (if (decide (i_1 < 4)) = true then q0v (0 ≤ i_1 ∧ i_1 < 4) (
 j6 (idx ([t_0.C.a0, t_0.C.a1, t_0.C.a2, t_0.C.a3] : List Int) i_1) (fun (xv_1 : Int) =>
 (if (decide (t_0.D ≤ i_1)) = true then (if (!(xv_1 == 0)) = true then some (([] : List Int), false)
 else rec_1 (i64.wrap (i_1 + 1), a_1))
 else (if (((decide (xv_1 < 0)) || ((i_1 == 0) && (decide (1048576 < xv_1)))) || ((decide (0 < i_1)) && (decide (64 < xv_1)))) = true then some (([] : List Int), false)
 else q0v ((List.length a_1 + List.length ([xv_1] : List Int)) * 8 ≤ 140737488355328) (
 rec_1 (i64.wrap (i_1 + 1), (a_1 ++ ([xv_1] : List Int))))))))
 else some (a_1, true))
def q1v (t_0 : GTime) : Option ((List Int) × Bool) :=
 (if ((decide (t_0.D < 1)) || (decide (4 < t_0.D))) = true then some (([] : List Int), false)
 else p9 (q67 t_0) rounds (0, []))
def q68 (v_0 : (List Int) × Bool) (v_1 : (List Int) × Bool) (rec_1 : Int → Option Bool) : Int → Option Bool :=
 fun i_1 =>
 (if (decide (i_1 < (List.length v_0.1 : Int))) = true then (if (i_1 == (List.length v_1.1 : Int)) = true then some false
 else j6 (idx v_0.1 i_1) (fun (xv_4 : Int) =>
 j6 (idx v_1.1 i_1) (fun (xv_5 : Int) =>
 (if (decide (xv_5 < xv_4)) = true then some false
 else (if (decide (xv_4 < xv_5)) = true then some true
 else rec_1 (i64.wrap (i_1 + 1)))))))
 else some (decide ((List.length v_0.1 : Int) < (List.length v_1.1 : Int))))
def q7p (a_0 : GTime) (b_0 : GTime) : Option Bool :=
 j6 (q1v a_0) (fun (v_0 : (List Int) × Bool) =>
 j6 (q1v b_0) (fun (v_1 : (List Int) × Bool) =>
 (if ((!v_0.2) || (!v_1.2)) = true then some false
 else p9 (q68 v_0 v_1) rounds 0)))
def qc0 (a_0 : GTime) (b_0 : GTime) (rec_1 : Int → Option Bool) : Int → Option Bool :=
 fun t10_1 =>
 (if (decide (t10_1 < 4)) = true then q0v (0 ≤ t10_1 ∧ t10_1 < 4) (
 j6 (idx ([a_0.C.a0, a_0.C.a1, a_0.C.a2, a_0.C.a3] : List Int) t10_1) (fun (xv_2 : Int) =>
 q0v (0 ≤ t10_1 ∧ t10_1 < 4) (
 j6 (idx ([b_0.C.a0, b_0.C.a1, b_0.C.a2, b_0.C.a3] : List Int) t10_1) (fun (xv_3 : Int) =>
 (if (decide (xv_3 < xv_2)) = true then some false
 else rec_1 (i64.wrap (t10_1 + 1)))))))
 else some true)
def qe9 (a_0 : GTime) (b_0 : GTime) : Option Bool :=
 j6 (qp1 a_0 b_0) (fun (v_0 : Bool) =>
 (if (!v_0) = true then some false
 else p9 (qc0 a_0 b_0) rounds 0))
theorem qt6 (a_0 : GTime) (b_0 : GTime)  (r : Bool) (h : qe9 a_0 b_0 = some r) : PureS Tryz.prog 60 [.agg [.v (.int .i64 a_0.D), .v (.int .i64 a_0.C.a0), .v (.int .i64 a_0.C.a1), .v (.int .i64 a_0.C.a2), .v (.int .i64 a_0.C.a3)], .agg [.v (.int .i64 b_0.D), .v (.int .i64 b_0.C.a0), .v (.int .i64 b_0.C.a1), .v (.int .i64 b_0.C.a2), .v (.int .i64 b_0.C.a3)]] 0 (.v (.bool r)) := by
 unfold PureS; refine Spec.of_vc Tryz.func60 rfl (by kernel_rfl) (by kernel_rfl) ?_; rw [qe9] at h; refine sg fun _ Q1 => ?_; simp only [go_sem]; refine q8 Q1 (sg fun _ Q2 => ?_); refine sg fun _ Q3 => ?_; obtain ⟨v_0, ev_0, h⟩ := q9 h; simp only [go_sem]; refine q0f (z5a a_0 b_0 v_0 ev_0) (by rfl) (by rfl) ?_; simp only [go_sem]; refine q8 Q3 ?_; refine j3 (b := (!v_0)) (by (simp only [go_sem]; done)) (fun hb_0 => ?_) (fun hb_0 => ?_)
 · replace h := x9 h hb_0; simp only [bool_to_prop] at hb_0; refine sg fun _ Q4 => ?_; simp only [go_sem]; refine q8 Q4 (z8 (y5 Q2 ?_)); simp only [go_sem]; obtain rfl := Option.some.inj h; refine j5 rfl ?_; simp only [go_sem, Le]
 ·
  replace h := u6 h hb_0; simp only [bool_to_prop] at hb_0; refine j4 (q8 Q2 (q0a (by kernel_rfl) ?_)); refine q0c ?_; intro _ Q5; refine sg fun _ Q6 => ?_; simp only [go_sem]; refine q8 Q6 (y7 ?_); intro _ Q7; refine q06 ?_; refine q0g (ι := Nat × Int) (fun ((_, t10_1) : Nat × Int) => (⟨0, [(2, .ptr 0 0), (3, .ptr 1 0), (10, .v (.int .i64 t10_1))], [(0, .box [.v (.int .i64 a_0.D), .v (.int .i64 a_0.C.a0), .v (.int .i64 a_0.C.a1), .v (.int .i64 a_0.C.a2), .v (.int .i64 a_0.C.a3)]), (1, .box [.v (.int .i64 b_0.D), .v (.int .i64 b_0.C.a0), .v (.int .i64 b_0.C.a1), .v (.int .i64 b_0.C.a2), .v (.int .i64 b_0.C.a3)])], 2, 23⟩ : St)) (fun ((n_, t10_1) : Nat × Int) => p9 (qc0 a_0 b_0) n_ t10_1 = some r) (fun p => p.1) (rounds, 0) [some 0, some 1] ?_ h ?_
  · simp only [go_sem, Le] <;> (repeat' apply And.intro) <;> (try with_reducible refine x8 ?_) <;> first | omega | (simp [go_sem]; done)
  ·
   rintro ⟨n_1, t10_1⟩ h _ Q8; dsimp only at h; replace h := q08 h; obtain ⟨m_1, rfl, h⟩ := h; rw [qc0] at h; refine sg fun _ Q9 => ?_; simp only [go_sem]; refine q8 Q9 (sg fun _ Q10 => ?_); refine j3 (b := (decide (t10_1 < 4))) (by (simp only [go_sem]; done)) (fun hb_5 => ?_) (fun hb_5 => ?_)
   ·
    replace h := x9 h hb_5; simp only [bool_to_prop] at hb_5; refine j4 (q8 Q10 (sg fun _ Q11 => ?_)); refine y7 ?_; intro _ Q12; refine sg fun _ Q13 => ?_; simp only [go_sem]; refine q8 Q13 (sg fun _ Q14 => ?_); refine q0q ?_; refine q0l 8 [0, 0, 3, 7, 0, 0, 48, 112, 255] mixed (by kernel_rfl) (of_decide_eq_true (by kernel_rfl)) (by kernel_rfl) ?_; obtain ⟨g_2, h⟩ := q0k h; obtain ⟨xv_2, ex2, h⟩ := q9 h; obtain ⟨f2a, f2b, f2c, fxv_2d⟩ := qa5 (f := (fun y => AV.v (.int .i64 y))) [.v (.int .i64 a_0.D)] [] ex2; simp only [List.cons_append, List.nil_append, List.append_nil, List.map_cons, List.map_nil, List.length_cons, List.length_nil, Nat.zero_add, Nat.reduceAdd] at f2b f2c fxv_2d; obtain ⟨g_3, h⟩ := q0k h; obtain ⟨xv_3, ex3, h⟩ := q9 h; obtain ⟨f3a, f3b, f3c, fxv_3d⟩ := qa5 (f := (fun y => AV.v (.int .i64 y))) [.v (.int .i64 b_0.D)] [] ex3; simp only [List.cons_append, List.nil_append, List.append_nil, List.map_cons, List.map_nil, List.length_cons, List.length_nil, Nat.zero_add, Nat.reduceAdd] at f3b f3c fxv_3d; simp only [go_sem, g_2, f2a, f2b, f2c, fxv_2d, g_3, f3a, f3b, f3c, fxv_3d]; refine And.intro (by omega) ?_; refine And.intro (by omega) ?_; simp only [List.getD_eq_getElem?_getD, Nat.mul_one, fxv_2d, Option.map_some, Option.getD_some, true_and, List.getD_eq_getElem?_getD, Nat.mul_one, fxv_3d, Option.map_some, Option.getD_some, true_and]; refine q8 Q14 ?_; refine j3 (b := (decide (xv_3 < xv_2))) (by (simp only [go_sem]; done)) (fun hb_6 => ?_) (fun hb_6 => ?_)
    · replace h := x9 h hb_6; simp only [bool_to_prop] at hb_6; refine sg fun _ Q15 => ?_; simp only [go_sem]; refine q8 Q15 (z8 (y9 Q12 (y5 Q11 (q04 Q8 (y9 Q7 (y5 Q5 ?_)))))); simp only [go_sem]; obtain rfl := Option.some.inj h; refine j5 rfl ?_; simp only [go_sem, Le]
    · replace h := u6 h hb_6; simp only [bool_to_prop] at hb_6; refine j4 (y8 Q12 (q8 Q11 ?_)); simp only [go_sem]; refine w9 Q8 (⟨(m_1, i64.wrap (t10_1 + 1)), [some 0, some 1], ?_, h, Nat.lt_succ_self _⟩); simp only [go_sem, Le] <;> (repeat' apply And.intro) <;> (try with_reducible refine x8 ?_) <;> first | omega | (simp [go_sem]; done)
   · replace h := u6 h hb_5; simp only [bool_to_prop] at hb_5; refine q03 (q09 Q10 (q07 Q8 (d9 Q7 (q8 Q5 (sg fun _ Q16 => ?_))))); simp only [go_sem]; refine q8 Q16 (z8 ?_); simp only [go_sem]; obtain rfl := Option.some.inj h; refine j5 rfl ?_; simp only [go_sem, Le]

def q78 (v_0 : (List Int) × Bool) (v_1 : (List Int) × Bool) (rec_1 : Int → Option Bool) : Int → Option Bool :=
 fun i_1 =>
 (if (decide (i_1 < (List.length v_0.1 : Int))) = true then j6 (idx v_0.1 i_1) (fun (xv_4 : Int) =>
 j6 (idx v_1.1 i_1) (fun (xv_5 : Int) =>
 (if (decide (xv_5 < xv_4)) = true then some false
 else rec_1 (i64.wrap (i_1 + 1)))))
 else some true)
def q8s (a_0 : GTime) (b_0 : GTime) : Option Bool :=
 j6 (q1v a_0) (fun (v_0 : (List Int) × Bool) =>
 j6 (q1v b_0) (fun (v_1 : (List Int) × Bool) =>
 (if (((!v_0.2) || (!v_1.2)) || (!((List.length v_0.1 : Int) == (List.length v_1.1 : Int)))) = true then some false
 else p9 (q78 v_0 v_1) rounds 0)))
def q8m (a_0 : GTime) (b_0 : GTime) (rec_1 : Int → Option Bool) : Int → Option Bool :=
 fun t19_1 =>
 (if (decide (t19_1 < (min a_0.D b_0.D))) = true then q0v (0 ≤ t19_1 ∧ t19_1 < 4) (
 j6 (idx ([a_0.C.a0, a_0.C.a1, a_0.C.a2, a_0.C.a3] : List Int) t19_1) (fun (xv_4 : Int) =>
 q0v (0 ≤ t19_1 ∧ t19_1 < 4) (
 j6 (idx ([b_0.C.a0, b_0.C.a1, b_0.C.a2, b_0.C.a3] : List Int) t19_1) (fun (xv_5 : Int) =>
 (if (!(xv_4 == xv_5)) = true then q0v (0 ≤ t19_1 ∧ t19_1 < 4) (
 j6 (idx ([a_0.C.a0, a_0.C.a1, a_0.C.a2, a_0.C.a3] : List Int) t19_1) (fun (xv_6 : Int) =>
 q0v (0 ≤ t19_1 ∧ t19_1 < 4) (
 j6 (idx ([b_0.C.a0, b_0.C.a1, b_0.C.a2, b_0.C.a3] : List Int) t19_1) (fun (xv_7 : Int) =>
 some (decide (xv_6 < xv_7))))))
 else rec_1 (i64.wrap (t19_1 + 1)))))))
 else some (decide (a_0.D < b_0.D)))
def q6g (a_0 : GTime) (b_0 : GTime) : Option Bool :=
 j6 (q2l a_0) (fun (v_0 : Bool) =>
 (if v_0 = true then j6 (q2l b_0) (fun (v_1 : Bool) =>
 (if (!v_1) = true then some false
 else p9 (q8m a_0 b_0) rounds 0))
 else some false))
theorem q8l (a_0 : GTime) (b_0 : GTime)  (r : Bool) (h : q6g a_0 b_0 = some r) : PureS Tryz.prog 89 [.agg [.v (.int .i64 a_0.D), .v (.int .i64 a_0.C.a0), .v (.int .i64 a_0.C.a1), .v (.int .i64 a_0.C.a2), .v (.int .i64 a_0.C.a3)], .agg [.v (.int .i64 b_0.D), .v (.int .i64 b_0.C.a0), .v (.int .i64 b_0.C.a1), .v (.int .i64 b_0.C.a2), .v (.int .i64 b_0.C.a3)]] 0 (.v (.bool r)) := by
 unfold PureS; refine Spec.of_vc Tryz.func89 rfl (by kernel_rfl) (by kernel_rfl) ?_; rw [q6g] at h; refine sg fun _ Q1 => ?_; simp only [go_sem]; refine q8 Q1 (sg fun _ Q2 => ?_); refine sg fun _ Q3 => ?_; obtain ⟨v_0, ev_0, h⟩ := q9 h; simp only [go_sem]; refine q0f (q3y a_0 v_0 ev_0) (by rfl) (by rfl) ?_; simp only [go_sem]; rcases hb_0 : v_0 with _ | _
 · replace h := u6 h hb_0; simp only [go_sem, hb_0]; refine q8 Q3 ?_; refine q0o (by (simp only [go_sem]; done)) ?_; refine sg fun _ Q4 => ?_; simp only [go_sem]; refine q8 Q4 (z8 (y5 Q2 ?_)); simp only [go_sem]; obtain rfl := Option.some.inj h; refine j5 rfl ?_; simp only [go_sem, Le]
 ·
  replace h := x9 h hb_0; obtain ⟨v_1, ev_1, h⟩ := q9 h; simp only [go_sem, hb_0]; refine q0f (q3y b_0 v_1 ev_1) (by rfl) (by rfl) ?_; simp only [go_sem]; refine q8 Q3 ?_; refine j3 (b := (!v_1)) (by (simp only [go_sem]; done)) (fun hb_1 => ?_) (fun hb_1 => ?_)
  · replace h := x9 h hb_1; simp only [bool_to_prop] at hb_1; refine sg fun _ Q5 => ?_; simp only [go_sem]; refine q8 Q5 (z8 (y5 Q2 ?_)); simp only [go_sem]; obtain rfl := Option.some.inj h; refine j5 rfl ?_; simp only [go_sem, Le]
  ·
   replace h := u6 h hb_1; simp only [bool_to_prop] at hb_1; refine j4 (q8 Q2 (q0a (by kernel_rfl) ?_)); refine q0c ?_; intro _ Q6; refine sg fun _ Q7 => ?_; simp only [go_sem]; refine q8 Q7 (y7 ?_); intro _ Q8; refine q06 ?_; refine q0g (ι := Nat × Int) (fun ((_, t19_1) : Nat × Int) => (⟨0, [(2, .ptr 0 0), (3, .ptr 1 0), (18, .v (.int .i64 (min a_0.D b_0.D))), (19, .v (.int .i64 t19_1))], [(0, .box [.v (.int .i64 a_0.D), .v (.int .i64 a_0.C.a0), .v (.int .i64 a_0.C.a1), .v (.int .i64 a_0.C.a2), .v (.int .i64 a_0.C.a3)]), (1, .box [.v (.int .i64 b_0.D), .v (.int .i64 b_0.C.a0), .v (.int .i64 b_0.C.a1), .v (.int .i64 b_0.C.a2), .v (.int .i64 b_0.C.a3)])], 2, 46⟩ : St)) (fun ((n_, t19_1) : Nat × Int) => p9 (q8m a_0 b_0) n_ t19_1 = some r) (fun p => p.1) (rounds, 0) [some 0, some 1] ?_ h ?_
   · simp only [go_sem, Le] <;> (repeat' apply And.intro) <;> (try with_reducible refine x8 ?_) <;> first | omega | (simp [go_sem]; done)
   ·
    rintro ⟨n_1, t19_1⟩ h _ Q9; dsimp only at h; replace h := q08 h; obtain ⟨m_1, rfl, h⟩ := h; rw [q8m] at h; refine sg fun _ Q10 => ?_; simp only [go_sem]; refine q8 Q10 (sg fun _ Q11 => ?_); refine j3 (b := (decide (t19_1 < (min a_0.D b_0.D)))) (by (simp only [go_sem]; done)) (fun hb_6 => ?_) (fun hb_6 => ?_)
    ·
     replace h := x9 h hb_6; simp only [bool_to_prop] at hb_6; refine j4 (q8 Q11 (sg fun _ Q12 => ?_)); refine y7 ?_; intro _ Q13; refine sg fun _ Q14 => ?_; simp only [go_sem]; refine q8 Q14 (sg fun _ Q15 => ?_); refine q0q ?_; refine q0l 8 [0, 0, 3, 7, 0, 0, 48, 112, 255] mixed (by kernel_rfl) (of_decide_eq_true (by kernel_rfl)) (by kernel_rfl) ?_; obtain ⟨g_4, h⟩ := q0k h; obtain ⟨xv_4, ex4, h⟩ := q9 h; obtain ⟨f4a, f4b, f4c, fxv_4d⟩ := qa5 (f := (fun y => AV.v (.int .i64 y))) [.v (.int .i64 a_0.D)] [] ex4; simp only [List.cons_append, List.nil_append, List.append_nil, List.map_cons, List.map_nil, List.length_cons, List.length_nil, Nat.zero_add, Nat.reduceAdd] at f4b f4c fxv_4d; obtain ⟨g_5, h⟩ := q0k h; obtain ⟨xv_5, ex5, h⟩ := q9 h; obtain ⟨f5a, f5b, f5c, fxv_5d⟩ := qa5 (f := (fun y => AV.v (.int .i64 y))) [.v (.int .i64 b_0.D)] [] ex5; simp only [List.cons_append, List.nil_append, List.append_nil, List.map_cons, List.map_nil, List.length_cons, List.length_nil, Nat.zero_add, Nat.reduceAdd] at f5b f5c fxv_5d; simp only [go_sem, g_4, f4a, f4b, f4c, fxv_4d, g_5, f5a, f5b, f5c, fxv_5d]; refine And.intro (by omega) ?_; refine And.intro (by omega) ?_; simp only [List.getD_eq_getElem?_getD, Nat.mul_one, fxv_4d, Option.map_some, Option.getD_some, true_and, List.getD_eq_getElem?_getD, Nat.mul_one, fxv_5d, Option.map_some, Option.getD_some, true_and]; refine q8 Q15 ?_; refine j3 (b := (!(xv_4 == xv_5))) (by (simp only [go_sem]; done)) (fun hb_7 => ?_) (fun hb_7 => ?_)
     · replace h := x9 h hb_7; simp only [bool_to_prop] at hb_7; refine sg fun _ Q16 => ?_; refine q0q ?_; refine q0l 8 [0, 0, 3, 7, 0, 0, 48, 112, 255, 511] mixed (by kernel_rfl) (of_decide_eq_true (by kernel_rfl)) (by kernel_rfl) ?_; obtain ⟨g_6, h⟩ := q0k h; obtain ⟨xv_6, ex6, h⟩ := q9 h; obtain ⟨f6a, f6b, f6c, fxv_6d⟩ := qa5 (f := (fun y => AV.v (.int .i64 y))) [.v (.int .i64 a_0.D)] [] ex6; simp only [List.cons_append, List.nil_append, List.append_nil, List.map_cons, List.map_nil, List.length_cons, List.length_nil, Nat.zero_add, Nat.reduceAdd] at f6b f6c fxv_6d; obtain ⟨g_7, h⟩ := q0k h; obtain ⟨xv_7, ex7, h⟩ := q9 h; obtain ⟨f7a, f7b, f7c, fxv_7d⟩ := qa5 (f := (fun y => AV.v (.int .i64 y))) [.v (.int .i64 b_0.D)] [] ex7; simp only [List.cons_append, List.nil_append, List.append_nil, List.map_cons, List.map_nil, List.length_cons, List.length_nil, Nat.zero_add, Nat.reduceAdd] at f7b f7c fxv_7d; simp only [go_sem, g_6, f6a, f6b, f6c, fxv_6d, g_7, f7a, f7b, f7c, fxv_7d]; refine And.intro (by omega) ?_; refine And.intro (by omega) ?_; simp only [List.getD_eq_getElem?_getD, Nat.mul_one, fxv_6d, Option.map_some, Option.getD_some, true_and, List.getD_eq_getElem?_getD, Nat.mul_one, fxv_7d, Option.map_some, Option.getD_some, true_and]; refine q8 Q16 (z8 (y9 Q13 (y5 Q12 (q04 Q9 (y9 Q8 (y5 Q6 ?_)))))); simp only [go_sem]; obtain rfl := Option.some.inj h; refine j5 rfl ?_; simp only [go_sem, Le]
     · replace h := u6 h hb_7; simp only [bool_to_prop] at hb_7; refine j4 (y8 Q13 (q8 Q12 ?_)); simp only [go_sem]; refine w9 Q9 (⟨(m_1, i64.wrap (t19_1 + 1)), [some 0, some 1], ?_, h, Nat.lt_succ_self _⟩); simp only [go_sem, Le] <;> (repeat' apply And.intro) <;> (try with_reducible refine x8 ?_) <;> first | omega | (simp [go_sem]; done)
    · replace h := u6 h hb_6; simp only [bool_to_prop] at hb_6; refine q03 (q09 Q11 (q07 Q9 (d9 Q8 (q8 Q6 (sg fun _ Q17 => ?_))))); simp only [go_sem]; refine q8 Q17 (z8 ?_); simp only [go_sem]; obtain rfl := Option.some.inj h; refine j5 rfl ?_; simp only [go_sem, Le]

def q8p (nv_0 : Int) : Option Bool :=
 some ((decide ((-2147483648) ≤ nv_0)) && (decide (nv_0 ≤ 2147483648)))
theorem qm3 (nv_0 : Int)  (r : Bool) (h : q8p nv_0 = some r) : PureS Tryz.prog 156 [.v (.int .i64 nv_0)] 0 (.v (.bool r)) := by
 unfold PureS; refine Spec.of_vc Tryz.func156 rfl (by kernel_rfl) (by kernel_rfl) ?_; rw [q8p] at h; refine sg fun _ Q1 => ?_; simp only [go_sem]; refine q8 Q1 (sg fun _ Q2 => ?_); simp only [go_sem]; refine q8 Q2 (z8 ?_); simp only [go_sem]; obtain rfl := Option.some.inj h; refine j5 rfl ?_; simp only [go_sem, Le]

def q5k (xv_0 : Int) : Option Bool :=
 some (!(xv_0 == xv_0))
theorem qd0 (xv_0 : Int)  (r : Bool) (h : q5k xv_0 = some r) : PureS Tryz.prog 244 [.v (.int .i64 xv_0)] 0 (.v (.bool r)) := by
 unfold PureS; refine Spec.of_vc Tryz.func244 rfl (by kernel_rfl) (by kernel_rfl) ?_; rw [q5k] at h; refine sg fun _ Q1 => ?_; simp only [go_sem]; refine q8 Q1 (sg fun _ Q2 => ?_); simp only [go_sem]; refine q8 Q2 (z8 ?_); simp only [go_sem]; obtain rfl := Option.some.inj h; refine j5 rfl ?_; simp only [go_sem, Le]

def q3r (xv_0 : Int) (y_0 : Int) : Option Int :=
 j6 (q5k xv_0) (fun (v_0 : Bool) =>
 j6 (q5k y_0) (fun (v_1 : Bool) =>
 (if v_0 = true then (if v_1 = true then some 0
 else some (-1))
 else (if v_1 = true then some 1
 else (if (decide (xv_0 < y_0)) = true then some (-1)
 else (if (decide (y_0 < xv_0)) = true then some 1
 else some 0))))))
theorem q9k (xv_0 : Int) (y_0 : Int)  (r : Int) (h : q3r xv_0 y_0 = some r) : PureS Tryz.prog 229 [.v (.int .i64 xv_0), .v (.int .i64 y_0)] 0 (.v (.int .i64 r)) := by
 unfold PureS; refine Spec.of_vc Tryz.func229 rfl (by kernel_rfl) (by kernel_rfl) ?_; rw [q3r] at h; refine sg fun _ Q1 => ?_; simp only [go_sem]; refine q8 Q1 (sg fun _ Q2 => ?_); obtain ⟨v_0, ev_0, h⟩ := q9 h; simp only [go_sem]; refine q0f (qd0 xv_0 v_0 ev_0) (by rfl) (by rfl) ?_; simp only [go_sem]; refine q8 Q2 (sg fun _ Q3 => ?_); obtain ⟨v_1, ev_1, h⟩ := q9 h; simp only [go_sem]; refine q0f (qd0 y_0 v_1 ev_1) (by rfl) (by rfl) ?_; simp only [go_sem]; refine q8 Q3 (sg fun _ Q4 => ?_); refine sg fun _ Q5 => ?_; simp only [go_sem]; refine q8 Q5 ?_; refine j3 (b := v_0) (by (simp only [go_sem]; done)) (fun hb_0 => ?_) (fun hb_0 => ?_)
 ·
  replace h := x9 h hb_0; refine sg fun _ Q6 => ?_; refine sg fun _ Q7 => ?_; simp only [go_sem]; refine q8 Q7 ?_; refine j3 (b := v_1) (by (simp only [go_sem]; done)) (fun hb_1 => ?_) (fun hb_1 => ?_)
  · replace h := x9 h hb_1; refine sg fun _ Q8 => ?_; simp only [go_sem]; refine q8 Q8 (z8 (y5 Q6 (y5 Q4 ?_))); simp only [go_sem]; obtain rfl := Option.some.inj h; refine j5 rfl ?_; simp only [go_sem, Le]
  · replace h := u6 h hb_1; refine j4 (q8 Q6 (sg fun _ Q9 => ?_)); simp only [go_sem]; refine q8 Q9 (z8 (y5 Q4 ?_)); simp only [go_sem]; obtain rfl := Option.some.inj h; refine j5 rfl ?_; simp only [go_sem, Le]
 ·
  replace h := u6 h hb_0; refine j4 (q8 Q4 (sg fun _ Q10 => ?_)); refine sg fun _ Q11 => ?_; simp only [go_sem]; refine q8 Q11 ?_; refine j3 (b := v_1) (by (simp only [go_sem]; done)) (fun hb_2 => ?_) (fun hb_2 => ?_)
  · replace h := x9 h hb_2; refine sg fun _ Q12 => ?_; simp only [go_sem]; refine q8 Q12 (z8 (y5 Q10 ?_)); simp only [go_sem]; obtain rfl := Option.some.inj h; refine j5 rfl ?_; simp only [go_sem, Le]
  ·
   replace h := u6 h hb_2; refine j4 (q8 Q10 (sg fun _ Q13 => ?_)); refine sg fun _ Q14 => ?_; simp only [go_sem]; refine q8 Q14 ?_; refine j3 (b := (decide (xv_0 < y_0))) (by (simp only [go_sem]; done)) (fun hb_3 => ?_) (fun hb_3 => ?_)
   · replace h := x9 h hb_3; simp only [bool_to_prop] at hb_3; refine sg fun _ Q15 => ?_; simp only [go_sem]; refine q8 Q15 (z8 (y5 Q13 ?_)); simp only [go_sem]; obtain rfl := Option.some.inj h; refine j5 rfl ?_; simp only [go_sem, Le]
   ·
    replace h := u6 h hb_3; simp only [bool_to_prop] at hb_3; refine j4 (q8 Q13 (sg fun _ Q16 => ?_)); refine sg fun _ Q17 => ?_; simp only [go_sem]; refine q8 Q17 ?_; refine j3 (b := (decide (y_0 < xv_0))) (by (simp only [go_sem]; done)) (fun hb_4 => ?_) (fun hb_4 => ?_)
    · replace h := x9 h hb_4; simp only [bool_to_prop] at hb_4; refine sg fun _ Q18 => ?_; simp only [go_sem]; refine q8 Q18 (z8 (y5 Q16 ?_)); simp only [go_sem]; obtain rfl := Option.some.inj h; refine j5 rfl ?_; simp only [go_sem, Le]
    · replace h := u6 h hb_4; simp only [bool_to_prop] at hb_4; refine j4 (q8 Q16 (sg fun _ Q19 => ?_)); simp only [go_sem]; refine q8 Q19 (z8 ?_); simp only [go_sem]; obtain rfl := Option.some.inj h; refine j5 rfl ?_; simp only [go_sem, Le]

def q6i (vals_0 : List Int) (rec_1 : Int → Option Int) : Int → Option Int :=
 fun t8_1 =>
 (if (decide (t8_1 < (List.length vals_0 : Int))) = true then j6 (idx vals_0 t8_1) (fun (xv_2 : Int) =>
 (if (!(xv_2 == 0)) = true then some xv_2
 else rec_1 (i64.wrap (t8_1 + 1))))
 else some 0)
def q8o (vals_0 : List Int) : Option Int :=
 p9 (q6i vals_0) rounds 0
theorem z1d (vals_0 : List Int)  (r : Int) (h : q8o vals_0 = some r) : PureS Tryz.prog 55 [.sl 1 (enc vals_0)] 0 (.v (.int .i64 r)) := by
 unfold PureS; refine Spec.of_vc Tryz.func55 rfl (by kernel_rfl) (by kernel_rfl) ?_; rw [q8o] at h; refine sg fun _ Q1 => ?_; simp only [go_sem]; refine q8 Q1 (sg fun _ Q2 => ?_); simp only [go_sem]; refine q8 Q2 (q0a (by kernel_rfl) ?_); refine q0c ?_; intro _ Q3; refine sg fun _ Q4 => ?_; simp only [go_sem]; refine q8 Q4 (y7 ?_); intro _ Q5; refine q06 ?_; refine q0g (ι := Nat × Int) (fun ((_, t8_1) : Nat × Int) => (⟨0, [(3, .v (.int .i64 0)), (6, .sl 1 (enc vals_0)), (7, .v (.int .i64 (List.length vals_0 : Int))), (8, .v (.int .i64 t8_1))], [], 0, 18⟩ : St)) (fun ((n_, t8_1) : Nat × Int) => p9 (q6i vals_0) n_ t8_1 = some r) (fun p => p.1) (rounds, 0) [] ?_ h ?_
 · simp only [go_sem, Le]
 ·
  rintro ⟨n_1, t8_1⟩ h _ Q6; dsimp only at h; replace h := q08 h; obtain ⟨m_1, rfl, h⟩ := h; rw [q6i] at h; refine sg fun _ Q7 => ?_; simp only [go_sem]; refine q8 Q7 (sg fun _ Q8 => ?_); refine j3 (b := (decide (t8_1 < (List.length vals_0 : Int)))) (by (simp only [go_sem]; done)) (fun hb_4 => ?_) (fun hb_4 => ?_)
  ·
   replace h := x9 h hb_4; simp only [bool_to_prop] at hb_4; refine j4 (q8 Q8 (sg fun _ Q9 => ?_)); refine y7 ?_; intro _ Q10; refine sg fun _ Q11 => ?_; obtain ⟨xv_2, ex2, h⟩ := q9 h; obtain ⟨f2a, f2b, f2c⟩ := u7 ex2; simp only [go_sem, f2a, f2b, f2c]; refine And.intro (by omega) ?_; refine q8 Q11 (sg fun _ Q12 => ?_); simp only [go_sem]; refine q8 Q12 ?_; refine j3 (b := (!(xv_2 == 0))) (by (simp only [go_sem]; done)) (fun hb_5 => ?_) (fun hb_5 => ?_)
   · replace h := x9 h hb_5; simp only [bool_to_prop] at hb_5; refine sg fun _ Q13 => ?_; simp only [go_sem]; refine q8 Q13 (z8 (y9 Q10 (y5 Q9 (q04 Q6 (y9 Q5 (y5 Q3 ?_)))))); simp only [go_sem]; obtain rfl := Option.some.inj h; refine j5 rfl ?_; simp only [go_sem, Le]
   · replace h := u6 h hb_5; simp only [bool_to_prop] at hb_5; refine j4 (y8 Q10 (q8 Q9 ?_)); simp only [go_sem]; refine w9 Q6 (⟨(m_1, i64.wrap (t8_1 + 1)), [], ?_, h, Nat.lt_succ_self _⟩); simp only [go_sem, Le]
  · replace h := u6 h hb_4; simp only [bool_to_prop] at hb_4; refine q03 (q09 Q8 (q07 Q6 (d9 Q5 (q8 Q3 (sg fun _ Q14 => ?_))))); simp only [go_sem]; refine q8 Q14 (z8 ?_); simp only [go_sem]; obtain rfl := Option.some.inj h; refine j5 rfl ?_; simp only [go_sem, Le]

def q81 (a_0 : GRec) (b_0 : GRec) : Option Int :=
 j6 (q3r a_0.K b_0.K) (fun (v_0 : Int) =>
 j6 (q3r a_0.V b_0.V) (fun (v_1 : Int) =>
 j6 (q8o ([v_0, v_1] : List Int)) (fun (v_2 : Int) =>
 some v_2)))
theorem qs0 (a_0 : GRec) (b_0 : GRec)  (r : Int) (h : q81 a_0 b_0 = some r) : PureS Tryz.prog 203 [.agg [.v (.int .i64 a_0.K), .v (.int .i64 a_0.V)], .agg [.v (.int .i64 b_0.K), .v (.int .i64 b_0.V)]] 0 (.v (.int .i64 r)) := by
 unfold PureS; refine Spec.of_vc Tryz.func203 rfl (by kernel_rfl) (by kernel_rfl) ?_; rw [q81] at h; refine sg fun _ Q1 => ?_; simp only [go_sem]; refine q8 Q1 (sg fun _ Q2 => ?_); refine q0q ?_; refine q0l 9 [0, 1, 0, 4, 15, 0, 32, 0, 128, 511, 1023, 2047, 4095] mixed (by kernel_rfl) (of_decide_eq_true (by kernel_rfl)) (by kernel_rfl) ?_; obtain ⟨v_0, ev_0, h⟩ := q9 h; simp only [go_sem]; refine callq (fun _ => (q9k a_0.K b_0.K v_0 ev_0)) (by rfl) (by rfl) ?_; obtain ⟨v_1, ev_1, h⟩ := q9 h; simp only [go_sem]; refine q0f (q9k a_0.V b_0.V v_1 ev_1) (by rfl) (by rfl) ?_; have rf_0 : [[.v (.int .i64 v_0)], [.v (.int .i64 v_1)]] = enc ([v_0, v_1] : List Int) := by rfl
 obtain ⟨v_2, ev_2, h⟩ := q9 h; simp only [go_sem]; simp only [rf_0]; refine qg9 (s' := (⟨0, [(0, .agg [.v (.int .i64 a_0.K), .v (.int .i64 a_0.V)]), (1, .agg [.v (.int .i64 b_0.K), .v (.int .i64 b_0.V)]), (2, .ptr 0 0), (3, .ptr 1 0), (4, .v (.int .i64 0)), (5, .ptr 0 0), (6, .v (.int .i64 a_0.K)), (7, .ptr 1 0), (8, .v (.int .i64 b_0.K)), (9, .v (.int .i64 v_0)), (10, .ptr 0 1), (11, .v (.int .i64 a_0.V)), (12, .ptr 1 1), (13, .v (.int .i64 b_0.V)), (14, .v (.int .i64 v_1)), (15, .sl 1 (enc ([v_0, v_1] : List Int)))], [(0, .box [.v (.int .i64 a_0.K), .v (.int .i64 a_0.V)]), (1, .box [.v (.int .i64 b_0.K), .v (.int .i64 b_0.V)])], 2, 17⟩ : St)) (l := [some 0, some 1]) (args' := [.sl 1 (enc ([v_0, v_1] : List Int))]) ?_ ?_ (z1d ([v_0, v_1] : List Int) v_2 ev_2) (by rfl) (by rfl) ?_
 · simp only [go_sem, Le] <;> (repeat' apply And.intro) <;> (try with_reducible refine x8 ?_) <;> first | omega | (simp [go_sem]; done)
 · simp only [go_sem, Le] <;> (repeat' apply And.intro) <;> ((try with_reducible refine x8 ?_); (simp [go_sem]; done))
 simp only [go_sem]; refine q8 Q2 (z8 ?_); simp only [go_sem]; obtain rfl := Option.some.inj h; refine j5 rfl ?_; simp only [go_sem, Le]

def qd4 (a_0 : GRec) (b_0 : GRec) : Option Bool :=
 j6 (q81 a_0 b_0) (fun (v_0 : Int) =>
 some (decide (v_0 < 0)))
theorem z3l (a_0 : GRec) (b_0 : GRec)  (r : Bool) (h : qd4 a_0 b_0 = some r) : PureS Tryz.prog 157 [.agg [.v (.int .i64 a_0.K), .v (.int .i64 a_0.V)], .agg [.v (.int .i64 b_0.K), .v (.int .i64 b_0.V)]] 0 (.v (.bool r)) := by
 unfold PureS; refine Spec.of_vc Tryz.func157 rfl (by kernel_rfl) (by kernel_rfl) ?_; rw [qd4] at h; refine sg fun _ Q1 => ?_; simp only [go_sem]; refine q8 Q1 (sg fun _ Q2 => ?_); obtain ⟨v_0, ev_0, h⟩ := q9 h; simp only [go_sem]; refine q0f (qs0 a_0 b_0 v_0 ev_0) (by rfl) (by rfl) ?_; simp only [go_sem]; refine q8 Q2 (z8 ?_); simp only [go_sem]; obtain rfl := Option.some.inj h; refine j5 rfl ?_; simp only [go_sem, Le]

def q2c (xv_0 : List GItem) (target_0 : GRec) (cmp_0 : GItem → GRec → Option Int) (i_2 : Int) : Option (Int × Bool) :=
 (if (decide (i_2 < (List.length xv_0 : Int))) = true then j6 (idx xv_0 i_2) (fun (xv_4 : GItem) =>
 j6 (cmp_0 xv_4 target_0) (fun (v_3 : Int) =>
 some (i_2, (v_3 == 0))))
 else some (i_2, false))
def q2d (xv_0 : List GItem) (target_0 : GRec) (cmp_0 : GItem → GRec → Option Int) (rec_2 : Int × Int → Option (Int × Bool)) : Int × Int → Option (Int × Bool) :=
 fun (i_4, j_3) =>
 (if (decide (i_4 < j_3)) = true then j6 (idx xv_0 (i64.wrap (q7d .u64 (IntKind.u64.wrap (i64.wrap (i_4 + j_3))) 1))) (fun (xv_7 : GItem) =>
 j6 (cmp_0 xv_7 target_0) (fun (v_6 : Int) =>
 (if (decide (v_6 < 0)) = true then rec_2 (i64.wrap ((i64.wrap (q7d .u64 (IntKind.u64.wrap (i64.wrap (i_4 + j_3))) 1)) + 1), j_3)
 else rec_2 (i_4, i64.wrap (q7d .u64 (IntKind.u64.wrap (i64.wrap (i_4 + j_3))) 1)))))
 else q2c xv_0 target_0 cmp_0 i_4)
def q21 (xv_0 : List GItem) (target_0 : GRec) (cmp_0 : GItem → GRec → Option Int) : Option (Int × Bool) :=
 p9 (q2d xv_0 target_0 cmp_0) rounds (0, (List.length xv_0 : Int))
theorem qa3 (xv_0 : List GItem) (target_0 : GRec) (cmp_0 : GItem → GRec → Option Int) (g_cmp_0 : FuncId) (c_cmp_0 : List AV) (F_cmp_0 : q0n c_cmp_0 = true) (E_cmp_0 : q02 Tryz.prog g_cmp_0 = true) (H_cmp_0 : ∀ (x0 : GItem) (x1 : GRec) (r : Int), cmp_0 x0 x1 = some r → PureS Tryz.prog g_cmp_0 ([.agg [.v (.int .i64 x0.Rec.K), .v (.int .i64 x0.Rec.V), .v (.int .i64 x0.N)], .agg [.v (.int .i64 x1.K), .v (.int .i64 x1.V)]] ++ c_cmp_0) 0 (.v (.int .i64 r))) (r : Int × Bool) (h : q21 xv_0 target_0 cmp_0 = some r) : PureS Tryz.prog 232 [.sl 3 (enc xv_0), .agg [.v (.int .i64 target_0.K), .v (.int .i64 target_0.V)], .clo g_cmp_0 c_cmp_0] 0 (.tup [.v (.int .i64 r.1), .v (.bool r.2)]) := by
 unfold PureS; refine Spec.of_vc Tryz.func232 rfl (by kernel_rfl) (by kernel_rfl) ?_; rw [q21] at h; refine sg fun _ Q1 => ?_; simp only [go_sem]; refine q8 Q1 (sg fun _ Q2 => ?_); simp only [go_sem]; refine q8 Q2 (sg fun _ Q3 => ?_); simp only [go_sem]; refine q8 Q3 (q0a (by kernel_rfl) ?_); refine q0x (ι := Int) (fun (i_2 : Int) => (⟨0, [(0, .sl 3 (enc xv_0)), (2, .clo g_cmp_0 c_cmp_0), (4, .ptr 0 0), (8, .v (.int .i64 (List.length xv_0 : Int))), (9, .v (.int .i64 i_2))], [(0, .box [.v (.int .i64 target_0.K), .v (.int .i64 target_0.V)])], 1, 49⟩ : St)) (fun (i_2 : Int) => q2c xv_0 target_0 cmp_0 i_2 = some r) ?_ ?_
 ·
  intro _ Q5; refine y7 ?_; intro _ Q6; refine q06 ?_; refine q0g (ι := Nat × Int × Int) (fun ((_, i_4, j_3) : Nat × Int × Int) => (⟨0, [(0, .sl 3 (enc xv_0)), (2, .clo g_cmp_0 c_cmp_0), (4, .ptr 0 0), (8, .v (.int .i64 (List.length xv_0 : Int))), (9, .v (.int .i64 i_4)), (10, .v (.int .i64 j_3))], [(0, .box [.v (.int .i64 target_0.K), .v (.int .i64 target_0.V)])], 1, 49⟩ : St)) (fun ((n_, i_4, j_3) : Nat × Int × Int) => p9 (q2d xv_0 target_0 cmp_0) n_ (i_4, j_3) = some r) (fun p => p.1) (rounds, 0, (List.length xv_0 : Int)) [some 0] ?_ h ?_
  · simp only [go_sem, Le, q0b _ F_cmp_0]
  ·
   rintro ⟨n_2, i_4, j_3⟩ h _ Q7; dsimp only at h; replace h := q08 h; obtain ⟨m_2, rfl, h⟩ := h; rw [q2d] at h; refine sg fun _ Q8 => ?_; refine sg fun _ Q9 => ?_; simp only [go_sem]; refine q8 Q9 ?_; refine j3 (b := (decide (i_4 < j_3))) (by (simp only [go_sem]; done)) (fun hb_11 => ?_) (fun hb_11 => ?_)
   ·
    replace h := x9 h hb_11; simp only [bool_to_prop] at hb_11; refine j4 (q8 Q8 (y7 ?_)); intro _ Q10; refine sg fun _ Q11 => ?_; simp only [go_sem]; refine q8 Q11 (sg fun _ Q12 => ?_); refine q0q ?_; refine q0l 6 [0, 0, 0, 6, 14, 0, 63, 127] mixed (by kernel_rfl) (of_decide_eq_true (by kernel_rfl)) (by kernel_rfl) ?_; obtain ⟨xv_7, ex7, h⟩ := q9 h; obtain ⟨f7a, f7b, f7c⟩ := u7 ex7; obtain ⟨v_6, ev_6, h⟩ := q9 h; simp only [go_sem, f7a, f7b, f7c, E_cmp_0]; refine And.intro (by omega) ?_; refine q0f (H_cmp_0 xv_7 target_0 v_6 ev_6) (by rfl) (by simp [q0n, q0y, F_cmp_0]) ?_; simp only [go_sem]; refine q8 Q12 ?_; refine j3 (b := (decide (v_6 < 0))) (by (simp only [go_sem]; done)) (fun hb_12 => ?_) (fun hb_12 => ?_)
    · replace h := x9 h hb_12; simp only [bool_to_prop] at hb_12; simp only [go_sem]; refine y8 Q10 (w9 Q7 (⟨(m_2, i64.wrap ((i64.wrap (q7d .u64 (IntKind.u64.wrap (i64.wrap (i_4 + j_3))) 1)) + 1), j_3), [some 0], ?_, h, Nat.lt_succ_self _⟩)); simp only [go_sem, Le, q0b _ F_cmp_0]
    · replace h := u6 h hb_12; simp only [bool_to_prop] at hb_12; simp only [go_sem]; refine y8 Q10 (w9 Q7 (⟨(m_2, i_4, i64.wrap (q7d .u64 (IntKind.u64.wrap (i64.wrap (i_4 + j_3))) 1)), [some 0], ?_, h, Nat.lt_succ_self _⟩)); simp only [go_sem, Le, q0b _ F_cmp_0]
   · replace h := u6 h hb_11; simp only [bool_to_prop] at hb_11; refine q03 (q09 Q8 (q07 Q7 (d9 Q6 (w9 Q5 (⟨i_4, [some 0], ?_, h⟩))))); simp only [go_sem, Le, q0b _ F_cmp_0]
 ·
  rintro i_2 h
  try dsimp only at h
  rw [q2c] at h; refine sg fun _ Q4 => ?_; refine q0q ?_; refine q0l 15 [0, 0, 0, 6, 14, 30, 30, 30, 222, 478, 30, 2046, 4094, 8190, 4095, 32767] mixed (by kernel_rfl) (of_decide_eq_true (by kernel_rfl)) (by kernel_rfl) ?_; simp only [go_sem]; rcases hb_6 : (decide (i_2 < (List.length xv_0 : Int))) with _ | _
  · replace h := u6 h hb_6; simp only [go_sem, hb_6]; refine q8 Q4 (z8 ?_); simp only [go_sem]; obtain rfl := Option.some.inj h; refine j5 rfl ?_; simp only [go_sem, Le, q0b _ F_cmp_0]
  · replace h := x9 h hb_6; obtain ⟨xv_4, ex4, h⟩ := q9 h; obtain ⟨f4a, f4b, f4c⟩ := u7 ex4; obtain ⟨v_3, ev_3, h⟩ := q9 h; simp only [go_sem, hb_6, f4a, f4b, f4c, E_cmp_0]; refine And.intro (by omega) ?_; refine And.intro (by omega) ?_; refine callq (fun _ => (H_cmp_0 xv_4 target_0 v_3 ev_3)) (by rfl) (by simp [q0n, q0y, F_cmp_0]) ?_; simp only [go_sem]; refine q8 Q4 (z8 ?_); simp only [go_sem]; obtain rfl := Option.some.inj h; refine j5 rfl ?_; simp only [go_sem, Le, q0b _ F_cmp_0]

def q6r (xv_0 : GItem) (rv_0 : GRec) : Option Int :=
 j6 (q81 xv_0.Rec rv_0) (fun (v_0 : Int) =>
 some v_0)
theorem z1z (xv_0 : GItem) (rv_0 : GRec)  (r : Int) (h : q6r xv_0 rv_0 = some r) : PureS Tryz.prog 233 [.agg [.v (.int .i64 xv_0.Rec.K), .v (.int .i64 xv_0.Rec.V), .v (.int .i64 xv_0.N)], .agg [.v (.int .i64 rv_0.K), .v (.int .i64 rv_0.V)]] 0 (.v (.int .i64 r)) := by
 unfold PureS; refine Spec.of_vc Tryz.func233 rfl (by kernel_rfl) (by kernel_rfl) ?_; rw [q6r] at h; refine sg fun _ Q1 => ?_; simp only [go_sem]; refine q8 Q1 (sg fun _ Q2 => ?_); obtain ⟨v_0, ev_0, h⟩ := q9 h; simp only [go_sem]; refine q0f (qs0 xv_0.Rec rv_0 v_0 ev_0) (by rfl) (by rfl) ?_; simp only [go_sem]; refine q8 Q2 (z8 ?_); simp only [go_sem]; obtain rfl := Option.some.inj h; refine j5 rfl ?_; simp only [go_sem, Le]

def q74 (b_0 : List GItem) (rec_1 : Int → Option Bool) : Int → Option Bool :=
 fun t7_1 =>
 (if (decide (t7_1 < (List.length b_0 : Int))) = true then j6 (idx b_0 t7_1) (fun (xv_4 : GItem) =>
 (if (xv_4.N == 0) = true then some false
 else j6 (q8p xv_4.N) (fun (v_4 : Bool) =>
 (if v_4 = true then (if (decide (0 < t7_1)) = true then j6 (idx b_0 (i64.wrap (t7_1 - 1))) (fun (xv_5 : GItem) =>
 j6 (qd4 xv_5.Rec xv_4.Rec) (fun (v_5 : Bool) =>
 (if (!v_5) = true then some false
 else rec_1 (i64.wrap (t7_1 + 1)))))
 else rec_1 (i64.wrap (t7_1 + 1)))
 else some false))))
 else some true)
def q1c (b_0 : List GItem) : Option Bool :=
 p9 (q74 b_0) rounds 0
theorem q2j (b_0 : List GItem)  (r : Bool) (h : q1c b_0 = some r) : PureS Tryz.prog 93 [.sl 3 (enc b_0)] 0 (.v (.bool r)) := by
 unfold PureS; refine Spec.of_vc Tryz.func93 rfl (by kernel_rfl) (by kernel_rfl) ?_; rw [q1c] at h; refine sg fun _ Q1 => ?_; simp only [go_sem]; refine q8 Q1 (q0a (by kernel_rfl) ?_); refine q0c ?_; intro _ Q2; refine sg fun _ Q3 => ?_; simp only [go_sem]; refine q8 Q3 (y7 ?_); intro _ Q4; refine q06 ?_; refine q0g (ι := Nat × Int) (fun ((_, t7_1) : Nat × Int) => (⟨0, [(0, .sl 3 (enc b_0)), (5, .sl 3 (enc b_0)), (6, .v (.int .i64 (List.length b_0 : Int))), (7, .v (.int .i64 t7_1))], [], 0, 38⟩ : St)) (fun ((n_, t7_1) : Nat × Int) => p9 (q74 b_0) n_ t7_1 = some r) (fun p => p.1) (rounds, 0) [] ?_ h ?_
 · simp only [go_sem, Le]
 ·
  rintro ⟨n_1, t7_1⟩ h _ Q5; dsimp only at h; replace h := q08 h; obtain ⟨m_1, rfl, h⟩ := h; rw [q74] at h; refine sg fun _ Q6 => ?_; simp only [go_sem]; refine q8 Q6 (sg fun _ Q7 => ?_); refine j3 (b := (decide (t7_1 < (List.length b_0 : Int)))) (by (simp only [go_sem]; done)) (fun hb_10 => ?_) (fun hb_10 => ?_)
  ·
   replace h := x9 h hb_10; simp only [bool_to_prop] at hb_10; refine j4 (q8 Q7 (sg fun _ Q8 => ?_)); refine y7 ?_; intro _ Q9; refine sg fun _ Q10 => ?_; obtain ⟨xv_4, ex4, h⟩ := q9 h; obtain ⟨f4a, f4b, f4c⟩ := u7 ex4; simp only [go_sem, f4a, f4b, f4c]; refine And.intro (by omega) ?_; refine q8 Q10 (sg fun _ Q11 => ?_); refine q0q ?_; refine q0l 21 [0, 1, 3, 7, 15, 31, 63, 127, 255, 511, 1023, 2047, 4095, 8191, 8191, 24575, 65535, 131071, 262143, 8191, 532479, 2097151, 4194303, 8388607, 16777215] mixed (by kernel_rfl) (of_decide_eq_true (by kernel_rfl)) (by kernel_rfl) ?_; simp only [go_sem]; rcases hb_11 : (xv_4.N == 0) with _ | _
   ·
    replace h := u6 h hb_11; obtain ⟨v_4, ev_4, h⟩ := q9 h; simp only [go_sem, hb_11]; refine callq (fun _ => (qm3 xv_4.N v_4 ev_4)) (by rfl) (by rfl) ?_; simp only [go_sem]; rcases hb_12 : v_4 with _ | _
    · replace h := u6 h hb_12; simp only [go_sem, hb_12]; refine q8 Q11 ?_; refine q0o (by (simp only [go_sem]; done)) ?_; refine sg fun _ Q12 => ?_; simp only [go_sem]; refine q8 Q12 (z8 (y9 Q9 (y5 Q8 (q04 Q5 (y9 Q4 (y5 Q2 ?_)))))); simp only [go_sem]; obtain rfl := Option.some.inj h; refine j5 rfl ?_; simp only [go_sem, Le]
    ·
     replace h := x9 h hb_12; simp only [go_sem, hb_12]; rcases hb_13 : (decide (0 < t7_1)) with _ | _
     · replace h := u6 h hb_13; simp only [go_sem, hb_13]; refine q8 Q11 ?_; refine q55 (by (simp only [go_sem]; done)) ?_; refine j4 (y8 Q9 (q8 Q8 ?_)); simp only [go_sem]; refine w9 Q5 (⟨(m_1, i64.wrap (t7_1 + 1)), [], ?_, h, Nat.lt_succ_self _⟩); simp only [go_sem, Le]
     ·
      replace h := x9 h hb_13; obtain ⟨xv_5, ex5, h⟩ := q9 h; obtain ⟨f5a, f5b, f5c⟩ := u7 ex5; obtain ⟨v_5, ev_5, h⟩ := q9 h; simp only [go_sem, hb_13, f5a, f5b, f5c]; refine And.intro (by omega) ?_; refine q0f (z3l xv_5.Rec xv_4.Rec v_5 ev_5) (by rfl) (by rfl) ?_; simp only [go_sem]; refine q8 Q11 ?_; refine j3 (b := (!v_5)) (by (simp only [go_sem]; done)) (fun hb_14 => ?_) (fun hb_14 => ?_)
      · replace h := x9 h hb_14; simp only [bool_to_prop] at hb_14; refine sg fun _ Q13 => ?_; simp only [go_sem]; refine q8 Q13 (z8 (y9 Q9 (y5 Q8 (q04 Q5 (y9 Q4 (y5 Q2 ?_)))))); simp only [go_sem]; obtain rfl := Option.some.inj h; refine j5 rfl ?_; simp only [go_sem, Le]
      · replace h := u6 h hb_14; simp only [bool_to_prop] at hb_14; refine j4 (y8 Q9 (q8 Q8 ?_)); simp only [go_sem]; refine w9 Q5 (⟨(m_1, i64.wrap (t7_1 + 1)), [], ?_, h, Nat.lt_succ_self _⟩); simp only [go_sem, Le]
   · replace h := x9 h hb_11; simp only [go_sem, hb_11]; refine q8 Q11 ?_; refine q0o (by (simp only [go_sem]; done)) ?_; refine sg fun _ Q14 => ?_; simp only [go_sem]; refine q8 Q14 (z8 (y9 Q9 (y5 Q8 (q04 Q5 (y9 Q4 (y5 Q2 ?_)))))); simp only [go_sem]; obtain rfl := Option.some.inj h; refine j5 rfl ?_; simp only [go_sem, Le]
  · replace h := u6 h hb_10; simp only [bool_to_prop] at hb_10; refine q03 (q09 Q7 (q07 Q5 (d9 Q4 (q8 Q2 (sg fun _ Q15 => ?_))))); simp only [go_sem]; refine q8 Q15 (z8 ?_); simp only [go_sem]; obtain rfl := Option.some.inj h; refine j5 rfl ?_; simp only [go_sem, Le]

def q61 (s_0 : List GItem) : Option (List GItem) :=
 q0v ((List.length ([] : List GItem) + List.length s_0) * 24 ≤ 140737488355328) (
 some (([] : List GItem) ++ s_0))
theorem q97 (s_0 : List GItem)  (r : List GItem) (h : q61 s_0 = some r) : DetS Tryz.prog 211 [.sl 3 (enc s_0)] [] 0 (.osl 0 3 (0) (List.length r)) [(0, .arr 3 (enc r))] 1 := by
 unfold DetS; refine Spec.of_vc Tryz.func211 rfl (by kernel_rfl) (by kernel_rfl) ?_; rw [q61] at h; refine sg fun _ Q1 => ?_; simp only [go_sem]; refine q8 Q1 (sg fun _ Q2 => ?_); refine sg fun _ Q3 => ?_; simp only [go_sem]; intro nb_0 hnb_0; rcases nb_0 with _ | _
 ·
  refine q8 Q3 ?_; refine q55 (by (simp only [go_sem]; done)) ?_; refine j4 (q8 Q2 (sg fun _ Q4 => ?_)); obtain ⟨g_0, h⟩ := q0k h; simp only [List.length_cons, List.length_nil, Nat.zero_add, List.length_append] at g_0; have rf_0 : enc ([] : List GItem) ++ enc s_0 = enc (([] : List GItem) ++ s_0) := by exact (q6a ([] : List GItem) s_0).symm
  simp only [go_sem, g_0, rf_0]; refine q8 Q4 (z8 ?_); simp only [go_sem]; obtain rfl := Option.some.inj h; refine q0e [some 1] ?_; simp only [go_sem, Le]
 ·
  have hE_nb_0 : s_0 = [] := by cases hq : (s_0) with | nil => rfl | cons y ys => exact absurd (hnb_0 (by rw [hq]; simp [enc])) (by simp)
  simp only [hE_nb_0] at h; refine q8 Q3 ?_; refine q0o (by (simp only [go_sem]; done)) ?_; refine sg fun _ Q5 => ?_; simp only [go_sem]; refine q8 Q5 (z8 (y5 Q2 ?_)); simp only [go_sem]; obtain rfl := Option.some.inj h; refine q0e [none] ?_; simp only [go_sem, Le] <;> (repeat' apply And.intro) <;> ((try with_reducible refine x8 ?_); (simp [go_sem]; done))
def q2m (x_0 : List GItem) (i_0 : Int) (v_0 : List GItem) : Option (List GItem) := qk7 24 x_0 i_0 v_0
theorem q9f : InsLay Tryz.prog (qw4 234 247 248 0 3 4 109 110) 3 24 (.agg #[.int .i64 0, .int .i64 0, .int .i64 0] : Value) := { mixed := by kernel_rfl, t0 := Tryz.underlying0, a0 := Tryz.isAgg0, z0 := Tryz.sizeOf0, v0 := Tryz.zeroValue0, t3 := Tryz.underlying3, a3 := Tryz.isAgg3, z3 := Tryz.sizeOf3, v3 := Tryz.zeroValue3, t4 := Tryz.underlying4, a4 := Tryz.isAgg4, z4 := Tryz.sizeOf4, v4 := Tryz.zeroValue4, t24 := Tryz.underlying110, a24 := Tryz.isAgg110, z24 := Tryz.sizeOf110, v24 := Tryz.zeroValue110, z9 := Tryz.sizeOf109, i9 := qy2 (by kernel_rfl), f22 := ⟨"slices.Insert[[]backwash/api.Item,backwash/api.Item]", by decide, by kernel_rfl⟩, ov := ⟨_, Tryz.func247, by kernel_rfl, by kernel_rfl, by kernel_rfl, by kernel_rfl⟩ }
theorem q9g (x_0 : List GItem) (i_0 : Int) (v_0 : List GItem) (r : List GItem) (h : q2m x_0 i_0 v_0 = some r) : DetS Tryz.prog 234 [.osl 0 3 0 (List.length x_0), .v (.int .i64 i_0), .osl 1 3 0 (List.length v_0)] [(0, .arr 3 (enc x_0)), (1, .arr 3 (enc v_0))] 2 (.osl 2 3 0 (List.length r)) [(2, .arr 3 (enc r))] 3 :=
 qt2 q9f (by kernel_rfl) (by kernel_rfl) (by decide) (by rfl) (by decide) rfl (fun _ => rfl) h

def q5l (x_0 : List GItem) (i_0 : Int) (j_0 : Int) : Option (List GItem) := qy7 x_0 i_0 j_0
theorem qd8 : DelLay Tryz.prog (qw4 235 0 0 0 3 4 109 110) 3 (.agg #[.int .i64 0, .int .i64 0, .int .i64 0] : Value) := { mixed := by kernel_rfl, t0 := Tryz.underlying0, a0 := Tryz.isAgg0, z0 := Tryz.sizeOf0, v0 := Tryz.zeroValue0, t3 := Tryz.underlying3, a3 := Tryz.isAgg3, z3 := Tryz.sizeOf3, v3 := Tryz.zeroValue3, t4 := Tryz.underlying4, a4 := Tryz.isAgg4, z4 := Tryz.sizeOf4, v4 := Tryz.zeroValue4, t24 := Tryz.underlying110, a24 := Tryz.isAgg110, z24 := Tryz.sizeOf110, v24 := Tryz.zeroValue110, z9 := Tryz.sizeOf109, v9 := Tryz.zeroValue109, i9 := z4t (b := 24) (by kernel_rfl), f24 := ⟨"slices.Delete[[]backwash/api.Item,backwash/api.Item]", by decide, by kernel_rfl⟩ }
theorem qd9 (x_0 : List GItem) (i_0 : Int) (j_0 : Int) (r : List GItem) (h : q5l x_0 i_0 j_0 = some r) : DetS Tryz.prog 235 [.osl 0 3 0 (List.length x_0), .v (.int .i64 i_0), .v (.int .i64 j_0)] [(0, .arr 3 (enc x_0))] 1 (.osl 1 3 0 (List.length r)) [(1, .arr 3 (enc r))] 2 :=
 z1k qd8 (by kernel_rfl) (by decide) (by rfl) (by rfl) (fun _ => rfl) h

def q52 (b_0 : List GItem) (rv_0 : GRec) (nv_0 : Int) : Option (List GItem) :=
 j6 (q21 b_0 rv_0 (fun x0_ x1_ => q6r x0_ x1_)) (fun (v_0 : Int × Bool) =>
 (if (nv_0 == 0) = true then some b_0
 else j6 (q8p nv_0) (fun (v_1 : Bool) =>
 (if (!v_1) = true then some b_0
 else (if (!v_0.2) = true then j6 (q2m b_0 v_0.1 ([(⟨rv_0, nv_0⟩ : GItem)] : List GItem)) (fun (v_2 : List GItem) =>
 some v_2)
 else j6 (idx b_0 v_0.1) (fun (xv_0 : GItem) =>
 (if ((i64.wrap (xv_0.N + nv_0)) == 0) = true then j6 (q5l b_0 v_0.1 (i64.wrap (v_0.1 + 1))) (fun (v_3 : List GItem) =>
 some v_3)
 else j6 (q8p (i64.wrap (xv_0.N + nv_0))) (fun (v_4 : Bool) =>
 (if v_4 = true then some (List.set b_0 (Int.toNat v_0.1) (⟨xv_0.Rec, i64.wrap (xv_0.N + nv_0)⟩ : GItem))
 else some b_0)))))))))
theorem qh9 (b_0 : List GItem) (rv_0 : GRec) (nv_0 : Int)  (r : List GItem) (h : q52 b_0 rv_0 nv_0 = some r) : DetS Tryz.prog 212 [.osl 0 3 (0) (List.length b_0), .agg [.v (.int .i64 rv_0.K), .v (.int .i64 rv_0.V)], .v (.int .i64 nv_0)] [(0, .arr 3 (enc b_0))] 1 (.osl 1 3 (0) (List.length r)) [(1, .arr 3 (enc r))] 2 := by
 unfold DetS; refine Spec.of_vc Tryz.func212 rfl (by kernel_rfl) (by kernel_rfl) ?_; rw [q52] at h; refine sg fun _ Q1 => ?_; simp only [go_sem]; refine q8 Q1 (sg fun _ Q2 => ?_); obtain ⟨v_0, ev_0, h⟩ := q9 h; simp only [go_sem]; refine qg9 (s' := (⟨1, [(0, .sl 3 (enc b_0)), (1, .agg [.v (.int .i64 rv_0.K), .v (.int .i64 rv_0.V)]), (2, .v (.int .i64 nv_0)), (4, .ptr 1 0), (6, .v (.slice none 0 0)), (10, .sl 3 (enc b_0)), (11, .agg [.v (.int .i64 rv_0.K), .v (.int .i64 rv_0.V)])], [(1, .box [.v (.int .i64 rv_0.K), .v (.int .i64 rv_0.V)])], 2, 66⟩ : St)) (l := [some 1]) (args' := [.sl 3 (enc b_0), .agg [.v (.int .i64 rv_0.K), .v (.int .i64 rv_0.V)], .clo 233 []]) ?_ ?_ (qa3 b_0 rv_0 (fun x0_ x1_ => q6r x0_ x1_) 233 [] (by rfl) (by kernel_rfl) (fun y0 y1 r_ e_ => z1z y0 y1 r_ e_) v_0 ev_0) (by rfl) (by rfl) ?_
 · simp only [go_sem, Le] <;> (repeat' apply And.intro) <;> ((try with_reducible refine x8 ?_); (simp [go_sem]; done))
 · simp only [go_sem, Le] <;> (repeat' apply And.intro) <;> ((try with_reducible refine x8 ?_); (simp [go_sem]; done))
 simp only [go_sem]; refine q8 Q2 (q0a (by kernel_rfl) ?_); refine q0c ?_; intro _ Q3; refine y7 ?_; intro _ Q4; refine sg fun _ Q5 => ?_; simp only [go_sem]; rcases hb_0 : (nv_0 == 0) with _ | _
 ·
  replace h := u6 h hb_0; obtain ⟨v_1, ev_1, h⟩ := q9 h; simp only [go_sem, hb_0]; refine q0f (qm3 nv_0 v_1 ev_1) (by rfl) (by rfl) ?_; simp only [go_sem]; refine q8 Q5 ?_; refine j3 (b := (!v_1)) (by (simp only [go_sem]; done)) (fun hb_1 => ?_) (fun hb_1 => ?_)
  · replace h := x9 h hb_1; simp only [bool_to_prop] at hb_1; refine j4 (y8 Q4 (q8 Q3 (sg fun _ Q6 => ?_))); simp only [go_sem]; refine q8 Q6 (z8 ?_); simp only [go_sem]; obtain rfl := Option.some.inj h; refine q0e [some 0] ?_; simp only [go_sem, Le]
  ·
   replace h := u6 h hb_1; simp only [bool_to_prop] at hb_1; refine sg fun _ Q7 => ?_; simp only [go_sem]; refine q8 Q7 ?_; refine j3 (b := (!v_0.2)) (by (simp only [go_sem]; done)) (fun hb_2 => ?_) (fun hb_2 => ?_)
   ·
    replace h := x9 h hb_2; simp only [bool_to_prop] at hb_2; refine sg fun _ Q8 => ?_; have rf_0 : [[.v (.int .i64 rv_0.K), .v (.int .i64 rv_0.V), .v (.int .i64 nv_0)]] = enc ([(⟨rv_0, nv_0⟩ : GItem)] : List GItem) := by rfl
    obtain ⟨v_2, ev_2, h⟩ := q9 h; simp only [go_sem]; simp only [rf_0]; refine q19 [0, 2] (q9g b_0 v_0.1 ([(⟨rv_0, nv_0⟩ : GItem)] : List GItem) v_2 ev_2) (by simp) rfl ⟨rfl, ⟨rfl, trivial⟩⟩ rfl rfl rfl rfl ?_; simp only [go_sem]; refine q8 Q8 (z8 (y9 Q4 (y5 Q3 ?_))); simp only [go_sem]; obtain rfl := Option.some.inj h; refine q0e [some 3] ?_; simp only [go_sem, Le]
   ·
    replace h := u6 h hb_2; simp only [bool_to_prop] at hb_2; refine sg fun _ Q9 => ?_; obtain ⟨xv_0, ex0, h⟩ := q9 h; obtain ⟨f0a, f0b, f0c⟩ := u7 ex0; simp only [go_sem, f0a, f0b, f0c]; refine And.intro (by omega) ?_; refine q8 Q9 ?_; refine j3 (b := ((i64.wrap (xv_0.N + nv_0)) == 0)) (by (simp only [go_sem]; done)) (fun hb_3 => ?_) (fun hb_3 => ?_)
    · replace h := x9 h hb_3; simp only [bool_to_prop] at hb_3; refine sg fun _ Q10 => ?_; obtain ⟨v_3, ev_3, h⟩ := q9 h; simp only [go_sem]; refine q19 [0] (qd9 b_0 v_0.1 (i64.wrap (v_0.1 + 1)) v_3 ev_3) (by simp) rfl ⟨rfl, trivial⟩ rfl rfl rfl rfl ?_; simp only [go_sem]; refine q8 Q10 (z8 (y9 Q4 (y5 Q3 ?_))); simp only [go_sem]; obtain rfl := Option.some.inj h; refine q0e [some 2] ?_; simp only [go_sem, Le]
    ·
     replace h := u6 h hb_3; simp only [bool_to_prop] at hb_3; refine sg fun _ Q11 => ?_; obtain ⟨v_4, ev_4, h⟩ := q9 h; simp only [go_sem, f0a, f0b, f0c]; refine And.intro (by omega) ?_; refine q0f (qm3 (i64.wrap (xv_0.N + nv_0)) v_4 ev_4) (by rfl) (by rfl) ?_; simp only [go_sem]; refine q8 Q11 ?_; refine j3 (b := v_4) (by (simp only [go_sem]; done)) (fun hb_4 => ?_) (fun hb_4 => ?_)
     ·
      replace h := x9 h hb_4; have rf_1 : (enc b_0).set (Int.toNat v_0.1) [.v (.int .i64 xv_0.Rec.K), .v (.int .i64 xv_0.Rec.V), .v (.int .i64 (i64.wrap (xv_0.N + nv_0)))] = enc (List.set b_0 (Int.toNat v_0.1) (⟨xv_0.Rec, i64.wrap (xv_0.N + nv_0)⟩ : GItem)) := by exact q3s b_0 (Int.toNat v_0.1) (⟨xv_0.Rec, i64.wrap (xv_0.N + nv_0)⟩ : GItem)
      simp only [go_sem, f0a, f0b, f0c, rf_1]; refine And.intro (by omega) ?_; refine And.intro (by omega) ?_; refine y8 Q4 (q8 Q3 (sg fun _ Q12 => ?_)); simp only [go_sem]; refine q8 Q12 (z8 ?_); simp only [go_sem]; obtain rfl := Option.some.inj h; refine q0e [some 0] ?_; simp only [go_sem, Le]
     · replace h := u6 h hb_4; refine j4 (y8 Q4 (q8 Q3 (sg fun _ Q13 => ?_))); simp only [go_sem]; refine q8 Q13 (z8 ?_); simp only [go_sem]; obtain rfl := Option.some.inj h; refine q0e [some 0] ?_; simp only [go_sem, Le]
 · replace h := x9 h hb_0; simp only [go_sem, hb_0]; refine q8 Q5 ?_; refine q0o (by (simp only [go_sem]; done)) ?_; refine j4 (y8 Q4 (q8 Q3 (sg fun _ Q14 => ?_))); simp only [go_sem]; refine q8 Q14 (z8 ?_); simp only [go_sem]; obtain rfl := Option.some.inj h; refine q0e [some 0] ?_; simp only [go_sem, Le]

def qa7 (b_0 : List GItem) (rv_0 : GRec) (nv_0 : Int) : Option (List GItem) :=
 j6 (q61 b_0) (fun (v_0 : List GItem) =>
 j6 (q1c b_0) (fun (v_1 : Bool) =>
 (if (!v_1) = true then some v_0
 else j6 (q52 v_0 rv_0 nv_0) (fun (v_2 : List GItem) =>
 some v_2))))
theorem qv0 (b_0 : List GItem) (rv_0 : GRec) (nv_0 : Int)  (r : List GItem) (h : qa7 b_0 rv_0 nv_0 = some r) : DetS Tryz.prog 166 [.sl 3 (enc b_0), .agg [.v (.int .i64 rv_0.K), .v (.int .i64 rv_0.V)], .v (.int .i64 nv_0)] [] 0 (.osl 0 3 (0) (List.length r)) [(0, .arr 3 (enc r))] 1 := by
 unfold DetS; refine Spec.of_vc Tryz.func166 rfl (by kernel_rfl) (by kernel_rfl) ?_; rw [qa7] at h; refine sg fun _ Q1 => ?_; simp only [go_sem]; refine q8 Q1 (sg fun _ Q2 => ?_); obtain ⟨v_0, ev_0, h⟩ := q9 h; simp only [go_sem]; refine q19 [] (q97 b_0 v_0 ev_0) (by simp) rfl trivial rfl rfl rfl rfl ?_; simp only [go_sem]; refine q8 Q2 (sg fun _ Q3 => ?_); refine sg fun _ Q4 => ?_; obtain ⟨v_1, ev_1, h⟩ := q9 h; simp only [go_sem]; refine q0f (q2j b_0 v_1 ev_1) (by rfl) (by rfl) ?_; simp only [go_sem]; refine q8 Q4 ?_; refine j3 (b := (!v_1)) (by (simp only [go_sem]; done)) (fun hb_0 => ?_) (fun hb_0 => ?_)
 · replace h := x9 h hb_0; simp only [bool_to_prop] at hb_0; refine sg fun _ Q5 => ?_; simp only [go_sem]; refine q8 Q5 (z8 (y5 Q3 ?_)); simp only [go_sem]; obtain rfl := Option.some.inj h; refine q0e [some 1] ?_; simp only [go_sem, Le]
 · replace h := u6 h hb_0; simp only [bool_to_prop] at hb_0; refine j4 (q8 Q3 (sg fun _ Q6 => ?_)); obtain ⟨v_2, ev_2, h⟩ := q9 h; simp only [go_sem]; refine q19 [1] (qh9 v_0 rv_0 nv_0 v_2 ev_2) (by simp) rfl ⟨rfl, trivial⟩ rfl rfl rfl rfl ?_; simp only [go_sem]; refine q8 Q6 (z8 ?_); simp only [go_sem]; obtain rfl := Option.some.inj h; refine q0e [some 2] ?_; simp only [go_sem, Le]
theorem z5c (b_0 : List GItem) (rv_0 : GRec) (nv_0 : Int)  (r : List GItem) (h : qa7 b_0 rv_0 nv_0 = some r) : PureS Tryz.prog 166 [.sl 3 (enc b_0), .agg [.v (.int .i64 rv_0.K), .v (.int .i64 rv_0.V)], .v (.int .i64 nv_0)] 0 (.sl 3 (enc r)) := by
 refine (qv0 b_0 rv_0 nv_0  r h).pure ?_; simp only [go_sem, Le] <;> (repeat' apply And.intro) <;> ((try with_reducible refine x8 ?_); (simp [go_sem]; done))

def qf6 (b_0 : List GItem) (a_2 : List GItem) : Option (List GItem) :=
 j6 (q1c b_0) (fun (v_0 : Bool) =>
 (if (!v_0) = true then some ([] : List GItem)
 else some a_2))
def qf7 (b_0 : List GItem) (rec_2 : Int × (List GItem) → Option (List GItem)) : Int × (List GItem) → Option (List GItem) :=
 fun (t8_3, a_4) =>
 (if (decide (t8_3 < (List.length b_0 : Int))) = true then j6 (idx b_0 t8_3) (fun (xv_5 : GItem) =>
 (if (decide (0 < xv_5.N)) = true then q0v ((List.length a_4 + List.length ([xv_5] : List GItem)) * 24 ≤ 140737488355328) (
 rec_2 (i64.wrap (t8_3 + 1), (a_4 ++ ([xv_5] : List GItem))))
 else rec_2 (i64.wrap (t8_3 + 1), a_4)))
 else qf6 b_0 a_4)
def q9m (b_0 : List GItem) : Option (List GItem) :=
 p9 (qf7 b_0) rounds (0, [])
theorem qd3 (b_0 : List GItem)  (r : List GItem) (h : q9m b_0 = some r) : DetS Tryz.prog 173 [.sl 3 (enc b_0)] [] 0 (.osl 0 3 (0) (List.length r)) [(0, .arr 3 (enc r))] 1 := by
 unfold DetS; refine Spec.of_vc Tryz.func173 rfl (by kernel_rfl) (by kernel_rfl) ?_; rw [q9m] at h; refine sg fun _ Q1 => ?_; simp only [go_sem]; refine q8 Q1 (sg fun _ Q2 => ?_); simp only [go_sem]; refine q8 Q2 (q0a (by kernel_rfl) ?_); refine q0x (ι := (List GItem)) (fun (a_2 : (List GItem)) => (⟨0, [(0, .sl 3 (enc b_0)), (3, .osl 0 3 (0) (List.length a_2))], [(0, .arr 3 (enc a_2))], 1, 24⟩ : St)) (fun (a_2 : (List GItem)) => qf6 b_0 a_2 = some r) ?_ ?_
 ·
  intro _ Q7; refine sg fun _ Q8 => ?_; simp only [go_sem]; refine q8 Q8 (y7 ?_); intro _ Q9; refine q06 ?_; refine q0g (ι := Nat × Int × (List GItem)) (fun ((_, t8_3, a_4) : Nat × Int × (List GItem)) => (⟨0, [(0, .sl 3 (enc b_0)), (3, .osl 0 3 (0) (List.length a_4)), (6, .sl 3 (enc b_0)), (7, .v (.int .i64 (List.length b_0 : Int))), (8, .v (.int .i64 t8_3))], [(0, .arr 3 (enc a_4))], 1, 24⟩ : St)) (fun ((n_, t8_3, a_4) : Nat × Int × (List GItem)) => p9 (qf7 b_0) n_ (t8_3, a_4) = some r) (fun p => p.1) (rounds, 0, []) [none] ?_ h ?_
  · simp only [go_sem, Le] <;> (repeat' apply And.intro) <;> ((try with_reducible refine x8 ?_); (simp [go_sem]; done))
  ·
   rintro ⟨n_2, t8_3, a_4⟩ h _ Q10; dsimp only at h; replace h := q08 h; obtain ⟨m_2, rfl, h⟩ := h; rw [qf7] at h; refine sg fun _ Q11 => ?_; simp only [go_sem]; refine q8 Q11 (sg fun _ Q12 => ?_); refine j3 (b := (decide (t8_3 < (List.length b_0 : Int)))) (by (simp only [go_sem]; done)) (fun hb_11 => ?_) (fun hb_11 => ?_)
   ·
    replace h := x9 h hb_11; simp only [bool_to_prop] at hb_11; refine j4 (q8 Q12 (q0a (by kernel_rfl) ?_)); refine q0c ?_; intro _ Q13; refine y7 ?_; intro _ Q14; refine sg fun _ Q15 => ?_; obtain ⟨xv_5, ex5, h⟩ := q9 h; obtain ⟨f5a, f5b, f5c⟩ := u7 ex5; simp only [go_sem, f5a, f5b, f5c]; refine And.intro (by omega) ?_; refine q8 Q15 (sg fun _ Q16 => ?_); simp only [go_sem]; refine q8 Q16 ?_; refine j3 (b := (decide (0 < xv_5.N))) (by (simp only [go_sem]; done)) (fun hb_12 => ?_) (fun hb_12 => ?_)
    ·
     replace h := x9 h hb_12; simp only [bool_to_prop] at hb_12; have rf_8 : [[.v (.int .i64 xv_5.Rec.K), .v (.int .i64 xv_5.Rec.V), .v (.int .i64 xv_5.N)]] = enc ([xv_5] : List GItem) := by rfl
     obtain ⟨g_5, h⟩ := q0k h; simp only [List.length_cons, List.length_nil, Nat.zero_add, List.length_append] at g_5; have rf_9 : enc a_4 ++ [[.v (.int .i64 xv_5.Rec.K), .v (.int .i64 xv_5.Rec.V), .v (.int .i64 xv_5.N)]] = enc (a_4 ++ ([xv_5] : List GItem)) := by exact (q6a a_4 ([xv_5] : List GItem)).symm
     simp only [go_sem, g_5, rf_9]; simp only [rf_8]; refine y8 Q14 (q8 Q13 ?_); simp only [go_sem]; refine w9 Q10 (⟨(m_2, i64.wrap (t8_3 + 1), (a_4 ++ ([xv_5] : List GItem))), [some 3], ?_, h, Nat.lt_succ_self _⟩); simp only [go_sem, Le] <;> (repeat' apply And.intro) <;> ((try with_reducible refine x8 ?_); (simp [go_sem]; done))
    · replace h := u6 h hb_12; simp only [bool_to_prop] at hb_12; refine j4 (y8 Q14 (q8 Q13 ?_)); simp only [go_sem]; refine w9 Q10 (⟨(m_2, i64.wrap (t8_3 + 1), a_4), [some 0], ?_, h, Nat.lt_succ_self _⟩); simp only [go_sem, Le]
   · replace h := u6 h hb_11; simp only [bool_to_prop] at hb_11; refine q03 (q09 Q12 (q07 Q10 (d9 Q9 (w9 Q7 (⟨a_4, [some 0], ?_, h⟩))))); simp only [go_sem, Le]
 ·
  rintro a_2 h
  try dsimp only at h
  rw [qf6] at h; refine sg fun _ Q3 => ?_; refine sg fun _ Q4 => ?_; obtain ⟨v_0, ev_0, h⟩ := q9 h; simp only [go_sem]; refine q0f (q2j b_0 v_0 ev_0) (by rfl) (by rfl) ?_; simp only [go_sem]; refine q8 Q4 ?_; refine j3 (b := (!v_0)) (by (simp only [go_sem]; done)) (fun hb_6 => ?_) (fun hb_6 => ?_)
  · replace h := x9 h hb_6; simp only [bool_to_prop] at hb_6; refine sg fun _ Q5 => ?_; simp only [go_sem]; refine q8 Q5 (z8 (y5 Q3 ?_)); simp only [go_sem]; obtain rfl := Option.some.inj h; refine q0e [none] ?_; simp only [go_sem, Le] <;> (repeat' apply And.intro) <;> ((try with_reducible refine x8 ?_); (simp [go_sem]; done))
  · replace h := u6 h hb_6; simp only [bool_to_prop] at hb_6; refine j4 (q8 Q3 (sg fun _ Q6 => ?_)); simp only [go_sem]; refine q8 Q6 (z8 ?_); simp only [go_sem]; obtain rfl := Option.some.inj h; refine q0e [some 0] ?_; simp only [go_sem, Le]
def q7o (a_0 : GRec) (b_0 : GRec) : Option Bool :=
 some ((decide (a_0.K < b_0.K)) || ((a_0.K == b_0.K) && (decide (a_0.V < b_0.V))))
def q5y (b_0 : List GItem) (rec_1 : Int → Option Bool) : Int → Option Bool :=
 fun i_1 =>
 (if (decide (i_1 < (List.length b_0 : Int))) = true then j6 (idx b_0 i_1) (fun (xv_4 : GItem) =>
 (if (xv_4.N == 0) = true then some false
 else (if (decide (2147483648 < xv_4.N)) = true then some false
 else (if (decide (xv_4.N < (-2147483648))) = true then some false
 else (if (decide (0 < i_1)) = true then j6 (idx b_0 (i64.wrap (i_1 - 1))) (fun (xv_5 : GItem) =>
 j6 (q7o xv_5.Rec xv_4.Rec) (fun (v_2 : Bool) =>
 (if (!v_2) = true then some false
 else rec_1 (i64.wrap (i_1 + 1)))))
 else rec_1 (i64.wrap (i_1 + 1)))))))
 else some true)
def qa8 (b_0 : List GItem) : Option Bool :=
 p9 (q5y b_0) rounds 0
def q3k (a_0 : List GItem) (b_0 : List GItem) (rec_1 : Int → Option Bool) : Int → Option Bool :=
 fun i_1 =>
 (if (decide (i_1 < (List.length a_0 : Int))) = true then j6 (idx a_0 i_1) (fun (xv_4 : GItem) =>
 j6 (idx b_0 i_1) (fun (xv_5 : GItem) =>
 (if (!((xv_4.Rec.K == xv_5.Rec.K) && ((xv_4.Rec.V == xv_5.Rec.V) && (xv_4.N == xv_5.N)))) = true then some false
 else rec_1 (i64.wrap (i_1 + 1)))))
 else some true)
def q1u (a_0 : List GItem) (b_0 : List GItem) : Option Bool :=
 (if (!((List.length a_0 : Int) == (List.length b_0 : Int))) = true then some false
 else p9 (q3k a_0 b_0) rounds 0)
theorem q66 (a_0 : List GItem) (b_0 : List GItem)  (r : Bool) (h : q1u a_0 b_0 = some r) : PureS Tryz.prog 97 [.sl 3 (enc a_0), .sl 3 (enc b_0)] 0 (.v (.bool r)) := by
 unfold PureS; refine Spec.of_vc Tryz.func97 rfl (by kernel_rfl) (by kernel_rfl) ?_; rw [q1u] at h; refine sg fun _ Q1 => ?_; simp only [go_sem]; refine q8 Q1 (sg fun _ Q2 => ?_); refine sg fun _ Q3 => ?_; simp only [go_sem]; refine q8 Q3 ?_; refine j3 (b := (!((List.length a_0 : Int) == (List.length b_0 : Int)))) (by (simp only [go_sem]; done)) (fun hb_0 => ?_) (fun hb_0 => ?_)
 · replace h := x9 h hb_0; simp only [bool_to_prop] at hb_0; refine sg fun _ Q4 => ?_; simp only [go_sem]; refine q8 Q4 (z8 (y5 Q2 ?_)); simp only [go_sem]; obtain rfl := Option.some.inj h; refine j5 rfl ?_; simp only [go_sem, Le]
 ·
  replace h := u6 h hb_0; simp only [bool_to_prop] at hb_0; refine j4 (q8 Q2 (q0a (by kernel_rfl) ?_)); refine q0c ?_; intro _ Q5; refine sg fun _ Q6 => ?_; simp only [go_sem]; refine q8 Q6 (y7 ?_); intro _ Q7; refine q06 ?_; refine q0g (ι := Nat × Int) (fun ((_, i_1) : Nat × Int) => (⟨0, [(0, .sl 3 (enc a_0)), (1, .sl 3 (enc b_0)), (5, .v (.int .i64 i_1))], [], 0, 26⟩ : St)) (fun ((n_, i_1) : Nat × Int) => p9 (q3k a_0 b_0) n_ i_1 = some r) (fun p => p.1) (rounds, 0) [] ?_ h ?_
  · simp only [go_sem, Le]
  ·
   rintro ⟨n_1, i_1⟩ h _ Q8; dsimp only at h; replace h := q08 h; obtain ⟨m_1, rfl, h⟩ := h; rw [q3k] at h; refine sg fun _ Q9 => ?_; refine sg fun _ Q10 => ?_; simp only [go_sem]; refine q8 Q10 ?_; refine j3 (b := (decide (i_1 < (List.length a_0 : Int)))) (by (simp only [go_sem]; done)) (fun hb_5 => ?_) (fun hb_5 => ?_)
   ·
    replace h := x9 h hb_5; simp only [bool_to_prop] at hb_5; refine j4 (q8 Q9 (sg fun _ Q11 => ?_)); refine y7 ?_; intro _ Q12; refine sg fun _ Q13 => ?_; refine q0q ?_; refine q0l 8 [0, 0, 3, 7, 0, 0, 48, 112, 255] mixed (by kernel_rfl) (of_decide_eq_true (by kernel_rfl)) (by kernel_rfl) ?_; obtain ⟨xv_4, ex4, h⟩ := q9 h; obtain ⟨f4a, f4b, f4c⟩ := u7 ex4; obtain ⟨xv_5, ex5, h⟩ := q9 h; obtain ⟨f5a, f5b, f5c⟩ := u7 ex5; simp only [go_sem, f4a, f4b, f4c, f5a, f5b, f5c]; refine And.intro (by omega) ?_; refine And.intro (by omega) ?_; refine q8 Q13 ?_; refine j3 (b := (!((xv_4.Rec.K == xv_5.Rec.K) && ((xv_4.Rec.V == xv_5.Rec.V) && (xv_4.N == xv_5.N))))) (by (simp only [go_sem]; done)) (fun hb_6 => ?_) (fun hb_6 => ?_)
    · replace h := x9 h hb_6; simp only [bool_to_prop] at hb_6; refine sg fun _ Q14 => ?_; simp only [go_sem]; refine q8 Q14 (z8 (y9 Q12 (y5 Q11 (q04 Q8 (y9 Q7 (y5 Q5 ?_)))))); simp only [go_sem]; obtain rfl := Option.some.inj h; refine j5 rfl ?_; simp only [go_sem, Le]
    · replace h := u6 h hb_6; simp only [bool_to_prop] at hb_6; refine j4 (y8 Q12 (q8 Q11 ?_)); simp only [go_sem]; refine w9 Q8 (⟨(m_1, i64.wrap (i_1 + 1)), [], ?_, h, Nat.lt_succ_self _⟩); simp only [go_sem, Le]
   · replace h := u6 h hb_5; simp only [bool_to_prop] at hb_5; refine q03 (q09 Q9 (q07 Q8 (d9 Q7 (q8 Q5 (sg fun _ Q15 => ?_))))); simp only [go_sem]; refine q8 Q15 (z8 ?_); simp only [go_sem]; obtain rfl := Option.some.inj h; refine j5 rfl ?_; simp only [go_sem, Le]

def q3v (xv_0 : List GSlot) (target_0 : GTime) (cmp_0 : GSlot → GTime → Option Int) (i_2 : Int) : Option (Int × Bool) :=
 (if (decide (i_2 < (List.length xv_0 : Int))) = true then j6 (idx xv_0 i_2) (fun (xv_4 : GSlot) =>
 j6 (cmp_0 xv_4 target_0) (fun (v_3 : Int) =>
 some (i_2, (v_3 == 0))))
 else some (i_2, false))
def q3w (xv_0 : List GSlot) (target_0 : GTime) (cmp_0 : GSlot → GTime → Option Int) (rec_2 : Int × Int → Option (Int × Bool)) : Int × Int → Option (Int × Bool) :=
 fun (i_4, j_3) =>
 (if (decide (i_4 < j_3)) = true then j6 (idx xv_0 (i64.wrap (q7d .u64 (IntKind.u64.wrap (i64.wrap (i_4 + j_3))) 1))) (fun (xv_7 : GSlot) =>
 j6 (cmp_0 xv_7 target_0) (fun (v_6 : Int) =>
 (if (decide (v_6 < 0)) = true then rec_2 (i64.wrap ((i64.wrap (q7d .u64 (IntKind.u64.wrap (i64.wrap (i_4 + j_3))) 1)) + 1), j_3)
 else rec_2 (i_4, i64.wrap (q7d .u64 (IntKind.u64.wrap (i64.wrap (i_4 + j_3))) 1)))))
 else q3v xv_0 target_0 cmp_0 i_4)
def q4h (xv_0 : List GSlot) (target_0 : GTime) (cmp_0 : GSlot → GTime → Option Int) : Option (Int × Bool) :=
 p9 (q3w xv_0 target_0 cmp_0) rounds (0, (List.length xv_0 : Int))
theorem q9j (xv_0 : List GSlot) (target_0 : GTime) (cmp_0 : GSlot → GTime → Option Int) (g_cmp_0 : FuncId) (c_cmp_0 : List AV) (F_cmp_0 : q0n c_cmp_0 = true) (E_cmp_0 : q02 Tryz.prog g_cmp_0 = true) (H_cmp_0 : ∀ (x0 : GSlot) (x1 : GTime) (r : Int), cmp_0 x0 x1 = some r → PureS Tryz.prog g_cmp_0 ([.agg [.v (.int .i64 x0.Time.D), .v (.int .i64 x0.Time.C.a0), .v (.int .i64 x0.Time.C.a1), .v (.int .i64 x0.Time.C.a2), .v (.int .i64 x0.Time.C.a3), .sl 3 (enc x0.In.a0), .sl 3 (enc x0.In.a1), .sl 3 (enc x0.Sent), .v (.bool x0.Dirty), .v (.bool x0.Fired)], .agg [.v (.int .i64 x1.D), .v (.int .i64 x1.C.a0), .v (.int .i64 x1.C.a1), .v (.int .i64 x1.C.a2), .v (.int .i64 x1.C.a3)]] ++ c_cmp_0) 0 (.v (.int .i64 r))) (r : Int × Bool) (h : q4h xv_0 target_0 cmp_0 = some r) : PureS Tryz.prog 197 [.sl 10 (enc xv_0), .agg [.v (.int .i64 target_0.D), .v (.int .i64 target_0.C.a0), .v (.int .i64 target_0.C.a1), .v (.int .i64 target_0.C.a2), .v (.int .i64 target_0.C.a3)], .clo g_cmp_0 c_cmp_0] 0 (.tup [.v (.int .i64 r.1), .v (.bool r.2)]) := by
 unfold PureS; refine Spec.of_vc Tryz.func197 rfl (by kernel_rfl) (by kernel_rfl) ?_; rw [q4h] at h; refine sg fun _ Q1 => ?_; simp only [go_sem]; refine q8 Q1 (sg fun _ Q2 => ?_); simp only [go_sem]; refine q8 Q2 (sg fun _ Q3 => ?_); simp only [go_sem]; refine q8 Q3 (q0a (by kernel_rfl) ?_); refine q0x (ι := Int) (fun (i_2 : Int) => (⟨0, [(0, .sl 10 (enc xv_0)), (2, .clo g_cmp_0 c_cmp_0), (4, .ptr 0 0), (8, .v (.int .i64 (List.length xv_0 : Int))), (9, .v (.int .i64 i_2))], [(0, .box [.v (.int .i64 target_0.D), .v (.int .i64 target_0.C.a0), .v (.int .i64 target_0.C.a1), .v (.int .i64 target_0.C.a2), .v (.int .i64 target_0.C.a3)])], 1, 49⟩ : St)) (fun (i_2 : Int) => q3v xv_0 target_0 cmp_0 i_2 = some r) ?_ ?_
 ·
  intro _ Q5; refine y7 ?_; intro _ Q6; refine q06 ?_; refine q0g (ι := Nat × Int × Int) (fun ((_, i_4, j_3) : Nat × Int × Int) => (⟨0, [(0, .sl 10 (enc xv_0)), (2, .clo g_cmp_0 c_cmp_0), (4, .ptr 0 0), (8, .v (.int .i64 (List.length xv_0 : Int))), (9, .v (.int .i64 i_4)), (10, .v (.int .i64 j_3))], [(0, .box [.v (.int .i64 target_0.D), .v (.int .i64 target_0.C.a0), .v (.int .i64 target_0.C.a1), .v (.int .i64 target_0.C.a2), .v (.int .i64 target_0.C.a3)])], 1, 49⟩ : St)) (fun ((n_, i_4, j_3) : Nat × Int × Int) => p9 (q3w xv_0 target_0 cmp_0) n_ (i_4, j_3) = some r) (fun p => p.1) (rounds, 0, (List.length xv_0 : Int)) [some 0] ?_ h ?_
  · simp only [go_sem, Le, q0b _ F_cmp_0]
  ·
   rintro ⟨n_2, i_4, j_3⟩ h _ Q7; dsimp only at h; replace h := q08 h; obtain ⟨m_2, rfl, h⟩ := h; rw [q3w] at h; refine sg fun _ Q8 => ?_; refine sg fun _ Q9 => ?_; simp only [go_sem]; refine q8 Q9 ?_; refine j3 (b := (decide (i_4 < j_3))) (by (simp only [go_sem]; done)) (fun hb_11 => ?_) (fun hb_11 => ?_)
   ·
    replace h := x9 h hb_11; simp only [bool_to_prop] at hb_11; refine j4 (q8 Q8 (y7 ?_)); intro _ Q10; refine sg fun _ Q11 => ?_; simp only [go_sem]; refine q8 Q11 (sg fun _ Q12 => ?_); refine q0q ?_; refine q0l 6 [0, 0, 0, 6, 14, 0, 63, 127] mixed (by kernel_rfl) (of_decide_eq_true (by kernel_rfl)) (by kernel_rfl) ?_; obtain ⟨xv_7, ex7, h⟩ := q9 h; obtain ⟨f7a, f7b, f7c⟩ := u7 ex7; obtain ⟨v_6, ev_6, h⟩ := q9 h; simp only [go_sem, f7a, f7b, f7c, E_cmp_0]; refine And.intro (by omega) ?_; refine q0f (H_cmp_0 xv_7 target_0 v_6 ev_6) (by rfl) (by simp [q0n, q0y, F_cmp_0]) ?_; simp only [go_sem]; refine q8 Q12 ?_; refine j3 (b := (decide (v_6 < 0))) (by (simp only [go_sem]; done)) (fun hb_12 => ?_) (fun hb_12 => ?_)
    · replace h := x9 h hb_12; simp only [bool_to_prop] at hb_12; simp only [go_sem]; refine y8 Q10 (w9 Q7 (⟨(m_2, i64.wrap ((i64.wrap (q7d .u64 (IntKind.u64.wrap (i64.wrap (i_4 + j_3))) 1)) + 1), j_3), [some 0], ?_, h, Nat.lt_succ_self _⟩)); simp only [go_sem, Le, q0b _ F_cmp_0]
    · replace h := u6 h hb_12; simp only [bool_to_prop] at hb_12; simp only [go_sem]; refine y8 Q10 (w9 Q7 (⟨(m_2, i_4, i64.wrap (q7d .u64 (IntKind.u64.wrap (i64.wrap (i_4 + j_3))) 1)), [some 0], ?_, h, Nat.lt_succ_self _⟩)); simp only [go_sem, Le, q0b _ F_cmp_0]
   · replace h := u6 h hb_11; simp only [bool_to_prop] at hb_11; refine q03 (q09 Q8 (q07 Q7 (d9 Q6 (w9 Q5 (⟨i_4, [some 0], ?_, h⟩))))); simp only [go_sem, Le, q0b _ F_cmp_0]
 ·
  rintro i_2 h
  try dsimp only at h
  rw [q3v] at h; refine sg fun _ Q4 => ?_; refine q0q ?_; refine q0l 15 [0, 0, 0, 6, 14, 30, 30, 30, 222, 478, 30, 2046, 4094, 8190, 4095, 32767] mixed (by kernel_rfl) (of_decide_eq_true (by kernel_rfl)) (by kernel_rfl) ?_; simp only [go_sem]; rcases hb_6 : (decide (i_2 < (List.length xv_0 : Int))) with _ | _
  · replace h := u6 h hb_6; simp only [go_sem, hb_6]; refine q8 Q4 (z8 ?_); simp only [go_sem]; obtain rfl := Option.some.inj h; refine j5 rfl ?_; simp only [go_sem, Le, q0b _ F_cmp_0]
  · replace h := x9 h hb_6; obtain ⟨xv_4, ex4, h⟩ := q9 h; obtain ⟨f4a, f4b, f4c⟩ := u7 ex4; obtain ⟨v_3, ev_3, h⟩ := q9 h; simp only [go_sem, hb_6, f4a, f4b, f4c, E_cmp_0]; refine And.intro (by omega) ?_; refine And.intro (by omega) ?_; refine callq (fun _ => (H_cmp_0 xv_4 target_0 v_3 ev_3)) (by rfl) (by simp [q0n, q0y, F_cmp_0]) ?_; simp only [go_sem]; refine q8 Q4 (z8 ?_); simp only [go_sem]; obtain rfl := Option.some.inj h; refine j5 rfl ?_; simp only [go_sem, Le, q0b _ F_cmp_0]

def q9t (s_0 : GSlot) (t_0 : GTime) : Option Int :=
 (if ((s_0.Time.D == t_0.D) && ((s_0.Time.C.a0 == t_0.C.a0) && ((s_0.Time.C.a1 == t_0.C.a1) && ((s_0.Time.C.a2 == t_0.C.a2) && (s_0.Time.C.a3 == t_0.C.a3))))) = true then some 0
 else j6 (q6g s_0.Time t_0) (fun (v_0 : Bool) =>
 (if v_0 = true then some (-1)
 else some 1)))
theorem z0i (s_0 : GSlot) (t_0 : GTime)  (r : Int) (h : q9t s_0 t_0 = some r) : PureS Tryz.prog 198 [.agg [.v (.int .i64 s_0.Time.D), .v (.int .i64 s_0.Time.C.a0), .v (.int .i64 s_0.Time.C.a1), .v (.int .i64 s_0.Time.C.a2), .v (.int .i64 s_0.Time.C.a3), .sl 3 (enc s_0.In.a0), .sl 3 (enc s_0.In.a1), .sl 3 (enc s_0.Sent), .v (.bool s_0.Dirty), .v (.bool s_0.Fired)], .agg [.v (.int .i64 t_0.D), .v (.int .i64 t_0.C.a0), .v (.int .i64 t_0.C.a1), .v (.int .i64 t_0.C.a2), .v (.int .i64 t_0.C.a3)]] 0 (.v (.int .i64 r)) := by
 unfold PureS; refine Spec.of_vc Tryz.func198 rfl (by kernel_rfl) (by kernel_rfl) ?_; rw [q9t] at h; refine sg fun _ Q1 => ?_; simp only [go_sem]; refine q8 Q1 (sg fun _ Q2 => ?_); refine y7 ?_; intro _ Q3; refine sg fun _ Q4 => ?_; simp only [go_sem]; refine q8 Q4 ?_; refine j3 (b := ((s_0.Time.D == t_0.D) && ((s_0.Time.C.a0 == t_0.C.a0) && ((s_0.Time.C.a1 == t_0.C.a1) && ((s_0.Time.C.a2 == t_0.C.a2) && (s_0.Time.C.a3 == t_0.C.a3)))))) (by (simp only [go_sem]; done)) (fun hb_0 => ?_) (fun hb_0 => ?_)
 · replace h := x9 h hb_0; simp only [bool_to_prop] at hb_0; refine sg fun _ Q5 => ?_; simp only [go_sem]; refine q8 Q5 (z8 (y9 Q3 (y5 Q2 ?_))); simp only [go_sem]; obtain rfl := Option.some.inj h; refine j5 rfl ?_; simp only [go_sem, Le]
 ·
  replace h := u6 h hb_0; simp only [bool_to_prop] at hb_0; refine sg fun _ Q6 => ?_; obtain ⟨v_0, ev_0, h⟩ := q9 h; simp only [go_sem]; refine q0f (q8l s_0.Time t_0 v_0 ev_0) (by rfl) (by rfl) ?_; simp only [go_sem]; refine q8 Q6 ?_; refine j3 (b := v_0) (by (simp only [go_sem]; done)) (fun hb_1 => ?_) (fun hb_1 => ?_)
  · replace h := x9 h hb_1; refine sg fun _ Q7 => ?_; simp only [go_sem]; refine q8 Q7 (z8 (y9 Q3 (y5 Q2 ?_))); simp only [go_sem]; obtain rfl := Option.some.inj h; refine j5 rfl ?_; simp only [go_sem, Le]
  · replace h := u6 h hb_1; refine j4 (y8 Q3 (q8 Q2 (sg fun _ Q8 => ?_))); simp only [go_sem]; refine q8 Q8 (z8 ?_); simp only [go_sem]; obtain rfl := Option.some.inj h; refine j5 rfl ?_; simp only [go_sem, Le]

def q9l (c_0 : List GSlot) (t_0 : GTime) : Option (Int × Bool) :=
 j6 (q4h c_0 t_0 (fun x0_ x1_ => q9t x0_ x1_)) (fun (v_0 : Int × Bool) =>
 some (v_0.1, v_0.2))
theorem qf4 (c_0 : List GSlot) (t_0 : GTime)  (r : Int × Bool) (h : q9l c_0 t_0 = some r) : PureS Tryz.prog 145 [.sl 10 (enc c_0), .agg [.v (.int .i64 t_0.D), .v (.int .i64 t_0.C.a0), .v (.int .i64 t_0.C.a1), .v (.int .i64 t_0.C.a2), .v (.int .i64 t_0.C.a3)]] 0 (.tup [.v (.int .i64 r.1), .v (.bool r.2)]) := by
 unfold PureS; refine Spec.of_vc Tryz.func145 rfl (by kernel_rfl) (by kernel_rfl) ?_; rw [q9l] at h; refine sg fun _ Q1 => ?_; simp only [go_sem]; refine q8 Q1 (sg fun _ Q2 => ?_); obtain ⟨v_0, ev_0, h⟩ := q9 h; simp only [go_sem]; refine q0f (q9j c_0 t_0 (fun x0_ x1_ => q9t x0_ x1_) 198 [] (by rfl) (by kernel_rfl) (fun y0 y1 r_ e_ => z0i y0 y1 r_ e_) v_0 ev_0) (by rfl) (by rfl) ?_; simp only [go_sem]; refine q8 Q2 (z8 ?_); simp only [go_sem]; obtain rfl := Option.some.inj h; refine j5 rfl ?_; simp only [go_sem, Le]

def q73 (s_0 : GSlot) : Option Bool :=
 some ((i64.wrap ((i64.wrap ((List.length s_0.In.a0 : Int) + (List.length s_0.In.a1 : Int))) + (List.length s_0.Sent : Int))) == 0)
theorem qp2 (s_0 : GSlot)  (r : Bool) (h : q73 s_0 = some r) : PureS Tryz.prog 92 [.agg [.v (.int .i64 s_0.Time.D), .v (.int .i64 s_0.Time.C.a0), .v (.int .i64 s_0.Time.C.a1), .v (.int .i64 s_0.Time.C.a2), .v (.int .i64 s_0.Time.C.a3), .sl 3 (enc s_0.In.a0), .sl 3 (enc s_0.In.a1), .sl 3 (enc s_0.Sent), .v (.bool s_0.Dirty), .v (.bool s_0.Fired)]] 0 (.v (.bool r)) := by
 unfold PureS; refine Spec.of_vc Tryz.func92 rfl (by kernel_rfl) (by kernel_rfl) ?_; rw [q73] at h; refine sg fun _ Q1 => ?_; simp only [go_sem]; refine q8 Q1 (sg fun _ Q2 => ?_); simp only [go_sem]; refine q8 Q2 (z8 ?_); simp only [go_sem]; obtain rfl := Option.some.inj h; refine j5 rfl ?_; simp only [go_sem, Le]

def q6k (c_0 : List GSlot) (rec_1 : Int → Option Bool) : Int → Option Bool :=
 fun t7_1 =>
 (if (decide (t7_1 < (List.length c_0 : Int))) = true then j6 (idx c_0 t7_1) (fun (xv_4 : GSlot) =>
 j6 (q2l xv_4.Time) (fun (v_18 : Bool) =>
 (if v_18 = true then j6 (q73 xv_4) (fun (v_19 : Bool) =>
 (if v_19 = true then some false
 else (if (decide (0 < t7_1)) = true then j6 (idx c_0 (i64.wrap (t7_1 - 1))) (fun (xv_5 : GSlot) =>
 j6 (q6g xv_5.Time xv_4.Time) (fun (v_23 : Bool) =>
 (if (!v_23) = true then some false
 else j6 (q1c xv_4.In.a0) (fun (v_24 : Bool) =>
 (if v_24 = true then j6 (q1c xv_4.In.a1) (fun (v_25 : Bool) =>
 (if v_25 = true then j6 (q1c xv_4.Sent) (fun (v_26 : Bool) =>
 (if (!v_26) = true then some false
 else rec_1 (i64.wrap (t7_1 + 1))))
 else some false))
 else some false)))))
 else j6 (q1c xv_4.In.a0) (fun (v_20 : Bool) =>
 (if v_20 = true then j6 (q1c xv_4.In.a1) (fun (v_21 : Bool) =>
 (if v_21 = true then j6 (q1c xv_4.Sent) (fun (v_22 : Bool) =>
 (if (!v_22) = true then some false
 else rec_1 (i64.wrap (t7_1 + 1))))
 else some false))
 else some false)))))
 else some false)))
 else some true)
def q5b (c_0 : List GSlot) : Option Bool :=
 p9 (q6k c_0) rounds 0
theorem q8b (c_0 : List GSlot)  (r : Bool) (h : q5b c_0 = some r) : PureS Tryz.prog 38 [.sl 10 (enc c_0)] 0 (.v (.bool r)) := by
 unfold PureS; refine Spec.of_vc Tryz.func38 rfl (by kernel_rfl) (by kernel_rfl) ?_; rw [q5b] at h; refine sg fun _ Q1 => ?_; simp only [go_sem]; refine q8 Q1 (q0a (by kernel_rfl) ?_); refine q0c ?_; intro _ Q2; refine sg fun _ Q3 => ?_; simp only [go_sem]; refine q8 Q3 (y7 ?_); intro _ Q4; refine q06 ?_; refine q0g (ι := Nat × Int) (fun ((_, t7_1) : Nat × Int) => (⟨0, [(0, .sl 10 (enc c_0)), (5, .sl 10 (enc c_0)), (6, .v (.int .i64 (List.length c_0 : Int))), (7, .v (.int .i64 t7_1))], [], 0, 55⟩ : St)) (fun ((n_, t7_1) : Nat × Int) => p9 (q6k c_0) n_ t7_1 = some r) (fun p => p.1) (rounds, 0) [] ?_ h ?_
 · simp only [go_sem, Le]
 ·
  rintro ⟨n_1, t7_1⟩ h _ Q5; dsimp only at h; replace h := q08 h; obtain ⟨m_1, rfl, h⟩ := h; rw [q6k] at h; refine sg fun _ Q6 => ?_; simp only [go_sem]; refine q8 Q6 (sg fun _ Q7 => ?_); refine j3 (b := (decide (t7_1 < (List.length c_0 : Int)))) (by (simp only [go_sem]; done)) (fun hb_22 => ?_) (fun hb_22 => ?_)
  ·
   replace h := x9 h hb_22; simp only [bool_to_prop] at hb_22; refine j4 (q8 Q7 (sg fun _ Q8 => ?_)); refine y7 ?_; intro _ Q9; refine sg fun _ Q10 => ?_; obtain ⟨xv_4, ex4, h⟩ := q9 h; obtain ⟨f4a, f4b, f4c⟩ := u7 ex4; simp only [go_sem, f4a, f4b, f4c]; refine And.intro (by omega) ?_; refine q8 Q10 (sg fun _ Q11 => ?_); refine sg fun _ Q12 => ?_; refine q0q ?_; refine q0l 20 [0, 1, 3, 7, 15, 31, 63, 127, 255, 511, 1023, 2047, 4095, 4095, 12287, 32767, 65535, 131071, 4095, 266239, 1048575, 2097151, 4194303, 8388607] mixed (by kernel_rfl) (of_decide_eq_true (by kernel_rfl)) (by kernel_rfl) ?_; obtain ⟨v_18, ev_18, h⟩ := q9 h; simp only [go_sem]; refine callq (fun _ => (q3y xv_4.Time v_18 ev_18)) (by rfl) (by rfl) ?_; simp only [go_sem]; rcases hb_23 : v_18 with _ | _
   · replace h := u6 h hb_23; simp only [go_sem, hb_23]; refine q8 Q12 ?_; refine q0o (by (simp only [go_sem]; done)) ?_; refine sg fun _ Q13 => ?_; simp only [go_sem]; refine q8 Q13 (z8 (y5 Q11 (y9 Q9 (y5 Q8 (q04 Q5 (y9 Q4 (y5 Q2 ?_))))))); simp only [go_sem]; obtain rfl := Option.some.inj h; refine j5 rfl ?_; simp only [go_sem, Le]
   ·
    replace h := x9 h hb_23; obtain ⟨v_19, ev_19, h⟩ := q9 h; simp only [go_sem, hb_23]; refine callq (fun _ => (qp2 xv_4 v_19 ev_19)) (by rfl) (by rfl) ?_; simp only [go_sem]; rcases hb_24 : v_19 with _ | _
    ·
     replace h := u6 h hb_24; simp only [go_sem, hb_24]; rcases hb_25 : (decide (0 < t7_1)) with _ | _
     ·
      replace h := u6 h hb_25; simp only [go_sem, hb_25]; refine q8 Q12 ?_; refine q55 (by (simp only [go_sem]; done)) ?_; refine j4 (q8 Q11 (sg fun _ Q14 => ?_)); obtain ⟨v_20, ev_20, h⟩ := q9 h; simp only [go_sem]; refine q0f (q2j xv_4.In.a0 v_20 ev_20) (by rfl) (by rfl) ?_; simp only [go_sem]; rcases hb_26 : v_20 with _ | _
      · replace h := u6 h hb_26; simp only [go_sem, hb_26]; refine q8 Q14 ?_; refine q0o (by (simp only [go_sem]; done)) ?_; refine sg fun _ Q15 => ?_; simp only [go_sem]; refine q8 Q15 (z8 (y9 Q9 (y5 Q8 (q04 Q5 (y9 Q4 (y5 Q2 ?_)))))); simp only [go_sem]; obtain rfl := Option.some.inj h; refine j5 rfl ?_; simp only [go_sem, Le]
      ·
       replace h := x9 h hb_26; obtain ⟨v_21, ev_21, h⟩ := q9 h; simp only [go_sem, hb_26]; refine q0f (q2j xv_4.In.a1 v_21 ev_21) (by rfl) (by rfl) ?_; simp only [go_sem]; rcases hb_27 : v_21 with _ | _
       · replace h := u6 h hb_27; simp only [go_sem, hb_27]; refine q8 Q14 ?_; refine q0o (by (simp only [go_sem]; done)) ?_; refine sg fun _ Q16 => ?_; simp only [go_sem]; refine q8 Q16 (z8 (y9 Q9 (y5 Q8 (q04 Q5 (y9 Q4 (y5 Q2 ?_)))))); simp only [go_sem]; obtain rfl := Option.some.inj h; refine j5 rfl ?_; simp only [go_sem, Le]
       ·
        replace h := x9 h hb_27; obtain ⟨v_22, ev_22, h⟩ := q9 h; simp only [go_sem, hb_27]; refine q0f (q2j xv_4.Sent v_22 ev_22) (by rfl) (by rfl) ?_; simp only [go_sem]; refine q8 Q14 ?_; refine j3 (b := (!v_22)) (by (simp only [go_sem]; done)) (fun hb_28 => ?_) (fun hb_28 => ?_)
        · replace h := x9 h hb_28; simp only [bool_to_prop] at hb_28; refine sg fun _ Q17 => ?_; simp only [go_sem]; refine q8 Q17 (z8 (y9 Q9 (y5 Q8 (q04 Q5 (y9 Q4 (y5 Q2 ?_)))))); simp only [go_sem]; obtain rfl := Option.some.inj h; refine j5 rfl ?_; simp only [go_sem, Le]
        · replace h := u6 h hb_28; simp only [bool_to_prop] at hb_28; refine j4 (y8 Q9 (q8 Q8 ?_)); simp only [go_sem]; refine w9 Q5 (⟨(m_1, i64.wrap (t7_1 + 1)), [], ?_, h, Nat.lt_succ_self _⟩); simp only [go_sem, Le]
     ·
      replace h := x9 h hb_25; obtain ⟨xv_5, ex5, h⟩ := q9 h; obtain ⟨f5a, f5b, f5c⟩ := u7 ex5; obtain ⟨v_23, ev_23, h⟩ := q9 h; simp only [go_sem, hb_25, f5a, f5b, f5c]; refine And.intro (by omega) ?_; refine q0f (q8l xv_5.Time xv_4.Time v_23 ev_23) (by rfl) (by rfl) ?_; simp only [go_sem]; refine q8 Q12 ?_; refine j3 (b := (!v_23)) (by (simp only [go_sem]; done)) (fun hb_29 => ?_) (fun hb_29 => ?_)
      · replace h := x9 h hb_29; simp only [bool_to_prop] at hb_29; refine sg fun _ Q18 => ?_; simp only [go_sem]; refine q8 Q18 (z8 (y5 Q11 (y9 Q9 (y5 Q8 (q04 Q5 (y9 Q4 (y5 Q2 ?_))))))); simp only [go_sem]; obtain rfl := Option.some.inj h; refine j5 rfl ?_; simp only [go_sem, Le]
      ·
       replace h := u6 h hb_29; simp only [bool_to_prop] at hb_29; refine j4 (q8 Q11 (sg fun _ Q19 => ?_)); obtain ⟨v_24, ev_24, h⟩ := q9 h; simp only [go_sem]; refine q0f (q2j xv_4.In.a0 v_24 ev_24) (by rfl) (by rfl) ?_; simp only [go_sem]; rcases hb_30 : v_24 with _ | _
       · replace h := u6 h hb_30; simp only [go_sem, hb_30]; refine q8 Q19 ?_; refine q0o (by (simp only [go_sem]; done)) ?_; refine sg fun _ Q20 => ?_; simp only [go_sem]; refine q8 Q20 (z8 (y9 Q9 (y5 Q8 (q04 Q5 (y9 Q4 (y5 Q2 ?_)))))); simp only [go_sem]; obtain rfl := Option.some.inj h; refine j5 rfl ?_; simp only [go_sem, Le]
       ·
        replace h := x9 h hb_30; obtain ⟨v_25, ev_25, h⟩ := q9 h; simp only [go_sem, hb_30]; refine q0f (q2j xv_4.In.a1 v_25 ev_25) (by rfl) (by rfl) ?_; simp only [go_sem]; rcases hb_31 : v_25 with _ | _
        · replace h := u6 h hb_31; simp only [go_sem, hb_31]; refine q8 Q19 ?_; refine q0o (by (simp only [go_sem]; done)) ?_; refine sg fun _ Q21 => ?_; simp only [go_sem]; refine q8 Q21 (z8 (y9 Q9 (y5 Q8 (q04 Q5 (y9 Q4 (y5 Q2 ?_)))))); simp only [go_sem]; obtain rfl := Option.some.inj h; refine j5 rfl ?_; simp only [go_sem, Le]
        ·
         replace h := x9 h hb_31; obtain ⟨v_26, ev_26, h⟩ := q9 h; simp only [go_sem, hb_31]; refine q0f (q2j xv_4.Sent v_26 ev_26) (by rfl) (by rfl) ?_; simp only [go_sem]; refine q8 Q19 ?_; refine j3 (b := (!v_26)) (by (simp only [go_sem]; done)) (fun hb_32 => ?_) (fun hb_32 => ?_)
         · replace h := x9 h hb_32; simp only [bool_to_prop] at hb_32; refine sg fun _ Q22 => ?_; simp only [go_sem]; refine q8 Q22 (z8 (y9 Q9 (y5 Q8 (q04 Q5 (y9 Q4 (y5 Q2 ?_)))))); simp only [go_sem]; obtain rfl := Option.some.inj h; refine j5 rfl ?_; simp only [go_sem, Le]
         · replace h := u6 h hb_32; simp only [bool_to_prop] at hb_32; refine j4 (y8 Q9 (q8 Q8 ?_)); simp only [go_sem]; refine w9 Q5 (⟨(m_1, i64.wrap (t7_1 + 1)), [], ?_, h, Nat.lt_succ_self _⟩); simp only [go_sem, Le]
    · replace h := x9 h hb_24; simp only [go_sem, hb_24]; refine q8 Q12 ?_; refine q0o (by (simp only [go_sem]; done)) ?_; refine sg fun _ Q23 => ?_; simp only [go_sem]; refine q8 Q23 (z8 (y5 Q11 (y9 Q9 (y5 Q8 (q04 Q5 (y9 Q4 (y5 Q2 ?_))))))); simp only [go_sem]; obtain rfl := Option.some.inj h; refine j5 rfl ?_; simp only [go_sem, Le]
  · replace h := u6 h hb_22; simp only [bool_to_prop] at hb_22; refine q03 (q09 Q7 (q07 Q5 (d9 Q4 (q8 Q2 (sg fun _ Q24 => ?_))))); simp only [go_sem]; refine q8 Q24 (z8 ?_); simp only [go_sem]; obtain rfl := Option.some.inj h; refine j5 rfl ?_; simp only [go_sem, Le]

end Go.Proofs.YtbcbcdbkdljjlaaGreat
