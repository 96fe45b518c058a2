/-
  What functions of the program compute, each told as a plain function that may give nothing, with the proof that the code does so. No condition beyond those that each theorem names.
-/
import Derived.Test.YtfjjpdjnpmajlaaLibD
import Derived.Test.YtfjjpdjnpmajlaaProg
import Derived.Test.YtfjjpdjnpmajlaaLibE
set_option linter.unusedSimpArgs false
set_option linter.unusedVariables false
namespace Go.Proofs.Ytfjjpdjnpmajlaa
open Go Go.RowKit
set_option maxHeartbeats 2000000
set_option maxRecDepth 100000
set_option linter.unusedSimpArgs false
set_option linter.unusedVariables false
theorem ty2_sz : szT Try.prog 2 = 1 := by kernel_rfl
theorem ty2_has : hasT Try.prog 2 = true := by kernel_rfl
theorem ty2_agg : aggT Try.prog 2 = false := by kernel_rfl
theorem ty2_by : bytesT Try.prog 2 = 8 := by kernel_rfl
theorem ty2_k : kindT Try.prog 2 = some .i64 := by kernel_rfl
theorem ty2_n : nilsX Try.prog 2 = [none] := by kernel_rfl
theorem ty2_ar : arrayT Try.prog 2 = none := by kernel_rfl
theorem ty2_z : zeroL Try.prog 2 = some [.int .i64 0] := by kernel_rfl
theorem ty3_sz : szT Try.prog 3 = 1 := by kernel_rfl
theorem ty3_has : hasT Try.prog 3 = true := by kernel_rfl
theorem ty3_agg : aggT Try.prog 3 = false := by kernel_rfl
theorem ty3_by : bytesT Try.prog 3 = 8 := by kernel_rfl
theorem ty3_k : kindT Try.prog 3 = some .i64 := by kernel_rfl
theorem ty3_n : nilsX Try.prog 3 = [none] := by kernel_rfl
theorem ty3_ar : arrayT Try.prog 3 = none := by kernel_rfl
theorem ty3_z : zeroL Try.prog 3 = some [.int .i64 0] := by kernel_rfl
theorem ty4_sz : szT Try.prog 4 = 1 := by kernel_rfl
theorem ty4_has : hasT Try.prog 4 = true := by kernel_rfl
theorem ty4_agg : aggT Try.prog 4 = false := by kernel_rfl
theorem ty4_by : bytesT Try.prog 4 = 1 := by kernel_rfl
theorem ty4_u : Try.prog.underlying 4 = some .bool := by kernel_rfl
theorem ty4_n : nilsX Try.prog 4 = [none] := by kernel_rfl
theorem ty4_ar : arrayT Try.prog 4 = none := by kernel_rfl
theorem ty4_z : zeroL Try.prog 4 = some [.bool false] := by kernel_rfl
theorem ty23_sz : szT Try.prog 23 = 1 := by kernel_rfl
theorem ty23_has : hasT Try.prog 23 = true := by kernel_rfl
theorem ty23_agg : aggT Try.prog 23 = false := by kernel_rfl
theorem ty23_by : bytesT Try.prog 23 = 24 := by kernel_rfl
theorem ty23_e : sliceT Try.prog 23 = some 66 := by kernel_rfl
theorem ty23_n : nilsX Try.prog 23 = [some 4] := by kernel_rfl
theorem ty23_ar : arrayT Try.prog 23 = none := by kernel_rfl
theorem ty23_z : zeroL Try.prog 23 = some [.slice none 0 0] := by kernel_rfl
theorem ty24_sz : szT Try.prog 24 = 1 := by kernel_rfl
theorem ty24_has : hasT Try.prog 24 = true := by kernel_rfl
theorem ty24_agg : aggT Try.prog 24 = false := by kernel_rfl
theorem ty24_by : bytesT Try.prog 24 = 24 := by kernel_rfl
theorem ty24_e : sliceT Try.prog 24 = some 3 := by kernel_rfl
theorem ty24_n : nilsX Try.prog 24 = [some 1] := by kernel_rfl
theorem ty24_ar : arrayT Try.prog 24 = none := by kernel_rfl
theorem ty24_z : zeroL Try.prog 24 = some [.slice none 0 0] := by kernel_rfl
theorem ty54_sz : szT Try.prog 54 = 2 := by kernel_rfl
theorem ty54_has : hasT Try.prog 54 = true := by kernel_rfl
theorem ty54_agg : aggT Try.prog 54 = true := by kernel_rfl
theorem ty54_by : bytesT Try.prog 54 = 16 := by kernel_rfl
theorem ty54_n : nilsX Try.prog 54 = [none, none] := by kernel_rfl
theorem ty54_ar : arrayT Try.prog 54 = none := by kernel_rfl
theorem ty54_f0 : fieldT Try.prog 54 0 = some (0, 2) := by kernel_rfl
theorem ty54_f1 : fieldT Try.prog 54 1 = some (1, 2) := by kernel_rfl
theorem ty54_pl : placesL Try.prog 54 = some [(0, 1), (1, 1)] := by kernel_rfl
theorem ty54_z : zeroL Try.prog 54 = some [.int .i64 0, .int .i64 0] := by kernel_rfl
theorem ty60_sz : szT Try.prog 60 = 1 := by kernel_rfl
theorem ty60_has : hasT Try.prog 60 = true := by kernel_rfl
theorem ty60_agg : aggT Try.prog 60 = false := by kernel_rfl
theorem ty60_by : bytesT Try.prog 60 = 24 := by kernel_rfl
theorem ty60_e : sliceT Try.prog 60 = some 72 := by kernel_rfl
theorem ty60_n : nilsX Try.prog 60 = [some 6] := by kernel_rfl
theorem ty60_ar : arrayT Try.prog 60 = none := by kernel_rfl
theorem ty60_z : zeroL Try.prog 60 = some [.slice none 0 0] := by kernel_rfl
theorem ty64_sz : szT Try.prog 64 = 1 := by kernel_rfl
theorem ty64_has : hasT Try.prog 64 = true := by kernel_rfl
theorem ty64_agg : aggT Try.prog 64 = false := by kernel_rfl
theorem ty64_by : bytesT Try.prog 64 = 2 := by kernel_rfl
theorem ty64_k : kindT Try.prog 64 = some .u16 := by kernel_rfl
theorem ty64_n : nilsX Try.prog 64 = [none] := by kernel_rfl
theorem ty64_ar : arrayT Try.prog 64 = none := by kernel_rfl
theorem ty64_z : zeroL Try.prog 64 = some [.int .u16 0] := by kernel_rfl
theorem ty66_sz : szT Try.prog 66 = 4 := by kernel_rfl
theorem ty66_has : hasT Try.prog 66 = true := by kernel_rfl
theorem ty66_agg : aggT Try.prog 66 = true := by kernel_rfl
theorem ty66_by : bytesT Try.prog 66 = 32 := by kernel_rfl
theorem ty66_n : nilsX Try.prog 66 = [none, none, none, none] := by kernel_rfl
theorem ty66_ar : arrayT Try.prog 66 = none := by kernel_rfl
theorem ty66_f0 : fieldT Try.prog 66 0 = some (0, 3) := by kernel_rfl
theorem ty66_f1 : fieldT Try.prog 66 1 = some (1, 3) := by kernel_rfl
theorem ty66_f2 : fieldT Try.prog 66 2 = some (2, 54) := by kernel_rfl
theorem ty66_pl : placesL Try.prog 66 = some [(0, 1), (1, 1), (2, 2)] := by kernel_rfl
theorem ty66_z : zeroL Try.prog 66 = some [.int .i64 0, .int .i64 0, .int .i64 0, .int .i64 0] := by kernel_rfl
theorem ty72_sz : szT Try.prog 72 = 6 := by kernel_rfl
theorem ty72_has : hasT Try.prog 72 = true := by kernel_rfl
theorem ty72_agg : aggT Try.prog 72 = true := by kernel_rfl
theorem ty72_by : bytesT Try.prog 72 = 48 := by kernel_rfl
theorem ty72_n : nilsX Try.prog 72 = [none, none, none, none, none, none] := by kernel_rfl
theorem ty72_ar : arrayT Try.prog 72 = none := by kernel_rfl
theorem ty72_f0 : fieldT Try.prog 72 0 = some (0, 2) := by kernel_rfl
theorem ty72_f1 : fieldT Try.prog 72 1 = some (1, 3) := by kernel_rfl
theorem ty72_f2 : fieldT Try.prog 72 2 = some (2, 2) := by kernel_rfl
theorem ty72_f3 : fieldT Try.prog 72 3 = some (3, 2) := by kernel_rfl
theorem ty72_f4 : fieldT Try.prog 72 4 = some (4, 2) := by kernel_rfl
theorem ty72_f5 : fieldT Try.prog 72 5 = some (5, 4) := by kernel_rfl
theorem ty72_pl : placesL Try.prog 72 = some [(0, 1), (1, 1), (2, 1), (3, 1), (4, 1), (5, 1)] := by kernel_rfl
theorem ty72_z : zeroL Try.prog 72 = some [.int .i64 0, .int .i64 0, .int .i64 0, .int .i64 0, .int .i64 0, .bool false] := by kernel_rfl
theorem ty74_sz : szT Try.prog 74 = 1 := by kernel_rfl
theorem ty74_has : hasT Try.prog 74 = true := by kernel_rfl
theorem ty74_agg : aggT Try.prog 74 = false := by kernel_rfl
theorem ty74_by : bytesT Try.prog 74 = 24 := by kernel_rfl
theorem ty74_e : sliceT Try.prog 74 = some 54 := by kernel_rfl
theorem ty74_n : nilsX Try.prog 74 = [some 2] := by kernel_rfl
theorem ty74_ar : arrayT Try.prog 74 = none := by kernel_rfl
theorem ty74_z : zeroL Try.prog 74 = some [.slice none 0 0] := by kernel_rfl
theorem ty111_sz : szT Try.prog 111 = 1 := by kernel_rfl
theorem ty111_has : hasT Try.prog 111 = true := by kernel_rfl
theorem ty111_agg : aggT Try.prog 111 = false := by kernel_rfl
theorem ty111_by : bytesT Try.prog 111 = 8 := by kernel_rfl
theorem ty111_n : nilsX Try.prog 111 = [none] := by kernel_rfl
theorem ty111_ar : arrayT Try.prog 111 = none := by kernel_rfl
theorem ty111_z : zeroL Try.prog 111 = some [.pointer none] := by kernel_rfl
theorem ty112_sz : szT Try.prog 112 = 1 := by kernel_rfl
theorem ty112_has : hasT Try.prog 112 = true := by kernel_rfl
theorem ty112_agg : aggT Try.prog 112 = false := by kernel_rfl
theorem ty112_by : bytesT Try.prog 112 = 8 := by kernel_rfl
theorem ty112_k : kindT Try.prog 112 = some .u64 := by kernel_rfl
theorem ty112_n : nilsX Try.prog 112 = [none] := by kernel_rfl
theorem ty112_ar : arrayT Try.prog 112 = none := by kernel_rfl
theorem ty112_z : zeroL Try.prog 112 = some [.int .u64 0] := by kernel_rfl
theorem ty114_sz : szT Try.prog 114 = 2 := by kernel_rfl
theorem ty114_has : hasT Try.prog 114 = true := by kernel_rfl
theorem ty114_agg : aggT Try.prog 114 = true := by kernel_rfl
theorem ty114_by : bytesT Try.prog 114 = 16 := by kernel_rfl
theorem ty114_n : nilsX Try.prog 114 = [none, none] := by kernel_rfl
theorem ty114_ar : arrayT Try.prog 114 = none := by kernel_rfl
theorem ty114_f0 : fieldT Try.prog 114 0 = some (0, 2) := by kernel_rfl
theorem ty114_f1 : fieldT Try.prog 114 1 = some (1, 112) := by kernel_rfl
theorem ty114_pl : placesL Try.prog 114 = some [(0, 1), (1, 1)] := by kernel_rfl
theorem ty114_z : zeroL Try.prog 114 = some [.int .i64 0, .int .u64 0] := by kernel_rfl
theorem ty116_sz : szT Try.prog 116 = 8 := by kernel_rfl
theorem ty116_has : hasT Try.prog 116 = true := by kernel_rfl
theorem ty116_agg : aggT Try.prog 116 = true := by kernel_rfl
theorem ty116_by : bytesT Try.prog 116 = 64 := by kernel_rfl
theorem ty116_n : nilsX Try.prog 116 = [none, none, none, none, none, none, none, none] := by kernel_rfl
theorem ty116_ar : arrayT Try.prog 116 = none := by kernel_rfl
theorem ty116_f0 : fieldT Try.prog 116 0 = some (0, 72) := by kernel_rfl
theorem ty116_f1 : fieldT Try.prog 116 1 = some (6, 114) := by kernel_rfl
theorem ty116_pl : placesL Try.prog 116 = some [(0, 6), (6, 2)] := by kernel_rfl
theorem ty116_z : zeroL Try.prog 116 = some [.int .i64 0, .int .i64 0, .int .i64 0, .int .i64 0, .int .i64 0, .bool false, .int .i64 0, .int .u64 0] := by kernel_rfl
theorem ty126_sz : szT Try.prog 126 = 1 := by kernel_rfl
theorem ty126_has : hasT Try.prog 126 = true := by kernel_rfl
theorem ty126_agg : aggT Try.prog 126 = false := by kernel_rfl
theorem ty126_by : bytesT Try.prog 126 = 8 := by kernel_rfl
theorem ty126_k : kindT Try.prog 126 = some .u64 := by kernel_rfl
theorem ty126_n : nilsX Try.prog 126 = [none] := by kernel_rfl
theorem ty126_ar : arrayT Try.prog 126 = none := by kernel_rfl
theorem ty126_z : zeroL Try.prog 126 = some [.int .u64 0] := by kernel_rfl
theorem en5 : entB Try.prog 5 = true := by kernel_rfl
theorem en6 : entB Try.prog 6 = true := by kernel_rfl
theorem en7 : entB Try.prog 7 = true := by kernel_rfl
theorem en8 : entB Try.prog 8 = true := by kernel_rfl
theorem en29 : entB Try.prog 29 = true := by kernel_rfl
theorem en30 : entB Try.prog 30 = true := by kernel_rfl
theorem en31 : entB Try.prog 31 = true := by kernel_rfl
theorem en32 : entB Try.prog 32 = true := by kernel_rfl
theorem en33 : entB Try.prog 33 = true := by kernel_rfl
theorem en34 : entB Try.prog 34 = true := by kernel_rfl
theorem en35 : entB Try.prog 35 = true := by kernel_rfl
theorem en62 : entB Try.prog 62 = true := by kernel_rfl
theorem en63 : entB Try.prog 63 = true := by kernel_rfl
theorem en64 : entB Try.prog 64 = true := by kernel_rfl
theorem en65 : entB Try.prog 65 = true := by kernel_rfl
theorem en66 : entB Try.prog 66 = true := by kernel_rfl
theorem en67 : entB Try.prog 67 = true := by kernel_rfl
theorem en68 : entB Try.prog 68 = true := by kernel_rfl
theorem en69 : entB Try.prog 69 = true := by kernel_rfl
theorem en70 : entB Try.prog 70 = true := by kernel_rfl
theorem en71 : entB Try.prog 71 = true := by kernel_rfl
theorem en72 : entB Try.prog 72 = true := by kernel_rfl
theorem en92 : entB Try.prog 92 = true := by kernel_rfl
theorem en93 : entB Try.prog 93 = true := by kernel_rfl
theorem en94 : entB Try.prog 94 = true := by kernel_rfl
theorem en96 : entB Try.prog 96 = true := by kernel_rfl
theorem en97 : entB Try.prog 97 = true := by kernel_rfl
theorem en118 : entB Try.prog 118 = true := by kernel_rfl
theorem en119 : entB Try.prog 119 = true := by kernel_rfl
theorem en140 : entB Try.prog 140 = true := by kernel_rfl
theorem en151 : entB Try.prog 151 = true := by kernel_rfl
@[go_sem] theorem tyb60_0 : (szT Try.prog 2 = 1) ∧ (hasT Try.prog 2 = true) ∧ (aggT Try.prog 2 = false) ∧ (bytesT Try.prog 2 = 8) ∧ (kindT Try.prog 2 = some .i64) ∧ (nilsX Try.prog 2 = [none]) ∧ (arrayT Try.prog 2 = none) ∧ (zeroL Try.prog 2 = some [.int .i64 0]) ∧ (szT Try.prog 3 = 1) ∧ (hasT Try.prog 3 = true) ∧ (aggT Try.prog 3 = false) ∧ (bytesT Try.prog 3 = 8) ∧ (kindT Try.prog 3 = some .i64) ∧ (nilsX Try.prog 3 = [none]) ∧ (arrayT Try.prog 3 = none) ∧ (zeroL Try.prog 3 = some [.int .i64 0]) ∧ (szT Try.prog 4 = 1) ∧ (hasT Try.prog 4 = true) ∧ (aggT Try.prog 4 = false) ∧ (bytesT Try.prog 4 = 1) ∧ (Try.prog.underlying 4 = some .bool) ∧ (nilsX Try.prog 4 = [none]) ∧ (arrayT Try.prog 4 = none) ∧ (zeroL Try.prog 4 = some [.bool false]) ∧ (szT Try.prog 23 = 1) ∧ (hasT Try.prog 23 = true) ∧ (aggT Try.prog 23 = false) ∧ (bytesT Try.prog 23 = 24) ∧ (sliceT Try.prog 23 = some 66) ∧ (nilsX Try.prog 23 = [some 4]) ∧ (arrayT Try.prog 23 = none) ∧ (zeroL Try.prog 23 = some [.slice none 0 0]) ∧ (szT Try.prog 24 = 1) ∧ (hasT Try.prog 24 = true) ∧ (aggT Try.prog 24 = false) ∧ (bytesT Try.prog 24 = 24) ∧ (sliceT Try.prog 24 = some 3) ∧ (nilsX Try.prog 24 = [some 1]) ∧ (arrayT Try.prog 24 = none) ∧ (zeroL Try.prog 24 = some [.slice none 0 0]) ∧ (szT Try.prog 54 = 2) ∧ (hasT Try.prog 54 = true) ∧ (aggT Try.prog 54 = true) ∧ (bytesT Try.prog 54 = 16) ∧ (nilsX Try.prog 54 = [none, none]) ∧ (arrayT Try.prog 54 = none) ∧ (fieldT Try.prog 54 0 = some (0, 2)) ∧ (fieldT Try.prog 54 1 = some (1, 2)) ∧ (placesL Try.prog 54 = some [(0, 1), (1, 1)]) ∧ (zeroL Try.prog 54 = some [.int .i64 0, .int .i64 0]) ∧ (szT Try.prog 60 = 1) ∧ (hasT Try.prog 60 = true) ∧ (aggT Try.prog 60 = false) ∧ (bytesT Try.prog 60 = 24) ∧ (sliceT Try.prog 60 = some 72) ∧ (nilsX Try.prog 60 = [some 6]) ∧ (arrayT Try.prog 60 = none) ∧ (zeroL Try.prog 60 = some [.slice none 0 0]) ∧ (szT Try.prog 64 = 1) ∧ (hasT Try.prog 64 = true) := ⟨ty2_sz, ty2_has, ty2_agg, ty2_by, ty2_k, ty2_n, ty2_ar, ty2_z, ty3_sz, ty3_has, ty3_agg, ty3_by, ty3_k, ty3_n, ty3_ar, ty3_z, ty4_sz, ty4_has, ty4_agg, ty4_by, ty4_u, ty4_n, ty4_ar, ty4_z, ty23_sz, ty23_has, ty23_agg, ty23_by, ty23_e, ty23_n, ty23_ar, ty23_z, ty24_sz, ty24_has, ty24_agg, ty24_by, ty24_e, ty24_n, ty24_ar, ty24_z, ty54_sz, ty54_has, ty54_agg, ty54_by, ty54_n, ty54_ar, ty54_f0, ty54_f1, ty54_pl, ty54_z, ty60_sz, ty60_has, ty60_agg, ty60_by, ty60_e, ty60_n, ty60_ar, ty60_z, ty64_sz, ty64_has⟩
@[go_sem] theorem tyb120_0 : (aggT Try.prog 64 = false) ∧ (bytesT Try.prog 64 = 2) ∧ (kindT Try.prog 64 = some .u16) ∧ (nilsX Try.prog 64 = [none]) ∧ (arrayT Try.prog 64 = none) ∧ (zeroL Try.prog 64 = some [.int .u16 0]) ∧ (szT Try.prog 66 = 4) ∧ (hasT Try.prog 66 = true) ∧ (aggT Try.prog 66 = true) ∧ (bytesT Try.prog 66 = 32) ∧ (nilsX Try.prog 66 = [none, none, none, none]) ∧ (arrayT Try.prog 66 = none) ∧ (fieldT Try.prog 66 0 = some (0, 3)) ∧ (fieldT Try.prog 66 1 = some (1, 3)) ∧ (fieldT Try.prog 66 2 = some (2, 54)) ∧ (placesL Try.prog 66 = some [(0, 1), (1, 1), (2, 2)]) ∧ (zeroL Try.prog 66 = some [.int .i64 0, .int .i64 0, .int .i64 0, .int .i64 0]) ∧ (szT Try.prog 72 = 6) ∧ (hasT Try.prog 72 = true) ∧ (aggT Try.prog 72 = true) ∧ (bytesT Try.prog 72 = 48) ∧ (nilsX Try.prog 72 = [none, none, none, none, none, none]) ∧ (arrayT Try.prog 72 = none) ∧ (fieldT Try.prog 72 0 = some (0, 2)) ∧ (fieldT Try.prog 72 1 = some (1, 3)) ∧ (fieldT Try.prog 72 2 = some (2, 2)) ∧ (fieldT Try.prog 72 3 = some (3, 2)) ∧ (fieldT Try.prog 72 4 = some (4, 2)) ∧ (fieldT Try.prog 72 5 = some (5, 4)) ∧ (placesL Try.prog 72 = some [(0, 1), (1, 1), (2, 1), (3, 1), (4, 1), (5, 1)]) ∧ (zeroL Try.prog 72 = some [.int .i64 0, .int .i64 0, .int .i64 0, .int .i64 0, .int .i64 0, .bool false]) ∧ (szT Try.prog 74 = 1) ∧ (hasT Try.prog 74 = true) ∧ (aggT Try.prog 74 = false) ∧ (bytesT Try.prog 74 = 24) ∧ (sliceT Try.prog 74 = some 54) ∧ (nilsX Try.prog 74 = [some 2]) ∧ (arrayT Try.prog 74 = none) ∧ (zeroL Try.prog 74 = some [.slice none 0 0]) ∧ (szT Try.prog 111 = 1) ∧ (hasT Try.prog 111 = true) ∧ (aggT Try.prog 111 = false) ∧ (bytesT Try.prog 111 = 8) ∧ (nilsX Try.prog 111 = [none]) ∧ (arrayT Try.prog 111 = none) ∧ (zeroL Try.prog 111 = some [.pointer none]) ∧ (szT Try.prog 112 = 1) ∧ (hasT Try.prog 112 = true) ∧ (aggT Try.prog 112 = false) ∧ (bytesT Try.prog 112 = 8) ∧ (kindT Try.prog 112 = some .u64) ∧ (nilsX Try.prog 112 = [none]) ∧ (arrayT Try.prog 112 = none) ∧ (zeroL Try.prog 112 = some [.int .u64 0]) ∧ (szT Try.prog 114 = 2) ∧ (hasT Try.prog 114 = true) ∧ (aggT Try.prog 114 = true) ∧ (bytesT Try.prog 114 = 16) ∧ (nilsX Try.prog 114 = [none, none]) ∧ (arrayT Try.prog 114 = none) := ⟨ty64_agg, ty64_by, ty64_k, ty64_n, ty64_ar, ty64_z, ty66_sz, ty66_has, ty66_agg, ty66_by, ty66_n, ty66_ar, ty66_f0, ty66_f1, ty66_f2, ty66_pl, ty66_z, ty72_sz, ty72_has, ty72_agg, ty72_by, ty72_n, ty72_ar, ty72_f0, ty72_f1, ty72_f2, ty72_f3, ty72_f4, ty72_f5, ty72_pl, ty72_z, ty74_sz, ty74_has, ty74_agg, ty74_by, ty74_e, ty74_n, ty74_ar, ty74_z, ty111_sz, ty111_has, ty111_agg, ty111_by, ty111_n, ty111_ar, ty111_z, ty112_sz, ty112_has, ty112_agg, ty112_by, ty112_k, ty112_n, ty112_ar, ty112_z, ty114_sz, ty114_has, ty114_agg, ty114_by, ty114_n, ty114_ar⟩
@[go_sem] theorem tyb180_0 : (fieldT Try.prog 114 0 = some (0, 2)) ∧ (fieldT Try.prog 114 1 = some (1, 112)) ∧ (placesL Try.prog 114 = some [(0, 1), (1, 1)]) ∧ (zeroL Try.prog 114 = some [.int .i64 0, .int .u64 0]) ∧ (szT Try.prog 116 = 8) ∧ (hasT Try.prog 116 = true) ∧ (aggT Try.prog 116 = true) ∧ (bytesT Try.prog 116 = 64) ∧ (nilsX Try.prog 116 = [none, none, none, none, none, none, none, none]) ∧ (arrayT Try.prog 116 = none) ∧ (fieldT Try.prog 116 0 = some (0, 72)) ∧ (fieldT Try.prog 116 1 = some (6, 114)) ∧ (placesL Try.prog 116 = some [(0, 6), (6, 2)]) ∧ (zeroL Try.prog 116 = some [.int .i64 0, .int .i64 0, .int .i64 0, .int .i64 0, .int .i64 0, .bool false, .int .i64 0, .int .u64 0]) ∧ (szT Try.prog 126 = 1) ∧ (hasT Try.prog 126 = true) ∧ (aggT Try.prog 126 = false) ∧ (bytesT Try.prog 126 = 8) ∧ (kindT Try.prog 126 = some .u64) ∧ (nilsX Try.prog 126 = [none]) ∧ (arrayT Try.prog 126 = none) ∧ (zeroL Try.prog 126 = some [.int .u64 0]) ∧ (entB Try.prog 5 = true) ∧ (entB Try.prog 6 = true) ∧ (entB Try.prog 7 = true) ∧ (entB Try.prog 8 = true) ∧ (entB Try.prog 29 = true) ∧ (entB Try.prog 30 = true) ∧ (entB Try.prog 31 = true) ∧ (entB Try.prog 32 = true) ∧ (entB Try.prog 33 = true) ∧ (entB Try.prog 34 = true) ∧ (entB Try.prog 35 = true) ∧ (entB Try.prog 62 = true) ∧ (entB Try.prog 63 = true) ∧ (entB Try.prog 64 = true) ∧ (entB Try.prog 65 = true) ∧ (entB Try.prog 66 = true) ∧ (entB Try.prog 67 = true) ∧ (entB Try.prog 68 = true) ∧ (entB Try.prog 69 = true) ∧ (entB Try.prog 70 = true) ∧ (entB Try.prog 71 = true) ∧ (entB Try.prog 72 = true) ∧ (entB Try.prog 92 = true) ∧ (entB Try.prog 93 = true) ∧ (entB Try.prog 94 = true) ∧ (entB Try.prog 96 = true) ∧ (entB Try.prog 97 = true) ∧ (entB Try.prog 118 = true) ∧ (entB Try.prog 119 = true) ∧ (entB Try.prog 140 = true) ∧ (entB Try.prog 151 = true) := ⟨ty114_f0, ty114_f1, ty114_pl, ty114_z, ty116_sz, ty116_has, ty116_agg, ty116_by, ty116_n, ty116_ar, ty116_f0, ty116_f1, ty116_pl, ty116_z, ty126_sz, ty126_has, ty126_agg, ty126_by, ty126_k, ty126_n, ty126_ar, ty126_z, en5, en6, en7, en8, en29, en30, en31, en32, en33, en34, en35, en62, en63, en64, en65, en66, en67, en68, en69, en70, en71, en72, en92, en93, en94, en96, en97, en118, en119, en140, en151⟩
theorem mixed : Try.prog.follows .mixedOrders = true := by kernel_rfl
structure Nu64 where
  n : Int
instance : Row Nu64 := ⟨1, fun x => [.v (.int .u64 x.n)]⟩
@[go_sem] theorem row_Nu64 (x : Nu64) : Row.row x = [.v (.int .u64 x.n)] := rfl
instance : Dat Nu64 where
  ct := [.int .u64]
  ok x := inI .u64 x.n
  len := rfl
  of avs h := by
    simp only [rowOK, ctOK] at h
    obtain ⟨_, _, rfl, ⟨n, rfl, hw⟩, rfl⟩ := h
    exact ⟨⟨n⟩, rfl, hw⟩
structure GRec where
  K : Int
  V : Int
instance : Row GRec := ⟨2, fun x => [.v (.int .i64 x.K), .v (.int .i64 x.V)]⟩
@[go_sem] theorem row_GRec (x : GRec) : Row.row x = [.v (.int .i64 x.K), .v (.int .i64 x.V)] := rfl
@[go_sem] theorem sz_GRec : Row.sz GRec = 2 := rfl
instance : Dat GRec where
  ct := Dat.ct Int ++ (Dat.ct Int)
  ok x := Dat.ok x.K ∧ Dat.ok x.V
  len := rfl
  of avs h := by
    obtain ⟨b0, r0, rfl, h0, g0⟩ := rowOK_split h
    obtain ⟨x0, rfl, k0⟩ := Dat.of (α := Int) _ h0
    obtain ⟨x1, rfl, k1⟩ := Dat.of (α := Int) _ g0
    exact ⟨⟨x0, x1⟩, rfl, k0, k1⟩
structure GQuery_wide where
  hi : Int
  lo : Nu64
instance : Row GQuery_wide := ⟨2, fun x => [.v (.int .i64 x.hi), .v (.int .u64 x.lo.n)]⟩
@[go_sem] theorem row_GQuery_wide (x : GQuery_wide) : Row.row x = [.v (.int .i64 x.hi), .v (.int .u64 x.lo.n)] := rfl
@[go_sem] theorem sz_GQuery_wide : Row.sz GQuery_wide = 2 := rfl
instance : Dat GQuery_wide where
  ct := Dat.ct Int ++ (Dat.ct Nu64)
  ok x := Dat.ok x.hi ∧ Dat.ok x.lo
  len := rfl
  of avs h := by
    obtain ⟨b0, r0, rfl, h0, g0⟩ := rowOK_split h
    obtain ⟨x0, rfl, k0⟩ := Dat.of (α := Int) _ h0
    obtain ⟨x1, rfl, k1⟩ := Dat.of (α := Nu64) _ g0
    exact ⟨⟨x0, x1⟩, rfl, k0, k1⟩
structure GRow where
  K : Int
  Many : Int
  Least : Int
  Top : Int
  Sum : Int
  Sure : Bool
instance : Row GRow := ⟨6, fun x => [.v (.int .i64 x.K), .v (.int .i64 x.Many), .v (.int .i64 x.Least), .v (.int .i64 x.Top), .v (.int .i64 x.Sum), .v (.bool x.Sure)]⟩
@[go_sem] theorem row_GRow (x : GRow) : Row.row x = [.v (.int .i64 x.K), .v (.int .i64 x.Many), .v (.int .i64 x.Least), .v (.int .i64 x.Top), .v (.int .i64 x.Sum), .v (.bool x.Sure)] := rfl
@[go_sem] theorem sz_GRow : Row.sz GRow = 6 := rfl
instance : Dat GRow where
  ct := Dat.ct Int ++ (Dat.ct Int ++ (Dat.ct Int ++ (Dat.ct Int ++ (Dat.ct Int ++ (Dat.ct Bool)))))
  ok x := Dat.ok x.K ∧ Dat.ok x.Many ∧ Dat.ok x.Least ∧ Dat.ok x.Top ∧ Dat.ok x.Sum ∧ Dat.ok x.Sure
  len := rfl
  of avs h := by
    obtain ⟨b0, r0, rfl, h0, g0⟩ := rowOK_split h
    obtain ⟨b1, r1, rfl, h1, g1⟩ := rowOK_split g0
    obtain ⟨b2, r2, rfl, h2, g2⟩ := rowOK_split g1
    obtain ⟨b3, r3, rfl, h3, g3⟩ := rowOK_split g2
    obtain ⟨b4, r4, rfl, h4, g4⟩ := rowOK_split g3
    obtain ⟨x0, rfl, k0⟩ := Dat.of (α := Int) _ h0
    obtain ⟨x1, rfl, k1⟩ := Dat.of (α := Int) _ h1
    obtain ⟨x2, rfl, k2⟩ := Dat.of (α := Int) _ h2
    obtain ⟨x3, rfl, k3⟩ := Dat.of (α := Int) _ h3
    obtain ⟨x4, rfl, k4⟩ := Dat.of (α := Int) _ h4
    obtain ⟨x5, rfl, k5⟩ := Dat.of (α := Bool) _ g4
    exact ⟨⟨x0, x1, x2, x3, x4, x5⟩, rfl, k0, k1, k2, k3, k4, k5⟩
structure GQuery_group where
  Row : GRow
  sum : GQuery_wide
instance : Row GQuery_group := ⟨8, fun x => [.v (.int .i64 x.Row.K), .v (.int .i64 x.Row.Many), .v (.int .i64 x.Row.Least), .v (.int .i64 x.Row.Top), .v (.int .i64 x.Row.Sum), .v (.bool x.Row.Sure), .v (.int .i64 x.sum.hi), .v (.int .u64 x.sum.lo.n)]⟩
@[go_sem] theorem row_GQuery_group (x : GQuery_group) : Row.row x = [.v (.int .i64 x.Row.K), .v (.int .i64 x.Row.Many), .v (.int .i64 x.Row.Least), .v (.int .i64 x.Row.Top), .v (.int .i64 x.Row.Sum), .v (.bool x.Row.Sure), .v (.int .i64 x.sum.hi), .v (.int .u64 x.sum.lo.n)] := rfl
@[go_sem] theorem sz_GQuery_group : Row.sz GQuery_group = 8 := rfl
instance : Dat GQuery_group where
  ct := Dat.ct GRow ++ (Dat.ct GQuery_wide)
  ok x := Dat.ok x.Row ∧ Dat.ok x.sum
  len := rfl
  of avs h := by
    obtain ⟨b0, r0, rfl, h0, g0⟩ := rowOK_split h
    obtain ⟨x0, rfl, k0⟩ := Dat.of (α := GRow) _ h0
    obtain ⟨x1, rfl, k1⟩ := Dat.of (α := GQuery_wide) _ g0
    exact ⟨⟨x0, x1⟩, rfl, k0, k1⟩
structure GOut where
  Node : Int
  Epoch : Int
  Rec : GRec
instance : Row GOut := ⟨4, fun x => [.v (.int .i64 x.Node), .v (.int .i64 x.Epoch), .v (.int .i64 x.Rec.K), .v (.int .i64 x.Rec.V)]⟩
@[go_sem] theorem row_GOut (x : GOut) : Row.row x = [.v (.int .i64 x.Node), .v (.int .i64 x.Epoch), .v (.int .i64 x.Rec.K), .v (.int .i64 x.Rec.V)] := rfl
@[go_sem] theorem sz_GOut : Row.sz GOut = 4 := rfl
instance : Dat GOut where
  ct := Dat.ct Int ++ (Dat.ct Int ++ (Dat.ct GRec))
  ok x := Dat.ok x.Node ∧ Dat.ok x.Epoch ∧ Dat.ok x.Rec
  len := rfl
  of avs h := by
    obtain ⟨b0, r0, rfl, h0, g0⟩ := rowOK_split h
    obtain ⟨b1, r1, rfl, h1, g1⟩ := rowOK_split g0
    obtain ⟨x0, rfl, k0⟩ := Dat.of (α := Int) _ h0
    obtain ⟨x1, rfl, k1⟩ := Dat.of (α := Int) _ h1
    obtain ⟨x2, rfl, k2⟩ := Dat.of (α := GRec) _ g1
    exact ⟨⟨x0, x1, x2⟩, rfl, k0, k1, k2⟩
@[go_sem] theorem eqT72 : EqT Try.prog 72 [some .i64, some .i64, some .i64, some .i64, some .i64, none] := EqT_of (by kernel_rfl) (by kernel_rfl) (by kernel_rfl)
instance : Inhabited GRec := ⟨⟨0, 0⟩⟩
end Go.Proofs.Ytfjjpdjnpmajlaa

namespace Go.Proofs.Ytfjjpdjnpmajlaa
open Go Go.RowKit
set_option maxHeartbeats 2000000
set_option maxRecDepth 100000
set_option linter.unusedSimpArgs false
set_option linter.unusedVariables false
def lay69_ren : Go.Shelf.Ren := ⟨fun | 6 => 69 | 15 => 80 | 14 => 95 | 28 => 112 | 29 => 113 | 20 => 120 | 21 => 121 | 22 => 122 | 23 => 123 | 24 => 124 | 25 => 125 | 26 => 126 | 27 => 127 | 46 => 141 | 47 => 132 | 48 => 133 | 49 => 142 | 50 => 143 | 57 => 152 | n => n, fun | 22 => 74 | 24 => 54 | 25 => 110 | 3 => 3 | 39 => 126 | 0 => 0 | 53 => 157 | 55 => 112 | 4 => 4 | 46 => 151 | 45 => 150 | 50 => 143 | 5 => 5 | 9 => 9 | 66 => 172 | 70 => 176 | 76 => 189 | 77 => 190 | n => n, fun | n => n⟩
theorem lay69 : Go.Proofs.SlLaysF0.n6 Try.prog lay69_ren := {
  mixed := by kernel_rfl
  f6 := ⟨Try.f69.name, by decide, Try.func69.trans (congrArg some (by kernel_rfl))⟩
  f14 := ⟨Try.f95.name, by decide, Try.func95.trans (congrArg some (by kernel_rfl))⟩
  f15 := Try.func80.trans (congrArg some (by kernel_rfl))
  f20 := ⟨Try.f120.name, by decide, Try.func120.trans (congrArg some (by kernel_rfl))⟩
  f21 := ⟨Try.f121.name, by decide, Try.func121.trans (congrArg some (by kernel_rfl))⟩
  f22 := ⟨Try.f122.name, by decide, Try.func122.trans (congrArg some (by kernel_rfl))⟩
  f23 := ⟨Try.f123.name, by decide, Try.func123.trans (congrArg some (by kernel_rfl))⟩
  f24 := ⟨Try.f124.name, by decide, Try.func124.trans (congrArg some (by kernel_rfl))⟩
  f25 := ⟨Try.f125.name, by decide, Try.func125.trans (congrArg some (by kernel_rfl))⟩
  f26 := ⟨Try.f126.name, by decide, Try.func126.trans (congrArg some (by kernel_rfl))⟩
  f27 := ⟨Try.f127.name, by decide, Try.func127.trans (congrArg some (by kernel_rfl))⟩
  f28 := Try.func112.trans (congrArg some (by kernel_rfl))
  f29 := Try.func113.trans (congrArg some (by kernel_rfl))
  f46 := ⟨Try.f141.name, by decide, Try.func141.trans (congrArg some (by kernel_rfl))⟩
  f47 := Try.func132.trans (congrArg some (by kernel_rfl))
  f48 := Try.func133.trans (congrArg some (by kernel_rfl))
  f49 := ⟨Try.f142.name, by decide, Try.func142.trans (congrArg some (by kernel_rfl))⟩
  f50 := ⟨Try.f143.name, by decide, Try.func143.trans (congrArg some (by kernel_rfl))⟩
  f57 := ⟨Try.f152.name, by decide, Try.func152.trans (congrArg some (by kernel_rfl))⟩
  t0 := Try.underlying0
  a0 := Try.isAgg0
  z0 := Try.sizeOf0
  v0 := Try.zeroValue0
  t3 := Try.underlying3
  a3 := Try.isAgg3
  z3 := Try.sizeOf3
  v3 := Try.zeroValue3
  t4 := Try.underlying4
  a4 := Try.isAgg4
  z4 := Try.sizeOf4
  v4 := Try.zeroValue4
  t5 := Try.underlying5
  a5 := Try.isAgg5
  z5 := Try.sizeOf5
  v5 := Try.zeroValue5
  t9 := Try.underlying9
  a9 := Try.isAgg9
  z9 := Try.sizeOf9
  v9 := Try.zeroValue9
  t22 := Try.underlying74
  a22 := Try.isAgg74
  z22 := Try.sizeOf74
  v22 := Try.zeroValue74
  t25 := Try.underlying110
  a25 := Try.isAgg110
  z25 := Try.sizeOf110
  v25 := Try.zeroValue110
  t39 := Try.underlying126
  a39 := Try.isAgg126
  z39 := Try.sizeOf126
  v39 := Try.zeroValue126
  t45 := Try.underlying150
  a45 := Try.isAgg150
  z45 := Try.sizeOf150
  v45 := Try.zeroValue150
  t46 := Try.underlying151
  a46 := Try.isAgg151
  z46 := Try.sizeOf151
  v46 := Try.zeroValue151
  t50 := Try.underlying143
  a50 := Try.isAgg143
  z50 := Try.sizeOf143
  v50 := Try.zeroValue143
  t53 := Try.underlying157
  a53 := Try.isAgg157
  z53 := Try.sizeOf157
  v53 := Try.zeroValue157
  t55 := Try.underlying112
  a55 := Try.isAgg112
  z55 := Try.sizeOf112
  v55 := Try.zeroValue112
  t66 := Try.underlying172
  a66 := Try.isAgg172
  z66 := Try.sizeOf172
  v66 := Try.zeroValue172
  t70 := Try.underlying176
  a70 := Try.isAgg176
  z70 := Try.sizeOf176
  v70 := Try.zeroValue176
  t76 := Try.underlying189
  a76 := Try.isAgg189
  z76 := Try.sizeOf189
  v76 := Try.zeroValue189
  t77 := Try.underlying190
  a77 := Try.isAgg190
  z77 := Try.sizeOf190
  v77 := Try.zeroValue190 }
noncomputable def f_slices_SortFunc_Rec_s0_0 (x_0 : List GRec) (cmp_0 : GRec → GRec → Option Int) : Option (List GRec) := sortF cmp_0 x_0
def f_slices_SortFunc_Rec_s0_0_ev (x : GRec) : List Value := [(.int .i64 x.K), (.int .i64 x.V)]
theorem f_slices_SortFunc_Rec_s0_0_det (x_0 : List GRec) (cmp_0 : GRec → GRec → Option Int) (g_cmp_0 : FuncId) (c_cmp_0 : List AV) (F_cmp_0 : idFreeL c_cmp_0 = true) (E_cmp_0 : entB Try.prog g_cmp_0 = true) (H_cmp_0 : ∀ (x0 : GRec) (x1 : GRec) (r : Int), cmp_0 x0 x1 = some r → PureS Try.prog g_cmp_0 ([.agg [.v (.int .i64 x0.K), .v (.int .i64 x0.V)], .agg [.v (.int .i64 x1.K), .v (.int .i64 x1.V)]] ++ c_cmp_0) 0 (.v (.int .i64 r))) (r : List GRec) (h : f_slices_SortFunc_Rec_s0_0 x_0 cmp_0 = some r) : DetS Try.prog 69 [.osl 0 2 0 (List.length x_0), .clo g_cmp_0 c_cmp_0] [(0, .arr 2 (enc x_0))] 1 (.tup []) [(0, .arr 2 (enc r))] 1 :=
  sortFunc_det (ev := f_slices_SortFunc_Rec_s0_0_ev) lay69 (by kernel_rfl) (fun _ => rfl) (fun _ => rfl) (fun x v hv => by simp only [f_slices_SortFunc_Rec_s0_0_ev, List.mem_cons, List.not_mem_nil, or_false] at hv; rcases hv with rfl | rfl <;> rfl) Try.isAgg54 Try.sizeOf54 F_cmp_0 E_cmp_0 H_cmp_0 h
end Go.Proofs.Ytfjjpdjnpmajlaa

namespace Go.Proofs.Ytfjjpdjnpmajlaa
open Go Go.RowKit
set_option maxHeartbeats 2000000
set_option maxRecDepth 100000
set_option linter.unusedSimpArgs false
set_option linter.unusedVariables false
def f_cmp_isNaN_int64 (xv_0 : Int) : Option Bool :=
  some (!(xv_0 == xv_0))
theorem f_cmp_isNaN_int64_ok (xv_0 : Int)  (r : Bool) (h : f_cmp_isNaN_int64 xv_0 = some r) : PureS Try.prog 94 [.v (.int .i64 xv_0)] 0 (.v (.bool r)) := by
  unfold PureS
  refine Spec.of_vc Try.func94 rfl (by kernel_rfl) (by kernel_rfl) ?_
  rw [f_cmp_isNaN_int64] at h
  refine vc_seq_gen (by kernel_rfl) ?_
  intro QQ1 hQ1
  simp only [go_sem, Try.ntmps94, Try.results94]
  refine seqQ_normal hQ1 ?_
  refine vc_seq_gen (by kernel_rfl) ?_
  intro QQ2 hQ2
  simp only [go_sem, Try.ntmps94, Try.results94]
  refine seqQ_normal hQ2 ?_
  refine vc_ret_of ?_
  simp only [go_sem, Try.ntmps94, Try.results94]
  obtain rfl := Option.some.inj h
  refine retW_pure rfl ?_
  simp only [go_sem, Le]
end Go.Proofs.Ytfjjpdjnpmajlaa

namespace Go.Proofs.Ytfjjpdjnpmajlaa
open Go Go.RowKit
set_option maxHeartbeats 2000000
set_option maxRecDepth 100000
set_option linter.unusedSimpArgs false
set_option linter.unusedVariables false
def f_cmp_Compare_int64 (xv_0 : Int) (y_0 : Int) : Option Int :=
  bindO (f_cmp_isNaN_int64 xv_0) (fun (v_0 : Bool) =>
  bindO (f_cmp_isNaN_int64 y_0) (fun (v_1 : Bool) =>
  (if v_0 = true then (if v_1 = true then some 0
  else some (-1))
  else (if v_1 = true then some 1
  else (if (decide (xv_0 < y_0)) = true then some (-1)
  else (if (decide (y_0 < xv_0)) = true then some 1
  else some 0))))))
theorem f_cmp_Compare_int64_ok (xv_0 : Int) (y_0 : Int)  (r : Int) (h : f_cmp_Compare_int64 xv_0 y_0 = some r) : PureS Try.prog 67 [.v (.int .i64 xv_0), .v (.int .i64 y_0)] 0 (.v (.int .i64 r)) := by
  unfold PureS
  refine Spec.of_vc Try.func67 rfl (by kernel_rfl) (by kernel_rfl) ?_
  rw [f_cmp_Compare_int64] at h
  refine vc_seq_gen (by kernel_rfl) ?_
  intro QQ1 hQ1
  simp only [go_sem, Try.ntmps67, Try.results67]
  refine seqQ_normal hQ1 ?_
  refine vc_seq_gen (by kernel_rfl) ?_
  intro QQ2 hQ2
  obtain ⟨v_0, ev_0, h⟩ := bindO_some h
  simp only [go_sem, Try.ntmps67, Try.results67]
  refine call0 (f_cmp_isNaN_int64_ok xv_0 v_0 ev_0) (by rfl) (by rfl) ?_
  simp only [go_sem, Try.ntmps67, Try.results67]
  refine seqQ_normal hQ2 ?_
  refine vc_seq_gen (by kernel_rfl) ?_
  intro QQ3 hQ3
  obtain ⟨v_1, ev_1, h⟩ := bindO_some h
  simp only [go_sem, Try.ntmps67, Try.results67]
  refine call0 (f_cmp_isNaN_int64_ok y_0 v_1 ev_1) (by rfl) (by rfl) ?_
  simp only [go_sem, Try.ntmps67, Try.results67]
  refine seqQ_normal hQ3 ?_
  refine vc_seq_gen (by kernel_rfl) ?_
  intro QQ4 hQ4
  refine vc_seq_gen (by kernel_rfl) ?_
  intro QQ5 hQ5
  simp only [go_sem, Try.ntmps67, Try.results67]
  refine seqQ_normal hQ5 ?_
  refine vc_cond_of (b := v_0) (by (simp only [go_sem]; done)) (fun hb_0 => ?_) (fun hb_0 => ?_)
  ·
    replace h := if_t h hb_0
    refine vc_seq_gen (by kernel_rfl) ?_
    intro QQ6 hQ6
    refine vc_seq_gen (by kernel_rfl) ?_
    intro QQ7 hQ7
    simp only [go_sem, Try.ntmps67, Try.results67]
    refine seqQ_normal hQ7 ?_
    refine vc_cond_of (b := v_1) (by (simp only [go_sem]; done)) (fun hb_1 => ?_) (fun hb_1 => ?_)
    ·
      replace h := if_t h hb_1
      refine vc_seq_gen (by kernel_rfl) ?_
      intro QQ8 hQ8
      simp only [go_sem, Try.ntmps67, Try.results67]
      refine seqQ_normal hQ8 ?_
      refine vc_ret_of ?_
      refine seqQ_ret hQ6 ?_
      refine seqQ_ret hQ4 ?_
      simp only [go_sem, Try.ntmps67, Try.results67]
      obtain rfl := Option.some.inj h
      refine retW_pure rfl ?_
      simp only [go_sem, Le]
    ·
      replace h := if_f h hb_1
      refine vc_skip_of ?_
      refine seqQ_normal hQ6 ?_
      refine vc_seq_gen (by kernel_rfl) ?_
      intro QQ9 hQ9
      simp only [go_sem, Try.ntmps67, Try.results67]
      refine seqQ_normal hQ9 ?_
      refine vc_ret_of ?_
      refine seqQ_ret hQ4 ?_
      simp only [go_sem, Try.ntmps67, Try.results67]
      obtain rfl := Option.some.inj h
      refine retW_pure rfl ?_
      simp only [go_sem, Le]
  ·
    replace h := if_f h hb_0
    refine vc_skip_of ?_
    refine seqQ_normal hQ4 ?_
    refine vc_seq_gen (by kernel_rfl) ?_
    intro QQ10 hQ10
    refine vc_seq_gen (by kernel_rfl) ?_
    intro QQ11 hQ11
    simp only [go_sem, Try.ntmps67, Try.results67]
    refine seqQ_normal hQ11 ?_
    refine vc_cond_of (b := v_1) (by (simp only [go_sem]; done)) (fun hb_2 => ?_) (fun hb_2 => ?_)
    ·
      replace h := if_t h hb_2
      refine vc_seq_gen (by kernel_rfl) ?_
      intro QQ12 hQ12
      simp only [go_sem, Try.ntmps67, Try.results67]
      refine seqQ_normal hQ12 ?_
      refine vc_ret_of ?_
      refine seqQ_ret hQ10 ?_
      simp only [go_sem, Try.ntmps67, Try.results67]
      obtain rfl := Option.some.inj h
      refine retW_pure rfl ?_
      simp only [go_sem, Le]
    ·
      replace h := if_f h hb_2
      refine vc_skip_of ?_
      refine seqQ_normal hQ10 ?_
      refine vc_seq_gen (by kernel_rfl) ?_
      intro QQ13 hQ13
      refine vc_seq_gen (by kernel_rfl) ?_
      intro QQ14 hQ14
      simp only [go_sem, Try.ntmps67, Try.results67]
      refine seqQ_normal hQ14 ?_
      refine vc_cond_of (b := (decide (xv_0 < y_0))) (by (simp only [go_sem]; done)) (fun hb_3 => ?_) (fun hb_3 => ?_)
      ·
        replace h := if_t h hb_3
        simp only [decide_eq_true_eq, decide_eq_false_iff_not, Bool.not_eq_true', Bool.not_eq_false', beq_iff_eq, beq_eq_false_iff_ne, ne_eq, Bool.and_eq_true, Bool.or_eq_true, Int.not_lt, Int.not_le] at hb_3
        refine vc_seq_gen (by kernel_rfl) ?_
        intro QQ15 hQ15
        simp only [go_sem, Try.ntmps67, Try.results67]
        refine seqQ_normal hQ15 ?_
        refine vc_ret_of ?_
        refine seqQ_ret hQ13 ?_
        simp only [go_sem, Try.ntmps67, Try.results67]
        obtain rfl := Option.some.inj h
        refine retW_pure rfl ?_
        simp only [go_sem, Le]
      ·
        replace h := if_f h hb_3
        simp only [decide_eq_true_eq, decide_eq_false_iff_not, Bool.not_eq_true', Bool.not_eq_false', beq_iff_eq, beq_eq_false_iff_ne, ne_eq, Bool.and_eq_true, Bool.or_eq_true, Int.not_lt, Int.not_le] at hb_3
        refine vc_skip_of ?_
        refine seqQ_normal hQ13 ?_
        refine vc_seq_gen (by kernel_rfl) ?_
        intro QQ16 hQ16
        refine vc_seq_gen (by kernel_rfl) ?_
        intro QQ17 hQ17
        simp only [go_sem, Try.ntmps67, Try.results67]
        refine seqQ_normal hQ17 ?_
        refine vc_cond_of (b := (decide (y_0 < xv_0))) (by (simp only [go_sem]; done)) (fun hb_4 => ?_) (fun hb_4 => ?_)
        ·
          replace h := if_t h hb_4
          simp only [decide_eq_true_eq, decide_eq_false_iff_not, Bool.not_eq_true', Bool.not_eq_false', beq_iff_eq, beq_eq_false_iff_ne, ne_eq, Bool.and_eq_true, Bool.or_eq_true, Int.not_lt, Int.not_le] at hb_4
          refine vc_seq_gen (by kernel_rfl) ?_
          intro QQ18 hQ18
          simp only [go_sem, Try.ntmps67, Try.results67]
          refine seqQ_normal hQ18 ?_
          refine vc_ret_of ?_
          refine seqQ_ret hQ16 ?_
          simp only [go_sem, Try.ntmps67, Try.results67]
          obtain rfl := Option.some.inj h
          refine retW_pure rfl ?_
          simp only [go_sem, Le]
        ·
          replace h := if_f h hb_4
          simp only [decide_eq_true_eq, decide_eq_false_iff_not, Bool.not_eq_true', Bool.not_eq_false', beq_iff_eq, beq_eq_false_iff_ne, ne_eq, Bool.and_eq_true, Bool.or_eq_true, Int.not_lt, Int.not_le] at hb_4
          refine vc_skip_of ?_
          refine seqQ_normal hQ16 ?_
          refine vc_seq_gen (by kernel_rfl) ?_
          intro QQ19 hQ19
          simp only [go_sem, Try.ntmps67, Try.results67]
          refine seqQ_normal hQ19 ?_
          refine vc_ret_of ?_
          simp only [go_sem, Try.ntmps67, Try.results67]
          obtain rfl := Option.some.inj h
          refine retW_pure rfl ?_
          simp only [go_sem, Le]
end Go.Proofs.Ytfjjpdjnpmajlaa

namespace Go.Proofs.Ytfjjpdjnpmajlaa
open Go Go.RowKit
set_option maxHeartbeats 2000000
set_option maxRecDepth 100000
set_option linter.unusedSimpArgs false
set_option linter.unusedVariables false
def f_cmp_Or_int_B1 (vals_0 : List Int) (rec_1 : Int → Option Int) : Int → Option Int :=
  fun t8_1 =>
  (if (decide (t8_1 < (List.length vals_0 : Int))) = true then bindO (idx vals_0 t8_1) (fun (xv_2 : Int) =>
  (if (!(xv_2 == 0)) = true then some xv_2
  else rec_1 (IntKind.i64.wrap (t8_1 + 1))))
  else some 0)
def f_cmp_Or_int (vals_0 : List Int) : Option Int :=
  loopK (f_cmp_Or_int_B1 vals_0) rounds 0
theorem f_cmp_Or_int_ok (vals_0 : List Int)  (r : Int) (h : f_cmp_Or_int vals_0 = some r) : PureS Try.prog 66 [.sl 1 (enc vals_0)] 0 (.v (.int .i64 r)) := by
  unfold PureS
  refine Spec.of_vc Try.func66 rfl (by kernel_rfl) (by kernel_rfl) ?_
  rw [f_cmp_Or_int] at h
  refine vc_seq_gen (by kernel_rfl) ?_
  intro QQ1 hQ1
  simp only [go_sem, Try.ntmps66, Try.results66]
  refine seqQ_normal hQ1 ?_
  refine vc_seq_gen (by kernel_rfl) ?_
  intro QQ2 hQ2
  simp only [go_sem, Try.ntmps66, Try.results66]
  refine seqQ_normal hQ2 ?_
  refine vc_join (by kernel_rfl) ?_
  refine seq_go_gen ?_
  intro QQ3 hQ3
  refine vc_seq_gen (by kernel_rfl) ?_
  intro QQ4 hQ4
  simp only [go_sem, Try.ntmps66, Try.results66]
  refine seqQ_normal hQ4 ?_
  refine vc_block_gen ?_
  intro QQ5 hQ5
  refine vc_loop_of ?_
  refine loop_gen (ι := Nat × Int) (fun ((_, t8_1) : Nat × Int) => (⟨0, [(3, .v (.int .i64 0)), (6, .sl 1 (enc vals_0)), (7, .v (.int .i64 (List.length vals_0 : Int))), (8, .v (.int .i64 t8_1))], [], 0, 18⟩ : St)) (fun ((n_, t8_1) : Nat × Int) => loopK (f_cmp_Or_int_B1 vals_0) n_ t8_1 = some r) (fun p => p.1) (rounds, 0) [] ?_ h ?_
  · simp only [go_sem, Le]
  · rintro ⟨n_1, t8_1⟩ h QQ6 hQ6
    dsimp only at h
    replace h := loopK_some h
    obtain ⟨m_1, rfl, h⟩ := h
    rw [f_cmp_Or_int_B1] at h
    refine vc_seq_gen (by kernel_rfl) ?_
    intro QQ7 hQ7
    simp only [go_sem, Try.ntmps66, Try.results66]
    refine seqQ_normal hQ7 ?_
    refine vc_seq_gen (by kernel_rfl) ?_
    intro QQ8 hQ8
    refine vc_cond_of (b := (decide (t8_1 < (List.length vals_0 : Int)))) (by (simp only [go_sem]; done)) (fun hb_4 => ?_) (fun hb_4 => ?_)
    ·
      replace h := if_t h hb_4
      simp only [decide_eq_true_eq, decide_eq_false_iff_not, Bool.not_eq_true', Bool.not_eq_false', beq_iff_eq, beq_eq_false_iff_ne, ne_eq, Bool.and_eq_true, Bool.or_eq_true, Int.not_lt, Int.not_le] at hb_4
      refine vc_skip_of ?_
      refine seqQ_normal hQ8 ?_
      refine vc_seq_gen (by kernel_rfl) ?_
      intro QQ9 hQ9
      refine vc_block_gen ?_
      intro QQ10 hQ10
      refine vc_seq_gen (by kernel_rfl) ?_
      intro QQ11 hQ11
      obtain ⟨xv_2, exv_2, h⟩ := bindO_some h
      obtain ⟨fxv_2a, fxv_2b, fxv_2c⟩ := idx_spec exv_2
      simp only [go_sem, Try.ntmps66, Try.results66, fxv_2a, fxv_2b, fxv_2c]
      refine And.intro (by omega) ?_
      refine seqQ_normal hQ11 ?_
      refine vc_seq_gen (by kernel_rfl) ?_
      intro QQ12 hQ12
      simp only [go_sem, Try.ntmps66, Try.results66]
      refine seqQ_normal hQ12 ?_
      refine vc_cond_of (b := (!(xv_2 == 0))) (by (simp only [go_sem]; done)) (fun hb_5 => ?_) (fun hb_5 => ?_)
      ·
        replace h := if_t h hb_5
        simp only [decide_eq_true_eq, decide_eq_false_iff_not, Bool.not_eq_true', Bool.not_eq_false', beq_iff_eq, beq_eq_false_iff_ne, ne_eq, Bool.and_eq_true, Bool.or_eq_true, Int.not_lt, Int.not_le] at hb_5
        refine vc_seq_gen (by kernel_rfl) ?_
        intro QQ13 hQ13
        simp only [go_sem, Try.ntmps66, Try.results66]
        refine seqQ_normal hQ13 ?_
        refine vc_ret_of ?_
        refine blockQ_ret hQ10 ?_
        refine seqQ_ret hQ9 ?_
        refine thenQ_ret hQ6 ?_
        refine blockQ_ret hQ5 ?_
        refine seqQ_ret hQ3 ?_
        simp only [go_sem, Try.ntmps66, Try.results66]
        obtain rfl := Option.some.inj h
        refine retW_pure rfl ?_
        simp only [go_sem, Le]
      ·
        replace h := if_f h hb_5
        simp only [decide_eq_true_eq, decide_eq_false_iff_not, Bool.not_eq_true', Bool.not_eq_false', beq_iff_eq, beq_eq_false_iff_ne, ne_eq, Bool.and_eq_true, Bool.or_eq_true, Int.not_lt, Int.not_le] at hb_5
        refine vc_skip_of ?_
        refine blockQ_normal hQ10 ?_
        refine seqQ_normal hQ9 ?_
        simp only [go_sem, Try.ntmps66, Try.results66]
        refine thenQ_normal hQ6 ?_
        refine ⟨(m_1, IntKind.i64.wrap (t8_1 + 1)), [], ?_, h, Nat.lt_succ_self _⟩
        simp only [go_sem, Le]
    ·
      replace h := if_f h hb_4
      simp only [decide_eq_true_eq, decide_eq_false_iff_not, Bool.not_eq_true', Bool.not_eq_false', beq_iff_eq, beq_eq_false_iff_ne, ne_eq, Bool.and_eq_true, Bool.or_eq_true, Int.not_lt, Int.not_le] at hb_4
      refine vc_exit_of ?_
      refine seqQ_exit hQ8 ?_
      refine thenQ_exit hQ6 ?_
      refine blockQ_exit hQ5 ?_
      refine seqQ_normal hQ3 ?_
      refine vc_seq_gen (by kernel_rfl) ?_
      intro QQ14 hQ14
      simp only [go_sem, Try.ntmps66, Try.results66]
      refine seqQ_normal hQ14 ?_
      refine vc_ret_of ?_
      simp only [go_sem, Try.ntmps66, Try.results66]
      obtain rfl := Option.some.inj h
      refine retW_pure rfl ?_
      simp only [go_sem, Le]
end Go.Proofs.Ytfjjpdjnpmajlaa

namespace Go.Proofs.Ytfjjpdjnpmajlaa
open Go Go.RowKit
set_option maxHeartbeats 2000000
set_option maxRecDepth 100000
set_option linter.unusedSimpArgs false
set_option linter.unusedVariables false
def f_bag_order (a_0 : GRec) (b_0 : GRec) : Option Int :=
  bindO (f_cmp_Compare_int64 a_0.K b_0.K) (fun (v_0 : Int) =>
  bindO (f_cmp_Compare_int64 a_0.V b_0.V) (fun (v_1 : Int) =>
  bindO (f_cmp_Or_int ([v_0, v_1] : List Int)) (fun (v_2 : Int) =>
  some v_2)))
theorem f_bag_order_ok (a_0 : GRec) (b_0 : GRec)  (r : Int) (h : f_bag_order a_0 b_0 = some r) : PureS Try.prog 92 [.agg [.v (.int .i64 a_0.K), .v (.int .i64 a_0.V)], .agg [.v (.int .i64 b_0.K), .v (.int .i64 b_0.V)]] 0 (.v (.int .i64 r)) := by
  unfold PureS
  refine Spec.of_vc Try.func92 rfl (by kernel_rfl) (by kernel_rfl) ?_
  rw [f_bag_order] at h
  refine vc_seq_gen (by kernel_rfl) ?_
  intro QQ1 hQ1
  simp only [go_sem, Try.ntmps92, Try.results92]
  refine seqQ_normal hQ1 ?_
  refine vc_seq_gen (by kernel_rfl) ?_
  intro QQ2 hQ2
  refine vc_draw ?_
  refine drawM_tail 9 [0, 1, 0, 4, 15, 0, 32, 0, 128, 511, 1023, 2047, 4095] mixed (by kernel_rfl) (of_decide_eq_true (by kernel_rfl)) (by kernel_rfl) ?_
  obtain ⟨v_0, ev_0, h⟩ := bindO_some h
  simp only [go_sem, Try.ntmps92, Try.results92]
  refine callq (fun _ => (f_cmp_Compare_int64_ok a_0.K b_0.K v_0 ev_0)) (by rfl) (by rfl) ?_
  obtain ⟨v_1, ev_1, h⟩ := bindO_some h
  simp only [go_sem, Try.ntmps92, Try.results92]
  refine call0 (f_cmp_Compare_int64_ok a_0.V b_0.V v_1 ev_1) (by rfl) (by rfl) ?_
  have rf_0 : [[.v (.int .i64 v_0)], [.v (.int .i64 v_1)]] = enc ([v_0, v_1] : List Int) := by rfl
  obtain ⟨v_2, ev_2, h⟩ := bindO_some h
  simp only [go_sem, Try.ntmps92, Try.results92]
  simp only [rf_0]
  refine callB (s' := (⟨0, [(0, .agg [.v (.int .i64 a_0.K), .v (.int .i64 a_0.V)]), (1, .agg [.v (.int .i64 b_0.K), .v (.int .i64 b_0.V)]), (2, .ptr 0 0), (3, .ptr 1 0), (4, .v (.int .i64 0)), (5, .ptr 0 0), (6, .v (.int .i64 a_0.K)), (7, .ptr 1 0), (8, .v (.int .i64 b_0.K)), (9, .v (.int .i64 v_0)), (10, .ptr 0 1), (11, .v (.int .i64 a_0.V)), (12, .ptr 1 1), (13, .v (.int .i64 b_0.V)), (14, .v (.int .i64 v_1)), (15, .sl 1 (enc ([v_0, v_1] : List Int)))], [(0, .box [.v (.int .i64 a_0.K), .v (.int .i64 a_0.V)]), (1, .box [.v (.int .i64 b_0.K), .v (.int .i64 b_0.V)])], 2, 17⟩ : St)) (l := [some 0, some 1]) (args' := [.sl 1 (enc ([v_0, v_1] : List Int))]) ?_ ?_ (f_cmp_Or_int_ok ([v_0, v_1] : List Int) v_2 ev_2) (by rfl) (by rfl) ?_
  · simp only [go_sem, Le] <;> (repeat' apply And.intro) <;> first | omega | (simp [go_sem]; done)
  · simp only [go_sem, Le] <;> (repeat' apply And.intro) <;> (simp [go_sem]; done)
  simp only [go_sem, Try.ntmps92, Try.results92]
  refine seqQ_normal hQ2 ?_
  refine vc_ret_of ?_
  simp only [go_sem, Try.ntmps92, Try.results92]
  obtain rfl := Option.some.inj h
  refine retW_pure rfl ?_
  simp only [go_sem, Le]
end Go.Proofs.Ytfjjpdjnpmajlaa

namespace Go.Proofs.Ytfjjpdjnpmajlaa
open Go Go.RowKit
set_option maxHeartbeats 2000000
set_option maxRecDepth 100000
set_option linter.unusedSimpArgs false
set_option linter.unusedVariables false
def f_bag_Less (a_0 : GRec) (b_0 : GRec) : Option Bool :=
  bindO (f_bag_order a_0 b_0) (fun (v_0 : Int) =>
  some (decide (v_0 < 0)))
theorem f_bag_Less_ok (a_0 : GRec) (b_0 : GRec)  (r : Bool) (h : f_bag_Less a_0 b_0 = some r) : PureS Try.prog 62 [.agg [.v (.int .i64 a_0.K), .v (.int .i64 a_0.V)], .agg [.v (.int .i64 b_0.K), .v (.int .i64 b_0.V)]] 0 (.v (.bool r)) := by
  unfold PureS
  refine Spec.of_vc Try.func62 rfl (by kernel_rfl) (by kernel_rfl) ?_
  rw [f_bag_Less] at h
  refine vc_seq_gen (by kernel_rfl) ?_
  intro QQ1 hQ1
  simp only [go_sem, Try.ntmps62, Try.results62]
  refine seqQ_normal hQ1 ?_
  refine vc_seq_gen (by kernel_rfl) ?_
  intro QQ2 hQ2
  obtain ⟨v_0, ev_0, h⟩ := bindO_some h
  simp only [go_sem, Try.ntmps62, Try.results62]
  refine call0 (f_bag_order_ok a_0 b_0 v_0 ev_0) (by rfl) (by rfl) ?_
  simp only [go_sem, Try.ntmps62, Try.results62]
  refine seqQ_normal hQ2 ?_
  refine vc_ret_of ?_
  simp only [go_sem, Try.ntmps62, Try.results62]
  obtain rfl := Option.some.inj h
  refine retW_pure rfl ?_
  simp only [go_sem, Le]
end Go.Proofs.Ytfjjpdjnpmajlaa

namespace Go.Proofs.Ytfjjpdjnpmajlaa
open Go Go.RowKit
set_option maxHeartbeats 2000000
set_option maxRecDepth 100000
set_option linter.unusedSimpArgs false
set_option linter.unusedVariables false
def f_query_Rows_1 (a_0 : GRec) (b_0 : GRec) : Option Int :=
  bindO (f_bag_Less a_0 b_0) (fun (v_0 : Bool) =>
  (if v_0 = true then some (-1)
  else bindO (f_bag_Less b_0 a_0) (fun (v_1 : Bool) =>
  (if v_1 = true then some 1
  else some 0))))
theorem f_query_Rows_1_ok (a_0 : GRec) (b_0 : GRec)  (r : Int) (h : f_query_Rows_1 a_0 b_0 = some r) : PureS Try.prog 70 [.agg [.v (.int .i64 a_0.K), .v (.int .i64 a_0.V)], .agg [.v (.int .i64 b_0.K), .v (.int .i64 b_0.V)]] 0 (.v (.int .i64 r)) := by
  unfold PureS
  refine Spec.of_vc Try.func70 rfl (by kernel_rfl) (by kernel_rfl) ?_
  rw [f_query_Rows_1] at h
  refine vc_seq_gen (by kernel_rfl) ?_
  intro QQ1 hQ1
  simp only [go_sem, Try.ntmps70, Try.results70]
  refine seqQ_normal hQ1 ?_
  refine vc_seq_gen (by kernel_rfl) ?_
  intro QQ2 hQ2
  refine vc_block_gen ?_
  intro QQ3 hQ3
  refine vc_seq_gen (by kernel_rfl) ?_
  intro QQ4 hQ4
  obtain ⟨v_0, ev_0, h⟩ := bindO_some h
  simp only [go_sem, Try.ntmps70, Try.results70]
  refine call0 (f_bag_Less_ok a_0 b_0 v_0 ev_0) (by rfl) (by rfl) ?_
  simp only [go_sem, Try.ntmps70, Try.results70]
  refine seqQ_normal hQ4 ?_
  refine vc_cond_of (b := v_0) (by (simp only [go_sem]; done)) (fun hb_0 => ?_) (fun hb_0 => ?_)
  ·
    replace h := if_t h hb_0
    refine vc_seq_gen (by kernel_rfl) ?_
    intro QQ5 hQ5
    simp only [go_sem, Try.ntmps70, Try.results70]
    refine seqQ_normal hQ5 ?_
    refine vc_ret_of ?_
    refine blockQ_ret hQ3 ?_
    refine seqQ_ret hQ2 ?_
    simp only [go_sem, Try.ntmps70, Try.results70]
    obtain rfl := Option.some.inj h
    refine retW_pure rfl ?_
    simp only [go_sem, Le]
  ·
    replace h := if_f h hb_0
    refine vc_seq_gen (by kernel_rfl) ?_
    intro QQ6 hQ6
    obtain ⟨v_1, ev_1, h⟩ := bindO_some h
    simp only [go_sem, Try.ntmps70, Try.results70]
    refine call0 (f_bag_Less_ok b_0 a_0 v_1 ev_1) (by rfl) (by rfl) ?_
    simp only [go_sem, Try.ntmps70, Try.results70]
    refine seqQ_normal hQ6 ?_
    refine vc_cond_of (b := v_1) (by (simp only [go_sem]; done)) (fun hb_1 => ?_) (fun hb_1 => ?_)
    ·
      replace h := if_t h hb_1
      refine vc_seq_gen (by kernel_rfl) ?_
      intro QQ7 hQ7
      simp only [go_sem, Try.ntmps70, Try.results70]
      refine seqQ_normal hQ7 ?_
      refine vc_ret_of ?_
      refine blockQ_ret hQ3 ?_
      refine seqQ_ret hQ2 ?_
      simp only [go_sem, Try.ntmps70, Try.results70]
      obtain rfl := Option.some.inj h
      refine retW_pure rfl ?_
      simp only [go_sem, Le]
    ·
      replace h := if_f h hb_1
      refine vc_skip_of ?_
      refine blockQ_normal hQ3 ?_
      refine seqQ_normal hQ2 ?_
      refine vc_seq_gen (by kernel_rfl) ?_
      intro QQ8 hQ8
      simp only [go_sem, Try.ntmps70, Try.results70]
      refine seqQ_normal hQ8 ?_
      refine vc_ret_of ?_
      simp only [go_sem, Try.ntmps70, Try.results70]
      obtain rfl := Option.some.inj h
      refine retW_pure rfl ?_
      simp only [go_sem, Le]
end Go.Proofs.Ytfjjpdjnpmajlaa

namespace Go.Proofs.Ytfjjpdjnpmajlaa
open Go Go.RowKit
set_option maxHeartbeats 2000000
set_option maxRecDepth 100000
set_option linter.unusedSimpArgs false
set_option linter.unusedVariables false
def f_math_bits_Add64 (x_0 : Int) (y_0 : Int) (c_0 : Int) : Option (Int × Int) := add64F x_0 y_0 c_0
theorem f_math_bits_Add64_ok (x_0 : Int) (y_0 : Int) (c_0 : Int) (r : Int × Int) (h : f_math_bits_Add64 x_0 y_0 c_0 = some r) : PureS Try.prog 128 [.v (.int .u64 x_0), .v (.int .u64 y_0), .v (.int .u64 c_0)] 0 (.tup [.v (.int .u64 r.1), .v (.int .u64 r.2)]) :=
  add64_pure Try.func128 (by kernel_rfl) (by kernel_rfl) (by kernel_rfl) (by kernel_rfl) h
end Go.Proofs.Ytfjjpdjnpmajlaa

namespace Go.Proofs.Ytfjjpdjnpmajlaa
open Go Go.RowKit
set_option maxHeartbeats 2000000
set_option maxRecDepth 100000
set_option linter.unusedSimpArgs false
set_option linter.unusedVariables false
def f_query_wide_plus (w_0 : GQuery_wide) (v_0 : Int) : Option GQuery_wide :=
  bindO (f_math_bits_Add64 w_0.lo.n (IntKind.u64.wrap v_0) 0) (fun (v_1 : Int × Int) =>
  some (⟨IntKind.i64.wrap ((IntKind.i64.wrap (w_0.hi + (shrI .i64 v_0 63))) + (IntKind.i64.wrap v_1.2)), (⟨v_1.1⟩ : Nu64)⟩ : GQuery_wide))
theorem f_query_wide_plus_ok (w_0 : GQuery_wide) (v_0 : Int)  (r : GQuery_wide) (h : f_query_wide_plus w_0 v_0 = some r) : PureS Try.prog 96 [.agg [.v (.int .i64 w_0.hi), .v (.int .u64 w_0.lo.n)], .v (.int .i64 v_0)] 0 (.agg [.v (.int .i64 r.hi), .v (.int .u64 r.lo.n)]) := by
  unfold PureS
  refine Spec.of_vc Try.func96 rfl (by kernel_rfl) (by kernel_rfl) ?_
  rw [f_query_wide_plus] at h
  refine vc_seq_gen (by kernel_rfl) ?_
  intro QQ1 hQ1
  simp only [go_sem, Try.ntmps96, Try.results96]
  refine seqQ_normal hQ1 ?_
  refine vc_seq_gen (by kernel_rfl) ?_
  intro QQ2 hQ2
  obtain ⟨v_1, ev_1, h⟩ := bindO_some h
  simp only [go_sem, Try.ntmps96, Try.results96]
  refine call0 (f_math_bits_Add64_ok w_0.lo.n (IntKind.u64.wrap v_0) 0 v_1 ev_1) (by rfl) (by rfl) ?_
  simp only [go_sem, Try.ntmps96, Try.results96]
  refine seqQ_normal hQ2 ?_
  refine vc_seq_gen (by kernel_rfl) ?_
  intro QQ3 hQ3
  simp only [go_sem, Try.ntmps96, Try.results96]
  refine seqQ_normal hQ3 ?_
  refine vc_ret_of ?_
  simp only [go_sem, Try.ntmps96, Try.results96]
  obtain rfl := Option.some.inj h
  refine retW_pure rfl ?_
  simp only [go_sem, Le]
end Go.Proofs.Ytfjjpdjnpmajlaa

namespace Go.Proofs.Ytfjjpdjnpmajlaa
open Go Go.RowKit
set_option maxHeartbeats 2000000
set_option maxRecDepth 100000
set_option linter.unusedSimpArgs false
set_option linter.unusedVariables false
def f_query_group_add_p0_J1 (v_0 : Int) (b_0 : GQuery_group) : Option GQuery_group :=
  bindO (f_query_wide_plus b_0.sum v_0) (fun (v_1 : GQuery_wide) =>
  some (⟨(⟨b_0.Row.K, IntKind.i64.wrap (b_0.Row.Many + 1), min b_0.Row.Least v_0, max b_0.Row.Top v_0, b_0.Row.Sum, b_0.Row.Sure⟩ : GRow), v_1⟩ : GQuery_group))
def f_query_group_add_p0 (g_0 : GQuery_group) (v_0 : Int) : Option GQuery_group :=
  (if (g_0.Row.Many == 0) = true then f_query_group_add_p0_J1 v_0 (⟨(⟨g_0.Row.K, g_0.Row.Many, v_0, v_0, g_0.Row.Sum, g_0.Row.Sure⟩ : GRow), g_0.sum⟩ : GQuery_group)
  else f_query_group_add_p0_J1 v_0 g_0)
theorem f_query_group_add_p0_det (g_0 : GQuery_group) (v_0 : Int)  (r : GQuery_group) (h : f_query_group_add_p0 g_0 v_0 = some r) : DetS Try.prog 71 [.ptr 0 0, .v (.int .i64 v_0)] [(0, .box [.v (.int .i64 g_0.Row.K), .v (.int .i64 g_0.Row.Many), .v (.int .i64 g_0.Row.Least), .v (.int .i64 g_0.Row.Top), .v (.int .i64 g_0.Row.Sum), .v (.bool g_0.Row.Sure), .v (.int .i64 g_0.sum.hi), .v (.int .u64 g_0.sum.lo.n)])] 1 (.tup []) [(0, .box [.v (.int .i64 r.Row.K), .v (.int .i64 r.Row.Many), .v (.int .i64 r.Row.Least), .v (.int .i64 r.Row.Top), .v (.int .i64 r.Row.Sum), .v (.bool r.Row.Sure), .v (.int .i64 r.sum.hi), .v (.int .u64 r.sum.lo.n)])] 1 := by
  unfold DetS
  refine Spec.of_vc Try.func71 rfl (by kernel_rfl) (by kernel_rfl) ?_
  rw [f_query_group_add_p0] at h
  refine vc_join (by kernel_rfl) ?_
  refine seq_cut_gen (ι := GQuery_group) (fun (b_0 : GQuery_group) => (⟨1, [(0, .ptr 0 0), (1, .v (.int .i64 v_0))], [(0, .box [.v (.int .i64 b_0.Row.K), .v (.int .i64 b_0.Row.Many), .v (.int .i64 b_0.Row.Least), .v (.int .i64 b_0.Row.Top), .v (.int .i64 b_0.Row.Sum), .v (.bool b_0.Row.Sure), .v (.int .i64 b_0.sum.hi), .v (.int .u64 b_0.sum.lo.n)])], 1, 60⟩ : St)) (fun (b_0 : GQuery_group) => f_query_group_add_p0_J1 v_0 b_0 = some r) ?_ ?_
  ·
    intro QQ3 hQ3
    refine vc_seq_gen (by kernel_rfl) ?_
    intro QQ4 hQ4
    simp only [go_sem, Try.ntmps71, Try.results71]
    refine seqQ_normal hQ4 ?_
    refine vc_cond_of (b := (g_0.Row.Many == 0)) (by (simp only [go_sem]; done)) (fun hb_1 => ?_) (fun hb_1 => ?_)
    ·
      replace h := if_t h hb_1
      simp only [decide_eq_true_eq, decide_eq_false_iff_not, Bool.not_eq_true', Bool.not_eq_false', beq_iff_eq, beq_eq_false_iff_ne, ne_eq, Bool.and_eq_true, Bool.or_eq_true, Int.not_lt, Int.not_le] at hb_1
      simp only [go_sem, Try.ntmps71, Try.results71]
      refine thenQ_normal hQ3 ?_
      refine ⟨(⟨(⟨g_0.Row.K, g_0.Row.Many, v_0, v_0, g_0.Row.Sum, g_0.Row.Sure⟩ : GRow), g_0.sum⟩ : GQuery_group), [], ?_, h⟩
      simp only [go_sem, Le]
    ·
      replace h := if_f h hb_1
      simp only [decide_eq_true_eq, decide_eq_false_iff_not, Bool.not_eq_true', Bool.not_eq_false', beq_iff_eq, beq_eq_false_iff_ne, ne_eq, Bool.and_eq_true, Bool.or_eq_true, Int.not_lt, Int.not_le] at hb_1
      refine vc_skip_of ?_
      refine thenQ_normal hQ3 ?_
      refine ⟨g_0, [], ?_, h⟩
      simp only [go_sem, Le]
  · rintro b_0 h
    try dsimp only at h
    rw [f_query_group_add_p0_J1] at h
    refine vc_seq_gen (by kernel_rfl) ?_
    intro QQ1 hQ1
    simp only [go_sem, Try.ntmps71, Try.results71]
    refine seqQ_normal hQ1 ?_
    refine vc_seq_gen (by kernel_rfl) ?_
    intro QQ2 hQ2
    refine vc_draw ?_
    refine drawV_all 20 0 [0, 0, 0, 4, 12, 28, 60, 0, 252, 0, 512, 1536, 3584, 7680, 0, 32256, 16381, 81917, 212989, 475133, 1048575, 2097151, 4194303, 8388607] [0] [1, 14, 15] [19] [] mixed (by kernel_rfl) (of_decide_eq_true (by kernel_rfl)) (by kernel_rfl) (by kernel_rfl) (by rfl) ?_
    simp only [go_sem, Try.ntmps71, Try.results71]
    refine seqQ_normal hQ2 ?_
    obtain ⟨v_1, ev_1, h⟩ := bindO_some h
    simp only [go_sem, Try.ntmps71, Try.results71]
    refine call0 (f_query_wide_plus_ok b_0.sum v_0 v_1 ev_1) (by rfl) (by rfl) ?_
    simp only [go_sem, Try.ntmps71, Try.results71]
    obtain rfl := Option.some.inj h
    refine retW_det [] ?_
    simp only [go_sem, Le]
theorem f_query_group_add_p0_mut (g_0 : GQuery_group) (v_0 : Int)  (r : GQuery_group) (h : f_query_group_add_p0 g_0 v_0 = some r) : DetS Try.prog 71 [.ptr 0 0, .v (.int .i64 v_0)] [(0, .box [.v (.int .i64 g_0.Row.K), .v (.int .i64 g_0.Row.Many), .v (.int .i64 g_0.Row.Least), .v (.int .i64 g_0.Row.Top), .v (.int .i64 g_0.Row.Sum), .v (.bool g_0.Row.Sure), .v (.int .i64 g_0.sum.hi), .v (.int .u64 g_0.sum.lo.n)])] 1 (.tup []) [(0, .box [.v (.int .i64 r.Row.K), .v (.int .i64 r.Row.Many), .v (.int .i64 r.Row.Least), .v (.int .i64 r.Row.Top), .v (.int .i64 r.Row.Sum), .v (.bool r.Row.Sure), .v (.int .i64 r.sum.hi), .v (.int .u64 r.sum.lo.n)])] 1 := by
  refine (f_query_group_add_p0_det g_0 v_0  r h).less [] ?_
  simp only [go_sem, Le]
end Go.Proofs.Ytfjjpdjnpmajlaa

namespace Go.Proofs.Ytfjjpdjnpmajlaa
open Go Go.RowKit
set_option maxHeartbeats 2000000
set_option maxRecDepth 100000
set_option linter.unusedSimpArgs false
set_option linter.unusedVariables false
def f_query_wide_number (w_0 : GQuery_wide) : Option (Int × Bool) :=
  (if (!(w_0.hi == (shrI .i64 (IntKind.i64.wrap w_0.lo.n) 63))) = true then some (0, false)
  else some (IntKind.i64.wrap w_0.lo.n, true))
theorem f_query_wide_number_ok (w_0 : GQuery_wide)  (r : Int × Bool) (h : f_query_wide_number w_0 = some r) : PureS Try.prog 97 [.agg [.v (.int .i64 w_0.hi), .v (.int .u64 w_0.lo.n)]] 0 (.tup [.v (.int .i64 r.1), .v (.bool r.2)]) := by
  unfold PureS
  refine Spec.of_vc Try.func97 rfl (by kernel_rfl) (by kernel_rfl) ?_
  rw [f_query_wide_number] at h
  refine vc_seq_gen (by kernel_rfl) ?_
  intro QQ1 hQ1
  simp only [go_sem, Try.ntmps97, Try.results97]
  refine seqQ_normal hQ1 ?_
  refine vc_seq_gen (by kernel_rfl) ?_
  intro QQ2 hQ2
  simp only [go_sem, Try.ntmps97, Try.results97]
  refine seqQ_normal hQ2 ?_
  refine vc_seq_gen (by kernel_rfl) ?_
  intro QQ3 hQ3
  refine vc_seq_gen (by kernel_rfl) ?_
  intro QQ4 hQ4
  simp only [go_sem, Try.ntmps97, Try.results97]
  refine seqQ_normal hQ4 ?_
  refine vc_cond_of (b := (!(w_0.hi == (shrI .i64 (IntKind.i64.wrap w_0.lo.n) 63)))) (by (simp only [go_sem]; done)) (fun hb_0 => ?_) (fun hb_0 => ?_)
  ·
    replace h := if_t h hb_0
    simp only [decide_eq_true_eq, decide_eq_false_iff_not, Bool.not_eq_true', Bool.not_eq_false', beq_iff_eq, beq_eq_false_iff_ne, ne_eq, Bool.and_eq_true, Bool.or_eq_true, Int.not_lt, Int.not_le] at hb_0
    refine vc_seq_gen (by kernel_rfl) ?_
    intro QQ5 hQ5
    simp only [go_sem, Try.ntmps97, Try.results97]
    refine seqQ_normal hQ5 ?_
    refine vc_ret_of ?_
    refine seqQ_ret hQ3 ?_
    simp only [go_sem, Try.ntmps97, Try.results97]
    obtain rfl := Option.some.inj h
    refine retW_pure rfl ?_
    simp only [go_sem, Le]
  ·
    replace h := if_f h hb_0
    simp only [decide_eq_true_eq, decide_eq_false_iff_not, Bool.not_eq_true', Bool.not_eq_false', beq_iff_eq, beq_eq_false_iff_ne, ne_eq, Bool.and_eq_true, Bool.or_eq_true, Int.not_lt, Int.not_le] at hb_0
    refine vc_skip_of ?_
    refine seqQ_normal hQ3 ?_
    refine vc_seq_gen (by kernel_rfl) ?_
    intro QQ6 hQ6
    simp only [go_sem, Try.ntmps97, Try.results97]
    refine seqQ_normal hQ6 ?_
    refine vc_ret_of ?_
    simp only [go_sem, Try.ntmps97, Try.results97]
    obtain rfl := Option.some.inj h
    refine retW_pure rfl ?_
    simp only [go_sem, Le]
end Go.Proofs.Ytfjjpdjnpmajlaa

namespace Go.Proofs.Ytfjjpdjnpmajlaa
open Go Go.RowKit
set_option maxHeartbeats 2000000
set_option maxRecDepth 100000
set_option linter.unusedSimpArgs false
set_option linter.unusedVariables false
def f_query_group_row_p0 (g_0 : GQuery_group) : Option (GRow × GQuery_group) :=
  bindO (f_query_wide_number g_0.sum) (fun (v_0 : Int × Bool) =>
  some ((⟨g_0.Row.K, g_0.Row.Many, g_0.Row.Least, g_0.Row.Top, v_0.1, v_0.2⟩ : GRow), (⟨(⟨g_0.Row.K, g_0.Row.Many, g_0.Row.Least, g_0.Row.Top, v_0.1, v_0.2⟩ : GRow), g_0.sum⟩ : GQuery_group)))
theorem f_query_group_row_p0_det (g_0 : GQuery_group)  (r : GRow × GQuery_group) (h : f_query_group_row_p0 g_0 = some r) : DetS Try.prog 72 [.ptr 0 0] [(0, .box [.v (.int .i64 g_0.Row.K), .v (.int .i64 g_0.Row.Many), .v (.int .i64 g_0.Row.Least), .v (.int .i64 g_0.Row.Top), .v (.int .i64 g_0.Row.Sum), .v (.bool g_0.Row.Sure), .v (.int .i64 g_0.sum.hi), .v (.int .u64 g_0.sum.lo.n)])] 1 (.agg [.v (.int .i64 r.1.K), .v (.int .i64 r.1.Many), .v (.int .i64 r.1.Least), .v (.int .i64 r.1.Top), .v (.int .i64 r.1.Sum), .v (.bool r.1.Sure)]) [(0, .box [.v (.int .i64 r.2.Row.K), .v (.int .i64 r.2.Row.Many), .v (.int .i64 r.2.Row.Least), .v (.int .i64 r.2.Row.Top), .v (.int .i64 r.2.Row.Sum), .v (.bool r.2.Row.Sure), .v (.int .i64 r.2.sum.hi), .v (.int .u64 r.2.sum.lo.n)])] 1 := by
  unfold DetS
  refine Spec.of_vc Try.func72 rfl (by kernel_rfl) (by kernel_rfl) ?_
  rw [f_query_group_row_p0] at h
  refine vc_seq_gen (by kernel_rfl) ?_
  intro QQ1 hQ1
  simp only [go_sem, Try.ntmps72, Try.results72]
  refine seqQ_normal hQ1 ?_
  refine vc_seq_gen (by kernel_rfl) ?_
  intro QQ2 hQ2
  obtain ⟨v_0, ev_0, h⟩ := bindO_some h
  simp only [go_sem, Try.ntmps72, Try.results72]
  refine call0 (f_query_wide_number_ok g_0.sum v_0 ev_0) (by rfl) (by rfl) ?_
  simp only [go_sem, Try.ntmps72, Try.results72]
  refine seqQ_normal hQ2 ?_
  refine vc_seq_gen (by kernel_rfl) ?_
  intro QQ3 hQ3
  simp only [go_sem, Try.ntmps72, Try.results72]
  refine seqQ_normal hQ3 ?_
  refine vc_ret_of ?_
  simp only [go_sem, Try.ntmps72, Try.results72]
  obtain rfl := Option.some.inj h
  refine retW_det [] ?_
  simp only [go_sem, Le]
theorem f_query_group_row_p0_mut (g_0 : GQuery_group)  (r : GRow × GQuery_group) (h : f_query_group_row_p0 g_0 = some r) : DetS Try.prog 72 [.ptr 0 0] [(0, .box [.v (.int .i64 g_0.Row.K), .v (.int .i64 g_0.Row.Many), .v (.int .i64 g_0.Row.Least), .v (.int .i64 g_0.Row.Top), .v (.int .i64 g_0.Row.Sum), .v (.bool g_0.Row.Sure), .v (.int .i64 g_0.sum.hi), .v (.int .u64 g_0.sum.lo.n)])] 1 (.agg [.v (.int .i64 r.1.K), .v (.int .i64 r.1.Many), .v (.int .i64 r.1.Least), .v (.int .i64 r.1.Top), .v (.int .i64 r.1.Sum), .v (.bool r.1.Sure)]) [(0, .box [.v (.int .i64 r.2.Row.K), .v (.int .i64 r.2.Row.Many), .v (.int .i64 r.2.Row.Least), .v (.int .i64 r.2.Row.Top), .v (.int .i64 r.2.Row.Sum), .v (.bool r.2.Row.Sure), .v (.int .i64 r.2.sum.hi), .v (.int .u64 r.2.sum.lo.n)])] 1 := by
  refine (f_query_group_row_p0_det g_0  r h).less [] ?_
  simp only [go_sem, Le]
end Go.Proofs.Ytfjjpdjnpmajlaa

namespace Go.Proofs.Ytfjjpdjnpmajlaa
open Go Go.RowKit
set_option maxHeartbeats 2000000
set_option maxRecDepth 100000
set_option linter.unusedSimpArgs false
set_option linter.unusedVariables false
noncomputable def f_query_Rows_J3 (a_4 : List GRow) (rec_2 : (Int × (List GRow) → Option (List GRow))) (atv_14 : Int) (b_12 : GQuery_group) : Option (List GRow) :=
  bindO (f_query_group_row_p0 b_12) (fun (v_18 : GRow × GQuery_group) =>
  guardO ((List.length a_4 + List.length ([v_18.1] : List GRow)) * 48 ≤ 140737488355328) (
  rec_2 (atv_14, (a_4 ++ ([v_18.1] : List GRow)))))
noncomputable def f_query_Rows_B4 (v_0 : List GRec) (a_4 : List GRow) (rec_2 : (Int × (List GRow) → Option (List GRow))) (rec_4 : Int × GQuery_group → Option (List GRow)) : Int × GQuery_group → Option (List GRow) :=
  fun (atv_16, b_14) =>
  (if (decide (atv_16 < (List.length v_0 : Int))) = true then bindO (idx v_0 atv_16) (fun (xv_17 : GRec) =>
  (if (xv_17.K == b_14.Row.K) = true then bindO (f_query_group_add_p0 b_14 xv_17.V) (fun (v_21 : GQuery_group) =>
  rec_4 (IntKind.i64.wrap (atv_16 + 1), v_21))
  else f_query_Rows_J3 a_4 rec_2 atv_16 b_14))
  else f_query_Rows_J3 a_4 rec_2 atv_16 b_14)
noncomputable def f_query_Rows_B2 (v_0 : List GRec) (rec_2 : Int × (List GRow) → Option (List GRow)) : Int × (List GRow) → Option (List GRow) :=
  fun (atv_11, a_4) =>
  (if (decide (atv_11 < (List.length v_0 : Int))) = true then bindO (idx v_0 atv_11) (fun (xv_13 : GRec) =>
  loopK (f_query_Rows_B4 v_0 a_4 rec_2) rounds (atv_11, (⟨(⟨xv_13.K, 0, 0, 0, 0, false⟩ : GRow), (⟨0, (⟨0⟩ : Nu64)⟩ : GQuery_wide)⟩ : GQuery_group)))
  else some a_4)
noncomputable def f_query_Rows_J1 (a_2 : List GRec) : Option (List GRow) :=
  bindO (f_slices_SortFunc_Rec_s0_0 a_2 (fun x0_ x1_ => f_query_Rows_1 x0_ x1_)) (fun (v_0 : List GRec) =>
  guardO (List.length v_0 = List.length a_2) (
  loopK (f_query_Rows_B2 v_0) rounds (0, [])))
noncomputable def f_query_Rows_B5 (l_0 : List GOut) (node_0 : Int) (fromv_0 : Int) (tov_0 : Int) (rec_5 : Int × (List GRec) → Option (List GRow)) : Int × (List GRec) → Option (List GRow) :=
  fun (t17_3, a_6) =>
  (if (decide (t17_3 < (List.length l_0 : Int))) = true then bindO (idx l_0 t17_3) (fun (xv_20 : GOut) =>
  (if (((xv_20.Node == node_0) && (decide (fromv_0 ≤ xv_20.Epoch))) && (decide (xv_20.Epoch ≤ tov_0))) = true then guardO ((List.length a_6 + List.length ([xv_20.Rec] : List GRec)) * 16 ≤ 140737488355328) (
  rec_5 (IntKind.i64.wrap (t17_3 + 1), (a_6 ++ ([xv_20.Rec] : List GRec))))
  else rec_5 (IntKind.i64.wrap (t17_3 + 1), a_6)))
  else f_query_Rows_J1 a_6)
noncomputable def f_query_Rows (l_0 : List GOut) (node_0 : Int) (fromv_0 : Int) (tov_0 : Int) : Option (List GRow) :=
  loopK (f_query_Rows_B5 l_0 node_0 fromv_0 tov_0) rounds (0, [])
theorem f_query_Rows_det (l_0 : List GOut) (node_0 : Int) (fromv_0 : Int) (tov_0 : Int)  (r : List GRow) (h : f_query_Rows l_0 node_0 fromv_0 tov_0 = some r) : DetS Try.prog 33 [.sl 4 (enc l_0), .v (.int .i64 node_0), .v (.int .i64 fromv_0), .v (.int .i64 tov_0)] [] 0 (.osl 0 6 (0) (List.length r)) [(0, .arr 6 (enc r))] 1 := by
  unfold DetS
  refine Spec.of_vc Try.func33 rfl (by kernel_rfl) (by kernel_rfl) ?_
  rw [f_query_Rows] at h
  refine vc_seq_gen (by kernel_rfl) ?_
  intro QQ1 hQ1
  simp only [go_sem, Try.ntmps33, Try.results33]
  refine seqQ_normal hQ1 ?_
  refine vc_seq_gen (by kernel_rfl) ?_
  intro QQ2 hQ2
  simp only [go_sem, Try.ntmps33, Try.results33]
  refine seqQ_normal hQ2 ?_
  refine vc_join (by kernel_rfl) ?_
  refine seq_cut_gen (ι := (List GRec)) (fun (a_2 : (List GRec)) => (⟨0, [(9, .osl 0 2 (0) (List.length a_2))], [(0, .arr 2 (enc a_2))], 1, 89⟩ : St)) (fun (a_2 : (List GRec)) => f_query_Rows_J1 a_2 = some r) ?_ ?_
  ·
    intro QQ21 hQ21
    refine vc_seq_gen (by kernel_rfl) ?_
    intro QQ22 hQ22
    simp only [go_sem, Try.ntmps33, Try.results33]
    refine seqQ_normal hQ22 ?_
    refine vc_block_gen ?_
    intro QQ23 hQ23
    refine vc_loop_of ?_
    refine loop_gen (ι := Nat × Int × (List GRec)) (fun ((_, t17_3, a_6) : Nat × Int × (List GRec)) => (⟨0, [(1, .v (.int .i64 node_0)), (2, .v (.int .i64 fromv_0)), (3, .v (.int .i64 tov_0)), (9, .osl 0 2 (0) (List.length a_6)), (15, .sl 4 (enc l_0)), (16, .v (.int .i64 (List.length l_0 : Int))), (17, .v (.int .i64 t17_3))], [(0, .arr 2 (enc a_6))], 1, 89⟩ : St)) (fun ((n_, t17_3, a_6) : Nat × Int × (List GRec)) => loopK (f_query_Rows_B5 l_0 node_0 fromv_0 tov_0) n_ (t17_3, a_6) = some r) (fun p => p.1) (rounds, 0, []) [none] ?_ h ?_
    · simp only [go_sem, Le] <;> (repeat' apply And.intro) <;> (simp [go_sem]; done)
    · rintro ⟨n_5, t17_3, a_6⟩ h QQ24 hQ24
      dsimp only at h
      replace h := loopK_some h
      obtain ⟨m_5, rfl, h⟩ := h
      rw [f_query_Rows_B5] at h
      refine vc_seq_gen (by kernel_rfl) ?_
      intro QQ25 hQ25
      simp only [go_sem, Try.ntmps33, Try.results33]
      refine seqQ_normal hQ25 ?_
      refine vc_seq_gen (by kernel_rfl) ?_
      intro QQ26 hQ26
      refine vc_cond_of (b := (decide (t17_3 < (List.length l_0 : Int)))) (by (simp only [go_sem]; done)) (fun hb_49 => ?_) (fun hb_49 => ?_)
      ·
        replace h := if_t h hb_49
        simp only [decide_eq_true_eq, decide_eq_false_iff_not, Bool.not_eq_true', Bool.not_eq_false', beq_iff_eq, beq_eq_false_iff_ne, ne_eq, Bool.and_eq_true, Bool.or_eq_true, Int.not_lt, Int.not_le] at hb_49
        refine vc_skip_of ?_
        refine seqQ_normal hQ26 ?_
        refine vc_join (by kernel_rfl) ?_
        refine seq_go_gen ?_
        intro QQ27 hQ27
        refine vc_block_gen ?_
        intro QQ28 hQ28
        refine vc_seq_gen (by kernel_rfl) ?_
        intro QQ29 hQ29
        obtain ⟨xv_20, exv_20, h⟩ := bindO_some h
        obtain ⟨fxv_20a, fxv_20b, fxv_20c⟩ := idx_spec exv_20
        simp only [go_sem, Try.ntmps33, Try.results33, fxv_20a, fxv_20b, fxv_20c]
        refine And.intro (by omega) ?_
        refine seqQ_normal hQ29 ?_
        refine vc_seq_gen (by kernel_rfl) ?_
        intro QQ30 hQ30
        simp only [go_sem, Try.ntmps33, Try.results33]
        refine And.intro (by omega) ?_
        refine seqQ_normal hQ30 ?_
        refine vc_cond_of (b := (((xv_20.Node == node_0) && (decide (fromv_0 ≤ xv_20.Epoch))) && (decide (xv_20.Epoch ≤ tov_0)))) (by (simp only [go_sem]; done)) (fun hb_50 => ?_) (fun hb_50 => ?_)
        ·
          replace h := if_t h hb_50
          simp only [decide_eq_true_eq, decide_eq_false_iff_not, Bool.not_eq_true', Bool.not_eq_false', beq_iff_eq, beq_eq_false_iff_ne, ne_eq, Bool.and_eq_true, Bool.or_eq_true, Int.not_lt, Int.not_le] at hb_50
          have rf_13 : [[.v (.int .i64 xv_20.Rec.K), .v (.int .i64 xv_20.Rec.V)]] = enc ([xv_20.Rec] : List GRec) := by rfl
          obtain ⟨g_9, h⟩ := guardO_some h
          simp only [List.length_cons, List.length_nil, Nat.zero_add, List.length_append] at g_9
          have rf_14 : enc a_6 ++ [[.v (.int .i64 xv_20.Rec.K), .v (.int .i64 xv_20.Rec.V)]] = enc (a_6 ++ ([xv_20.Rec] : List GRec)) := by exact (enc_app a_6 ([xv_20.Rec] : List GRec)).symm
          simp only [go_sem, Try.ntmps33, Try.results33, g_9, rf_14]
          simp only [rf_13]
          refine blockQ_normal hQ28 ?_
          refine seqQ_normal hQ27 ?_
          simp only [go_sem, Try.ntmps33, Try.results33]
          refine thenQ_normal hQ24 ?_
          refine ⟨(m_5, IntKind.i64.wrap (t17_3 + 1), (a_6 ++ ([xv_20.Rec] : List GRec))), [some 3], ?_, h, Nat.lt_succ_self _⟩
          simp only [go_sem, Le] <;> (repeat' apply And.intro) <;> (simp [go_sem]; done)
        ·
          replace h := if_f h hb_50
          refine vc_skip_of ?_
          refine blockQ_normal hQ28 ?_
          refine seqQ_normal hQ27 ?_
          simp only [go_sem, Try.ntmps33, Try.results33]
          refine thenQ_normal hQ24 ?_
          refine ⟨(m_5, IntKind.i64.wrap (t17_3 + 1), a_6), [some 0], ?_, h, Nat.lt_succ_self _⟩
          simp only [go_sem, Le]
      ·
        replace h := if_f h hb_49
        simp only [decide_eq_true_eq, decide_eq_false_iff_not, Bool.not_eq_true', Bool.not_eq_false', beq_iff_eq, beq_eq_false_iff_ne, ne_eq, Bool.and_eq_true, Bool.or_eq_true, Int.not_lt, Int.not_le] at hb_49
        refine vc_exit_of ?_
        refine seqQ_exit hQ26 ?_
        refine thenQ_exit hQ24 ?_
        refine blockQ_exit hQ23 ?_
        refine thenQ_normal hQ21 ?_
        refine ⟨a_6, [some 0], ?_, h⟩
        simp only [go_sem, Le]
  · rintro a_2 h
    try dsimp only at h
    rw [f_query_Rows_J1] at h
    refine vc_seq_gen (by kernel_rfl) ?_
    intro QQ3 hQ3
    obtain ⟨v_0, ev_0, h⟩ := bindO_some h
    simp only [go_sem, Try.ntmps33, Try.results33]
    refine callD [0] (f_slices_SortFunc_Rec_s0_0_det a_2 (fun x0_ x1_ => f_query_Rows_1 x0_ x1_) 70 [] (by rfl) (by kernel_rfl) (fun y0 y1 r_ e_ => f_query_Rows_1_ok y0 y1 r_ e_) v_0 ev_0) (by simp) rfl ⟨rfl, trivial⟩ rfl rfl rfl rfl ?_
    obtain ⟨g_3, h⟩ := guardO_some h
    simp only [go_sem, Try.ntmps33, Try.results33, g_3]
    refine seqQ_normal hQ3 ?_
    refine vc_seq_gen (by kernel_rfl) ?_
    intro QQ4 hQ4
    simp only [go_sem, Try.ntmps33, Try.results33]
    refine seqQ_normal hQ4 ?_
    refine vc_join (by kernel_rfl) ?_
    refine seq_go_gen ?_
    intro QQ5 hQ5
    refine vc_seq_gen (by kernel_rfl) ?_
    intro QQ6 hQ6
    simp only [go_sem, Try.ntmps33, Try.results33]
    refine seqQ_normal hQ6 ?_
    refine vc_block_gen ?_
    intro QQ7 hQ7
    refine vc_loop_of ?_
    refine loop_gen (ι := Nat × Int × (List GRow)) (fun ((_, atv_11, a_4) : Nat × Int × (List GRow)) => (⟨0, [(9, .osl 0 2 (0) (List.length v_0)), (12, .osl 1 6 (0) (List.length a_4)), (13, .v (.int .i64 atv_11))], [(0, .arr 2 (enc v_0)), (1, .arr 6 (enc a_4))], 2, 89⟩ : St)) (fun ((n_, atv_11, a_4) : Nat × Int × (List GRow)) => loopK (f_query_Rows_B2 v_0) n_ (atv_11, a_4) = some r) (fun p => p.1) (rounds, 0, []) [some 0, none] ?_ h ?_
    · simp only [go_sem, Le] <;> (repeat' apply And.intro) <;> first | omega | (simp [go_sem]; done)
    · rintro ⟨n_2, atv_11, a_4⟩ h QQ8 hQ8
      dsimp only at h
      replace h := loopK_some h
      obtain ⟨m_2, rfl, h⟩ := h
      rw [f_query_Rows_B2] at h
      refine vc_seq_gen (by kernel_rfl) ?_
      intro QQ9 hQ9
      refine vc_seq_gen (by kernel_rfl) ?_
      intro QQ10 hQ10
      simp only [go_sem, Try.ntmps33, Try.results33]
      refine seqQ_normal hQ10 ?_
      refine vc_cond_of (b := (decide (atv_11 < (List.length v_0 : Int)))) (by (simp only [go_sem]; done)) (fun hb_32 => ?_) (fun hb_32 => ?_)
      ·
        replace h := if_t h hb_32
        simp only [decide_eq_true_eq, decide_eq_false_iff_not, Bool.not_eq_true', Bool.not_eq_false', beq_iff_eq, beq_eq_false_iff_ne, ne_eq, Bool.and_eq_true, Bool.or_eq_true, Int.not_lt, Int.not_le] at hb_32
        refine vc_skip_of ?_
        refine seqQ_normal hQ9 ?_
        refine vc_block_gen ?_
        intro QQ11 hQ11
        refine vc_seq_gen (by kernel_rfl) ?_
        intro QQ12 hQ12
        obtain ⟨xv_13, exv_13, h⟩ := bindO_some h
        obtain ⟨fxv_13a, fxv_13b, fxv_13c⟩ := idx_spec exv_13
        simp only [go_sem, Try.ntmps33, Try.results33, fxv_13a, fxv_13b, fxv_13c]
        refine And.intro (by omega) ?_
        refine seqQ_normal hQ12 ?_
        refine vc_join (by kernel_rfl) ?_
        refine seq_cut_gen (ι := Int × GQuery_group) (fun ((atv_14, b_12) : Int × GQuery_group) => (⟨0, [(9, .osl 0 2 (0) (List.length v_0)), (12, .osl 1 6 (0) (List.length a_4)), (13, .v (.int .i64 atv_14)), (14, .ptr 2 0)], [(0, .arr 2 (enc v_0)), (1, .arr 6 (enc a_4)), (2, .box [.v (.int .i64 b_12.Row.K), .v (.int .i64 b_12.Row.Many), .v (.int .i64 b_12.Row.Least), .v (.int .i64 b_12.Row.Top), .v (.int .i64 b_12.Row.Sum), .v (.bool b_12.Row.Sure), .v (.int .i64 b_12.sum.hi), .v (.int .u64 b_12.sum.lo.n)])], 3, 89⟩ : St)) (fun ((atv_14, b_12) : Int × GQuery_group) => f_query_Rows_J3 a_4 (loopK (f_query_Rows_B2 v_0) m_2) atv_14 b_12 = some r) ?_ ?_
        ·
          intro QQ13 hQ13
          refine vc_block_gen ?_
          intro QQ14 hQ14
          refine vc_loop_of ?_
          refine loop_gen (ι := Nat × Int × GQuery_group) (fun ((_, atv_16, b_14) : Nat × Int × GQuery_group) => (⟨0, [(9, .osl 0 2 (0) (List.length v_0)), (12, .osl 1 6 (0) (List.length a_4)), (13, .v (.int .i64 atv_16)), (14, .ptr 2 0)], [(0, .arr 2 (enc v_0)), (1, .arr 6 (enc a_4)), (2, .box [.v (.int .i64 b_14.Row.K), .v (.int .i64 b_14.Row.Many), .v (.int .i64 b_14.Row.Least), .v (.int .i64 b_14.Row.Top), .v (.int .i64 b_14.Row.Sum), .v (.bool b_14.Row.Sure), .v (.int .i64 b_14.sum.hi), .v (.int .u64 b_14.sum.lo.n)])], 3, 89⟩ : St)) (fun ((n_, atv_16, b_14) : Nat × Int × GQuery_group) => loopK (f_query_Rows_B4 v_0 a_4 (loopK (f_query_Rows_B2 v_0) m_2)) n_ (atv_16, b_14) = some r) (fun p => p.1) (rounds, atv_11, (⟨(⟨xv_13.K, 0, 0, 0, 0, false⟩ : GRow), (⟨0, (⟨0⟩ : Nu64)⟩ : GQuery_wide)⟩ : GQuery_group)) [some 0, some 1, some 2] ?_ h ?_
          · simp only [go_sem, Le] <;> (repeat' apply And.intro) <;> first | omega | (simp [go_sem]; done)
          · rintro ⟨n_4, atv_16, b_14⟩ h QQ15 hQ15
            dsimp only at h
            replace h := loopK_some h
            obtain ⟨m_4, rfl, h⟩ := h
            rw [f_query_Rows_B4] at h
            refine vc_seq_gen (by kernel_rfl) ?_
            intro QQ16 hQ16
            refine vc_seq_gen (by kernel_rfl) ?_
            intro QQ17 hQ17
            refine vc_draw ?_
            refine drawM_tail 15 [0, 0, 2, 7, 15, 31, 31, 127, 255, 511, 31, 1055, 3103, 7199, 15391, 32767, 65535] mixed (by kernel_rfl) (of_decide_eq_true (by kernel_rfl)) (by kernel_rfl) ?_
            simp only [go_sem, Try.ntmps33, Try.results33]
            rcases hb_43 : (decide (atv_16 < (List.length v_0 : Int))) with _ | _
            ·
              replace h := if_f h hb_43
              simp only [go_sem, Try.ntmps33, Try.results33, hb_43]
              refine seqQ_normal hQ17 ?_
              refine vc_cond_f (by (simp only [go_sem]; done)) ?_
              refine vc_exit_of ?_
              refine seqQ_exit hQ16 ?_
              refine thenQ_exit hQ15 ?_
              refine blockQ_exit hQ14 ?_
              refine thenQ_normal hQ13 ?_
              refine ⟨(atv_16, b_14), [some 0, some 1, some 2], ?_, h⟩
              simp only [go_sem, Le] <;> (repeat' apply And.intro) <;> first | omega | (simp [go_sem]; done)
            ·
              replace h := if_t h hb_43
              obtain ⟨xv_17, exv_17, h⟩ := bindO_some h
              obtain ⟨fxv_17a, fxv_17b, fxv_17c⟩ := idx_spec exv_17
              simp only [go_sem, Try.ntmps33, Try.results33, hb_43, fxv_17a, fxv_17b, fxv_17c]
              refine And.intro (by omega) ?_
              refine seqQ_normal hQ17 ?_
              refine vc_cond_of (b := (xv_17.K == b_14.Row.K)) (by (simp only [go_sem]; done)) (fun hb_44 => ?_) (fun hb_44 => ?_)
              ·
                replace h := if_t h hb_44
                simp only [decide_eq_true_eq, decide_eq_false_iff_not, Bool.not_eq_true', Bool.not_eq_false', beq_iff_eq, beq_eq_false_iff_ne, ne_eq, Bool.and_eq_true, Bool.or_eq_true, Int.not_lt, Int.not_le] at hb_44
                refine vc_skip_of ?_
                refine seqQ_normal hQ16 ?_
                refine vc_block_gen ?_
                intro QQ18 hQ18
                refine vc_seq_gen (by kernel_rfl) ?_
                intro QQ19 hQ19
                obtain ⟨v_21, ev_21, h⟩ := bindO_some h
                simp only [go_sem, Try.ntmps33, Try.results33, fxv_17a, fxv_17b, fxv_17c]
                refine And.intro (by omega) ?_
                refine callD [2] (f_query_group_add_p0_det b_14 xv_17.V v_21 ev_21) (by simp) rfl ⟨rfl, trivial⟩ rfl rfl rfl rfl ?_
                simp only [go_sem, Try.ntmps33, Try.results33]
                refine seqQ_normal hQ19 ?_
                simp only [go_sem, Try.ntmps33, Try.results33]
                refine blockQ_normal hQ18 ?_
                refine thenQ_normal hQ15 ?_
                refine ⟨(m_4, IntKind.i64.wrap (atv_16 + 1), v_21), [some 0, some 1, some 2], ?_, h, Nat.lt_succ_self _⟩
                simp only [go_sem, Le] <;> (repeat' apply And.intro) <;> first | omega | (simp [go_sem]; done)
              ·
                replace h := if_f h hb_44
                simp only [decide_eq_true_eq, decide_eq_false_iff_not, Bool.not_eq_true', Bool.not_eq_false', beq_iff_eq, beq_eq_false_iff_ne, ne_eq, Bool.and_eq_true, Bool.or_eq_true, Int.not_lt, Int.not_le] at hb_44
                refine vc_exit_of ?_
                refine seqQ_exit hQ16 ?_
                refine thenQ_exit hQ15 ?_
                refine blockQ_exit hQ14 ?_
                refine thenQ_normal hQ13 ?_
                refine ⟨(atv_16, b_14), [some 0, some 1, some 2], ?_, h⟩
                simp only [go_sem, Le] <;> (repeat' apply And.intro) <;> first | omega | (simp [go_sem]; done)
        · rintro ⟨atv_14, b_12⟩ h
          try dsimp only at h
          rw [f_query_Rows_J3] at h
          obtain ⟨v_18, ev_18, h⟩ := bindO_some h
          simp only [go_sem, Try.ntmps33, Try.results33]
          refine callD [2] (f_query_group_row_p0_det b_12 v_18 ev_18) (by simp) rfl ⟨rfl, trivial⟩ rfl rfl rfl rfl ?_
          have rf_8 : [[.v (.int .i64 v_18.1.K), .v (.int .i64 v_18.1.Many), .v (.int .i64 v_18.1.Least), .v (.int .i64 v_18.1.Top), .v (.int .i64 v_18.1.Sum), .v (.bool v_18.1.Sure)]] = enc ([v_18.1] : List GRow) := by rfl
          obtain ⟨g_6, h⟩ := guardO_some h
          simp only [List.length_cons, List.length_nil, Nat.zero_add, List.length_append] at g_6
          have rf_9 : enc a_4 ++ [[.v (.int .i64 v_18.1.K), .v (.int .i64 v_18.1.Many), .v (.int .i64 v_18.1.Least), .v (.int .i64 v_18.1.Top), .v (.int .i64 v_18.1.Sum), .v (.bool v_18.1.Sure)]] = enc (a_4 ++ ([v_18.1] : List GRow)) := by exact (enc_app a_4 ([v_18.1] : List GRow)).symm
          simp only [go_sem, Try.ntmps33, Try.results33, g_6, rf_9]
          simp only [rf_8]
          refine blockQ_normal hQ11 ?_
          refine thenQ_normal hQ8 ?_
          refine ⟨(m_2, atv_14, (a_4 ++ ([v_18.1] : List GRow))), [some 0, some 4], ?_, h, Nat.lt_succ_self _⟩
          simp only [go_sem, Le] <;> (repeat' apply And.intro) <;> first | omega | (simp [go_sem]; done)
      ·
        replace h := if_f h hb_32
        simp only [decide_eq_true_eq, decide_eq_false_iff_not, Bool.not_eq_true', Bool.not_eq_false', beq_iff_eq, beq_eq_false_iff_ne, ne_eq, Bool.and_eq_true, Bool.or_eq_true, Int.not_lt, Int.not_le] at hb_32
        refine vc_exit_of ?_
        refine seqQ_exit hQ9 ?_
        refine thenQ_exit hQ8 ?_
        refine blockQ_exit hQ7 ?_
        refine seqQ_normal hQ5 ?_
        refine vc_seq_gen (by kernel_rfl) ?_
        intro QQ20 hQ20
        simp only [go_sem, Try.ntmps33, Try.results33]
        refine seqQ_normal hQ20 ?_
        refine vc_ret_of ?_
        simp only [go_sem, Try.ntmps33, Try.results33]
        obtain rfl := Option.some.inj h
        refine retW_det [some 1] ?_
        simp only [go_sem, Le]
theorem f_query_Rows_ok (l_0 : List GOut) (node_0 : Int) (fromv_0 : Int) (tov_0 : Int)  (r : List GRow) (h : f_query_Rows l_0 node_0 fromv_0 tov_0 = some r) : PureS Try.prog 33 [.sl 4 (enc l_0), .v (.int .i64 node_0), .v (.int .i64 fromv_0), .v (.int .i64 tov_0)] 0 (.sl 6 (enc r)) := by
  refine (f_query_Rows_det l_0 node_0 fromv_0 tov_0  r h).pure ?_
  simp only [go_sem, Le] <;> (repeat' apply And.intro) <;> (simp [go_sem]; done)
end Go.Proofs.Ytfjjpdjnpmajlaa

namespace Go.Proofs.Ytfjjpdjnpmajlaa
open Go Go.RowKit
set_option maxHeartbeats 2000000
set_option maxRecDepth 100000
set_option linter.unusedSimpArgs false
set_option linter.unusedVariables false
def f_query_Total_B1 (rows_0 : List GRow) (rec_1 : Int × Int → Option Int) : Int × Int → Option Int :=
  fun (nv_1, t8_1) =>
  (if (decide (t8_1 < (List.length rows_0 : Int))) = true then bindO (idx rows_0 t8_1) (fun (xv_2 : GRow) =>
  (if (decide ((IntKind.i64.wrap (4611686018427387904 - nv_1)) < xv_2.Many)) = true then some 4611686018427387904
  else rec_1 (IntKind.i64.wrap (nv_1 + (max 0 xv_2.Many)), IntKind.i64.wrap (t8_1 + 1))))
  else some nv_1)
def f_query_Total (rows_0 : List GRow) : Option Int :=
  loopK (f_query_Total_B1 rows_0) rounds (0, 0)
theorem f_query_Total_ok (rows_0 : List GRow)  (r : Int) (h : f_query_Total rows_0 = some r) : PureS Try.prog 34 [.sl 6 (enc rows_0)] 0 (.v (.int .i64 r)) := by
  unfold PureS
  refine Spec.of_vc Try.func34 rfl (by kernel_rfl) (by kernel_rfl) ?_
  rw [f_query_Total] at h
  refine vc_seq_gen (by kernel_rfl) ?_
  intro QQ1 hQ1
  simp only [go_sem, Try.ntmps34, Try.results34]
  refine seqQ_normal hQ1 ?_
  refine vc_seq_gen (by kernel_rfl) ?_
  intro QQ2 hQ2
  simp only [go_sem, Try.ntmps34, Try.results34]
  refine seqQ_normal hQ2 ?_
  refine vc_join (by kernel_rfl) ?_
  refine seq_go_gen ?_
  intro QQ3 hQ3
  refine vc_seq_gen (by kernel_rfl) ?_
  intro QQ4 hQ4
  simp only [go_sem, Try.ntmps34, Try.results34]
  refine seqQ_normal hQ4 ?_
  refine vc_block_gen ?_
  intro QQ5 hQ5
  refine vc_loop_of ?_
  refine loop_gen (ι := Nat × Int × Int) (fun ((_, nv_1, t8_1) : Nat × Int × Int) => (⟨0, [(3, .v (.int .i64 nv_1)), (6, .sl 6 (enc rows_0)), (7, .v (.int .i64 (List.length rows_0 : Int))), (8, .v (.int .i64 t8_1))], [], 0, 24⟩ : St)) (fun ((n_, nv_1, t8_1) : Nat × Int × Int) => loopK (f_query_Total_B1 rows_0) n_ (nv_1, t8_1) = some r) (fun p => p.1) (rounds, 0, 0) [] ?_ h ?_
  · simp only [go_sem, Le]
  · rintro ⟨n_1, nv_1, t8_1⟩ h QQ6 hQ6
    dsimp only at h
    replace h := loopK_some h
    obtain ⟨m_1, rfl, h⟩ := h
    rw [f_query_Total_B1] at h
    refine vc_seq_gen (by kernel_rfl) ?_
    intro QQ7 hQ7
    simp only [go_sem, Try.ntmps34, Try.results34]
    refine seqQ_normal hQ7 ?_
    refine vc_seq_gen (by kernel_rfl) ?_
    intro QQ8 hQ8
    refine vc_cond_of (b := (decide (t8_1 < (List.length rows_0 : Int)))) (by (simp only [go_sem]; done)) (fun hb_4 => ?_) (fun hb_4 => ?_)
    ·
      replace h := if_t h hb_4
      simp only [decide_eq_true_eq, decide_eq_false_iff_not, Bool.not_eq_true', Bool.not_eq_false', beq_iff_eq, beq_eq_false_iff_ne, ne_eq, Bool.and_eq_true, Bool.or_eq_true, Int.not_lt, Int.not_le] at hb_4
      refine vc_skip_of ?_
      refine seqQ_normal hQ8 ?_
      refine vc_seq_gen (by kernel_rfl) ?_
      intro QQ9 hQ9
      refine vc_block_gen ?_
      intro QQ10 hQ10
      refine vc_seq_gen (by kernel_rfl) ?_
      intro QQ11 hQ11
      obtain ⟨xv_2, exv_2, h⟩ := bindO_some h
      obtain ⟨fxv_2a, fxv_2b, fxv_2c⟩ := idx_spec exv_2
      simp only [go_sem, Try.ntmps34, Try.results34, fxv_2a, fxv_2b, fxv_2c]
      refine And.intro (by omega) ?_
      refine seqQ_normal hQ11 ?_
      refine vc_seq_gen (by kernel_rfl) ?_
      intro QQ12 hQ12
      refine vc_seq_gen (by kernel_rfl) ?_
      intro QQ13 hQ13
      simp only [go_sem, Try.ntmps34, Try.results34]
      refine seqQ_normal hQ13 ?_
      refine vc_cond_of (b := (decide ((IntKind.i64.wrap (4611686018427387904 - nv_1)) < xv_2.Many))) (by (simp only [go_sem]; done)) (fun hb_5 => ?_) (fun hb_5 => ?_)
      ·
        replace h := if_t h hb_5
        simp only [decide_eq_true_eq, decide_eq_false_iff_not, Bool.not_eq_true', Bool.not_eq_false', beq_iff_eq, beq_eq_false_iff_ne, ne_eq, Bool.and_eq_true, Bool.or_eq_true, Int.not_lt, Int.not_le] at hb_5
        refine vc_seq_gen (by kernel_rfl) ?_
        intro QQ14 hQ14
        simp only [go_sem, Try.ntmps34, Try.results34]
        refine seqQ_normal hQ14 ?_
        refine vc_ret_of ?_
        refine seqQ_ret hQ12 ?_
        refine blockQ_ret hQ10 ?_
        refine seqQ_ret hQ9 ?_
        refine thenQ_ret hQ6 ?_
        refine blockQ_ret hQ5 ?_
        refine seqQ_ret hQ3 ?_
        simp only [go_sem, Try.ntmps34, Try.results34]
        obtain rfl := Option.some.inj h
        refine retW_pure rfl ?_
        simp only [go_sem, Le]
      ·
        replace h := if_f h hb_5
        simp only [decide_eq_true_eq, decide_eq_false_iff_not, Bool.not_eq_true', Bool.not_eq_false', beq_iff_eq, beq_eq_false_iff_ne, ne_eq, Bool.and_eq_true, Bool.or_eq_true, Int.not_lt, Int.not_le] at hb_5
        refine vc_skip_of ?_
        refine seqQ_normal hQ12 ?_
        simp only [go_sem, Try.ntmps34, Try.results34]
        refine blockQ_normal hQ10 ?_
        refine seqQ_normal hQ9 ?_
        simp only [go_sem, Try.ntmps34, Try.results34]
        refine thenQ_normal hQ6 ?_
        refine ⟨(m_1, IntKind.i64.wrap (nv_1 + (max 0 xv_2.Many)), IntKind.i64.wrap (t8_1 + 1)), [], ?_, h, Nat.lt_succ_self _⟩
        simp only [go_sem, Le]
    ·
      replace h := if_f h hb_4
      simp only [decide_eq_true_eq, decide_eq_false_iff_not, Bool.not_eq_true', Bool.not_eq_false', beq_iff_eq, beq_eq_false_iff_ne, ne_eq, Bool.and_eq_true, Bool.or_eq_true, Int.not_lt, Int.not_le] at hb_4
      refine vc_exit_of ?_
      refine seqQ_exit hQ8 ?_
      refine thenQ_exit hQ6 ?_
      refine blockQ_exit hQ5 ?_
      refine seqQ_normal hQ3 ?_
      refine vc_seq_gen (by kernel_rfl) ?_
      intro QQ15 hQ15
      simp only [go_sem, Try.ntmps34, Try.results34]
      refine seqQ_normal hQ15 ?_
      refine vc_ret_of ?_
      simp only [go_sem, Try.ntmps34, Try.results34]
      obtain rfl := Option.some.inj h
      refine retW_pure rfl ?_
      simp only [go_sem, Le]
end Go.Proofs.Ytfjjpdjnpmajlaa

namespace Go.Proofs.Ytfjjpdjnpmajlaa
open Go Go.RowKit
set_option maxHeartbeats 2000000
set_option maxRecDepth 100000
set_option linter.unusedSimpArgs false
set_option linter.unusedVariables false
def f_backwashref32_Same_B1 (a_0 : List GRow) (b_0 : List GRow) (rec_1 : Int → Option Bool) : Int → Option Bool :=
  fun i_1 =>
  (if (decide (i_1 < (List.length a_0 : Int))) = true then bindO (idx a_0 i_1) (fun (xv_4 : GRow) =>
  bindO (idx b_0 i_1) (fun (xv_5 : GRow) =>
  (if (!((xv_4.K == xv_5.K) && ((xv_4.Many == xv_5.Many) && ((xv_4.Least == xv_5.Least) && ((xv_4.Top == xv_5.Top) && ((xv_4.Sum == xv_5.Sum) && (xv_4.Sure == xv_5.Sure))))))) = true then some false
  else rec_1 (IntKind.i64.wrap (i_1 + 1)))))
  else some true)
def f_backwashref32_Same (a_0 : List GRow) (b_0 : List GRow) : Option Bool :=
  (if (!((List.length a_0 : Int) == (List.length b_0 : Int))) = true then some false
  else loopK (f_backwashref32_Same_B1 a_0 b_0) rounds 0)
theorem f_backwashref32_Same_ok (a_0 : List GRow) (b_0 : List GRow)  (r : Bool) (h : f_backwashref32_Same a_0 b_0 = some r) : PureS Try.prog 30 [.sl 6 (enc a_0), .sl 6 (enc b_0)] 0 (.v (.bool r)) := by
  unfold PureS
  refine Spec.of_vc Try.func30 rfl (by kernel_rfl) (by kernel_rfl) ?_
  rw [f_backwashref32_Same] at h
  refine vc_seq_gen (by kernel_rfl) ?_
  intro QQ1 hQ1
  simp only [go_sem, Try.ntmps30, Try.results30]
  refine seqQ_normal hQ1 ?_
  refine vc_seq_gen (by kernel_rfl) ?_
  intro QQ2 hQ2
  refine vc_seq_gen (by kernel_rfl) ?_
  intro QQ3 hQ3
  simp only [go_sem, Try.ntmps30, Try.results30]
  refine seqQ_normal hQ3 ?_
  refine vc_cond_of (b := (!((List.length a_0 : Int) == (List.length b_0 : Int)))) (by (simp only [go_sem]; done)) (fun hb_0 => ?_) (fun hb_0 => ?_)
  ·
    replace h := if_t h hb_0
    simp only [decide_eq_true_eq, decide_eq_false_iff_not, Bool.not_eq_true', Bool.not_eq_false', beq_iff_eq, beq_eq_false_iff_ne, ne_eq, Bool.and_eq_true, Bool.or_eq_true, Int.not_lt, Int.not_le] at hb_0
    refine vc_seq_gen (by kernel_rfl) ?_
    intro QQ4 hQ4
    simp only [go_sem, Try.ntmps30, Try.results30]
    refine seqQ_normal hQ4 ?_
    refine vc_ret_of ?_
    refine seqQ_ret hQ2 ?_
    simp only [go_sem, Try.ntmps30, Try.results30]
    obtain rfl := Option.some.inj h
    refine retW_pure rfl ?_
    simp only [go_sem, Le]
  ·
    replace h := if_f h hb_0
    simp only [decide_eq_true_eq, decide_eq_false_iff_not, Bool.not_eq_true', Bool.not_eq_false', beq_iff_eq, beq_eq_false_iff_ne, ne_eq, Bool.and_eq_true, Bool.or_eq_true, Int.not_lt, Int.not_le] at hb_0
    refine vc_skip_of ?_
    refine seqQ_normal hQ2 ?_
    refine vc_join (by kernel_rfl) ?_
    refine seq_go_gen ?_
    intro QQ5 hQ5
    refine vc_seq_gen (by kernel_rfl) ?_
    intro QQ6 hQ6
    simp only [go_sem, Try.ntmps30, Try.results30]
    refine seqQ_normal hQ6 ?_
    refine vc_block_gen ?_
    intro QQ7 hQ7
    refine vc_loop_of ?_
    refine loop_gen (ι := Nat × Int) (fun ((_, i_1) : Nat × Int) => (⟨0, [(0, .sl 6 (enc a_0)), (1, .sl 6 (enc b_0)), (5, .v (.int .i64 i_1))], [], 0, 26⟩ : St)) (fun ((n_, i_1) : Nat × Int) => loopK (f_backwashref32_Same_B1 a_0 b_0) n_ i_1 = some r) (fun p => p.1) (rounds, 0) [] ?_ h ?_
    · simp only [go_sem, Le]
    · rintro ⟨n_1, i_1⟩ h QQ8 hQ8
      dsimp only at h
      replace h := loopK_some h
      obtain ⟨m_1, rfl, h⟩ := h
      rw [f_backwashref32_Same_B1] at h
      refine vc_seq_gen (by kernel_rfl) ?_
      intro QQ9 hQ9
      refine vc_seq_gen (by kernel_rfl) ?_
      intro QQ10 hQ10
      simp only [go_sem, Try.ntmps30, Try.results30]
      refine seqQ_normal hQ10 ?_
      refine vc_cond_of (b := (decide (i_1 < (List.length a_0 : Int)))) (by (simp only [go_sem]; done)) (fun hb_5 => ?_) (fun hb_5 => ?_)
      ·
        replace h := if_t h hb_5
        simp only [decide_eq_true_eq, decide_eq_false_iff_not, Bool.not_eq_true', Bool.not_eq_false', beq_iff_eq, beq_eq_false_iff_ne, ne_eq, Bool.and_eq_true, Bool.or_eq_true, Int.not_lt, Int.not_le] at hb_5
        refine vc_skip_of ?_
        refine seqQ_normal hQ9 ?_
        refine vc_seq_gen (by kernel_rfl) ?_
        intro QQ11 hQ11
        refine vc_block_gen ?_
        intro QQ12 hQ12
        refine vc_seq_gen (by kernel_rfl) ?_
        intro QQ13 hQ13
        refine vc_draw ?_
        refine drawM_tail 8 [0, 0, 3, 7, 0, 0, 48, 112, 255] mixed (by kernel_rfl) (of_decide_eq_true (by kernel_rfl)) (by kernel_rfl) ?_
        obtain ⟨xv_4, exv_4, h⟩ := bindO_some h
        obtain ⟨fxv_4a, fxv_4b, fxv_4c⟩ := idx_spec exv_4
        obtain ⟨xv_5, exv_5, h⟩ := bindO_some h
        obtain ⟨fxv_5a, fxv_5b, fxv_5c⟩ := idx_spec exv_5
        simp only [go_sem, Try.ntmps30, Try.results30, fxv_4a, fxv_4b, fxv_4c, fxv_5a, fxv_5b, fxv_5c]
        refine And.intro (by omega) ?_
        refine And.intro (by omega) ?_
        refine seqQ_normal hQ13 ?_
        refine vc_cond_of (b := (!((xv_4.K == xv_5.K) && ((xv_4.Many == xv_5.Many) && ((xv_4.Least == xv_5.Least) && ((xv_4.Top == xv_5.Top) && ((xv_4.Sum == xv_5.Sum) && (xv_4.Sure == xv_5.Sure)))))))) (by (simp only [go_sem]; done)) (fun hb_6 => ?_) (fun hb_6 => ?_)
        ·
          replace h := if_t h hb_6
          simp only [decide_eq_true_eq, decide_eq_false_iff_not, Bool.not_eq_true', Bool.not_eq_false', beq_iff_eq, beq_eq_false_iff_ne, ne_eq, Bool.and_eq_true, Bool.or_eq_true, Int.not_lt, Int.not_le] at hb_6
          refine vc_seq_gen (by kernel_rfl) ?_
          intro QQ14 hQ14
          simp only [go_sem, Try.ntmps30, Try.results30]
          refine seqQ_normal hQ14 ?_
          refine vc_ret_of ?_
          refine blockQ_ret hQ12 ?_
          refine seqQ_ret hQ11 ?_
          refine thenQ_ret hQ8 ?_
          refine blockQ_ret hQ7 ?_
          refine seqQ_ret hQ5 ?_
          simp only [go_sem, Try.ntmps30, Try.results30]
          obtain rfl := Option.some.inj h
          refine retW_pure rfl ?_
          simp only [go_sem, Le]
        ·
          replace h := if_f h hb_6
          simp only [decide_eq_true_eq, decide_eq_false_iff_not, Bool.not_eq_true', Bool.not_eq_false', beq_iff_eq, beq_eq_false_iff_ne, ne_eq, Bool.and_eq_true, Bool.or_eq_true, Int.not_lt, Int.not_le] at hb_6
          refine vc_skip_of ?_
          refine blockQ_normal hQ12 ?_
          refine seqQ_normal hQ11 ?_
          simp only [go_sem, Try.ntmps30, Try.results30]
          refine thenQ_normal hQ8 ?_
          refine ⟨(m_1, IntKind.i64.wrap (i_1 + 1)), [], ?_, h, Nat.lt_succ_self _⟩
          simp only [go_sem, Le]
      ·
        replace h := if_f h hb_5
        simp only [decide_eq_true_eq, decide_eq_false_iff_not, Bool.not_eq_true', Bool.not_eq_false', beq_iff_eq, beq_eq_false_iff_ne, ne_eq, Bool.and_eq_true, Bool.or_eq_true, Int.not_lt, Int.not_le] at hb_5
        refine vc_exit_of ?_
        refine seqQ_exit hQ9 ?_
        refine thenQ_exit hQ8 ?_
        refine blockQ_exit hQ7 ?_
        refine seqQ_normal hQ5 ?_
        refine vc_seq_gen (by kernel_rfl) ?_
        intro QQ15 hQ15
        simp only [go_sem, Try.ntmps30, Try.results30]
        refine seqQ_normal hQ15 ?_
        refine vc_ret_of ?_
        simp only [go_sem, Try.ntmps30, Try.results30]
        obtain rfl := Option.some.inj h
        refine retW_pure rfl ?_
        simp only [go_sem, Le]
end Go.Proofs.Ytfjjpdjnpmajlaa

namespace Go.Proofs.Ytfjjpdjnpmajlaa
open Go Go.RowKit
set_option maxHeartbeats 2000000
set_option maxRecDepth 100000
set_option linter.unusedSimpArgs false
set_option linter.unusedVariables false
def f_slices_Clone_Row (s_0 : List GRow) : Option (List GRow) :=
  guardO ((List.length ([] : List GRow) + List.length s_0) * 48 ≤ 140737488355328) (
  some (([] : List GRow) ++ s_0))
theorem f_slices_Clone_Row_det (s_0 : List GRow)  (r : List GRow) (h : f_slices_Clone_Row s_0 = some r) : DetS Try.prog 63 [.sl 6 (enc s_0)] [] 0 (.osl 0 6 (0) (List.length r)) [(0, .arr 6 (enc r))] 1 := by
  unfold DetS
  refine Spec.of_vc Try.func63 rfl (by kernel_rfl) (by kernel_rfl) ?_
  rw [f_slices_Clone_Row] at h
  refine vc_seq_gen (by kernel_rfl) ?_
  intro QQ1 hQ1
  simp only [go_sem, Try.ntmps63, Try.results63]
  refine seqQ_normal hQ1 ?_
  refine vc_seq_gen (by kernel_rfl) ?_
  intro QQ2 hQ2
  refine vc_seq_gen (by kernel_rfl) ?_
  intro QQ3 hQ3
  simp only [go_sem, Try.ntmps63, Try.results63]
  intro nb_0 hnb_0
  rcases nb_0 with _ | _
  ·
    refine seqQ_normal hQ3 ?_
    refine vc_cond_f (by (simp only [go_sem]; done)) ?_
    refine vc_skip_of ?_
    refine seqQ_normal hQ2 ?_
    refine vc_seq_gen (by kernel_rfl) ?_
    intro QQ4 hQ4
    obtain ⟨g_0, h⟩ := guardO_some h
    simp only [List.length_cons, List.length_nil, Nat.zero_add, List.length_append] at g_0
    have rf_0 : enc ([] : List GRow) ++ enc s_0 = enc (([] : List GRow) ++ s_0) := by exact (enc_app ([] : List GRow) s_0).symm
    simp only [go_sem, Try.ntmps63, Try.results63, g_0, rf_0]
    refine seqQ_normal hQ4 ?_
    refine vc_ret_of ?_
    simp only [go_sem, Try.ntmps63, Try.results63]
    obtain rfl := Option.some.inj h
    refine retW_det [some 1] ?_
    simp only [go_sem, Le]
  ·
    have hE_nb_0 : s_0 = [] := by cases hq : (s_0) with | nil => rfl | cons y ys => exact absurd (hnb_0 (by rw [hq]; simp [enc])) (by simp)
    simp only [hE_nb_0] at h
    refine seqQ_normal hQ3 ?_
    refine vc_cond_t (by (simp only [go_sem]; done)) ?_
    refine vc_seq_gen (by kernel_rfl) ?_
    intro QQ5 hQ5
    simp only [go_sem, Try.ntmps63, Try.results63]
    refine seqQ_normal hQ5 ?_
    refine vc_ret_of ?_
    refine seqQ_ret hQ2 ?_
    simp only [go_sem, Try.ntmps63, Try.results63]
    obtain rfl := Option.some.inj h
    refine retW_det [none] ?_
    simp only [go_sem, Le] <;> (repeat' apply And.intro) <;> (simp [go_sem]; done)
theorem f_slices_Clone_Row_ok (s_0 : List GRow)  (r : List GRow) (h : f_slices_Clone_Row s_0 = some r) : PureS Try.prog 63 [.sl 6 (enc s_0)] 0 (.sl 6 (enc r)) := by
  refine (f_slices_Clone_Row_det s_0  r h).pure ?_
  simp only [go_sem, Le] <;> (repeat' apply And.intro) <;> (simp [go_sem]; done)
end Go.Proofs.Ytfjjpdjnpmajlaa

namespace Go.Proofs.Ytfjjpdjnpmajlaa
open Go Go.RowKit
set_option maxHeartbeats 2000000
set_option maxRecDepth 100000
set_option linter.unusedSimpArgs false
set_option linter.unusedVariables false
def f_slices_insertionSortCmpFunc_Row_s0_0_B2 (a_0 : Int) (cmp_0 : GRow → GRow → Option Int) (i_1 : Int) (rec_1 : (Int × (List GRow) → Option (List GRow))) (rec_2 : Int × (List GRow) → Option (List GRow)) : Int × (List GRow) → Option (List GRow) :=
  fun (j_5, a_8) =>
  (if (decide (a_0 < j_5)) = true then bindO (idx a_8 j_5) (fun (xv_24 : GRow) =>
  bindO (idx a_8 (IntKind.i64.wrap (j_5 - 1))) (fun (xv_25 : GRow) =>
  bindO (cmp_0 xv_24 xv_25) (fun (v_8 : Int) =>
  (if (decide (v_8 < 0)) = true then bindO (idx (List.set a_8 (Int.toNat j_5) xv_25) (IntKind.i64.wrap (j_5 - 1))) (fun (xv_26 : GRow) =>
  rec_2 (IntKind.i64.wrap (j_5 - 1), (List.set (List.set a_8 (Int.toNat j_5) xv_25) (Int.toNat (IntKind.i64.wrap (j_5 - 1))) xv_24)))
  else rec_1 (IntKind.i64.wrap (i_1 + 1), a_8)))))
  else rec_1 (IntKind.i64.wrap (i_1 + 1), a_8))
def f_slices_insertionSortCmpFunc_Row_s0_0_B1 (a_0 : Int) (b_0 : Int) (cmp_0 : GRow → GRow → Option Int) (rec_1 : Int × (List GRow) → Option (List GRow)) : Int × (List GRow) → Option (List GRow) :=
  fun (i_1, a_6) =>
  (if (decide (i_1 < b_0)) = true then loopK (f_slices_insertionSortCmpFunc_Row_s0_0_B2 a_0 cmp_0 i_1 rec_1) rounds (i_1, a_6)
  else some a_6)
def f_slices_insertionSortCmpFunc_Row_s0_0 (data_0 : List GRow) (a_0 : Int) (b_0 : Int) (cmp_0 : GRow → GRow → Option Int) : Option (List GRow) :=
  loopK (f_slices_insertionSortCmpFunc_Row_s0_0_B1 a_0 b_0 cmp_0) rounds (IntKind.i64.wrap (a_0 + 1), data_0)
theorem f_slices_insertionSortCmpFunc_Row_s0_0_det (data_0 : List GRow) (a_0 : Int) (b_0 : Int) (cmp_0 : GRow → GRow → Option Int) (g_cmp_0 : FuncId) (c_cmp_0 : List AV) (F_cmp_0 : idFreeL c_cmp_0 = true) (E_cmp_0 : entB Try.prog g_cmp_0 = true) (H_cmp_0 : ∀ (x0 : GRow) (x1 : GRow) (r : Int), cmp_0 x0 x1 = some r → PureS Try.prog g_cmp_0 ([.agg [.v (.int .i64 x0.K), .v (.int .i64 x0.Many), .v (.int .i64 x0.Least), .v (.int .i64 x0.Top), .v (.int .i64 x0.Sum), .v (.bool x0.Sure)], .agg [.v (.int .i64 x1.K), .v (.int .i64 x1.Many), .v (.int .i64 x1.Least), .v (.int .i64 x1.Top), .v (.int .i64 x1.Sum), .v (.bool x1.Sure)]] ++ c_cmp_0) 0 (.v (.int .i64 r))) (r : List GRow) (h : f_slices_insertionSortCmpFunc_Row_s0_0 data_0 a_0 b_0 cmp_0 = some r) : DetS Try.prog 118 [.osl 0 6 (0) (List.length data_0), .v (.int .i64 a_0), .v (.int .i64 b_0), .clo g_cmp_0 c_cmp_0] [(0, .arr 6 (enc data_0))] 1 (.tup []) [(0, .arr 6 (enc r))] 1 := by
  unfold DetS
  refine Spec.of_vc Try.func118 rfl (by kernel_rfl) (by kernel_rfl) ?_
  rw [f_slices_insertionSortCmpFunc_Row_s0_0] at h
  refine vc_seq_gen (by kernel_rfl) ?_
  intro QQ1 hQ1
  simp only [go_sem, Try.ntmps118, Try.results118]
  refine seqQ_normal hQ1 ?_
  refine vc_block_gen ?_
  intro QQ2 hQ2
  refine vc_loop_of ?_
  refine loop_gen (ι := Nat × Int × (List GRow)) (fun ((_, i_1, a_6) : Nat × Int × (List GRow)) => (⟨1, [(0, .osl 0 6 (0) (List.length a_6)), (1, .v (.int .i64 a_0)), (2, .v (.int .i64 b_0)), (3, .clo g_cmp_0 c_cmp_0), (8, .v (.int .i64 i_1))], [(0, .arr 6 (enc a_6))], 1, 53⟩ : St)) (fun ((n_, i_1, a_6) : Nat × Int × (List GRow)) => loopK (f_slices_insertionSortCmpFunc_Row_s0_0_B1 a_0 b_0 cmp_0) n_ (i_1, a_6) = some r) (fun p => p.1) (rounds, IntKind.i64.wrap (a_0 + 1), data_0) [] ?_ h ?_
  · simp only [go_sem, Le, AvLeL_free _ F_cmp_0]
  · rintro ⟨n_1, i_1, a_6⟩ h QQ3 hQ3
    dsimp only at h
    replace h := loopK_some h
    obtain ⟨m_1, rfl, h⟩ := h
    rw [f_slices_insertionSortCmpFunc_Row_s0_0_B1] at h
    refine vc_seq_gen (by kernel_rfl) ?_
    intro QQ4 hQ4
    refine vc_seq_gen (by kernel_rfl) ?_
    intro QQ5 hQ5
    simp only [go_sem, Try.ntmps118, Try.results118]
    refine seqQ_normal hQ5 ?_
    refine vc_cond_of (b := (decide (i_1 < b_0))) (by (simp only [go_sem]; done)) (fun hb_14 => ?_) (fun hb_14 => ?_)
    ·
      replace h := if_t h hb_14
      simp only [decide_eq_true_eq, decide_eq_false_iff_not, Bool.not_eq_true', Bool.not_eq_false', beq_iff_eq, beq_eq_false_iff_ne, ne_eq, Bool.and_eq_true, Bool.or_eq_true, Int.not_lt, Int.not_le] at hb_14
      refine vc_skip_of ?_
      refine seqQ_normal hQ4 ?_
      refine vc_join (by kernel_rfl) ?_
      refine seq_go_gen ?_
      intro QQ6 hQ6
      refine vc_block_gen ?_
      intro QQ7 hQ7
      refine vc_seq_gen (by kernel_rfl) ?_
      intro QQ8 hQ8
      simp only [go_sem, Try.ntmps118, Try.results118]
      refine seqQ_normal hQ8 ?_
      refine vc_block_gen ?_
      intro QQ9 hQ9
      refine vc_loop_of ?_
      refine loop_gen (ι := Nat × Int × (List GRow)) (fun ((_, j_5, a_8) : Nat × Int × (List GRow)) => (⟨1, [(0, .osl 0 6 (0) (List.length a_8)), (1, .v (.int .i64 a_0)), (2, .v (.int .i64 b_0)), (3, .clo g_cmp_0 c_cmp_0), (8, .v (.int .i64 i_1)), (9, .v (.int .i64 j_5))], [(0, .arr 6 (enc a_8))], 1, 53⟩ : St)) (fun ((n_, j_5, a_8) : Nat × Int × (List GRow)) => loopK (f_slices_insertionSortCmpFunc_Row_s0_0_B2 a_0 cmp_0 i_1 (loopK (f_slices_insertionSortCmpFunc_Row_s0_0_B1 a_0 b_0 cmp_0) m_1)) n_ (j_5, a_8) = some r) (fun p => p.1) (rounds, i_1, a_6) [] ?_ h ?_
      · simp only [go_sem, Le, AvLeL_free _ F_cmp_0]
      · rintro ⟨n_2, j_5, a_8⟩ h QQ10 hQ10
        dsimp only at h
        replace h := loopK_some h
        obtain ⟨m_2, rfl, h⟩ := h
        rw [f_slices_insertionSortCmpFunc_Row_s0_0_B2] at h
        refine vc_seq_gen (by kernel_rfl) ?_
        intro QQ11 hQ11
        refine vc_seq_gen (by kernel_rfl) ?_
        intro QQ12 hQ12
        refine vc_draw ?_
        refine drawM_tail 14 [0, 0, 3, 7, 15, 15, 15, 111, 239, 15, 15, 1039, 3599, 7695, 16383, 32767, 65535] mixed (by kernel_rfl) (of_decide_eq_true (by kernel_rfl)) (by kernel_rfl) ?_
        simp only [go_sem, Try.ntmps118, Try.results118]
        rcases hb_19 : (decide (a_0 < j_5)) with _ | _
        ·
          replace h := if_f h hb_19
          simp only [go_sem, Try.ntmps118, Try.results118, hb_19]
          refine seqQ_normal hQ12 ?_
          refine vc_cond_f (by (simp only [go_sem]; done)) ?_
          refine vc_exit_of ?_
          refine seqQ_exit hQ11 ?_
          refine thenQ_exit hQ10 ?_
          refine blockQ_exit hQ9 ?_
          refine blockQ_normal hQ7 ?_
          refine seqQ_normal hQ6 ?_
          simp only [go_sem, Try.ntmps118, Try.results118]
          refine thenQ_normal hQ3 ?_
          refine ⟨(m_1, IntKind.i64.wrap (i_1 + 1), a_8), [], ?_, h, Nat.lt_succ_self _⟩
          simp only [go_sem, Le, AvLeL_free _ F_cmp_0]
        ·
          replace h := if_t h hb_19
          obtain ⟨xv_24, exv_24, h⟩ := bindO_some h
          obtain ⟨fxv_24a, fxv_24b, fxv_24c⟩ := idx_spec exv_24
          obtain ⟨xv_25, exv_25, h⟩ := bindO_some h
          obtain ⟨fxv_25a, fxv_25b, fxv_25c⟩ := idx_spec exv_25
          obtain ⟨v_8, ev_8, h⟩ := bindO_some h
          simp only [go_sem, Try.ntmps118, Try.results118, hb_19, fxv_24a, fxv_24b, fxv_24c, fxv_25a, fxv_25b, fxv_25c, E_cmp_0]
          refine And.intro (by omega) ?_
          refine And.intro (by omega) ?_
          refine call0 (H_cmp_0 xv_24 xv_25 v_8 ev_8) (by rfl) (by simp [idFreeL, idFree, F_cmp_0]) ?_
          simp only [go_sem, Try.ntmps118, Try.results118]
          refine seqQ_normal hQ12 ?_
          refine vc_cond_of (b := (decide (v_8 < 0))) (by (simp only [go_sem]; done)) (fun hb_20 => ?_) (fun hb_20 => ?_)
          ·
            replace h := if_t h hb_20
            simp only [decide_eq_true_eq, decide_eq_false_iff_not, Bool.not_eq_true', Bool.not_eq_false', beq_iff_eq, beq_eq_false_iff_ne, ne_eq, Bool.and_eq_true, Bool.or_eq_true, Int.not_lt, Int.not_le] at hb_20
            refine vc_skip_of ?_
            refine seqQ_normal hQ11 ?_
            refine vc_seq_gen (by kernel_rfl) ?_
            intro QQ13 hQ13
            refine vc_block_gen ?_
            intro QQ14 hQ14
            refine vc_draw ?_
            refine drawV_all 16 0 [0, 0, 0, 0, 8, 0, 0, 64, 224, 480, 0, 0, 3072, 7168, 16355, 32739, 65535, 131071] [0] [2, 3, 4] [15] [] mixed (by kernel_rfl) (of_decide_eq_true (by kernel_rfl)) (by kernel_rfl) (by kernel_rfl) (by rfl) ?_
            have rf_16 : (enc a_8).set (Int.toNat j_5) [.v (.int .i64 xv_25.K), .v (.int .i64 xv_25.Many), .v (.int .i64 xv_25.Least), .v (.int .i64 xv_25.Top), .v (.int .i64 xv_25.Sum), .v (.bool xv_25.Sure)] = enc (List.set a_8 (Int.toNat j_5) xv_25) := by exact enc_set _ _ _
            obtain ⟨xv_26, exv_26, h⟩ := bindO_some h
            obtain ⟨fxv_26a, fxv_26b, fxv_26c⟩ := idx_spec exv_26
            have rf_17 : (enc (List.set a_8 (Int.toNat j_5) xv_25)).set (Int.toNat (IntKind.i64.wrap (j_5 - 1))) [.v (.int .i64 xv_24.K), .v (.int .i64 xv_24.Many), .v (.int .i64 xv_24.Least), .v (.int .i64 xv_24.Top), .v (.int .i64 xv_24.Sum), .v (.bool xv_24.Sure)] = enc (List.set (List.set a_8 (Int.toNat j_5) xv_25) (Int.toNat (IntKind.i64.wrap (j_5 - 1))) xv_24) := by exact enc_set _ _ _
            simp only [go_sem, Try.ntmps118, Try.results118, fxv_25a, fxv_25b, fxv_25c, fxv_24a, fxv_24b, fxv_24c, rf_16, fxv_26a, fxv_26b, fxv_26c, rf_17]
            refine And.intro (by omega) ?_
            refine And.intro (by omega) ?_
            refine And.intro (by omega) ?_
            refine And.intro (by omega) ?_
            refine blockQ_normal hQ14 ?_
            refine seqQ_normal hQ13 ?_
            simp only [go_sem, Try.ntmps118, Try.results118]
            refine thenQ_normal hQ10 ?_
            refine ⟨(m_2, IntKind.i64.wrap (j_5 - 1), (List.set (List.set a_8 (Int.toNat j_5) xv_25) (Int.toNat (IntKind.i64.wrap (j_5 - 1))) xv_24)), [], ?_, h, Nat.lt_succ_self _⟩
            simp only [go_sem, Le, AvLeL_free _ F_cmp_0]
          ·
            replace h := if_f h hb_20
            simp only [decide_eq_true_eq, decide_eq_false_iff_not, Bool.not_eq_true', Bool.not_eq_false', beq_iff_eq, beq_eq_false_iff_ne, ne_eq, Bool.and_eq_true, Bool.or_eq_true, Int.not_lt, Int.not_le] at hb_20
            refine vc_exit_of ?_
            refine seqQ_exit hQ11 ?_
            refine thenQ_exit hQ10 ?_
            refine blockQ_exit hQ9 ?_
            refine blockQ_normal hQ7 ?_
            refine seqQ_normal hQ6 ?_
            simp only [go_sem, Try.ntmps118, Try.results118]
            refine thenQ_normal hQ3 ?_
            refine ⟨(m_1, IntKind.i64.wrap (i_1 + 1), a_8), [], ?_, h, Nat.lt_succ_self _⟩
            simp only [go_sem, Le, AvLeL_free _ F_cmp_0]
    ·
      replace h := if_f h hb_14
      simp only [decide_eq_true_eq, decide_eq_false_iff_not, Bool.not_eq_true', Bool.not_eq_false', beq_iff_eq, beq_eq_false_iff_ne, ne_eq, Bool.and_eq_true, Bool.or_eq_true, Int.not_lt, Int.not_le] at hb_14
      refine vc_exit_of ?_
      refine seqQ_exit hQ4 ?_
      refine thenQ_exit hQ3 ?_
      refine blockQ_exit hQ2 ?_
      simp only [go_sem, Try.ntmps118, Try.results118]
      obtain rfl := Option.some.inj h
      refine retW_det [] ?_
      simp only [go_sem, Le, AvLeL_free _ F_cmp_0]
end Go.Proofs.Ytfjjpdjnpmajlaa

namespace Go.Proofs.Ytfjjpdjnpmajlaa
open Go Go.RowKit
set_option maxHeartbeats 2000000
set_option maxRecDepth 100000
set_option linter.unusedSimpArgs false
set_option linter.unusedVariables false
def f_slices_swapRangeCmpFunc_Row_s0_0_B1 (a_0 : Int) (b_0 : Int) (nv_0 : Int) (rec_1 : Int × (List GRow) → Option (List GRow)) : Int × (List GRow) → Option (List GRow) :=
  fun (i_1, a_2) =>
  (if (decide (i_1 < nv_0)) = true then bindO (idx a_2 (IntKind.i64.wrap (b_0 + i_1))) (fun (xv_6 : GRow) =>
  bindO (idx a_2 (IntKind.i64.wrap (a_0 + i_1))) (fun (xv_7 : GRow) =>
  bindO (idx (List.set a_2 (Int.toNat (IntKind.i64.wrap (a_0 + i_1))) xv_6) (IntKind.i64.wrap (b_0 + i_1))) (fun (xv_8 : GRow) =>
  rec_1 (IntKind.i64.wrap (i_1 + 1), (List.set (List.set a_2 (Int.toNat (IntKind.i64.wrap (a_0 + i_1))) xv_6) (Int.toNat (IntKind.i64.wrap (b_0 + i_1))) xv_7)))))
  else some a_2)
def f_slices_swapRangeCmpFunc_Row_s0_0 (data_0 : List GRow) (a_0 : Int) (b_0 : Int) (nv_0 : Int) (cmp_0 : GRow → GRow → Option Int) : Option (List GRow) :=
  loopK (f_slices_swapRangeCmpFunc_Row_s0_0_B1 a_0 b_0 nv_0) rounds (0, data_0)
theorem f_slices_swapRangeCmpFunc_Row_s0_0_det (data_0 : List GRow) (a_0 : Int) (b_0 : Int) (nv_0 : Int) (cmp_0 : GRow → GRow → Option Int) (g_cmp_0 : FuncId) (c_cmp_0 : List AV) (F_cmp_0 : idFreeL c_cmp_0 = true) (E_cmp_0 : entB Try.prog g_cmp_0 = true) (H_cmp_0 : ∀ (x0 : GRow) (x1 : GRow) (r : Int), cmp_0 x0 x1 = some r → PureS Try.prog g_cmp_0 ([.agg [.v (.int .i64 x0.K), .v (.int .i64 x0.Many), .v (.int .i64 x0.Least), .v (.int .i64 x0.Top), .v (.int .i64 x0.Sum), .v (.bool x0.Sure)], .agg [.v (.int .i64 x1.K), .v (.int .i64 x1.Many), .v (.int .i64 x1.Least), .v (.int .i64 x1.Top), .v (.int .i64 x1.Sum), .v (.bool x1.Sure)]] ++ c_cmp_0) 0 (.v (.int .i64 r))) (r : List GRow) (h : f_slices_swapRangeCmpFunc_Row_s0_0 data_0 a_0 b_0 nv_0 cmp_0 = some r) : DetS Try.prog 151 [.osl 0 6 (0) (List.length data_0), .v (.int .i64 a_0), .v (.int .i64 b_0), .v (.int .i64 nv_0), .clo g_cmp_0 c_cmp_0] [(0, .arr 6 (enc data_0))] 1 (.tup []) [(0, .arr 6 (enc r))] 1 := by
  unfold DetS
  refine Spec.of_vc Try.func151 rfl (by kernel_rfl) (by kernel_rfl) ?_
  rw [f_slices_swapRangeCmpFunc_Row_s0_0] at h
  refine vc_seq_gen (by kernel_rfl) ?_
  intro QQ1 hQ1
  simp only [go_sem, Try.ntmps151, Try.results151]
  refine seqQ_normal hQ1 ?_
  refine vc_block_gen ?_
  intro QQ2 hQ2
  refine vc_loop_of ?_
  refine loop_gen (ι := Nat × Int × (List GRow)) (fun ((_, i_1, a_2) : Nat × Int × (List GRow)) => (⟨1, [(0, .osl 0 6 (0) (List.length a_2)), (1, .v (.int .i64 a_0)), (2, .v (.int .i64 b_0)), (3, .v (.int .i64 nv_0)), (10, .v (.int .i64 i_1))], [(0, .arr 6 (enc a_2))], 1, 38⟩ : St)) (fun ((n_, i_1, a_2) : Nat × Int × (List GRow)) => loopK (f_slices_swapRangeCmpFunc_Row_s0_0_B1 a_0 b_0 nv_0) n_ (i_1, a_2) = some r) (fun p => p.1) (rounds, 0, data_0) [] ?_ h ?_
  · simp only [go_sem, Le, AvLeL_free _ F_cmp_0]
  · rintro ⟨n_1, i_1, a_2⟩ h QQ3 hQ3
    dsimp only at h
    replace h := loopK_some h
    obtain ⟨m_1, rfl, h⟩ := h
    rw [f_slices_swapRangeCmpFunc_Row_s0_0_B1] at h
    refine vc_seq_gen (by kernel_rfl) ?_
    intro QQ4 hQ4
    refine vc_seq_gen (by kernel_rfl) ?_
    intro QQ5 hQ5
    simp only [go_sem, Try.ntmps151, Try.results151]
    refine seqQ_normal hQ5 ?_
    refine vc_cond_of (b := (decide (i_1 < nv_0))) (by (simp only [go_sem]; done)) (fun hb_2 => ?_) (fun hb_2 => ?_)
    ·
      replace h := if_t h hb_2
      simp only [decide_eq_true_eq, decide_eq_false_iff_not, Bool.not_eq_true', Bool.not_eq_false', beq_iff_eq, beq_eq_false_iff_ne, ne_eq, Bool.and_eq_true, Bool.or_eq_true, Int.not_lt, Int.not_le] at hb_2
      refine vc_skip_of ?_
      refine seqQ_normal hQ4 ?_
      refine vc_seq_gen (by kernel_rfl) ?_
      intro QQ6 hQ6
      refine vc_block_gen ?_
      intro QQ7 hQ7
      refine vc_draw ?_
      refine drawV_all 22 0 [0, 0, 0, 6, 0, 0, 0, 96, 0, 0, 0, 1536, 3840, 7936, 0, 0, 0, 98304, 245760, 507904, 1048335, 2096911, 4194303, 8388607] [0] [4, 5, 6, 7] [21] [] mixed (by kernel_rfl) (of_decide_eq_true (by kernel_rfl)) (by kernel_rfl) (by kernel_rfl) (by rfl) ?_
      obtain ⟨xv_6, exv_6, h⟩ := bindO_some h
      obtain ⟨fxv_6a, fxv_6b, fxv_6c⟩ := idx_spec exv_6
      obtain ⟨xv_7, exv_7, h⟩ := bindO_some h
      obtain ⟨fxv_7a, fxv_7b, fxv_7c⟩ := idx_spec exv_7
      have rf_4 : (enc a_2).set (Int.toNat (IntKind.i64.wrap (a_0 + i_1))) [.v (.int .i64 xv_6.K), .v (.int .i64 xv_6.Many), .v (.int .i64 xv_6.Least), .v (.int .i64 xv_6.Top), .v (.int .i64 xv_6.Sum), .v (.bool xv_6.Sure)] = enc (List.set a_2 (Int.toNat (IntKind.i64.wrap (a_0 + i_1))) xv_6) := by exact enc_set _ _ _
      obtain ⟨xv_8, exv_8, h⟩ := bindO_some h
      obtain ⟨fxv_8a, fxv_8b, fxv_8c⟩ := idx_spec exv_8
      have rf_5 : (enc (List.set a_2 (Int.toNat (IntKind.i64.wrap (a_0 + i_1))) xv_6)).set (Int.toNat (IntKind.i64.wrap (b_0 + i_1))) [.v (.int .i64 xv_7.K), .v (.int .i64 xv_7.Many), .v (.int .i64 xv_7.Least), .v (.int .i64 xv_7.Top), .v (.int .i64 xv_7.Sum), .v (.bool xv_7.Sure)] = enc (List.set (List.set a_2 (Int.toNat (IntKind.i64.wrap (a_0 + i_1))) xv_6) (Int.toNat (IntKind.i64.wrap (b_0 + i_1))) xv_7) := by exact enc_set _ _ _
      simp only [go_sem, Try.ntmps151, Try.results151, fxv_6a, fxv_6b, fxv_6c, fxv_7a, fxv_7b, fxv_7c, rf_4, fxv_8a, fxv_8b, fxv_8c, rf_5]
      refine And.intro (by omega) ?_
      refine And.intro (by omega) ?_
      refine And.intro (by omega) ?_
      refine And.intro (by omega) ?_
      refine blockQ_normal hQ7 ?_
      refine seqQ_normal hQ6 ?_
      simp only [go_sem, Try.ntmps151, Try.results151]
      refine thenQ_normal hQ3 ?_
      refine ⟨(m_1, IntKind.i64.wrap (i_1 + 1), (List.set (List.set a_2 (Int.toNat (IntKind.i64.wrap (a_0 + i_1))) xv_6) (Int.toNat (IntKind.i64.wrap (b_0 + i_1))) xv_7)), [], ?_, h, Nat.lt_succ_self _⟩
      simp only [go_sem, Le, AvLeL_free _ F_cmp_0]
    ·
      replace h := if_f h hb_2
      simp only [decide_eq_true_eq, decide_eq_false_iff_not, Bool.not_eq_true', Bool.not_eq_false', beq_iff_eq, beq_eq_false_iff_ne, ne_eq, Bool.and_eq_true, Bool.or_eq_true, Int.not_lt, Int.not_le] at hb_2
      refine vc_exit_of ?_
      refine seqQ_exit hQ4 ?_
      refine thenQ_exit hQ3 ?_
      refine blockQ_exit hQ2 ?_
      simp only [go_sem, Try.ntmps151, Try.results151]
      obtain rfl := Option.some.inj h
      refine retW_det [] ?_
      simp only [go_sem, Le, AvLeL_free _ F_cmp_0]
end Go.Proofs.Ytfjjpdjnpmajlaa

namespace Go.Proofs.Ytfjjpdjnpmajlaa
open Go Go.RowKit
set_option maxHeartbeats 2000000
set_option maxRecDepth 100000
set_option linter.unusedSimpArgs false
set_option linter.unusedVariables false
def f_slices_rotateCmpFunc_Row_s0_0_J1 (mv_0 : Int) (cmp_0 : GRow → GRow → Option Int) (i_2 : Int) (a_3 : List GRow) : Option (List GRow) :=
  bindO (f_slices_swapRangeCmpFunc_Row_s0_0 a_3 (IntKind.i64.wrap (mv_0 - i_2)) mv_0 i_2 cmp_0) (fun (v_6 : List GRow) =>
  guardO (List.length v_6 = List.length a_3) (
  some v_6))
def f_slices_rotateCmpFunc_Row_s0_0_B2 (mv_0 : Int) (cmp_0 : GRow → GRow → Option Int) (rec_2 : Int × Int × (List GRow) → Option (List GRow)) : Int × Int × (List GRow) → Option (List GRow) :=
  fun (i_4, j_3, a_5) =>
  (if (!(i_4 == j_3)) = true then (if (decide (j_3 < i_4)) = true then bindO (f_slices_swapRangeCmpFunc_Row_s0_0 a_5 (IntKind.i64.wrap (mv_0 - i_4)) mv_0 j_3 cmp_0) (fun (v_11 : List GRow) =>
  guardO (List.length v_11 = List.length a_5) (
  rec_2 (IntKind.i64.wrap (i_4 - j_3), j_3, v_11)))
  else bindO (f_slices_swapRangeCmpFunc_Row_s0_0 a_5 (IntKind.i64.wrap (mv_0 - i_4)) (IntKind.i64.wrap ((IntKind.i64.wrap (mv_0 + j_3)) - i_4)) i_4 cmp_0) (fun (v_12 : List GRow) =>
  guardO (List.length v_12 = List.length a_5) (
  rec_2 (i_4, IntKind.i64.wrap (j_3 - i_4), v_12))))
  else f_slices_rotateCmpFunc_Row_s0_0_J1 mv_0 cmp_0 i_4 a_5)
def f_slices_rotateCmpFunc_Row_s0_0 (data_0 : List GRow) (a_0 : Int) (mv_0 : Int) (b_0 : Int) (cmp_0 : GRow → GRow → Option Int) : Option (List GRow) :=
  loopK (f_slices_rotateCmpFunc_Row_s0_0_B2 mv_0 cmp_0) rounds (IntKind.i64.wrap (mv_0 - a_0), IntKind.i64.wrap (b_0 - mv_0), data_0)
theorem f_slices_rotateCmpFunc_Row_s0_0_det (data_0 : List GRow) (a_0 : Int) (mv_0 : Int) (b_0 : Int) (cmp_0 : GRow → GRow → Option Int) (g_cmp_0 : FuncId) (c_cmp_0 : List AV) (F_cmp_0 : idFreeL c_cmp_0 = true) (E_cmp_0 : entB Try.prog g_cmp_0 = true) (H_cmp_0 : ∀ (x0 : GRow) (x1 : GRow) (r : Int), cmp_0 x0 x1 = some r → PureS Try.prog g_cmp_0 ([.agg [.v (.int .i64 x0.K), .v (.int .i64 x0.Many), .v (.int .i64 x0.Least), .v (.int .i64 x0.Top), .v (.int .i64 x0.Sum), .v (.bool x0.Sure)], .agg [.v (.int .i64 x1.K), .v (.int .i64 x1.Many), .v (.int .i64 x1.Least), .v (.int .i64 x1.Top), .v (.int .i64 x1.Sum), .v (.bool x1.Sure)]] ++ c_cmp_0) 0 (.v (.int .i64 r))) (r : List GRow) (h : f_slices_rotateCmpFunc_Row_s0_0 data_0 a_0 mv_0 b_0 cmp_0 = some r) : DetS Try.prog 140 [.osl 0 6 (0) (List.length data_0), .v (.int .i64 a_0), .v (.int .i64 mv_0), .v (.int .i64 b_0), .clo g_cmp_0 c_cmp_0] [(0, .arr 6 (enc data_0))] 1 (.tup []) [(0, .arr 6 (enc r))] 1 := by
  unfold DetS
  refine Spec.of_vc Try.func140 rfl (by kernel_rfl) (by kernel_rfl) ?_
  rw [f_slices_rotateCmpFunc_Row_s0_0] at h
  refine vc_seq_gen (by kernel_rfl) ?_
  intro QQ1 hQ1
  simp only [go_sem, Try.ntmps140, Try.results140]
  refine seqQ_normal hQ1 ?_
  refine vc_seq_gen (by kernel_rfl) ?_
  intro QQ2 hQ2
  simp only [go_sem, Try.ntmps140, Try.results140]
  refine seqQ_normal hQ2 ?_
  refine vc_join (by kernel_rfl) ?_
  refine seq_cut_gen (ι := Int × (List GRow)) (fun ((i_2, a_3) : Int × (List GRow)) => (⟨1, [(0, .osl 0 6 (0) (List.length a_3)), (2, .v (.int .i64 mv_0)), (4, .clo g_cmp_0 c_cmp_0), (10, .v (.int .i64 i_2))], [(0, .arr 6 (enc a_3))], 1, 58⟩ : St)) (fun ((i_2, a_3) : Int × (List GRow)) => f_slices_rotateCmpFunc_Row_s0_0_J1 mv_0 cmp_0 i_2 a_3 = some r) ?_ ?_
  ·
    intro QQ3 hQ3
    refine vc_block_gen ?_
    intro QQ4 hQ4
    refine vc_loop_of ?_
    refine loop_gen (ι := Nat × Int × Int × (List GRow)) (fun ((_, i_4, j_3, a_5) : Nat × Int × Int × (List GRow)) => (⟨1, [(0, .osl 0 6 (0) (List.length a_5)), (2, .v (.int .i64 mv_0)), (4, .clo g_cmp_0 c_cmp_0), (10, .v (.int .i64 i_4)), (11, .v (.int .i64 j_3))], [(0, .arr 6 (enc a_5))], 1, 58⟩ : St)) (fun ((n_, i_4, j_3, a_5) : Nat × Int × Int × (List GRow)) => loopK (f_slices_rotateCmpFunc_Row_s0_0_B2 mv_0 cmp_0) n_ (i_4, j_3, a_5) = some r) (fun p => p.1) (rounds, IntKind.i64.wrap (mv_0 - a_0), IntKind.i64.wrap (b_0 - mv_0), data_0) [] ?_ h ?_
    · simp only [go_sem, Le, AvLeL_free _ F_cmp_0]
    · rintro ⟨n_2, i_4, j_3, a_5⟩ h QQ5 hQ5
      dsimp only at h
      replace h := loopK_some h
      obtain ⟨m_2, rfl, h⟩ := h
      rw [f_slices_rotateCmpFunc_Row_s0_0_B2] at h
      refine vc_seq_gen (by kernel_rfl) ?_
      intro QQ6 hQ6
      refine vc_seq_gen (by kernel_rfl) ?_
      intro QQ7 hQ7
      simp only [go_sem, Try.ntmps140, Try.results140]
      refine seqQ_normal hQ7 ?_
      refine vc_cond_of (b := (!(i_4 == j_3))) (by (simp only [go_sem]; done)) (fun hb_10 => ?_) (fun hb_10 => ?_)
      ·
        replace h := if_t h hb_10
        simp only [decide_eq_true_eq, decide_eq_false_iff_not, Bool.not_eq_true', Bool.not_eq_false', beq_iff_eq, beq_eq_false_iff_ne, ne_eq, Bool.and_eq_true, Bool.or_eq_true, Int.not_lt, Int.not_le] at hb_10
        refine vc_skip_of ?_
        refine seqQ_normal hQ6 ?_
        refine vc_block_gen ?_
        intro QQ8 hQ8
        refine vc_seq_gen (by kernel_rfl) ?_
        intro QQ9 hQ9
        simp only [go_sem, Try.ntmps140, Try.results140]
        refine seqQ_normal hQ9 ?_
        refine vc_cond_of (b := (decide (j_3 < i_4))) (by (simp only [go_sem]; done)) (fun hb_11 => ?_) (fun hb_11 => ?_)
        ·
          replace h := if_t h hb_11
          simp only [decide_eq_true_eq, decide_eq_false_iff_not, Bool.not_eq_true', Bool.not_eq_false', beq_iff_eq, beq_eq_false_iff_ne, ne_eq, Bool.and_eq_true, Bool.or_eq_true, Int.not_lt, Int.not_le] at hb_11
          refine vc_seq_gen (by kernel_rfl) ?_
          intro QQ10 hQ10
          obtain ⟨v_11, ev_11, h⟩ := bindO_some h
          simp only [go_sem, Try.ntmps140, Try.results140]
          refine callD [0] (f_slices_swapRangeCmpFunc_Row_s0_0_det a_5 (IntKind.i64.wrap (mv_0 - i_4)) mv_0 j_3 cmp_0 g_cmp_0 c_cmp_0 F_cmp_0 E_cmp_0 H_cmp_0 v_11 ev_11) (by simp) (by simp only [renL, renA, renL_free F_cmp_0] <;> rfl) ⟨rfl, trivial⟩ (by simp only [ltL, ltA, ltL_free F_cmp_0] <;> rfl) rfl rfl rfl ?_
          obtain ⟨g_11, h⟩ := guardO_some h
          simp only [go_sem, Try.ntmps140, Try.results140, g_11]
          refine seqQ_normal hQ10 ?_
          simp only [go_sem, Try.ntmps140, Try.results140]
          refine blockQ_normal hQ8 ?_
          refine thenQ_normal hQ5 ?_
          refine ⟨(m_2, IntKind.i64.wrap (i_4 - j_3), j_3, v_11), [], ?_, h, Nat.lt_succ_self _⟩
          simp only [go_sem, Le, AvLeL_free _ F_cmp_0] <;> (repeat' apply And.intro) <;> omega
        ·
          replace h := if_f h hb_11
          simp only [decide_eq_true_eq, decide_eq_false_iff_not, Bool.not_eq_true', Bool.not_eq_false', beq_iff_eq, beq_eq_false_iff_ne, ne_eq, Bool.and_eq_true, Bool.or_eq_true, Int.not_lt, Int.not_le] at hb_11
          refine vc_seq_gen (by kernel_rfl) ?_
          intro QQ11 hQ11
          obtain ⟨v_12, ev_12, h⟩ := bindO_some h
          simp only [go_sem, Try.ntmps140, Try.results140]
          refine callD [0] (f_slices_swapRangeCmpFunc_Row_s0_0_det a_5 (IntKind.i64.wrap (mv_0 - i_4)) (IntKind.i64.wrap ((IntKind.i64.wrap (mv_0 + j_3)) - i_4)) i_4 cmp_0 g_cmp_0 c_cmp_0 F_cmp_0 E_cmp_0 H_cmp_0 v_12 ev_12) (by simp) (by simp only [renL, renA, renL_free F_cmp_0] <;> rfl) ⟨rfl, trivial⟩ (by simp only [ltL, ltA, ltL_free F_cmp_0] <;> rfl) rfl rfl rfl ?_
          obtain ⟨g_12, h⟩ := guardO_some h
          simp only [go_sem, Try.ntmps140, Try.results140, g_12]
          refine seqQ_normal hQ11 ?_
          simp only [go_sem, Try.ntmps140, Try.results140]
          refine blockQ_normal hQ8 ?_
          refine thenQ_normal hQ5 ?_
          refine ⟨(m_2, i_4, IntKind.i64.wrap (j_3 - i_4), v_12), [], ?_, h, Nat.lt_succ_self _⟩
          simp only [go_sem, Le, AvLeL_free _ F_cmp_0] <;> (repeat' apply And.intro) <;> omega
      ·
        replace h := if_f h hb_10
        simp only [decide_eq_true_eq, decide_eq_false_iff_not, Bool.not_eq_true', Bool.not_eq_false', beq_iff_eq, beq_eq_false_iff_ne, ne_eq, Bool.and_eq_true, Bool.or_eq_true, Int.not_lt, Int.not_le] at hb_10
        refine vc_exit_of ?_
        refine seqQ_exit hQ6 ?_
        refine thenQ_exit hQ5 ?_
        refine blockQ_exit hQ4 ?_
        refine thenQ_normal hQ3 ?_
        refine ⟨(i_4, a_5), [], ?_, h⟩
        simp only [go_sem, Le, AvLeL_free _ F_cmp_0]
  · rintro ⟨i_2, a_3⟩ h
    try dsimp only at h
    rw [f_slices_rotateCmpFunc_Row_s0_0_J1] at h
    obtain ⟨v_6, ev_6, h⟩ := bindO_some h
    simp only [go_sem, Try.ntmps140, Try.results140]
    refine callD [0] (f_slices_swapRangeCmpFunc_Row_s0_0_det a_3 (IntKind.i64.wrap (mv_0 - i_2)) mv_0 i_2 cmp_0 g_cmp_0 c_cmp_0 F_cmp_0 E_cmp_0 H_cmp_0 v_6 ev_6) (by simp) (by simp only [renL, renA, renL_free F_cmp_0] <;> rfl) ⟨rfl, trivial⟩ (by simp only [ltL, ltA, ltL_free F_cmp_0] <;> rfl) rfl rfl rfl ?_
    obtain ⟨g_6, h⟩ := guardO_some h
    simp only [go_sem, Try.ntmps140, Try.results140, g_6]
    obtain rfl := Option.some.inj h
    refine retW_det [] ?_
    simp only [go_sem, Le, AvLeL_free _ F_cmp_0]
end Go.Proofs.Ytfjjpdjnpmajlaa

namespace Go.Proofs.Ytfjjpdjnpmajlaa
open Go Go.RowKit
set_option maxHeartbeats 2000000
set_option maxRecDepth 100000
set_option linter.unusedSimpArgs false
set_option linter.unusedVariables false
def f_slices_symMergeCmpFunc_Row_s0_0_J6 (a_0 : Int) (mv_0 : Int) (b_0 : Int) (cmp_0 : GRow → GRow → Option Int) (self : (List GRow) → Int → Int → Int → (GRow → GRow → Option Int) → Option (List GRow)) (start_3 : Int) (a_6 : List GRow) : Option (List GRow) :=
  (if ((decide ((IntKind.i64.wrap (shrI .u64 (IntKind.u64.wrap (IntKind.i64.wrap (a_0 + b_0))) 1)) < (IntKind.i64.wrap ((IntKind.i64.wrap ((IntKind.i64.wrap (shrI .u64 (IntKind.u64.wrap (IntKind.i64.wrap (a_0 + b_0))) 1)) + mv_0)) - start_3)))) && (decide ((IntKind.i64.wrap ((IntKind.i64.wrap ((IntKind.i64.wrap (shrI .u64 (IntKind.u64.wrap (IntKind.i64.wrap (a_0 + b_0))) 1)) + mv_0)) - start_3)) < b_0))) = true then bindO (self a_6 (IntKind.i64.wrap (shrI .u64 (IntKind.u64.wrap (IntKind.i64.wrap (a_0 + b_0))) 1)) (IntKind.i64.wrap ((IntKind.i64.wrap ((IntKind.i64.wrap (shrI .u64 (IntKind.u64.wrap (IntKind.i64.wrap (a_0 + b_0))) 1)) + mv_0)) - start_3)) b_0 cmp_0) (fun (v_17 : List GRow) =>
  guardO (List.length v_17 = List.length a_6) (
  some v_17))
  else some a_6)
def f_slices_symMergeCmpFunc_Row_s0_0_J5 (a_0 : Int) (mv_0 : Int) (b_0 : Int) (cmp_0 : GRow → GRow → Option Int) (self : (List GRow) → Int → Int → Int → (GRow → GRow → Option Int) → Option (List GRow)) (start_3 : Int) (a_5 : List GRow) : Option (List GRow) :=
  (if ((decide (a_0 < start_3)) && (decide (start_3 < (IntKind.i64.wrap (shrI .u64 (IntKind.u64.wrap (IntKind.i64.wrap (a_0 + b_0))) 1))))) = true then bindO (self a_5 a_0 start_3 (IntKind.i64.wrap (shrI .u64 (IntKind.u64.wrap (IntKind.i64.wrap (a_0 + b_0))) 1)) cmp_0) (fun (v_18 : List GRow) =>
  guardO (List.length v_18 = List.length a_5) (
  f_slices_symMergeCmpFunc_Row_s0_0_J6 a_0 mv_0 b_0 cmp_0 self start_3 v_18))
  else f_slices_symMergeCmpFunc_Row_s0_0_J6 a_0 mv_0 b_0 cmp_0 self start_3 a_5)
def f_slices_symMergeCmpFunc_Row_s0_0_J4 (data_0 : List GRow) (a_0 : Int) (mv_0 : Int) (b_0 : Int) (cmp_0 : GRow → GRow → Option Int) (self : (List GRow) → Int → Int → Int → (GRow → GRow → Option Int) → Option (List GRow)) (start_3 : Int) : Option (List GRow) :=
  (if ((decide (start_3 < mv_0)) && (decide (mv_0 < (IntKind.i64.wrap ((IntKind.i64.wrap ((IntKind.i64.wrap (shrI .u64 (IntKind.u64.wrap (IntKind.i64.wrap (a_0 + b_0))) 1)) + mv_0)) - start_3))))) = true then bindO (f_slices_rotateCmpFunc_Row_s0_0 data_0 start_3 mv_0 (IntKind.i64.wrap ((IntKind.i64.wrap ((IntKind.i64.wrap (shrI .u64 (IntKind.u64.wrap (IntKind.i64.wrap (a_0 + b_0))) 1)) + mv_0)) - start_3)) cmp_0) (fun (v_19 : List GRow) =>
  guardO (List.length v_19 = List.length data_0) (
  f_slices_symMergeCmpFunc_Row_s0_0_J5 a_0 mv_0 b_0 cmp_0 self start_3 v_19))
  else f_slices_symMergeCmpFunc_Row_s0_0_J5 a_0 mv_0 b_0 cmp_0 self start_3 data_0)
def f_slices_symMergeCmpFunc_Row_s0_0_B7 (data_0 : List GRow) (a_0 : Int) (mv_0 : Int) (b_0 : Int) (cmp_0 : GRow → GRow → Option Int) (self : (List GRow) → Int → Int → Int → (GRow → GRow → Option Int) → Option (List GRow)) (rec_7 : Int × Int → Option (List GRow)) : Int × Int → Option (List GRow) :=
  fun (start_5, rv_4) =>
  (if (decide (start_5 < rv_4)) = true then bindO (idx data_0 (IntKind.i64.wrap ((IntKind.i64.wrap ((IntKind.i64.wrap ((IntKind.i64.wrap (shrI .u64 (IntKind.u64.wrap (IntKind.i64.wrap (a_0 + b_0))) 1)) + mv_0)) - 1)) - (IntKind.i64.wrap (shrI .u64 (IntKind.u64.wrap (IntKind.i64.wrap (start_5 + rv_4))) 1))))) (fun (xv_52 : GRow) =>
  bindO (idx data_0 (IntKind.i64.wrap (shrI .u64 (IntKind.u64.wrap (IntKind.i64.wrap (start_5 + rv_4))) 1))) (fun (xv_53 : GRow) =>
  bindO (cmp_0 xv_52 xv_53) (fun (v_22 : Int) =>
  (if (!(decide (v_22 < 0))) = true then rec_7 (IntKind.i64.wrap ((IntKind.i64.wrap (shrI .u64 (IntKind.u64.wrap (IntKind.i64.wrap (start_5 + rv_4))) 1)) + 1), rv_4)
  else rec_7 (start_5, IntKind.i64.wrap (shrI .u64 (IntKind.u64.wrap (IntKind.i64.wrap (start_5 + rv_4))) 1))))))
  else f_slices_symMergeCmpFunc_Row_s0_0_J4 data_0 a_0 mv_0 b_0 cmp_0 self start_5)
def f_slices_symMergeCmpFunc_Row_s0_0_J3 (data_0 : List GRow) (a_0 : Int) (mv_0 : Int) (b_0 : Int) (cmp_0 : GRow → GRow → Option Int) (self : (List GRow) → Int → Int → Int → (GRow → GRow → Option Int) → Option (List GRow)) (start_0 : Int) (rv_0 : Int) : Option (List GRow) :=
  loopK (f_slices_symMergeCmpFunc_Row_s0_0_B7 data_0 a_0 mv_0 b_0 cmp_0 self) rounds (start_0, rv_0)
def f_slices_symMergeCmpFunc_Row_s0_0_J2 (data_0 : List GRow) (a_0 : Int) (mv_0 : Int) (b_0 : Int) (cmp_0 : GRow → GRow → Option Int) (self : (List GRow) → Int → Int → Int → (GRow → GRow → Option Int) → Option (List GRow)) : Option (List GRow) :=
  (if (decide ((IntKind.i64.wrap (shrI .u64 (IntKind.u64.wrap (IntKind.i64.wrap (a_0 + b_0))) 1)) < mv_0)) = true then f_slices_symMergeCmpFunc_Row_s0_0_J3 data_0 a_0 mv_0 b_0 cmp_0 self (IntKind.i64.wrap ((IntKind.i64.wrap ((IntKind.i64.wrap (shrI .u64 (IntKind.u64.wrap (IntKind.i64.wrap (a_0 + b_0))) 1)) + mv_0)) - b_0)) (IntKind.i64.wrap (shrI .u64 (IntKind.u64.wrap (IntKind.i64.wrap (a_0 + b_0))) 1))
  else f_slices_symMergeCmpFunc_Row_s0_0_J3 data_0 a_0 mv_0 b_0 cmp_0 self a_0 mv_0)
def f_slices_symMergeCmpFunc_Row_s0_0_B9 (i_12 : Int) (rec_9 : Int × (List GRow) → Option (List GRow)) : Int × (List GRow) → Option (List GRow) :=
  fun (k_5, a_8) =>
  (if (decide (i_12 < k_5)) = true then bindO (idx a_8 (IntKind.i64.wrap (k_5 - 1))) (fun (xv_66 : GRow) =>
  bindO (idx a_8 k_5) (fun (xv_67 : GRow) =>
  bindO (idx (List.set a_8 (Int.toNat k_5) xv_66) (IntKind.i64.wrap (k_5 - 1))) (fun (xv_68 : GRow) =>
  rec_9 (IntKind.i64.wrap (k_5 - 1), (List.set (List.set a_8 (Int.toNat k_5) xv_66) (Int.toNat (IntKind.i64.wrap (k_5 - 1))) xv_67)))))
  else some a_8)
def f_slices_symMergeCmpFunc_Row_s0_0_J8 (data_0 : List GRow) (mv_0 : Int) (i_12 : Int) : Option (List GRow) :=
  loopK (f_slices_symMergeCmpFunc_Row_s0_0_B9 i_12) rounds (mv_0, data_0)
def f_slices_symMergeCmpFunc_Row_s0_0_B10 (data_0 : List GRow) (mv_0 : Int) (cmp_0 : GRow → GRow → Option Int) (rec_10 : Int × Int → Option (List GRow)) : Int × Int → Option (List GRow) :=
  fun (i_14, j_11) =>
  (if (decide (i_14 < j_11)) = true then bindO (idx data_0 mv_0) (fun (xv_73 : GRow) =>
  bindO (idx data_0 (IntKind.i64.wrap (shrI .u64 (IntKind.u64.wrap (IntKind.i64.wrap (i_14 + j_11))) 1))) (fun (xv_74 : GRow) =>
  bindO (cmp_0 xv_73 xv_74) (fun (v_28 : Int) =>
  (if (!(decide (v_28 < 0))) = true then rec_10 (IntKind.i64.wrap ((IntKind.i64.wrap (shrI .u64 (IntKind.u64.wrap (IntKind.i64.wrap (i_14 + j_11))) 1)) + 1), j_11)
  else rec_10 (i_14, IntKind.i64.wrap (shrI .u64 (IntKind.u64.wrap (IntKind.i64.wrap (i_14 + j_11))) 1))))))
  else f_slices_symMergeCmpFunc_Row_s0_0_J8 data_0 mv_0 i_14)
def f_slices_symMergeCmpFunc_Row_s0_0_J1 (data_0 : List GRow) (a_0 : Int) (mv_0 : Int) (b_0 : Int) (cmp_0 : GRow → GRow → Option Int) (self : (List GRow) → Int → Int → Int → (GRow → GRow → Option Int) → Option (List GRow)) : Option (List GRow) :=
  (if ((IntKind.i64.wrap (b_0 - mv_0)) == 1) = true then loopK (f_slices_symMergeCmpFunc_Row_s0_0_B10 data_0 mv_0 cmp_0) rounds (a_0, mv_0)
  else f_slices_symMergeCmpFunc_Row_s0_0_J2 data_0 a_0 mv_0 b_0 cmp_0 self)
def f_slices_symMergeCmpFunc_Row_s0_0_B12 (i_17 : Int) (rec_12 : Int × (List GRow) → Option (List GRow)) : Int × (List GRow) → Option (List GRow) :=
  fun (k_7, a_10) =>
  (if (decide (k_7 < (IntKind.i64.wrap (i_17 - 1)))) = true then bindO (idx a_10 (IntKind.i64.wrap (k_7 + 1))) (fun (xv_87 : GRow) =>
  bindO (idx a_10 k_7) (fun (xv_88 : GRow) =>
  bindO (idx (List.set a_10 (Int.toNat k_7) xv_87) (IntKind.i64.wrap (k_7 + 1))) (fun (xv_89 : GRow) =>
  rec_12 (IntKind.i64.wrap (k_7 + 1), (List.set (List.set a_10 (Int.toNat k_7) xv_87) (Int.toNat (IntKind.i64.wrap (k_7 + 1))) xv_88)))))
  else some a_10)
def f_slices_symMergeCmpFunc_Row_s0_0_J11 (data_0 : List GRow) (a_0 : Int) (i_17 : Int) : Option (List GRow) :=
  loopK (f_slices_symMergeCmpFunc_Row_s0_0_B12 i_17) rounds (a_0, data_0)
def f_slices_symMergeCmpFunc_Row_s0_0_B13 (data_0 : List GRow) (a_0 : Int) (cmp_0 : GRow → GRow → Option Int) (rec_13 : Int × Int → Option (List GRow)) : Int × Int → Option (List GRow) :=
  fun (i_19, j_15) =>
  (if (decide (i_19 < j_15)) = true then bindO (idx data_0 (IntKind.i64.wrap (shrI .u64 (IntKind.u64.wrap (IntKind.i64.wrap (i_19 + j_15))) 1))) (fun (xv_94 : GRow) =>
  bindO (idx data_0 a_0) (fun (xv_95 : GRow) =>
  bindO (cmp_0 xv_94 xv_95) (fun (v_34 : Int) =>
  (if (decide (v_34 < 0)) = true then rec_13 (IntKind.i64.wrap ((IntKind.i64.wrap (shrI .u64 (IntKind.u64.wrap (IntKind.i64.wrap (i_19 + j_15))) 1)) + 1), j_15)
  else rec_13 (i_19, IntKind.i64.wrap (shrI .u64 (IntKind.u64.wrap (IntKind.i64.wrap (i_19 + j_15))) 1))))))
  else f_slices_symMergeCmpFunc_Row_s0_0_J11 data_0 a_0 i_19)
def f_slices_symMergeCmpFunc_Row_s0_0_R (self : (List GRow) → Int → Int → Int → (GRow → GRow → Option Int) → Option (List GRow)) (data_0 : List GRow) (a_0 : Int) (mv_0 : Int) (b_0 : Int) (cmp_0 : GRow → GRow → Option Int) : Option (List GRow) :=
  (if ((IntKind.i64.wrap (mv_0 - a_0)) == 1) = true then loopK (f_slices_symMergeCmpFunc_Row_s0_0_B13 data_0 a_0 cmp_0) rounds (mv_0, b_0)
  else f_slices_symMergeCmpFunc_Row_s0_0_J1 data_0 a_0 mv_0 b_0 cmp_0 self)
def f_slices_symMergeCmpFunc_Row_s0_0_D : Nat → (List GRow) → Int → Int → Int → (GRow → GRow → Option Int) → Option (List GRow)
  | 0 => fun _ _ _ _ _ => none
  | n + 1 => f_slices_symMergeCmpFunc_Row_s0_0_R (f_slices_symMergeCmpFunc_Row_s0_0_D n)
def f_slices_symMergeCmpFunc_Row_s0_0 (data_0 : List GRow) (a_0 : Int) (mv_0 : Int) (b_0 : Int) (cmp_0 : GRow → GRow → Option Int) : Option (List GRow) := f_slices_symMergeCmpFunc_Row_s0_0_D rounds data_0 a_0 mv_0 b_0 cmp_0
theorem f_slices_symMergeCmpFunc_Row_s0_0_R_det (self : (List GRow) → Int → Int → Int → (GRow → GRow → Option Int) → Option (List GRow)) (Hself : ∀ (data_0 : List GRow) (a_0 : Int) (mv_0 : Int) (b_0 : Int) (cmp_0 : GRow → GRow → Option Int) (g_cmp_0 : FuncId) (c_cmp_0 : List AV) (F_cmp_0 : idFreeL c_cmp_0 = true) (E_cmp_0 : entB Try.prog g_cmp_0 = true) (H_cmp_0 : ∀ (x0 : GRow) (x1 : GRow) (r : Int), cmp_0 x0 x1 = some r → PureS Try.prog g_cmp_0 ([.agg [.v (.int .i64 x0.K), .v (.int .i64 x0.Many), .v (.int .i64 x0.Least), .v (.int .i64 x0.Top), .v (.int .i64 x0.Sum), .v (.bool x0.Sure)], .agg [.v (.int .i64 x1.K), .v (.int .i64 x1.Many), .v (.int .i64 x1.Least), .v (.int .i64 x1.Top), .v (.int .i64 x1.Sum), .v (.bool x1.Sure)]] ++ c_cmp_0) 0 (.v (.int .i64 r))) (r : List GRow), self data_0 a_0 mv_0 b_0 cmp_0 = some r → DetS Try.prog 119 [.osl 0 6 (0) (List.length data_0), .v (.int .i64 a_0), .v (.int .i64 mv_0), .v (.int .i64 b_0), .clo g_cmp_0 c_cmp_0] [(0, .arr 6 (enc data_0))] 1 (.tup []) [(0, .arr 6 (enc r))] 1) (data_0 : List GRow) (a_0 : Int) (mv_0 : Int) (b_0 : Int) (cmp_0 : GRow → GRow → Option Int) (g_cmp_0 : FuncId) (c_cmp_0 : List AV) (F_cmp_0 : idFreeL c_cmp_0 = true) (E_cmp_0 : entB Try.prog g_cmp_0 = true) (H_cmp_0 : ∀ (x0 : GRow) (x1 : GRow) (r : Int), cmp_0 x0 x1 = some r → PureS Try.prog g_cmp_0 ([.agg [.v (.int .i64 x0.K), .v (.int .i64 x0.Many), .v (.int .i64 x0.Least), .v (.int .i64 x0.Top), .v (.int .i64 x0.Sum), .v (.bool x0.Sure)], .agg [.v (.int .i64 x1.K), .v (.int .i64 x1.Many), .v (.int .i64 x1.Least), .v (.int .i64 x1.Top), .v (.int .i64 x1.Sum), .v (.bool x1.Sure)]] ++ c_cmp_0) 0 (.v (.int .i64 r))) (r : List GRow) (h : f_slices_symMergeCmpFunc_Row_s0_0_R self data_0 a_0 mv_0 b_0 cmp_0 = some r) : DetS Try.prog 119 [.osl 0 6 (0) (List.length data_0), .v (.int .i64 a_0), .v (.int .i64 mv_0), .v (.int .i64 b_0), .clo g_cmp_0 c_cmp_0] [(0, .arr 6 (enc data_0))] 1 (.tup []) [(0, .arr 6 (enc r))] 1 := by
  unfold DetS
  refine Spec.of_vc Try.func119 rfl (by kernel_rfl) (by kernel_rfl) ?_
  rw [f_slices_symMergeCmpFunc_Row_s0_0_R] at h
  refine vc_join (by kernel_rfl) ?_
  refine seq_cut_gen (ι := Unit) (fun (_ : Unit) => (⟨1, [(0, .osl 0 6 (0) (List.length data_0)), (1, .v (.int .i64 a_0)), (2, .v (.int .i64 mv_0)), (3, .v (.int .i64 b_0)), (4, .clo g_cmp_0 c_cmp_0)], [(0, .arr 6 (enc data_0))], 1, 220⟩ : St)) (fun (_ : Unit) => f_slices_symMergeCmpFunc_Row_s0_0_J1 data_0 a_0 mv_0 b_0 cmp_0 self = some r) ?_ ?_
  ·
    intro QQ43 hQ43
    refine vc_seq_gen (by kernel_rfl) ?_
    intro QQ44 hQ44
    simp only [go_sem, Try.ntmps119, Try.results119]
    refine seqQ_normal hQ44 ?_
    refine vc_cond_of (b := ((IntKind.i64.wrap (mv_0 - a_0)) == 1)) (by (simp only [go_sem]; done)) (fun hb_67 => ?_) (fun hb_67 => ?_)
    ·
      replace h := if_t h hb_67
      simp only [decide_eq_true_eq, decide_eq_false_iff_not, Bool.not_eq_true', Bool.not_eq_false', beq_iff_eq, beq_eq_false_iff_ne, ne_eq, Bool.and_eq_true, Bool.or_eq_true, Int.not_lt, Int.not_le] at hb_67
      refine vc_seq_gen (by kernel_rfl) ?_
      intro QQ45 hQ45
      simp only [go_sem, Try.ntmps119, Try.results119]
      refine seqQ_normal hQ45 ?_
      refine vc_seq_gen (by kernel_rfl) ?_
      intro QQ46 hQ46
      simp only [go_sem, Try.ntmps119, Try.results119]
      refine seqQ_normal hQ46 ?_
      refine vc_join (by kernel_rfl) ?_
      refine seq_cut_gen (ι := Int) (fun (i_17 : Int) => (⟨1, [(0, .osl 0 6 (0) (List.length data_0)), (1, .v (.int .i64 a_0)), (10, .v (.int .i64 i_17))], [(0, .arr 6 (enc data_0))], 1, 220⟩ : St)) (fun (i_17 : Int) => f_slices_symMergeCmpFunc_Row_s0_0_J11 data_0 a_0 i_17 = some r) ?_ ?_
      ·
        intro QQ55 hQ55
        refine vc_block_gen ?_
        intro QQ56 hQ56
        refine vc_loop_of ?_
        refine loop_gen (ι := Nat × Int × Int) (fun ((_, i_19, j_15) : Nat × Int × Int) => (⟨1, [(0, .osl 0 6 (0) (List.length data_0)), (1, .v (.int .i64 a_0)), (4, .clo g_cmp_0 c_cmp_0), (10, .v (.int .i64 i_19)), (11, .v (.int .i64 j_15))], [(0, .arr 6 (enc data_0))], 1, 220⟩ : St)) (fun ((n_, i_19, j_15) : Nat × Int × Int) => loopK (f_slices_symMergeCmpFunc_Row_s0_0_B13 data_0 a_0 cmp_0) n_ (i_19, j_15) = some r) (fun p => p.1) (rounds, mv_0, b_0) [] ?_ h ?_
        · simp only [go_sem, Le, AvLeL_free _ F_cmp_0]
        · rintro ⟨n_13, i_19, j_15⟩ h QQ57 hQ57
          dsimp only at h
          replace h := loopK_some h
          obtain ⟨m_13, rfl, h⟩ := h
          rw [f_slices_symMergeCmpFunc_Row_s0_0_B13] at h
          refine vc_seq_gen (by kernel_rfl) ?_
          intro QQ58 hQ58
          refine vc_seq_gen (by kernel_rfl) ?_
          intro QQ59 hQ59
          simp only [go_sem, Try.ntmps119, Try.results119]
          refine seqQ_normal hQ59 ?_
          refine vc_cond_of (b := (decide (i_19 < j_15))) (by (simp only [go_sem]; done)) (fun hb_81 => ?_) (fun hb_81 => ?_)
          ·
            replace h := if_t h hb_81
            simp only [decide_eq_true_eq, decide_eq_false_iff_not, Bool.not_eq_true', Bool.not_eq_false', beq_iff_eq, beq_eq_false_iff_ne, ne_eq, Bool.and_eq_true, Bool.or_eq_true, Int.not_lt, Int.not_le] at hb_81
            refine vc_skip_of ?_
            refine seqQ_normal hQ58 ?_
            refine vc_block_gen ?_
            intro QQ60 hQ60
            refine vc_seq_gen (by kernel_rfl) ?_
            intro QQ61 hQ61
            simp only [go_sem, Try.ntmps119, Try.results119]
            refine seqQ_normal hQ61 ?_
            refine vc_seq_gen (by kernel_rfl) ?_
            intro QQ62 hQ62
            refine vc_draw ?_
            refine drawM_tail 9 [0, 0, 0, 6, 14, 0, 0, 96, 224, 511, 1023] mixed (by kernel_rfl) (of_decide_eq_true (by kernel_rfl)) (by kernel_rfl) ?_
            obtain ⟨xv_94, exv_94, h⟩ := bindO_some h
            obtain ⟨fxv_94a, fxv_94b, fxv_94c⟩ := idx_spec exv_94
            obtain ⟨xv_95, exv_95, h⟩ := bindO_some h
            obtain ⟨fxv_95a, fxv_95b, fxv_95c⟩ := idx_spec exv_95
            obtain ⟨v_34, ev_34, h⟩ := bindO_some h
            simp only [go_sem, Try.ntmps119, Try.results119, fxv_94a, fxv_94b, fxv_94c, fxv_95a, fxv_95b, fxv_95c, E_cmp_0]
            refine And.intro (by omega) ?_
            refine And.intro (by omega) ?_
            refine call0 (H_cmp_0 xv_94 xv_95 v_34 ev_34) (by rfl) (by simp [idFreeL, idFree, F_cmp_0]) ?_
            simp only [go_sem, Try.ntmps119, Try.results119]
            refine seqQ_normal hQ62 ?_
            refine vc_cond_of (b := (decide (v_34 < 0))) (by (simp only [go_sem]; done)) (fun hb_82 => ?_) (fun hb_82 => ?_)
            ·
              replace h := if_t h hb_82
              simp only [decide_eq_true_eq, decide_eq_false_iff_not, Bool.not_eq_true', Bool.not_eq_false', beq_iff_eq, beq_eq_false_iff_ne, ne_eq, Bool.and_eq_true, Bool.or_eq_true, Int.not_lt, Int.not_le] at hb_82
              simp only [go_sem, Try.ntmps119, Try.results119]
              refine blockQ_normal hQ60 ?_
              refine thenQ_normal hQ57 ?_
              refine ⟨(m_13, IntKind.i64.wrap ((IntKind.i64.wrap (shrI .u64 (IntKind.u64.wrap (IntKind.i64.wrap (i_19 + j_15))) 1)) + 1), j_15), [], ?_, h, Nat.lt_succ_self _⟩
              simp only [go_sem, Le, AvLeL_free _ F_cmp_0]
            ·
              replace h := if_f h hb_82
              simp only [decide_eq_true_eq, decide_eq_false_iff_not, Bool.not_eq_true', Bool.not_eq_false', beq_iff_eq, beq_eq_false_iff_ne, ne_eq, Bool.and_eq_true, Bool.or_eq_true, Int.not_lt, Int.not_le] at hb_82
              simp only [go_sem, Try.ntmps119, Try.results119]
              refine blockQ_normal hQ60 ?_
              refine thenQ_normal hQ57 ?_
              refine ⟨(m_13, i_19, IntKind.i64.wrap (shrI .u64 (IntKind.u64.wrap (IntKind.i64.wrap (i_19 + j_15))) 1)), [], ?_, h, Nat.lt_succ_self _⟩
              simp only [go_sem, Le, AvLeL_free _ F_cmp_0]
          ·
            replace h := if_f h hb_81
            simp only [decide_eq_true_eq, decide_eq_false_iff_not, Bool.not_eq_true', Bool.not_eq_false', beq_iff_eq, beq_eq_false_iff_ne, ne_eq, Bool.and_eq_true, Bool.or_eq_true, Int.not_lt, Int.not_le] at hb_81
            refine vc_exit_of ?_
            refine seqQ_exit hQ58 ?_
            refine thenQ_exit hQ57 ?_
            refine blockQ_exit hQ56 ?_
            refine thenQ_normal hQ55 ?_
            refine ⟨i_19, [], ?_, h⟩
            simp only [go_sem, Le, AvLeL_free _ F_cmp_0]
      · rintro i_17 h
        try dsimp only at h
        rw [f_slices_symMergeCmpFunc_Row_s0_0_J11] at h
        refine vc_join (by kernel_rfl) ?_
        refine seq_go_gen ?_
        intro QQ47 hQ47
        refine vc_seq_gen (by kernel_rfl) ?_
        intro QQ48 hQ48
        simp only [go_sem, Try.ntmps119, Try.results119]
        refine seqQ_normal hQ48 ?_
        refine vc_block_gen ?_
        intro QQ49 hQ49
        refine vc_loop_of ?_
        refine loop_gen (ι := Nat × Int × (List GRow)) (fun ((_, k_7, a_10) : Nat × Int × (List GRow)) => (⟨1, [(0, .osl 0 6 (0) (List.length a_10)), (10, .v (.int .i64 i_17)), (13, .v (.int .i64 k_7))], [(0, .arr 6 (enc a_10))], 1, 220⟩ : St)) (fun ((n_, k_7, a_10) : Nat × Int × (List GRow)) => loopK (f_slices_symMergeCmpFunc_Row_s0_0_B12 i_17) n_ (k_7, a_10) = some r) (fun p => p.1) (rounds, a_0, data_0) [] ?_ h ?_
        · simp only [go_sem, Le, AvLeL_free _ F_cmp_0]
        · rintro ⟨n_12, k_7, a_10⟩ h QQ50 hQ50
          dsimp only at h
          replace h := loopK_some h
          obtain ⟨m_12, rfl, h⟩ := h
          rw [f_slices_symMergeCmpFunc_Row_s0_0_B12] at h
          refine vc_seq_gen (by kernel_rfl) ?_
          intro QQ51 hQ51
          refine vc_seq_gen (by kernel_rfl) ?_
          intro QQ52 hQ52
          simp only [go_sem, Try.ntmps119, Try.results119]
          refine seqQ_normal hQ52 ?_
          refine vc_cond_of (b := (decide (k_7 < (IntKind.i64.wrap (i_17 - 1))))) (by (simp only [go_sem]; done)) (fun hb_76 => ?_) (fun hb_76 => ?_)
          ·
            replace h := if_t h hb_76
            simp only [decide_eq_true_eq, decide_eq_false_iff_not, Bool.not_eq_true', Bool.not_eq_false', beq_iff_eq, beq_eq_false_iff_ne, ne_eq, Bool.and_eq_true, Bool.or_eq_true, Int.not_lt, Int.not_le] at hb_76
            refine vc_skip_of ?_
            refine seqQ_normal hQ51 ?_
            refine vc_seq_gen (by kernel_rfl) ?_
            intro QQ53 hQ53
            refine vc_block_gen ?_
            intro QQ54 hQ54
            refine vc_draw ?_
            refine drawV_all 16 0 [0, 0, 0, 0, 8, 0, 0, 64, 224, 480, 0, 0, 3072, 7168, 16355, 32739, 65535, 131071] [0] [2, 3, 4] [15] [] mixed (by kernel_rfl) (of_decide_eq_true (by kernel_rfl)) (by kernel_rfl) (by kernel_rfl) (by rfl) ?_
            obtain ⟨xv_87, exv_87, h⟩ := bindO_some h
            obtain ⟨fxv_87a, fxv_87b, fxv_87c⟩ := idx_spec exv_87
            obtain ⟨xv_88, exv_88, h⟩ := bindO_some h
            obtain ⟨fxv_88a, fxv_88b, fxv_88c⟩ := idx_spec exv_88
            have rf_22 : (enc a_10).set (Int.toNat k_7) [.v (.int .i64 xv_87.K), .v (.int .i64 xv_87.Many), .v (.int .i64 xv_87.Least), .v (.int .i64 xv_87.Top), .v (.int .i64 xv_87.Sum), .v (.bool xv_87.Sure)] = enc (List.set a_10 (Int.toNat k_7) xv_87) := by exact enc_set _ _ _
            obtain ⟨xv_89, exv_89, h⟩ := bindO_some h
            obtain ⟨fxv_89a, fxv_89b, fxv_89c⟩ := idx_spec exv_89
            have rf_23 : (enc (List.set a_10 (Int.toNat k_7) xv_87)).set (Int.toNat (IntKind.i64.wrap (k_7 + 1))) [.v (.int .i64 xv_88.K), .v (.int .i64 xv_88.Many), .v (.int .i64 xv_88.Least), .v (.int .i64 xv_88.Top), .v (.int .i64 xv_88.Sum), .v (.bool xv_88.Sure)] = enc (List.set (List.set a_10 (Int.toNat k_7) xv_87) (Int.toNat (IntKind.i64.wrap (k_7 + 1))) xv_88) := by exact enc_set _ _ _
            simp only [go_sem, Try.ntmps119, Try.results119, fxv_87a, fxv_87b, fxv_87c, fxv_88a, fxv_88b, fxv_88c, rf_22, fxv_89a, fxv_89b, fxv_89c, rf_23]
            refine And.intro (by omega) ?_
            refine And.intro (by omega) ?_
            refine And.intro (by omega) ?_
            refine And.intro (by omega) ?_
            refine blockQ_normal hQ54 ?_
            refine seqQ_normal hQ53 ?_
            simp only [go_sem, Try.ntmps119, Try.results119]
            refine thenQ_normal hQ50 ?_
            refine ⟨(m_12, IntKind.i64.wrap (k_7 + 1), (List.set (List.set a_10 (Int.toNat k_7) xv_87) (Int.toNat (IntKind.i64.wrap (k_7 + 1))) xv_88)), [], ?_, h, Nat.lt_succ_self _⟩
            simp only [go_sem, Le, AvLeL_free _ F_cmp_0]
          ·
            replace h := if_f h hb_76
            simp only [decide_eq_true_eq, decide_eq_false_iff_not, Bool.not_eq_true', Bool.not_eq_false', beq_iff_eq, beq_eq_false_iff_ne, ne_eq, Bool.and_eq_true, Bool.or_eq_true, Int.not_lt, Int.not_le] at hb_76
            refine vc_exit_of ?_
            refine seqQ_exit hQ51 ?_
            refine thenQ_exit hQ50 ?_
            refine blockQ_exit hQ49 ?_
            refine seqQ_normal hQ47 ?_
            refine vc_ret_of ?_
            refine thenQ_ret hQ43 ?_
            simp only [go_sem, Try.ntmps119, Try.results119]
            obtain rfl := Option.some.inj h
            refine retW_det [] ?_
            simp only [go_sem, Le, AvLeL_free _ F_cmp_0]
    ·
      replace h := if_f h hb_67
      simp only [decide_eq_true_eq, decide_eq_false_iff_not, Bool.not_eq_true', Bool.not_eq_false', beq_iff_eq, beq_eq_false_iff_ne, ne_eq, Bool.and_eq_true, Bool.or_eq_true, Int.not_lt, Int.not_le] at hb_67
      refine vc_skip_of ?_
      refine thenQ_normal hQ43 ?_
      refine ⟨(), [], ?_, h⟩
      simp only [go_sem, Le, AvLeL_free _ F_cmp_0]
  · rintro ⟨⟩ h
    try dsimp only at h
    rw [f_slices_symMergeCmpFunc_Row_s0_0_J1] at h
    refine vc_join (by kernel_rfl) ?_
    refine seq_cut_gen (ι := Unit) (fun (_ : Unit) => (⟨1, [(0, .osl 0 6 (0) (List.length data_0)), (1, .v (.int .i64 a_0)), (2, .v (.int .i64 mv_0)), (3, .v (.int .i64 b_0)), (4, .clo g_cmp_0 c_cmp_0)], [(0, .arr 6 (enc data_0))], 1, 220⟩ : St)) (fun (_ : Unit) => f_slices_symMergeCmpFunc_Row_s0_0_J2 data_0 a_0 mv_0 b_0 cmp_0 self = some r) ?_ ?_
    ·
      intro QQ23 hQ23
      refine vc_seq_gen (by kernel_rfl) ?_
      intro QQ24 hQ24
      simp only [go_sem, Try.ntmps119, Try.results119]
      refine seqQ_normal hQ24 ?_
      refine vc_cond_of (b := ((IntKind.i64.wrap (b_0 - mv_0)) == 1)) (by (simp only [go_sem]; done)) (fun hb_51 => ?_) (fun hb_51 => ?_)
      ·
        replace h := if_t h hb_51
        simp only [decide_eq_true_eq, decide_eq_false_iff_not, Bool.not_eq_true', Bool.not_eq_false', beq_iff_eq, beq_eq_false_iff_ne, ne_eq, Bool.and_eq_true, Bool.or_eq_true, Int.not_lt, Int.not_le] at hb_51
        refine vc_seq_gen (by kernel_rfl) ?_
        intro QQ25 hQ25
        simp only [go_sem, Try.ntmps119, Try.results119]
        refine seqQ_normal hQ25 ?_
        refine vc_seq_gen (by kernel_rfl) ?_
        intro QQ26 hQ26
        simp only [go_sem, Try.ntmps119, Try.results119]
        refine seqQ_normal hQ26 ?_
        refine vc_join (by kernel_rfl) ?_
        refine seq_cut_gen (ι := Int) (fun (i_12 : Int) => (⟨1, [(0, .osl 0 6 (0) (List.length data_0)), (2, .v (.int .i64 mv_0)), (14, .v (.int .i64 i_12))], [(0, .arr 6 (enc data_0))], 1, 220⟩ : St)) (fun (i_12 : Int) => f_slices_symMergeCmpFunc_Row_s0_0_J8 data_0 mv_0 i_12 = some r) ?_ ?_
        ·
          intro QQ35 hQ35
          refine vc_block_gen ?_
          intro QQ36 hQ36
          refine vc_loop_of ?_
          refine loop_gen (ι := Nat × Int × Int) (fun ((_, i_14, j_11) : Nat × Int × Int) => (⟨1, [(0, .osl 0 6 (0) (List.length data_0)), (2, .v (.int .i64 mv_0)), (4, .clo g_cmp_0 c_cmp_0), (14, .v (.int .i64 i_14)), (15, .v (.int .i64 j_11))], [(0, .arr 6 (enc data_0))], 1, 220⟩ : St)) (fun ((n_, i_14, j_11) : Nat × Int × Int) => loopK (f_slices_symMergeCmpFunc_Row_s0_0_B10 data_0 mv_0 cmp_0) n_ (i_14, j_11) = some r) (fun p => p.1) (rounds, a_0, mv_0) [] ?_ h ?_
          · simp only [go_sem, Le, AvLeL_free _ F_cmp_0]
          · rintro ⟨n_10, i_14, j_11⟩ h QQ37 hQ37
            dsimp only at h
            replace h := loopK_some h
            obtain ⟨m_10, rfl, h⟩ := h
            rw [f_slices_symMergeCmpFunc_Row_s0_0_B10] at h
            refine vc_seq_gen (by kernel_rfl) ?_
            intro QQ38 hQ38
            refine vc_seq_gen (by kernel_rfl) ?_
            intro QQ39 hQ39
            simp only [go_sem, Try.ntmps119, Try.results119]
            refine seqQ_normal hQ39 ?_
            refine vc_cond_of (b := (decide (i_14 < j_11))) (by (simp only [go_sem]; done)) (fun hb_65 => ?_) (fun hb_65 => ?_)
            ·
              replace h := if_t h hb_65
              simp only [decide_eq_true_eq, decide_eq_false_iff_not, Bool.not_eq_true', Bool.not_eq_false', beq_iff_eq, beq_eq_false_iff_ne, ne_eq, Bool.and_eq_true, Bool.or_eq_true, Int.not_lt, Int.not_le] at hb_65
              refine vc_skip_of ?_
              refine seqQ_normal hQ38 ?_
              refine vc_block_gen ?_
              intro QQ40 hQ40
              refine vc_seq_gen (by kernel_rfl) ?_
              intro QQ41 hQ41
              simp only [go_sem, Try.ntmps119, Try.results119]
              refine seqQ_normal hQ41 ?_
              refine vc_seq_gen (by kernel_rfl) ?_
              intro QQ42 hQ42
              refine vc_draw ?_
              refine drawM_tail 9 [0, 0, 0, 6, 14, 0, 0, 96, 224, 511, 1023, 2047] mixed (by kernel_rfl) (of_decide_eq_true (by kernel_rfl)) (by kernel_rfl) ?_
              obtain ⟨xv_73, exv_73, h⟩ := bindO_some h
              obtain ⟨fxv_73a, fxv_73b, fxv_73c⟩ := idx_spec exv_73
              obtain ⟨xv_74, exv_74, h⟩ := bindO_some h
              obtain ⟨fxv_74a, fxv_74b, fxv_74c⟩ := idx_spec exv_74
              obtain ⟨v_28, ev_28, h⟩ := bindO_some h
              simp only [go_sem, Try.ntmps119, Try.results119, fxv_73a, fxv_73b, fxv_73c, fxv_74a, fxv_74b, fxv_74c, E_cmp_0]
              refine And.intro (by omega) ?_
              refine And.intro (by omega) ?_
              refine call0 (H_cmp_0 xv_73 xv_74 v_28 ev_28) (by rfl) (by simp [idFreeL, idFree, F_cmp_0]) ?_
              simp only [go_sem, Try.ntmps119, Try.results119]
              refine seqQ_normal hQ42 ?_
              refine vc_cond_of (b := (!(decide (v_28 < 0)))) (by (simp only [go_sem]; done)) (fun hb_66 => ?_) (fun hb_66 => ?_)
              ·
                replace h := if_t h hb_66
                simp only [decide_eq_true_eq, decide_eq_false_iff_not, Bool.not_eq_true', Bool.not_eq_false', beq_iff_eq, beq_eq_false_iff_ne, ne_eq, Bool.and_eq_true, Bool.or_eq_true, Int.not_lt, Int.not_le] at hb_66
                simp only [go_sem, Try.ntmps119, Try.results119]
                refine blockQ_normal hQ40 ?_
                refine thenQ_normal hQ37 ?_
                refine ⟨(m_10, IntKind.i64.wrap ((IntKind.i64.wrap (shrI .u64 (IntKind.u64.wrap (IntKind.i64.wrap (i_14 + j_11))) 1)) + 1), j_11), [], ?_, h, Nat.lt_succ_self _⟩
                simp only [go_sem, Le, AvLeL_free _ F_cmp_0]
              ·
                replace h := if_f h hb_66
                simp only [decide_eq_true_eq, decide_eq_false_iff_not, Bool.not_eq_true', Bool.not_eq_false', beq_iff_eq, beq_eq_false_iff_ne, ne_eq, Bool.and_eq_true, Bool.or_eq_true, Int.not_lt, Int.not_le] at hb_66
                simp only [go_sem, Try.ntmps119, Try.results119]
                refine blockQ_normal hQ40 ?_
                refine thenQ_normal hQ37 ?_
                refine ⟨(m_10, i_14, IntKind.i64.wrap (shrI .u64 (IntKind.u64.wrap (IntKind.i64.wrap (i_14 + j_11))) 1)), [], ?_, h, Nat.lt_succ_self _⟩
                simp only [go_sem, Le, AvLeL_free _ F_cmp_0]
            ·
              replace h := if_f h hb_65
              simp only [decide_eq_true_eq, decide_eq_false_iff_not, Bool.not_eq_true', Bool.not_eq_false', beq_iff_eq, beq_eq_false_iff_ne, ne_eq, Bool.and_eq_true, Bool.or_eq_true, Int.not_lt, Int.not_le] at hb_65
              refine vc_exit_of ?_
              refine seqQ_exit hQ38 ?_
              refine thenQ_exit hQ37 ?_
              refine blockQ_exit hQ36 ?_
              refine thenQ_normal hQ35 ?_
              refine ⟨i_14, [], ?_, h⟩
              simp only [go_sem, Le, AvLeL_free _ F_cmp_0]
        · rintro i_12 h
          try dsimp only at h
          rw [f_slices_symMergeCmpFunc_Row_s0_0_J8] at h
          refine vc_join (by kernel_rfl) ?_
          refine seq_go_gen ?_
          intro QQ27 hQ27
          refine vc_seq_gen (by kernel_rfl) ?_
          intro QQ28 hQ28
          simp only [go_sem, Try.ntmps119, Try.results119]
          refine seqQ_normal hQ28 ?_
          refine vc_block_gen ?_
          intro QQ29 hQ29
          refine vc_loop_of ?_
          refine loop_gen (ι := Nat × Int × (List GRow)) (fun ((_, k_5, a_8) : Nat × Int × (List GRow)) => (⟨1, [(0, .osl 0 6 (0) (List.length a_8)), (14, .v (.int .i64 i_12)), (17, .v (.int .i64 k_5))], [(0, .arr 6 (enc a_8))], 1, 220⟩ : St)) (fun ((n_, k_5, a_8) : Nat × Int × (List GRow)) => loopK (f_slices_symMergeCmpFunc_Row_s0_0_B9 i_12) n_ (k_5, a_8) = some r) (fun p => p.1) (rounds, mv_0, data_0) [] ?_ h ?_
          · simp only [go_sem, Le, AvLeL_free _ F_cmp_0]
          · rintro ⟨n_9, k_5, a_8⟩ h QQ30 hQ30
            dsimp only at h
            replace h := loopK_some h
            obtain ⟨m_9, rfl, h⟩ := h
            rw [f_slices_symMergeCmpFunc_Row_s0_0_B9] at h
            refine vc_seq_gen (by kernel_rfl) ?_
            intro QQ31 hQ31
            refine vc_seq_gen (by kernel_rfl) ?_
            intro QQ32 hQ32
            simp only [go_sem, Try.ntmps119, Try.results119]
            refine seqQ_normal hQ32 ?_
            refine vc_cond_of (b := (decide (i_12 < k_5))) (by (simp only [go_sem]; done)) (fun hb_60 => ?_) (fun hb_60 => ?_)
            ·
              replace h := if_t h hb_60
              simp only [decide_eq_true_eq, decide_eq_false_iff_not, Bool.not_eq_true', Bool.not_eq_false', beq_iff_eq, beq_eq_false_iff_ne, ne_eq, Bool.and_eq_true, Bool.or_eq_true, Int.not_lt, Int.not_le] at hb_60
              refine vc_skip_of ?_
              refine seqQ_normal hQ31 ?_
              refine vc_seq_gen (by kernel_rfl) ?_
              intro QQ33 hQ33
              refine vc_block_gen ?_
              intro QQ34 hQ34
              refine vc_draw ?_
              refine drawV_all 16 0 [0, 0, 0, 0, 8, 0, 0, 64, 224, 480, 0, 0, 3072, 7168, 16355, 32739, 65535, 131071] [0] [2, 3, 4] [15] [] mixed (by kernel_rfl) (of_decide_eq_true (by kernel_rfl)) (by kernel_rfl) (by kernel_rfl) (by rfl) ?_
              obtain ⟨xv_66, exv_66, h⟩ := bindO_some h
              obtain ⟨fxv_66a, fxv_66b, fxv_66c⟩ := idx_spec exv_66
              obtain ⟨xv_67, exv_67, h⟩ := bindO_some h
              obtain ⟨fxv_67a, fxv_67b, fxv_67c⟩ := idx_spec exv_67
              have rf_16 : (enc a_8).set (Int.toNat k_5) [.v (.int .i64 xv_66.K), .v (.int .i64 xv_66.Many), .v (.int .i64 xv_66.Least), .v (.int .i64 xv_66.Top), .v (.int .i64 xv_66.Sum), .v (.bool xv_66.Sure)] = enc (List.set a_8 (Int.toNat k_5) xv_66) := by exact enc_set _ _ _
              obtain ⟨xv_68, exv_68, h⟩ := bindO_some h
              obtain ⟨fxv_68a, fxv_68b, fxv_68c⟩ := idx_spec exv_68
              have rf_17 : (enc (List.set a_8 (Int.toNat k_5) xv_66)).set (Int.toNat (IntKind.i64.wrap (k_5 - 1))) [.v (.int .i64 xv_67.K), .v (.int .i64 xv_67.Many), .v (.int .i64 xv_67.Least), .v (.int .i64 xv_67.Top), .v (.int .i64 xv_67.Sum), .v (.bool xv_67.Sure)] = enc (List.set (List.set a_8 (Int.toNat k_5) xv_66) (Int.toNat (IntKind.i64.wrap (k_5 - 1))) xv_67) := by exact enc_set _ _ _
              simp only [go_sem, Try.ntmps119, Try.results119, fxv_66a, fxv_66b, fxv_66c, fxv_67a, fxv_67b, fxv_67c, rf_16, fxv_68a, fxv_68b, fxv_68c, rf_17]
              refine And.intro (by omega) ?_
              refine And.intro (by omega) ?_
              refine And.intro (by omega) ?_
              refine And.intro (by omega) ?_
              refine blockQ_normal hQ34 ?_
              refine seqQ_normal hQ33 ?_
              simp only [go_sem, Try.ntmps119, Try.results119]
              refine thenQ_normal hQ30 ?_
              refine ⟨(m_9, IntKind.i64.wrap (k_5 - 1), (List.set (List.set a_8 (Int.toNat k_5) xv_66) (Int.toNat (IntKind.i64.wrap (k_5 - 1))) xv_67)), [], ?_, h, Nat.lt_succ_self _⟩
              simp only [go_sem, Le, AvLeL_free _ F_cmp_0]
            ·
              replace h := if_f h hb_60
              simp only [decide_eq_true_eq, decide_eq_false_iff_not, Bool.not_eq_true', Bool.not_eq_false', beq_iff_eq, beq_eq_false_iff_ne, ne_eq, Bool.and_eq_true, Bool.or_eq_true, Int.not_lt, Int.not_le] at hb_60
              refine vc_exit_of ?_
              refine seqQ_exit hQ31 ?_
              refine thenQ_exit hQ30 ?_
              refine blockQ_exit hQ29 ?_
              refine seqQ_normal hQ27 ?_
              refine vc_ret_of ?_
              refine thenQ_ret hQ23 ?_
              simp only [go_sem, Try.ntmps119, Try.results119]
              obtain rfl := Option.some.inj h
              refine retW_det [] ?_
              simp only [go_sem, Le, AvLeL_free _ F_cmp_0]
      ·
        replace h := if_f h hb_51
        simp only [decide_eq_true_eq, decide_eq_false_iff_not, Bool.not_eq_true', Bool.not_eq_false', beq_iff_eq, beq_eq_false_iff_ne, ne_eq, Bool.and_eq_true, Bool.or_eq_true, Int.not_lt, Int.not_le] at hb_51
        refine vc_skip_of ?_
        refine thenQ_normal hQ23 ?_
        refine ⟨(), [], ?_, h⟩
        simp only [go_sem, Le, AvLeL_free _ F_cmp_0]
    · rintro ⟨⟩ h
      try dsimp only at h
      rw [f_slices_symMergeCmpFunc_Row_s0_0_J2] at h
      refine vc_seq_gen (by kernel_rfl) ?_
      intro QQ1 hQ1
      simp only [go_sem, Try.ntmps119, Try.results119]
      refine seqQ_normal hQ1 ?_
      refine vc_seq_gen (by kernel_rfl) ?_
      intro QQ2 hQ2
      simp only [go_sem, Try.ntmps119, Try.results119]
      refine seqQ_normal hQ2 ?_
      refine vc_seq_gen (by kernel_rfl) ?_
      intro QQ3 hQ3
      simp only [go_sem, Try.ntmps119, Try.results119]
      refine seqQ_normal hQ3 ?_
      refine vc_join (by kernel_rfl) ?_
      refine seq_cut_gen (ι := Int × Int) (fun ((start_0, rv_0) : Int × Int) => (⟨1, [(0, .osl 0 6 (0) (List.length data_0)), (1, .v (.int .i64 a_0)), (2, .v (.int .i64 mv_0)), (3, .v (.int .i64 b_0)), (4, .clo g_cmp_0 c_cmp_0), (18, .v (.int .i64 (IntKind.i64.wrap (shrI .u64 (IntKind.u64.wrap (IntKind.i64.wrap (a_0 + b_0))) 1)))), (19, .v (.int .i64 (IntKind.i64.wrap ((IntKind.i64.wrap (shrI .u64 (IntKind.u64.wrap (IntKind.i64.wrap (a_0 + b_0))) 1)) + mv_0)))), (20, .v (.int .i64 start_0)), (21, .v (.int .i64 rv_0))], [(0, .arr 6 (enc data_0))], 1, 220⟩ : St)) (fun ((start_0, rv_0) : Int × Int) => f_slices_symMergeCmpFunc_Row_s0_0_J3 data_0 a_0 mv_0 b_0 cmp_0 self start_0 rv_0 = some r) ?_ ?_
      ·
        intro QQ19 hQ19
        refine vc_seq_gen (by kernel_rfl) ?_
        intro QQ20 hQ20
        simp only [go_sem, Try.ntmps119, Try.results119]
        refine seqQ_normal hQ20 ?_
        refine vc_cond_of (b := (decide ((IntKind.i64.wrap (shrI .u64 (IntKind.u64.wrap (IntKind.i64.wrap (a_0 + b_0))) 1)) < mv_0))) (by (simp only [go_sem]; done)) (fun hb_50 => ?_) (fun hb_50 => ?_)
        ·
          replace h := if_t h hb_50
          simp only [decide_eq_true_eq, decide_eq_false_iff_not, Bool.not_eq_true', Bool.not_eq_false', beq_iff_eq, beq_eq_false_iff_ne, ne_eq, Bool.and_eq_true, Bool.or_eq_true, Int.not_lt, Int.not_le] at hb_50
          refine vc_seq_gen (by kernel_rfl) ?_
          intro QQ21 hQ21
          simp only [go_sem, Try.ntmps119, Try.results119]
          refine seqQ_normal hQ21 ?_
          simp only [go_sem, Try.ntmps119, Try.results119]
          refine thenQ_normal hQ19 ?_
          refine ⟨(IntKind.i64.wrap ((IntKind.i64.wrap ((IntKind.i64.wrap (shrI .u64 (IntKind.u64.wrap (IntKind.i64.wrap (a_0 + b_0))) 1)) + mv_0)) - b_0), IntKind.i64.wrap (shrI .u64 (IntKind.u64.wrap (IntKind.i64.wrap (a_0 + b_0))) 1)), [], ?_, h⟩
          simp only [go_sem, Le, AvLeL_free _ F_cmp_0]
        ·
          replace h := if_f h hb_50
          simp only [decide_eq_true_eq, decide_eq_false_iff_not, Bool.not_eq_true', Bool.not_eq_false', beq_iff_eq, beq_eq_false_iff_ne, ne_eq, Bool.and_eq_true, Bool.or_eq_true, Int.not_lt, Int.not_le] at hb_50
          refine vc_seq_gen (by kernel_rfl) ?_
          intro QQ22 hQ22
          simp only [go_sem, Try.ntmps119, Try.results119]
          refine seqQ_normal hQ22 ?_
          simp only [go_sem, Try.ntmps119, Try.results119]
          refine thenQ_normal hQ19 ?_
          refine ⟨(a_0, mv_0), [], ?_, h⟩
          simp only [go_sem, Le, AvLeL_free _ F_cmp_0]
      · rintro ⟨start_0, rv_0⟩ h
        try dsimp only at h
        rw [f_slices_symMergeCmpFunc_Row_s0_0_J3] at h
        refine vc_seq_gen (by kernel_rfl) ?_
        intro QQ4 hQ4
        simp only [go_sem, Try.ntmps119, Try.results119]
        refine seqQ_normal hQ4 ?_
        refine vc_join (by kernel_rfl) ?_
        refine seq_cut_gen (ι := Int) (fun (start_3 : Int) => (⟨1, [(0, .osl 0 6 (0) (List.length data_0)), (1, .v (.int .i64 a_0)), (2, .v (.int .i64 mv_0)), (3, .v (.int .i64 b_0)), (4, .clo g_cmp_0 c_cmp_0), (18, .v (.int .i64 (IntKind.i64.wrap (shrI .u64 (IntKind.u64.wrap (IntKind.i64.wrap (a_0 + b_0))) 1)))), (19, .v (.int .i64 (IntKind.i64.wrap ((IntKind.i64.wrap (shrI .u64 (IntKind.u64.wrap (IntKind.i64.wrap (a_0 + b_0))) 1)) + mv_0)))), (20, .v (.int .i64 start_3))], [(0, .arr 6 (enc data_0))], 1, 220⟩ : St)) (fun (start_3 : Int) => f_slices_symMergeCmpFunc_Row_s0_0_J4 data_0 a_0 mv_0 b_0 cmp_0 self start_3 = some r) ?_ ?_
        ·
          intro QQ11 hQ11
          refine vc_block_gen ?_
          intro QQ12 hQ12
          refine vc_loop_of ?_
          refine loop_gen (ι := Nat × Int × Int) (fun ((_, start_5, rv_4) : Nat × Int × Int) => (⟨1, [(0, .osl 0 6 (0) (List.length data_0)), (1, .v (.int .i64 a_0)), (2, .v (.int .i64 mv_0)), (3, .v (.int .i64 b_0)), (4, .clo g_cmp_0 c_cmp_0), (18, .v (.int .i64 (IntKind.i64.wrap (shrI .u64 (IntKind.u64.wrap (IntKind.i64.wrap (a_0 + b_0))) 1)))), (19, .v (.int .i64 (IntKind.i64.wrap ((IntKind.i64.wrap (shrI .u64 (IntKind.u64.wrap (IntKind.i64.wrap (a_0 + b_0))) 1)) + mv_0)))), (20, .v (.int .i64 start_5)), (21, .v (.int .i64 rv_4)), (22, .v (.int .i64 (IntKind.i64.wrap ((IntKind.i64.wrap ((IntKind.i64.wrap (shrI .u64 (IntKind.u64.wrap (IntKind.i64.wrap (a_0 + b_0))) 1)) + mv_0)) - 1))))], [(0, .arr 6 (enc data_0))], 1, 220⟩ : St)) (fun ((n_, start_5, rv_4) : Nat × Int × Int) => loopK (f_slices_symMergeCmpFunc_Row_s0_0_B7 data_0 a_0 mv_0 b_0 cmp_0 self) n_ (start_5, rv_4) = some r) (fun p => p.1) (rounds, start_0, rv_0) [] ?_ h ?_
          · simp only [go_sem, Le, AvLeL_free _ F_cmp_0]
          · rintro ⟨n_7, start_5, rv_4⟩ h QQ13 hQ13
            dsimp only at h
            replace h := loopK_some h
            obtain ⟨m_7, rfl, h⟩ := h
            rw [f_slices_symMergeCmpFunc_Row_s0_0_B7] at h
            refine vc_seq_gen (by kernel_rfl) ?_
            intro QQ14 hQ14
            refine vc_seq_gen (by kernel_rfl) ?_
            intro QQ15 hQ15
            simp only [go_sem, Try.ntmps119, Try.results119]
            refine seqQ_normal hQ15 ?_
            refine vc_cond_of (b := (decide (start_5 < rv_4))) (by (simp only [go_sem]; done)) (fun hb_48 => ?_) (fun hb_48 => ?_)
            ·
              replace h := if_t h hb_48
              simp only [decide_eq_true_eq, decide_eq_false_iff_not, Bool.not_eq_true', Bool.not_eq_false', beq_iff_eq, beq_eq_false_iff_ne, ne_eq, Bool.and_eq_true, Bool.or_eq_true, Int.not_lt, Int.not_le] at hb_48
              refine vc_skip_of ?_
              refine seqQ_normal hQ14 ?_
              refine vc_block_gen ?_
              intro QQ16 hQ16
              refine vc_seq_gen (by kernel_rfl) ?_
              intro QQ17 hQ17
              simp only [go_sem, Try.ntmps119, Try.results119]
              refine seqQ_normal hQ17 ?_
              refine vc_seq_gen (by kernel_rfl) ?_
              intro QQ18 hQ18
              refine vc_draw ?_
              refine drawM_tail 11 [0, 0, 0, 0, 12, 30, 62, 0, 0, 384, 896, 2047, 4095, 8191] mixed (by kernel_rfl) (of_decide_eq_true (by kernel_rfl)) (by kernel_rfl) ?_
              obtain ⟨xv_52, exv_52, h⟩ := bindO_some h
              obtain ⟨fxv_52a, fxv_52b, fxv_52c⟩ := idx_spec exv_52
              obtain ⟨xv_53, exv_53, h⟩ := bindO_some h
              obtain ⟨fxv_53a, fxv_53b, fxv_53c⟩ := idx_spec exv_53
              obtain ⟨v_22, ev_22, h⟩ := bindO_some h
              simp only [go_sem, Try.ntmps119, Try.results119, fxv_52a, fxv_52b, fxv_52c, fxv_53a, fxv_53b, fxv_53c, E_cmp_0]
              refine And.intro (by omega) ?_
              refine And.intro (by omega) ?_
              refine call0 (H_cmp_0 xv_52 xv_53 v_22 ev_22) (by rfl) (by simp [idFreeL, idFree, F_cmp_0]) ?_
              simp only [go_sem, Try.ntmps119, Try.results119]
              refine seqQ_normal hQ18 ?_
              refine vc_cond_of (b := (!(decide (v_22 < 0)))) (by (simp only [go_sem]; done)) (fun hb_49 => ?_) (fun hb_49 => ?_)
              ·
                replace h := if_t h hb_49
                simp only [decide_eq_true_eq, decide_eq_false_iff_not, Bool.not_eq_true', Bool.not_eq_false', beq_iff_eq, beq_eq_false_iff_ne, ne_eq, Bool.and_eq_true, Bool.or_eq_true, Int.not_lt, Int.not_le] at hb_49
                simp only [go_sem, Try.ntmps119, Try.results119]
                refine blockQ_normal hQ16 ?_
                refine thenQ_normal hQ13 ?_
                refine ⟨(m_7, IntKind.i64.wrap ((IntKind.i64.wrap (shrI .u64 (IntKind.u64.wrap (IntKind.i64.wrap (start_5 + rv_4))) 1)) + 1), rv_4), [], ?_, h, Nat.lt_succ_self _⟩
                simp only [go_sem, Le, AvLeL_free _ F_cmp_0]
              ·
                replace h := if_f h hb_49
                simp only [decide_eq_true_eq, decide_eq_false_iff_not, Bool.not_eq_true', Bool.not_eq_false', beq_iff_eq, beq_eq_false_iff_ne, ne_eq, Bool.and_eq_true, Bool.or_eq_true, Int.not_lt, Int.not_le] at hb_49
                simp only [go_sem, Try.ntmps119, Try.results119]
                refine blockQ_normal hQ16 ?_
                refine thenQ_normal hQ13 ?_
                refine ⟨(m_7, start_5, IntKind.i64.wrap (shrI .u64 (IntKind.u64.wrap (IntKind.i64.wrap (start_5 + rv_4))) 1)), [], ?_, h, Nat.lt_succ_self _⟩
                simp only [go_sem, Le, AvLeL_free _ F_cmp_0]
            ·
              replace h := if_f h hb_48
              simp only [decide_eq_true_eq, decide_eq_false_iff_not, Bool.not_eq_true', Bool.not_eq_false', beq_iff_eq, beq_eq_false_iff_ne, ne_eq, Bool.and_eq_true, Bool.or_eq_true, Int.not_lt, Int.not_le] at hb_48
              refine vc_exit_of ?_
              refine seqQ_exit hQ14 ?_
              refine thenQ_exit hQ13 ?_
              refine blockQ_exit hQ12 ?_
              refine thenQ_normal hQ11 ?_
              refine ⟨start_5, [], ?_, h⟩
              simp only [go_sem, Le, AvLeL_free _ F_cmp_0]
        · rintro start_3 h
          try dsimp only at h
          rw [f_slices_symMergeCmpFunc_Row_s0_0_J4] at h
          refine vc_seq_gen (by kernel_rfl) ?_
          intro QQ5 hQ5
          simp only [go_sem, Try.ntmps119, Try.results119]
          refine seqQ_normal hQ5 ?_
          refine vc_join (by kernel_rfl) ?_
          refine seq_cut_gen (ι := (List GRow)) (fun (a_5 : (List GRow)) => (⟨1, [(0, .osl 0 6 (0) (List.length a_5)), (1, .v (.int .i64 a_0)), (3, .v (.int .i64 b_0)), (4, .clo g_cmp_0 c_cmp_0), (18, .v (.int .i64 (IntKind.i64.wrap (shrI .u64 (IntKind.u64.wrap (IntKind.i64.wrap (a_0 + b_0))) 1)))), (20, .v (.int .i64 start_3)), (24, .v (.int .i64 (IntKind.i64.wrap ((IntKind.i64.wrap ((IntKind.i64.wrap (shrI .u64 (IntKind.u64.wrap (IntKind.i64.wrap (a_0 + b_0))) 1)) + mv_0)) - start_3))))], [(0, .arr 6 (enc a_5))], 1, 220⟩ : St)) (fun (a_5 : (List GRow)) => f_slices_symMergeCmpFunc_Row_s0_0_J5 a_0 mv_0 b_0 cmp_0 self start_3 a_5 = some r) ?_ ?_
          ·
            intro QQ9 hQ9
            refine vc_seq_gen (by kernel_rfl) ?_
            intro QQ10 hQ10
            simp only [go_sem, Try.ntmps119, Try.results119]
            refine seqQ_normal hQ10 ?_
            refine vc_cond_of (b := ((decide (start_3 < mv_0)) && (decide (mv_0 < (IntKind.i64.wrap ((IntKind.i64.wrap ((IntKind.i64.wrap (shrI .u64 (IntKind.u64.wrap (IntKind.i64.wrap (a_0 + b_0))) 1)) + mv_0)) - start_3)))))) (by (simp only [go_sem]; done)) (fun hb_43 => ?_) (fun hb_43 => ?_)
            ·
              replace h := if_t h hb_43
              simp only [decide_eq_true_eq, decide_eq_false_iff_not, Bool.not_eq_true', Bool.not_eq_false', beq_iff_eq, beq_eq_false_iff_ne, ne_eq, Bool.and_eq_true, Bool.or_eq_true, Int.not_lt, Int.not_le] at hb_43
              obtain ⟨v_19, ev_19, h⟩ := bindO_some h
              simp only [go_sem, Try.ntmps119, Try.results119]
              refine callD [0] (f_slices_rotateCmpFunc_Row_s0_0_det data_0 start_3 mv_0 (IntKind.i64.wrap ((IntKind.i64.wrap ((IntKind.i64.wrap (shrI .u64 (IntKind.u64.wrap (IntKind.i64.wrap (a_0 + b_0))) 1)) + mv_0)) - start_3)) cmp_0 g_cmp_0 c_cmp_0 F_cmp_0 E_cmp_0 H_cmp_0 v_19 ev_19) (by simp) (by simp only [renL, renA, renL_free F_cmp_0] <;> rfl) ⟨rfl, trivial⟩ (by simp only [ltL, ltA, ltL_free F_cmp_0] <;> rfl) rfl rfl rfl ?_
              obtain ⟨g_4, h⟩ := guardO_some h
              simp only [go_sem, Try.ntmps119, Try.results119, g_4]
              refine thenQ_normal hQ9 ?_
              refine ⟨v_19, [], ?_, h⟩
              simp only [go_sem, Le, AvLeL_free _ F_cmp_0] <;> (repeat' apply And.intro) <;> omega
            ·
              replace h := if_f h hb_43
              refine vc_skip_of ?_
              refine thenQ_normal hQ9 ?_
              refine ⟨data_0, [], ?_, h⟩
              simp only [go_sem, Le, AvLeL_free _ F_cmp_0]
          · rintro a_5 h
            try dsimp only at h
            rw [f_slices_symMergeCmpFunc_Row_s0_0_J5] at h
            refine vc_join (by kernel_rfl) ?_
            refine seq_cut_gen (ι := (List GRow)) (fun (a_6 : (List GRow)) => (⟨1, [(0, .osl 0 6 (0) (List.length a_6)), (3, .v (.int .i64 b_0)), (4, .clo g_cmp_0 c_cmp_0), (18, .v (.int .i64 (IntKind.i64.wrap (shrI .u64 (IntKind.u64.wrap (IntKind.i64.wrap (a_0 + b_0))) 1)))), (24, .v (.int .i64 (IntKind.i64.wrap ((IntKind.i64.wrap ((IntKind.i64.wrap (shrI .u64 (IntKind.u64.wrap (IntKind.i64.wrap (a_0 + b_0))) 1)) + mv_0)) - start_3))))], [(0, .arr 6 (enc a_6))], 1, 220⟩ : St)) (fun (a_6 : (List GRow)) => f_slices_symMergeCmpFunc_Row_s0_0_J6 a_0 mv_0 b_0 cmp_0 self start_3 a_6 = some r) ?_ ?_
            ·
              intro QQ7 hQ7
              refine vc_seq_gen (by kernel_rfl) ?_
              intro QQ8 hQ8
              simp only [go_sem, Try.ntmps119, Try.results119]
              refine seqQ_normal hQ8 ?_
              refine vc_cond_of (b := ((decide (a_0 < start_3)) && (decide (start_3 < (IntKind.i64.wrap (shrI .u64 (IntKind.u64.wrap (IntKind.i64.wrap (a_0 + b_0))) 1)))))) (by (simp only [go_sem]; done)) (fun hb_42 => ?_) (fun hb_42 => ?_)
              ·
                replace h := if_t h hb_42
                simp only [decide_eq_true_eq, decide_eq_false_iff_not, Bool.not_eq_true', Bool.not_eq_false', beq_iff_eq, beq_eq_false_iff_ne, ne_eq, Bool.and_eq_true, Bool.or_eq_true, Int.not_lt, Int.not_le] at hb_42
                obtain ⟨v_18, ev_18, h⟩ := bindO_some h
                simp only [go_sem, Try.ntmps119, Try.results119]
                refine callD [0] (Hself a_5 a_0 start_3 (IntKind.i64.wrap (shrI .u64 (IntKind.u64.wrap (IntKind.i64.wrap (a_0 + b_0))) 1)) cmp_0 g_cmp_0 c_cmp_0 F_cmp_0 E_cmp_0 H_cmp_0 v_18 ev_18) (by simp) (by simp only [renL, renA, renL_free F_cmp_0] <;> rfl) ⟨rfl, trivial⟩ (by simp only [ltL, ltA, ltL_free F_cmp_0] <;> rfl) rfl rfl rfl ?_
                obtain ⟨g_3, h⟩ := guardO_some h
                simp only [go_sem, Try.ntmps119, Try.results119, g_3]
                refine thenQ_normal hQ7 ?_
                refine ⟨v_18, [], ?_, h⟩
                simp only [go_sem, Le, AvLeL_free _ F_cmp_0] <;> (repeat' apply And.intro) <;> omega
              ·
                replace h := if_f h hb_42
                refine vc_skip_of ?_
                refine thenQ_normal hQ7 ?_
                refine ⟨a_5, [], ?_, h⟩
                simp only [go_sem, Le, AvLeL_free _ F_cmp_0]
            · rintro a_6 h
              try dsimp only at h
              rw [f_slices_symMergeCmpFunc_Row_s0_0_J6] at h
              refine vc_seq_gen (by kernel_rfl) ?_
              intro QQ6 hQ6
              simp only [go_sem, Try.ntmps119, Try.results119]
              refine seqQ_normal hQ6 ?_
              refine vc_cond_of (b := ((decide ((IntKind.i64.wrap (shrI .u64 (IntKind.u64.wrap (IntKind.i64.wrap (a_0 + b_0))) 1)) < (IntKind.i64.wrap ((IntKind.i64.wrap ((IntKind.i64.wrap (shrI .u64 (IntKind.u64.wrap (IntKind.i64.wrap (a_0 + b_0))) 1)) + mv_0)) - start_3)))) && (decide ((IntKind.i64.wrap ((IntKind.i64.wrap ((IntKind.i64.wrap (shrI .u64 (IntKind.u64.wrap (IntKind.i64.wrap (a_0 + b_0))) 1)) + mv_0)) - start_3)) < b_0)))) (by (simp only [go_sem]; done)) (fun hb_41 => ?_) (fun hb_41 => ?_)
              ·
                replace h := if_t h hb_41
                simp only [decide_eq_true_eq, decide_eq_false_iff_not, Bool.not_eq_true', Bool.not_eq_false', beq_iff_eq, beq_eq_false_iff_ne, ne_eq, Bool.and_eq_true, Bool.or_eq_true, Int.not_lt, Int.not_le] at hb_41
                obtain ⟨v_17, ev_17, h⟩ := bindO_some h
                simp only [go_sem, Try.ntmps119, Try.results119]
                refine callD [0] (Hself a_6 (IntKind.i64.wrap (shrI .u64 (IntKind.u64.wrap (IntKind.i64.wrap (a_0 + b_0))) 1)) (IntKind.i64.wrap ((IntKind.i64.wrap ((IntKind.i64.wrap (shrI .u64 (IntKind.u64.wrap (IntKind.i64.wrap (a_0 + b_0))) 1)) + mv_0)) - start_3)) b_0 cmp_0 g_cmp_0 c_cmp_0 F_cmp_0 E_cmp_0 H_cmp_0 v_17 ev_17) (by simp) (by simp only [renL, renA, renL_free F_cmp_0] <;> rfl) ⟨rfl, trivial⟩ (by simp only [ltL, ltA, ltL_free F_cmp_0] <;> rfl) rfl rfl rfl ?_
                obtain ⟨g_2, h⟩ := guardO_some h
                simp only [go_sem, Try.ntmps119, Try.results119, g_2]
                obtain rfl := Option.some.inj h
                refine retW_det [] ?_
                simp only [go_sem, Le, AvLeL_free _ F_cmp_0]
              ·
                replace h := if_f h hb_41
                refine vc_skip_of ?_
                simp only [go_sem, Try.ntmps119, Try.results119]
                obtain rfl := Option.some.inj h
                refine retW_det [] ?_
                simp only [go_sem, Le, AvLeL_free _ F_cmp_0]
theorem f_slices_symMergeCmpFunc_Row_s0_0_D_det : ∀ (n : Nat) (data_0 : List GRow) (a_0 : Int) (mv_0 : Int) (b_0 : Int) (cmp_0 : GRow → GRow → Option Int) (g_cmp_0 : FuncId) (c_cmp_0 : List AV) (F_cmp_0 : idFreeL c_cmp_0 = true) (E_cmp_0 : entB Try.prog g_cmp_0 = true) (H_cmp_0 : ∀ (x0 : GRow) (x1 : GRow) (r : Int), cmp_0 x0 x1 = some r → PureS Try.prog g_cmp_0 ([.agg [.v (.int .i64 x0.K), .v (.int .i64 x0.Many), .v (.int .i64 x0.Least), .v (.int .i64 x0.Top), .v (.int .i64 x0.Sum), .v (.bool x0.Sure)], .agg [.v (.int .i64 x1.K), .v (.int .i64 x1.Many), .v (.int .i64 x1.Least), .v (.int .i64 x1.Top), .v (.int .i64 x1.Sum), .v (.bool x1.Sure)]] ++ c_cmp_0) 0 (.v (.int .i64 r))) (r : List GRow), f_slices_symMergeCmpFunc_Row_s0_0_D n data_0 a_0 mv_0 b_0 cmp_0 = some r → DetS Try.prog 119 [.osl 0 6 (0) (List.length data_0), .v (.int .i64 a_0), .v (.int .i64 mv_0), .v (.int .i64 b_0), .clo g_cmp_0 c_cmp_0] [(0, .arr 6 (enc data_0))] 1 (.tup []) [(0, .arr 6 (enc r))] 1
  | 0, data_0, a_0, mv_0, b_0, cmp_0, g_cmp_0, c_cmp_0, F_cmp_0, E_cmp_0, H_cmp_0, r, h => by simp [f_slices_symMergeCmpFunc_Row_s0_0_D] at h
  | n + 1, data_0, a_0, mv_0, b_0, cmp_0, g_cmp_0, c_cmp_0, F_cmp_0, E_cmp_0, H_cmp_0, r, h => f_slices_symMergeCmpFunc_Row_s0_0_R_det (f_slices_symMergeCmpFunc_Row_s0_0_D n) (f_slices_symMergeCmpFunc_Row_s0_0_D_det n) data_0 a_0 mv_0 b_0 cmp_0 g_cmp_0 c_cmp_0 F_cmp_0 E_cmp_0 H_cmp_0 r h
theorem f_slices_symMergeCmpFunc_Row_s0_0_det (data_0 : List GRow) (a_0 : Int) (mv_0 : Int) (b_0 : Int) (cmp_0 : GRow → GRow → Option Int) (g_cmp_0 : FuncId) (c_cmp_0 : List AV) (F_cmp_0 : idFreeL c_cmp_0 = true) (E_cmp_0 : entB Try.prog g_cmp_0 = true) (H_cmp_0 : ∀ (x0 : GRow) (x1 : GRow) (r : Int), cmp_0 x0 x1 = some r → PureS Try.prog g_cmp_0 ([.agg [.v (.int .i64 x0.K), .v (.int .i64 x0.Many), .v (.int .i64 x0.Least), .v (.int .i64 x0.Top), .v (.int .i64 x0.Sum), .v (.bool x0.Sure)], .agg [.v (.int .i64 x1.K), .v (.int .i64 x1.Many), .v (.int .i64 x1.Least), .v (.int .i64 x1.Top), .v (.int .i64 x1.Sum), .v (.bool x1.Sure)]] ++ c_cmp_0) 0 (.v (.int .i64 r))) (r : List GRow) (h : f_slices_symMergeCmpFunc_Row_s0_0 data_0 a_0 mv_0 b_0 cmp_0 = some r) : DetS Try.prog 119 [.osl 0 6 (0) (List.length data_0), .v (.int .i64 a_0), .v (.int .i64 mv_0), .v (.int .i64 b_0), .clo g_cmp_0 c_cmp_0] [(0, .arr 6 (enc data_0))] 1 (.tup []) [(0, .arr 6 (enc r))] 1 := f_slices_symMergeCmpFunc_Row_s0_0_D_det rounds data_0 a_0 mv_0 b_0 cmp_0 g_cmp_0 c_cmp_0 F_cmp_0 E_cmp_0 H_cmp_0 r h
end Go.Proofs.Ytfjjpdjnpmajlaa

namespace Go.Proofs.Ytfjjpdjnpmajlaa
open Go Go.RowKit
set_option maxHeartbeats 2000000
set_option maxRecDepth 100000
set_option linter.unusedSimpArgs false
set_option linter.unusedVariables false
def f_slices_stableCmpFunc_Row_s0_0_J3 (nv_0 : Int) (cmp_0 : GRow → GRow → Option Int) (blockSize_1 : Int) (rec_2 : (Int × (List GRow) → Option (List GRow))) (a_32 : Int) (a_33 : List GRow) : Option (List GRow) :=
  (if (decide ((IntKind.i64.wrap (a_32 + blockSize_1)) < nv_0)) = true then bindO (f_slices_symMergeCmpFunc_Row_s0_0 a_33 a_32 (IntKind.i64.wrap (a_32 + blockSize_1)) nv_0 cmp_0) (fun (v_21 : List GRow) =>
  guardO (List.length v_21 = List.length a_33) (
  rec_2 (IntKind.i64.wrap (blockSize_1 * 2), v_21)))
  else rec_2 (IntKind.i64.wrap (blockSize_1 * 2), a_33))
def f_slices_stableCmpFunc_Row_s0_0_B4 (nv_0 : Int) (cmp_0 : GRow → GRow → Option Int) (blockSize_1 : Int) (rec_2 : (Int × (List GRow) → Option (List GRow))) (rec_4 : Int × Int × (List GRow) → Option (List GRow)) : Int × Int × (List GRow) → Option (List GRow) :=
  fun (a_36, b_13, a_37) =>
  (if (decide (b_13 ≤ nv_0)) = true then bindO (f_slices_symMergeCmpFunc_Row_s0_0 a_37 a_36 (IntKind.i64.wrap (a_36 + blockSize_1)) b_13 cmp_0) (fun (v_24 : List GRow) =>
  guardO (List.length v_24 = List.length a_37) (
  rec_4 (b_13, IntKind.i64.wrap (b_13 + (IntKind.i64.wrap (2 * blockSize_1))), v_24)))
  else f_slices_stableCmpFunc_Row_s0_0_J3 nv_0 cmp_0 blockSize_1 rec_2 a_36 a_37)
def f_slices_stableCmpFunc_Row_s0_0_B2 (nv_0 : Int) (cmp_0 : GRow → GRow → Option Int) (rec_2 : Int × (List GRow) → Option (List GRow)) : Int × (List GRow) → Option (List GRow) :=
  fun (blockSize_1, a_27) =>
  (if (decide (blockSize_1 < nv_0)) = true then loopK (f_slices_stableCmpFunc_Row_s0_0_B4 nv_0 cmp_0 blockSize_1 rec_2) rounds (0, IntKind.i64.wrap (2 * blockSize_1), a_27)
  else some a_27)
def f_slices_stableCmpFunc_Row_s0_0_J1 (nv_0 : Int) (cmp_0 : GRow → GRow → Option Int) (a_4 : Int) (a_5 : List GRow) : Option (List GRow) :=
  bindO (f_slices_insertionSortCmpFunc_Row_s0_0 a_5 a_4 nv_0 cmp_0) (fun (v_3 : List GRow) =>
  guardO (List.length v_3 = List.length a_5) (
  loopK (f_slices_stableCmpFunc_Row_s0_0_B2 nv_0 cmp_0) rounds (20, v_3)))
def f_slices_stableCmpFunc_Row_s0_0_B5 (nv_0 : Int) (cmp_0 : GRow → GRow → Option Int) (rec_5 : Int × Int × (List GRow) → Option (List GRow)) : Int × Int × (List GRow) → Option (List GRow) :=
  fun (a_40, b_15, a_41) =>
  (if (decide (b_15 ≤ nv_0)) = true then bindO (f_slices_insertionSortCmpFunc_Row_s0_0 a_41 a_40 b_15 cmp_0) (fun (v_27 : List GRow) =>
  guardO (List.length v_27 = List.length a_41) (
  rec_5 (b_15, IntKind.i64.wrap (b_15 + 20), v_27)))
  else f_slices_stableCmpFunc_Row_s0_0_J1 nv_0 cmp_0 a_40 a_41)
def f_slices_stableCmpFunc_Row_s0_0 (data_0 : List GRow) (nv_0 : Int) (cmp_0 : GRow → GRow → Option Int) : Option (List GRow) :=
  loopK (f_slices_stableCmpFunc_Row_s0_0_B5 nv_0 cmp_0) rounds (0, 20, data_0)
theorem f_slices_stableCmpFunc_Row_s0_0_det (data_0 : List GRow) (nv_0 : Int) (cmp_0 : GRow → GRow → Option Int) (g_cmp_0 : FuncId) (c_cmp_0 : List AV) (F_cmp_0 : idFreeL c_cmp_0 = true) (E_cmp_0 : entB Try.prog g_cmp_0 = true) (H_cmp_0 : ∀ (x0 : GRow) (x1 : GRow) (r : Int), cmp_0 x0 x1 = some r → PureS Try.prog g_cmp_0 ([.agg [.v (.int .i64 x0.K), .v (.int .i64 x0.Many), .v (.int .i64 x0.Least), .v (.int .i64 x0.Top), .v (.int .i64 x0.Sum), .v (.bool x0.Sure)], .agg [.v (.int .i64 x1.K), .v (.int .i64 x1.Many), .v (.int .i64 x1.Least), .v (.int .i64 x1.Top), .v (.int .i64 x1.Sum), .v (.bool x1.Sure)]] ++ c_cmp_0) 0 (.v (.int .i64 r))) (r : List GRow) (h : f_slices_stableCmpFunc_Row_s0_0 data_0 nv_0 cmp_0 = some r) : DetS Try.prog 93 [.osl 0 6 (0) (List.length data_0), .v (.int .i64 nv_0), .clo g_cmp_0 c_cmp_0] [(0, .arr 6 (enc data_0))] 1 (.tup []) [(0, .arr 6 (enc r))] 1 := by
  unfold DetS
  refine Spec.of_vc Try.func93 rfl (by kernel_rfl) (by kernel_rfl) ?_
  rw [f_slices_stableCmpFunc_Row_s0_0] at h
  refine vc_seq_gen (by kernel_rfl) ?_
  intro QQ1 hQ1
  simp only [go_sem, Try.ntmps93, Try.results93]
  refine seqQ_normal hQ1 ?_
  refine vc_seq_gen (by kernel_rfl) ?_
  intro QQ2 hQ2
  simp only [go_sem, Try.ntmps93, Try.results93]
  refine seqQ_normal hQ2 ?_
  refine vc_join (by kernel_rfl) ?_
  refine seq_cut_gen (ι := Int × (List GRow)) (fun ((a_4, a_5) : Int × (List GRow)) => (⟨1, [(0, .osl 0 6 (0) (List.length a_5)), (1, .v (.int .i64 nv_0)), (2, .clo g_cmp_0 c_cmp_0), (6, .v (.int .i64 20)), (7, .v (.int .i64 a_4))], [(0, .arr 6 (enc a_5))], 1, 63⟩ : St)) (fun ((a_4, a_5) : Int × (List GRow)) => f_slices_stableCmpFunc_Row_s0_0_J1 nv_0 cmp_0 a_4 a_5 = some r) ?_ ?_
  ·
    intro QQ21 hQ21
    refine vc_block_gen ?_
    intro QQ22 hQ22
    refine vc_loop_of ?_
    refine loop_gen (ι := Nat × Int × Int × (List GRow)) (fun ((_, a_40, b_15, a_41) : Nat × Int × Int × (List GRow)) => (⟨1, [(0, .osl 0 6 (0) (List.length a_41)), (1, .v (.int .i64 nv_0)), (2, .clo g_cmp_0 c_cmp_0), (6, .v (.int .i64 20)), (7, .v (.int .i64 a_40)), (8, .v (.int .i64 b_15))], [(0, .arr 6 (enc a_41))], 1, 63⟩ : St)) (fun ((n_, a_40, b_15, a_41) : Nat × Int × Int × (List GRow)) => loopK (f_slices_stableCmpFunc_Row_s0_0_B5 nv_0 cmp_0) n_ (a_40, b_15, a_41) = some r) (fun p => p.1) (rounds, 0, 20, data_0) [] ?_ h ?_
    · simp only [go_sem, Le, AvLeL_free _ F_cmp_0]
    · rintro ⟨n_5, a_40, b_15, a_41⟩ h QQ23 hQ23
      dsimp only at h
      replace h := loopK_some h
      obtain ⟨m_5, rfl, h⟩ := h
      rw [f_slices_stableCmpFunc_Row_s0_0_B5] at h
      refine vc_seq_gen (by kernel_rfl) ?_
      intro QQ24 hQ24
      refine vc_seq_gen (by kernel_rfl) ?_
      intro QQ25 hQ25
      simp only [go_sem, Try.ntmps93, Try.results93]
      refine seqQ_normal hQ25 ?_
      refine vc_cond_of (b := (decide (b_15 ≤ nv_0))) (by (simp only [go_sem]; done)) (fun hb_29 => ?_) (fun hb_29 => ?_)
      ·
        replace h := if_t h hb_29
        simp only [decide_eq_true_eq, decide_eq_false_iff_not, Bool.not_eq_true', Bool.not_eq_false', beq_iff_eq, beq_eq_false_iff_ne, ne_eq, Bool.and_eq_true, Bool.or_eq_true, Int.not_lt, Int.not_le] at hb_29
        refine vc_skip_of ?_
        refine seqQ_normal hQ24 ?_
        refine vc_block_gen ?_
        intro QQ26 hQ26
        refine vc_seq_gen (by kernel_rfl) ?_
        intro QQ27 hQ27
        obtain ⟨v_27, ev_27, h⟩ := bindO_some h
        simp only [go_sem, Try.ntmps93, Try.results93]
        refine callD [0] (f_slices_insertionSortCmpFunc_Row_s0_0_det a_41 a_40 b_15 cmp_0 g_cmp_0 c_cmp_0 F_cmp_0 E_cmp_0 H_cmp_0 v_27 ev_27) (by simp) (by simp only [renL, renA, renL_free F_cmp_0] <;> rfl) ⟨rfl, trivial⟩ (by simp only [ltL, ltA, ltL_free F_cmp_0] <;> rfl) rfl rfl rfl ?_
        obtain ⟨g_27, h⟩ := guardO_some h
        simp only [go_sem, Try.ntmps93, Try.results93, g_27]
        refine seqQ_normal hQ27 ?_
        refine vc_seq_gen (by kernel_rfl) ?_
        intro QQ28 hQ28
        simp only [go_sem, Try.ntmps93, Try.results93]
        refine seqQ_normal hQ28 ?_
        simp only [go_sem, Try.ntmps93, Try.results93]
        refine blockQ_normal hQ26 ?_
        refine thenQ_normal hQ23 ?_
        refine ⟨(m_5, b_15, IntKind.i64.wrap (b_15 + 20), v_27), [], ?_, h, Nat.lt_succ_self _⟩
        simp only [go_sem, Le, AvLeL_free _ F_cmp_0] <;> (repeat' apply And.intro) <;> omega
      ·
        replace h := if_f h hb_29
        simp only [decide_eq_true_eq, decide_eq_false_iff_not, Bool.not_eq_true', Bool.not_eq_false', beq_iff_eq, beq_eq_false_iff_ne, ne_eq, Bool.and_eq_true, Bool.or_eq_true, Int.not_lt, Int.not_le] at hb_29
        refine vc_exit_of ?_
        refine seqQ_exit hQ24 ?_
        refine thenQ_exit hQ23 ?_
        refine blockQ_exit hQ22 ?_
        refine thenQ_normal hQ21 ?_
        refine ⟨(a_40, a_41), [], ?_, h⟩
        simp only [go_sem, Le, AvLeL_free _ F_cmp_0]
  · rintro ⟨a_4, a_5⟩ h
    try dsimp only at h
    rw [f_slices_stableCmpFunc_Row_s0_0_J1] at h
    refine vc_seq_gen (by kernel_rfl) ?_
    intro QQ3 hQ3
    obtain ⟨v_3, ev_3, h⟩ := bindO_some h
    simp only [go_sem, Try.ntmps93, Try.results93]
    refine callD [0] (f_slices_insertionSortCmpFunc_Row_s0_0_det a_5 a_4 nv_0 cmp_0 g_cmp_0 c_cmp_0 F_cmp_0 E_cmp_0 H_cmp_0 v_3 ev_3) (by simp) (by simp only [renL, renA, renL_free F_cmp_0] <;> rfl) ⟨rfl, trivial⟩ (by simp only [ltL, ltA, ltL_free F_cmp_0] <;> rfl) rfl rfl rfl ?_
    obtain ⟨g_3, h⟩ := guardO_some h
    simp only [go_sem, Try.ntmps93, Try.results93, g_3]
    refine seqQ_normal hQ3 ?_
    refine vc_block_gen ?_
    intro QQ4 hQ4
    refine vc_loop_of ?_
    refine loop_gen (ι := Nat × Int × (List GRow)) (fun ((_, blockSize_1, a_27) : Nat × Int × (List GRow)) => (⟨1, [(0, .osl 0 6 (0) (List.length a_27)), (1, .v (.int .i64 nv_0)), (2, .clo g_cmp_0 c_cmp_0), (6, .v (.int .i64 blockSize_1))], [(0, .arr 6 (enc a_27))], 1, 63⟩ : St)) (fun ((n_, blockSize_1, a_27) : Nat × Int × (List GRow)) => loopK (f_slices_stableCmpFunc_Row_s0_0_B2 nv_0 cmp_0) n_ (blockSize_1, a_27) = some r) (fun p => p.1) (rounds, 20, v_3) [] ?_ h ?_
    · simp only [go_sem, Le, AvLeL_free _ F_cmp_0] <;> (repeat' apply And.intro) <;> omega
    · rintro ⟨n_2, blockSize_1, a_27⟩ h QQ5 hQ5
      dsimp only at h
      replace h := loopK_some h
      obtain ⟨m_2, rfl, h⟩ := h
      rw [f_slices_stableCmpFunc_Row_s0_0_B2] at h
      refine vc_seq_gen (by kernel_rfl) ?_
      intro QQ6 hQ6
      refine vc_seq_gen (by kernel_rfl) ?_
      intro QQ7 hQ7
      simp only [go_sem, Try.ntmps93, Try.results93]
      refine seqQ_normal hQ7 ?_
      refine vc_cond_of (b := (decide (blockSize_1 < nv_0))) (by (simp only [go_sem]; done)) (fun hb_19 => ?_) (fun hb_19 => ?_)
      ·
        replace h := if_t h hb_19
        simp only [decide_eq_true_eq, decide_eq_false_iff_not, Bool.not_eq_true', Bool.not_eq_false', beq_iff_eq, beq_eq_false_iff_ne, ne_eq, Bool.and_eq_true, Bool.or_eq_true, Int.not_lt, Int.not_le] at hb_19
        refine vc_skip_of ?_
        refine seqQ_normal hQ6 ?_
        refine vc_block_gen ?_
        intro QQ8 hQ8
        refine vc_seq_gen (by kernel_rfl) ?_
        intro QQ9 hQ9
        simp only [go_sem, Try.ntmps93, Try.results93]
        refine seqQ_normal hQ9 ?_
        refine vc_join (by kernel_rfl) ?_
        refine seq_cut_gen (ι := Int × (List GRow)) (fun ((a_32, a_33) : Int × (List GRow)) => (⟨1, [(0, .osl 0 6 (0) (List.length a_33)), (1, .v (.int .i64 nv_0)), (2, .clo g_cmp_0 c_cmp_0), (6, .v (.int .i64 blockSize_1)), (7, .v (.int .i64 a_32))], [(0, .arr 6 (enc a_33))], 1, 63⟩ : St)) (fun ((a_32, a_33) : Int × (List GRow)) => f_slices_stableCmpFunc_Row_s0_0_J3 nv_0 cmp_0 blockSize_1 (loopK (f_slices_stableCmpFunc_Row_s0_0_B2 nv_0 cmp_0) m_2) a_32 a_33 = some r) ?_ ?_
        ·
          intro QQ13 hQ13
          refine vc_block_gen ?_
          intro QQ14 hQ14
          refine vc_loop_of ?_
          refine loop_gen (ι := Nat × Int × Int × (List GRow)) (fun ((_, a_36, b_13, a_37) : Nat × Int × Int × (List GRow)) => (⟨1, [(0, .osl 0 6 (0) (List.length a_37)), (1, .v (.int .i64 nv_0)), (2, .clo g_cmp_0 c_cmp_0), (6, .v (.int .i64 blockSize_1)), (7, .v (.int .i64 a_36)), (8, .v (.int .i64 b_13))], [(0, .arr 6 (enc a_37))], 1, 63⟩ : St)) (fun ((n_, a_36, b_13, a_37) : Nat × Int × Int × (List GRow)) => loopK (f_slices_stableCmpFunc_Row_s0_0_B4 nv_0 cmp_0 blockSize_1 (loopK (f_slices_stableCmpFunc_Row_s0_0_B2 nv_0 cmp_0) m_2)) n_ (a_36, b_13, a_37) = some r) (fun p => p.1) (rounds, 0, IntKind.i64.wrap (2 * blockSize_1), a_27) [] ?_ h ?_
          · simp only [go_sem, Le, AvLeL_free _ F_cmp_0]
          · rintro ⟨n_4, a_36, b_13, a_37⟩ h QQ15 hQ15
            dsimp only at h
            replace h := loopK_some h
            obtain ⟨m_4, rfl, h⟩ := h
            rw [f_slices_stableCmpFunc_Row_s0_0_B4] at h
            refine vc_seq_gen (by kernel_rfl) ?_
            intro QQ16 hQ16
            refine vc_seq_gen (by kernel_rfl) ?_
            intro QQ17 hQ17
            simp only [go_sem, Try.ntmps93, Try.results93]
            refine seqQ_normal hQ17 ?_
            refine vc_cond_of (b := (decide (b_13 ≤ nv_0))) (by (simp only [go_sem]; done)) (fun hb_26 => ?_) (fun hb_26 => ?_)
            ·
              replace h := if_t h hb_26
              simp only [decide_eq_true_eq, decide_eq_false_iff_not, Bool.not_eq_true', Bool.not_eq_false', beq_iff_eq, beq_eq_false_iff_ne, ne_eq, Bool.and_eq_true, Bool.or_eq_true, Int.not_lt, Int.not_le] at hb_26
              refine vc_skip_of ?_
              refine seqQ_normal hQ16 ?_
              refine vc_block_gen ?_
              intro QQ18 hQ18
              refine vc_seq_gen (by kernel_rfl) ?_
              intro QQ19 hQ19
              obtain ⟨v_24, ev_24, h⟩ := bindO_some h
              simp only [go_sem, Try.ntmps93, Try.results93]
              refine callD [0] (f_slices_symMergeCmpFunc_Row_s0_0_det a_37 a_36 (IntKind.i64.wrap (a_36 + blockSize_1)) b_13 cmp_0 g_cmp_0 c_cmp_0 F_cmp_0 E_cmp_0 H_cmp_0 v_24 ev_24) (by simp) (by simp only [renL, renA, renL_free F_cmp_0] <;> rfl) ⟨rfl, trivial⟩ (by simp only [ltL, ltA, ltL_free F_cmp_0] <;> rfl) rfl rfl rfl ?_
              obtain ⟨g_24, h⟩ := guardO_some h
              simp only [go_sem, Try.ntmps93, Try.results93, g_24]
              refine seqQ_normal hQ19 ?_
              refine vc_seq_gen (by kernel_rfl) ?_
              intro QQ20 hQ20
              simp only [go_sem, Try.ntmps93, Try.results93]
              refine seqQ_normal hQ20 ?_
              simp only [go_sem, Try.ntmps93, Try.results93]
              refine blockQ_normal hQ18 ?_
              refine thenQ_normal hQ15 ?_
              refine ⟨(m_4, b_13, IntKind.i64.wrap (b_13 + (IntKind.i64.wrap (2 * blockSize_1))), v_24), [], ?_, h, Nat.lt_succ_self _⟩
              simp only [go_sem, Le, AvLeL_free _ F_cmp_0] <;> (repeat' apply And.intro) <;> omega
            ·
              replace h := if_f h hb_26
              simp only [decide_eq_true_eq, decide_eq_false_iff_not, Bool.not_eq_true', Bool.not_eq_false', beq_iff_eq, beq_eq_false_iff_ne, ne_eq, Bool.and_eq_true, Bool.or_eq_true, Int.not_lt, Int.not_le] at hb_26
              refine vc_exit_of ?_
              refine seqQ_exit hQ16 ?_
              refine thenQ_exit hQ15 ?_
              refine blockQ_exit hQ14 ?_
              refine thenQ_normal hQ13 ?_
              refine ⟨(a_36, a_37), [], ?_, h⟩
              simp only [go_sem, Le, AvLeL_free _ F_cmp_0]
        · rintro ⟨a_32, a_33⟩ h
          try dsimp only at h
          rw [f_slices_stableCmpFunc_Row_s0_0_J3] at h
          refine vc_join (by kernel_rfl) ?_
          refine seq_go_gen ?_
          intro QQ10 hQ10
          refine vc_seq_gen (by kernel_rfl) ?_
          intro QQ11 hQ11
          simp only [go_sem, Try.ntmps93, Try.results93]
          refine seqQ_normal hQ11 ?_
          refine vc_seq_gen (by kernel_rfl) ?_
          intro QQ12 hQ12
          simp only [go_sem, Try.ntmps93, Try.results93]
          refine seqQ_normal hQ12 ?_
          refine vc_cond_of (b := (decide ((IntKind.i64.wrap (a_32 + blockSize_1)) < nv_0))) (by (simp only [go_sem]; done)) (fun hb_23 => ?_) (fun hb_23 => ?_)
          ·
            replace h := if_t h hb_23
            simp only [decide_eq_true_eq, decide_eq_false_iff_not, Bool.not_eq_true', Bool.not_eq_false', beq_iff_eq, beq_eq_false_iff_ne, ne_eq, Bool.and_eq_true, Bool.or_eq_true, Int.not_lt, Int.not_le] at hb_23
            obtain ⟨v_21, ev_21, h⟩ := bindO_some h
            simp only [go_sem, Try.ntmps93, Try.results93]
            refine callD [0] (f_slices_symMergeCmpFunc_Row_s0_0_det a_33 a_32 (IntKind.i64.wrap (a_32 + blockSize_1)) nv_0 cmp_0 g_cmp_0 c_cmp_0 F_cmp_0 E_cmp_0 H_cmp_0 v_21 ev_21) (by simp) (by simp only [renL, renA, renL_free F_cmp_0] <;> rfl) ⟨rfl, trivial⟩ (by simp only [ltL, ltA, ltL_free F_cmp_0] <;> rfl) rfl rfl rfl ?_
            obtain ⟨g_21, h⟩ := guardO_some h
            simp only [go_sem, Try.ntmps93, Try.results93, g_21]
            refine seqQ_normal hQ10 ?_
            simp only [go_sem, Try.ntmps93, Try.results93]
            refine blockQ_normal hQ8 ?_
            refine thenQ_normal hQ5 ?_
            refine ⟨(m_2, IntKind.i64.wrap (blockSize_1 * 2), v_21), [], ?_, h, Nat.lt_succ_self _⟩
            simp only [go_sem, Le, AvLeL_free _ F_cmp_0] <;> (repeat' apply And.intro) <;> omega
          ·
            replace h := if_f h hb_23
            simp only [decide_eq_true_eq, decide_eq_false_iff_not, Bool.not_eq_true', Bool.not_eq_false', beq_iff_eq, beq_eq_false_iff_ne, ne_eq, Bool.and_eq_true, Bool.or_eq_true, Int.not_lt, Int.not_le] at hb_23
            refine vc_skip_of ?_
            refine seqQ_normal hQ10 ?_
            simp only [go_sem, Try.ntmps93, Try.results93]
            refine blockQ_normal hQ8 ?_
            refine thenQ_normal hQ5 ?_
            refine ⟨(m_2, IntKind.i64.wrap (blockSize_1 * 2), a_33), [], ?_, h, Nat.lt_succ_self _⟩
            simp only [go_sem, Le, AvLeL_free _ F_cmp_0]
      ·
        replace h := if_f h hb_19
        simp only [decide_eq_true_eq, decide_eq_false_iff_not, Bool.not_eq_true', Bool.not_eq_false', beq_iff_eq, beq_eq_false_iff_ne, ne_eq, Bool.and_eq_true, Bool.or_eq_true, Int.not_lt, Int.not_le] at hb_19
        refine vc_exit_of ?_
        refine seqQ_exit hQ6 ?_
        refine thenQ_exit hQ5 ?_
        refine blockQ_exit hQ4 ?_
        simp only [go_sem, Try.ntmps93, Try.results93]
        obtain rfl := Option.some.inj h
        refine retW_det [] ?_
        simp only [go_sem, Le, AvLeL_free _ F_cmp_0]
end Go.Proofs.Ytfjjpdjnpmajlaa

namespace Go.Proofs.Ytfjjpdjnpmajlaa
open Go Go.RowKit
set_option maxHeartbeats 2000000
set_option maxRecDepth 100000
set_option linter.unusedSimpArgs false
set_option linter.unusedVariables false
def f_slices_SortStableFunc_Row_s0_0 (xv_0 : List GRow) (cmp_0 : GRow → GRow → Option Int) : Option (List GRow) :=
  bindO (f_slices_stableCmpFunc_Row_s0_0 xv_0 (List.length xv_0 : Int) cmp_0) (fun (v_0 : List GRow) =>
  guardO (List.length v_0 = List.length xv_0) (
  some v_0))
theorem f_slices_SortStableFunc_Row_s0_0_det (xv_0 : List GRow) (cmp_0 : GRow → GRow → Option Int) (g_cmp_0 : FuncId) (c_cmp_0 : List AV) (F_cmp_0 : idFreeL c_cmp_0 = true) (E_cmp_0 : entB Try.prog g_cmp_0 = true) (H_cmp_0 : ∀ (x0 : GRow) (x1 : GRow) (r : Int), cmp_0 x0 x1 = some r → PureS Try.prog g_cmp_0 ([.agg [.v (.int .i64 x0.K), .v (.int .i64 x0.Many), .v (.int .i64 x0.Least), .v (.int .i64 x0.Top), .v (.int .i64 x0.Sum), .v (.bool x0.Sure)], .agg [.v (.int .i64 x1.K), .v (.int .i64 x1.Many), .v (.int .i64 x1.Least), .v (.int .i64 x1.Top), .v (.int .i64 x1.Sum), .v (.bool x1.Sure)]] ++ c_cmp_0) 0 (.v (.int .i64 r))) (r : List GRow) (h : f_slices_SortStableFunc_Row_s0_0 xv_0 cmp_0 = some r) : DetS Try.prog 64 [.osl 0 6 (0) (List.length xv_0), .clo g_cmp_0 c_cmp_0] [(0, .arr 6 (enc xv_0))] 1 (.tup []) [(0, .arr 6 (enc r))] 1 := by
  unfold DetS
  refine Spec.of_vc Try.func64 rfl (by kernel_rfl) (by kernel_rfl) ?_
  rw [f_slices_SortStableFunc_Row_s0_0] at h
  obtain ⟨v_0, ev_0, h⟩ := bindO_some h
  simp only [go_sem, Try.ntmps64, Try.results64]
  refine callD [0] (f_slices_stableCmpFunc_Row_s0_0_det xv_0 (List.length xv_0 : Int) cmp_0 g_cmp_0 c_cmp_0 F_cmp_0 E_cmp_0 H_cmp_0 v_0 ev_0) (by simp) (by simp only [renL, renA, renL_free F_cmp_0] <;> rfl) ⟨rfl, trivial⟩ (by simp only [ltL, ltA, ltL_free F_cmp_0] <;> rfl) rfl rfl rfl ?_
  obtain ⟨g_0, h⟩ := guardO_some h
  simp only [go_sem, Try.ntmps64, Try.results64, g_0]
  obtain rfl := Option.some.inj h
  refine retW_det [] ?_
  simp only [go_sem, Le, AvLeL_free _ F_cmp_0]
end Go.Proofs.Ytfjjpdjnpmajlaa

namespace Go.Proofs.Ytfjjpdjnpmajlaa
open Go Go.RowKit
set_option maxHeartbeats 2000000
set_option maxRecDepth 100000
set_option linter.unusedSimpArgs false
set_option linter.unusedVariables false
def f_query_measured (rv_0 : GRow) (measure_0 : Int) : Option Int :=
  (if (measure_0 == 0) = true then some rv_0.Many
  else (if (measure_0 == 1) = true then some rv_0.Least
  else (if (measure_0 == 2) = true then some rv_0.Top
  else (if (!rv_0.Sure) = true then some (-9223372036854775808)
  else some rv_0.Sum))))
theorem f_query_measured_ok (rv_0 : GRow) (measure_0 : Int)  (r : Int) (h : f_query_measured rv_0 measure_0 = some r) : PureS Try.prog 68 [.agg [.v (.int .i64 rv_0.K), .v (.int .i64 rv_0.Many), .v (.int .i64 rv_0.Least), .v (.int .i64 rv_0.Top), .v (.int .i64 rv_0.Sum), .v (.bool rv_0.Sure)], .v (.int .i64 measure_0)] 0 (.v (.int .i64 r)) := by
  unfold PureS
  refine Spec.of_vc Try.func68 rfl (by kernel_rfl) (by kernel_rfl) ?_
  rw [f_query_measured] at h
  refine vc_seq_gen (by kernel_rfl) ?_
  intro QQ1 hQ1
  simp only [go_sem, Try.ntmps68, Try.results68]
  refine seqQ_normal hQ1 ?_
  refine vc_seq_gen (by kernel_rfl) ?_
  intro QQ2 hQ2
  refine vc_seq_gen (by kernel_rfl) ?_
  intro QQ3 hQ3
  simp only [go_sem, Try.ntmps68, Try.results68]
  refine seqQ_normal hQ3 ?_
  refine vc_block_gen ?_
  intro QQ4 hQ4
  refine vc_seq_gen (by kernel_rfl) ?_
  intro QQ5 hQ5
  simp only [go_sem, Try.ntmps68, Try.results68]
  refine seqQ_normal hQ5 ?_
  refine vc_cond_of (b := (measure_0 == 0)) (by (simp only [go_sem]; done)) (fun hb_0 => ?_) (fun hb_0 => ?_)
  ·
    replace h := if_t h hb_0
    simp only [decide_eq_true_eq, decide_eq_false_iff_not, Bool.not_eq_true', Bool.not_eq_false', beq_iff_eq, beq_eq_false_iff_ne, ne_eq, Bool.and_eq_true, Bool.or_eq_true, Int.not_lt, Int.not_le] at hb_0
    refine vc_seq_gen (by kernel_rfl) ?_
    intro QQ6 hQ6
    simp only [go_sem, Try.ntmps68, Try.results68]
    refine seqQ_normal hQ6 ?_
    refine vc_ret_of ?_
    refine blockQ_ret hQ4 ?_
    refine seqQ_ret hQ2 ?_
    simp only [go_sem, Try.ntmps68, Try.results68]
    obtain rfl := Option.some.inj h
    refine retW_pure rfl ?_
    simp only [go_sem, Le]
  ·
    replace h := if_f h hb_0
    simp only [decide_eq_true_eq, decide_eq_false_iff_not, Bool.not_eq_true', Bool.not_eq_false', beq_iff_eq, beq_eq_false_iff_ne, ne_eq, Bool.and_eq_true, Bool.or_eq_true, Int.not_lt, Int.not_le] at hb_0
    refine vc_seq_gen (by kernel_rfl) ?_
    intro QQ7 hQ7
    simp only [go_sem, Try.ntmps68, Try.results68]
    refine seqQ_normal hQ7 ?_
    refine vc_cond_of (b := (measure_0 == 1)) (by (simp only [go_sem]; done)) (fun hb_1 => ?_) (fun hb_1 => ?_)
    ·
      replace h := if_t h hb_1
      simp only [decide_eq_true_eq, decide_eq_false_iff_not, Bool.not_eq_true', Bool.not_eq_false', beq_iff_eq, beq_eq_false_iff_ne, ne_eq, Bool.and_eq_true, Bool.or_eq_true, Int.not_lt, Int.not_le] at hb_1
      refine vc_seq_gen (by kernel_rfl) ?_
      intro QQ8 hQ8
      simp only [go_sem, Try.ntmps68, Try.results68]
      refine seqQ_normal hQ8 ?_
      refine vc_ret_of ?_
      refine blockQ_ret hQ4 ?_
      refine seqQ_ret hQ2 ?_
      simp only [go_sem, Try.ntmps68, Try.results68]
      obtain rfl := Option.some.inj h
      refine retW_pure rfl ?_
      simp only [go_sem, Le]
    ·
      replace h := if_f h hb_1
      simp only [decide_eq_true_eq, decide_eq_false_iff_not, Bool.not_eq_true', Bool.not_eq_false', beq_iff_eq, beq_eq_false_iff_ne, ne_eq, Bool.and_eq_true, Bool.or_eq_true, Int.not_lt, Int.not_le] at hb_1
      refine vc_seq_gen (by kernel_rfl) ?_
      intro QQ9 hQ9
      simp only [go_sem, Try.ntmps68, Try.results68]
      refine seqQ_normal hQ9 ?_
      refine vc_cond_of (b := (measure_0 == 2)) (by (simp only [go_sem]; done)) (fun hb_2 => ?_) (fun hb_2 => ?_)
      ·
        replace h := if_t h hb_2
        simp only [decide_eq_true_eq, decide_eq_false_iff_not, Bool.not_eq_true', Bool.not_eq_false', beq_iff_eq, beq_eq_false_iff_ne, ne_eq, Bool.and_eq_true, Bool.or_eq_true, Int.not_lt, Int.not_le] at hb_2
        refine vc_seq_gen (by kernel_rfl) ?_
        intro QQ10 hQ10
        simp only [go_sem, Try.ntmps68, Try.results68]
        refine seqQ_normal hQ10 ?_
        refine vc_ret_of ?_
        refine blockQ_ret hQ4 ?_
        refine seqQ_ret hQ2 ?_
        simp only [go_sem, Try.ntmps68, Try.results68]
        obtain rfl := Option.some.inj h
        refine retW_pure rfl ?_
        simp only [go_sem, Le]
      ·
        replace h := if_f h hb_2
        simp only [decide_eq_true_eq, decide_eq_false_iff_not, Bool.not_eq_true', Bool.not_eq_false', beq_iff_eq, beq_eq_false_iff_ne, ne_eq, Bool.and_eq_true, Bool.or_eq_true, Int.not_lt, Int.not_le] at hb_2
        refine vc_skip_of ?_
        refine blockQ_normal hQ4 ?_
        refine seqQ_normal hQ2 ?_
        refine vc_seq_gen (by kernel_rfl) ?_
        intro QQ11 hQ11
        refine vc_seq_gen (by kernel_rfl) ?_
        intro QQ12 hQ12
        simp only [go_sem, Try.ntmps68, Try.results68]
        refine seqQ_normal hQ12 ?_
        refine vc_cond_of (b := (!rv_0.Sure)) (by (simp only [go_sem]; done)) (fun hb_3 => ?_) (fun hb_3 => ?_)
        ·
          replace h := if_t h hb_3
          simp only [decide_eq_true_eq, decide_eq_false_iff_not, Bool.not_eq_true', Bool.not_eq_false', beq_iff_eq, beq_eq_false_iff_ne, ne_eq, Bool.and_eq_true, Bool.or_eq_true, Int.not_lt, Int.not_le] at hb_3
          refine vc_seq_gen (by kernel_rfl) ?_
          intro QQ13 hQ13
          simp only [go_sem, Try.ntmps68, Try.results68]
          refine seqQ_normal hQ13 ?_
          refine vc_ret_of ?_
          refine seqQ_ret hQ11 ?_
          simp only [go_sem, Try.ntmps68, Try.results68]
          obtain rfl := Option.some.inj h
          refine retW_pure rfl ?_
          simp only [go_sem, Le]
        ·
          replace h := if_f h hb_3
          simp only [decide_eq_true_eq, decide_eq_false_iff_not, Bool.not_eq_true', Bool.not_eq_false', beq_iff_eq, beq_eq_false_iff_ne, ne_eq, Bool.and_eq_true, Bool.or_eq_true, Int.not_lt, Int.not_le] at hb_3
          refine vc_skip_of ?_
          refine seqQ_normal hQ11 ?_
          refine vc_seq_gen (by kernel_rfl) ?_
          intro QQ14 hQ14
          simp only [go_sem, Try.ntmps68, Try.results68]
          refine seqQ_normal hQ14 ?_
          refine vc_ret_of ?_
          simp only [go_sem, Try.ntmps68, Try.results68]
          obtain rfl := Option.some.inj h
          refine retW_pure rfl ?_
          simp only [go_sem, Le]
end Go.Proofs.Ytfjjpdjnpmajlaa

namespace Go.Proofs.Ytfjjpdjnpmajlaa
open Go Go.RowKit
set_option maxHeartbeats 2000000
set_option maxRecDepth 100000
set_option linter.unusedSimpArgs false
set_option linter.unusedVariables false
def f_query_First_1 (a_0 : GRow) (b_0 : GRow) (cap_0 : Int) : Option Int :=
  bindO (f_query_measured b_0 cap_0) (fun (v_0 : Int) =>
  bindO (f_query_measured a_0 cap_0) (fun (v_1 : Int) =>
  bindO (f_cmp_Compare_int64 v_0 v_1) (fun (v_2 : Int) =>
  bindO (f_cmp_Compare_int64 a_0.K b_0.K) (fun (v_3 : Int) =>
  bindO (f_cmp_Or_int ([v_2, v_3] : List Int)) (fun (v_4 : Int) =>
  some v_4)))))
theorem f_query_First_1_ok (a_0 : GRow) (b_0 : GRow) (cap_0 : Int)  (r : Int) (h : f_query_First_1 a_0 b_0 cap_0 = some r) : PureS Try.prog 65 [.agg [.v (.int .i64 a_0.K), .v (.int .i64 a_0.Many), .v (.int .i64 a_0.Least), .v (.int .i64 a_0.Top), .v (.int .i64 a_0.Sum), .v (.bool a_0.Sure)], .agg [.v (.int .i64 b_0.K), .v (.int .i64 b_0.Many), .v (.int .i64 b_0.Least), .v (.int .i64 b_0.Top), .v (.int .i64 b_0.Sum), .v (.bool b_0.Sure)], .el 1 [[.v (.int .i64 cap_0)]] 0 0] 0 (.v (.int .i64 r)) := by
  unfold PureS
  refine Spec.of_vc Try.func65 rfl (by kernel_rfl) (by kernel_rfl) ?_
  rw [f_query_First_1] at h
  refine vc_seq_gen (by kernel_rfl) ?_
  intro QQ1 hQ1
  simp only [go_sem, Try.ntmps65, Try.results65]
  refine seqQ_normal hQ1 ?_
  refine vc_seq_gen (by kernel_rfl) ?_
  intro QQ2 hQ2
  refine vc_draw ?_
  refine drawM_tail 11 [0, 0, 3, 0, 0, 31, 63, 0, 128, 0, 512, 2047, 4095, 8191, 16383] mixed (by kernel_rfl) (of_decide_eq_true (by kernel_rfl)) (by kernel_rfl) ?_
  obtain ⟨v_0, ev_0, h⟩ := bindO_some h
  simp only [go_sem, Try.ntmps65, Try.results65]
  refine callq (fun _ => (f_query_measured_ok b_0 cap_0 v_0 ev_0)) (by rfl) (by rfl) ?_
  obtain ⟨v_1, ev_1, h⟩ := bindO_some h
  simp only [go_sem, Try.ntmps65, Try.results65]
  refine callq (fun _ => (f_query_measured_ok a_0 cap_0 v_1 ev_1)) (by rfl) (by rfl) ?_
  obtain ⟨v_2, ev_2, h⟩ := bindO_some h
  simp only [go_sem, Try.ntmps65, Try.results65]
  refine callq (fun _ => (f_cmp_Compare_int64_ok v_0 v_1 v_2 ev_2)) (by rfl) (by rfl) ?_
  obtain ⟨v_3, ev_3, h⟩ := bindO_some h
  simp only [go_sem, Try.ntmps65, Try.results65]
  refine call0 (f_cmp_Compare_int64_ok a_0.K b_0.K v_3 ev_3) (by rfl) (by rfl) ?_
  have rf_0 : [[.v (.int .i64 v_2)], [.v (.int .i64 v_3)]] = enc ([v_2, v_3] : List Int) := by rfl
  obtain ⟨v_4, ev_4, h⟩ := bindO_some h
  simp only [go_sem, Try.ntmps65, Try.results65]
  simp only [rf_0]
  refine callB (s' := (⟨0, [(0, .agg [.v (.int .i64 a_0.K), .v (.int .i64 a_0.Many), .v (.int .i64 a_0.Least), .v (.int .i64 a_0.Top), .v (.int .i64 a_0.Sum), .v (.bool a_0.Sure)]), (1, .agg [.v (.int .i64 b_0.K), .v (.int .i64 b_0.Many), .v (.int .i64 b_0.Least), .v (.int .i64 b_0.Top), .v (.int .i64 b_0.Sum), .v (.bool b_0.Sure)]), (2, .el 1 [[.v (.int .i64 cap_0)]] 0 0), (3, .ptr 0 0), (4, .ptr 1 0), (5, .v (.int .i64 0)), (6, .agg [.v (.int .i64 b_0.K), .v (.int .i64 b_0.Many), .v (.int .i64 b_0.Least), .v (.int .i64 b_0.Top), .v (.int .i64 b_0.Sum), .v (.bool b_0.Sure)]), (7, .v (.int .i64 cap_0)), (8, .v (.int .i64 v_0)), (9, .agg [.v (.int .i64 a_0.K), .v (.int .i64 a_0.Many), .v (.int .i64 a_0.Least), .v (.int .i64 a_0.Top), .v (.int .i64 a_0.Sum), .v (.bool a_0.Sure)]), (10, .v (.int .i64 cap_0)), (11, .v (.int .i64 v_1)), (12, .v (.int .i64 v_2)), (13, .ptr 0 0), (14, .v (.int .i64 a_0.K)), (15, .ptr 1 0), (16, .v (.int .i64 b_0.K)), (17, .v (.int .i64 v_3)), (18, .sl 1 (enc ([v_2, v_3] : List Int)))], [(0, .box [.v (.int .i64 a_0.K), .v (.int .i64 a_0.Many), .v (.int .i64 a_0.Least), .v (.int .i64 a_0.Top), .v (.int .i64 a_0.Sum), .v (.bool a_0.Sure)]), (1, .box [.v (.int .i64 b_0.K), .v (.int .i64 b_0.Many), .v (.int .i64 b_0.Least), .v (.int .i64 b_0.Top), .v (.int .i64 b_0.Sum), .v (.bool b_0.Sure)])], 2, 20⟩ : St)) (l := [some 0, some 1]) (args' := [.sl 1 (enc ([v_2, v_3] : List Int))]) ?_ ?_ (f_cmp_Or_int_ok ([v_2, v_3] : List Int) v_4 ev_4) (by rfl) (by rfl) ?_
  · simp only [go_sem, Le] <;> (repeat' apply And.intro) <;> first | omega | (simp [go_sem]; done)
  · simp only [go_sem, Le] <;> (repeat' apply And.intro) <;> (simp [go_sem]; done)
  simp only [go_sem, Try.ntmps65, Try.results65]
  refine seqQ_normal hQ2 ?_
  refine vc_ret_of ?_
  simp only [go_sem, Try.ntmps65, Try.results65]
  obtain rfl := Option.some.inj h
  refine retW_pure rfl ?_
  simp only [go_sem, Le]
end Go.Proofs.Ytfjjpdjnpmajlaa

namespace Go.Proofs.Ytfjjpdjnpmajlaa
open Go Go.RowKit
set_option maxHeartbeats 2000000
set_option maxRecDepth 100000
set_option linter.unusedSimpArgs false
set_option linter.unusedVariables false
def f_query_First (rows_0 : List GRow) (measure_0 : Int) (many_0 : Int) : Option (List GRow) :=
  (if (((decide (measure_0 < 0)) || (decide (3 < measure_0))) || (decide (many_0 < 1))) = true then some ([] : List GRow)
  else bindO (f_slices_Clone_Row rows_0) (fun (v_0 : List GRow) =>
  bindO (f_slices_SortStableFunc_Row_s0_0 v_0 (fun x0_ x1_ => f_query_First_1 x0_ x1_ measure_0)) (fun (v_1 : List GRow) =>
  guardO (List.length v_1 = List.length v_0) (
  guardO (0 ≤ 0 ∧ 0 ≤ (min (List.length v_1 : Int) many_0) ∧ (min (List.length v_1 : Int) many_0) ≤ (List.length v_1 : Int)) (
  some (((v_1).drop (0)).take (Int.toNat (min (List.length v_1 : Int) many_0))))))))
theorem f_query_First_ok (rows_0 : List GRow) (measure_0 : Int) (many_0 : Int)  (r : List GRow) (h : f_query_First rows_0 measure_0 many_0 = some r) : PureS Try.prog 31 [.sl 6 (enc rows_0), .v (.int .i64 measure_0), .v (.int .i64 many_0)] 0 (.sl 6 (enc r)) := by
  unfold PureS
  refine Spec.of_vc Try.func31 rfl (by kernel_rfl) (by kernel_rfl) ?_
  rw [f_query_First] at h
  refine vc_seq_gen (by kernel_rfl) ?_
  intro QQ1 hQ1
  simp only [go_sem, Try.ntmps31, Try.results31]
  refine seqQ_normal hQ1 ?_
  refine vc_seq_gen (by kernel_rfl) ?_
  intro QQ2 hQ2
  refine vc_seq_gen (by kernel_rfl) ?_
  intro QQ3 hQ3
  simp only [go_sem, Try.ntmps31, Try.results31]
  refine seqQ_normal hQ3 ?_
  refine vc_cond_of (b := (((decide (measure_0 < 0)) || (decide (3 < measure_0))) || (decide (many_0 < 1)))) (by (simp only [go_sem]; done)) (fun hb_0 => ?_) (fun hb_0 => ?_)
  ·
    replace h := if_t h hb_0
    simp only [decide_eq_true_eq, decide_eq_false_iff_not, Bool.not_eq_true', Bool.not_eq_false', beq_iff_eq, beq_eq_false_iff_ne, ne_eq, Bool.and_eq_true, Bool.or_eq_true, Int.not_lt, Int.not_le] at hb_0
    refine vc_seq_gen (by kernel_rfl) ?_
    intro QQ4 hQ4
    simp only [go_sem, Try.ntmps31, Try.results31]
    refine seqQ_normal hQ4 ?_
    refine vc_ret_of ?_
    refine seqQ_ret hQ2 ?_
    simp only [go_sem, Try.ntmps31, Try.results31]
    obtain rfl := Option.some.inj h
    refine retW_pure rfl ?_
    simp only [go_sem, Le]
  ·
    replace h := if_f h hb_0
    refine vc_skip_of ?_
    refine seqQ_normal hQ2 ?_
    refine vc_seq_gen (by kernel_rfl) ?_
    intro QQ5 hQ5
    obtain ⟨v_0, ev_0, h⟩ := bindO_some h
    simp only [go_sem, Try.ntmps31, Try.results31]
    refine callD [] (f_slices_Clone_Row_det rows_0 v_0 ev_0) (by simp) rfl trivial rfl rfl rfl rfl ?_
    simp only [go_sem, Try.ntmps31, Try.results31]
    refine seqQ_normal hQ5 ?_
    refine vc_seq_gen (by kernel_rfl) ?_
    intro QQ6 hQ6
    obtain ⟨v_1, ev_1, h⟩ := bindO_some h
    simp only [go_sem, Try.ntmps31, Try.results31]
    refine callF_weak (s' := (⟨0, [(0, .sl 6 (enc rows_0)), (1, .v (.int .i64 measure_0)), (2, .v (.int .i64 many_0)), (4, .el 1 [[.v (.int .i64 measure_0)]] 0 0), (6, .v (.slice none 0 0)), (7, .osl 0 6 (0) (List.length v_0)), (8, .v (.int .i64 measure_0)), (9, .v (.bool (decide (measure_0 < 0)))), (10, .v (.bool (decide (measure_0 < 0)))), (13, .v (.bool ((decide (measure_0 < 0)) || (decide (3 < measure_0))))), (14, .v (.bool ((decide (measure_0 < 0)) || (decide (3 < measure_0))))), (17, .v (.bool (((decide (measure_0 < 0)) || (decide (3 < measure_0))) || (decide (many_0 < 1))))), (18, .sl 6 (enc rows_0)), (19, .osl 0 6 (0) (List.length v_0)), (20, .osl 0 6 (0) (List.length v_0)), (21, .clo 65 [.el 1 [[.v (.int .i64 measure_0)]] 0 0])], [(0, .arr 6 (enc v_0))], 1, 29⟩ : St)) (l := [some 1]) (args' := [.osl 0 6 (0) (List.length v_0), .clo 65 [.el 1 [[.v (.int .i64 measure_0)]] 0 0]]) ?_ ?_ ?_
    · simp only [go_sem, Le] <;> (repeat' apply And.intro) <;> (simp [go_sem]; done)
    · simp only [go_sem, Le] <;> (repeat' apply And.intro) <;> (simp [go_sem]; done)
    refine callD [0] (f_slices_SortStableFunc_Row_s0_0_det v_0 (fun x0_ x1_ => f_query_First_1 x0_ x1_ measure_0) 65 [.el 1 [[.v (.int .i64 measure_0)]] 0 0] (by rfl) (by kernel_rfl) (fun y0 y1 r_ e_ => f_query_First_1_ok y0 y1 measure_0 r_ e_) v_1 ev_1) (by simp) rfl ⟨rfl, trivial⟩ rfl rfl rfl rfl ?_
    obtain ⟨g_0, h⟩ := guardO_some h
    simp only [go_sem, Try.ntmps31, Try.results31, g_0]
    refine seqQ_normal hQ6 ?_
    refine vc_seq_gen (by kernel_rfl) ?_
    intro QQ7 hQ7
    obtain ⟨g_1, h⟩ := guardO_some h
    simp only [go_sem, Try.ntmps31, Try.results31, g_1]
    refine And.intro (by omega) ?_
    refine And.intro (by omega) ?_
    refine seqQ_normal hQ7 ?_
    refine vc_ret_of ?_
    simp only [go_sem, Try.ntmps31, Try.results31]
    obtain rfl := Option.some.inj h
    refine retW_pure rfl ?_
    simp only [go_sem, Le] <;> (repeat' apply And.intro) <;> (simp [enc_len, enc]; omega)
end Go.Proofs.Ytfjjpdjnpmajlaa

namespace Go.Proofs.Ytfjjpdjnpmajlaa
open Go Go.RowKit
set_option maxHeartbeats 2000000
set_option maxRecDepth 100000
set_option linter.unusedSimpArgs false
set_option linter.unusedVariables false
noncomputable def f_backwashlaw32_awake  : Option Bool :=
  bindO (f_query_Rows ([(⟨0, 0, (⟨2, 9⟩ : GRec)⟩ : GOut), (⟨0, 0, (⟨1, 3⟩ : GRec)⟩ : GOut), (⟨0, 0, (⟨1, 5⟩ : GRec)⟩ : GOut)] : List GOut) 0 0 0) (fun (v_0 : List GRow) =>
  bindO (f_query_First v_0 3 1) (fun (v_1 : List GRow) =>
  (if ((List.length v_0 : Int) == 2) = true then bindO (idx v_0 0) (fun (xv_0 : GRow) =>
  (if (((xv_0.K == 1) && ((xv_0.Many == 2) && ((xv_0.Least == 3) && ((xv_0.Top == 5) && ((xv_0.Sum == 8) && xv_0.Sure))))) && ((List.length v_1 : Int) == 1)) = true then bindO (idx v_1 0) (fun (xv_1 : GRow) =>
  (if (xv_1.K == 2) = true then bindO (f_query_Total v_0) (fun (v_2 : Int) =>
  some (v_2 == 3))
  else some false))
  else some false))
  else some false)))
theorem f_backwashlaw32_awake_ok   (r : Bool) (h : f_backwashlaw32_awake  = some r) : PureS Try.prog 29 [] 0 (.v (.bool r)) := by
  unfold PureS
  refine Spec.of_vc Try.func29 rfl (by kernel_rfl) (by kernel_rfl) ?_
  rw [f_backwashlaw32_awake] at h
  refine vc_seq_gen (by kernel_rfl) ?_
  intro QQ1 hQ1
  simp only [go_sem, Try.ntmps29, Try.results29]
  refine seqQ_normal hQ1 ?_
  refine vc_seq_gen (by kernel_rfl) ?_
  intro QQ2 hQ2
  have rf_0 : [[.v (.int .i64 0), .v (.int .i64 0), .v (.int .i64 2), .v (.int .i64 9)], [.v (.int .i64 0), .v (.int .i64 0), .v (.int .i64 1), .v (.int .i64 3)], [.v (.int .i64 0), .v (.int .i64 0), .v (.int .i64 1), .v (.int .i64 5)]] = enc ([(⟨0, 0, (⟨2, 9⟩ : GRec)⟩ : GOut), (⟨0, 0, (⟨1, 3⟩ : GRec)⟩ : GOut), (⟨0, 0, (⟨1, 5⟩ : GRec)⟩ : GOut)] : List GOut) := by rfl
  obtain ⟨v_0, ev_0, h⟩ := bindO_some h
  simp only [go_sem, Try.ntmps29, Try.results29]
  simp only [rf_0]
  refine callF_weak (s' := (⟨0, [(0, .v (.bool false)), (3, .agg [.v (.int .i64 2), .v (.int .i64 9)]), (4, .agg [.v (.int .i64 0), .v (.int .i64 0), .v (.int .i64 2), .v (.int .i64 9)]), (5, .agg [.v (.int .i64 1), .v (.int .i64 3)]), (6, .agg [.v (.int .i64 0), .v (.int .i64 0), .v (.int .i64 1), .v (.int .i64 3)]), (7, .agg [.v (.int .i64 1), .v (.int .i64 5)]), (8, .agg [.v (.int .i64 0), .v (.int .i64 0), .v (.int .i64 1), .v (.int .i64 5)]), (9, .sl 4 (enc ([(⟨0, 0, (⟨2, 9⟩ : GRec)⟩ : GOut), (⟨0, 0, (⟨1, 3⟩ : GRec)⟩ : GOut), (⟨0, 0, (⟨1, 5⟩ : GRec)⟩ : GOut)] : List GOut)))], [], 0, 40⟩ : St)) (l := []) (args' := [.sl 4 (enc ([(⟨0, 0, (⟨2, 9⟩ : GRec)⟩ : GOut), (⟨0, 0, (⟨1, 3⟩ : GRec)⟩ : GOut), (⟨0, 0, (⟨1, 5⟩ : GRec)⟩ : GOut)] : List GOut)), .v (.int .i64 0), .v (.int .i64 0), .v (.int .i64 0)]) ?_ ?_ ?_
  · simp only [go_sem, Le] <;> (repeat' apply And.intro) <;> (simp [go_sem]; done)
  · simp only [go_sem, Le] <;> (repeat' apply And.intro) <;> (simp [go_sem]; done)
  refine callD [] (f_query_Rows_det ([(⟨0, 0, (⟨2, 9⟩ : GRec)⟩ : GOut), (⟨0, 0, (⟨1, 3⟩ : GRec)⟩ : GOut), (⟨0, 0, (⟨1, 5⟩ : GRec)⟩ : GOut)] : List GOut) 0 0 0 v_0 ev_0) (by simp) rfl trivial rfl rfl rfl rfl ?_
  simp only [go_sem, Try.ntmps29, Try.results29]
  refine seqQ_normal hQ2 ?_
  refine vc_seq_gen (by kernel_rfl) ?_
  intro QQ3 hQ3
  obtain ⟨v_1, ev_1, h⟩ := bindO_some h
  simp only [go_sem, Try.ntmps29, Try.results29]
  refine callF_weak (s' := (⟨0, [(0, .v (.bool false)), (1, .sl 6 (enc v_0)), (3, .agg [.v (.int .i64 2), .v (.int .i64 9)]), (4, .agg [.v (.int .i64 0), .v (.int .i64 0), .v (.int .i64 2), .v (.int .i64 9)]), (5, .agg [.v (.int .i64 1), .v (.int .i64 3)]), (6, .agg [.v (.int .i64 0), .v (.int .i64 0), .v (.int .i64 1), .v (.int .i64 3)]), (7, .agg [.v (.int .i64 1), .v (.int .i64 5)]), (8, .agg [.v (.int .i64 0), .v (.int .i64 0), .v (.int .i64 1), .v (.int .i64 5)]), (9, .sl 4 (enc ([(⟨0, 0, (⟨2, 9⟩ : GRec)⟩ : GOut), (⟨0, 0, (⟨1, 3⟩ : GRec)⟩ : GOut), (⟨0, 0, (⟨1, 5⟩ : GRec)⟩ : GOut)] : List GOut))), (10, .sl 6 (enc v_0)), (11, .sl 6 (enc v_0))], [], 0, 40⟩ : St)) (l := []) (args' := [.sl 6 (enc v_0), .v (.int .i64 3), .v (.int .i64 1)]) ?_ ?_ (call0 (f_query_First_ok v_0 3 1 v_1 ev_1) (by rfl) (by rfl) ?_)
  · simp only [go_sem, Le] <;> (repeat' apply And.intro) <;> (simp [go_sem]; done)
  · simp only [go_sem, Le] <;> (repeat' apply And.intro) <;> (simp [go_sem]; done)
  simp only [go_sem, Try.ntmps29, Try.results29]
  refine seqQ_normal hQ3 ?_
  refine vc_seq_gen (by kernel_rfl) ?_
  intro QQ4 hQ4
  simp only [go_sem, Try.ntmps29, Try.results29]
  rcases hb_0 : ((List.length v_0 : Int) == 2) with _ | _
  ·
    replace h := if_f h hb_0
    simp only [go_sem, Try.ntmps29, Try.results29, hb_0]
    refine seqQ_normal hQ4 ?_
    refine vc_ret_of ?_
    simp only [go_sem, Try.ntmps29, Try.results29]
    obtain rfl := Option.some.inj h
    refine retW_pure rfl ?_
    simp only [go_sem, Le]
  ·
    replace h := if_t h hb_0
    obtain ⟨xv_0, exv_0, h⟩ := bindO_some h
    obtain ⟨fxv_0a, fxv_0b, fxv_0c⟩ := idx_spec exv_0
    simp only [Int.toNat_natCast, Int.reduceToNat] at fxv_0c
    simp only [go_sem, Try.ntmps29, Try.results29, hb_0, fxv_0a, fxv_0b, fxv_0c]
    refine And.intro (by omega) ?_
    rcases hb_1 : (((xv_0.K == 1) && ((xv_0.Many == 2) && ((xv_0.Least == 3) && ((xv_0.Top == 5) && ((xv_0.Sum == 8) && xv_0.Sure))))) && ((List.length v_1 : Int) == 1)) with _ | _
    ·
      replace h := if_f h hb_1
      simp only [go_sem, Try.ntmps29, Try.results29, hb_1]
      refine seqQ_normal hQ4 ?_
      refine vc_ret_of ?_
      simp only [go_sem, Try.ntmps29, Try.results29]
      obtain rfl := Option.some.inj h
      refine retW_pure rfl ?_
      simp only [go_sem, Le]
    ·
      replace h := if_t h hb_1
      obtain ⟨xv_1, exv_1, h⟩ := bindO_some h
      obtain ⟨fxv_1a, fxv_1b, fxv_1c⟩ := idx_spec exv_1
      simp only [Int.toNat_natCast, Int.reduceToNat] at fxv_1c
      simp only [go_sem, Try.ntmps29, Try.results29, hb_1, fxv_1a, fxv_1b, fxv_1c]
      refine And.intro (by omega) ?_
      rcases hb_2 : (xv_1.K == 2) with _ | _
      ·
        replace h := if_f h hb_2
        simp only [go_sem, Try.ntmps29, Try.results29, hb_2]
        refine seqQ_normal hQ4 ?_
        refine vc_ret_of ?_
        simp only [go_sem, Try.ntmps29, Try.results29]
        obtain rfl := Option.some.inj h
        refine retW_pure rfl ?_
        simp only [go_sem, Le]
      ·
        replace h := if_t h hb_2
        obtain ⟨v_2, ev_2, h⟩ := bindO_some h
        simp only [go_sem, Try.ntmps29, Try.results29, hb_2]
        refine call0 (f_query_Total_ok v_0 v_2 ev_2) (by rfl) (by rfl) ?_
        simp only [go_sem, Try.ntmps29, Try.results29]
        refine seqQ_normal hQ4 ?_
        refine vc_ret_of ?_
        simp only [go_sem, Try.ntmps29, Try.results29]
        obtain rfl := Option.some.inj h
        refine retW_pure rfl ?_
        simp only [go_sem, Le]
end Go.Proofs.Ytfjjpdjnpmajlaa

namespace Go.Proofs.Ytfjjpdjnpmajlaa
open Go Go.RowKit
set_option maxHeartbeats 2000000
set_option maxRecDepth 100000
set_option linter.unusedSimpArgs false
set_option linter.unusedVariables false
def f_backwashref32_Measure (rv_0 : GRow) (measure_0 : Int) : Option Int :=
  (if (measure_0 == 0) = true then some rv_0.Many
  else (if (measure_0 == 1) = true then some rv_0.Least
  else (if (measure_0 == 2) = true then some rv_0.Top
  else (if rv_0.Sure = true then some rv_0.Sum
  else some (-9223372036854775808)))))
theorem f_backwashref32_Measure_ok (rv_0 : GRow) (measure_0 : Int)  (r : Int) (h : f_backwashref32_Measure rv_0 measure_0 = some r) : PureS Try.prog 35 [.agg [.v (.int .i64 rv_0.K), .v (.int .i64 rv_0.Many), .v (.int .i64 rv_0.Least), .v (.int .i64 rv_0.Top), .v (.int .i64 rv_0.Sum), .v (.bool rv_0.Sure)], .v (.int .i64 measure_0)] 0 (.v (.int .i64 r)) := by
  unfold PureS
  refine Spec.of_vc Try.func35 rfl (by kernel_rfl) (by kernel_rfl) ?_
  rw [f_backwashref32_Measure] at h
  refine vc_seq_gen (by kernel_rfl) ?_
  intro QQ1 hQ1
  simp only [go_sem, Try.ntmps35, Try.results35]
  refine seqQ_normal hQ1 ?_
  refine vc_seq_gen (by kernel_rfl) ?_
  intro QQ2 hQ2
  refine vc_seq_gen (by kernel_rfl) ?_
  intro QQ3 hQ3
  simp only [go_sem, Try.ntmps35, Try.results35]
  refine seqQ_normal hQ3 ?_
  refine vc_block_gen ?_
  intro QQ4 hQ4
  refine vc_seq_gen (by kernel_rfl) ?_
  intro QQ5 hQ5
  simp only [go_sem, Try.ntmps35, Try.results35]
  refine seqQ_normal hQ5 ?_
  refine vc_cond_of (b := (measure_0 == 0)) (by (simp only [go_sem]; done)) (fun hb_0 => ?_) (fun hb_0 => ?_)
  ·
    replace h := if_t h hb_0
    simp only [decide_eq_true_eq, decide_eq_false_iff_not, Bool.not_eq_true', Bool.not_eq_false', beq_iff_eq, beq_eq_false_iff_ne, ne_eq, Bool.and_eq_true, Bool.or_eq_true, Int.not_lt, Int.not_le] at hb_0
    refine vc_seq_gen (by kernel_rfl) ?_
    intro QQ6 hQ6
    simp only [go_sem, Try.ntmps35, Try.results35]
    refine seqQ_normal hQ6 ?_
    refine vc_ret_of ?_
    refine blockQ_ret hQ4 ?_
    refine seqQ_ret hQ2 ?_
    simp only [go_sem, Try.ntmps35, Try.results35]
    obtain rfl := Option.some.inj h
    refine retW_pure rfl ?_
    simp only [go_sem, Le]
  ·
    replace h := if_f h hb_0
    simp only [decide_eq_true_eq, decide_eq_false_iff_not, Bool.not_eq_true', Bool.not_eq_false', beq_iff_eq, beq_eq_false_iff_ne, ne_eq, Bool.and_eq_true, Bool.or_eq_true, Int.not_lt, Int.not_le] at hb_0
    refine vc_seq_gen (by kernel_rfl) ?_
    intro QQ7 hQ7
    simp only [go_sem, Try.ntmps35, Try.results35]
    refine seqQ_normal hQ7 ?_
    refine vc_cond_of (b := (measure_0 == 1)) (by (simp only [go_sem]; done)) (fun hb_1 => ?_) (fun hb_1 => ?_)
    ·
      replace h := if_t h hb_1
      simp only [decide_eq_true_eq, decide_eq_false_iff_not, Bool.not_eq_true', Bool.not_eq_false', beq_iff_eq, beq_eq_false_iff_ne, ne_eq, Bool.and_eq_true, Bool.or_eq_true, Int.not_lt, Int.not_le] at hb_1
      refine vc_seq_gen (by kernel_rfl) ?_
      intro QQ8 hQ8
      simp only [go_sem, Try.ntmps35, Try.results35]
      refine seqQ_normal hQ8 ?_
      refine vc_ret_of ?_
      refine blockQ_ret hQ4 ?_
      refine seqQ_ret hQ2 ?_
      simp only [go_sem, Try.ntmps35, Try.results35]
      obtain rfl := Option.some.inj h
      refine retW_pure rfl ?_
      simp only [go_sem, Le]
    ·
      replace h := if_f h hb_1
      simp only [decide_eq_true_eq, decide_eq_false_iff_not, Bool.not_eq_true', Bool.not_eq_false', beq_iff_eq, beq_eq_false_iff_ne, ne_eq, Bool.and_eq_true, Bool.or_eq_true, Int.not_lt, Int.not_le] at hb_1
      refine vc_seq_gen (by kernel_rfl) ?_
      intro QQ9 hQ9
      simp only [go_sem, Try.ntmps35, Try.results35]
      refine seqQ_normal hQ9 ?_
      refine vc_cond_of (b := (measure_0 == 2)) (by (simp only [go_sem]; done)) (fun hb_2 => ?_) (fun hb_2 => ?_)
      ·
        replace h := if_t h hb_2
        simp only [decide_eq_true_eq, decide_eq_false_iff_not, Bool.not_eq_true', Bool.not_eq_false', beq_iff_eq, beq_eq_false_iff_ne, ne_eq, Bool.and_eq_true, Bool.or_eq_true, Int.not_lt, Int.not_le] at hb_2
        refine vc_seq_gen (by kernel_rfl) ?_
        intro QQ10 hQ10
        simp only [go_sem, Try.ntmps35, Try.results35]
        refine seqQ_normal hQ10 ?_
        refine vc_ret_of ?_
        refine blockQ_ret hQ4 ?_
        refine seqQ_ret hQ2 ?_
        simp only [go_sem, Try.ntmps35, Try.results35]
        obtain rfl := Option.some.inj h
        refine retW_pure rfl ?_
        simp only [go_sem, Le]
      ·
        replace h := if_f h hb_2
        simp only [decide_eq_true_eq, decide_eq_false_iff_not, Bool.not_eq_true', Bool.not_eq_false', beq_iff_eq, beq_eq_false_iff_ne, ne_eq, Bool.and_eq_true, Bool.or_eq_true, Int.not_lt, Int.not_le] at hb_2
        refine vc_skip_of ?_
        refine blockQ_normal hQ4 ?_
        refine seqQ_normal hQ2 ?_
        refine vc_seq_gen (by kernel_rfl) ?_
        intro QQ11 hQ11
        refine vc_seq_gen (by kernel_rfl) ?_
        intro QQ12 hQ12
        simp only [go_sem, Try.ntmps35, Try.results35]
        refine seqQ_normal hQ12 ?_
        refine vc_cond_of (b := rv_0.Sure) (by (simp only [go_sem]; done)) (fun hb_3 => ?_) (fun hb_3 => ?_)
        ·
          replace h := if_t h hb_3
          refine vc_seq_gen (by kernel_rfl) ?_
          intro QQ13 hQ13
          simp only [go_sem, Try.ntmps35, Try.results35]
          refine seqQ_normal hQ13 ?_
          refine vc_ret_of ?_
          refine seqQ_ret hQ11 ?_
          simp only [go_sem, Try.ntmps35, Try.results35]
          obtain rfl := Option.some.inj h
          refine retW_pure rfl ?_
          simp only [go_sem, Le]
        ·
          replace h := if_f h hb_3
          refine vc_skip_of ?_
          refine seqQ_normal hQ11 ?_
          refine vc_seq_gen (by kernel_rfl) ?_
          intro QQ14 hQ14
          simp only [go_sem, Try.ntmps35, Try.results35]
          refine seqQ_normal hQ14 ?_
          refine vc_ret_of ?_
          simp only [go_sem, Try.ntmps35, Try.results35]
          obtain rfl := Option.some.inj h
          refine retW_pure rfl ?_
          simp only [go_sem, Le]
end Go.Proofs.Ytfjjpdjnpmajlaa

namespace Go.Proofs.Ytfjjpdjnpmajlaa
open Go Go.RowKit
set_option maxHeartbeats 2000000
set_option maxRecDepth 100000
set_option linter.unusedSimpArgs false
set_option linter.unusedVariables false
def f_backwashref32_First_J2 (a_2 : List GRow) (a_3 : List GRow) (rec_1 : ((List GRow) × (List GRow) → Option (List GRow))) (best_12 : Int) : Option (List GRow) :=
  bindO (idx a_3 best_12) (fun (xv_32 : GRow) =>
  guardO ((List.length a_2 + List.length ([xv_32] : List GRow)) * 48 ≤ 140737488355328) (
  guardO (0 ≤ 0 ∧ 0 ≤ best_12 ∧ best_12 ≤ (List.length a_3 : Int)) (
  guardO ((List.length ([] : List GRow) + List.length (((a_3).drop (0)).take (Int.toNat best_12))) * 48 ≤ 140737488355328) (
  guardO (0 ≤ IntKind.i64.wrap (best_12 + 1) ∧ IntKind.i64.wrap (best_12 + 1) ≤ (List.length a_3 : Int) ∧ (List.length a_3 : Int) ≤ (List.length a_3 : Int)) (
  guardO ((List.length (([] : List GRow) ++ (((a_3).drop (0)).take (Int.toNat best_12))) + List.length (((a_3).drop (Int.toNat (IntKind.i64.wrap (best_12 + 1)))).take (List.length a_3 - Int.toNat (IntKind.i64.wrap (best_12 + 1))))) * 48 ≤ 140737488355328) (
  rec_1 ((a_2 ++ ([xv_32] : List GRow)), ((([] : List GRow) ++ (((a_3).drop (0)).take (Int.toNat best_12))) ++ (((a_3).drop (Int.toNat (IntKind.i64.wrap (best_12 + 1)))).take (List.length a_3 - Int.toNat (IntKind.i64.wrap (best_12 + 1))))))))))))
def f_backwashref32_First_B3 (measure_0 : Int) (a_2 : List GRow) (a_3 : List GRow) (rec_1 : ((List GRow) × (List GRow) → Option (List GRow))) (rec_3 : Int × Int → Option (List GRow)) : Int × Int → Option (List GRow) :=
  fun (best_14, i_11) =>
  (if (decide (i_11 < (List.length a_3 : Int))) = true then bindO (idx a_3 i_11) (fun (xv_37 : GRow) =>
  bindO (f_backwashref32_Measure xv_37 measure_0) (fun (v_34 : Int) =>
  bindO (idx a_3 best_14) (fun (xv_38 : GRow) =>
  bindO (f_backwashref32_Measure xv_38 measure_0) (fun (v_35 : Int) =>
  (if (decide (v_35 < v_34)) = true then rec_3 (i_11, IntKind.i64.wrap (i_11 + 1))
  else (if (v_34 == v_35) = true then (if (decide (xv_37.K < xv_38.K)) = true then rec_3 (i_11, IntKind.i64.wrap (i_11 + 1))
  else rec_3 (best_14, IntKind.i64.wrap (i_11 + 1)))
  else rec_3 (best_14, IntKind.i64.wrap (i_11 + 1))))))))
  else f_backwashref32_First_J2 a_2 a_3 rec_1 best_14)
def f_backwashref32_First_B1 (measure_0 : Int) (many_0 : Int) (rec_1 : (List GRow) × (List GRow) → Option (List GRow)) : (List GRow) × (List GRow) → Option (List GRow) :=
  fun (a_2, a_3) =>
  (if ((decide ((List.length a_2 : Int) < many_0)) && (decide (0 < (List.length a_3 : Int)))) = true then loopK (f_backwashref32_First_B3 measure_0 a_2 a_3 rec_1) rounds (0, 1)
  else some a_2)
def f_backwashref32_First (rows_0 : List GRow) (measure_0 : Int) (many_0 : Int) : Option (List GRow) :=
  (if ((decide (measure_0 < 0)) || (decide (3 < measure_0))) = true then some ([] : List GRow)
  else guardO ((List.length ([] : List GRow) + List.length rows_0) * 48 ≤ 140737488355328) (
  loopK (f_backwashref32_First_B1 measure_0 many_0) rounds ([], (([] : List GRow) ++ rows_0))))
theorem f_backwashref32_First_det (rows_0 : List GRow) (measure_0 : Int) (many_0 : Int)  (r : List GRow) (h : f_backwashref32_First rows_0 measure_0 many_0 = some r) : DetS Try.prog 32 [.sl 6 (enc rows_0), .v (.int .i64 measure_0), .v (.int .i64 many_0)] [] 0 (.osl 0 6 (0) (List.length r)) [(0, .arr 6 (enc r))] 1 := by
  unfold DetS
  refine Spec.of_vc Try.func32 rfl (by kernel_rfl) (by kernel_rfl) ?_
  rw [f_backwashref32_First] at h
  refine vc_seq_gen (by kernel_rfl) ?_
  intro QQ1 hQ1
  simp only [go_sem, Try.ntmps32, Try.results32]
  refine seqQ_normal hQ1 ?_
  refine vc_seq_gen (by kernel_rfl) ?_
  intro QQ2 hQ2
  simp only [go_sem, Try.ntmps32, Try.results32]
  refine seqQ_normal hQ2 ?_
  refine vc_seq_gen (by kernel_rfl) ?_
  intro QQ3 hQ3
  refine vc_seq_gen (by kernel_rfl) ?_
  intro QQ4 hQ4
  simp only [go_sem, Try.ntmps32, Try.results32]
  refine seqQ_normal hQ4 ?_
  refine vc_cond_of (b := ((decide (measure_0 < 0)) || (decide (3 < measure_0)))) (by (simp only [go_sem]; done)) (fun hb_0 => ?_) (fun hb_0 => ?_)
  ·
    replace h := if_t h hb_0
    simp only [decide_eq_true_eq, decide_eq_false_iff_not, Bool.not_eq_true', Bool.not_eq_false', beq_iff_eq, beq_eq_false_iff_ne, ne_eq, Bool.and_eq_true, Bool.or_eq_true, Int.not_lt, Int.not_le] at hb_0
    refine vc_seq_gen (by kernel_rfl) ?_
    intro QQ5 hQ5
    simp only [go_sem, Try.ntmps32, Try.results32]
    refine seqQ_normal hQ5 ?_
    refine vc_ret_of ?_
    refine seqQ_ret hQ3 ?_
    simp only [go_sem, Try.ntmps32, Try.results32]
    obtain rfl := Option.some.inj h
    refine retW_det [none] ?_
    simp only [go_sem, Le] <;> (repeat' apply And.intro) <;> (simp [go_sem]; done)
  ·
    replace h := if_f h hb_0
    refine vc_skip_of ?_
    refine seqQ_normal hQ3 ?_
    refine vc_seq_gen (by kernel_rfl) ?_
    intro QQ6 hQ6
    obtain ⟨g_0, h⟩ := guardO_some h
    simp only [List.length_cons, List.length_nil, Nat.zero_add, List.length_append] at g_0
    have rf_0 : enc ([] : List GRow) ++ enc rows_0 = enc (([] : List GRow) ++ rows_0) := by exact (enc_app ([] : List GRow) rows_0).symm
    simp only [go_sem, Try.ntmps32, Try.results32, g_0, rf_0]
    refine seqQ_normal hQ6 ?_
    refine vc_join (by kernel_rfl) ?_
    refine seq_go_gen ?_
    intro QQ7 hQ7
    refine vc_block_gen ?_
    intro QQ8 hQ8
    refine vc_loop_of ?_
    refine loop_gen (ι := Nat × (List GRow) × (List GRow)) (fun ((_, a_2, a_3) : Nat × (List GRow) × (List GRow)) => (⟨0, [(1, .v (.int .i64 measure_0)), (2, .v (.int .i64 many_0)), (7, .osl 0 6 (0) (List.length a_2)), (8, .osl 1 6 (0) (List.length a_3))], [(0, .arr 6 (enc a_2)), (1, .arr 6 (enc a_3))], 2, 89⟩ : St)) (fun ((n_, a_2, a_3) : Nat × (List GRow) × (List GRow)) => loopK (f_backwashref32_First_B1 measure_0 many_0) n_ (a_2, a_3) = some r) (fun p => p.1) (rounds, [], (([] : List GRow) ++ rows_0)) [none, some 1] ?_ h ?_
    · simp only [go_sem, Le] <;> (repeat' apply And.intro) <;> (simp [go_sem]; done)
    · rintro ⟨n_1, a_2, a_3⟩ h QQ9 hQ9
      dsimp only at h
      replace h := loopK_some h
      obtain ⟨m_1, rfl, h⟩ := h
      rw [f_backwashref32_First_B1] at h
      refine vc_seq_gen (by kernel_rfl) ?_
      intro QQ10 hQ10
      refine vc_seq_gen (by kernel_rfl) ?_
      intro QQ11 hQ11
      simp only [go_sem, Try.ntmps32, Try.results32]
      refine seqQ_normal hQ11 ?_
      refine vc_cond_of (b := ((decide ((List.length a_2 : Int) < many_0)) && (decide (0 < (List.length a_3 : Int))))) (by (simp only [go_sem]; done)) (fun hb_51 => ?_) (fun hb_51 => ?_)
      ·
        replace h := if_t h hb_51
        simp only [decide_eq_true_eq, decide_eq_false_iff_not, Bool.not_eq_true', Bool.not_eq_false', beq_iff_eq, beq_eq_false_iff_ne, ne_eq, Bool.and_eq_true, Bool.or_eq_true, Int.not_lt, Int.not_le] at hb_51
        refine vc_skip_of ?_
        refine seqQ_normal hQ10 ?_
        refine vc_block_gen ?_
        intro QQ12 hQ12
        refine vc_seq_gen (by kernel_rfl) ?_
        intro QQ13 hQ13
        simp only [go_sem, Try.ntmps32, Try.results32]
        refine seqQ_normal hQ13 ?_
        refine vc_join (by kernel_rfl) ?_
        refine seq_cut_gen (ι := Int) (fun (best_12 : Int) => (⟨0, [(1, .v (.int .i64 measure_0)), (2, .v (.int .i64 many_0)), (7, .osl 0 6 (0) (List.length a_2)), (8, .osl 1 6 (0) (List.length a_3)), (9, .v (.int .i64 best_12))], [(0, .arr 6 (enc a_2)), (1, .arr 6 (enc a_3))], 2, 89⟩ : St)) (fun (best_12 : Int) => f_backwashref32_First_J2 a_2 a_3 (loopK (f_backwashref32_First_B1 measure_0 many_0) m_1) best_12 = some r) ?_ ?_
        ·
          intro QQ15 hQ15
          refine vc_seq_gen (by kernel_rfl) ?_
          intro QQ16 hQ16
          simp only [go_sem, Try.ntmps32, Try.results32]
          refine seqQ_normal hQ16 ?_
          refine vc_block_gen ?_
          intro QQ17 hQ17
          refine vc_loop_of ?_
          refine loop_gen (ι := Nat × Int × Int) (fun ((_, best_14, i_11) : Nat × Int × Int) => (⟨0, [(1, .v (.int .i64 measure_0)), (2, .v (.int .i64 many_0)), (7, .osl 0 6 (0) (List.length a_2)), (8, .osl 1 6 (0) (List.length a_3)), (9, .v (.int .i64 best_14)), (10, .v (.int .i64 i_11))], [(0, .arr 6 (enc a_2)), (1, .arr 6 (enc a_3))], 2, 89⟩ : St)) (fun ((n_, best_14, i_11) : Nat × Int × Int) => loopK (f_backwashref32_First_B3 measure_0 a_2 a_3 (loopK (f_backwashref32_First_B1 measure_0 many_0) m_1)) n_ (best_14, i_11) = some r) (fun p => p.1) (rounds, 0, 1) [some 0, some 1] ?_ h ?_
          · simp only [go_sem, Le] <;> (repeat' apply And.intro) <;> first | omega | (simp [go_sem]; done)
          · rintro ⟨n_3, best_14, i_11⟩ h QQ18 hQ18
            dsimp only at h
            replace h := loopK_some h
            obtain ⟨m_3, rfl, h⟩ := h
            rw [f_backwashref32_First_B3] at h
            refine vc_seq_gen (by kernel_rfl) ?_
            intro QQ19 hQ19
            refine vc_seq_gen (by kernel_rfl) ?_
            intro QQ20 hQ20
            simp only [go_sem, Try.ntmps32, Try.results32]
            refine seqQ_normal hQ20 ?_
            refine vc_cond_of (b := (decide (i_11 < (List.length a_3 : Int)))) (by (simp only [go_sem]; done)) (fun hb_72 => ?_) (fun hb_72 => ?_)
            ·
              replace h := if_t h hb_72
              simp only [decide_eq_true_eq, decide_eq_false_iff_not, Bool.not_eq_true', Bool.not_eq_false', beq_iff_eq, beq_eq_false_iff_ne, ne_eq, Bool.and_eq_true, Bool.or_eq_true, Int.not_lt, Int.not_le] at hb_72
              refine vc_skip_of ?_
              refine seqQ_normal hQ19 ?_
              refine vc_join (by kernel_rfl) ?_
              refine seq_go_gen ?_
              intro QQ21 hQ21
              refine vc_block_gen ?_
              intro QQ22 hQ22
              refine vc_seq_gen (by kernel_rfl) ?_
              intro QQ23 hQ23
              refine vc_draw ?_
              refine drawM_tail 11 [0, 0, 3, 7, 0, 31, 0, 0, 192, 448, 0, 2047, 4095, 8191] mixed (by kernel_rfl) (of_decide_eq_true (by kernel_rfl)) (by kernel_rfl) ?_
              obtain ⟨xv_37, exv_37, h⟩ := bindO_some h
              obtain ⟨fxv_37a, fxv_37b, fxv_37c⟩ := idx_spec exv_37
              obtain ⟨v_34, ev_34, h⟩ := bindO_some h
              simp only [go_sem, Try.ntmps32, Try.results32, fxv_37a, fxv_37b, fxv_37c]
              refine And.intro (by omega) ?_
              refine callq (fun _ => (f_backwashref32_Measure_ok xv_37 measure_0 v_34 ev_34)) (by rfl) (by rfl) ?_
              obtain ⟨xv_38, exv_38, h⟩ := bindO_some h
              obtain ⟨fxv_38a, fxv_38b, fxv_38c⟩ := idx_spec exv_38
              obtain ⟨v_35, ev_35, h⟩ := bindO_some h
              simp only [go_sem, Try.ntmps32, Try.results32, fxv_38a, fxv_38b, fxv_38c]
              refine And.intro (by omega) ?_
              refine call0 (f_backwashref32_Measure_ok xv_38 measure_0 v_35 ev_35) (by rfl) (by rfl) ?_
              simp only [go_sem, Try.ntmps32, Try.results32]
              refine seqQ_normal hQ23 ?_
              refine vc_seq_gen (by kernel_rfl) ?_
              intro QQ24 hQ24
              refine vc_draw ?_
              refine drawM_tail 18 [0, 0, 3, 7, 15, 15, 63, 127, 255, 255, 1023, 2047, 4095, 255, 255, 24831, 57599, 123135, 262143, 524287, 1048575] mixed (by kernel_rfl) (of_decide_eq_true (by kernel_rfl)) (by kernel_rfl) ?_
              simp only [go_sem, Try.ntmps32, Try.results32]
              rcases hb_73 : (decide (v_35 < v_34)) with _ | _
              ·
                replace h := if_f h hb_73
                simp only [go_sem, Try.ntmps32, Try.results32, hb_73]
                rcases hb_74 : (v_34 == v_35) with _ | _
                ·
                  replace h := if_f h hb_74
                  simp only [go_sem, Try.ntmps32, Try.results32, hb_74]
                  refine seqQ_normal hQ24 ?_
                  refine vc_cond_f (by (simp only [go_sem]; done)) ?_
                  refine vc_skip_of ?_
                  refine blockQ_normal hQ22 ?_
                  refine seqQ_normal hQ21 ?_
                  simp only [go_sem, Try.ntmps32, Try.results32]
                  refine thenQ_normal hQ18 ?_
                  refine ⟨(m_3, best_14, IntKind.i64.wrap (i_11 + 1)), [some 0, some 1], ?_, h, Nat.lt_succ_self _⟩
                  simp only [go_sem, Le] <;> (repeat' apply And.intro) <;> first | omega | (simp [go_sem]; done)
                ·
                  replace h := if_t h hb_74
                  simp only [go_sem, Try.ntmps32, Try.results32, hb_74, fxv_37a, fxv_37b, fxv_37c, fxv_38a, fxv_38b, fxv_38c]
                  refine And.intro (by omega) ?_
                  refine And.intro (by omega) ?_
                  refine seqQ_normal hQ24 ?_
                  refine vc_cond_of (b := (decide (xv_37.K < xv_38.K))) (by (simp only [go_sem]; done)) (fun hb_75 => ?_) (fun hb_75 => ?_)
                  ·
                    replace h := if_t h hb_75
                    simp only [decide_eq_true_eq, decide_eq_false_iff_not, Bool.not_eq_true', Bool.not_eq_false', beq_iff_eq, beq_eq_false_iff_ne, ne_eq, Bool.and_eq_true, Bool.or_eq_true, Int.not_lt, Int.not_le] at hb_75
                    simp only [go_sem, Try.ntmps32, Try.results32]
                    refine blockQ_normal hQ22 ?_
                    refine seqQ_normal hQ21 ?_
                    simp only [go_sem, Try.ntmps32, Try.results32]
                    refine thenQ_normal hQ18 ?_
                    refine ⟨(m_3, i_11, IntKind.i64.wrap (i_11 + 1)), [some 0, some 1], ?_, h, Nat.lt_succ_self _⟩
                    simp only [go_sem, Le] <;> (repeat' apply And.intro) <;> first | omega | (simp [go_sem]; done)
                  ·
                    replace h := if_f h hb_75
                    simp only [decide_eq_true_eq, decide_eq_false_iff_not, Bool.not_eq_true', Bool.not_eq_false', beq_iff_eq, beq_eq_false_iff_ne, ne_eq, Bool.and_eq_true, Bool.or_eq_true, Int.not_lt, Int.not_le] at hb_75
                    refine vc_skip_of ?_
                    refine blockQ_normal hQ22 ?_
                    refine seqQ_normal hQ21 ?_
                    simp only [go_sem, Try.ntmps32, Try.results32]
                    refine thenQ_normal hQ18 ?_
                    refine ⟨(m_3, best_14, IntKind.i64.wrap (i_11 + 1)), [some 0, some 1], ?_, h, Nat.lt_succ_self _⟩
                    simp only [go_sem, Le] <;> (repeat' apply And.intro) <;> first | omega | (simp [go_sem]; done)
              ·
                replace h := if_t h hb_73
                simp only [go_sem, Try.ntmps32, Try.results32, hb_73]
                refine seqQ_normal hQ24 ?_
                refine vc_cond_t (by (simp only [go_sem]; done)) ?_
                simp only [go_sem, Try.ntmps32, Try.results32]
                refine blockQ_normal hQ22 ?_
                refine seqQ_normal hQ21 ?_
                simp only [go_sem, Try.ntmps32, Try.results32]
                refine thenQ_normal hQ18 ?_
                refine ⟨(m_3, i_11, IntKind.i64.wrap (i_11 + 1)), [some 0, some 1], ?_, h, Nat.lt_succ_self _⟩
                simp only [go_sem, Le] <;> (repeat' apply And.intro) <;> first | omega | (simp [go_sem]; done)
            ·
              replace h := if_f h hb_72
              simp only [decide_eq_true_eq, decide_eq_false_iff_not, Bool.not_eq_true', Bool.not_eq_false', beq_iff_eq, beq_eq_false_iff_ne, ne_eq, Bool.and_eq_true, Bool.or_eq_true, Int.not_lt, Int.not_le] at hb_72
              refine vc_exit_of ?_
              refine seqQ_exit hQ19 ?_
              refine thenQ_exit hQ18 ?_
              refine blockQ_exit hQ17 ?_
              refine thenQ_normal hQ15 ?_
              refine ⟨best_14, [some 0, some 1], ?_, h⟩
              simp only [go_sem, Le] <;> (repeat' apply And.intro) <;> first | omega | (simp [go_sem]; done)
        · rintro best_12 h
          try dsimp only at h
          rw [f_backwashref32_First_J2] at h
          refine vc_seq_gen (by kernel_rfl) ?_
          intro QQ14 hQ14
          obtain ⟨xv_32, exv_32, h⟩ := bindO_some h
          obtain ⟨fxv_32a, fxv_32b, fxv_32c⟩ := idx_spec exv_32
          have rf_8 : [[.v (.int .i64 xv_32.K), .v (.int .i64 xv_32.Many), .v (.int .i64 xv_32.Least), .v (.int .i64 xv_32.Top), .v (.int .i64 xv_32.Sum), .v (.bool xv_32.Sure)]] = enc ([xv_32] : List GRow) := by rfl
          obtain ⟨g_11, h⟩ := guardO_some h
          simp only [List.length_cons, List.length_nil, Nat.zero_add, List.length_append] at g_11
          have rf_9 : enc a_2 ++ [[.v (.int .i64 xv_32.K), .v (.int .i64 xv_32.Many), .v (.int .i64 xv_32.Least), .v (.int .i64 xv_32.Top), .v (.int .i64 xv_32.Sum), .v (.bool xv_32.Sure)]] = enc (a_2 ++ ([xv_32] : List GRow)) := by exact (enc_app a_2 ([xv_32] : List GRow)).symm
          simp only [go_sem, Try.ntmps32, Try.results32, fxv_32a, fxv_32b, fxv_32c, g_11, rf_9]
          refine And.intro (by omega) ?_
          simp only [rf_8]
          refine seqQ_normal hQ14 ?_
          refine vc_draw ?_
          refine drawV_all 9 0 [0, 0, 0, 6, 15, 0, 0, 64, 224, 511, 1023] [4, 5] [1, 2, 3, 5, 6, 7, 8] [0, 4] [] mixed (by kernel_rfl) (of_decide_eq_true (by kernel_rfl)) (by kernel_rfl) (by kernel_rfl) (by rfl) ?_
          obtain ⟨g_12, h⟩ := guardO_some h
          obtain ⟨g_13, h⟩ := guardO_some h
          simp only [List.length_cons, List.length_nil, Nat.zero_add, List.length_append] at g_13
          have rf_10 : enc ([] : List GRow) ++ enc (((a_3).drop (0)).take (Int.toNat best_12)) = enc (([] : List GRow) ++ (((a_3).drop (0)).take (Int.toNat best_12))) := by exact (enc_app ([] : List GRow) (((a_3).drop (0)).take (Int.toNat best_12))).symm
          obtain ⟨g_14, h⟩ := guardO_some h
          obtain ⟨g_15, h⟩ := guardO_some h
          simp only [List.length_cons, List.length_nil, Nat.zero_add, List.length_append] at g_15
          have rf_11 : enc (([] : List GRow) ++ (((a_3).drop (0)).take (Int.toNat best_12))) ++ enc (((a_3).drop (Int.toNat (IntKind.i64.wrap (best_12 + 1)))).take (List.length a_3 - Int.toNat (IntKind.i64.wrap (best_12 + 1)))) = enc ((([] : List GRow) ++ (((a_3).drop (0)).take (Int.toNat best_12))) ++ (((a_3).drop (Int.toNat (IntKind.i64.wrap (best_12 + 1)))).take (List.length a_3 - Int.toNat (IntKind.i64.wrap (best_12 + 1))))) := by exact (enc_app (([] : List GRow) ++ (((a_3).drop (0)).take (Int.toNat best_12))) (((a_3).drop (Int.toNat (IntKind.i64.wrap (best_12 + 1)))).take (List.length a_3 - Int.toNat (IntKind.i64.wrap (best_12 + 1))))).symm
          simp only [go_sem, Try.ntmps32, Try.results32, g_12, g_13, rf_10, g_14, g_15, rf_11]
          refine And.intro (by first | omega | assumption) ?_
          refine And.intro (by first | omega | assumption) ?_
          refine And.intro (by first | omega | assumption) ?_
          refine And.intro (by first | omega | assumption) ?_
          refine blockQ_normal hQ12 ?_
          refine thenQ_normal hQ9 ?_
          refine ⟨(m_1, (a_2 ++ ([xv_32] : List GRow)), ((([] : List GRow) ++ (((a_3).drop (0)).take (Int.toNat best_12))) ++ (((a_3).drop (Int.toNat (IntKind.i64.wrap (best_12 + 1)))).take (List.length a_3 - Int.toNat (IntKind.i64.wrap (best_12 + 1)))))), [some 3, some 6], ?_, h, Nat.lt_succ_self _⟩
          simp only [go_sem, Le] <;> (repeat' apply And.intro) <;> first | assumption | omega | (simp [go_sem]; done)
      ·
        replace h := if_f h hb_51
        refine vc_exit_of ?_
        refine seqQ_exit hQ10 ?_
        refine thenQ_exit hQ9 ?_
        refine blockQ_exit hQ8 ?_
        refine seqQ_normal hQ7 ?_
        refine vc_seq_gen (by kernel_rfl) ?_
        intro QQ25 hQ25
        simp only [go_sem, Try.ntmps32, Try.results32]
        refine seqQ_normal hQ25 ?_
        refine vc_ret_of ?_
        simp only [go_sem, Try.ntmps32, Try.results32]
        obtain rfl := Option.some.inj h
        refine retW_det [some 0] ?_
        simp only [go_sem, Le]
theorem f_backwashref32_First_ok (rows_0 : List GRow) (measure_0 : Int) (many_0 : Int)  (r : List GRow) (h : f_backwashref32_First rows_0 measure_0 many_0 = some r) : PureS Try.prog 32 [.sl 6 (enc rows_0), .v (.int .i64 measure_0), .v (.int .i64 many_0)] 0 (.sl 6 (enc r)) := by
  refine (f_backwashref32_First_det rows_0 measure_0 many_0  r h).pure ?_
  simp only [go_sem, Le] <;> (repeat' apply And.intro) <;> (simp [go_sem]; done)
end Go.Proofs.Ytfjjpdjnpmajlaa

namespace Go.Proofs.Ytfjjpdjnpmajlaa
open Go Go.RowKit
set_option maxHeartbeats 2000000
set_option maxRecDepth 100000
set_option linter.unusedSimpArgs false
set_option linter.unusedVariables false
noncomputable def f_backwashlaw32_QueryFirst (rows_0 : List GRow) (measure_0 : Int) (many_0 : Int) : Option Bool :=
  bindO (f_backwashlaw32_awake) (fun (v_0 : Bool) =>
  (if (!v_0) = true then some false
  else guardO (0 ≤ 0 ∧ 0 ≤ (min (List.length rows_0 : Int) 100) ∧ (min (List.length rows_0 : Int) 100) ≤ (List.length rows_0 : Int)) (
  guardO ((List.length ([] : List GRow) + List.length (List.take (Int.toNat (min (List.length rows_0 : Int) 100)) rows_0)) * 48 ≤ 140737488355328) (
  bindO (f_query_First (([] : List GRow) ++ (List.take (Int.toNat (min (List.length rows_0 : Int) 100)) rows_0)) measure_0 many_0) (fun (v_1 : List GRow) =>
  bindO (f_backwashref32_First (List.take (Int.toNat (min (List.length rows_0 : Int) 100)) rows_0) measure_0 many_0) (fun (v_2 : List GRow) =>
  bindO (f_backwashref32_Same v_1 v_2) (fun (v_3 : Bool) =>
  (if v_3 = true then bindO (f_backwashref32_Same (([] : List GRow) ++ (List.take (Int.toNat (min (List.length rows_0 : Int) 100)) rows_0)) (List.take (Int.toNat (min (List.length rows_0 : Int) 100)) rows_0)) (fun (v_4 : Bool) =>
  some v_4)
  else some false))))))))
theorem f_backwashlaw32_QueryFirst_ok (rows_0 : List GRow) (measure_0 : Int) (many_0 : Int)  (r : Bool) (h : f_backwashlaw32_QueryFirst rows_0 measure_0 many_0 = some r) : PureS Try.prog 5 [.sl 6 (enc rows_0), .v (.int .i64 measure_0), .v (.int .i64 many_0)] 0 (.v (.bool r)) := by
  unfold PureS
  refine Spec.of_vc Try.func5 rfl (by kernel_rfl) (by kernel_rfl) ?_
  rw [f_backwashlaw32_QueryFirst] at h
  refine vc_seq_gen (by kernel_rfl) ?_
  intro QQ1 hQ1
  simp only [go_sem, Try.ntmps5, Try.results5]
  refine seqQ_normal hQ1 ?_
  refine vc_seq_gen (by kernel_rfl) ?_
  intro QQ2 hQ2
  refine vc_seq_gen (by kernel_rfl) ?_
  intro QQ3 hQ3
  obtain ⟨v_0, ev_0, h⟩ := bindO_some h
  simp only [go_sem, Try.ntmps5, Try.results5]
  refine call0 (f_backwashlaw32_awake_ok v_0 ev_0) (by rfl) (by rfl) ?_
  simp only [go_sem, Try.ntmps5, Try.results5]
  refine seqQ_normal hQ3 ?_
  refine vc_cond_of (b := (!v_0)) (by (simp only [go_sem]; done)) (fun hb_0 => ?_) (fun hb_0 => ?_)
  ·
    replace h := if_t h hb_0
    simp only [decide_eq_true_eq, decide_eq_false_iff_not, Bool.not_eq_true', Bool.not_eq_false', beq_iff_eq, beq_eq_false_iff_ne, ne_eq, Bool.and_eq_true, Bool.or_eq_true, Int.not_lt, Int.not_le] at hb_0
    refine vc_seq_gen (by kernel_rfl) ?_
    intro QQ4 hQ4
    simp only [go_sem, Try.ntmps5, Try.results5]
    refine seqQ_normal hQ4 ?_
    refine vc_ret_of ?_
    refine seqQ_ret hQ2 ?_
    simp only [go_sem, Try.ntmps5, Try.results5]
    obtain rfl := Option.some.inj h
    refine retW_pure rfl ?_
    simp only [go_sem, Le]
  ·
    replace h := if_f h hb_0
    simp only [decide_eq_true_eq, decide_eq_false_iff_not, Bool.not_eq_true', Bool.not_eq_false', beq_iff_eq, beq_eq_false_iff_ne, ne_eq, Bool.and_eq_true, Bool.or_eq_true, Int.not_lt, Int.not_le] at hb_0
    refine vc_skip_of ?_
    refine seqQ_normal hQ2 ?_
    refine vc_seq_gen (by kernel_rfl) ?_
    intro QQ5 hQ5
    obtain ⟨g_0, h⟩ := guardO_some h
    simp only [go_sem, Try.ntmps5, Try.results5, g_0]
    refine seqQ_normal hQ5 ?_
    refine vc_seq_gen (by kernel_rfl) ?_
    intro QQ6 hQ6
    obtain ⟨g_1, h⟩ := guardO_some h
    simp only [List.length_cons, List.length_nil, Nat.zero_add, List.length_append] at g_1
    have rf_0 : enc ([] : List GRow) ++ enc (List.take (Int.toNat (min (List.length rows_0 : Int) 100)) rows_0) = enc (([] : List GRow) ++ (List.take (Int.toNat (min (List.length rows_0 : Int) 100)) rows_0)) := by exact (enc_app ([] : List GRow) (List.take (Int.toNat (min (List.length rows_0 : Int) 100)) rows_0)).symm
    simp only [go_sem, Try.ntmps5, Try.results5, g_1, rf_0]
    refine seqQ_normal hQ6 ?_
    refine vc_seq_gen (by kernel_rfl) ?_
    intro QQ7 hQ7
    obtain ⟨v_1, ev_1, h⟩ := bindO_some h
    simp only [go_sem, Try.ntmps5, Try.results5]
    refine callF_weak (s' := (⟨0, [(0, .sl 6 (enc (List.take (Int.toNat (min (List.length rows_0 : Int) 100)) rows_0))), (1, .v (.int .i64 measure_0)), (2, .v (.int .i64 many_0)), (6, .v (.bool false)), (7, .sl 6 (enc (([] : List GRow) ++ (List.take (Int.toNat (min (List.length rows_0 : Int) 100)) rows_0)))), (8, .v (.bool v_0)), (9, .v (.bool (!v_0))), (10, .sl 6 (enc rows_0)), (11, .sl 6 (enc rows_0)), (12, .v (.int .i64 (List.length rows_0 : Int))), (13, .v (.int .i64 (min (List.length rows_0 : Int) 100))), (14, .sl 6 (enc (List.take (Int.toNat (min (List.length rows_0 : Int) 100)) rows_0))), (16, .sl 6 (enc (List.take (Int.toNat (min (List.length rows_0 : Int) 100)) rows_0))), (17, .sl 6 (enc (([] : List GRow) ++ (List.take (Int.toNat (min (List.length rows_0 : Int) 100)) rows_0)))), (18, .sl 6 (enc (([] : List GRow) ++ (List.take (Int.toNat (min (List.length rows_0 : Int) 100)) rows_0)))), (19, .v (.int .i64 measure_0)), (20, .v (.int .i64 many_0))], [], 0, 32⟩ : St)) (l := []) (args' := [.sl 6 (enc (([] : List GRow) ++ (List.take (Int.toNat (min (List.length rows_0 : Int) 100)) rows_0))), .v (.int .i64 measure_0), .v (.int .i64 many_0)]) ?_ ?_ (call0 (f_query_First_ok (([] : List GRow) ++ (List.take (Int.toNat (min (List.length rows_0 : Int) 100)) rows_0)) measure_0 many_0 v_1 ev_1) (by rfl) (by rfl) ?_)
    · simp only [go_sem, Le] <;> (repeat' apply And.intro) <;> (exact ⟨_, rfl, Nat.le_of_eq (enc_len _).symm, take_enc _⟩)
    · simp only [go_sem, Le] <;> (repeat' apply And.intro) <;> (exact ⟨_, rfl, Nat.le_of_eq (enc_len _).symm, take_enc _⟩)
    obtain ⟨v_2, ev_2, h⟩ := bindO_some h
    simp only [go_sem, Try.ntmps5, Try.results5]
    refine callD [] (f_backwashref32_First_det (List.take (Int.toNat (min (List.length rows_0 : Int) 100)) rows_0) measure_0 many_0 v_2 ev_2) (by simp) rfl trivial rfl rfl rfl rfl ?_
    obtain ⟨v_3, ev_3, h⟩ := bindO_some h
    simp only [go_sem, Try.ntmps5, Try.results5]
    refine callB (s' := (⟨0, [(0, .sl 6 (enc (List.take (Int.toNat (min (List.length rows_0 : Int) 100)) rows_0))), (1, .v (.int .i64 measure_0)), (2, .v (.int .i64 many_0)), (6, .v (.bool false)), (7, .sl 6 (enc (([] : List GRow) ++ (List.take (Int.toNat (min (List.length rows_0 : Int) 100)) rows_0)))), (8, .v (.bool v_0)), (9, .v (.bool (!v_0))), (10, .sl 6 (enc rows_0)), (11, .sl 6 (enc rows_0)), (12, .v (.int .i64 (List.length rows_0 : Int))), (13, .v (.int .i64 (min (List.length rows_0 : Int) 100))), (14, .sl 6 (enc (List.take (Int.toNat (min (List.length rows_0 : Int) 100)) rows_0))), (16, .sl 6 (enc (List.take (Int.toNat (min (List.length rows_0 : Int) 100)) rows_0))), (17, .sl 6 (enc (([] : List GRow) ++ (List.take (Int.toNat (min (List.length rows_0 : Int) 100)) rows_0)))), (18, .sl 6 (enc (([] : List GRow) ++ (List.take (Int.toNat (min (List.length rows_0 : Int) 100)) rows_0)))), (19, .v (.int .i64 measure_0)), (20, .v (.int .i64 many_0)), (21, .sl 6 (enc v_1)), (22, .sl 6 (enc (List.take (Int.toNat (min (List.length rows_0 : Int) 100)) rows_0))), (23, .v (.int .i64 measure_0)), (24, .v (.int .i64 many_0)), (25, .sl 6 (enc v_2))], [], 0, 32⟩ : St)) (l := []) (args' := [.sl 6 (enc v_1), .sl 6 (enc v_2)]) ?_ ?_ (f_backwashref32_Same_ok v_1 v_2 v_3 ev_3) (by rfl) (by rfl) ?_
    · simp only [go_sem, Le] <;> (repeat' apply And.intro) <;> (simp [go_sem]; done)
    · simp only [go_sem, Le] <;> (repeat' apply And.intro) <;> (simp [go_sem]; done)
    simp only [go_sem, Try.ntmps5, Try.results5]
    rcases hb_1 : v_3 with _ | _
    ·
      replace h := if_f h hb_1
      simp only [go_sem, Try.ntmps5, Try.results5, hb_1]
      refine seqQ_normal hQ7 ?_
      refine vc_ret_of ?_
      simp only [go_sem, Try.ntmps5, Try.results5]
      obtain rfl := Option.some.inj h
      refine retW_pure rfl ?_
      simp only [go_sem, Le]
    ·
      replace h := if_t h hb_1
      obtain ⟨v_4, ev_4, h⟩ := bindO_some h
      simp only [go_sem, Try.ntmps5, Try.results5, hb_1]
      refine call0 (f_backwashref32_Same_ok (([] : List GRow) ++ (List.take (Int.toNat (min (List.length rows_0 : Int) 100)) rows_0)) (List.take (Int.toNat (min (List.length rows_0 : Int) 100)) rows_0) v_4 ev_4) (by rfl) (by rfl) ?_
      simp only [go_sem, Try.ntmps5, Try.results5]
      refine seqQ_normal hQ7 ?_
      refine vc_ret_of ?_
      simp only [go_sem, Try.ntmps5, Try.results5]
      obtain rfl := Option.some.inj h
      refine retW_pure rfl ?_
      simp only [go_sem, Le]
end Go.Proofs.Ytfjjpdjnpmajlaa

