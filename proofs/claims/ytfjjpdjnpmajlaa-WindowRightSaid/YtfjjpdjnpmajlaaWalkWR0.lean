/-
  What functions of the program compute, each told as a plain function that may give nothing, with the proof that the code does so. No condition beyond those that each theorem names.
-/
import Derived.Test.YtfjjpdjnpmajlaaLibD
import Derived.Test.YtfjjpdjnpmajlaaProg
import Derived.Test.YtfjjpdjnpmajlaaLibE
set_option linter.unusedSimpArgs false
set_option linter.unusedVariables false
namespace Go.Proofs.Ytfjjpdjnpmajlaa
open Go Go.RowKit
set_option maxHeartbeats 2000000
set_option maxRecDepth 100000
set_option linter.unusedSimpArgs false
set_option linter.unusedVariables false
theorem ty2_sz : szT Try.prog 2 = 1 := by kernel_rfl
theorem ty2_has : hasT Try.prog 2 = true := by kernel_rfl
theorem ty2_agg : aggT Try.prog 2 = false := by kernel_rfl
theorem ty2_by : bytesT Try.prog 2 = 8 := by kernel_rfl
theorem ty2_k : kindT Try.prog 2 = some .i64 := by kernel_rfl
theorem ty2_n : nilsX Try.prog 2 = [none] := by kernel_rfl
theorem ty2_ar : arrayT Try.prog 2 = none := by kernel_rfl
theorem ty2_z : zeroL Try.prog 2 = some [.int .i64 0] := by kernel_rfl
theorem ty3_sz : szT Try.prog 3 = 1 := by kernel_rfl
theorem ty3_has : hasT Try.prog 3 = true := by kernel_rfl
theorem ty3_agg : aggT Try.prog 3 = false := by kernel_rfl
theorem ty3_by : bytesT Try.prog 3 = 8 := by kernel_rfl
theorem ty3_k : kindT Try.prog 3 = some .i64 := by kernel_rfl
theorem ty3_n : nilsX Try.prog 3 = [none] := by kernel_rfl
theorem ty3_ar : arrayT Try.prog 3 = none := by kernel_rfl
theorem ty3_z : zeroL Try.prog 3 = some [.int .i64 0] := by kernel_rfl
theorem ty4_sz : szT Try.prog 4 = 1 := by kernel_rfl
theorem ty4_has : hasT Try.prog 4 = true := by kernel_rfl
theorem ty4_agg : aggT Try.prog 4 = false := by kernel_rfl
theorem ty4_by : bytesT Try.prog 4 = 1 := by kernel_rfl
theorem ty4_u : Try.prog.underlying 4 = some .bool := by kernel_rfl
theorem ty4_n : nilsX Try.prog 4 = [none] := by kernel_rfl
theorem ty4_ar : arrayT Try.prog 4 = none := by kernel_rfl
theorem ty4_z : zeroL Try.prog 4 = some [.bool false] := by kernel_rfl
theorem ty22_sz : szT Try.prog 22 = 1 := by kernel_rfl
theorem ty22_has : hasT Try.prog 22 = true := by kernel_rfl
theorem ty22_agg : aggT Try.prog 22 = false := by kernel_rfl
theorem ty22_by : bytesT Try.prog 22 = 24 := by kernel_rfl
theorem ty22_e : sliceT Try.prog 22 = some 82 := by kernel_rfl
theorem ty22_n : nilsX Try.prog 22 = [some 4] := by kernel_rfl
theorem ty22_ar : arrayT Try.prog 22 = none := by kernel_rfl
theorem ty22_z : zeroL Try.prog 22 = some [.slice none 0 0] := by kernel_rfl
theorem ty23_sz : szT Try.prog 23 = 1 := by kernel_rfl
theorem ty23_has : hasT Try.prog 23 = true := by kernel_rfl
theorem ty23_agg : aggT Try.prog 23 = false := by kernel_rfl
theorem ty23_by : bytesT Try.prog 23 = 24 := by kernel_rfl
theorem ty23_e : sliceT Try.prog 23 = some 66 := by kernel_rfl
theorem ty23_n : nilsX Try.prog 23 = [some 4] := by kernel_rfl
theorem ty23_ar : arrayT Try.prog 23 = none := by kernel_rfl
theorem ty23_z : zeroL Try.prog 23 = some [.slice none 0 0] := by kernel_rfl
theorem ty24_sz : szT Try.prog 24 = 1 := by kernel_rfl
theorem ty24_has : hasT Try.prog 24 = true := by kernel_rfl
theorem ty24_agg : aggT Try.prog 24 = false := by kernel_rfl
theorem ty24_by : bytesT Try.prog 24 = 24 := by kernel_rfl
theorem ty24_e : sliceT Try.prog 24 = some 3 := by kernel_rfl
theorem ty24_n : nilsX Try.prog 24 = [some 1] := by kernel_rfl
theorem ty24_ar : arrayT Try.prog 24 = none := by kernel_rfl
theorem ty24_z : zeroL Try.prog 24 = some [.slice none 0 0] := by kernel_rfl
theorem ty25_sz : szT Try.prog 25 = 1 := by kernel_rfl
theorem ty25_has : hasT Try.prog 25 = true := by kernel_rfl
theorem ty25_agg : aggT Try.prog 25 = false := by kernel_rfl
theorem ty25_by : bytesT Try.prog 25 = 24 := by kernel_rfl
theorem ty25_e : sliceT Try.prog 25 = some 46 := by kernel_rfl
theorem ty25_n : nilsX Try.prog 25 = [some 4] := by kernel_rfl
theorem ty25_ar : arrayT Try.prog 25 = none := by kernel_rfl
theorem ty25_z : zeroL Try.prog 25 = some [.slice none 0 0] := by kernel_rfl
theorem ty26_sz : szT Try.prog 26 = 1 := by kernel_rfl
theorem ty26_has : hasT Try.prog 26 = true := by kernel_rfl
theorem ty26_agg : aggT Try.prog 26 = false := by kernel_rfl
theorem ty26_by : bytesT Try.prog 26 = 24 := by kernel_rfl
theorem ty26_e : sliceT Try.prog 26 = some 217 := by kernel_rfl
theorem ty26_n : nilsX Try.prog 26 = [some 4] := by kernel_rfl
theorem ty26_ar : arrayT Try.prog 26 = none := by kernel_rfl
theorem ty26_z : zeroL Try.prog 26 = some [.slice none 0 0] := by kernel_rfl
theorem ty28_sz : szT Try.prog 28 = 4 := by kernel_rfl
theorem ty28_has : hasT Try.prog 28 = true := by kernel_rfl
theorem ty28_agg : aggT Try.prog 28 = true := by kernel_rfl
theorem ty28_by : bytesT Try.prog 28 = 96 := by kernel_rfl
theorem ty28_n : nilsX Try.prog 28 = [some 1, some 1, some 4, some 4] := by kernel_rfl
theorem ty28_ar : arrayT Try.prog 28 = none := by kernel_rfl
theorem ty28_f0 : fieldT Try.prog 28 0 = some (0, 24) := by kernel_rfl
theorem ty28_f1 : fieldT Try.prog 28 1 = some (1, 24) := by kernel_rfl
theorem ty28_f2 : fieldT Try.prog 28 2 = some (2, 25) := by kernel_rfl
theorem ty28_f3 : fieldT Try.prog 28 3 = some (3, 26) := by kernel_rfl
theorem ty28_pl : placesL Try.prog 28 = some [(0, 1), (1, 1), (2, 1), (3, 1)] := by kernel_rfl
theorem ty28_z : zeroL Try.prog 28 = some [.slice none 0 0, .slice none 0 0, .slice none 0 0, .slice none 0 0] := by kernel_rfl
theorem ty31_sz : szT Try.prog 31 = 1 := by kernel_rfl
theorem ty31_has : hasT Try.prog 31 = true := by kernel_rfl
theorem ty31_agg : aggT Try.prog 31 = false := by kernel_rfl
theorem ty31_by : bytesT Try.prog 31 = 8 := by kernel_rfl
theorem ty31_k : kindT Try.prog 31 = some .i64 := by kernel_rfl
theorem ty31_n : nilsX Try.prog 31 = [none] := by kernel_rfl
theorem ty31_ar : arrayT Try.prog 31 = none := by kernel_rfl
theorem ty31_z : zeroL Try.prog 31 = some [.int .i64 0] := by kernel_rfl
theorem ty44_sz : szT Try.prog 44 = 1 := by kernel_rfl
theorem ty44_has : hasT Try.prog 44 = true := by kernel_rfl
theorem ty44_agg : aggT Try.prog 44 = false := by kernel_rfl
theorem ty44_by : bytesT Try.prog 44 = 24 := by kernel_rfl
theorem ty44_e : sliceT Try.prog 44 = some 185 := by kernel_rfl
theorem ty44_n : nilsX Try.prog 44 = [some 2] := by kernel_rfl
theorem ty44_ar : arrayT Try.prog 44 = none := by kernel_rfl
theorem ty44_z : zeroL Try.prog 44 = some [.slice none 0 0] := by kernel_rfl
theorem ty46_sz : szT Try.prog 46 = 4 := by kernel_rfl
theorem ty46_has : hasT Try.prog 46 = true := by kernel_rfl
theorem ty46_agg : aggT Try.prog 46 = true := by kernel_rfl
theorem ty46_by : bytesT Try.prog 46 = 48 := by kernel_rfl
theorem ty46_n : nilsX Try.prog 46 = [none, none, none, some 2] := by kernel_rfl
theorem ty46_ar : arrayT Try.prog 46 = none := by kernel_rfl
theorem ty46_f0 : fieldT Try.prog 46 0 = some (0, 3) := by kernel_rfl
theorem ty46_f1 : fieldT Try.prog 46 1 = some (1, 3) := by kernel_rfl
theorem ty46_f2 : fieldT Try.prog 46 2 = some (2, 2) := by kernel_rfl
theorem ty46_f3 : fieldT Try.prog 46 3 = some (3, 44) := by kernel_rfl
theorem ty46_pl : placesL Try.prog 46 = some [(0, 1), (1, 1), (2, 1), (3, 1)] := by kernel_rfl
theorem ty46_z : zeroL Try.prog 46 = some [.int .i64 0, .int .i64 0, .int .i64 0, .slice none 0 0] := by kernel_rfl
theorem ty54_sz : szT Try.prog 54 = 2 := by kernel_rfl
theorem ty54_has : hasT Try.prog 54 = true := by kernel_rfl
theorem ty54_agg : aggT Try.prog 54 = true := by kernel_rfl
theorem ty54_by : bytesT Try.prog 54 = 16 := by kernel_rfl
theorem ty54_n : nilsX Try.prog 54 = [none, none] := by kernel_rfl
theorem ty54_ar : arrayT Try.prog 54 = none := by kernel_rfl
theorem ty54_f0 : fieldT Try.prog 54 0 = some (0, 2) := by kernel_rfl
theorem ty54_f1 : fieldT Try.prog 54 1 = some (1, 2) := by kernel_rfl
theorem ty54_pl : placesL Try.prog 54 = some [(0, 1), (1, 1)] := by kernel_rfl
theorem ty54_z : zeroL Try.prog 54 = some [.int .i64 0, .int .i64 0] := by kernel_rfl
theorem ty66_sz : szT Try.prog 66 = 4 := by kernel_rfl
theorem ty66_has : hasT Try.prog 66 = true := by kernel_rfl
theorem ty66_agg : aggT Try.prog 66 = true := by kernel_rfl
theorem ty66_by : bytesT Try.prog 66 = 32 := by kernel_rfl
theorem ty66_n : nilsX Try.prog 66 = [none, none, none, none] := by kernel_rfl
theorem ty66_ar : arrayT Try.prog 66 = none := by kernel_rfl
theorem ty66_f0 : fieldT Try.prog 66 0 = some (0, 3) := by kernel_rfl
theorem ty66_f1 : fieldT Try.prog 66 1 = some (1, 3) := by kernel_rfl
theorem ty66_f2 : fieldT Try.prog 66 2 = some (2, 54) := by kernel_rfl
theorem ty66_pl : placesL Try.prog 66 = some [(0, 1), (1, 1), (2, 2)] := by kernel_rfl
theorem ty66_z : zeroL Try.prog 66 = some [.int .i64 0, .int .i64 0, .int .i64 0, .int .i64 0] := by kernel_rfl
theorem ty82_sz : szT Try.prog 82 = 4 := by kernel_rfl
theorem ty82_has : hasT Try.prog 82 = true := by kernel_rfl
theorem ty82_agg : aggT Try.prog 82 = true := by kernel_rfl
theorem ty82_by : bytesT Try.prog 82 = 32 := by kernel_rfl
theorem ty82_n : nilsX Try.prog 82 = [none, none, none, none] := by kernel_rfl
theorem ty82_ar : arrayT Try.prog 82 = none := by kernel_rfl
theorem ty82_f0 : fieldT Try.prog 82 0 = some (0, 3) := by kernel_rfl
theorem ty82_f1 : fieldT Try.prog 82 1 = some (1, 3) := by kernel_rfl
theorem ty82_f2 : fieldT Try.prog 82 2 = some (2, 54) := by kernel_rfl
theorem ty82_pl : placesL Try.prog 82 = some [(0, 1), (1, 1), (2, 2)] := by kernel_rfl
theorem ty82_z : zeroL Try.prog 82 = some [.int .i64 0, .int .i64 0, .int .i64 0, .int .i64 0] := by kernel_rfl
theorem ty126_sz : szT Try.prog 126 = 1 := by kernel_rfl
theorem ty126_has : hasT Try.prog 126 = true := by kernel_rfl
theorem ty126_agg : aggT Try.prog 126 = false := by kernel_rfl
theorem ty126_by : bytesT Try.prog 126 = 8 := by kernel_rfl
theorem ty126_k : kindT Try.prog 126 = some .u64 := by kernel_rfl
theorem ty126_n : nilsX Try.prog 126 = [none] := by kernel_rfl
theorem ty126_ar : arrayT Try.prog 126 = none := by kernel_rfl
theorem ty126_z : zeroL Try.prog 126 = some [.int .u64 0] := by kernel_rfl
theorem ty185_sz : szT Try.prog 185 = 2 := by kernel_rfl
theorem ty185_has : hasT Try.prog 185 = true := by kernel_rfl
theorem ty185_agg : aggT Try.prog 185 = true := by kernel_rfl
theorem ty185_by : bytesT Try.prog 185 = 16 := by kernel_rfl
theorem ty185_n : nilsX Try.prog 185 = [none, none] := by kernel_rfl
theorem ty185_ar : arrayT Try.prog 185 = none := by kernel_rfl
theorem ty185_f0 : fieldT Try.prog 185 0 = some (0, 3) := by kernel_rfl
theorem ty185_f1 : fieldT Try.prog 185 1 = some (1, 2) := by kernel_rfl
theorem ty185_pl : placesL Try.prog 185 = some [(0, 1), (1, 1)] := by kernel_rfl
theorem ty185_z : zeroL Try.prog 185 = some [.int .i64 0, .int .i64 0] := by kernel_rfl
theorem ty217_sz : szT Try.prog 217 = 4 := by kernel_rfl
theorem ty217_has : hasT Try.prog 217 = true := by kernel_rfl
theorem ty217_agg : aggT Try.prog 217 = true := by kernel_rfl
theorem ty217_by : bytesT Try.prog 217 = 32 := by kernel_rfl
theorem ty217_n : nilsX Try.prog 217 = [none, none, none, none] := by kernel_rfl
theorem ty217_ar : arrayT Try.prog 217 = none := by kernel_rfl
theorem ty217_f0 : fieldT Try.prog 217 0 = some (0, 3) := by kernel_rfl
theorem ty217_f1 : fieldT Try.prog 217 1 = some (1, 3) := by kernel_rfl
theorem ty217_f2 : fieldT Try.prog 217 2 = some (2, 3) := by kernel_rfl
theorem ty217_f3 : fieldT Try.prog 217 3 = some (3, 4) := by kernel_rfl
theorem ty217_pl : placesL Try.prog 217 = some [(0, 1), (1, 1), (2, 1), (3, 1)] := by kernel_rfl
theorem ty217_z : zeroL Try.prog 217 = some [.int .i64 0, .int .i64 0, .int .i64 0, .bool false] := by kernel_rfl
theorem en3 : entB Try.prog 3 = true := by kernel_rfl
theorem en12 : entB Try.prog 12 = true := by kernel_rfl
theorem en13 : entB Try.prog 13 = true := by kernel_rfl
theorem en14 : entB Try.prog 14 = true := by kernel_rfl
theorem en15 : entB Try.prog 15 = true := by kernel_rfl
theorem en16 : entB Try.prog 16 = true := by kernel_rfl
theorem en17 : entB Try.prog 17 = true := by kernel_rfl
theorem en18 : entB Try.prog 18 = true := by kernel_rfl
theorem en19 : entB Try.prog 19 = true := by kernel_rfl
theorem en20 : entB Try.prog 20 = true := by kernel_rfl
theorem en21 : entB Try.prog 21 = true := by kernel_rfl
theorem en22 : entB Try.prog 22 = true := by kernel_rfl
theorem en36 : entB Try.prog 36 = true := by kernel_rfl
theorem en40 : entB Try.prog 40 = true := by kernel_rfl
theorem en41 : entB Try.prog 41 = true := by kernel_rfl
theorem en42 : entB Try.prog 42 = true := by kernel_rfl
theorem en43 : entB Try.prog 43 = true := by kernel_rfl
theorem en44 : entB Try.prog 44 = true := by kernel_rfl
theorem en45 : entB Try.prog 45 = true := by kernel_rfl
theorem en46 : entB Try.prog 46 = true := by kernel_rfl
theorem en47 : entB Try.prog 47 = true := by kernel_rfl
theorem en48 : entB Try.prog 48 = true := by kernel_rfl
theorem en49 : entB Try.prog 49 = true := by kernel_rfl
theorem en50 : entB Try.prog 50 = true := by kernel_rfl
theorem en51 : entB Try.prog 51 = true := by kernel_rfl
theorem en52 : entB Try.prog 52 = true := by kernel_rfl
theorem en53 : entB Try.prog 53 = true := by kernel_rfl
theorem en62 : entB Try.prog 62 = true := by kernel_rfl
theorem en66 : entB Try.prog 66 = true := by kernel_rfl
theorem en67 : entB Try.prog 67 = true := by kernel_rfl
theorem en75 : entB Try.prog 75 = true := by kernel_rfl
theorem en76 : entB Try.prog 76 = true := by kernel_rfl
theorem en77 : entB Try.prog 77 = true := by kernel_rfl
theorem en78 : entB Try.prog 78 = true := by kernel_rfl
theorem en81 : entB Try.prog 81 = true := by kernel_rfl
theorem en82 : entB Try.prog 82 = true := by kernel_rfl
theorem en83 : entB Try.prog 83 = true := by kernel_rfl
theorem en92 : entB Try.prog 92 = true := by kernel_rfl
theorem en94 : entB Try.prog 94 = true := by kernel_rfl
theorem en103 : entB Try.prog 103 = true := by kernel_rfl
theorem en114 : entB Try.prog 114 = true := by kernel_rfl
@[go_sem] theorem tyb60_0 : (szT Try.prog 2 = 1) ∧ (hasT Try.prog 2 = true) ∧ (aggT Try.prog 2 = false) ∧ (bytesT Try.prog 2 = 8) ∧ (kindT Try.prog 2 = some .i64) ∧ (nilsX Try.prog 2 = [none]) ∧ (arrayT Try.prog 2 = none) ∧ (zeroL Try.prog 2 = some [.int .i64 0]) ∧ (szT Try.prog 3 = 1) ∧ (hasT Try.prog 3 = true) ∧ (aggT Try.prog 3 = false) ∧ (bytesT Try.prog 3 = 8) ∧ (kindT Try.prog 3 = some .i64) ∧ (nilsX Try.prog 3 = [none]) ∧ (arrayT Try.prog 3 = none) ∧ (zeroL Try.prog 3 = some [.int .i64 0]) ∧ (szT Try.prog 4 = 1) ∧ (hasT Try.prog 4 = true) ∧ (aggT Try.prog 4 = false) ∧ (bytesT Try.prog 4 = 1) ∧ (Try.prog.underlying 4 = some .bool) ∧ (nilsX Try.prog 4 = [none]) ∧ (arrayT Try.prog 4 = none) ∧ (zeroL Try.prog 4 = some [.bool false]) ∧ (szT Try.prog 22 = 1) ∧ (hasT Try.prog 22 = true) ∧ (aggT Try.prog 22 = false) ∧ (bytesT Try.prog 22 = 24) ∧ (sliceT Try.prog 22 = some 82) ∧ (nilsX Try.prog 22 = [some 4]) ∧ (arrayT Try.prog 22 = none) ∧ (zeroL Try.prog 22 = some [.slice none 0 0]) ∧ (szT Try.prog 23 = 1) ∧ (hasT Try.prog 23 = true) ∧ (aggT Try.prog 23 = false) ∧ (bytesT Try.prog 23 = 24) ∧ (sliceT Try.prog 23 = some 66) ∧ (nilsX Try.prog 23 = [some 4]) ∧ (arrayT Try.prog 23 = none) ∧ (zeroL Try.prog 23 = some [.slice none 0 0]) ∧ (szT Try.prog 24 = 1) ∧ (hasT Try.prog 24 = true) ∧ (aggT Try.prog 24 = false) ∧ (bytesT Try.prog 24 = 24) ∧ (sliceT Try.prog 24 = some 3) ∧ (nilsX Try.prog 24 = [some 1]) ∧ (arrayT Try.prog 24 = none) ∧ (zeroL Try.prog 24 = some [.slice none 0 0]) ∧ (szT Try.prog 25 = 1) ∧ (hasT Try.prog 25 = true) ∧ (aggT Try.prog 25 = false) ∧ (bytesT Try.prog 25 = 24) ∧ (sliceT Try.prog 25 = some 46) ∧ (nilsX Try.prog 25 = [some 4]) ∧ (arrayT Try.prog 25 = none) ∧ (zeroL Try.prog 25 = some [.slice none 0 0]) ∧ (szT Try.prog 26 = 1) ∧ (hasT Try.prog 26 = true) ∧ (aggT Try.prog 26 = false) ∧ (bytesT Try.prog 26 = 24) := ⟨ty2_sz, ty2_has, ty2_agg, ty2_by, ty2_k, ty2_n, ty2_ar, ty2_z, ty3_sz, ty3_has, ty3_agg, ty3_by, ty3_k, ty3_n, ty3_ar, ty3_z, ty4_sz, ty4_has, ty4_agg, ty4_by, ty4_u, ty4_n, ty4_ar, ty4_z, ty22_sz, ty22_has, ty22_agg, ty22_by, ty22_e, ty22_n, ty22_ar, ty22_z, ty23_sz, ty23_has, ty23_agg, ty23_by, ty23_e, ty23_n, ty23_ar, ty23_z, ty24_sz, ty24_has, ty24_agg, ty24_by, ty24_e, ty24_n, ty24_ar, ty24_z, ty25_sz, ty25_has, ty25_agg, ty25_by, ty25_e, ty25_n, ty25_ar, ty25_z, ty26_sz, ty26_has, ty26_agg, ty26_by⟩
@[go_sem] theorem tyb120_0 : (sliceT Try.prog 26 = some 217) ∧ (nilsX Try.prog 26 = [some 4]) ∧ (arrayT Try.prog 26 = none) ∧ (zeroL Try.prog 26 = some [.slice none 0 0]) ∧ (szT Try.prog 28 = 4) ∧ (hasT Try.prog 28 = true) ∧ (aggT Try.prog 28 = true) ∧ (bytesT Try.prog 28 = 96) ∧ (nilsX Try.prog 28 = [some 1, some 1, some 4, some 4]) ∧ (arrayT Try.prog 28 = none) ∧ (fieldT Try.prog 28 0 = some (0, 24)) ∧ (fieldT Try.prog 28 1 = some (1, 24)) ∧ (fieldT Try.prog 28 2 = some (2, 25)) ∧ (fieldT Try.prog 28 3 = some (3, 26)) ∧ (placesL Try.prog 28 = some [(0, 1), (1, 1), (2, 1), (3, 1)]) ∧ (zeroL Try.prog 28 = some [.slice none 0 0, .slice none 0 0, .slice none 0 0, .slice none 0 0]) ∧ (szT Try.prog 31 = 1) ∧ (hasT Try.prog 31 = true) ∧ (aggT Try.prog 31 = false) ∧ (bytesT Try.prog 31 = 8) ∧ (kindT Try.prog 31 = some .i64) ∧ (nilsX Try.prog 31 = [none]) ∧ (arrayT Try.prog 31 = none) ∧ (zeroL Try.prog 31 = some [.int .i64 0]) ∧ (szT Try.prog 44 = 1) ∧ (hasT Try.prog 44 = true) ∧ (aggT Try.prog 44 = false) ∧ (bytesT Try.prog 44 = 24) ∧ (sliceT Try.prog 44 = some 185) ∧ (nilsX Try.prog 44 = [some 2]) ∧ (arrayT Try.prog 44 = none) ∧ (zeroL Try.prog 44 = some [.slice none 0 0]) ∧ (szT Try.prog 46 = 4) ∧ (hasT Try.prog 46 = true) ∧ (aggT Try.prog 46 = true) ∧ (bytesT Try.prog 46 = 48) ∧ (nilsX Try.prog 46 = [none, none, none, some 2]) ∧ (arrayT Try.prog 46 = none) ∧ (fieldT Try.prog 46 0 = some (0, 3)) ∧ (fieldT Try.prog 46 1 = some (1, 3)) ∧ (fieldT Try.prog 46 2 = some (2, 2)) ∧ (fieldT Try.prog 46 3 = some (3, 44)) ∧ (placesL Try.prog 46 = some [(0, 1), (1, 1), (2, 1), (3, 1)]) ∧ (zeroL Try.prog 46 = some [.int .i64 0, .int .i64 0, .int .i64 0, .slice none 0 0]) ∧ (szT Try.prog 54 = 2) ∧ (hasT Try.prog 54 = true) ∧ (aggT Try.prog 54 = true) ∧ (bytesT Try.prog 54 = 16) ∧ (nilsX Try.prog 54 = [none, none]) ∧ (arrayT Try.prog 54 = none) ∧ (fieldT Try.prog 54 0 = some (0, 2)) ∧ (fieldT Try.prog 54 1 = some (1, 2)) ∧ (placesL Try.prog 54 = some [(0, 1), (1, 1)]) ∧ (zeroL Try.prog 54 = some [.int .i64 0, .int .i64 0]) ∧ (szT Try.prog 66 = 4) ∧ (hasT Try.prog 66 = true) ∧ (aggT Try.prog 66 = true) ∧ (bytesT Try.prog 66 = 32) ∧ (nilsX Try.prog 66 = [none, none, none, none]) ∧ (arrayT Try.prog 66 = none) := ⟨ty26_e, ty26_n, ty26_ar, ty26_z, ty28_sz, ty28_has, ty28_agg, ty28_by, ty28_n, ty28_ar, ty28_f0, ty28_f1, ty28_f2, ty28_f3, ty28_pl, ty28_z, ty31_sz, ty31_has, ty31_agg, ty31_by, ty31_k, ty31_n, ty31_ar, ty31_z, ty44_sz, ty44_has, ty44_agg, ty44_by, ty44_e, ty44_n, ty44_ar, ty44_z, ty46_sz, ty46_has, ty46_agg, ty46_by, ty46_n, ty46_ar, ty46_f0, ty46_f1, ty46_f2, ty46_f3, ty46_pl, ty46_z, ty54_sz, ty54_has, ty54_agg, ty54_by, ty54_n, ty54_ar, ty54_f0, ty54_f1, ty54_pl, ty54_z, ty66_sz, ty66_has, ty66_agg, ty66_by, ty66_n, ty66_ar⟩
@[go_sem] theorem tyb180_0 : (fieldT Try.prog 66 0 = some (0, 3)) ∧ (fieldT Try.prog 66 1 = some (1, 3)) ∧ (fieldT Try.prog 66 2 = some (2, 54)) ∧ (placesL Try.prog 66 = some [(0, 1), (1, 1), (2, 2)]) ∧ (zeroL Try.prog 66 = some [.int .i64 0, .int .i64 0, .int .i64 0, .int .i64 0]) ∧ (szT Try.prog 82 = 4) ∧ (hasT Try.prog 82 = true) ∧ (aggT Try.prog 82 = true) ∧ (bytesT Try.prog 82 = 32) ∧ (nilsX Try.prog 82 = [none, none, none, none]) ∧ (arrayT Try.prog 82 = none) ∧ (fieldT Try.prog 82 0 = some (0, 3)) ∧ (fieldT Try.prog 82 1 = some (1, 3)) ∧ (fieldT Try.prog 82 2 = some (2, 54)) ∧ (placesL Try.prog 82 = some [(0, 1), (1, 1), (2, 2)]) ∧ (zeroL Try.prog 82 = some [.int .i64 0, .int .i64 0, .int .i64 0, .int .i64 0]) ∧ (szT Try.prog 126 = 1) ∧ (hasT Try.prog 126 = true) ∧ (aggT Try.prog 126 = false) ∧ (bytesT Try.prog 126 = 8) ∧ (kindT Try.prog 126 = some .u64) ∧ (nilsX Try.prog 126 = [none]) ∧ (arrayT Try.prog 126 = none) ∧ (zeroL Try.prog 126 = some [.int .u64 0]) ∧ (szT Try.prog 185 = 2) ∧ (hasT Try.prog 185 = true) ∧ (aggT Try.prog 185 = true) ∧ (bytesT Try.prog 185 = 16) ∧ (nilsX Try.prog 185 = [none, none]) ∧ (arrayT Try.prog 185 = none) ∧ (fieldT Try.prog 185 0 = some (0, 3)) ∧ (fieldT Try.prog 185 1 = some (1, 2)) ∧ (placesL Try.prog 185 = some [(0, 1), (1, 1)]) ∧ (zeroL Try.prog 185 = some [.int .i64 0, .int .i64 0]) ∧ (szT Try.prog 217 = 4) ∧ (hasT Try.prog 217 = true) ∧ (aggT Try.prog 217 = true) ∧ (bytesT Try.prog 217 = 32) ∧ (nilsX Try.prog 217 = [none, none, none, none]) ∧ (arrayT Try.prog 217 = none) ∧ (fieldT Try.prog 217 0 = some (0, 3)) ∧ (fieldT Try.prog 217 1 = some (1, 3)) ∧ (fieldT Try.prog 217 2 = some (2, 3)) ∧ (fieldT Try.prog 217 3 = some (3, 4)) ∧ (placesL Try.prog 217 = some [(0, 1), (1, 1), (2, 1), (3, 1)]) ∧ (zeroL Try.prog 217 = some [.int .i64 0, .int .i64 0, .int .i64 0, .bool false]) ∧ (entB Try.prog 3 = true) ∧ (entB Try.prog 12 = true) ∧ (entB Try.prog 13 = true) ∧ (entB Try.prog 14 = true) ∧ (entB Try.prog 15 = true) ∧ (entB Try.prog 16 = true) ∧ (entB Try.prog 17 = true) ∧ (entB Try.prog 18 = true) ∧ (entB Try.prog 19 = true) ∧ (entB Try.prog 20 = true) ∧ (entB Try.prog 21 = true) ∧ (entB Try.prog 22 = true) ∧ (entB Try.prog 36 = true) ∧ (entB Try.prog 40 = true) := ⟨ty66_f0, ty66_f1, ty66_f2, ty66_pl, ty66_z, ty82_sz, ty82_has, ty82_agg, ty82_by, ty82_n, ty82_ar, ty82_f0, ty82_f1, ty82_f2, ty82_pl, ty82_z, ty126_sz, ty126_has, ty126_agg, ty126_by, ty126_k, ty126_n, ty126_ar, ty126_z, ty185_sz, ty185_has, ty185_agg, ty185_by, ty185_n, ty185_ar, ty185_f0, ty185_f1, ty185_pl, ty185_z, ty217_sz, ty217_has, ty217_agg, ty217_by, ty217_n, ty217_ar, ty217_f0, ty217_f1, ty217_f2, ty217_f3, ty217_pl, ty217_z, en3, en12, en13, en14, en15, en16, en17, en18, en19, en20, en21, en22, en36, en40⟩
@[go_sem] theorem tyb240_0 : (entB Try.prog 41 = true) ∧ (entB Try.prog 42 = true) ∧ (entB Try.prog 43 = true) ∧ (entB Try.prog 44 = true) ∧ (entB Try.prog 45 = true) ∧ (entB Try.prog 46 = true) ∧ (entB Try.prog 47 = true) ∧ (entB Try.prog 48 = true) ∧ (entB Try.prog 49 = true) ∧ (entB Try.prog 50 = true) ∧ (entB Try.prog 51 = true) ∧ (entB Try.prog 52 = true) ∧ (entB Try.prog 53 = true) ∧ (entB Try.prog 62 = true) ∧ (entB Try.prog 66 = true) ∧ (entB Try.prog 67 = true) ∧ (entB Try.prog 75 = true) ∧ (entB Try.prog 76 = true) ∧ (entB Try.prog 77 = true) ∧ (entB Try.prog 78 = true) ∧ (entB Try.prog 81 = true) ∧ (entB Try.prog 82 = true) ∧ (entB Try.prog 83 = true) ∧ (entB Try.prog 92 = true) ∧ (entB Try.prog 94 = true) ∧ (entB Try.prog 103 = true) ∧ (entB Try.prog 114 = true) := ⟨en41, en42, en43, en44, en45, en46, en47, en48, en49, en50, en51, en52, en53, en62, en66, en67, en75, en76, en77, en78, en81, en82, en83, en92, en94, en103, en114⟩
theorem mixed : Try.prog.follows .mixedOrders = true := by kernel_rfl
structure GRec where
  K : Int
  V : Int
instance : Row GRec := ⟨2, fun x => [.v (.int .i64 x.K), .v (.int .i64 x.V)]⟩
@[go_sem] theorem row_GRec (x : GRec) : Row.row x = [.v (.int .i64 x.K), .v (.int .i64 x.V)] := rfl
@[go_sem] theorem sz_GRec : Row.sz GRec = 2 := rfl
instance : Dat GRec where
  ct := Dat.ct Int ++ (Dat.ct Int)
  ok x := Dat.ok x.K ∧ Dat.ok x.V
  len := rfl
  of avs h := by
    obtain ⟨b0, r0, rfl, h0, g0⟩ := rowOK_split h
    obtain ⟨x0, rfl, k0⟩ := Dat.of (α := Int) _ h0
    obtain ⟨x1, rfl, k1⟩ := Dat.of (α := Int) _ g0
    exact ⟨⟨x0, x1⟩, rfl, k0, k1⟩
structure GFeed where
  Node : Int
  Epoch : Int
  Rec : GRec
instance : Row GFeed := ⟨4, fun x => [.v (.int .i64 x.Node), .v (.int .i64 x.Epoch), .v (.int .i64 x.Rec.K), .v (.int .i64 x.Rec.V)]⟩
@[go_sem] theorem row_GFeed (x : GFeed) : Row.row x = [.v (.int .i64 x.Node), .v (.int .i64 x.Epoch), .v (.int .i64 x.Rec.K), .v (.int .i64 x.Rec.V)] := rfl
@[go_sem] theorem sz_GFeed : Row.sz GFeed = 4 := rfl
instance : Dat GFeed where
  ct := Dat.ct Int ++ (Dat.ct Int ++ (Dat.ct GRec))
  ok x := Dat.ok x.Node ∧ Dat.ok x.Epoch ∧ Dat.ok x.Rec
  len := rfl
  of avs h := by
    obtain ⟨b0, r0, rfl, h0, g0⟩ := rowOK_split h
    obtain ⟨b1, r1, rfl, h1, g1⟩ := rowOK_split g0
    obtain ⟨x0, rfl, k0⟩ := Dat.of (α := Int) _ h0
    obtain ⟨x1, rfl, k1⟩ := Dat.of (α := Int) _ h1
    obtain ⟨x2, rfl, k2⟩ := Dat.of (α := GRec) _ g1
    exact ⟨⟨x0, x1, x2⟩, rfl, k0, k1, k2⟩
structure GIns where
  Op : Int
  N : Int
instance : Row GIns := ⟨2, fun x => [.v (.int .i64 x.Op), .v (.int .i64 x.N)]⟩
@[go_sem] theorem row_GIns (x : GIns) : Row.row x = [.v (.int .i64 x.Op), .v (.int .i64 x.N)] := rfl
@[go_sem] theorem sz_GIns : Row.sz GIns = 2 := rfl
instance : Dat GIns where
  ct := Dat.ct Int ++ (Dat.ct Int)
  ok x := Dat.ok x.Op ∧ Dat.ok x.N
  len := rfl
  of avs h := by
    obtain ⟨b0, r0, rfl, h0, g0⟩ := rowOK_split h
    obtain ⟨x0, rfl, k0⟩ := Dat.of (α := Int) _ h0
    obtain ⟨x1, rfl, k1⟩ := Dat.of (α := Int) _ g0
    exact ⟨⟨x0, x1⟩, rfl, k0, k1⟩
structure GNode where
  Kind : Int
  Scope : Int
  Arg : Int
  Prog : List GIns
instance : Row GNode := ⟨4, fun x => [.v (.int .i64 x.Kind), .v (.int .i64 x.Scope), .v (.int .i64 x.Arg), .sl 2 (enc x.Prog)]⟩
@[go_sem] theorem row_GNode (x : GNode) : Row.row x = [.v (.int .i64 x.Kind), .v (.int .i64 x.Scope), .v (.int .i64 x.Arg), .sl 2 (enc x.Prog)] := rfl
@[go_sem] theorem sz_GNode : Row.sz GNode = 4 := rfl
instance : Dat GNode where
  ct := Dat.ct Int ++ (Dat.ct Int ++ (Dat.ct Int ++ (Dat.ct (List GIns))))
  ok x := Dat.ok x.Kind ∧ Dat.ok x.Scope ∧ Dat.ok x.Arg ∧ Dat.ok x.Prog
  len := rfl
  of avs h := by
    obtain ⟨b0, r0, rfl, h0, g0⟩ := rowOK_split h
    obtain ⟨b1, r1, rfl, h1, g1⟩ := rowOK_split g0
    obtain ⟨b2, r2, rfl, h2, g2⟩ := rowOK_split g1
    obtain ⟨x0, rfl, k0⟩ := Dat.of (α := Int) _ h0
    obtain ⟨x1, rfl, k1⟩ := Dat.of (α := Int) _ h1
    obtain ⟨x2, rfl, k2⟩ := Dat.of (α := Int) _ h2
    obtain ⟨x3, rfl, k3⟩ := Dat.of (α := List GIns) _ g2
    exact ⟨⟨x0, x1, x2, x3⟩, rfl, k0, k1, k2, k3⟩
structure GEdge where
  From : Int
  To : Int
  Port : Int
  Exchange : Bool
instance : Row GEdge := ⟨4, fun x => [.v (.int .i64 x.From), .v (.int .i64 x.To), .v (.int .i64 x.Port), .v (.bool x.Exchange)]⟩
@[go_sem] theorem row_GEdge (x : GEdge) : Row.row x = [.v (.int .i64 x.From), .v (.int .i64 x.To), .v (.int .i64 x.Port), .v (.bool x.Exchange)] := rfl
@[go_sem] theorem sz_GEdge : Row.sz GEdge = 4 := rfl
instance : Dat GEdge where
  ct := Dat.ct Int ++ (Dat.ct Int ++ (Dat.ct Int ++ (Dat.ct Bool)))
  ok x := Dat.ok x.From ∧ Dat.ok x.To ∧ Dat.ok x.Port ∧ Dat.ok x.Exchange
  len := rfl
  of avs h := by
    obtain ⟨b0, r0, rfl, h0, g0⟩ := rowOK_split h
    obtain ⟨b1, r1, rfl, h1, g1⟩ := rowOK_split g0
    obtain ⟨b2, r2, rfl, h2, g2⟩ := rowOK_split g1
    obtain ⟨x0, rfl, k0⟩ := Dat.of (α := Int) _ h0
    obtain ⟨x1, rfl, k1⟩ := Dat.of (α := Int) _ h1
    obtain ⟨x2, rfl, k2⟩ := Dat.of (α := Int) _ h2
    obtain ⟨x3, rfl, k3⟩ := Dat.of (α := Bool) _ g2
    exact ⟨⟨x0, x1, x2, x3⟩, rfl, k0, k1, k2, k3⟩
structure GGraph where
  Parent : List Int
  Bound : List Int
  Nodes : List GNode
  Edges : List GEdge
instance : Row GGraph := ⟨4, fun x => [.sl 1 (enc x.Parent), .sl 1 (enc x.Bound), .sl 4 (enc x.Nodes), .sl 4 (enc x.Edges)]⟩
@[go_sem] theorem row_GGraph (x : GGraph) : Row.row x = [.sl 1 (enc x.Parent), .sl 1 (enc x.Bound), .sl 4 (enc x.Nodes), .sl 4 (enc x.Edges)] := rfl
@[go_sem] theorem sz_GGraph : Row.sz GGraph = 4 := rfl
instance : Dat GGraph where
  ct := Dat.ct (List Int) ++ (Dat.ct (List Int) ++ (Dat.ct (List GNode) ++ (Dat.ct (List GEdge))))
  ok x := Dat.ok x.Parent ∧ Dat.ok x.Bound ∧ Dat.ok x.Nodes ∧ Dat.ok x.Edges
  len := rfl
  of avs h := by
    obtain ⟨b0, r0, rfl, h0, g0⟩ := rowOK_split h
    obtain ⟨b1, r1, rfl, h1, g1⟩ := rowOK_split g0
    obtain ⟨b2, r2, rfl, h2, g2⟩ := rowOK_split g1
    obtain ⟨x0, rfl, k0⟩ := Dat.of (α := List Int) _ h0
    obtain ⟨x1, rfl, k1⟩ := Dat.of (α := List Int) _ h1
    obtain ⟨x2, rfl, k2⟩ := Dat.of (α := List GNode) _ h2
    obtain ⟨x3, rfl, k3⟩ := Dat.of (α := List GEdge) _ g2
    exact ⟨⟨x0, x1, x2, x3⟩, rfl, k0, k1, k2, k3⟩
structure GOut where
  Node : Int
  Epoch : Int
  Rec : GRec
instance : Row GOut := ⟨4, fun x => [.v (.int .i64 x.Node), .v (.int .i64 x.Epoch), .v (.int .i64 x.Rec.K), .v (.int .i64 x.Rec.V)]⟩
@[go_sem] theorem row_GOut (x : GOut) : Row.row x = [.v (.int .i64 x.Node), .v (.int .i64 x.Epoch), .v (.int .i64 x.Rec.K), .v (.int .i64 x.Rec.V)] := rfl
@[go_sem] theorem sz_GOut : Row.sz GOut = 4 := rfl
instance : Dat GOut where
  ct := Dat.ct Int ++ (Dat.ct Int ++ (Dat.ct GRec))
  ok x := Dat.ok x.Node ∧ Dat.ok x.Epoch ∧ Dat.ok x.Rec
  len := rfl
  of avs h := by
    obtain ⟨b0, r0, rfl, h0, g0⟩ := rowOK_split h
    obtain ⟨b1, r1, rfl, h1, g1⟩ := rowOK_split g0
    obtain ⟨x0, rfl, k0⟩ := Dat.of (α := Int) _ h0
    obtain ⟨x1, rfl, k1⟩ := Dat.of (α := Int) _ h1
    obtain ⟨x2, rfl, k2⟩ := Dat.of (α := GRec) _ g1
    exact ⟨⟨x0, x1, x2⟩, rfl, k0, k1, k2⟩
@[go_sem] theorem eqT66 : EqT Try.prog 66 [some .i64, some .i64, some .i64, some .i64] := EqT_of (by kernel_rfl) (by kernel_rfl) (by kernel_rfl)
@[go_sem] theorem eqT82 : EqT Try.prog 82 [some .i64, some .i64, some .i64, some .i64] := EqT_of (by kernel_rfl) (by kernel_rfl) (by kernel_rfl)
instance : Inhabited GOut := ⟨⟨0, 0, ⟨0, 0⟩⟩⟩
end Go.Proofs.Ytfjjpdjnpmajlaa

namespace Go.Proofs.Ytfjjpdjnpmajlaa
open Go Go.RowKit
set_option maxHeartbeats 2000000
set_option maxRecDepth 100000
set_option linter.unusedSimpArgs false
set_option linter.unusedVariables false
def f_slices_IndexFunc_int_B1 (s_0 : List Int) (f_0 : Int → Option Bool) (rec_1 : Int → Option Int) : Int → Option Int :=
  fun t8_1 =>
  (if (decide (t8_1 < (List.length s_0 : Int))) = true then bindO (idx s_0 t8_1) (fun (xv_2 : Int) =>
  bindO (f_0 xv_2) (fun (v_2 : Bool) =>
  (if v_2 = true then some t8_1
  else rec_1 (IntKind.i64.wrap (t8_1 + 1)))))
  else some (-1))
def f_slices_IndexFunc_int (s_0 : List Int) (f_0 : Int → Option Bool) : Option Int :=
  loopK (f_slices_IndexFunc_int_B1 s_0 f_0) rounds 0
theorem f_slices_IndexFunc_int_ok (s_0 : List Int) (f_0 : Int → Option Bool) (g_f_0 : FuncId) (c_f_0 : List AV) (F_f_0 : idFreeL c_f_0 = true) (E_f_0 : entB Try.prog g_f_0 = true) (H_f_0 : ∀ (x0 : Int) (r : Bool), f_0 x0 = some r → PureS Try.prog g_f_0 ([.v (.int .i64 x0)] ++ c_f_0) 0 (.v (.bool r))) (r : Int) (h : f_slices_IndexFunc_int s_0 f_0 = some r) : PureS Try.prog 103 [.sl 1 (enc s_0), .clo g_f_0 c_f_0] 0 (.v (.int .i64 r)) := by
  unfold PureS
  refine Spec.of_vc Try.func103 rfl (by kernel_rfl) (by kernel_rfl) ?_
  rw [f_slices_IndexFunc_int] at h
  refine vc_seq_gen (by kernel_rfl) ?_
  intro QQ1 hQ1
  simp only [go_sem, Try.ntmps103, Try.results103]
  refine seqQ_normal hQ1 ?_
  refine vc_join (by kernel_rfl) ?_
  refine seq_go_gen ?_
  intro QQ2 hQ2
  refine vc_seq_gen (by kernel_rfl) ?_
  intro QQ3 hQ3
  simp only [go_sem, Try.ntmps103, Try.results103]
  refine seqQ_normal hQ3 ?_
  refine vc_block_gen ?_
  intro QQ4 hQ4
  refine vc_loop_of ?_
  refine loop_gen (ι := Nat × Int) (fun ((_, t8_1) : Nat × Int) => (⟨0, [(0, .sl 1 (enc s_0)), (1, .clo g_f_0 c_f_0), (7, .v (.int .i64 (List.length s_0 : Int))), (8, .v (.int .i64 t8_1))], [], 0, 19⟩ : St)) (fun ((n_, t8_1) : Nat × Int) => loopK (f_slices_IndexFunc_int_B1 s_0 f_0) n_ t8_1 = some r) (fun p => p.1) (rounds, 0) [] ?_ h ?_
  · simp only [go_sem, Le, AvLeL_free _ F_f_0]
  · rintro ⟨n_1, t8_1⟩ h QQ5 hQ5
    dsimp only at h
    replace h := loopK_some h
    obtain ⟨m_1, rfl, h⟩ := h
    rw [f_slices_IndexFunc_int_B1] at h
    refine vc_seq_gen (by kernel_rfl) ?_
    intro QQ6 hQ6
    simp only [go_sem, Try.ntmps103, Try.results103]
    refine seqQ_normal hQ6 ?_
    refine vc_seq_gen (by kernel_rfl) ?_
    intro QQ7 hQ7
    refine vc_cond_of (b := (decide (t8_1 < (List.length s_0 : Int)))) (by (simp only [go_sem]; done)) (fun hb_4 => ?_) (fun hb_4 => ?_)
    ·
      replace h := if_t h hb_4
      simp only [decide_eq_true_eq, decide_eq_false_iff_not, Bool.not_eq_true', Bool.not_eq_false', beq_iff_eq, beq_eq_false_iff_ne, ne_eq, Bool.and_eq_true, Bool.or_eq_true, Int.not_lt, Int.not_le] at hb_4
      refine vc_skip_of ?_
      refine seqQ_normal hQ7 ?_
      refine vc_seq_gen (by kernel_rfl) ?_
      intro QQ8 hQ8
      refine vc_block_gen ?_
      intro QQ9 hQ9
      refine vc_seq_gen (by kernel_rfl) ?_
      intro QQ10 hQ10
      simp only [go_sem, Try.ntmps103, Try.results103]
      refine seqQ_normal hQ10 ?_
      refine vc_seq_gen (by kernel_rfl) ?_
      intro QQ11 hQ11
      obtain ⟨xv_2, exv_2, h⟩ := bindO_some h
      obtain ⟨fxv_2a, fxv_2b, fxv_2c⟩ := idx_spec exv_2
      obtain ⟨v_2, ev_2, h⟩ := bindO_some h
      simp only [go_sem, Try.ntmps103, Try.results103, fxv_2a, fxv_2b, fxv_2c, E_f_0]
      refine And.intro (by omega) ?_
      refine call0 (H_f_0 xv_2 v_2 ev_2) (by rfl) (by simp [idFreeL, idFree, F_f_0]) ?_
      simp only [go_sem, Try.ntmps103, Try.results103]
      refine seqQ_normal hQ11 ?_
      refine vc_cond_of (b := v_2) (by (simp only [go_sem]; done)) (fun hb_5 => ?_) (fun hb_5 => ?_)
      ·
        replace h := if_t h hb_5
        refine vc_seq_gen (by kernel_rfl) ?_
        intro QQ12 hQ12
        simp only [go_sem, Try.ntmps103, Try.results103]
        refine seqQ_normal hQ12 ?_
        refine vc_ret_of ?_
        refine blockQ_ret hQ9 ?_
        refine seqQ_ret hQ8 ?_
        refine thenQ_ret hQ5 ?_
        refine blockQ_ret hQ4 ?_
        refine seqQ_ret hQ2 ?_
        simp only [go_sem, Try.ntmps103, Try.results103]
        obtain rfl := Option.some.inj h
        refine retW_pure rfl ?_
        simp only [go_sem, Le, AvLeL_free _ F_f_0]
      ·
        replace h := if_f h hb_5
        refine vc_skip_of ?_
        refine blockQ_normal hQ9 ?_
        refine seqQ_normal hQ8 ?_
        simp only [go_sem, Try.ntmps103, Try.results103]
        refine thenQ_normal hQ5 ?_
        refine ⟨(m_1, IntKind.i64.wrap (t8_1 + 1)), [], ?_, h, Nat.lt_succ_self _⟩
        simp only [go_sem, Le, AvLeL_free _ F_f_0]
    ·
      replace h := if_f h hb_4
      simp only [decide_eq_true_eq, decide_eq_false_iff_not, Bool.not_eq_true', Bool.not_eq_false', beq_iff_eq, beq_eq_false_iff_ne, ne_eq, Bool.and_eq_true, Bool.or_eq_true, Int.not_lt, Int.not_le] at hb_4
      refine vc_exit_of ?_
      refine seqQ_exit hQ7 ?_
      refine thenQ_exit hQ5 ?_
      refine blockQ_exit hQ4 ?_
      refine seqQ_normal hQ2 ?_
      refine vc_seq_gen (by kernel_rfl) ?_
      intro QQ13 hQ13
      simp only [go_sem, Try.ntmps103, Try.results103]
      refine seqQ_normal hQ13 ?_
      refine vc_ret_of ?_
      simp only [go_sem, Try.ntmps103, Try.results103]
      obtain rfl := Option.some.inj h
      refine retW_pure rfl ?_
      simp only [go_sem, Le, AvLeL_free _ F_f_0]
end Go.Proofs.Ytfjjpdjnpmajlaa

namespace Go.Proofs.Ytfjjpdjnpmajlaa
open Go Go.RowKit
set_option maxHeartbeats 2000000
set_option maxRecDepth 100000
set_option linter.unusedSimpArgs false
set_option linter.unusedVariables false
def f_slices_ContainsFunc_int (s_0 : List Int) (f_0 : Int → Option Bool) : Option Bool :=
  bindO (f_slices_IndexFunc_int s_0 f_0) (fun (v_0 : Int) =>
  some (decide (0 ≤ v_0)))
theorem f_slices_ContainsFunc_int_ok (s_0 : List Int) (f_0 : Int → Option Bool) (g_f_0 : FuncId) (c_f_0 : List AV) (F_f_0 : idFreeL c_f_0 = true) (E_f_0 : entB Try.prog g_f_0 = true) (H_f_0 : ∀ (x0 : Int) (r : Bool), f_0 x0 = some r → PureS Try.prog g_f_0 ([.v (.int .i64 x0)] ++ c_f_0) 0 (.v (.bool r))) (r : Bool) (h : f_slices_ContainsFunc_int s_0 f_0 = some r) : PureS Try.prog 75 [.sl 1 (enc s_0), .clo g_f_0 c_f_0] 0 (.v (.bool r)) := by
  unfold PureS
  refine Spec.of_vc Try.func75 rfl (by kernel_rfl) (by kernel_rfl) ?_
  rw [f_slices_ContainsFunc_int] at h
  refine vc_seq_gen (by kernel_rfl) ?_
  intro QQ1 hQ1
  simp only [go_sem, Try.ntmps75, Try.results75]
  refine seqQ_normal hQ1 ?_
  refine vc_seq_gen (by kernel_rfl) ?_
  intro QQ2 hQ2
  obtain ⟨v_0, ev_0, h⟩ := bindO_some h
  simp only [go_sem, Try.ntmps75, Try.results75]
  refine call0 (f_slices_IndexFunc_int_ok s_0 f_0 g_f_0 c_f_0 F_f_0 E_f_0 H_f_0 v_0 ev_0) (by rfl) (by simp [idFreeL, idFree, F_f_0]) ?_
  simp only [go_sem, Try.ntmps75, Try.results75]
  refine seqQ_normal hQ2 ?_
  refine vc_ret_of ?_
  simp only [go_sem, Try.ntmps75, Try.results75]
  obtain rfl := Option.some.inj h
  refine retW_pure rfl ?_
  simp only [go_sem, Le, AvLeL_free _ F_f_0]
end Go.Proofs.Ytfjjpdjnpmajlaa

namespace Go.Proofs.Ytfjjpdjnpmajlaa
open Go Go.RowKit
set_option maxHeartbeats 2000000
set_option maxRecDepth 100000
set_option linter.unusedSimpArgs false
set_option linter.unusedVariables false
def f_window_sizes_1 (nv_0 : Int) : Option Bool :=
  some ((decide (nv_0 < 1)) || (decide (1024 < nv_0)))
theorem f_window_sizes_1_ok (nv_0 : Int)  (r : Bool) (h : f_window_sizes_1 nv_0 = some r) : PureS Try.prog 76 [.v (.int .i64 nv_0)] 0 (.v (.bool r)) := by
  unfold PureS
  refine Spec.of_vc Try.func76 rfl (by kernel_rfl) (by kernel_rfl) ?_
  rw [f_window_sizes_1] at h
  refine vc_seq_gen (by kernel_rfl) ?_
  intro QQ1 hQ1
  simp only [go_sem, Try.ntmps76, Try.results76]
  refine seqQ_normal hQ1 ?_
  refine vc_seq_gen (by kernel_rfl) ?_
  intro QQ2 hQ2
  simp only [go_sem, Try.ntmps76, Try.results76]
  refine seqQ_normal hQ2 ?_
  refine vc_ret_of ?_
  simp only [go_sem, Try.ntmps76, Try.results76]
  obtain rfl := Option.some.inj h
  refine retW_pure rfl ?_
  simp only [go_sem, Le]
end Go.Proofs.Ytfjjpdjnpmajlaa

namespace Go.Proofs.Ytfjjpdjnpmajlaa
open Go Go.RowKit
set_option maxHeartbeats 2000000
set_option maxRecDepth 100000
set_option linter.unusedSimpArgs false
set_option linter.unusedVariables false
def f_window_sizes (l_0 : List Int) : Option Bool :=
  bindO (f_slices_ContainsFunc_int l_0 (fun x0_ => f_window_sizes_1 x0_)) (fun (v_0 : Bool) =>
  some (!v_0))
theorem f_window_sizes_ok (l_0 : List Int)  (r : Bool) (h : f_window_sizes l_0 = some r) : PureS Try.prog 40 [.sl 1 (enc l_0)] 0 (.v (.bool r)) := by
  unfold PureS
  refine Spec.of_vc Try.func40 rfl (by kernel_rfl) (by kernel_rfl) ?_
  rw [f_window_sizes] at h
  refine vc_seq_gen (by kernel_rfl) ?_
  intro QQ1 hQ1
  simp only [go_sem, Try.ntmps40, Try.results40]
  refine seqQ_normal hQ1 ?_
  refine vc_seq_gen (by kernel_rfl) ?_
  intro QQ2 hQ2
  obtain ⟨v_0, ev_0, h⟩ := bindO_some h
  simp only [go_sem, Try.ntmps40, Try.results40]
  refine call0 (f_slices_ContainsFunc_int_ok l_0 (fun x0_ => f_window_sizes_1 x0_) 76 [] (by rfl) (by kernel_rfl) (fun y0 r_ e_ => f_window_sizes_1_ok y0 r_ e_) v_0 ev_0) (by rfl) (by rfl) ?_
  simp only [go_sem, Try.ntmps40, Try.results40]
  refine seqQ_normal hQ2 ?_
  refine vc_ret_of ?_
  simp only [go_sem, Try.ntmps40, Try.results40]
  obtain rfl := Option.some.inj h
  refine retW_pure rfl ?_
  simp only [go_sem, Le]
end Go.Proofs.Ytfjjpdjnpmajlaa

namespace Go.Proofs.Ytfjjpdjnpmajlaa
open Go Go.RowKit
set_option maxHeartbeats 2000000
set_option maxRecDepth 100000
set_option linter.unusedSimpArgs false
set_option linter.unusedVariables false
def f_slices_IndexFunc_Feed_B1 (s_0 : List GFeed) (f_0 : GFeed → Option Bool) (rec_1 : Int → Option Int) : Int → Option Int :=
  fun t8_1 =>
  (if (decide (t8_1 < (List.length s_0 : Int))) = true then bindO (idx s_0 t8_1) (fun (xv_2 : GFeed) =>
  bindO (f_0 xv_2) (fun (v_2 : Bool) =>
  (if v_2 = true then some t8_1
  else rec_1 (IntKind.i64.wrap (t8_1 + 1)))))
  else some (-1))
def f_slices_IndexFunc_Feed (s_0 : List GFeed) (f_0 : GFeed → Option Bool) : Option Int :=
  loopK (f_slices_IndexFunc_Feed_B1 s_0 f_0) rounds 0
theorem f_slices_IndexFunc_Feed_ok (s_0 : List GFeed) (f_0 : GFeed → Option Bool) (g_f_0 : FuncId) (c_f_0 : List AV) (F_f_0 : idFreeL c_f_0 = true) (E_f_0 : entB Try.prog g_f_0 = true) (H_f_0 : ∀ (x0 : GFeed) (r : Bool), f_0 x0 = some r → PureS Try.prog g_f_0 ([.agg [.v (.int .i64 x0.Node), .v (.int .i64 x0.Epoch), .v (.int .i64 x0.Rec.K), .v (.int .i64 x0.Rec.V)]] ++ c_f_0) 0 (.v (.bool r))) (r : Int) (h : f_slices_IndexFunc_Feed s_0 f_0 = some r) : PureS Try.prog 77 [.sl 4 (enc s_0), .clo g_f_0 c_f_0] 0 (.v (.int .i64 r)) := by
  unfold PureS
  refine Spec.of_vc Try.func77 rfl (by kernel_rfl) (by kernel_rfl) ?_
  rw [f_slices_IndexFunc_Feed] at h
  refine vc_seq_gen (by kernel_rfl) ?_
  intro QQ1 hQ1
  simp only [go_sem, Try.ntmps77, Try.results77]
  refine seqQ_normal hQ1 ?_
  refine vc_join (by kernel_rfl) ?_
  refine seq_go_gen ?_
  intro QQ2 hQ2
  refine vc_seq_gen (by kernel_rfl) ?_
  intro QQ3 hQ3
  simp only [go_sem, Try.ntmps77, Try.results77]
  refine seqQ_normal hQ3 ?_
  refine vc_block_gen ?_
  intro QQ4 hQ4
  refine vc_loop_of ?_
  refine loop_gen (ι := Nat × Int) (fun ((_, t8_1) : Nat × Int) => (⟨0, [(0, .sl 4 (enc s_0)), (1, .clo g_f_0 c_f_0), (7, .v (.int .i64 (List.length s_0 : Int))), (8, .v (.int .i64 t8_1))], [], 0, 19⟩ : St)) (fun ((n_, t8_1) : Nat × Int) => loopK (f_slices_IndexFunc_Feed_B1 s_0 f_0) n_ t8_1 = some r) (fun p => p.1) (rounds, 0) [] ?_ h ?_
  · simp only [go_sem, Le, AvLeL_free _ F_f_0]
  · rintro ⟨n_1, t8_1⟩ h QQ5 hQ5
    dsimp only at h
    replace h := loopK_some h
    obtain ⟨m_1, rfl, h⟩ := h
    rw [f_slices_IndexFunc_Feed_B1] at h
    refine vc_seq_gen (by kernel_rfl) ?_
    intro QQ6 hQ6
    simp only [go_sem, Try.ntmps77, Try.results77]
    refine seqQ_normal hQ6 ?_
    refine vc_seq_gen (by kernel_rfl) ?_
    intro QQ7 hQ7
    refine vc_cond_of (b := (decide (t8_1 < (List.length s_0 : Int)))) (by (simp only [go_sem]; done)) (fun hb_4 => ?_) (fun hb_4 => ?_)
    ·
      replace h := if_t h hb_4
      simp only [decide_eq_true_eq, decide_eq_false_iff_not, Bool.not_eq_true', Bool.not_eq_false', beq_iff_eq, beq_eq_false_iff_ne, ne_eq, Bool.and_eq_true, Bool.or_eq_true, Int.not_lt, Int.not_le] at hb_4
      refine vc_skip_of ?_
      refine seqQ_normal hQ7 ?_
      refine vc_seq_gen (by kernel_rfl) ?_
      intro QQ8 hQ8
      refine vc_block_gen ?_
      intro QQ9 hQ9
      refine vc_seq_gen (by kernel_rfl) ?_
      intro QQ10 hQ10
      simp only [go_sem, Try.ntmps77, Try.results77]
      refine seqQ_normal hQ10 ?_
      refine vc_seq_gen (by kernel_rfl) ?_
      intro QQ11 hQ11
      obtain ⟨xv_2, exv_2, h⟩ := bindO_some h
      obtain ⟨fxv_2a, fxv_2b, fxv_2c⟩ := idx_spec exv_2
      obtain ⟨v_2, ev_2, h⟩ := bindO_some h
      simp only [go_sem, Try.ntmps77, Try.results77, fxv_2a, fxv_2b, fxv_2c, E_f_0]
      refine And.intro (by omega) ?_
      refine call0 (H_f_0 xv_2 v_2 ev_2) (by rfl) (by simp [idFreeL, idFree, F_f_0]) ?_
      simp only [go_sem, Try.ntmps77, Try.results77]
      refine seqQ_normal hQ11 ?_
      refine vc_cond_of (b := v_2) (by (simp only [go_sem]; done)) (fun hb_5 => ?_) (fun hb_5 => ?_)
      ·
        replace h := if_t h hb_5
        refine vc_seq_gen (by kernel_rfl) ?_
        intro QQ12 hQ12
        simp only [go_sem, Try.ntmps77, Try.results77]
        refine seqQ_normal hQ12 ?_
        refine vc_ret_of ?_
        refine blockQ_ret hQ9 ?_
        refine seqQ_ret hQ8 ?_
        refine thenQ_ret hQ5 ?_
        refine blockQ_ret hQ4 ?_
        refine seqQ_ret hQ2 ?_
        simp only [go_sem, Try.ntmps77, Try.results77]
        obtain rfl := Option.some.inj h
        refine retW_pure rfl ?_
        simp only [go_sem, Le, AvLeL_free _ F_f_0]
      ·
        replace h := if_f h hb_5
        refine vc_skip_of ?_
        refine blockQ_normal hQ9 ?_
        refine seqQ_normal hQ8 ?_
        simp only [go_sem, Try.ntmps77, Try.results77]
        refine thenQ_normal hQ5 ?_
        refine ⟨(m_1, IntKind.i64.wrap (t8_1 + 1)), [], ?_, h, Nat.lt_succ_self _⟩
        simp only [go_sem, Le, AvLeL_free _ F_f_0]
    ·
      replace h := if_f h hb_4
      simp only [decide_eq_true_eq, decide_eq_false_iff_not, Bool.not_eq_true', Bool.not_eq_false', beq_iff_eq, beq_eq_false_iff_ne, ne_eq, Bool.and_eq_true, Bool.or_eq_true, Int.not_lt, Int.not_le] at hb_4
      refine vc_exit_of ?_
      refine seqQ_exit hQ7 ?_
      refine thenQ_exit hQ5 ?_
      refine blockQ_exit hQ4 ?_
      refine seqQ_normal hQ2 ?_
      refine vc_seq_gen (by kernel_rfl) ?_
      intro QQ13 hQ13
      simp only [go_sem, Try.ntmps77, Try.results77]
      refine seqQ_normal hQ13 ?_
      refine vc_ret_of ?_
      simp only [go_sem, Try.ntmps77, Try.results77]
      obtain rfl := Option.some.inj h
      refine retW_pure rfl ?_
      simp only [go_sem, Le, AvLeL_free _ F_f_0]
end Go.Proofs.Ytfjjpdjnpmajlaa

namespace Go.Proofs.Ytfjjpdjnpmajlaa
open Go Go.RowKit
set_option maxHeartbeats 2000000
set_option maxRecDepth 100000
set_option linter.unusedSimpArgs false
set_option linter.unusedVariables false
def f_slices_ContainsFunc_Feed (s_0 : List GFeed) (f_0 : GFeed → Option Bool) : Option Bool :=
  bindO (f_slices_IndexFunc_Feed s_0 f_0) (fun (v_0 : Int) =>
  some (decide (0 ≤ v_0)))
theorem f_slices_ContainsFunc_Feed_ok (s_0 : List GFeed) (f_0 : GFeed → Option Bool) (g_f_0 : FuncId) (c_f_0 : List AV) (F_f_0 : idFreeL c_f_0 = true) (E_f_0 : entB Try.prog g_f_0 = true) (H_f_0 : ∀ (x0 : GFeed) (r : Bool), f_0 x0 = some r → PureS Try.prog g_f_0 ([.agg [.v (.int .i64 x0.Node), .v (.int .i64 x0.Epoch), .v (.int .i64 x0.Rec.K), .v (.int .i64 x0.Rec.V)]] ++ c_f_0) 0 (.v (.bool r))) (r : Bool) (h : f_slices_ContainsFunc_Feed s_0 f_0 = some r) : PureS Try.prog 41 [.sl 4 (enc s_0), .clo g_f_0 c_f_0] 0 (.v (.bool r)) := by
  unfold PureS
  refine Spec.of_vc Try.func41 rfl (by kernel_rfl) (by kernel_rfl) ?_
  rw [f_slices_ContainsFunc_Feed] at h
  refine vc_seq_gen (by kernel_rfl) ?_
  intro QQ1 hQ1
  simp only [go_sem, Try.ntmps41, Try.results41]
  refine seqQ_normal hQ1 ?_
  refine vc_seq_gen (by kernel_rfl) ?_
  intro QQ2 hQ2
  obtain ⟨v_0, ev_0, h⟩ := bindO_some h
  simp only [go_sem, Try.ntmps41, Try.results41]
  refine call0 (f_slices_IndexFunc_Feed_ok s_0 f_0 g_f_0 c_f_0 F_f_0 E_f_0 H_f_0 v_0 ev_0) (by rfl) (by simp [idFreeL, idFree, F_f_0]) ?_
  simp only [go_sem, Try.ntmps41, Try.results41]
  refine seqQ_normal hQ2 ?_
  refine vc_ret_of ?_
  simp only [go_sem, Try.ntmps41, Try.results41]
  obtain rfl := Option.some.inj h
  refine retW_pure rfl ?_
  simp only [go_sem, Le, AvLeL_free _ F_f_0]
end Go.Proofs.Ytfjjpdjnpmajlaa

namespace Go.Proofs.Ytfjjpdjnpmajlaa
open Go Go.RowKit
set_option maxHeartbeats 2000000
set_option maxRecDepth 100000
set_option linter.unusedSimpArgs false
set_option linter.unusedVariables false
def f_window_epoch (e_0 : Int) : Option Bool :=
  some ((decide (0 ≤ e_0)) && (decide (e_0 ≤ 1048576)))
theorem f_window_epoch_ok (e_0 : Int)  (r : Bool) (h : f_window_epoch e_0 = some r) : PureS Try.prog 43 [.v (.int .i64 e_0)] 0 (.v (.bool r)) := by
  unfold PureS
  refine Spec.of_vc Try.func43 rfl (by kernel_rfl) (by kernel_rfl) ?_
  rw [f_window_epoch] at h
  refine vc_seq_gen (by kernel_rfl) ?_
  intro QQ1 hQ1
  simp only [go_sem, Try.ntmps43, Try.results43]
  refine seqQ_normal hQ1 ?_
  refine vc_seq_gen (by kernel_rfl) ?_
  intro QQ2 hQ2
  simp only [go_sem, Try.ntmps43, Try.results43]
  refine seqQ_normal hQ2 ?_
  refine vc_ret_of ?_
  simp only [go_sem, Try.ntmps43, Try.results43]
  obtain rfl := Option.some.inj h
  refine retW_pure rfl ?_
  simp only [go_sem, Le]
end Go.Proofs.Ytfjjpdjnpmajlaa

namespace Go.Proofs.Ytfjjpdjnpmajlaa
open Go Go.RowKit
set_option maxHeartbeats 2000000
set_option maxRecDepth 100000
set_option linter.unusedSimpArgs false
set_option linter.unusedVariables false
def f_window_Slide_1 (f_0 : GFeed) : Option Bool :=
  bindO (f_window_epoch f_0.Epoch) (fun (v_0 : Bool) =>
  some (!v_0))
theorem f_window_Slide_1_ok (f_0 : GFeed)  (r : Bool) (h : f_window_Slide_1 f_0 = some r) : PureS Try.prog 42 [.agg [.v (.int .i64 f_0.Node), .v (.int .i64 f_0.Epoch), .v (.int .i64 f_0.Rec.K), .v (.int .i64 f_0.Rec.V)]] 0 (.v (.bool r)) := by
  unfold PureS
  refine Spec.of_vc Try.func42 rfl (by kernel_rfl) (by kernel_rfl) ?_
  rw [f_window_Slide_1] at h
  refine vc_seq_gen (by kernel_rfl) ?_
  intro QQ1 hQ1
  simp only [go_sem, Try.ntmps42, Try.results42]
  refine seqQ_normal hQ1 ?_
  refine vc_seq_gen (by kernel_rfl) ?_
  intro QQ2 hQ2
  obtain ⟨v_0, ev_0, h⟩ := bindO_some h
  simp only [go_sem, Try.ntmps42, Try.results42]
  refine call0 (f_window_epoch_ok f_0.Epoch v_0 ev_0) (by rfl) (by rfl) ?_
  simp only [go_sem, Try.ntmps42, Try.results42]
  refine seqQ_normal hQ2 ?_
  refine vc_ret_of ?_
  simp only [go_sem, Try.ntmps42, Try.results42]
  obtain rfl := Option.some.inj h
  refine retW_pure rfl ?_
  simp only [go_sem, Le]
end Go.Proofs.Ytfjjpdjnpmajlaa

namespace Go.Proofs.Ytfjjpdjnpmajlaa
open Go Go.RowKit
set_option maxHeartbeats 2000000
set_option maxRecDepth 100000
set_option linter.unusedSimpArgs false
set_option linter.unusedVariables false
def f_window_first (e_0 : Int) (size_0 : Int) (step_0 : Int) : Option Int :=
  (if (decide (e_0 < size_0)) = true then some 0
  else guardO (step_0 ≠ 0) (
  some (IntKind.i64.wrap ((IntKind.i64.wrap (Int.tdiv (IntKind.i64.wrap (e_0 - size_0)) step_0)) + 1))))
theorem f_window_first_ok (e_0 : Int) (size_0 : Int) (step_0 : Int)  (r : Int) (h : f_window_first e_0 size_0 step_0 = some r) : PureS Try.prog 44 [.v (.int .i64 e_0), .v (.int .i64 size_0), .v (.int .i64 step_0)] 0 (.v (.int .i64 r)) := by
  unfold PureS
  refine Spec.of_vc Try.func44 rfl (by kernel_rfl) (by kernel_rfl) ?_
  rw [f_window_first] at h
  refine vc_seq_gen (by kernel_rfl) ?_
  intro QQ1 hQ1
  simp only [go_sem, Try.ntmps44, Try.results44]
  refine seqQ_normal hQ1 ?_
  refine vc_seq_gen (by kernel_rfl) ?_
  intro QQ2 hQ2
  refine vc_seq_gen (by kernel_rfl) ?_
  intro QQ3 hQ3
  simp only [go_sem, Try.ntmps44, Try.results44]
  refine seqQ_normal hQ3 ?_
  refine vc_cond_of (b := (decide (e_0 < size_0))) (by (simp only [go_sem]; done)) (fun hb_0 => ?_) (fun hb_0 => ?_)
  ·
    replace h := if_t h hb_0
    simp only [decide_eq_true_eq, decide_eq_false_iff_not, Bool.not_eq_true', Bool.not_eq_false', beq_iff_eq, beq_eq_false_iff_ne, ne_eq, Bool.and_eq_true, Bool.or_eq_true, Int.not_lt, Int.not_le] at hb_0
    refine vc_seq_gen (by kernel_rfl) ?_
    intro QQ4 hQ4
    simp only [go_sem, Try.ntmps44, Try.results44]
    refine seqQ_normal hQ4 ?_
    refine vc_ret_of ?_
    refine seqQ_ret hQ2 ?_
    simp only [go_sem, Try.ntmps44, Try.results44]
    obtain rfl := Option.some.inj h
    refine retW_pure rfl ?_
    simp only [go_sem, Le]
  ·
    replace h := if_f h hb_0
    simp only [decide_eq_true_eq, decide_eq_false_iff_not, Bool.not_eq_true', Bool.not_eq_false', beq_iff_eq, beq_eq_false_iff_ne, ne_eq, Bool.and_eq_true, Bool.or_eq_true, Int.not_lt, Int.not_le] at hb_0
    refine vc_skip_of ?_
    refine seqQ_normal hQ2 ?_
    refine vc_seq_gen (by kernel_rfl) ?_
    intro QQ5 hQ5
    obtain ⟨g_0, h⟩ := guardO_some h
    simp only [go_sem, Try.ntmps44, Try.results44, g_0]
    refine seqQ_normal hQ5 ?_
    refine vc_ret_of ?_
    simp only [go_sem, Try.ntmps44, Try.results44]
    obtain rfl := Option.some.inj h
    refine retW_pure rfl ?_
    simp only [go_sem, Le]
end Go.Proofs.Ytfjjpdjnpmajlaa

namespace Go.Proofs.Ytfjjpdjnpmajlaa
open Go Go.RowKit
set_option maxHeartbeats 2000000
set_option maxRecDepth 100000
set_option linter.unusedSimpArgs false
set_option linter.unusedVariables false
def f_window_Slide_B2 (step_0 : Int) (t24_1 : Int) (rec_1 : (Int × (List GFeed) → Option ((List GFeed) × Int))) (xv_2 : GFeed) (rec_2 : Int × (List GFeed) × GFeed → Option ((List GFeed) × Int)) : Int × (List GFeed) × GFeed → Option ((List GFeed) × Int) :=
  fun (w_5, a_7, b_5) =>
  (if (decide ((IntKind.i64.wrap (w_5 * step_0)) ≤ xv_2.Epoch)) = true then (if ((List.length a_7 : Int) == 65536) = true then some (([] : List GFeed), 9)
  else guardO ((List.length a_7 + List.length ([(⟨b_5.Node, w_5, b_5.Rec⟩ : GFeed)] : List GFeed)) * 32 ≤ 140737488355328) (
  rec_2 (IntKind.i64.wrap (w_5 + 1), (a_7 ++ ([(⟨b_5.Node, w_5, b_5.Rec⟩ : GFeed)] : List GFeed)), (⟨b_5.Node, w_5, b_5.Rec⟩ : GFeed))))
  else rec_1 (IntKind.i64.wrap (t24_1 + 1), a_7))
def f_window_Slide_B1 (l_0 : List GFeed) (size_0 : Int) (step_0 : Int) (rec_1 : Int × (List GFeed) → Option ((List GFeed) × Int)) : Int × (List GFeed) → Option ((List GFeed) × Int) :=
  fun (t24_1, a_5) =>
  (if (decide (t24_1 < (List.length l_0 : Int))) = true then bindO (idx l_0 t24_1) (fun (xv_2 : GFeed) =>
  bindO (f_window_first xv_2.Epoch size_0 step_0) (fun (v_4 : Int) =>
  loopK (f_window_Slide_B2 step_0 t24_1 rec_1 xv_2) rounds (v_4, a_5, xv_2)))
  else some (a_5, 0))
def f_window_Slide (l_0 : List GFeed) (size_0 : Int) (step_0 : Int) : Option ((List GFeed) × Int) :=
  bindO (f_window_sizes ([size_0, step_0] : List Int)) (fun (v_0 : Bool) =>
  (if v_0 = true then bindO (f_slices_ContainsFunc_Feed l_0 (fun x0_ => f_window_Slide_1 x0_)) (fun (v_1 : Bool) =>
  (if v_1 = true then some (([] : List GFeed), 1)
  else loopK (f_window_Slide_B1 l_0 size_0 step_0) rounds (0, [])))
  else some (([] : List GFeed), 1)))
theorem f_window_Slide_det (l_0 : List GFeed) (size_0 : Int) (step_0 : Int)  (r : (List GFeed) × Int) (h : f_window_Slide l_0 size_0 step_0 = some r) : DetS Try.prog 14 [.sl 4 (enc l_0), .v (.int .i64 size_0), .v (.int .i64 step_0)] [] 0 (.tup [.osl 0 4 (0) (List.length r.1), .v (.int .i64 r.2)]) [(0, .arr 4 (enc r.1))] 1 := by
  unfold DetS
  refine Spec.of_vc Try.func14 rfl (by kernel_rfl) (by kernel_rfl) ?_
  rw [f_window_Slide] at h
  refine vc_seq_gen (by kernel_rfl) ?_
  intro QQ1 hQ1
  simp only [go_sem, Try.ntmps14, Try.results14]
  refine seqQ_normal hQ1 ?_
  refine vc_seq_gen (by kernel_rfl) ?_
  intro QQ2 hQ2
  refine vc_seq_gen (by kernel_rfl) ?_
  intro QQ3 hQ3
  have rf_0 : [[.v (.int .i64 size_0)], [.v (.int .i64 step_0)]] = enc ([size_0, step_0] : List Int) := by rfl
  obtain ⟨v_0, ev_0, h⟩ := bindO_some h
  simp only [go_sem, Try.ntmps14, Try.results14]
  simp only [rf_0]
  refine callB (s' := (⟨0, [(0, .sl 4 (enc l_0)), (1, .v (.int .i64 size_0)), (2, .v (.int .i64 step_0)), (6, .v (.slice none 0 0)), (7, .v (.int .i64 0)), (13, .v (.int .i64 size_0)), (14, .v (.int .i64 step_0)), (15, .sl 1 (enc ([size_0, step_0] : List Int)))], [], 0, 52⟩ : St)) (l := []) (args' := [.sl 1 (enc ([size_0, step_0] : List Int))]) ?_ ?_ (f_window_sizes_ok ([size_0, step_0] : List Int) v_0 ev_0) (by rfl) (by rfl) ?_
  · simp only [go_sem, Le] <;> (repeat' apply And.intro) <;> (simp [go_sem]; done)
  · simp only [go_sem, Le] <;> (repeat' apply And.intro) <;> (simp [go_sem]; done)
  simp only [go_sem, Try.ntmps14, Try.results14]
  rcases hb_0 : v_0 with _ | _
  ·
    replace h := if_f h hb_0
    simp only [go_sem, Try.ntmps14, Try.results14, hb_0]
    refine seqQ_normal hQ3 ?_
    refine vc_cond_t (by (simp only [go_sem]; done)) ?_
    refine vc_seq_gen (by kernel_rfl) ?_
    intro QQ4 hQ4
    simp only [go_sem, Try.ntmps14, Try.results14]
    refine seqQ_normal hQ4 ?_
    refine vc_ret_of ?_
    refine seqQ_ret hQ2 ?_
    simp only [go_sem, Try.ntmps14, Try.results14]
    obtain rfl := Option.some.inj h
    refine retW_det [none] ?_
    simp only [go_sem, Le] <;> (repeat' apply And.intro) <;> (simp [go_sem]; done)
  ·
    replace h := if_t h hb_0
    obtain ⟨v_1, ev_1, h⟩ := bindO_some h
    simp only [go_sem, Try.ntmps14, Try.results14, hb_0]
    refine call0 (f_slices_ContainsFunc_Feed_ok l_0 (fun x0_ => f_window_Slide_1 x0_) 42 [] (by rfl) (by kernel_rfl) (fun y0 r_ e_ => f_window_Slide_1_ok y0 r_ e_) v_1 ev_1) (by rfl) (by rfl) ?_
    simp only [go_sem, Try.ntmps14, Try.results14]
    refine seqQ_normal hQ3 ?_
    refine vc_cond_of (b := v_1) (by (simp only [go_sem]; done)) (fun hb_1 => ?_) (fun hb_1 => ?_)
    ·
      replace h := if_t h hb_1
      refine vc_seq_gen (by kernel_rfl) ?_
      intro QQ5 hQ5
      simp only [go_sem, Try.ntmps14, Try.results14]
      refine seqQ_normal hQ5 ?_
      refine vc_ret_of ?_
      refine seqQ_ret hQ2 ?_
      simp only [go_sem, Try.ntmps14, Try.results14]
      obtain rfl := Option.some.inj h
      refine retW_det [none] ?_
      simp only [go_sem, Le] <;> (repeat' apply And.intro) <;> (simp [go_sem]; done)
    ·
      replace h := if_f h hb_1
      refine vc_skip_of ?_
      refine seqQ_normal hQ2 ?_
      refine vc_seq_gen (by kernel_rfl) ?_
      intro QQ6 hQ6
      simp only [go_sem, Try.ntmps14, Try.results14]
      refine seqQ_normal hQ6 ?_
      refine vc_join (by kernel_rfl) ?_
      refine seq_go_gen ?_
      intro QQ7 hQ7
      refine vc_seq_gen (by kernel_rfl) ?_
      intro QQ8 hQ8
      simp only [go_sem, Try.ntmps14, Try.results14]
      refine seqQ_normal hQ8 ?_
      refine vc_block_gen ?_
      intro QQ9 hQ9
      refine vc_loop_of ?_
      refine loop_gen (ι := Nat × Int × (List GFeed)) (fun ((_, t24_1, a_5) : Nat × Int × (List GFeed)) => (⟨0, [(1, .v (.int .i64 size_0)), (2, .v (.int .i64 step_0)), (8, .osl 0 4 (0) (List.length a_5)), (22, .sl 4 (enc l_0)), (23, .v (.int .i64 (List.length l_0 : Int))), (24, .v (.int .i64 t24_1))], [(0, .arr 4 (enc a_5))], 1, 52⟩ : St)) (fun ((n_, t24_1, a_5) : Nat × Int × (List GFeed)) => loopK (f_window_Slide_B1 l_0 size_0 step_0) n_ (t24_1, a_5) = some r) (fun p => p.1) (rounds, 0, []) [none] ?_ h ?_
      · simp only [go_sem, Le] <;> (repeat' apply And.intro) <;> (simp [go_sem]; done)
      · rintro ⟨n_1, t24_1, a_5⟩ h QQ10 hQ10
        dsimp only at h
        replace h := loopK_some h
        obtain ⟨m_1, rfl, h⟩ := h
        rw [f_window_Slide_B1] at h
        refine vc_seq_gen (by kernel_rfl) ?_
        intro QQ11 hQ11
        simp only [go_sem, Try.ntmps14, Try.results14]
        refine seqQ_normal hQ11 ?_
        refine vc_seq_gen (by kernel_rfl) ?_
        intro QQ12 hQ12
        refine vc_cond_of (b := (decide (t24_1 < (List.length l_0 : Int)))) (by (simp only [go_sem]; done)) (fun hb_15 => ?_) (fun hb_15 => ?_)
        ·
          replace h := if_t h hb_15
          simp only [decide_eq_true_eq, decide_eq_false_iff_not, Bool.not_eq_true', Bool.not_eq_false', beq_iff_eq, beq_eq_false_iff_ne, ne_eq, Bool.and_eq_true, Bool.or_eq_true, Int.not_lt, Int.not_le] at hb_15
          refine vc_skip_of ?_
          refine seqQ_normal hQ12 ?_
          refine vc_join (by kernel_rfl) ?_
          refine seq_go_gen ?_
          intro QQ13 hQ13
          refine vc_block_gen ?_
          intro QQ14 hQ14
          refine vc_seq_gen (by kernel_rfl) ?_
          intro QQ15 hQ15
          obtain ⟨xv_2, exv_2, h⟩ := bindO_some h
          obtain ⟨fxv_2a, fxv_2b, fxv_2c⟩ := idx_spec exv_2
          simp only [go_sem, Try.ntmps14, Try.results14, fxv_2a, fxv_2b, fxv_2c]
          refine And.intro (by omega) ?_
          refine seqQ_normal hQ15 ?_
          refine vc_seq_gen (by kernel_rfl) ?_
          intro QQ16 hQ16
          simp only [go_sem, Try.ntmps14, Try.results14]
          refine seqQ_normal hQ16 ?_
          refine vc_seq_gen (by kernel_rfl) ?_
          intro QQ17 hQ17
          obtain ⟨v_4, ev_4, h⟩ := bindO_some h
          simp only [go_sem, Try.ntmps14, Try.results14]
          refine call0 (f_window_first_ok xv_2.Epoch size_0 step_0 v_4 ev_4) (by rfl) (by rfl) ?_
          simp only [go_sem, Try.ntmps14, Try.results14]
          refine seqQ_normal hQ17 ?_
          refine vc_block_gen ?_
          intro QQ18 hQ18
          refine vc_loop_of ?_
          refine loop_gen (ι := Nat × Int × (List GFeed) × GFeed) (fun ((_, w_5, a_7, b_5) : Nat × Int × (List GFeed) × GFeed) => (⟨0, [(1, .v (.int .i64 size_0)), (2, .v (.int .i64 step_0)), (8, .osl 0 4 (0) (List.length a_7)), (10, .ptr 1 0), (11, .v (.int .i64 xv_2.Epoch)), (12, .v (.int .i64 w_5)), (22, .sl 4 (enc l_0)), (23, .v (.int .i64 (List.length l_0 : Int))), (24, .v (.int .i64 t24_1))], [(0, .arr 4 (enc a_7)), (1, .box [.v (.int .i64 b_5.Node), .v (.int .i64 b_5.Epoch), .v (.int .i64 b_5.Rec.K), .v (.int .i64 b_5.Rec.V)])], 2, 52⟩ : St)) (fun ((n_, w_5, a_7, b_5) : Nat × Int × (List GFeed) × GFeed) => loopK (f_window_Slide_B2 step_0 t24_1 (loopK (f_window_Slide_B1 l_0 size_0 step_0) m_1) xv_2) n_ (w_5, a_7, b_5) = some r) (fun p => p.1) (rounds, v_4, a_5, xv_2) [some 0, some 1] ?_ h ?_
          · simp only [go_sem, Le] <;> (repeat' apply And.intro) <;> first | omega | (simp [go_sem]; done)
          · rintro ⟨n_2, w_5, a_7, b_5⟩ h QQ19 hQ19
            dsimp only at h
            replace h := loopK_some h
            obtain ⟨m_2, rfl, h⟩ := h
            rw [f_window_Slide_B2] at h
            refine vc_seq_gen (by kernel_rfl) ?_
            intro QQ20 hQ20
            refine vc_seq_gen (by kernel_rfl) ?_
            intro QQ21 hQ21
            simp only [go_sem, Try.ntmps14, Try.results14]
            refine seqQ_normal hQ21 ?_
            refine vc_cond_of (b := (decide ((IntKind.i64.wrap (w_5 * step_0)) ≤ xv_2.Epoch))) (by (simp only [go_sem]; done)) (fun hb_20 => ?_) (fun hb_20 => ?_)
            ·
              replace h := if_t h hb_20
              simp only [decide_eq_true_eq, decide_eq_false_iff_not, Bool.not_eq_true', Bool.not_eq_false', beq_iff_eq, beq_eq_false_iff_ne, ne_eq, Bool.and_eq_true, Bool.or_eq_true, Int.not_lt, Int.not_le] at hb_20
              refine vc_skip_of ?_
              refine seqQ_normal hQ20 ?_
              refine vc_seq_gen (by kernel_rfl) ?_
              intro QQ22 hQ22
              refine vc_block_gen ?_
              intro QQ23 hQ23
              refine vc_seq_gen (by kernel_rfl) ?_
              intro QQ24 hQ24
              refine vc_seq_gen (by kernel_rfl) ?_
              intro QQ25 hQ25
              simp only [go_sem, Try.ntmps14, Try.results14]
              refine seqQ_normal hQ25 ?_
              refine vc_cond_of (b := ((List.length a_7 : Int) == 65536)) (by (simp only [go_sem]; done)) (fun hb_21 => ?_) (fun hb_21 => ?_)
              ·
                replace h := if_t h hb_21
                simp only [decide_eq_true_eq, decide_eq_false_iff_not, Bool.not_eq_true', Bool.not_eq_false', beq_iff_eq, beq_eq_false_iff_ne, ne_eq, Bool.and_eq_true, Bool.or_eq_true, Int.not_lt, Int.not_le] at hb_21
                refine vc_seq_gen (by kernel_rfl) ?_
                intro QQ26 hQ26
                simp only [go_sem, Try.ntmps14, Try.results14]
                refine seqQ_normal hQ26 ?_
                refine vc_ret_of ?_
                refine seqQ_ret hQ24 ?_
                refine blockQ_ret hQ23 ?_
                refine seqQ_ret hQ22 ?_
                refine thenQ_ret hQ19 ?_
                refine blockQ_ret hQ18 ?_
                refine blockQ_ret hQ14 ?_
                refine seqQ_ret hQ13 ?_
                refine thenQ_ret hQ10 ?_
                refine blockQ_ret hQ9 ?_
                refine seqQ_ret hQ7 ?_
                simp only [go_sem, Try.ntmps14, Try.results14]
                obtain rfl := Option.some.inj h
                refine retW_det [none] ?_
                simp only [go_sem, Le] <;> (repeat' apply And.intro) <;> (simp [go_sem]; done)
              ·
                replace h := if_f h hb_21
                simp only [decide_eq_true_eq, decide_eq_false_iff_not, Bool.not_eq_true', Bool.not_eq_false', beq_iff_eq, beq_eq_false_iff_ne, ne_eq, Bool.and_eq_true, Bool.or_eq_true, Int.not_lt, Int.not_le] at hb_21
                refine vc_skip_of ?_
                refine seqQ_normal hQ24 ?_
                refine vc_seq_gen (by kernel_rfl) ?_
                intro QQ27 hQ27
                simp only [go_sem, Try.ntmps14, Try.results14]
                refine seqQ_normal hQ27 ?_
                have rf_16 : [[.v (.int .i64 b_5.Node), .v (.int .i64 w_5), .v (.int .i64 b_5.Rec.K), .v (.int .i64 b_5.Rec.V)]] = enc ([(⟨b_5.Node, w_5, b_5.Rec⟩ : GFeed)] : List GFeed) := by rfl
                obtain ⟨g_8, h⟩ := guardO_some h
                simp only [List.length_cons, List.length_nil, Nat.zero_add, List.length_append] at g_8
                have rf_17 : enc a_7 ++ [[.v (.int .i64 b_5.Node), .v (.int .i64 w_5), .v (.int .i64 b_5.Rec.K), .v (.int .i64 b_5.Rec.V)]] = enc (a_7 ++ ([(⟨b_5.Node, w_5, b_5.Rec⟩ : GFeed)] : List GFeed)) := by exact (enc_app a_7 ([(⟨b_5.Node, w_5, b_5.Rec⟩ : GFeed)] : List GFeed)).symm
                simp only [go_sem, Try.ntmps14, Try.results14, g_8, rf_17]
                simp only [rf_16]
                refine blockQ_normal hQ23 ?_
                refine seqQ_normal hQ22 ?_
                simp only [go_sem, Try.ntmps14, Try.results14]
                refine thenQ_normal hQ19 ?_
                refine ⟨(m_2, IntKind.i64.wrap (w_5 + 1), (a_7 ++ ([(⟨b_5.Node, w_5, b_5.Rec⟩ : GFeed)] : List GFeed)), (⟨b_5.Node, w_5, b_5.Rec⟩ : GFeed)), [some 3, some 1], ?_, h, Nat.lt_succ_self _⟩
                simp only [go_sem, Le] <;> (repeat' apply And.intro) <;> first | omega | (simp [go_sem]; done)
            ·
              replace h := if_f h hb_20
              simp only [decide_eq_true_eq, decide_eq_false_iff_not, Bool.not_eq_true', Bool.not_eq_false', beq_iff_eq, beq_eq_false_iff_ne, ne_eq, Bool.and_eq_true, Bool.or_eq_true, Int.not_lt, Int.not_le] at hb_20
              refine vc_exit_of ?_
              refine seqQ_exit hQ20 ?_
              refine thenQ_exit hQ19 ?_
              refine blockQ_exit hQ18 ?_
              refine blockQ_normal hQ14 ?_
              refine seqQ_normal hQ13 ?_
              simp only [go_sem, Try.ntmps14, Try.results14]
              refine thenQ_normal hQ10 ?_
              refine ⟨(m_1, IntKind.i64.wrap (t24_1 + 1), a_7), [some 0], ?_, h, Nat.lt_succ_self _⟩
              simp only [go_sem, Le]
        ·
          replace h := if_f h hb_15
          simp only [decide_eq_true_eq, decide_eq_false_iff_not, Bool.not_eq_true', Bool.not_eq_false', beq_iff_eq, beq_eq_false_iff_ne, ne_eq, Bool.and_eq_true, Bool.or_eq_true, Int.not_lt, Int.not_le] at hb_15
          refine vc_exit_of ?_
          refine seqQ_exit hQ12 ?_
          refine thenQ_exit hQ10 ?_
          refine blockQ_exit hQ9 ?_
          refine seqQ_normal hQ7 ?_
          refine vc_seq_gen (by kernel_rfl) ?_
          intro QQ28 hQ28
          simp only [go_sem, Try.ntmps14, Try.results14]
          refine seqQ_normal hQ28 ?_
          refine vc_ret_of ?_
          simp only [go_sem, Try.ntmps14, Try.results14]
          obtain rfl := Option.some.inj h
          refine retW_det [some 0] ?_
          simp only [go_sem, Le]
theorem f_window_Slide_ok (l_0 : List GFeed) (size_0 : Int) (step_0 : Int)  (r : (List GFeed) × Int) (h : f_window_Slide l_0 size_0 step_0 = some r) : PureS Try.prog 14 [.sl 4 (enc l_0), .v (.int .i64 size_0), .v (.int .i64 step_0)] 0 (.tup [.sl 4 (enc r.1), .v (.int .i64 r.2)]) := by
  refine (f_window_Slide_det l_0 size_0 step_0  r h).pure ?_
  simp only [go_sem, Le] <;> (repeat' apply And.intro) <;> (simp [go_sem]; done)
end Go.Proofs.Ytfjjpdjnpmajlaa

namespace Go.Proofs.Ytfjjpdjnpmajlaa
open Go Go.RowKit
set_option maxHeartbeats 2000000
set_option maxRecDepth 100000
set_option linter.unusedSimpArgs false
set_option linter.unusedVariables false
def f_window_Tumble (l_0 : List GFeed) (size_0 : Int) : Option ((List GFeed) × Int) :=
  bindO (f_window_Slide l_0 size_0 size_0) (fun (v_0 : (List GFeed) × Int) =>
  some (v_0.1, v_0.2))
theorem f_window_Tumble_det (l_0 : List GFeed) (size_0 : Int)  (r : (List GFeed) × Int) (h : f_window_Tumble l_0 size_0 = some r) : DetS Try.prog 17 [.sl 4 (enc l_0), .v (.int .i64 size_0)] [] 0 (.tup [.osl 0 4 (0) (List.length r.1), .v (.int .i64 r.2)]) [(0, .arr 4 (enc r.1))] 1 := by
  unfold DetS
  refine Spec.of_vc Try.func17 rfl (by kernel_rfl) (by kernel_rfl) ?_
  rw [f_window_Tumble] at h
  refine vc_seq_gen (by kernel_rfl) ?_
  intro QQ1 hQ1
  simp only [go_sem, Try.ntmps17, Try.results17]
  refine seqQ_normal hQ1 ?_
  refine vc_seq_gen (by kernel_rfl) ?_
  intro QQ2 hQ2
  obtain ⟨v_0, ev_0, h⟩ := bindO_some h
  simp only [go_sem, Try.ntmps17, Try.results17]
  refine callD [] (f_window_Slide_det l_0 size_0 size_0 v_0 ev_0) (by simp) rfl trivial rfl rfl rfl rfl ?_
  simp only [go_sem, Try.ntmps17, Try.results17]
  refine seqQ_normal hQ2 ?_
  refine vc_ret_of ?_
  simp only [go_sem, Try.ntmps17, Try.results17]
  obtain rfl := Option.some.inj h
  refine retW_det [some 0] ?_
  simp only [go_sem, Le]
theorem f_window_Tumble_ok (l_0 : List GFeed) (size_0 : Int)  (r : (List GFeed) × Int) (h : f_window_Tumble l_0 size_0 = some r) : PureS Try.prog 17 [.sl 4 (enc l_0), .v (.int .i64 size_0)] 0 (.tup [.sl 4 (enc r.1), .v (.int .i64 r.2)]) := by
  refine (f_window_Tumble_det l_0 size_0  r h).pure ?_
  simp only [go_sem, Le] <;> (repeat' apply And.intro) <;> (simp [go_sem]; done)
end Go.Proofs.Ytfjjpdjnpmajlaa

namespace Go.Proofs.Ytfjjpdjnpmajlaa
open Go Go.RowKit
set_option maxHeartbeats 2000000
set_option maxRecDepth 100000
set_option linter.unusedSimpArgs false
set_option linter.unusedVariables false
def f_backwashlaw33_awake  : Option Bool :=
  bindO (f_window_Tumble ([(⟨0, 9, (⟨0, 0⟩ : GRec)⟩ : GFeed), (⟨0, 10, (⟨0, 0⟩ : GRec)⟩ : GFeed)] : List GFeed) 10) (fun (v_0 : (List GFeed) × Int) =>
  bindO (f_window_Slide ([(⟨0, 4, (⟨0, 0⟩ : GRec)⟩ : GFeed)] : List GFeed) 3 2) (fun (v_1 : (List GFeed) × Int) =>
  (if ((v_0.2 == 0) && ((List.length v_0.1 : Int) == 2)) = true then bindO (idx v_0.1 0) (fun (xv_0 : GFeed) =>
  (if (xv_0.Epoch == 0) = true then bindO (idx v_0.1 1) (fun (xv_1 : GFeed) =>
  (if (((xv_1.Epoch == 1) && (v_1.2 == 0)) && ((List.length v_1.1 : Int) == 2)) = true then bindO (idx v_1.1 0) (fun (xv_2 : GFeed) =>
  (if (xv_2.Epoch == 1) = true then bindO (idx v_1.1 1) (fun (xv_3 : GFeed) =>
  some (xv_3.Epoch == 2))
  else some false))
  else some false))
  else some false))
  else some false)))
theorem f_backwashlaw33_awake_ok   (r : Bool) (h : f_backwashlaw33_awake  = some r) : PureS Try.prog 12 [] 0 (.v (.bool r)) := by
  unfold PureS
  refine Spec.of_vc Try.func12 rfl (by kernel_rfl) (by kernel_rfl) ?_
  rw [f_backwashlaw33_awake] at h
  refine vc_seq_gen (by kernel_rfl) ?_
  intro QQ1 hQ1
  simp only [go_sem, Try.ntmps12, Try.results12]
  refine seqQ_normal hQ1 ?_
  refine vc_seq_gen (by kernel_rfl) ?_
  intro QQ2 hQ2
  have rf_0 : [[.v (.int .i64 0), .v (.int .i64 9), .v (.int .i64 0), .v (.int .i64 0)], [.v (.int .i64 0), .v (.int .i64 10), .v (.int .i64 0), .v (.int .i64 0)]] = enc ([(⟨0, 9, (⟨0, 0⟩ : GRec)⟩ : GFeed), (⟨0, 10, (⟨0, 0⟩ : GRec)⟩ : GFeed)] : List GFeed) := by rfl
  obtain ⟨v_0, ev_0, h⟩ := bindO_some h
  simp only [go_sem, Try.ntmps12, Try.results12]
  simp only [rf_0]
  refine callF_weak (s' := (⟨0, [(0, .v (.bool false)), (6, .agg [.v (.int .i64 0), .v (.int .i64 9), .v (.int .i64 0), .v (.int .i64 0)]), (7, .agg [.v (.int .i64 0), .v (.int .i64 10), .v (.int .i64 0), .v (.int .i64 0)]), (8, .sl 4 (enc ([(⟨0, 9, (⟨0, 0⟩ : GRec)⟩ : GFeed), (⟨0, 10, (⟨0, 0⟩ : GRec)⟩ : GFeed)] : List GFeed)))], [], 0, 62⟩ : St)) (l := []) (args' := [.sl 4 (enc ([(⟨0, 9, (⟨0, 0⟩ : GRec)⟩ : GFeed), (⟨0, 10, (⟨0, 0⟩ : GRec)⟩ : GFeed)] : List GFeed)), .v (.int .i64 10)]) ?_ ?_ ?_
  · simp only [go_sem, Le] <;> (repeat' apply And.intro) <;> (simp [go_sem]; done)
  · simp only [go_sem, Le] <;> (repeat' apply And.intro) <;> (simp [go_sem]; done)
  refine callD [] (f_window_Tumble_det ([(⟨0, 9, (⟨0, 0⟩ : GRec)⟩ : GFeed), (⟨0, 10, (⟨0, 0⟩ : GRec)⟩ : GFeed)] : List GFeed) 10 v_0 ev_0) (by simp) rfl trivial rfl rfl rfl rfl ?_
  simp only [go_sem, Try.ntmps12, Try.results12]
  refine seqQ_normal hQ2 ?_
  refine vc_seq_gen (by kernel_rfl) ?_
  intro QQ3 hQ3
  have rf_1 : [[.v (.int .i64 0), .v (.int .i64 4), .v (.int .i64 0), .v (.int .i64 0)]] = enc ([(⟨0, 4, (⟨0, 0⟩ : GRec)⟩ : GFeed)] : List GFeed) := by rfl
  obtain ⟨v_1, ev_1, h⟩ := bindO_some h
  simp only [go_sem, Try.ntmps12, Try.results12]
  simp only [rf_1]
  refine callF_weak (s' := (⟨0, [(0, .v (.bool false)), (1, .osl 0 4 (0) (List.length v_0.1)), (2, .v (.int .i64 v_0.2)), (5, .tup [.osl 0 4 (0) (List.length v_0.1), .v (.int .i64 v_0.2)]), (6, .agg [.v (.int .i64 0), .v (.int .i64 9), .v (.int .i64 0), .v (.int .i64 0)]), (7, .agg [.v (.int .i64 0), .v (.int .i64 10), .v (.int .i64 0), .v (.int .i64 0)]), (8, .sl 4 (enc ([(⟨0, 9, (⟨0, 0⟩ : GRec)⟩ : GFeed), (⟨0, 10, (⟨0, 0⟩ : GRec)⟩ : GFeed)] : List GFeed))), (9, .tup [.osl 0 4 (0) (List.length v_0.1), .v (.int .i64 v_0.2)]), (10, .osl 0 4 (0) (List.length v_0.1)), (11, .v (.int .i64 v_0.2)), (13, .agg [.v (.int .i64 0), .v (.int .i64 4), .v (.int .i64 0), .v (.int .i64 0)]), (14, .sl 4 (enc ([(⟨0, 4, (⟨0, 0⟩ : GRec)⟩ : GFeed)] : List GFeed)))], [(0, .arr 4 (enc v_0.1))], 1, 62⟩ : St)) (l := [some 0]) (args' := [.sl 4 (enc ([(⟨0, 4, (⟨0, 0⟩ : GRec)⟩ : GFeed)] : List GFeed)), .v (.int .i64 3), .v (.int .i64 2)]) ?_ ?_ ?_
  · simp only [go_sem, Le] <;> (repeat' apply And.intro) <;> (simp [go_sem]; done)
  · simp only [go_sem, Le] <;> (repeat' apply And.intro) <;> (simp [go_sem]; done)
  refine callD [] (f_window_Slide_det ([(⟨0, 4, (⟨0, 0⟩ : GRec)⟩ : GFeed)] : List GFeed) 3 2 v_1 ev_1) (by simp) rfl trivial rfl rfl rfl rfl ?_
  simp only [go_sem, Try.ntmps12, Try.results12]
  refine seqQ_normal hQ3 ?_
  refine vc_seq_gen (by kernel_rfl) ?_
  intro QQ4 hQ4
  simp only [go_sem, Try.ntmps12, Try.results12]
  rcases hb_0 : ((v_0.2 == 0) && ((List.length v_0.1 : Int) == 2)) with _ | _
  ·
    replace h := if_f h hb_0
    simp only [go_sem, Try.ntmps12, Try.results12, hb_0]
    refine seqQ_normal hQ4 ?_
    refine vc_ret_of ?_
    simp only [go_sem, Try.ntmps12, Try.results12]
    obtain rfl := Option.some.inj h
    refine retW_pure rfl ?_
    simp only [go_sem, Le]
  ·
    replace h := if_t h hb_0
    obtain ⟨xv_0, exv_0, h⟩ := bindO_some h
    obtain ⟨fxv_0a, fxv_0b, fxv_0c⟩ := idx_spec exv_0
    simp only [Int.toNat_natCast, Int.reduceToNat] at fxv_0c
    simp only [go_sem, Try.ntmps12, Try.results12, hb_0, fxv_0a, fxv_0b, fxv_0c]
    refine And.intro (by omega) ?_
    rcases hb_1 : (xv_0.Epoch == 0) with _ | _
    ·
      replace h := if_f h hb_1
      simp only [go_sem, Try.ntmps12, Try.results12, hb_1]
      refine seqQ_normal hQ4 ?_
      refine vc_ret_of ?_
      simp only [go_sem, Try.ntmps12, Try.results12]
      obtain rfl := Option.some.inj h
      refine retW_pure rfl ?_
      simp only [go_sem, Le]
    ·
      replace h := if_t h hb_1
      obtain ⟨xv_1, exv_1, h⟩ := bindO_some h
      obtain ⟨fxv_1a, fxv_1b, fxv_1c⟩ := idx_spec exv_1
      simp only [Int.toNat_natCast, Int.reduceToNat] at fxv_1c
      simp only [go_sem, Try.ntmps12, Try.results12, hb_1, fxv_1a, fxv_1b, fxv_1c]
      refine And.intro (by omega) ?_
      rcases hb_2 : (((xv_1.Epoch == 1) && (v_1.2 == 0)) && ((List.length v_1.1 : Int) == 2)) with _ | _
      ·
        replace h := if_f h hb_2
        simp only [go_sem, Try.ntmps12, Try.results12, hb_2]
        refine seqQ_normal hQ4 ?_
        refine vc_ret_of ?_
        simp only [go_sem, Try.ntmps12, Try.results12]
        obtain rfl := Option.some.inj h
        refine retW_pure rfl ?_
        simp only [go_sem, Le]
      ·
        replace h := if_t h hb_2
        obtain ⟨xv_2, exv_2, h⟩ := bindO_some h
        obtain ⟨fxv_2a, fxv_2b, fxv_2c⟩ := idx_spec exv_2
        simp only [Int.toNat_natCast, Int.reduceToNat] at fxv_2c
        simp only [go_sem, Try.ntmps12, Try.results12, hb_2, fxv_2a, fxv_2b, fxv_2c]
        refine And.intro (by omega) ?_
        rcases hb_3 : (xv_2.Epoch == 1) with _ | _
        ·
          replace h := if_f h hb_3
          simp only [go_sem, Try.ntmps12, Try.results12, hb_3]
          refine seqQ_normal hQ4 ?_
          refine vc_ret_of ?_
          simp only [go_sem, Try.ntmps12, Try.results12]
          obtain rfl := Option.some.inj h
          refine retW_pure rfl ?_
          simp only [go_sem, Le]
        ·
          replace h := if_t h hb_3
          obtain ⟨xv_3, exv_3, h⟩ := bindO_some h
          obtain ⟨fxv_3a, fxv_3b, fxv_3c⟩ := idx_spec exv_3
          simp only [Int.toNat_natCast, Int.reduceToNat] at fxv_3c
          simp only [go_sem, Try.ntmps12, Try.results12, hb_3, fxv_3a, fxv_3b, fxv_3c]
          refine And.intro (by omega) ?_
          refine seqQ_normal hQ4 ?_
          refine vc_ret_of ?_
          simp only [go_sem, Try.ntmps12, Try.results12]
          obtain rfl := Option.some.inj h
          refine retW_pure rfl ?_
          simp only [go_sem, Le]
end Go.Proofs.Ytfjjpdjnpmajlaa

namespace Go.Proofs.Ytfjjpdjnpmajlaa
open Go Go.RowKit
set_option maxHeartbeats 2000000
set_option maxRecDepth 100000
set_option linter.unusedSimpArgs false
set_option linter.unusedVariables false
def f_backwashref33_Slide_J2 (a_8 : List GFeed) : Option ((List GFeed) × Int) :=
  (if (decide (65536 < (List.length a_8 : Int))) = true then some (([] : List GFeed), 9)
  else some (a_8, 0))
def f_backwashref33_Slide_B5 (size_0 : Int) (step_0 : Int) (i_5 : Int) (rec_3 : (Int × (List GFeed) → Option ((List GFeed) × Int))) (xv_8 : GFeed) (rec_5 : Int × (List GFeed) → Option ((List GFeed) × Int)) : Int × (List GFeed) → Option ((List GFeed) × Int) :=
  fun (w_11, a_16) =>
  (if (decide (w_11 ≤ (IntKind.i64.wrap (Int.tdiv xv_8.Epoch step_0)))) = true then (if (decide ((IntKind.i64.wrap (w_11 * step_0)) ≤ xv_8.Epoch)) = true then (if (decide (xv_8.Epoch < (IntKind.i64.wrap ((IntKind.i64.wrap (w_11 * step_0)) + size_0)))) = true then guardO ((List.length a_16 + List.length ([(⟨xv_8.Node, w_11, xv_8.Rec⟩ : GFeed)] : List GFeed)) * 32 ≤ 140737488355328) (
  rec_5 (IntKind.i64.wrap (w_11 + 1), (a_16 ++ ([(⟨xv_8.Node, w_11, xv_8.Rec⟩ : GFeed)] : List GFeed))))
  else rec_5 (IntKind.i64.wrap (w_11 + 1), a_16))
  else rec_5 (IntKind.i64.wrap (w_11 + 1), a_16))
  else rec_3 (IntKind.i64.wrap (i_5 + 1), a_16))
def f_backwashref33_Slide_J4 (size_0 : Int) (step_0 : Int) (i_5 : Int) (a_14 : List GFeed) (rec_3 : (Int × (List GFeed) → Option ((List GFeed) × Int))) (xv_8 : GFeed) (fromv_5 : Int) : Option ((List GFeed) × Int) :=
  loopK (f_backwashref33_Slide_B5 size_0 step_0 i_5 rec_3 xv_8) rounds (fromv_5, a_14)
def f_backwashref33_Slide_B3 (l_0 : List GFeed) (size_0 : Int) (step_0 : Int) (rec_3 : Int × (List GFeed) → Option ((List GFeed) × Int)) : Int × (List GFeed) → Option ((List GFeed) × Int) :=
  fun (i_5, a_14) =>
  (if (decide (i_5 < (List.length l_0 : Int))) = true then bindO (idx l_0 i_5) (fun (xv_8 : GFeed) =>
  guardO (step_0 ≠ 0) (
  (if (decide ((IntKind.i64.wrap ((IntKind.i64.wrap (Int.tdiv xv_8.Epoch step_0)) - 1024)) < 0)) = true then f_backwashref33_Slide_J4 size_0 step_0 i_5 a_14 rec_3 xv_8 0
  else f_backwashref33_Slide_J4 size_0 step_0 i_5 a_14 rec_3 xv_8 (IntKind.i64.wrap ((IntKind.i64.wrap (Int.tdiv xv_8.Epoch step_0)) - 1024)))))
  else f_backwashref33_Slide_J2 a_14)
def f_backwashref33_Slide_J1 (l_0 : List GFeed) (size_0 : Int) (step_0 : Int) : Option ((List GFeed) × Int) :=
  loopK (f_backwashref33_Slide_B3 l_0 size_0 step_0) rounds (0, [])
def f_backwashref33_Slide_B6 (l_0 : List GFeed) (size_0 : Int) (step_0 : Int) (rec_6 : Int → Option ((List GFeed) × Int)) : Int → Option ((List GFeed) × Int) :=
  fun i_7 =>
  (if (decide (i_7 < (List.length l_0 : Int))) = true then bindO (idx l_0 i_7) (fun (xv_11 : GFeed) =>
  (if (decide (xv_11.Epoch < 0)) = true then some (([] : List GFeed), 1)
  else (if (decide (1048576 < xv_11.Epoch)) = true then some (([] : List GFeed), 1)
  else rec_6 (IntKind.i64.wrap (i_7 + 1)))))
  else f_backwashref33_Slide_J1 l_0 size_0 step_0)
def f_backwashref33_Slide (l_0 : List GFeed) (size_0 : Int) (step_0 : Int) : Option ((List GFeed) × Int) :=
  (if ((((decide (size_0 < 1)) || (decide (1024 < size_0))) || (decide (step_0 < 1))) || (decide (1024 < step_0))) = true then some (([] : List GFeed), 1)
  else loopK (f_backwashref33_Slide_B6 l_0 size_0 step_0) rounds 0)
theorem f_backwashref33_Slide_det (l_0 : List GFeed) (size_0 : Int) (step_0 : Int)  (r : (List GFeed) × Int) (h : f_backwashref33_Slide l_0 size_0 step_0 = some r) : DetS Try.prog 15 [.sl 4 (enc l_0), .v (.int .i64 size_0), .v (.int .i64 step_0)] [] 0 (.tup [.osl 0 4 (0) (List.length r.1), .v (.int .i64 r.2)]) [(0, .arr 4 (enc r.1))] 1 := by
  unfold DetS
  refine Spec.of_vc Try.func15 rfl (by kernel_rfl) (by kernel_rfl) ?_
  rw [f_backwashref33_Slide] at h
  refine vc_seq_gen (by kernel_rfl) ?_
  intro QQ1 hQ1
  simp only [go_sem, Try.ntmps15, Try.results15]
  refine seqQ_normal hQ1 ?_
  refine vc_seq_gen (by kernel_rfl) ?_
  intro QQ2 hQ2
  refine vc_seq_gen (by kernel_rfl) ?_
  intro QQ3 hQ3
  simp only [go_sem, Try.ntmps15, Try.results15]
  refine seqQ_normal hQ3 ?_
  refine vc_cond_of (b := ((((decide (size_0 < 1)) || (decide (1024 < size_0))) || (decide (step_0 < 1))) || (decide (1024 < step_0)))) (by (simp only [go_sem]; done)) (fun hb_0 => ?_) (fun hb_0 => ?_)
  ·
    replace h := if_t h hb_0
    simp only [decide_eq_true_eq, decide_eq_false_iff_not, Bool.not_eq_true', Bool.not_eq_false', beq_iff_eq, beq_eq_false_iff_ne, ne_eq, Bool.and_eq_true, Bool.or_eq_true, Int.not_lt, Int.not_le] at hb_0
    refine vc_seq_gen (by kernel_rfl) ?_
    intro QQ4 hQ4
    simp only [go_sem, Try.ntmps15, Try.results15]
    refine seqQ_normal hQ4 ?_
    refine vc_ret_of ?_
    refine seqQ_ret hQ2 ?_
    simp only [go_sem, Try.ntmps15, Try.results15]
    obtain rfl := Option.some.inj h
    refine retW_det [none] ?_
    simp only [go_sem, Le] <;> (repeat' apply And.intro) <;> (simp [go_sem]; done)
  ·
    replace h := if_f h hb_0
    refine vc_skip_of ?_
    refine seqQ_normal hQ2 ?_
    refine vc_join (by kernel_rfl) ?_
    refine seq_cut_gen (ι := Unit) (fun (_ : Unit) => (⟨0, [(0, .sl 4 (enc l_0)), (1, .v (.int .i64 size_0)), (2, .v (.int .i64 step_0))], [], 0, 108⟩ : St)) (fun (_ : Unit) => f_backwashref33_Slide_J1 l_0 size_0 step_0 = some r) ?_ ?_
    ·
      intro QQ32 hQ32
      refine vc_seq_gen (by kernel_rfl) ?_
      intro QQ33 hQ33
      simp only [go_sem, Try.ntmps15, Try.results15]
      refine seqQ_normal hQ33 ?_
      refine vc_block_gen ?_
      intro QQ34 hQ34
      refine vc_loop_of ?_
      refine loop_gen (ι := Nat × Int) (fun ((_, i_7) : Nat × Int) => (⟨0, [(0, .sl 4 (enc l_0)), (1, .v (.int .i64 size_0)), (2, .v (.int .i64 step_0)), (8, .v (.int .i64 i_7))], [], 0, 108⟩ : St)) (fun ((n_, i_7) : Nat × Int) => loopK (f_backwashref33_Slide_B6 l_0 size_0 step_0) n_ i_7 = some r) (fun p => p.1) (rounds, 0) [] ?_ h ?_
      · simp only [go_sem, Le]
      · rintro ⟨n_6, i_7⟩ h QQ35 hQ35
        dsimp only at h
        replace h := loopK_some h
        obtain ⟨m_6, rfl, h⟩ := h
        rw [f_backwashref33_Slide_B6] at h
        refine vc_seq_gen (by kernel_rfl) ?_
        intro QQ36 hQ36
        refine vc_seq_gen (by kernel_rfl) ?_
        intro QQ37 hQ37
        simp only [go_sem, Try.ntmps15, Try.results15]
        refine seqQ_normal hQ37 ?_
        refine vc_cond_of (b := (decide (i_7 < (List.length l_0 : Int)))) (by (simp only [go_sem]; done)) (fun hb_89 => ?_) (fun hb_89 => ?_)
        ·
          replace h := if_t h hb_89
          simp only [decide_eq_true_eq, decide_eq_false_iff_not, Bool.not_eq_true', Bool.not_eq_false', beq_iff_eq, beq_eq_false_iff_ne, ne_eq, Bool.and_eq_true, Bool.or_eq_true, Int.not_lt, Int.not_le] at hb_89
          refine vc_skip_of ?_
          refine seqQ_normal hQ36 ?_
          refine vc_seq_gen (by kernel_rfl) ?_
          intro QQ38 hQ38
          refine vc_block_gen ?_
          intro QQ39 hQ39
          refine vc_seq_gen (by kernel_rfl) ?_
          intro QQ40 hQ40
          obtain ⟨xv_11, exv_11, h⟩ := bindO_some h
          obtain ⟨fxv_11a, fxv_11b, fxv_11c⟩ := idx_spec exv_11
          simp only [go_sem, Try.ntmps15, Try.results15, fxv_11a, fxv_11b, fxv_11c]
          refine And.intro (by omega) ?_
          rcases hb_90 : (decide (xv_11.Epoch < 0)) with _ | _
          ·
            replace h := if_f h hb_90
            simp only [go_sem, Try.ntmps15, Try.results15, hb_90, fxv_11a, fxv_11b, fxv_11c]
            refine And.intro (by omega) ?_
            refine seqQ_normal hQ40 ?_
            refine vc_cond_of (b := (decide (1048576 < xv_11.Epoch))) (by (simp only [go_sem]; done)) (fun hb_91 => ?_) (fun hb_91 => ?_)
            ·
              replace h := if_t h hb_91
              simp only [decide_eq_true_eq, decide_eq_false_iff_not, Bool.not_eq_true', Bool.not_eq_false', beq_iff_eq, beq_eq_false_iff_ne, ne_eq, Bool.and_eq_true, Bool.or_eq_true, Int.not_lt, Int.not_le] at hb_91
              refine vc_seq_gen (by kernel_rfl) ?_
              intro QQ41 hQ41
              simp only [go_sem, Try.ntmps15, Try.results15]
              refine seqQ_normal hQ41 ?_
              refine vc_ret_of ?_
              refine blockQ_ret hQ39 ?_
              refine seqQ_ret hQ38 ?_
              refine thenQ_ret hQ35 ?_
              refine blockQ_ret hQ34 ?_
              refine thenQ_ret hQ32 ?_
              simp only [go_sem, Try.ntmps15, Try.results15]
              obtain rfl := Option.some.inj h
              refine retW_det [none] ?_
              simp only [go_sem, Le] <;> (repeat' apply And.intro) <;> (simp [go_sem]; done)
            ·
              replace h := if_f h hb_91
              simp only [decide_eq_true_eq, decide_eq_false_iff_not, Bool.not_eq_true', Bool.not_eq_false', beq_iff_eq, beq_eq_false_iff_ne, ne_eq, Bool.and_eq_true, Bool.or_eq_true, Int.not_lt, Int.not_le] at hb_91
              refine vc_skip_of ?_
              refine blockQ_normal hQ39 ?_
              refine seqQ_normal hQ38 ?_
              simp only [go_sem, Try.ntmps15, Try.results15]
              refine thenQ_normal hQ35 ?_
              refine ⟨(m_6, IntKind.i64.wrap (i_7 + 1)), [], ?_, h, Nat.lt_succ_self _⟩
              simp only [go_sem, Le]
          ·
            replace h := if_t h hb_90
            simp only [go_sem, Try.ntmps15, Try.results15, hb_90]
            refine seqQ_normal hQ40 ?_
            refine vc_cond_t (by (simp only [go_sem]; done)) ?_
            refine vc_seq_gen (by kernel_rfl) ?_
            intro QQ42 hQ42
            simp only [go_sem, Try.ntmps15, Try.results15]
            refine seqQ_normal hQ42 ?_
            refine vc_ret_of ?_
            refine blockQ_ret hQ39 ?_
            refine seqQ_ret hQ38 ?_
            refine thenQ_ret hQ35 ?_
            refine blockQ_ret hQ34 ?_
            refine thenQ_ret hQ32 ?_
            simp only [go_sem, Try.ntmps15, Try.results15]
            obtain rfl := Option.some.inj h
            refine retW_det [none] ?_
            simp only [go_sem, Le] <;> (repeat' apply And.intro) <;> (simp [go_sem]; done)
        ·
          replace h := if_f h hb_89
          simp only [decide_eq_true_eq, decide_eq_false_iff_not, Bool.not_eq_true', Bool.not_eq_false', beq_iff_eq, beq_eq_false_iff_ne, ne_eq, Bool.and_eq_true, Bool.or_eq_true, Int.not_lt, Int.not_le] at hb_89
          refine vc_exit_of ?_
          refine seqQ_exit hQ36 ?_
          refine thenQ_exit hQ35 ?_
          refine blockQ_exit hQ34 ?_
          refine thenQ_normal hQ32 ?_
          refine ⟨(), [], ?_, h⟩
          simp only [go_sem, Le]
    · rintro ⟨⟩ h
      try dsimp only at h
      rw [f_backwashref33_Slide_J1] at h
      refine vc_seq_gen (by kernel_rfl) ?_
      intro QQ5 hQ5
      simp only [go_sem, Try.ntmps15, Try.results15]
      refine seqQ_normal hQ5 ?_
      refine vc_join (by kernel_rfl) ?_
      refine seq_cut_gen (ι := (List GFeed)) (fun (a_8 : (List GFeed)) => (⟨0, [(9, .osl 0 4 (0) (List.length a_8))], [(0, .arr 4 (enc a_8))], 1, 108⟩ : St)) (fun (a_8 : (List GFeed)) => f_backwashref33_Slide_J2 a_8 = some r) ?_ ?_
      ·
        intro QQ10 hQ10
        refine vc_seq_gen (by kernel_rfl) ?_
        intro QQ11 hQ11
        simp only [go_sem, Try.ntmps15, Try.results15]
        refine seqQ_normal hQ11 ?_
        refine vc_block_gen ?_
        intro QQ12 hQ12
        refine vc_loop_of ?_
        refine loop_gen (ι := Nat × Int × (List GFeed)) (fun ((_, i_5, a_14) : Nat × Int × (List GFeed)) => (⟨0, [(0, .sl 4 (enc l_0)), (1, .v (.int .i64 size_0)), (2, .v (.int .i64 step_0)), (9, .osl 0 4 (0) (List.length a_14)), (10, .v (.int .i64 i_5))], [(0, .arr 4 (enc a_14))], 1, 108⟩ : St)) (fun ((n_, i_5, a_14) : Nat × Int × (List GFeed)) => loopK (f_backwashref33_Slide_B3 l_0 size_0 step_0) n_ (i_5, a_14) = some r) (fun p => p.1) (rounds, 0, []) [none] ?_ h ?_
        · simp only [go_sem, Le] <;> (repeat' apply And.intro) <;> (simp [go_sem]; done)
        · rintro ⟨n_3, i_5, a_14⟩ h QQ13 hQ13
          dsimp only at h
          replace h := loopK_some h
          obtain ⟨m_3, rfl, h⟩ := h
          rw [f_backwashref33_Slide_B3] at h
          refine vc_seq_gen (by kernel_rfl) ?_
          intro QQ14 hQ14
          refine vc_seq_gen (by kernel_rfl) ?_
          intro QQ15 hQ15
          simp only [go_sem, Try.ntmps15, Try.results15]
          refine seqQ_normal hQ15 ?_
          refine vc_cond_of (b := (decide (i_5 < (List.length l_0 : Int)))) (by (simp only [go_sem]; done)) (fun hb_71 => ?_) (fun hb_71 => ?_)
          ·
            replace h := if_t h hb_71
            simp only [decide_eq_true_eq, decide_eq_false_iff_not, Bool.not_eq_true', Bool.not_eq_false', beq_iff_eq, beq_eq_false_iff_ne, ne_eq, Bool.and_eq_true, Bool.or_eq_true, Int.not_lt, Int.not_le] at hb_71
            refine vc_skip_of ?_
            refine seqQ_normal hQ14 ?_
            refine vc_join (by kernel_rfl) ?_
            refine seq_go_gen ?_
            intro QQ16 hQ16
            refine vc_block_gen ?_
            intro QQ17 hQ17
            refine vc_seq_gen (by kernel_rfl) ?_
            intro QQ18 hQ18
            obtain ⟨xv_8, exv_8, h⟩ := bindO_some h
            obtain ⟨fxv_8a, fxv_8b, fxv_8c⟩ := idx_spec exv_8
            obtain ⟨g_20, h⟩ := guardO_some h
            simp only [go_sem, Try.ntmps15, Try.results15, fxv_8a, fxv_8b, fxv_8c, g_20]
            refine And.intro (by omega) ?_
            refine seqQ_normal hQ18 ?_
            refine vc_seq_gen (by kernel_rfl) ?_
            intro QQ19 hQ19
            simp only [go_sem, Try.ntmps15, Try.results15]
            refine seqQ_normal hQ19 ?_
            refine vc_join (by kernel_rfl) ?_
            refine seq_cut_gen (ι := Int) (fun (fromv_5 : Int) => (⟨0, [(0, .sl 4 (enc l_0)), (1, .v (.int .i64 size_0)), (2, .v (.int .i64 step_0)), (9, .osl 0 4 (0) (List.length a_14)), (10, .v (.int .i64 i_5)), (11, .v (.int .i64 (IntKind.i64.wrap (Int.tdiv xv_8.Epoch step_0)))), (12, .v (.int .i64 fromv_5))], [(0, .arr 4 (enc a_14))], 1, 108⟩ : St)) (fun (fromv_5 : Int) => f_backwashref33_Slide_J4 size_0 step_0 i_5 a_14 (loopK (f_backwashref33_Slide_B3 l_0 size_0 step_0) m_3) xv_8 fromv_5 = some r) ?_ ?_
            ·
              intro QQ30 hQ30
              refine vc_seq_gen (by kernel_rfl) ?_
              intro QQ31 hQ31
              simp only [go_sem, Try.ntmps15, Try.results15]
              refine seqQ_normal hQ31 ?_
              refine vc_cond_of (b := (decide ((IntKind.i64.wrap ((IntKind.i64.wrap (Int.tdiv xv_8.Epoch step_0)) - 1024)) < 0))) (by (simp only [go_sem]; done)) (fun hb_82 => ?_) (fun hb_82 => ?_)
              ·
                replace h := if_t h hb_82
                simp only [decide_eq_true_eq, decide_eq_false_iff_not, Bool.not_eq_true', Bool.not_eq_false', beq_iff_eq, beq_eq_false_iff_ne, ne_eq, Bool.and_eq_true, Bool.or_eq_true, Int.not_lt, Int.not_le] at hb_82
                simp only [go_sem, Try.ntmps15, Try.results15]
                refine thenQ_normal hQ30 ?_
                refine ⟨0, [some 0], ?_, h⟩
                simp only [go_sem, Le]
              ·
                replace h := if_f h hb_82
                simp only [decide_eq_true_eq, decide_eq_false_iff_not, Bool.not_eq_true', Bool.not_eq_false', beq_iff_eq, beq_eq_false_iff_ne, ne_eq, Bool.and_eq_true, Bool.or_eq_true, Int.not_lt, Int.not_le] at hb_82
                refine vc_skip_of ?_
                refine thenQ_normal hQ30 ?_
                refine ⟨IntKind.i64.wrap ((IntKind.i64.wrap (Int.tdiv xv_8.Epoch step_0)) - 1024), [some 0], ?_, h⟩
                simp only [go_sem, Le]
            · rintro fromv_5 h
              try dsimp only at h
              rw [f_backwashref33_Slide_J4] at h
              refine vc_seq_gen (by kernel_rfl) ?_
              intro QQ20 hQ20
              simp only [go_sem, Try.ntmps15, Try.results15]
              refine seqQ_normal hQ20 ?_
              refine vc_block_gen ?_
              intro QQ21 hQ21
              refine vc_loop_of ?_
              refine loop_gen (ι := Nat × Int × (List GFeed)) (fun ((_, w_11, a_16) : Nat × Int × (List GFeed)) => (⟨0, [(0, .sl 4 (enc l_0)), (1, .v (.int .i64 size_0)), (2, .v (.int .i64 step_0)), (9, .osl 0 4 (0) (List.length a_16)), (10, .v (.int .i64 i_5)), (11, .v (.int .i64 (IntKind.i64.wrap (Int.tdiv xv_8.Epoch step_0)))), (13, .v (.int .i64 w_11))], [(0, .arr 4 (enc a_16))], 1, 108⟩ : St)) (fun ((n_, w_11, a_16) : Nat × Int × (List GFeed)) => loopK (f_backwashref33_Slide_B5 size_0 step_0 i_5 (loopK (f_backwashref33_Slide_B3 l_0 size_0 step_0) m_3) xv_8) n_ (w_11, a_16) = some r) (fun p => p.1) (rounds, fromv_5, a_14) [some 0] ?_ h ?_
              · simp only [go_sem, Le]
              · rintro ⟨n_5, w_11, a_16⟩ h QQ22 hQ22
                dsimp only at h
                replace h := loopK_some h
                obtain ⟨m_5, rfl, h⟩ := h
                rw [f_backwashref33_Slide_B5] at h
                refine vc_seq_gen (by kernel_rfl) ?_
                intro QQ23 hQ23
                refine vc_seq_gen (by kernel_rfl) ?_
                intro QQ24 hQ24
                simp only [go_sem, Try.ntmps15, Try.results15]
                refine seqQ_normal hQ24 ?_
                refine vc_cond_of (b := (decide (w_11 ≤ (IntKind.i64.wrap (Int.tdiv xv_8.Epoch step_0))))) (by (simp only [go_sem]; done)) (fun hb_79 => ?_) (fun hb_79 => ?_)
                ·
                  replace h := if_t h hb_79
                  simp only [decide_eq_true_eq, decide_eq_false_iff_not, Bool.not_eq_true', Bool.not_eq_false', beq_iff_eq, beq_eq_false_iff_ne, ne_eq, Bool.and_eq_true, Bool.or_eq_true, Int.not_lt, Int.not_le] at hb_79
                  refine vc_skip_of ?_
                  refine seqQ_normal hQ23 ?_
                  refine vc_join (by kernel_rfl) ?_
                  refine seq_go_gen ?_
                  intro QQ25 hQ25
                  refine vc_block_gen ?_
                  intro QQ26 hQ26
                  refine vc_seq_gen (by kernel_rfl) ?_
                  intro QQ27 hQ27
                  simp only [go_sem, Try.ntmps15, Try.results15, fxv_8a, fxv_8b, fxv_8c]
                  refine And.intro (by omega) ?_
                  rcases hb_80 : (decide ((IntKind.i64.wrap (w_11 * step_0)) ≤ xv_8.Epoch)) with _ | _
                  ·
                    replace h := if_f h hb_80
                    simp only [go_sem, Try.ntmps15, Try.results15, hb_80]
                    refine seqQ_normal hQ27 ?_
                    refine vc_cond_f (by (simp only [go_sem]; done)) ?_
                    refine vc_skip_of ?_
                    refine blockQ_normal hQ26 ?_
                    refine seqQ_normal hQ25 ?_
                    simp only [go_sem, Try.ntmps15, Try.results15]
                    refine thenQ_normal hQ22 ?_
                    refine ⟨(m_5, IntKind.i64.wrap (w_11 + 1), a_16), [some 0], ?_, h, Nat.lt_succ_self _⟩
                    simp only [go_sem, Le]
                  ·
                    replace h := if_t h hb_80
                    simp only [go_sem, Try.ntmps15, Try.results15, hb_80, fxv_8a, fxv_8b, fxv_8c]
                    refine And.intro (by omega) ?_
                    refine seqQ_normal hQ27 ?_
                    refine vc_cond_of (b := (decide (xv_8.Epoch < (IntKind.i64.wrap ((IntKind.i64.wrap (w_11 * step_0)) + size_0))))) (by (simp only [go_sem]; done)) (fun hb_81 => ?_) (fun hb_81 => ?_)
                    ·
                      replace h := if_t h hb_81
                      simp only [decide_eq_true_eq, decide_eq_false_iff_not, Bool.not_eq_true', Bool.not_eq_false', beq_iff_eq, beq_eq_false_iff_ne, ne_eq, Bool.and_eq_true, Bool.or_eq_true, Int.not_lt, Int.not_le] at hb_81
                      refine vc_seq_gen (by kernel_rfl) ?_
                      intro QQ28 hQ28
                      simp only [go_sem, Try.ntmps15, Try.results15, fxv_8a, fxv_8b, fxv_8c]
                      refine And.intro (by omega) ?_
                      refine seqQ_normal hQ28 ?_
                      refine vc_seq_gen (by kernel_rfl) ?_
                      intro QQ29 hQ29
                      simp only [go_sem, Try.ntmps15, Try.results15]
                      refine seqQ_normal hQ29 ?_
                      have rf_32 : [[.v (.int .i64 xv_8.Node), .v (.int .i64 w_11), .v (.int .i64 xv_8.Rec.K), .v (.int .i64 xv_8.Rec.V)]] = enc ([(⟨xv_8.Node, w_11, xv_8.Rec⟩ : GFeed)] : List GFeed) := by rfl
                      obtain ⟨g_23, h⟩ := guardO_some h
                      simp only [List.length_cons, List.length_nil, Nat.zero_add, List.length_append] at g_23
                      have rf_33 : enc a_16 ++ [[.v (.int .i64 xv_8.Node), .v (.int .i64 w_11), .v (.int .i64 xv_8.Rec.K), .v (.int .i64 xv_8.Rec.V)]] = enc (a_16 ++ ([(⟨xv_8.Node, w_11, xv_8.Rec⟩ : GFeed)] : List GFeed)) := by exact (enc_app a_16 ([(⟨xv_8.Node, w_11, xv_8.Rec⟩ : GFeed)] : List GFeed)).symm
                      simp only [go_sem, Try.ntmps15, Try.results15, g_23, rf_33]
                      simp only [rf_32]
                      refine blockQ_normal hQ26 ?_
                      refine seqQ_normal hQ25 ?_
                      simp only [go_sem, Try.ntmps15, Try.results15]
                      refine thenQ_normal hQ22 ?_
                      refine ⟨(m_5, IntKind.i64.wrap (w_11 + 1), (a_16 ++ ([(⟨xv_8.Node, w_11, xv_8.Rec⟩ : GFeed)] : List GFeed))), [some 3], ?_, h, Nat.lt_succ_self _⟩
                      simp only [go_sem, Le] <;> (repeat' apply And.intro) <;> (simp [go_sem]; done)
                    ·
                      replace h := if_f h hb_81
                      simp only [decide_eq_true_eq, decide_eq_false_iff_not, Bool.not_eq_true', Bool.not_eq_false', beq_iff_eq, beq_eq_false_iff_ne, ne_eq, Bool.and_eq_true, Bool.or_eq_true, Int.not_lt, Int.not_le] at hb_81
                      refine vc_skip_of ?_
                      refine blockQ_normal hQ26 ?_
                      refine seqQ_normal hQ25 ?_
                      simp only [go_sem, Try.ntmps15, Try.results15]
                      refine thenQ_normal hQ22 ?_
                      refine ⟨(m_5, IntKind.i64.wrap (w_11 + 1), a_16), [some 0], ?_, h, Nat.lt_succ_self _⟩
                      simp only [go_sem, Le]
                ·
                  replace h := if_f h hb_79
                  simp only [decide_eq_true_eq, decide_eq_false_iff_not, Bool.not_eq_true', Bool.not_eq_false', beq_iff_eq, beq_eq_false_iff_ne, ne_eq, Bool.and_eq_true, Bool.or_eq_true, Int.not_lt, Int.not_le] at hb_79
                  refine vc_exit_of ?_
                  refine seqQ_exit hQ23 ?_
                  refine thenQ_exit hQ22 ?_
                  refine blockQ_exit hQ21 ?_
                  refine blockQ_normal hQ17 ?_
                  refine seqQ_normal hQ16 ?_
                  simp only [go_sem, Try.ntmps15, Try.results15]
                  refine thenQ_normal hQ13 ?_
                  refine ⟨(m_3, IntKind.i64.wrap (i_5 + 1), a_16), [some 0], ?_, h, Nat.lt_succ_self _⟩
                  simp only [go_sem, Le]
          ·
            replace h := if_f h hb_71
            simp only [decide_eq_true_eq, decide_eq_false_iff_not, Bool.not_eq_true', Bool.not_eq_false', beq_iff_eq, beq_eq_false_iff_ne, ne_eq, Bool.and_eq_true, Bool.or_eq_true, Int.not_lt, Int.not_le] at hb_71
            refine vc_exit_of ?_
            refine seqQ_exit hQ14 ?_
            refine thenQ_exit hQ13 ?_
            refine blockQ_exit hQ12 ?_
            refine thenQ_normal hQ10 ?_
            refine ⟨a_14, [some 0], ?_, h⟩
            simp only [go_sem, Le]
      · rintro a_8 h
        try dsimp only at h
        rw [f_backwashref33_Slide_J2] at h
        refine vc_seq_gen (by kernel_rfl) ?_
        intro QQ6 hQ6
        refine vc_seq_gen (by kernel_rfl) ?_
        intro QQ7 hQ7
        simp only [go_sem, Try.ntmps15, Try.results15]
        refine seqQ_normal hQ7 ?_
        refine vc_cond_of (b := (decide (65536 < (List.length a_8 : Int)))) (by (simp only [go_sem]; done)) (fun hb_46 => ?_) (fun hb_46 => ?_)
        ·
          replace h := if_t h hb_46
          simp only [decide_eq_true_eq, decide_eq_false_iff_not, Bool.not_eq_true', Bool.not_eq_false', beq_iff_eq, beq_eq_false_iff_ne, ne_eq, Bool.and_eq_true, Bool.or_eq_true, Int.not_lt, Int.not_le] at hb_46
          refine vc_seq_gen (by kernel_rfl) ?_
          intro QQ8 hQ8
          simp only [go_sem, Try.ntmps15, Try.results15]
          refine seqQ_normal hQ8 ?_
          refine vc_ret_of ?_
          refine seqQ_ret hQ6 ?_
          simp only [go_sem, Try.ntmps15, Try.results15]
          obtain rfl := Option.some.inj h
          refine retW_det [none] ?_
          simp only [go_sem, Le] <;> (repeat' apply And.intro) <;> (simp [go_sem]; done)
        ·
          replace h := if_f h hb_46
          simp only [decide_eq_true_eq, decide_eq_false_iff_not, Bool.not_eq_true', Bool.not_eq_false', beq_iff_eq, beq_eq_false_iff_ne, ne_eq, Bool.and_eq_true, Bool.or_eq_true, Int.not_lt, Int.not_le] at hb_46
          refine vc_skip_of ?_
          refine seqQ_normal hQ6 ?_
          refine vc_seq_gen (by kernel_rfl) ?_
          intro QQ9 hQ9
          simp only [go_sem, Try.ntmps15, Try.results15]
          refine seqQ_normal hQ9 ?_
          refine vc_ret_of ?_
          simp only [go_sem, Try.ntmps15, Try.results15]
          obtain rfl := Option.some.inj h
          refine retW_det [some 0] ?_
          simp only [go_sem, Le]
theorem f_backwashref33_Slide_ok (l_0 : List GFeed) (size_0 : Int) (step_0 : Int)  (r : (List GFeed) × Int) (h : f_backwashref33_Slide l_0 size_0 step_0 = some r) : PureS Try.prog 15 [.sl 4 (enc l_0), .v (.int .i64 size_0), .v (.int .i64 step_0)] 0 (.tup [.sl 4 (enc r.1), .v (.int .i64 r.2)]) := by
  refine (f_backwashref33_Slide_det l_0 size_0 step_0  r h).pure ?_
  simp only [go_sem, Le] <;> (repeat' apply And.intro) <;> (simp [go_sem]; done)
end Go.Proofs.Ytfjjpdjnpmajlaa

namespace Go.Proofs.Ytfjjpdjnpmajlaa
open Go Go.RowKit
set_option maxHeartbeats 2000000
set_option maxRecDepth 100000
set_option linter.unusedSimpArgs false
set_option linter.unusedVariables false
def f_backwashref33_SameFeeds_B1 (a_0 : List GFeed) (b_0 : List GFeed) (rec_1 : Int → Option Bool) : Int → Option Bool :=
  fun i_1 =>
  (if (decide (i_1 < (List.length a_0 : Int))) = true then bindO (idx a_0 i_1) (fun (xv_4 : GFeed) =>
  bindO (idx b_0 i_1) (fun (xv_5 : GFeed) =>
  (if (!((xv_4.Node == xv_5.Node) && ((xv_4.Epoch == xv_5.Epoch) && ((xv_4.Rec.K == xv_5.Rec.K) && (xv_4.Rec.V == xv_5.Rec.V))))) = true then some false
  else rec_1 (IntKind.i64.wrap (i_1 + 1)))))
  else some true)
def f_backwashref33_SameFeeds (a_0 : List GFeed) (b_0 : List GFeed) : Option Bool :=
  (if (!((List.length a_0 : Int) == (List.length b_0 : Int))) = true then some false
  else loopK (f_backwashref33_SameFeeds_B1 a_0 b_0) rounds 0)
theorem f_backwashref33_SameFeeds_ok (a_0 : List GFeed) (b_0 : List GFeed)  (r : Bool) (h : f_backwashref33_SameFeeds a_0 b_0 = some r) : PureS Try.prog 16 [.sl 4 (enc a_0), .sl 4 (enc b_0)] 0 (.v (.bool r)) := by
  unfold PureS
  refine Spec.of_vc Try.func16 rfl (by kernel_rfl) (by kernel_rfl) ?_
  rw [f_backwashref33_SameFeeds] at h
  refine vc_seq_gen (by kernel_rfl) ?_
  intro QQ1 hQ1
  simp only [go_sem, Try.ntmps16, Try.results16]
  refine seqQ_normal hQ1 ?_
  refine vc_seq_gen (by kernel_rfl) ?_
  intro QQ2 hQ2
  refine vc_seq_gen (by kernel_rfl) ?_
  intro QQ3 hQ3
  simp only [go_sem, Try.ntmps16, Try.results16]
  refine seqQ_normal hQ3 ?_
  refine vc_cond_of (b := (!((List.length a_0 : Int) == (List.length b_0 : Int)))) (by (simp only [go_sem]; done)) (fun hb_0 => ?_) (fun hb_0 => ?_)
  ·
    replace h := if_t h hb_0
    simp only [decide_eq_true_eq, decide_eq_false_iff_not, Bool.not_eq_true', Bool.not_eq_false', beq_iff_eq, beq_eq_false_iff_ne, ne_eq, Bool.and_eq_true, Bool.or_eq_true, Int.not_lt, Int.not_le] at hb_0
    refine vc_seq_gen (by kernel_rfl) ?_
    intro QQ4 hQ4
    simp only [go_sem, Try.ntmps16, Try.results16]
    refine seqQ_normal hQ4 ?_
    refine vc_ret_of ?_
    refine seqQ_ret hQ2 ?_
    simp only [go_sem, Try.ntmps16, Try.results16]
    obtain rfl := Option.some.inj h
    refine retW_pure rfl ?_
    simp only [go_sem, Le]
  ·
    replace h := if_f h hb_0
    simp only [decide_eq_true_eq, decide_eq_false_iff_not, Bool.not_eq_true', Bool.not_eq_false', beq_iff_eq, beq_eq_false_iff_ne, ne_eq, Bool.and_eq_true, Bool.or_eq_true, Int.not_lt, Int.not_le] at hb_0
    refine vc_skip_of ?_
    refine seqQ_normal hQ2 ?_
    refine vc_join (by kernel_rfl) ?_
    refine seq_go_gen ?_
    intro QQ5 hQ5
    refine vc_seq_gen (by kernel_rfl) ?_
    intro QQ6 hQ6
    simp only [go_sem, Try.ntmps16, Try.results16]
    refine seqQ_normal hQ6 ?_
    refine vc_block_gen ?_
    intro QQ7 hQ7
    refine vc_loop_of ?_
    refine loop_gen (ι := Nat × Int) (fun ((_, i_1) : Nat × Int) => (⟨0, [(0, .sl 4 (enc a_0)), (1, .sl 4 (enc b_0)), (5, .v (.int .i64 i_1))], [], 0, 26⟩ : St)) (fun ((n_, i_1) : Nat × Int) => loopK (f_backwashref33_SameFeeds_B1 a_0 b_0) n_ i_1 = some r) (fun p => p.1) (rounds, 0) [] ?_ h ?_
    · simp only [go_sem, Le]
    · rintro ⟨n_1, i_1⟩ h QQ8 hQ8
      dsimp only at h
      replace h := loopK_some h
      obtain ⟨m_1, rfl, h⟩ := h
      rw [f_backwashref33_SameFeeds_B1] at h
      refine vc_seq_gen (by kernel_rfl) ?_
      intro QQ9 hQ9
      refine vc_seq_gen (by kernel_rfl) ?_
      intro QQ10 hQ10
      simp only [go_sem, Try.ntmps16, Try.results16]
      refine seqQ_normal hQ10 ?_
      refine vc_cond_of (b := (decide (i_1 < (List.length a_0 : Int)))) (by (simp only [go_sem]; done)) (fun hb_5 => ?_) (fun hb_5 => ?_)
      ·
        replace h := if_t h hb_5
        simp only [decide_eq_true_eq, decide_eq_false_iff_not, Bool.not_eq_true', Bool.not_eq_false', beq_iff_eq, beq_eq_false_iff_ne, ne_eq, Bool.and_eq_true, Bool.or_eq_true, Int.not_lt, Int.not_le] at hb_5
        refine vc_skip_of ?_
        refine seqQ_normal hQ9 ?_
        refine vc_seq_gen (by kernel_rfl) ?_
        intro QQ11 hQ11
        refine vc_block_gen ?_
        intro QQ12 hQ12
        refine vc_seq_gen (by kernel_rfl) ?_
        intro QQ13 hQ13
        refine vc_draw ?_
        refine drawM_tail 8 [0, 0, 3, 7, 0, 0, 48, 112, 255] mixed (by kernel_rfl) (of_decide_eq_true (by kernel_rfl)) (by kernel_rfl) ?_
        obtain ⟨xv_4, exv_4, h⟩ := bindO_some h
        obtain ⟨fxv_4a, fxv_4b, fxv_4c⟩ := idx_spec exv_4
        obtain ⟨xv_5, exv_5, h⟩ := bindO_some h
        obtain ⟨fxv_5a, fxv_5b, fxv_5c⟩ := idx_spec exv_5
        simp only [go_sem, Try.ntmps16, Try.results16, fxv_4a, fxv_4b, fxv_4c, fxv_5a, fxv_5b, fxv_5c]
        refine And.intro (by omega) ?_
        refine And.intro (by omega) ?_
        refine seqQ_normal hQ13 ?_
        refine vc_cond_of (b := (!((xv_4.Node == xv_5.Node) && ((xv_4.Epoch == xv_5.Epoch) && ((xv_4.Rec.K == xv_5.Rec.K) && (xv_4.Rec.V == xv_5.Rec.V)))))) (by (simp only [go_sem]; done)) (fun hb_6 => ?_) (fun hb_6 => ?_)
        ·
          replace h := if_t h hb_6
          simp only [decide_eq_true_eq, decide_eq_false_iff_not, Bool.not_eq_true', Bool.not_eq_false', beq_iff_eq, beq_eq_false_iff_ne, ne_eq, Bool.and_eq_true, Bool.or_eq_true, Int.not_lt, Int.not_le] at hb_6
          refine vc_seq_gen (by kernel_rfl) ?_
          intro QQ14 hQ14
          simp only [go_sem, Try.ntmps16, Try.results16]
          refine seqQ_normal hQ14 ?_
          refine vc_ret_of ?_
          refine blockQ_ret hQ12 ?_
          refine seqQ_ret hQ11 ?_
          refine thenQ_ret hQ8 ?_
          refine blockQ_ret hQ7 ?_
          refine seqQ_ret hQ5 ?_
          simp only [go_sem, Try.ntmps16, Try.results16]
          obtain rfl := Option.some.inj h
          refine retW_pure rfl ?_
          simp only [go_sem, Le]
        ·
          replace h := if_f h hb_6
          simp only [decide_eq_true_eq, decide_eq_false_iff_not, Bool.not_eq_true', Bool.not_eq_false', beq_iff_eq, beq_eq_false_iff_ne, ne_eq, Bool.and_eq_true, Bool.or_eq_true, Int.not_lt, Int.not_le] at hb_6
          refine vc_skip_of ?_
          refine blockQ_normal hQ12 ?_
          refine seqQ_normal hQ11 ?_
          simp only [go_sem, Try.ntmps16, Try.results16]
          refine thenQ_normal hQ8 ?_
          refine ⟨(m_1, IntKind.i64.wrap (i_1 + 1)), [], ?_, h, Nat.lt_succ_self _⟩
          simp only [go_sem, Le]
      ·
        replace h := if_f h hb_5
        simp only [decide_eq_true_eq, decide_eq_false_iff_not, Bool.not_eq_true', Bool.not_eq_false', beq_iff_eq, beq_eq_false_iff_ne, ne_eq, Bool.and_eq_true, Bool.or_eq_true, Int.not_lt, Int.not_le] at hb_5
        refine vc_exit_of ?_
        refine seqQ_exit hQ9 ?_
        refine thenQ_exit hQ8 ?_
        refine blockQ_exit hQ7 ?_
        refine seqQ_normal hQ5 ?_
        refine vc_seq_gen (by kernel_rfl) ?_
        intro QQ15 hQ15
        simp only [go_sem, Try.ntmps16, Try.results16]
        refine seqQ_normal hQ15 ?_
        refine vc_ret_of ?_
        simp only [go_sem, Try.ntmps16, Try.results16]
        obtain rfl := Option.some.inj h
        refine retW_pure rfl ?_
        simp only [go_sem, Le]
end Go.Proofs.Ytfjjpdjnpmajlaa

namespace Go.Proofs.Ytfjjpdjnpmajlaa
open Go Go.RowKit
set_option maxHeartbeats 2000000
set_option maxRecDepth 100000
set_option linter.unusedSimpArgs false
set_option linter.unusedVariables false
def f_slices_IndexFunc_Out_B1 (s_0 : List GOut) (f_0 : GOut → Option Bool) (rec_1 : Int → Option Int) : Int → Option Int :=
  fun t8_1 =>
  (if (decide (t8_1 < (List.length s_0 : Int))) = true then bindO (idx s_0 t8_1) (fun (xv_2 : GOut) =>
  bindO (f_0 xv_2) (fun (v_2 : Bool) =>
  (if v_2 = true then some t8_1
  else rec_1 (IntKind.i64.wrap (t8_1 + 1)))))
  else some (-1))
def f_slices_IndexFunc_Out (s_0 : List GOut) (f_0 : GOut → Option Bool) : Option Int :=
  loopK (f_slices_IndexFunc_Out_B1 s_0 f_0) rounds 0
theorem f_slices_IndexFunc_Out_ok (s_0 : List GOut) (f_0 : GOut → Option Bool) (g_f_0 : FuncId) (c_f_0 : List AV) (F_f_0 : idFreeL c_f_0 = true) (E_f_0 : entB Try.prog g_f_0 = true) (H_f_0 : ∀ (x0 : GOut) (r : Bool), f_0 x0 = some r → PureS Try.prog g_f_0 ([.agg [.v (.int .i64 x0.Node), .v (.int .i64 x0.Epoch), .v (.int .i64 x0.Rec.K), .v (.int .i64 x0.Rec.V)]] ++ c_f_0) 0 (.v (.bool r))) (r : Int) (h : f_slices_IndexFunc_Out s_0 f_0 = some r) : PureS Try.prog 78 [.sl 4 (enc s_0), .clo g_f_0 c_f_0] 0 (.v (.int .i64 r)) := by
  unfold PureS
  refine Spec.of_vc Try.func78 rfl (by kernel_rfl) (by kernel_rfl) ?_
  rw [f_slices_IndexFunc_Out] at h
  refine vc_seq_gen (by kernel_rfl) ?_
  intro QQ1 hQ1
  simp only [go_sem, Try.ntmps78, Try.results78]
  refine seqQ_normal hQ1 ?_
  refine vc_join (by kernel_rfl) ?_
  refine seq_go_gen ?_
  intro QQ2 hQ2
  refine vc_seq_gen (by kernel_rfl) ?_
  intro QQ3 hQ3
  simp only [go_sem, Try.ntmps78, Try.results78]
  refine seqQ_normal hQ3 ?_
  refine vc_block_gen ?_
  intro QQ4 hQ4
  refine vc_loop_of ?_
  refine loop_gen (ι := Nat × Int) (fun ((_, t8_1) : Nat × Int) => (⟨0, [(0, .sl 4 (enc s_0)), (1, .clo g_f_0 c_f_0), (7, .v (.int .i64 (List.length s_0 : Int))), (8, .v (.int .i64 t8_1))], [], 0, 19⟩ : St)) (fun ((n_, t8_1) : Nat × Int) => loopK (f_slices_IndexFunc_Out_B1 s_0 f_0) n_ t8_1 = some r) (fun p => p.1) (rounds, 0) [] ?_ h ?_
  · simp only [go_sem, Le, AvLeL_free _ F_f_0]
  · rintro ⟨n_1, t8_1⟩ h QQ5 hQ5
    dsimp only at h
    replace h := loopK_some h
    obtain ⟨m_1, rfl, h⟩ := h
    rw [f_slices_IndexFunc_Out_B1] at h
    refine vc_seq_gen (by kernel_rfl) ?_
    intro QQ6 hQ6
    simp only [go_sem, Try.ntmps78, Try.results78]
    refine seqQ_normal hQ6 ?_
    refine vc_seq_gen (by kernel_rfl) ?_
    intro QQ7 hQ7
    refine vc_cond_of (b := (decide (t8_1 < (List.length s_0 : Int)))) (by (simp only [go_sem]; done)) (fun hb_4 => ?_) (fun hb_4 => ?_)
    ·
      replace h := if_t h hb_4
      simp only [decide_eq_true_eq, decide_eq_false_iff_not, Bool.not_eq_true', Bool.not_eq_false', beq_iff_eq, beq_eq_false_iff_ne, ne_eq, Bool.and_eq_true, Bool.or_eq_true, Int.not_lt, Int.not_le] at hb_4
      refine vc_skip_of ?_
      refine seqQ_normal hQ7 ?_
      refine vc_seq_gen (by kernel_rfl) ?_
      intro QQ8 hQ8
      refine vc_block_gen ?_
      intro QQ9 hQ9
      refine vc_seq_gen (by kernel_rfl) ?_
      intro QQ10 hQ10
      simp only [go_sem, Try.ntmps78, Try.results78]
      refine seqQ_normal hQ10 ?_
      refine vc_seq_gen (by kernel_rfl) ?_
      intro QQ11 hQ11
      obtain ⟨xv_2, exv_2, h⟩ := bindO_some h
      obtain ⟨fxv_2a, fxv_2b, fxv_2c⟩ := idx_spec exv_2
      obtain ⟨v_2, ev_2, h⟩ := bindO_some h
      simp only [go_sem, Try.ntmps78, Try.results78, fxv_2a, fxv_2b, fxv_2c, E_f_0]
      refine And.intro (by omega) ?_
      refine call0 (H_f_0 xv_2 v_2 ev_2) (by rfl) (by simp [idFreeL, idFree, F_f_0]) ?_
      simp only [go_sem, Try.ntmps78, Try.results78]
      refine seqQ_normal hQ11 ?_
      refine vc_cond_of (b := v_2) (by (simp only [go_sem]; done)) (fun hb_5 => ?_) (fun hb_5 => ?_)
      ·
        replace h := if_t h hb_5
        refine vc_seq_gen (by kernel_rfl) ?_
        intro QQ12 hQ12
        simp only [go_sem, Try.ntmps78, Try.results78]
        refine seqQ_normal hQ12 ?_
        refine vc_ret_of ?_
        refine blockQ_ret hQ9 ?_
        refine seqQ_ret hQ8 ?_
        refine thenQ_ret hQ5 ?_
        refine blockQ_ret hQ4 ?_
        refine seqQ_ret hQ2 ?_
        simp only [go_sem, Try.ntmps78, Try.results78]
        obtain rfl := Option.some.inj h
        refine retW_pure rfl ?_
        simp only [go_sem, Le, AvLeL_free _ F_f_0]
      ·
        replace h := if_f h hb_5
        refine vc_skip_of ?_
        refine blockQ_normal hQ9 ?_
        refine seqQ_normal hQ8 ?_
        simp only [go_sem, Try.ntmps78, Try.results78]
        refine thenQ_normal hQ5 ?_
        refine ⟨(m_1, IntKind.i64.wrap (t8_1 + 1)), [], ?_, h, Nat.lt_succ_self _⟩
        simp only [go_sem, Le, AvLeL_free _ F_f_0]
    ·
      replace h := if_f h hb_4
      simp only [decide_eq_true_eq, decide_eq_false_iff_not, Bool.not_eq_true', Bool.not_eq_false', beq_iff_eq, beq_eq_false_iff_ne, ne_eq, Bool.and_eq_true, Bool.or_eq_true, Int.not_lt, Int.not_le] at hb_4
      refine vc_exit_of ?_
      refine seqQ_exit hQ7 ?_
      refine thenQ_exit hQ5 ?_
      refine blockQ_exit hQ4 ?_
      refine seqQ_normal hQ2 ?_
      refine vc_seq_gen (by kernel_rfl) ?_
      intro QQ13 hQ13
      simp only [go_sem, Try.ntmps78, Try.results78]
      refine seqQ_normal hQ13 ?_
      refine vc_ret_of ?_
      simp only [go_sem, Try.ntmps78, Try.results78]
      obtain rfl := Option.some.inj h
      refine retW_pure rfl ?_
      simp only [go_sem, Le, AvLeL_free _ F_f_0]
end Go.Proofs.Ytfjjpdjnpmajlaa

namespace Go.Proofs.Ytfjjpdjnpmajlaa
open Go Go.RowKit
set_option maxHeartbeats 2000000
set_option maxRecDepth 100000
set_option linter.unusedSimpArgs false
set_option linter.unusedVariables false
def f_slices_ContainsFunc_Out (s_0 : List GOut) (f_0 : GOut → Option Bool) : Option Bool :=
  bindO (f_slices_IndexFunc_Out s_0 f_0) (fun (v_0 : Int) =>
  some (decide (0 ≤ v_0)))
theorem f_slices_ContainsFunc_Out_ok (s_0 : List GOut) (f_0 : GOut → Option Bool) (g_f_0 : FuncId) (c_f_0 : List AV) (F_f_0 : idFreeL c_f_0 = true) (E_f_0 : entB Try.prog g_f_0 = true) (H_f_0 : ∀ (x0 : GOut) (r : Bool), f_0 x0 = some r → PureS Try.prog g_f_0 ([.agg [.v (.int .i64 x0.Node), .v (.int .i64 x0.Epoch), .v (.int .i64 x0.Rec.K), .v (.int .i64 x0.Rec.V)]] ++ c_f_0) 0 (.v (.bool r))) (r : Bool) (h : f_slices_ContainsFunc_Out s_0 f_0 = some r) : PureS Try.prog 45 [.sl 4 (enc s_0), .clo g_f_0 c_f_0] 0 (.v (.bool r)) := by
  unfold PureS
  refine Spec.of_vc Try.func45 rfl (by kernel_rfl) (by kernel_rfl) ?_
  rw [f_slices_ContainsFunc_Out] at h
  refine vc_seq_gen (by kernel_rfl) ?_
  intro QQ1 hQ1
  simp only [go_sem, Try.ntmps45, Try.results45]
  refine seqQ_normal hQ1 ?_
  refine vc_seq_gen (by kernel_rfl) ?_
  intro QQ2 hQ2
  obtain ⟨v_0, ev_0, h⟩ := bindO_some h
  simp only [go_sem, Try.ntmps45, Try.results45]
  refine call0 (f_slices_IndexFunc_Out_ok s_0 f_0 g_f_0 c_f_0 F_f_0 E_f_0 H_f_0 v_0 ev_0) (by rfl) (by simp [idFreeL, idFree, F_f_0]) ?_
  simp only [go_sem, Try.ntmps45, Try.results45]
  refine seqQ_normal hQ2 ?_
  refine vc_ret_of ?_
  simp only [go_sem, Try.ntmps45, Try.results45]
  obtain rfl := Option.some.inj h
  refine retW_pure rfl ?_
  simp only [go_sem, Le, AvLeL_free _ F_f_0]
end Go.Proofs.Ytfjjpdjnpmajlaa

namespace Go.Proofs.Ytfjjpdjnpmajlaa
open Go Go.RowKit
set_option maxHeartbeats 2000000
set_option maxRecDepth 100000
set_option linter.unusedSimpArgs false
set_option linter.unusedVariables false
def f_window_Gather_1 (o_0 : GOut) : Option Bool :=
  bindO (f_window_epoch o_0.Epoch) (fun (v_0 : Bool) =>
  some (!v_0))
theorem f_window_Gather_1_ok (o_0 : GOut)  (r : Bool) (h : f_window_Gather_1 o_0 = some r) : PureS Try.prog 46 [.agg [.v (.int .i64 o_0.Node), .v (.int .i64 o_0.Epoch), .v (.int .i64 o_0.Rec.K), .v (.int .i64 o_0.Rec.V)]] 0 (.v (.bool r)) := by
  unfold PureS
  refine Spec.of_vc Try.func46 rfl (by kernel_rfl) (by kernel_rfl) ?_
  rw [f_window_Gather_1] at h
  refine vc_seq_gen (by kernel_rfl) ?_
  intro QQ1 hQ1
  simp only [go_sem, Try.ntmps46, Try.results46]
  refine seqQ_normal hQ1 ?_
  refine vc_seq_gen (by kernel_rfl) ?_
  intro QQ2 hQ2
  obtain ⟨v_0, ev_0, h⟩ := bindO_some h
  simp only [go_sem, Try.ntmps46, Try.results46]
  refine call0 (f_window_epoch_ok o_0.Epoch v_0 ev_0) (by rfl) (by rfl) ?_
  simp only [go_sem, Try.ntmps46, Try.results46]
  refine seqQ_normal hQ2 ?_
  refine vc_ret_of ?_
  simp only [go_sem, Try.ntmps46, Try.results46]
  obtain rfl := Option.some.inj h
  refine retW_pure rfl ?_
  simp only [go_sem, Le]
end Go.Proofs.Ytfjjpdjnpmajlaa

namespace Go.Proofs.Ytfjjpdjnpmajlaa
open Go Go.RowKit
set_option maxHeartbeats 2000000
set_option maxRecDepth 100000
set_option linter.unusedSimpArgs false
set_option linter.unusedVariables false
def f_slices_Clone_Out (s_0 : List GOut) : Option (List GOut) :=
  guardO ((List.length ([] : List GOut) + List.length s_0) * 32 ≤ 140737488355328) (
  some (([] : List GOut) ++ s_0))
theorem f_slices_Clone_Out_det (s_0 : List GOut)  (r : List GOut) (h : f_slices_Clone_Out s_0 = some r) : DetS Try.prog 47 [.sl 4 (enc s_0)] [] 0 (.osl 0 4 (0) (List.length r)) [(0, .arr 4 (enc r))] 1 := by
  unfold DetS
  refine Spec.of_vc Try.func47 rfl (by kernel_rfl) (by kernel_rfl) ?_
  rw [f_slices_Clone_Out] at h
  refine vc_seq_gen (by kernel_rfl) ?_
  intro QQ1 hQ1
  simp only [go_sem, Try.ntmps47, Try.results47]
  refine seqQ_normal hQ1 ?_
  refine vc_seq_gen (by kernel_rfl) ?_
  intro QQ2 hQ2
  refine vc_seq_gen (by kernel_rfl) ?_
  intro QQ3 hQ3
  simp only [go_sem, Try.ntmps47, Try.results47]
  intro nb_0 hnb_0
  rcases nb_0 with _ | _
  ·
    refine seqQ_normal hQ3 ?_
    refine vc_cond_f (by (simp only [go_sem]; done)) ?_
    refine vc_skip_of ?_
    refine seqQ_normal hQ2 ?_
    refine vc_seq_gen (by kernel_rfl) ?_
    intro QQ4 hQ4
    obtain ⟨g_0, h⟩ := guardO_some h
    simp only [List.length_cons, List.length_nil, Nat.zero_add, List.length_append] at g_0
    have rf_0 : enc ([] : List GOut) ++ enc s_0 = enc (([] : List GOut) ++ s_0) := by exact (enc_app ([] : List GOut) s_0).symm
    simp only [go_sem, Try.ntmps47, Try.results47, g_0, rf_0]
    refine seqQ_normal hQ4 ?_
    refine vc_ret_of ?_
    simp only [go_sem, Try.ntmps47, Try.results47]
    obtain rfl := Option.some.inj h
    refine retW_det [some 1] ?_
    simp only [go_sem, Le]
  ·
    have hE_nb_0 : s_0 = [] := by cases hq : (s_0) with | nil => rfl | cons y ys => exact absurd (hnb_0 (by rw [hq]; simp [enc])) (by simp)
    simp only [hE_nb_0] at h
    refine seqQ_normal hQ3 ?_
    refine vc_cond_t (by (simp only [go_sem]; done)) ?_
    refine vc_seq_gen (by kernel_rfl) ?_
    intro QQ5 hQ5
    simp only [go_sem, Try.ntmps47, Try.results47]
    refine seqQ_normal hQ5 ?_
    refine vc_ret_of ?_
    refine seqQ_ret hQ2 ?_
    simp only [go_sem, Try.ntmps47, Try.results47]
    obtain rfl := Option.some.inj h
    refine retW_det [none] ?_
    simp only [go_sem, Le] <;> (repeat' apply And.intro) <;> (simp [go_sem]; done)
theorem f_slices_Clone_Out_ok (s_0 : List GOut)  (r : List GOut) (h : f_slices_Clone_Out s_0 = some r) : PureS Try.prog 47 [.sl 4 (enc s_0)] 0 (.sl 4 (enc r)) := by
  refine (f_slices_Clone_Out_det s_0  r h).pure ?_
  simp only [go_sem, Le] <;> (repeat' apply And.intro) <;> (simp [go_sem]; done)
end Go.Proofs.Ytfjjpdjnpmajlaa

namespace Go.Proofs.Ytfjjpdjnpmajlaa
open Go Go.RowKit
set_option maxHeartbeats 2000000
set_option maxRecDepth 100000
set_option linter.unusedSimpArgs false
set_option linter.unusedVariables false
def lay48_ren : Go.Shelf.Ren := ⟨fun | 6 => 48 | 15 => 80 | 14 => 79 | 28 => 112 | 29 => 113 | 20 => 104 | 21 => 105 | 22 => 106 | 23 => 107 | 24 => 108 | 25 => 109 | 26 => 110 | 27 => 111 | 46 => 131 | 47 => 132 | 48 => 133 | 49 => 134 | 50 => 135 | 57 => 145 | n => n, fun | 22 => 23 | 24 => 66 | 25 => 91 | 3 => 3 | 39 => 126 | 0 => 0 | 53 => 157 | 55 => 112 | 4 => 4 | 46 => 151 | 45 => 150 | 50 => 143 | 5 => 5 | 9 => 9 | 66 => 172 | 70 => 176 | 76 => 189 | 77 => 190 | n => n, fun | n => n⟩
theorem lay48 : Go.Proofs.SlLaysF0.n6 Try.prog lay48_ren := {
  mixed := by kernel_rfl
  f6 := ⟨Try.f48.name, by decide, Try.func48.trans (congrArg some (by kernel_rfl))⟩
  f14 := ⟨Try.f79.name, by decide, Try.func79.trans (congrArg some (by kernel_rfl))⟩
  f15 := Try.func80.trans (congrArg some (by kernel_rfl))
  f20 := ⟨Try.f104.name, by decide, Try.func104.trans (congrArg some (by kernel_rfl))⟩
  f21 := ⟨Try.f105.name, by decide, Try.func105.trans (congrArg some (by kernel_rfl))⟩
  f22 := ⟨Try.f106.name, by decide, Try.func106.trans (congrArg some (by kernel_rfl))⟩
  f23 := ⟨Try.f107.name, by decide, Try.func107.trans (congrArg some (by kernel_rfl))⟩
  f24 := ⟨Try.f108.name, by decide, Try.func108.trans (congrArg some (by kernel_rfl))⟩
  f25 := ⟨Try.f109.name, by decide, Try.func109.trans (congrArg some (by kernel_rfl))⟩
  f26 := ⟨Try.f110.name, by decide, Try.func110.trans (congrArg some (by kernel_rfl))⟩
  f27 := ⟨Try.f111.name, by decide, Try.func111.trans (congrArg some (by kernel_rfl))⟩
  f28 := Try.func112.trans (congrArg some (by kernel_rfl))
  f29 := Try.func113.trans (congrArg some (by kernel_rfl))
  f46 := ⟨Try.f131.name, by decide, Try.func131.trans (congrArg some (by kernel_rfl))⟩
  f47 := Try.func132.trans (congrArg some (by kernel_rfl))
  f48 := Try.func133.trans (congrArg some (by kernel_rfl))
  f49 := ⟨Try.f134.name, by decide, Try.func134.trans (congrArg some (by kernel_rfl))⟩
  f50 := ⟨Try.f135.name, by decide, Try.func135.trans (congrArg some (by kernel_rfl))⟩
  f57 := ⟨Try.f145.name, by decide, Try.func145.trans (congrArg some (by kernel_rfl))⟩
  t0 := Try.underlying0
  a0 := Try.isAgg0
  z0 := Try.sizeOf0
  v0 := Try.zeroValue0
  t3 := Try.underlying3
  a3 := Try.isAgg3
  z3 := Try.sizeOf3
  v3 := Try.zeroValue3
  t4 := Try.underlying4
  a4 := Try.isAgg4
  z4 := Try.sizeOf4
  v4 := Try.zeroValue4
  t5 := Try.underlying5
  a5 := Try.isAgg5
  z5 := Try.sizeOf5
  v5 := Try.zeroValue5
  t9 := Try.underlying9
  a9 := Try.isAgg9
  z9 := Try.sizeOf9
  v9 := Try.zeroValue9
  t22 := Try.underlying23
  a22 := Try.isAgg23
  z22 := Try.sizeOf23
  v22 := Try.zeroValue23
  t25 := Try.underlying91
  a25 := Try.isAgg91
  z25 := Try.sizeOf91
  v25 := Try.zeroValue91
  t39 := Try.underlying126
  a39 := Try.isAgg126
  z39 := Try.sizeOf126
  v39 := Try.zeroValue126
  t45 := Try.underlying150
  a45 := Try.isAgg150
  z45 := Try.sizeOf150
  v45 := Try.zeroValue150
  t46 := Try.underlying151
  a46 := Try.isAgg151
  z46 := Try.sizeOf151
  v46 := Try.zeroValue151
  t50 := Try.underlying143
  a50 := Try.isAgg143
  z50 := Try.sizeOf143
  v50 := Try.zeroValue143
  t53 := Try.underlying157
  a53 := Try.isAgg157
  z53 := Try.sizeOf157
  v53 := Try.zeroValue157
  t55 := Try.underlying112
  a55 := Try.isAgg112
  z55 := Try.sizeOf112
  v55 := Try.zeroValue112
  t66 := Try.underlying172
  a66 := Try.isAgg172
  z66 := Try.sizeOf172
  v66 := Try.zeroValue172
  t70 := Try.underlying176
  a70 := Try.isAgg176
  z70 := Try.sizeOf176
  v70 := Try.zeroValue176
  t76 := Try.underlying189
  a76 := Try.isAgg189
  z76 := Try.sizeOf189
  v76 := Try.zeroValue189
  t77 := Try.underlying190
  a77 := Try.isAgg190
  z77 := Try.sizeOf190
  v77 := Try.zeroValue190 }
noncomputable def f_slices_SortFunc_Out_s0_0 (x_0 : List GOut) (cmp_0 : GOut → GOut → Option Int) : Option (List GOut) := sortF cmp_0 x_0
def f_slices_SortFunc_Out_s0_0_ev (x : GOut) : List Value := [(.int .i64 x.Node), (.int .i64 x.Epoch), (.int .i64 x.Rec.K), (.int .i64 x.Rec.V)]
theorem f_slices_SortFunc_Out_s0_0_det (x_0 : List GOut) (cmp_0 : GOut → GOut → Option Int) (g_cmp_0 : FuncId) (c_cmp_0 : List AV) (F_cmp_0 : idFreeL c_cmp_0 = true) (E_cmp_0 : entB Try.prog g_cmp_0 = true) (H_cmp_0 : ∀ (x0 : GOut) (x1 : GOut) (r : Int), cmp_0 x0 x1 = some r → PureS Try.prog g_cmp_0 ([.agg [.v (.int .i64 x0.Node), .v (.int .i64 x0.Epoch), .v (.int .i64 x0.Rec.K), .v (.int .i64 x0.Rec.V)], .agg [.v (.int .i64 x1.Node), .v (.int .i64 x1.Epoch), .v (.int .i64 x1.Rec.K), .v (.int .i64 x1.Rec.V)]] ++ c_cmp_0) 0 (.v (.int .i64 r))) (r : List GOut) (h : f_slices_SortFunc_Out_s0_0 x_0 cmp_0 = some r) : DetS Try.prog 48 [.osl 0 4 0 (List.length x_0), .clo g_cmp_0 c_cmp_0] [(0, .arr 4 (enc x_0))] 1 (.tup []) [(0, .arr 4 (enc r))] 1 :=
  sortFunc_det (ev := f_slices_SortFunc_Out_s0_0_ev) lay48 (fun _ => rfl) (fun _ => rfl) (fun x v hv => by simp only [f_slices_SortFunc_Out_s0_0_ev, List.mem_cons, List.not_mem_nil, or_false] at hv; rcases hv with rfl | rfl | rfl | rfl <;> rfl) Try.isAgg66 Try.sizeOf66 F_cmp_0 E_cmp_0 H_cmp_0 h
end Go.Proofs.Ytfjjpdjnpmajlaa

namespace Go.Proofs.Ytfjjpdjnpmajlaa
open Go Go.RowKit
set_option maxHeartbeats 2000000
set_option maxRecDepth 100000
set_option linter.unusedSimpArgs false
set_option linter.unusedVariables false
def f_cmp_isNaN_int (xv_0 : Int) : Option Bool :=
  some (!(xv_0 == xv_0))
theorem f_cmp_isNaN_int_ok (xv_0 : Int)  (r : Bool) (h : f_cmp_isNaN_int xv_0 = some r) : PureS Try.prog 114 [.v (.int .i64 xv_0)] 0 (.v (.bool r)) := by
  unfold PureS
  refine Spec.of_vc Try.func114 rfl (by kernel_rfl) (by kernel_rfl) ?_
  rw [f_cmp_isNaN_int] at h
  refine vc_seq_gen (by kernel_rfl) ?_
  intro QQ1 hQ1
  simp only [go_sem, Try.ntmps114, Try.results114]
  refine seqQ_normal hQ1 ?_
  refine vc_seq_gen (by kernel_rfl) ?_
  intro QQ2 hQ2
  simp only [go_sem, Try.ntmps114, Try.results114]
  refine seqQ_normal hQ2 ?_
  refine vc_ret_of ?_
  simp only [go_sem, Try.ntmps114, Try.results114]
  obtain rfl := Option.some.inj h
  refine retW_pure rfl ?_
  simp only [go_sem, Le]
end Go.Proofs.Ytfjjpdjnpmajlaa

namespace Go.Proofs.Ytfjjpdjnpmajlaa
open Go Go.RowKit
set_option maxHeartbeats 2000000
set_option maxRecDepth 100000
set_option linter.unusedSimpArgs false
set_option linter.unusedVariables false
def f_cmp_Compare_int (xv_0 : Int) (y_0 : Int) : Option Int :=
  bindO (f_cmp_isNaN_int xv_0) (fun (v_0 : Bool) =>
  bindO (f_cmp_isNaN_int y_0) (fun (v_1 : Bool) =>
  (if v_0 = true then (if v_1 = true then some 0
  else some (-1))
  else (if v_1 = true then some 1
  else (if (decide (xv_0 < y_0)) = true then some (-1)
  else (if (decide (y_0 < xv_0)) = true then some 1
  else some 0))))))
theorem f_cmp_Compare_int_ok (xv_0 : Int) (y_0 : Int)  (r : Int) (h : f_cmp_Compare_int xv_0 y_0 = some r) : PureS Try.prog 81 [.v (.int .i64 xv_0), .v (.int .i64 y_0)] 0 (.v (.int .i64 r)) := by
  unfold PureS
  refine Spec.of_vc Try.func81 rfl (by kernel_rfl) (by kernel_rfl) ?_
  rw [f_cmp_Compare_int] at h
  refine vc_seq_gen (by kernel_rfl) ?_
  intro QQ1 hQ1
  simp only [go_sem, Try.ntmps81, Try.results81]
  refine seqQ_normal hQ1 ?_
  refine vc_seq_gen (by kernel_rfl) ?_
  intro QQ2 hQ2
  obtain ⟨v_0, ev_0, h⟩ := bindO_some h
  simp only [go_sem, Try.ntmps81, Try.results81]
  refine call0 (f_cmp_isNaN_int_ok xv_0 v_0 ev_0) (by rfl) (by rfl) ?_
  simp only [go_sem, Try.ntmps81, Try.results81]
  refine seqQ_normal hQ2 ?_
  refine vc_seq_gen (by kernel_rfl) ?_
  intro QQ3 hQ3
  obtain ⟨v_1, ev_1, h⟩ := bindO_some h
  simp only [go_sem, Try.ntmps81, Try.results81]
  refine call0 (f_cmp_isNaN_int_ok y_0 v_1 ev_1) (by rfl) (by rfl) ?_
  simp only [go_sem, Try.ntmps81, Try.results81]
  refine seqQ_normal hQ3 ?_
  refine vc_seq_gen (by kernel_rfl) ?_
  intro QQ4 hQ4
  refine vc_seq_gen (by kernel_rfl) ?_
  intro QQ5 hQ5
  simp only [go_sem, Try.ntmps81, Try.results81]
  refine seqQ_normal hQ5 ?_
  refine vc_cond_of (b := v_0) (by (simp only [go_sem]; done)) (fun hb_0 => ?_) (fun hb_0 => ?_)
  ·
    replace h := if_t h hb_0
    refine vc_seq_gen (by kernel_rfl) ?_
    intro QQ6 hQ6
    refine vc_seq_gen (by kernel_rfl) ?_
    intro QQ7 hQ7
    simp only [go_sem, Try.ntmps81, Try.results81]
    refine seqQ_normal hQ7 ?_
    refine vc_cond_of (b := v_1) (by (simp only [go_sem]; done)) (fun hb_1 => ?_) (fun hb_1 => ?_)
    ·
      replace h := if_t h hb_1
      refine vc_seq_gen (by kernel_rfl) ?_
      intro QQ8 hQ8
      simp only [go_sem, Try.ntmps81, Try.results81]
      refine seqQ_normal hQ8 ?_
      refine vc_ret_of ?_
      refine seqQ_ret hQ6 ?_
      refine seqQ_ret hQ4 ?_
      simp only [go_sem, Try.ntmps81, Try.results81]
      obtain rfl := Option.some.inj h
      refine retW_pure rfl ?_
      simp only [go_sem, Le]
    ·
      replace h := if_f h hb_1
      refine vc_skip_of ?_
      refine seqQ_normal hQ6 ?_
      refine vc_seq_gen (by kernel_rfl) ?_
      intro QQ9 hQ9
      simp only [go_sem, Try.ntmps81, Try.results81]
      refine seqQ_normal hQ9 ?_
      refine vc_ret_of ?_
      refine seqQ_ret hQ4 ?_
      simp only [go_sem, Try.ntmps81, Try.results81]
      obtain rfl := Option.some.inj h
      refine retW_pure rfl ?_
      simp only [go_sem, Le]
  ·
    replace h := if_f h hb_0
    refine vc_skip_of ?_
    refine seqQ_normal hQ4 ?_
    refine vc_seq_gen (by kernel_rfl) ?_
    intro QQ10 hQ10
    refine vc_seq_gen (by kernel_rfl) ?_
    intro QQ11 hQ11
    simp only [go_sem, Try.ntmps81, Try.results81]
    refine seqQ_normal hQ11 ?_
    refine vc_cond_of (b := v_1) (by (simp only [go_sem]; done)) (fun hb_2 => ?_) (fun hb_2 => ?_)
    ·
      replace h := if_t h hb_2
      refine vc_seq_gen (by kernel_rfl) ?_
      intro QQ12 hQ12
      simp only [go_sem, Try.ntmps81, Try.results81]
      refine seqQ_normal hQ12 ?_
      refine vc_ret_of ?_
      refine seqQ_ret hQ10 ?_
      simp only [go_sem, Try.ntmps81, Try.results81]
      obtain rfl := Option.some.inj h
      refine retW_pure rfl ?_
      simp only [go_sem, Le]
    ·
      replace h := if_f h hb_2
      refine vc_skip_of ?_
      refine seqQ_normal hQ10 ?_
      refine vc_seq_gen (by kernel_rfl) ?_
      intro QQ13 hQ13
      refine vc_seq_gen (by kernel_rfl) ?_
      intro QQ14 hQ14
      simp only [go_sem, Try.ntmps81, Try.results81]
      refine seqQ_normal hQ14 ?_
      refine vc_cond_of (b := (decide (xv_0 < y_0))) (by (simp only [go_sem]; done)) (fun hb_3 => ?_) (fun hb_3 => ?_)
      ·
        replace h := if_t h hb_3
        simp only [decide_eq_true_eq, decide_eq_false_iff_not, Bool.not_eq_true', Bool.not_eq_false', beq_iff_eq, beq_eq_false_iff_ne, ne_eq, Bool.and_eq_true, Bool.or_eq_true, Int.not_lt, Int.not_le] at hb_3
        refine vc_seq_gen (by kernel_rfl) ?_
        intro QQ15 hQ15
        simp only [go_sem, Try.ntmps81, Try.results81]
        refine seqQ_normal hQ15 ?_
        refine vc_ret_of ?_
        refine seqQ_ret hQ13 ?_
        simp only [go_sem, Try.ntmps81, Try.results81]
        obtain rfl := Option.some.inj h
        refine retW_pure rfl ?_
        simp only [go_sem, Le]
      ·
        replace h := if_f h hb_3
        simp only [decide_eq_true_eq, decide_eq_false_iff_not, Bool.not_eq_true', Bool.not_eq_false', beq_iff_eq, beq_eq_false_iff_ne, ne_eq, Bool.and_eq_true, Bool.or_eq_true, Int.not_lt, Int.not_le] at hb_3
        refine vc_skip_of ?_
        refine seqQ_normal hQ13 ?_
        refine vc_seq_gen (by kernel_rfl) ?_
        intro QQ16 hQ16
        refine vc_seq_gen (by kernel_rfl) ?_
        intro QQ17 hQ17
        simp only [go_sem, Try.ntmps81, Try.results81]
        refine seqQ_normal hQ17 ?_
        refine vc_cond_of (b := (decide (y_0 < xv_0))) (by (simp only [go_sem]; done)) (fun hb_4 => ?_) (fun hb_4 => ?_)
        ·
          replace h := if_t h hb_4
          simp only [decide_eq_true_eq, decide_eq_false_iff_not, Bool.not_eq_true', Bool.not_eq_false', beq_iff_eq, beq_eq_false_iff_ne, ne_eq, Bool.and_eq_true, Bool.or_eq_true, Int.not_lt, Int.not_le] at hb_4
          refine vc_seq_gen (by kernel_rfl) ?_
          intro QQ18 hQ18
          simp only [go_sem, Try.ntmps81, Try.results81]
          refine seqQ_normal hQ18 ?_
          refine vc_ret_of ?_
          refine seqQ_ret hQ16 ?_
          simp only [go_sem, Try.ntmps81, Try.results81]
          obtain rfl := Option.some.inj h
          refine retW_pure rfl ?_
          simp only [go_sem, Le]
        ·
          replace h := if_f h hb_4
          simp only [decide_eq_true_eq, decide_eq_false_iff_not, Bool.not_eq_true', Bool.not_eq_false', beq_iff_eq, beq_eq_false_iff_ne, ne_eq, Bool.and_eq_true, Bool.or_eq_true, Int.not_lt, Int.not_le] at hb_4
          refine vc_skip_of ?_
          refine seqQ_normal hQ16 ?_
          refine vc_seq_gen (by kernel_rfl) ?_
          intro QQ19 hQ19
          simp only [go_sem, Try.ntmps81, Try.results81]
          refine seqQ_normal hQ19 ?_
          refine vc_ret_of ?_
          simp only [go_sem, Try.ntmps81, Try.results81]
          obtain rfl := Option.some.inj h
          refine retW_pure rfl ?_
          simp only [go_sem, Le]
end Go.Proofs.Ytfjjpdjnpmajlaa

namespace Go.Proofs.Ytfjjpdjnpmajlaa
open Go Go.RowKit
set_option maxHeartbeats 2000000
set_option maxRecDepth 100000
set_option linter.unusedSimpArgs false
set_option linter.unusedVariables false
def f_cmp_Or_int_B1 (vals_0 : List Int) (rec_1 : Int → Option Int) : Int → Option Int :=
  fun t8_1 =>
  (if (decide (t8_1 < (List.length vals_0 : Int))) = true then bindO (idx vals_0 t8_1) (fun (xv_2 : Int) =>
  (if (!(xv_2 == 0)) = true then some xv_2
  else rec_1 (IntKind.i64.wrap (t8_1 + 1))))
  else some 0)
def f_cmp_Or_int (vals_0 : List Int) : Option Int :=
  loopK (f_cmp_Or_int_B1 vals_0) rounds 0
theorem f_cmp_Or_int_ok (vals_0 : List Int)  (r : Int) (h : f_cmp_Or_int vals_0 = some r) : PureS Try.prog 66 [.sl 1 (enc vals_0)] 0 (.v (.int .i64 r)) := by
  unfold PureS
  refine Spec.of_vc Try.func66 rfl (by kernel_rfl) (by kernel_rfl) ?_
  rw [f_cmp_Or_int] at h
  refine vc_seq_gen (by kernel_rfl) ?_
  intro QQ1 hQ1
  simp only [go_sem, Try.ntmps66, Try.results66]
  refine seqQ_normal hQ1 ?_
  refine vc_seq_gen (by kernel_rfl) ?_
  intro QQ2 hQ2
  simp only [go_sem, Try.ntmps66, Try.results66]
  refine seqQ_normal hQ2 ?_
  refine vc_join (by kernel_rfl) ?_
  refine seq_go_gen ?_
  intro QQ3 hQ3
  refine vc_seq_gen (by kernel_rfl) ?_
  intro QQ4 hQ4
  simp only [go_sem, Try.ntmps66, Try.results66]
  refine seqQ_normal hQ4 ?_
  refine vc_block_gen ?_
  intro QQ5 hQ5
  refine vc_loop_of ?_
  refine loop_gen (ι := Nat × Int) (fun ((_, t8_1) : Nat × Int) => (⟨0, [(3, .v (.int .i64 0)), (6, .sl 1 (enc vals_0)), (7, .v (.int .i64 (List.length vals_0 : Int))), (8, .v (.int .i64 t8_1))], [], 0, 18⟩ : St)) (fun ((n_, t8_1) : Nat × Int) => loopK (f_cmp_Or_int_B1 vals_0) n_ t8_1 = some r) (fun p => p.1) (rounds, 0) [] ?_ h ?_
  · simp only [go_sem, Le]
  · rintro ⟨n_1, t8_1⟩ h QQ6 hQ6
    dsimp only at h
    replace h := loopK_some h
    obtain ⟨m_1, rfl, h⟩ := h
    rw [f_cmp_Or_int_B1] at h
    refine vc_seq_gen (by kernel_rfl) ?_
    intro QQ7 hQ7
    simp only [go_sem, Try.ntmps66, Try.results66]
    refine seqQ_normal hQ7 ?_
    refine vc_seq_gen (by kernel_rfl) ?_
    intro QQ8 hQ8
    refine vc_cond_of (b := (decide (t8_1 < (List.length vals_0 : Int)))) (by (simp only [go_sem]; done)) (fun hb_4 => ?_) (fun hb_4 => ?_)
    ·
      replace h := if_t h hb_4
      simp only [decide_eq_true_eq, decide_eq_false_iff_not, Bool.not_eq_true', Bool.not_eq_false', beq_iff_eq, beq_eq_false_iff_ne, ne_eq, Bool.and_eq_true, Bool.or_eq_true, Int.not_lt, Int.not_le] at hb_4
      refine vc_skip_of ?_
      refine seqQ_normal hQ8 ?_
      refine vc_seq_gen (by kernel_rfl) ?_
      intro QQ9 hQ9
      refine vc_block_gen ?_
      intro QQ10 hQ10
      refine vc_seq_gen (by kernel_rfl) ?_
      intro QQ11 hQ11
      obtain ⟨xv_2, exv_2, h⟩ := bindO_some h
      obtain ⟨fxv_2a, fxv_2b, fxv_2c⟩ := idx_spec exv_2
      simp only [go_sem, Try.ntmps66, Try.results66, fxv_2a, fxv_2b, fxv_2c]
      refine And.intro (by omega) ?_
      refine seqQ_normal hQ11 ?_
      refine vc_seq_gen (by kernel_rfl) ?_
      intro QQ12 hQ12
      simp only [go_sem, Try.ntmps66, Try.results66]
      refine seqQ_normal hQ12 ?_
      refine vc_cond_of (b := (!(xv_2 == 0))) (by (simp only [go_sem]; done)) (fun hb_5 => ?_) (fun hb_5 => ?_)
      ·
        replace h := if_t h hb_5
        simp only [decide_eq_true_eq, decide_eq_false_iff_not, Bool.not_eq_true', Bool.not_eq_false', beq_iff_eq, beq_eq_false_iff_ne, ne_eq, Bool.and_eq_true, Bool.or_eq_true, Int.not_lt, Int.not_le] at hb_5
        refine vc_seq_gen (by kernel_rfl) ?_
        intro QQ13 hQ13
        simp only [go_sem, Try.ntmps66, Try.results66]
        refine seqQ_normal hQ13 ?_
        refine vc_ret_of ?_
        refine blockQ_ret hQ10 ?_
        refine seqQ_ret hQ9 ?_
        refine thenQ_ret hQ6 ?_
        refine blockQ_ret hQ5 ?_
        refine seqQ_ret hQ3 ?_
        simp only [go_sem, Try.ntmps66, Try.results66]
        obtain rfl := Option.some.inj h
        refine retW_pure rfl ?_
        simp only [go_sem, Le]
      ·
        replace h := if_f h hb_5
        simp only [decide_eq_true_eq, decide_eq_false_iff_not, Bool.not_eq_true', Bool.not_eq_false', beq_iff_eq, beq_eq_false_iff_ne, ne_eq, Bool.and_eq_true, Bool.or_eq_true, Int.not_lt, Int.not_le] at hb_5
        refine vc_skip_of ?_
        refine blockQ_normal hQ10 ?_
        refine seqQ_normal hQ9 ?_
        simp only [go_sem, Try.ntmps66, Try.results66]
        refine thenQ_normal hQ6 ?_
        refine ⟨(m_1, IntKind.i64.wrap (t8_1 + 1)), [], ?_, h, Nat.lt_succ_self _⟩
        simp only [go_sem, Le]
    ·
      replace h := if_f h hb_4
      simp only [decide_eq_true_eq, decide_eq_false_iff_not, Bool.not_eq_true', Bool.not_eq_false', beq_iff_eq, beq_eq_false_iff_ne, ne_eq, Bool.and_eq_true, Bool.or_eq_true, Int.not_lt, Int.not_le] at hb_4
      refine vc_exit_of ?_
      refine seqQ_exit hQ8 ?_
      refine thenQ_exit hQ6 ?_
      refine blockQ_exit hQ5 ?_
      refine seqQ_normal hQ3 ?_
      refine vc_seq_gen (by kernel_rfl) ?_
      intro QQ14 hQ14
      simp only [go_sem, Try.ntmps66, Try.results66]
      refine seqQ_normal hQ14 ?_
      refine vc_ret_of ?_
      simp only [go_sem, Try.ntmps66, Try.results66]
      obtain rfl := Option.some.inj h
      refine retW_pure rfl ?_
      simp only [go_sem, Le]
end Go.Proofs.Ytfjjpdjnpmajlaa

namespace Go.Proofs.Ytfjjpdjnpmajlaa
open Go Go.RowKit
set_option maxHeartbeats 2000000
set_option maxRecDepth 100000
set_option linter.unusedSimpArgs false
set_option linter.unusedVariables false
def f_cmp_isNaN_int64 (xv_0 : Int) : Option Bool :=
  some (!(xv_0 == xv_0))
theorem f_cmp_isNaN_int64_ok (xv_0 : Int)  (r : Bool) (h : f_cmp_isNaN_int64 xv_0 = some r) : PureS Try.prog 94 [.v (.int .i64 xv_0)] 0 (.v (.bool r)) := by
  unfold PureS
  refine Spec.of_vc Try.func94 rfl (by kernel_rfl) (by kernel_rfl) ?_
  rw [f_cmp_isNaN_int64] at h
  refine vc_seq_gen (by kernel_rfl) ?_
  intro QQ1 hQ1
  simp only [go_sem, Try.ntmps94, Try.results94]
  refine seqQ_normal hQ1 ?_
  refine vc_seq_gen (by kernel_rfl) ?_
  intro QQ2 hQ2
  simp only [go_sem, Try.ntmps94, Try.results94]
  refine seqQ_normal hQ2 ?_
  refine vc_ret_of ?_
  simp only [go_sem, Try.ntmps94, Try.results94]
  obtain rfl := Option.some.inj h
  refine retW_pure rfl ?_
  simp only [go_sem, Le]
end Go.Proofs.Ytfjjpdjnpmajlaa

namespace Go.Proofs.Ytfjjpdjnpmajlaa
open Go Go.RowKit
set_option maxHeartbeats 2000000
set_option maxRecDepth 100000
set_option linter.unusedSimpArgs false
set_option linter.unusedVariables false
def f_cmp_Compare_int64 (xv_0 : Int) (y_0 : Int) : Option Int :=
  bindO (f_cmp_isNaN_int64 xv_0) (fun (v_0 : Bool) =>
  bindO (f_cmp_isNaN_int64 y_0) (fun (v_1 : Bool) =>
  (if v_0 = true then (if v_1 = true then some 0
  else some (-1))
  else (if v_1 = true then some 1
  else (if (decide (xv_0 < y_0)) = true then some (-1)
  else (if (decide (y_0 < xv_0)) = true then some 1
  else some 0))))))
theorem f_cmp_Compare_int64_ok (xv_0 : Int) (y_0 : Int)  (r : Int) (h : f_cmp_Compare_int64 xv_0 y_0 = some r) : PureS Try.prog 67 [.v (.int .i64 xv_0), .v (.int .i64 y_0)] 0 (.v (.int .i64 r)) := by
  unfold PureS
  refine Spec.of_vc Try.func67 rfl (by kernel_rfl) (by kernel_rfl) ?_
  rw [f_cmp_Compare_int64] at h
  refine vc_seq_gen (by kernel_rfl) ?_
  intro QQ1 hQ1
  simp only [go_sem, Try.ntmps67, Try.results67]
  refine seqQ_normal hQ1 ?_
  refine vc_seq_gen (by kernel_rfl) ?_
  intro QQ2 hQ2
  obtain ⟨v_0, ev_0, h⟩ := bindO_some h
  simp only [go_sem, Try.ntmps67, Try.results67]
  refine call0 (f_cmp_isNaN_int64_ok xv_0 v_0 ev_0) (by rfl) (by rfl) ?_
  simp only [go_sem, Try.ntmps67, Try.results67]
  refine seqQ_normal hQ2 ?_
  refine vc_seq_gen (by kernel_rfl) ?_
  intro QQ3 hQ3
  obtain ⟨v_1, ev_1, h⟩ := bindO_some h
  simp only [go_sem, Try.ntmps67, Try.results67]
  refine call0 (f_cmp_isNaN_int64_ok y_0 v_1 ev_1) (by rfl) (by rfl) ?_
  simp only [go_sem, Try.ntmps67, Try.results67]
  refine seqQ_normal hQ3 ?_
  refine vc_seq_gen (by kernel_rfl) ?_
  intro QQ4 hQ4
  refine vc_seq_gen (by kernel_rfl) ?_
  intro QQ5 hQ5
  simp only [go_sem, Try.ntmps67, Try.results67]
  refine seqQ_normal hQ5 ?_
  refine vc_cond_of (b := v_0) (by (simp only [go_sem]; done)) (fun hb_0 => ?_) (fun hb_0 => ?_)
  ·
    replace h := if_t h hb_0
    refine vc_seq_gen (by kernel_rfl) ?_
    intro QQ6 hQ6
    refine vc_seq_gen (by kernel_rfl) ?_
    intro QQ7 hQ7
    simp only [go_sem, Try.ntmps67, Try.results67]
    refine seqQ_normal hQ7 ?_
    refine vc_cond_of (b := v_1) (by (simp only [go_sem]; done)) (fun hb_1 => ?_) (fun hb_1 => ?_)
    ·
      replace h := if_t h hb_1
      refine vc_seq_gen (by kernel_rfl) ?_
      intro QQ8 hQ8
      simp only [go_sem, Try.ntmps67, Try.results67]
      refine seqQ_normal hQ8 ?_
      refine vc_ret_of ?_
      refine seqQ_ret hQ6 ?_
      refine seqQ_ret hQ4 ?_
      simp only [go_sem, Try.ntmps67, Try.results67]
      obtain rfl := Option.some.inj h
      refine retW_pure rfl ?_
      simp only [go_sem, Le]
    ·
      replace h := if_f h hb_1
      refine vc_skip_of ?_
      refine seqQ_normal hQ6 ?_
      refine vc_seq_gen (by kernel_rfl) ?_
      intro QQ9 hQ9
      simp only [go_sem, Try.ntmps67, Try.results67]
      refine seqQ_normal hQ9 ?_
      refine vc_ret_of ?_
      refine seqQ_ret hQ4 ?_
      simp only [go_sem, Try.ntmps67, Try.results67]
      obtain rfl := Option.some.inj h
      refine retW_pure rfl ?_
      simp only [go_sem, Le]
  ·
    replace h := if_f h hb_0
    refine vc_skip_of ?_
    refine seqQ_normal hQ4 ?_
    refine vc_seq_gen (by kernel_rfl) ?_
    intro QQ10 hQ10
    refine vc_seq_gen (by kernel_rfl) ?_
    intro QQ11 hQ11
    simp only [go_sem, Try.ntmps67, Try.results67]
    refine seqQ_normal hQ11 ?_
    refine vc_cond_of (b := v_1) (by (simp only [go_sem]; done)) (fun hb_2 => ?_) (fun hb_2 => ?_)
    ·
      replace h := if_t h hb_2
      refine vc_seq_gen (by kernel_rfl) ?_
      intro QQ12 hQ12
      simp only [go_sem, Try.ntmps67, Try.results67]
      refine seqQ_normal hQ12 ?_
      refine vc_ret_of ?_
      refine seqQ_ret hQ10 ?_
      simp only [go_sem, Try.ntmps67, Try.results67]
      obtain rfl := Option.some.inj h
      refine retW_pure rfl ?_
      simp only [go_sem, Le]
    ·
      replace h := if_f h hb_2
      refine vc_skip_of ?_
      refine seqQ_normal hQ10 ?_
      refine vc_seq_gen (by kernel_rfl) ?_
      intro QQ13 hQ13
      refine vc_seq_gen (by kernel_rfl) ?_
      intro QQ14 hQ14
      simp only [go_sem, Try.ntmps67, Try.results67]
      refine seqQ_normal hQ14 ?_
      refine vc_cond_of (b := (decide (xv_0 < y_0))) (by (simp only [go_sem]; done)) (fun hb_3 => ?_) (fun hb_3 => ?_)
      ·
        replace h := if_t h hb_3
        simp only [decide_eq_true_eq, decide_eq_false_iff_not, Bool.not_eq_true', Bool.not_eq_false', beq_iff_eq, beq_eq_false_iff_ne, ne_eq, Bool.and_eq_true, Bool.or_eq_true, Int.not_lt, Int.not_le] at hb_3
        refine vc_seq_gen (by kernel_rfl) ?_
        intro QQ15 hQ15
        simp only [go_sem, Try.ntmps67, Try.results67]
        refine seqQ_normal hQ15 ?_
        refine vc_ret_of ?_
        refine seqQ_ret hQ13 ?_
        simp only [go_sem, Try.ntmps67, Try.results67]
        obtain rfl := Option.some.inj h
        refine retW_pure rfl ?_
        simp only [go_sem, Le]
      ·
        replace h := if_f h hb_3
        simp only [decide_eq_true_eq, decide_eq_false_iff_not, Bool.not_eq_true', Bool.not_eq_false', beq_iff_eq, beq_eq_false_iff_ne, ne_eq, Bool.and_eq_true, Bool.or_eq_true, Int.not_lt, Int.not_le] at hb_3
        refine vc_skip_of ?_
        refine seqQ_normal hQ13 ?_
        refine vc_seq_gen (by kernel_rfl) ?_
        intro QQ16 hQ16
        refine vc_seq_gen (by kernel_rfl) ?_
        intro QQ17 hQ17
        simp only [go_sem, Try.ntmps67, Try.results67]
        refine seqQ_normal hQ17 ?_
        refine vc_cond_of (b := (decide (y_0 < xv_0))) (by (simp only [go_sem]; done)) (fun hb_4 => ?_) (fun hb_4 => ?_)
        ·
          replace h := if_t h hb_4
          simp only [decide_eq_true_eq, decide_eq_false_iff_not, Bool.not_eq_true', Bool.not_eq_false', beq_iff_eq, beq_eq_false_iff_ne, ne_eq, Bool.and_eq_true, Bool.or_eq_true, Int.not_lt, Int.not_le] at hb_4
          refine vc_seq_gen (by kernel_rfl) ?_
          intro QQ18 hQ18
          simp only [go_sem, Try.ntmps67, Try.results67]
          refine seqQ_normal hQ18 ?_
          refine vc_ret_of ?_
          refine seqQ_ret hQ16 ?_
          simp only [go_sem, Try.ntmps67, Try.results67]
          obtain rfl := Option.some.inj h
          refine retW_pure rfl ?_
          simp only [go_sem, Le]
        ·
          replace h := if_f h hb_4
          simp only [decide_eq_true_eq, decide_eq_false_iff_not, Bool.not_eq_true', Bool.not_eq_false', beq_iff_eq, beq_eq_false_iff_ne, ne_eq, Bool.and_eq_true, Bool.or_eq_true, Int.not_lt, Int.not_le] at hb_4
          refine vc_skip_of ?_
          refine seqQ_normal hQ16 ?_
          refine vc_seq_gen (by kernel_rfl) ?_
          intro QQ19 hQ19
          simp only [go_sem, Try.ntmps67, Try.results67]
          refine seqQ_normal hQ19 ?_
          refine vc_ret_of ?_
          simp only [go_sem, Try.ntmps67, Try.results67]
          obtain rfl := Option.some.inj h
          refine retW_pure rfl ?_
          simp only [go_sem, Le]
end Go.Proofs.Ytfjjpdjnpmajlaa

namespace Go.Proofs.Ytfjjpdjnpmajlaa
open Go Go.RowKit
set_option maxHeartbeats 2000000
set_option maxRecDepth 100000
set_option linter.unusedSimpArgs false
set_option linter.unusedVariables false
def f_bag_order (a_0 : GRec) (b_0 : GRec) : Option Int :=
  bindO (f_cmp_Compare_int64 a_0.K b_0.K) (fun (v_0 : Int) =>
  bindO (f_cmp_Compare_int64 a_0.V b_0.V) (fun (v_1 : Int) =>
  bindO (f_cmp_Or_int ([v_0, v_1] : List Int)) (fun (v_2 : Int) =>
  some v_2)))
theorem f_bag_order_ok (a_0 : GRec) (b_0 : GRec)  (r : Int) (h : f_bag_order a_0 b_0 = some r) : PureS Try.prog 92 [.agg [.v (.int .i64 a_0.K), .v (.int .i64 a_0.V)], .agg [.v (.int .i64 b_0.K), .v (.int .i64 b_0.V)]] 0 (.v (.int .i64 r)) := by
  unfold PureS
  refine Spec.of_vc Try.func92 rfl (by kernel_rfl) (by kernel_rfl) ?_
  rw [f_bag_order] at h
  refine vc_seq_gen (by kernel_rfl) ?_
  intro QQ1 hQ1
  simp only [go_sem, Try.ntmps92, Try.results92]
  refine seqQ_normal hQ1 ?_
  refine vc_seq_gen (by kernel_rfl) ?_
  intro QQ2 hQ2
  refine vc_draw ?_
  refine drawM_tail 9 [0, 1, 0, 4, 15, 0, 32, 0, 128, 511, 1023, 2047, 4095] mixed (by kernel_rfl) (of_decide_eq_true (by kernel_rfl)) (by kernel_rfl) ?_
  obtain ⟨v_0, ev_0, h⟩ := bindO_some h
  simp only [go_sem, Try.ntmps92, Try.results92]
  refine callq (fun _ => (f_cmp_Compare_int64_ok a_0.K b_0.K v_0 ev_0)) (by rfl) (by rfl) ?_
  obtain ⟨v_1, ev_1, h⟩ := bindO_some h
  simp only [go_sem, Try.ntmps92, Try.results92]
  refine call0 (f_cmp_Compare_int64_ok a_0.V b_0.V v_1 ev_1) (by rfl) (by rfl) ?_
  have rf_0 : [[.v (.int .i64 v_0)], [.v (.int .i64 v_1)]] = enc ([v_0, v_1] : List Int) := by rfl
  obtain ⟨v_2, ev_2, h⟩ := bindO_some h
  simp only [go_sem, Try.ntmps92, Try.results92]
  simp only [rf_0]
  refine callB (s' := (⟨0, [(0, .agg [.v (.int .i64 a_0.K), .v (.int .i64 a_0.V)]), (1, .agg [.v (.int .i64 b_0.K), .v (.int .i64 b_0.V)]), (2, .ptr 0 0), (3, .ptr 1 0), (4, .v (.int .i64 0)), (5, .ptr 0 0), (6, .v (.int .i64 a_0.K)), (7, .ptr 1 0), (8, .v (.int .i64 b_0.K)), (9, .v (.int .i64 v_0)), (10, .ptr 0 1), (11, .v (.int .i64 a_0.V)), (12, .ptr 1 1), (13, .v (.int .i64 b_0.V)), (14, .v (.int .i64 v_1)), (15, .sl 1 (enc ([v_0, v_1] : List Int)))], [(0, .box [.v (.int .i64 a_0.K), .v (.int .i64 a_0.V)]), (1, .box [.v (.int .i64 b_0.K), .v (.int .i64 b_0.V)])], 2, 17⟩ : St)) (l := [some 0, some 1]) (args' := [.sl 1 (enc ([v_0, v_1] : List Int))]) ?_ ?_ (f_cmp_Or_int_ok ([v_0, v_1] : List Int) v_2 ev_2) (by rfl) (by rfl) ?_
  · simp only [go_sem, Le] <;> (repeat' apply And.intro) <;> first | omega | (simp [go_sem]; done)
  · simp only [go_sem, Le] <;> (repeat' apply And.intro) <;> (simp [go_sem]; done)
  simp only [go_sem, Try.ntmps92, Try.results92]
  refine seqQ_normal hQ2 ?_
  refine vc_ret_of ?_
  simp only [go_sem, Try.ntmps92, Try.results92]
  obtain rfl := Option.some.inj h
  refine retW_pure rfl ?_
  simp only [go_sem, Le]
end Go.Proofs.Ytfjjpdjnpmajlaa

namespace Go.Proofs.Ytfjjpdjnpmajlaa
open Go Go.RowKit
set_option maxHeartbeats 2000000
set_option maxRecDepth 100000
set_option linter.unusedSimpArgs false
set_option linter.unusedVariables false
def f_bag_Less (a_0 : GRec) (b_0 : GRec) : Option Bool :=
  bindO (f_bag_order a_0 b_0) (fun (v_0 : Int) =>
  some (decide (v_0 < 0)))
theorem f_bag_Less_ok (a_0 : GRec) (b_0 : GRec)  (r : Bool) (h : f_bag_Less a_0 b_0 = some r) : PureS Try.prog 62 [.agg [.v (.int .i64 a_0.K), .v (.int .i64 a_0.V)], .agg [.v (.int .i64 b_0.K), .v (.int .i64 b_0.V)]] 0 (.v (.bool r)) := by
  unfold PureS
  refine Spec.of_vc Try.func62 rfl (by kernel_rfl) (by kernel_rfl) ?_
  rw [f_bag_Less] at h
  refine vc_seq_gen (by kernel_rfl) ?_
  intro QQ1 hQ1
  simp only [go_sem, Try.ntmps62, Try.results62]
  refine seqQ_normal hQ1 ?_
  refine vc_seq_gen (by kernel_rfl) ?_
  intro QQ2 hQ2
  obtain ⟨v_0, ev_0, h⟩ := bindO_some h
  simp only [go_sem, Try.ntmps62, Try.results62]
  refine call0 (f_bag_order_ok a_0 b_0 v_0 ev_0) (by rfl) (by rfl) ?_
  simp only [go_sem, Try.ntmps62, Try.results62]
  refine seqQ_normal hQ2 ?_
  refine vc_ret_of ?_
  simp only [go_sem, Try.ntmps62, Try.results62]
  obtain rfl := Option.some.inj h
  refine retW_pure rfl ?_
  simp only [go_sem, Le]
end Go.Proofs.Ytfjjpdjnpmajlaa

namespace Go.Proofs.Ytfjjpdjnpmajlaa
open Go Go.RowKit
set_option maxHeartbeats 2000000
set_option maxRecDepth 100000
set_option linter.unusedSimpArgs false
set_option linter.unusedVariables false
def f_window_order (a_0 : GOut) (b_0 : GOut) : Option Int :=
  bindO (f_cmp_Compare_int a_0.Node b_0.Node) (fun (v_0 : Int) =>
  bindO (f_cmp_Compare_int a_0.Epoch b_0.Epoch) (fun (v_1 : Int) =>
  bindO (f_cmp_Or_int ([v_0, v_1] : List Int)) (fun (v_2 : Int) =>
  (if (!(v_2 == 0)) = true then some v_2
  else bindO (f_bag_Less a_0.Rec b_0.Rec) (fun (v_3 : Bool) =>
  (if v_3 = true then some (-1)
  else bindO (f_bag_Less b_0.Rec a_0.Rec) (fun (v_4 : Bool) =>
  (if v_4 = true then some 1
  else some 0))))))))
theorem f_window_order_ok (a_0 : GOut) (b_0 : GOut)  (r : Int) (h : f_window_order a_0 b_0 = some r) : PureS Try.prog 49 [.agg [.v (.int .i64 a_0.Node), .v (.int .i64 a_0.Epoch), .v (.int .i64 a_0.Rec.K), .v (.int .i64 a_0.Rec.V)], .agg [.v (.int .i64 b_0.Node), .v (.int .i64 b_0.Epoch), .v (.int .i64 b_0.Rec.K), .v (.int .i64 b_0.Rec.V)]] 0 (.v (.int .i64 r)) := by
  unfold PureS
  refine Spec.of_vc Try.func49 rfl (by kernel_rfl) (by kernel_rfl) ?_
  rw [f_window_order] at h
  refine vc_seq_gen (by kernel_rfl) ?_
  intro QQ1 hQ1
  simp only [go_sem, Try.ntmps49, Try.results49]
  refine seqQ_normal hQ1 ?_
  refine vc_seq_gen (by kernel_rfl) ?_
  intro QQ2 hQ2
  refine vc_seq_gen (by kernel_rfl) ?_
  intro QQ3 hQ3
  refine vc_draw ?_
  refine drawM_tail 9 [0, 1, 0, 4, 15, 0, 32, 0, 128, 511, 1023, 2047, 4095] mixed (by kernel_rfl) (of_decide_eq_true (by kernel_rfl)) (by kernel_rfl) ?_
  obtain ⟨v_0, ev_0, h⟩ := bindO_some h
  simp only [go_sem, Try.ntmps49, Try.results49]
  refine callq (fun _ => (f_cmp_Compare_int_ok a_0.Node b_0.Node v_0 ev_0)) (by rfl) (by rfl) ?_
  obtain ⟨v_1, ev_1, h⟩ := bindO_some h
  simp only [go_sem, Try.ntmps49, Try.results49]
  refine call0 (f_cmp_Compare_int_ok a_0.Epoch b_0.Epoch v_1 ev_1) (by rfl) (by rfl) ?_
  have rf_0 : [[.v (.int .i64 v_0)], [.v (.int .i64 v_1)]] = enc ([v_0, v_1] : List Int) := by rfl
  obtain ⟨v_2, ev_2, h⟩ := bindO_some h
  simp only [go_sem, Try.ntmps49, Try.results49]
  simp only [rf_0]
  refine callB (s' := (⟨0, [(0, .agg [.v (.int .i64 a_0.Node), .v (.int .i64 a_0.Epoch), .v (.int .i64 a_0.Rec.K), .v (.int .i64 a_0.Rec.V)]), (1, .agg [.v (.int .i64 b_0.Node), .v (.int .i64 b_0.Epoch), .v (.int .i64 b_0.Rec.K), .v (.int .i64 b_0.Rec.V)]), (2, .ptr 0 0), (3, .ptr 1 0), (4, .v (.int .i64 0)), (6, .ptr 0 0), (7, .v (.int .i64 a_0.Node)), (8, .ptr 1 0), (9, .v (.int .i64 b_0.Node)), (10, .v (.int .i64 v_0)), (11, .ptr 0 1), (12, .v (.int .i64 a_0.Epoch)), (13, .ptr 1 1), (14, .v (.int .i64 b_0.Epoch)), (15, .v (.int .i64 v_1)), (16, .sl 1 (enc ([v_0, v_1] : List Int)))], [(0, .box [.v (.int .i64 a_0.Node), .v (.int .i64 a_0.Epoch), .v (.int .i64 a_0.Rec.K), .v (.int .i64 a_0.Rec.V)]), (1, .box [.v (.int .i64 b_0.Node), .v (.int .i64 b_0.Epoch), .v (.int .i64 b_0.Rec.K), .v (.int .i64 b_0.Rec.V)])], 2, 33⟩ : St)) (l := [some 0, some 1]) (args' := [.sl 1 (enc ([v_0, v_1] : List Int))]) ?_ ?_ (f_cmp_Or_int_ok ([v_0, v_1] : List Int) v_2 ev_2) (by rfl) (by rfl) ?_
  · simp only [go_sem, Le] <;> (repeat' apply And.intro) <;> first | omega | (simp [go_sem]; done)
  · simp only [go_sem, Le] <;> (repeat' apply And.intro) <;> (simp [go_sem]; done)
  simp only [go_sem, Try.ntmps49, Try.results49]
  refine seqQ_normal hQ3 ?_
  refine vc_seq_gen (by kernel_rfl) ?_
  intro QQ4 hQ4
  simp only [go_sem, Try.ntmps49, Try.results49]
  refine seqQ_normal hQ4 ?_
  refine vc_cond_of (b := (!(v_2 == 0))) (by (simp only [go_sem]; done)) (fun hb_0 => ?_) (fun hb_0 => ?_)
  ·
    replace h := if_t h hb_0
    simp only [decide_eq_true_eq, decide_eq_false_iff_not, Bool.not_eq_true', Bool.not_eq_false', beq_iff_eq, beq_eq_false_iff_ne, ne_eq, Bool.and_eq_true, Bool.or_eq_true, Int.not_lt, Int.not_le] at hb_0
    refine vc_seq_gen (by kernel_rfl) ?_
    intro QQ5 hQ5
    simp only [go_sem, Try.ntmps49, Try.results49]
    refine seqQ_normal hQ5 ?_
    refine vc_ret_of ?_
    refine seqQ_ret hQ2 ?_
    simp only [go_sem, Try.ntmps49, Try.results49]
    obtain rfl := Option.some.inj h
    refine retW_pure rfl ?_
    simp only [go_sem, Le]
  ·
    replace h := if_f h hb_0
    simp only [decide_eq_true_eq, decide_eq_false_iff_not, Bool.not_eq_true', Bool.not_eq_false', beq_iff_eq, beq_eq_false_iff_ne, ne_eq, Bool.and_eq_true, Bool.or_eq_true, Int.not_lt, Int.not_le] at hb_0
    refine vc_skip_of ?_
    refine seqQ_normal hQ2 ?_
    refine vc_seq_gen (by kernel_rfl) ?_
    intro QQ6 hQ6
    refine vc_block_gen ?_
    intro QQ7 hQ7
    refine vc_seq_gen (by kernel_rfl) ?_
    intro QQ8 hQ8
    obtain ⟨v_3, ev_3, h⟩ := bindO_some h
    simp only [go_sem, Try.ntmps49, Try.results49]
    refine call0 (f_bag_Less_ok a_0.Rec b_0.Rec v_3 ev_3) (by rfl) (by rfl) ?_
    simp only [go_sem, Try.ntmps49, Try.results49]
    refine seqQ_normal hQ8 ?_
    refine vc_cond_of (b := v_3) (by (simp only [go_sem]; done)) (fun hb_1 => ?_) (fun hb_1 => ?_)
    ·
      replace h := if_t h hb_1
      refine vc_seq_gen (by kernel_rfl) ?_
      intro QQ9 hQ9
      simp only [go_sem, Try.ntmps49, Try.results49]
      refine seqQ_normal hQ9 ?_
      refine vc_ret_of ?_
      refine blockQ_ret hQ7 ?_
      refine seqQ_ret hQ6 ?_
      simp only [go_sem, Try.ntmps49, Try.results49]
      obtain rfl := Option.some.inj h
      refine retW_pure rfl ?_
      simp only [go_sem, Le]
    ·
      replace h := if_f h hb_1
      refine vc_seq_gen (by kernel_rfl) ?_
      intro QQ10 hQ10
      obtain ⟨v_4, ev_4, h⟩ := bindO_some h
      simp only [go_sem, Try.ntmps49, Try.results49]
      refine call0 (f_bag_Less_ok b_0.Rec a_0.Rec v_4 ev_4) (by rfl) (by rfl) ?_
      simp only [go_sem, Try.ntmps49, Try.results49]
      refine seqQ_normal hQ10 ?_
      refine vc_cond_of (b := v_4) (by (simp only [go_sem]; done)) (fun hb_2 => ?_) (fun hb_2 => ?_)
      ·
        replace h := if_t h hb_2
        refine vc_seq_gen (by kernel_rfl) ?_
        intro QQ11 hQ11
        simp only [go_sem, Try.ntmps49, Try.results49]
        refine seqQ_normal hQ11 ?_
        refine vc_ret_of ?_
        refine blockQ_ret hQ7 ?_
        refine seqQ_ret hQ6 ?_
        simp only [go_sem, Try.ntmps49, Try.results49]
        obtain rfl := Option.some.inj h
        refine retW_pure rfl ?_
        simp only [go_sem, Le]
      ·
        replace h := if_f h hb_2
        refine vc_skip_of ?_
        refine blockQ_normal hQ7 ?_
        refine seqQ_normal hQ6 ?_
        refine vc_seq_gen (by kernel_rfl) ?_
        intro QQ12 hQ12
        simp only [go_sem, Try.ntmps49, Try.results49]
        refine seqQ_normal hQ12 ?_
        refine vc_ret_of ?_
        simp only [go_sem, Try.ntmps49, Try.results49]
        obtain rfl := Option.some.inj h
        refine retW_pure rfl ?_
        simp only [go_sem, Le]
end Go.Proofs.Ytfjjpdjnpmajlaa

namespace Go.Proofs.Ytfjjpdjnpmajlaa
open Go Go.RowKit
set_option maxHeartbeats 2000000
set_option maxRecDepth 100000
set_option linter.unusedSimpArgs false
set_option linter.unusedVariables false
noncomputable def f_window_Gather_J1 (a_2 : List GOut) : Option ((List GOut) × Int) :=
  bindO (f_slices_SortFunc_Out_s0_0 a_2 (fun x0_ x1_ => f_window_order x0_ x1_)) (fun (v_3 : List GOut) =>
  guardO (List.length v_3 = List.length a_2) (
  some (v_3, 0)))
noncomputable def f_window_Gather_B2 (size_0 : Int) (v_2 : List GOut) (rec_2 : Int × (List GOut) → Option ((List GOut) × Int)) : Int × (List GOut) → Option ((List GOut) × Int) :=
  fun (t23_3, a_4) =>
  (if (decide (t23_3 < (List.length v_2 : Int))) = true then bindO (idx a_4 t23_3) (fun (xv_5 : GOut) =>
  guardO (size_0 ≠ 0) (
  rec_2 (IntKind.i64.wrap (t23_3 + 1), (List.set a_4 (Int.toNat t23_3) (⟨xv_5.Node, IntKind.i64.wrap (Int.tdiv xv_5.Epoch size_0), xv_5.Rec⟩ : GOut)))))
  else f_window_Gather_J1 a_4)
noncomputable def f_window_Gather (l_0 : List GOut) (size_0 : Int) : Option ((List GOut) × Int) :=
  bindO (f_window_sizes ([size_0] : List Int)) (fun (v_0 : Bool) =>
  (if v_0 = true then bindO (f_slices_ContainsFunc_Out l_0 (fun x0_ => f_window_Gather_1 x0_)) (fun (v_1 : Bool) =>
  (if v_1 = true then some (([] : List GOut), 1)
  else (if (decide (65536 < (List.length l_0 : Int))) = true then some (([] : List GOut), 9)
  else bindO (f_slices_Clone_Out l_0) (fun (v_2 : List GOut) =>
  loopK (f_window_Gather_B2 size_0 v_2) rounds (0, v_2)))))
  else some (([] : List GOut), 1)))
theorem f_window_Gather_det (l_0 : List GOut) (size_0 : Int)  (r : (List GOut) × Int) (h : f_window_Gather l_0 size_0 = some r) : DetS Try.prog 18 [.sl 4 (enc l_0), .v (.int .i64 size_0)] [] 0 (.tup [.osl 0 4 (0) (List.length r.1), .v (.int .i64 r.2)]) [(0, .arr 4 (enc r.1))] 1 := by
  unfold DetS
  refine Spec.of_vc Try.func18 rfl (by kernel_rfl) (by kernel_rfl) ?_
  rw [f_window_Gather] at h
  refine vc_seq_gen (by kernel_rfl) ?_
  intro QQ1 hQ1
  simp only [go_sem, Try.ntmps18, Try.results18]
  refine seqQ_normal hQ1 ?_
  refine vc_seq_gen (by kernel_rfl) ?_
  intro QQ2 hQ2
  refine vc_seq_gen (by kernel_rfl) ?_
  intro QQ3 hQ3
  have rf_0 : [[.v (.int .i64 size_0)]] = enc ([size_0] : List Int) := by rfl
  obtain ⟨v_0, ev_0, h⟩ := bindO_some h
  simp only [go_sem, Try.ntmps18, Try.results18]
  simp only [rf_0]
  refine callB (s' := (⟨0, [(0, .sl 4 (enc l_0)), (1, .v (.int .i64 size_0)), (4, .v (.slice none 0 0)), (5, .v (.int .i64 0)), (8, .v (.int .i64 size_0)), (9, .sl 1 (enc ([size_0] : List Int)))], [], 0, 39⟩ : St)) (l := []) (args' := [.sl 1 (enc ([size_0] : List Int))]) ?_ ?_ (f_window_sizes_ok ([size_0] : List Int) v_0 ev_0) (by rfl) (by rfl) ?_
  · simp only [go_sem, Le] <;> (repeat' apply And.intro) <;> (simp [go_sem]; done)
  · simp only [go_sem, Le] <;> (repeat' apply And.intro) <;> (simp [go_sem]; done)
  simp only [go_sem, Try.ntmps18, Try.results18]
  rcases hb_0 : v_0 with _ | _
  ·
    replace h := if_f h hb_0
    simp only [go_sem, Try.ntmps18, Try.results18, hb_0]
    refine seqQ_normal hQ3 ?_
    refine vc_cond_t (by (simp only [go_sem]; done)) ?_
    refine vc_seq_gen (by kernel_rfl) ?_
    intro QQ4 hQ4
    simp only [go_sem, Try.ntmps18, Try.results18]
    refine seqQ_normal hQ4 ?_
    refine vc_ret_of ?_
    refine seqQ_ret hQ2 ?_
    simp only [go_sem, Try.ntmps18, Try.results18]
    obtain rfl := Option.some.inj h
    refine retW_det [none] ?_
    simp only [go_sem, Le] <;> (repeat' apply And.intro) <;> (simp [go_sem]; done)
  ·
    replace h := if_t h hb_0
    obtain ⟨v_1, ev_1, h⟩ := bindO_some h
    simp only [go_sem, Try.ntmps18, Try.results18, hb_0]
    refine call0 (f_slices_ContainsFunc_Out_ok l_0 (fun x0_ => f_window_Gather_1 x0_) 46 [] (by rfl) (by kernel_rfl) (fun y0 r_ e_ => f_window_Gather_1_ok y0 r_ e_) v_1 ev_1) (by rfl) (by rfl) ?_
    simp only [go_sem, Try.ntmps18, Try.results18]
    refine seqQ_normal hQ3 ?_
    refine vc_cond_of (b := v_1) (by (simp only [go_sem]; done)) (fun hb_1 => ?_) (fun hb_1 => ?_)
    ·
      replace h := if_t h hb_1
      refine vc_seq_gen (by kernel_rfl) ?_
      intro QQ5 hQ5
      simp only [go_sem, Try.ntmps18, Try.results18]
      refine seqQ_normal hQ5 ?_
      refine vc_ret_of ?_
      refine seqQ_ret hQ2 ?_
      simp only [go_sem, Try.ntmps18, Try.results18]
      obtain rfl := Option.some.inj h
      refine retW_det [none] ?_
      simp only [go_sem, Le] <;> (repeat' apply And.intro) <;> (simp [go_sem]; done)
    ·
      replace h := if_f h hb_1
      refine vc_skip_of ?_
      refine seqQ_normal hQ2 ?_
      refine vc_seq_gen (by kernel_rfl) ?_
      intro QQ6 hQ6
      refine vc_seq_gen (by kernel_rfl) ?_
      intro QQ7 hQ7
      simp only [go_sem, Try.ntmps18, Try.results18]
      refine seqQ_normal hQ7 ?_
      refine vc_cond_of (b := (decide (65536 < (List.length l_0 : Int)))) (by (simp only [go_sem]; done)) (fun hb_2 => ?_) (fun hb_2 => ?_)
      ·
        replace h := if_t h hb_2
        simp only [decide_eq_true_eq, decide_eq_false_iff_not, Bool.not_eq_true', Bool.not_eq_false', beq_iff_eq, beq_eq_false_iff_ne, ne_eq, Bool.and_eq_true, Bool.or_eq_true, Int.not_lt, Int.not_le] at hb_2
        refine vc_seq_gen (by kernel_rfl) ?_
        intro QQ8 hQ8
        simp only [go_sem, Try.ntmps18, Try.results18]
        refine seqQ_normal hQ8 ?_
        refine vc_ret_of ?_
        refine seqQ_ret hQ6 ?_
        simp only [go_sem, Try.ntmps18, Try.results18]
        obtain rfl := Option.some.inj h
        refine retW_det [none] ?_
        simp only [go_sem, Le] <;> (repeat' apply And.intro) <;> (simp [go_sem]; done)
      ·
        replace h := if_f h hb_2
        simp only [decide_eq_true_eq, decide_eq_false_iff_not, Bool.not_eq_true', Bool.not_eq_false', beq_iff_eq, beq_eq_false_iff_ne, ne_eq, Bool.and_eq_true, Bool.or_eq_true, Int.not_lt, Int.not_le] at hb_2
        refine vc_skip_of ?_
        refine seqQ_normal hQ6 ?_
        refine vc_seq_gen (by kernel_rfl) ?_
        intro QQ9 hQ9
        obtain ⟨v_2, ev_2, h⟩ := bindO_some h
        simp only [go_sem, Try.ntmps18, Try.results18]
        refine callD [] (f_slices_Clone_Out_det l_0 v_2 ev_2) (by simp) rfl trivial rfl rfl rfl rfl ?_
        simp only [go_sem, Try.ntmps18, Try.results18]
        refine seqQ_normal hQ9 ?_
        refine vc_join (by kernel_rfl) ?_
        refine seq_cut_gen (ι := (List GOut)) (fun (a_2 : (List GOut)) => (⟨0, [(6, .osl 0 4 (0) (List.length a_2))], [(0, .arr 4 (enc a_2))], 1, 39⟩ : St)) (fun (a_2 : (List GOut)) => f_window_Gather_J1 a_2 = some r) ?_ ?_
        ·
          intro QQ12 hQ12
          refine vc_seq_gen (by kernel_rfl) ?_
          intro QQ13 hQ13
          simp only [go_sem, Try.ntmps18, Try.results18]
          refine seqQ_normal hQ13 ?_
          refine vc_block_gen ?_
          intro QQ14 hQ14
          refine vc_loop_of ?_
          refine loop_gen (ι := Nat × Int × (List GOut)) (fun ((_, t23_3, a_4) : Nat × Int × (List GOut)) => (⟨0, [(1, .v (.int .i64 size_0)), (6, .osl 0 4 (0) (List.length a_4)), (22, .v (.int .i64 (List.length v_2 : Int))), (23, .v (.int .i64 t23_3))], [(0, .arr 4 (enc a_4))], 1, 39⟩ : St)) (fun ((n_, t23_3, a_4) : Nat × Int × (List GOut)) => loopK (f_window_Gather_B2 size_0 v_2) n_ (t23_3, a_4) = some r) (fun p => p.1) (rounds, 0, v_2) [some 1] ?_ h ?_
          · simp only [go_sem, Le]
          · rintro ⟨n_2, t23_3, a_4⟩ h QQ15 hQ15
            dsimp only at h
            replace h := loopK_some h
            obtain ⟨m_2, rfl, h⟩ := h
            rw [f_window_Gather_B2] at h
            refine vc_seq_gen (by kernel_rfl) ?_
            intro QQ16 hQ16
            simp only [go_sem, Try.ntmps18, Try.results18]
            refine seqQ_normal hQ16 ?_
            refine vc_seq_gen (by kernel_rfl) ?_
            intro QQ17 hQ17
            refine vc_cond_of (b := (decide (t23_3 < (List.length v_2 : Int)))) (by (simp only [go_sem]; done)) (fun hb_8 => ?_) (fun hb_8 => ?_)
            ·
              replace h := if_t h hb_8
              simp only [decide_eq_true_eq, decide_eq_false_iff_not, Bool.not_eq_true', Bool.not_eq_false', beq_iff_eq, beq_eq_false_iff_ne, ne_eq, Bool.and_eq_true, Bool.or_eq_true, Int.not_lt, Int.not_le] at hb_8
              refine vc_skip_of ?_
              refine seqQ_normal hQ17 ?_
              refine vc_seq_gen (by kernel_rfl) ?_
              intro QQ18 hQ18
              refine vc_block_gen ?_
              intro QQ19 hQ19
              refine vc_seq_gen (by kernel_rfl) ?_
              intro QQ20 hQ20
              simp only [go_sem, Try.ntmps18, Try.results18]
              refine seqQ_normal hQ20 ?_
              obtain ⟨xv_5, exv_5, h⟩ := bindO_some h
              obtain ⟨fxv_5a, fxv_5b, fxv_5c⟩ := idx_spec exv_5
              obtain ⟨g_6, h⟩ := guardO_some h
              have rf_6 : (enc a_4).set (Int.toNat t23_3) [.v (.int .i64 xv_5.Node), .v (.int .i64 (IntKind.i64.wrap (Int.tdiv xv_5.Epoch size_0))), .v (.int .i64 xv_5.Rec.K), .v (.int .i64 xv_5.Rec.V)] = enc (List.set a_4 (Int.toNat t23_3) (⟨xv_5.Node, IntKind.i64.wrap (Int.tdiv xv_5.Epoch size_0), xv_5.Rec⟩ : GOut)) := by exact enc_set a_4 (Int.toNat t23_3) (⟨xv_5.Node, IntKind.i64.wrap (Int.tdiv xv_5.Epoch size_0), xv_5.Rec⟩ : GOut)
              simp only [go_sem, Try.ntmps18, Try.results18, fxv_5a, fxv_5b, fxv_5c, g_6, rf_6]
              refine And.intro (by omega) ?_
              refine And.intro (by omega) ?_
              refine blockQ_normal hQ19 ?_
              refine seqQ_normal hQ18 ?_
              simp only [go_sem, Try.ntmps18, Try.results18]
              refine thenQ_normal hQ15 ?_
              refine ⟨(m_2, IntKind.i64.wrap (t23_3 + 1), (List.set a_4 (Int.toNat t23_3) (⟨xv_5.Node, IntKind.i64.wrap (Int.tdiv xv_5.Epoch size_0), xv_5.Rec⟩ : GOut))), [some 0], ?_, h, Nat.lt_succ_self _⟩
              simp only [go_sem, Le]
            ·
              replace h := if_f h hb_8
              simp only [decide_eq_true_eq, decide_eq_false_iff_not, Bool.not_eq_true', Bool.not_eq_false', beq_iff_eq, beq_eq_false_iff_ne, ne_eq, Bool.and_eq_true, Bool.or_eq_true, Int.not_lt, Int.not_le] at hb_8
              refine vc_exit_of ?_
              refine seqQ_exit hQ17 ?_
              refine thenQ_exit hQ15 ?_
              refine blockQ_exit hQ14 ?_
              refine thenQ_normal hQ12 ?_
              refine ⟨a_4, [some 0], ?_, h⟩
              simp only [go_sem, Le]
        · rintro a_2 h
          try dsimp only at h
          rw [f_window_Gather_J1] at h
          refine vc_seq_gen (by kernel_rfl) ?_
          intro QQ10 hQ10
          obtain ⟨v_3, ev_3, h⟩ := bindO_some h
          simp only [go_sem, Try.ntmps18, Try.results18]
          refine callD [0] (f_slices_SortFunc_Out_s0_0_det a_2 (fun x0_ x1_ => f_window_order x0_ x1_) 49 [] (by rfl) (by kernel_rfl) (fun y0 y1 r_ e_ => f_window_order_ok y0 y1 r_ e_) v_3 ev_3) (by simp) rfl ⟨rfl, trivial⟩ rfl rfl rfl rfl ?_
          obtain ⟨g_3, h⟩ := guardO_some h
          simp only [go_sem, Try.ntmps18, Try.results18, g_3]
          refine seqQ_normal hQ10 ?_
          refine vc_seq_gen (by kernel_rfl) ?_
          intro QQ11 hQ11
          simp only [go_sem, Try.ntmps18, Try.results18]
          refine seqQ_normal hQ11 ?_
          refine vc_ret_of ?_
          simp only [go_sem, Try.ntmps18, Try.results18]
          obtain rfl := Option.some.inj h
          refine retW_det [some 0] ?_
          simp only [go_sem, Le] <;> (repeat' apply And.intro) <;> omega
theorem f_window_Gather_ok (l_0 : List GOut) (size_0 : Int)  (r : (List GOut) × Int) (h : f_window_Gather l_0 size_0 = some r) : PureS Try.prog 18 [.sl 4 (enc l_0), .v (.int .i64 size_0)] 0 (.tup [.sl 4 (enc r.1), .v (.int .i64 r.2)]) := by
  refine (f_window_Gather_det l_0 size_0  r h).pure ?_
  simp only [go_sem, Le] <;> (repeat' apply And.intro) <;> (simp [go_sem]; done)
end Go.Proofs.Ytfjjpdjnpmajlaa

namespace Go.Proofs.Ytfjjpdjnpmajlaa
open Go Go.RowKit
set_option maxHeartbeats 2000000
set_option maxRecDepth 100000
set_option linter.unusedSimpArgs false
set_option linter.unusedVariables false
def f_backwashref05_Less (a_0 : GRec) (b_0 : GRec) : Option Bool :=
  some ((decide (a_0.K < b_0.K)) || ((a_0.K == b_0.K) && (decide (a_0.V < b_0.V))))
theorem f_backwashref05_Less_ok (a_0 : GRec) (b_0 : GRec)  (r : Bool) (h : f_backwashref05_Less a_0 b_0 = some r) : PureS Try.prog 82 [.agg [.v (.int .i64 a_0.K), .v (.int .i64 a_0.V)], .agg [.v (.int .i64 b_0.K), .v (.int .i64 b_0.V)]] 0 (.v (.bool r)) := by
  unfold PureS
  refine Spec.of_vc Try.func82 rfl (by kernel_rfl) (by kernel_rfl) ?_
  rw [f_backwashref05_Less] at h
  refine vc_seq_gen (by kernel_rfl) ?_
  intro QQ1 hQ1
  simp only [go_sem, Try.ntmps82, Try.results82]
  refine seqQ_normal hQ1 ?_
  refine vc_seq_gen (by kernel_rfl) ?_
  intro QQ2 hQ2
  simp only [go_sem, Try.ntmps82, Try.results82]
  refine And.intro (by omega) ?_
  refine And.intro (by omega) ?_
  refine seqQ_normal hQ2 ?_
  refine vc_ret_of ?_
  simp only [go_sem, Try.ntmps82, Try.results82]
  obtain rfl := Option.some.inj h
  refine retW_pure rfl ?_
  simp only [go_sem, Le]
end Go.Proofs.Ytfjjpdjnpmajlaa

namespace Go.Proofs.Ytfjjpdjnpmajlaa
open Go Go.RowKit
set_option maxHeartbeats 2000000
set_option maxRecDepth 100000
set_option linter.unusedSimpArgs false
set_option linter.unusedVariables false
def f_backwashref33_ahead (a_0 : GOut) (b_0 : GOut) : Option Bool :=
  (if (!(a_0.Node == b_0.Node)) = true then some (decide (a_0.Node < b_0.Node))
  else (if (!(a_0.Epoch == b_0.Epoch)) = true then some (decide (a_0.Epoch < b_0.Epoch))
  else bindO (f_backwashref05_Less a_0.Rec b_0.Rec) (fun (v_0 : Bool) =>
  some v_0)))
theorem f_backwashref33_ahead_ok (a_0 : GOut) (b_0 : GOut)  (r : Bool) (h : f_backwashref33_ahead a_0 b_0 = some r) : PureS Try.prog 50 [.agg [.v (.int .i64 a_0.Node), .v (.int .i64 a_0.Epoch), .v (.int .i64 a_0.Rec.K), .v (.int .i64 a_0.Rec.V)], .agg [.v (.int .i64 b_0.Node), .v (.int .i64 b_0.Epoch), .v (.int .i64 b_0.Rec.K), .v (.int .i64 b_0.Rec.V)]] 0 (.v (.bool r)) := by
  unfold PureS
  refine Spec.of_vc Try.func50 rfl (by kernel_rfl) (by kernel_rfl) ?_
  rw [f_backwashref33_ahead] at h
  refine vc_seq_gen (by kernel_rfl) ?_
  intro QQ1 hQ1
  simp only [go_sem, Try.ntmps50, Try.results50]
  refine seqQ_normal hQ1 ?_
  refine vc_seq_gen (by kernel_rfl) ?_
  intro QQ2 hQ2
  refine vc_seq_gen (by kernel_rfl) ?_
  intro QQ3 hQ3
  simp only [go_sem, Try.ntmps50, Try.results50]
  refine seqQ_normal hQ3 ?_
  refine vc_cond_of (b := (!(a_0.Node == b_0.Node))) (by (simp only [go_sem]; done)) (fun hb_0 => ?_) (fun hb_0 => ?_)
  ·
    replace h := if_t h hb_0
    simp only [decide_eq_true_eq, decide_eq_false_iff_not, Bool.not_eq_true', Bool.not_eq_false', beq_iff_eq, beq_eq_false_iff_ne, ne_eq, Bool.and_eq_true, Bool.or_eq_true, Int.not_lt, Int.not_le] at hb_0
    refine vc_seq_gen (by kernel_rfl) ?_
    intro QQ4 hQ4
    simp only [go_sem, Try.ntmps50, Try.results50]
    refine seqQ_normal hQ4 ?_
    refine vc_ret_of ?_
    refine seqQ_ret hQ2 ?_
    simp only [go_sem, Try.ntmps50, Try.results50]
    obtain rfl := Option.some.inj h
    refine retW_pure rfl ?_
    simp only [go_sem, Le]
  ·
    replace h := if_f h hb_0
    simp only [decide_eq_true_eq, decide_eq_false_iff_not, Bool.not_eq_true', Bool.not_eq_false', beq_iff_eq, beq_eq_false_iff_ne, ne_eq, Bool.and_eq_true, Bool.or_eq_true, Int.not_lt, Int.not_le] at hb_0
    refine vc_skip_of ?_
    refine seqQ_normal hQ2 ?_
    refine vc_seq_gen (by kernel_rfl) ?_
    intro QQ5 hQ5
    refine vc_seq_gen (by kernel_rfl) ?_
    intro QQ6 hQ6
    simp only [go_sem, Try.ntmps50, Try.results50]
    refine seqQ_normal hQ6 ?_
    refine vc_cond_of (b := (!(a_0.Epoch == b_0.Epoch))) (by (simp only [go_sem]; done)) (fun hb_1 => ?_) (fun hb_1 => ?_)
    ·
      replace h := if_t h hb_1
      simp only [decide_eq_true_eq, decide_eq_false_iff_not, Bool.not_eq_true', Bool.not_eq_false', beq_iff_eq, beq_eq_false_iff_ne, ne_eq, Bool.and_eq_true, Bool.or_eq_true, Int.not_lt, Int.not_le] at hb_1
      refine vc_seq_gen (by kernel_rfl) ?_
      intro QQ7 hQ7
      simp only [go_sem, Try.ntmps50, Try.results50]
      refine seqQ_normal hQ7 ?_
      refine vc_ret_of ?_
      refine seqQ_ret hQ5 ?_
      simp only [go_sem, Try.ntmps50, Try.results50]
      obtain rfl := Option.some.inj h
      refine retW_pure rfl ?_
      simp only [go_sem, Le]
    ·
      replace h := if_f h hb_1
      simp only [decide_eq_true_eq, decide_eq_false_iff_not, Bool.not_eq_true', Bool.not_eq_false', beq_iff_eq, beq_eq_false_iff_ne, ne_eq, Bool.and_eq_true, Bool.or_eq_true, Int.not_lt, Int.not_le] at hb_1
      refine vc_skip_of ?_
      refine seqQ_normal hQ5 ?_
      refine vc_seq_gen (by kernel_rfl) ?_
      intro QQ8 hQ8
      obtain ⟨v_0, ev_0, h⟩ := bindO_some h
      simp only [go_sem, Try.ntmps50, Try.results50]
      refine call0 (f_backwashref05_Less_ok a_0.Rec b_0.Rec v_0 ev_0) (by rfl) (by rfl) ?_
      simp only [go_sem, Try.ntmps50, Try.results50]
      refine seqQ_normal hQ8 ?_
      refine vc_ret_of ?_
      simp only [go_sem, Try.ntmps50, Try.results50]
      obtain rfl := Option.some.inj h
      refine retW_pure rfl ?_
      simp only [go_sem, Le]
end Go.Proofs.Ytfjjpdjnpmajlaa

namespace Go.Proofs.Ytfjjpdjnpmajlaa
open Go Go.RowKit
set_option maxHeartbeats 2000000
set_option maxRecDepth 100000
set_option linter.unusedSimpArgs false
set_option linter.unusedVariables false
def f_backwashref33_Gather_B2 (i_1 : Int) (rec_1 : (Int × (List GOut) → Option ((List GOut) × Int))) (rec_2 : Int × (List GOut) → Option ((List GOut) × Int)) : Int × (List GOut) → Option ((List GOut) × Int) :=
  fun (k_5, a_7) =>
  (if (decide (0 < k_5)) = true then bindO (idx a_7 k_5) (fun (xv_27 : GOut) =>
  bindO (idx a_7 (IntKind.i64.wrap (k_5 - 1))) (fun (xv_28 : GOut) =>
  bindO (f_backwashref33_ahead xv_27 xv_28) (fun (v_8 : Bool) =>
  (if v_8 = true then bindO (idx (List.set a_7 (Int.toNat k_5) xv_28) (IntKind.i64.wrap (k_5 - 1))) (fun (xv_29 : GOut) =>
  rec_2 (IntKind.i64.wrap (k_5 - 1), (List.set (List.set a_7 (Int.toNat k_5) xv_28) (Int.toNat (IntKind.i64.wrap (k_5 - 1))) xv_27)))
  else rec_1 (IntKind.i64.wrap (i_1 + 1), a_7)))))
  else rec_1 (IntKind.i64.wrap (i_1 + 1), a_7))
def f_backwashref33_Gather_B1 (l_0 : List GOut) (size_0 : Int) (rec_1 : Int × (List GOut) → Option ((List GOut) × Int)) : Int × (List GOut) → Option ((List GOut) × Int) :=
  fun (i_1, a_5) =>
  (if (decide (i_1 < (List.length l_0 : Int))) = true then bindO (idx l_0 i_1) (fun (xv_20 : GOut) =>
  (if ((decide (xv_20.Epoch < 0)) || (decide (1048576 < xv_20.Epoch))) = true then some (([] : List GOut), 1)
  else guardO (size_0 ≠ 0) (
  guardO ((List.length a_5 + List.length ([(⟨xv_20.Node, IntKind.i64.wrap (Int.tdiv xv_20.Epoch size_0), xv_20.Rec⟩ : GOut)] : List GOut)) * 32 ≤ 140737488355328) (
  loopK (f_backwashref33_Gather_B2 i_1 rec_1) rounds (IntKind.i64.wrap ((List.length (a_5 ++ ([(⟨xv_20.Node, IntKind.i64.wrap (Int.tdiv xv_20.Epoch size_0), xv_20.Rec⟩ : GOut)] : List GOut)) : Int) - 1), (a_5 ++ ([(⟨xv_20.Node, IntKind.i64.wrap (Int.tdiv xv_20.Epoch size_0), xv_20.Rec⟩ : GOut)] : List GOut)))))))
  else some (a_5, 0))
def f_backwashref33_Gather (l_0 : List GOut) (size_0 : Int) : Option ((List GOut) × Int) :=
  (if ((decide (size_0 < 1)) || (decide (1024 < size_0))) = true then some (([] : List GOut), 1)
  else loopK (f_backwashref33_Gather_B1 l_0 size_0) rounds (0, []))
theorem f_backwashref33_Gather_det (l_0 : List GOut) (size_0 : Int)  (r : (List GOut) × Int) (h : f_backwashref33_Gather l_0 size_0 = some r) : DetS Try.prog 19 [.sl 4 (enc l_0), .v (.int .i64 size_0)] [] 0 (.tup [.osl 0 4 (0) (List.length r.1), .v (.int .i64 r.2)]) [(0, .arr 4 (enc r.1))] 1 := by
  unfold DetS
  refine Spec.of_vc Try.func19 rfl (by kernel_rfl) (by kernel_rfl) ?_
  rw [f_backwashref33_Gather] at h
  refine vc_seq_gen (by kernel_rfl) ?_
  intro QQ1 hQ1
  simp only [go_sem, Try.ntmps19, Try.results19]
  refine seqQ_normal hQ1 ?_
  refine vc_seq_gen (by kernel_rfl) ?_
  intro QQ2 hQ2
  refine vc_seq_gen (by kernel_rfl) ?_
  intro QQ3 hQ3
  simp only [go_sem, Try.ntmps19, Try.results19]
  refine seqQ_normal hQ3 ?_
  refine vc_cond_of (b := ((decide (size_0 < 1)) || (decide (1024 < size_0)))) (by (simp only [go_sem]; done)) (fun hb_0 => ?_) (fun hb_0 => ?_)
  ·
    replace h := if_t h hb_0
    simp only [decide_eq_true_eq, decide_eq_false_iff_not, Bool.not_eq_true', Bool.not_eq_false', beq_iff_eq, beq_eq_false_iff_ne, ne_eq, Bool.and_eq_true, Bool.or_eq_true, Int.not_lt, Int.not_le] at hb_0
    refine vc_seq_gen (by kernel_rfl) ?_
    intro QQ4 hQ4
    simp only [go_sem, Try.ntmps19, Try.results19]
    refine seqQ_normal hQ4 ?_
    refine vc_ret_of ?_
    refine seqQ_ret hQ2 ?_
    simp only [go_sem, Try.ntmps19, Try.results19]
    obtain rfl := Option.some.inj h
    refine retW_det [none] ?_
    simp only [go_sem, Le] <;> (repeat' apply And.intro) <;> (simp [go_sem]; done)
  ·
    replace h := if_f h hb_0
    refine vc_skip_of ?_
    refine seqQ_normal hQ2 ?_
    refine vc_seq_gen (by kernel_rfl) ?_
    intro QQ5 hQ5
    simp only [go_sem, Try.ntmps19, Try.results19]
    refine seqQ_normal hQ5 ?_
    refine vc_join (by kernel_rfl) ?_
    refine seq_go_gen ?_
    intro QQ6 hQ6
    refine vc_seq_gen (by kernel_rfl) ?_
    intro QQ7 hQ7
    simp only [go_sem, Try.ntmps19, Try.results19]
    refine seqQ_normal hQ7 ?_
    refine vc_block_gen ?_
    intro QQ8 hQ8
    refine vc_loop_of ?_
    refine loop_gen (ι := Nat × Int × (List GOut)) (fun ((_, i_1, a_5) : Nat × Int × (List GOut)) => (⟨0, [(0, .sl 4 (enc l_0)), (1, .v (.int .i64 size_0)), (6, .osl 0 4 (0) (List.length a_5)), (7, .v (.int .i64 i_1))], [(0, .arr 4 (enc a_5))], 1, 79⟩ : St)) (fun ((n_, i_1, a_5) : Nat × Int × (List GOut)) => loopK (f_backwashref33_Gather_B1 l_0 size_0) n_ (i_1, a_5) = some r) (fun p => p.1) (rounds, 0, []) [none] ?_ h ?_
    · simp only [go_sem, Le] <;> (repeat' apply And.intro) <;> (simp [go_sem]; done)
    · rintro ⟨n_1, i_1, a_5⟩ h QQ9 hQ9
      dsimp only at h
      replace h := loopK_some h
      obtain ⟨m_1, rfl, h⟩ := h
      rw [f_backwashref33_Gather_B1] at h
      refine vc_seq_gen (by kernel_rfl) ?_
      intro QQ10 hQ10
      refine vc_seq_gen (by kernel_rfl) ?_
      intro QQ11 hQ11
      simp only [go_sem, Try.ntmps19, Try.results19]
      refine seqQ_normal hQ11 ?_
      refine vc_cond_of (b := (decide (i_1 < (List.length l_0 : Int)))) (by (simp only [go_sem]; done)) (fun hb_17 => ?_) (fun hb_17 => ?_)
      ·
        replace h := if_t h hb_17
        simp only [decide_eq_true_eq, decide_eq_false_iff_not, Bool.not_eq_true', Bool.not_eq_false', beq_iff_eq, beq_eq_false_iff_ne, ne_eq, Bool.and_eq_true, Bool.or_eq_true, Int.not_lt, Int.not_le] at hb_17
        refine vc_skip_of ?_
        refine seqQ_normal hQ10 ?_
        refine vc_join (by kernel_rfl) ?_
        refine seq_go_gen ?_
        intro QQ12 hQ12
        refine vc_block_gen ?_
        intro QQ13 hQ13
        refine vc_seq_gen (by kernel_rfl) ?_
        intro QQ14 hQ14
        obtain ⟨xv_20, exv_20, h⟩ := bindO_some h
        obtain ⟨fxv_20a, fxv_20b, fxv_20c⟩ := idx_spec exv_20
        simp only [go_sem, Try.ntmps19, Try.results19, fxv_20a, fxv_20b, fxv_20c]
        refine And.intro (by omega) ?_
        refine seqQ_normal hQ14 ?_
        refine vc_seq_gen (by kernel_rfl) ?_
        intro QQ15 hQ15
        refine vc_seq_gen (by kernel_rfl) ?_
        intro QQ16 hQ16
        simp only [go_sem, Try.ntmps19, Try.results19]
        refine seqQ_normal hQ16 ?_
        refine vc_cond_of (b := ((decide (xv_20.Epoch < 0)) || (decide (1048576 < xv_20.Epoch)))) (by (simp only [go_sem]; done)) (fun hb_18 => ?_) (fun hb_18 => ?_)
        ·
          replace h := if_t h hb_18
          simp only [decide_eq_true_eq, decide_eq_false_iff_not, Bool.not_eq_true', Bool.not_eq_false', beq_iff_eq, beq_eq_false_iff_ne, ne_eq, Bool.and_eq_true, Bool.or_eq_true, Int.not_lt, Int.not_le] at hb_18
          refine vc_seq_gen (by kernel_rfl) ?_
          intro QQ17 hQ17
          simp only [go_sem, Try.ntmps19, Try.results19]
          refine seqQ_normal hQ17 ?_
          refine vc_ret_of ?_
          refine seqQ_ret hQ15 ?_
          refine blockQ_ret hQ13 ?_
          refine seqQ_ret hQ12 ?_
          refine thenQ_ret hQ9 ?_
          refine blockQ_ret hQ8 ?_
          refine seqQ_ret hQ6 ?_
          simp only [go_sem, Try.ntmps19, Try.results19]
          obtain rfl := Option.some.inj h
          refine retW_det [none] ?_
          simp only [go_sem, Le] <;> (repeat' apply And.intro) <;> (simp [go_sem]; done)
        ·
          replace h := if_f h hb_18
          refine vc_skip_of ?_
          refine seqQ_normal hQ15 ?_
          refine vc_seq_gen (by kernel_rfl) ?_
          intro QQ18 hQ18
          obtain ⟨g_4, h⟩ := guardO_some h
          simp only [go_sem, Try.ntmps19, Try.results19, g_4]
          refine seqQ_normal hQ18 ?_
          refine vc_seq_gen (by kernel_rfl) ?_
          intro QQ19 hQ19
          have rf_15 : [[.v (.int .i64 xv_20.Node), .v (.int .i64 (IntKind.i64.wrap (Int.tdiv xv_20.Epoch size_0))), .v (.int .i64 xv_20.Rec.K), .v (.int .i64 xv_20.Rec.V)]] = enc ([(⟨xv_20.Node, IntKind.i64.wrap (Int.tdiv xv_20.Epoch size_0), xv_20.Rec⟩ : GOut)] : List GOut) := by rfl
          obtain ⟨g_5, h⟩ := guardO_some h
          simp only [List.length_cons, List.length_nil, Nat.zero_add, List.length_append] at g_5
          have rf_16 : enc a_5 ++ [[.v (.int .i64 xv_20.Node), .v (.int .i64 (IntKind.i64.wrap (Int.tdiv xv_20.Epoch size_0))), .v (.int .i64 xv_20.Rec.K), .v (.int .i64 xv_20.Rec.V)]] = enc (a_5 ++ ([(⟨xv_20.Node, IntKind.i64.wrap (Int.tdiv xv_20.Epoch size_0), xv_20.Rec⟩ : GOut)] : List GOut)) := by exact (enc_app a_5 ([(⟨xv_20.Node, IntKind.i64.wrap (Int.tdiv xv_20.Epoch size_0), xv_20.Rec⟩ : GOut)] : List GOut)).symm
          simp only [go_sem, Try.ntmps19, Try.results19, g_5, rf_16]
          simp only [rf_15]
          refine seqQ_normal hQ19 ?_
          refine vc_seq_gen (by kernel_rfl) ?_
          intro QQ20 hQ20
          simp only [go_sem, Try.ntmps19, Try.results19]
          refine seqQ_normal hQ20 ?_
          refine vc_block_gen ?_
          intro QQ21 hQ21
          refine vc_loop_of ?_
          refine loop_gen (ι := Nat × Int × (List GOut)) (fun ((_, k_5, a_7) : Nat × Int × (List GOut)) => (⟨0, [(0, .sl 4 (enc l_0)), (1, .v (.int .i64 size_0)), (6, .osl 0 4 (0) (List.length a_7)), (7, .v (.int .i64 i_1)), (9, .v (.int .i64 k_5))], [(0, .arr 4 (enc a_7))], 1, 79⟩ : St)) (fun ((n_, k_5, a_7) : Nat × Int × (List GOut)) => loopK (f_backwashref33_Gather_B2 i_1 (loopK (f_backwashref33_Gather_B1 l_0 size_0) m_1)) n_ (k_5, a_7) = some r) (fun p => p.1) (rounds, IntKind.i64.wrap ((List.length (a_5 ++ ([(⟨xv_20.Node, IntKind.i64.wrap (Int.tdiv xv_20.Epoch size_0), xv_20.Rec⟩ : GOut)] : List GOut)) : Int) - 1), (a_5 ++ ([(⟨xv_20.Node, IntKind.i64.wrap (Int.tdiv xv_20.Epoch size_0), xv_20.Rec⟩ : GOut)] : List GOut))) [some 3] ?_ h ?_
          · simp only [go_sem, Le] <;> (repeat' apply And.intro) <;> (simp [go_sem]; done)
          · rintro ⟨n_2, k_5, a_7⟩ h QQ22 hQ22
            dsimp only at h
            replace h := loopK_some h
            obtain ⟨m_2, rfl, h⟩ := h
            rw [f_backwashref33_Gather_B2] at h
            refine vc_seq_gen (by kernel_rfl) ?_
            intro QQ23 hQ23
            refine vc_seq_gen (by kernel_rfl) ?_
            intro QQ24 hQ24
            refine vc_draw ?_
            refine drawM_tail 12 [0, 1, 3, 7, 7, 31, 63, 7, 7, 263, 903, 1927, 4095, 8191] mixed (by kernel_rfl) (of_decide_eq_true (by kernel_rfl)) (by kernel_rfl) ?_
            simp only [go_sem, Try.ntmps19, Try.results19]
            rcases hb_23 : (decide (0 < k_5)) with _ | _
            ·
              replace h := if_f h hb_23
              simp only [go_sem, Try.ntmps19, Try.results19, hb_23]
              refine seqQ_normal hQ24 ?_
              refine vc_cond_f (by (simp only [go_sem]; done)) ?_
              refine vc_exit_of ?_
              refine seqQ_exit hQ23 ?_
              refine thenQ_exit hQ22 ?_
              refine blockQ_exit hQ21 ?_
              refine blockQ_normal hQ13 ?_
              refine seqQ_normal hQ12 ?_
              simp only [go_sem, Try.ntmps19, Try.results19]
              refine thenQ_normal hQ9 ?_
              refine ⟨(m_1, IntKind.i64.wrap (i_1 + 1), a_7), [some 0], ?_, h, Nat.lt_succ_self _⟩
              simp only [go_sem, Le]
            ·
              replace h := if_t h hb_23
              obtain ⟨xv_27, exv_27, h⟩ := bindO_some h
              obtain ⟨fxv_27a, fxv_27b, fxv_27c⟩ := idx_spec exv_27
              obtain ⟨xv_28, exv_28, h⟩ := bindO_some h
              obtain ⟨fxv_28a, fxv_28b, fxv_28c⟩ := idx_spec exv_28
              obtain ⟨v_8, ev_8, h⟩ := bindO_some h
              simp only [go_sem, Try.ntmps19, Try.results19, hb_23, fxv_27a, fxv_27b, fxv_27c, fxv_28a, fxv_28b, fxv_28c]
              refine And.intro (by omega) ?_
              refine And.intro (by omega) ?_
              refine call0 (f_backwashref33_ahead_ok xv_27 xv_28 v_8 ev_8) (by rfl) (by rfl) ?_
              simp only [go_sem, Try.ntmps19, Try.results19]
              refine seqQ_normal hQ24 ?_
              refine vc_cond_of (b := v_8) (by (simp only [go_sem]; done)) (fun hb_24 => ?_) (fun hb_24 => ?_)
              ·
                replace h := if_t h hb_24
                refine vc_skip_of ?_
                refine seqQ_normal hQ23 ?_
                refine vc_seq_gen (by kernel_rfl) ?_
                intro QQ25 hQ25
                refine vc_block_gen ?_
                intro QQ26 hQ26
                refine vc_draw ?_
                refine drawV_all 16 0 [0, 0, 0, 0, 8, 0, 0, 64, 224, 480, 0, 0, 3072, 7168, 16355, 32739, 65535, 131071] [0] [2, 3, 4] [15] [] mixed (by kernel_rfl) (of_decide_eq_true (by kernel_rfl)) (by kernel_rfl) (by kernel_rfl) (by rfl) ?_
                have rf_21 : (enc a_7).set (Int.toNat k_5) [.v (.int .i64 xv_28.Node), .v (.int .i64 xv_28.Epoch), .v (.int .i64 xv_28.Rec.K), .v (.int .i64 xv_28.Rec.V)] = enc (List.set a_7 (Int.toNat k_5) xv_28) := by exact enc_set _ _ _
                obtain ⟨xv_29, exv_29, h⟩ := bindO_some h
                obtain ⟨fxv_29a, fxv_29b, fxv_29c⟩ := idx_spec exv_29
                have rf_22 : (enc (List.set a_7 (Int.toNat k_5) xv_28)).set (Int.toNat (IntKind.i64.wrap (k_5 - 1))) [.v (.int .i64 xv_27.Node), .v (.int .i64 xv_27.Epoch), .v (.int .i64 xv_27.Rec.K), .v (.int .i64 xv_27.Rec.V)] = enc (List.set (List.set a_7 (Int.toNat k_5) xv_28) (Int.toNat (IntKind.i64.wrap (k_5 - 1))) xv_27) := by exact enc_set _ _ _
                simp only [go_sem, Try.ntmps19, Try.results19, fxv_28a, fxv_28b, fxv_28c, fxv_27a, fxv_27b, fxv_27c, rf_21, fxv_29a, fxv_29b, fxv_29c, rf_22]
                refine And.intro (by omega) ?_
                refine And.intro (by omega) ?_
                refine And.intro (by omega) ?_
                refine And.intro (by omega) ?_
                refine blockQ_normal hQ26 ?_
                refine seqQ_normal hQ25 ?_
                simp only [go_sem, Try.ntmps19, Try.results19]
                refine thenQ_normal hQ22 ?_
                refine ⟨(m_2, IntKind.i64.wrap (k_5 - 1), (List.set (List.set a_7 (Int.toNat k_5) xv_28) (Int.toNat (IntKind.i64.wrap (k_5 - 1))) xv_27)), [some 0], ?_, h, Nat.lt_succ_self _⟩
                simp only [go_sem, Le]
              ·
                replace h := if_f h hb_24
                refine vc_exit_of ?_
                refine seqQ_exit hQ23 ?_
                refine thenQ_exit hQ22 ?_
                refine blockQ_exit hQ21 ?_
                refine blockQ_normal hQ13 ?_
                refine seqQ_normal hQ12 ?_
                simp only [go_sem, Try.ntmps19, Try.results19]
                refine thenQ_normal hQ9 ?_
                refine ⟨(m_1, IntKind.i64.wrap (i_1 + 1), a_7), [some 0], ?_, h, Nat.lt_succ_self _⟩
                simp only [go_sem, Le]
      ·
        replace h := if_f h hb_17
        simp only [decide_eq_true_eq, decide_eq_false_iff_not, Bool.not_eq_true', Bool.not_eq_false', beq_iff_eq, beq_eq_false_iff_ne, ne_eq, Bool.and_eq_true, Bool.or_eq_true, Int.not_lt, Int.not_le] at hb_17
        refine vc_exit_of ?_
        refine seqQ_exit hQ10 ?_
        refine thenQ_exit hQ9 ?_
        refine blockQ_exit hQ8 ?_
        refine seqQ_normal hQ6 ?_
        refine vc_seq_gen (by kernel_rfl) ?_
        intro QQ27 hQ27
        simp only [go_sem, Try.ntmps19, Try.results19]
        refine seqQ_normal hQ27 ?_
        refine vc_ret_of ?_
        simp only [go_sem, Try.ntmps19, Try.results19]
        obtain rfl := Option.some.inj h
        refine retW_det [some 0] ?_
        simp only [go_sem, Le]
theorem f_backwashref33_Gather_ok (l_0 : List GOut) (size_0 : Int)  (r : (List GOut) × Int) (h : f_backwashref33_Gather l_0 size_0 = some r) : PureS Try.prog 19 [.sl 4 (enc l_0), .v (.int .i64 size_0)] 0 (.tup [.sl 4 (enc r.1), .v (.int .i64 r.2)]) := by
  refine (f_backwashref33_Gather_det l_0 size_0  r h).pure ?_
  simp only [go_sem, Le] <;> (repeat' apply And.intro) <;> (simp [go_sem]; done)
end Go.Proofs.Ytfjjpdjnpmajlaa

namespace Go.Proofs.Ytfjjpdjnpmajlaa
open Go Go.RowKit
set_option maxHeartbeats 2000000
set_option maxRecDepth 100000
set_option linter.unusedSimpArgs false
set_option linter.unusedVariables false
def f_backwashref12_Same_B1 (a_0 : List GOut) (b_0 : List GOut) (rec_1 : Int → Option Bool) : Int → Option Bool :=
  fun i_1 =>
  (if (decide (i_1 < (List.length a_0 : Int))) = true then bindO (idx a_0 i_1) (fun (xv_4 : GOut) =>
  bindO (idx b_0 i_1) (fun (xv_5 : GOut) =>
  (if (!((xv_4.Node == xv_5.Node) && ((xv_4.Epoch == xv_5.Epoch) && ((xv_4.Rec.K == xv_5.Rec.K) && (xv_4.Rec.V == xv_5.Rec.V))))) = true then some false
  else rec_1 (IntKind.i64.wrap (i_1 + 1)))))
  else some true)
def f_backwashref12_Same (a_0 : List GOut) (b_0 : List GOut) : Option Bool :=
  (if (!((List.length a_0 : Int) == (List.length b_0 : Int))) = true then some false
  else loopK (f_backwashref12_Same_B1 a_0 b_0) rounds 0)
theorem f_backwashref12_Same_ok (a_0 : List GOut) (b_0 : List GOut)  (r : Bool) (h : f_backwashref12_Same a_0 b_0 = some r) : PureS Try.prog 20 [.sl 4 (enc a_0), .sl 4 (enc b_0)] 0 (.v (.bool r)) := by
  unfold PureS
  refine Spec.of_vc Try.func20 rfl (by kernel_rfl) (by kernel_rfl) ?_
  rw [f_backwashref12_Same] at h
  refine vc_seq_gen (by kernel_rfl) ?_
  intro QQ1 hQ1
  simp only [go_sem, Try.ntmps20, Try.results20]
  refine seqQ_normal hQ1 ?_
  refine vc_seq_gen (by kernel_rfl) ?_
  intro QQ2 hQ2
  refine vc_seq_gen (by kernel_rfl) ?_
  intro QQ3 hQ3
  simp only [go_sem, Try.ntmps20, Try.results20]
  refine seqQ_normal hQ3 ?_
  refine vc_cond_of (b := (!((List.length a_0 : Int) == (List.length b_0 : Int)))) (by (simp only [go_sem]; done)) (fun hb_0 => ?_) (fun hb_0 => ?_)
  ·
    replace h := if_t h hb_0
    simp only [decide_eq_true_eq, decide_eq_false_iff_not, Bool.not_eq_true', Bool.not_eq_false', beq_iff_eq, beq_eq_false_iff_ne, ne_eq, Bool.and_eq_true, Bool.or_eq_true, Int.not_lt, Int.not_le] at hb_0
    refine vc_seq_gen (by kernel_rfl) ?_
    intro QQ4 hQ4
    simp only [go_sem, Try.ntmps20, Try.results20]
    refine seqQ_normal hQ4 ?_
    refine vc_ret_of ?_
    refine seqQ_ret hQ2 ?_
    simp only [go_sem, Try.ntmps20, Try.results20]
    obtain rfl := Option.some.inj h
    refine retW_pure rfl ?_
    simp only [go_sem, Le]
  ·
    replace h := if_f h hb_0
    simp only [decide_eq_true_eq, decide_eq_false_iff_not, Bool.not_eq_true', Bool.not_eq_false', beq_iff_eq, beq_eq_false_iff_ne, ne_eq, Bool.and_eq_true, Bool.or_eq_true, Int.not_lt, Int.not_le] at hb_0
    refine vc_skip_of ?_
    refine seqQ_normal hQ2 ?_
    refine vc_join (by kernel_rfl) ?_
    refine seq_go_gen ?_
    intro QQ5 hQ5
    refine vc_seq_gen (by kernel_rfl) ?_
    intro QQ6 hQ6
    simp only [go_sem, Try.ntmps20, Try.results20]
    refine seqQ_normal hQ6 ?_
    refine vc_block_gen ?_
    intro QQ7 hQ7
    refine vc_loop_of ?_
    refine loop_gen (ι := Nat × Int) (fun ((_, i_1) : Nat × Int) => (⟨0, [(0, .sl 4 (enc a_0)), (1, .sl 4 (enc b_0)), (5, .v (.int .i64 i_1))], [], 0, 26⟩ : St)) (fun ((n_, i_1) : Nat × Int) => loopK (f_backwashref12_Same_B1 a_0 b_0) n_ i_1 = some r) (fun p => p.1) (rounds, 0) [] ?_ h ?_
    · simp only [go_sem, Le]
    · rintro ⟨n_1, i_1⟩ h QQ8 hQ8
      dsimp only at h
      replace h := loopK_some h
      obtain ⟨m_1, rfl, h⟩ := h
      rw [f_backwashref12_Same_B1] at h
      refine vc_seq_gen (by kernel_rfl) ?_
      intro QQ9 hQ9
      refine vc_seq_gen (by kernel_rfl) ?_
      intro QQ10 hQ10
      simp only [go_sem, Try.ntmps20, Try.results20]
      refine seqQ_normal hQ10 ?_
      refine vc_cond_of (b := (decide (i_1 < (List.length a_0 : Int)))) (by (simp only [go_sem]; done)) (fun hb_5 => ?_) (fun hb_5 => ?_)
      ·
        replace h := if_t h hb_5
        simp only [decide_eq_true_eq, decide_eq_false_iff_not, Bool.not_eq_true', Bool.not_eq_false', beq_iff_eq, beq_eq_false_iff_ne, ne_eq, Bool.and_eq_true, Bool.or_eq_true, Int.not_lt, Int.not_le] at hb_5
        refine vc_skip_of ?_
        refine seqQ_normal hQ9 ?_
        refine vc_seq_gen (by kernel_rfl) ?_
        intro QQ11 hQ11
        refine vc_block_gen ?_
        intro QQ12 hQ12
        refine vc_seq_gen (by kernel_rfl) ?_
        intro QQ13 hQ13
        refine vc_draw ?_
        refine drawM_tail 8 [0, 0, 3, 7, 0, 0, 48, 112, 255] mixed (by kernel_rfl) (of_decide_eq_true (by kernel_rfl)) (by kernel_rfl) ?_
        obtain ⟨xv_4, exv_4, h⟩ := bindO_some h
        obtain ⟨fxv_4a, fxv_4b, fxv_4c⟩ := idx_spec exv_4
        obtain ⟨xv_5, exv_5, h⟩ := bindO_some h
        obtain ⟨fxv_5a, fxv_5b, fxv_5c⟩ := idx_spec exv_5
        simp only [go_sem, Try.ntmps20, Try.results20, fxv_4a, fxv_4b, fxv_4c, fxv_5a, fxv_5b, fxv_5c]
        refine And.intro (by omega) ?_
        refine And.intro (by omega) ?_
        refine seqQ_normal hQ13 ?_
        refine vc_cond_of (b := (!((xv_4.Node == xv_5.Node) && ((xv_4.Epoch == xv_5.Epoch) && ((xv_4.Rec.K == xv_5.Rec.K) && (xv_4.Rec.V == xv_5.Rec.V)))))) (by (simp only [go_sem]; done)) (fun hb_6 => ?_) (fun hb_6 => ?_)
        ·
          replace h := if_t h hb_6
          simp only [decide_eq_true_eq, decide_eq_false_iff_not, Bool.not_eq_true', Bool.not_eq_false', beq_iff_eq, beq_eq_false_iff_ne, ne_eq, Bool.and_eq_true, Bool.or_eq_true, Int.not_lt, Int.not_le] at hb_6
          refine vc_seq_gen (by kernel_rfl) ?_
          intro QQ14 hQ14
          simp only [go_sem, Try.ntmps20, Try.results20]
          refine seqQ_normal hQ14 ?_
          refine vc_ret_of ?_
          refine blockQ_ret hQ12 ?_
          refine seqQ_ret hQ11 ?_
          refine thenQ_ret hQ8 ?_
          refine blockQ_ret hQ7 ?_
          refine seqQ_ret hQ5 ?_
          simp only [go_sem, Try.ntmps20, Try.results20]
          obtain rfl := Option.some.inj h
          refine retW_pure rfl ?_
          simp only [go_sem, Le]
        ·
          replace h := if_f h hb_6
          simp only [decide_eq_true_eq, decide_eq_false_iff_not, Bool.not_eq_true', Bool.not_eq_false', beq_iff_eq, beq_eq_false_iff_ne, ne_eq, Bool.and_eq_true, Bool.or_eq_true, Int.not_lt, Int.not_le] at hb_6
          refine vc_skip_of ?_
          refine blockQ_normal hQ12 ?_
          refine seqQ_normal hQ11 ?_
          simp only [go_sem, Try.ntmps20, Try.results20]
          refine thenQ_normal hQ8 ?_
          refine ⟨(m_1, IntKind.i64.wrap (i_1 + 1)), [], ?_, h, Nat.lt_succ_self _⟩
          simp only [go_sem, Le]
      ·
        replace h := if_f h hb_5
        simp only [decide_eq_true_eq, decide_eq_false_iff_not, Bool.not_eq_true', Bool.not_eq_false', beq_iff_eq, beq_eq_false_iff_ne, ne_eq, Bool.and_eq_true, Bool.or_eq_true, Int.not_lt, Int.not_le] at hb_5
        refine vc_exit_of ?_
        refine seqQ_exit hQ9 ?_
        refine thenQ_exit hQ8 ?_
        refine blockQ_exit hQ7 ?_
        refine seqQ_normal hQ5 ?_
        refine vc_seq_gen (by kernel_rfl) ?_
        intro QQ15 hQ15
        simp only [go_sem, Try.ntmps20, Try.results20]
        refine seqQ_normal hQ15 ?_
        refine vc_ret_of ?_
        simp only [go_sem, Try.ntmps20, Try.results20]
        obtain rfl := Option.some.inj h
        refine retW_pure rfl ?_
        simp only [go_sem, Le]
end Go.Proofs.Ytfjjpdjnpmajlaa

namespace Go.Proofs.Ytfjjpdjnpmajlaa
open Go Go.RowKit
set_option maxHeartbeats 2000000
set_option maxRecDepth 100000
set_option linter.unusedSimpArgs false
set_option linter.unusedVariables false
def f_backwashref08_Short_B1 (g_0 : GGraph) (rec_1 : Int → Option Bool) : Int → Option Bool :=
  fun i_1 =>
  (if (decide (i_1 < (List.length g_0.Nodes : Int))) = true then bindO (idx g_0.Nodes i_1) (fun (xv_2 : GNode) =>
  (if (decide (100 < (List.length xv_2.Prog : Int))) = true then some false
  else rec_1 (IntKind.i64.wrap (i_1 + 1))))
  else some true)
def f_backwashref08_Short (g_0 : GGraph) : Option Bool :=
  (if ((((decide (20 < (List.length g_0.Parent : Int))) || (decide (20 < (List.length g_0.Bound : Int)))) || (decide (60 < (List.length g_0.Nodes : Int)))) || (decide (100 < (List.length g_0.Edges : Int)))) = true then some false
  else loopK (f_backwashref08_Short_B1 g_0) rounds 0)
theorem f_backwashref08_Short_ok (g_0 : GGraph)  (r : Bool) (h : f_backwashref08_Short g_0 = some r) : PureS Try.prog 13 [.agg [.sl 1 (enc g_0.Parent), .sl 1 (enc g_0.Bound), .sl 4 (enc g_0.Nodes), .sl 4 (enc g_0.Edges)]] 0 (.v (.bool r)) := by
  unfold PureS
  refine Spec.of_vc Try.func13 rfl (by kernel_rfl) (by kernel_rfl) ?_
  rw [f_backwashref08_Short] at h
  refine vc_seq_gen (by kernel_rfl) ?_
  intro QQ1 hQ1
  simp only [go_sem, Try.ntmps13, Try.results13]
  refine seqQ_normal hQ1 ?_
  refine vc_seq_gen (by kernel_rfl) ?_
  intro QQ2 hQ2
  refine vc_seq_gen (by kernel_rfl) ?_
  intro QQ3 hQ3
  simp only [go_sem, Try.ntmps13, Try.results13]
  refine seqQ_normal hQ3 ?_
  refine vc_cond_of (b := ((((decide (20 < (List.length g_0.Parent : Int))) || (decide (20 < (List.length g_0.Bound : Int)))) || (decide (60 < (List.length g_0.Nodes : Int)))) || (decide (100 < (List.length g_0.Edges : Int))))) (by (simp only [go_sem]; done)) (fun hb_0 => ?_) (fun hb_0 => ?_)
  ·
    replace h := if_t h hb_0
    simp only [decide_eq_true_eq, decide_eq_false_iff_not, Bool.not_eq_true', Bool.not_eq_false', beq_iff_eq, beq_eq_false_iff_ne, ne_eq, Bool.and_eq_true, Bool.or_eq_true, Int.not_lt, Int.not_le] at hb_0
    refine vc_seq_gen (by kernel_rfl) ?_
    intro QQ4 hQ4
    simp only [go_sem, Try.ntmps13, Try.results13]
    refine seqQ_normal hQ4 ?_
    refine vc_ret_of ?_
    refine seqQ_ret hQ2 ?_
    simp only [go_sem, Try.ntmps13, Try.results13]
    obtain rfl := Option.some.inj h
    refine retW_pure rfl ?_
    simp only [go_sem, Le]
  ·
    replace h := if_f h hb_0
    refine vc_skip_of ?_
    refine seqQ_normal hQ2 ?_
    refine vc_join (by kernel_rfl) ?_
    refine seq_go_gen ?_
    intro QQ5 hQ5
    refine vc_seq_gen (by kernel_rfl) ?_
    intro QQ6 hQ6
    simp only [go_sem, Try.ntmps13, Try.results13]
    refine seqQ_normal hQ6 ?_
    refine vc_block_gen ?_
    intro QQ7 hQ7
    refine vc_loop_of ?_
    refine loop_gen (ι := Nat × Int) (fun ((_, i_1) : Nat × Int) => (⟨0, [(1, .ptr 0 0), (3, .v (.int .i64 i_1))], [(0, .box [.sl 1 (enc g_0.Parent), .sl 1 (enc g_0.Bound), .sl 4 (enc g_0.Nodes), .sl 4 (enc g_0.Edges)])], 1, 41⟩ : St)) (fun ((n_, i_1) : Nat × Int) => loopK (f_backwashref08_Short_B1 g_0) n_ i_1 = some r) (fun p => p.1) (rounds, 0) [some 0] ?_ h ?_
    · simp only [go_sem, Le]
    · rintro ⟨n_1, i_1⟩ h QQ8 hQ8
      dsimp only at h
      replace h := loopK_some h
      obtain ⟨m_1, rfl, h⟩ := h
      rw [f_backwashref08_Short_B1] at h
      refine vc_seq_gen (by kernel_rfl) ?_
      intro QQ9 hQ9
      refine vc_seq_gen (by kernel_rfl) ?_
      intro QQ10 hQ10
      simp only [go_sem, Try.ntmps13, Try.results13]
      refine seqQ_normal hQ10 ?_
      refine vc_cond_of (b := (decide (i_1 < (List.length g_0.Nodes : Int)))) (by (simp only [go_sem]; done)) (fun hb_5 => ?_) (fun hb_5 => ?_)
      ·
        replace h := if_t h hb_5
        simp only [decide_eq_true_eq, decide_eq_false_iff_not, Bool.not_eq_true', Bool.not_eq_false', beq_iff_eq, beq_eq_false_iff_ne, ne_eq, Bool.and_eq_true, Bool.or_eq_true, Int.not_lt, Int.not_le] at hb_5
        refine vc_skip_of ?_
        refine seqQ_normal hQ9 ?_
        refine vc_seq_gen (by kernel_rfl) ?_
        intro QQ11 hQ11
        refine vc_block_gen ?_
        intro QQ12 hQ12
        refine vc_seq_gen (by kernel_rfl) ?_
        intro QQ13 hQ13
        obtain ⟨xv_2, exv_2, h⟩ := bindO_some h
        obtain ⟨fxv_2a, fxv_2b, fxv_2c⟩ := idx_spec exv_2
        simp only [go_sem, Try.ntmps13, Try.results13, fxv_2a, fxv_2b, fxv_2c]
        refine And.intro (by omega) ?_
        refine seqQ_normal hQ13 ?_
        refine vc_cond_of (b := (decide (100 < (List.length xv_2.Prog : Int)))) (by (simp only [go_sem]; done)) (fun hb_6 => ?_) (fun hb_6 => ?_)
        ·
          replace h := if_t h hb_6
          simp only [decide_eq_true_eq, decide_eq_false_iff_not, Bool.not_eq_true', Bool.not_eq_false', beq_iff_eq, beq_eq_false_iff_ne, ne_eq, Bool.and_eq_true, Bool.or_eq_true, Int.not_lt, Int.not_le] at hb_6
          refine vc_seq_gen (by kernel_rfl) ?_
          intro QQ14 hQ14
          simp only [go_sem, Try.ntmps13, Try.results13]
          refine seqQ_normal hQ14 ?_
          refine vc_ret_of ?_
          refine blockQ_ret hQ12 ?_
          refine seqQ_ret hQ11 ?_
          refine thenQ_ret hQ8 ?_
          refine blockQ_ret hQ7 ?_
          refine seqQ_ret hQ5 ?_
          simp only [go_sem, Try.ntmps13, Try.results13]
          obtain rfl := Option.some.inj h
          refine retW_pure rfl ?_
          simp only [go_sem, Le]
        ·
          replace h := if_f h hb_6
          simp only [decide_eq_true_eq, decide_eq_false_iff_not, Bool.not_eq_true', Bool.not_eq_false', beq_iff_eq, beq_eq_false_iff_ne, ne_eq, Bool.and_eq_true, Bool.or_eq_true, Int.not_lt, Int.not_le] at hb_6
          refine vc_skip_of ?_
          refine blockQ_normal hQ12 ?_
          refine seqQ_normal hQ11 ?_
          simp only [go_sem, Try.ntmps13, Try.results13]
          refine thenQ_normal hQ8 ?_
          refine ⟨(m_1, IntKind.i64.wrap (i_1 + 1)), [some 0], ?_, h, Nat.lt_succ_self _⟩
          simp only [go_sem, Le]
      ·
        replace h := if_f h hb_5
        simp only [decide_eq_true_eq, decide_eq_false_iff_not, Bool.not_eq_true', Bool.not_eq_false', beq_iff_eq, beq_eq_false_iff_ne, ne_eq, Bool.and_eq_true, Bool.or_eq_true, Int.not_lt, Int.not_le] at hb_5
        refine vc_exit_of ?_
        refine seqQ_exit hQ9 ?_
        refine thenQ_exit hQ8 ?_
        refine blockQ_exit hQ7 ?_
        refine seqQ_normal hQ5 ?_
        refine vc_seq_gen (by kernel_rfl) ?_
        intro QQ15 hQ15
        simp only [go_sem, Try.ntmps13, Try.results13]
        refine seqQ_normal hQ15 ?_
        refine vc_ret_of ?_
        simp only [go_sem, Try.ntmps13, Try.results13]
        obtain rfl := Option.some.inj h
        refine retW_pure rfl ?_
        simp only [go_sem, Le]
end Go.Proofs.Ytfjjpdjnpmajlaa

namespace Go.Proofs.Ytfjjpdjnpmajlaa
open Go Go.RowKit
set_option maxHeartbeats 2000000
set_option maxRecDepth 100000
set_option linter.unusedSimpArgs false
set_option linter.unusedVariables false
def f_slices_IndexFunc_Node_B1 (s_0 : List GNode) (f_0 : GNode → Option Bool) (rec_1 : Int → Option Int) : Int → Option Int :=
  fun t8_1 =>
  (if (decide (t8_1 < (List.length s_0 : Int))) = true then bindO (idx s_0 t8_1) (fun (xv_2 : GNode) =>
  bindO (f_0 xv_2) (fun (v_2 : Bool) =>
  (if v_2 = true then some t8_1
  else rec_1 (IntKind.i64.wrap (t8_1 + 1)))))
  else some (-1))
def f_slices_IndexFunc_Node (s_0 : List GNode) (f_0 : GNode → Option Bool) : Option Int :=
  loopK (f_slices_IndexFunc_Node_B1 s_0 f_0) rounds 0
theorem f_slices_IndexFunc_Node_ok (s_0 : List GNode) (f_0 : GNode → Option Bool) (g_f_0 : FuncId) (c_f_0 : List AV) (F_f_0 : idFreeL c_f_0 = true) (E_f_0 : entB Try.prog g_f_0 = true) (H_f_0 : ∀ (x0 : GNode) (r : Bool), f_0 x0 = some r → PureS Try.prog g_f_0 ([.agg [.v (.int .i64 x0.Kind), .v (.int .i64 x0.Scope), .v (.int .i64 x0.Arg), .sl 2 (enc x0.Prog)]] ++ c_f_0) 0 (.v (.bool r))) (r : Int) (h : f_slices_IndexFunc_Node s_0 f_0 = some r) : PureS Try.prog 83 [.sl 4 (enc s_0), .clo g_f_0 c_f_0] 0 (.v (.int .i64 r)) := by
  unfold PureS
  refine Spec.of_vc Try.func83 rfl (by kernel_rfl) (by kernel_rfl) ?_
  rw [f_slices_IndexFunc_Node] at h
  refine vc_seq_gen (by kernel_rfl) ?_
  intro QQ1 hQ1
  simp only [go_sem, Try.ntmps83, Try.results83]
  refine seqQ_normal hQ1 ?_
  refine vc_join (by kernel_rfl) ?_
  refine seq_go_gen ?_
  intro QQ2 hQ2
  refine vc_seq_gen (by kernel_rfl) ?_
  intro QQ3 hQ3
  simp only [go_sem, Try.ntmps83, Try.results83]
  refine seqQ_normal hQ3 ?_
  refine vc_block_gen ?_
  intro QQ4 hQ4
  refine vc_loop_of ?_
  refine loop_gen (ι := Nat × Int) (fun ((_, t8_1) : Nat × Int) => (⟨0, [(0, .sl 4 (enc s_0)), (1, .clo g_f_0 c_f_0), (7, .v (.int .i64 (List.length s_0 : Int))), (8, .v (.int .i64 t8_1))], [], 0, 19⟩ : St)) (fun ((n_, t8_1) : Nat × Int) => loopK (f_slices_IndexFunc_Node_B1 s_0 f_0) n_ t8_1 = some r) (fun p => p.1) (rounds, 0) [] ?_ h ?_
  · simp only [go_sem, Le, AvLeL_free _ F_f_0]
  · rintro ⟨n_1, t8_1⟩ h QQ5 hQ5
    dsimp only at h
    replace h := loopK_some h
    obtain ⟨m_1, rfl, h⟩ := h
    rw [f_slices_IndexFunc_Node_B1] at h
    refine vc_seq_gen (by kernel_rfl) ?_
    intro QQ6 hQ6
    simp only [go_sem, Try.ntmps83, Try.results83]
    refine seqQ_normal hQ6 ?_
    refine vc_seq_gen (by kernel_rfl) ?_
    intro QQ7 hQ7
    refine vc_cond_of (b := (decide (t8_1 < (List.length s_0 : Int)))) (by (simp only [go_sem]; done)) (fun hb_4 => ?_) (fun hb_4 => ?_)
    ·
      replace h := if_t h hb_4
      simp only [decide_eq_true_eq, decide_eq_false_iff_not, Bool.not_eq_true', Bool.not_eq_false', beq_iff_eq, beq_eq_false_iff_ne, ne_eq, Bool.and_eq_true, Bool.or_eq_true, Int.not_lt, Int.not_le] at hb_4
      refine vc_skip_of ?_
      refine seqQ_normal hQ7 ?_
      refine vc_seq_gen (by kernel_rfl) ?_
      intro QQ8 hQ8
      refine vc_block_gen ?_
      intro QQ9 hQ9
      refine vc_seq_gen (by kernel_rfl) ?_
      intro QQ10 hQ10
      simp only [go_sem, Try.ntmps83, Try.results83]
      refine seqQ_normal hQ10 ?_
      refine vc_seq_gen (by kernel_rfl) ?_
      intro QQ11 hQ11
      obtain ⟨xv_2, exv_2, h⟩ := bindO_some h
      obtain ⟨fxv_2a, fxv_2b, fxv_2c⟩ := idx_spec exv_2
      obtain ⟨v_2, ev_2, h⟩ := bindO_some h
      simp only [go_sem, Try.ntmps83, Try.results83, fxv_2a, fxv_2b, fxv_2c, E_f_0]
      refine And.intro (by omega) ?_
      refine call0 (H_f_0 xv_2 v_2 ev_2) (by rfl) (by simp [idFreeL, idFree, F_f_0]) ?_
      simp only [go_sem, Try.ntmps83, Try.results83]
      refine seqQ_normal hQ11 ?_
      refine vc_cond_of (b := v_2) (by (simp only [go_sem]; done)) (fun hb_5 => ?_) (fun hb_5 => ?_)
      ·
        replace h := if_t h hb_5
        refine vc_seq_gen (by kernel_rfl) ?_
        intro QQ12 hQ12
        simp only [go_sem, Try.ntmps83, Try.results83]
        refine seqQ_normal hQ12 ?_
        refine vc_ret_of ?_
        refine blockQ_ret hQ9 ?_
        refine seqQ_ret hQ8 ?_
        refine thenQ_ret hQ5 ?_
        refine blockQ_ret hQ4 ?_
        refine seqQ_ret hQ2 ?_
        simp only [go_sem, Try.ntmps83, Try.results83]
        obtain rfl := Option.some.inj h
        refine retW_pure rfl ?_
        simp only [go_sem, Le, AvLeL_free _ F_f_0]
      ·
        replace h := if_f h hb_5
        refine vc_skip_of ?_
        refine blockQ_normal hQ9 ?_
        refine seqQ_normal hQ8 ?_
        simp only [go_sem, Try.ntmps83, Try.results83]
        refine thenQ_normal hQ5 ?_
        refine ⟨(m_1, IntKind.i64.wrap (t8_1 + 1)), [], ?_, h, Nat.lt_succ_self _⟩
        simp only [go_sem, Le, AvLeL_free _ F_f_0]
    ·
      replace h := if_f h hb_4
      simp only [decide_eq_true_eq, decide_eq_false_iff_not, Bool.not_eq_true', Bool.not_eq_false', beq_iff_eq, beq_eq_false_iff_ne, ne_eq, Bool.and_eq_true, Bool.or_eq_true, Int.not_lt, Int.not_le] at hb_4
      refine vc_exit_of ?_
      refine seqQ_exit hQ7 ?_
      refine thenQ_exit hQ5 ?_
      refine blockQ_exit hQ4 ?_
      refine seqQ_normal hQ2 ?_
      refine vc_seq_gen (by kernel_rfl) ?_
      intro QQ13 hQ13
      simp only [go_sem, Try.ntmps83, Try.results83]
      refine seqQ_normal hQ13 ?_
      refine vc_ret_of ?_
      simp only [go_sem, Try.ntmps83, Try.results83]
      obtain rfl := Option.some.inj h
      refine retW_pure rfl ?_
      simp only [go_sem, Le, AvLeL_free _ F_f_0]
end Go.Proofs.Ytfjjpdjnpmajlaa

namespace Go.Proofs.Ytfjjpdjnpmajlaa
open Go Go.RowKit
set_option maxHeartbeats 2000000
set_option maxRecDepth 100000
set_option linter.unusedSimpArgs false
set_option linter.unusedVariables false
def f_slices_ContainsFunc_Node (s_0 : List GNode) (f_0 : GNode → Option Bool) : Option Bool :=
  bindO (f_slices_IndexFunc_Node s_0 f_0) (fun (v_0 : Int) =>
  some (decide (0 ≤ v_0)))
theorem f_slices_ContainsFunc_Node_ok (s_0 : List GNode) (f_0 : GNode → Option Bool) (g_f_0 : FuncId) (c_f_0 : List AV) (F_f_0 : idFreeL c_f_0 = true) (E_f_0 : entB Try.prog g_f_0 = true) (H_f_0 : ∀ (x0 : GNode) (r : Bool), f_0 x0 = some r → PureS Try.prog g_f_0 ([.agg [.v (.int .i64 x0.Kind), .v (.int .i64 x0.Scope), .v (.int .i64 x0.Arg), .sl 2 (enc x0.Prog)]] ++ c_f_0) 0 (.v (.bool r))) (r : Bool) (h : f_slices_ContainsFunc_Node s_0 f_0 = some r) : PureS Try.prog 51 [.sl 4 (enc s_0), .clo g_f_0 c_f_0] 0 (.v (.bool r)) := by
  unfold PureS
  refine Spec.of_vc Try.func51 rfl (by kernel_rfl) (by kernel_rfl) ?_
  rw [f_slices_ContainsFunc_Node] at h
  refine vc_seq_gen (by kernel_rfl) ?_
  intro QQ1 hQ1
  simp only [go_sem, Try.ntmps51, Try.results51]
  refine seqQ_normal hQ1 ?_
  refine vc_seq_gen (by kernel_rfl) ?_
  intro QQ2 hQ2
  obtain ⟨v_0, ev_0, h⟩ := bindO_some h
  simp only [go_sem, Try.ntmps51, Try.results51]
  refine call0 (f_slices_IndexFunc_Node_ok s_0 f_0 g_f_0 c_f_0 F_f_0 E_f_0 H_f_0 v_0 ev_0) (by rfl) (by simp [idFreeL, idFree, F_f_0]) ?_
  simp only [go_sem, Try.ntmps51, Try.results51]
  refine seqQ_normal hQ2 ?_
  refine vc_ret_of ?_
  simp only [go_sem, Try.ntmps51, Try.results51]
  obtain rfl := Option.some.inj h
  refine retW_pure rfl ?_
  simp only [go_sem, Le, AvLeL_free _ F_f_0]
end Go.Proofs.Ytfjjpdjnpmajlaa

namespace Go.Proofs.Ytfjjpdjnpmajlaa
open Go Go.RowKit
set_option maxHeartbeats 2000000
set_option maxRecDepth 100000
set_option linter.unusedSimpArgs false
set_option linter.unusedVariables false
def f_ops_Linear_J1 (t4_0 : Bool) : Option Bool :=
  (if t4_0 = true then some true
  else some false)
def f_ops_Linear (kind_0 : Int) : Option Bool :=
  (if (kind_0 == 1) = true then f_ops_Linear_J1 (kind_0 == 1)
  else (if (kind_0 == 2) = true then f_ops_Linear_J1 (kind_0 == 2)
  else (if (kind_0 == 3) = true then f_ops_Linear_J1 (kind_0 == 3)
  else (if (kind_0 == 4) = true then f_ops_Linear_J1 (kind_0 == 4)
  else (if (kind_0 == 5) = true then f_ops_Linear_J1 (kind_0 == 5)
  else (if (kind_0 == 10) = true then f_ops_Linear_J1 (kind_0 == 10)
  else (if (kind_0 == 11) = true then f_ops_Linear_J1 (kind_0 == 11)
  else (if (kind_0 == 12) = true then f_ops_Linear_J1 (kind_0 == 12)
  else (if (kind_0 == 13) = true then f_ops_Linear_J1 (kind_0 == 13)
  else f_ops_Linear_J1 (kind_0 == 15))))))))))
theorem f_ops_Linear_ok (kind_0 : Int)  (r : Bool) (h : f_ops_Linear kind_0 = some r) : PureS Try.prog 36 [.v (.int .i64 kind_0)] 0 (.v (.bool r)) := by
  unfold PureS
  refine Spec.of_vc Try.func36 rfl (by kernel_rfl) (by kernel_rfl) ?_
  rw [f_ops_Linear] at h
  refine vc_seq_gen (by kernel_rfl) ?_
  intro QQ1 hQ1
  simp only [go_sem, Try.ntmps36, Try.results36]
  refine seqQ_normal hQ1 ?_
  refine vc_join (by kernel_rfl) ?_
  refine seq_go_gen ?_
  intro QQ2 hQ2
  refine vc_seq_gen (by kernel_rfl) ?_
  intro QQ3 hQ3
  simp only [go_sem, Try.ntmps36, Try.results36]
  refine seqQ_normal hQ3 ?_
  refine vc_block_gen ?_
  intro QQ4 hQ4
  refine vc_join (by kernel_rfl) ?_
  refine seq_cut_gen (ι := Bool) (fun (t4_0 : Bool) => (⟨0, [(4, .v (.bool t4_0))], [], 0, 15⟩ : St)) (fun (t4_0 : Bool) => f_ops_Linear_J1 t4_0 = some r) ?_ ?_
  ·
    intro QQ7 hQ7
    refine vc_seq_gen (by kernel_rfl) ?_
    intro QQ8 hQ8
    simp only [go_sem, Try.ntmps36, Try.results36]
    refine seqQ_normal hQ8 ?_
    refine vc_cond_of (b := (kind_0 == 1)) (by (simp only [go_sem]; done)) (fun hb_10 => ?_) (fun hb_10 => ?_)
    ·
      replace h := if_t h hb_10
      simp only [decide_eq_true_eq, decide_eq_false_iff_not, Bool.not_eq_true', Bool.not_eq_false', beq_iff_eq, beq_eq_false_iff_ne, ne_eq, Bool.and_eq_true, Bool.or_eq_true, Int.not_lt, Int.not_le] at hb_10
      refine vc_skip_of ?_
      refine thenQ_normal hQ7 ?_
      refine ⟨(kind_0 == 1), [], ?_, h⟩
      simp only [go_sem, Le]
    ·
      replace h := if_f h hb_10
      simp only [decide_eq_true_eq, decide_eq_false_iff_not, Bool.not_eq_true', Bool.not_eq_false', beq_iff_eq, beq_eq_false_iff_ne, ne_eq, Bool.and_eq_true, Bool.or_eq_true, Int.not_lt, Int.not_le] at hb_10
      refine vc_seq_gen (by kernel_rfl) ?_
      intro QQ9 hQ9
      simp only [go_sem, Try.ntmps36, Try.results36]
      refine seqQ_normal hQ9 ?_
      refine vc_cond_of (b := (kind_0 == 2)) (by (simp only [go_sem]; done)) (fun hb_11 => ?_) (fun hb_11 => ?_)
      ·
        replace h := if_t h hb_11
        simp only [decide_eq_true_eq, decide_eq_false_iff_not, Bool.not_eq_true', Bool.not_eq_false', beq_iff_eq, beq_eq_false_iff_ne, ne_eq, Bool.and_eq_true, Bool.or_eq_true, Int.not_lt, Int.not_le] at hb_11
        refine vc_skip_of ?_
        refine thenQ_normal hQ7 ?_
        refine ⟨(kind_0 == 2), [], ?_, h⟩
        simp only [go_sem, Le]
      ·
        replace h := if_f h hb_11
        simp only [decide_eq_true_eq, decide_eq_false_iff_not, Bool.not_eq_true', Bool.not_eq_false', beq_iff_eq, beq_eq_false_iff_ne, ne_eq, Bool.and_eq_true, Bool.or_eq_true, Int.not_lt, Int.not_le] at hb_11
        refine vc_seq_gen (by kernel_rfl) ?_
        intro QQ10 hQ10
        simp only [go_sem, Try.ntmps36, Try.results36]
        refine seqQ_normal hQ10 ?_
        refine vc_cond_of (b := (kind_0 == 3)) (by (simp only [go_sem]; done)) (fun hb_12 => ?_) (fun hb_12 => ?_)
        ·
          replace h := if_t h hb_12
          simp only [decide_eq_true_eq, decide_eq_false_iff_not, Bool.not_eq_true', Bool.not_eq_false', beq_iff_eq, beq_eq_false_iff_ne, ne_eq, Bool.and_eq_true, Bool.or_eq_true, Int.not_lt, Int.not_le] at hb_12
          refine vc_skip_of ?_
          refine thenQ_normal hQ7 ?_
          refine ⟨(kind_0 == 3), [], ?_, h⟩
          simp only [go_sem, Le]
        ·
          replace h := if_f h hb_12
          simp only [decide_eq_true_eq, decide_eq_false_iff_not, Bool.not_eq_true', Bool.not_eq_false', beq_iff_eq, beq_eq_false_iff_ne, ne_eq, Bool.and_eq_true, Bool.or_eq_true, Int.not_lt, Int.not_le] at hb_12
          refine vc_seq_gen (by kernel_rfl) ?_
          intro QQ11 hQ11
          simp only [go_sem, Try.ntmps36, Try.results36]
          refine seqQ_normal hQ11 ?_
          refine vc_cond_of (b := (kind_0 == 4)) (by (simp only [go_sem]; done)) (fun hb_13 => ?_) (fun hb_13 => ?_)
          ·
            replace h := if_t h hb_13
            simp only [decide_eq_true_eq, decide_eq_false_iff_not, Bool.not_eq_true', Bool.not_eq_false', beq_iff_eq, beq_eq_false_iff_ne, ne_eq, Bool.and_eq_true, Bool.or_eq_true, Int.not_lt, Int.not_le] at hb_13
            refine vc_skip_of ?_
            refine thenQ_normal hQ7 ?_
            refine ⟨(kind_0 == 4), [], ?_, h⟩
            simp only [go_sem, Le]
          ·
            replace h := if_f h hb_13
            simp only [decide_eq_true_eq, decide_eq_false_iff_not, Bool.not_eq_true', Bool.not_eq_false', beq_iff_eq, beq_eq_false_iff_ne, ne_eq, Bool.and_eq_true, Bool.or_eq_true, Int.not_lt, Int.not_le] at hb_13
            refine vc_seq_gen (by kernel_rfl) ?_
            intro QQ12 hQ12
            simp only [go_sem, Try.ntmps36, Try.results36]
            refine seqQ_normal hQ12 ?_
            refine vc_cond_of (b := (kind_0 == 5)) (by (simp only [go_sem]; done)) (fun hb_14 => ?_) (fun hb_14 => ?_)
            ·
              replace h := if_t h hb_14
              simp only [decide_eq_true_eq, decide_eq_false_iff_not, Bool.not_eq_true', Bool.not_eq_false', beq_iff_eq, beq_eq_false_iff_ne, ne_eq, Bool.and_eq_true, Bool.or_eq_true, Int.not_lt, Int.not_le] at hb_14
              refine vc_skip_of ?_
              refine thenQ_normal hQ7 ?_
              refine ⟨(kind_0 == 5), [], ?_, h⟩
              simp only [go_sem, Le]
            ·
              replace h := if_f h hb_14
              simp only [decide_eq_true_eq, decide_eq_false_iff_not, Bool.not_eq_true', Bool.not_eq_false', beq_iff_eq, beq_eq_false_iff_ne, ne_eq, Bool.and_eq_true, Bool.or_eq_true, Int.not_lt, Int.not_le] at hb_14
              refine vc_seq_gen (by kernel_rfl) ?_
              intro QQ13 hQ13
              simp only [go_sem, Try.ntmps36, Try.results36]
              refine seqQ_normal hQ13 ?_
              refine vc_cond_of (b := (kind_0 == 10)) (by (simp only [go_sem]; done)) (fun hb_15 => ?_) (fun hb_15 => ?_)
              ·
                replace h := if_t h hb_15
                simp only [decide_eq_true_eq, decide_eq_false_iff_not, Bool.not_eq_true', Bool.not_eq_false', beq_iff_eq, beq_eq_false_iff_ne, ne_eq, Bool.and_eq_true, Bool.or_eq_true, Int.not_lt, Int.not_le] at hb_15
                refine vc_skip_of ?_
                refine thenQ_normal hQ7 ?_
                refine ⟨(kind_0 == 10), [], ?_, h⟩
                simp only [go_sem, Le]
              ·
                replace h := if_f h hb_15
                simp only [decide_eq_true_eq, decide_eq_false_iff_not, Bool.not_eq_true', Bool.not_eq_false', beq_iff_eq, beq_eq_false_iff_ne, ne_eq, Bool.and_eq_true, Bool.or_eq_true, Int.not_lt, Int.not_le] at hb_15
                refine vc_seq_gen (by kernel_rfl) ?_
                intro QQ14 hQ14
                simp only [go_sem, Try.ntmps36, Try.results36]
                refine seqQ_normal hQ14 ?_
                refine vc_cond_of (b := (kind_0 == 11)) (by (simp only [go_sem]; done)) (fun hb_16 => ?_) (fun hb_16 => ?_)
                ·
                  replace h := if_t h hb_16
                  simp only [decide_eq_true_eq, decide_eq_false_iff_not, Bool.not_eq_true', Bool.not_eq_false', beq_iff_eq, beq_eq_false_iff_ne, ne_eq, Bool.and_eq_true, Bool.or_eq_true, Int.not_lt, Int.not_le] at hb_16
                  refine vc_skip_of ?_
                  refine thenQ_normal hQ7 ?_
                  refine ⟨(kind_0 == 11), [], ?_, h⟩
                  simp only [go_sem, Le]
                ·
                  replace h := if_f h hb_16
                  simp only [decide_eq_true_eq, decide_eq_false_iff_not, Bool.not_eq_true', Bool.not_eq_false', beq_iff_eq, beq_eq_false_iff_ne, ne_eq, Bool.and_eq_true, Bool.or_eq_true, Int.not_lt, Int.not_le] at hb_16
                  refine vc_seq_gen (by kernel_rfl) ?_
                  intro QQ15 hQ15
                  simp only [go_sem, Try.ntmps36, Try.results36]
                  refine seqQ_normal hQ15 ?_
                  refine vc_cond_of (b := (kind_0 == 12)) (by (simp only [go_sem]; done)) (fun hb_17 => ?_) (fun hb_17 => ?_)
                  ·
                    replace h := if_t h hb_17
                    simp only [decide_eq_true_eq, decide_eq_false_iff_not, Bool.not_eq_true', Bool.not_eq_false', beq_iff_eq, beq_eq_false_iff_ne, ne_eq, Bool.and_eq_true, Bool.or_eq_true, Int.not_lt, Int.not_le] at hb_17
                    refine vc_skip_of ?_
                    refine thenQ_normal hQ7 ?_
                    refine ⟨(kind_0 == 12), [], ?_, h⟩
                    simp only [go_sem, Le]
                  ·
                    replace h := if_f h hb_17
                    simp only [decide_eq_true_eq, decide_eq_false_iff_not, Bool.not_eq_true', Bool.not_eq_false', beq_iff_eq, beq_eq_false_iff_ne, ne_eq, Bool.and_eq_true, Bool.or_eq_true, Int.not_lt, Int.not_le] at hb_17
                    refine vc_seq_gen (by kernel_rfl) ?_
                    intro QQ16 hQ16
                    simp only [go_sem, Try.ntmps36, Try.results36]
                    refine seqQ_normal hQ16 ?_
                    refine vc_cond_of (b := (kind_0 == 13)) (by (simp only [go_sem]; done)) (fun hb_18 => ?_) (fun hb_18 => ?_)
                    ·
                      replace h := if_t h hb_18
                      simp only [decide_eq_true_eq, decide_eq_false_iff_not, Bool.not_eq_true', Bool.not_eq_false', beq_iff_eq, beq_eq_false_iff_ne, ne_eq, Bool.and_eq_true, Bool.or_eq_true, Int.not_lt, Int.not_le] at hb_18
                      refine vc_skip_of ?_
                      refine thenQ_normal hQ7 ?_
                      refine ⟨(kind_0 == 13), [], ?_, h⟩
                      simp only [go_sem, Le]
                    ·
                      replace h := if_f h hb_18
                      simp only [decide_eq_true_eq, decide_eq_false_iff_not, Bool.not_eq_true', Bool.not_eq_false', beq_iff_eq, beq_eq_false_iff_ne, ne_eq, Bool.and_eq_true, Bool.or_eq_true, Int.not_lt, Int.not_le] at hb_18
                      simp only [go_sem, Try.ntmps36, Try.results36]
                      refine thenQ_normal hQ7 ?_
                      refine ⟨(kind_0 == 15), [], ?_, h⟩
                      simp only [go_sem, Le]
  · rintro t4_0 h
    try dsimp only at h
    rw [f_ops_Linear_J1] at h
    refine vc_cond_of (b := t4_0) (by (simp only [go_sem]; done)) (fun hb_9 => ?_) (fun hb_9 => ?_)
    ·
      replace h := if_t h hb_9
      refine vc_seq_gen (by kernel_rfl) ?_
      intro QQ5 hQ5
      simp only [go_sem, Try.ntmps36, Try.results36]
      refine seqQ_normal hQ5 ?_
      refine vc_ret_of ?_
      refine blockQ_ret hQ4 ?_
      refine seqQ_ret hQ2 ?_
      simp only [go_sem, Try.ntmps36, Try.results36]
      obtain rfl := Option.some.inj h
      refine retW_pure rfl ?_
      simp only [go_sem, Le]
    ·
      replace h := if_f h hb_9
      refine vc_skip_of ?_
      refine blockQ_normal hQ4 ?_
      refine seqQ_normal hQ2 ?_
      refine vc_seq_gen (by kernel_rfl) ?_
      intro QQ6 hQ6
      simp only [go_sem, Try.ntmps36, Try.results36]
      refine seqQ_normal hQ6 ?_
      refine vc_ret_of ?_
      simp only [go_sem, Try.ntmps36, Try.results36]
      obtain rfl := Option.some.inj h
      refine retW_pure rfl ?_
      simp only [go_sem, Le]
end Go.Proofs.Ytfjjpdjnpmajlaa

namespace Go.Proofs.Ytfjjpdjnpmajlaa
open Go Go.RowKit
set_option maxHeartbeats 2000000
set_option maxRecDepth 100000
set_option linter.unusedSimpArgs false
set_option linter.unusedVariables false
def f_window_Linear_1 (xv_0 : GNode) : Option Bool :=
  bindO (f_ops_Linear xv_0.Kind) (fun (v_0 : Bool) =>
  some (!v_0))
theorem f_window_Linear_1_ok (xv_0 : GNode)  (r : Bool) (h : f_window_Linear_1 xv_0 = some r) : PureS Try.prog 52 [.agg [.v (.int .i64 xv_0.Kind), .v (.int .i64 xv_0.Scope), .v (.int .i64 xv_0.Arg), .sl 2 (enc xv_0.Prog)]] 0 (.v (.bool r)) := by
  unfold PureS
  refine Spec.of_vc Try.func52 rfl (by kernel_rfl) (by kernel_rfl) ?_
  rw [f_window_Linear_1] at h
  refine vc_seq_gen (by kernel_rfl) ?_
  intro QQ1 hQ1
  simp only [go_sem, Try.ntmps52, Try.results52]
  refine seqQ_normal hQ1 ?_
  refine vc_seq_gen (by kernel_rfl) ?_
  intro QQ2 hQ2
  obtain ⟨v_0, ev_0, h⟩ := bindO_some h
  simp only [go_sem, Try.ntmps52, Try.results52]
  refine call0 (f_ops_Linear_ok xv_0.Kind v_0 ev_0) (by rfl) (by rfl) ?_
  simp only [go_sem, Try.ntmps52, Try.results52]
  refine seqQ_normal hQ2 ?_
  refine vc_ret_of ?_
  simp only [go_sem, Try.ntmps52, Try.results52]
  obtain rfl := Option.some.inj h
  refine retW_pure rfl ?_
  simp only [go_sem, Le]
end Go.Proofs.Ytfjjpdjnpmajlaa

namespace Go.Proofs.Ytfjjpdjnpmajlaa
open Go Go.RowKit
set_option maxHeartbeats 2000000
set_option maxRecDepth 100000
set_option linter.unusedSimpArgs false
set_option linter.unusedVariables false
def f_window_Linear (g_0 : GGraph) : Option Bool :=
  bindO (f_slices_ContainsFunc_Node g_0.Nodes (fun x0_ => f_window_Linear_1 x0_)) (fun (v_0 : Bool) =>
  some (!v_0))
theorem f_window_Linear_ok (g_0 : GGraph)  (r : Bool) (h : f_window_Linear g_0 = some r) : PureS Try.prog 21 [.agg [.sl 1 (enc g_0.Parent), .sl 1 (enc g_0.Bound), .sl 4 (enc g_0.Nodes), .sl 4 (enc g_0.Edges)]] 0 (.v (.bool r)) := by
  unfold PureS
  refine Spec.of_vc Try.func21 rfl (by kernel_rfl) (by kernel_rfl) ?_
  rw [f_window_Linear] at h
  refine vc_seq_gen (by kernel_rfl) ?_
  intro QQ1 hQ1
  simp only [go_sem, Try.ntmps21, Try.results21]
  refine seqQ_normal hQ1 ?_
  refine vc_seq_gen (by kernel_rfl) ?_
  intro QQ2 hQ2
  obtain ⟨v_0, ev_0, h⟩ := bindO_some h
  simp only [go_sem, Try.ntmps21, Try.results21]
  refine call0 (f_slices_ContainsFunc_Node_ok g_0.Nodes (fun x0_ => f_window_Linear_1 x0_) 52 [] (by rfl) (by kernel_rfl) (fun y0 r_ e_ => f_window_Linear_1_ok y0 r_ e_) v_0 ev_0) (by rfl) (by rfl) ?_
  simp only [go_sem, Try.ntmps21, Try.results21]
  refine seqQ_normal hQ2 ?_
  refine vc_ret_of ?_
  simp only [go_sem, Try.ntmps21, Try.results21]
  obtain rfl := Option.some.inj h
  refine retW_pure rfl ?_
  simp only [go_sem, Le]
end Go.Proofs.Ytfjjpdjnpmajlaa

namespace Go.Proofs.Ytfjjpdjnpmajlaa
open Go Go.RowKit
set_option maxHeartbeats 2000000
set_option maxRecDepth 100000
set_option linter.unusedSimpArgs false
set_option linter.unusedVariables false
def f_backwashref11_Linear (kind_0 : Int) : Option Bool :=
  some ((((decide (1 ≤ kind_0)) && (decide (kind_0 ≤ 5))) || ((decide (10 ≤ kind_0)) && (decide (kind_0 ≤ 13)))) || (kind_0 == 15))
theorem f_backwashref11_Linear_ok (kind_0 : Int)  (r : Bool) (h : f_backwashref11_Linear kind_0 = some r) : PureS Try.prog 53 [.v (.int .i64 kind_0)] 0 (.v (.bool r)) := by
  unfold PureS
  refine Spec.of_vc Try.func53 rfl (by kernel_rfl) (by kernel_rfl) ?_
  rw [f_backwashref11_Linear] at h
  refine vc_seq_gen (by kernel_rfl) ?_
  intro QQ1 hQ1
  simp only [go_sem, Try.ntmps53, Try.results53]
  refine seqQ_normal hQ1 ?_
  refine vc_seq_gen (by kernel_rfl) ?_
  intro QQ2 hQ2
  simp only [go_sem, Try.ntmps53, Try.results53]
  refine And.intro (by (simp +contextual only [and_self, implies_true, true_and, and_true, imp_self]; done)) ?_
  refine seqQ_normal hQ2 ?_
  refine vc_ret_of ?_
  simp only [go_sem, Try.ntmps53, Try.results53]
  obtain rfl := Option.some.inj h
  refine retW_pure rfl ?_
  simp only [go_sem, Le]
end Go.Proofs.Ytfjjpdjnpmajlaa

namespace Go.Proofs.Ytfjjpdjnpmajlaa
open Go Go.RowKit
set_option maxHeartbeats 2000000
set_option maxRecDepth 100000
set_option linter.unusedSimpArgs false
set_option linter.unusedVariables false
def f_backwashref33_Linear_B1 (g_0 : GGraph) (rec_1 : Int → Option Bool) : Int → Option Bool :=
  fun i_1 =>
  (if (decide (i_1 < (List.length g_0.Nodes : Int))) = true then bindO (idx g_0.Nodes i_1) (fun (xv_2 : GNode) =>
  bindO (f_backwashref11_Linear xv_2.Kind) (fun (v_2 : Bool) =>
  (if (!v_2) = true then some false
  else rec_1 (IntKind.i64.wrap (i_1 + 1)))))
  else some true)
def f_backwashref33_Linear (g_0 : GGraph) : Option Bool :=
  loopK (f_backwashref33_Linear_B1 g_0) rounds 0
theorem f_backwashref33_Linear_ok (g_0 : GGraph)  (r : Bool) (h : f_backwashref33_Linear g_0 = some r) : PureS Try.prog 22 [.agg [.sl 1 (enc g_0.Parent), .sl 1 (enc g_0.Bound), .sl 4 (enc g_0.Nodes), .sl 4 (enc g_0.Edges)]] 0 (.v (.bool r)) := by
  unfold PureS
  refine Spec.of_vc Try.func22 rfl (by kernel_rfl) (by kernel_rfl) ?_
  rw [f_backwashref33_Linear] at h
  refine vc_seq_gen (by kernel_rfl) ?_
  intro QQ1 hQ1
  simp only [go_sem, Try.ntmps22, Try.results22]
  refine seqQ_normal hQ1 ?_
  refine vc_join (by kernel_rfl) ?_
  refine seq_go_gen ?_
  intro QQ2 hQ2
  refine vc_seq_gen (by kernel_rfl) ?_
  intro QQ3 hQ3
  simp only [go_sem, Try.ntmps22, Try.results22]
  refine seqQ_normal hQ3 ?_
  refine vc_block_gen ?_
  intro QQ4 hQ4
  refine vc_loop_of ?_
  refine loop_gen (ι := Nat × Int) (fun ((_, i_1) : Nat × Int) => (⟨0, [(1, .ptr 0 0), (3, .v (.int .i64 i_1))], [(0, .box [.sl 1 (enc g_0.Parent), .sl 1 (enc g_0.Bound), .sl 4 (enc g_0.Nodes), .sl 4 (enc g_0.Edges)])], 1, 19⟩ : St)) (fun ((n_, i_1) : Nat × Int) => loopK (f_backwashref33_Linear_B1 g_0) n_ i_1 = some r) (fun p => p.1) (rounds, 0) [some 0] ?_ h ?_
  · simp only [go_sem, Le]
  · rintro ⟨n_1, i_1⟩ h QQ5 hQ5
    dsimp only at h
    replace h := loopK_some h
    obtain ⟨m_1, rfl, h⟩ := h
    rw [f_backwashref33_Linear_B1] at h
    refine vc_seq_gen (by kernel_rfl) ?_
    intro QQ6 hQ6
    refine vc_seq_gen (by kernel_rfl) ?_
    intro QQ7 hQ7
    simp only [go_sem, Try.ntmps22, Try.results22]
    refine seqQ_normal hQ7 ?_
    refine vc_cond_of (b := (decide (i_1 < (List.length g_0.Nodes : Int)))) (by (simp only [go_sem]; done)) (fun hb_4 => ?_) (fun hb_4 => ?_)
    ·
      replace h := if_t h hb_4
      simp only [decide_eq_true_eq, decide_eq_false_iff_not, Bool.not_eq_true', Bool.not_eq_false', beq_iff_eq, beq_eq_false_iff_ne, ne_eq, Bool.and_eq_true, Bool.or_eq_true, Int.not_lt, Int.not_le] at hb_4
      refine vc_skip_of ?_
      refine seqQ_normal hQ6 ?_
      refine vc_seq_gen (by kernel_rfl) ?_
      intro QQ8 hQ8
      refine vc_block_gen ?_
      intro QQ9 hQ9
      refine vc_seq_gen (by kernel_rfl) ?_
      intro QQ10 hQ10
      obtain ⟨xv_2, exv_2, h⟩ := bindO_some h
      obtain ⟨fxv_2a, fxv_2b, fxv_2c⟩ := idx_spec exv_2
      obtain ⟨v_2, ev_2, h⟩ := bindO_some h
      simp only [go_sem, Try.ntmps22, Try.results22, fxv_2a, fxv_2b, fxv_2c]
      refine And.intro (by omega) ?_
      refine call0 (f_backwashref11_Linear_ok xv_2.Kind v_2 ev_2) (by rfl) (by rfl) ?_
      simp only [go_sem, Try.ntmps22, Try.results22]
      refine seqQ_normal hQ10 ?_
      refine vc_cond_of (b := (!v_2)) (by (simp only [go_sem]; done)) (fun hb_5 => ?_) (fun hb_5 => ?_)
      ·
        replace h := if_t h hb_5
        simp only [decide_eq_true_eq, decide_eq_false_iff_not, Bool.not_eq_true', Bool.not_eq_false', beq_iff_eq, beq_eq_false_iff_ne, ne_eq, Bool.and_eq_true, Bool.or_eq_true, Int.not_lt, Int.not_le] at hb_5
        refine vc_seq_gen (by kernel_rfl) ?_
        intro QQ11 hQ11
        simp only [go_sem, Try.ntmps22, Try.results22]
        refine seqQ_normal hQ11 ?_
        refine vc_ret_of ?_
        refine blockQ_ret hQ9 ?_
        refine seqQ_ret hQ8 ?_
        refine thenQ_ret hQ5 ?_
        refine blockQ_ret hQ4 ?_
        refine seqQ_ret hQ2 ?_
        simp only [go_sem, Try.ntmps22, Try.results22]
        obtain rfl := Option.some.inj h
        refine retW_pure rfl ?_
        simp only [go_sem, Le]
      ·
        replace h := if_f h hb_5
        simp only [decide_eq_true_eq, decide_eq_false_iff_not, Bool.not_eq_true', Bool.not_eq_false', beq_iff_eq, beq_eq_false_iff_ne, ne_eq, Bool.and_eq_true, Bool.or_eq_true, Int.not_lt, Int.not_le] at hb_5
        refine vc_skip_of ?_
        refine blockQ_normal hQ9 ?_
        refine seqQ_normal hQ8 ?_
        simp only [go_sem, Try.ntmps22, Try.results22]
        refine thenQ_normal hQ5 ?_
        refine ⟨(m_1, IntKind.i64.wrap (i_1 + 1)), [some 0], ?_, h, Nat.lt_succ_self _⟩
        simp only [go_sem, Le]
    ·
      replace h := if_f h hb_4
      simp only [decide_eq_true_eq, decide_eq_false_iff_not, Bool.not_eq_true', Bool.not_eq_false', beq_iff_eq, beq_eq_false_iff_ne, ne_eq, Bool.and_eq_true, Bool.or_eq_true, Int.not_lt, Int.not_le] at hb_4
      refine vc_exit_of ?_
      refine seqQ_exit hQ6 ?_
      refine thenQ_exit hQ5 ?_
      refine blockQ_exit hQ4 ?_
      refine seqQ_normal hQ2 ?_
      refine vc_seq_gen (by kernel_rfl) ?_
      intro QQ12 hQ12
      simp only [go_sem, Try.ntmps22, Try.results22]
      refine seqQ_normal hQ12 ?_
      refine vc_ret_of ?_
      simp only [go_sem, Try.ntmps22, Try.results22]
      obtain rfl := Option.some.inj h
      refine retW_pure rfl ?_
      simp only [go_sem, Le]
end Go.Proofs.Ytfjjpdjnpmajlaa

namespace Go.Proofs.Ytfjjpdjnpmajlaa
open Go Go.RowKit
set_option maxHeartbeats 2000000
set_option maxRecDepth 100000
set_option linter.unusedSimpArgs false
set_option linter.unusedVariables false
noncomputable def f_backwashlaw33_WindowRight (l_0 : List GFeed) (size_0 : Int) (step_0 : Int) (outs_0 : List GOut) (g_0 : GGraph) : Option Bool :=
  bindO (f_backwashlaw33_awake) (fun (v_0 : Bool) =>
  (if (!v_0) = true then some false
  else guardO (0 ≤ 0 ∧ 0 ≤ (min (List.length l_0 : Int) 50) ∧ (min (List.length l_0 : Int) 50) ≤ (List.length l_0 : Int)) (
  guardO (0 ≤ 0 ∧ 0 ≤ (min (List.length outs_0 : Int) 100) ∧ (min (List.length outs_0 : Int) 100) ≤ (List.length outs_0 : Int)) (
  bindO (f_backwashref08_Short g_0) (fun (v_1 : Bool) =>
  (if (!v_1) = true then some true
  else bindO (f_window_Slide (List.take (Int.toNat (min (List.length l_0 : Int) 50)) l_0) size_0 step_0) (fun (v_2 : (List GFeed) × Int) =>
  bindO (f_backwashref33_Slide (List.take (Int.toNat (min (List.length l_0 : Int) 50)) l_0) size_0 step_0) (fun (v_3 : (List GFeed) × Int) =>
  (if (v_2.2 == v_3.2) = true then bindO (f_backwashref33_SameFeeds v_2.1 v_3.1) (fun (v_4 : Bool) =>
  (if (!v_4) = true then some false
  else bindO (f_window_Tumble (List.take (Int.toNat (min (List.length l_0 : Int) 50)) l_0) size_0) (fun (v_5 : (List GFeed) × Int) =>
  bindO (f_backwashref33_Slide (List.take (Int.toNat (min (List.length l_0 : Int) 50)) l_0) size_0 size_0) (fun (v_6 : (List GFeed) × Int) =>
  (if (v_5.2 == v_6.2) = true then bindO (f_backwashref33_SameFeeds v_5.1 v_6.1) (fun (v_7 : Bool) =>
  (if (!v_7) = true then some false
  else bindO (f_window_Gather (List.take (Int.toNat (min (List.length outs_0 : Int) 100)) outs_0) size_0) (fun (v_8 : (List GOut) × Int) =>
  bindO (f_backwashref33_Gather (List.take (Int.toNat (min (List.length outs_0 : Int) 100)) outs_0) size_0) (fun (v_9 : (List GOut) × Int) =>
  (if (v_8.2 == v_9.2) = true then bindO (f_backwashref12_Same v_8.1 v_9.1) (fun (v_10 : Bool) =>
  (if v_10 = true then bindO (f_window_Linear g_0) (fun (v_11 : Bool) =>
  bindO (f_backwashref33_Linear g_0) (fun (v_12 : Bool) =>
  some (v_11 == v_12)))
  else some false))
  else some false)))))
  else some false)))))
  else some false)))))))))
theorem f_backwashlaw33_WindowRight_ok (l_0 : List GFeed) (size_0 : Int) (step_0 : Int) (outs_0 : List GOut) (g_0 : GGraph)  (r : Bool) (h : f_backwashlaw33_WindowRight l_0 size_0 step_0 outs_0 g_0 = some r) : PureS Try.prog 3 [.sl 4 (enc l_0), .v (.int .i64 size_0), .v (.int .i64 step_0), .sl 4 (enc outs_0), .agg [.sl 1 (enc g_0.Parent), .sl 1 (enc g_0.Bound), .sl 4 (enc g_0.Nodes), .sl 4 (enc g_0.Edges)]] 0 (.v (.bool r)) := by
  unfold PureS
  refine Spec.of_vc Try.func3 rfl (by kernel_rfl) (by kernel_rfl) ?_
  rw [f_backwashlaw33_WindowRight] at h
  refine vc_seq_gen (by kernel_rfl) ?_
  intro QQ1 hQ1
  simp only [go_sem, Try.ntmps3, Try.results3]
  refine seqQ_normal hQ1 ?_
  refine vc_seq_gen (by kernel_rfl) ?_
  intro QQ2 hQ2
  refine vc_seq_gen (by kernel_rfl) ?_
  intro QQ3 hQ3
  obtain ⟨v_0, ev_0, h⟩ := bindO_some h
  simp only [go_sem, Try.ntmps3, Try.results3]
  refine call0 (f_backwashlaw33_awake_ok v_0 ev_0) (by rfl) (by rfl) ?_
  simp only [go_sem, Try.ntmps3, Try.results3]
  refine seqQ_normal hQ3 ?_
  refine vc_cond_of (b := (!v_0)) (by (simp only [go_sem]; done)) (fun hb_0 => ?_) (fun hb_0 => ?_)
  ·
    replace h := if_t h hb_0
    simp only [decide_eq_true_eq, decide_eq_false_iff_not, Bool.not_eq_true', Bool.not_eq_false', beq_iff_eq, beq_eq_false_iff_ne, ne_eq, Bool.and_eq_true, Bool.or_eq_true, Int.not_lt, Int.not_le] at hb_0
    refine vc_seq_gen (by kernel_rfl) ?_
    intro QQ4 hQ4
    simp only [go_sem, Try.ntmps3, Try.results3]
    refine seqQ_normal hQ4 ?_
    refine vc_ret_of ?_
    refine seqQ_ret hQ2 ?_
    simp only [go_sem, Try.ntmps3, Try.results3]
    obtain rfl := Option.some.inj h
    refine retW_pure rfl ?_
    simp only [go_sem, Le]
  ·
    replace h := if_f h hb_0
    simp only [decide_eq_true_eq, decide_eq_false_iff_not, Bool.not_eq_true', Bool.not_eq_false', beq_iff_eq, beq_eq_false_iff_ne, ne_eq, Bool.and_eq_true, Bool.or_eq_true, Int.not_lt, Int.not_le] at hb_0
    refine vc_skip_of ?_
    refine seqQ_normal hQ2 ?_
    refine vc_seq_gen (by kernel_rfl) ?_
    intro QQ5 hQ5
    refine vc_draw ?_
    refine drawM_tail 11 [0, 0, 2, 6, 15, 0, 0, 64, 192, 480, 31, 2047] mixed (by kernel_rfl) (of_decide_eq_true (by kernel_rfl)) (by kernel_rfl) ?_
    obtain ⟨g_1, h⟩ := guardO_some h
    obtain ⟨g_2, h⟩ := guardO_some h
    simp only [go_sem, Try.ntmps3, Try.results3, g_1, g_2]
    refine seqQ_normal hQ5 ?_
    refine vc_seq_gen (by kernel_rfl) ?_
    intro QQ6 hQ6
    refine vc_seq_gen (by kernel_rfl) ?_
    intro QQ7 hQ7
    obtain ⟨v_1, ev_1, h⟩ := bindO_some h
    simp only [go_sem, Try.ntmps3, Try.results3]
    refine call0 (f_backwashref08_Short_ok g_0 v_1 ev_1) (by rfl) (by rfl) ?_
    simp only [go_sem, Try.ntmps3, Try.results3]
    refine seqQ_normal hQ7 ?_
    refine vc_cond_of (b := (!v_1)) (by (simp only [go_sem]; done)) (fun hb_1 => ?_) (fun hb_1 => ?_)
    ·
      replace h := if_t h hb_1
      simp only [decide_eq_true_eq, decide_eq_false_iff_not, Bool.not_eq_true', Bool.not_eq_false', beq_iff_eq, beq_eq_false_iff_ne, ne_eq, Bool.and_eq_true, Bool.or_eq_true, Int.not_lt, Int.not_le] at hb_1
      refine vc_seq_gen (by kernel_rfl) ?_
      intro QQ8 hQ8
      simp only [go_sem, Try.ntmps3, Try.results3]
      refine seqQ_normal hQ8 ?_
      refine vc_ret_of ?_
      refine seqQ_ret hQ6 ?_
      simp only [go_sem, Try.ntmps3, Try.results3]
      obtain rfl := Option.some.inj h
      refine retW_pure rfl ?_
      simp only [go_sem, Le]
    ·
      replace h := if_f h hb_1
      simp only [decide_eq_true_eq, decide_eq_false_iff_not, Bool.not_eq_true', Bool.not_eq_false', beq_iff_eq, beq_eq_false_iff_ne, ne_eq, Bool.and_eq_true, Bool.or_eq_true, Int.not_lt, Int.not_le] at hb_1
      refine vc_skip_of ?_
      refine seqQ_normal hQ6 ?_
      refine vc_seq_gen (by kernel_rfl) ?_
      intro QQ9 hQ9
      obtain ⟨v_2, ev_2, h⟩ := bindO_some h
      simp only [go_sem, Try.ntmps3, Try.results3]
      refine callD [] (f_window_Slide_det (List.take (Int.toNat (min (List.length l_0 : Int) 50)) l_0) size_0 step_0 v_2 ev_2) (by simp) rfl trivial rfl rfl rfl rfl ?_
      simp only [go_sem, Try.ntmps3, Try.results3]
      refine seqQ_normal hQ9 ?_
      refine vc_seq_gen (by kernel_rfl) ?_
      intro QQ10 hQ10
      obtain ⟨v_3, ev_3, h⟩ := bindO_some h
      simp only [go_sem, Try.ntmps3, Try.results3]
      refine callD [] (f_backwashref33_Slide_det (List.take (Int.toNat (min (List.length l_0 : Int) 50)) l_0) size_0 step_0 v_3 ev_3) (by simp) rfl trivial rfl rfl rfl rfl ?_
      simp only [go_sem, Try.ntmps3, Try.results3]
      refine seqQ_normal hQ10 ?_
      refine vc_seq_gen (by kernel_rfl) ?_
      intro QQ11 hQ11
      refine vc_seq_gen (by kernel_rfl) ?_
      intro QQ12 hQ12
      simp only [go_sem, Try.ntmps3, Try.results3]
      rcases hb_2 : (v_2.2 == v_3.2) with _ | _
      ·
        replace h := if_f h hb_2
        simp only [go_sem, Try.ntmps3, Try.results3, hb_2]
        refine seqQ_normal hQ12 ?_
        refine vc_cond_t (by (simp only [go_sem]; done)) ?_
        refine vc_seq_gen (by kernel_rfl) ?_
        intro QQ13 hQ13
        simp only [go_sem, Try.ntmps3, Try.results3]
        refine seqQ_normal hQ13 ?_
        refine vc_ret_of ?_
        refine seqQ_ret hQ11 ?_
        simp only [go_sem, Try.ntmps3, Try.results3]
        obtain rfl := Option.some.inj h
        refine retW_pure rfl ?_
        simp only [go_sem, Le]
      ·
        replace h := if_t h hb_2
        obtain ⟨v_4, ev_4, h⟩ := bindO_some h
        simp only [go_sem, Try.ntmps3, Try.results3, hb_2]
        refine callB (s' := (⟨0, [(0, .sl 4 (enc (List.take (Int.toNat (min (List.length l_0 : Int) 50)) l_0))), (1, .v (.int .i64 size_0)), (2, .v (.int .i64 step_0)), (3, .sl 4 (enc (List.take (Int.toNat (min (List.length outs_0 : Int) 100)) outs_0))), (4, .agg [.sl 1 (enc g_0.Parent), .sl 1 (enc g_0.Bound), .sl 4 (enc g_0.Nodes), .sl 4 (enc g_0.Edges)]), (9, .ptr 0 0), (10, .v (.bool false)), (11, .sl 4 (enc v_2.1)), (12, .v (.int .i64 v_2.2)), (13, .sl 4 (enc v_3.1)), (14, .v (.int .i64 v_3.2)), (17, .v (.bool v_0)), (18, .v (.bool (!v_0))), (19, .sl 4 (enc l_0)), (20, .sl 4 (enc l_0)), (21, .v (.int .i64 (List.length l_0 : Int))), (22, .v (.int .i64 (min (List.length l_0 : Int) 50))), (23, .sl 4 (enc (List.take (Int.toNat (min (List.length l_0 : Int) 50)) l_0))), (24, .sl 4 (enc outs_0)), (25, .sl 4 (enc outs_0)), (26, .v (.int .i64 (List.length outs_0 : Int))), (27, .v (.int .i64 (min (List.length outs_0 : Int) 100))), (28, .sl 4 (enc (List.take (Int.toNat (min (List.length outs_0 : Int) 100)) outs_0))), (29, .agg [.sl 1 (enc g_0.Parent), .sl 1 (enc g_0.Bound), .sl 4 (enc g_0.Nodes), .sl 4 (enc g_0.Edges)]), (30, .v (.bool v_1)), (31, .v (.bool (!v_1))), (32, .tup [.sl 4 (enc v_2.1), .v (.int .i64 v_2.2)]), (33, .sl 4 (enc (List.take (Int.toNat (min (List.length l_0 : Int) 50)) l_0))), (34, .v (.int .i64 size_0)), (35, .v (.int .i64 step_0)), (36, .tup [.sl 4 (enc v_2.1), .v (.int .i64 v_2.2)]), (37, .sl 4 (enc v_2.1)), (38, .v (.int .i64 v_2.2)), (39, .tup [.sl 4 (enc v_3.1), .v (.int .i64 v_3.2)]), (40, .sl 4 (enc (List.take (Int.toNat (min (List.length l_0 : Int) 50)) l_0))), (41, .v (.int .i64 size_0)), (42, .v (.int .i64 step_0)), (43, .tup [.sl 4 (enc v_3.1), .v (.int .i64 v_3.2)]), (44, .sl 4 (enc v_3.1)), (45, .v (.int .i64 v_3.2)), (46, .v (.int .i64 v_2.2)), (47, .v (.int .i64 v_3.2)), (48, .v (.bool false)), (49, .v (.bool false)), (50, .sl 4 (enc v_2.1)), (51, .sl 4 (enc v_3.1))], [(0, .box [.sl 1 (enc g_0.Parent), .sl 1 (enc g_0.Bound), .sl 4 (enc g_0.Nodes), .sl 4 (enc g_0.Edges)])], 1, 104⟩ : St)) (l := [some 0]) (args' := [.sl 4 (enc v_2.1), .sl 4 (enc v_3.1)]) ?_ ?_ (f_backwashref33_SameFeeds_ok v_2.1 v_3.1 v_4 ev_4) (by rfl) (by rfl) ?_
        · simp only [go_sem, Le] <;> (repeat' apply And.intro) <;> (simp [go_sem]; done)
        · simp only [go_sem, Le] <;> (repeat' apply And.intro) <;> (simp [go_sem]; done)
        simp only [go_sem, Try.ntmps3, Try.results3]
        refine seqQ_normal hQ12 ?_
        refine vc_cond_of (b := (!v_4)) (by (simp only [go_sem]; done)) (fun hb_3 => ?_) (fun hb_3 => ?_)
        ·
          replace h := if_t h hb_3
          simp only [decide_eq_true_eq, decide_eq_false_iff_not, Bool.not_eq_true', Bool.not_eq_false', beq_iff_eq, beq_eq_false_iff_ne, ne_eq, Bool.and_eq_true, Bool.or_eq_true, Int.not_lt, Int.not_le] at hb_3
          refine vc_seq_gen (by kernel_rfl) ?_
          intro QQ14 hQ14
          simp only [go_sem, Try.ntmps3, Try.results3]
          refine seqQ_normal hQ14 ?_
          refine vc_ret_of ?_
          refine seqQ_ret hQ11 ?_
          simp only [go_sem, Try.ntmps3, Try.results3]
          obtain rfl := Option.some.inj h
          refine retW_pure rfl ?_
          simp only [go_sem, Le]
        ·
          replace h := if_f h hb_3
          simp only [decide_eq_true_eq, decide_eq_false_iff_not, Bool.not_eq_true', Bool.not_eq_false', beq_iff_eq, beq_eq_false_iff_ne, ne_eq, Bool.and_eq_true, Bool.or_eq_true, Int.not_lt, Int.not_le] at hb_3
          refine vc_skip_of ?_
          refine seqQ_normal hQ11 ?_
          refine vc_seq_gen (by kernel_rfl) ?_
          intro QQ15 hQ15
          obtain ⟨v_5, ev_5, h⟩ := bindO_some h
          simp only [go_sem, Try.ntmps3, Try.results3]
          refine callD [] (f_window_Tumble_det (List.take (Int.toNat (min (List.length l_0 : Int) 50)) l_0) size_0 v_5 ev_5) (by simp) rfl trivial rfl rfl rfl rfl ?_
          simp only [go_sem, Try.ntmps3, Try.results3]
          refine seqQ_normal hQ15 ?_
          refine vc_seq_gen (by kernel_rfl) ?_
          intro QQ16 hQ16
          obtain ⟨v_6, ev_6, h⟩ := bindO_some h
          simp only [go_sem, Try.ntmps3, Try.results3]
          refine callD [] (f_backwashref33_Slide_det (List.take (Int.toNat (min (List.length l_0 : Int) 50)) l_0) size_0 size_0 v_6 ev_6) (by simp) rfl trivial rfl rfl rfl rfl ?_
          simp only [go_sem, Try.ntmps3, Try.results3]
          refine seqQ_normal hQ16 ?_
          refine vc_seq_gen (by kernel_rfl) ?_
          intro QQ17 hQ17
          refine vc_seq_gen (by kernel_rfl) ?_
          intro QQ18 hQ18
          simp only [go_sem, Try.ntmps3, Try.results3]
          rcases hb_4 : (v_5.2 == v_6.2) with _ | _
          ·
            replace h := if_f h hb_4
            simp only [go_sem, Try.ntmps3, Try.results3, hb_4]
            refine seqQ_normal hQ18 ?_
            refine vc_cond_t (by (simp only [go_sem]; done)) ?_
            refine vc_seq_gen (by kernel_rfl) ?_
            intro QQ19 hQ19
            simp only [go_sem, Try.ntmps3, Try.results3]
            refine seqQ_normal hQ19 ?_
            refine vc_ret_of ?_
            refine seqQ_ret hQ17 ?_
            simp only [go_sem, Try.ntmps3, Try.results3]
            obtain rfl := Option.some.inj h
            refine retW_pure rfl ?_
            simp only [go_sem, Le]
          ·
            replace h := if_t h hb_4
            obtain ⟨v_7, ev_7, h⟩ := bindO_some h
            simp only [go_sem, Try.ntmps3, Try.results3, hb_4]
            refine callB (s' := (⟨0, [(0, .sl 4 (enc (List.take (Int.toNat (min (List.length l_0 : Int) 50)) l_0))), (1, .v (.int .i64 size_0)), (2, .v (.int .i64 step_0)), (3, .sl 4 (enc (List.take (Int.toNat (min (List.length outs_0 : Int) 100)) outs_0))), (4, .agg [.sl 1 (enc g_0.Parent), .sl 1 (enc g_0.Bound), .sl 4 (enc g_0.Nodes), .sl 4 (enc g_0.Edges)]), (9, .ptr 0 0), (10, .v (.bool false)), (11, .sl 4 (enc v_5.1)), (12, .v (.int .i64 v_5.2)), (13, .sl 4 (enc v_6.1)), (14, .v (.int .i64 v_6.2)), (17, .v (.bool v_0)), (18, .v (.bool (!v_0))), (19, .sl 4 (enc l_0)), (20, .sl 4 (enc l_0)), (21, .v (.int .i64 (List.length l_0 : Int))), (22, .v (.int .i64 (min (List.length l_0 : Int) 50))), (23, .sl 4 (enc (List.take (Int.toNat (min (List.length l_0 : Int) 50)) l_0))), (24, .sl 4 (enc outs_0)), (25, .sl 4 (enc outs_0)), (26, .v (.int .i64 (List.length outs_0 : Int))), (27, .v (.int .i64 (min (List.length outs_0 : Int) 100))), (28, .sl 4 (enc (List.take (Int.toNat (min (List.length outs_0 : Int) 100)) outs_0))), (29, .agg [.sl 1 (enc g_0.Parent), .sl 1 (enc g_0.Bound), .sl 4 (enc g_0.Nodes), .sl 4 (enc g_0.Edges)]), (30, .v (.bool v_1)), (31, .v (.bool (!v_1))), (32, .tup [.osl 1 4 (0) (List.length v_2.1), .v (.int .i64 v_2.2)]), (33, .sl 4 (enc (List.take (Int.toNat (min (List.length l_0 : Int) 50)) l_0))), (34, .v (.int .i64 size_0)), (35, .v (.int .i64 step_0)), (36, .tup [.osl 1 4 (0) (List.length v_2.1), .v (.int .i64 v_2.2)]), (37, .osl 1 4 (0) (List.length v_2.1)), (38, .v (.int .i64 v_2.2)), (39, .tup [.osl 2 4 (0) (List.length v_3.1), .v (.int .i64 v_3.2)]), (40, .sl 4 (enc (List.take (Int.toNat (min (List.length l_0 : Int) 50)) l_0))), (41, .v (.int .i64 size_0)), (42, .v (.int .i64 step_0)), (43, .tup [.osl 2 4 (0) (List.length v_3.1), .v (.int .i64 v_3.2)]), (44, .osl 2 4 (0) (List.length v_3.1)), (45, .v (.int .i64 v_3.2)), (46, .v (.int .i64 v_2.2)), (47, .v (.int .i64 v_3.2)), (48, .v (.bool false)), (49, .v (.bool false)), (50, .osl 1 4 (0) (List.length v_2.1)), (51, .osl 2 4 (0) (List.length v_3.1)), (52, .v (.bool v_4)), (53, .v (.bool (!v_4))), (54, .v (.bool (!v_4))), (55, .tup [.sl 4 (enc v_5.1), .v (.int .i64 v_5.2)]), (56, .sl 4 (enc (List.take (Int.toNat (min (List.length l_0 : Int) 50)) l_0))), (57, .v (.int .i64 size_0)), (58, .tup [.sl 4 (enc v_5.1), .v (.int .i64 v_5.2)]), (59, .sl 4 (enc v_5.1)), (60, .v (.int .i64 v_5.2)), (61, .tup [.sl 4 (enc v_6.1), .v (.int .i64 v_6.2)]), (62, .sl 4 (enc (List.take (Int.toNat (min (List.length l_0 : Int) 50)) l_0))), (63, .v (.int .i64 size_0)), (64, .v (.int .i64 size_0)), (65, .tup [.sl 4 (enc v_6.1), .v (.int .i64 v_6.2)]), (66, .sl 4 (enc v_6.1)), (67, .v (.int .i64 v_6.2)), (68, .v (.int .i64 v_5.2)), (69, .v (.int .i64 v_6.2)), (70, .v (.bool false)), (71, .v (.bool false)), (72, .sl 4 (enc v_5.1)), (73, .sl 4 (enc v_6.1))], [(0, .box [.sl 1 (enc g_0.Parent), .sl 1 (enc g_0.Bound), .sl 4 (enc g_0.Nodes), .sl 4 (enc g_0.Edges)]), (1, .arr 4 (enc v_2.1)), (2, .arr 4 (enc v_3.1))], 3, 104⟩ : St)) (l := [some 0, some 1, some 2]) (args' := [.sl 4 (enc v_5.1), .sl 4 (enc v_6.1)]) ?_ ?_ (f_backwashref33_SameFeeds_ok v_5.1 v_6.1 v_7 ev_7) (by rfl) (by rfl) ?_
            · simp only [go_sem, Le] <;> (repeat' apply And.intro) <;> first | omega | (simp [go_sem]; done)
            · simp only [go_sem, Le] <;> (repeat' apply And.intro) <;> (simp [go_sem]; done)
            simp only [go_sem, Try.ntmps3, Try.results3]
            refine seqQ_normal hQ18 ?_
            refine vc_cond_of (b := (!v_7)) (by (simp only [go_sem]; done)) (fun hb_5 => ?_) (fun hb_5 => ?_)
            ·
              replace h := if_t h hb_5
              simp only [decide_eq_true_eq, decide_eq_false_iff_not, Bool.not_eq_true', Bool.not_eq_false', beq_iff_eq, beq_eq_false_iff_ne, ne_eq, Bool.and_eq_true, Bool.or_eq_true, Int.not_lt, Int.not_le] at hb_5
              refine vc_seq_gen (by kernel_rfl) ?_
              intro QQ20 hQ20
              simp only [go_sem, Try.ntmps3, Try.results3]
              refine seqQ_normal hQ20 ?_
              refine vc_ret_of ?_
              refine seqQ_ret hQ17 ?_
              simp only [go_sem, Try.ntmps3, Try.results3]
              obtain rfl := Option.some.inj h
              refine retW_pure rfl ?_
              simp only [go_sem, Le]
            ·
              replace h := if_f h hb_5
              simp only [decide_eq_true_eq, decide_eq_false_iff_not, Bool.not_eq_true', Bool.not_eq_false', beq_iff_eq, beq_eq_false_iff_ne, ne_eq, Bool.and_eq_true, Bool.or_eq_true, Int.not_lt, Int.not_le] at hb_5
              refine vc_skip_of ?_
              refine seqQ_normal hQ17 ?_
              refine vc_seq_gen (by kernel_rfl) ?_
              intro QQ21 hQ21
              obtain ⟨v_8, ev_8, h⟩ := bindO_some h
              simp only [go_sem, Try.ntmps3, Try.results3]
              refine callD [] (f_window_Gather_det (List.take (Int.toNat (min (List.length outs_0 : Int) 100)) outs_0) size_0 v_8 ev_8) (by simp) rfl trivial rfl rfl rfl rfl ?_
              simp only [go_sem, Try.ntmps3, Try.results3]
              refine seqQ_normal hQ21 ?_
              refine vc_seq_gen (by kernel_rfl) ?_
              intro QQ22 hQ22
              obtain ⟨v_9, ev_9, h⟩ := bindO_some h
              simp only [go_sem, Try.ntmps3, Try.results3]
              refine callD [] (f_backwashref33_Gather_det (List.take (Int.toNat (min (List.length outs_0 : Int) 100)) outs_0) size_0 v_9 ev_9) (by simp) rfl trivial rfl rfl rfl rfl ?_
              simp only [go_sem, Try.ntmps3, Try.results3]
              refine seqQ_normal hQ22 ?_
              refine vc_seq_gen (by kernel_rfl) ?_
              intro QQ23 hQ23
              refine vc_draw ?_
              refine drawV_weak (s' := (⟨0, [(0, .sl 4 (enc (List.take (Int.toNat (min (List.length l_0 : Int) 50)) l_0))), (1, .v (.int .i64 size_0)), (2, .v (.int .i64 step_0)), (3, .sl 4 (enc (List.take (Int.toNat (min (List.length outs_0 : Int) 100)) outs_0))), (4, .agg [.sl 1 (enc g_0.Parent), .sl 1 (enc g_0.Bound), .sl 4 (enc g_0.Nodes), .sl 4 (enc g_0.Edges)]), (9, .ptr 0 0), (10, .v (.bool false)), (11, .osl 3 4 (0) (List.length v_5.1)), (12, .v (.int .i64 v_8.2)), (13, .osl 4 4 (0) (List.length v_6.1)), (14, .v (.int .i64 v_9.2)), (15, .sl 4 (enc v_8.1)), (16, .sl 4 (enc v_9.1)), (17, .v (.bool v_0)), (18, .v (.bool (!v_0))), (19, .sl 4 (enc l_0)), (20, .sl 4 (enc l_0)), (21, .v (.int .i64 (List.length l_0 : Int))), (22, .v (.int .i64 (min (List.length l_0 : Int) 50))), (23, .sl 4 (enc (List.take (Int.toNat (min (List.length l_0 : Int) 50)) l_0))), (24, .sl 4 (enc outs_0)), (25, .sl 4 (enc outs_0)), (26, .v (.int .i64 (List.length outs_0 : Int))), (27, .v (.int .i64 (min (List.length outs_0 : Int) 100))), (28, .sl 4 (enc (List.take (Int.toNat (min (List.length outs_0 : Int) 100)) outs_0))), (29, .agg [.sl 1 (enc g_0.Parent), .sl 1 (enc g_0.Bound), .sl 4 (enc g_0.Nodes), .sl 4 (enc g_0.Edges)]), (30, .v (.bool v_1)), (31, .v (.bool (!v_1))), (32, .tup [.osl 1 4 (0) (List.length v_2.1), .v (.int .i64 v_2.2)]), (33, .sl 4 (enc (List.take (Int.toNat (min (List.length l_0 : Int) 50)) l_0))), (34, .v (.int .i64 size_0)), (35, .v (.int .i64 step_0)), (36, .tup [.osl 1 4 (0) (List.length v_2.1), .v (.int .i64 v_2.2)]), (37, .osl 1 4 (0) (List.length v_2.1)), (38, .v (.int .i64 v_2.2)), (39, .tup [.osl 2 4 (0) (List.length v_3.1), .v (.int .i64 v_3.2)]), (40, .sl 4 (enc (List.take (Int.toNat (min (List.length l_0 : Int) 50)) l_0))), (41, .v (.int .i64 size_0)), (42, .v (.int .i64 step_0)), (43, .tup [.osl 2 4 (0) (List.length v_3.1), .v (.int .i64 v_3.2)]), (44, .osl 2 4 (0) (List.length v_3.1)), (45, .v (.int .i64 v_3.2)), (46, .v (.int .i64 v_2.2)), (47, .v (.int .i64 v_3.2)), (48, .v (.bool false)), (49, .v (.bool false)), (50, .osl 1 4 (0) (List.length v_2.1)), (51, .osl 2 4 (0) (List.length v_3.1)), (52, .v (.bool v_4)), (53, .v (.bool (!v_4))), (54, .v (.bool (!v_4))), (55, .tup [.osl 3 4 (0) (List.length v_5.1), .v (.int .i64 v_5.2)]), (56, .sl 4 (enc (List.take (Int.toNat (min (List.length l_0 : Int) 50)) l_0))), (57, .v (.int .i64 size_0)), (58, .tup [.osl 3 4 (0) (List.length v_5.1), .v (.int .i64 v_5.2)]), (59, .osl 3 4 (0) (List.length v_5.1)), (60, .v (.int .i64 v_5.2)), (61, .tup [.osl 4 4 (0) (List.length v_6.1), .v (.int .i64 v_6.2)]), (62, .sl 4 (enc (List.take (Int.toNat (min (List.length l_0 : Int) 50)) l_0))), (63, .v (.int .i64 size_0)), (64, .v (.int .i64 size_0)), (65, .tup [.osl 4 4 (0) (List.length v_6.1), .v (.int .i64 v_6.2)]), (66, .osl 4 4 (0) (List.length v_6.1)), (67, .v (.int .i64 v_6.2)), (68, .v (.int .i64 v_5.2)), (69, .v (.int .i64 v_6.2)), (70, .v (.bool false)), (71, .v (.bool false)), (72, .osl 3 4 (0) (List.length v_5.1)), (73, .osl 4 4 (0) (List.length v_6.1)), (74, .v (.bool v_7)), (75, .v (.bool (!v_7))), (76, .v (.bool (!v_7))), (77, .tup [.sl 4 (enc v_8.1), .v (.int .i64 v_8.2)]), (78, .sl 4 (enc (List.take (Int.toNat (min (List.length outs_0 : Int) 100)) outs_0))), (79, .v (.int .i64 size_0)), (80, .tup [.sl 4 (enc v_8.1), .v (.int .i64 v_8.2)]), (81, .sl 4 (enc v_8.1)), (82, .v (.int .i64 v_8.2)), (83, .tup [.sl 4 (enc v_9.1), .v (.int .i64 v_9.2)]), (84, .sl 4 (enc (List.take (Int.toNat (min (List.length outs_0 : Int) 100)) outs_0))), (85, .v (.int .i64 size_0)), (86, .tup [.sl 4 (enc v_9.1), .v (.int .i64 v_9.2)]), (87, .sl 4 (enc v_9.1)), (88, .v (.int .i64 v_9.2))], [(0, .box [.sl 1 (enc g_0.Parent), .sl 1 (enc g_0.Bound), .sl 4 (enc g_0.Nodes), .sl 4 (enc g_0.Edges)]), (1, .arr 4 (enc v_2.1)), (2, .arr 4 (enc v_3.1)), (3, .arr 4 (enc v_5.1)), (4, .arr 4 (enc v_6.1))], 5, 104⟩ : St)) (l := [some 0, some 1, some 2, some 3, some 4]) ?_ ?_
              · simp only [go_sem, Le] <;> (repeat' apply And.intro) <;> first | omega | (simp [go_sem]; done)
              refine drawM_tail 12 [0, 0, 3, 7, 15, 15, 63, 127, 255, 511, 1023, 511, 4095, 8191, 16383, 32767] mixed (by kernel_rfl) (of_decide_eq_true (by kernel_rfl)) (by kernel_rfl) ?_
              simp only [go_sem, Try.ntmps3, Try.results3]
              rcases hb_6 : (v_8.2 == v_9.2) with _ | _
              ·
                replace h := if_f h hb_6
                simp only [go_sem, Try.ntmps3, Try.results3, hb_6]
                refine seqQ_normal hQ23 ?_
                refine vc_ret_of ?_
                simp only [go_sem, Try.ntmps3, Try.results3]
                obtain rfl := Option.some.inj h
                refine retW_pure rfl ?_
                simp only [go_sem, Le]
              ·
                replace h := if_t h hb_6
                obtain ⟨v_10, ev_10, h⟩ := bindO_some h
                simp only [go_sem, Try.ntmps3, Try.results3, hb_6]
                refine callq (fun _ => (f_backwashref12_Same_ok v_8.1 v_9.1 v_10 ev_10)) (by rfl) (by rfl) ?_
                simp only [go_sem, Try.ntmps3, Try.results3]
                rcases hb_7 : v_10 with _ | _
                ·
                  replace h := if_f h hb_7
                  simp only [go_sem, Try.ntmps3, Try.results3, hb_7]
                  refine seqQ_normal hQ23 ?_
                  refine vc_ret_of ?_
                  simp only [go_sem, Try.ntmps3, Try.results3]
                  obtain rfl := Option.some.inj h
                  refine retW_pure rfl ?_
                  simp only [go_sem, Le]
                ·
                  replace h := if_t h hb_7
                  obtain ⟨v_11, ev_11, h⟩ := bindO_some h
                  simp only [go_sem, Try.ntmps3, Try.results3, hb_7]
                  refine callq (fun _ => (f_window_Linear_ok g_0 v_11 ev_11)) (by rfl) (by rfl) ?_
                  obtain ⟨v_12, ev_12, h⟩ := bindO_some h
                  simp only [go_sem, Try.ntmps3, Try.results3]
                  refine call0 (f_backwashref33_Linear_ok g_0 v_12 ev_12) (by rfl) (by rfl) ?_
                  simp only [go_sem, Try.ntmps3, Try.results3]
                  refine seqQ_normal hQ23 ?_
                  refine vc_ret_of ?_
                  simp only [go_sem, Try.ntmps3, Try.results3]
                  obtain rfl := Option.some.inj h
                  refine retW_pure rfl ?_
                  simp only [go_sem, Le]
end Go.Proofs.Ytfjjpdjnpmajlaa

