/-
  What functions of the program compute, each told as a plain function that may give nothing, with the proof that the code does so. No condition beyond those that each theorem names.
-/
import Derived.Test.YtbcbcdbkdljjlaaLibD
import Derived.Test.YtbcbcdbkdljjlaaProg
set_option linter.unusedSimpArgs false
set_option linter.unusedVariables false
set_option linter.unusedSectionVars false
set_option maxHeartbeats 2000000
set_option maxRecDepth 100000
namespace Go.Proofs.Ytbcbcdbkdljjlaa
open Go Go.RowKit
theorem ty2_sz : szT Try.prog 2 = 1 := by kernel_rfl
theorem ty2_has : hasT Try.prog 2 = true := by kernel_rfl
theorem ty2_agg : aggT Try.prog 2 = false := by kernel_rfl
theorem ty2_by : bytesT Try.prog 2 = 8 := by kernel_rfl
theorem ty2_k : kindT Try.prog 2 = some .i64 := by kernel_rfl
theorem ty2_n : nilsX Try.prog 2 = [none] := by kernel_rfl
theorem ty2_ar : arrayT Try.prog 2 = none := by kernel_rfl
theorem ty2_z : zeroL Try.prog 2 = some [.int .i64 0] := by kernel_rfl
theorem ty3_sz : szT Try.prog 3 = 1 := by kernel_rfl
theorem ty3_has : hasT Try.prog 3 = true := by kernel_rfl
theorem ty3_agg : aggT Try.prog 3 = false := by kernel_rfl
theorem ty3_by : bytesT Try.prog 3 = 8 := by kernel_rfl
theorem ty3_k : kindT Try.prog 3 = some .i64 := by kernel_rfl
theorem ty3_n : nilsX Try.prog 3 = [none] := by kernel_rfl
theorem ty3_ar : arrayT Try.prog 3 = none := by kernel_rfl
theorem ty3_z : zeroL Try.prog 3 = some [.int .i64 0] := by kernel_rfl
theorem ty4_sz : szT Try.prog 4 = 1 := by kernel_rfl
theorem ty4_has : hasT Try.prog 4 = true := by kernel_rfl
theorem ty4_agg : aggT Try.prog 4 = false := by kernel_rfl
theorem ty4_by : bytesT Try.prog 4 = 1 := by kernel_rfl
theorem ty4_u : Try.prog.underlying 4 = some .bool := by kernel_rfl
theorem ty4_n : nilsX Try.prog 4 = [none] := by kernel_rfl
theorem ty4_ar : arrayT Try.prog 4 = none := by kernel_rfl
theorem ty4_z : zeroL Try.prog 4 = some [.bool false] := by kernel_rfl
theorem ty22_sz : szT Try.prog 22 = 1 := by kernel_rfl
theorem ty22_has : hasT Try.prog 22 = true := by kernel_rfl
theorem ty22_agg : aggT Try.prog 22 = false := by kernel_rfl
theorem ty22_by : bytesT Try.prog 22 = 24 := by kernel_rfl
theorem ty22_e : sliceT Try.prog 22 = some 3 := by kernel_rfl
theorem ty22_n : nilsX Try.prog 22 = [some 1] := by kernel_rfl
theorem ty22_ar : arrayT Try.prog 22 = none := by kernel_rfl
theorem ty22_z : zeroL Try.prog 22 = some [.slice none 0 0] := by kernel_rfl
theorem ty23_sz : szT Try.prog 23 = 1 := by kernel_rfl
theorem ty23_has : hasT Try.prog 23 = true := by kernel_rfl
theorem ty23_agg : aggT Try.prog 23 = false := by kernel_rfl
theorem ty23_by : bytesT Try.prog 23 = 24 := by kernel_rfl
theorem ty23_e : sliceT Try.prog 23 = some 41 := by kernel_rfl
theorem ty23_n : nilsX Try.prog 23 = [some 4] := by kernel_rfl
theorem ty23_ar : arrayT Try.prog 23 = none := by kernel_rfl
theorem ty23_z : zeroL Try.prog 23 = some [.slice none 0 0] := by kernel_rfl
theorem ty24_sz : szT Try.prog 24 = 1 := by kernel_rfl
theorem ty24_has : hasT Try.prog 24 = true := by kernel_rfl
theorem ty24_agg : aggT Try.prog 24 = false := by kernel_rfl
theorem ty24_by : bytesT Try.prog 24 = 24 := by kernel_rfl
theorem ty24_e : sliceT Try.prog 24 = some 43 := by kernel_rfl
theorem ty24_n : nilsX Try.prog 24 = [some 4] := by kernel_rfl
theorem ty24_ar : arrayT Try.prog 24 = none := by kernel_rfl
theorem ty24_z : zeroL Try.prog 24 = some [.slice none 0 0] := by kernel_rfl
theorem ty26_sz : szT Try.prog 26 = 4 := by kernel_rfl
theorem ty26_has : hasT Try.prog 26 = true := by kernel_rfl
theorem ty26_agg : aggT Try.prog 26 = true := by kernel_rfl
theorem ty26_by : bytesT Try.prog 26 = 96 := by kernel_rfl
theorem ty26_n : nilsX Try.prog 26 = [some 1, some 1, some 4, some 4] := by kernel_rfl
theorem ty26_ar : arrayT Try.prog 26 = none := by kernel_rfl
theorem ty26_f0 : fieldT Try.prog 26 0 = some (0, 22) := by kernel_rfl
theorem ty26_f1 : fieldT Try.prog 26 1 = some (1, 22) := by kernel_rfl
theorem ty26_f2 : fieldT Try.prog 26 2 = some (2, 23) := by kernel_rfl
theorem ty26_f3 : fieldT Try.prog 26 3 = some (3, 24) := by kernel_rfl
theorem ty26_pl : placesL Try.prog 26 = some [(0, 1), (1, 1), (2, 1), (3, 1)] := by kernel_rfl
theorem ty26_z : zeroL Try.prog 26 = some [.slice none 0 0, .slice none 0 0, .slice none 0 0, .slice none 0 0] := by kernel_rfl
theorem ty30_sz : szT Try.prog 30 = 5 := by kernel_rfl
theorem ty30_has : hasT Try.prog 30 = true := by kernel_rfl
theorem ty30_agg : aggT Try.prog 30 = true := by kernel_rfl
theorem ty30_by : bytesT Try.prog 30 = 120 := by kernel_rfl
theorem ty30_n : nilsX Try.prog 30 = [some 1, some 1, some 4, some 4, some 1] := by kernel_rfl
theorem ty30_ar : arrayT Try.prog 30 = none := by kernel_rfl
theorem ty30_f0 : fieldT Try.prog 30 0 = some (0, 26) := by kernel_rfl
theorem ty30_f1 : fieldT Try.prog 30 1 = some (4, 22) := by kernel_rfl
theorem ty30_pl : placesL Try.prog 30 = some [(0, 4), (4, 1)] := by kernel_rfl
theorem ty30_z : zeroL Try.prog 30 = some [.slice none 0 0, .slice none 0 0, .slice none 0 0, .slice none 0 0, .slice none 0 0] := by kernel_rfl
theorem ty31_sz : szT Try.prog 31 = 1 := by kernel_rfl
theorem ty31_has : hasT Try.prog 31 = true := by kernel_rfl
theorem ty31_agg : aggT Try.prog 31 = false := by kernel_rfl
theorem ty31_by : bytesT Try.prog 31 = 8 := by kernel_rfl
theorem ty31_k : kindT Try.prog 31 = some .i64 := by kernel_rfl
theorem ty31_n : nilsX Try.prog 31 = [none] := by kernel_rfl
theorem ty31_ar : arrayT Try.prog 31 = none := by kernel_rfl
theorem ty31_z : zeroL Try.prog 31 = some [.int .i64 0] := by kernel_rfl
theorem ty39_sz : szT Try.prog 39 = 1 := by kernel_rfl
theorem ty39_has : hasT Try.prog 39 = true := by kernel_rfl
theorem ty39_agg : aggT Try.prog 39 = false := by kernel_rfl
theorem ty39_by : bytesT Try.prog 39 = 24 := by kernel_rfl
theorem ty39_e : sliceT Try.prog 39 = some 70 := by kernel_rfl
theorem ty39_n : nilsX Try.prog 39 = [some 2] := by kernel_rfl
theorem ty39_ar : arrayT Try.prog 39 = none := by kernel_rfl
theorem ty39_z : zeroL Try.prog 39 = some [.slice none 0 0] := by kernel_rfl
theorem ty41_sz : szT Try.prog 41 = 4 := by kernel_rfl
theorem ty41_has : hasT Try.prog 41 = true := by kernel_rfl
theorem ty41_agg : aggT Try.prog 41 = true := by kernel_rfl
theorem ty41_by : bytesT Try.prog 41 = 48 := by kernel_rfl
theorem ty41_n : nilsX Try.prog 41 = [none, none, none, some 2] := by kernel_rfl
theorem ty41_ar : arrayT Try.prog 41 = none := by kernel_rfl
theorem ty41_f0 : fieldT Try.prog 41 0 = some (0, 3) := by kernel_rfl
theorem ty41_f1 : fieldT Try.prog 41 1 = some (1, 3) := by kernel_rfl
theorem ty41_f2 : fieldT Try.prog 41 2 = some (2, 2) := by kernel_rfl
theorem ty41_f3 : fieldT Try.prog 41 3 = some (3, 39) := by kernel_rfl
theorem ty41_pl : placesL Try.prog 41 = some [(0, 1), (1, 1), (2, 1), (3, 1)] := by kernel_rfl
theorem ty41_z : zeroL Try.prog 41 = some [.int .i64 0, .int .i64 0, .int .i64 0, .slice none 0 0] := by kernel_rfl
theorem ty43_sz : szT Try.prog 43 = 4 := by kernel_rfl
theorem ty43_has : hasT Try.prog 43 = true := by kernel_rfl
theorem ty43_agg : aggT Try.prog 43 = true := by kernel_rfl
theorem ty43_by : bytesT Try.prog 43 = 32 := by kernel_rfl
theorem ty43_n : nilsX Try.prog 43 = [none, none, none, none] := by kernel_rfl
theorem ty43_ar : arrayT Try.prog 43 = none := by kernel_rfl
theorem ty43_f0 : fieldT Try.prog 43 0 = some (0, 3) := by kernel_rfl
theorem ty43_f1 : fieldT Try.prog 43 1 = some (1, 3) := by kernel_rfl
theorem ty43_f2 : fieldT Try.prog 43 2 = some (2, 3) := by kernel_rfl
theorem ty43_f3 : fieldT Try.prog 43 3 = some (3, 4) := by kernel_rfl
theorem ty43_pl : placesL Try.prog 43 = some [(0, 1), (1, 1), (2, 1), (3, 1)] := by kernel_rfl
theorem ty43_z : zeroL Try.prog 43 = some [.int .i64 0, .int .i64 0, .int .i64 0, .bool false] := by kernel_rfl
theorem ty44_sz : szT Try.prog 44 = 1 := by kernel_rfl
theorem ty44_has : hasT Try.prog 44 = true := by kernel_rfl
theorem ty44_agg : aggT Try.prog 44 = false := by kernel_rfl
theorem ty44_by : bytesT Try.prog 44 = 8 := by kernel_rfl
theorem ty44_n : nilsX Try.prog 44 = [none] := by kernel_rfl
theorem ty44_ar : arrayT Try.prog 44 = none := by kernel_rfl
theorem ty44_z : zeroL Try.prog 44 = some [.pointer none] := by kernel_rfl
theorem ty45_sz : szT Try.prog 45 = 1 := by kernel_rfl
theorem ty45_has : hasT Try.prog 45 = true := by kernel_rfl
theorem ty45_agg : aggT Try.prog 45 = false := by kernel_rfl
theorem ty45_by : bytesT Try.prog 45 = 24 := by kernel_rfl
theorem ty45_e : sliceT Try.prog 45 = some 4 := by kernel_rfl
theorem ty45_n : nilsX Try.prog 45 = [some 1] := by kernel_rfl
theorem ty45_ar : arrayT Try.prog 45 = none := by kernel_rfl
theorem ty45_z : zeroL Try.prog 45 = some [.slice none 0 0] := by kernel_rfl
theorem ty47_sz : szT Try.prog 47 = 5 := by kernel_rfl
theorem ty47_has : hasT Try.prog 47 = true := by kernel_rfl
theorem ty47_agg : aggT Try.prog 47 = true := by kernel_rfl
theorem ty47_by : bytesT Try.prog 47 = 120 := by kernel_rfl
theorem ty47_n : nilsX Try.prog 47 = [some 1, some 1, some 4, some 4, some 1] := by kernel_rfl
theorem ty47_ar : arrayT Try.prog 47 = none := by kernel_rfl
theorem ty47_f0 : fieldT Try.prog 47 0 = some (0, 26) := by kernel_rfl
theorem ty47_f1 : fieldT Try.prog 47 1 = some (4, 45) := by kernel_rfl
theorem ty47_pl : placesL Try.prog 47 = some [(0, 4), (4, 1)] := by kernel_rfl
theorem ty47_z : zeroL Try.prog 47 = some [.slice none 0 0, .slice none 0 0, .slice none 0 0, .slice none 0 0, .slice none 0 0] := by kernel_rfl
theorem ty52_sz : szT Try.prog 52 = 2 := by kernel_rfl
theorem ty52_has : hasT Try.prog 52 = true := by kernel_rfl
theorem ty52_agg : aggT Try.prog 52 = true := by kernel_rfl
theorem ty52_by : bytesT Try.prog 52 = 48 := by kernel_rfl
theorem ty52_n : nilsX Try.prog 52 = [some 4, some 1] := by kernel_rfl
theorem ty52_ar : arrayT Try.prog 52 = none := by kernel_rfl
theorem ty52_f0 : fieldT Try.prog 52 0 = some (0, 24) := by kernel_rfl
theorem ty52_f1 : fieldT Try.prog 52 1 = some (1, 45) := by kernel_rfl
theorem ty52_pl : placesL Try.prog 52 = some [(0, 1), (1, 1)] := by kernel_rfl
theorem ty52_z : zeroL Try.prog 52 = some [.slice none 0 0, .slice none 0 0] := by kernel_rfl
theorem ty64_sz : szT Try.prog 64 = 1 := by kernel_rfl
theorem ty64_has : hasT Try.prog 64 = true := by kernel_rfl
theorem ty64_agg : aggT Try.prog 64 = false := by kernel_rfl
theorem ty64_by : bytesT Try.prog 64 = 8 := by kernel_rfl
theorem ty64_n : nilsX Try.prog 64 = [none] := by kernel_rfl
theorem ty64_ar : arrayT Try.prog 64 = none := by kernel_rfl
theorem ty64_z : zeroL Try.prog 64 = some [.nilFunc] := by kernel_rfl
theorem ty70_sz : szT Try.prog 70 = 2 := by kernel_rfl
theorem ty70_has : hasT Try.prog 70 = true := by kernel_rfl
theorem ty70_agg : aggT Try.prog 70 = true := by kernel_rfl
theorem ty70_by : bytesT Try.prog 70 = 16 := by kernel_rfl
theorem ty70_n : nilsX Try.prog 70 = [none, none] := by kernel_rfl
theorem ty70_ar : arrayT Try.prog 70 = none := by kernel_rfl
theorem ty70_f0 : fieldT Try.prog 70 0 = some (0, 3) := by kernel_rfl
theorem ty70_f1 : fieldT Try.prog 70 1 = some (1, 2) := by kernel_rfl
theorem ty70_pl : placesL Try.prog 70 = some [(0, 1), (1, 1)] := by kernel_rfl
theorem ty70_z : zeroL Try.prog 70 = some [.int .i64 0, .int .i64 0] := by kernel_rfl
theorem ty85_sz : szT Try.prog 85 = 1 := by kernel_rfl
theorem ty85_has : hasT Try.prog 85 = true := by kernel_rfl
theorem ty85_agg : aggT Try.prog 85 = false := by kernel_rfl
theorem ty85_by : bytesT Try.prog 85 = 8 := by kernel_rfl
theorem ty85_n : nilsX Try.prog 85 = [none] := by kernel_rfl
theorem ty85_ar : arrayT Try.prog 85 = none := by kernel_rfl
theorem ty85_z : zeroL Try.prog 85 = some [.nilFunc] := by kernel_rfl
theorem ty91_sz : szT Try.prog 91 = 16 := by kernel_rfl
theorem ty91_has : hasT Try.prog 91 = true := by kernel_rfl
theorem ty91_agg : aggT Try.prog 91 = true := by kernel_rfl
theorem ty91_by : bytesT Try.prog 91 = 128 := by kernel_rfl
theorem ty91_n : nilsX Try.prog 91 = [none, none, none, none, none, none, none, none, none, none, none, none, none, none, none, none] := by kernel_rfl
theorem ty91_ar : arrayT Try.prog 91 = some (16, 3) := by kernel_rfl
theorem ty91_pl : placesL Try.prog 91 = some [(0, 1), (1, 1), (2, 1), (3, 1), (4, 1), (5, 1), (6, 1), (7, 1), (8, 1), (9, 1), (10, 1), (11, 1), (12, 1), (13, 1), (14, 1), (15, 1)] := by kernel_rfl
theorem ty91_z : zeroL Try.prog 91 = some [.int .i64 0, .int .i64 0, .int .i64 0, .int .i64 0, .int .i64 0, .int .i64 0, .int .i64 0, .int .i64 0, .int .i64 0, .int .i64 0, .int .i64 0, .int .i64 0, .int .i64 0, .int .i64 0, .int .i64 0, .int .i64 0] := by kernel_rfl
theorem ty93_sz : szT Try.prog 93 = 1 := by kernel_rfl
theorem ty93_has : hasT Try.prog 93 = true := by kernel_rfl
theorem ty93_agg : aggT Try.prog 93 = false := by kernel_rfl
theorem ty93_by : bytesT Try.prog 93 = 8 := by kernel_rfl
theorem ty93_n : nilsX Try.prog 93 = [none] := by kernel_rfl
theorem ty93_ar : arrayT Try.prog 93 = none := by kernel_rfl
theorem ty93_z : zeroL Try.prog 93 = some [.nilFunc] := by kernel_rfl
theorem en3 : entB Try.prog 3 = true := by kernel_rfl
theorem en4 : entB Try.prog 4 = true := by kernel_rfl
theorem en5 : entB Try.prog 5 = true := by kernel_rfl
theorem en6 : entB Try.prog 6 = true := by kernel_rfl
theorem en7 : entB Try.prog 7 = true := by kernel_rfl
theorem en8 : entB Try.prog 8 = true := by kernel_rfl
theorem en9 : entB Try.prog 9 = true := by kernel_rfl
theorem en10 : entB Try.prog 10 = true := by kernel_rfl
theorem en11 : entB Try.prog 11 = true := by kernel_rfl
theorem en12 : entB Try.prog 12 = true := by kernel_rfl
theorem en13 : entB Try.prog 13 = true := by kernel_rfl
theorem en14 : entB Try.prog 14 = true := by kernel_rfl
theorem en15 : entB Try.prog 15 = true := by kernel_rfl
theorem en16 : entB Try.prog 16 = true := by kernel_rfl
theorem en17 : entB Try.prog 17 = true := by kernel_rfl
theorem en18 : entB Try.prog 18 = true := by kernel_rfl
theorem en19 : entB Try.prog 19 = true := by kernel_rfl
theorem en20 : entB Try.prog 20 = true := by kernel_rfl
theorem en21 : entB Try.prog 21 = true := by kernel_rfl
theorem en22 : entB Try.prog 22 = true := by kernel_rfl
theorem en23 : entB Try.prog 23 = true := by kernel_rfl
theorem en24 : entB Try.prog 24 = true := by kernel_rfl
theorem en25 : entB Try.prog 25 = true := by kernel_rfl
theorem en26 : entB Try.prog 26 = true := by kernel_rfl
theorem en27 : entB Try.prog 27 = true := by kernel_rfl
theorem en28 : entB Try.prog 28 = true := by kernel_rfl
theorem en29 : entB Try.prog 29 = true := by kernel_rfl
theorem en30 : entB Try.prog 30 = true := by kernel_rfl
theorem en31 : entB Try.prog 31 = true := by kernel_rfl
theorem en32 : entB Try.prog 32 = true := by kernel_rfl
theorem en33 : entB Try.prog 33 = true := by kernel_rfl
theorem en34 : entB Try.prog 34 = true := by kernel_rfl
theorem en35 : entB Try.prog 35 = true := by kernel_rfl
theorem en36 : entB Try.prog 36 = true := by kernel_rfl
theorem en37 : entB Try.prog 37 = true := by kernel_rfl
theorem en38 : entB Try.prog 38 = true := by kernel_rfl
theorem en39 : entB Try.prog 39 = true := by kernel_rfl
theorem en40 : entB Try.prog 40 = true := by kernel_rfl
theorem en41 : entB Try.prog 41 = true := by kernel_rfl
theorem en42 : entB Try.prog 42 = true := by kernel_rfl
theorem en43 : entB Try.prog 43 = true := by kernel_rfl
theorem en44 : entB Try.prog 44 = true := by kernel_rfl
theorem en45 : entB Try.prog 45 = true := by kernel_rfl
theorem en46 : entB Try.prog 46 = true := by kernel_rfl
theorem en47 : entB Try.prog 47 = true := by kernel_rfl
theorem en48 : entB Try.prog 48 = true := by kernel_rfl
theorem en49 : entB Try.prog 49 = true := by kernel_rfl
theorem en50 : entB Try.prog 50 = true := by kernel_rfl
theorem en51 : entB Try.prog 51 = true := by kernel_rfl
theorem en52 : entB Try.prog 52 = true := by kernel_rfl
theorem en53 : entB Try.prog 53 = true := by kernel_rfl
theorem en54 : entB Try.prog 54 = true := by kernel_rfl
theorem en55 : entB Try.prog 55 = true := by kernel_rfl
theorem en56 : entB Try.prog 56 = true := by kernel_rfl
theorem en57 : entB Try.prog 57 = true := by kernel_rfl
theorem en58 : entB Try.prog 58 = true := by kernel_rfl
theorem en59 : entB Try.prog 59 = true := by kernel_rfl
theorem en60 : entB Try.prog 60 = true := by kernel_rfl
theorem en61 : entB Try.prog 61 = true := by kernel_rfl
theorem en62 : entB Try.prog 62 = true := by kernel_rfl
theorem en63 : entB Try.prog 63 = true := by kernel_rfl
theorem en64 : entB Try.prog 64 = true := by kernel_rfl
theorem en65 : entB Try.prog 65 = true := by kernel_rfl
theorem en66 : entB Try.prog 66 = true := by kernel_rfl
theorem en67 : entB Try.prog 67 = true := by kernel_rfl
theorem en68 : entB Try.prog 68 = true := by kernel_rfl
@[go_sem] theorem tyb60_0 : (szT Try.prog 2 = 1) ∧ (hasT Try.prog 2 = true) ∧ (aggT Try.prog 2 = false) ∧ (bytesT Try.prog 2 = 8) ∧ (kindT Try.prog 2 = some .i64) ∧ (nilsX Try.prog 2 = [none]) ∧ (arrayT Try.prog 2 = none) ∧ (zeroL Try.prog 2 = some [.int .i64 0]) ∧ (szT Try.prog 3 = 1) ∧ (hasT Try.prog 3 = true) ∧ (aggT Try.prog 3 = false) ∧ (bytesT Try.prog 3 = 8) ∧ (kindT Try.prog 3 = some .i64) ∧ (nilsX Try.prog 3 = [none]) ∧ (arrayT Try.prog 3 = none) ∧ (zeroL Try.prog 3 = some [.int .i64 0]) ∧ (szT Try.prog 4 = 1) ∧ (hasT Try.prog 4 = true) ∧ (aggT Try.prog 4 = false) ∧ (bytesT Try.prog 4 = 1) ∧ (Try.prog.underlying 4 = some .bool) ∧ (nilsX Try.prog 4 = [none]) ∧ (arrayT Try.prog 4 = none) ∧ (zeroL Try.prog 4 = some [.bool false]) ∧ (szT Try.prog 22 = 1) ∧ (hasT Try.prog 22 = true) ∧ (aggT Try.prog 22 = false) ∧ (bytesT Try.prog 22 = 24) ∧ (sliceT Try.prog 22 = some 3) ∧ (nilsX Try.prog 22 = [some 1]) ∧ (arrayT Try.prog 22 = none) ∧ (zeroL Try.prog 22 = some [.slice none 0 0]) ∧ (szT Try.prog 23 = 1) ∧ (hasT Try.prog 23 = true) ∧ (aggT Try.prog 23 = false) ∧ (bytesT Try.prog 23 = 24) ∧ (sliceT Try.prog 23 = some 41) ∧ (nilsX Try.prog 23 = [some 4]) ∧ (arrayT Try.prog 23 = none) ∧ (zeroL Try.prog 23 = some [.slice none 0 0]) ∧ (szT Try.prog 24 = 1) ∧ (hasT Try.prog 24 = true) ∧ (aggT Try.prog 24 = false) ∧ (bytesT Try.prog 24 = 24) ∧ (sliceT Try.prog 24 = some 43) ∧ (nilsX Try.prog 24 = [some 4]) ∧ (arrayT Try.prog 24 = none) ∧ (zeroL Try.prog 24 = some [.slice none 0 0]) ∧ (szT Try.prog 26 = 4) ∧ (hasT Try.prog 26 = true) ∧ (aggT Try.prog 26 = true) ∧ (bytesT Try.prog 26 = 96) ∧ (nilsX Try.prog 26 = [some 1, some 1, some 4, some 4]) ∧ (arrayT Try.prog 26 = none) ∧ (fieldT Try.prog 26 0 = some (0, 22)) ∧ (fieldT Try.prog 26 1 = some (1, 22)) ∧ (fieldT Try.prog 26 2 = some (2, 23)) ∧ (fieldT Try.prog 26 3 = some (3, 24)) ∧ (placesL Try.prog 26 = some [(0, 1), (1, 1), (2, 1), (3, 1)]) ∧ (zeroL Try.prog 26 = some [.slice none 0 0, .slice none 0 0, .slice none 0 0, .slice none 0 0]) := ⟨ty2_sz, ty2_has, ty2_agg, ty2_by, ty2_k, ty2_n, ty2_ar, ty2_z, ty3_sz, ty3_has, ty3_agg, ty3_by, ty3_k, ty3_n, ty3_ar, ty3_z, ty4_sz, ty4_has, ty4_agg, ty4_by, ty4_u, ty4_n, ty4_ar, ty4_z, ty22_sz, ty22_has, ty22_agg, ty22_by, ty22_e, ty22_n, ty22_ar, ty22_z, ty23_sz, ty23_has, ty23_agg, ty23_by, ty23_e, ty23_n, ty23_ar, ty23_z, ty24_sz, ty24_has, ty24_agg, ty24_by, ty24_e, ty24_n, ty24_ar, ty24_z, ty26_sz, ty26_has, ty26_agg, ty26_by, ty26_n, ty26_ar, ty26_f0, ty26_f1, ty26_f2, ty26_f3, ty26_pl, ty26_z⟩
@[go_sem] theorem tyb120_0 : (szT Try.prog 30 = 5) ∧ (hasT Try.prog 30 = true) ∧ (aggT Try.prog 30 = true) ∧ (bytesT Try.prog 30 = 120) ∧ (nilsX Try.prog 30 = [some 1, some 1, some 4, some 4, some 1]) ∧ (arrayT Try.prog 30 = none) ∧ (fieldT Try.prog 30 0 = some (0, 26)) ∧ (fieldT Try.prog 30 1 = some (4, 22)) ∧ (placesL Try.prog 30 = some [(0, 4), (4, 1)]) ∧ (zeroL Try.prog 30 = some [.slice none 0 0, .slice none 0 0, .slice none 0 0, .slice none 0 0, .slice none 0 0]) ∧ (szT Try.prog 31 = 1) ∧ (hasT Try.prog 31 = true) ∧ (aggT Try.prog 31 = false) ∧ (bytesT Try.prog 31 = 8) ∧ (kindT Try.prog 31 = some .i64) ∧ (nilsX Try.prog 31 = [none]) ∧ (arrayT Try.prog 31 = none) ∧ (zeroL Try.prog 31 = some [.int .i64 0]) ∧ (szT Try.prog 39 = 1) ∧ (hasT Try.prog 39 = true) ∧ (aggT Try.prog 39 = false) ∧ (bytesT Try.prog 39 = 24) ∧ (sliceT Try.prog 39 = some 70) ∧ (nilsX Try.prog 39 = [some 2]) ∧ (arrayT Try.prog 39 = none) ∧ (zeroL Try.prog 39 = some [.slice none 0 0]) ∧ (szT Try.prog 41 = 4) ∧ (hasT Try.prog 41 = true) ∧ (aggT Try.prog 41 = true) ∧ (bytesT Try.prog 41 = 48) ∧ (nilsX Try.prog 41 = [none, none, none, some 2]) ∧ (arrayT Try.prog 41 = none) ∧ (fieldT Try.prog 41 0 = some (0, 3)) ∧ (fieldT Try.prog 41 1 = some (1, 3)) ∧ (fieldT Try.prog 41 2 = some (2, 2)) ∧ (fieldT Try.prog 41 3 = some (3, 39)) ∧ (placesL Try.prog 41 = some [(0, 1), (1, 1), (2, 1), (3, 1)]) ∧ (zeroL Try.prog 41 = some [.int .i64 0, .int .i64 0, .int .i64 0, .slice none 0 0]) ∧ (szT Try.prog 43 = 4) ∧ (hasT Try.prog 43 = true) ∧ (aggT Try.prog 43 = true) ∧ (bytesT Try.prog 43 = 32) ∧ (nilsX Try.prog 43 = [none, none, none, none]) ∧ (arrayT Try.prog 43 = none) ∧ (fieldT Try.prog 43 0 = some (0, 3)) ∧ (fieldT Try.prog 43 1 = some (1, 3)) ∧ (fieldT Try.prog 43 2 = some (2, 3)) ∧ (fieldT Try.prog 43 3 = some (3, 4)) ∧ (placesL Try.prog 43 = some [(0, 1), (1, 1), (2, 1), (3, 1)]) ∧ (zeroL Try.prog 43 = some [.int .i64 0, .int .i64 0, .int .i64 0, .bool false]) ∧ (szT Try.prog 44 = 1) ∧ (hasT Try.prog 44 = true) ∧ (aggT Try.prog 44 = false) ∧ (bytesT Try.prog 44 = 8) ∧ (nilsX Try.prog 44 = [none]) ∧ (arrayT Try.prog 44 = none) ∧ (zeroL Try.prog 44 = some [.pointer none]) ∧ (szT Try.prog 45 = 1) ∧ (hasT Try.prog 45 = true) ∧ (aggT Try.prog 45 = false) := ⟨ty30_sz, ty30_has, ty30_agg, ty30_by, ty30_n, ty30_ar, ty30_f0, ty30_f1, ty30_pl, ty30_z, ty31_sz, ty31_has, ty31_agg, ty31_by, ty31_k, ty31_n, ty31_ar, ty31_z, ty39_sz, ty39_has, ty39_agg, ty39_by, ty39_e, ty39_n, ty39_ar, ty39_z, ty41_sz, ty41_has, ty41_agg, ty41_by, ty41_n, ty41_ar, ty41_f0, ty41_f1, ty41_f2, ty41_f3, ty41_pl, ty41_z, ty43_sz, ty43_has, ty43_agg, ty43_by, ty43_n, ty43_ar, ty43_f0, ty43_f1, ty43_f2, ty43_f3, ty43_pl, ty43_z, ty44_sz, ty44_has, ty44_agg, ty44_by, ty44_n, ty44_ar, ty44_z, ty45_sz, ty45_has, ty45_agg⟩
@[go_sem] theorem tyb180_0 : (bytesT Try.prog 45 = 24) ∧ (sliceT Try.prog 45 = some 4) ∧ (nilsX Try.prog 45 = [some 1]) ∧ (arrayT Try.prog 45 = none) ∧ (zeroL Try.prog 45 = some [.slice none 0 0]) ∧ (szT Try.prog 47 = 5) ∧ (hasT Try.prog 47 = true) ∧ (aggT Try.prog 47 = true) ∧ (bytesT Try.prog 47 = 120) ∧ (nilsX Try.prog 47 = [some 1, some 1, some 4, some 4, some 1]) ∧ (arrayT Try.prog 47 = none) ∧ (fieldT Try.prog 47 0 = some (0, 26)) ∧ (fieldT Try.prog 47 1 = some (4, 45)) ∧ (placesL Try.prog 47 = some [(0, 4), (4, 1)]) ∧ (zeroL Try.prog 47 = some [.slice none 0 0, .slice none 0 0, .slice none 0 0, .slice none 0 0, .slice none 0 0]) ∧ (szT Try.prog 52 = 2) ∧ (hasT Try.prog 52 = true) ∧ (aggT Try.prog 52 = true) ∧ (bytesT Try.prog 52 = 48) ∧ (nilsX Try.prog 52 = [some 4, some 1]) ∧ (arrayT Try.prog 52 = none) ∧ (fieldT Try.prog 52 0 = some (0, 24)) ∧ (fieldT Try.prog 52 1 = some (1, 45)) ∧ (placesL Try.prog 52 = some [(0, 1), (1, 1)]) ∧ (zeroL Try.prog 52 = some [.slice none 0 0, .slice none 0 0]) ∧ (szT Try.prog 64 = 1) ∧ (hasT Try.prog 64 = true) ∧ (aggT Try.prog 64 = false) ∧ (bytesT Try.prog 64 = 8) ∧ (nilsX Try.prog 64 = [none]) ∧ (arrayT Try.prog 64 = none) ∧ (zeroL Try.prog 64 = some [.nilFunc]) ∧ (szT Try.prog 70 = 2) ∧ (hasT Try.prog 70 = true) ∧ (aggT Try.prog 70 = true) ∧ (bytesT Try.prog 70 = 16) ∧ (nilsX Try.prog 70 = [none, none]) ∧ (arrayT Try.prog 70 = none) ∧ (fieldT Try.prog 70 0 = some (0, 3)) ∧ (fieldT Try.prog 70 1 = some (1, 2)) ∧ (placesL Try.prog 70 = some [(0, 1), (1, 1)]) ∧ (zeroL Try.prog 70 = some [.int .i64 0, .int .i64 0]) ∧ (szT Try.prog 85 = 1) ∧ (hasT Try.prog 85 = true) ∧ (aggT Try.prog 85 = false) ∧ (bytesT Try.prog 85 = 8) ∧ (nilsX Try.prog 85 = [none]) ∧ (arrayT Try.prog 85 = none) ∧ (zeroL Try.prog 85 = some [.nilFunc]) ∧ (szT Try.prog 91 = 16) ∧ (hasT Try.prog 91 = true) ∧ (aggT Try.prog 91 = true) ∧ (bytesT Try.prog 91 = 128) ∧ (nilsX Try.prog 91 = [none, none, none, none, none, none, none, none, none, none, none, none, none, none, none, none]) ∧ (arrayT Try.prog 91 = some (16, 3)) ∧ (placesL Try.prog 91 = some [(0, 1), (1, 1), (2, 1), (3, 1), (4, 1), (5, 1), (6, 1), (7, 1), (8, 1), (9, 1), (10, 1), (11, 1), (12, 1), (13, 1), (14, 1), (15, 1)]) ∧ (zeroL Try.prog 91 = some [.int .i64 0, .int .i64 0, .int .i64 0, .int .i64 0, .int .i64 0, .int .i64 0, .int .i64 0, .int .i64 0, .int .i64 0, .int .i64 0, .int .i64 0, .int .i64 0, .int .i64 0, .int .i64 0, .int .i64 0, .int .i64 0]) ∧ (szT Try.prog 93 = 1) ∧ (hasT Try.prog 93 = true) ∧ (aggT Try.prog 93 = false) := ⟨ty45_by, ty45_e, ty45_n, ty45_ar, ty45_z, ty47_sz, ty47_has, ty47_agg, ty47_by, ty47_n, ty47_ar, ty47_f0, ty47_f1, ty47_pl, ty47_z, ty52_sz, ty52_has, ty52_agg, ty52_by, ty52_n, ty52_ar, ty52_f0, ty52_f1, ty52_pl, ty52_z, ty64_sz, ty64_has, ty64_agg, ty64_by, ty64_n, ty64_ar, ty64_z, ty70_sz, ty70_has, ty70_agg, ty70_by, ty70_n, ty70_ar, ty70_f0, ty70_f1, ty70_pl, ty70_z, ty85_sz, ty85_has, ty85_agg, ty85_by, ty85_n, ty85_ar, ty85_z, ty91_sz, ty91_has, ty91_agg, ty91_by, ty91_n, ty91_ar, ty91_pl, ty91_z, ty93_sz, ty93_has, ty93_agg⟩
@[go_sem] theorem tyb240_0 : (bytesT Try.prog 93 = 8) ∧ (nilsX Try.prog 93 = [none]) ∧ (arrayT Try.prog 93 = none) ∧ (zeroL Try.prog 93 = some [.nilFunc]) ∧ (entB Try.prog 3 = true) ∧ (entB Try.prog 4 = true) ∧ (entB Try.prog 5 = true) ∧ (entB Try.prog 6 = true) ∧ (entB Try.prog 7 = true) ∧ (entB Try.prog 8 = true) ∧ (entB Try.prog 9 = true) ∧ (entB Try.prog 10 = true) ∧ (entB Try.prog 11 = true) ∧ (entB Try.prog 12 = true) ∧ (entB Try.prog 13 = true) ∧ (entB Try.prog 14 = true) ∧ (entB Try.prog 15 = true) ∧ (entB Try.prog 16 = true) ∧ (entB Try.prog 17 = true) ∧ (entB Try.prog 18 = true) ∧ (entB Try.prog 19 = true) ∧ (entB Try.prog 20 = true) ∧ (entB Try.prog 21 = true) ∧ (entB Try.prog 22 = true) ∧ (entB Try.prog 23 = true) ∧ (entB Try.prog 24 = true) ∧ (entB Try.prog 25 = true) ∧ (entB Try.prog 26 = true) ∧ (entB Try.prog 27 = true) ∧ (entB Try.prog 28 = true) ∧ (entB Try.prog 29 = true) ∧ (entB Try.prog 30 = true) ∧ (entB Try.prog 31 = true) ∧ (entB Try.prog 32 = true) ∧ (entB Try.prog 33 = true) ∧ (entB Try.prog 34 = true) ∧ (entB Try.prog 35 = true) ∧ (entB Try.prog 36 = true) ∧ (entB Try.prog 37 = true) ∧ (entB Try.prog 38 = true) ∧ (entB Try.prog 39 = true) ∧ (entB Try.prog 40 = true) ∧ (entB Try.prog 41 = true) ∧ (entB Try.prog 42 = true) ∧ (entB Try.prog 43 = true) ∧ (entB Try.prog 44 = true) ∧ (entB Try.prog 45 = true) ∧ (entB Try.prog 46 = true) ∧ (entB Try.prog 47 = true) ∧ (entB Try.prog 48 = true) ∧ (entB Try.prog 49 = true) ∧ (entB Try.prog 50 = true) ∧ (entB Try.prog 51 = true) ∧ (entB Try.prog 52 = true) ∧ (entB Try.prog 53 = true) ∧ (entB Try.prog 54 = true) ∧ (entB Try.prog 55 = true) ∧ (entB Try.prog 56 = true) ∧ (entB Try.prog 57 = true) ∧ (entB Try.prog 58 = true) := ⟨ty93_by, ty93_n, ty93_ar, ty93_z, en3, en4, en5, en6, en7, en8, en9, en10, en11, en12, en13, en14, en15, en16, en17, en18, en19, en20, en21, en22, en23, en24, en25, en26, en27, en28, en29, en30, en31, en32, en33, en34, en35, en36, en37, en38, en39, en40, en41, en42, en43, en44, en45, en46, en47, en48, en49, en50, en51, en52, en53, en54, en55, en56, en57, en58⟩
@[go_sem] theorem tyb300_0 : (entB Try.prog 59 = true) ∧ (entB Try.prog 60 = true) ∧ (entB Try.prog 61 = true) ∧ (entB Try.prog 62 = true) ∧ (entB Try.prog 63 = true) ∧ (entB Try.prog 64 = true) ∧ (entB Try.prog 65 = true) ∧ (entB Try.prog 66 = true) ∧ (entB Try.prog 67 = true) ∧ (entB Try.prog 68 = true) := ⟨en59, en60, en61, en62, en63, en64, en65, en66, en67, en68⟩
theorem mixed : Try.prog.follows .mixedOrders = true := by kernel_rfl
structure GIns where
 Op : Int
 N : Int
instance : Row GIns := ⟨2, fun x => [.v (.int .i64 x.Op), .v (.int .i64 x.N)]⟩
@[go_sem] theorem row_GIns (x : GIns) : Row.row x = [.v (.int .i64 x.Op), .v (.int .i64 x.N)] := rfl
@[go_sem] theorem sz_GIns : Row.sz GIns = 2 := rfl
instance : Dat GIns where
 ct := Dat.ct Int ++ (Dat.ct Int)
 ok x := Dat.ok x.Op ∧ Dat.ok x.N
 len := rfl
 of avs h := by
  obtain ⟨b0, r0, rfl, h0, g0⟩ := rowOK_split h
  obtain ⟨x0, rfl, k0⟩ := Dat.of (α := Int) _ h0
  obtain ⟨x1, rfl, k1⟩ := Dat.of (α := Int) _ g0
  exact ⟨⟨x0, x1⟩, rfl, k0, k1⟩
structure GNode where
 Kind : Int
 Scope : Int
 Arg : Int
 Prog : List GIns
instance : Row GNode := ⟨4, fun x => [.v (.int .i64 x.Kind), .v (.int .i64 x.Scope), .v (.int .i64 x.Arg), .sl 2 (enc x.Prog)]⟩
@[go_sem] theorem row_GNode (x : GNode) : Row.row x = [.v (.int .i64 x.Kind), .v (.int .i64 x.Scope), .v (.int .i64 x.Arg), .sl 2 (enc x.Prog)] := rfl
@[go_sem] theorem sz_GNode : Row.sz GNode = 4 := rfl
instance : Dat GNode where
 ct := Dat.ct Int ++ (Dat.ct Int ++ (Dat.ct Int ++ (Dat.ct (List GIns))))
 ok x := Dat.ok x.Kind ∧ Dat.ok x.Scope ∧ Dat.ok x.Arg ∧ Dat.ok x.Prog
 len := rfl
 of avs h := by
  obtain ⟨b0, r0, rfl, h0, g0⟩ := rowOK_split h
  obtain ⟨b1, r1, rfl, h1, g1⟩ := rowOK_split g0
  obtain ⟨b2, r2, rfl, h2, g2⟩ := rowOK_split g1
  obtain ⟨x0, rfl, k0⟩ := Dat.of (α := Int) _ h0
  obtain ⟨x1, rfl, k1⟩ := Dat.of (α := Int) _ h1
  obtain ⟨x2, rfl, k2⟩ := Dat.of (α := Int) _ h2
  obtain ⟨x3, rfl, k3⟩ := Dat.of (α := List GIns) _ g2
  exact ⟨⟨x0, x1, x2, x3⟩, rfl, k0, k1, k2, k3⟩
structure GEdge where
 From : Int
 To : Int
 Port : Int
 Exchange : Bool
instance : Row GEdge := ⟨4, fun x => [.v (.int .i64 x.From), .v (.int .i64 x.To), .v (.int .i64 x.Port), .v (.bool x.Exchange)]⟩
@[go_sem] theorem row_GEdge (x : GEdge) : Row.row x = [.v (.int .i64 x.From), .v (.int .i64 x.To), .v (.int .i64 x.Port), .v (.bool x.Exchange)] := rfl
@[go_sem] theorem sz_GEdge : Row.sz GEdge = 4 := rfl
instance : Dat GEdge where
 ct := Dat.ct Int ++ (Dat.ct Int ++ (Dat.ct Int ++ (Dat.ct Bool)))
 ok x := Dat.ok x.From ∧ Dat.ok x.To ∧ Dat.ok x.Port ∧ Dat.ok x.Exchange
 len := rfl
 of avs h := by
  obtain ⟨b0, r0, rfl, h0, g0⟩ := rowOK_split h
  obtain ⟨b1, r1, rfl, h1, g1⟩ := rowOK_split g0
  obtain ⟨b2, r2, rfl, h2, g2⟩ := rowOK_split g1
  obtain ⟨x0, rfl, k0⟩ := Dat.of (α := Int) _ h0
  obtain ⟨x1, rfl, k1⟩ := Dat.of (α := Int) _ h1
  obtain ⟨x2, rfl, k2⟩ := Dat.of (α := Int) _ h2
  obtain ⟨x3, rfl, k3⟩ := Dat.of (α := Bool) _ g2
  exact ⟨⟨x0, x1, x2, x3⟩, rfl, k0, k1, k2, k3⟩
structure GGraph where
 Parent : List Int
 Bound : List Int
 Nodes : List GNode
 Edges : List GEdge
instance : Row GGraph := ⟨4, fun x => [.sl 1 (enc x.Parent), .sl 1 (enc x.Bound), .sl 4 (enc x.Nodes), .sl 4 (enc x.Edges)]⟩
@[go_sem] theorem row_GGraph (x : GGraph) : Row.row x = [.sl 1 (enc x.Parent), .sl 1 (enc x.Bound), .sl 4 (enc x.Nodes), .sl 4 (enc x.Edges)] := rfl
@[go_sem] theorem sz_GGraph : Row.sz GGraph = 4 := rfl
instance : Dat GGraph where
 ct := Dat.ct (List Int) ++ (Dat.ct (List Int) ++ (Dat.ct (List GNode) ++ (Dat.ct (List GEdge))))
 ok x := Dat.ok x.Parent ∧ Dat.ok x.Bound ∧ Dat.ok x.Nodes ∧ Dat.ok x.Edges
 len := rfl
 of avs h := by
  obtain ⟨b0, r0, rfl, h0, g0⟩ := rowOK_split h
  obtain ⟨b1, r1, rfl, h1, g1⟩ := rowOK_split g0
  obtain ⟨b2, r2, rfl, h2, g2⟩ := rowOK_split g1
  obtain ⟨x0, rfl, k0⟩ := Dat.of (α := List Int) _ h0
  obtain ⟨x1, rfl, k1⟩ := Dat.of (α := List Int) _ h1
  obtain ⟨x2, rfl, k2⟩ := Dat.of (α := List GNode) _ h2
  obtain ⟨x3, rfl, k3⟩ := Dat.of (α := List GEdge) _ g2
  exact ⟨⟨x0, x1, x2, x3⟩, rfl, k0, k1, k2, k3⟩
structure GFuse_work where
 g : GGraph
 gone : List Bool
instance : Row GFuse_work := ⟨5, fun x => [.sl 1 (enc x.g.Parent), .sl 1 (enc x.g.Bound), .sl 4 (enc x.g.Nodes), .sl 4 (enc x.g.Edges), .sl 1 (enc x.gone)]⟩
@[go_sem] theorem row_GFuse_work (x : GFuse_work) : Row.row x = [.sl 1 (enc x.g.Parent), .sl 1 (enc x.g.Bound), .sl 4 (enc x.g.Nodes), .sl 4 (enc x.g.Edges), .sl 1 (enc x.gone)] := rfl
@[go_sem] theorem sz_GFuse_work : Row.sz GFuse_work = 5 := rfl
instance : Dat GFuse_work where
 ct := Dat.ct GGraph ++ (Dat.ct (List Bool))
 ok x := Dat.ok x.g ∧ Dat.ok x.gone
 len := rfl
 of avs h := by
  obtain ⟨b0, r0, rfl, h0, g0⟩ := rowOK_split h
  obtain ⟨x0, rfl, k0⟩ := Dat.of (α := GGraph) _ h0
  obtain ⟨x1, rfl, k1⟩ := Dat.of (α := List Bool) _ g0
  exact ⟨⟨x0, x1⟩, rfl, k0, k1⟩
structure GFused where
 Graph : GGraph
 Now : List Int
instance : Row GFused := ⟨5, fun x => [.sl 1 (enc x.Graph.Parent), .sl 1 (enc x.Graph.Bound), .sl 4 (enc x.Graph.Nodes), .sl 4 (enc x.Graph.Edges), .sl 1 (enc x.Now)]⟩
@[go_sem] theorem row_GFused (x : GFused) : Row.row x = [.sl 1 (enc x.Graph.Parent), .sl 1 (enc x.Graph.Bound), .sl 4 (enc x.Graph.Nodes), .sl 4 (enc x.Graph.Edges), .sl 1 (enc x.Now)] := rfl
@[go_sem] theorem sz_GFused : Row.sz GFused = 5 := rfl
instance : Dat GFused where
 ct := Dat.ct GGraph ++ (Dat.ct (List Int))
 ok x := Dat.ok x.Graph ∧ Dat.ok x.Now
 len := rfl
 of avs h := by
  obtain ⟨b0, r0, rfl, h0, g0⟩ := rowOK_split h
  obtain ⟨x0, rfl, k0⟩ := Dat.of (α := GGraph) _ h0
  obtain ⟨x1, rfl, k1⟩ := Dat.of (α := List Int) _ g0
  exact ⟨⟨x0, x1⟩, rfl, k0, k1⟩
structure GBackwashref24_state where
 edges : List GEdge
 gone : List Bool
instance : Row GBackwashref24_state := ⟨2, fun x => [.sl 4 (enc x.edges), .sl 1 (enc x.gone)]⟩
@[go_sem] theorem row_GBackwashref24_state (x : GBackwashref24_state) : Row.row x = [.sl 4 (enc x.edges), .sl 1 (enc x.gone)] := rfl
@[go_sem] theorem sz_GBackwashref24_state : Row.sz GBackwashref24_state = 2 := rfl
instance : Dat GBackwashref24_state where
 ct := Dat.ct (List GEdge) ++ (Dat.ct (List Bool))
 ok x := Dat.ok x.edges ∧ Dat.ok x.gone
 len := rfl
 of avs h := by
  obtain ⟨b0, r0, rfl, h0, g0⟩ := rowOK_split h
  obtain ⟨x0, rfl, k0⟩ := Dat.of (α := List GEdge) _ h0
  obtain ⟨x1, rfl, k1⟩ := Dat.of (α := List Bool) _ g0
  exact ⟨⟨x0, x1⟩, rfl, k0, k1⟩
@[go_sem] theorem eqT43 : EqT Try.prog 43 [some .i64, some .i64, some .i64, none] := EqT_of (by kernel_rfl) (by kernel_rfl) (by kernel_rfl)
@[go_sem] theorem eqT70 : EqT Try.prog 70 [some .i64, some .i64] := EqT_of (by kernel_rfl) (by kernel_rfl) (by kernel_rfl)
attribute [go_sem] Try.ntmps3 Try.results3 Try.ntmps4 Try.results4 Try.ntmps5 Try.results5 Try.ntmps6 Try.results6 Try.ntmps7 Try.results7 Try.ntmps8 Try.results8 Try.ntmps9 Try.results9 Try.ntmps10 Try.results10 Try.ntmps11 Try.results11 Try.ntmps12 Try.results12 Try.ntmps13 Try.results13 Try.ntmps14 Try.results14 Try.ntmps15 Try.results15 Try.ntmps16 Try.results16 Try.ntmps17 Try.results17 Try.ntmps18 Try.results18 Try.ntmps19 Try.results19 Try.ntmps20 Try.results20 Try.ntmps21 Try.results21 Try.ntmps22 Try.results22 Try.ntmps23 Try.results23 Try.ntmps24 Try.results24 Try.ntmps25 Try.results25 Try.ntmps26 Try.results26 Try.ntmps27 Try.results27 Try.ntmps28 Try.results28 Try.ntmps29 Try.results29 Try.ntmps30 Try.results30 Try.ntmps31 Try.results31 Try.ntmps32 Try.results32 Try.ntmps33 Try.results33 Try.ntmps34 Try.results34 Try.ntmps35 Try.results35 Try.ntmps36 Try.results36 Try.ntmps37 Try.results37 Try.ntmps38 Try.results38 Try.ntmps39 Try.results39 Try.ntmps40 Try.results40 Try.ntmps41 Try.results41 Try.ntmps42 Try.results42 Try.ntmps43 Try.results43 Try.ntmps44 Try.results44 Try.ntmps45 Try.results45 Try.ntmps46 Try.results46 Try.ntmps47 Try.results47 Try.ntmps48 Try.results48 Try.ntmps49 Try.results49 Try.ntmps50 Try.results50 Try.ntmps51 Try.results51 Try.ntmps52 Try.results52 Try.ntmps53 Try.results53 Try.ntmps54 Try.results54 Try.ntmps55 Try.results55 Try.ntmps56 Try.results56 Try.ntmps57 Try.results57 Try.ntmps58 Try.results58 Try.ntmps59 Try.results59 Try.ntmps60 Try.results60 Try.ntmps61 Try.results61 Try.ntmps62 Try.results62 Try.ntmps63 Try.results63 Try.ntmps64 Try.results64 Try.ntmps65 Try.results65 Try.ntmps66 Try.results66 Try.ntmps67 Try.results67 Try.ntmps68 Try.results68

def f_valid_inside (nv_0 : Int) (size_0 : Int) : Option Bool :=
 some ((decide (0 ≤ nv_0)) && (decide (nv_0 < size_0)))
theorem f_valid_inside_ok (nv_0 : Int) (size_0 : Int)  (r : Bool) (h : f_valid_inside nv_0 size_0 = some r) : PureS Try.prog 43 [.v (.int .i64 nv_0), .v (.int .i64 size_0)] 0 (.v (.bool r)) := by
 unfold PureS
 refine Spec.of_vc Try.func43 rfl (by kernel_rfl) (by kernel_rfl) ?_
 rw [f_valid_inside] at h
 refine sg fun QQ1 hQ1 => ?_
 simp only [go_sem]
 refine seqQ_normal hQ1 ?_
 refine sg fun QQ2 hQ2 => ?_
 simp only [go_sem]
 refine seqQ_normal hQ2 ?_
 refine vc_ret_of ?_
 simp only [go_sem]
 obtain rfl := Option.some.inj h
 refine retW_pure rfl ?_
 simp only [go_sem, Le]

def f_valid_Depth_B1 (g_0 : GGraph) (rec_1 : Int × Int → Option Int) : Int × Int → Option Int :=
 fun (d_1, s_1) =>
 bindO (f_valid_inside s_1 (List.length g_0.Parent : Int)) (fun (v_2 : Bool) =>
 (if (v_2 && (decide (d_1 ≤ 8))) = true then bindO (idx g_0.Parent s_1) (fun (xv_2 : Int) =>
 rec_1 (IntKind.i64.wrap (d_1 + 1), xv_2))
 else some d_1))
def f_valid_Depth (g_0 : GGraph) (scope_0 : Int) : Option Int :=
 loopK (f_valid_Depth_B1 g_0) rounds (0, scope_0)
theorem f_valid_Depth_ok (g_0 : GGraph) (scope_0 : Int)  (r : Int) (h : f_valid_Depth g_0 scope_0 = some r) : PureS Try.prog 44 [.agg [.sl 1 (enc g_0.Parent), .sl 1 (enc g_0.Bound), .sl 4 (enc g_0.Nodes), .sl 4 (enc g_0.Edges)], .v (.int .i64 scope_0)] 0 (.v (.int .i64 r)) := by
 unfold PureS
 refine Spec.of_vc Try.func44 rfl (by kernel_rfl) (by kernel_rfl) ?_
 rw [f_valid_Depth] at h
 refine sg fun QQ1 hQ1 => ?_
 simp only [go_sem]
 refine seqQ_normal hQ1 ?_
 refine sg fun QQ2 hQ2 => ?_
 simp only [go_sem]
 refine seqQ_normal hQ2 ?_
 refine vc_join (by kernel_rfl) ?_
 refine seq_go_gen ?_
 intro QQ3 hQ3
 refine sg fun QQ4 hQ4 => ?_
 simp only [go_sem]
 refine seqQ_normal hQ4 ?_
 refine vc_block_gen ?_
 intro QQ5 hQ5
 refine vc_loop_of ?_
 refine loop_gen (ι := Nat × Int × Int) (fun ((_, d_1, s_1) : Nat × Int × Int) => (⟨0, [(2, .ptr 0 0), (5, .v (.int .i64 d_1)), (6, .v (.int .i64 s_1))], [(0, .box [.sl 1 (enc g_0.Parent), .sl 1 (enc g_0.Bound), .sl 4 (enc g_0.Nodes), .sl 4 (enc g_0.Edges)])], 1, 25⟩ : St)) (fun ((n_, d_1, s_1) : Nat × Int × Int) => loopK (f_valid_Depth_B1 g_0) n_ (d_1, s_1) = some r) (fun p => p.1) (rounds, 0, scope_0) [some 0] ?_ h ?_
 · simp only [go_sem, Le]
 ·
  rintro ⟨n_1, d_1, s_1⟩ h QQ6 hQ6
  dsimp only at h
  replace h := loopK_some h
  obtain ⟨m_1, rfl, h⟩ := h
  rw [f_valid_Depth_B1] at h
  refine sg fun QQ7 hQ7 => ?_
  refine sg fun QQ8 hQ8 => ?_
  obtain ⟨v_2, ev_2, h⟩ := bindO_some h
  simp only [go_sem]
  refine call0 (f_valid_inside_ok s_1 (List.length g_0.Parent : Int) v_2 ev_2) (by rfl) (by rfl) ?_
  simp only [go_sem]
  refine seqQ_normal hQ8 ?_
  refine vc_cond_of (b := (v_2 && (decide (d_1 ≤ 8)))) (by (simp only [go_sem]; done)) (fun hb_2 => ?_) (fun hb_2 => ?_)
  ·
   replace h := if_t h hb_2
   simp only [bool_to_prop] at hb_2
   refine vc_skip_of ?_
   refine seqQ_normal hQ7 ?_
   refine sg fun QQ9 hQ9 => ?_
   refine vc_block_gen ?_
   intro QQ10 hQ10
   simp only [go_sem]
   refine blockQ_normal hQ10 ?_
   refine seqQ_normal hQ9 ?_
   obtain ⟨xv_2, exv_2, h⟩ := bindO_some h
   obtain ⟨fxv_2a, fxv_2b, fxv_2c⟩ := idx_spec exv_2
   simp only [go_sem, fxv_2a, fxv_2b, fxv_2c]
   refine And.intro (by omega) ?_
   refine thenQ_normal hQ6 ?_
   refine ⟨(m_1, IntKind.i64.wrap (d_1 + 1), xv_2), [some 0], ?_, h, Nat.lt_succ_self _⟩
   simp only [go_sem, Le]
  ·
   replace h := if_f h hb_2
   simp only [bool_to_prop] at hb_2
   refine vc_exit_of ?_
   refine seqQ_exit hQ7 ?_
   refine thenQ_exit hQ6 ?_
   refine blockQ_exit hQ5 ?_
   refine seqQ_normal hQ3 ?_
   refine sg fun QQ11 hQ11 => ?_
   simp only [go_sem]
   refine seqQ_normal hQ11 ?_
   refine vc_ret_of ?_
   simp only [go_sem]
   obtain rfl := Option.some.inj h
   refine retW_pure rfl ?_
   simp only [go_sem, Le]

def f_valid_scope (g_0 : GGraph) (s_0 : Int) : Option Bool :=
 (if (s_0 == 0) = true then bindO (idx g_0.Parent 0) (fun (xv_0 : Int) =>
 (if (xv_0 == (-1)) = true then bindO (idx g_0.Bound 0) (fun (xv_1 : Int) =>
 some (xv_1 == 0))
 else some false))
 else bindO (idx g_0.Parent s_0) (fun (xv_2 : Int) =>
 bindO (f_valid_inside xv_2 s_0) (fun (v_0 : Bool) =>
 (if v_0 = true then bindO (idx g_0.Bound s_0) (fun (xv_3 : Int) =>
 (if (decide (1 ≤ xv_3)) = true then (if (decide (xv_3 ≤ 64)) = true then bindO (f_valid_Depth g_0 s_0) (fun (v_1 : Int) =>
 some (decide (v_1 ≤ 4)))
 else some false)
 else some false))
 else some false))))
theorem f_valid_scope_ok (g_0 : GGraph) (s_0 : Int)  (r : Bool) (h : f_valid_scope g_0 s_0 = some r) : PureS Try.prog 19 [.agg [.sl 1 (enc g_0.Parent), .sl 1 (enc g_0.Bound), .sl 4 (enc g_0.Nodes), .sl 4 (enc g_0.Edges)], .v (.int .i64 s_0)] 0 (.v (.bool r)) := by
 unfold PureS
 refine Spec.of_vc Try.func19 rfl (by kernel_rfl) (by kernel_rfl) ?_
 rw [f_valid_scope] at h
 refine sg fun QQ1 hQ1 => ?_
 simp only [go_sem]
 refine seqQ_normal hQ1 ?_
 refine sg fun QQ2 hQ2 => ?_
 refine sg fun QQ3 hQ3 => ?_
 simp only [go_sem]
 refine seqQ_normal hQ3 ?_
 refine vc_cond_of (b := (s_0 == 0)) (by (simp only [go_sem]; done)) (fun hb_0 => ?_) (fun hb_0 => ?_)
 ·
  replace h := if_t h hb_0
  simp only [bool_to_prop] at hb_0
  refine sg fun QQ4 hQ4 => ?_
  obtain ⟨xv_0, exv_0, h⟩ := bindO_some h
  obtain ⟨fxv_0a, fxv_0b, fxv_0c⟩ := idx_spec exv_0
  simp only [Int.toNat_natCast, Int.reduceToNat] at fxv_0c
  simp only [go_sem, fxv_0a, fxv_0b, fxv_0c]
  refine And.intro (by omega) ?_
  rcases hb_1 : (xv_0 == (-1)) with _ | _
  ·
   replace h := if_f h hb_1
   simp only [go_sem, hb_1]
   refine seqQ_normal hQ4 ?_
   refine vc_ret_of ?_
   refine seqQ_ret hQ2 ?_
   simp only [go_sem]
   obtain rfl := Option.some.inj h
   refine retW_pure rfl ?_
   simp only [go_sem, Le]
  ·
   replace h := if_t h hb_1
   obtain ⟨xv_1, exv_1, h⟩ := bindO_some h
   obtain ⟨fxv_1a, fxv_1b, fxv_1c⟩ := idx_spec exv_1
   simp only [Int.toNat_natCast, Int.reduceToNat] at fxv_1c
   simp only [go_sem, hb_1, fxv_1a, fxv_1b, fxv_1c]
   refine And.intro (by omega) ?_
   refine seqQ_normal hQ4 ?_
   refine vc_ret_of ?_
   refine seqQ_ret hQ2 ?_
   simp only [go_sem]
   obtain rfl := Option.some.inj h
   refine retW_pure rfl ?_
   simp only [go_sem, Le]
 ·
  replace h := if_f h hb_0
  simp only [bool_to_prop] at hb_0
  refine vc_skip_of ?_
  refine seqQ_normal hQ2 ?_
  refine sg fun QQ5 hQ5 => ?_
  obtain ⟨xv_2, exv_2, h⟩ := bindO_some h
  obtain ⟨fxv_2a, fxv_2b, fxv_2c⟩ := idx_spec exv_2
  obtain ⟨v_0, ev_0, h⟩ := bindO_some h
  simp only [go_sem, fxv_2a, fxv_2b, fxv_2c]
  refine And.intro (by omega) ?_
  refine call0 (f_valid_inside_ok xv_2 s_0 v_0 ev_0) (by rfl) (by rfl) ?_
  simp only [go_sem]
  rcases hb_2 : v_0 with _ | _
  ·
   replace h := if_f h hb_2
   simp only [go_sem, hb_2]
   refine seqQ_normal hQ5 ?_
   refine vc_ret_of ?_
   simp only [go_sem]
   obtain rfl := Option.some.inj h
   refine retW_pure rfl ?_
   simp only [go_sem, Le]
  ·
   replace h := if_t h hb_2
   obtain ⟨xv_3, exv_3, h⟩ := bindO_some h
   obtain ⟨fxv_3a, fxv_3b, fxv_3c⟩ := idx_spec exv_3
   simp only [go_sem, hb_2, fxv_3a, fxv_3b, fxv_3c]
   refine And.intro (by omega) ?_
   rcases hb_3 : (decide (1 ≤ xv_3)) with _ | _
   ·
    replace h := if_f h hb_3
    simp only [go_sem, hb_3]
    refine seqQ_normal hQ5 ?_
    refine vc_ret_of ?_
    simp only [go_sem]
    obtain rfl := Option.some.inj h
    refine retW_pure rfl ?_
    simp only [go_sem, Le]
   ·
    replace h := if_t h hb_3
    simp only [go_sem, hb_3, fxv_3a, fxv_3b, fxv_3c]
    refine And.intro (by omega) ?_
    rcases hb_4 : (decide (xv_3 ≤ 64)) with _ | _
    ·
     replace h := if_f h hb_4
     simp only [go_sem, hb_4]
     refine seqQ_normal hQ5 ?_
     refine vc_ret_of ?_
     simp only [go_sem]
     obtain rfl := Option.some.inj h
     refine retW_pure rfl ?_
     simp only [go_sem, Le]
    ·
     replace h := if_t h hb_4
     obtain ⟨v_1, ev_1, h⟩ := bindO_some h
     simp only [go_sem, hb_4]
     refine call0 (f_valid_Depth_ok g_0 s_0 v_1 ev_1) (by rfl) (by rfl) ?_
     simp only [go_sem]
     refine seqQ_normal hQ5 ?_
     refine vc_ret_of ?_
     simp only [go_sem]
     obtain rfl := Option.some.inj h
     refine retW_pure rfl ?_
     simp only [go_sem, Le]

def f_backwashref09_Chain_B1 (g_0 : GGraph) (rec_1 : Int × (List Int) → Option (List Int)) : Int × (List Int) → Option (List Int) :=
 fun (s_2, a_1) =>
 (if (((decide (0 ≤ s_2)) && (decide (s_2 < (List.length g_0.Parent : Int)))) && (decide ((List.length a_1 : Int) < 10))) = true then guardO ((List.length ([s_2] : List Int) + List.length a_1) * 8 ≤ 140737488355328) (
 bindO (idx g_0.Parent s_2) (fun (xv_2 : Int) =>
 rec_1 (xv_2, (([s_2] : List Int) ++ a_1))))
 else some a_1)
def f_backwashref09_Chain (g_0 : GGraph) (s_0 : Int) : Option (List Int) :=
 loopK (f_backwashref09_Chain_B1 g_0) rounds (s_0, [])
def f_slices_IndexFunc_Node_B1 (s_0 : List GNode) (f_0 : GNode → Option Bool) (rec_1 : Int → Option Int) : Int → Option Int :=
 fun t8_1 =>
 (if (decide (t8_1 < (List.length s_0 : Int))) = true then bindO (idx s_0 t8_1) (fun (xv_2 : GNode) =>
 bindO (f_0 xv_2) (fun (v_2 : Bool) =>
 (if v_2 = true then some t8_1
 else rec_1 (IntKind.i64.wrap (t8_1 + 1)))))
 else some (-1))
def f_slices_IndexFunc_Node (s_0 : List GNode) (f_0 : GNode → Option Bool) : Option Int :=
 loopK (f_slices_IndexFunc_Node_B1 s_0 f_0) rounds 0
theorem f_slices_IndexFunc_Node_ok (s_0 : List GNode) (f_0 : GNode → Option Bool) (g_f_0 : FuncId) (c_f_0 : List AV) (F_f_0 : idFreeL c_f_0 = true) (E_f_0 : entB Try.prog g_f_0 = true) (H_f_0 : ∀ (x0 : GNode) (r : Bool), f_0 x0 = some r → PureS Try.prog g_f_0 ([.agg [.v (.int .i64 x0.Kind), .v (.int .i64 x0.Scope), .v (.int .i64 x0.Arg), .sl 2 (enc x0.Prog)]] ++ c_f_0) 0 (.v (.bool r))) (r : Int) (h : f_slices_IndexFunc_Node s_0 f_0 = some r) : PureS Try.prog 68 [.sl 4 (enc s_0), .clo g_f_0 c_f_0] 0 (.v (.int .i64 r)) := by
 unfold PureS
 refine Spec.of_vc Try.func68 rfl (by kernel_rfl) (by kernel_rfl) ?_
 rw [f_slices_IndexFunc_Node] at h
 refine sg fun QQ1 hQ1 => ?_
 simp only [go_sem]
 refine seqQ_normal hQ1 ?_
 refine vc_join (by kernel_rfl) ?_
 refine seq_go_gen ?_
 intro QQ2 hQ2
 refine sg fun QQ3 hQ3 => ?_
 simp only [go_sem]
 refine seqQ_normal hQ3 ?_
 refine vc_block_gen ?_
 intro QQ4 hQ4
 refine vc_loop_of ?_
 refine loop_gen (ι := Nat × Int) (fun ((_, t8_1) : Nat × Int) => (⟨0, [(0, .sl 4 (enc s_0)), (1, .clo g_f_0 c_f_0), (7, .v (.int .i64 (List.length s_0 : Int))), (8, .v (.int .i64 t8_1))], [], 0, 19⟩ : St)) (fun ((n_, t8_1) : Nat × Int) => loopK (f_slices_IndexFunc_Node_B1 s_0 f_0) n_ t8_1 = some r) (fun p => p.1) (rounds, 0) [] ?_ h ?_
 · simp only [go_sem, Le, AvLeL_free _ F_f_0]
 ·
  rintro ⟨n_1, t8_1⟩ h QQ5 hQ5
  dsimp only at h
  replace h := loopK_some h
  obtain ⟨m_1, rfl, h⟩ := h
  rw [f_slices_IndexFunc_Node_B1] at h
  refine sg fun QQ6 hQ6 => ?_
  simp only [go_sem]
  refine seqQ_normal hQ6 ?_
  refine sg fun QQ7 hQ7 => ?_
  refine vc_cond_of (b := (decide (t8_1 < (List.length s_0 : Int)))) (by (simp only [go_sem]; done)) (fun hb_4 => ?_) (fun hb_4 => ?_)
  ·
   replace h := if_t h hb_4
   simp only [bool_to_prop] at hb_4
   refine vc_skip_of ?_
   refine seqQ_normal hQ7 ?_
   refine sg fun QQ8 hQ8 => ?_
   refine vc_block_gen ?_
   intro QQ9 hQ9
   refine sg fun QQ10 hQ10 => ?_
   simp only [go_sem]
   refine seqQ_normal hQ10 ?_
   refine sg fun QQ11 hQ11 => ?_
   obtain ⟨xv_2, exv_2, h⟩ := bindO_some h
   obtain ⟨fxv_2a, fxv_2b, fxv_2c⟩ := idx_spec exv_2
   obtain ⟨v_2, ev_2, h⟩ := bindO_some h
   simp only [go_sem, fxv_2a, fxv_2b, fxv_2c, E_f_0]
   refine And.intro (by omega) ?_
   refine call0 (H_f_0 xv_2 v_2 ev_2) (by rfl) (by simp [idFreeL, idFree, F_f_0]) ?_
   simp only [go_sem]
   refine seqQ_normal hQ11 ?_
   refine vc_cond_of (b := v_2) (by (simp only [go_sem]; done)) (fun hb_5 => ?_) (fun hb_5 => ?_)
   ·
    replace h := if_t h hb_5
    refine sg fun QQ12 hQ12 => ?_
    simp only [go_sem]
    refine seqQ_normal hQ12 ?_
    refine vc_ret_of ?_
    refine blockQ_ret hQ9 ?_
    refine seqQ_ret hQ8 ?_
    refine thenQ_ret hQ5 ?_
    refine blockQ_ret hQ4 ?_
    refine seqQ_ret hQ2 ?_
    simp only [go_sem]
    obtain rfl := Option.some.inj h
    refine retW_pure rfl ?_
    simp only [go_sem, Le, AvLeL_free _ F_f_0]
   ·
    replace h := if_f h hb_5
    refine vc_skip_of ?_
    refine blockQ_normal hQ9 ?_
    refine seqQ_normal hQ8 ?_
    simp only [go_sem]
    refine thenQ_normal hQ5 ?_
    refine ⟨(m_1, IntKind.i64.wrap (t8_1 + 1)), [], ?_, h, Nat.lt_succ_self _⟩
    simp only [go_sem, Le, AvLeL_free _ F_f_0]
  ·
   replace h := if_f h hb_4
   simp only [bool_to_prop] at hb_4
   refine vc_exit_of ?_
   refine seqQ_exit hQ7 ?_
   refine thenQ_exit hQ5 ?_
   refine blockQ_exit hQ4 ?_
   refine seqQ_normal hQ2 ?_
   refine sg fun QQ13 hQ13 => ?_
   simp only [go_sem]
   refine seqQ_normal hQ13 ?_
   refine vc_ret_of ?_
   simp only [go_sem]
   obtain rfl := Option.some.inj h
   refine retW_pure rfl ?_
   simp only [go_sem, Le, AvLeL_free _ F_f_0]

def f_slices_ContainsFunc_Node (s_0 : List GNode) (f_0 : GNode → Option Bool) : Option Bool :=
 bindO (f_slices_IndexFunc_Node s_0 f_0) (fun (v_0 : Int) =>
 some (decide (0 ≤ v_0)))
theorem f_slices_ContainsFunc_Node_ok (s_0 : List GNode) (f_0 : GNode → Option Bool) (g_f_0 : FuncId) (c_f_0 : List AV) (F_f_0 : idFreeL c_f_0 = true) (E_f_0 : entB Try.prog g_f_0 = true) (H_f_0 : ∀ (x0 : GNode) (r : Bool), f_0 x0 = some r → PureS Try.prog g_f_0 ([.agg [.v (.int .i64 x0.Kind), .v (.int .i64 x0.Scope), .v (.int .i64 x0.Arg), .sl 2 (enc x0.Prog)]] ++ c_f_0) 0 (.v (.bool r))) (r : Bool) (h : f_slices_ContainsFunc_Node s_0 f_0 = some r) : PureS Try.prog 62 [.sl 4 (enc s_0), .clo g_f_0 c_f_0] 0 (.v (.bool r)) := by
 unfold PureS
 refine Spec.of_vc Try.func62 rfl (by kernel_rfl) (by kernel_rfl) ?_
 rw [f_slices_ContainsFunc_Node] at h
 refine sg fun QQ1 hQ1 => ?_
 simp only [go_sem]
 refine seqQ_normal hQ1 ?_
 refine sg fun QQ2 hQ2 => ?_
 obtain ⟨v_0, ev_0, h⟩ := bindO_some h
 simp only [go_sem]
 refine call0 (f_slices_IndexFunc_Node_ok s_0 f_0 g_f_0 c_f_0 F_f_0 E_f_0 H_f_0 v_0 ev_0) (by rfl) (by simp [idFreeL, idFree, F_f_0]) ?_
 simp only [go_sem]
 refine seqQ_normal hQ2 ?_
 refine vc_ret_of ?_
 simp only [go_sem]
 obtain rfl := Option.some.inj h
 refine retW_pure rfl ?_
 simp only [go_sem, Le, AvLeL_free _ F_f_0]

def f_valid_behind_1 (xv_0 : GNode) (cap_0 : Int) : Option Bool :=
 some (xv_0.Scope == cap_0)
theorem f_valid_behind_1_ok (xv_0 : GNode) (cap_0 : Int)  (r : Bool) (h : f_valid_behind_1 xv_0 cap_0 = some r) : PureS Try.prog 63 [.agg [.v (.int .i64 xv_0.Kind), .v (.int .i64 xv_0.Scope), .v (.int .i64 xv_0.Arg), .sl 2 (enc xv_0.Prog)], .el 1 [[.v (.int .i64 cap_0)]] 0 0] 0 (.v (.bool r)) := by
 unfold PureS
 refine Spec.of_vc Try.func63 rfl (by kernel_rfl) (by kernel_rfl) ?_
 rw [f_valid_behind_1] at h
 refine sg fun QQ1 hQ1 => ?_
 simp only [go_sem]
 refine seqQ_normal hQ1 ?_
 refine sg fun QQ2 hQ2 => ?_
 simp only [go_sem]
 refine seqQ_normal hQ2 ?_
 refine vc_ret_of ?_
 simp only [go_sem]
 obtain rfl := Option.some.inj h
 refine retW_pure rfl ?_
 simp only [go_sem, Le]

def f_valid_behind_J1 (g_0 : GGraph) (nv_0 : Int) (xv_0 : GNode) (fresh_2 : Bool) : Option Bool :=
 (if fresh_2 = true then guardO (0 ≤ 0 ∧ 0 ≤ nv_0 ∧ nv_0 ≤ (List.length g_0.Nodes : Int)) (
 bindO (f_slices_ContainsFunc_Node (List.take (Int.toNat nv_0) g_0.Nodes) (fun x0_ => f_valid_behind_1 x0_ xv_0.Scope)) (fun (v_0 : Bool) =>
 some (!v_0)))
 else some false)
def f_valid_behind_B2 (g_0 : GGraph) (nv_0 : Int) (xv_0 : GNode) (xv_2 : Int) (rec_2 : Bool × Int → Option Bool) : Bool × Int → Option Bool :=
 fun (fresh_4, p_3) =>
 (if (decide (0 ≤ p_3)) = true then (if (p_3 == xv_0.Scope) = true then some true
 else bindO (idx g_0.Parent p_3) (fun (xv_8 : Int) =>
 rec_2 ((fresh_4 || (p_3 == xv_2)), xv_8)))
 else f_valid_behind_J1 g_0 nv_0 xv_0 fresh_4)
def f_valid_behind (g_0 : GGraph) (nv_0 : Int) : Option Bool :=
 bindO (idx g_0.Nodes nv_0) (fun (xv_0 : GNode) =>
 (if (nv_0 == 0) = true then some (xv_0.Scope == 0)
 else bindO (idx g_0.Nodes (IntKind.i64.wrap (nv_0 - 1))) (fun (xv_1 : GNode) =>
 bindO (idx g_0.Parent xv_0.Scope) (fun (xv_2 : Int) =>
 loopK (f_valid_behind_B2 g_0 nv_0 xv_0 xv_2) rounds (false, xv_1.Scope)))))
theorem f_valid_behind_ok (g_0 : GGraph) (nv_0 : Int)  (r : Bool) (h : f_valid_behind g_0 nv_0 = some r) : PureS Try.prog 46 [.agg [.sl 1 (enc g_0.Parent), .sl 1 (enc g_0.Bound), .sl 4 (enc g_0.Nodes), .sl 4 (enc g_0.Edges)], .v (.int .i64 nv_0)] 0 (.v (.bool r)) := by
 unfold PureS
 refine Spec.of_vc Try.func46 rfl (by kernel_rfl) (by kernel_rfl) ?_
 rw [f_valid_behind] at h
 refine sg fun QQ1 hQ1 => ?_
 simp only [go_sem]
 refine seqQ_normal hQ1 ?_
 refine sg fun QQ2 hQ2 => ?_
 obtain ⟨xv_0, exv_0, h⟩ := bindO_some h
 obtain ⟨fxv_0a, fxv_0b, fxv_0c⟩ := idx_spec exv_0
 simp only [go_sem, fxv_0a, fxv_0b, fxv_0c]
 refine And.intro (by omega) ?_
 refine seqQ_normal hQ2 ?_
 refine sg fun QQ3 hQ3 => ?_
 refine sg fun QQ4 hQ4 => ?_
 simp only [go_sem]
 refine seqQ_normal hQ4 ?_
 refine vc_cond_of (b := (nv_0 == 0)) (by (simp only [go_sem]; done)) (fun hb_0 => ?_) (fun hb_0 => ?_)
 ·
  replace h := if_t h hb_0
  simp only [bool_to_prop] at hb_0
  refine sg fun QQ5 hQ5 => ?_
  simp only [go_sem]
  refine seqQ_normal hQ5 ?_
  refine vc_ret_of ?_
  refine seqQ_ret hQ3 ?_
  simp only [go_sem]
  obtain rfl := Option.some.inj h
  refine retW_pure rfl ?_
  simp only [go_sem, Le]
 ·
  replace h := if_f h hb_0
  simp only [bool_to_prop] at hb_0
  refine vc_skip_of ?_
  refine seqQ_normal hQ3 ?_
  refine sg fun QQ6 hQ6 => ?_
  obtain ⟨xv_1, exv_1, h⟩ := bindO_some h
  obtain ⟨fxv_1a, fxv_1b, fxv_1c⟩ := idx_spec exv_1
  simp only [go_sem, fxv_1a, fxv_1b, fxv_1c]
  refine And.intro (by omega) ?_
  refine seqQ_normal hQ6 ?_
  refine sg fun QQ7 hQ7 => ?_
  obtain ⟨xv_2, exv_2, h⟩ := bindO_some h
  obtain ⟨fxv_2a, fxv_2b, fxv_2c⟩ := idx_spec exv_2
  simp only [go_sem, fxv_2a, fxv_2b, fxv_2c]
  refine And.intro (by omega) ?_
  refine seqQ_normal hQ7 ?_
  refine sg fun QQ8 hQ8 => ?_
  simp only [go_sem]
  refine seqQ_normal hQ8 ?_
  refine vc_join (by kernel_rfl) ?_
  refine seq_cut_gen (ι := Bool) (fun (fresh_2 : Bool) => (⟨0, [(1, .v (.int .i64 nv_0)), (2, .ptr 0 0), (5, .ptr 1 0), (8, .v (.bool fresh_2))], [(0, .box [.sl 1 (enc g_0.Parent), .sl 1 (enc g_0.Bound), .sl 4 (enc g_0.Nodes), .sl 4 (enc g_0.Edges)]), (1, .box [.v (.int .i64 xv_0.Scope)])], 2, 59⟩ : St)) (fun (fresh_2 : Bool) => f_valid_behind_J1 g_0 nv_0 xv_0 fresh_2 = some r) ?_ ?_
  ·
   intro QQ10 hQ10
   refine sg fun QQ11 hQ11 => ?_
   simp only [go_sem]
   refine seqQ_normal hQ11 ?_
   refine vc_block_gen ?_
   intro QQ12 hQ12
   refine vc_loop_of ?_
   refine loop_gen (ι := Nat × Bool × Int) (fun ((_, fresh_4, p_3) : Nat × Bool × Int) => (⟨0, [(1, .v (.int .i64 nv_0)), (2, .ptr 0 0), (5, .ptr 1 0), (7, .v (.int .i64 xv_2)), (8, .v (.bool fresh_4)), (9, .v (.int .i64 p_3))], [(0, .box [.sl 1 (enc g_0.Parent), .sl 1 (enc g_0.Bound), .sl 4 (enc g_0.Nodes), .sl 4 (enc g_0.Edges)]), (1, .box [.v (.int .i64 xv_0.Scope)])], 2, 59⟩ : St)) (fun ((n_, fresh_4, p_3) : Nat × Bool × Int) => loopK (f_valid_behind_B2 g_0 nv_0 xv_0 xv_2) n_ (fresh_4, p_3) = some r) (fun p => p.1) (rounds, false, xv_1.Scope) [some 0, some 1] ?_ h ?_
   · simp only [go_sem, Le] <;> (repeat' apply And.intro) <;> first | ((try with_reducible refine TL_eq ?_); omega) | ((try with_reducible refine TL_eq ?_); (simp [go_sem]; done))
   ·
    rintro ⟨n_2, fresh_4, p_3⟩ h QQ13 hQ13
    dsimp only at h
    replace h := loopK_some h
    obtain ⟨m_2, rfl, h⟩ := h
    rw [f_valid_behind_B2] at h
    refine sg fun QQ14 hQ14 => ?_
    refine sg fun QQ15 hQ15 => ?_
    simp only [go_sem]
    refine seqQ_normal hQ15 ?_
    refine vc_cond_of (b := (decide (0 ≤ p_3))) (by (simp only [go_sem]; done)) (fun hb_12 => ?_) (fun hb_12 => ?_)
    ·
     replace h := if_t h hb_12
     simp only [bool_to_prop] at hb_12
     refine vc_skip_of ?_
     refine seqQ_normal hQ14 ?_
     refine sg fun QQ16 hQ16 => ?_
     refine vc_block_gen ?_
     intro QQ17 hQ17
     refine sg fun QQ18 hQ18 => ?_
     refine sg fun QQ19 hQ19 => ?_
     simp only [go_sem]
     refine seqQ_normal hQ19 ?_
     refine vc_cond_of (b := (p_3 == xv_0.Scope)) (by (simp only [go_sem]; done)) (fun hb_13 => ?_) (fun hb_13 => ?_)
     ·
      replace h := if_t h hb_13
      simp only [bool_to_prop] at hb_13
      refine sg fun QQ20 hQ20 => ?_
      simp only [go_sem]
      refine seqQ_normal hQ20 ?_
      refine vc_ret_of ?_
      refine seqQ_ret hQ18 ?_
      refine blockQ_ret hQ17 ?_
      refine seqQ_ret hQ16 ?_
      refine thenQ_ret hQ13 ?_
      refine blockQ_ret hQ12 ?_
      refine thenQ_ret hQ10 ?_
      simp only [go_sem]
      obtain rfl := Option.some.inj h
      refine retW_pure rfl ?_
      simp only [go_sem, Le]
     ·
      replace h := if_f h hb_13
      simp only [bool_to_prop] at hb_13
      refine vc_skip_of ?_
      refine seqQ_normal hQ18 ?_
      simp only [go_sem]
      refine blockQ_normal hQ17 ?_
      refine seqQ_normal hQ16 ?_
      obtain ⟨xv_8, exv_8, h⟩ := bindO_some h
      obtain ⟨fxv_8a, fxv_8b, fxv_8c⟩ := idx_spec exv_8
      simp only [go_sem, fxv_8a, fxv_8b, fxv_8c]
      refine And.intro (by omega) ?_
      refine thenQ_normal hQ13 ?_
      refine ⟨(m_2, (fresh_4 || (p_3 == xv_2)), xv_8), [some 0, some 1], ?_, h, Nat.lt_succ_self _⟩
      simp only [go_sem, Le] <;> (repeat' apply And.intro) <;> first | ((try with_reducible refine TL_eq ?_); omega) | ((try with_reducible refine TL_eq ?_); (simp [go_sem]; done))
    ·
     replace h := if_f h hb_12
     simp only [bool_to_prop] at hb_12
     refine vc_exit_of ?_
     refine seqQ_exit hQ14 ?_
     refine thenQ_exit hQ13 ?_
     refine blockQ_exit hQ12 ?_
     refine thenQ_normal hQ10 ?_
     refine ⟨fresh_4, [some 0, some 1], ?_, h⟩
     simp only [go_sem, Le] <;> (repeat' apply And.intro) <;> first | ((try with_reducible refine TL_eq ?_); omega) | ((try with_reducible refine TL_eq ?_); (simp [go_sem]; done))
  ·
   rintro fresh_2 h
   try dsimp only at h
   rw [f_valid_behind_J1] at h
   refine sg fun QQ9 hQ9 => ?_
   simp only [go_sem]
   rcases hb_7 : fresh_2 with _ | _
   ·
    replace h := if_f h hb_7
    simp only [go_sem, hb_7]
    refine seqQ_normal hQ9 ?_
    refine vc_ret_of ?_
    simp only [go_sem]
    obtain rfl := Option.some.inj h
    refine retW_pure rfl ?_
    simp only [go_sem, Le]
   ·
    replace h := if_t h hb_7
    obtain ⟨g_1, h⟩ := guardO_some h
    obtain ⟨v_0, ev_0, h⟩ := bindO_some h
    simp only [go_sem, hb_7, g_1]
    refine callB (s' := (⟨0, [(1, .v (.int .i64 nv_0)), (2, .ptr 0 0), (5, .el 1 [[.v (.int .i64 xv_0.Scope)]] 0 0), (8, .v (.bool true)), (49, .v (.bool true)), (50, .v (.bool true)), (51, .ptr 0 2), (52, .sl 4 (enc g_0.Nodes)), (53, .v (.int .i64 nv_0)), (54, .sl 4 (enc (List.take (Int.toNat nv_0) g_0.Nodes))), (55, .clo 63 [.el 1 [[.v (.int .i64 xv_0.Scope)]] 0 0])], [(0, .box [.sl 1 (enc g_0.Parent), .sl 1 (enc g_0.Bound), .sl 4 (enc g_0.Nodes), .sl 4 (enc g_0.Edges)])], 1, 59⟩ : St)) (l := [some 0]) (args' := [.sl 4 (enc (List.take (Int.toNat nv_0) g_0.Nodes)), .clo 63 [.el 1 [[.v (.int .i64 xv_0.Scope)]] 0 0]]) ?_ ?_ (f_slices_ContainsFunc_Node_ok (List.take (Int.toNat nv_0) g_0.Nodes) (fun x0_ => f_valid_behind_1 x0_ xv_0.Scope) 63 [.el 1 [[.v (.int .i64 xv_0.Scope)]] 0 0] (by rfl) (by kernel_rfl) (fun y0 r_ e_ => f_valid_behind_1_ok y0 xv_0.Scope r_ e_) v_0 ev_0) (by rfl) (by rfl) ?_
    · simp only [go_sem, Le] <;> (repeat' apply And.intro) <;> ((try with_reducible refine TL_eq ?_); (simp [go_sem]; done))
    · simp only [go_sem, Le] <;> (repeat' apply And.intro) <;> ((try with_reducible refine TL_eq ?_); (simp [go_sem]; done))
    simp only [go_sem]
    refine seqQ_normal hQ9 ?_
    refine vc_ret_of ?_
    simp only [go_sem]
    obtain rfl := Option.some.inj h
    refine retW_pure rfl ?_
    simp only [go_sem, Le]

def f_prog_jumps (op_0 : Int) : Option Bool :=
 some ((op_0 == 14) || (op_0 == 15))
theorem f_prog_jumps_ok (op_0 : Int)  (r : Bool) (h : f_prog_jumps op_0 = some r) : PureS Try.prog 64 [.v (.int .i64 op_0)] 0 (.v (.bool r)) := by
 unfold PureS
 refine Spec.of_vc Try.func64 rfl (by kernel_rfl) (by kernel_rfl) ?_
 rw [f_prog_jumps] at h
 refine sg fun QQ1 hQ1 => ?_
 simp only [go_sem]
 refine seqQ_normal hQ1 ?_
 refine sg fun QQ2 hQ2 => ?_
 simp only [go_sem]
 refine seqQ_normal hQ2 ?_
 refine vc_ret_of ?_
 simp only [go_sem]
 obtain rfl := Option.some.inj h
 refine retW_pure rfl ?_
 simp only [go_sem, Le]

def f_prog_Right_B1 (p_0 : List GIns) (rec_1 : Int → Option Bool) : Int → Option Bool :=
 fun t10_1 =>
 (if (decide (t10_1 < (List.length p_0 : Int))) = true then bindO (idx p_0 t10_1) (fun (xv_2 : GIns) =>
 (if ((decide (xv_2.Op < 1)) || (decide (16 < xv_2.Op))) = true then some false
 else bindO (f_prog_jumps xv_2.Op) (fun (v_2 : Bool) =>
 (if v_2 = true then (if ((decide (xv_2.N < 0)) || (decide ((List.length p_0 : Int) < xv_2.N))) = true then some false
 else rec_1 (IntKind.i64.wrap (t10_1 + 1)))
 else (if ((!(xv_2.Op == 1)) && (!(xv_2.N == 0))) = true then some false
 else rec_1 (IntKind.i64.wrap (t10_1 + 1)))))))
 else some true)
def f_prog_Right (p_0 : List GIns) : Option Bool :=
 (if (decide (64 < (List.length p_0 : Int))) = true then some false
 else loopK (f_prog_Right_B1 p_0) rounds 0)
theorem f_prog_Right_ok (p_0 : List GIns)  (r : Bool) (h : f_prog_Right p_0 = some r) : PureS Try.prog 47 [.sl 2 (enc p_0)] 0 (.v (.bool r)) := by
 unfold PureS
 refine Spec.of_vc Try.func47 rfl (by kernel_rfl) (by kernel_rfl) ?_
 rw [f_prog_Right] at h
 refine sg fun QQ1 hQ1 => ?_
 simp only [go_sem]
 refine seqQ_normal hQ1 ?_
 refine sg fun QQ2 hQ2 => ?_
 refine sg fun QQ3 hQ3 => ?_
 simp only [go_sem]
 refine seqQ_normal hQ3 ?_
 refine vc_cond_of (b := (decide (64 < (List.length p_0 : Int)))) (by (simp only [go_sem]; done)) (fun hb_0 => ?_) (fun hb_0 => ?_)
 ·
  replace h := if_t h hb_0
  simp only [bool_to_prop] at hb_0
  refine sg fun QQ4 hQ4 => ?_
  simp only [go_sem]
  refine seqQ_normal hQ4 ?_
  refine vc_ret_of ?_
  refine seqQ_ret hQ2 ?_
  simp only [go_sem]
  obtain rfl := Option.some.inj h
  refine retW_pure rfl ?_
  simp only [go_sem, Le]
 ·
  replace h := if_f h hb_0
  simp only [bool_to_prop] at hb_0
  refine vc_skip_of ?_
  refine seqQ_normal hQ2 ?_
  refine vc_join (by kernel_rfl) ?_
  refine seq_go_gen ?_
  intro QQ5 hQ5
  refine sg fun QQ6 hQ6 => ?_
  simp only [go_sem]
  refine seqQ_normal hQ6 ?_
  refine vc_block_gen ?_
  intro QQ7 hQ7
  refine vc_loop_of ?_
  refine loop_gen (ι := Nat × Int) (fun ((_, t10_1) : Nat × Int) => (⟨0, [(0, .sl 2 (enc p_0)), (8, .sl 2 (enc p_0)), (9, .v (.int .i64 (List.length p_0 : Int))), (10, .v (.int .i64 t10_1))], [], 0, 47⟩ : St)) (fun ((n_, t10_1) : Nat × Int) => loopK (f_prog_Right_B1 p_0) n_ t10_1 = some r) (fun p => p.1) (rounds, 0) [] ?_ h ?_
  · simp only [go_sem, Le]
  ·
   rintro ⟨n_1, t10_1⟩ h QQ8 hQ8
   dsimp only at h
   replace h := loopK_some h
   obtain ⟨m_1, rfl, h⟩ := h
   rw [f_prog_Right_B1] at h
   refine sg fun QQ9 hQ9 => ?_
   simp only [go_sem]
   refine seqQ_normal hQ9 ?_
   refine sg fun QQ10 hQ10 => ?_
   refine vc_cond_of (b := (decide (t10_1 < (List.length p_0 : Int)))) (by (simp only [go_sem]; done)) (fun hb_11 => ?_) (fun hb_11 => ?_)
   ·
    replace h := if_t h hb_11
    simp only [bool_to_prop] at hb_11
    refine vc_skip_of ?_
    refine seqQ_normal hQ10 ?_
    refine vc_join (by kernel_rfl) ?_
    refine seq_go_gen ?_
    intro QQ11 hQ11
    refine vc_block_gen ?_
    intro QQ12 hQ12
    refine sg fun QQ13 hQ13 => ?_
    obtain ⟨xv_2, exv_2, h⟩ := bindO_some h
    obtain ⟨fxv_2a, fxv_2b, fxv_2c⟩ := idx_spec exv_2
    simp only [go_sem, fxv_2a, fxv_2b, fxv_2c]
    refine And.intro (by omega) ?_
    refine seqQ_normal hQ13 ?_
    refine vc_block_gen ?_
    intro QQ14 hQ14
    refine sg fun QQ15 hQ15 => ?_
    simp only [go_sem]
    refine seqQ_normal hQ15 ?_
    refine vc_cond_of (b := ((decide (xv_2.Op < 1)) || (decide (16 < xv_2.Op)))) (by (simp only [go_sem]; done)) (fun hb_12 => ?_) (fun hb_12 => ?_)
    ·
     replace h := if_t h hb_12
     simp only [bool_to_prop] at hb_12
     refine sg fun QQ16 hQ16 => ?_
     simp only [go_sem]
     refine seqQ_normal hQ16 ?_
     refine vc_ret_of ?_
     refine blockQ_ret hQ14 ?_
     refine blockQ_ret hQ12 ?_
     refine seqQ_ret hQ11 ?_
     refine thenQ_ret hQ8 ?_
     refine blockQ_ret hQ7 ?_
     refine seqQ_ret hQ5 ?_
     simp only [go_sem]
     obtain rfl := Option.some.inj h
     refine retW_pure rfl ?_
     simp only [go_sem, Le]
    ·
     replace h := if_f h hb_12
     simp only [bool_to_prop] at hb_12
     refine sg fun QQ17 hQ17 => ?_
     obtain ⟨v_2, ev_2, h⟩ := bindO_some h
     simp only [go_sem]
     refine call0 (f_prog_jumps_ok xv_2.Op v_2 ev_2) (by rfl) (by rfl) ?_
     simp only [go_sem]
     refine seqQ_normal hQ17 ?_
     refine vc_cond_of (b := v_2) (by (simp only [go_sem]; done)) (fun hb_13 => ?_) (fun hb_13 => ?_)
     ·
      replace h := if_t h hb_13
      refine sg fun QQ18 hQ18 => ?_
      simp only [go_sem]
      refine seqQ_normal hQ18 ?_
      refine vc_cond_of (b := ((decide (xv_2.N < 0)) || (decide ((List.length p_0 : Int) < xv_2.N)))) (by (simp only [go_sem]; done)) (fun hb_14 => ?_) (fun hb_14 => ?_)
      ·
       replace h := if_t h hb_14
       simp only [bool_to_prop] at hb_14
       refine sg fun QQ19 hQ19 => ?_
       simp only [go_sem]
       refine seqQ_normal hQ19 ?_
       refine vc_ret_of ?_
       refine blockQ_ret hQ14 ?_
       refine blockQ_ret hQ12 ?_
       refine seqQ_ret hQ11 ?_
       refine thenQ_ret hQ8 ?_
       refine blockQ_ret hQ7 ?_
       refine seqQ_ret hQ5 ?_
       simp only [go_sem]
       obtain rfl := Option.some.inj h
       refine retW_pure rfl ?_
       simp only [go_sem, Le]
      ·
       replace h := if_f h hb_14
       simp only [bool_to_prop] at hb_14
       refine vc_skip_of ?_
       refine blockQ_normal hQ14 ?_
       refine blockQ_normal hQ12 ?_
       refine seqQ_normal hQ11 ?_
       simp only [go_sem]
       refine thenQ_normal hQ8 ?_
       refine ⟨(m_1, IntKind.i64.wrap (t10_1 + 1)), [], ?_, h, Nat.lt_succ_self _⟩
       simp only [go_sem, Le]
     ·
      replace h := if_f h hb_13
      refine sg fun QQ20 hQ20 => ?_
      simp only [go_sem]
      refine seqQ_normal hQ20 ?_
      refine vc_cond_of (b := ((!(xv_2.Op == 1)) && (!(xv_2.N == 0)))) (by (simp only [go_sem]; done)) (fun hb_15 => ?_) (fun hb_15 => ?_)
      ·
       replace h := if_t h hb_15
       simp only [bool_to_prop] at hb_15
       refine sg fun QQ21 hQ21 => ?_
       simp only [go_sem]
       refine seqQ_normal hQ21 ?_
       refine vc_ret_of ?_
       refine blockQ_ret hQ14 ?_
       refine blockQ_ret hQ12 ?_
       refine seqQ_ret hQ11 ?_
       refine thenQ_ret hQ8 ?_
       refine blockQ_ret hQ7 ?_
       refine seqQ_ret hQ5 ?_
       simp only [go_sem]
       obtain rfl := Option.some.inj h
       refine retW_pure rfl ?_
       simp only [go_sem, Le]
      ·
       replace h := if_f h hb_15
       simp only [bool_to_prop] at hb_15
       refine vc_skip_of ?_
       refine blockQ_normal hQ14 ?_
       refine blockQ_normal hQ12 ?_
       refine seqQ_normal hQ11 ?_
       simp only [go_sem]
       refine thenQ_normal hQ8 ?_
       refine ⟨(m_1, IntKind.i64.wrap (t10_1 + 1)), [], ?_, h, Nat.lt_succ_self _⟩
       simp only [go_sem, Le]
   ·
    replace h := if_f h hb_11
    simp only [bool_to_prop] at hb_11
    refine vc_exit_of ?_
    refine seqQ_exit hQ10 ?_
    refine thenQ_exit hQ8 ?_
    refine blockQ_exit hQ7 ?_
    refine seqQ_normal hQ5 ?_
    refine sg fun QQ22 hQ22 => ?_
    simp only [go_sem]
    refine seqQ_normal hQ22 ?_
    refine vc_ret_of ?_
    simp only [go_sem]
    obtain rfl := Option.some.inj h
    refine retW_pure rfl ?_
    simp only [go_sem, Le]

def f_backwashref09_follows_B2 (g_0 : GGraph) (nv_0 : Int) (xv_0 : GNode) (rec_2 : Int → Option Bool) : Int → Option Bool :=
 fun i_3 =>
 (if (decide (i_3 < nv_0)) = true then bindO (idx g_0.Nodes i_3) (fun (xv_10 : GNode) =>
 (if (xv_10.Scope == xv_0.Scope) = true then some false
 else rec_2 (IntKind.i64.wrap (i_3 + 1))))
 else some true)
def f_backwashref09_follows_J1 (g_0 : GGraph) (nv_0 : Int) (xv_0 : GNode) (under_2 : Bool) : Option Bool :=
 (if (!under_2) = true then some false
 else loopK (f_backwashref09_follows_B2 g_0 nv_0 xv_0) rounds 0)
def f_backwashref09_follows_B3 (g_0 : GGraph) (nv_0 : Int) (xv_0 : GNode) (v_0 : List Int) (rec_3 : Bool × Int → Option Bool) : Bool × Int → Option Bool :=
 fun (under_4, i_5) =>
 (if (decide (i_5 < (List.length v_0 : Int))) = true then bindO (idx v_0 i_5) (fun (xv_15 : Int) =>
 (if (xv_15 == xv_0.Scope) = true then some true
 else (if under_4 = true then rec_3 (true, IntKind.i64.wrap (i_5 + 1))
 else bindO (idx g_0.Parent xv_0.Scope) (fun (xv_16 : Int) =>
 rec_3 ((xv_15 == xv_16), IntKind.i64.wrap (i_5 + 1))))))
 else f_backwashref09_follows_J1 g_0 nv_0 xv_0 under_4)
def f_backwashref09_follows (g_0 : GGraph) (nv_0 : Int) : Option Bool :=
 bindO (idx g_0.Nodes nv_0) (fun (xv_0 : GNode) =>
 (if (nv_0 == 0) = true then some (xv_0.Scope == 0)
 else bindO (idx g_0.Nodes (IntKind.i64.wrap (nv_0 - 1))) (fun (xv_1 : GNode) =>
 bindO (f_backwashref09_Chain g_0 xv_1.Scope) (fun (v_0 : List Int) =>
 loopK (f_backwashref09_follows_B3 g_0 nv_0 xv_0 v_0) rounds (false, 0)))))
def f_backwashref07_Right_B1 (p_0 : List GIns) (rec_1 : Int → Option Bool) : Int → Option Bool :=
 fun i_1 =>
 (if (decide (i_1 < (List.length p_0 : Int))) = true then bindO (idx p_0 i_1) (fun (xv_2 : GIns) =>
 (if ((((decide (xv_2.Op < 1)) || (decide (16 < xv_2.Op))) || (((xv_2.Op == 14) || (xv_2.Op == 15)) && ((decide (xv_2.N < 0)) || (decide ((List.length p_0 : Int) < xv_2.N))))) || ((((!(xv_2.Op == 1)) && (!(xv_2.Op == 14))) && (!(xv_2.Op == 15))) && (!(xv_2.N == 0)))) = true then some false
 else rec_1 (IntKind.i64.wrap (i_1 + 1))))
 else some (decide ((List.length p_0 : Int) ≤ 64)))
def f_backwashref07_Right (p_0 : List GIns) : Option Bool :=
 loopK (f_backwashref07_Right_B1 p_0) rounds 0
def f_valid_around (kind_0 : Int) : Option (Bool × Bool) :=
 some ((((kind_0 == 10) || (kind_0 == 11)) || (kind_0 == 12)), ((kind_0 == 1) || (kind_0 == 15)))
theorem f_valid_around_ok (kind_0 : Int)  (r : Bool × Bool) (h : f_valid_around kind_0 = some r) : PureS Try.prog 45 [.v (.int .i64 kind_0)] 0 (.tup [.v (.bool r.1), .v (.bool r.2)]) := by
 unfold PureS
 refine Spec.of_vc Try.func45 rfl (by kernel_rfl) (by kernel_rfl) ?_
 rw [f_valid_around] at h
 refine sg fun QQ1 hQ1 => ?_
 simp only [go_sem]
 refine seqQ_normal hQ1 ?_
 refine sg fun QQ2 hQ2 => ?_
 simp only [go_sem]
 refine seqQ_normal hQ2 ?_
 refine vc_ret_of ?_
 simp only [go_sem]
 obtain rfl := Option.some.inj h
 refine retW_pure rfl ?_
 simp only [go_sem, Le]

def f_valid_node (g_0 : GGraph) (nv_0 : Int) : Option Int :=
 bindO (idx g_0.Nodes nv_0) (fun (xv_0 : GNode) =>
 bindO (f_valid_around xv_0.Kind) (fun (v_0 : Bool × Bool) =>
 (if ((decide (xv_0.Kind < 1)) || (decide (15 < xv_0.Kind))) = true then some 1
 else bindO (f_valid_inside xv_0.Scope (List.length g_0.Parent : Int)) (fun (v_1 : Bool) =>
 (if (((!v_1) || (v_0.1 && (xv_0.Scope == 0))) || (v_0.2 && (!(xv_0.Scope == 0)))) = true then some 6
 else bindO (f_valid_behind g_0 nv_0) (fun (v_2 : Bool) =>
 (if (!v_2) = true then some 6
 else (if (((xv_0.Kind == 4) && (decide (xv_0.Arg < 1))) || (((!(xv_0.Kind == 4)) && (!(xv_0.Kind == 3))) && (!(xv_0.Arg == 0)))) = true then some 1
 else bindO (f_prog_Right xv_0.Prog) (fun (v_3 : Bool) =>
 (if ((!v_3) || ((!(xv_0.Kind == 2)) && (decide (0 < (List.length xv_0.Prog : Int))))) = true then some 13
 else some 0))))))))))
theorem f_valid_node_ok (g_0 : GGraph) (nv_0 : Int)  (r : Int) (h : f_valid_node g_0 nv_0 = some r) : PureS Try.prog 20 [.agg [.sl 1 (enc g_0.Parent), .sl 1 (enc g_0.Bound), .sl 4 (enc g_0.Nodes), .sl 4 (enc g_0.Edges)], .v (.int .i64 nv_0)] 0 (.v (.int .i64 r)) := by
 unfold PureS
 refine Spec.of_vc Try.func20 rfl (by kernel_rfl) (by kernel_rfl) ?_
 rw [f_valid_node] at h
 refine sg fun QQ1 hQ1 => ?_
 simp only [go_sem]
 refine seqQ_normal hQ1 ?_
 refine sg fun QQ2 hQ2 => ?_
 obtain ⟨xv_0, exv_0, h⟩ := bindO_some h
 obtain ⟨fxv_0a, fxv_0b, fxv_0c⟩ := idx_spec exv_0
 simp only [go_sem, fxv_0a, fxv_0b, fxv_0c]
 refine And.intro (by omega) ?_
 refine seqQ_normal hQ2 ?_
 refine sg fun QQ3 hQ3 => ?_
 obtain ⟨v_0, ev_0, h⟩ := bindO_some h
 simp only [go_sem]
 refine call0 (f_valid_around_ok xv_0.Kind v_0 ev_0) (by rfl) (by rfl) ?_
 simp only [go_sem]
 refine seqQ_normal hQ3 ?_
 refine sg fun QQ4 hQ4 => ?_
 refine vc_block_gen ?_
 intro QQ5 hQ5
 refine sg fun QQ6 hQ6 => ?_
 simp only [go_sem]
 refine seqQ_normal hQ6 ?_
 refine vc_cond_of (b := ((decide (xv_0.Kind < 1)) || (decide (15 < xv_0.Kind)))) (by (simp only [go_sem]; done)) (fun hb_0 => ?_) (fun hb_0 => ?_)
 ·
  replace h := if_t h hb_0
  simp only [bool_to_prop] at hb_0
  refine sg fun QQ7 hQ7 => ?_
  simp only [go_sem]
  refine seqQ_normal hQ7 ?_
  refine vc_ret_of ?_
  refine blockQ_ret hQ5 ?_
  refine seqQ_ret hQ4 ?_
  simp only [go_sem]
  obtain rfl := Option.some.inj h
  refine retW_pure rfl ?_
  simp only [go_sem, Le]
 ·
  replace h := if_f h hb_0
  simp only [bool_to_prop] at hb_0
  refine sg fun QQ8 hQ8 => ?_
  obtain ⟨v_1, ev_1, h⟩ := bindO_some h
  simp only [go_sem]
  refine call0 (f_valid_inside_ok xv_0.Scope (List.length g_0.Parent : Int) v_1 ev_1) (by rfl) (by rfl) ?_
  simp only [go_sem]
  refine And.intro (by (simp +contextual only [and_self, implies_true, true_and, and_true, imp_self]; done)) ?_
  refine And.intro (by (simp +contextual only [and_self, implies_true, true_and, and_true, imp_self]; done)) ?_
  rcases hb_1 : (((!v_1) || (v_0.1 && (xv_0.Scope == 0))) || (v_0.2 && (!(xv_0.Scope == 0)))) with _ | _
  ·
   replace h := if_f h hb_1
   obtain ⟨v_2, ev_2, h⟩ := bindO_some h
   simp only [go_sem, hb_1]
   refine call0 (f_valid_behind_ok g_0 nv_0 v_2 ev_2) (by rfl) (by rfl) ?_
   simp only [go_sem]
   refine seqQ_normal hQ8 ?_
   refine vc_cond_of (b := (!v_2)) (by (simp only [go_sem]; done)) (fun hb_2 => ?_) (fun hb_2 => ?_)
   ·
    replace h := if_t h hb_2
    simp only [bool_to_prop] at hb_2
    refine sg fun QQ9 hQ9 => ?_
    simp only [go_sem]
    refine seqQ_normal hQ9 ?_
    refine vc_ret_of ?_
    refine blockQ_ret hQ5 ?_
    refine seqQ_ret hQ4 ?_
    simp only [go_sem]
    obtain rfl := Option.some.inj h
    refine retW_pure rfl ?_
    simp only [go_sem, Le]
   ·
    replace h := if_f h hb_2
    simp only [bool_to_prop] at hb_2
    refine sg fun QQ10 hQ10 => ?_
    simp only [go_sem]
    refine And.intro (by (intros; (repeat' apply And.intro) <;> first | assumption | omega)) ?_
    refine And.intro (by (intros; (repeat' apply And.intro) <;> first | assumption | omega)) ?_
    refine seqQ_normal hQ10 ?_
    refine vc_cond_of (b := (((xv_0.Kind == 4) && (decide (xv_0.Arg < 1))) || (((!(xv_0.Kind == 4)) && (!(xv_0.Kind == 3))) && (!(xv_0.Arg == 0))))) (by (simp only [go_sem]; done)) (fun hb_3 => ?_) (fun hb_3 => ?_)
    ·
     replace h := if_t h hb_3
     simp only [bool_to_prop] at hb_3
     refine sg fun QQ11 hQ11 => ?_
     simp only [go_sem]
     refine seqQ_normal hQ11 ?_
     refine vc_ret_of ?_
     refine blockQ_ret hQ5 ?_
     refine seqQ_ret hQ4 ?_
     simp only [go_sem]
     obtain rfl := Option.some.inj h
     refine retW_pure rfl ?_
     simp only [go_sem, Le]
    ·
     replace h := if_f h hb_3
     simp only [bool_to_prop] at hb_3
     refine sg fun QQ12 hQ12 => ?_
     obtain ⟨v_3, ev_3, h⟩ := bindO_some h
     simp only [go_sem]
     refine call0 (f_prog_Right_ok xv_0.Prog v_3 ev_3) (by rfl) (by rfl) ?_
     simp only [go_sem]
     refine And.intro (by (simp +contextual only [and_self, implies_true, true_and, and_true, imp_self]; done)) ?_
     refine seqQ_normal hQ12 ?_
     refine vc_cond_of (b := ((!v_3) || ((!(xv_0.Kind == 2)) && (decide (0 < (List.length xv_0.Prog : Int)))))) (by (simp only [go_sem]; done)) (fun hb_4 => ?_) (fun hb_4 => ?_)
     ·
      replace h := if_t h hb_4
      simp only [bool_to_prop] at hb_4
      refine sg fun QQ13 hQ13 => ?_
      simp only [go_sem]
      refine seqQ_normal hQ13 ?_
      refine vc_ret_of ?_
      refine blockQ_ret hQ5 ?_
      refine seqQ_ret hQ4 ?_
      simp only [go_sem]
      obtain rfl := Option.some.inj h
      refine retW_pure rfl ?_
      simp only [go_sem, Le]
     ·
      replace h := if_f h hb_4
      simp only [bool_to_prop] at hb_4
      refine vc_skip_of ?_
      refine blockQ_normal hQ5 ?_
      refine seqQ_normal hQ4 ?_
      refine sg fun QQ14 hQ14 => ?_
      simp only [go_sem]
      refine seqQ_normal hQ14 ?_
      refine vc_ret_of ?_
      simp only [go_sem]
      obtain rfl := Option.some.inj h
      refine retW_pure rfl ?_
      simp only [go_sem, Le]
  ·
   replace h := if_t h hb_1
   simp only [go_sem, hb_1]
   refine seqQ_normal hQ8 ?_
   refine vc_cond_t (by (simp only [go_sem]; done)) ?_
   refine sg fun QQ15 hQ15 => ?_
   simp only [go_sem]
   refine seqQ_normal hQ15 ?_
   refine vc_ret_of ?_
   refine blockQ_ret hQ5 ?_
   refine seqQ_ret hQ4 ?_
   simp only [go_sem]
   obtain rfl := Option.some.inj h
   refine retW_pure rfl ?_
   simp only [go_sem, Le]

def f_valid_Ports (kind_0 : Int) : Option Int :=
 (if ((kind_0 == 5) || (kind_0 == 9)) = true then some 2
 else (if ((decide (1 < kind_0)) && (decide (kind_0 ≤ 15))) = true then some 1
 else some 0))
theorem f_valid_Ports_ok (kind_0 : Int)  (r : Int) (h : f_valid_Ports kind_0 = some r) : PureS Try.prog 48 [.v (.int .i64 kind_0)] 0 (.v (.int .i64 r)) := by
 unfold PureS
 refine Spec.of_vc Try.func48 rfl (by kernel_rfl) (by kernel_rfl) ?_
 rw [f_valid_Ports] at h
 refine sg fun QQ1 hQ1 => ?_
 simp only [go_sem]
 refine seqQ_normal hQ1 ?_
 refine sg fun QQ2 hQ2 => ?_
 refine vc_block_gen ?_
 intro QQ3 hQ3
 refine sg fun QQ4 hQ4 => ?_
 simp only [go_sem]
 refine seqQ_normal hQ4 ?_
 refine vc_cond_of (b := ((kind_0 == 5) || (kind_0 == 9))) (by (simp only [go_sem]; done)) (fun hb_0 => ?_) (fun hb_0 => ?_)
 ·
  replace h := if_t h hb_0
  simp only [bool_to_prop] at hb_0
  refine sg fun QQ5 hQ5 => ?_
  simp only [go_sem]
  refine seqQ_normal hQ5 ?_
  refine vc_ret_of ?_
  refine blockQ_ret hQ3 ?_
  refine seqQ_ret hQ2 ?_
  simp only [go_sem]
  obtain rfl := Option.some.inj h
  refine retW_pure rfl ?_
  simp only [go_sem, Le]
 ·
  replace h := if_f h hb_0
  simp only [bool_to_prop] at hb_0
  refine sg fun QQ6 hQ6 => ?_
  simp only [go_sem]
  refine seqQ_normal hQ6 ?_
  refine vc_cond_of (b := ((decide (1 < kind_0)) && (decide (kind_0 ≤ 15)))) (by (simp only [go_sem]; done)) (fun hb_1 => ?_) (fun hb_1 => ?_)
  ·
   replace h := if_t h hb_1
   simp only [bool_to_prop] at hb_1
   refine sg fun QQ7 hQ7 => ?_
   simp only [go_sem]
   refine seqQ_normal hQ7 ?_
   refine vc_ret_of ?_
   refine blockQ_ret hQ3 ?_
   refine seqQ_ret hQ2 ?_
   simp only [go_sem]
   obtain rfl := Option.some.inj h
   refine retW_pure rfl ?_
   simp only [go_sem, Le]
  ·
   replace h := if_f h hb_1
   simp only [bool_to_prop] at hb_1
   refine vc_skip_of ?_
   refine blockQ_normal hQ3 ?_
   refine seqQ_normal hQ2 ?_
   refine sg fun QQ8 hQ8 => ?_
   simp only [go_sem]
   refine seqQ_normal hQ8 ?_
   refine vc_ret_of ?_
   simp only [go_sem]
   obtain rfl := Option.some.inj h
   refine retW_pure rfl ?_
   simp only [go_sem, Le]

def f_valid_given (g_0 : GGraph) (xv_0 : GNode) : Option Int :=
 (if (xv_0.Kind == 11) = true then bindO (idx g_0.Parent xv_0.Scope) (fun (xv_1 : Int) =>
 some xv_1)
 else some xv_0.Scope)
theorem f_valid_given_ok (g_0 : GGraph) (xv_0 : GNode)  (r : Int) (h : f_valid_given g_0 xv_0 = some r) : PureS Try.prog 49 [.agg [.sl 1 (enc g_0.Parent), .sl 1 (enc g_0.Bound), .sl 4 (enc g_0.Nodes), .sl 4 (enc g_0.Edges)], .agg [.v (.int .i64 xv_0.Kind), .v (.int .i64 xv_0.Scope), .v (.int .i64 xv_0.Arg), .sl 2 (enc xv_0.Prog)]] 0 (.v (.int .i64 r)) := by
 unfold PureS
 refine Spec.of_vc Try.func49 rfl (by kernel_rfl) (by kernel_rfl) ?_
 rw [f_valid_given] at h
 refine sg fun QQ1 hQ1 => ?_
 simp only [go_sem]
 refine seqQ_normal hQ1 ?_
 refine sg fun QQ2 hQ2 => ?_
 refine sg fun QQ3 hQ3 => ?_
 simp only [go_sem]
 refine seqQ_normal hQ3 ?_
 refine vc_cond_of (b := (xv_0.Kind == 11)) (by (simp only [go_sem]; done)) (fun hb_0 => ?_) (fun hb_0 => ?_)
 ·
  replace h := if_t h hb_0
  simp only [bool_to_prop] at hb_0
  refine sg fun QQ4 hQ4 => ?_
  obtain ⟨xv_1, exv_1, h⟩ := bindO_some h
  obtain ⟨fxv_1a, fxv_1b, fxv_1c⟩ := idx_spec exv_1
  simp only [go_sem, fxv_1a, fxv_1b, fxv_1c]
  refine And.intro (by omega) ?_
  refine seqQ_normal hQ4 ?_
  refine vc_ret_of ?_
  refine seqQ_ret hQ2 ?_
  simp only [go_sem]
  obtain rfl := Option.some.inj h
  refine retW_pure rfl ?_
  simp only [go_sem, Le]
 ·
  replace h := if_f h hb_0
  simp only [bool_to_prop] at hb_0
  refine vc_skip_of ?_
  refine seqQ_normal hQ2 ?_
  refine sg fun QQ5 hQ5 => ?_
  simp only [go_sem]
  refine seqQ_normal hQ5 ?_
  refine vc_ret_of ?_
  simp only [go_sem]
  obtain rfl := Option.some.inj h
  refine retW_pure rfl ?_
  simp only [go_sem, Le]

def f_valid_taken (g_0 : GGraph) (xv_0 : GNode) : Option Int :=
 (if (xv_0.Kind == 10) = true then bindO (idx g_0.Parent xv_0.Scope) (fun (xv_1 : Int) =>
 some xv_1)
 else some xv_0.Scope)
theorem f_valid_taken_ok (g_0 : GGraph) (xv_0 : GNode)  (r : Int) (h : f_valid_taken g_0 xv_0 = some r) : PureS Try.prog 50 [.agg [.sl 1 (enc g_0.Parent), .sl 1 (enc g_0.Bound), .sl 4 (enc g_0.Nodes), .sl 4 (enc g_0.Edges)], .agg [.v (.int .i64 xv_0.Kind), .v (.int .i64 xv_0.Scope), .v (.int .i64 xv_0.Arg), .sl 2 (enc xv_0.Prog)]] 0 (.v (.int .i64 r)) := by
 unfold PureS
 refine Spec.of_vc Try.func50 rfl (by kernel_rfl) (by kernel_rfl) ?_
 rw [f_valid_taken] at h
 refine sg fun QQ1 hQ1 => ?_
 simp only [go_sem]
 refine seqQ_normal hQ1 ?_
 refine sg fun QQ2 hQ2 => ?_
 refine sg fun QQ3 hQ3 => ?_
 simp only [go_sem]
 refine seqQ_normal hQ3 ?_
 refine vc_cond_of (b := (xv_0.Kind == 10)) (by (simp only [go_sem]; done)) (fun hb_0 => ?_) (fun hb_0 => ?_)
 ·
  replace h := if_t h hb_0
  simp only [bool_to_prop] at hb_0
  refine sg fun QQ4 hQ4 => ?_
  obtain ⟨xv_1, exv_1, h⟩ := bindO_some h
  obtain ⟨fxv_1a, fxv_1b, fxv_1c⟩ := idx_spec exv_1
  simp only [go_sem, fxv_1a, fxv_1b, fxv_1c]
  refine And.intro (by omega) ?_
  refine seqQ_normal hQ4 ?_
  refine vc_ret_of ?_
  refine seqQ_ret hQ2 ?_
  simp only [go_sem]
  obtain rfl := Option.some.inj h
  refine retW_pure rfl ?_
  simp only [go_sem, Le]
 ·
  replace h := if_f h hb_0
  simp only [bool_to_prop] at hb_0
  refine vc_skip_of ?_
  refine seqQ_normal hQ2 ?_
  refine sg fun QQ5 hQ5 => ?_
  simp only [go_sem]
  refine seqQ_normal hQ5 ?_
  refine vc_ret_of ?_
  simp only [go_sem]
  obtain rfl := Option.some.inj h
  refine retW_pure rfl ?_
  simp only [go_sem, Le]

def f_valid_keyed (kind_0 : Int) : Option Bool :=
 some (((decide (6 ≤ kind_0)) && (decide (kind_0 ≤ 9))) || (kind_0 == 14))
theorem f_valid_keyed_ok (kind_0 : Int)  (r : Bool) (h : f_valid_keyed kind_0 = some r) : PureS Try.prog 51 [.v (.int .i64 kind_0)] 0 (.v (.bool r)) := by
 unfold PureS
 refine Spec.of_vc Try.func51 rfl (by kernel_rfl) (by kernel_rfl) ?_
 rw [f_valid_keyed] at h
 refine sg fun QQ1 hQ1 => ?_
 simp only [go_sem]
 refine seqQ_normal hQ1 ?_
 refine sg fun QQ2 hQ2 => ?_
 simp only [go_sem]
 refine seqQ_normal hQ2 ?_
 refine vc_ret_of ?_
 simp only [go_sem]
 obtain rfl := Option.some.inj h
 refine retW_pure rfl ?_
 simp only [go_sem, Le]

def f_slices_IndexFunc_Edge_B1 (s_0 : List GEdge) (f_0 : GEdge → Option Bool) (rec_1 : Int → Option Int) : Int → Option Int :=
 fun t8_1 =>
 (if (decide (t8_1 < (List.length s_0 : Int))) = true then bindO (idx s_0 t8_1) (fun (xv_2 : GEdge) =>
 bindO (f_0 xv_2) (fun (v_2 : Bool) =>
 (if v_2 = true then some t8_1
 else rec_1 (IntKind.i64.wrap (t8_1 + 1)))))
 else some (-1))
def f_slices_IndexFunc_Edge (s_0 : List GEdge) (f_0 : GEdge → Option Bool) : Option Int :=
 loopK (f_slices_IndexFunc_Edge_B1 s_0 f_0) rounds 0
theorem f_slices_IndexFunc_Edge_ok (s_0 : List GEdge) (f_0 : GEdge → Option Bool) (g_f_0 : FuncId) (c_f_0 : List AV) (F_f_0 : idFreeL c_f_0 = true) (E_f_0 : entB Try.prog g_f_0 = true) (H_f_0 : ∀ (x0 : GEdge) (r : Bool), f_0 x0 = some r → PureS Try.prog g_f_0 ([.agg [.v (.int .i64 x0.From), .v (.int .i64 x0.To), .v (.int .i64 x0.Port), .v (.bool x0.Exchange)]] ++ c_f_0) 0 (.v (.bool r))) (r : Int) (h : f_slices_IndexFunc_Edge s_0 f_0 = some r) : PureS Try.prog 55 [.sl 4 (enc s_0), .clo g_f_0 c_f_0] 0 (.v (.int .i64 r)) := by
 unfold PureS
 refine Spec.of_vc Try.func55 rfl (by kernel_rfl) (by kernel_rfl) ?_
 rw [f_slices_IndexFunc_Edge] at h
 refine sg fun QQ1 hQ1 => ?_
 simp only [go_sem]
 refine seqQ_normal hQ1 ?_
 refine vc_join (by kernel_rfl) ?_
 refine seq_go_gen ?_
 intro QQ2 hQ2
 refine sg fun QQ3 hQ3 => ?_
 simp only [go_sem]
 refine seqQ_normal hQ3 ?_
 refine vc_block_gen ?_
 intro QQ4 hQ4
 refine vc_loop_of ?_
 refine loop_gen (ι := Nat × Int) (fun ((_, t8_1) : Nat × Int) => (⟨0, [(0, .sl 4 (enc s_0)), (1, .clo g_f_0 c_f_0), (7, .v (.int .i64 (List.length s_0 : Int))), (8, .v (.int .i64 t8_1))], [], 0, 19⟩ : St)) (fun ((n_, t8_1) : Nat × Int) => loopK (f_slices_IndexFunc_Edge_B1 s_0 f_0) n_ t8_1 = some r) (fun p => p.1) (rounds, 0) [] ?_ h ?_
 · simp only [go_sem, Le, AvLeL_free _ F_f_0]
 ·
  rintro ⟨n_1, t8_1⟩ h QQ5 hQ5
  dsimp only at h
  replace h := loopK_some h
  obtain ⟨m_1, rfl, h⟩ := h
  rw [f_slices_IndexFunc_Edge_B1] at h
  refine sg fun QQ6 hQ6 => ?_
  simp only [go_sem]
  refine seqQ_normal hQ6 ?_
  refine sg fun QQ7 hQ7 => ?_
  refine vc_cond_of (b := (decide (t8_1 < (List.length s_0 : Int)))) (by (simp only [go_sem]; done)) (fun hb_4 => ?_) (fun hb_4 => ?_)
  ·
   replace h := if_t h hb_4
   simp only [bool_to_prop] at hb_4
   refine vc_skip_of ?_
   refine seqQ_normal hQ7 ?_
   refine sg fun QQ8 hQ8 => ?_
   refine vc_block_gen ?_
   intro QQ9 hQ9
   refine sg fun QQ10 hQ10 => ?_
   simp only [go_sem]
   refine seqQ_normal hQ10 ?_
   refine sg fun QQ11 hQ11 => ?_
   obtain ⟨xv_2, exv_2, h⟩ := bindO_some h
   obtain ⟨fxv_2a, fxv_2b, fxv_2c⟩ := idx_spec exv_2
   obtain ⟨v_2, ev_2, h⟩ := bindO_some h
   simp only [go_sem, fxv_2a, fxv_2b, fxv_2c, E_f_0]
   refine And.intro (by omega) ?_
   refine call0 (H_f_0 xv_2 v_2 ev_2) (by rfl) (by simp [idFreeL, idFree, F_f_0]) ?_
   simp only [go_sem]
   refine seqQ_normal hQ11 ?_
   refine vc_cond_of (b := v_2) (by (simp only [go_sem]; done)) (fun hb_5 => ?_) (fun hb_5 => ?_)
   ·
    replace h := if_t h hb_5
    refine sg fun QQ12 hQ12 => ?_
    simp only [go_sem]
    refine seqQ_normal hQ12 ?_
    refine vc_ret_of ?_
    refine blockQ_ret hQ9 ?_
    refine seqQ_ret hQ8 ?_
    refine thenQ_ret hQ5 ?_
    refine blockQ_ret hQ4 ?_
    refine seqQ_ret hQ2 ?_
    simp only [go_sem]
    obtain rfl := Option.some.inj h
    refine retW_pure rfl ?_
    simp only [go_sem, Le, AvLeL_free _ F_f_0]
   ·
    replace h := if_f h hb_5
    refine vc_skip_of ?_
    refine blockQ_normal hQ9 ?_
    refine seqQ_normal hQ8 ?_
    simp only [go_sem]
    refine thenQ_normal hQ5 ?_
    refine ⟨(m_1, IntKind.i64.wrap (t8_1 + 1)), [], ?_, h, Nat.lt_succ_self _⟩
    simp only [go_sem, Le, AvLeL_free _ F_f_0]
  ·
   replace h := if_f h hb_4
   simp only [bool_to_prop] at hb_4
   refine vc_exit_of ?_
   refine seqQ_exit hQ7 ?_
   refine thenQ_exit hQ5 ?_
   refine blockQ_exit hQ4 ?_
   refine seqQ_normal hQ2 ?_
   refine sg fun QQ13 hQ13 => ?_
   simp only [go_sem]
   refine seqQ_normal hQ13 ?_
   refine vc_ret_of ?_
   simp only [go_sem]
   obtain rfl := Option.some.inj h
   refine retW_pure rfl ?_
   simp only [go_sem, Le, AvLeL_free _ F_f_0]

def f_slices_ContainsFunc_Edge (s_0 : List GEdge) (f_0 : GEdge → Option Bool) : Option Bool :=
 bindO (f_slices_IndexFunc_Edge s_0 f_0) (fun (v_0 : Int) =>
 some (decide (0 ≤ v_0)))
theorem f_slices_ContainsFunc_Edge_ok (s_0 : List GEdge) (f_0 : GEdge → Option Bool) (g_f_0 : FuncId) (c_f_0 : List AV) (F_f_0 : idFreeL c_f_0 = true) (E_f_0 : entB Try.prog g_f_0 = true) (H_f_0 : ∀ (x0 : GEdge) (r : Bool), f_0 x0 = some r → PureS Try.prog g_f_0 ([.agg [.v (.int .i64 x0.From), .v (.int .i64 x0.To), .v (.int .i64 x0.Port), .v (.bool x0.Exchange)]] ++ c_f_0) 0 (.v (.bool r))) (r : Bool) (h : f_slices_ContainsFunc_Edge s_0 f_0 = some r) : PureS Try.prog 65 [.sl 4 (enc s_0), .clo g_f_0 c_f_0] 0 (.v (.bool r)) := by
 unfold PureS
 refine Spec.of_vc Try.func65 rfl (by kernel_rfl) (by kernel_rfl) ?_
 rw [f_slices_ContainsFunc_Edge] at h
 refine sg fun QQ1 hQ1 => ?_
 simp only [go_sem]
 refine seqQ_normal hQ1 ?_
 refine sg fun QQ2 hQ2 => ?_
 obtain ⟨v_0, ev_0, h⟩ := bindO_some h
 simp only [go_sem]
 refine call0 (f_slices_IndexFunc_Edge_ok s_0 f_0 g_f_0 c_f_0 F_f_0 E_f_0 H_f_0 v_0 ev_0) (by rfl) (by simp [idFreeL, idFree, F_f_0]) ?_
 simp only [go_sem]
 refine seqQ_normal hQ2 ?_
 refine vc_ret_of ?_
 simp only [go_sem]
 obtain rfl := Option.some.inj h
 refine retW_pure rfl ?_
 simp only [go_sem, Le, AvLeL_free _ F_f_0]

def f_valid_fed_1 (e_0 : GEdge) (cap_0 : Int) (cap_1 : Int) : Option Bool :=
 some ((e_0.To == cap_0) && (e_0.Port == cap_1))
theorem f_valid_fed_1_ok (e_0 : GEdge) (cap_0 : Int) (cap_1 : Int)  (r : Bool) (h : f_valid_fed_1 e_0 cap_0 cap_1 = some r) : PureS Try.prog 66 [.agg [.v (.int .i64 e_0.From), .v (.int .i64 e_0.To), .v (.int .i64 e_0.Port), .v (.bool e_0.Exchange)], .el 1 [[.v (.int .i64 cap_0)]] 0 0, .el 1 [[.v (.int .i64 cap_1)]] 0 0] 0 (.v (.bool r)) := by
 unfold PureS
 refine Spec.of_vc Try.func66 rfl (by kernel_rfl) (by kernel_rfl) ?_
 rw [f_valid_fed_1] at h
 refine sg fun QQ1 hQ1 => ?_
 simp only [go_sem]
 refine seqQ_normal hQ1 ?_
 refine sg fun QQ2 hQ2 => ?_
 simp only [go_sem]
 refine seqQ_normal hQ2 ?_
 refine vc_ret_of ?_
 simp only [go_sem]
 obtain rfl := Option.some.inj h
 refine retW_pure rfl ?_
 simp only [go_sem, Le]

def f_valid_fed (l_0 : List GEdge) (node_0 : Int) (port_0 : Int) : Option Bool :=
 bindO (f_slices_ContainsFunc_Edge l_0 (fun x0_ => f_valid_fed_1 x0_ node_0 port_0)) (fun (v_0 : Bool) =>
 some v_0)
theorem f_valid_fed_ok (l_0 : List GEdge) (node_0 : Int) (port_0 : Int)  (r : Bool) (h : f_valid_fed l_0 node_0 port_0 = some r) : PureS Try.prog 52 [.sl 4 (enc l_0), .v (.int .i64 node_0), .v (.int .i64 port_0)] 0 (.v (.bool r)) := by
 unfold PureS
 refine Spec.of_vc Try.func52 rfl (by kernel_rfl) (by kernel_rfl) ?_
 rw [f_valid_fed] at h
 refine sg fun QQ1 hQ1 => ?_
 simp only [go_sem]
 refine seqQ_normal hQ1 ?_
 refine sg fun QQ2 hQ2 => ?_
 obtain ⟨v_0, ev_0, h⟩ := bindO_some h
 simp only [go_sem]
 refine callB (s' := (⟨0, [(0, .sl 4 (enc l_0)), (1, .v (.int .i64 node_0)), (2, .v (.int .i64 port_0)), (4, .el 1 [[.v (.int .i64 node_0)]] 0 0), (5, .el 1 [[.v (.int .i64 port_0)]] 0 0), (6, .v (.bool false)), (7, .sl 4 (enc l_0)), (8, .clo 66 [.el 1 [[.v (.int .i64 node_0)]] 0 0, .el 1 [[.v (.int .i64 port_0)]] 0 0])], [], 0, 10⟩ : St)) (l := []) (args' := [.sl 4 (enc l_0), .clo 66 [.el 1 [[.v (.int .i64 node_0)]] 0 0, .el 1 [[.v (.int .i64 port_0)]] 0 0]]) ?_ ?_ (f_slices_ContainsFunc_Edge_ok l_0 (fun x0_ => f_valid_fed_1 x0_ node_0 port_0) 66 [.el 1 [[.v (.int .i64 node_0)]] 0 0, .el 1 [[.v (.int .i64 port_0)]] 0 0] (by rfl) (by kernel_rfl) (fun y0 r_ e_ => f_valid_fed_1_ok y0 node_0 port_0 r_ e_) v_0 ev_0) (by rfl) (by rfl) ?_
 · simp only [go_sem, Le] <;> (repeat' apply And.intro) <;> ((try with_reducible refine TL_eq ?_); (simp [go_sem]; done))
 · simp only [go_sem, Le] <;> (repeat' apply And.intro) <;> ((try with_reducible refine TL_eq ?_); (simp [go_sem]; done))
 simp only [go_sem]
 refine seqQ_normal hQ2 ?_
 refine vc_ret_of ?_
 simp only [go_sem]
 obtain rfl := Option.some.inj h
 refine retW_pure rfl ?_
 simp only [go_sem, Le]

def f_valid_edge (g_0 : GGraph) (nv_0 : Int) : Option Int :=
 bindO (idx g_0.Edges nv_0) (fun (xv_0 : GEdge) =>
 bindO (f_valid_inside xv_0.From (List.length g_0.Nodes : Int)) (fun (v_0 : Bool) =>
 (if v_0 = true then bindO (f_valid_inside xv_0.To (List.length g_0.Nodes : Int)) (fun (v_1 : Bool) =>
 (if (!v_1) = true then some 7
 else bindO (idx g_0.Nodes xv_0.From) (fun (xv_1 : GNode) =>
 bindO (idx g_0.Nodes xv_0.To) (fun (xv_2 : GNode) =>
 (if (xv_1.Kind == 15) = true then some 7
 else bindO (f_valid_Ports xv_2.Kind) (fun (v_2 : Int) =>
 bindO (f_valid_inside xv_0.Port v_2) (fun (v_3 : Bool) =>
 (if (!v_3) = true then some 7
 else bindO (f_valid_given g_0 xv_1) (fun (v_4 : Int) =>
 bindO (f_valid_taken g_0 xv_2) (fun (v_5 : Int) =>
 (if (!(v_4 == v_5)) = true then some 6
 else (if ((decide (xv_0.To ≤ xv_0.From)) && (!(xv_1.Kind == 12))) = true then some 8
 else bindO (f_valid_keyed xv_2.Kind) (fun (v_6 : Bool) =>
 (if (v_6 && (!xv_0.Exchange)) = true then some 1
 else guardO (0 ≤ 0 ∧ 0 ≤ nv_0 ∧ nv_0 ≤ (List.length g_0.Edges : Int)) (
 bindO (f_valid_fed (List.take (Int.toNat nv_0) g_0.Edges) xv_0.To xv_0.Port) (fun (v_7 : Bool) =>
 (if v_7 = true then some 7
 else some 0)))))))))))))))))
 else some 7)))
theorem f_valid_edge_ok (g_0 : GGraph) (nv_0 : Int)  (r : Int) (h : f_valid_edge g_0 nv_0 = some r) : PureS Try.prog 21 [.agg [.sl 1 (enc g_0.Parent), .sl 1 (enc g_0.Bound), .sl 4 (enc g_0.Nodes), .sl 4 (enc g_0.Edges)], .v (.int .i64 nv_0)] 0 (.v (.int .i64 r)) := by
 unfold PureS
 refine Spec.of_vc Try.func21 rfl (by kernel_rfl) (by kernel_rfl) ?_
 rw [f_valid_edge] at h
 refine sg fun QQ1 hQ1 => ?_
 simp only [go_sem]
 refine seqQ_normal hQ1 ?_
 refine sg fun QQ2 hQ2 => ?_
 obtain ⟨xv_0, exv_0, h⟩ := bindO_some h
 obtain ⟨fxv_0a, fxv_0b, fxv_0c⟩ := idx_spec exv_0
 simp only [go_sem, fxv_0a, fxv_0b, fxv_0c]
 refine And.intro (by omega) ?_
 refine seqQ_normal hQ2 ?_
 refine sg fun QQ3 hQ3 => ?_
 refine sg fun QQ4 hQ4 => ?_
 obtain ⟨v_0, ev_0, h⟩ := bindO_some h
 simp only [go_sem]
 refine call0 (f_valid_inside_ok xv_0.From (List.length g_0.Nodes : Int) v_0 ev_0) (by rfl) (by rfl) ?_
 simp only [go_sem]
 rcases hb_0 : v_0 with _ | _
 ·
  replace h := if_f h hb_0
  simp only [go_sem, hb_0]
  refine seqQ_normal hQ4 ?_
  refine vc_cond_t (by (simp only [go_sem]; done)) ?_
  refine sg fun QQ5 hQ5 => ?_
  simp only [go_sem]
  refine seqQ_normal hQ5 ?_
  refine vc_ret_of ?_
  refine seqQ_ret hQ3 ?_
  simp only [go_sem]
  obtain rfl := Option.some.inj h
  refine retW_pure rfl ?_
  simp only [go_sem, Le]
 ·
  replace h := if_t h hb_0
  obtain ⟨v_1, ev_1, h⟩ := bindO_some h
  simp only [go_sem, hb_0]
  refine call0 (f_valid_inside_ok xv_0.To (List.length g_0.Nodes : Int) v_1 ev_1) (by rfl) (by rfl) ?_
  simp only [go_sem]
  refine seqQ_normal hQ4 ?_
  refine vc_cond_of (b := (!v_1)) (by (simp only [go_sem]; done)) (fun hb_1 => ?_) (fun hb_1 => ?_)
  ·
   replace h := if_t h hb_1
   simp only [bool_to_prop] at hb_1
   refine sg fun QQ6 hQ6 => ?_
   simp only [go_sem]
   refine seqQ_normal hQ6 ?_
   refine vc_ret_of ?_
   refine seqQ_ret hQ3 ?_
   simp only [go_sem]
   obtain rfl := Option.some.inj h
   refine retW_pure rfl ?_
   simp only [go_sem, Le]
  ·
   replace h := if_f h hb_1
   simp only [bool_to_prop] at hb_1
   refine vc_skip_of ?_
   refine seqQ_normal hQ3 ?_
   refine sg fun QQ7 hQ7 => ?_
   refine vc_draw ?_
   refine drawV_all 15 0 14 [0, 1, 0, 4, 15, 31, 0, 64, 0, 256, 960, 1984, 0, 0, 12351, 32767] [2, 3] [0, 1, 2, 3, 4, 5, 6, 7, 8, 9, 10, 11] [] [14] [12, 13] mixed (by kernel_rfl) (of_decide_eq_true (by kernel_rfl)) (by kernel_rfl) (by kernel_rfl) (by rfl) ?_
   obtain ⟨xv_1, exv_1, h⟩ := bindO_some h
   obtain ⟨fxv_1a, fxv_1b, fxv_1c⟩ := idx_spec exv_1
   obtain ⟨xv_2, exv_2, h⟩ := bindO_some h
   obtain ⟨fxv_2a, fxv_2b, fxv_2c⟩ := idx_spec exv_2
   simp only [go_sem, fxv_1a, fxv_1b, fxv_1c, fxv_2a, fxv_2b, fxv_2c]
   refine And.intro (by omega) ?_
   refine And.intro (by omega) ?_
   refine seqQ_normal hQ7 ?_
   refine sg fun QQ8 hQ8 => ?_
   refine vc_block_gen ?_
   intro QQ9 hQ9
   refine sg fun QQ10 hQ10 => ?_
   refine vc_draw ?_
   refine drawM_tail 9 [0, 1, 3, 7, 15, 31, 15, 79, 207, 511, 1023, 2047, 4095] mixed (by kernel_rfl) (of_decide_eq_true (by kernel_rfl)) (by kernel_rfl) ?_
   simp only [go_sem]
   rcases hb_2 : (xv_1.Kind == 15) with _ | _
   ·
    replace h := if_f h hb_2
    obtain ⟨v_2, ev_2, h⟩ := bindO_some h
    simp only [go_sem, hb_2]
    refine callq (fun _ => (f_valid_Ports_ok xv_2.Kind v_2 ev_2)) (by rfl) (by rfl) ?_
    obtain ⟨v_3, ev_3, h⟩ := bindO_some h
    simp only [go_sem]
    refine call0 (f_valid_inside_ok xv_0.Port v_2 v_3 ev_3) (by rfl) (by rfl) ?_
    simp only [go_sem]
    refine seqQ_normal hQ10 ?_
    refine vc_cond_of (b := (!v_3)) (by (simp only [go_sem]; done)) (fun hb_3 => ?_) (fun hb_3 => ?_)
    ·
     replace h := if_t h hb_3
     simp only [bool_to_prop] at hb_3
     refine sg fun QQ11 hQ11 => ?_
     simp only [go_sem]
     refine seqQ_normal hQ11 ?_
     refine vc_ret_of ?_
     refine blockQ_ret hQ9 ?_
     refine seqQ_ret hQ8 ?_
     simp only [go_sem]
     obtain rfl := Option.some.inj h
     refine retW_pure rfl ?_
     simp only [go_sem, Le]
    ·
     replace h := if_f h hb_3
     simp only [bool_to_prop] at hb_3
     refine sg fun QQ12 hQ12 => ?_
     refine vc_draw ?_
     refine drawM_tail 5 [0, 0, 3, 0, 0, 31, 63, 127] mixed (by kernel_rfl) (of_decide_eq_true (by kernel_rfl)) (by kernel_rfl) ?_
     obtain ⟨v_4, ev_4, h⟩ := bindO_some h
     simp only [go_sem]
     refine callq (fun _ => (f_valid_given_ok g_0 xv_1 v_4 ev_4)) (by rfl) (by rfl) ?_
     obtain ⟨v_5, ev_5, h⟩ := bindO_some h
     simp only [go_sem]
     refine call0 (f_valid_taken_ok g_0 xv_2 v_5 ev_5) (by rfl) (by rfl) ?_
     simp only [go_sem]
     refine seqQ_normal hQ12 ?_
     refine vc_cond_of (b := (!(v_4 == v_5))) (by (simp only [go_sem]; done)) (fun hb_4 => ?_) (fun hb_4 => ?_)
     ·
      replace h := if_t h hb_4
      simp only [bool_to_prop] at hb_4
      refine sg fun QQ13 hQ13 => ?_
      simp only [go_sem]
      refine seqQ_normal hQ13 ?_
      refine vc_ret_of ?_
      refine blockQ_ret hQ9 ?_
      refine seqQ_ret hQ8 ?_
      simp only [go_sem]
      obtain rfl := Option.some.inj h
      refine retW_pure rfl ?_
      simp only [go_sem, Le]
     ·
      replace h := if_f h hb_4
      simp only [bool_to_prop] at hb_4
      refine sg fun QQ14 hQ14 => ?_
      simp only [go_sem]
      refine seqQ_normal hQ14 ?_
      refine vc_cond_of (b := ((decide (xv_0.To ≤ xv_0.From)) && (!(xv_1.Kind == 12)))) (by (simp only [go_sem]; done)) (fun hb_5 => ?_) (fun hb_5 => ?_)
      ·
       replace h := if_t h hb_5
       simp only [bool_to_prop] at hb_5
       refine sg fun QQ15 hQ15 => ?_
       simp only [go_sem]
       refine seqQ_normal hQ15 ?_
       refine vc_ret_of ?_
       refine blockQ_ret hQ9 ?_
       refine seqQ_ret hQ8 ?_
       simp only [go_sem]
       obtain rfl := Option.some.inj h
       refine retW_pure rfl ?_
       simp only [go_sem, Le]
      ·
       replace h := if_f h hb_5
       simp only [bool_to_prop] at hb_5
       refine sg fun QQ16 hQ16 => ?_
       obtain ⟨v_6, ev_6, h⟩ := bindO_some h
       simp only [go_sem]
       refine call0 (f_valid_keyed_ok xv_2.Kind v_6 ev_6) (by rfl) (by rfl) ?_
       simp only [go_sem]
       refine seqQ_normal hQ16 ?_
       refine vc_cond_of (b := (v_6 && (!xv_0.Exchange))) (by (simp only [go_sem]; done)) (fun hb_6 => ?_) (fun hb_6 => ?_)
       ·
        replace h := if_t h hb_6
        simp only [bool_to_prop] at hb_6
        refine sg fun QQ17 hQ17 => ?_
        simp only [go_sem]
        refine seqQ_normal hQ17 ?_
        refine vc_ret_of ?_
        refine blockQ_ret hQ9 ?_
        refine seqQ_ret hQ8 ?_
        simp only [go_sem]
        obtain rfl := Option.some.inj h
        refine retW_pure rfl ?_
        simp only [go_sem, Le]
       ·
        replace h := if_f h hb_6
        simp only [bool_to_prop] at hb_6
        refine sg fun QQ18 hQ18 => ?_
        refine vc_draw ?_
        refine drawM_tail 8 [0, 1, 0, 7, 0, 16, 0, 64, 255, 511] mixed (by kernel_rfl) (of_decide_eq_true (by kernel_rfl)) (by kernel_rfl) ?_
        obtain ⟨g_1, h⟩ := guardO_some h
        obtain ⟨v_7, ev_7, h⟩ := bindO_some h
        simp only [go_sem, g_1]
        refine call0 (f_valid_fed_ok (List.take (Int.toNat nv_0) g_0.Edges) xv_0.To xv_0.Port v_7 ev_7) (by rfl) (by rfl) ?_
        simp only [go_sem]
        refine seqQ_normal hQ18 ?_
        refine vc_cond_of (b := v_7) (by (simp only [go_sem]; done)) (fun hb_7 => ?_) (fun hb_7 => ?_)
        ·
         replace h := if_t h hb_7
         refine sg fun QQ19 hQ19 => ?_
         simp only [go_sem]
         refine seqQ_normal hQ19 ?_
         refine vc_ret_of ?_
         refine blockQ_ret hQ9 ?_
         refine seqQ_ret hQ8 ?_
         simp only [go_sem]
         obtain rfl := Option.some.inj h
         refine retW_pure rfl ?_
         simp only [go_sem, Le]
        ·
         replace h := if_f h hb_7
         refine vc_skip_of ?_
         refine blockQ_normal hQ9 ?_
         refine seqQ_normal hQ8 ?_
         refine sg fun QQ20 hQ20 => ?_
         simp only [go_sem]
         refine seqQ_normal hQ20 ?_
         refine vc_ret_of ?_
         simp only [go_sem]
         obtain rfl := Option.some.inj h
         refine retW_pure rfl ?_
         simp only [go_sem, Le]
   ·
    replace h := if_t h hb_2
    simp only [go_sem, hb_2]
    refine seqQ_normal hQ10 ?_
    refine vc_cond_t (by (simp only [go_sem]; done)) ?_
    refine sg fun QQ21 hQ21 => ?_
    simp only [go_sem]
    refine seqQ_normal hQ21 ?_
    refine vc_ret_of ?_
    refine blockQ_ret hQ9 ?_
    refine seqQ_ret hQ8 ?_
    simp only [go_sem]
    obtain rfl := Option.some.inj h
    refine retW_pure rfl ?_
    simp only [go_sem, Le]

def f_backwashref09_node_J1 (xv_0 : GNode) : Option Int :=
 (if (xv_0.Kind == 2) = true then bindO (f_backwashref07_Right xv_0.Prog) (fun (v_1 : Bool) =>
 (if ((!v_1) || ((!(xv_0.Kind == 2)) && (decide (0 < (List.length xv_0.Prog : Int))))) = true then some 13
 else some 0))
 else (if ((!(xv_0.Kind == 2)) && (decide (0 < (List.length xv_0.Prog : Int)))) = true then some 13
 else some 0))
def f_backwashref09_node (g_0 : GGraph) (nv_0 : Int) : Option Int :=
 bindO (idx g_0.Nodes nv_0) (fun (xv_0 : GNode) =>
 (if ((decide (xv_0.Kind < 1)) || (decide (15 < xv_0.Kind))) = true then some 1
 else (if ((decide (xv_0.Scope < 0)) || (decide ((List.length g_0.Parent : Int) ≤ xv_0.Scope))) = true then some 6
 else (if ((((xv_0.Scope == 0) && (decide (10 ≤ xv_0.Kind))) && (decide (xv_0.Kind ≤ 12))) || ((decide (0 < xv_0.Scope)) && ((xv_0.Kind == 1) || (xv_0.Kind == 15)))) = true then some 6
 else bindO (f_backwashref09_follows g_0 nv_0) (fun (v_0 : Bool) =>
 (if (!v_0) = true then some 6
 else (if (xv_0.Kind == 4) = true then (if (decide (xv_0.Arg < 1)) = true then some 1
 else f_backwashref09_node_J1 xv_0)
 else (if (xv_0.Kind == 3) = true then f_backwashref09_node_J1 xv_0
 else (if (!(xv_0.Arg == 0)) = true then some 1
 else f_backwashref09_node_J1 xv_0)))))))))
def f_backwashref09_Ports (kind_0 : Int) : Option Int :=
 (if ((decide (kind_0 < 1)) || (decide (15 < kind_0))) = true then some 0
 else bindO (idx ([0, 0, 1, 1, 1, 2, 1, 1, 1, 2, 1, 1, 1, 1, 1, 1] : List Int) kind_0) (fun (xv_0 : Int) =>
 some xv_0))
def f_backwashref09_Place (g_0 : GGraph) (nv_0 : Int) (gives_0 : Bool) : Option Int :=
 bindO (idx g_0.Nodes nv_0) (fun (xv_0 : GNode) =>
 (if (((xv_0.Kind == 10) && (!gives_0)) || ((xv_0.Kind == 11) && gives_0)) = true then bindO (idx g_0.Parent xv_0.Scope) (fun (xv_1 : Int) =>
 some xv_1)
 else some xv_0.Scope))
def f_backwashref09_edge_B1 (g_0 : GGraph) (nv_0 : Int) (xv_0 : GEdge) (rec_1 : Int → Option Int) : Int → Option Int :=
 fun i_1 =>
 (if (decide (i_1 < nv_0)) = true then bindO (idx g_0.Edges i_1) (fun (xv_5 : GEdge) =>
 (if (xv_5.To == xv_0.To) = true then (if (xv_5.Port == xv_0.Port) = true then some 7
 else rec_1 (IntKind.i64.wrap (i_1 + 1)))
 else rec_1 (IntKind.i64.wrap (i_1 + 1))))
 else some 0)
def f_backwashref09_edge (g_0 : GGraph) (nv_0 : Int) : Option Int :=
 bindO (idx g_0.Edges nv_0) (fun (xv_0 : GEdge) =>
 (if ((((decide (xv_0.From < 0)) || (decide ((List.length g_0.Nodes : Int) ≤ xv_0.From))) || (decide (xv_0.To < 0))) || (decide ((List.length g_0.Nodes : Int) ≤ xv_0.To))) = true then some 7
 else bindO (idx g_0.Nodes xv_0.From) (fun (xv_1 : GNode) =>
 (if ((xv_1.Kind == 15) || (decide (xv_0.Port < 0))) = true then some 7
 else bindO (idx g_0.Nodes xv_0.To) (fun (xv_2 : GNode) =>
 bindO (f_backwashref09_Ports xv_2.Kind) (fun (v_0 : Int) =>
 (if (decide (v_0 ≤ xv_0.Port)) = true then some 7
 else bindO (f_backwashref09_Place g_0 xv_0.From true) (fun (v_1 : Int) =>
 bindO (f_backwashref09_Place g_0 xv_0.To false) (fun (v_2 : Int) =>
 (if (!(v_1 == v_2)) = true then some 6
 else (if ((!(xv_1.Kind == 12)) && (decide (xv_0.To ≤ xv_0.From))) = true then some 8
 else (if ((!xv_0.Exchange) && (((((xv_2.Kind == 6) || (xv_2.Kind == 7)) || (xv_2.Kind == 8)) || (xv_2.Kind == 9)) || (xv_2.Kind == 14))) = true then some 1
 else loopK (f_backwashref09_edge_B1 g_0 nv_0 xv_0) rounds 0))))))))))))
def f_valid_full_B1 (g_0 : GGraph) (nv_0 : Int) (v_0 : Int) (rec_1 : Int → Option Bool) : Int → Option Bool :=
 fun t13_1 =>
 (if (decide (t13_1 < v_0)) = true then bindO (f_valid_fed g_0.Edges nv_0 t13_1) (fun (v_3 : Bool) =>
 (if (!v_3) = true then some false
 else rec_1 (IntKind.i64.wrap (t13_1 + 1))))
 else some true)
def f_valid_full (g_0 : GGraph) (nv_0 : Int) : Option Bool :=
 bindO (idx g_0.Nodes nv_0) (fun (xv_0 : GNode) =>
 bindO (f_valid_Ports xv_0.Kind) (fun (v_0 : Int) =>
 loopK (f_valid_full_B1 g_0 nv_0 v_0) rounds 0))
theorem f_valid_full_ok (g_0 : GGraph) (nv_0 : Int)  (r : Bool) (h : f_valid_full g_0 nv_0 = some r) : PureS Try.prog 22 [.agg [.sl 1 (enc g_0.Parent), .sl 1 (enc g_0.Bound), .sl 4 (enc g_0.Nodes), .sl 4 (enc g_0.Edges)], .v (.int .i64 nv_0)] 0 (.v (.bool r)) := by
 unfold PureS
 refine Spec.of_vc Try.func22 rfl (by kernel_rfl) (by kernel_rfl) ?_
 rw [f_valid_full] at h
 refine sg fun QQ1 hQ1 => ?_
 simp only [go_sem]
 refine seqQ_normal hQ1 ?_
 refine vc_join (by kernel_rfl) ?_
 refine seq_go_gen ?_
 intro QQ2 hQ2
 refine sg fun QQ3 hQ3 => ?_
 obtain ⟨xv_0, exv_0, h⟩ := bindO_some h
 obtain ⟨fxv_0a, fxv_0b, fxv_0c⟩ := idx_spec exv_0
 obtain ⟨v_0, ev_0, h⟩ := bindO_some h
 simp only [go_sem, fxv_0a, fxv_0b, fxv_0c]
 refine And.intro (by omega) ?_
 refine call0 (f_valid_Ports_ok xv_0.Kind v_0 ev_0) (by rfl) (by rfl) ?_
 simp only [go_sem]
 refine seqQ_normal hQ3 ?_
 refine vc_block_gen ?_
 intro QQ4 hQ4
 refine vc_loop_of ?_
 refine loop_gen (ι := Nat × Int) (fun ((_, t13_1) : Nat × Int) => (⟨0, [(1, .v (.int .i64 nv_0)), (2, .ptr 0 0), (12, .v (.int .i64 v_0)), (13, .v (.int .i64 t13_1))], [(0, .box [.sl 1 (enc g_0.Parent), .sl 1 (enc g_0.Bound), .sl 4 (enc g_0.Nodes), .sl 4 (enc g_0.Edges)])], 1, 23⟩ : St)) (fun ((n_, t13_1) : Nat × Int) => loopK (f_valid_full_B1 g_0 nv_0 v_0) n_ t13_1 = some r) (fun p => p.1) (rounds, 0) [some 0] ?_ h ?_
 · simp only [go_sem, Le]
 ·
  rintro ⟨n_1, t13_1⟩ h QQ5 hQ5
  dsimp only at h
  replace h := loopK_some h
  obtain ⟨m_1, rfl, h⟩ := h
  rw [f_valid_full_B1] at h
  refine sg fun QQ6 hQ6 => ?_
  simp only [go_sem]
  refine seqQ_normal hQ6 ?_
  refine sg fun QQ7 hQ7 => ?_
  refine vc_cond_of (b := (decide (t13_1 < v_0))) (by (simp only [go_sem]; done)) (fun hb_4 => ?_) (fun hb_4 => ?_)
  ·
   replace h := if_t h hb_4
   simp only [bool_to_prop] at hb_4
   refine vc_skip_of ?_
   refine seqQ_normal hQ7 ?_
   refine sg fun QQ8 hQ8 => ?_
   refine vc_block_gen ?_
   intro QQ9 hQ9
   refine sg fun QQ10 hQ10 => ?_
   simp only [go_sem]
   refine seqQ_normal hQ10 ?_
   refine sg fun QQ11 hQ11 => ?_
   obtain ⟨v_3, ev_3, h⟩ := bindO_some h
   simp only [go_sem]
   refine call0 (f_valid_fed_ok g_0.Edges nv_0 t13_1 v_3 ev_3) (by rfl) (by rfl) ?_
   simp only [go_sem]
   refine seqQ_normal hQ11 ?_
   refine vc_cond_of (b := (!v_3)) (by (simp only [go_sem]; done)) (fun hb_5 => ?_) (fun hb_5 => ?_)
   ·
    replace h := if_t h hb_5
    simp only [bool_to_prop] at hb_5
    refine sg fun QQ12 hQ12 => ?_
    simp only [go_sem]
    refine seqQ_normal hQ12 ?_
    refine vc_ret_of ?_
    refine blockQ_ret hQ9 ?_
    refine seqQ_ret hQ8 ?_
    refine thenQ_ret hQ5 ?_
    refine blockQ_ret hQ4 ?_
    refine seqQ_ret hQ2 ?_
    simp only [go_sem]
    obtain rfl := Option.some.inj h
    refine retW_pure rfl ?_
    simp only [go_sem, Le]
   ·
    replace h := if_f h hb_5
    simp only [bool_to_prop] at hb_5
    refine vc_skip_of ?_
    refine blockQ_normal hQ9 ?_
    refine seqQ_normal hQ8 ?_
    simp only [go_sem]
    refine thenQ_normal hQ5 ?_
    refine ⟨(m_1, IntKind.i64.wrap (t13_1 + 1)), [some 0], ?_, h, Nat.lt_succ_self _⟩
    simp only [go_sem, Le]
  ·
   replace h := if_f h hb_4
   simp only [bool_to_prop] at hb_4
   refine vc_exit_of ?_
   refine seqQ_exit hQ7 ?_
   refine thenQ_exit hQ5 ?_
   refine blockQ_exit hQ4 ?_
   refine seqQ_normal hQ2 ?_
   refine sg fun QQ13 hQ13 => ?_
   simp only [go_sem]
   refine seqQ_normal hQ13 ?_
   refine vc_ret_of ?_
   simp only [go_sem]
   obtain rfl := Option.some.inj h
   refine retW_pure rfl ?_
   simp only [go_sem, Le]

def f_valid_under_B1 (g_0 : GGraph) (s_0 : Int) (rec_1 : Int → Option Bool) : Int → Option Bool :=
 fun p_1 =>
 (if (decide (0 ≤ p_1)) = true then (if (p_1 == s_0) = true then some true
 else bindO (idx g_0.Parent p_1) (fun (xv_3 : Int) =>
 rec_1 xv_3))
 else some false)
def f_valid_under (g_0 : GGraph) (s_0 : Int) (of_0 : Int) : Option Bool :=
 bindO (idx g_0.Parent of_0) (fun (xv_0 : Int) =>
 loopK (f_valid_under_B1 g_0 s_0) rounds xv_0)
theorem f_valid_under_ok (g_0 : GGraph) (s_0 : Int) (of_0 : Int)  (r : Bool) (h : f_valid_under g_0 s_0 of_0 = some r) : PureS Try.prog 54 [.agg [.sl 1 (enc g_0.Parent), .sl 1 (enc g_0.Bound), .sl 4 (enc g_0.Nodes), .sl 4 (enc g_0.Edges)], .v (.int .i64 s_0), .v (.int .i64 of_0)] 0 (.v (.bool r)) := by
 unfold PureS
 refine Spec.of_vc Try.func54 rfl (by kernel_rfl) (by kernel_rfl) ?_
 rw [f_valid_under] at h
 refine sg fun QQ1 hQ1 => ?_
 simp only [go_sem]
 refine seqQ_normal hQ1 ?_
 refine vc_join (by kernel_rfl) ?_
 refine seq_go_gen ?_
 intro QQ2 hQ2
 refine sg fun QQ3 hQ3 => ?_
 obtain ⟨xv_0, exv_0, h⟩ := bindO_some h
 obtain ⟨fxv_0a, fxv_0b, fxv_0c⟩ := idx_spec exv_0
 simp only [go_sem, fxv_0a, fxv_0b, fxv_0c]
 refine And.intro (by omega) ?_
 refine seqQ_normal hQ3 ?_
 refine vc_block_gen ?_
 intro QQ4 hQ4
 refine vc_loop_of ?_
 refine loop_gen (ι := Nat × Int) (fun ((_, p_1) : Nat × Int) => (⟨0, [(1, .v (.int .i64 s_0)), (3, .ptr 0 0), (7, .v (.int .i64 p_1))], [(0, .box [.sl 1 (enc g_0.Parent), .sl 1 (enc g_0.Bound), .sl 4 (enc g_0.Nodes), .sl 4 (enc g_0.Edges)])], 1, 23⟩ : St)) (fun ((n_, p_1) : Nat × Int) => loopK (f_valid_under_B1 g_0 s_0) n_ p_1 = some r) (fun p => p.1) (rounds, xv_0) [some 0] ?_ h ?_
 · simp only [go_sem, Le]
 ·
  rintro ⟨n_1, p_1⟩ h QQ5 hQ5
  dsimp only at h
  replace h := loopK_some h
  obtain ⟨m_1, rfl, h⟩ := h
  rw [f_valid_under_B1] at h
  refine sg fun QQ6 hQ6 => ?_
  refine sg fun QQ7 hQ7 => ?_
  simp only [go_sem]
  refine seqQ_normal hQ7 ?_
  refine vc_cond_of (b := (decide (0 ≤ p_1))) (by (simp only [go_sem]; done)) (fun hb_4 => ?_) (fun hb_4 => ?_)
  ·
   replace h := if_t h hb_4
   simp only [bool_to_prop] at hb_4
   refine vc_skip_of ?_
   refine seqQ_normal hQ6 ?_
   refine sg fun QQ8 hQ8 => ?_
   refine vc_block_gen ?_
   intro QQ9 hQ9
   refine sg fun QQ10 hQ10 => ?_
   simp only [go_sem]
   refine seqQ_normal hQ10 ?_
   refine vc_cond_of (b := (p_1 == s_0)) (by (simp only [go_sem]; done)) (fun hb_5 => ?_) (fun hb_5 => ?_)
   ·
    replace h := if_t h hb_5
    simp only [bool_to_prop] at hb_5
    refine sg fun QQ11 hQ11 => ?_
    simp only [go_sem]
    refine seqQ_normal hQ11 ?_
    refine vc_ret_of ?_
    refine blockQ_ret hQ9 ?_
    refine seqQ_ret hQ8 ?_
    refine thenQ_ret hQ5 ?_
    refine blockQ_ret hQ4 ?_
    refine seqQ_ret hQ2 ?_
    simp only [go_sem]
    obtain rfl := Option.some.inj h
    refine retW_pure rfl ?_
    simp only [go_sem, Le]
   ·
    replace h := if_f h hb_5
    simp only [bool_to_prop] at hb_5
    refine vc_skip_of ?_
    refine blockQ_normal hQ9 ?_
    refine seqQ_normal hQ8 ?_
    obtain ⟨xv_3, exv_3, h⟩ := bindO_some h
    obtain ⟨fxv_3a, fxv_3b, fxv_3c⟩ := idx_spec exv_3
    simp only [go_sem, fxv_3a, fxv_3b, fxv_3c]
    refine And.intro (by omega) ?_
    refine thenQ_normal hQ5 ?_
    refine ⟨(m_1, xv_3), [some 0], ?_, h, Nat.lt_succ_self _⟩
    simp only [go_sem, Le]
  ·
   replace h := if_f h hb_4
   simp only [bool_to_prop] at hb_4
   refine vc_exit_of ?_
   refine seqQ_exit hQ6 ?_
   refine thenQ_exit hQ5 ?_
   refine blockQ_exit hQ4 ?_
   refine seqQ_normal hQ2 ?_
   refine sg fun QQ12 hQ12 => ?_
   simp only [go_sem]
   refine seqQ_normal hQ12 ?_
   refine vc_ret_of ?_
   simp only [go_sem]
   obtain rfl := Option.some.inj h
   refine retW_pure rfl ?_
   simp only [go_sem, Le]

def f_valid_again_1_p1_p2_p3_s2_0_B1 (fromv_0 : Int) (cap_0 : GGraph) (self : Int → GGraph → (List Bool) → Int → Option (GGraph × (List Bool) × Int)) (rec_1 : Int × GGraph × Int × (List Bool) → Option (GGraph × (List Bool) × Int)) : Int × GGraph × Int × (List Bool) → Option (GGraph × (List Bool) × Int) :=
 fun (t12_1, b_2, b_3, a_1) =>
 (if (decide (t12_1 < (List.length cap_0.Edges : Int))) = true then bindO (idx cap_0.Edges t12_1) (fun (xv_6 : GEdge) =>
 (if (xv_6.From == fromv_0) = true then bindO (idx a_1 xv_6.To) (fun (xv_7 : Bool) =>
 (if xv_7 = true then rec_1 (IntKind.i64.wrap (t12_1 + 1), b_2, b_3, a_1)
 else bindO (idx b_2.Nodes xv_6.To) (fun (xv_8 : GNode) =>
 (if (xv_8.Kind == 12) = true then bindO (f_valid_under b_2 xv_8.Scope b_3) (fun (v_7 : Bool) =>
 (if (!v_7) = true then bindO (self xv_6.To b_2 (List.set a_1 (Int.toNat xv_6.To) true) b_3) (fun (v_8 : GGraph × (List Bool) × Int) =>
 rec_1 (IntKind.i64.wrap (t12_1 + 1), v_8.1, v_8.2.2, v_8.2.1))
 else rec_1 (IntKind.i64.wrap (t12_1 + 1), b_2, b_3, (List.set a_1 (Int.toNat xv_6.To) true))))
 else bindO (self xv_6.To b_2 (List.set a_1 (Int.toNat xv_6.To) true) b_3) (fun (v_6 : GGraph × (List Bool) × Int) =>
 rec_1 (IntKind.i64.wrap (t12_1 + 1), v_6.1, v_6.2.2, v_6.2.1))))))
 else rec_1 (IntKind.i64.wrap (t12_1 + 1), b_2, b_3, a_1)))
 else some (b_2, a_1, b_3))
def f_valid_again_1_p1_p2_p3_s2_0_R (self : Int → GGraph → (List Bool) → Int → Option (GGraph × (List Bool) × Int)) (fromv_0 : Int) (cap_0 : GGraph) (cap_1 : List Bool) (cap_2 : Int) : Option (GGraph × (List Bool) × Int) :=
 loopK (f_valid_again_1_p1_p2_p3_s2_0_B1 fromv_0 cap_0 self) rounds (0, cap_0, cap_2, cap_1)
def f_valid_again_1_p1_p2_p3_s2_0_D : Nat → Int → GGraph → (List Bool) → Int → Option (GGraph × (List Bool) × Int)
 | 0 => fun _ _ _ _ => none
 | n + 1 => f_valid_again_1_p1_p2_p3_s2_0_R (f_valid_again_1_p1_p2_p3_s2_0_D n)
def f_valid_again_1_p1_p2_p3_s2_0 (fromv_0 : Int) (cap_0 : GGraph) (cap_1 : List Bool) (cap_2 : Int) : Option (GGraph × (List Bool) × Int) := f_valid_again_1_p1_p2_p3_s2_0_D rounds fromv_0 cap_0 cap_1 cap_2
theorem f_valid_again_1_p1_p2_p3_s2_0_R_det (self : Int → GGraph → (List Bool) → Int → Option (GGraph × (List Bool) × Int)) (Hself : ∀ (fromv_0 : Int) (cap_0 : GGraph) (cap_1 : List Bool) (cap_2 : Int)  (r : GGraph × (List Bool) × Int), self fromv_0 cap_0 cap_1 cap_2 = some r → DetS Try.prog 53 [.v (.int .i64 fromv_0), .ptr 0 0, .ptr 1 0, .ptr 3 0, .ptr 4 0] [(0, .box [.sl 1 (enc cap_0.Parent), .sl 1 (enc cap_0.Bound), .sl 4 (enc cap_0.Nodes), .sl 4 (enc cap_0.Edges)]), (1, .box [.osl 2 1 (0) (List.length cap_1)]), (2, .arr 1 (enc cap_1)), (3, .box [.v (.int .i64 cap_2)]), (4, .box [.clo 53 [.ptr 0 0, .ptr 1 0, .ptr 3 0, .ptr 4 0]])] 5 (.tup []) [(0, .box [.sl 1 (enc r.1.Parent), .sl 1 (enc r.1.Bound), .sl 4 (enc r.1.Nodes), .sl 4 (enc r.1.Edges)]), (1, .box [.osl 5 1 (0) (List.length r.2.1)]), (3, .box [.v (.int .i64 r.2.2)]), (4, .box [.clo 53 [.ptr 0 0, .ptr 1 0, .ptr 3 0, .ptr 4 0]]), (5, .arr 1 (enc r.2.1))] 6) (fromv_0 : Int) (cap_0 : GGraph) (cap_1 : List Bool) (cap_2 : Int)  (r : GGraph × (List Bool) × Int) (h : f_valid_again_1_p1_p2_p3_s2_0_R self fromv_0 cap_0 cap_1 cap_2 = some r) : DetS Try.prog 53 [.v (.int .i64 fromv_0), .ptr 0 0, .ptr 1 0, .ptr 3 0, .ptr 4 0] [(0, .box [.sl 1 (enc cap_0.Parent), .sl 1 (enc cap_0.Bound), .sl 4 (enc cap_0.Nodes), .sl 4 (enc cap_0.Edges)]), (1, .box [.osl 2 1 (0) (List.length cap_1)]), (2, .arr 1 (enc cap_1)), (3, .box [.v (.int .i64 cap_2)]), (4, .box [.clo 53 [.ptr 0 0, .ptr 1 0, .ptr 3 0, .ptr 4 0]])] 5 (.tup []) [(0, .box [.sl 1 (enc r.1.Parent), .sl 1 (enc r.1.Bound), .sl 4 (enc r.1.Nodes), .sl 4 (enc r.1.Edges)]), (1, .box [.osl 5 1 (0) (List.length r.2.1)]), (3, .box [.v (.int .i64 r.2.2)]), (4, .box [.clo 53 [.ptr 0 0, .ptr 1 0, .ptr 3 0, .ptr 4 0]]), (5, .arr 1 (enc r.2.1))] 6 := by
 unfold DetS
 refine Spec.of_vc Try.func53 rfl (by kernel_rfl) (by kernel_rfl) ?_
 rw [f_valid_again_1_p1_p2_p3_s2_0_R] at h
 refine sg fun QQ1 hQ1 => ?_
 simp only [go_sem]
 refine seqQ_normal hQ1 ?_
 refine vc_block_gen ?_
 intro QQ2 hQ2
 refine vc_loop_of ?_
 refine loop_gen (ι := Nat × Int × GGraph × Int × (List Bool)) (fun ((_, t12_1, b_2, b_3, a_1) : Nat × Int × GGraph × Int × (List Bool)) => (⟨5, [(0, .v (.int .i64 fromv_0)), (1, .ptr 0 0), (2, .ptr 1 0), (3, .ptr 3 0), (4, .ptr 4 0), (10, .sl 4 (enc cap_0.Edges)), (11, .v (.int .i64 (List.length cap_0.Edges : Int))), (12, .v (.int .i64 t12_1))], [(0, .box [.sl 1 (enc b_2.Parent), .sl 1 (enc b_2.Bound), .sl 4 (enc b_2.Nodes), .sl 4 (enc b_2.Edges)]), (1, .box [.osl 5 1 (0) (List.length a_1)]), (3, .box [.v (.int .i64 b_3)]), (4, .box [.clo 53 [.ptr 0 0, .ptr 1 0, .ptr 3 0, .ptr 4 0]]), (5, .arr 1 (enc a_1))], 6, 53⟩ : St)) (fun ((n_, t12_1, b_2, b_3, a_1) : Nat × Int × GGraph × Int × (List Bool)) => loopK (f_valid_again_1_p1_p2_p3_s2_0_B1 fromv_0 cap_0 self) n_ (t12_1, b_2, b_3, a_1) = some r) (fun p => p.1) (rounds, 0, cap_0, cap_2, cap_1) [some 2] ?_ h ?_
 · simp only [go_sem, Le] <;> (repeat' apply And.intro) <;> first | ((try with_reducible refine TL_eq ?_); omega) | ((try with_reducible refine TL_eq ?_); (simp [go_sem]; done))
 ·
  rintro ⟨n_1, t12_1, b_2, b_3, a_1⟩ h QQ3 hQ3
  dsimp only at h
  replace h := loopK_some h
  obtain ⟨m_1, rfl, h⟩ := h
  rw [f_valid_again_1_p1_p2_p3_s2_0_B1] at h
  refine sg fun QQ4 hQ4 => ?_
  simp only [go_sem]
  refine seqQ_normal hQ4 ?_
  refine sg fun QQ5 hQ5 => ?_
  refine vc_cond_of (b := (decide (t12_1 < (List.length cap_0.Edges : Int)))) (by (simp only [go_sem]; done)) (fun hb_10 => ?_) (fun hb_10 => ?_)
  ·
   replace h := if_t h hb_10
   simp only [bool_to_prop] at hb_10
   refine vc_skip_of ?_
   refine seqQ_normal hQ5 ?_
   refine vc_join (by kernel_rfl) ?_
   refine seq_go_gen ?_
   intro QQ6 hQ6
   refine vc_block_gen ?_
   intro QQ7 hQ7
   refine sg fun QQ8 hQ8 => ?_
   obtain ⟨xv_6, exv_6, h⟩ := bindO_some h
   obtain ⟨fxv_6a, fxv_6b, fxv_6c⟩ := idx_spec exv_6
   simp only [go_sem, fxv_6a, fxv_6b, fxv_6c]
   refine And.intro (by omega) ?_
   refine seqQ_normal hQ8 ?_
   refine sg fun QQ9 hQ9 => ?_
   refine sg fun QQ10 hQ10 => ?_
   simp only [go_sem]
   rcases hb_11 : (xv_6.From == fromv_0) with _ | _
   ·
    replace h := if_f h hb_11
    simp only [go_sem, hb_11]
    refine seqQ_normal hQ10 ?_
    refine vc_cond_t (by (simp only [go_sem]; done)) ?_
    refine vc_exit_of ?_
    refine seqQ_exit hQ9 ?_
    refine blockQ_exit hQ7 ?_
    refine seqQ_normal hQ6 ?_
    simp only [go_sem]
    refine thenQ_normal hQ3 ?_
    refine ⟨(m_1, IntKind.i64.wrap (t12_1 + 1), b_2, b_3, a_1), [some 5], ?_, h, Nat.lt_succ_self _⟩
    simp only [go_sem, Le] <;> (repeat' apply And.intro) <;> first | ((try with_reducible refine TL_eq ?_); omega) | ((try with_reducible refine TL_eq ?_); (simp [go_sem]; done))
   ·
    replace h := if_t h hb_11
    obtain ⟨xv_7, exv_7, h⟩ := bindO_some h
    obtain ⟨fxv_7a, fxv_7b, fxv_7c⟩ := idx_spec exv_7
    simp only [go_sem, hb_11, fxv_7a, fxv_7b, fxv_7c]
    refine And.intro (by omega) ?_
    refine seqQ_normal hQ10 ?_
    refine vc_cond_of (b := xv_7) (by (simp only [go_sem]; done)) (fun hb_12 => ?_) (fun hb_12 => ?_)
    ·
     replace h := if_t h hb_12
     refine vc_exit_of ?_
     refine seqQ_exit hQ9 ?_
     refine blockQ_exit hQ7 ?_
     refine seqQ_normal hQ6 ?_
     simp only [go_sem]
     refine thenQ_normal hQ3 ?_
     refine ⟨(m_1, IntKind.i64.wrap (t12_1 + 1), b_2, b_3, a_1), [some 5], ?_, h, Nat.lt_succ_self _⟩
     simp only [go_sem, Le] <;> (repeat' apply And.intro) <;> first | ((try with_reducible refine TL_eq ?_); omega) | ((try with_reducible refine TL_eq ?_); (simp [go_sem]; done))
    ·
     replace h := if_f h hb_12
     refine vc_skip_of ?_
     refine seqQ_normal hQ9 ?_
     refine sg fun QQ11 hQ11 => ?_
     have rf_2 : (enc a_1).set (Int.toNat xv_6.To) [.v (.bool true)] = enc (List.set a_1 (Int.toNat xv_6.To) true) := by exact enc_set _ _ _
     simp only [go_sem, fxv_7a, fxv_7b, fxv_7c, rf_2]
     refine And.intro (by omega) ?_
     refine seqQ_normal hQ11 ?_
     refine sg fun QQ12 hQ12 => ?_
     obtain ⟨xv_8, exv_8, h⟩ := bindO_some h
     obtain ⟨fxv_8a, fxv_8b, fxv_8c⟩ := idx_spec exv_8
     simp only [go_sem, fxv_8a, fxv_8b, fxv_8c]
     refine And.intro (by omega) ?_
     refine seqQ_normal hQ12 ?_
     refine sg fun QQ13 hQ13 => ?_
     simp only [go_sem]
     rcases hb_13 : (xv_8.Kind == 12) with _ | _
     ·
      replace h := if_f h hb_13
      simp only [go_sem, hb_13]
      refine seqQ_normal hQ13 ?_
      refine vc_cond_t (by (simp only [go_sem]; done)) ?_
      obtain ⟨v_6, ev_6, h⟩ := bindO_some h
      simp only [go_sem]
      refine callF_weak (s' := (⟨5, [(0, .v (.int .i64 fromv_0)), (1, .ptr 0 0), (2, .ptr 1 0), (3, .ptr 3 0), (4, .ptr 4 0), (7, .ptr 6 0), (8, .ptr 7 0), (10, .sl 4 (enc cap_0.Edges)), (11, .v (.int .i64 (List.length cap_0.Edges : Int))), (12, .v (.int .i64 t12_1)), (13, .v (.bool (decide (t12_1 < (List.length cap_0.Edges : Int))))), (14, .el 4 (enc cap_0.Edges) (Int.toNat t12_1) 0), (15, .agg [.v (.int .i64 xv_6.From), .v (.int .i64 xv_6.To), .v (.int .i64 xv_6.Port), .v (.bool xv_6.Exchange)]), (16, .ptr 6 0), (17, .v (.int .i64 xv_6.From)), (18, .v (.int .i64 fromv_0)), (19, .v (.bool false)), (20, .v (.bool false)), (21, .osl 5 1 (0) (List.length a_1)), (22, .ptr 6 1), (23, .v (.int .i64 xv_6.To)), (25, .v (.bool xv_7)), (26, .v (.bool xv_7)), (27, .osl 5 1 (0) (List.length a_1)), (28, .ptr 6 1), (29, .v (.int .i64 xv_6.To)), (31, .ptr 0 2), (32, .sl 4 (enc b_2.Nodes)), (33, .ptr 6 1), (34, .v (.int .i64 xv_6.To)), (35, .el 4 (enc b_2.Nodes) (Int.toNat xv_6.To) 0), (36, .agg [.v (.int .i64 xv_8.Kind), .v (.int .i64 xv_8.Scope), .v (.int .i64 xv_8.Arg), .sl 2 (enc xv_8.Prog)]), (37, .ptr 7 0), (38, .v (.int .i64 xv_8.Kind)), (39, .v (.bool true)), (40, .v (.bool true)), (47, .v (.bool true)), (48, .clo 53 [.ptr 0 0, .ptr 1 0, .ptr 3 0, .ptr 4 0]), (49, .ptr 6 1), (50, .v (.int .i64 xv_6.To))], [(0, .box [.sl 1 (enc b_2.Parent), .sl 1 (enc b_2.Bound), .sl 4 (enc b_2.Nodes), .sl 4 (enc b_2.Edges)]), (1, .box [.osl 5 1 (0) (List.length (List.set a_1 (Int.toNat xv_6.To) true))]), (3, .box [.v (.int .i64 b_3)]), (4, .box [.clo 53 [.ptr 0 0, .ptr 1 0, .ptr 3 0, .ptr 4 0]]), (5, .arr 1 (enc (List.set a_1 (Int.toNat xv_6.To) true))), (6, .box [.v (.int .i64 xv_6.From), .v (.int .i64 xv_6.To), .v (.int .i64 xv_6.Port), .v (.bool xv_6.Exchange)]), (7, .box [.v (.int .i64 xv_8.Kind), .v (.int .i64 xv_8.Scope), .v (.int .i64 xv_8.Arg), .sl 2 (enc xv_8.Prog)])], 8, 53⟩ : St)) (l := [some 5, some 6, some 7]) (args' := [.v (.int .i64 xv_6.To), .ptr 0 0, .ptr 1 0, .ptr 3 0, .ptr 4 0]) ?_ ?_ ?_
      · simp only [go_sem, Le] <;> (repeat' apply And.intro) <;> first | ((try with_reducible refine TL_eq ?_); omega) | ((try with_reducible refine TL_eq ?_); (simp [go_sem]; done)) | ((try with_reducible refine TL_eq ?_); (simp [enc_len, enc]; omega))
      · simp only [go_sem, Le]
      refine callD [0, 1, 5, 3, 4] (Hself xv_6.To b_2 (List.set a_1 (Int.toNat xv_6.To) true) b_3 v_6 ev_6) (by simp) rfl ⟨rfl, ⟨rfl, ⟨rfl, ⟨rfl, ⟨rfl, trivial⟩⟩⟩⟩⟩ rfl rfl rfl rfl ?_
      simp only [go_sem]
      refine blockQ_normal hQ7 ?_
      refine seqQ_normal hQ6 ?_
      simp only [go_sem]
      refine thenQ_normal hQ3 ?_
      refine ⟨(m_1, IntKind.i64.wrap (t12_1 + 1), v_6.1, v_6.2.2, v_6.2.1), [some 8], ?_, h, Nat.lt_succ_self _⟩
      simp only [go_sem, Le] <;> (repeat' apply And.intro) <;> first | ((try with_reducible refine TL_eq ?_); omega) | ((try with_reducible refine TL_eq ?_); (simp [go_sem]; done))
     ·
      replace h := if_t h hb_13
      obtain ⟨v_7, ev_7, h⟩ := bindO_some h
      simp only [go_sem, hb_13]
      refine call0 (f_valid_under_ok b_2 xv_8.Scope b_3 v_7 ev_7) (by rfl) (by rfl) ?_
      simp only [go_sem]
      refine seqQ_normal hQ13 ?_
      refine vc_cond_of (b := (!v_7)) (by (simp only [go_sem]; done)) (fun hb_14 => ?_) (fun hb_14 => ?_)
      ·
       replace h := if_t h hb_14
       simp only [bool_to_prop] at hb_14
       obtain ⟨v_8, ev_8, h⟩ := bindO_some h
       simp only [go_sem]
       refine callF_weak (s' := (⟨5, [(0, .v (.int .i64 fromv_0)), (1, .ptr 0 0), (2, .ptr 1 0), (3, .ptr 3 0), (4, .ptr 4 0), (7, .ptr 6 0), (8, .ptr 7 0), (10, .sl 4 (enc cap_0.Edges)), (11, .v (.int .i64 (List.length cap_0.Edges : Int))), (12, .v (.int .i64 t12_1)), (13, .v (.bool (decide (t12_1 < (List.length cap_0.Edges : Int))))), (14, .el 4 (enc cap_0.Edges) (Int.toNat t12_1) 0), (15, .agg [.v (.int .i64 xv_6.From), .v (.int .i64 xv_6.To), .v (.int .i64 xv_6.Port), .v (.bool xv_6.Exchange)]), (16, .ptr 6 0), (17, .v (.int .i64 xv_6.From)), (18, .v (.int .i64 fromv_0)), (19, .v (.bool false)), (20, .v (.bool false)), (21, .osl 5 1 (0) (List.length a_1)), (22, .ptr 6 1), (23, .v (.int .i64 xv_6.To)), (25, .v (.bool xv_7)), (26, .v (.bool xv_7)), (27, .osl 5 1 (0) (List.length a_1)), (28, .ptr 6 1), (29, .v (.int .i64 xv_6.To)), (31, .ptr 0 2), (32, .sl 4 (enc b_2.Nodes)), (33, .ptr 6 1), (34, .v (.int .i64 xv_6.To)), (35, .el 4 (enc b_2.Nodes) (Int.toNat xv_6.To) 0), (36, .agg [.v (.int .i64 xv_8.Kind), .v (.int .i64 xv_8.Scope), .v (.int .i64 xv_8.Arg), .sl 2 (enc xv_8.Prog)]), (37, .ptr 7 0), (38, .v (.int .i64 xv_8.Kind)), (39, .v (.bool false)), (40, .v (.bool false)), (41, .agg [.sl 1 (enc b_2.Parent), .sl 1 (enc b_2.Bound), .sl 4 (enc b_2.Nodes), .sl 4 (enc b_2.Edges)]), (42, .ptr 7 1), (43, .v (.int .i64 xv_8.Scope)), (44, .v (.int .i64 b_3)), (45, .v (.bool v_7)), (46, .v (.bool (!v_7))), (47, .v (.bool (!v_7))), (48, .clo 53 [.ptr 0 0, .ptr 1 0, .ptr 3 0, .ptr 4 0]), (49, .ptr 6 1), (50, .v (.int .i64 xv_6.To))], [(0, .box [.sl 1 (enc b_2.Parent), .sl 1 (enc b_2.Bound), .sl 4 (enc b_2.Nodes), .sl 4 (enc b_2.Edges)]), (1, .box [.osl 5 1 (0) (List.length (List.set a_1 (Int.toNat xv_6.To) true))]), (3, .box [.v (.int .i64 b_3)]), (4, .box [.clo 53 [.ptr 0 0, .ptr 1 0, .ptr 3 0, .ptr 4 0]]), (5, .arr 1 (enc (List.set a_1 (Int.toNat xv_6.To) true))), (6, .box [.v (.int .i64 xv_6.From), .v (.int .i64 xv_6.To), .v (.int .i64 xv_6.Port), .v (.bool xv_6.Exchange)]), (7, .box [.v (.int .i64 xv_8.Kind), .v (.int .i64 xv_8.Scope), .v (.int .i64 xv_8.Arg), .sl 2 (enc xv_8.Prog)])], 8, 53⟩ : St)) (l := [some 5, some 6, some 7]) (args' := [.v (.int .i64 xv_6.To), .ptr 0 0, .ptr 1 0, .ptr 3 0, .ptr 4 0]) ?_ ?_ ?_
       · simp only [go_sem, Le] <;> (repeat' apply And.intro) <;> first | ((try with_reducible refine TL_eq ?_); omega) | ((try with_reducible refine TL_eq ?_); (simp [go_sem]; done)) | ((try with_reducible refine TL_eq ?_); (simp [enc_len, enc]; omega))
       · simp only [go_sem, Le]
       refine callD [0, 1, 5, 3, 4] (Hself xv_6.To b_2 (List.set a_1 (Int.toNat xv_6.To) true) b_3 v_8 ev_8) (by simp) rfl ⟨rfl, ⟨rfl, ⟨rfl, ⟨rfl, ⟨rfl, trivial⟩⟩⟩⟩⟩ rfl rfl rfl rfl ?_
       simp only [go_sem]
       refine blockQ_normal hQ7 ?_
       refine seqQ_normal hQ6 ?_
       simp only [go_sem]
       refine thenQ_normal hQ3 ?_
       refine ⟨(m_1, IntKind.i64.wrap (t12_1 + 1), v_8.1, v_8.2.2, v_8.2.1), [some 8], ?_, h, Nat.lt_succ_self _⟩
       simp only [go_sem, Le] <;> (repeat' apply And.intro) <;> first | ((try with_reducible refine TL_eq ?_); omega) | ((try with_reducible refine TL_eq ?_); (simp [go_sem]; done))
      ·
       replace h := if_f h hb_14
       simp only [bool_to_prop] at hb_14
       refine vc_skip_of ?_
       refine blockQ_normal hQ7 ?_
       refine seqQ_normal hQ6 ?_
       simp only [go_sem]
       refine thenQ_normal hQ3 ?_
       refine ⟨(m_1, IntKind.i64.wrap (t12_1 + 1), b_2, b_3, (List.set a_1 (Int.toNat xv_6.To) true)), [some 5], ?_, h, Nat.lt_succ_self _⟩
       simp only [go_sem, Le] <;> (repeat' apply And.intro) <;> first | ((try with_reducible refine TL_eq ?_); omega) | ((try with_reducible refine TL_eq ?_); (simp [go_sem]; done))
  ·
   replace h := if_f h hb_10
   simp only [bool_to_prop] at hb_10
   refine vc_exit_of ?_
   refine seqQ_exit hQ5 ?_
   refine thenQ_exit hQ3 ?_
   refine blockQ_exit hQ2 ?_
   simp only [go_sem]
   obtain rfl := Option.some.inj h
   refine retW_det [some 5] ?_
   simp only [go_sem, Le] <;> (repeat' apply And.intro) <;> first | ((try with_reducible refine TL_eq ?_); omega) | ((try with_reducible refine TL_eq ?_); (simp [go_sem]; done))
theorem f_valid_again_1_p1_p2_p3_s2_0_D_det : ∀ (n : Nat) (fromv_0 : Int) (cap_0 : GGraph) (cap_1 : List Bool) (cap_2 : Int)  (r : GGraph × (List Bool) × Int), f_valid_again_1_p1_p2_p3_s2_0_D n fromv_0 cap_0 cap_1 cap_2 = some r → DetS Try.prog 53 [.v (.int .i64 fromv_0), .ptr 0 0, .ptr 1 0, .ptr 3 0, .ptr 4 0] [(0, .box [.sl 1 (enc cap_0.Parent), .sl 1 (enc cap_0.Bound), .sl 4 (enc cap_0.Nodes), .sl 4 (enc cap_0.Edges)]), (1, .box [.osl 2 1 (0) (List.length cap_1)]), (2, .arr 1 (enc cap_1)), (3, .box [.v (.int .i64 cap_2)]), (4, .box [.clo 53 [.ptr 0 0, .ptr 1 0, .ptr 3 0, .ptr 4 0]])] 5 (.tup []) [(0, .box [.sl 1 (enc r.1.Parent), .sl 1 (enc r.1.Bound), .sl 4 (enc r.1.Nodes), .sl 4 (enc r.1.Edges)]), (1, .box [.osl 5 1 (0) (List.length r.2.1)]), (3, .box [.v (.int .i64 r.2.2)]), (4, .box [.clo 53 [.ptr 0 0, .ptr 1 0, .ptr 3 0, .ptr 4 0]]), (5, .arr 1 (enc r.2.1))] 6
 | 0, fromv_0, cap_0, cap_1, cap_2, r, h => by simp [f_valid_again_1_p1_p2_p3_s2_0_D] at h
 | n + 1, fromv_0, cap_0, cap_1, cap_2, r, h => f_valid_again_1_p1_p2_p3_s2_0_R_det (f_valid_again_1_p1_p2_p3_s2_0_D n) (f_valid_again_1_p1_p2_p3_s2_0_D_det n) fromv_0 cap_0 cap_1 cap_2  r h
theorem f_valid_again_1_p1_p2_p3_s2_0_det (fromv_0 : Int) (cap_0 : GGraph) (cap_1 : List Bool) (cap_2 : Int)  (r : GGraph × (List Bool) × Int) (h : f_valid_again_1_p1_p2_p3_s2_0 fromv_0 cap_0 cap_1 cap_2 = some r) : DetS Try.prog 53 [.v (.int .i64 fromv_0), .ptr 0 0, .ptr 1 0, .ptr 3 0, .ptr 4 0] [(0, .box [.sl 1 (enc cap_0.Parent), .sl 1 (enc cap_0.Bound), .sl 4 (enc cap_0.Nodes), .sl 4 (enc cap_0.Edges)]), (1, .box [.osl 2 1 (0) (List.length cap_1)]), (2, .arr 1 (enc cap_1)), (3, .box [.v (.int .i64 cap_2)]), (4, .box [.clo 53 [.ptr 0 0, .ptr 1 0, .ptr 3 0, .ptr 4 0]])] 5 (.tup []) [(0, .box [.sl 1 (enc r.1.Parent), .sl 1 (enc r.1.Bound), .sl 4 (enc r.1.Nodes), .sl 4 (enc r.1.Edges)]), (1, .box [.osl 5 1 (0) (List.length r.2.1)]), (3, .box [.v (.int .i64 r.2.2)]), (4, .box [.clo 53 [.ptr 0 0, .ptr 1 0, .ptr 3 0, .ptr 4 0]]), (5, .arr 1 (enc r.2.1))] 6 := f_valid_again_1_p1_p2_p3_s2_0_D_det rounds fromv_0 cap_0 cap_1 cap_2  r h

def f_valid_again_B1 (g_0 : GGraph) (nv_0 : Int) (rec_1 : Int × Int × (List Bool) × GGraph → Option Bool) : Int × Int × (List Bool) × GGraph → Option Bool :=
 fun (t31_1, b_2, a_1, b_3) =>
 (if (decide (t31_1 < (List.length g_0.Nodes : Int))) = true then bindO (idx g_0.Nodes t31_1) (fun (xv_5 : GNode) =>
 (if ((xv_5.Kind == 11) && (xv_5.Scope == b_2)) = true then bindO (f_valid_again_1_p1_p2_p3_s2_0 t31_1 b_3 a_1 b_2) (fun (v_2 : GGraph × (List Bool) × Int) =>
 rec_1 (IntKind.i64.wrap (t31_1 + 1), v_2.2.2, v_2.2.1, v_2.1))
 else rec_1 (IntKind.i64.wrap (t31_1 + 1), b_2, a_1, b_3)))
 else bindO (idx a_1 nv_0) (fun (xv_6 : Bool) =>
 some xv_6))
def f_valid_again (g_0 : GGraph) (nv_0 : Int) : Option Bool :=
 bindO (idx g_0.Nodes nv_0) (fun (xv_0 : GNode) =>
 (if (!(xv_0.Kind == 10)) = true then some false
 else guardO (0 ≤ (List.length g_0.Nodes : Int) ∧ (List.length g_0.Nodes : Int) * 1 ≤ 140737488355328) (
 loopK (f_valid_again_B1 g_0 nv_0) rounds (0, xv_0.Scope, (List.replicate (List.length g_0.Nodes) false), g_0))))
theorem f_valid_again_ok (g_0 : GGraph) (nv_0 : Int)  (r : Bool) (h : f_valid_again g_0 nv_0 = some r) : PureS Try.prog 23 [.agg [.sl 1 (enc g_0.Parent), .sl 1 (enc g_0.Bound), .sl 4 (enc g_0.Nodes), .sl 4 (enc g_0.Edges)], .v (.int .i64 nv_0)] 0 (.v (.bool r)) := by
 unfold PureS
 refine Spec.of_vc Try.func23 rfl (by kernel_rfl) (by kernel_rfl) ?_
 rw [f_valid_again] at h
 refine sg fun QQ1 hQ1 => ?_
 simp only [go_sem]
 refine seqQ_normal hQ1 ?_
 refine sg fun QQ2 hQ2 => ?_
 obtain ⟨xv_0, exv_0, h⟩ := bindO_some h
 obtain ⟨fxv_0a, fxv_0b, fxv_0c⟩ := idx_spec exv_0
 simp only [go_sem, fxv_0a, fxv_0b, fxv_0c]
 refine And.intro (by omega) ?_
 refine seqQ_normal hQ2 ?_
 refine sg fun QQ3 hQ3 => ?_
 refine sg fun QQ4 hQ4 => ?_
 simp only [go_sem, fxv_0a, fxv_0b, fxv_0c]
 refine And.intro (by omega) ?_
 refine seqQ_normal hQ4 ?_
 refine vc_cond_of (b := (!(xv_0.Kind == 10))) (by (simp only [go_sem]; done)) (fun hb_0 => ?_) (fun hb_0 => ?_)
 ·
  replace h := if_t h hb_0
  simp only [bool_to_prop] at hb_0
  refine sg fun QQ5 hQ5 => ?_
  simp only [go_sem]
  refine seqQ_normal hQ5 ?_
  refine vc_ret_of ?_
  refine seqQ_ret hQ3 ?_
  simp only [go_sem]
  obtain rfl := Option.some.inj h
  refine retW_pure rfl ?_
  simp only [go_sem, Le]
 ·
  replace h := if_f h hb_0
  simp only [bool_to_prop] at hb_0
  refine vc_skip_of ?_
  refine seqQ_normal hQ3 ?_
  refine sg fun QQ6 hQ6 => ?_
  obtain ⟨g_1, h⟩ := guardO_some h
  have rf_0 : List.replicate (List.length g_0.Nodes) [.v (.bool false)] = enc (List.replicate (List.length g_0.Nodes) false) := by simp [enc, row_int, row_bool, row_list, enc_nil]
  simp only [go_sem, g_1]
  simp only [rf_0]
  refine seqQ_normal hQ6 ?_
  refine sg fun QQ7 hQ7 => ?_
  simp only [go_sem]
  refine seqQ_normal hQ7 ?_
  refine sg fun QQ8 hQ8 => ?_
  simp only [go_sem]
  refine seqQ_normal hQ8 ?_
  refine vc_join (by kernel_rfl) ?_
  refine seq_go_gen ?_
  intro QQ9 hQ9
  refine sg fun QQ10 hQ10 => ?_
  simp only [go_sem]
  refine seqQ_normal hQ10 ?_
  refine vc_block_gen ?_
  intro QQ11 hQ11
  refine vc_loop_of ?_
  refine loop_gen (ι := Nat × Int × Int × (List Bool) × GGraph) (fun ((_, t31_1, b_2, a_1, b_3) : Nat × Int × Int × (List Bool) × GGraph) => (⟨0, [(1, .v (.int .i64 nv_0)), (5, .ptr 0 0), (6, .ptr 1 0), (7, .ptr 2 0), (29, .sl 4 (enc g_0.Nodes)), (30, .v (.int .i64 (List.length g_0.Nodes : Int))), (31, .v (.int .i64 t31_1))], [(0, .box [.v (.int .i64 b_2)]), (1, .box [.osl 3 1 (0) (List.length a_1)]), (2, .box [.clo 53 [.ptr 4 0, .ptr 1 0, .ptr 0 0, .ptr 2 0]]), (3, .arr 1 (enc a_1)), (4, .box [.sl 1 (enc b_3.Parent), .sl 1 (enc b_3.Bound), .sl 4 (enc b_3.Nodes), .sl 4 (enc b_3.Edges)])], 5, 53⟩ : St)) (fun ((n_, t31_1, b_2, a_1, b_3) : Nat × Int × Int × (List Bool) × GGraph) => loopK (f_valid_again_B1 g_0 nv_0) n_ (t31_1, b_2, a_1, b_3) = some r) (fun p => p.1) (rounds, 0, xv_0.Scope, (List.replicate (List.length g_0.Nodes) false), g_0) [some 1, some 3, some 4, some 2, some 0] ?_ h ?_
  · simp only [go_sem, Le] <;> (repeat' apply And.intro) <;> first | ((try with_reducible refine TL_eq ?_); omega) | ((try with_reducible refine TL_eq ?_); (simp [go_sem]; done))
  ·
   rintro ⟨n_1, t31_1, b_2, a_1, b_3⟩ h QQ12 hQ12
   dsimp only at h
   replace h := loopK_some h
   obtain ⟨m_1, rfl, h⟩ := h
   rw [f_valid_again_B1] at h
   refine sg fun QQ13 hQ13 => ?_
   simp only [go_sem]
   refine seqQ_normal hQ13 ?_
   refine sg fun QQ14 hQ14 => ?_
   refine vc_cond_of (b := (decide (t31_1 < (List.length g_0.Nodes : Int)))) (by (simp only [go_sem]; done)) (fun hb_5 => ?_) (fun hb_5 => ?_)
   ·
    replace h := if_t h hb_5
    simp only [bool_to_prop] at hb_5
    refine vc_skip_of ?_
    refine seqQ_normal hQ14 ?_
    refine vc_join (by kernel_rfl) ?_
    refine seq_go_gen ?_
    intro QQ15 hQ15
    refine vc_block_gen ?_
    intro QQ16 hQ16
    refine sg fun QQ17 hQ17 => ?_
    obtain ⟨xv_5, exv_5, h⟩ := bindO_some h
    obtain ⟨fxv_5a, fxv_5b, fxv_5c⟩ := idx_spec exv_5
    simp only [go_sem, fxv_5a, fxv_5b, fxv_5c]
    refine And.intro (by omega) ?_
    refine seqQ_normal hQ17 ?_
    refine sg fun QQ18 hQ18 => ?_
    simp only [go_sem]
    refine seqQ_normal hQ18 ?_
    refine vc_cond_of (b := ((xv_5.Kind == 11) && (xv_5.Scope == b_2))) (by (simp only [go_sem]; done)) (fun hb_6 => ?_) (fun hb_6 => ?_)
    ·
     replace h := if_t h hb_6
     simp only [bool_to_prop] at hb_6
     obtain ⟨v_2, ev_2, h⟩ := bindO_some h
     simp only [go_sem]
     refine callD [4, 1, 3, 0, 2] (f_valid_again_1_p1_p2_p3_s2_0_det t31_1 b_3 a_1 b_2 v_2 ev_2) (by simp) rfl ⟨rfl, ⟨rfl, ⟨rfl, ⟨rfl, ⟨rfl, trivial⟩⟩⟩⟩⟩ rfl rfl rfl rfl ?_
     simp only [go_sem]
     refine blockQ_normal hQ16 ?_
     refine seqQ_normal hQ15 ?_
     simp only [go_sem]
     refine thenQ_normal hQ12 ?_
     refine ⟨(m_1, IntKind.i64.wrap (t31_1 + 1), v_2.2.2, v_2.2.1, v_2.1), [some 0, some 1, some 2, some 6, some 4], ?_, h, Nat.lt_succ_self _⟩
     simp only [go_sem, Le] <;> (repeat' apply And.intro) <;> first | ((try with_reducible refine TL_eq ?_); omega) | ((try with_reducible refine TL_eq ?_); (simp [go_sem]; done))
    ·
     replace h := if_f h hb_6
     simp only [bool_to_prop] at hb_6
     refine vc_skip_of ?_
     refine blockQ_normal hQ16 ?_
     refine seqQ_normal hQ15 ?_
     simp only [go_sem]
     refine thenQ_normal hQ12 ?_
     refine ⟨(m_1, IntKind.i64.wrap (t31_1 + 1), b_2, a_1, b_3), [some 0, some 1, some 2, some 3, some 4], ?_, h, Nat.lt_succ_self _⟩
     simp only [go_sem, Le] <;> (repeat' apply And.intro) <;> first | ((try with_reducible refine TL_eq ?_); omega) | ((try with_reducible refine TL_eq ?_); (simp [go_sem]; done))
   ·
    replace h := if_f h hb_5
    simp only [bool_to_prop] at hb_5
    refine vc_exit_of ?_
    refine seqQ_exit hQ14 ?_
    refine thenQ_exit hQ12 ?_
    refine blockQ_exit hQ11 ?_
    refine seqQ_normal hQ9 ?_
    refine sg fun QQ19 hQ19 => ?_
    obtain ⟨xv_6, exv_6, h⟩ := bindO_some h
    obtain ⟨fxv_6a, fxv_6b, fxv_6c⟩ := idx_spec exv_6
    simp only [go_sem, fxv_6a, fxv_6b, fxv_6c]
    refine And.intro (by omega) ?_
    refine seqQ_normal hQ19 ?_
    refine vc_ret_of ?_
    simp only [go_sem]
    obtain rfl := Option.some.inj h
    refine retW_pure rfl ?_
    simp only [go_sem, Le]

def f_backwashref09_around_B1 (s_0 : Int) (v_0 : List Int) (rec_1 : Int → Option Bool) : Int → Option Bool :=
 fun i_1 =>
 (if (decide ((IntKind.i64.wrap (i_1 + 1)) < (List.length v_0 : Int))) = true then bindO (idx v_0 i_1) (fun (xv_2 : Int) =>
 (if (xv_2 == s_0) = true then some true
 else rec_1 (IntKind.i64.wrap (i_1 + 1))))
 else some false)
def f_backwashref09_around (g_0 : GGraph) (s_0 : Int) (of_0 : Int) : Option Bool :=
 bindO (f_backwashref09_Chain g_0 of_0) (fun (v_0 : List Int) =>
 loopK (f_backwashref09_around_B1 s_0 v_0) rounds 0)
def f_backwashref09_Again_B2 (g_0 : GGraph) (s_0 : Int) (round_1 : Int) (rec_1 : (Int × (List Bool) → Option (List Bool))) (rec_2 : Int × (List Bool) → Option (List Bool)) : Int × (List Bool) → Option (List Bool) :=
 fun (i_5, a_7) =>
 (if (decide (i_5 < (List.length g_0.Edges : Int))) = true then bindO (idx g_0.Edges i_5) (fun (xv_48 : GEdge) =>
 bindO (idx g_0.Nodes xv_48.From) (fun (xv_49 : GNode) =>
 (if ((xv_49.Kind == 11) && (xv_49.Scope == s_0)) = true then bindO (idx a_7 xv_48.To) (fun (xv_53 : Bool) =>
 rec_2 (IntKind.i64.wrap (i_5 + 1), (List.set a_7 (Int.toNat xv_48.To) true)))
 else bindO (idx a_7 xv_48.From) (fun (xv_50 : Bool) =>
 (if xv_50 = true then (if (xv_49.Kind == 12) = true then bindO (f_backwashref09_around g_0 xv_49.Scope s_0) (fun (v_8 : Bool) =>
 (if (!v_8) = true then bindO (idx a_7 xv_48.To) (fun (xv_52 : Bool) =>
 rec_2 (IntKind.i64.wrap (i_5 + 1), (List.set a_7 (Int.toNat xv_48.To) true)))
 else rec_2 (IntKind.i64.wrap (i_5 + 1), a_7)))
 else bindO (idx a_7 xv_48.To) (fun (xv_51 : Bool) =>
 rec_2 (IntKind.i64.wrap (i_5 + 1), (List.set a_7 (Int.toNat xv_48.To) true))))
 else rec_2 (IntKind.i64.wrap (i_5 + 1), a_7))))))
 else rec_1 (IntKind.i64.wrap (round_1 + 1), a_7))
def f_backwashref09_Again_B1 (g_0 : GGraph) (s_0 : Int) (rec_1 : Int × (List Bool) → Option (List Bool)) : Int × (List Bool) → Option (List Bool) :=
 fun (round_1, a_5) =>
 (if (decide (round_1 ≤ (List.length g_0.Nodes : Int))) = true then loopK (f_backwashref09_Again_B2 g_0 s_0 round_1 rec_1) rounds (0, a_5)
 else some a_5)
def f_backwashref09_Again (g_0 : GGraph) (s_0 : Int) : Option (List Bool) :=
 guardO (0 ≤ (List.length g_0.Nodes : Int) ∧ (List.length g_0.Nodes : Int) * 1 ≤ 140737488355328) (
 loopK (f_backwashref09_Again_B1 g_0 s_0) rounds (0, (List.replicate (List.length g_0.Nodes) false)))
def f_valid_Check_B5 (g_0 : GGraph) (rec_5 : Int → Option (Int × Int)) : Int → Option (Int × Int) :=
 fun t101_1 =>
 (if (decide (t101_1 < (List.length g_0.Nodes : Int))) = true then bindO (f_valid_again g_0 t101_1) (fun (v_14 : Bool) =>
 (if v_14 = true then some (8, t101_1)
 else rec_5 (IntKind.i64.wrap (t101_1 + 1))))
 else some (0, 0))
def f_valid_Check_J4 (g_0 : GGraph) : Option (Int × Int) :=
 loopK (f_valid_Check_B5 g_0) rounds 0
def f_valid_Check_B6 (g_0 : GGraph) (rec_6 : Int → Option (Int × Int)) : Int → Option (Int × Int) :=
 fun t89_3 =>
 (if (decide (t89_3 < (List.length g_0.Nodes : Int))) = true then bindO (f_valid_full g_0 t89_3) (fun (v_17 : Bool) =>
 (if (!v_17) = true then some (7, t89_3)
 else rec_6 (IntKind.i64.wrap (t89_3 + 1))))
 else f_valid_Check_J4 g_0)
def f_valid_Check_J3 (g_0 : GGraph) : Option (Int × Int) :=
 loopK (f_valid_Check_B6 g_0) rounds 0
def f_valid_Check_B7 (g_0 : GGraph) (rec_7 : Int → Option (Int × Int)) : Int → Option (Int × Int) :=
 fun t75_3 =>
 (if (decide (t75_3 < (List.length g_0.Edges : Int))) = true then bindO (f_valid_edge g_0 t75_3) (fun (v_20 : Int) =>
 (if (!(v_20 == 0)) = true then some (v_20, t75_3)
 else rec_7 (IntKind.i64.wrap (t75_3 + 1))))
 else f_valid_Check_J3 g_0)
def f_valid_Check_J2 (g_0 : GGraph) : Option (Int × Int) :=
 loopK (f_valid_Check_B7 g_0) rounds 0
def f_valid_Check_B8 (g_0 : GGraph) (rec_8 : Int → Option (Int × Int)) : Int → Option (Int × Int) :=
 fun t61_3 =>
 (if (decide (t61_3 < (List.length g_0.Nodes : Int))) = true then bindO (f_valid_node g_0 t61_3) (fun (v_23 : Int) =>
 (if (!(v_23 == 0)) = true then some (v_23, t61_3)
 else rec_8 (IntKind.i64.wrap (t61_3 + 1))))
 else f_valid_Check_J2 g_0)
def f_valid_Check_J1 (g_0 : GGraph) : Option (Int × Int) :=
 (if (((decide ((List.length g_0.Nodes : Int) < 1)) || (decide (32 < (List.length g_0.Nodes : Int)))) || (decide (64 < (List.length g_0.Edges : Int)))) = true then some (11, 0)
 else loopK (f_valid_Check_B8 g_0) rounds 0)
def f_valid_Check_B9 (g_0 : GGraph) (rec_9 : Int → Option (Int × Int)) : Int → Option (Int × Int) :=
 fun t33_3 =>
 (if (decide (t33_3 < (List.length g_0.Parent : Int))) = true then bindO (f_valid_scope g_0 t33_3) (fun (v_26 : Bool) =>
 (if (!v_26) = true then some (6, t33_3)
 else rec_9 (IntKind.i64.wrap (t33_3 + 1))))
 else f_valid_Check_J1 g_0)
def f_valid_Check (g_0 : GGraph) : Option (Int × Int) :=
 (if (((decide ((List.length g_0.Parent : Int) < 1)) || (decide (8 < (List.length g_0.Parent : Int)))) || (!((List.length g_0.Bound : Int) == (List.length g_0.Parent : Int)))) = true then some (6, 0)
 else loopK (f_valid_Check_B9 g_0) rounds 0)
theorem f_valid_Check_ok (g_0 : GGraph)  (r : Int × Int) (h : f_valid_Check g_0 = some r) : PureS Try.prog 10 [.agg [.sl 1 (enc g_0.Parent), .sl 1 (enc g_0.Bound), .sl 4 (enc g_0.Nodes), .sl 4 (enc g_0.Edges)]] 0 (.tup [.v (.int .i64 r.1), .v (.int .i64 r.2)]) := by
 unfold PureS
 refine Spec.of_vc Try.func10 rfl (by kernel_rfl) (by kernel_rfl) ?_
 rw [f_valid_Check] at h
 refine sg fun QQ1 hQ1 => ?_
 simp only [go_sem]
 refine seqQ_normal hQ1 ?_
 refine sg fun QQ2 hQ2 => ?_
 refine sg fun QQ3 hQ3 => ?_
 simp only [go_sem]
 refine seqQ_normal hQ3 ?_
 refine vc_cond_of (b := (((decide ((List.length g_0.Parent : Int) < 1)) || (decide (8 < (List.length g_0.Parent : Int)))) || (!((List.length g_0.Bound : Int) == (List.length g_0.Parent : Int))))) (by (simp only [go_sem]; done)) (fun hb_0 => ?_) (fun hb_0 => ?_)
 ·
  replace h := if_t h hb_0
  simp only [bool_to_prop] at hb_0
  refine sg fun QQ4 hQ4 => ?_
  simp only [go_sem]
  refine seqQ_normal hQ4 ?_
  refine vc_ret_of ?_
  refine seqQ_ret hQ2 ?_
  simp only [go_sem]
  obtain rfl := Option.some.inj h
  refine retW_pure rfl ?_
  simp only [go_sem, Le]
 ·
  replace h := if_f h hb_0
  simp only [bool_to_prop] at hb_0
  refine vc_skip_of ?_
  refine seqQ_normal hQ2 ?_
  refine vc_join (by kernel_rfl) ?_
  refine seq_cut_gen (ι := Unit) (fun (_ : Unit) => (⟨0, [(1, .ptr 0 0)], [(0, .box [.sl 1 (enc g_0.Parent), .sl 1 (enc g_0.Bound), .sl 4 (enc g_0.Nodes), .sl 4 (enc g_0.Edges)])], 1, 109⟩ : St)) (fun (_ : Unit) => f_valid_Check_J1 g_0 = some r) ?_ ?_
  ·
   intro QQ55 hQ55
   refine sg fun QQ56 hQ56 => ?_
   simp only [go_sem]
   refine seqQ_normal hQ56 ?_
   refine vc_block_gen ?_
   intro QQ57 hQ57
   refine vc_loop_of ?_
   refine loop_gen (ι := Nat × Int) (fun ((_, t33_3) : Nat × Int) => (⟨0, [(1, .ptr 0 0), (32, .v (.int .i64 (List.length g_0.Parent : Int))), (33, .v (.int .i64 t33_3))], [(0, .box [.sl 1 (enc g_0.Parent), .sl 1 (enc g_0.Bound), .sl 4 (enc g_0.Nodes), .sl 4 (enc g_0.Edges)])], 1, 109⟩ : St)) (fun ((n_, t33_3) : Nat × Int) => loopK (f_valid_Check_B9 g_0) n_ t33_3 = some r) (fun p => p.1) (rounds, 0) [some 0] ?_ h ?_
   · simp only [go_sem, Le]
   ·
    rintro ⟨n_9, t33_3⟩ h QQ58 hQ58
    dsimp only at h
    replace h := loopK_some h
    obtain ⟨m_9, rfl, h⟩ := h
    rw [f_valid_Check_B9] at h
    refine sg fun QQ59 hQ59 => ?_
    simp only [go_sem]
    refine seqQ_normal hQ59 ?_
    refine sg fun QQ60 hQ60 => ?_
    refine vc_cond_of (b := (decide (t33_3 < (List.length g_0.Parent : Int)))) (by (simp only [go_sem]; done)) (fun hb_54 => ?_) (fun hb_54 => ?_)
    ·
     replace h := if_t h hb_54
     simp only [bool_to_prop] at hb_54
     refine vc_skip_of ?_
     refine seqQ_normal hQ60 ?_
     refine sg fun QQ61 hQ61 => ?_
     refine vc_block_gen ?_
     intro QQ62 hQ62
     refine sg fun QQ63 hQ63 => ?_
     simp only [go_sem]
     refine seqQ_normal hQ63 ?_
     refine sg fun QQ64 hQ64 => ?_
     obtain ⟨v_26, ev_26, h⟩ := bindO_some h
     simp only [go_sem]
     refine call0 (f_valid_scope_ok g_0 t33_3 v_26 ev_26) (by rfl) (by rfl) ?_
     simp only [go_sem]
     refine seqQ_normal hQ64 ?_
     refine vc_cond_of (b := (!v_26)) (by (simp only [go_sem]; done)) (fun hb_55 => ?_) (fun hb_55 => ?_)
     ·
      replace h := if_t h hb_55
      simp only [bool_to_prop] at hb_55
      refine sg fun QQ65 hQ65 => ?_
      simp only [go_sem]
      refine seqQ_normal hQ65 ?_
      refine vc_ret_of ?_
      refine blockQ_ret hQ62 ?_
      refine seqQ_ret hQ61 ?_
      refine thenQ_ret hQ58 ?_
      refine blockQ_ret hQ57 ?_
      refine thenQ_ret hQ55 ?_
      simp only [go_sem]
      obtain rfl := Option.some.inj h
      refine retW_pure rfl ?_
      simp only [go_sem, Le]
     ·
      replace h := if_f h hb_55
      simp only [bool_to_prop] at hb_55
      refine vc_skip_of ?_
      refine blockQ_normal hQ62 ?_
      refine seqQ_normal hQ61 ?_
      simp only [go_sem]
      refine thenQ_normal hQ58 ?_
      refine ⟨(m_9, IntKind.i64.wrap (t33_3 + 1)), [some 0], ?_, h, Nat.lt_succ_self _⟩
      simp only [go_sem, Le]
    ·
     replace h := if_f h hb_54
     simp only [bool_to_prop] at hb_54
     refine vc_exit_of ?_
     refine seqQ_exit hQ60 ?_
     refine thenQ_exit hQ58 ?_
     refine blockQ_exit hQ57 ?_
     refine thenQ_normal hQ55 ?_
     refine ⟨(), [some 0], ?_, h⟩
     simp only [go_sem, Le]
  ·
   rintro ⟨⟩ h
   try dsimp only at h
   rw [f_valid_Check_J1] at h
   refine sg fun QQ5 hQ5 => ?_
   refine sg fun QQ6 hQ6 => ?_
   simp only [go_sem]
   refine seqQ_normal hQ6 ?_
   refine vc_cond_of (b := (((decide ((List.length g_0.Nodes : Int) < 1)) || (decide (32 < (List.length g_0.Nodes : Int)))) || (decide (64 < (List.length g_0.Edges : Int))))) (by (simp only [go_sem]; done)) (fun hb_7 => ?_) (fun hb_7 => ?_)
   ·
    replace h := if_t h hb_7
    simp only [bool_to_prop] at hb_7
    refine sg fun QQ7 hQ7 => ?_
    simp only [go_sem]
    refine seqQ_normal hQ7 ?_
    refine vc_ret_of ?_
    refine seqQ_ret hQ5 ?_
    simp only [go_sem]
    obtain rfl := Option.some.inj h
    refine retW_pure rfl ?_
    simp only [go_sem, Le]
   ·
    replace h := if_f h hb_7
    simp only [bool_to_prop] at hb_7
    refine vc_skip_of ?_
    refine seqQ_normal hQ5 ?_
    refine vc_join (by kernel_rfl) ?_
    refine seq_cut_gen (ι := Unit) (fun (_ : Unit) => (⟨0, [(1, .ptr 0 0)], [(0, .box [.sl 1 (enc g_0.Parent), .sl 1 (enc g_0.Bound), .sl 4 (enc g_0.Nodes), .sl 4 (enc g_0.Edges)])], 1, 109⟩ : St)) (fun (_ : Unit) => f_valid_Check_J2 g_0 = some r) ?_ ?_
    ·
     intro QQ43 hQ43
     refine sg fun QQ44 hQ44 => ?_
     simp only [go_sem]
     refine seqQ_normal hQ44 ?_
     refine vc_block_gen ?_
     intro QQ45 hQ45
     refine vc_loop_of ?_
     refine loop_gen (ι := Nat × Int) (fun ((_, t61_3) : Nat × Int) => (⟨0, [(1, .ptr 0 0), (60, .v (.int .i64 (List.length g_0.Nodes : Int))), (61, .v (.int .i64 t61_3))], [(0, .box [.sl 1 (enc g_0.Parent), .sl 1 (enc g_0.Bound), .sl 4 (enc g_0.Nodes), .sl 4 (enc g_0.Edges)])], 1, 109⟩ : St)) (fun ((n_, t61_3) : Nat × Int) => loopK (f_valid_Check_B8 g_0) n_ t61_3 = some r) (fun p => p.1) (rounds, 0) [some 0] ?_ h ?_
     · simp only [go_sem, Le]
     ·
      rintro ⟨n_8, t61_3⟩ h QQ46 hQ46
      dsimp only at h
      replace h := loopK_some h
      obtain ⟨m_8, rfl, h⟩ := h
      rw [f_valid_Check_B8] at h
      refine sg fun QQ47 hQ47 => ?_
      simp only [go_sem]
      refine seqQ_normal hQ47 ?_
      refine sg fun QQ48 hQ48 => ?_
      refine vc_cond_of (b := (decide (t61_3 < (List.length g_0.Nodes : Int)))) (by (simp only [go_sem]; done)) (fun hb_48 => ?_) (fun hb_48 => ?_)
      ·
       replace h := if_t h hb_48
       simp only [bool_to_prop] at hb_48
       refine vc_skip_of ?_
       refine seqQ_normal hQ48 ?_
       refine sg fun QQ49 hQ49 => ?_
       refine vc_block_gen ?_
       intro QQ50 hQ50
       refine sg fun QQ51 hQ51 => ?_
       simp only [go_sem]
       refine seqQ_normal hQ51 ?_
       refine sg fun QQ52 hQ52 => ?_
       obtain ⟨v_23, ev_23, h⟩ := bindO_some h
       simp only [go_sem]
       refine call0 (f_valid_node_ok g_0 t61_3 v_23 ev_23) (by rfl) (by rfl) ?_
       simp only [go_sem]
       refine seqQ_normal hQ52 ?_
       refine sg fun QQ53 hQ53 => ?_
       simp only [go_sem]
       refine seqQ_normal hQ53 ?_
       refine vc_cond_of (b := (!(v_23 == 0))) (by (simp only [go_sem]; done)) (fun hb_49 => ?_) (fun hb_49 => ?_)
       ·
        replace h := if_t h hb_49
        simp only [bool_to_prop] at hb_49
        refine sg fun QQ54 hQ54 => ?_
        simp only [go_sem]
        refine seqQ_normal hQ54 ?_
        refine vc_ret_of ?_
        refine blockQ_ret hQ50 ?_
        refine seqQ_ret hQ49 ?_
        refine thenQ_ret hQ46 ?_
        refine blockQ_ret hQ45 ?_
        refine thenQ_ret hQ43 ?_
        simp only [go_sem]
        obtain rfl := Option.some.inj h
        refine retW_pure rfl ?_
        simp only [go_sem, Le]
       ·
        replace h := if_f h hb_49
        simp only [bool_to_prop] at hb_49
        refine vc_skip_of ?_
        refine blockQ_normal hQ50 ?_
        refine seqQ_normal hQ49 ?_
        simp only [go_sem]
        refine thenQ_normal hQ46 ?_
        refine ⟨(m_8, IntKind.i64.wrap (t61_3 + 1)), [some 0], ?_, h, Nat.lt_succ_self _⟩
        simp only [go_sem, Le]
      ·
       replace h := if_f h hb_48
       simp only [bool_to_prop] at hb_48
       refine vc_exit_of ?_
       refine seqQ_exit hQ48 ?_
       refine thenQ_exit hQ46 ?_
       refine blockQ_exit hQ45 ?_
       refine thenQ_normal hQ43 ?_
       refine ⟨(), [some 0], ?_, h⟩
       simp only [go_sem, Le]
    ·
     rintro ⟨⟩ h
     try dsimp only at h
     rw [f_valid_Check_J2] at h
     refine vc_join (by kernel_rfl) ?_
     refine seq_cut_gen (ι := Unit) (fun (_ : Unit) => (⟨0, [(1, .ptr 0 0)], [(0, .box [.sl 1 (enc g_0.Parent), .sl 1 (enc g_0.Bound), .sl 4 (enc g_0.Nodes), .sl 4 (enc g_0.Edges)])], 1, 109⟩ : St)) (fun (_ : Unit) => f_valid_Check_J3 g_0 = some r) ?_ ?_
     ·
      intro QQ31 hQ31
      refine sg fun QQ32 hQ32 => ?_
      simp only [go_sem]
      refine seqQ_normal hQ32 ?_
      refine vc_block_gen ?_
      intro QQ33 hQ33
      refine vc_loop_of ?_
      refine loop_gen (ι := Nat × Int) (fun ((_, t75_3) : Nat × Int) => (⟨0, [(1, .ptr 0 0), (74, .v (.int .i64 (List.length g_0.Edges : Int))), (75, .v (.int .i64 t75_3))], [(0, .box [.sl 1 (enc g_0.Parent), .sl 1 (enc g_0.Bound), .sl 4 (enc g_0.Nodes), .sl 4 (enc g_0.Edges)])], 1, 109⟩ : St)) (fun ((n_, t75_3) : Nat × Int) => loopK (f_valid_Check_B7 g_0) n_ t75_3 = some r) (fun p => p.1) (rounds, 0) [some 0] ?_ h ?_
      · simp only [go_sem, Le]
      ·
       rintro ⟨n_7, t75_3⟩ h QQ34 hQ34
       dsimp only at h
       replace h := loopK_some h
       obtain ⟨m_7, rfl, h⟩ := h
       rw [f_valid_Check_B7] at h
       refine sg fun QQ35 hQ35 => ?_
       simp only [go_sem]
       refine seqQ_normal hQ35 ?_
       refine sg fun QQ36 hQ36 => ?_
       refine vc_cond_of (b := (decide (t75_3 < (List.length g_0.Edges : Int)))) (by (simp only [go_sem]; done)) (fun hb_42 => ?_) (fun hb_42 => ?_)
       ·
        replace h := if_t h hb_42
        simp only [bool_to_prop] at hb_42
        refine vc_skip_of ?_
        refine seqQ_normal hQ36 ?_
        refine sg fun QQ37 hQ37 => ?_
        refine vc_block_gen ?_
        intro QQ38 hQ38
        refine sg fun QQ39 hQ39 => ?_
        simp only [go_sem]
        refine seqQ_normal hQ39 ?_
        refine sg fun QQ40 hQ40 => ?_
        obtain ⟨v_20, ev_20, h⟩ := bindO_some h
        simp only [go_sem]
        refine call0 (f_valid_edge_ok g_0 t75_3 v_20 ev_20) (by rfl) (by rfl) ?_
        simp only [go_sem]
        refine seqQ_normal hQ40 ?_
        refine sg fun QQ41 hQ41 => ?_
        simp only [go_sem]
        refine seqQ_normal hQ41 ?_
        refine vc_cond_of (b := (!(v_20 == 0))) (by (simp only [go_sem]; done)) (fun hb_43 => ?_) (fun hb_43 => ?_)
        ·
         replace h := if_t h hb_43
         simp only [bool_to_prop] at hb_43
         refine sg fun QQ42 hQ42 => ?_
         simp only [go_sem]
         refine seqQ_normal hQ42 ?_
         refine vc_ret_of ?_
         refine blockQ_ret hQ38 ?_
         refine seqQ_ret hQ37 ?_
         refine thenQ_ret hQ34 ?_
         refine blockQ_ret hQ33 ?_
         refine thenQ_ret hQ31 ?_
         simp only [go_sem]
         obtain rfl := Option.some.inj h
         refine retW_pure rfl ?_
         simp only [go_sem, Le]
        ·
         replace h := if_f h hb_43
         simp only [bool_to_prop] at hb_43
         refine vc_skip_of ?_
         refine blockQ_normal hQ38 ?_
         refine seqQ_normal hQ37 ?_
         simp only [go_sem]
         refine thenQ_normal hQ34 ?_
         refine ⟨(m_7, IntKind.i64.wrap (t75_3 + 1)), [some 0], ?_, h, Nat.lt_succ_self _⟩
         simp only [go_sem, Le]
       ·
        replace h := if_f h hb_42
        simp only [bool_to_prop] at hb_42
        refine vc_exit_of ?_
        refine seqQ_exit hQ36 ?_
        refine thenQ_exit hQ34 ?_
        refine blockQ_exit hQ33 ?_
        refine thenQ_normal hQ31 ?_
        refine ⟨(), [some 0], ?_, h⟩
        simp only [go_sem, Le]
     ·
      rintro ⟨⟩ h
      try dsimp only at h
      rw [f_valid_Check_J3] at h
      refine vc_join (by kernel_rfl) ?_
      refine seq_cut_gen (ι := Unit) (fun (_ : Unit) => (⟨0, [(1, .ptr 0 0)], [(0, .box [.sl 1 (enc g_0.Parent), .sl 1 (enc g_0.Bound), .sl 4 (enc g_0.Nodes), .sl 4 (enc g_0.Edges)])], 1, 109⟩ : St)) (fun (_ : Unit) => f_valid_Check_J4 g_0 = some r) ?_ ?_
      ·
       intro QQ20 hQ20
       refine sg fun QQ21 hQ21 => ?_
       simp only [go_sem]
       refine seqQ_normal hQ21 ?_
       refine vc_block_gen ?_
       intro QQ22 hQ22
       refine vc_loop_of ?_
       refine loop_gen (ι := Nat × Int) (fun ((_, t89_3) : Nat × Int) => (⟨0, [(1, .ptr 0 0), (88, .v (.int .i64 (List.length g_0.Nodes : Int))), (89, .v (.int .i64 t89_3))], [(0, .box [.sl 1 (enc g_0.Parent), .sl 1 (enc g_0.Bound), .sl 4 (enc g_0.Nodes), .sl 4 (enc g_0.Edges)])], 1, 109⟩ : St)) (fun ((n_, t89_3) : Nat × Int) => loopK (f_valid_Check_B6 g_0) n_ t89_3 = some r) (fun p => p.1) (rounds, 0) [some 0] ?_ h ?_
       · simp only [go_sem, Le]
       ·
        rintro ⟨n_6, t89_3⟩ h QQ23 hQ23
        dsimp only at h
        replace h := loopK_some h
        obtain ⟨m_6, rfl, h⟩ := h
        rw [f_valid_Check_B6] at h
        refine sg fun QQ24 hQ24 => ?_
        simp only [go_sem]
        refine seqQ_normal hQ24 ?_
        refine sg fun QQ25 hQ25 => ?_
        refine vc_cond_of (b := (decide (t89_3 < (List.length g_0.Nodes : Int)))) (by (simp only [go_sem]; done)) (fun hb_36 => ?_) (fun hb_36 => ?_)
        ·
         replace h := if_t h hb_36
         simp only [bool_to_prop] at hb_36
         refine vc_skip_of ?_
         refine seqQ_normal hQ25 ?_
         refine sg fun QQ26 hQ26 => ?_
         refine vc_block_gen ?_
         intro QQ27 hQ27
         refine sg fun QQ28 hQ28 => ?_
         simp only [go_sem]
         refine seqQ_normal hQ28 ?_
         refine sg fun QQ29 hQ29 => ?_
         obtain ⟨v_17, ev_17, h⟩ := bindO_some h
         simp only [go_sem]
         refine call0 (f_valid_full_ok g_0 t89_3 v_17 ev_17) (by rfl) (by rfl) ?_
         simp only [go_sem]
         refine seqQ_normal hQ29 ?_
         refine vc_cond_of (b := (!v_17)) (by (simp only [go_sem]; done)) (fun hb_37 => ?_) (fun hb_37 => ?_)
         ·
          replace h := if_t h hb_37
          simp only [bool_to_prop] at hb_37
          refine sg fun QQ30 hQ30 => ?_
          simp only [go_sem]
          refine seqQ_normal hQ30 ?_
          refine vc_ret_of ?_
          refine blockQ_ret hQ27 ?_
          refine seqQ_ret hQ26 ?_
          refine thenQ_ret hQ23 ?_
          refine blockQ_ret hQ22 ?_
          refine thenQ_ret hQ20 ?_
          simp only [go_sem]
          obtain rfl := Option.some.inj h
          refine retW_pure rfl ?_
          simp only [go_sem, Le]
         ·
          replace h := if_f h hb_37
          simp only [bool_to_prop] at hb_37
          refine vc_skip_of ?_
          refine blockQ_normal hQ27 ?_
          refine seqQ_normal hQ26 ?_
          simp only [go_sem]
          refine thenQ_normal hQ23 ?_
          refine ⟨(m_6, IntKind.i64.wrap (t89_3 + 1)), [some 0], ?_, h, Nat.lt_succ_self _⟩
          simp only [go_sem, Le]
        ·
         replace h := if_f h hb_36
         simp only [bool_to_prop] at hb_36
         refine vc_exit_of ?_
         refine seqQ_exit hQ25 ?_
         refine thenQ_exit hQ23 ?_
         refine blockQ_exit hQ22 ?_
         refine thenQ_normal hQ20 ?_
         refine ⟨(), [some 0], ?_, h⟩
         simp only [go_sem, Le]
      ·
       rintro ⟨⟩ h
       try dsimp only at h
       rw [f_valid_Check_J4] at h
       refine vc_join (by kernel_rfl) ?_
       refine seq_go_gen ?_
       intro QQ8 hQ8
       refine sg fun QQ9 hQ9 => ?_
       simp only [go_sem]
       refine seqQ_normal hQ9 ?_
       refine vc_block_gen ?_
       intro QQ10 hQ10
       refine vc_loop_of ?_
       refine loop_gen (ι := Nat × Int) (fun ((_, t101_1) : Nat × Int) => (⟨0, [(1, .ptr 0 0), (100, .v (.int .i64 (List.length g_0.Nodes : Int))), (101, .v (.int .i64 t101_1))], [(0, .box [.sl 1 (enc g_0.Parent), .sl 1 (enc g_0.Bound), .sl 4 (enc g_0.Nodes), .sl 4 (enc g_0.Edges)])], 1, 109⟩ : St)) (fun ((n_, t101_1) : Nat × Int) => loopK (f_valid_Check_B5 g_0) n_ t101_1 = some r) (fun p => p.1) (rounds, 0) [some 0] ?_ h ?_
       · simp only [go_sem, Le]
       ·
        rintro ⟨n_5, t101_1⟩ h QQ11 hQ11
        dsimp only at h
        replace h := loopK_some h
        obtain ⟨m_5, rfl, h⟩ := h
        rw [f_valid_Check_B5] at h
        refine sg fun QQ12 hQ12 => ?_
        simp only [go_sem]
        refine seqQ_normal hQ12 ?_
        refine sg fun QQ13 hQ13 => ?_
        refine vc_cond_of (b := (decide (t101_1 < (List.length g_0.Nodes : Int)))) (by (simp only [go_sem]; done)) (fun hb_30 => ?_) (fun hb_30 => ?_)
        ·
         replace h := if_t h hb_30
         simp only [bool_to_prop] at hb_30
         refine vc_skip_of ?_
         refine seqQ_normal hQ13 ?_
         refine sg fun QQ14 hQ14 => ?_
         refine vc_block_gen ?_
         intro QQ15 hQ15
         refine sg fun QQ16 hQ16 => ?_
         simp only [go_sem]
         refine seqQ_normal hQ16 ?_
         refine sg fun QQ17 hQ17 => ?_
         obtain ⟨v_14, ev_14, h⟩ := bindO_some h
         simp only [go_sem]
         refine call0 (f_valid_again_ok g_0 t101_1 v_14 ev_14) (by rfl) (by rfl) ?_
         simp only [go_sem]
         refine seqQ_normal hQ17 ?_
         refine vc_cond_of (b := v_14) (by (simp only [go_sem]; done)) (fun hb_31 => ?_) (fun hb_31 => ?_)
         ·
          replace h := if_t h hb_31
          refine sg fun QQ18 hQ18 => ?_
          simp only [go_sem]
          refine seqQ_normal hQ18 ?_
          refine vc_ret_of ?_
          refine blockQ_ret hQ15 ?_
          refine seqQ_ret hQ14 ?_
          refine thenQ_ret hQ11 ?_
          refine blockQ_ret hQ10 ?_
          refine seqQ_ret hQ8 ?_
          simp only [go_sem]
          obtain rfl := Option.some.inj h
          refine retW_pure rfl ?_
          simp only [go_sem, Le]
         ·
          replace h := if_f h hb_31
          refine vc_skip_of ?_
          refine blockQ_normal hQ15 ?_
          refine seqQ_normal hQ14 ?_
          simp only [go_sem]
          refine thenQ_normal hQ11 ?_
          refine ⟨(m_5, IntKind.i64.wrap (t101_1 + 1)), [some 0], ?_, h, Nat.lt_succ_self _⟩
          simp only [go_sem, Le]
        ·
         replace h := if_f h hb_30
         simp only [bool_to_prop] at hb_30
         refine vc_exit_of ?_
         refine seqQ_exit hQ13 ?_
         refine thenQ_exit hQ11 ?_
         refine blockQ_exit hQ10 ?_
         refine seqQ_normal hQ8 ?_
         refine sg fun QQ19 hQ19 => ?_
         simp only [go_sem]
         refine seqQ_normal hQ19 ?_
         refine vc_ret_of ?_
         simp only [go_sem]
         obtain rfl := Option.some.inj h
         refine retW_pure rfl ?_
         simp only [go_sem, Le]

end Go.Proofs.Ytbcbcdbkdljjlaa
