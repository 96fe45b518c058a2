/-
  What functions of the program compute, each told as a plain function that may give nothing, with the proof that the code does so. No condition beyond those that each theorem names.
-/
import Derived.Test.YtngeldeahafcfaaLibD
import Derived.Test.YtngeldeahafcfaaProg
set_option linter.unusedSimpArgs false
set_option linter.unusedVariables false
namespace Go.Proofs.Ytngeldeahafcfaa
open Go Go.RowKit
set_option maxHeartbeats 2000000
set_option maxRecDepth 100000
set_option linter.unusedSimpArgs false
set_option linter.unusedVariables false
theorem ty2_sz : szT Try.prog 2 = 1 := by kernel_rfl
theorem ty2_has : hasT Try.prog 2 = true := by kernel_rfl
theorem ty2_agg : aggT Try.prog 2 = false := by kernel_rfl
theorem ty2_by : bytesT Try.prog 2 = 8 := by kernel_rfl
theorem ty2_k : kindT Try.prog 2 = some .i64 := by kernel_rfl
theorem ty2_n : nilsX Try.prog 2 = [none] := by kernel_rfl
theorem ty2_ar : arrayT Try.prog 2 = none := by kernel_rfl
theorem ty2_z : zeroL Try.prog 2 = some [.int .i64 0] := by kernel_rfl
theorem ty3_sz : szT Try.prog 3 = 1 := by kernel_rfl
theorem ty3_has : hasT Try.prog 3 = true := by kernel_rfl
theorem ty3_agg : aggT Try.prog 3 = false := by kernel_rfl
theorem ty3_by : bytesT Try.prog 3 = 8 := by kernel_rfl
theorem ty3_k : kindT Try.prog 3 = some .i64 := by kernel_rfl
theorem ty3_n : nilsX Try.prog 3 = [none] := by kernel_rfl
theorem ty3_ar : arrayT Try.prog 3 = none := by kernel_rfl
theorem ty3_z : zeroL Try.prog 3 = some [.int .i64 0] := by kernel_rfl
theorem ty4_sz : szT Try.prog 4 = 1 := by kernel_rfl
theorem ty4_has : hasT Try.prog 4 = true := by kernel_rfl
theorem ty4_agg : aggT Try.prog 4 = false := by kernel_rfl
theorem ty4_by : bytesT Try.prog 4 = 1 := by kernel_rfl
theorem ty4_u : Try.prog.underlying 4 = some .bool := by kernel_rfl
theorem ty4_n : nilsX Try.prog 4 = [none] := by kernel_rfl
theorem ty4_ar : arrayT Try.prog 4 = none := by kernel_rfl
theorem ty4_z : zeroL Try.prog 4 = some [.bool false] := by kernel_rfl
theorem ty5_sz : szT Try.prog 5 = 1 := by kernel_rfl
theorem ty5_has : hasT Try.prog 5 = true := by kernel_rfl
theorem ty5_agg : aggT Try.prog 5 = false := by kernel_rfl
theorem ty5_by : bytesT Try.prog 5 = 1 := by kernel_rfl
theorem ty5_k : kindT Try.prog 5 = some .u8 := by kernel_rfl
theorem ty5_n : nilsX Try.prog 5 = [none] := by kernel_rfl
theorem ty5_ar : arrayT Try.prog 5 = none := by kernel_rfl
theorem ty5_z : zeroL Try.prog 5 = some [.int .u8 0] := by kernel_rfl
theorem ty9_sz : szT Try.prog 9 = 1 := by kernel_rfl
theorem ty9_has : hasT Try.prog 9 = true := by kernel_rfl
theorem ty9_agg : aggT Try.prog 9 = false := by kernel_rfl
theorem ty9_by : bytesT Try.prog 9 = 16 := by kernel_rfl
theorem ty9_u : Try.prog.underlying 9 = some .string := by kernel_rfl
theorem ty9_n : nilsX Try.prog 9 = [none] := by kernel_rfl
theorem ty9_ar : arrayT Try.prog 9 = none := by kernel_rfl
theorem ty9_z : zeroL Try.prog 9 = some [.string ⟨#[]⟩] := by kernel_rfl
theorem ty22_sz : szT Try.prog 22 = 1 := by kernel_rfl
theorem ty22_has : hasT Try.prog 22 = true := by kernel_rfl
theorem ty22_agg : aggT Try.prog 22 = false := by kernel_rfl
theorem ty22_by : bytesT Try.prog 22 = 24 := by kernel_rfl
theorem ty22_e : sliceT Try.prog 22 = some 5 := by kernel_rfl
theorem ty22_n : nilsX Try.prog 22 = [some 1] := by kernel_rfl
theorem ty22_ar : arrayT Try.prog 22 = none := by kernel_rfl
theorem ty22_z : zeroL Try.prog 22 = some [.slice none 0 0] := by kernel_rfl
theorem ty24_sz : szT Try.prog 24 = 1 := by kernel_rfl
theorem ty24_has : hasT Try.prog 24 = true := by kernel_rfl
theorem ty24_agg : aggT Try.prog 24 = false := by kernel_rfl
theorem ty24_by : bytesT Try.prog 24 = 8 := by kernel_rfl
theorem ty24_k : kindT Try.prog 24 = some .u64 := by kernel_rfl
theorem ty24_n : nilsX Try.prog 24 = [none] := by kernel_rfl
theorem ty24_ar : arrayT Try.prog 24 = none := by kernel_rfl
theorem ty24_z : zeroL Try.prog 24 = some [.int .u64 0] := by kernel_rfl
theorem ty25_sz : szT Try.prog 25 = 1 := by kernel_rfl
theorem ty25_has : hasT Try.prog 25 = true := by kernel_rfl
theorem ty25_agg : aggT Try.prog 25 = false := by kernel_rfl
theorem ty25_by : bytesT Try.prog 25 = 8 := by kernel_rfl
theorem ty25_k : kindT Try.prog 25 = some .i64 := by kernel_rfl
theorem ty25_n : nilsX Try.prog 25 = [none] := by kernel_rfl
theorem ty25_ar : arrayT Try.prog 25 = none := by kernel_rfl
theorem ty25_z : zeroL Try.prog 25 = some [.int .i64 0] := by kernel_rfl
theorem ty41_sz : szT Try.prog 41 = 1 := by kernel_rfl
theorem ty41_has : hasT Try.prog 41 = true := by kernel_rfl
theorem ty41_agg : aggT Try.prog 41 = false := by kernel_rfl
theorem ty41_by : bytesT Try.prog 41 = 8 := by kernel_rfl
theorem ty41_k : kindT Try.prog 41 = some .u64 := by kernel_rfl
theorem ty41_n : nilsX Try.prog 41 = [none] := by kernel_rfl
theorem ty41_ar : arrayT Try.prog 41 = none := by kernel_rfl
theorem ty41_z : zeroL Try.prog 41 = some [.int .u64 0] := by kernel_rfl
theorem ty52_sz : szT Try.prog 52 = 1 := by kernel_rfl
theorem ty52_has : hasT Try.prog 52 = true := by kernel_rfl
theorem ty52_agg : aggT Try.prog 52 = false := by kernel_rfl
theorem ty52_by : bytesT Try.prog 52 = 24 := by kernel_rfl
theorem ty52_e : sliceT Try.prog 52 = some 3 := by kernel_rfl
theorem ty52_n : nilsX Try.prog 52 = [some 1] := by kernel_rfl
theorem ty52_ar : arrayT Try.prog 52 = none := by kernel_rfl
theorem ty52_z : zeroL Try.prog 52 = some [.slice none 0 0] := by kernel_rfl
theorem ty53_sz : szT Try.prog 53 = 1 := by kernel_rfl
theorem ty53_has : hasT Try.prog 53 = true := by kernel_rfl
theorem ty53_agg : aggT Try.prog 53 = false := by kernel_rfl
theorem ty53_by : bytesT Try.prog 53 = 24 := by kernel_rfl
theorem ty53_e : sliceT Try.prog 53 = some 79 := by kernel_rfl
theorem ty53_n : nilsX Try.prog 53 = [some 4] := by kernel_rfl
theorem ty53_ar : arrayT Try.prog 53 = none := by kernel_rfl
theorem ty53_z : zeroL Try.prog 53 = some [.slice none 0 0] := by kernel_rfl
theorem ty54_sz : szT Try.prog 54 = 1 := by kernel_rfl
theorem ty54_has : hasT Try.prog 54 = true := by kernel_rfl
theorem ty54_agg : aggT Try.prog 54 = false := by kernel_rfl
theorem ty54_by : bytesT Try.prog 54 = 24 := by kernel_rfl
theorem ty54_e : sliceT Try.prog 54 = some 93 := by kernel_rfl
theorem ty54_n : nilsX Try.prog 54 = [some 4] := by kernel_rfl
theorem ty54_ar : arrayT Try.prog 54 = none := by kernel_rfl
theorem ty54_z : zeroL Try.prog 54 = some [.slice none 0 0] := by kernel_rfl
theorem ty56_sz : szT Try.prog 56 = 4 := by kernel_rfl
theorem ty56_has : hasT Try.prog 56 = true := by kernel_rfl
theorem ty56_agg : aggT Try.prog 56 = true := by kernel_rfl
theorem ty56_by : bytesT Try.prog 56 = 96 := by kernel_rfl
theorem ty56_n : nilsX Try.prog 56 = [some 1, some 1, some 4, some 4] := by kernel_rfl
theorem ty56_ar : arrayT Try.prog 56 = none := by kernel_rfl
theorem ty56_f0 : fieldT Try.prog 56 0 = some (0, 52) := by kernel_rfl
theorem ty56_f1 : fieldT Try.prog 56 1 = some (1, 52) := by kernel_rfl
theorem ty56_f2 : fieldT Try.prog 56 2 = some (2, 53) := by kernel_rfl
theorem ty56_f3 : fieldT Try.prog 56 3 = some (3, 54) := by kernel_rfl
theorem ty56_pl : placesL Try.prog 56 = some [(0, 1), (1, 1), (2, 1), (3, 1)] := by kernel_rfl
theorem ty56_z : zeroL Try.prog 56 = some [.slice none 0 0, .slice none 0 0, .slice none 0 0, .slice none 0 0] := by kernel_rfl
theorem ty77_sz : szT Try.prog 77 = 1 := by kernel_rfl
theorem ty77_has : hasT Try.prog 77 = true := by kernel_rfl
theorem ty77_agg : aggT Try.prog 77 = false := by kernel_rfl
theorem ty77_by : bytesT Try.prog 77 = 24 := by kernel_rfl
theorem ty77_e : sliceT Try.prog 77 = some 102 := by kernel_rfl
theorem ty77_n : nilsX Try.prog 77 = [some 2] := by kernel_rfl
theorem ty77_ar : arrayT Try.prog 77 = none := by kernel_rfl
theorem ty77_z : zeroL Try.prog 77 = some [.slice none 0 0] := by kernel_rfl
theorem ty79_sz : szT Try.prog 79 = 4 := by kernel_rfl
theorem ty79_has : hasT Try.prog 79 = true := by kernel_rfl
theorem ty79_agg : aggT Try.prog 79 = true := by kernel_rfl
theorem ty79_by : bytesT Try.prog 79 = 48 := by kernel_rfl
theorem ty79_n : nilsX Try.prog 79 = [none, none, none, some 2] := by kernel_rfl
theorem ty79_ar : arrayT Try.prog 79 = none := by kernel_rfl
theorem ty79_f0 : fieldT Try.prog 79 0 = some (0, 3) := by kernel_rfl
theorem ty79_f1 : fieldT Try.prog 79 1 = some (1, 3) := by kernel_rfl
theorem ty79_f2 : fieldT Try.prog 79 2 = some (2, 2) := by kernel_rfl
theorem ty79_f3 : fieldT Try.prog 79 3 = some (3, 77) := by kernel_rfl
theorem ty79_pl : placesL Try.prog 79 = some [(0, 1), (1, 1), (2, 1), (3, 1)] := by kernel_rfl
theorem ty79_z : zeroL Try.prog 79 = some [.int .i64 0, .int .i64 0, .int .i64 0, .slice none 0 0] := by kernel_rfl
theorem ty86_sz : szT Try.prog 86 = 1 := by kernel_rfl
theorem ty86_has : hasT Try.prog 86 = true := by kernel_rfl
theorem ty86_agg : aggT Try.prog 86 = false := by kernel_rfl
theorem ty86_by : bytesT Try.prog 86 = 8 := by kernel_rfl
theorem ty86_n : nilsX Try.prog 86 = [none] := by kernel_rfl
theorem ty86_ar : arrayT Try.prog 86 = none := by kernel_rfl
theorem ty86_z : zeroL Try.prog 86 = some [.pointer none] := by kernel_rfl
theorem ty88_sz : szT Try.prog 88 = 2 := by kernel_rfl
theorem ty88_has : hasT Try.prog 88 = true := by kernel_rfl
theorem ty88_agg : aggT Try.prog 88 = true := by kernel_rfl
theorem ty88_by : bytesT Try.prog 88 = 32 := by kernel_rfl
theorem ty88_n : nilsX Try.prog 88 = [some 1, none] := by kernel_rfl
theorem ty88_ar : arrayT Try.prog 88 = none := by kernel_rfl
theorem ty88_f0 : fieldT Try.prog 88 0 = some (0, 22) := by kernel_rfl
theorem ty88_f1 : fieldT Try.prog 88 1 = some (1, 25) := by kernel_rfl
theorem ty88_pl : placesL Try.prog 88 = some [(0, 1), (1, 1)] := by kernel_rfl
theorem ty88_z : zeroL Try.prog 88 = some [.slice none 0 0, .int .i64 0] := by kernel_rfl
theorem ty93_sz : szT Try.prog 93 = 4 := by kernel_rfl
theorem ty93_has : hasT Try.prog 93 = true := by kernel_rfl
theorem ty93_agg : aggT Try.prog 93 = true := by kernel_rfl
theorem ty93_by : bytesT Try.prog 93 = 32 := by kernel_rfl
theorem ty93_n : nilsX Try.prog 93 = [none, none, none, none] := by kernel_rfl
theorem ty93_ar : arrayT Try.prog 93 = none := by kernel_rfl
theorem ty93_f0 : fieldT Try.prog 93 0 = some (0, 3) := by kernel_rfl
theorem ty93_f1 : fieldT Try.prog 93 1 = some (1, 3) := by kernel_rfl
theorem ty93_f2 : fieldT Try.prog 93 2 = some (2, 3) := by kernel_rfl
theorem ty93_f3 : fieldT Try.prog 93 3 = some (3, 4) := by kernel_rfl
theorem ty93_pl : placesL Try.prog 93 = some [(0, 1), (1, 1), (2, 1), (3, 1)] := by kernel_rfl
theorem ty93_z : zeroL Try.prog 93 = some [.int .i64 0, .int .i64 0, .int .i64 0, .bool false] := by kernel_rfl
theorem ty96_sz : szT Try.prog 96 = 1 := by kernel_rfl
theorem ty96_has : hasT Try.prog 96 = true := by kernel_rfl
theorem ty96_agg : aggT Try.prog 96 = false := by kernel_rfl
theorem ty96_by : bytesT Try.prog 96 = 8 := by kernel_rfl
theorem ty96_n : nilsX Try.prog 96 = [none] := by kernel_rfl
theorem ty96_ar : arrayT Try.prog 96 = none := by kernel_rfl
theorem ty96_z : zeroL Try.prog 96 = some [.pointer none] := by kernel_rfl
theorem ty98_sz : szT Try.prog 98 = 3 := by kernel_rfl
theorem ty98_has : hasT Try.prog 98 = true := by kernel_rfl
theorem ty98_agg : aggT Try.prog 98 = true := by kernel_rfl
theorem ty98_by : bytesT Try.prog 98 = 40 := by kernel_rfl
theorem ty98_n : nilsX Try.prog 98 = [some 1, none, none] := by kernel_rfl
theorem ty98_ar : arrayT Try.prog 98 = none := by kernel_rfl
theorem ty98_f0 : fieldT Try.prog 98 0 = some (0, 22) := by kernel_rfl
theorem ty98_f1 : fieldT Try.prog 98 1 = some (1, 3) := by kernel_rfl
theorem ty98_f2 : fieldT Try.prog 98 2 = some (2, 3) := by kernel_rfl
theorem ty98_pl : placesL Try.prog 98 = some [(0, 1), (1, 1), (2, 1)] := by kernel_rfl
theorem ty98_z : zeroL Try.prog 98 = some [.slice none 0 0, .int .i64 0, .int .i64 0] := by kernel_rfl
theorem ty102_sz : szT Try.prog 102 = 2 := by kernel_rfl
theorem ty102_has : hasT Try.prog 102 = true := by kernel_rfl
theorem ty102_agg : aggT Try.prog 102 = true := by kernel_rfl
theorem ty102_by : bytesT Try.prog 102 = 16 := by kernel_rfl
theorem ty102_n : nilsX Try.prog 102 = [none, none] := by kernel_rfl
theorem ty102_ar : arrayT Try.prog 102 = none := by kernel_rfl
theorem ty102_f0 : fieldT Try.prog 102 0 = some (0, 3) := by kernel_rfl
theorem ty102_f1 : fieldT Try.prog 102 1 = some (1, 2) := by kernel_rfl
theorem ty102_pl : placesL Try.prog 102 = some [(0, 1), (1, 1)] := by kernel_rfl
theorem ty102_z : zeroL Try.prog 102 = some [.int .i64 0, .int .i64 0] := by kernel_rfl
theorem ty105_sz : szT Try.prog 105 = 1 := by kernel_rfl
theorem ty105_has : hasT Try.prog 105 = true := by kernel_rfl
theorem ty105_agg : aggT Try.prog 105 = false := by kernel_rfl
theorem ty105_by : bytesT Try.prog 105 = 8 := by kernel_rfl
theorem ty105_n : nilsX Try.prog 105 = [none] := by kernel_rfl
theorem ty105_ar : arrayT Try.prog 105 = none := by kernel_rfl
theorem ty105_z : zeroL Try.prog 105 = some [.pointer none] := by kernel_rfl
theorem ty107_sz : szT Try.prog 107 = 1 := by kernel_rfl
theorem ty107_has : hasT Try.prog 107 = true := by kernel_rfl
theorem ty107_agg : aggT Try.prog 107 = true := by kernel_rfl
theorem ty107_by : bytesT Try.prog 107 = 24 := by kernel_rfl
theorem ty107_n : nilsX Try.prog 107 = [some 1] := by kernel_rfl
theorem ty107_ar : arrayT Try.prog 107 = none := by kernel_rfl
theorem ty107_f0 : fieldT Try.prog 107 0 = some (0, 22) := by kernel_rfl
theorem ty107_pl : placesL Try.prog 107 = some [(0, 1)] := by kernel_rfl
theorem ty107_z : zeroL Try.prog 107 = some [.slice none 0 0] := by kernel_rfl
theorem en8 : entB Try.prog 8 = true := by kernel_rfl
theorem en9 : entB Try.prog 9 = true := by kernel_rfl
theorem en10 : entB Try.prog 10 = true := by kernel_rfl
theorem en11 : entB Try.prog 11 = true := by kernel_rfl
theorem en15 : entB Try.prog 15 = true := by kernel_rfl
theorem en16 : entB Try.prog 16 = true := by kernel_rfl
theorem en17 : entB Try.prog 17 = true := by kernel_rfl
theorem en18 : entB Try.prog 18 = true := by kernel_rfl
theorem en19 : entB Try.prog 19 = true := by kernel_rfl
theorem en20 : entB Try.prog 20 = true := by kernel_rfl
theorem en21 : entB Try.prog 21 = true := by kernel_rfl
theorem en22 : entB Try.prog 22 = true := by kernel_rfl
theorem en23 : entB Try.prog 23 = true := by kernel_rfl
theorem en27 : entB Try.prog 27 = true := by kernel_rfl
theorem en28 : entB Try.prog 28 = true := by kernel_rfl
theorem en29 : entB Try.prog 29 = true := by kernel_rfl
theorem en30 : entB Try.prog 30 = true := by kernel_rfl
theorem en31 : entB Try.prog 31 = true := by kernel_rfl
theorem en32 : entB Try.prog 32 = true := by kernel_rfl
theorem en33 : entB Try.prog 33 = true := by kernel_rfl
theorem en34 : entB Try.prog 34 = true := by kernel_rfl
theorem en44 : entB Try.prog 44 = true := by kernel_rfl
theorem en45 : entB Try.prog 45 = true := by kernel_rfl
theorem en46 : entB Try.prog 46 = true := by kernel_rfl
theorem en47 : entB Try.prog 47 = true := by kernel_rfl
theorem en48 : entB Try.prog 48 = true := by kernel_rfl
theorem en49 : entB Try.prog 49 = true := by kernel_rfl
theorem en50 : entB Try.prog 50 = true := by kernel_rfl
theorem en51 : entB Try.prog 51 = true := by kernel_rfl
theorem en52 : entB Try.prog 52 = true := by kernel_rfl
theorem en53 : entB Try.prog 53 = true := by kernel_rfl
theorem en54 : entB Try.prog 54 = true := by kernel_rfl
theorem en55 : entB Try.prog 55 = true := by kernel_rfl
theorem en56 : entB Try.prog 56 = true := by kernel_rfl
theorem en57 : entB Try.prog 57 = true := by kernel_rfl
theorem en58 : entB Try.prog 58 = true := by kernel_rfl
theorem en59 : entB Try.prog 59 = true := by kernel_rfl
theorem en60 : entB Try.prog 60 = true := by kernel_rfl
theorem en61 : entB Try.prog 61 = true := by kernel_rfl
theorem en62 : entB Try.prog 62 = true := by kernel_rfl
theorem en74 : entB Try.prog 74 = true := by kernel_rfl
theorem en77 : entB Try.prog 77 = true := by kernel_rfl
theorem en78 : entB Try.prog 78 = true := by kernel_rfl
theorem en79 : entB Try.prog 79 = true := by kernel_rfl
theorem en80 : entB Try.prog 80 = true := by kernel_rfl
theorem en81 : entB Try.prog 81 = true := by kernel_rfl
theorem en82 : entB Try.prog 82 = true := by kernel_rfl
theorem en83 : entB Try.prog 83 = true := by kernel_rfl
theorem en84 : entB Try.prog 84 = true := by kernel_rfl
theorem en116 : entB Try.prog 116 = true := by kernel_rfl
theorem en117 : entB Try.prog 117 = true := by kernel_rfl
theorem en118 : entB Try.prog 118 = true := by kernel_rfl
theorem en119 : entB Try.prog 119 = true := by kernel_rfl
@[go_sem] theorem tyb60_0 : (szT Try.prog 2 = 1) ∧ (hasT Try.prog 2 = true) ∧ (aggT Try.prog 2 = false) ∧ (bytesT Try.prog 2 = 8) ∧ (kindT Try.prog 2 = some .i64) ∧ (nilsX Try.prog 2 = [none]) ∧ (arrayT Try.prog 2 = none) ∧ (zeroL Try.prog 2 = some [.int .i64 0]) ∧ (szT Try.prog 3 = 1) ∧ (hasT Try.prog 3 = true) ∧ (aggT Try.prog 3 = false) ∧ (bytesT Try.prog 3 = 8) ∧ (kindT Try.prog 3 = some .i64) ∧ (nilsX Try.prog 3 = [none]) ∧ (arrayT Try.prog 3 = none) ∧ (zeroL Try.prog 3 = some [.int .i64 0]) ∧ (szT Try.prog 4 = 1) ∧ (hasT Try.prog 4 = true) ∧ (aggT Try.prog 4 = false) ∧ (bytesT Try.prog 4 = 1) ∧ (Try.prog.underlying 4 = some .bool) ∧ (nilsX Try.prog 4 = [none]) ∧ (arrayT Try.prog 4 = none) ∧ (zeroL Try.prog 4 = some [.bool false]) ∧ (szT Try.prog 5 = 1) ∧ (hasT Try.prog 5 = true) ∧ (aggT Try.prog 5 = false) ∧ (bytesT Try.prog 5 = 1) ∧ (kindT Try.prog 5 = some .u8) ∧ (nilsX Try.prog 5 = [none]) ∧ (arrayT Try.prog 5 = none) ∧ (zeroL Try.prog 5 = some [.int .u8 0]) ∧ (szT Try.prog 9 = 1) ∧ (hasT Try.prog 9 = true) ∧ (aggT Try.prog 9 = false) ∧ (bytesT Try.prog 9 = 16) ∧ (Try.prog.underlying 9 = some .string) ∧ (nilsX Try.prog 9 = [none]) ∧ (arrayT Try.prog 9 = none) ∧ (zeroL Try.prog 9 = some [.string ⟨#[]⟩]) ∧ (szT Try.prog 22 = 1) ∧ (hasT Try.prog 22 = true) ∧ (aggT Try.prog 22 = false) ∧ (bytesT Try.prog 22 = 24) ∧ (sliceT Try.prog 22 = some 5) ∧ (nilsX Try.prog 22 = [some 1]) ∧ (arrayT Try.prog 22 = none) ∧ (zeroL Try.prog 22 = some [.slice none 0 0]) ∧ (szT Try.prog 24 = 1) ∧ (hasT Try.prog 24 = true) ∧ (aggT Try.prog 24 = false) ∧ (bytesT Try.prog 24 = 8) ∧ (kindT Try.prog 24 = some .u64) ∧ (nilsX Try.prog 24 = [none]) ∧ (arrayT Try.prog 24 = none) ∧ (zeroL Try.prog 24 = some [.int .u64 0]) ∧ (szT Try.prog 25 = 1) ∧ (hasT Try.prog 25 = true) ∧ (aggT Try.prog 25 = false) ∧ (bytesT Try.prog 25 = 8) := ⟨ty2_sz, ty2_has, ty2_agg, ty2_by, ty2_k, ty2_n, ty2_ar, ty2_z, ty3_sz, ty3_has, ty3_agg, ty3_by, ty3_k, ty3_n, ty3_ar, ty3_z, ty4_sz, ty4_has, ty4_agg, ty4_by, ty4_u, ty4_n, ty4_ar, ty4_z, ty5_sz, ty5_has, ty5_agg, ty5_by, ty5_k, ty5_n, ty5_ar, ty5_z, ty9_sz, ty9_has, ty9_agg, ty9_by, ty9_u, ty9_n, ty9_ar, ty9_z, ty22_sz, ty22_has, ty22_agg, ty22_by, ty22_e, ty22_n, ty22_ar, ty22_z, ty24_sz, ty24_has, ty24_agg, ty24_by, ty24_k, ty24_n, ty24_ar, ty24_z, ty25_sz, ty25_has, ty25_agg, ty25_by⟩
@[go_sem] theorem tyb120_0 : (kindT Try.prog 25 = some .i64) ∧ (nilsX Try.prog 25 = [none]) ∧ (arrayT Try.prog 25 = none) ∧ (zeroL Try.prog 25 = some [.int .i64 0]) ∧ (szT Try.prog 41 = 1) ∧ (hasT Try.prog 41 = true) ∧ (aggT Try.prog 41 = false) ∧ (bytesT Try.prog 41 = 8) ∧ (kindT Try.prog 41 = some .u64) ∧ (nilsX Try.prog 41 = [none]) ∧ (arrayT Try.prog 41 = none) ∧ (zeroL Try.prog 41 = some [.int .u64 0]) ∧ (szT Try.prog 52 = 1) ∧ (hasT Try.prog 52 = true) ∧ (aggT Try.prog 52 = false) ∧ (bytesT Try.prog 52 = 24) ∧ (sliceT Try.prog 52 = some 3) ∧ (nilsX Try.prog 52 = [some 1]) ∧ (arrayT Try.prog 52 = none) ∧ (zeroL Try.prog 52 = some [.slice none 0 0]) ∧ (szT Try.prog 53 = 1) ∧ (hasT Try.prog 53 = true) ∧ (aggT Try.prog 53 = false) ∧ (bytesT Try.prog 53 = 24) ∧ (sliceT Try.prog 53 = some 79) ∧ (nilsX Try.prog 53 = [some 4]) ∧ (arrayT Try.prog 53 = none) ∧ (zeroL Try.prog 53 = some [.slice none 0 0]) ∧ (szT Try.prog 54 = 1) ∧ (hasT Try.prog 54 = true) ∧ (aggT Try.prog 54 = false) ∧ (bytesT Try.prog 54 = 24) ∧ (sliceT Try.prog 54 = some 93) ∧ (nilsX Try.prog 54 = [some 4]) ∧ (arrayT Try.prog 54 = none) ∧ (zeroL Try.prog 54 = some [.slice none 0 0]) ∧ (szT Try.prog 56 = 4) ∧ (hasT Try.prog 56 = true) ∧ (aggT Try.prog 56 = true) ∧ (bytesT Try.prog 56 = 96) ∧ (nilsX Try.prog 56 = [some 1, some 1, some 4, some 4]) ∧ (arrayT Try.prog 56 = none) ∧ (fieldT Try.prog 56 0 = some (0, 52)) ∧ (fieldT Try.prog 56 1 = some (1, 52)) ∧ (fieldT Try.prog 56 2 = some (2, 53)) ∧ (fieldT Try.prog 56 3 = some (3, 54)) ∧ (placesL Try.prog 56 = some [(0, 1), (1, 1), (2, 1), (3, 1)]) ∧ (zeroL Try.prog 56 = some [.slice none 0 0, .slice none 0 0, .slice none 0 0, .slice none 0 0]) ∧ (szT Try.prog 77 = 1) ∧ (hasT Try.prog 77 = true) ∧ (aggT Try.prog 77 = false) ∧ (bytesT Try.prog 77 = 24) ∧ (sliceT Try.prog 77 = some 102) ∧ (nilsX Try.prog 77 = [some 2]) ∧ (arrayT Try.prog 77 = none) ∧ (zeroL Try.prog 77 = some [.slice none 0 0]) ∧ (szT Try.prog 79 = 4) ∧ (hasT Try.prog 79 = true) ∧ (aggT Try.prog 79 = true) ∧ (bytesT Try.prog 79 = 48) := ⟨ty25_k, ty25_n, ty25_ar, ty25_z, ty41_sz, ty41_has, ty41_agg, ty41_by, ty41_k, ty41_n, ty41_ar, ty41_z, ty52_sz, ty52_has, ty52_agg, ty52_by, ty52_e, ty52_n, ty52_ar, ty52_z, ty53_sz, ty53_has, ty53_agg, ty53_by, ty53_e, ty53_n, ty53_ar, ty53_z, ty54_sz, ty54_has, ty54_agg, ty54_by, ty54_e, ty54_n, ty54_ar, ty54_z, ty56_sz, ty56_has, ty56_agg, ty56_by, ty56_n, ty56_ar, ty56_f0, ty56_f1, ty56_f2, ty56_f3, ty56_pl, ty56_z, ty77_sz, ty77_has, ty77_agg, ty77_by, ty77_e, ty77_n, ty77_ar, ty77_z, ty79_sz, ty79_has, ty79_agg, ty79_by⟩
@[go_sem] theorem tyb180_0 : (nilsX Try.prog 79 = [none, none, none, some 2]) ∧ (arrayT Try.prog 79 = none) ∧ (fieldT Try.prog 79 0 = some (0, 3)) ∧ (fieldT Try.prog 79 1 = some (1, 3)) ∧ (fieldT Try.prog 79 2 = some (2, 2)) ∧ (fieldT Try.prog 79 3 = some (3, 77)) ∧ (placesL Try.prog 79 = some [(0, 1), (1, 1), (2, 1), (3, 1)]) ∧ (zeroL Try.prog 79 = some [.int .i64 0, .int .i64 0, .int .i64 0, .slice none 0 0]) ∧ (szT Try.prog 86 = 1) ∧ (hasT Try.prog 86 = true) ∧ (aggT Try.prog 86 = false) ∧ (bytesT Try.prog 86 = 8) ∧ (nilsX Try.prog 86 = [none]) ∧ (arrayT Try.prog 86 = none) ∧ (zeroL Try.prog 86 = some [.pointer none]) ∧ (szT Try.prog 88 = 2) ∧ (hasT Try.prog 88 = true) ∧ (aggT Try.prog 88 = true) ∧ (bytesT Try.prog 88 = 32) ∧ (nilsX Try.prog 88 = [some 1, none]) ∧ (arrayT Try.prog 88 = none) ∧ (fieldT Try.prog 88 0 = some (0, 22)) ∧ (fieldT Try.prog 88 1 = some (1, 25)) ∧ (placesL Try.prog 88 = some [(0, 1), (1, 1)]) ∧ (zeroL Try.prog 88 = some [.slice none 0 0, .int .i64 0]) ∧ (szT Try.prog 93 = 4) ∧ (hasT Try.prog 93 = true) ∧ (aggT Try.prog 93 = true) ∧ (bytesT Try.prog 93 = 32) ∧ (nilsX Try.prog 93 = [none, none, none, none]) ∧ (arrayT Try.prog 93 = none) ∧ (fieldT Try.prog 93 0 = some (0, 3)) ∧ (fieldT Try.prog 93 1 = some (1, 3)) ∧ (fieldT Try.prog 93 2 = some (2, 3)) ∧ (fieldT Try.prog 93 3 = some (3, 4)) ∧ (placesL Try.prog 93 = some [(0, 1), (1, 1), (2, 1), (3, 1)]) ∧ (zeroL Try.prog 93 = some [.int .i64 0, .int .i64 0, .int .i64 0, .bool false]) ∧ (szT Try.prog 96 = 1) ∧ (hasT Try.prog 96 = true) ∧ (aggT Try.prog 96 = false) ∧ (bytesT Try.prog 96 = 8) ∧ (nilsX Try.prog 96 = [none]) ∧ (arrayT Try.prog 96 = none) ∧ (zeroL Try.prog 96 = some [.pointer none]) ∧ (szT Try.prog 98 = 3) ∧ (hasT Try.prog 98 = true) ∧ (aggT Try.prog 98 = true) ∧ (bytesT Try.prog 98 = 40) ∧ (nilsX Try.prog 98 = [some 1, none, none]) ∧ (arrayT Try.prog 98 = none) ∧ (fieldT Try.prog 98 0 = some (0, 22)) ∧ (fieldT Try.prog 98 1 = some (1, 3)) ∧ (fieldT Try.prog 98 2 = some (2, 3)) ∧ (placesL Try.prog 98 = some [(0, 1), (1, 1), (2, 1)]) ∧ (zeroL Try.prog 98 = some [.slice none 0 0, .int .i64 0, .int .i64 0]) ∧ (szT Try.prog 102 = 2) ∧ (hasT Try.prog 102 = true) ∧ (aggT Try.prog 102 = true) ∧ (bytesT Try.prog 102 = 16) ∧ (nilsX Try.prog 102 = [none, none]) := ⟨ty79_n, ty79_ar, ty79_f0, ty79_f1, ty79_f2, ty79_f3, ty79_pl, ty79_z, ty86_sz, ty86_has, ty86_agg, ty86_by, ty86_n, ty86_ar, ty86_z, ty88_sz, ty88_has, ty88_agg, ty88_by, ty88_n, ty88_ar, ty88_f0, ty88_f1, ty88_pl, ty88_z, ty93_sz, ty93_has, ty93_agg, ty93_by, ty93_n, ty93_ar, ty93_f0, ty93_f1, ty93_f2, ty93_f3, ty93_pl, ty93_z, ty96_sz, ty96_has, ty96_agg, ty96_by, ty96_n, ty96_ar, ty96_z, ty98_sz, ty98_has, ty98_agg, ty98_by, ty98_n, ty98_ar, ty98_f0, ty98_f1, ty98_f2, ty98_pl, ty98_z, ty102_sz, ty102_has, ty102_agg, ty102_by, ty102_n⟩
@[go_sem] theorem tyb240_0 : (arrayT Try.prog 102 = none) ∧ (fieldT Try.prog 102 0 = some (0, 3)) ∧ (fieldT Try.prog 102 1 = some (1, 2)) ∧ (placesL Try.prog 102 = some [(0, 1), (1, 1)]) ∧ (zeroL Try.prog 102 = some [.int .i64 0, .int .i64 0]) ∧ (szT Try.prog 105 = 1) ∧ (hasT Try.prog 105 = true) ∧ (aggT Try.prog 105 = false) ∧ (bytesT Try.prog 105 = 8) ∧ (nilsX Try.prog 105 = [none]) ∧ (arrayT Try.prog 105 = none) ∧ (zeroL Try.prog 105 = some [.pointer none]) ∧ (szT Try.prog 107 = 1) ∧ (hasT Try.prog 107 = true) ∧ (aggT Try.prog 107 = true) ∧ (bytesT Try.prog 107 = 24) ∧ (nilsX Try.prog 107 = [some 1]) ∧ (arrayT Try.prog 107 = none) ∧ (fieldT Try.prog 107 0 = some (0, 22)) ∧ (placesL Try.prog 107 = some [(0, 1)]) ∧ (zeroL Try.prog 107 = some [.slice none 0 0]) ∧ (entB Try.prog 8 = true) ∧ (entB Try.prog 9 = true) ∧ (entB Try.prog 10 = true) ∧ (entB Try.prog 11 = true) ∧ (entB Try.prog 15 = true) ∧ (entB Try.prog 16 = true) ∧ (entB Try.prog 17 = true) ∧ (entB Try.prog 18 = true) ∧ (entB Try.prog 19 = true) ∧ (entB Try.prog 20 = true) ∧ (entB Try.prog 21 = true) ∧ (entB Try.prog 22 = true) ∧ (entB Try.prog 23 = true) ∧ (entB Try.prog 27 = true) ∧ (entB Try.prog 28 = true) ∧ (entB Try.prog 29 = true) ∧ (entB Try.prog 30 = true) ∧ (entB Try.prog 31 = true) ∧ (entB Try.prog 32 = true) ∧ (entB Try.prog 33 = true) ∧ (entB Try.prog 34 = true) ∧ (entB Try.prog 44 = true) ∧ (entB Try.prog 45 = true) ∧ (entB Try.prog 46 = true) ∧ (entB Try.prog 47 = true) ∧ (entB Try.prog 48 = true) ∧ (entB Try.prog 49 = true) ∧ (entB Try.prog 50 = true) ∧ (entB Try.prog 51 = true) ∧ (entB Try.prog 52 = true) ∧ (entB Try.prog 53 = true) ∧ (entB Try.prog 54 = true) ∧ (entB Try.prog 55 = true) ∧ (entB Try.prog 56 = true) ∧ (entB Try.prog 57 = true) ∧ (entB Try.prog 58 = true) ∧ (entB Try.prog 59 = true) ∧ (entB Try.prog 60 = true) ∧ (entB Try.prog 61 = true) := ⟨ty102_ar, ty102_f0, ty102_f1, ty102_pl, ty102_z, ty105_sz, ty105_has, ty105_agg, ty105_by, ty105_n, ty105_ar, ty105_z, ty107_sz, ty107_has, ty107_agg, ty107_by, ty107_n, ty107_ar, ty107_f0, ty107_pl, ty107_z, en8, en9, en10, en11, en15, en16, en17, en18, en19, en20, en21, en22, en23, en27, en28, en29, en30, en31, en32, en33, en34, en44, en45, en46, en47, en48, en49, en50, en51, en52, en53, en54, en55, en56, en57, en58, en59, en60, en61⟩
@[go_sem] theorem tyb300_0 : (entB Try.prog 62 = true) ∧ (entB Try.prog 74 = true) ∧ (entB Try.prog 77 = true) ∧ (entB Try.prog 78 = true) ∧ (entB Try.prog 79 = true) ∧ (entB Try.prog 80 = true) ∧ (entB Try.prog 81 = true) ∧ (entB Try.prog 82 = true) ∧ (entB Try.prog 83 = true) ∧ (entB Try.prog 84 = true) ∧ (entB Try.prog 116 = true) ∧ (entB Try.prog 117 = true) ∧ (entB Try.prog 118 = true) ∧ (entB Try.prog 119 = true) := ⟨en62, en74, en77, en78, en79, en80, en81, en82, en83, en84, en116, en117, en118, en119⟩
theorem mixed : Try.prog.follows .mixedOrders = true := by kernel_rfl
structure GIns where
  Op : Int
  N : Int
instance : Row GIns := ⟨2, fun x => [.v (.int .i64 x.Op), .v (.int .i64 x.N)]⟩
@[go_sem] theorem row_GIns (x : GIns) : Row.row x = [.v (.int .i64 x.Op), .v (.int .i64 x.N)] := rfl
@[go_sem] theorem sz_GIns : Row.sz GIns = 2 := rfl
instance : Dat GIns where
  ct := Dat.ct Int ++ (Dat.ct Int)
  ok x := Dat.ok x.Op ∧ Dat.ok x.N
  len := rfl
  of avs h := by
    obtain ⟨b0, r0, rfl, h0, g0⟩ := rowOK_split h
    obtain ⟨x0, rfl, k0⟩ := Dat.of (α := Int) _ h0
    obtain ⟨x1, rfl, k1⟩ := Dat.of (α := Int) _ g0
    exact ⟨⟨x0, x1⟩, rfl, k0, k1⟩
structure GEdge where
  From : Int
  To : Int
  Port : Int
  Exchange : Bool
instance : Row GEdge := ⟨4, fun x => [.v (.int .i64 x.From), .v (.int .i64 x.To), .v (.int .i64 x.Port), .v (.bool x.Exchange)]⟩
@[go_sem] theorem row_GEdge (x : GEdge) : Row.row x = [.v (.int .i64 x.From), .v (.int .i64 x.To), .v (.int .i64 x.Port), .v (.bool x.Exchange)] := rfl
@[go_sem] theorem sz_GEdge : Row.sz GEdge = 4 := rfl
instance : Dat GEdge where
  ct := Dat.ct Int ++ (Dat.ct Int ++ (Dat.ct Int ++ (Dat.ct Bool)))
  ok x := Dat.ok x.From ∧ Dat.ok x.To ∧ Dat.ok x.Port ∧ Dat.ok x.Exchange
  len := rfl
  of avs h := by
    obtain ⟨b0, r0, rfl, h0, g0⟩ := rowOK_split h
    obtain ⟨b1, r1, rfl, h1, g1⟩ := rowOK_split g0
    obtain ⟨b2, r2, rfl, h2, g2⟩ := rowOK_split g1
    obtain ⟨x0, rfl, k0⟩ := Dat.of (α := Int) _ h0
    obtain ⟨x1, rfl, k1⟩ := Dat.of (α := Int) _ h1
    obtain ⟨x2, rfl, k2⟩ := Dat.of (α := Int) _ h2
    obtain ⟨x3, rfl, k3⟩ := Dat.of (α := Bool) _ g2
    exact ⟨⟨x0, x1, x2, x3⟩, rfl, k0, k1, k2, k3⟩
structure GNode where
  Kind : Int
  Scope : Int
  Arg : Int
  Prog : List GIns
instance : Row GNode := ⟨4, fun x => [.v (.int .i64 x.Kind), .v (.int .i64 x.Scope), .v (.int .i64 x.Arg), .sl 2 (enc x.Prog)]⟩
@[go_sem] theorem row_GNode (x : GNode) : Row.row x = [.v (.int .i64 x.Kind), .v (.int .i64 x.Scope), .v (.int .i64 x.Arg), .sl 2 (enc x.Prog)] := rfl
@[go_sem] theorem sz_GNode : Row.sz GNode = 4 := rfl
instance : Dat GNode where
  ct := Dat.ct Int ++ (Dat.ct Int ++ (Dat.ct Int ++ (Dat.ct (List GIns))))
  ok x := Dat.ok x.Kind ∧ Dat.ok x.Scope ∧ Dat.ok x.Arg ∧ Dat.ok x.Prog
  len := rfl
  of avs h := by
    obtain ⟨b0, r0, rfl, h0, g0⟩ := rowOK_split h
    obtain ⟨b1, r1, rfl, h1, g1⟩ := rowOK_split g0
    obtain ⟨b2, r2, rfl, h2, g2⟩ := rowOK_split g1
    obtain ⟨x0, rfl, k0⟩ := Dat.of (α := Int) _ h0
    obtain ⟨x1, rfl, k1⟩ := Dat.of (α := Int) _ h1
    obtain ⟨x2, rfl, k2⟩ := Dat.of (α := Int) _ h2
    obtain ⟨x3, rfl, k3⟩ := Dat.of (α := List GIns) _ g2
    exact ⟨⟨x0, x1, x2, x3⟩, rfl, k0, k1, k2, k3⟩
structure GGraph where
  Parent : List Int
  Bound : List Int
  Nodes : List GNode
  Edges : List GEdge
instance : Row GGraph := ⟨4, fun x => [.sl 1 (enc x.Parent), .sl 1 (enc x.Bound), .sl 4 (enc x.Nodes), .sl 4 (enc x.Edges)]⟩
@[go_sem] theorem row_GGraph (x : GGraph) : Row.row x = [.sl 1 (enc x.Parent), .sl 1 (enc x.Bound), .sl 4 (enc x.Nodes), .sl 4 (enc x.Edges)] := rfl
@[go_sem] theorem sz_GGraph : Row.sz GGraph = 4 := rfl
instance : Dat GGraph where
  ct := Dat.ct (List Int) ++ (Dat.ct (List Int) ++ (Dat.ct (List GNode) ++ (Dat.ct (List GEdge))))
  ok x := Dat.ok x.Parent ∧ Dat.ok x.Bound ∧ Dat.ok x.Nodes ∧ Dat.ok x.Edges
  len := rfl
  of avs h := by
    obtain ⟨b0, r0, rfl, h0, g0⟩ := rowOK_split h
    obtain ⟨b1, r1, rfl, h1, g1⟩ := rowOK_split g0
    obtain ⟨b2, r2, rfl, h2, g2⟩ := rowOK_split g1
    obtain ⟨x0, rfl, k0⟩ := Dat.of (α := List Int) _ h0
    obtain ⟨x1, rfl, k1⟩ := Dat.of (α := List Int) _ h1
    obtain ⟨x2, rfl, k2⟩ := Dat.of (α := List GNode) _ h2
    obtain ⟨x3, rfl, k3⟩ := Dat.of (α := List GEdge) _ g2
    exact ⟨⟨x0, x1, x2, x3⟩, rfl, k0, k1, k2, k3⟩
structure GGraph_writer where
  b : List UInt8
instance : Row GGraph_writer := ⟨1, fun x => [.sl 1 (enc x.b)]⟩
@[go_sem] theorem row_GGraph_writer (x : GGraph_writer) : Row.row x = [.sl 1 (enc x.b)] := rfl
@[go_sem] theorem sz_GGraph_writer : Row.sz GGraph_writer = 1 := rfl
instance : Dat GGraph_writer where
  ct := Dat.ct (List UInt8)
  ok x := Dat.ok x.b
  len := rfl
  of avs h := by
    obtain ⟨x0, rfl, k0⟩ := Dat.of (α := List UInt8) _ h
    exact ⟨⟨x0⟩, rfl, k0⟩
structure GGraph_reader where
  b : List UInt8
  e : Int
instance : Row GGraph_reader := ⟨2, fun x => [.sl 1 (enc x.b), .v (.int .i64 x.e)]⟩
@[go_sem] theorem row_GGraph_reader (x : GGraph_reader) : Row.row x = [.sl 1 (enc x.b), .v (.int .i64 x.e)] := rfl
@[go_sem] theorem sz_GGraph_reader : Row.sz GGraph_reader = 2 := rfl
instance : Dat GGraph_reader where
  ct := Dat.ct (List UInt8) ++ (Dat.ct Int)
  ok x := Dat.ok x.b ∧ Dat.ok x.e
  len := rfl
  of avs h := by
    obtain ⟨b0, r0, rfl, h0, g0⟩ := rowOK_split h
    obtain ⟨x0, rfl, k0⟩ := Dat.of (α := List UInt8) _ h0
    obtain ⟨x1, rfl, k1⟩ := Dat.of (α := Int) _ g0
    exact ⟨⟨x0, x1⟩, rfl, k0, k1⟩
structure GBackwashref08_walk where
  b : List UInt8
  at_ : Int
  e : Int
instance : Row GBackwashref08_walk := ⟨3, fun x => [.sl 1 (enc x.b), .v (.int .i64 x.at_), .v (.int .i64 x.e)]⟩
@[go_sem] theorem row_GBackwashref08_walk (x : GBackwashref08_walk) : Row.row x = [.sl 1 (enc x.b), .v (.int .i64 x.at_), .v (.int .i64 x.e)] := rfl
@[go_sem] theorem sz_GBackwashref08_walk : Row.sz GBackwashref08_walk = 3 := rfl
instance : Dat GBackwashref08_walk where
  ct := Dat.ct (List UInt8) ++ (Dat.ct Int ++ (Dat.ct Int))
  ok x := Dat.ok x.b ∧ Dat.ok x.at_ ∧ Dat.ok x.e
  len := rfl
  of avs h := by
    obtain ⟨b0, r0, rfl, h0, g0⟩ := rowOK_split h
    obtain ⟨b1, r1, rfl, h1, g1⟩ := rowOK_split g0
    obtain ⟨x0, rfl, k0⟩ := Dat.of (α := List UInt8) _ h0
    obtain ⟨x1, rfl, k1⟩ := Dat.of (α := Int) _ h1
    obtain ⟨x2, rfl, k2⟩ := Dat.of (α := Int) _ g1
    exact ⟨⟨x0, x1, x2⟩, rfl, k0, k1, k2⟩
@[go_sem] theorem eqT93 : EqT Try.prog 93 [some .i64, some .i64, some .i64, none] := EqT_of (by kernel_rfl) (by kernel_rfl) (by kernel_rfl)
@[go_sem] theorem eqT102 : EqT Try.prog 102 [some .i64, some .i64] := EqT_of (by kernel_rfl) (by kernel_rfl) (by kernel_rfl)
end Go.Proofs.Ytngeldeahafcfaa

namespace Go.Proofs.Ytngeldeahafcfaa
open Go Go.RowKit
set_option maxHeartbeats 2000000
set_option maxRecDepth 100000
set_option linter.unusedSimpArgs false
set_option linter.unusedVariables false
def f_wire_ReadUint_B1 (b_0 : List UInt8) (rec_1 : Int × Int → Option (Int × Int × Int)) : Int × Int → Option (Int × Int × Int) :=
  fun (nv_1, t10_1) =>
  (if (decide (t10_1 < (List.length b_0 : Int))) = true then bindO (idx b_0 t10_1) (fun (xv_2 : UInt8) =>
  (if ((t10_1 == 9) && (decide (1 < ((UInt8.toNat xv_2 : Nat) : Int)))) = true then some (0, 0, 4)
  else guardO (0 ≤ (IntKind.u64.wrap (IntKind.i64.wrap (7 * t10_1)))) (
  (if (decide (128 ≤ ((UInt8.toNat xv_2 : Nat) : Int))) = true then rec_1 (orI .u64 nv_1 (shlI .u64 (IntKind.u64.wrap (andI .u8 ((UInt8.toNat xv_2 : Nat) : Int) 127)) (IntKind.u64.wrap (IntKind.i64.wrap (7 * t10_1)))), IntKind.i64.wrap (t10_1 + 1))
  else (if ((((UInt8.toNat xv_2 : Nat) : Int) == 0) && (decide (0 < t10_1))) = true then some (0, 0, 4)
  else some (orI .u64 nv_1 (shlI .u64 (IntKind.u64.wrap (andI .u8 ((UInt8.toNat xv_2 : Nat) : Int) 127)) (IntKind.u64.wrap (IntKind.i64.wrap (7 * t10_1)))), IntKind.i64.wrap (t10_1 + 1), 0))))))
  else some (0, 0, 3))
def f_wire_ReadUint (b_0 : List UInt8) : Option (Int × Int × Int) :=
  loopK (f_wire_ReadUint_B1 b_0) rounds (0, 0)
theorem f_wire_ReadUint_ok (b_0 : List UInt8)  (r : Int × Int × Int) (h : f_wire_ReadUint b_0 = some r) : PureS Try.prog 15 [.sl 1 (enc b_0)] 0 (.tup [.v (.int .u64 r.1), .v (.int .i64 r.2.1), .v (.int .i64 r.2.2)]) := by
  unfold PureS
  refine Spec.of_vc Try.func15 rfl (by kernel_rfl) (by kernel_rfl) ?_
  rw [f_wire_ReadUint] at h
  refine vc_seq_gen (by kernel_rfl) ?_
  intro QQ1 hQ1
  simp only [go_sem, Try.ntmps15, Try.results15]
  refine seqQ_normal hQ1 ?_
  refine vc_seq_gen (by kernel_rfl) ?_
  intro QQ2 hQ2
  simp only [go_sem, Try.ntmps15, Try.results15]
  refine seqQ_normal hQ2 ?_
  refine vc_join (by kernel_rfl) ?_
  refine seq_go_gen ?_
  intro QQ3 hQ3
  refine vc_seq_gen (by kernel_rfl) ?_
  intro QQ4 hQ4
  simp only [go_sem, Try.ntmps15, Try.results15]
  refine seqQ_normal hQ4 ?_
  refine vc_block_gen ?_
  intro QQ5 hQ5
  refine vc_loop_of ?_
  refine loop_gen (ι := Nat × Int × Int) (fun ((_, nv_1, t10_1) : Nat × Int × Int) => (⟨0, [(5, .v (.int .u64 nv_1)), (8, .sl 1 (enc b_0)), (9, .v (.int .i64 (List.length b_0 : Int))), (10, .v (.int .i64 t10_1))], [], 0, 42⟩ : St)) (fun ((n_, nv_1, t10_1) : Nat × Int × Int) => loopK (f_wire_ReadUint_B1 b_0) n_ (nv_1, t10_1) = some r) (fun p => p.1) (rounds, 0, 0) [] ?_ h ?_
  · simp only [go_sem, Le]
  · rintro ⟨n_1, nv_1, t10_1⟩ h QQ6 hQ6
    dsimp only at h
    replace h := loopK_some h
    obtain ⟨m_1, rfl, h⟩ := h
    rw [f_wire_ReadUint_B1] at h
    refine vc_seq_gen (by kernel_rfl) ?_
    intro QQ7 hQ7
    simp only [go_sem, Try.ntmps15, Try.results15]
    refine seqQ_normal hQ7 ?_
    refine vc_seq_gen (by kernel_rfl) ?_
    intro QQ8 hQ8
    refine vc_cond_of (b := (decide (t10_1 < (List.length b_0 : Int)))) (by (simp only [go_sem]; done)) (fun hb_7 => ?_) (fun hb_7 => ?_)
    ·
      replace h := if_t h hb_7
      simp only [decide_eq_true_eq, decide_eq_false_iff_not, Bool.not_eq_true', Bool.not_eq_false', beq_iff_eq, beq_eq_false_iff_ne, ne_eq, Bool.and_eq_true, Bool.or_eq_true, Int.not_lt, Int.not_le] at hb_7
      refine vc_skip_of ?_
      refine seqQ_normal hQ8 ?_
      refine vc_seq_gen (by kernel_rfl) ?_
      intro QQ9 hQ9
      refine vc_block_gen ?_
      intro QQ10 hQ10
      refine vc_seq_gen (by kernel_rfl) ?_
      intro QQ11 hQ11
      obtain ⟨xv_2, exv_2, h⟩ := bindO_some h
      obtain ⟨fxv_2a, fxv_2b, fxv_2c⟩ := idx_spec exv_2
      simp only [go_sem, Try.ntmps15, Try.results15, fxv_2a, fxv_2b, fxv_2c]
      refine And.intro (by omega) ?_
      refine seqQ_normal hQ11 ?_
      refine vc_seq_gen (by kernel_rfl) ?_
      intro QQ12 hQ12
      refine vc_seq_gen (by kernel_rfl) ?_
      intro QQ13 hQ13
      simp only [go_sem, Try.ntmps15, Try.results15]
      refine seqQ_normal hQ13 ?_
      refine vc_cond_of (b := ((t10_1 == 9) && (decide (1 < ((UInt8.toNat xv_2 : Nat) : Int))))) (by (simp only [go_sem]; done)) (fun hb_8 => ?_) (fun hb_8 => ?_)
      ·
        replace h := if_t h hb_8
        simp only [decide_eq_true_eq, decide_eq_false_iff_not, Bool.not_eq_true', Bool.not_eq_false', beq_iff_eq, beq_eq_false_iff_ne, ne_eq, Bool.and_eq_true, Bool.or_eq_true, Int.not_lt, Int.not_le] at hb_8
        refine vc_seq_gen (by kernel_rfl) ?_
        intro QQ14 hQ14
        simp only [go_sem, Try.ntmps15, Try.results15]
        refine seqQ_normal hQ14 ?_
        refine vc_ret_of ?_
        refine seqQ_ret hQ12 ?_
        refine blockQ_ret hQ10 ?_
        refine seqQ_ret hQ9 ?_
        refine thenQ_ret hQ6 ?_
        refine blockQ_ret hQ5 ?_
        refine seqQ_ret hQ3 ?_
        simp only [go_sem, Try.ntmps15, Try.results15]
        obtain rfl := Option.some.inj h
        refine retW_pure rfl ?_
        simp only [go_sem, Le]
      ·
        replace h := if_f h hb_8
        refine vc_skip_of ?_
        refine seqQ_normal hQ12 ?_
        refine vc_seq_gen (by kernel_rfl) ?_
        intro QQ15 hQ15
        obtain ⟨g_2, h⟩ := guardO_some h
        simp only [go_sem, Try.ntmps15, Try.results15, g_2]
        refine seqQ_normal hQ15 ?_
        refine vc_seq_gen (by kernel_rfl) ?_
        intro QQ16 hQ16
        refine vc_seq_gen (by kernel_rfl) ?_
        intro QQ17 hQ17
        simp only [go_sem, Try.ntmps15, Try.results15]
        refine seqQ_normal hQ17 ?_
        refine vc_cond_of (b := (decide (128 ≤ ((UInt8.toNat xv_2 : Nat) : Int)))) (by (simp only [go_sem]; done)) (fun hb_9 => ?_) (fun hb_9 => ?_)
        ·
          replace h := if_t h hb_9
          simp only [decide_eq_true_eq, decide_eq_false_iff_not, Bool.not_eq_true', Bool.not_eq_false', beq_iff_eq, beq_eq_false_iff_ne, ne_eq, Bool.and_eq_true, Bool.or_eq_true, Int.not_lt, Int.not_le] at hb_9
          refine vc_exit_of ?_
          refine seqQ_exit hQ16 ?_
          refine blockQ_exit hQ10 ?_
          refine seqQ_normal hQ9 ?_
          simp only [go_sem, Try.ntmps15, Try.results15]
          refine thenQ_normal hQ6 ?_
          refine ⟨(m_1, orI .u64 nv_1 (shlI .u64 (IntKind.u64.wrap (andI .u8 ((UInt8.toNat xv_2 : Nat) : Int) 127)) (IntKind.u64.wrap (IntKind.i64.wrap (7 * t10_1)))), IntKind.i64.wrap (t10_1 + 1)), [], ?_, h, Nat.lt_succ_self _⟩
          simp only [go_sem, Le]
        ·
          replace h := if_f h hb_9
          simp only [decide_eq_true_eq, decide_eq_false_iff_not, Bool.not_eq_true', Bool.not_eq_false', beq_iff_eq, beq_eq_false_iff_ne, ne_eq, Bool.and_eq_true, Bool.or_eq_true, Int.not_lt, Int.not_le] at hb_9
          refine vc_skip_of ?_
          refine seqQ_normal hQ16 ?_
          refine vc_seq_gen (by kernel_rfl) ?_
          intro QQ18 hQ18
          refine vc_seq_gen (by kernel_rfl) ?_
          intro QQ19 hQ19
          simp only [go_sem, Try.ntmps15, Try.results15]
          refine seqQ_normal hQ19 ?_
          refine vc_cond_of (b := ((((UInt8.toNat xv_2 : Nat) : Int) == 0) && (decide (0 < t10_1)))) (by (simp only [go_sem]; done)) (fun hb_10 => ?_) (fun hb_10 => ?_)
          ·
            replace h := if_t h hb_10
            simp only [decide_eq_true_eq, decide_eq_false_iff_not, Bool.not_eq_true', Bool.not_eq_false', beq_iff_eq, beq_eq_false_iff_ne, ne_eq, Bool.and_eq_true, Bool.or_eq_true, Int.not_lt, Int.not_le] at hb_10
            refine vc_seq_gen (by kernel_rfl) ?_
            intro QQ20 hQ20
            simp only [go_sem, Try.ntmps15, Try.results15]
            refine seqQ_normal hQ20 ?_
            refine vc_ret_of ?_
            refine seqQ_ret hQ18 ?_
            refine blockQ_ret hQ10 ?_
            refine seqQ_ret hQ9 ?_
            refine thenQ_ret hQ6 ?_
            refine blockQ_ret hQ5 ?_
            refine seqQ_ret hQ3 ?_
            simp only [go_sem, Try.ntmps15, Try.results15]
            obtain rfl := Option.some.inj h
            refine retW_pure rfl ?_
            simp only [go_sem, Le]
          ·
            replace h := if_f h hb_10
            refine vc_skip_of ?_
            refine seqQ_normal hQ18 ?_
            refine vc_seq_gen (by kernel_rfl) ?_
            intro QQ21 hQ21
            simp only [go_sem, Try.ntmps15, Try.results15]
            refine seqQ_normal hQ21 ?_
            refine vc_ret_of ?_
            refine blockQ_ret hQ10 ?_
            refine seqQ_ret hQ9 ?_
            refine thenQ_ret hQ6 ?_
            refine blockQ_ret hQ5 ?_
            refine seqQ_ret hQ3 ?_
            simp only [go_sem, Try.ntmps15, Try.results15]
            obtain rfl := Option.some.inj h
            refine retW_pure rfl ?_
            simp only [go_sem, Le]
    ·
      replace h := if_f h hb_7
      simp only [decide_eq_true_eq, decide_eq_false_iff_not, Bool.not_eq_true', Bool.not_eq_false', beq_iff_eq, beq_eq_false_iff_ne, ne_eq, Bool.and_eq_true, Bool.or_eq_true, Int.not_lt, Int.not_le] at hb_7
      refine vc_exit_of ?_
      refine seqQ_exit hQ8 ?_
      refine thenQ_exit hQ6 ?_
      refine blockQ_exit hQ5 ?_
      refine seqQ_normal hQ3 ?_
      refine vc_seq_gen (by kernel_rfl) ?_
      intro QQ22 hQ22
      simp only [go_sem, Try.ntmps15, Try.results15]
      refine seqQ_normal hQ22 ?_
      refine vc_ret_of ?_
      simp only [go_sem, Try.ntmps15, Try.results15]
      obtain rfl := Option.some.inj h
      refine retW_pure rfl ?_
      simp only [go_sem, Le]
end Go.Proofs.Ytngeldeahafcfaa

namespace Go.Proofs.Ytngeldeahafcfaa
open Go Go.RowKit
set_option maxHeartbeats 2000000
set_option maxRecDepth 100000
set_option linter.unusedSimpArgs false
set_option linter.unusedVariables false
def f_backwashref06_ReadUint_B2 (b_0 : List UInt8) (many_2 : Int) (rec_2 : Int × Int → Option (Int × Int × Int)) : Int × Int → Option (Int × Int × Int) :=
  fun (nv_1, i_1) =>
  (if (decide (0 ≤ i_1)) = true then bindO (idx b_0 i_1) (fun (xv_5 : UInt8) =>
  rec_2 (IntKind.u64.wrap ((IntKind.u64.wrap (nv_1 * 128)) + (IntKind.u64.wrap (Int.tmod ((UInt8.toNat xv_5 : Nat) : Int) 128))), IntKind.i64.wrap (i_1 - 1)))
  else some (nv_1, IntKind.i64.wrap (many_2 + 1), 0))
def f_backwashref06_ReadUint_B3 (b_0 : List UInt8) (many_2 : Int) (rec_3 : Int × Int → Option (Int × Int × Int)) : Int × Int → Option (Int × Int × Int) :=
  fun (nv_3, i_3) =>
  (if (decide (0 ≤ i_3)) = true then bindO (idx b_0 i_3) (fun (xv_9 : UInt8) =>
  rec_3 (IntKind.u64.wrap ((IntKind.u64.wrap (nv_3 * 128)) + (IntKind.u64.wrap (Int.tmod ((UInt8.toNat xv_9 : Nat) : Int) 128))), IntKind.i64.wrap (i_3 - 1)))
  else some (nv_3, IntKind.i64.wrap (many_2 + 1), 0))
def f_backwashref06_ReadUint_B4 (b_0 : List UInt8) (many_2 : Int) (rec_4 : Int × Int → Option (Int × Int × Int)) : Int × Int → Option (Int × Int × Int) :=
  fun (nv_5, i_5) =>
  (if (decide (0 ≤ i_5)) = true then bindO (idx b_0 i_5) (fun (xv_13 : UInt8) =>
  rec_4 (IntKind.u64.wrap ((IntKind.u64.wrap (nv_5 * 128)) + (IntKind.u64.wrap (Int.tmod ((UInt8.toNat xv_13 : Nat) : Int) 128))), IntKind.i64.wrap (i_5 - 1)))
  else some (nv_5, IntKind.i64.wrap (many_2 + 1), 0))
def f_backwashref06_ReadUint_B5 (b_0 : List UInt8) (many_2 : Int) (rec_5 : Int × Int → Option (Int × Int × Int)) : Int × Int → Option (Int × Int × Int) :=
  fun (nv_7, i_7) =>
  (if (decide (0 ≤ i_7)) = true then bindO (idx b_0 i_7) (fun (xv_17 : UInt8) =>
  rec_5 (IntKind.u64.wrap ((IntKind.u64.wrap (nv_7 * 128)) + (IntKind.u64.wrap (Int.tmod ((UInt8.toNat xv_17 : Nat) : Int) 128))), IntKind.i64.wrap (i_7 - 1)))
  else some (nv_7, IntKind.i64.wrap (many_2 + 1), 0))
def f_backwashref06_ReadUint_J1 (b_0 : List UInt8) (many_2 : Int) : Option (Int × Int × Int) :=
  (if (many_2 == (List.length b_0 : Int)) = true then some (0, 0, 3)
  else (if (many_2 == 9) = true then bindO (idx b_0 9) (fun (xv_10 : UInt8) =>
  (if (decide (1 < ((UInt8.toNat xv_10 : Nat) : Int))) = true then some (0, 0, 4)
  else (if (decide (0 < many_2)) = true then bindO (idx b_0 many_2) (fun (xv_14 : UInt8) =>
  (if (((UInt8.toNat xv_14 : Nat) : Int) == 0) = true then some (0, 0, 4)
  else loopK (f_backwashref06_ReadUint_B5 b_0 many_2) rounds (0, many_2)))
  else loopK (f_backwashref06_ReadUint_B4 b_0 many_2) rounds (0, many_2))))
  else (if (decide (0 < many_2)) = true then bindO (idx b_0 many_2) (fun (xv_6 : UInt8) =>
  (if (((UInt8.toNat xv_6 : Nat) : Int) == 0) = true then some (0, 0, 4)
  else loopK (f_backwashref06_ReadUint_B3 b_0 many_2) rounds (0, many_2)))
  else loopK (f_backwashref06_ReadUint_B2 b_0 many_2) rounds (0, many_2))))
def f_backwashref06_ReadUint_B6 (b_0 : List UInt8) (rec_6 : Int → Option (Int × Int × Int)) : Int → Option (Int × Int × Int) :=
  fun many_4 =>
  (if ((decide (many_4 < (List.length b_0 : Int))) && (decide (many_4 < 9))) = true then bindO (idx b_0 many_4) (fun (xv_20 : UInt8) =>
  (if (decide (127 < ((UInt8.toNat xv_20 : Nat) : Int))) = true then rec_6 (IntKind.i64.wrap (many_4 + 1))
  else f_backwashref06_ReadUint_J1 b_0 many_4))
  else f_backwashref06_ReadUint_J1 b_0 many_4)
def f_backwashref06_ReadUint (b_0 : List UInt8) : Option (Int × Int × Int) :=
  loopK (f_backwashref06_ReadUint_B6 b_0) rounds 0
theorem f_backwashref06_ReadUint_ok (b_0 : List UInt8)  (r : Int × Int × Int) (h : f_backwashref06_ReadUint b_0 = some r) : PureS Try.prog 16 [.sl 1 (enc b_0)] 0 (.tup [.v (.int .u64 r.1), .v (.int .i64 r.2.1), .v (.int .i64 r.2.2)]) := by
  unfold PureS
  refine Spec.of_vc Try.func16 rfl (by kernel_rfl) (by kernel_rfl) ?_
  rw [f_backwashref06_ReadUint] at h
  refine vc_seq_gen (by kernel_rfl) ?_
  intro QQ1 hQ1
  simp only [go_sem, Try.ntmps16, Try.results16]
  refine seqQ_normal hQ1 ?_
  refine vc_seq_gen (by kernel_rfl) ?_
  intro QQ2 hQ2
  simp only [go_sem, Try.ntmps16, Try.results16]
  refine seqQ_normal hQ2 ?_
  refine vc_join (by kernel_rfl) ?_
  refine seq_cut_gen (ι := Int) (fun (many_2 : Int) => (⟨0, [(0, .sl 1 (enc b_0)), (5, .v (.int .i64 many_2))], [], 0, 65⟩ : St)) (fun (many_2 : Int) => f_backwashref06_ReadUint_J1 b_0 many_2 = some r) ?_ ?_
  ·
    intro QQ51 hQ51
    refine vc_block_gen ?_
    intro QQ52 hQ52
    refine vc_loop_of ?_
    refine loop_gen (ι := Nat × Int) (fun ((_, many_4) : Nat × Int) => (⟨0, [(0, .sl 1 (enc b_0)), (5, .v (.int .i64 many_4))], [], 0, 65⟩ : St)) (fun ((n_, many_4) : Nat × Int) => loopK (f_backwashref06_ReadUint_B6 b_0) n_ many_4 = some r) (fun p => p.1) (rounds, 0) [] ?_ h ?_
    · simp only [go_sem, Le]
    · rintro ⟨n_6, many_4⟩ h QQ53 hQ53
      dsimp only at h
      replace h := loopK_some h
      obtain ⟨m_6, rfl, h⟩ := h
      rw [f_backwashref06_ReadUint_B6] at h
      refine vc_seq_gen (by kernel_rfl) ?_
      intro QQ54 hQ54
      refine vc_seq_gen (by kernel_rfl) ?_
      intro QQ55 hQ55
      simp only [go_sem, Try.ntmps16, Try.results16]
      rcases hb_29 : ((decide (many_4 < (List.length b_0 : Int))) && (decide (many_4 < 9))) with _ | _
      ·
        replace h := if_f h hb_29
        simp only [go_sem, Try.ntmps16, Try.results16, hb_29]
        refine seqQ_normal hQ55 ?_
        refine vc_cond_f (by (simp only [go_sem]; done)) ?_
        refine vc_exit_of ?_
        refine seqQ_exit hQ54 ?_
        refine thenQ_exit hQ53 ?_
        refine blockQ_exit hQ52 ?_
        refine thenQ_normal hQ51 ?_
        refine ⟨many_4, [], ?_, h⟩
        simp only [go_sem, Le]
      ·
        replace h := if_t h hb_29
        obtain ⟨xv_20, exv_20, h⟩ := bindO_some h
        obtain ⟨fxv_20a, fxv_20b, fxv_20c⟩ := idx_spec exv_20
        simp only [go_sem, Try.ntmps16, Try.results16, hb_29, fxv_20a, fxv_20b, fxv_20c]
        refine And.intro (by omega) ?_
        refine seqQ_normal hQ55 ?_
        refine vc_cond_of (b := (decide (127 < ((UInt8.toNat xv_20 : Nat) : Int)))) (by (simp only [go_sem]; done)) (fun hb_30 => ?_) (fun hb_30 => ?_)
        ·
          replace h := if_t h hb_30
          simp only [decide_eq_true_eq, decide_eq_false_iff_not, Bool.not_eq_true', Bool.not_eq_false', beq_iff_eq, beq_eq_false_iff_ne, ne_eq, Bool.and_eq_true, Bool.or_eq_true, Int.not_lt, Int.not_le] at hb_30
          refine vc_skip_of ?_
          refine seqQ_normal hQ54 ?_
          refine vc_block_gen ?_
          intro QQ56 hQ56
          simp only [go_sem, Try.ntmps16, Try.results16]
          refine blockQ_normal hQ56 ?_
          refine thenQ_normal hQ53 ?_
          refine ⟨(m_6, IntKind.i64.wrap (many_4 + 1)), [], ?_, h, Nat.lt_succ_self _⟩
          simp only [go_sem, Le]
        ·
          replace h := if_f h hb_30
          simp only [decide_eq_true_eq, decide_eq_false_iff_not, Bool.not_eq_true', Bool.not_eq_false', beq_iff_eq, beq_eq_false_iff_ne, ne_eq, Bool.and_eq_true, Bool.or_eq_true, Int.not_lt, Int.not_le] at hb_30
          refine vc_exit_of ?_
          refine seqQ_exit hQ54 ?_
          refine thenQ_exit hQ53 ?_
          refine blockQ_exit hQ52 ?_
          refine thenQ_normal hQ51 ?_
          refine ⟨many_4, [], ?_, h⟩
          simp only [go_sem, Le]
  · rintro many_2 h
    try dsimp only at h
    rw [f_backwashref06_ReadUint_J1] at h
    refine vc_seq_gen (by kernel_rfl) ?_
    intro QQ3 hQ3
    refine vc_seq_gen (by kernel_rfl) ?_
    intro QQ4 hQ4
    simp only [go_sem, Try.ntmps16, Try.results16]
    refine seqQ_normal hQ4 ?_
    refine vc_cond_of (b := (many_2 == (List.length b_0 : Int))) (by (simp only [go_sem]; done)) (fun hb_6 => ?_) (fun hb_6 => ?_)
    ·
      replace h := if_t h hb_6
      simp only [decide_eq_true_eq, decide_eq_false_iff_not, Bool.not_eq_true', Bool.not_eq_false', beq_iff_eq, beq_eq_false_iff_ne, ne_eq, Bool.and_eq_true, Bool.or_eq_true, Int.not_lt, Int.not_le] at hb_6
      refine vc_seq_gen (by kernel_rfl) ?_
      intro QQ5 hQ5
      simp only [go_sem, Try.ntmps16, Try.results16]
      refine seqQ_normal hQ5 ?_
      refine vc_ret_of ?_
      refine seqQ_ret hQ3 ?_
      simp only [go_sem, Try.ntmps16, Try.results16]
      obtain rfl := Option.some.inj h
      refine retW_pure rfl ?_
      simp only [go_sem, Le]
    ·
      replace h := if_f h hb_6
      simp only [decide_eq_true_eq, decide_eq_false_iff_not, Bool.not_eq_true', Bool.not_eq_false', beq_iff_eq, beq_eq_false_iff_ne, ne_eq, Bool.and_eq_true, Bool.or_eq_true, Int.not_lt, Int.not_le] at hb_6
      refine vc_skip_of ?_
      refine seqQ_normal hQ3 ?_
      refine vc_seq_gen (by kernel_rfl) ?_
      intro QQ6 hQ6
      refine vc_seq_gen (by kernel_rfl) ?_
      intro QQ7 hQ7
      simp only [go_sem, Try.ntmps16, Try.results16]
      rcases hb_7 : (many_2 == 9) with _ | _
      ·
        replace h := if_f h hb_7
        simp only [go_sem, Try.ntmps16, Try.results16, hb_7]
        rcases hb_8 : (decide (0 < many_2)) with _ | _
        ·
          replace h := if_f h hb_8
          simp only [go_sem, Try.ntmps16, Try.results16, hb_8]
          refine seqQ_normal hQ7 ?_
          refine vc_cond_f (by (simp only [go_sem]; done)) ?_
          refine vc_skip_of ?_
          refine seqQ_normal hQ6 ?_
          refine vc_seq_gen (by kernel_rfl) ?_
          intro QQ8 hQ8
          simp only [go_sem, Try.ntmps16, Try.results16]
          refine seqQ_normal hQ8 ?_
          refine vc_join (by kernel_rfl) ?_
          refine seq_go_gen ?_
          intro QQ9 hQ9
          refine vc_seq_gen (by kernel_rfl) ?_
          intro QQ10 hQ10
          simp only [go_sem, Try.ntmps16, Try.results16]
          refine seqQ_normal hQ10 ?_
          refine vc_block_gen ?_
          intro QQ11 hQ11
          refine vc_loop_of ?_
          refine loop_gen (ι := Nat × Int × Int) (fun ((_, nv_1, i_1) : Nat × Int × Int) => (⟨0, [(0, .sl 1 (enc b_0)), (5, .v (.int .i64 many_2)), (6, .v (.int .u64 nv_1)), (7, .v (.int .i64 i_1))], [], 0, 65⟩ : St)) (fun ((n_, nv_1, i_1) : Nat × Int × Int) => loopK (f_backwashref06_ReadUint_B2 b_0 many_2) n_ (nv_1, i_1) = some r) (fun p => p.1) (rounds, 0, many_2) [] ?_ h ?_
          · simp only [go_sem, Le]
          · rintro ⟨n_2, nv_1, i_1⟩ h QQ12 hQ12
            dsimp only at h
            replace h := loopK_some h
            obtain ⟨m_2, rfl, h⟩ := h
            rw [f_backwashref06_ReadUint_B2] at h
            refine vc_seq_gen (by kernel_rfl) ?_
            intro QQ13 hQ13
            refine vc_seq_gen (by kernel_rfl) ?_
            intro QQ14 hQ14
            simp only [go_sem, Try.ntmps16, Try.results16]
            refine seqQ_normal hQ14 ?_
            refine vc_cond_of (b := (decide (0 ≤ i_1))) (by (simp only [go_sem]; done)) (fun hb_11 => ?_) (fun hb_11 => ?_)
            ·
              replace h := if_t h hb_11
              simp only [decide_eq_true_eq, decide_eq_false_iff_not, Bool.not_eq_true', Bool.not_eq_false', beq_iff_eq, beq_eq_false_iff_ne, ne_eq, Bool.and_eq_true, Bool.or_eq_true, Int.not_lt, Int.not_le] at hb_11
              refine vc_skip_of ?_
              refine seqQ_normal hQ13 ?_
              refine vc_seq_gen (by kernel_rfl) ?_
              intro QQ15 hQ15
              refine vc_block_gen ?_
              intro QQ16 hQ16
              obtain ⟨xv_5, exv_5, h⟩ := bindO_some h
              obtain ⟨fxv_5a, fxv_5b, fxv_5c⟩ := idx_spec exv_5
              simp only [go_sem, Try.ntmps16, Try.results16, fxv_5a, fxv_5b, fxv_5c]
              refine And.intro (by omega) ?_
              refine blockQ_normal hQ16 ?_
              refine seqQ_normal hQ15 ?_
              simp only [go_sem, Try.ntmps16, Try.results16]
              refine thenQ_normal hQ12 ?_
              refine ⟨(m_2, IntKind.u64.wrap ((IntKind.u64.wrap (nv_1 * 128)) + (IntKind.u64.wrap (Int.tmod ((UInt8.toNat xv_5 : Nat) : Int) 128))), IntKind.i64.wrap (i_1 - 1)), [], ?_, h, Nat.lt_succ_self _⟩
              simp only [go_sem, Le]
            ·
              replace h := if_f h hb_11
              simp only [decide_eq_true_eq, decide_eq_false_iff_not, Bool.not_eq_true', Bool.not_eq_false', beq_iff_eq, beq_eq_false_iff_ne, ne_eq, Bool.and_eq_true, Bool.or_eq_true, Int.not_lt, Int.not_le] at hb_11
              refine vc_exit_of ?_
              refine seqQ_exit hQ13 ?_
              refine thenQ_exit hQ12 ?_
              refine blockQ_exit hQ11 ?_
              refine seqQ_normal hQ9 ?_
              refine vc_seq_gen (by kernel_rfl) ?_
              intro QQ17 hQ17
              simp only [go_sem, Try.ntmps16, Try.results16]
              refine seqQ_normal hQ17 ?_
              refine vc_ret_of ?_
              simp only [go_sem, Try.ntmps16, Try.results16]
              obtain rfl := Option.some.inj h
              refine retW_pure rfl ?_
              simp only [go_sem, Le]
        ·
          replace h := if_t h hb_8
          obtain ⟨xv_6, exv_6, h⟩ := bindO_some h
          obtain ⟨fxv_6a, fxv_6b, fxv_6c⟩ := idx_spec exv_6
          simp only [go_sem, Try.ntmps16, Try.results16, hb_8, fxv_6a, fxv_6b, fxv_6c]
          refine And.intro (by omega) ?_
          refine seqQ_normal hQ7 ?_
          refine vc_cond_of (b := (((UInt8.toNat xv_6 : Nat) : Int) == 0)) (by (simp only [go_sem]; done)) (fun hb_12 => ?_) (fun hb_12 => ?_)
          ·
            replace h := if_t h hb_12
            simp only [decide_eq_true_eq, decide_eq_false_iff_not, Bool.not_eq_true', Bool.not_eq_false', beq_iff_eq, beq_eq_false_iff_ne, ne_eq, Bool.and_eq_true, Bool.or_eq_true, Int.not_lt, Int.not_le] at hb_12
            refine vc_seq_gen (by kernel_rfl) ?_
            intro QQ18 hQ18
            simp only [go_sem, Try.ntmps16, Try.results16]
            refine seqQ_normal hQ18 ?_
            refine vc_ret_of ?_
            refine seqQ_ret hQ6 ?_
            simp only [go_sem, Try.ntmps16, Try.results16]
            obtain rfl := Option.some.inj h
            refine retW_pure rfl ?_
            simp only [go_sem, Le]
          ·
            replace h := if_f h hb_12
            simp only [decide_eq_true_eq, decide_eq_false_iff_not, Bool.not_eq_true', Bool.not_eq_false', beq_iff_eq, beq_eq_false_iff_ne, ne_eq, Bool.and_eq_true, Bool.or_eq_true, Int.not_lt, Int.not_le] at hb_12
            refine vc_skip_of ?_
            refine seqQ_normal hQ6 ?_
            refine vc_seq_gen (by kernel_rfl) ?_
            intro QQ19 hQ19
            simp only [go_sem, Try.ntmps16, Try.results16]
            refine seqQ_normal hQ19 ?_
            refine vc_join (by kernel_rfl) ?_
            refine seq_go_gen ?_
            intro QQ20 hQ20
            refine vc_seq_gen (by kernel_rfl) ?_
            intro QQ21 hQ21
            simp only [go_sem, Try.ntmps16, Try.results16]
            refine seqQ_normal hQ21 ?_
            refine vc_block_gen ?_
            intro QQ22 hQ22
            refine vc_loop_of ?_
            refine loop_gen (ι := Nat × Int × Int) (fun ((_, nv_3, i_3) : Nat × Int × Int) => (⟨0, [(0, .sl 1 (enc b_0)), (5, .v (.int .i64 many_2)), (6, .v (.int .u64 nv_3)), (7, .v (.int .i64 i_3))], [], 0, 65⟩ : St)) (fun ((n_, nv_3, i_3) : Nat × Int × Int) => loopK (f_backwashref06_ReadUint_B3 b_0 many_2) n_ (nv_3, i_3) = some r) (fun p => p.1) (rounds, 0, many_2) [] ?_ h ?_
            · simp only [go_sem, Le]
            · rintro ⟨n_3, nv_3, i_3⟩ h QQ23 hQ23
              dsimp only at h
              replace h := loopK_some h
              obtain ⟨m_3, rfl, h⟩ := h
              rw [f_backwashref06_ReadUint_B3] at h
              refine vc_seq_gen (by kernel_rfl) ?_
              intro QQ24 hQ24
              refine vc_seq_gen (by kernel_rfl) ?_
              intro QQ25 hQ25
              simp only [go_sem, Try.ntmps16, Try.results16]
              refine seqQ_normal hQ25 ?_
              refine vc_cond_of (b := (decide (0 ≤ i_3))) (by (simp only [go_sem]; done)) (fun hb_15 => ?_) (fun hb_15 => ?_)
              ·
                replace h := if_t h hb_15
                simp only [decide_eq_true_eq, decide_eq_false_iff_not, Bool.not_eq_true', Bool.not_eq_false', beq_iff_eq, beq_eq_false_iff_ne, ne_eq, Bool.and_eq_true, Bool.or_eq_true, Int.not_lt, Int.not_le] at hb_15
                refine vc_skip_of ?_
                refine seqQ_normal hQ24 ?_
                refine vc_seq_gen (by kernel_rfl) ?_
                intro QQ26 hQ26
                refine vc_block_gen ?_
                intro QQ27 hQ27
                obtain ⟨xv_9, exv_9, h⟩ := bindO_some h
                obtain ⟨fxv_9a, fxv_9b, fxv_9c⟩ := idx_spec exv_9
                simp only [go_sem, Try.ntmps16, Try.results16, fxv_9a, fxv_9b, fxv_9c]
                refine And.intro (by omega) ?_
                refine blockQ_normal hQ27 ?_
                refine seqQ_normal hQ26 ?_
                simp only [go_sem, Try.ntmps16, Try.results16]
                refine thenQ_normal hQ23 ?_
                refine ⟨(m_3, IntKind.u64.wrap ((IntKind.u64.wrap (nv_3 * 128)) + (IntKind.u64.wrap (Int.tmod ((UInt8.toNat xv_9 : Nat) : Int) 128))), IntKind.i64.wrap (i_3 - 1)), [], ?_, h, Nat.lt_succ_self _⟩
                simp only [go_sem, Le]
              ·
                replace h := if_f h hb_15
                simp only [decide_eq_true_eq, decide_eq_false_iff_not, Bool.not_eq_true', Bool.not_eq_false', beq_iff_eq, beq_eq_false_iff_ne, ne_eq, Bool.and_eq_true, Bool.or_eq_true, Int.not_lt, Int.not_le] at hb_15
                refine vc_exit_of ?_
                refine seqQ_exit hQ24 ?_
                refine thenQ_exit hQ23 ?_
                refine blockQ_exit hQ22 ?_
                refine seqQ_normal hQ20 ?_
                refine vc_seq_gen (by kernel_rfl) ?_
                intro QQ28 hQ28
                simp only [go_sem, Try.ntmps16, Try.results16]
                refine seqQ_normal hQ28 ?_
                refine vc_ret_of ?_
                simp only [go_sem, Try.ntmps16, Try.results16]
                obtain rfl := Option.some.inj h
                refine retW_pure rfl ?_
                simp only [go_sem, Le]
      ·
        replace h := if_t h hb_7
        obtain ⟨xv_10, exv_10, h⟩ := bindO_some h
        obtain ⟨fxv_10a, fxv_10b, fxv_10c⟩ := idx_spec exv_10
        simp only [Int.toNat_natCast, Int.reduceToNat] at fxv_10c
        simp only [go_sem, Try.ntmps16, Try.results16, hb_7, fxv_10a, fxv_10b, fxv_10c]
        refine And.intro (by omega) ?_
        rcases hb_16 : (decide (1 < ((UInt8.toNat xv_10 : Nat) : Int))) with _ | _
        ·
          replace h := if_f h hb_16
          simp only [go_sem, Try.ntmps16, Try.results16, hb_16]
          rcases hb_17 : (decide (0 < many_2)) with _ | _
          ·
            replace h := if_f h hb_17
            simp only [go_sem, Try.ntmps16, Try.results16, hb_17]
            refine seqQ_normal hQ7 ?_
            refine vc_cond_f (by (simp only [go_sem]; done)) ?_
            refine vc_skip_of ?_
            refine seqQ_normal hQ6 ?_
            refine vc_seq_gen (by kernel_rfl) ?_
            intro QQ29 hQ29
            simp only [go_sem, Try.ntmps16, Try.results16]
            refine seqQ_normal hQ29 ?_
            refine vc_join (by kernel_rfl) ?_
            refine seq_go_gen ?_
            intro QQ30 hQ30
            refine vc_seq_gen (by kernel_rfl) ?_
            intro QQ31 hQ31
            simp only [go_sem, Try.ntmps16, Try.results16]
            refine seqQ_normal hQ31 ?_
            refine vc_block_gen ?_
            intro QQ32 hQ32
            refine vc_loop_of ?_
            refine loop_gen (ι := Nat × Int × Int) (fun ((_, nv_5, i_5) : Nat × Int × Int) => (⟨0, [(0, .sl 1 (enc b_0)), (5, .v (.int .i64 many_2)), (6, .v (.int .u64 nv_5)), (7, .v (.int .i64 i_5))], [], 0, 65⟩ : St)) (fun ((n_, nv_5, i_5) : Nat × Int × Int) => loopK (f_backwashref06_ReadUint_B4 b_0 many_2) n_ (nv_5, i_5) = some r) (fun p => p.1) (rounds, 0, many_2) [] ?_ h ?_
            · simp only [go_sem, Le]
            · rintro ⟨n_4, nv_5, i_5⟩ h QQ33 hQ33
              dsimp only at h
              replace h := loopK_some h
              obtain ⟨m_4, rfl, h⟩ := h
              rw [f_backwashref06_ReadUint_B4] at h
              refine vc_seq_gen (by kernel_rfl) ?_
              intro QQ34 hQ34
              refine vc_seq_gen (by kernel_rfl) ?_
              intro QQ35 hQ35
              simp only [go_sem, Try.ntmps16, Try.results16]
              refine seqQ_normal hQ35 ?_
              refine vc_cond_of (b := (decide (0 ≤ i_5))) (by (simp only [go_sem]; done)) (fun hb_20 => ?_) (fun hb_20 => ?_)
              ·
                replace h := if_t h hb_20
                simp only [decide_eq_true_eq, decide_eq_false_iff_not, Bool.not_eq_true', Bool.not_eq_false', beq_iff_eq, beq_eq_false_iff_ne, ne_eq, Bool.and_eq_true, Bool.or_eq_true, Int.not_lt, Int.not_le] at hb_20
                refine vc_skip_of ?_
                refine seqQ_normal hQ34 ?_
                refine vc_seq_gen (by kernel_rfl) ?_
                intro QQ36 hQ36
                refine vc_block_gen ?_
                intro QQ37 hQ37
                obtain ⟨xv_13, exv_13, h⟩ := bindO_some h
                obtain ⟨fxv_13a, fxv_13b, fxv_13c⟩ := idx_spec exv_13
                simp only [go_sem, Try.ntmps16, Try.results16, fxv_13a, fxv_13b, fxv_13c]
                refine And.intro (by omega) ?_
                refine blockQ_normal hQ37 ?_
                refine seqQ_normal hQ36 ?_
                simp only [go_sem, Try.ntmps16, Try.results16]
                refine thenQ_normal hQ33 ?_
                refine ⟨(m_4, IntKind.u64.wrap ((IntKind.u64.wrap (nv_5 * 128)) + (IntKind.u64.wrap (Int.tmod ((UInt8.toNat xv_13 : Nat) : Int) 128))), IntKind.i64.wrap (i_5 - 1)), [], ?_, h, Nat.lt_succ_self _⟩
                simp only [go_sem, Le]
              ·
                replace h := if_f h hb_20
                simp only [decide_eq_true_eq, decide_eq_false_iff_not, Bool.not_eq_true', Bool.not_eq_false', beq_iff_eq, beq_eq_false_iff_ne, ne_eq, Bool.and_eq_true, Bool.or_eq_true, Int.not_lt, Int.not_le] at hb_20
                refine vc_exit_of ?_
                refine seqQ_exit hQ34 ?_
                refine thenQ_exit hQ33 ?_
                refine blockQ_exit hQ32 ?_
                refine seqQ_normal hQ30 ?_
                refine vc_seq_gen (by kernel_rfl) ?_
                intro QQ38 hQ38
                simp only [go_sem, Try.ntmps16, Try.results16]
                refine seqQ_normal hQ38 ?_
                refine vc_ret_of ?_
                simp only [go_sem, Try.ntmps16, Try.results16]
                obtain rfl := Option.some.inj h
                refine retW_pure rfl ?_
                simp only [go_sem, Le]
          ·
            replace h := if_t h hb_17
            obtain ⟨xv_14, exv_14, h⟩ := bindO_some h
            obtain ⟨fxv_14a, fxv_14b, fxv_14c⟩ := idx_spec exv_14
            simp only [go_sem, Try.ntmps16, Try.results16, hb_17, fxv_14a, fxv_14b, fxv_14c]
            refine And.intro (by omega) ?_
            refine seqQ_normal hQ7 ?_
            refine vc_cond_of (b := (((UInt8.toNat xv_14 : Nat) : Int) == 0)) (by (simp only [go_sem]; done)) (fun hb_21 => ?_) (fun hb_21 => ?_)
            ·
              replace h := if_t h hb_21
              simp only [decide_eq_true_eq, decide_eq_false_iff_not, Bool.not_eq_true', Bool.not_eq_false', beq_iff_eq, beq_eq_false_iff_ne, ne_eq, Bool.and_eq_true, Bool.or_eq_true, Int.not_lt, Int.not_le] at hb_21
              refine vc_seq_gen (by kernel_rfl) ?_
              intro QQ39 hQ39
              simp only [go_sem, Try.ntmps16, Try.results16]
              refine seqQ_normal hQ39 ?_
              refine vc_ret_of ?_
              refine seqQ_ret hQ6 ?_
              simp only [go_sem, Try.ntmps16, Try.results16]
              obtain rfl := Option.some.inj h
              refine retW_pure rfl ?_
              simp only [go_sem, Le]
            ·
              replace h := if_f h hb_21
              simp only [decide_eq_true_eq, decide_eq_false_iff_not, Bool.not_eq_true', Bool.not_eq_false', beq_iff_eq, beq_eq_false_iff_ne, ne_eq, Bool.and_eq_true, Bool.or_eq_true, Int.not_lt, Int.not_le] at hb_21
              refine vc_skip_of ?_
              refine seqQ_normal hQ6 ?_
              refine vc_seq_gen (by kernel_rfl) ?_
              intro QQ40 hQ40
              simp only [go_sem, Try.ntmps16, Try.results16]
              refine seqQ_normal hQ40 ?_
              refine vc_join (by kernel_rfl) ?_
              refine seq_go_gen ?_
              intro QQ41 hQ41
              refine vc_seq_gen (by kernel_rfl) ?_
              intro QQ42 hQ42
              simp only [go_sem, Try.ntmps16, Try.results16]
              refine seqQ_normal hQ42 ?_
              refine vc_block_gen ?_
              intro QQ43 hQ43
              refine vc_loop_of ?_
              refine loop_gen (ι := Nat × Int × Int) (fun ((_, nv_7, i_7) : Nat × Int × Int) => (⟨0, [(0, .sl 1 (enc b_0)), (5, .v (.int .i64 many_2)), (6, .v (.int .u64 nv_7)), (7, .v (.int .i64 i_7))], [], 0, 65⟩ : St)) (fun ((n_, nv_7, i_7) : Nat × Int × Int) => loopK (f_backwashref06_ReadUint_B5 b_0 many_2) n_ (nv_7, i_7) = some r) (fun p => p.1) (rounds, 0, many_2) [] ?_ h ?_
              · simp only [go_sem, Le]
              · rintro ⟨n_5, nv_7, i_7⟩ h QQ44 hQ44
                dsimp only at h
                replace h := loopK_some h
                obtain ⟨m_5, rfl, h⟩ := h
                rw [f_backwashref06_ReadUint_B5] at h
                refine vc_seq_gen (by kernel_rfl) ?_
                intro QQ45 hQ45
                refine vc_seq_gen (by kernel_rfl) ?_
                intro QQ46 hQ46
                simp only [go_sem, Try.ntmps16, Try.results16]
                refine seqQ_normal hQ46 ?_
                refine vc_cond_of (b := (decide (0 ≤ i_7))) (by (simp only [go_sem]; done)) (fun hb_24 => ?_) (fun hb_24 => ?_)
                ·
                  replace h := if_t h hb_24
                  simp only [decide_eq_true_eq, decide_eq_false_iff_not, Bool.not_eq_true', Bool.not_eq_false', beq_iff_eq, beq_eq_false_iff_ne, ne_eq, Bool.and_eq_true, Bool.or_eq_true, Int.not_lt, Int.not_le] at hb_24
                  refine vc_skip_of ?_
                  refine seqQ_normal hQ45 ?_
                  refine vc_seq_gen (by kernel_rfl) ?_
                  intro QQ47 hQ47
                  refine vc_block_gen ?_
                  intro QQ48 hQ48
                  obtain ⟨xv_17, exv_17, h⟩ := bindO_some h
                  obtain ⟨fxv_17a, fxv_17b, fxv_17c⟩ := idx_spec exv_17
                  simp only [go_sem, Try.ntmps16, Try.results16, fxv_17a, fxv_17b, fxv_17c]
                  refine And.intro (by omega) ?_
                  refine blockQ_normal hQ48 ?_
                  refine seqQ_normal hQ47 ?_
                  simp only [go_sem, Try.ntmps16, Try.results16]
                  refine thenQ_normal hQ44 ?_
                  refine ⟨(m_5, IntKind.u64.wrap ((IntKind.u64.wrap (nv_7 * 128)) + (IntKind.u64.wrap (Int.tmod ((UInt8.toNat xv_17 : Nat) : Int) 128))), IntKind.i64.wrap (i_7 - 1)), [], ?_, h, Nat.lt_succ_self _⟩
                  simp only [go_sem, Le]
                ·
                  replace h := if_f h hb_24
                  simp only [decide_eq_true_eq, decide_eq_false_iff_not, Bool.not_eq_true', Bool.not_eq_false', beq_iff_eq, beq_eq_false_iff_ne, ne_eq, Bool.and_eq_true, Bool.or_eq_true, Int.not_lt, Int.not_le] at hb_24
                  refine vc_exit_of ?_
                  refine seqQ_exit hQ45 ?_
                  refine thenQ_exit hQ44 ?_
                  refine blockQ_exit hQ43 ?_
                  refine seqQ_normal hQ41 ?_
                  refine vc_seq_gen (by kernel_rfl) ?_
                  intro QQ49 hQ49
                  simp only [go_sem, Try.ntmps16, Try.results16]
                  refine seqQ_normal hQ49 ?_
                  refine vc_ret_of ?_
                  simp only [go_sem, Try.ntmps16, Try.results16]
                  obtain rfl := Option.some.inj h
                  refine retW_pure rfl ?_
                  simp only [go_sem, Le]
        ·
          replace h := if_t h hb_16
          simp only [go_sem, Try.ntmps16, Try.results16, hb_16]
          refine seqQ_normal hQ7 ?_
          refine vc_cond_t (by (simp only [go_sem]; done)) ?_
          refine vc_seq_gen (by kernel_rfl) ?_
          intro QQ50 hQ50
          simp only [go_sem, Try.ntmps16, Try.results16]
          refine seqQ_normal hQ50 ?_
          refine vc_ret_of ?_
          refine seqQ_ret hQ6 ?_
          simp only [go_sem, Try.ntmps16, Try.results16]
          obtain rfl := Option.some.inj h
          refine retW_pure rfl ?_
          simp only [go_sem, Le]
end Go.Proofs.Ytngeldeahafcfaa

namespace Go.Proofs.Ytngeldeahafcfaa
open Go Go.RowKit
set_option maxHeartbeats 2000000
set_option maxRecDepth 100000
set_option linter.unusedSimpArgs false
set_option linter.unusedVariables false
def f_wire_ReadInt (b_0 : List UInt8) : Option (Int × Int × Int) :=
  bindO (f_wire_ReadUint b_0) (fun (v_0 : Int × Int × Int) =>
  some (xorI .i64 (IntKind.i64.wrap (shrI .u64 v_0.1 1)) (IntKind.i64.wrap (0 - (IntKind.i64.wrap (andI .u64 v_0.1 1)))), v_0.2.1, v_0.2.2))
theorem f_wire_ReadInt_ok (b_0 : List UInt8)  (r : Int × Int × Int) (h : f_wire_ReadInt b_0 = some r) : PureS Try.prog 17 [.sl 1 (enc b_0)] 0 (.tup [.v (.int .i64 r.1), .v (.int .i64 r.2.1), .v (.int .i64 r.2.2)]) := by
  unfold PureS
  refine Spec.of_vc Try.func17 rfl (by kernel_rfl) (by kernel_rfl) ?_
  rw [f_wire_ReadInt] at h
  refine vc_seq_gen (by kernel_rfl) ?_
  intro QQ1 hQ1
  simp only [go_sem, Try.ntmps17, Try.results17]
  refine seqQ_normal hQ1 ?_
  refine vc_seq_gen (by kernel_rfl) ?_
  intro QQ2 hQ2
  obtain ⟨v_0, ev_0, h⟩ := bindO_some h
  simp only [go_sem, Try.ntmps17, Try.results17]
  refine call0 (f_wire_ReadUint_ok b_0 v_0 ev_0) (by rfl) (by rfl) ?_
  simp only [go_sem, Try.ntmps17, Try.results17]
  refine seqQ_normal hQ2 ?_
  refine vc_seq_gen (by kernel_rfl) ?_
  intro QQ3 hQ3
  simp only [go_sem, Try.ntmps17, Try.results17]
  refine seqQ_normal hQ3 ?_
  refine vc_ret_of ?_
  simp only [go_sem, Try.ntmps17, Try.results17]
  obtain rfl := Option.some.inj h
  refine retW_pure rfl ?_
  simp only [go_sem, Le]
end Go.Proofs.Ytngeldeahafcfaa

namespace Go.Proofs.Ytngeldeahafcfaa
open Go Go.RowKit
set_option maxHeartbeats 2000000
set_option maxRecDepth 100000
set_option linter.unusedSimpArgs false
set_option linter.unusedVariables false
def f_backwashref06_ReadInt (b_0 : List UInt8) : Option (Int × Int × Int) :=
  bindO (f_backwashref06_ReadUint b_0) (fun (v_0 : Int × Int × Int) =>
  (if ((Int.tmod v_0.1 2) == 1) = true then some (IntKind.i64.wrap ((IntKind.i64.wrap (0 - (IntKind.i64.wrap (IntKind.u64.wrap (Int.tdiv v_0.1 2))))) - 1), v_0.2.1, v_0.2.2)
  else some (IntKind.i64.wrap (IntKind.u64.wrap (Int.tdiv v_0.1 2)), v_0.2.1, v_0.2.2)))
theorem f_backwashref06_ReadInt_ok (b_0 : List UInt8)  (r : Int × Int × Int) (h : f_backwashref06_ReadInt b_0 = some r) : PureS Try.prog 18 [.sl 1 (enc b_0)] 0 (.tup [.v (.int .i64 r.1), .v (.int .i64 r.2.1), .v (.int .i64 r.2.2)]) := by
  unfold PureS
  refine Spec.of_vc Try.func18 rfl (by kernel_rfl) (by kernel_rfl) ?_
  rw [f_backwashref06_ReadInt] at h
  refine vc_seq_gen (by kernel_rfl) ?_
  intro QQ1 hQ1
  simp only [go_sem, Try.ntmps18, Try.results18]
  refine seqQ_normal hQ1 ?_
  refine vc_seq_gen (by kernel_rfl) ?_
  intro QQ2 hQ2
  obtain ⟨v_0, ev_0, h⟩ := bindO_some h
  simp only [go_sem, Try.ntmps18, Try.results18]
  refine call0 (f_backwashref06_ReadUint_ok b_0 v_0 ev_0) (by rfl) (by rfl) ?_
  simp only [go_sem, Try.ntmps18, Try.results18]
  refine seqQ_normal hQ2 ?_
  refine vc_seq_gen (by kernel_rfl) ?_
  intro QQ3 hQ3
  refine vc_seq_gen (by kernel_rfl) ?_
  intro QQ4 hQ4
  simp only [go_sem, Try.ntmps18, Try.results18]
  refine seqQ_normal hQ4 ?_
  refine vc_cond_of (b := ((Int.tmod v_0.1 2) == 1)) (by (simp only [go_sem]; done)) (fun hb_0 => ?_) (fun hb_0 => ?_)
  ·
    replace h := if_t h hb_0
    simp only [decide_eq_true_eq, decide_eq_false_iff_not, Bool.not_eq_true', Bool.not_eq_false', beq_iff_eq, beq_eq_false_iff_ne, ne_eq, Bool.and_eq_true, Bool.or_eq_true, Int.not_lt, Int.not_le] at hb_0
    refine vc_seq_gen (by kernel_rfl) ?_
    intro QQ5 hQ5
    simp only [go_sem, Try.ntmps18, Try.results18]
    refine seqQ_normal hQ5 ?_
    refine vc_ret_of ?_
    refine seqQ_ret hQ3 ?_
    simp only [go_sem, Try.ntmps18, Try.results18]
    obtain rfl := Option.some.inj h
    refine retW_pure rfl ?_
    simp only [go_sem, Le]
  ·
    replace h := if_f h hb_0
    simp only [decide_eq_true_eq, decide_eq_false_iff_not, Bool.not_eq_true', Bool.not_eq_false', beq_iff_eq, beq_eq_false_iff_ne, ne_eq, Bool.and_eq_true, Bool.or_eq_true, Int.not_lt, Int.not_le] at hb_0
    refine vc_skip_of ?_
    refine seqQ_normal hQ3 ?_
    refine vc_seq_gen (by kernel_rfl) ?_
    intro QQ6 hQ6
    simp only [go_sem, Try.ntmps18, Try.results18]
    refine seqQ_normal hQ6 ?_
    refine vc_ret_of ?_
    simp only [go_sem, Try.ntmps18, Try.results18]
    obtain rfl := Option.some.inj h
    refine retW_pure rfl ?_
    simp only [go_sem, Le]
end Go.Proofs.Ytngeldeahafcfaa

namespace Go.Proofs.Ytngeldeahafcfaa
open Go Go.RowKit
set_option maxHeartbeats 2000000
set_option maxRecDepth 100000
set_option linter.unusedSimpArgs false
set_option linter.unusedVariables false
def f_wire_Uint_B1  (rec_1 : Int × (List UInt8) → Option (List UInt8)) : Int × (List UInt8) → Option (List UInt8) :=
  fun (nv_2, a_1) =>
  (if (decide (128 ≤ nv_2)) = true then guardO (0 ≤ (orI .u8 (IntKind.u8.wrap nv_2) 128) ∧ (orI .u8 (IntKind.u8.wrap nv_2) 128) < 256) (
  guardO ((List.length a_1 + List.length ([toB (orI .u8 (IntKind.u8.wrap nv_2) 128)] : List UInt8)) * 1 ≤ 140737488355328) (
  rec_1 (shrI .u64 nv_2 7, (a_1 ++ ([toB (orI .u8 (IntKind.u8.wrap nv_2) 128)] : List UInt8)))))
  else guardO (0 ≤ (IntKind.u8.wrap nv_2) ∧ (IntKind.u8.wrap nv_2) < 256) (
  guardO ((List.length a_1 + List.length ([toB (IntKind.u8.wrap nv_2)] : List UInt8)) * 1 ≤ 140737488355328) (
  some (a_1 ++ ([toB (IntKind.u8.wrap nv_2)] : List UInt8)))))
def f_wire_Uint (b_0 : List UInt8) (nv_0 : Int) : Option (List UInt8) :=
  guardO ((List.length ([] : List UInt8) + List.length b_0) * 1 ≤ 140737488355328) (
  loopK (f_wire_Uint_B1) rounds (nv_0, (([] : List UInt8) ++ b_0)))
theorem f_wire_Uint_own (b_0 : List UInt8) (nv_0 : Int)  (r : List UInt8) (h : f_wire_Uint b_0 nv_0 = some r) : OwnS Try.prog 20 [.sl 1 (enc b_0), .v (.int .u64 nv_0)] 0 1 (enc r) := by
  unfold OwnS
  refine Spec.of_vc Try.func20 rfl (by kernel_rfl) (by kernel_rfl) ?_
  rw [f_wire_Uint] at h
  refine vc_seq_gen (by kernel_rfl) ?_
  intro QQ1 hQ1
  simp only [go_sem, Try.ntmps20, Try.results20]
  refine seqQ_normal hQ1 ?_
  refine vc_seq_gen (by kernel_rfl) ?_
  intro QQ2 hQ2
  obtain ⟨g_0, h⟩ := guardO_some h
  simp only [List.length_cons, List.length_nil, Nat.zero_add, List.length_append] at g_0
  have rf_0 : enc ([] : List UInt8) ++ enc b_0 = enc (([] : List UInt8) ++ b_0) := by exact (enc_app ([] : List UInt8) b_0).symm
  simp only [go_sem, Try.ntmps20, Try.results20, g_0, rf_0]
  refine seqQ_normal hQ2 ?_
  refine vc_join (by kernel_rfl) ?_
  refine seq_go_gen ?_
  intro QQ3 hQ3
  refine vc_block_gen ?_
  intro QQ4 hQ4
  refine vc_loop_of ?_
  refine loop_gen (ι := Nat × Int × (List UInt8)) (fun ((_, nv_2, a_1) : Nat × Int × (List UInt8)) => (⟨0, [(1, .v (.int .u64 nv_2)), (5, .osl 0 1 (0) (List.length a_1))], [(0, .arr 1 (enc a_1))], 1, 24⟩ : St)) (fun ((n_, nv_2, a_1) : Nat × Int × (List UInt8)) => loopK (f_wire_Uint_B1) n_ (nv_2, a_1) = some r) (fun p => p.1) (rounds, nv_0, (([] : List UInt8) ++ b_0)) [some 1] ?_ h ?_
  · simp only [go_sem, Le]
  · rintro ⟨n_1, nv_2, a_1⟩ h QQ5 hQ5
    dsimp only at h
    replace h := loopK_some h
    obtain ⟨m_1, rfl, h⟩ := h
    rw [f_wire_Uint_B1] at h
    refine vc_seq_gen (by kernel_rfl) ?_
    intro QQ6 hQ6
    refine vc_seq_gen (by kernel_rfl) ?_
    intro QQ7 hQ7
    simp only [go_sem, Try.ntmps20, Try.results20]
    refine seqQ_normal hQ7 ?_
    refine vc_cond_of (b := (decide (128 ≤ nv_2))) (by (simp only [go_sem]; done)) (fun hb_2 => ?_) (fun hb_2 => ?_)
    ·
      replace h := if_t h hb_2
      simp only [decide_eq_true_eq, decide_eq_false_iff_not, Bool.not_eq_true', Bool.not_eq_false', beq_iff_eq, beq_eq_false_iff_ne, ne_eq, Bool.and_eq_true, Bool.or_eq_true, Int.not_lt, Int.not_le] at hb_2
      refine vc_skip_of ?_
      refine seqQ_normal hQ6 ?_
      refine vc_block_gen ?_
      intro QQ8 hQ8
      refine vc_seq_gen (by kernel_rfl) ?_
      intro QQ9 hQ9
      obtain ⟨g_9, h⟩ := guardO_some h
      have rf_9 : [[.v (.int .u8 (orI .u8 (IntKind.u8.wrap nv_2) 128))]] = enc ([toB (orI .u8 (IntKind.u8.wrap nv_2) 128)] : List UInt8) := by simp [enc, row_int, row_bool, row_u8, row_list, sz_int, sz_bool, sz_u8, sz_list, toB_nat _ g_9]
      obtain ⟨g_10, h⟩ := guardO_some h
      simp only [List.length_cons, List.length_nil, Nat.zero_add, List.length_append] at g_10
      have rf_10 : enc a_1 ++ [[.v (.int .u8 (orI .u8 (IntKind.u8.wrap nv_2) 128))]] = enc (a_1 ++ ([toB (orI .u8 (IntKind.u8.wrap nv_2) 128)] : List UInt8)) := by (rw [rf_9]; exact (enc_app a_1 ([toB (orI .u8 (IntKind.u8.wrap nv_2) 128)] : List UInt8)).symm)
      simp only [go_sem, Try.ntmps20, Try.results20, g_9, g_10, rf_10]
      simp only [rf_9]
      refine seqQ_normal hQ9 ?_
      simp only [go_sem, Try.ntmps20, Try.results20]
      refine blockQ_normal hQ8 ?_
      refine thenQ_normal hQ5 ?_
      refine ⟨(m_1, shrI .u64 nv_2 7, (a_1 ++ ([toB (orI .u8 (IntKind.u8.wrap nv_2) 128)] : List UInt8))), [some 2], ?_, h, Nat.lt_succ_self _⟩
      simp only [go_sem, Le] <;> (repeat' apply And.intro) <;> (simp [go_sem]; done)
    ·
      replace h := if_f h hb_2
      simp only [decide_eq_true_eq, decide_eq_false_iff_not, Bool.not_eq_true', Bool.not_eq_false', beq_iff_eq, beq_eq_false_iff_ne, ne_eq, Bool.and_eq_true, Bool.or_eq_true, Int.not_lt, Int.not_le] at hb_2
      refine vc_exit_of ?_
      refine seqQ_exit hQ6 ?_
      refine thenQ_exit hQ5 ?_
      refine blockQ_exit hQ4 ?_
      refine seqQ_normal hQ3 ?_
      refine vc_seq_gen (by kernel_rfl) ?_
      intro QQ10 hQ10
      obtain ⟨g_11, h⟩ := guardO_some h
      have rf_11 : [[.v (.int .u8 (IntKind.u8.wrap nv_2))]] = enc ([toB (IntKind.u8.wrap nv_2)] : List UInt8) := by simp [enc, row_int, row_bool, row_u8, row_list, sz_int, sz_bool, sz_u8, sz_list, toB_nat _ g_11]
      obtain ⟨g_12, h⟩ := guardO_some h
      simp only [List.length_cons, List.length_nil, Nat.zero_add, List.length_append] at g_12
      have rf_12 : enc a_1 ++ [[.v (.int .u8 (IntKind.u8.wrap nv_2))]] = enc (a_1 ++ ([toB (IntKind.u8.wrap nv_2)] : List UInt8)) := by (rw [rf_11]; exact (enc_app a_1 ([toB (IntKind.u8.wrap nv_2)] : List UInt8)).symm)
      simp only [go_sem, Try.ntmps20, Try.results20, g_11, g_12, rf_12]
      simp only [rf_11]
      refine seqQ_normal hQ10 ?_
      refine vc_ret_of ?_
      simp only [go_sem, Try.ntmps20, Try.results20]
      obtain rfl := Option.some.inj h
      refine retW_own (i := 2) ?_ ?_
      · simp only [go_sem, Le]
      · simp [enc_len]
theorem f_wire_Uint_ok (b_0 : List UInt8) (nv_0 : Int)  (r : List UInt8) (h : f_wire_Uint b_0 nv_0 = some r) : PureS Try.prog 20 [.sl 1 (enc b_0), .v (.int .u64 nv_0)] 0 (.sl 1 (enc r)) := (f_wire_Uint_own b_0 nv_0  r h).pure
end Go.Proofs.Ytngeldeahafcfaa

namespace Go.Proofs.Ytngeldeahafcfaa
open Go Go.RowKit
set_option maxHeartbeats 2000000
set_option maxRecDepth 100000
set_option linter.unusedSimpArgs false
set_option linter.unusedVariables false
def f_backwashref06_Uint_B1  (rec_1 : Int × (List UInt8) → Option (List UInt8)) : Int × (List UInt8) → Option (List UInt8) :=
  fun (nv_2, a_1) =>
  (if ((IntKind.u64.wrap (Int.tdiv nv_2 128)) == 0) = true then guardO (0 ≤ (IntKind.u8.wrap (Int.tmod nv_2 128)) ∧ (IntKind.u8.wrap (Int.tmod nv_2 128)) < 256) (
  guardO ((List.length a_1 + List.length ([toB (IntKind.u8.wrap (Int.tmod nv_2 128))] : List UInt8)) * 1 ≤ 140737488355328) (
  some (a_1 ++ ([toB (IntKind.u8.wrap (Int.tmod nv_2 128))] : List UInt8))))
  else guardO (0 ≤ (IntKind.u8.wrap ((IntKind.u8.wrap (Int.tmod nv_2 128)) + 128)) ∧ (IntKind.u8.wrap ((IntKind.u8.wrap (Int.tmod nv_2 128)) + 128)) < 256) (
  guardO ((List.length a_1 + List.length ([toB (IntKind.u8.wrap ((IntKind.u8.wrap (Int.tmod nv_2 128)) + 128))] : List UInt8)) * 1 ≤ 140737488355328) (
  rec_1 (IntKind.u64.wrap (Int.tdiv nv_2 128), (a_1 ++ ([toB (IntKind.u8.wrap ((IntKind.u8.wrap (Int.tmod nv_2 128)) + 128))] : List UInt8))))))
def f_backwashref06_Uint (b_0 : List UInt8) (nv_0 : Int) : Option (List UInt8) :=
  guardO ((List.length ([] : List UInt8) + List.length b_0) * 1 ≤ 140737488355328) (
  loopK (f_backwashref06_Uint_B1) rounds (nv_0, (([] : List UInt8) ++ b_0)))
theorem f_backwashref06_Uint_own (b_0 : List UInt8) (nv_0 : Int)  (r : List UInt8) (h : f_backwashref06_Uint b_0 nv_0 = some r) : OwnS Try.prog 21 [.sl 1 (enc b_0), .v (.int .u64 nv_0)] 0 1 (enc r) := by
  unfold OwnS
  refine Spec.of_vc Try.func21 rfl (by kernel_rfl) (by kernel_rfl) ?_
  rw [f_backwashref06_Uint] at h
  refine vc_seq_gen (by kernel_rfl) ?_
  intro QQ1 hQ1
  simp only [go_sem, Try.ntmps21, Try.results21]
  refine seqQ_normal hQ1 ?_
  refine vc_seq_gen (by kernel_rfl) ?_
  intro QQ2 hQ2
  obtain ⟨g_0, h⟩ := guardO_some h
  simp only [List.length_cons, List.length_nil, Nat.zero_add, List.length_append] at g_0
  have rf_0 : enc ([] : List UInt8) ++ enc b_0 = enc (([] : List UInt8) ++ b_0) := by exact (enc_app ([] : List UInt8) b_0).symm
  simp only [go_sem, Try.ntmps21, Try.results21, g_0, rf_0]
  refine seqQ_normal hQ2 ?_
  refine vc_block_gen ?_
  intro QQ3 hQ3
  refine vc_loop_of ?_
  refine loop_gen (ι := Nat × Int × (List UInt8)) (fun ((_, nv_2, a_1) : Nat × Int × (List UInt8)) => (⟨0, [(1, .v (.int .u64 nv_2)), (5, .osl 0 1 (0) (List.length a_1))], [(0, .arr 1 (enc a_1))], 1, 26⟩ : St)) (fun ((n_, nv_2, a_1) : Nat × Int × (List UInt8)) => loopK (f_backwashref06_Uint_B1) n_ (nv_2, a_1) = some r) (fun p => p.1) (rounds, nv_0, (([] : List UInt8) ++ b_0)) [some 1] ?_ h ?_
  · simp only [go_sem, Le]
  · rintro ⟨n_1, nv_2, a_1⟩ h QQ4 hQ4
    dsimp only at h
    replace h := loopK_some h
    obtain ⟨m_1, rfl, h⟩ := h
    rw [f_backwashref06_Uint_B1] at h
    refine vc_block_gen ?_
    intro QQ5 hQ5
    refine vc_seq_gen (by kernel_rfl) ?_
    intro QQ6 hQ6
    simp only [go_sem, Try.ntmps21, Try.results21]
    refine seqQ_normal hQ6 ?_
    refine vc_seq_gen (by kernel_rfl) ?_
    intro QQ7 hQ7
    simp only [go_sem, Try.ntmps21, Try.results21]
    refine seqQ_normal hQ7 ?_
    refine vc_seq_gen (by kernel_rfl) ?_
    intro QQ8 hQ8
    refine vc_seq_gen (by kernel_rfl) ?_
    intro QQ9 hQ9
    simp only [go_sem, Try.ntmps21, Try.results21]
    refine seqQ_normal hQ9 ?_
    refine vc_cond_of (b := ((IntKind.u64.wrap (Int.tdiv nv_2 128)) == 0)) (by (simp only [go_sem]; done)) (fun hb_2 => ?_) (fun hb_2 => ?_)
    ·
      replace h := if_t h hb_2
      simp only [decide_eq_true_eq, decide_eq_false_iff_not, Bool.not_eq_true', Bool.not_eq_false', beq_iff_eq, beq_eq_false_iff_ne, ne_eq, Bool.and_eq_true, Bool.or_eq_true, Int.not_lt, Int.not_le] at hb_2
      refine vc_seq_gen (by kernel_rfl) ?_
      intro QQ10 hQ10
      obtain ⟨g_9, h⟩ := guardO_some h
      have rf_9 : [[.v (.int .u8 (IntKind.u8.wrap (Int.tmod nv_2 128)))]] = enc ([toB (IntKind.u8.wrap (Int.tmod nv_2 128))] : List UInt8) := by simp [enc, row_int, row_bool, row_u8, row_list, sz_int, sz_bool, sz_u8, sz_list, toB_nat _ g_9]
      obtain ⟨g_10, h⟩ := guardO_some h
      simp only [List.length_cons, List.length_nil, Nat.zero_add, List.length_append] at g_10
      have rf_10 : enc a_1 ++ [[.v (.int .u8 (IntKind.u8.wrap (Int.tmod nv_2 128)))]] = enc (a_1 ++ ([toB (IntKind.u8.wrap (Int.tmod nv_2 128))] : List UInt8)) := by (rw [rf_9]; exact (enc_app a_1 ([toB (IntKind.u8.wrap (Int.tmod nv_2 128))] : List UInt8)).symm)
      simp only [go_sem, Try.ntmps21, Try.results21, g_9, g_10, rf_10]
      simp only [rf_9]
      refine seqQ_normal hQ10 ?_
      refine vc_ret_of ?_
      refine seqQ_ret hQ8 ?_
      refine blockQ_ret hQ5 ?_
      refine thenQ_ret hQ4 ?_
      refine blockQ_ret hQ3 ?_
      simp only [go_sem, Try.ntmps21, Try.results21]
      obtain rfl := Option.some.inj h
      refine retW_own (i := 2) ?_ ?_
      · simp only [go_sem, Le]
      · simp [enc_len]
    ·
      replace h := if_f h hb_2
      simp only [decide_eq_true_eq, decide_eq_false_iff_not, Bool.not_eq_true', Bool.not_eq_false', beq_iff_eq, beq_eq_false_iff_ne, ne_eq, Bool.and_eq_true, Bool.or_eq_true, Int.not_lt, Int.not_le] at hb_2
      refine vc_skip_of ?_
      refine seqQ_normal hQ8 ?_
      obtain ⟨g_11, h⟩ := guardO_some h
      have rf_11 : [[.v (.int .u8 (IntKind.u8.wrap ((IntKind.u8.wrap (Int.tmod nv_2 128)) + 128)))]] = enc ([toB (IntKind.u8.wrap ((IntKind.u8.wrap (Int.tmod nv_2 128)) + 128))] : List UInt8) := by simp [enc, row_int, row_bool, row_u8, row_list, sz_int, sz_bool, sz_u8, sz_list, toB_nat _ g_11]
      obtain ⟨g_12, h⟩ := guardO_some h
      simp only [List.length_cons, List.length_nil, Nat.zero_add, List.length_append] at g_12
      have rf_12 : enc a_1 ++ [[.v (.int .u8 (IntKind.u8.wrap ((IntKind.u8.wrap (Int.tmod nv_2 128)) + 128)))]] = enc (a_1 ++ ([toB (IntKind.u8.wrap ((IntKind.u8.wrap (Int.tmod nv_2 128)) + 128))] : List UInt8)) := by (rw [rf_11]; exact (enc_app a_1 ([toB (IntKind.u8.wrap ((IntKind.u8.wrap (Int.tmod nv_2 128)) + 128))] : List UInt8)).symm)
      simp only [go_sem, Try.ntmps21, Try.results21, g_11, g_12, rf_12]
      simp only [rf_11]
      refine blockQ_normal hQ5 ?_
      refine thenQ_normal hQ4 ?_
      refine ⟨(m_1, IntKind.u64.wrap (Int.tdiv nv_2 128), (a_1 ++ ([toB (IntKind.u8.wrap ((IntKind.u8.wrap (Int.tmod nv_2 128)) + 128))] : List UInt8))), [some 2], ?_, h, Nat.lt_succ_self _⟩
      simp only [go_sem, Le] <;> (repeat' apply And.intro) <;> (simp [go_sem]; done)
theorem f_backwashref06_Uint_ok (b_0 : List UInt8) (nv_0 : Int)  (r : List UInt8) (h : f_backwashref06_Uint b_0 nv_0 = some r) : PureS Try.prog 21 [.sl 1 (enc b_0), .v (.int .u64 nv_0)] 0 (.sl 1 (enc r)) := (f_backwashref06_Uint_own b_0 nv_0  r h).pure
end Go.Proofs.Ytngeldeahafcfaa

namespace Go.Proofs.Ytngeldeahafcfaa
open Go Go.RowKit
set_option maxHeartbeats 2000000
set_option maxRecDepth 100000
set_option linter.unusedSimpArgs false
set_option linter.unusedVariables false
def f_wire_Int (b_0 : List UInt8) (nv_0 : Int) : Option (List UInt8) :=
  bindO (f_wire_Uint b_0 (xorI .u64 (shlI .u64 (IntKind.u64.wrap nv_0) 1) (IntKind.u64.wrap (shrI .i64 nv_0 63)))) (fun (v_0 : List UInt8) =>
  some v_0)
theorem f_wire_Int_own (b_0 : List UInt8) (nv_0 : Int)  (r : List UInt8) (h : f_wire_Int b_0 nv_0 = some r) : OwnS Try.prog 22 [.sl 1 (enc b_0), .v (.int .i64 nv_0)] 0 1 (enc r) := by
  unfold OwnS
  refine Spec.of_vc Try.func22 rfl (by kernel_rfl) (by kernel_rfl) ?_
  rw [f_wire_Int] at h
  refine vc_seq_gen (by kernel_rfl) ?_
  intro QQ1 hQ1
  simp only [go_sem, Try.ntmps22, Try.results22]
  refine seqQ_normal hQ1 ?_
  refine vc_seq_gen (by kernel_rfl) ?_
  intro QQ2 hQ2
  obtain ⟨v_0, ev_0, h⟩ := bindO_some h
  simp only [go_sem, Try.ntmps22, Try.results22]
  refine callo (f_wire_Uint_own b_0 (xorI .u64 (shlI .u64 (IntKind.u64.wrap nv_0) 1) (IntKind.u64.wrap (shrI .i64 nv_0 63))) v_0 ev_0) (by rfl) (by rfl) ?_
  simp only [go_sem, Try.ntmps22, Try.results22]
  refine seqQ_normal hQ2 ?_
  refine vc_ret_of ?_
  simp only [go_sem, Try.ntmps22, Try.results22]
  obtain rfl := Option.some.inj h
  refine retW_own (i := 0) ?_ ?_
  · simp only [go_sem, Le]
  · simp [enc_len]
theorem f_wire_Int_ok (b_0 : List UInt8) (nv_0 : Int)  (r : List UInt8) (h : f_wire_Int b_0 nv_0 = some r) : PureS Try.prog 22 [.sl 1 (enc b_0), .v (.int .i64 nv_0)] 0 (.sl 1 (enc r)) := (f_wire_Int_own b_0 nv_0  r h).pure
end Go.Proofs.Ytngeldeahafcfaa

namespace Go.Proofs.Ytngeldeahafcfaa
open Go Go.RowKit
set_option maxHeartbeats 2000000
set_option maxRecDepth 100000
set_option linter.unusedSimpArgs false
set_option linter.unusedVariables false
def f_backwashref06_Int (b_0 : List UInt8) (nv_0 : Int) : Option (List UInt8) :=
  (if (decide (0 ≤ nv_0)) = true then bindO (f_backwashref06_Uint b_0 (IntKind.u64.wrap (2 * (IntKind.u64.wrap nv_0)))) (fun (v_0 : List UInt8) =>
  some v_0)
  else bindO (f_backwashref06_Uint b_0 (IntKind.u64.wrap ((IntKind.u64.wrap (2 * (IntKind.u64.wrap (IntKind.i64.wrap (0 - (IntKind.i64.wrap (nv_0 + 1))))))) + 1))) (fun (v_1 : List UInt8) =>
  some v_1))
theorem f_backwashref06_Int_own (b_0 : List UInt8) (nv_0 : Int)  (r : List UInt8) (h : f_backwashref06_Int b_0 nv_0 = some r) : OwnS Try.prog 23 [.sl 1 (enc b_0), .v (.int .i64 nv_0)] 0 1 (enc r) := by
  unfold OwnS
  refine Spec.of_vc Try.func23 rfl (by kernel_rfl) (by kernel_rfl) ?_
  rw [f_backwashref06_Int] at h
  refine vc_seq_gen (by kernel_rfl) ?_
  intro QQ1 hQ1
  simp only [go_sem, Try.ntmps23, Try.results23]
  refine seqQ_normal hQ1 ?_
  refine vc_seq_gen (by kernel_rfl) ?_
  intro QQ2 hQ2
  refine vc_seq_gen (by kernel_rfl) ?_
  intro QQ3 hQ3
  simp only [go_sem, Try.ntmps23, Try.results23]
  refine seqQ_normal hQ3 ?_
  refine vc_cond_of (b := (decide (0 ≤ nv_0))) (by (simp only [go_sem]; done)) (fun hb_0 => ?_) (fun hb_0 => ?_)
  ·
    replace h := if_t h hb_0
    simp only [decide_eq_true_eq, decide_eq_false_iff_not, Bool.not_eq_true', Bool.not_eq_false', beq_iff_eq, beq_eq_false_iff_ne, ne_eq, Bool.and_eq_true, Bool.or_eq_true, Int.not_lt, Int.not_le] at hb_0
    refine vc_seq_gen (by kernel_rfl) ?_
    intro QQ4 hQ4
    obtain ⟨v_0, ev_0, h⟩ := bindO_some h
    simp only [go_sem, Try.ntmps23, Try.results23]
    refine callo (f_backwashref06_Uint_own b_0 (IntKind.u64.wrap (2 * (IntKind.u64.wrap nv_0))) v_0 ev_0) (by rfl) (by rfl) ?_
    simp only [go_sem, Try.ntmps23, Try.results23]
    refine seqQ_normal hQ4 ?_
    refine vc_ret_of ?_
    refine seqQ_ret hQ2 ?_
    simp only [go_sem, Try.ntmps23, Try.results23]
    obtain rfl := Option.some.inj h
    refine retW_own (i := 0) ?_ ?_
    · simp only [go_sem, Le]
    · simp [enc_len]
  ·
    replace h := if_f h hb_0
    simp only [decide_eq_true_eq, decide_eq_false_iff_not, Bool.not_eq_true', Bool.not_eq_false', beq_iff_eq, beq_eq_false_iff_ne, ne_eq, Bool.and_eq_true, Bool.or_eq_true, Int.not_lt, Int.not_le] at hb_0
    refine vc_skip_of ?_
    refine seqQ_normal hQ2 ?_
    refine vc_seq_gen (by kernel_rfl) ?_
    intro QQ5 hQ5
    obtain ⟨v_1, ev_1, h⟩ := bindO_some h
    simp only [go_sem, Try.ntmps23, Try.results23]
    refine callo (f_backwashref06_Uint_own b_0 (IntKind.u64.wrap ((IntKind.u64.wrap (2 * (IntKind.u64.wrap (IntKind.i64.wrap (0 - (IntKind.i64.wrap (nv_0 + 1))))))) + 1)) v_1 ev_1) (by rfl) (by rfl) ?_
    simp only [go_sem, Try.ntmps23, Try.results23]
    refine seqQ_normal hQ5 ?_
    refine vc_ret_of ?_
    simp only [go_sem, Try.ntmps23, Try.results23]
    obtain rfl := Option.some.inj h
    refine retW_own (i := 0) ?_ ?_
    · simp only [go_sem, Le]
    · simp [enc_len]
theorem f_backwashref06_Int_ok (b_0 : List UInt8) (nv_0 : Int)  (r : List UInt8) (h : f_backwashref06_Int b_0 nv_0 = some r) : PureS Try.prog 23 [.sl 1 (enc b_0), .v (.int .i64 nv_0)] 0 (.sl 1 (enc r)) := (f_backwashref06_Int_own b_0 nv_0  r h).pure
end Go.Proofs.Ytngeldeahafcfaa

namespace Go.Proofs.Ytngeldeahafcfaa
open Go Go.RowKit
set_option maxHeartbeats 2000000
set_option maxRecDepth 100000
set_option linter.unusedSimpArgs false
set_option linter.unusedVariables false
def f_backwashref06_Same_B1 (a_0 : List UInt8) (b_0 : List UInt8) (rec_1 : Int → Option Bool) : Int → Option Bool :=
  fun i_1 =>
  (if (decide (i_1 < (List.length a_0 : Int))) = true then bindO (idx a_0 i_1) (fun (xv_4 : UInt8) =>
  bindO (idx b_0 i_1) (fun (xv_5 : UInt8) =>
  (if (!(((UInt8.toNat xv_4 : Nat) : Int) == ((UInt8.toNat xv_5 : Nat) : Int))) = true then some false
  else rec_1 (IntKind.i64.wrap (i_1 + 1)))))
  else some true)
def f_backwashref06_Same (a_0 : List UInt8) (b_0 : List UInt8) : Option Bool :=
  (if (!((List.length a_0 : Int) == (List.length b_0 : Int))) = true then some false
  else loopK (f_backwashref06_Same_B1 a_0 b_0) rounds 0)
theorem f_backwashref06_Same_ok (a_0 : List UInt8) (b_0 : List UInt8)  (r : Bool) (h : f_backwashref06_Same a_0 b_0 = some r) : PureS Try.prog 19 [.sl 1 (enc a_0), .sl 1 (enc b_0)] 0 (.v (.bool r)) := by
  unfold PureS
  refine Spec.of_vc Try.func19 rfl (by kernel_rfl) (by kernel_rfl) ?_
  rw [f_backwashref06_Same] at h
  refine vc_seq_gen (by kernel_rfl) ?_
  intro QQ1 hQ1
  simp only [go_sem, Try.ntmps19, Try.results19]
  refine seqQ_normal hQ1 ?_
  refine vc_seq_gen (by kernel_rfl) ?_
  intro QQ2 hQ2
  refine vc_seq_gen (by kernel_rfl) ?_
  intro QQ3 hQ3
  simp only [go_sem, Try.ntmps19, Try.results19]
  refine seqQ_normal hQ3 ?_
  refine vc_cond_of (b := (!((List.length a_0 : Int) == (List.length b_0 : Int)))) (by (simp only [go_sem]; done)) (fun hb_0 => ?_) (fun hb_0 => ?_)
  ·
    replace h := if_t h hb_0
    simp only [decide_eq_true_eq, decide_eq_false_iff_not, Bool.not_eq_true', Bool.not_eq_false', beq_iff_eq, beq_eq_false_iff_ne, ne_eq, Bool.and_eq_true, Bool.or_eq_true, Int.not_lt, Int.not_le] at hb_0
    refine vc_seq_gen (by kernel_rfl) ?_
    intro QQ4 hQ4
    simp only [go_sem, Try.ntmps19, Try.results19]
    refine seqQ_normal hQ4 ?_
    refine vc_ret_of ?_
    refine seqQ_ret hQ2 ?_
    simp only [go_sem, Try.ntmps19, Try.results19]
    obtain rfl := Option.some.inj h
    refine retW_pure rfl ?_
    simp only [go_sem, Le]
  ·
    replace h := if_f h hb_0
    simp only [decide_eq_true_eq, decide_eq_false_iff_not, Bool.not_eq_true', Bool.not_eq_false', beq_iff_eq, beq_eq_false_iff_ne, ne_eq, Bool.and_eq_true, Bool.or_eq_true, Int.not_lt, Int.not_le] at hb_0
    refine vc_skip_of ?_
    refine seqQ_normal hQ2 ?_
    refine vc_join (by kernel_rfl) ?_
    refine seq_go_gen ?_
    intro QQ5 hQ5
    refine vc_seq_gen (by kernel_rfl) ?_
    intro QQ6 hQ6
    simp only [go_sem, Try.ntmps19, Try.results19]
    refine seqQ_normal hQ6 ?_
    refine vc_block_gen ?_
    intro QQ7 hQ7
    refine vc_loop_of ?_
    refine loop_gen (ι := Nat × Int) (fun ((_, i_1) : Nat × Int) => (⟨0, [(0, .sl 1 (enc a_0)), (1, .sl 1 (enc b_0)), (5, .v (.int .i64 i_1))], [], 0, 26⟩ : St)) (fun ((n_, i_1) : Nat × Int) => loopK (f_backwashref06_Same_B1 a_0 b_0) n_ i_1 = some r) (fun p => p.1) (rounds, 0) [] ?_ h ?_
    · simp only [go_sem, Le]
    · rintro ⟨n_1, i_1⟩ h QQ8 hQ8
      dsimp only at h
      replace h := loopK_some h
      obtain ⟨m_1, rfl, h⟩ := h
      rw [f_backwashref06_Same_B1] at h
      refine vc_seq_gen (by kernel_rfl) ?_
      intro QQ9 hQ9
      refine vc_seq_gen (by kernel_rfl) ?_
      intro QQ10 hQ10
      simp only [go_sem, Try.ntmps19, Try.results19]
      refine seqQ_normal hQ10 ?_
      refine vc_cond_of (b := (decide (i_1 < (List.length a_0 : Int)))) (by (simp only [go_sem]; done)) (fun hb_5 => ?_) (fun hb_5 => ?_)
      ·
        replace h := if_t h hb_5
        simp only [decide_eq_true_eq, decide_eq_false_iff_not, Bool.not_eq_true', Bool.not_eq_false', beq_iff_eq, beq_eq_false_iff_ne, ne_eq, Bool.and_eq_true, Bool.or_eq_true, Int.not_lt, Int.not_le] at hb_5
        refine vc_skip_of ?_
        refine seqQ_normal hQ9 ?_
        refine vc_seq_gen (by kernel_rfl) ?_
        intro QQ11 hQ11
        refine vc_block_gen ?_
        intro QQ12 hQ12
        refine vc_seq_gen (by kernel_rfl) ?_
        intro QQ13 hQ13
        refine vc_draw ?_
        refine drawM_tail 8 [0, 0, 3, 7, 0, 0, 48, 112, 255] mixed (by kernel_rfl) (of_decide_eq_true (by kernel_rfl)) (by kernel_rfl) ?_
        obtain ⟨xv_4, exv_4, h⟩ := bindO_some h
        obtain ⟨fxv_4a, fxv_4b, fxv_4c⟩ := idx_spec exv_4
        obtain ⟨xv_5, exv_5, h⟩ := bindO_some h
        obtain ⟨fxv_5a, fxv_5b, fxv_5c⟩ := idx_spec exv_5
        simp only [go_sem, Try.ntmps19, Try.results19, fxv_4a, fxv_4b, fxv_4c, fxv_5a, fxv_5b, fxv_5c]
        refine And.intro (by omega) ?_
        refine And.intro (by omega) ?_
        refine seqQ_normal hQ13 ?_
        refine vc_cond_of (b := (!(((UInt8.toNat xv_4 : Nat) : Int) == ((UInt8.toNat xv_5 : Nat) : Int)))) (by (simp only [go_sem]; done)) (fun hb_6 => ?_) (fun hb_6 => ?_)
        ·
          replace h := if_t h hb_6
          simp only [decide_eq_true_eq, decide_eq_false_iff_not, Bool.not_eq_true', Bool.not_eq_false', beq_iff_eq, beq_eq_false_iff_ne, ne_eq, Bool.and_eq_true, Bool.or_eq_true, Int.not_lt, Int.not_le] at hb_6
          refine vc_seq_gen (by kernel_rfl) ?_
          intro QQ14 hQ14
          simp only [go_sem, Try.ntmps19, Try.results19]
          refine seqQ_normal hQ14 ?_
          refine vc_ret_of ?_
          refine blockQ_ret hQ12 ?_
          refine seqQ_ret hQ11 ?_
          refine thenQ_ret hQ8 ?_
          refine blockQ_ret hQ7 ?_
          refine seqQ_ret hQ5 ?_
          simp only [go_sem, Try.ntmps19, Try.results19]
          obtain rfl := Option.some.inj h
          refine retW_pure rfl ?_
          simp only [go_sem, Le]
        ·
          replace h := if_f h hb_6
          simp only [decide_eq_true_eq, decide_eq_false_iff_not, Bool.not_eq_true', Bool.not_eq_false', beq_iff_eq, beq_eq_false_iff_ne, ne_eq, Bool.and_eq_true, Bool.or_eq_true, Int.not_lt, Int.not_le] at hb_6
          refine vc_skip_of ?_
          refine blockQ_normal hQ12 ?_
          refine seqQ_normal hQ11 ?_
          simp only [go_sem, Try.ntmps19, Try.results19]
          refine thenQ_normal hQ8 ?_
          refine ⟨(m_1, IntKind.i64.wrap (i_1 + 1)), [], ?_, h, Nat.lt_succ_self _⟩
          simp only [go_sem, Le]
      ·
        replace h := if_f h hb_5
        simp only [decide_eq_true_eq, decide_eq_false_iff_not, Bool.not_eq_true', Bool.not_eq_false', beq_iff_eq, beq_eq_false_iff_ne, ne_eq, Bool.and_eq_true, Bool.or_eq_true, Int.not_lt, Int.not_le] at hb_5
        refine vc_exit_of ?_
        refine seqQ_exit hQ9 ?_
        refine thenQ_exit hQ8 ?_
        refine blockQ_exit hQ7 ?_
        refine seqQ_normal hQ5 ?_
        refine vc_seq_gen (by kernel_rfl) ?_
        intro QQ15 hQ15
        simp only [go_sem, Try.ntmps19, Try.results19]
        refine seqQ_normal hQ15 ?_
        refine vc_ret_of ?_
        simp only [go_sem, Try.ntmps19, Try.results19]
        obtain rfl := Option.some.inj h
        refine retW_pure rfl ?_
        simp only [go_sem, Le]
end Go.Proofs.Ytngeldeahafcfaa

namespace Go.Proofs.Ytngeldeahafcfaa
open Go Go.RowKit
set_option maxHeartbeats 2000000
set_option maxRecDepth 100000
set_option linter.unusedSimpArgs false
set_option linter.unusedVariables false
def f_graph_begins (b_0 : List UInt8) : Option Int :=
  (if (decide (8192 < (List.length b_0 : Int))) = true then some 11
  else guardO (0 ≤ 0 ∧ 0 ≤ (min (List.length b_0 : Int) 3) ∧ (min (List.length b_0 : Int) 3) ≤ (List.length b_0 : Int)) (
  guardO (0 ≤ 0 ∧ 0 ≤ (min (List.length b_0 : Int) 3) ∧ (min (List.length b_0 : Int) 3) ≤ (List.length ([66, 87, 49] : List UInt8) : Int)) (
  (if (!((List.take (Int.toNat (min (List.length b_0 : Int) 3)) b_0) == (List.drop (Int.toNat 0) (List.take (Int.toNat (min (List.length b_0 : Int) 3)) ([66, 87, 49] : List UInt8))))) = true then some 4
  else (if (decide ((min (List.length b_0 : Int) 3) < 3)) = true then some 3
  else some 0)))))
theorem f_graph_begins_ok (b_0 : List UInt8)  (r : Int) (h : f_graph_begins b_0 = some r) : PureS Try.prog 44 [.sl 1 (enc b_0)] 0 (.v (.int .i64 r)) := by
  unfold PureS
  refine Spec.of_vc Try.func44 rfl (by kernel_rfl) (by kernel_rfl) ?_
  rw [f_graph_begins] at h
  refine vc_seq_gen (by kernel_rfl) ?_
  intro QQ1 hQ1
  simp only [go_sem, Try.ntmps44, Try.results44]
  refine seqQ_normal hQ1 ?_
  refine vc_seq_gen (by kernel_rfl) ?_
  intro QQ2 hQ2
  simp only [go_sem, Try.ntmps44, Try.results44]
  refine seqQ_normal hQ2 ?_
  refine vc_seq_gen (by kernel_rfl) ?_
  intro QQ3 hQ3
  refine vc_block_gen ?_
  intro QQ4 hQ4
  refine vc_seq_gen (by kernel_rfl) ?_
  intro QQ5 hQ5
  simp only [go_sem, Try.ntmps44, Try.results44]
  refine seqQ_normal hQ5 ?_
  refine vc_cond_of (b := (decide (8192 < (List.length b_0 : Int)))) (by (simp only [go_sem]; done)) (fun hb_0 => ?_) (fun hb_0 => ?_)
  ·
    replace h := if_t h hb_0
    simp only [decide_eq_true_eq, decide_eq_false_iff_not, Bool.not_eq_true', Bool.not_eq_false', beq_iff_eq, beq_eq_false_iff_ne, ne_eq, Bool.and_eq_true, Bool.or_eq_true, Int.not_lt, Int.not_le] at hb_0
    refine vc_seq_gen (by kernel_rfl) ?_
    intro QQ6 hQ6
    simp only [go_sem, Try.ntmps44, Try.results44]
    refine seqQ_normal hQ6 ?_
    refine vc_ret_of ?_
    refine blockQ_ret hQ4 ?_
    refine seqQ_ret hQ3 ?_
    simp only [go_sem, Try.ntmps44, Try.results44]
    obtain rfl := Option.some.inj h
    refine retW_pure rfl ?_
    simp only [go_sem, Le]
  ·
    replace h := if_f h hb_0
    simp only [decide_eq_true_eq, decide_eq_false_iff_not, Bool.not_eq_true', Bool.not_eq_false', beq_iff_eq, beq_eq_false_iff_ne, ne_eq, Bool.and_eq_true, Bool.or_eq_true, Int.not_lt, Int.not_le] at hb_0
    refine vc_seq_gen (by kernel_rfl) ?_
    intro QQ7 hQ7
    refine vc_draw ?_
    refine drawM_tail 6 [0, 0, 3, 7, 0, 16, 63, 127] mixed (by kernel_rfl) (of_decide_eq_true (by kernel_rfl)) (by kernel_rfl) ?_
    obtain ⟨g_0, h⟩ := guardO_some h
    obtain ⟨g_1, h⟩ := guardO_some h
    simp only [go_sem, Try.ntmps44, Try.results44, g_0, g_1]
    refine And.intro (by omega) ?_
    refine seqQ_normal hQ7 ?_
    refine vc_cond_of (b := (!((List.take (Int.toNat (min (List.length b_0 : Int) 3)) b_0) == (List.drop (Int.toNat 0) (List.take (Int.toNat (min (List.length b_0 : Int) 3)) ([66, 87, 49] : List UInt8)))))) (by (simp only [go_sem]; done)) (fun hb_1 => ?_) (fun hb_1 => ?_)
    ·
      replace h := if_t h hb_1
      simp only [decide_eq_true_eq, decide_eq_false_iff_not, Bool.not_eq_true', Bool.not_eq_false', beq_iff_eq, beq_eq_false_iff_ne, ne_eq, Bool.and_eq_true, Bool.or_eq_true, Int.not_lt, Int.not_le] at hb_1
      refine vc_seq_gen (by kernel_rfl) ?_
      intro QQ8 hQ8
      simp only [go_sem, Try.ntmps44, Try.results44]
      refine seqQ_normal hQ8 ?_
      refine vc_ret_of ?_
      refine blockQ_ret hQ4 ?_
      refine seqQ_ret hQ3 ?_
      simp only [go_sem, Try.ntmps44, Try.results44]
      obtain rfl := Option.some.inj h
      refine retW_pure rfl ?_
      simp only [go_sem, Le]
    ·
      replace h := if_f h hb_1
      simp only [decide_eq_true_eq, decide_eq_false_iff_not, Bool.not_eq_true', Bool.not_eq_false', beq_iff_eq, beq_eq_false_iff_ne, ne_eq, Bool.and_eq_true, Bool.or_eq_true, Int.not_lt, Int.not_le] at hb_1
      refine vc_seq_gen (by kernel_rfl) ?_
      intro QQ9 hQ9
      simp only [go_sem, Try.ntmps44, Try.results44]
      refine seqQ_normal hQ9 ?_
      refine vc_cond_of (b := (decide ((min (List.length b_0 : Int) 3) < 3))) (by (simp only [go_sem]; done)) (fun hb_2 => ?_) (fun hb_2 => ?_)
      ·
        replace h := if_t h hb_2
        simp only [decide_eq_true_eq, decide_eq_false_iff_not, Bool.not_eq_true', Bool.not_eq_false', beq_iff_eq, beq_eq_false_iff_ne, ne_eq, Bool.and_eq_true, Bool.or_eq_true, Int.not_lt, Int.not_le] at hb_2
        refine vc_seq_gen (by kernel_rfl) ?_
        intro QQ10 hQ10
        simp only [go_sem, Try.ntmps44, Try.results44]
        refine seqQ_normal hQ10 ?_
        refine vc_ret_of ?_
        refine blockQ_ret hQ4 ?_
        refine seqQ_ret hQ3 ?_
        simp only [go_sem, Try.ntmps44, Try.results44]
        obtain rfl := Option.some.inj h
        refine retW_pure rfl ?_
        simp only [go_sem, Le]
      ·
        replace h := if_f h hb_2
        simp only [decide_eq_true_eq, decide_eq_false_iff_not, Bool.not_eq_true', Bool.not_eq_false', beq_iff_eq, beq_eq_false_iff_ne, ne_eq, Bool.and_eq_true, Bool.or_eq_true, Int.not_lt, Int.not_le] at hb_2
        refine vc_skip_of ?_
        refine blockQ_normal hQ4 ?_
        refine seqQ_normal hQ3 ?_
        refine vc_seq_gen (by kernel_rfl) ?_
        intro QQ11 hQ11
        simp only [go_sem, Try.ntmps44, Try.results44]
        refine seqQ_normal hQ11 ?_
        refine vc_ret_of ?_
        simp only [go_sem, Try.ntmps44, Try.results44]
        obtain rfl := Option.some.inj h
        refine retW_pure rfl ?_
        simp only [go_sem, Le]
end Go.Proofs.Ytngeldeahafcfaa

namespace Go.Proofs.Ytngeldeahafcfaa
open Go Go.RowKit
set_option maxHeartbeats 2000000
set_option maxRecDepth 100000
set_option linter.unusedSimpArgs false
set_option linter.unusedVariables false
def f_graph_reader_uint (rv_0 : GGraph_reader) : Option (Int × GGraph_reader) :=
  (if (!(rv_0.e == 0)) = true then some (0, rv_0)
  else bindO (f_wire_ReadUint rv_0.b) (fun (v_0 : Int × Int × Int) =>
  guardO (0 ≤ v_0.2.1 ∧ v_0.2.1 ≤ (List.length rv_0.b : Int) ∧ (List.length rv_0.b : Int) ≤ (List.length rv_0.b : Int)) (
  some (v_0.1, (⟨List.drop (Int.toNat v_0.2.1) (List.take (List.length rv_0.b) rv_0.b), v_0.2.2⟩ : GGraph_reader)))))
theorem f_graph_reader_uint_ok (rv_0 : GGraph_reader)  (r : Int × GGraph_reader) (h : f_graph_reader_uint rv_0 = some r) : MutS Try.prog 77 (fun i_ => [.ptr i_ 0]) [.sl 1 (enc rv_0.b), .v (.int .i64 rv_0.e)] (.v (.int .u64 r.1)) [.sl 1 (enc r.2.b), .v (.int .i64 r.2.e)] := by
  unfold MutS; dsimp only
  refine Spec.of_vc Try.func77 rfl (by kernel_rfl) (by kernel_rfl) ?_
  rw [f_graph_reader_uint] at h
  refine vc_seq_gen (by kernel_rfl) ?_
  intro QQ1 hQ1
  simp only [go_sem, Try.ntmps77, Try.results77]
  refine seqQ_normal hQ1 ?_
  refine vc_seq_gen (by kernel_rfl) ?_
  intro QQ2 hQ2
  refine vc_seq_gen (by kernel_rfl) ?_
  intro QQ3 hQ3
  simp only [go_sem, Try.ntmps77, Try.results77]
  refine seqQ_normal hQ3 ?_
  refine vc_cond_of (b := (!(rv_0.e == 0))) (by (simp only [go_sem]; done)) (fun hb_0 => ?_) (fun hb_0 => ?_)
  ·
    replace h := if_t h hb_0
    simp only [decide_eq_true_eq, decide_eq_false_iff_not, Bool.not_eq_true', Bool.not_eq_false', beq_iff_eq, beq_eq_false_iff_ne, ne_eq, Bool.and_eq_true, Bool.or_eq_true, Int.not_lt, Int.not_le] at hb_0
    refine vc_seq_gen (by kernel_rfl) ?_
    intro QQ4 hQ4
    simp only [go_sem, Try.ntmps77, Try.results77]
    refine seqQ_normal hQ4 ?_
    refine vc_ret_of ?_
    refine seqQ_ret hQ2 ?_
    simp only [go_sem, Try.ntmps77, Try.results77]
    obtain rfl := Option.some.inj h
    refine retW_mut rfl ?_
    simp only [go_sem, Le]
  ·
    replace h := if_f h hb_0
    simp only [decide_eq_true_eq, decide_eq_false_iff_not, Bool.not_eq_true', Bool.not_eq_false', beq_iff_eq, beq_eq_false_iff_ne, ne_eq, Bool.and_eq_true, Bool.or_eq_true, Int.not_lt, Int.not_le] at hb_0
    refine vc_skip_of ?_
    refine seqQ_normal hQ2 ?_
    refine vc_seq_gen (by kernel_rfl) ?_
    intro QQ5 hQ5
    obtain ⟨v_0, ev_0, h⟩ := bindO_some h
    simp only [go_sem, Try.ntmps77, Try.results77]
    refine call0 (f_wire_ReadUint_ok rv_0.b v_0 ev_0) (by rfl) (by rfl) ?_
    simp only [go_sem, Try.ntmps77, Try.results77]
    refine seqQ_normal hQ5 ?_
    refine vc_seq_gen (by kernel_rfl) ?_
    intro QQ6 hQ6
    simp only [go_sem, Try.ntmps77, Try.results77]
    refine seqQ_normal hQ6 ?_
    refine vc_seq_gen (by kernel_rfl) ?_
    intro QQ7 hQ7
    obtain ⟨g_0, h⟩ := guardO_some h
    simp only [go_sem, Try.ntmps77, Try.results77, g_0]
    refine seqQ_normal hQ7 ?_
    refine vc_seq_gen (by kernel_rfl) ?_
    intro QQ8 hQ8
    simp only [go_sem, Try.ntmps77, Try.results77]
    refine seqQ_normal hQ8 ?_
    refine vc_ret_of ?_
    simp only [go_sem, Try.ntmps77, Try.results77]
    obtain rfl := Option.some.inj h
    refine retW_mut rfl ?_
    simp only [go_sem, Le]
end Go.Proofs.Ytngeldeahafcfaa

namespace Go.Proofs.Ytngeldeahafcfaa
open Go Go.RowKit
set_option maxHeartbeats 2000000
set_option maxRecDepth 100000
set_option linter.unusedSimpArgs false
set_option linter.unusedVariables false
def f_graph_reader_fail (rv_0 : GGraph_reader) (e_0 : Int) : Option GGraph_reader :=
  (if (rv_0.e == 0) = true then some (⟨rv_0.b, e_0⟩ : GGraph_reader)
  else some rv_0)
theorem f_graph_reader_fail_ok (rv_0 : GGraph_reader) (e_0 : Int)  (r : GGraph_reader) (h : f_graph_reader_fail rv_0 e_0 = some r) : MutS Try.prog 49 (fun i_ => [.ptr i_ 0, .v (.int .i64 e_0)]) [.sl 1 (enc rv_0.b), .v (.int .i64 rv_0.e)] (.tup []) [.sl 1 (enc r.b), .v (.int .i64 r.e)] := by
  unfold MutS; dsimp only
  refine Spec.of_vc Try.func49 rfl (by kernel_rfl) (by kernel_rfl) ?_
  rw [f_graph_reader_fail] at h
  refine vc_seq_gen (by kernel_rfl) ?_
  intro QQ1 hQ1
  simp only [go_sem, Try.ntmps49, Try.results49]
  refine seqQ_normal hQ1 ?_
  refine vc_cond_of (b := (rv_0.e == 0)) (by (simp only [go_sem]; done)) (fun hb_0 => ?_) (fun hb_0 => ?_)
  ·
    replace h := if_t h hb_0
    simp only [decide_eq_true_eq, decide_eq_false_iff_not, Bool.not_eq_true', Bool.not_eq_false', beq_iff_eq, beq_eq_false_iff_ne, ne_eq, Bool.and_eq_true, Bool.or_eq_true, Int.not_lt, Int.not_le] at hb_0
    simp only [go_sem, Try.ntmps49, Try.results49]
    obtain rfl := Option.some.inj h
    refine retW_mut rfl ?_
    simp only [go_sem, Le]
  ·
    replace h := if_f h hb_0
    simp only [decide_eq_true_eq, decide_eq_false_iff_not, Bool.not_eq_true', Bool.not_eq_false', beq_iff_eq, beq_eq_false_iff_ne, ne_eq, Bool.and_eq_true, Bool.or_eq_true, Int.not_lt, Int.not_le] at hb_0
    refine vc_skip_of ?_
    simp only [go_sem, Try.ntmps49, Try.results49]
    obtain rfl := Option.some.inj h
    refine retW_mut rfl ?_
    simp only [go_sem, Le]
end Go.Proofs.Ytngeldeahafcfaa

namespace Go.Proofs.Ytngeldeahafcfaa
open Go Go.RowKit
set_option maxHeartbeats 2000000
set_option maxRecDepth 100000
set_option linter.unusedSimpArgs false
set_option linter.unusedVariables false
def f_graph_reader_count_J1 (v_0 : Int × GGraph_reader) (b_0 : GGraph_reader) : Option (Int × GGraph_reader) :=
  (if (!(b_0.e == 0)) = true then some (0, b_0)
  else some (IntKind.i64.wrap v_0.1, b_0))
def f_graph_reader_count (rv_0 : GGraph_reader) (least_0 : Int) (most_0 : Int) : Option (Int × GGraph_reader) :=
  bindO (f_graph_reader_uint rv_0) (fun (v_0 : Int × GGraph_reader) =>
  (if ((v_0.2.e == 0) && ((decide (v_0.1 < (IntKind.u64.wrap least_0))) || (decide ((IntKind.u64.wrap most_0) < v_0.1)))) = true then bindO (f_graph_reader_fail v_0.2 11) (fun (v_2 : GGraph_reader) =>
  f_graph_reader_count_J1 v_0 v_2)
  else f_graph_reader_count_J1 v_0 v_0.2))
theorem f_graph_reader_count_ok (rv_0 : GGraph_reader) (least_0 : Int) (most_0 : Int)  (r : Int × GGraph_reader) (h : f_graph_reader_count rv_0 least_0 most_0 = some r) : MutS Try.prog 45 (fun i_ => [.ptr i_ 0, .v (.int .i64 least_0), .v (.int .i64 most_0)]) [.sl 1 (enc rv_0.b), .v (.int .i64 rv_0.e)] (.v (.int .i64 r.1)) [.sl 1 (enc r.2.b), .v (.int .i64 r.2.e)] := by
  unfold MutS; dsimp only
  refine Spec.of_vc Try.func45 rfl (by kernel_rfl) (by kernel_rfl) ?_
  rw [f_graph_reader_count] at h
  refine vc_seq_gen (by kernel_rfl) ?_
  intro QQ1 hQ1
  simp only [go_sem, Try.ntmps45, Try.results45]
  refine seqQ_normal hQ1 ?_
  refine vc_seq_gen (by kernel_rfl) ?_
  intro QQ2 hQ2
  obtain ⟨v_0, ev_0, h⟩ := bindO_some h
  simp only [go_sem, Try.ntmps45, Try.results45]
  refine callm (id := 0) (f_graph_reader_uint_ok rv_0 v_0 ev_0) rfl (by simp) (by simp) rfl rfl rfl rfl rfl rfl ?_
  simp only [go_sem, Try.ntmps45, Try.results45]
  refine seqQ_normal hQ2 ?_
  refine vc_join (by kernel_rfl) ?_
  refine seq_cut_gen (ι := GGraph_reader) (fun (b_0 : GGraph_reader) => (⟨1, [(0, .ptr 0 0), (7, .v (.int .u64 v_0.1))], [(0, .box [.sl 1 (enc b_0.b), .v (.int .i64 b_0.e)])], 1, 36⟩ : St)) (fun (b_0 : GGraph_reader) => f_graph_reader_count_J1 v_0 b_0 = some r) ?_ ?_
  ·
    intro QQ7 hQ7
    refine vc_seq_gen (by kernel_rfl) ?_
    intro QQ8 hQ8
    simp only [go_sem, Try.ntmps45, Try.results45]
    refine And.intro (by omega) ?_
    refine And.intro (by omega) ?_
    refine seqQ_normal hQ8 ?_
    refine vc_cond_of (b := ((v_0.2.e == 0) && ((decide (v_0.1 < (IntKind.u64.wrap least_0))) || (decide ((IntKind.u64.wrap most_0) < v_0.1))))) (by (simp only [go_sem]; done)) (fun hb_2 => ?_) (fun hb_2 => ?_)
    ·
      replace h := if_t h hb_2
      simp only [decide_eq_true_eq, decide_eq_false_iff_not, Bool.not_eq_true', Bool.not_eq_false', beq_iff_eq, beq_eq_false_iff_ne, ne_eq, Bool.and_eq_true, Bool.or_eq_true, Int.not_lt, Int.not_le] at hb_2
      obtain ⟨v_2, ev_2, h⟩ := bindO_some h
      simp only [go_sem, Try.ntmps45, Try.results45]
      refine callm (id := 0) (f_graph_reader_fail_ok v_0.2 11 v_2 ev_2) rfl (by simp) (by simp) rfl rfl rfl rfl rfl rfl ?_
      simp only [go_sem, Try.ntmps45, Try.results45]
      refine thenQ_normal hQ7 ?_
      refine ⟨v_2, [], ?_, h⟩
      simp only [go_sem, Le]
    ·
      replace h := if_f h hb_2
      refine vc_skip_of ?_
      refine thenQ_normal hQ7 ?_
      refine ⟨v_0.2, [], ?_, h⟩
      simp only [go_sem, Le]
  · rintro b_0 h
    try dsimp only at h
    rw [f_graph_reader_count_J1] at h
    refine vc_seq_gen (by kernel_rfl) ?_
    intro QQ3 hQ3
    refine vc_seq_gen (by kernel_rfl) ?_
    intro QQ4 hQ4
    simp only [go_sem, Try.ntmps45, Try.results45]
    refine seqQ_normal hQ4 ?_
    refine vc_cond_of (b := (!(b_0.e == 0))) (by (simp only [go_sem]; done)) (fun hb_1 => ?_) (fun hb_1 => ?_)
    ·
      replace h := if_t h hb_1
      simp only [decide_eq_true_eq, decide_eq_false_iff_not, Bool.not_eq_true', Bool.not_eq_false', beq_iff_eq, beq_eq_false_iff_ne, ne_eq, Bool.and_eq_true, Bool.or_eq_true, Int.not_lt, Int.not_le] at hb_1
      refine vc_seq_gen (by kernel_rfl) ?_
      intro QQ5 hQ5
      simp only [go_sem, Try.ntmps45, Try.results45]
      refine seqQ_normal hQ5 ?_
      refine vc_ret_of ?_
      refine seqQ_ret hQ3 ?_
      simp only [go_sem, Try.ntmps45, Try.results45]
      obtain rfl := Option.some.inj h
      refine retW_mut rfl ?_
      simp only [go_sem, Le]
    ·
      replace h := if_f h hb_1
      simp only [decide_eq_true_eq, decide_eq_false_iff_not, Bool.not_eq_true', Bool.not_eq_false', beq_iff_eq, beq_eq_false_iff_ne, ne_eq, Bool.and_eq_true, Bool.or_eq_true, Int.not_lt, Int.not_le] at hb_1
      refine vc_skip_of ?_
      refine seqQ_normal hQ3 ?_
      refine vc_seq_gen (by kernel_rfl) ?_
      intro QQ6 hQ6
      simp only [go_sem, Try.ntmps45, Try.results45]
      refine seqQ_normal hQ6 ?_
      refine vc_ret_of ?_
      simp only [go_sem, Try.ntmps45, Try.results45]
      obtain rfl := Option.some.inj h
      refine retW_mut rfl ?_
      simp only [go_sem, Le]
end Go.Proofs.Ytngeldeahafcfaa

namespace Go.Proofs.Ytngeldeahafcfaa
open Go Go.RowKit
set_option maxHeartbeats 2000000
set_option maxRecDepth 100000
set_option linter.unusedSimpArgs false
set_option linter.unusedVariables false
def f_graph_reader_small (rv_0 : GGraph_reader) : Option (Int × GGraph_reader) :=
  bindO (f_graph_reader_uint rv_0) (fun (v_0 : Int × GGraph_reader) =>
  (if (decide (2147483647 < v_0.1)) = true then bindO (f_graph_reader_fail v_0.2 2) (fun (v_1 : GGraph_reader) =>
  some (0, v_1))
  else some (IntKind.i64.wrap v_0.1, v_0.2)))
theorem f_graph_reader_small_ok (rv_0 : GGraph_reader)  (r : Int × GGraph_reader) (h : f_graph_reader_small rv_0 = some r) : MutS Try.prog 46 (fun i_ => [.ptr i_ 0]) [.sl 1 (enc rv_0.b), .v (.int .i64 rv_0.e)] (.v (.int .i64 r.1)) [.sl 1 (enc r.2.b), .v (.int .i64 r.2.e)] := by
  unfold MutS; dsimp only
  refine Spec.of_vc Try.func46 rfl (by kernel_rfl) (by kernel_rfl) ?_
  rw [f_graph_reader_small] at h
  refine vc_seq_gen (by kernel_rfl) ?_
  intro QQ1 hQ1
  simp only [go_sem, Try.ntmps46, Try.results46]
  refine seqQ_normal hQ1 ?_
  refine vc_seq_gen (by kernel_rfl) ?_
  intro QQ2 hQ2
  obtain ⟨v_0, ev_0, h⟩ := bindO_some h
  simp only [go_sem, Try.ntmps46, Try.results46]
  refine callm (id := 0) (f_graph_reader_uint_ok rv_0 v_0 ev_0) rfl (by simp) (by simp) rfl rfl rfl rfl rfl rfl ?_
  simp only [go_sem, Try.ntmps46, Try.results46]
  refine seqQ_normal hQ2 ?_
  refine vc_seq_gen (by kernel_rfl) ?_
  intro QQ3 hQ3
  refine vc_seq_gen (by kernel_rfl) ?_
  intro QQ4 hQ4
  simp only [go_sem, Try.ntmps46, Try.results46]
  refine seqQ_normal hQ4 ?_
  refine vc_cond_of (b := (decide (2147483647 < v_0.1))) (by (simp only [go_sem]; done)) (fun hb_0 => ?_) (fun hb_0 => ?_)
  ·
    replace h := if_t h hb_0
    simp only [decide_eq_true_eq, decide_eq_false_iff_not, Bool.not_eq_true', Bool.not_eq_false', beq_iff_eq, beq_eq_false_iff_ne, ne_eq, Bool.and_eq_true, Bool.or_eq_true, Int.not_lt, Int.not_le] at hb_0
    refine vc_seq_gen (by kernel_rfl) ?_
    intro QQ5 hQ5
    obtain ⟨v_1, ev_1, h⟩ := bindO_some h
    simp only [go_sem, Try.ntmps46, Try.results46]
    refine callm (id := 0) (f_graph_reader_fail_ok v_0.2 2 v_1 ev_1) rfl (by simp) (by simp) rfl rfl rfl rfl rfl rfl ?_
    simp only [go_sem, Try.ntmps46, Try.results46]
    refine seqQ_normal hQ5 ?_
    refine vc_seq_gen (by kernel_rfl) ?_
    intro QQ6 hQ6
    simp only [go_sem, Try.ntmps46, Try.results46]
    refine seqQ_normal hQ6 ?_
    refine vc_ret_of ?_
    refine seqQ_ret hQ3 ?_
    simp only [go_sem, Try.ntmps46, Try.results46]
    obtain rfl := Option.some.inj h
    refine retW_mut rfl ?_
    simp only [go_sem, Le]
  ·
    replace h := if_f h hb_0
    simp only [decide_eq_true_eq, decide_eq_false_iff_not, Bool.not_eq_true', Bool.not_eq_false', beq_iff_eq, beq_eq_false_iff_ne, ne_eq, Bool.and_eq_true, Bool.or_eq_true, Int.not_lt, Int.not_le] at hb_0
    refine vc_skip_of ?_
    refine seqQ_normal hQ3 ?_
    refine vc_seq_gen (by kernel_rfl) ?_
    intro QQ7 hQ7
    simp only [go_sem, Try.ntmps46, Try.results46]
    refine seqQ_normal hQ7 ?_
    refine vc_ret_of ?_
    simp only [go_sem, Try.ntmps46, Try.results46]
    obtain rfl := Option.some.inj h
    refine retW_mut rfl ?_
    simp only [go_sem, Le]
end Go.Proofs.Ytngeldeahafcfaa

namespace Go.Proofs.Ytngeldeahafcfaa
open Go Go.RowKit
set_option maxHeartbeats 2000000
set_option maxRecDepth 100000
set_option linter.unusedSimpArgs false
set_option linter.unusedVariables false
def f_graph_reader_int (rv_0 : GGraph_reader) : Option (Int × GGraph_reader) :=
  (if (!(rv_0.e == 0)) = true then some (0, rv_0)
  else bindO (f_wire_ReadInt rv_0.b) (fun (v_0 : Int × Int × Int) =>
  guardO (0 ≤ v_0.2.1 ∧ v_0.2.1 ≤ (List.length rv_0.b : Int) ∧ (List.length rv_0.b : Int) ≤ (List.length rv_0.b : Int)) (
  some (v_0.1, (⟨List.drop (Int.toNat v_0.2.1) (List.take (List.length rv_0.b) rv_0.b), v_0.2.2⟩ : GGraph_reader)))))
theorem f_graph_reader_int_ok (rv_0 : GGraph_reader)  (r : Int × GGraph_reader) (h : f_graph_reader_int rv_0 = some r) : MutS Try.prog 78 (fun i_ => [.ptr i_ 0]) [.sl 1 (enc rv_0.b), .v (.int .i64 rv_0.e)] (.v (.int .i64 r.1)) [.sl 1 (enc r.2.b), .v (.int .i64 r.2.e)] := by
  unfold MutS; dsimp only
  refine Spec.of_vc Try.func78 rfl (by kernel_rfl) (by kernel_rfl) ?_
  rw [f_graph_reader_int] at h
  refine vc_seq_gen (by kernel_rfl) ?_
  intro QQ1 hQ1
  simp only [go_sem, Try.ntmps78, Try.results78]
  refine seqQ_normal hQ1 ?_
  refine vc_seq_gen (by kernel_rfl) ?_
  intro QQ2 hQ2
  refine vc_seq_gen (by kernel_rfl) ?_
  intro QQ3 hQ3
  simp only [go_sem, Try.ntmps78, Try.results78]
  refine seqQ_normal hQ3 ?_
  refine vc_cond_of (b := (!(rv_0.e == 0))) (by (simp only [go_sem]; done)) (fun hb_0 => ?_) (fun hb_0 => ?_)
  ·
    replace h := if_t h hb_0
    simp only [decide_eq_true_eq, decide_eq_false_iff_not, Bool.not_eq_true', Bool.not_eq_false', beq_iff_eq, beq_eq_false_iff_ne, ne_eq, Bool.and_eq_true, Bool.or_eq_true, Int.not_lt, Int.not_le] at hb_0
    refine vc_seq_gen (by kernel_rfl) ?_
    intro QQ4 hQ4
    simp only [go_sem, Try.ntmps78, Try.results78]
    refine seqQ_normal hQ4 ?_
    refine vc_ret_of ?_
    refine seqQ_ret hQ2 ?_
    simp only [go_sem, Try.ntmps78, Try.results78]
    obtain rfl := Option.some.inj h
    refine retW_mut rfl ?_
    simp only [go_sem, Le]
  ·
    replace h := if_f h hb_0
    simp only [decide_eq_true_eq, decide_eq_false_iff_not, Bool.not_eq_true', Bool.not_eq_false', beq_iff_eq, beq_eq_false_iff_ne, ne_eq, Bool.and_eq_true, Bool.or_eq_true, Int.not_lt, Int.not_le] at hb_0
    refine vc_skip_of ?_
    refine seqQ_normal hQ2 ?_
    refine vc_seq_gen (by kernel_rfl) ?_
    intro QQ5 hQ5
    obtain ⟨v_0, ev_0, h⟩ := bindO_some h
    simp only [go_sem, Try.ntmps78, Try.results78]
    refine call0 (f_wire_ReadInt_ok rv_0.b v_0 ev_0) (by rfl) (by rfl) ?_
    simp only [go_sem, Try.ntmps78, Try.results78]
    refine seqQ_normal hQ5 ?_
    refine vc_seq_gen (by kernel_rfl) ?_
    intro QQ6 hQ6
    simp only [go_sem, Try.ntmps78, Try.results78]
    refine seqQ_normal hQ6 ?_
    refine vc_seq_gen (by kernel_rfl) ?_
    intro QQ7 hQ7
    obtain ⟨g_0, h⟩ := guardO_some h
    simp only [go_sem, Try.ntmps78, Try.results78, g_0]
    refine seqQ_normal hQ7 ?_
    refine vc_seq_gen (by kernel_rfl) ?_
    intro QQ8 hQ8
    simp only [go_sem, Try.ntmps78, Try.results78]
    refine seqQ_normal hQ8 ?_
    refine vc_ret_of ?_
    simp only [go_sem, Try.ntmps78, Try.results78]
    obtain rfl := Option.some.inj h
    refine retW_mut rfl ?_
    simp only [go_sem, Le]
end Go.Proofs.Ytngeldeahafcfaa

namespace Go.Proofs.Ytngeldeahafcfaa
open Go Go.RowKit
set_option maxHeartbeats 2000000
set_option maxRecDepth 100000
set_option linter.unusedSimpArgs false
set_option linter.unusedVariables false
def f_graph_reader_node_B1 (v_0 : Int × GGraph_reader) (v_1 : Int × GGraph_reader) (v_2 : Int × GGraph_reader) (rec_1 : Int × GGraph_reader × (List GIns) → Option (GNode × GGraph_reader)) : Int × GGraph_reader × (List GIns) → Option (GNode × GGraph_reader) :=
  fun (nv_1, b_1, a_1) =>
  (if ((decide (0 < nv_1)) && (b_1.e == 0)) = true then bindO (f_graph_reader_small b_1) (fun (v_8 : Int × GGraph_reader) =>
  bindO (f_graph_reader_int v_8.2) (fun (v_9 : Int × GGraph_reader) =>
  guardO ((List.length a_1 + List.length ([(⟨v_8.1, v_9.1⟩ : GIns)] : List GIns)) * 16 ≤ 140737488355328) (
  rec_1 (IntKind.i64.wrap (nv_1 - 1), v_9.2, (a_1 ++ ([(⟨v_8.1, v_9.1⟩ : GIns)] : List GIns))))))
  else some ((⟨v_0.1, v_1.1, v_2.1, a_1⟩ : GNode), b_1))
def f_graph_reader_node (rv_0 : GGraph_reader) : Option (GNode × GGraph_reader) :=
  bindO (f_graph_reader_small rv_0) (fun (v_0 : Int × GGraph_reader) =>
  bindO (f_graph_reader_small v_0.2) (fun (v_1 : Int × GGraph_reader) =>
  bindO (f_graph_reader_int v_1.2) (fun (v_2 : Int × GGraph_reader) =>
  bindO (f_graph_reader_count v_2.2 0 64) (fun (v_3 : Int × GGraph_reader) =>
  loopK (f_graph_reader_node_B1 v_0 v_1 v_2) rounds (v_3.1, v_3.2, [])))))
theorem f_graph_reader_node_ok (rv_0 : GGraph_reader)  (r : GNode × GGraph_reader) (h : f_graph_reader_node rv_0 = some r) : MutS Try.prog 47 (fun i_ => [.ptr i_ 0]) [.sl 1 (enc rv_0.b), .v (.int .i64 rv_0.e)] (.agg [.v (.int .i64 r.1.Kind), .v (.int .i64 r.1.Scope), .v (.int .i64 r.1.Arg), .sl 2 (enc r.1.Prog)]) [.sl 1 (enc r.2.b), .v (.int .i64 r.2.e)] := by
  unfold MutS; dsimp only
  refine Spec.of_vc Try.func47 rfl (by kernel_rfl) (by kernel_rfl) ?_
  rw [f_graph_reader_node] at h
  refine vc_seq_gen (by kernel_rfl) ?_
  intro QQ1 hQ1
  simp only [go_sem, Try.ntmps47, Try.results47]
  refine seqQ_normal hQ1 ?_
  refine vc_seq_gen (by kernel_rfl) ?_
  intro QQ2 hQ2
  simp only [go_sem, Try.ntmps47, Try.results47]
  refine seqQ_normal hQ2 ?_
  refine vc_seq_gen (by kernel_rfl) ?_
  intro QQ3 hQ3
  obtain ⟨v_0, ev_0, h⟩ := bindO_some h
  simp only [go_sem, Try.ntmps47, Try.results47]
  refine callm (id := 0) (f_graph_reader_small_ok rv_0 v_0 ev_0) rfl (by simp) (by simp) rfl rfl rfl rfl rfl rfl ?_
  simp only [go_sem, Try.ntmps47, Try.results47]
  refine seqQ_normal hQ3 ?_
  refine vc_seq_gen (by kernel_rfl) ?_
  intro QQ4 hQ4
  obtain ⟨v_1, ev_1, h⟩ := bindO_some h
  simp only [go_sem, Try.ntmps47, Try.results47]
  refine callm (id := 0) (f_graph_reader_small_ok v_0.2 v_1 ev_1) rfl (by simp) (by simp) rfl rfl rfl rfl rfl rfl ?_
  simp only [go_sem, Try.ntmps47, Try.results47]
  refine seqQ_normal hQ4 ?_
  refine vc_seq_gen (by kernel_rfl) ?_
  intro QQ5 hQ5
  obtain ⟨v_2, ev_2, h⟩ := bindO_some h
  simp only [go_sem, Try.ntmps47, Try.results47]
  refine callm (id := 0) (f_graph_reader_int_ok v_1.2 v_2 ev_2) rfl (by simp) (by simp) rfl rfl rfl rfl rfl rfl ?_
  simp only [go_sem, Try.ntmps47, Try.results47]
  refine seqQ_normal hQ5 ?_
  refine vc_join (by kernel_rfl) ?_
  refine seq_go_gen ?_
  intro QQ6 hQ6
  refine vc_seq_gen (by kernel_rfl) ?_
  intro QQ7 hQ7
  obtain ⟨v_3, ev_3, h⟩ := bindO_some h
  simp only [go_sem, Try.ntmps47, Try.results47]
  refine callm (id := 0) (f_graph_reader_count_ok v_2.2 0 64 v_3 ev_3) rfl (by simp) (by simp) rfl rfl rfl rfl rfl rfl ?_
  simp only [go_sem, Try.ntmps47, Try.results47]
  refine seqQ_normal hQ7 ?_
  refine vc_block_gen ?_
  intro QQ8 hQ8
  refine vc_loop_of ?_
  refine loop_gen (ι := Nat × Int × GGraph_reader × (List GIns)) (fun ((_, nv_1, b_1, a_1) : Nat × Int × GGraph_reader × (List GIns)) => (⟨1, [(0, .ptr 0 0), (2, .ptr 1 0), (3, .ptr 2 0), (4, .v (.int .i64 nv_1))], [(0, .box [.sl 1 (enc b_1.b), .v (.int .i64 b_1.e)]), (1, .box [.v (.int .i64 0), .v (.int .i64 0), .v (.int .i64 0), .v (.slice none 0 0)]), (2, .box [.v (.int .i64 v_0.1), .v (.int .i64 v_1.1), .v (.int .i64 v_2.1), .osl 3 2 (0) (List.length a_1)]), (3, .arr 2 (enc a_1))], 4, 40⟩ : St)) (fun ((n_, nv_1, b_1, a_1) : Nat × Int × GGraph_reader × (List GIns)) => loopK (f_graph_reader_node_B1 v_0 v_1 v_2) n_ (nv_1, b_1, a_1) = some r) (fun p => p.1) (rounds, v_3.1, v_3.2, []) [some 1, some 2, none] ?_ h ?_
  · simp only [go_sem, Le] <;> (repeat' apply And.intro) <;> first | rfl | omega | (simp [go_sem]; done)
  · rintro ⟨n_1, nv_1, b_1, a_1⟩ h QQ9 hQ9
    dsimp only at h
    replace h := loopK_some h
    obtain ⟨m_1, rfl, h⟩ := h
    rw [f_graph_reader_node_B1] at h
    refine vc_seq_gen (by kernel_rfl) ?_
    intro QQ10 hQ10
    refine vc_seq_gen (by kernel_rfl) ?_
    intro QQ11 hQ11
    simp only [go_sem, Try.ntmps47, Try.results47]
    refine seqQ_normal hQ11 ?_
    refine vc_cond_of (b := ((decide (0 < nv_1)) && (b_1.e == 0))) (by (simp only [go_sem]; done)) (fun hb_2 => ?_) (fun hb_2 => ?_)
    ·
      replace h := if_t h hb_2
      simp only [decide_eq_true_eq, decide_eq_false_iff_not, Bool.not_eq_true', Bool.not_eq_false', beq_iff_eq, beq_eq_false_iff_ne, ne_eq, Bool.and_eq_true, Bool.or_eq_true, Int.not_lt, Int.not_le] at hb_2
      refine vc_skip_of ?_
      refine seqQ_normal hQ10 ?_
      refine vc_seq_gen (by kernel_rfl) ?_
      intro QQ12 hQ12
      refine vc_block_gen ?_
      intro QQ13 hQ13
      refine vc_seq_gen (by kernel_rfl) ?_
      intro QQ14 hQ14
      obtain ⟨v_8, ev_8, h⟩ := bindO_some h
      simp only [go_sem, Try.ntmps47, Try.results47]
      refine callm (id := 0) (f_graph_reader_small_ok b_1 v_8 ev_8) rfl (by simp) (by simp) rfl rfl rfl rfl rfl rfl ?_
      simp only [go_sem, Try.ntmps47, Try.results47]
      refine seqQ_normal hQ14 ?_
      refine vc_draw ?_
      refine drawV_all 7 0 [0, 1, 0, 0, 8, 28, 60, 127, 255, 511] [0] [0, 1, 2] [4] [] mixed (by kernel_rfl) (of_decide_eq_true (by kernel_rfl)) (by kernel_rfl) (by kernel_rfl) (by rfl) ?_
      obtain ⟨v_9, ev_9, h⟩ := bindO_some h
      simp only [go_sem, Try.ntmps47, Try.results47]
      refine callE_of (id := 0) (f_graph_reader_int_ok v_8.2 v_9 ev_9) rfl (by simp) rfl rfl rfl rfl rfl rfl ?_
      have rf_3 : [[.v (.int .i64 v_8.1), .v (.int .i64 v_9.1)]] = enc ([(⟨v_8.1, v_9.1⟩ : GIns)] : List GIns) := by rfl
      obtain ⟨g_2, h⟩ := guardO_some h
      simp only [List.length_cons, List.length_nil, Nat.zero_add, List.length_append] at g_2
      have rf_4 : enc a_1 ++ [[.v (.int .i64 v_8.1), .v (.int .i64 v_9.1)]] = enc (a_1 ++ ([(⟨v_8.1, v_9.1⟩ : GIns)] : List GIns)) := by exact (enc_app a_1 ([(⟨v_8.1, v_9.1⟩ : GIns)] : List GIns)).symm
      simp only [go_sem, Try.ntmps47, Try.results47, g_2, rf_4]
      refine And.intro (by omega) ?_
      simp only [rf_3]
      refine blockQ_normal hQ13 ?_
      refine seqQ_normal hQ12 ?_
      simp only [go_sem, Try.ntmps47, Try.results47]
      refine thenQ_normal hQ9 ?_
      refine ⟨(m_1, IntKind.i64.wrap (nv_1 - 1), v_9.2, (a_1 ++ ([(⟨v_8.1, v_9.1⟩ : GIns)] : List GIns))), [some 1, some 2, some 4], ?_, h, Nat.lt_succ_self _⟩
      simp only [go_sem, Le] <;> (repeat' apply And.intro) <;> first | rfl | omega | (simp [go_sem]; done)
    ·
      replace h := if_f h hb_2
      refine vc_exit_of ?_
      refine seqQ_exit hQ10 ?_
      refine thenQ_exit hQ9 ?_
      refine blockQ_exit hQ8 ?_
      refine seqQ_normal hQ6 ?_
      refine vc_seq_gen (by kernel_rfl) ?_
      intro QQ15 hQ15
      simp only [go_sem, Try.ntmps47, Try.results47]
      refine seqQ_normal hQ15 ?_
      refine vc_ret_of ?_
      simp only [go_sem, Try.ntmps47, Try.results47]
      obtain rfl := Option.some.inj h
      refine retW_mut rfl ?_
      simp only [go_sem, Le] <;> (repeat' apply And.intro) <;> (simp [go_sem]; done)
end Go.Proofs.Ytngeldeahafcfaa

namespace Go.Proofs.Ytngeldeahafcfaa
open Go Go.RowKit
set_option maxHeartbeats 2000000
set_option maxRecDepth 100000
set_option linter.unusedSimpArgs false
set_option linter.unusedVariables false
def f_graph_reader_edge (rv_0 : GGraph_reader) : Option (GEdge × GGraph_reader) :=
  bindO (f_graph_reader_small rv_0) (fun (v_0 : Int × GGraph_reader) =>
  bindO (f_graph_reader_small v_0.2) (fun (v_1 : Int × GGraph_reader) =>
  bindO (f_graph_reader_small v_1.2) (fun (v_2 : Int × GGraph_reader) =>
  bindO (f_graph_reader_uint v_2.2) (fun (v_3 : Int × GGraph_reader) =>
  (if (decide (1 < v_3.1)) = true then bindO (f_graph_reader_fail v_3.2 4) (fun (v_4 : GGraph_reader) =>
  some ((⟨v_0.1, v_1.1, v_2.1, v_3.1 == 1⟩ : GEdge), v_4))
  else some ((⟨v_0.1, v_1.1, v_2.1, v_3.1 == 1⟩ : GEdge), v_3.2))))))
theorem f_graph_reader_edge_ok (rv_0 : GGraph_reader)  (r : GEdge × GGraph_reader) (h : f_graph_reader_edge rv_0 = some r) : MutS Try.prog 48 (fun i_ => [.ptr i_ 0]) [.sl 1 (enc rv_0.b), .v (.int .i64 rv_0.e)] (.agg [.v (.int .i64 r.1.From), .v (.int .i64 r.1.To), .v (.int .i64 r.1.Port), .v (.bool r.1.Exchange)]) [.sl 1 (enc r.2.b), .v (.int .i64 r.2.e)] := by
  unfold MutS; dsimp only
  refine Spec.of_vc Try.func48 rfl (by kernel_rfl) (by kernel_rfl) ?_
  rw [f_graph_reader_edge] at h
  refine vc_seq_gen (by kernel_rfl) ?_
  intro QQ1 hQ1
  simp only [go_sem, Try.ntmps48, Try.results48]
  refine seqQ_normal hQ1 ?_
  refine vc_seq_gen (by kernel_rfl) ?_
  intro QQ2 hQ2
  simp only [go_sem, Try.ntmps48, Try.results48]
  refine seqQ_normal hQ2 ?_
  refine vc_seq_gen (by kernel_rfl) ?_
  intro QQ3 hQ3
  obtain ⟨v_0, ev_0, h⟩ := bindO_some h
  simp only [go_sem, Try.ntmps48, Try.results48]
  refine callm (id := 0) (f_graph_reader_small_ok rv_0 v_0 ev_0) rfl (by simp) (by simp) rfl rfl rfl rfl rfl rfl ?_
  simp only [go_sem, Try.ntmps48, Try.results48]
  refine seqQ_normal hQ3 ?_
  refine vc_seq_gen (by kernel_rfl) ?_
  intro QQ4 hQ4
  obtain ⟨v_1, ev_1, h⟩ := bindO_some h
  simp only [go_sem, Try.ntmps48, Try.results48]
  refine callm (id := 0) (f_graph_reader_small_ok v_0.2 v_1 ev_1) rfl (by simp) (by simp) rfl rfl rfl rfl rfl rfl ?_
  simp only [go_sem, Try.ntmps48, Try.results48]
  refine seqQ_normal hQ4 ?_
  refine vc_seq_gen (by kernel_rfl) ?_
  intro QQ5 hQ5
  obtain ⟨v_2, ev_2, h⟩ := bindO_some h
  simp only [go_sem, Try.ntmps48, Try.results48]
  refine callm (id := 0) (f_graph_reader_small_ok v_1.2 v_2 ev_2) rfl (by simp) (by simp) rfl rfl rfl rfl rfl rfl ?_
  simp only [go_sem, Try.ntmps48, Try.results48]
  refine seqQ_normal hQ5 ?_
  refine vc_seq_gen (by kernel_rfl) ?_
  intro QQ6 hQ6
  obtain ⟨v_3, ev_3, h⟩ := bindO_some h
  simp only [go_sem, Try.ntmps48, Try.results48]
  refine callm (id := 0) (f_graph_reader_uint_ok v_2.2 v_3 ev_3) rfl (by simp) (by simp) rfl rfl rfl rfl rfl rfl ?_
  simp only [go_sem, Try.ntmps48, Try.results48]
  refine seqQ_normal hQ6 ?_
  refine vc_join (by kernel_rfl) ?_
  refine seq_go_gen ?_
  intro QQ7 hQ7
  refine vc_seq_gen (by kernel_rfl) ?_
  intro QQ8 hQ8
  simp only [go_sem, Try.ntmps48, Try.results48]
  refine seqQ_normal hQ8 ?_
  refine vc_cond_of (b := (decide (1 < v_3.1))) (by (simp only [go_sem]; done)) (fun hb_0 => ?_) (fun hb_0 => ?_)
  ·
    replace h := if_t h hb_0
    simp only [decide_eq_true_eq, decide_eq_false_iff_not, Bool.not_eq_true', Bool.not_eq_false', beq_iff_eq, beq_eq_false_iff_ne, ne_eq, Bool.and_eq_true, Bool.or_eq_true, Int.not_lt, Int.not_le] at hb_0
    obtain ⟨v_4, ev_4, h⟩ := bindO_some h
    simp only [go_sem, Try.ntmps48, Try.results48]
    refine callm (id := 0) (f_graph_reader_fail_ok v_3.2 4 v_4 ev_4) rfl (by simp) (by simp) rfl rfl rfl rfl rfl rfl ?_
    simp only [go_sem, Try.ntmps48, Try.results48]
    refine seqQ_normal hQ7 ?_
    refine vc_seq_gen (by kernel_rfl) ?_
    intro QQ9 hQ9
    simp only [go_sem, Try.ntmps48, Try.results48]
    refine seqQ_normal hQ9 ?_
    refine vc_seq_gen (by kernel_rfl) ?_
    intro QQ10 hQ10
    simp only [go_sem, Try.ntmps48, Try.results48]
    refine seqQ_normal hQ10 ?_
    refine vc_ret_of ?_
    simp only [go_sem, Try.ntmps48, Try.results48]
    obtain rfl := Option.some.inj h
    refine retW_mut rfl ?_
    simp only [go_sem, Le]
  ·
    replace h := if_f h hb_0
    simp only [decide_eq_true_eq, decide_eq_false_iff_not, Bool.not_eq_true', Bool.not_eq_false', beq_iff_eq, beq_eq_false_iff_ne, ne_eq, Bool.and_eq_true, Bool.or_eq_true, Int.not_lt, Int.not_le] at hb_0
    refine vc_skip_of ?_
    refine seqQ_normal hQ7 ?_
    refine vc_seq_gen (by kernel_rfl) ?_
    intro QQ11 hQ11
    simp only [go_sem, Try.ntmps48, Try.results48]
    refine seqQ_normal hQ11 ?_
    refine vc_seq_gen (by kernel_rfl) ?_
    intro QQ12 hQ12
    simp only [go_sem, Try.ntmps48, Try.results48]
    refine seqQ_normal hQ12 ?_
    refine vc_ret_of ?_
    simp only [go_sem, Try.ntmps48, Try.results48]
    obtain rfl := Option.some.inj h
    refine retW_mut rfl ?_
    simp only [go_sem, Le]
end Go.Proofs.Ytngeldeahafcfaa

namespace Go.Proofs.Ytngeldeahafcfaa
open Go Go.RowKit
set_option maxHeartbeats 2000000
set_option maxRecDepth 100000
set_option linter.unusedSimpArgs false
set_option linter.unusedVariables false
def f_graph_Read_J4 (a_4 : List Int) (a_5 : List Int) (a_8 : List GNode) (a_11 : List GEdge) (b_10 : GGraph_reader) : Option (GGraph × Int) :=
  (if (!(b_10.e == 0)) = true then some ((⟨([] : List Int), ([] : List Int), ([] : List GNode), ([] : List GEdge)⟩ : GGraph), b_10.e)
  else some ((⟨a_4, a_5, a_8, a_11⟩ : GGraph), 0))
def f_graph_Read_J3 (a_4 : List Int) (a_5 : List Int) (a_8 : List GNode) (b_9 : GGraph_reader) (a_11 : List GEdge) : Option (GGraph × Int) :=
  (if (decide (0 < (List.length b_9.b : Int))) = true then bindO (f_graph_reader_fail b_9 4) (fun (v_17 : GGraph_reader) =>
  f_graph_Read_J4 a_4 a_5 a_8 a_11 v_17)
  else f_graph_Read_J4 a_4 a_5 a_8 a_11 b_9)
def f_graph_Read_B5 (a_4 : List Int) (a_5 : List Int) (a_8 : List GNode) (rec_5 : Int × GGraph_reader × (List GEdge) → Option (GGraph × Int)) : Int × GGraph_reader × (List GEdge) → Option (GGraph × Int) :=
  fun (nv_7, b_12, a_13) =>
  (if ((decide (0 < nv_7)) && (b_12.e == 0)) = true then bindO (f_graph_reader_edge b_12) (fun (v_21 : GEdge × GGraph_reader) =>
  guardO ((List.length a_13 + List.length ([v_21.1] : List GEdge)) * 32 ≤ 140737488355328) (
  rec_5 (IntKind.i64.wrap (nv_7 - 1), v_21.2, (a_13 ++ ([v_21.1] : List GEdge)))))
  else f_graph_Read_J3 a_4 a_5 a_8 b_12 a_13)
def f_graph_Read_J2 (a_4 : List Int) (a_5 : List Int) (b_6 : GGraph_reader) (a_8 : List GNode) : Option (GGraph × Int) :=
  bindO (f_graph_reader_count b_6 0 64) (fun (v_18 : Int × GGraph_reader) =>
  loopK (f_graph_Read_B5 a_4 a_5 a_8) rounds (v_18.1, v_18.2, []))
def f_graph_Read_B6 (a_4 : List Int) (a_5 : List Int) (rec_6 : Int × GGraph_reader × (List GNode) → Option (GGraph × Int)) : Int × GGraph_reader × (List GNode) → Option (GGraph × Int) :=
  fun (nv_9, b_14, a_15) =>
  (if ((decide (0 < nv_9)) && (b_14.e == 0)) = true then bindO (f_graph_reader_node b_14) (fun (v_25 : GNode × GGraph_reader) =>
  guardO ((List.length a_15 + List.length ([v_25.1] : List GNode)) * 48 ≤ 140737488355328) (
  rec_6 (IntKind.i64.wrap (nv_9 - 1), v_25.2, (a_15 ++ ([v_25.1] : List GNode)))))
  else f_graph_Read_J2 a_4 a_5 b_14 a_15)
def f_graph_Read_J1 (b_3 : GGraph_reader) (a_4 : List Int) (a_5 : List Int) : Option (GGraph × Int) :=
  bindO (f_graph_reader_count b_3 0 32) (fun (v_22 : Int × GGraph_reader) =>
  loopK (f_graph_Read_B6 a_4 a_5) rounds (v_22.1, v_22.2, []))
def f_graph_Read_B7  (rec_7 : Int × GGraph_reader × (List Int) × (List Int) → Option (GGraph × Int)) : Int × GGraph_reader × (List Int) × (List Int) → Option (GGraph × Int) :=
  fun (nv_11, b_16, a_18, a_19) =>
  (if ((decide (1 < nv_11)) && (b_16.e == 0)) = true then bindO (f_graph_reader_small b_16) (fun (v_31 : Int × GGraph_reader) =>
  guardO ((List.length a_18 + List.length ([v_31.1] : List Int)) * 8 ≤ 140737488355328) (
  bindO (f_graph_reader_small v_31.2) (fun (v_32 : Int × GGraph_reader) =>
  guardO ((List.length a_19 + List.length ([v_32.1] : List Int)) * 8 ≤ 140737488355328) (
  rec_7 (IntKind.i64.wrap (nv_11 - 1), v_32.2, (a_18 ++ ([v_31.1] : List Int)), (a_19 ++ ([v_32.1] : List Int)))))))
  else f_graph_Read_J1 b_16 a_18 a_19)
def f_graph_Read (b_0 : List UInt8) : Option (GGraph × Int) :=
  bindO (f_graph_begins b_0) (fun (v_0 : Int) =>
  (if (!(v_0 == 0)) = true then some ((⟨([] : List Int), ([] : List Int), ([] : List GNode), ([] : List GEdge)⟩ : GGraph), v_0)
  else guardO (0 ≤ 3 ∧ 3 ≤ (List.length b_0 : Int) ∧ (List.length b_0 : Int) ≤ (List.length b_0 : Int)) (
  bindO (f_graph_reader_count (⟨List.drop (Int.toNat 3) (List.take (List.length b_0) b_0), 0⟩ : GGraph_reader) 1 8) (fun (v_26 : Int × GGraph_reader) =>
  loopK (f_graph_Read_B7) rounds (v_26.1, v_26.2, ([-1] : List Int), ([0] : List Int))))))
theorem f_graph_Read_ok (b_0 : List UInt8)  (r : GGraph × Int) (h : f_graph_Read b_0 = some r) : PureS Try.prog 28 [.sl 1 (enc b_0)] 0 (.tup [.agg [.sl 1 (enc r.1.Parent), .sl 1 (enc r.1.Bound), .sl 4 (enc r.1.Nodes), .sl 4 (enc r.1.Edges)], .v (.int .i64 r.2)]) := by
  unfold PureS
  refine Spec.of_vc Try.func28 rfl (by kernel_rfl) (by kernel_rfl) ?_
  rw [f_graph_Read] at h
  refine vc_seq_gen (by kernel_rfl) ?_
  intro QQ1 hQ1
  simp only [go_sem, Try.ntmps28, Try.results28]
  refine seqQ_normal hQ1 ?_
  refine vc_seq_gen (by kernel_rfl) ?_
  intro QQ2 hQ2
  refine vc_seq_gen (by kernel_rfl) ?_
  intro QQ3 hQ3
  obtain ⟨v_0, ev_0, h⟩ := bindO_some h
  simp only [go_sem, Try.ntmps28, Try.results28]
  refine call0 (f_graph_begins_ok b_0 v_0 ev_0) (by rfl) (by rfl) ?_
  simp only [go_sem, Try.ntmps28, Try.results28]
  refine seqQ_normal hQ3 ?_
  refine vc_seq_gen (by kernel_rfl) ?_
  intro QQ4 hQ4
  simp only [go_sem, Try.ntmps28, Try.results28]
  refine seqQ_normal hQ4 ?_
  refine vc_cond_of (b := (!(v_0 == 0))) (by (simp only [go_sem]; done)) (fun hb_0 => ?_) (fun hb_0 => ?_)
  ·
    replace h := if_t h hb_0
    simp only [decide_eq_true_eq, decide_eq_false_iff_not, Bool.not_eq_true', Bool.not_eq_false', beq_iff_eq, beq_eq_false_iff_ne, ne_eq, Bool.and_eq_true, Bool.or_eq_true, Int.not_lt, Int.not_le] at hb_0
    refine vc_seq_gen (by kernel_rfl) ?_
    intro QQ5 hQ5
    simp only [go_sem, Try.ntmps28, Try.results28]
    refine seqQ_normal hQ5 ?_
    refine vc_ret_of ?_
    refine seqQ_ret hQ2 ?_
    simp only [go_sem, Try.ntmps28, Try.results28]
    obtain rfl := Option.some.inj h
    refine retW_pure rfl ?_
    simp only [go_sem, Le]
  ·
    replace h := if_f h hb_0
    simp only [decide_eq_true_eq, decide_eq_false_iff_not, Bool.not_eq_true', Bool.not_eq_false', beq_iff_eq, beq_eq_false_iff_ne, ne_eq, Bool.and_eq_true, Bool.or_eq_true, Int.not_lt, Int.not_le] at hb_0
    refine vc_skip_of ?_
    refine seqQ_normal hQ2 ?_
    refine vc_seq_gen (by kernel_rfl) ?_
    intro QQ6 hQ6
    obtain ⟨g_0, h⟩ := guardO_some h
    simp only [go_sem, Try.ntmps28, Try.results28, g_0]
    refine seqQ_normal hQ6 ?_
    refine vc_seq_gen (by kernel_rfl) ?_
    intro QQ7 hQ7
    have rf_0 : [[.v (.int .i64 (-1))]] = enc ([-1] : List Int) := by rfl
    have rf_1 : [[.v (.int .i64 0)]] = enc ([0] : List Int) := by rfl
    simp only [go_sem, Try.ntmps28, Try.results28]
    simp only [rf_0, rf_1]
    refine seqQ_normal hQ7 ?_
    refine vc_join (by kernel_rfl) ?_
    refine seq_cut_gen (ι := GGraph_reader × (List Int) × (List Int)) (fun ((b_3, a_4, a_5) : GGraph_reader × (List Int) × (List Int)) => (⟨0, [(2, .ptr 0 0), (5, .ptr 1 0), (6, .ptr 2 0)], [(0, .box [.v (.slice none 0 0), .v (.slice none 0 0), .v (.slice none 0 0), .v (.slice none 0 0)]), (1, .box [.sl 1 (enc b_3.b), .v (.int .i64 b_3.e)]), (2, .box [.osl 3 1 (0) (List.length a_4), .osl 4 1 (0) (List.length a_5), .v (.slice none 0 0), .v (.slice none 0 0)]), (3, .arr 1 (enc a_4)), (4, .arr 1 (enc a_5))], 5, 111⟩ : St)) (fun ((b_3, a_4, a_5) : GGraph_reader × (List Int) × (List Int)) => f_graph_Read_J1 b_3 a_4 a_5 = some r) ?_ ?_
    ·
      intro QQ30 hQ30
      refine vc_seq_gen (by kernel_rfl) ?_
      intro QQ31 hQ31
      obtain ⟨v_26, ev_26, h⟩ := bindO_some h
      simp only [go_sem, Try.ntmps28, Try.results28]
      refine callm (id := 1) (f_graph_reader_count_ok (⟨List.drop (Int.toNat 3) (List.take (List.length b_0) b_0), 0⟩ : GGraph_reader) 1 8 v_26 ev_26) rfl (by simp) (by simp) rfl rfl rfl rfl rfl rfl ?_
      simp only [go_sem, Try.ntmps28, Try.results28]
      refine seqQ_normal hQ31 ?_
      refine vc_block_gen ?_
      intro QQ32 hQ32
      refine vc_loop_of ?_
      refine loop_gen (ι := Nat × Int × GGraph_reader × (List Int) × (List Int)) (fun ((_, nv_11, b_16, a_18, a_19) : Nat × Int × GGraph_reader × (List Int) × (List Int)) => (⟨0, [(2, .ptr 0 0), (5, .ptr 1 0), (6, .ptr 2 0), (7, .v (.int .i64 nv_11))], [(0, .box [.v (.slice none 0 0), .v (.slice none 0 0), .v (.slice none 0 0), .v (.slice none 0 0)]), (1, .box [.sl 1 (enc b_16.b), .v (.int .i64 b_16.e)]), (2, .box [.osl 3 1 (0) (List.length a_18), .osl 4 1 (0) (List.length a_19), .v (.slice none 0 0), .v (.slice none 0 0)]), (3, .arr 1 (enc a_18)), (4, .arr 1 (enc a_19))], 5, 111⟩ : St)) (fun ((n_, nv_11, b_16, a_18, a_19) : Nat × Int × GGraph_reader × (List Int) × (List Int)) => loopK (f_graph_Read_B7) n_ (nv_11, b_16, a_18, a_19) = some r) (fun p => p.1) (rounds, v_26.1, v_26.2, ([-1] : List Int), ([0] : List Int)) [some 0, some 1, some 4, some 2, some 3] ?_ h ?_
      · simp only [go_sem, Le] <;> (repeat' apply And.intro) <;> first | rfl | omega | (simp [go_sem]; done)
      · rintro ⟨n_7, nv_11, b_16, a_18, a_19⟩ h QQ33 hQ33
        dsimp only at h
        replace h := loopK_some h
        obtain ⟨m_7, rfl, h⟩ := h
        rw [f_graph_Read_B7] at h
        refine vc_seq_gen (by kernel_rfl) ?_
        intro QQ34 hQ34
        refine vc_seq_gen (by kernel_rfl) ?_
        intro QQ35 hQ35
        simp only [go_sem, Try.ntmps28, Try.results28]
        refine seqQ_normal hQ35 ?_
        refine vc_cond_of (b := ((decide (1 < nv_11)) && (b_16.e == 0))) (by (simp only [go_sem]; done)) (fun hb_21 => ?_) (fun hb_21 => ?_)
        ·
          replace h := if_t h hb_21
          simp only [decide_eq_true_eq, decide_eq_false_iff_not, Bool.not_eq_true', Bool.not_eq_false', beq_iff_eq, beq_eq_false_iff_ne, ne_eq, Bool.and_eq_true, Bool.or_eq_true, Int.not_lt, Int.not_le] at hb_21
          refine vc_skip_of ?_
          refine seqQ_normal hQ34 ?_
          refine vc_seq_gen (by kernel_rfl) ?_
          intro QQ36 hQ36
          refine vc_block_gen ?_
          intro QQ37 hQ37
          refine vc_seq_gen (by kernel_rfl) ?_
          intro QQ38 hQ38
          obtain ⟨v_31, ev_31, h⟩ := bindO_some h
          simp only [go_sem, Try.ntmps28, Try.results28]
          refine callm (id := 1) (f_graph_reader_small_ok b_16 v_31 ev_31) rfl (by simp) (by simp) rfl rfl rfl rfl rfl rfl ?_
          simp only [go_sem, Try.ntmps28, Try.results28]
          refine seqQ_normal hQ38 ?_
          refine vc_draw ?_
          refine drawV_all 12 0 [0, 1, 0, 4, 15, 0, 32, 0, 159, 415, 1023, 127, 4095, 8191, 16383] [1, 3, 4, 5, 6] [5, 6, 7, 11] [4, 8, 10] [] mixed (by kernel_rfl) (of_decide_eq_true (by kernel_rfl)) (by kernel_rfl) (by kernel_rfl) (by rfl) ?_
          have rf_42 : [[.v (.int .i64 v_31.1)]] = enc ([v_31.1] : List Int) := by rfl
          obtain ⟨g_23, h⟩ := guardO_some h
          simp only [List.length_cons, List.length_nil, Nat.zero_add, List.length_append] at g_23
          have rf_43 : enc a_18 ++ [[.v (.int .i64 v_31.1)]] = enc (a_18 ++ ([v_31.1] : List Int)) := by exact (enc_app a_18 ([v_31.1] : List Int)).symm
          obtain ⟨v_32, ev_32, h⟩ := bindO_some h
          simp only [go_sem, Try.ntmps28, Try.results28, g_23, rf_43]
          refine And.intro (by omega) ?_
          refine And.intro (by omega) ?_
          simp only [rf_42]
          refine callE_of (id := 1) (f_graph_reader_small_ok v_31.2 v_32 ev_32) rfl (by simp) rfl rfl rfl rfl rfl rfl ?_
          have rf_44 : [[.v (.int .i64 v_32.1)]] = enc ([v_32.1] : List Int) := by rfl
          obtain ⟨g_24, h⟩ := guardO_some h
          simp only [List.length_cons, List.length_nil, Nat.zero_add, List.length_append] at g_24
          have rf_45 : enc a_19 ++ [[.v (.int .i64 v_32.1)]] = enc (a_19 ++ ([v_32.1] : List Int)) := by exact (enc_app a_19 ([v_32.1] : List Int)).symm
          simp only [go_sem, Try.ntmps28, Try.results28, g_24, rf_45]
          refine And.intro (by omega) ?_
          simp only [rf_44]
          refine blockQ_normal hQ37 ?_
          refine seqQ_normal hQ36 ?_
          simp only [go_sem, Try.ntmps28, Try.results28]
          refine thenQ_normal hQ33 ?_
          refine ⟨(m_7, IntKind.i64.wrap (nv_11 - 1), v_32.2, (a_18 ++ ([v_31.1] : List Int)), (a_19 ++ ([v_32.1] : List Int))), [some 0, some 1, some 2, some 5, some 6], ?_, h, Nat.lt_succ_self _⟩
          simp only [go_sem, Le] <;> (repeat' apply And.intro) <;> first | rfl | omega | (simp [go_sem]; done)
        ·
          replace h := if_f h hb_21
          refine vc_exit_of ?_
          refine seqQ_exit hQ34 ?_
          refine thenQ_exit hQ33 ?_
          refine blockQ_exit hQ32 ?_
          refine thenQ_normal hQ30 ?_
          refine ⟨(b_16, a_18, a_19), [some 0, some 1, some 2, some 3, some 4], ?_, h⟩
          simp only [go_sem, Le] <;> (repeat' apply And.intro) <;> first | rfl | omega | (simp [go_sem]; done)
    · rintro ⟨b_3, a_4, a_5⟩ h
      try dsimp only at h
      rw [f_graph_Read_J1] at h
      refine vc_join (by kernel_rfl) ?_
      refine seq_cut_gen (ι := GGraph_reader × (List GNode)) (fun ((b_6, a_8) : GGraph_reader × (List GNode)) => (⟨0, [(2, .ptr 0 0), (5, .ptr 1 0), (6, .ptr 2 0)], [(0, .box [.v (.slice none 0 0), .v (.slice none 0 0), .v (.slice none 0 0), .v (.slice none 0 0)]), (1, .box [.sl 1 (enc b_6.b), .v (.int .i64 b_6.e)]), (2, .box [.osl 3 1 (0) (List.length a_4), .osl 4 1 (0) (List.length a_5), .osl 5 4 (0) (List.length a_8), .v (.slice none 0 0)]), (3, .arr 1 (enc a_4)), (4, .arr 1 (enc a_5)), (5, .arr 4 (enc a_8))], 6, 111⟩ : St)) (fun ((b_6, a_8) : GGraph_reader × (List GNode)) => f_graph_Read_J2 a_4 a_5 b_6 a_8 = some r) ?_ ?_
      ·
        intro QQ22 hQ22
        refine vc_seq_gen (by kernel_rfl) ?_
        intro QQ23 hQ23
        obtain ⟨v_22, ev_22, h⟩ := bindO_some h
        simp only [go_sem, Try.ntmps28, Try.results28]
        refine callm (id := 1) (f_graph_reader_count_ok b_3 0 32 v_22 ev_22) rfl (by simp) (by simp) rfl rfl rfl rfl rfl rfl ?_
        simp only [go_sem, Try.ntmps28, Try.results28]
        refine seqQ_normal hQ23 ?_
        refine vc_block_gen ?_
        intro QQ24 hQ24
        refine vc_loop_of ?_
        refine loop_gen (ι := Nat × Int × GGraph_reader × (List GNode)) (fun ((_, nv_9, b_14, a_15) : Nat × Int × GGraph_reader × (List GNode)) => (⟨0, [(2, .ptr 0 0), (5, .ptr 1 0), (6, .ptr 2 0), (9, .v (.int .i64 nv_9))], [(0, .box [.v (.slice none 0 0), .v (.slice none 0 0), .v (.slice none 0 0), .v (.slice none 0 0)]), (1, .box [.sl 1 (enc b_14.b), .v (.int .i64 b_14.e)]), (2, .box [.osl 3 1 (0) (List.length a_4), .osl 4 1 (0) (List.length a_5), .osl 5 4 (0) (List.length a_15), .v (.slice none 0 0)]), (3, .arr 1 (enc a_4)), (4, .arr 1 (enc a_5)), (5, .arr 4 (enc a_15))], 6, 111⟩ : St)) (fun ((n_, nv_9, b_14, a_15) : Nat × Int × GGraph_reader × (List GNode)) => loopK (f_graph_Read_B6 a_4 a_5) n_ (nv_9, b_14, a_15) = some r) (fun p => p.1) (rounds, v_22.1, v_22.2, []) [some 0, some 1, some 2, some 3, some 4, none] ?_ h ?_
        · simp only [go_sem, Le] <;> (repeat' apply And.intro) <;> first | rfl | omega | (simp [go_sem]; done)
        · rintro ⟨n_6, nv_9, b_14, a_15⟩ h QQ25 hQ25
          dsimp only at h
          replace h := loopK_some h
          obtain ⟨m_6, rfl, h⟩ := h
          rw [f_graph_Read_B6] at h
          refine vc_seq_gen (by kernel_rfl) ?_
          intro QQ26 hQ26
          refine vc_seq_gen (by kernel_rfl) ?_
          intro QQ27 hQ27
          simp only [go_sem, Try.ntmps28, Try.results28]
          refine seqQ_normal hQ27 ?_
          refine vc_cond_of (b := ((decide (0 < nv_9)) && (b_14.e == 0))) (by (simp only [go_sem]; done)) (fun hb_18 => ?_) (fun hb_18 => ?_)
          ·
            replace h := if_t h hb_18
            simp only [decide_eq_true_eq, decide_eq_false_iff_not, Bool.not_eq_true', Bool.not_eq_false', beq_iff_eq, beq_eq_false_iff_ne, ne_eq, Bool.and_eq_true, Bool.or_eq_true, Int.not_lt, Int.not_le] at hb_18
            refine vc_skip_of ?_
            refine seqQ_normal hQ26 ?_
            refine vc_seq_gen (by kernel_rfl) ?_
            intro QQ28 hQ28
            refine vc_block_gen ?_
            intro QQ29 hQ29
            refine vc_draw ?_
            refine drawV_all 5 0 [0, 1, 0, 4, 12, 31, 63, 127] [1] [0, 1] [3] [] mixed (by kernel_rfl) (of_decide_eq_true (by kernel_rfl)) (by kernel_rfl) (by kernel_rfl) (by rfl) ?_
            obtain ⟨v_25, ev_25, h⟩ := bindO_some h
            simp only [go_sem, Try.ntmps28, Try.results28]
            refine callE_of (id := 1) (f_graph_reader_node_ok b_14 v_25 ev_25) rfl (by simp) rfl rfl rfl rfl rfl rfl ?_
            have rf_32 : [[.v (.int .i64 v_25.1.Kind), .v (.int .i64 v_25.1.Scope), .v (.int .i64 v_25.1.Arg), .sl 2 (enc v_25.1.Prog)]] = enc ([v_25.1] : List GNode) := by rfl
            obtain ⟨g_18, h⟩ := guardO_some h
            simp only [List.length_cons, List.length_nil, Nat.zero_add, List.length_append] at g_18
            have rf_33 : enc a_15 ++ [[.v (.int .i64 v_25.1.Kind), .v (.int .i64 v_25.1.Scope), .v (.int .i64 v_25.1.Arg), .sl 2 (enc v_25.1.Prog)]] = enc (a_15 ++ ([v_25.1] : List GNode)) := by exact (enc_app a_15 ([v_25.1] : List GNode)).symm
            simp only [go_sem, Try.ntmps28, Try.results28, g_18, rf_33]
            refine And.intro (by omega) ?_
            refine And.intro (by omega) ?_
            simp only [rf_32]
            refine blockQ_normal hQ29 ?_
            refine seqQ_normal hQ28 ?_
            simp only [go_sem, Try.ntmps28, Try.results28]
            refine thenQ_normal hQ25 ?_
            refine ⟨(m_6, IntKind.i64.wrap (nv_9 - 1), v_25.2, (a_15 ++ ([v_25.1] : List GNode))), [some 0, some 1, some 2, some 3, some 4, some 6], ?_, h, Nat.lt_succ_self _⟩
            simp only [go_sem, Le] <;> (repeat' apply And.intro) <;> first | rfl | omega | (simp [go_sem]; done)
          ·
            replace h := if_f h hb_18
            refine vc_exit_of ?_
            refine seqQ_exit hQ26 ?_
            refine thenQ_exit hQ25 ?_
            refine blockQ_exit hQ24 ?_
            refine thenQ_normal hQ22 ?_
            refine ⟨(b_14, a_15), [some 0, some 1, some 2, some 3, some 4, some 5], ?_, h⟩
            simp only [go_sem, Le] <;> (repeat' apply And.intro) <;> first | rfl | omega | (simp [go_sem]; done)
      · rintro ⟨b_6, a_8⟩ h
        try dsimp only at h
        rw [f_graph_Read_J2] at h
        refine vc_join (by kernel_rfl) ?_
        refine seq_cut_gen (ι := GGraph_reader × (List GEdge)) (fun ((b_9, a_11) : GGraph_reader × (List GEdge)) => (⟨0, [(2, .ptr 0 0), (5, .ptr 1 0), (6, .ptr 2 0)], [(0, .box [.v (.slice none 0 0), .v (.slice none 0 0), .v (.slice none 0 0), .v (.slice none 0 0)]), (1, .box [.sl 1 (enc b_9.b), .v (.int .i64 b_9.e)]), (2, .box [.osl 3 1 (0) (List.length a_4), .osl 4 1 (0) (List.length a_5), .osl 5 4 (0) (List.length a_8), .osl 6 4 (0) (List.length a_11)]), (3, .arr 1 (enc a_4)), (4, .arr 1 (enc a_5)), (5, .arr 4 (enc a_8)), (6, .arr 4 (enc a_11))], 7, 111⟩ : St)) (fun ((b_9, a_11) : GGraph_reader × (List GEdge)) => f_graph_Read_J3 a_4 a_5 a_8 b_9 a_11 = some r) ?_ ?_
        ·
          intro QQ14 hQ14
          refine vc_seq_gen (by kernel_rfl) ?_
          intro QQ15 hQ15
          obtain ⟨v_18, ev_18, h⟩ := bindO_some h
          simp only [go_sem, Try.ntmps28, Try.results28]
          refine callm (id := 1) (f_graph_reader_count_ok b_6 0 64 v_18 ev_18) rfl (by simp) (by simp) rfl rfl rfl rfl rfl rfl ?_
          simp only [go_sem, Try.ntmps28, Try.results28]
          refine seqQ_normal hQ15 ?_
          refine vc_block_gen ?_
          intro QQ16 hQ16
          refine vc_loop_of ?_
          refine loop_gen (ι := Nat × Int × GGraph_reader × (List GEdge)) (fun ((_, nv_7, b_12, a_13) : Nat × Int × GGraph_reader × (List GEdge)) => (⟨0, [(2, .ptr 0 0), (5, .ptr 1 0), (6, .ptr 2 0), (10, .v (.int .i64 nv_7))], [(0, .box [.v (.slice none 0 0), .v (.slice none 0 0), .v (.slice none 0 0), .v (.slice none 0 0)]), (1, .box [.sl 1 (enc b_12.b), .v (.int .i64 b_12.e)]), (2, .box [.osl 3 1 (0) (List.length a_4), .osl 4 1 (0) (List.length a_5), .osl 5 4 (0) (List.length a_8), .osl 6 4 (0) (List.length a_13)]), (3, .arr 1 (enc a_4)), (4, .arr 1 (enc a_5)), (5, .arr 4 (enc a_8)), (6, .arr 4 (enc a_13))], 7, 111⟩ : St)) (fun ((n_, nv_7, b_12, a_13) : Nat × Int × GGraph_reader × (List GEdge)) => loopK (f_graph_Read_B5 a_4 a_5 a_8) n_ (nv_7, b_12, a_13) = some r) (fun p => p.1) (rounds, v_18.1, v_18.2, []) [some 0, some 1, some 2, some 3, some 4, some 5, none] ?_ h ?_
          · simp only [go_sem, Le] <;> (repeat' apply And.intro) <;> first | rfl | omega | (simp [go_sem]; done)
          · rintro ⟨n_5, nv_7, b_12, a_13⟩ h QQ17 hQ17
            dsimp only at h
            replace h := loopK_some h
            obtain ⟨m_5, rfl, h⟩ := h
            rw [f_graph_Read_B5] at h
            refine vc_seq_gen (by kernel_rfl) ?_
            intro QQ18 hQ18
            refine vc_seq_gen (by kernel_rfl) ?_
            intro QQ19 hQ19
            simp only [go_sem, Try.ntmps28, Try.results28]
            refine seqQ_normal hQ19 ?_
            refine vc_cond_of (b := ((decide (0 < nv_7)) && (b_12.e == 0))) (by (simp only [go_sem]; done)) (fun hb_15 => ?_) (fun hb_15 => ?_)
            ·
              replace h := if_t h hb_15
              simp only [decide_eq_true_eq, decide_eq_false_iff_not, Bool.not_eq_true', Bool.not_eq_false', beq_iff_eq, beq_eq_false_iff_ne, ne_eq, Bool.and_eq_true, Bool.or_eq_true, Int.not_lt, Int.not_le] at hb_15
              refine vc_skip_of ?_
              refine seqQ_normal hQ18 ?_
              refine vc_seq_gen (by kernel_rfl) ?_
              intro QQ20 hQ20
              refine vc_block_gen ?_
              intro QQ21 hQ21
              refine vc_draw ?_
              refine drawV_all 5 0 [0, 1, 0, 4, 12, 31, 63, 127] [1] [0, 1] [3] [] mixed (by kernel_rfl) (of_decide_eq_true (by kernel_rfl)) (by kernel_rfl) (by kernel_rfl) (by rfl) ?_
              obtain ⟨v_21, ev_21, h⟩ := bindO_some h
              simp only [go_sem, Try.ntmps28, Try.results28]
              refine callE_of (id := 1) (f_graph_reader_edge_ok b_12 v_21 ev_21) rfl (by simp) rfl rfl rfl rfl rfl rfl ?_
              have rf_27 : [[.v (.int .i64 v_21.1.From), .v (.int .i64 v_21.1.To), .v (.int .i64 v_21.1.Port), .v (.bool v_21.1.Exchange)]] = enc ([v_21.1] : List GEdge) := by rfl
              obtain ⟨g_15, h⟩ := guardO_some h
              simp only [List.length_cons, List.length_nil, Nat.zero_add, List.length_append] at g_15
              have rf_28 : enc a_13 ++ [[.v (.int .i64 v_21.1.From), .v (.int .i64 v_21.1.To), .v (.int .i64 v_21.1.Port), .v (.bool v_21.1.Exchange)]] = enc (a_13 ++ ([v_21.1] : List GEdge)) := by exact (enc_app a_13 ([v_21.1] : List GEdge)).symm
              simp only [go_sem, Try.ntmps28, Try.results28, g_15, rf_28]
              refine And.intro (by omega) ?_
              refine And.intro (by omega) ?_
              simp only [rf_27]
              refine blockQ_normal hQ21 ?_
              refine seqQ_normal hQ20 ?_
              simp only [go_sem, Try.ntmps28, Try.results28]
              refine thenQ_normal hQ17 ?_
              refine ⟨(m_5, IntKind.i64.wrap (nv_7 - 1), v_21.2, (a_13 ++ ([v_21.1] : List GEdge))), [some 0, some 1, some 2, some 3, some 4, some 5, some 7], ?_, h, Nat.lt_succ_self _⟩
              simp only [go_sem, Le] <;> (repeat' apply And.intro) <;> first | rfl | omega | (simp [go_sem]; done)
            ·
              replace h := if_f h hb_15
              refine vc_exit_of ?_
              refine seqQ_exit hQ18 ?_
              refine thenQ_exit hQ17 ?_
              refine blockQ_exit hQ16 ?_
              refine thenQ_normal hQ14 ?_
              refine ⟨(b_12, a_13), [some 0, some 1, some 2, some 3, some 4, some 5, some 6], ?_, h⟩
              simp only [go_sem, Le] <;> (repeat' apply And.intro) <;> first | rfl | omega | (simp [go_sem]; done)
        · rintro ⟨b_9, a_11⟩ h
          try dsimp only at h
          rw [f_graph_Read_J3] at h
          refine vc_join (by kernel_rfl) ?_
          refine seq_cut_gen (ι := GGraph_reader) (fun (b_10 : GGraph_reader) => (⟨0, [(2, .ptr 0 0), (5, .ptr 1 0), (6, .ptr 2 0)], [(0, .box [.v (.slice none 0 0), .v (.slice none 0 0), .v (.slice none 0 0), .v (.slice none 0 0)]), (1, .box [.sl 1 (enc b_10.b), .v (.int .i64 b_10.e)]), (2, .box [.osl 3 1 (0) (List.length a_4), .osl 4 1 (0) (List.length a_5), .osl 5 4 (0) (List.length a_8), .osl 6 4 (0) (List.length a_11)]), (3, .arr 1 (enc a_4)), (4, .arr 1 (enc a_5)), (5, .arr 4 (enc a_8)), (6, .arr 4 (enc a_11))], 7, 111⟩ : St)) (fun (b_10 : GGraph_reader) => f_graph_Read_J4 a_4 a_5 a_8 a_11 b_10 = some r) ?_ ?_
          ·
            intro QQ12 hQ12
            refine vc_seq_gen (by kernel_rfl) ?_
            intro QQ13 hQ13
            simp only [go_sem, Try.ntmps28, Try.results28]
            refine seqQ_normal hQ13 ?_
            refine vc_cond_of (b := (decide (0 < (List.length b_9.b : Int)))) (by (simp only [go_sem]; done)) (fun hb_12 => ?_) (fun hb_12 => ?_)
            ·
              replace h := if_t h hb_12
              simp only [decide_eq_true_eq, decide_eq_false_iff_not, Bool.not_eq_true', Bool.not_eq_false', beq_iff_eq, beq_eq_false_iff_ne, ne_eq, Bool.and_eq_true, Bool.or_eq_true, Int.not_lt, Int.not_le] at hb_12
              obtain ⟨v_17, ev_17, h⟩ := bindO_some h
              simp only [go_sem, Try.ntmps28, Try.results28]
              refine callm (id := 1) (f_graph_reader_fail_ok b_9 4 v_17 ev_17) rfl (by simp) (by simp) rfl rfl rfl rfl rfl rfl ?_
              simp only [go_sem, Try.ntmps28, Try.results28]
              refine thenQ_normal hQ12 ?_
              refine ⟨v_17, [some 0, some 1, some 2, some 3, some 4, some 5, some 6], ?_, h⟩
              simp only [go_sem, Le] <;> (repeat' apply And.intro) <;> first | rfl | omega | (simp [go_sem]; done)
            ·
              replace h := if_f h hb_12
              simp only [decide_eq_true_eq, decide_eq_false_iff_not, Bool.not_eq_true', Bool.not_eq_false', beq_iff_eq, beq_eq_false_iff_ne, ne_eq, Bool.and_eq_true, Bool.or_eq_true, Int.not_lt, Int.not_le] at hb_12
              refine vc_skip_of ?_
              refine thenQ_normal hQ12 ?_
              refine ⟨b_9, [some 0, some 1, some 2, some 3, some 4, some 5, some 6], ?_, h⟩
              simp only [go_sem, Le] <;> (repeat' apply And.intro) <;> first | rfl | omega | (simp [go_sem]; done)
          · rintro b_10 h
            try dsimp only at h
            rw [f_graph_Read_J4] at h
            refine vc_seq_gen (by kernel_rfl) ?_
            intro QQ8 hQ8
            refine vc_seq_gen (by kernel_rfl) ?_
            intro QQ9 hQ9
            simp only [go_sem, Try.ntmps28, Try.results28]
            refine seqQ_normal hQ9 ?_
            refine vc_cond_of (b := (!(b_10.e == 0))) (by (simp only [go_sem]; done)) (fun hb_11 => ?_) (fun hb_11 => ?_)
            ·
              replace h := if_t h hb_11
              simp only [decide_eq_true_eq, decide_eq_false_iff_not, Bool.not_eq_true', Bool.not_eq_false', beq_iff_eq, beq_eq_false_iff_ne, ne_eq, Bool.and_eq_true, Bool.or_eq_true, Int.not_lt, Int.not_le] at hb_11
              refine vc_seq_gen (by kernel_rfl) ?_
              intro QQ10 hQ10
              refine vc_draw ?_
              refine drawV_all 6 0 [0, 0, 2, 6, 14, 1, 63] [] [1, 2, 3, 4] [5] [] mixed (by kernel_rfl) (of_decide_eq_true (by kernel_rfl)) (by kernel_rfl) (by kernel_rfl) (by rfl) ?_
              simp only [go_sem, Try.ntmps28, Try.results28]
              refine seqQ_normal hQ10 ?_
              refine vc_ret_of ?_
              refine seqQ_ret hQ8 ?_
              simp only [go_sem, Try.ntmps28, Try.results28]
              obtain rfl := Option.some.inj h
              refine retW_pure rfl ?_
              simp only [go_sem, Le]
            ·
              replace h := if_f h hb_11
              simp only [decide_eq_true_eq, decide_eq_false_iff_not, Bool.not_eq_true', Bool.not_eq_false', beq_iff_eq, beq_eq_false_iff_ne, ne_eq, Bool.and_eq_true, Bool.or_eq_true, Int.not_lt, Int.not_le] at hb_11
              refine vc_skip_of ?_
              refine seqQ_normal hQ8 ?_
              refine vc_seq_gen (by kernel_rfl) ?_
              intro QQ11 hQ11
              simp only [go_sem, Try.ntmps28, Try.results28]
              refine seqQ_normal hQ11 ?_
              refine vc_ret_of ?_
              simp only [go_sem, Try.ntmps28, Try.results28]
              obtain rfl := Option.some.inj h
              refine retW_pure rfl ?_
              simp only [go_sem, Le] <;> (repeat' apply And.intro) <;> (simp [go_sem]; done)
end Go.Proofs.Ytngeldeahafcfaa

namespace Go.Proofs.Ytngeldeahafcfaa
open Go Go.RowKit
set_option maxHeartbeats 2000000
set_option maxRecDepth 100000
set_option linter.unusedSimpArgs false
set_option linter.unusedVariables false
def f_backwashref08_walk_num (w_0 : GBackwashref08_walk) (least_0 : Int) (most_0 : Int) (bad_0 : Int) : Option (Int × GBackwashref08_walk) :=
  (if (!(w_0.e == 0)) = true then some (0, w_0)
  else guardO (0 ≤ w_0.at_ ∧ w_0.at_ ≤ (List.length w_0.b : Int) ∧ (List.length w_0.b : Int) ≤ (List.length w_0.b : Int)) (
  bindO (f_backwashref06_ReadUint (List.drop (Int.toNat w_0.at_) (List.take (List.length w_0.b) w_0.b))) (fun (v_0 : Int × Int × Int) =>
  (if (!(v_0.2.2 == 0)) = true then some (0, (⟨w_0.b, w_0.at_, v_0.2.2⟩ : GBackwashref08_walk))
  else (if ((decide (v_0.1 < least_0)) || (decide (most_0 < v_0.1))) = true then some (0, (⟨w_0.b, IntKind.i64.wrap (w_0.at_ + v_0.2.1), bad_0⟩ : GBackwashref08_walk))
  else some (IntKind.i64.wrap v_0.1, (⟨w_0.b, IntKind.i64.wrap (w_0.at_ + v_0.2.1), w_0.e⟩ : GBackwashref08_walk)))))))
theorem f_backwashref08_walk_num_ok (w_0 : GBackwashref08_walk) (least_0 : Int) (most_0 : Int) (bad_0 : Int)  (r : Int × GBackwashref08_walk) (h : f_backwashref08_walk_num w_0 least_0 most_0 bad_0 = some r) : MutS Try.prog 50 (fun i_ => [.ptr i_ 0, .v (.int .u64 least_0), .v (.int .u64 most_0), .v (.int .i64 bad_0)]) [.sl 1 (enc w_0.b), .v (.int .i64 w_0.at_), .v (.int .i64 w_0.e)] (.v (.int .i64 r.1)) [.sl 1 (enc r.2.b), .v (.int .i64 r.2.at_), .v (.int .i64 r.2.e)] := by
  unfold MutS; dsimp only
  refine Spec.of_vc Try.func50 rfl (by kernel_rfl) (by kernel_rfl) ?_
  rw [f_backwashref08_walk_num] at h
  refine vc_seq_gen (by kernel_rfl) ?_
  intro QQ1 hQ1
  simp only [go_sem, Try.ntmps50, Try.results50]
  refine seqQ_normal hQ1 ?_
  refine vc_seq_gen (by kernel_rfl) ?_
  intro QQ2 hQ2
  refine vc_seq_gen (by kernel_rfl) ?_
  intro QQ3 hQ3
  simp only [go_sem, Try.ntmps50, Try.results50]
  refine seqQ_normal hQ3 ?_
  refine vc_cond_of (b := (!(w_0.e == 0))) (by (simp only [go_sem]; done)) (fun hb_0 => ?_) (fun hb_0 => ?_)
  ·
    replace h := if_t h hb_0
    simp only [decide_eq_true_eq, decide_eq_false_iff_not, Bool.not_eq_true', Bool.not_eq_false', beq_iff_eq, beq_eq_false_iff_ne, ne_eq, Bool.and_eq_true, Bool.or_eq_true, Int.not_lt, Int.not_le] at hb_0
    refine vc_seq_gen (by kernel_rfl) ?_
    intro QQ4 hQ4
    simp only [go_sem, Try.ntmps50, Try.results50]
    refine seqQ_normal hQ4 ?_
    refine vc_ret_of ?_
    refine seqQ_ret hQ2 ?_
    simp only [go_sem, Try.ntmps50, Try.results50]
    obtain rfl := Option.some.inj h
    refine retW_mut rfl ?_
    simp only [go_sem, Le]
  ·
    replace h := if_f h hb_0
    simp only [decide_eq_true_eq, decide_eq_false_iff_not, Bool.not_eq_true', Bool.not_eq_false', beq_iff_eq, beq_eq_false_iff_ne, ne_eq, Bool.and_eq_true, Bool.or_eq_true, Int.not_lt, Int.not_le] at hb_0
    refine vc_skip_of ?_
    refine seqQ_normal hQ2 ?_
    refine vc_seq_gen (by kernel_rfl) ?_
    intro QQ5 hQ5
    refine vc_draw ?_
    refine drawM_tail 16 [0, 1, 3, 7, 0, 16, 48, 112, 255, 511, 1023, 2047, 2047, 2047, 4095, 24575, 65535] mixed (by kernel_rfl) (of_decide_eq_true (by kernel_rfl)) (by kernel_rfl) ?_
    obtain ⟨g_0, h⟩ := guardO_some h
    obtain ⟨v_0, ev_0, h⟩ := bindO_some h
    simp only [go_sem, Try.ntmps50, Try.results50, g_0]
    refine callq (fun _ => (f_backwashref06_ReadUint_ok (List.drop (Int.toNat w_0.at_) (List.take (List.length w_0.b) w_0.b)) v_0 ev_0)) (by rfl) (by rfl) ?_
    simp only [go_sem, Try.ntmps50, Try.results50]
    refine seqQ_normal hQ5 ?_
    refine vc_seq_gen (by kernel_rfl) ?_
    intro QQ6 hQ6
    refine vc_seq_gen (by kernel_rfl) ?_
    intro QQ7 hQ7
    simp only [go_sem, Try.ntmps50, Try.results50]
    refine seqQ_normal hQ7 ?_
    refine vc_cond_of (b := (!(v_0.2.2 == 0))) (by (simp only [go_sem]; done)) (fun hb_1 => ?_) (fun hb_1 => ?_)
    ·
      replace h := if_t h hb_1
      simp only [decide_eq_true_eq, decide_eq_false_iff_not, Bool.not_eq_true', Bool.not_eq_false', beq_iff_eq, beq_eq_false_iff_ne, ne_eq, Bool.and_eq_true, Bool.or_eq_true, Int.not_lt, Int.not_le] at hb_1
      refine vc_seq_gen (by kernel_rfl) ?_
      intro QQ8 hQ8
      simp only [go_sem, Try.ntmps50, Try.results50]
      refine seqQ_normal hQ8 ?_
      refine vc_seq_gen (by kernel_rfl) ?_
      intro QQ9 hQ9
      simp only [go_sem, Try.ntmps50, Try.results50]
      refine seqQ_normal hQ9 ?_
      refine vc_ret_of ?_
      refine seqQ_ret hQ6 ?_
      simp only [go_sem, Try.ntmps50, Try.results50]
      obtain rfl := Option.some.inj h
      refine retW_mut rfl ?_
      simp only [go_sem, Le]
    ·
      replace h := if_f h hb_1
      simp only [decide_eq_true_eq, decide_eq_false_iff_not, Bool.not_eq_true', Bool.not_eq_false', beq_iff_eq, beq_eq_false_iff_ne, ne_eq, Bool.and_eq_true, Bool.or_eq_true, Int.not_lt, Int.not_le] at hb_1
      refine vc_skip_of ?_
      refine seqQ_normal hQ6 ?_
      refine vc_seq_gen (by kernel_rfl) ?_
      intro QQ10 hQ10
      simp only [go_sem, Try.ntmps50, Try.results50]
      refine seqQ_normal hQ10 ?_
      refine vc_seq_gen (by kernel_rfl) ?_
      intro QQ11 hQ11
      refine vc_seq_gen (by kernel_rfl) ?_
      intro QQ12 hQ12
      simp only [go_sem, Try.ntmps50, Try.results50]
      refine seqQ_normal hQ12 ?_
      refine vc_cond_of (b := ((decide (v_0.1 < least_0)) || (decide (most_0 < v_0.1)))) (by (simp only [go_sem]; done)) (fun hb_2 => ?_) (fun hb_2 => ?_)
      ·
        replace h := if_t h hb_2
        simp only [decide_eq_true_eq, decide_eq_false_iff_not, Bool.not_eq_true', Bool.not_eq_false', beq_iff_eq, beq_eq_false_iff_ne, ne_eq, Bool.and_eq_true, Bool.or_eq_true, Int.not_lt, Int.not_le] at hb_2
        refine vc_seq_gen (by kernel_rfl) ?_
        intro QQ13 hQ13
        simp only [go_sem, Try.ntmps50, Try.results50]
        refine seqQ_normal hQ13 ?_
        refine vc_seq_gen (by kernel_rfl) ?_
        intro QQ14 hQ14
        simp only [go_sem, Try.ntmps50, Try.results50]
        refine seqQ_normal hQ14 ?_
        refine vc_ret_of ?_
        refine seqQ_ret hQ11 ?_
        simp only [go_sem, Try.ntmps50, Try.results50]
        obtain rfl := Option.some.inj h
        refine retW_mut rfl ?_
        simp only [go_sem, Le]
      ·
        replace h := if_f h hb_2
        refine vc_skip_of ?_
        refine seqQ_normal hQ11 ?_
        refine vc_seq_gen (by kernel_rfl) ?_
        intro QQ15 hQ15
        simp only [go_sem, Try.ntmps50, Try.results50]
        refine seqQ_normal hQ15 ?_
        refine vc_ret_of ?_
        simp only [go_sem, Try.ntmps50, Try.results50]
        obtain rfl := Option.some.inj h
        refine retW_mut rfl ?_
        simp only [go_sem, Le]
end Go.Proofs.Ytngeldeahafcfaa

namespace Go.Proofs.Ytngeldeahafcfaa
open Go Go.RowKit
set_option maxHeartbeats 2000000
set_option maxRecDepth 100000
set_option linter.unusedSimpArgs false
set_option linter.unusedVariables false
def f_backwashref08_walk_sign (w_0 : GBackwashref08_walk) : Option (Int × GBackwashref08_walk) :=
  (if (!(w_0.e == 0)) = true then some (0, w_0)
  else guardO (0 ≤ w_0.at_ ∧ w_0.at_ ≤ (List.length w_0.b : Int) ∧ (List.length w_0.b : Int) ≤ (List.length w_0.b : Int)) (
  bindO (f_backwashref06_ReadInt (List.drop (Int.toNat w_0.at_) (List.take (List.length w_0.b) w_0.b))) (fun (v_0 : Int × Int × Int) =>
  (if (!(v_0.2.2 == 0)) = true then some (0, (⟨w_0.b, IntKind.i64.wrap (w_0.at_ + v_0.2.1), v_0.2.2⟩ : GBackwashref08_walk))
  else some (v_0.1, (⟨w_0.b, IntKind.i64.wrap (w_0.at_ + v_0.2.1), v_0.2.2⟩ : GBackwashref08_walk))))))
theorem f_backwashref08_walk_sign_ok (w_0 : GBackwashref08_walk)  (r : Int × GBackwashref08_walk) (h : f_backwashref08_walk_sign w_0 = some r) : MutS Try.prog 51 (fun i_ => [.ptr i_ 0]) [.sl 1 (enc w_0.b), .v (.int .i64 w_0.at_), .v (.int .i64 w_0.e)] (.v (.int .i64 r.1)) [.sl 1 (enc r.2.b), .v (.int .i64 r.2.at_), .v (.int .i64 r.2.e)] := by
  unfold MutS; dsimp only
  refine Spec.of_vc Try.func51 rfl (by kernel_rfl) (by kernel_rfl) ?_
  rw [f_backwashref08_walk_sign] at h
  refine vc_seq_gen (by kernel_rfl) ?_
  intro QQ1 hQ1
  simp only [go_sem, Try.ntmps51, Try.results51]
  refine seqQ_normal hQ1 ?_
  refine vc_seq_gen (by kernel_rfl) ?_
  intro QQ2 hQ2
  refine vc_seq_gen (by kernel_rfl) ?_
  intro QQ3 hQ3
  simp only [go_sem, Try.ntmps51, Try.results51]
  refine seqQ_normal hQ3 ?_
  refine vc_cond_of (b := (!(w_0.e == 0))) (by (simp only [go_sem]; done)) (fun hb_0 => ?_) (fun hb_0 => ?_)
  ·
    replace h := if_t h hb_0
    simp only [decide_eq_true_eq, decide_eq_false_iff_not, Bool.not_eq_true', Bool.not_eq_false', beq_iff_eq, beq_eq_false_iff_ne, ne_eq, Bool.and_eq_true, Bool.or_eq_true, Int.not_lt, Int.not_le] at hb_0
    refine vc_seq_gen (by kernel_rfl) ?_
    intro QQ4 hQ4
    simp only [go_sem, Try.ntmps51, Try.results51]
    refine seqQ_normal hQ4 ?_
    refine vc_ret_of ?_
    refine seqQ_ret hQ2 ?_
    simp only [go_sem, Try.ntmps51, Try.results51]
    obtain rfl := Option.some.inj h
    refine retW_mut rfl ?_
    simp only [go_sem, Le]
  ·
    replace h := if_f h hb_0
    simp only [decide_eq_true_eq, decide_eq_false_iff_not, Bool.not_eq_true', Bool.not_eq_false', beq_iff_eq, beq_eq_false_iff_ne, ne_eq, Bool.and_eq_true, Bool.or_eq_true, Int.not_lt, Int.not_le] at hb_0
    refine vc_skip_of ?_
    refine seqQ_normal hQ2 ?_
    refine vc_seq_gen (by kernel_rfl) ?_
    intro QQ5 hQ5
    refine vc_draw ?_
    refine drawM_tail 16 [0, 1, 3, 7, 0, 16, 48, 112, 255, 511, 1023, 2047, 2047, 2047, 4095, 24575, 65535] mixed (by kernel_rfl) (of_decide_eq_true (by kernel_rfl)) (by kernel_rfl) ?_
    obtain ⟨g_0, h⟩ := guardO_some h
    obtain ⟨v_0, ev_0, h⟩ := bindO_some h
    simp only [go_sem, Try.ntmps51, Try.results51, g_0]
    refine callq (fun _ => (f_backwashref06_ReadInt_ok (List.drop (Int.toNat w_0.at_) (List.take (List.length w_0.b) w_0.b)) v_0 ev_0)) (by rfl) (by rfl) ?_
    simp only [go_sem, Try.ntmps51, Try.results51]
    refine seqQ_normal hQ5 ?_
    refine vc_seq_gen (by kernel_rfl) ?_
    intro QQ6 hQ6
    simp only [go_sem, Try.ntmps51, Try.results51]
    refine seqQ_normal hQ6 ?_
    refine vc_seq_gen (by kernel_rfl) ?_
    intro QQ7 hQ7
    simp only [go_sem, Try.ntmps51, Try.results51]
    refine seqQ_normal hQ7 ?_
    refine vc_seq_gen (by kernel_rfl) ?_
    intro QQ8 hQ8
    refine vc_seq_gen (by kernel_rfl) ?_
    intro QQ9 hQ9
    simp only [go_sem, Try.ntmps51, Try.results51]
    refine seqQ_normal hQ9 ?_
    refine vc_cond_of (b := (!(v_0.2.2 == 0))) (by (simp only [go_sem]; done)) (fun hb_1 => ?_) (fun hb_1 => ?_)
    ·
      replace h := if_t h hb_1
      simp only [decide_eq_true_eq, decide_eq_false_iff_not, Bool.not_eq_true', Bool.not_eq_false', beq_iff_eq, beq_eq_false_iff_ne, ne_eq, Bool.and_eq_true, Bool.or_eq_true, Int.not_lt, Int.not_le] at hb_1
      refine vc_seq_gen (by kernel_rfl) ?_
      intro QQ10 hQ10
      simp only [go_sem, Try.ntmps51, Try.results51]
      refine seqQ_normal hQ10 ?_
      refine vc_ret_of ?_
      refine seqQ_ret hQ8 ?_
      simp only [go_sem, Try.ntmps51, Try.results51]
      obtain rfl := Option.some.inj h
      refine retW_mut rfl ?_
      simp only [go_sem, Le]
    ·
      replace h := if_f h hb_1
      simp only [decide_eq_true_eq, decide_eq_false_iff_not, Bool.not_eq_true', Bool.not_eq_false', beq_iff_eq, beq_eq_false_iff_ne, ne_eq, Bool.and_eq_true, Bool.or_eq_true, Int.not_lt, Int.not_le] at hb_1
      refine vc_skip_of ?_
      refine seqQ_normal hQ8 ?_
      refine vc_seq_gen (by kernel_rfl) ?_
      intro QQ11 hQ11
      simp only [go_sem, Try.ntmps51, Try.results51]
      refine seqQ_normal hQ11 ?_
      refine vc_ret_of ?_
      simp only [go_sem, Try.ntmps51, Try.results51]
      obtain rfl := Option.some.inj h
      refine retW_mut rfl ?_
      simp only [go_sem, Le]
end Go.Proofs.Ytngeldeahafcfaa

namespace Go.Proofs.Ytngeldeahafcfaa
open Go Go.RowKit
set_option maxHeartbeats 2000000
set_option maxRecDepth 100000
set_option linter.unusedSimpArgs false
set_option linter.unusedVariables false
def f_backwashref08_Read_J5 (a_4 : List Int) (a_5 : List Int) (a_14 : List GNode) (a_17 : List GEdge) (b_16 : GBackwashref08_walk) : Option (GGraph × Int) :=
  (if (!(b_16.e == 0)) = true then some ((⟨([] : List Int), ([] : List Int), ([] : List GNode), ([] : List GEdge)⟩ : GGraph), b_16.e)
  else some ((⟨a_4, a_5, a_14, a_17⟩ : GGraph), 0))
def f_backwashref08_Read_J4 (b_0 : List UInt8) (a_4 : List Int) (a_5 : List Int) (a_14 : List GNode) (b_15 : GBackwashref08_walk) (a_17 : List GEdge) : Option (GGraph × Int) :=
  (if ((b_15.e == 0) && (decide (b_15.at_ < (List.length b_0 : Int)))) = true then f_backwashref08_Read_J5 a_4 a_5 a_14 a_17 (⟨b_15.b, b_15.at_, 4⟩ : GBackwashref08_walk)
  else f_backwashref08_Read_J5 a_4 a_5 a_14 a_17 b_15)
def f_backwashref08_Read_B6 (b_0 : List UInt8) (a_4 : List Int) (a_5 : List Int) (a_14 : List GNode) (v_38 : Int × GBackwashref08_walk) (rec_6 : Int × GBackwashref08_walk × (List GEdge) → Option (GGraph × Int)) : Int × GBackwashref08_walk × (List GEdge) → Option (GGraph × Int) :=
  fun (i_7, b_18, a_19) =>
  (if ((decide (i_7 < v_38.1)) && (b_18.e == 0)) = true then bindO (f_backwashref08_walk_num b_18 0 2147483647 2) (fun (v_59 : Int × GBackwashref08_walk) =>
  bindO (f_backwashref08_walk_num v_59.2 0 2147483647 2) (fun (v_60 : Int × GBackwashref08_walk) =>
  bindO (f_backwashref08_walk_num v_60.2 0 2147483647 2) (fun (v_61 : Int × GBackwashref08_walk) =>
  bindO (f_backwashref08_walk_num v_61.2 0 1 4) (fun (v_62 : Int × GBackwashref08_walk) =>
  guardO ((List.length a_19 + List.length ([(⟨v_59.1, v_60.1, v_61.1, v_62.1 == 1⟩ : GEdge)] : List GEdge)) * 32 ≤ 140737488355328) (
  rec_6 (IntKind.i64.wrap (i_7 + 1), v_62.2, (a_19 ++ ([(⟨v_59.1, v_60.1, v_61.1, v_62.1 == 1⟩ : GEdge)] : List GEdge))))))))
  else f_backwashref08_Read_J4 b_0 a_4 a_5 a_14 b_18 a_19)
def f_backwashref08_Read_J3 (b_0 : List UInt8) (a_4 : List Int) (a_5 : List Int) (b_12 : GBackwashref08_walk) (a_14 : List GNode) : Option (GGraph × Int) :=
  bindO (f_backwashref08_walk_num b_12 0 64 11) (fun (v_38 : Int × GBackwashref08_walk) =>
  loopK (f_backwashref08_Read_B6 b_0 a_4 a_5 a_14 v_38) rounds (0, v_38.2, []))
def f_backwashref08_Read_B8 (i_9 : Int) (a_25 : List GNode) (rec_7 : (Int × GBackwashref08_walk × (List GNode) → Option (GGraph × Int))) (v_83 : Int × GBackwashref08_walk) (v_84 : Int × GBackwashref08_walk) (v_85 : Int × GBackwashref08_walk) (v_86 : Int × GBackwashref08_walk) (rec_8 : Int × GBackwashref08_walk × (List GIns) → Option (GGraph × Int)) : Int × GBackwashref08_walk × (List GIns) → Option (GGraph × Int) :=
  fun (k_11, b_26, a_27) =>
  (if ((decide (k_11 < v_86.1)) && (b_26.e == 0)) = true then bindO (f_backwashref08_walk_num b_26 0 2147483647 2) (fun (v_91 : Int × GBackwashref08_walk) =>
  bindO (f_backwashref08_walk_sign v_91.2) (fun (v_92 : Int × GBackwashref08_walk) =>
  guardO ((List.length a_27 + List.length ([(⟨v_91.1, v_92.1⟩ : GIns)] : List GIns)) * 16 ≤ 140737488355328) (
  rec_8 (IntKind.i64.wrap (k_11 + 1), v_92.2, (a_27 ++ ([(⟨v_91.1, v_92.1⟩ : GIns)] : List GIns))))))
  else guardO ((List.length a_25 + List.length ([(⟨v_83.1, v_84.1, v_85.1, a_27⟩ : GNode)] : List GNode)) * 48 ≤ 140737488355328) (
  rec_7 (IntKind.i64.wrap (i_9 + 1), b_26, (a_25 ++ ([(⟨v_83.1, v_84.1, v_85.1, a_27⟩ : GNode)] : List GNode)))))
def f_backwashref08_Read_B7 (b_0 : List UInt8) (a_4 : List Int) (a_5 : List Int) (v_7 : Int × GBackwashref08_walk) (rec_7 : Int × GBackwashref08_walk × (List GNode) → Option (GGraph × Int)) : Int × GBackwashref08_walk × (List GNode) → Option (GGraph × Int) :=
  fun (i_9, b_24, a_25) =>
  (if ((decide (i_9 < v_7.1)) && (b_24.e == 0)) = true then bindO (f_backwashref08_walk_num b_24 0 2147483647 2) (fun (v_83 : Int × GBackwashref08_walk) =>
  bindO (f_backwashref08_walk_num v_83.2 0 2147483647 2) (fun (v_84 : Int × GBackwashref08_walk) =>
  bindO (f_backwashref08_walk_sign v_84.2) (fun (v_85 : Int × GBackwashref08_walk) =>
  bindO (f_backwashref08_walk_num v_85.2 0 64 11) (fun (v_86 : Int × GBackwashref08_walk) =>
  loopK (f_backwashref08_Read_B8 i_9 a_25 rec_7 v_83 v_84 v_85 v_86) rounds (0, v_86.2, [])))))
  else f_backwashref08_Read_J3 b_0 a_4 a_5 b_24 a_25)
def f_backwashref08_Read_J2 (b_0 : List UInt8) (b_3 : GBackwashref08_walk) (a_4 : List Int) (a_5 : List Int) : Option (GGraph × Int) :=
  bindO (f_backwashref08_walk_num b_3 0 32 11) (fun (v_7 : Int × GBackwashref08_walk) =>
  loopK (f_backwashref08_Read_B7 b_0 a_4 a_5 v_7) rounds (0, v_7.2, []))
def f_backwashref08_Read_B9 (b_0 : List UInt8) (v_0 : Int × GBackwashref08_walk) (rec_9 : Int × GBackwashref08_walk × (List Int) × (List Int) → Option (GGraph × Int)) : Int × GBackwashref08_walk × (List Int) × (List Int) → Option (GGraph × Int) :=
  fun (i_11, b_28, a_30, a_31) =>
  (if (decide (i_11 < v_0.1)) = true then bindO (f_backwashref08_walk_num b_28 0 2147483647 2) (fun (v_97 : Int × GBackwashref08_walk) =>
  guardO ((List.length a_30 + List.length ([v_97.1] : List Int)) * 8 ≤ 140737488355328) (
  bindO (f_backwashref08_walk_num v_97.2 0 2147483647 2) (fun (v_98 : Int × GBackwashref08_walk) =>
  guardO ((List.length a_31 + List.length ([v_98.1] : List Int)) * 8 ≤ 140737488355328) (
  rec_9 (IntKind.i64.wrap (i_11 + 1), v_98.2, (a_30 ++ ([v_97.1] : List Int)), (a_31 ++ ([v_98.1] : List Int)))))))
  else f_backwashref08_Read_J2 b_0 b_28 a_30 a_31)
def f_backwashref08_Read_J1 (b_0 : List UInt8) : Option (GGraph × Int) :=
  bindO (f_backwashref08_walk_num (⟨b_0, 3, 0⟩ : GBackwashref08_walk) 1 8 11) (fun (v_0 : Int × GBackwashref08_walk) =>
  loopK (f_backwashref08_Read_B9 b_0 v_0) rounds (1, v_0.2, ([-1] : List Int), ([0] : List Int)))
def f_backwashref08_Read_B10 (b_0 : List UInt8) (rec_10 : Int → Option (GGraph × Int)) : Int → Option (GGraph × Int) :=
  fun t26_3 =>
  (if (decide (t26_3 < (List.length ([toB 66, toB 87, toB 49] : List UInt8) : Int))) = true then bindO (idx ([toB 66, toB 87, toB 49] : List UInt8) t26_3) (fun (xv_10 : UInt8) =>
  (if (t26_3 == (List.length b_0 : Int)) = true then some ((⟨([] : List Int), ([] : List Int), ([] : List GNode), ([] : List GEdge)⟩ : GGraph), 3)
  else bindO (idx b_0 t26_3) (fun (xv_11 : UInt8) =>
  (if (!(((UInt8.toNat xv_11 : Nat) : Int) == ((UInt8.toNat xv_10 : Nat) : Int))) = true then some ((⟨([] : List Int), ([] : List Int), ([] : List GNode), ([] : List GEdge)⟩ : GGraph), 4)
  else rec_10 (IntKind.i64.wrap (t26_3 + 1))))))
  else f_backwashref08_Read_J1 b_0)
def f_backwashref08_Read (b_0 : List UInt8) : Option (GGraph × Int) :=
  (if (decide (8192 < (List.length b_0 : Int))) = true then some ((⟨([] : List Int), ([] : List Int), ([] : List GNode), ([] : List GEdge)⟩ : GGraph), 11)
  else guardO (0 ≤ 66 ∧ 66 < 256) (
  guardO (0 ≤ 87 ∧ 87 < 256) (
  guardO (0 ≤ 49 ∧ 49 < 256) (
  loopK (f_backwashref08_Read_B10 b_0) rounds 0))))
theorem f_backwashref08_Read_ok (b_0 : List UInt8)  (r : GGraph × Int) (h : f_backwashref08_Read b_0 = some r) : PureS Try.prog 29 [.sl 1 (enc b_0)] 0 (.tup [.agg [.sl 1 (enc r.1.Parent), .sl 1 (enc r.1.Bound), .sl 4 (enc r.1.Nodes), .sl 4 (enc r.1.Edges)], .v (.int .i64 r.2)]) := by
  unfold PureS
  refine Spec.of_vc Try.func29 rfl (by kernel_rfl) (by kernel_rfl) ?_
  rw [f_backwashref08_Read] at h
  refine vc_seq_gen (by kernel_rfl) ?_
  intro QQ1 hQ1
  simp only [go_sem, Try.ntmps29, Try.results29]
  refine seqQ_normal hQ1 ?_
  refine vc_seq_gen (by kernel_rfl) ?_
  intro QQ2 hQ2
  refine vc_seq_gen (by kernel_rfl) ?_
  intro QQ3 hQ3
  simp only [go_sem, Try.ntmps29, Try.results29]
  refine seqQ_normal hQ3 ?_
  refine vc_cond_of (b := (decide (8192 < (List.length b_0 : Int)))) (by (simp only [go_sem]; done)) (fun hb_0 => ?_) (fun hb_0 => ?_)
  ·
    replace h := if_t h hb_0
    simp only [decide_eq_true_eq, decide_eq_false_iff_not, Bool.not_eq_true', Bool.not_eq_false', beq_iff_eq, beq_eq_false_iff_ne, ne_eq, Bool.and_eq_true, Bool.or_eq_true, Int.not_lt, Int.not_le] at hb_0
    refine vc_seq_gen (by kernel_rfl) ?_
    intro QQ4 hQ4
    simp only [go_sem, Try.ntmps29, Try.results29]
    refine seqQ_normal hQ4 ?_
    refine vc_ret_of ?_
    refine seqQ_ret hQ2 ?_
    simp only [go_sem, Try.ntmps29, Try.results29]
    obtain rfl := Option.some.inj h
    refine retW_pure rfl ?_
    simp only [go_sem, Le]
  ·
    replace h := if_f h hb_0
    simp only [decide_eq_true_eq, decide_eq_false_iff_not, Bool.not_eq_true', Bool.not_eq_false', beq_iff_eq, beq_eq_false_iff_ne, ne_eq, Bool.and_eq_true, Bool.or_eq_true, Int.not_lt, Int.not_le] at hb_0
    refine vc_skip_of ?_
    refine seqQ_normal hQ2 ?_
    refine vc_join (by kernel_rfl) ?_
    refine seq_cut_gen (ι := Unit) (fun (_ : Unit) => (⟨0, [(0, .sl 1 (enc b_0)), (2, .ptr 0 0)], [(0, .box [.v (.slice none 0 0), .v (.slice none 0 0), .v (.slice none 0 0), .v (.slice none 0 0)])], 1, 187⟩ : St)) (fun (_ : Unit) => f_backwashref08_Read_J1 b_0 = some r) ?_ ?_
    ·
      intro QQ62 hQ62
      refine vc_seq_gen (by kernel_rfl) ?_
      intro QQ63 hQ63
      obtain ⟨g_57, h⟩ := guardO_some h
      obtain ⟨g_58, h⟩ := guardO_some h
      obtain ⟨g_59, h⟩ := guardO_some h
      have rf_97 : [[.v (.int .u8 66)], [.v (.int .u8 87)], [.v (.int .u8 49)]] = enc ([toB 66, toB 87, toB 49] : List UInt8) := by rfl
      simp only [go_sem, Try.ntmps29, Try.results29, g_57, g_58, g_59]
      simp only [rf_97]
      refine seqQ_normal hQ63 ?_
      refine vc_block_gen ?_
      intro QQ64 hQ64
      refine vc_loop_of ?_
      refine loop_gen (ι := Nat × Int) (fun ((_, t26_3) : Nat × Int) => (⟨0, [(0, .sl 1 (enc b_0)), (2, .ptr 0 0), (24, .sl 1 (enc ([toB 66, toB 87, toB 49] : List UInt8))), (25, .v (.int .i64 (List.length ([toB 66, toB 87, toB 49] : List UInt8) : Int))), (26, .v (.int .i64 t26_3))], [(0, .box [.v (.slice none 0 0), .v (.slice none 0 0), .v (.slice none 0 0), .v (.slice none 0 0)])], 1, 187⟩ : St)) (fun ((n_, t26_3) : Nat × Int) => loopK (f_backwashref08_Read_B10 b_0) n_ t26_3 = some r) (fun p => p.1) (rounds, 0) [some 0] ?_ h ?_
      · simp only [go_sem, Le]
      · rintro ⟨n_10, t26_3⟩ h QQ65 hQ65
        dsimp only at h
        replace h := loopK_some h
        obtain ⟨m_10, rfl, h⟩ := h
        rw [f_backwashref08_Read_B10] at h
        refine vc_seq_gen (by kernel_rfl) ?_
        intro QQ66 hQ66
        simp only [go_sem, Try.ntmps29, Try.results29]
        refine seqQ_normal hQ66 ?_
        refine vc_seq_gen (by kernel_rfl) ?_
        intro QQ67 hQ67
        refine vc_cond_of (b := (decide (t26_3 < (List.length ([toB 66, toB 87, toB 49] : List UInt8) : Int)))) (by (simp only [go_sem]; done)) (fun hb_55 => ?_) (fun hb_55 => ?_)
        ·
          replace h := if_t h hb_55
          simp only [decide_eq_true_eq, decide_eq_false_iff_not, Bool.not_eq_true', Bool.not_eq_false', beq_iff_eq, beq_eq_false_iff_ne, ne_eq, Bool.and_eq_true, Bool.or_eq_true, Int.not_lt, Int.not_le] at hb_55
          refine vc_skip_of ?_
          refine seqQ_normal hQ67 ?_
          refine vc_seq_gen (by kernel_rfl) ?_
          intro QQ68 hQ68
          refine vc_block_gen ?_
          intro QQ69 hQ69
          refine vc_seq_gen (by kernel_rfl) ?_
          intro QQ70 hQ70
          obtain ⟨xv_10, exv_10, h⟩ := bindO_some h
          obtain ⟨fxv_10a, fxv_10b, fxv_10c⟩ := idx_spec exv_10
          simp only [go_sem, Try.ntmps29, Try.results29, fxv_10a, fxv_10b, fxv_10c]
          refine And.intro (by omega) ?_
          refine And.intro (by (intros; simp_all; done)) ?_
          refine seqQ_normal hQ70 ?_
          refine vc_seq_gen (by kernel_rfl) ?_
          intro QQ71 hQ71
          refine vc_seq_gen (by kernel_rfl) ?_
          intro QQ72 hQ72
          simp only [go_sem, Try.ntmps29, Try.results29]
          refine seqQ_normal hQ72 ?_
          refine vc_cond_of (b := (t26_3 == (List.length b_0 : Int))) (by (simp only [go_sem]; done)) (fun hb_56 => ?_) (fun hb_56 => ?_)
          ·
            replace h := if_t h hb_56
            simp only [decide_eq_true_eq, decide_eq_false_iff_not, Bool.not_eq_true', Bool.not_eq_false', beq_iff_eq, beq_eq_false_iff_ne, ne_eq, Bool.and_eq_true, Bool.or_eq_true, Int.not_lt, Int.not_le] at hb_56
            refine vc_seq_gen (by kernel_rfl) ?_
            intro QQ73 hQ73
            simp only [go_sem, Try.ntmps29, Try.results29]
            refine seqQ_normal hQ73 ?_
            refine vc_ret_of ?_
            refine seqQ_ret hQ71 ?_
            refine blockQ_ret hQ69 ?_
            refine seqQ_ret hQ68 ?_
            refine thenQ_ret hQ65 ?_
            refine blockQ_ret hQ64 ?_
            refine thenQ_ret hQ62 ?_
            simp only [go_sem, Try.ntmps29, Try.results29]
            obtain rfl := Option.some.inj h
            refine retW_pure rfl ?_
            simp only [go_sem, Le]
          ·
            replace h := if_f h hb_56
            simp only [decide_eq_true_eq, decide_eq_false_iff_not, Bool.not_eq_true', Bool.not_eq_false', beq_iff_eq, beq_eq_false_iff_ne, ne_eq, Bool.and_eq_true, Bool.or_eq_true, Int.not_lt, Int.not_le] at hb_56
            refine vc_skip_of ?_
            refine seqQ_normal hQ71 ?_
            refine vc_seq_gen (by kernel_rfl) ?_
            intro QQ74 hQ74
            obtain ⟨xv_11, exv_11, h⟩ := bindO_some h
            obtain ⟨fxv_11a, fxv_11b, fxv_11c⟩ := idx_spec exv_11
            simp only [go_sem, Try.ntmps29, Try.results29, fxv_11a, fxv_11b, fxv_11c]
            refine And.intro (by omega) ?_
            refine seqQ_normal hQ74 ?_
            refine vc_cond_of (b := (!(((UInt8.toNat xv_11 : Nat) : Int) == ((UInt8.toNat xv_10 : Nat) : Int)))) (by (simp only [go_sem]; done)) (fun hb_57 => ?_) (fun hb_57 => ?_)
            ·
              replace h := if_t h hb_57
              simp only [decide_eq_true_eq, decide_eq_false_iff_not, Bool.not_eq_true', Bool.not_eq_false', beq_iff_eq, beq_eq_false_iff_ne, ne_eq, Bool.and_eq_true, Bool.or_eq_true, Int.not_lt, Int.not_le] at hb_57
              refine vc_seq_gen (by kernel_rfl) ?_
              intro QQ75 hQ75
              simp only [go_sem, Try.ntmps29, Try.results29]
              refine seqQ_normal hQ75 ?_
              refine vc_ret_of ?_
              refine blockQ_ret hQ69 ?_
              refine seqQ_ret hQ68 ?_
              refine thenQ_ret hQ65 ?_
              refine blockQ_ret hQ64 ?_
              refine thenQ_ret hQ62 ?_
              simp only [go_sem, Try.ntmps29, Try.results29]
              obtain rfl := Option.some.inj h
              refine retW_pure rfl ?_
              simp only [go_sem, Le]
            ·
              replace h := if_f h hb_57
              simp only [decide_eq_true_eq, decide_eq_false_iff_not, Bool.not_eq_true', Bool.not_eq_false', beq_iff_eq, beq_eq_false_iff_ne, ne_eq, Bool.and_eq_true, Bool.or_eq_true, Int.not_lt, Int.not_le] at hb_57
              refine vc_skip_of ?_
              refine blockQ_normal hQ69 ?_
              refine seqQ_normal hQ68 ?_
              simp only [go_sem, Try.ntmps29, Try.results29]
              refine thenQ_normal hQ65 ?_
              refine ⟨(m_10, IntKind.i64.wrap (t26_3 + 1)), [some 0], ?_, h, Nat.lt_succ_self _⟩
              simp only [go_sem, Le]
        ·
          replace h := if_f h hb_55
          simp only [decide_eq_true_eq, decide_eq_false_iff_not, Bool.not_eq_true', Bool.not_eq_false', beq_iff_eq, beq_eq_false_iff_ne, ne_eq, Bool.and_eq_true, Bool.or_eq_true, Int.not_lt, Int.not_le] at hb_55
          refine vc_exit_of ?_
          refine seqQ_exit hQ67 ?_
          refine thenQ_exit hQ65 ?_
          refine blockQ_exit hQ64 ?_
          refine thenQ_normal hQ62 ?_
          refine ⟨(), [some 0], ?_, h⟩
          simp only [go_sem, Le]
    · rintro ⟨⟩ h
      try dsimp only at h
      rw [f_backwashref08_Read_J1] at h
      refine vc_seq_gen (by kernel_rfl) ?_
      intro QQ5 hQ5
      simp only [go_sem, Try.ntmps29, Try.results29]
      refine seqQ_normal hQ5 ?_
      refine vc_seq_gen (by kernel_rfl) ?_
      intro QQ6 hQ6
      have rf_1 : [[.v (.int .i64 (-1))]] = enc ([-1] : List Int) := by rfl
      have rf_2 : [[.v (.int .i64 0)]] = enc ([0] : List Int) := by rfl
      simp only [go_sem, Try.ntmps29, Try.results29]
      simp only [rf_1, rf_2]
      refine seqQ_normal hQ6 ?_
      refine vc_seq_gen (by kernel_rfl) ?_
      intro QQ7 hQ7
      obtain ⟨v_0, ev_0, h⟩ := bindO_some h
      simp only [go_sem, Try.ntmps29, Try.results29]
      refine callm (id := 1) (f_backwashref08_walk_num_ok (⟨b_0, 3, 0⟩ : GBackwashref08_walk) 1 8 11 v_0 ev_0) rfl (by simp) (by simp) rfl rfl rfl rfl rfl rfl ?_
      simp only [go_sem, Try.ntmps29, Try.results29]
      refine seqQ_normal hQ7 ?_
      refine vc_join (by kernel_rfl) ?_
      refine seq_cut_gen (ι := GBackwashref08_walk × (List Int) × (List Int)) (fun ((b_3, a_4, a_5) : GBackwashref08_walk × (List Int) × (List Int)) => (⟨0, [(0, .sl 1 (enc b_0)), (2, .ptr 0 0), (6, .ptr 1 0), (7, .ptr 2 0)], [(0, .box [.v (.slice none 0 0), .v (.slice none 0 0), .v (.slice none 0 0), .v (.slice none 0 0)]), (1, .box [.sl 1 (enc b_3.b), .v (.int .i64 b_3.at_), .v (.int .i64 b_3.e)]), (2, .box [.osl 3 1 (0) (List.length a_4), .osl 4 1 (0) (List.length a_5), .v (.slice none 0 0), .v (.slice none 0 0)]), (3, .arr 1 (enc a_4)), (4, .arr 1 (enc a_5))], 5, 187⟩ : St)) (fun ((b_3, a_4, a_5) : GBackwashref08_walk × (List Int) × (List Int)) => f_backwashref08_Read_J2 b_0 b_3 a_4 a_5 = some r) ?_ ?_
      ·
        intro QQ53 hQ53
        refine vc_seq_gen (by kernel_rfl) ?_
        intro QQ54 hQ54
        simp only [go_sem, Try.ntmps29, Try.results29]
        refine seqQ_normal hQ54 ?_
        refine vc_block_gen ?_
        intro QQ55 hQ55
        refine vc_loop_of ?_
        refine loop_gen (ι := Nat × Int × GBackwashref08_walk × (List Int) × (List Int)) (fun ((_, i_11, b_28, a_30, a_31) : Nat × Int × GBackwashref08_walk × (List Int) × (List Int)) => (⟨0, [(0, .sl 1 (enc b_0)), (2, .ptr 0 0), (6, .ptr 1 0), (7, .ptr 2 0), (8, .v (.int .i64 v_0.1)), (9, .v (.int .i64 i_11))], [(0, .box [.v (.slice none 0 0), .v (.slice none 0 0), .v (.slice none 0 0), .v (.slice none 0 0)]), (1, .box [.sl 1 (enc b_28.b), .v (.int .i64 b_28.at_), .v (.int .i64 b_28.e)]), (2, .box [.osl 3 1 (0) (List.length a_30), .osl 4 1 (0) (List.length a_31), .v (.slice none 0 0), .v (.slice none 0 0)]), (3, .arr 1 (enc a_30)), (4, .arr 1 (enc a_31))], 5, 187⟩ : St)) (fun ((n_, i_11, b_28, a_30, a_31) : Nat × Int × GBackwashref08_walk × (List Int) × (List Int)) => loopK (f_backwashref08_Read_B9 b_0 v_0) n_ (i_11, b_28, a_30, a_31) = some r) (fun p => p.1) (rounds, 1, v_0.2, ([-1] : List Int), ([0] : List Int)) [some 0, some 1, some 4, some 2, some 3] ?_ h ?_
        · simp only [go_sem, Le] <;> (repeat' apply And.intro) <;> first | rfl | omega | (simp [go_sem]; done)
        · rintro ⟨n_9, i_11, b_28, a_30, a_31⟩ h QQ56 hQ56
          dsimp only at h
          replace h := loopK_some h
          obtain ⟨m_9, rfl, h⟩ := h
          rw [f_backwashref08_Read_B9] at h
          refine vc_seq_gen (by kernel_rfl) ?_
          intro QQ57 hQ57
          refine vc_seq_gen (by kernel_rfl) ?_
          intro QQ58 hQ58
          simp only [go_sem, Try.ntmps29, Try.results29]
          refine seqQ_normal hQ58 ?_
          refine vc_cond_of (b := (decide (i_11 < v_0.1))) (by (simp only [go_sem]; done)) (fun hb_48 => ?_) (fun hb_48 => ?_)
          ·
            replace h := if_t h hb_48
            simp only [decide_eq_true_eq, decide_eq_false_iff_not, Bool.not_eq_true', Bool.not_eq_false', beq_iff_eq, beq_eq_false_iff_ne, ne_eq, Bool.and_eq_true, Bool.or_eq_true, Int.not_lt, Int.not_le] at hb_48
            refine vc_skip_of ?_
            refine seqQ_normal hQ57 ?_
            refine vc_seq_gen (by kernel_rfl) ?_
            intro QQ59 hQ59
            refine vc_block_gen ?_
            intro QQ60 hQ60
            refine vc_seq_gen (by kernel_rfl) ?_
            intro QQ61 hQ61
            refine vc_draw ?_
            refine drawV_all 5 0 [0, 1, 0, 4, 12, 31, 63, 127] [1] [0, 1] [3] [] mixed (by kernel_rfl) (of_decide_eq_true (by kernel_rfl)) (by kernel_rfl) (by kernel_rfl) (by rfl) ?_
            obtain ⟨v_97, ev_97, h⟩ := bindO_some h
            simp only [go_sem, Try.ntmps29, Try.results29]
            refine And.intro (by omega) ?_
            refine callE_of (id := 1) (f_backwashref08_walk_num_ok b_28 0 2147483647 2 v_97 ev_97) rfl (by simp) rfl rfl rfl rfl rfl rfl ?_
            have rf_93 : [[.v (.int .i64 v_97.1)]] = enc ([v_97.1] : List Int) := by rfl
            obtain ⟨g_55, h⟩ := guardO_some h
            simp only [List.length_cons, List.length_nil, Nat.zero_add, List.length_append] at g_55
            have rf_94 : enc a_30 ++ [[.v (.int .i64 v_97.1)]] = enc (a_30 ++ ([v_97.1] : List Int)) := by exact (enc_app a_30 ([v_97.1] : List Int)).symm
            simp only [go_sem, Try.ntmps29, Try.results29, g_55, rf_94]
            refine And.intro (by omega) ?_
            simp only [rf_93]
            refine seqQ_normal hQ61 ?_
            refine vc_draw ?_
            refine drawV_all 5 0 [0, 1, 0, 4, 12, 31, 63, 127] [1] [0, 1] [3] [] mixed (by kernel_rfl) (of_decide_eq_true (by kernel_rfl)) (by kernel_rfl) (by kernel_rfl) (by rfl) ?_
            obtain ⟨v_98, ev_98, h⟩ := bindO_some h
            simp only [go_sem, Try.ntmps29, Try.results29]
            refine callE_of (id := 1) (f_backwashref08_walk_num_ok v_97.2 0 2147483647 2 v_98 ev_98) rfl (by simp) rfl rfl rfl rfl rfl rfl ?_
            have rf_95 : [[.v (.int .i64 v_98.1)]] = enc ([v_98.1] : List Int) := by rfl
            obtain ⟨g_56, h⟩ := guardO_some h
            simp only [List.length_cons, List.length_nil, Nat.zero_add, List.length_append] at g_56
            have rf_96 : enc a_31 ++ [[.v (.int .i64 v_98.1)]] = enc (a_31 ++ ([v_98.1] : List Int)) := by exact (enc_app a_31 ([v_98.1] : List Int)).symm
            simp only [go_sem, Try.ntmps29, Try.results29, g_56, rf_96]
            refine And.intro (by omega) ?_
            simp only [rf_95]
            refine blockQ_normal hQ60 ?_
            refine seqQ_normal hQ59 ?_
            simp only [go_sem, Try.ntmps29, Try.results29]
            refine thenQ_normal hQ56 ?_
            refine ⟨(m_9, IntKind.i64.wrap (i_11 + 1), v_98.2, (a_30 ++ ([v_97.1] : List Int)), (a_31 ++ ([v_98.1] : List Int))), [some 0, some 1, some 2, some 5, some 6], ?_, h, Nat.lt_succ_self _⟩
            simp only [go_sem, Le] <;> (repeat' apply And.intro) <;> first | rfl | omega | (simp [go_sem]; done)
          ·
            replace h := if_f h hb_48
            simp only [decide_eq_true_eq, decide_eq_false_iff_not, Bool.not_eq_true', Bool.not_eq_false', beq_iff_eq, beq_eq_false_iff_ne, ne_eq, Bool.and_eq_true, Bool.or_eq_true, Int.not_lt, Int.not_le] at hb_48
            refine vc_exit_of ?_
            refine seqQ_exit hQ57 ?_
            refine thenQ_exit hQ56 ?_
            refine blockQ_exit hQ55 ?_
            refine thenQ_normal hQ53 ?_
            refine ⟨(b_28, a_30, a_31), [some 0, some 1, some 2, some 3, some 4], ?_, h⟩
            simp only [go_sem, Le] <;> (repeat' apply And.intro) <;> first | rfl | omega | (simp [go_sem]; done)
      · rintro ⟨b_3, a_4, a_5⟩ h
        try dsimp only at h
        rw [f_backwashref08_Read_J2] at h
        refine vc_seq_gen (by kernel_rfl) ?_
        intro QQ8 hQ8
        obtain ⟨v_7, ev_7, h⟩ := bindO_some h
        simp only [go_sem, Try.ntmps29, Try.results29]
        refine callm (id := 1) (f_backwashref08_walk_num_ok b_3 0 32 11 v_7 ev_7) rfl (by simp) (by simp) rfl rfl rfl rfl rfl rfl ?_
        simp only [go_sem, Try.ntmps29, Try.results29]
        refine seqQ_normal hQ8 ?_
        refine vc_join (by kernel_rfl) ?_
        refine seq_cut_gen (ι := GBackwashref08_walk × (List GNode)) (fun ((b_12, a_14) : GBackwashref08_walk × (List GNode)) => (⟨0, [(0, .sl 1 (enc b_0)), (2, .ptr 0 0), (6, .ptr 1 0), (7, .ptr 2 0)], [(0, .box [.v (.slice none 0 0), .v (.slice none 0 0), .v (.slice none 0 0), .v (.slice none 0 0)]), (1, .box [.sl 1 (enc b_12.b), .v (.int .i64 b_12.at_), .v (.int .i64 b_12.e)]), (2, .box [.osl 3 1 (0) (List.length a_4), .osl 4 1 (0) (List.length a_5), .osl 5 4 (0) (List.length a_14), .v (.slice none 0 0)]), (3, .arr 1 (enc a_4)), (4, .arr 1 (enc a_5)), (5, .arr 4 (enc a_14))], 6, 187⟩ : St)) (fun ((b_12, a_14) : GBackwashref08_walk × (List GNode)) => f_backwashref08_Read_J3 b_0 a_4 a_5 b_12 a_14 = some r) ?_ ?_
        ·
          intro QQ29 hQ29
          refine vc_seq_gen (by kernel_rfl) ?_
          intro QQ30 hQ30
          simp only [go_sem, Try.ntmps29, Try.results29]
          refine seqQ_normal hQ30 ?_
          refine vc_block_gen ?_
          intro QQ31 hQ31
          refine vc_loop_of ?_
          refine loop_gen (ι := Nat × Int × GBackwashref08_walk × (List GNode)) (fun ((_, i_9, b_24, a_25) : Nat × Int × GBackwashref08_walk × (List GNode)) => (⟨0, [(0, .sl 1 (enc b_0)), (2, .ptr 0 0), (6, .ptr 1 0), (7, .ptr 2 0), (10, .v (.int .i64 v_7.1)), (11, .v (.int .i64 i_9))], [(0, .box [.v (.slice none 0 0), .v (.slice none 0 0), .v (.slice none 0 0), .v (.slice none 0 0)]), (1, .box [.sl 1 (enc b_24.b), .v (.int .i64 b_24.at_), .v (.int .i64 b_24.e)]), (2, .box [.osl 3 1 (0) (List.length a_4), .osl 4 1 (0) (List.length a_5), .osl 5 4 (0) (List.length a_25), .v (.slice none 0 0)]), (3, .arr 1 (enc a_4)), (4, .arr 1 (enc a_5)), (5, .arr 4 (enc a_25))], 6, 187⟩ : St)) (fun ((n_, i_9, b_24, a_25) : Nat × Int × GBackwashref08_walk × (List GNode)) => loopK (f_backwashref08_Read_B7 b_0 a_4 a_5 v_7) n_ (i_9, b_24, a_25) = some r) (fun p => p.1) (rounds, 0, v_7.2, []) [some 0, some 1, some 2, some 3, some 4, none] ?_ h ?_
          · simp only [go_sem, Le] <;> (repeat' apply And.intro) <;> first | rfl | omega | (simp [go_sem]; done)
          · rintro ⟨n_7, i_9, b_24, a_25⟩ h QQ32 hQ32
            dsimp only at h
            replace h := loopK_some h
            obtain ⟨m_7, rfl, h⟩ := h
            rw [f_backwashref08_Read_B7] at h
            refine vc_seq_gen (by kernel_rfl) ?_
            intro QQ33 hQ33
            refine vc_seq_gen (by kernel_rfl) ?_
            intro QQ34 hQ34
            simp only [go_sem, Try.ntmps29, Try.results29]
            refine seqQ_normal hQ34 ?_
            refine vc_cond_of (b := ((decide (i_9 < v_7.1)) && (b_24.e == 0))) (by (simp only [go_sem]; done)) (fun hb_42 => ?_) (fun hb_42 => ?_)
            ·
              replace h := if_t h hb_42
              simp only [decide_eq_true_eq, decide_eq_false_iff_not, Bool.not_eq_true', Bool.not_eq_false', beq_iff_eq, beq_eq_false_iff_ne, ne_eq, Bool.and_eq_true, Bool.or_eq_true, Int.not_lt, Int.not_le] at hb_42
              refine vc_skip_of ?_
              refine seqQ_normal hQ33 ?_
              refine vc_join (by kernel_rfl) ?_
              refine seq_go_gen ?_
              intro QQ35 hQ35
              refine vc_block_gen ?_
              intro QQ36 hQ36
              refine vc_seq_gen (by kernel_rfl) ?_
              intro QQ37 hQ37
              simp only [go_sem, Try.ntmps29, Try.results29]
              refine seqQ_normal hQ37 ?_
              refine vc_seq_gen (by kernel_rfl) ?_
              intro QQ38 hQ38
              obtain ⟨v_83, ev_83, h⟩ := bindO_some h
              simp only [go_sem, Try.ntmps29, Try.results29]
              refine callm (id := 1) (f_backwashref08_walk_num_ok b_24 0 2147483647 2 v_83 ev_83) rfl (by simp) (by simp) rfl rfl rfl rfl rfl rfl ?_
              simp only [go_sem, Try.ntmps29, Try.results29]
              refine seqQ_normal hQ38 ?_
              refine vc_seq_gen (by kernel_rfl) ?_
              intro QQ39 hQ39
              obtain ⟨v_84, ev_84, h⟩ := bindO_some h
              simp only [go_sem, Try.ntmps29, Try.results29]
              refine callm (id := 1) (f_backwashref08_walk_num_ok v_83.2 0 2147483647 2 v_84 ev_84) rfl (by simp) (by simp) rfl rfl rfl rfl rfl rfl ?_
              simp only [go_sem, Try.ntmps29, Try.results29]
              refine seqQ_normal hQ39 ?_
              refine vc_seq_gen (by kernel_rfl) ?_
              intro QQ40 hQ40
              obtain ⟨v_85, ev_85, h⟩ := bindO_some h
              simp only [go_sem, Try.ntmps29, Try.results29]
              refine callm (id := 1) (f_backwashref08_walk_sign_ok v_84.2 v_85 ev_85) rfl (by simp) (by simp) rfl rfl rfl rfl rfl rfl ?_
              simp only [go_sem, Try.ntmps29, Try.results29]
              refine seqQ_normal hQ40 ?_
              refine vc_seq_gen (by kernel_rfl) ?_
              intro QQ41 hQ41
              obtain ⟨v_86, ev_86, h⟩ := bindO_some h
              simp only [go_sem, Try.ntmps29, Try.results29]
              refine callm (id := 1) (f_backwashref08_walk_num_ok v_85.2 0 64 11 v_86 ev_86) rfl (by simp) (by simp) rfl rfl rfl rfl rfl rfl ?_
              simp only [go_sem, Try.ntmps29, Try.results29]
              refine seqQ_normal hQ41 ?_
              refine vc_join (by kernel_rfl) ?_
              refine seq_go_gen ?_
              intro QQ42 hQ42
              refine vc_seq_gen (by kernel_rfl) ?_
              intro QQ43 hQ43
              simp only [go_sem, Try.ntmps29, Try.results29]
              refine seqQ_normal hQ43 ?_
              refine vc_block_gen ?_
              intro QQ44 hQ44
              refine vc_loop_of ?_
              refine loop_gen (ι := Nat × Int × GBackwashref08_walk × (List GIns)) (fun ((_, k_11, b_26, a_27) : Nat × Int × GBackwashref08_walk × (List GIns)) => (⟨0, [(0, .sl 1 (enc b_0)), (2, .ptr 0 0), (6, .ptr 1 0), (7, .ptr 2 0), (10, .v (.int .i64 v_7.1)), (11, .v (.int .i64 i_9)), (12, .ptr 3 0), (13, .v (.int .i64 v_86.1)), (14, .v (.int .i64 k_11))], [(0, .box [.v (.slice none 0 0), .v (.slice none 0 0), .v (.slice none 0 0), .v (.slice none 0 0)]), (1, .box [.sl 1 (enc b_26.b), .v (.int .i64 b_26.at_), .v (.int .i64 b_26.e)]), (2, .box [.osl 4 1 (0) (List.length a_4), .osl 5 1 (0) (List.length a_5), .osl 6 4 (0) (List.length a_25), .v (.slice none 0 0)]), (3, .box [.v (.int .i64 v_83.1), .v (.int .i64 v_84.1), .v (.int .i64 v_85.1), .osl 7 2 (0) (List.length a_27)]), (4, .arr 1 (enc a_4)), (5, .arr 1 (enc a_5)), (6, .arr 4 (enc a_25)), (7, .arr 2 (enc a_27))], 8, 187⟩ : St)) (fun ((n_, k_11, b_26, a_27) : Nat × Int × GBackwashref08_walk × (List GIns)) => loopK (f_backwashref08_Read_B8 i_9 a_25 (loopK (f_backwashref08_Read_B7 b_0 a_4 a_5 v_7) m_7) v_83 v_84 v_85 v_86) n_ (k_11, b_26, a_27) = some r) (fun p => p.1) (rounds, 0, v_86.2, []) [some 0, some 1, some 2, some 6, some 3, some 4, some 5, none] ?_ h ?_
              · simp only [go_sem, Le] <;> (repeat' apply And.intro) <;> first | rfl | omega | (simp [go_sem]; done)
              · rintro ⟨n_8, k_11, b_26, a_27⟩ h QQ45 hQ45
                dsimp only at h
                replace h := loopK_some h
                obtain ⟨m_8, rfl, h⟩ := h
                rw [f_backwashref08_Read_B8] at h
                refine vc_seq_gen (by kernel_rfl) ?_
                intro QQ46 hQ46
                refine vc_seq_gen (by kernel_rfl) ?_
                intro QQ47 hQ47
                simp only [go_sem, Try.ntmps29, Try.results29]
                refine seqQ_normal hQ47 ?_
                refine vc_cond_of (b := ((decide (k_11 < v_86.1)) && (b_26.e == 0))) (by (simp only [go_sem]; done)) (fun hb_45 => ?_) (fun hb_45 => ?_)
                ·
                  replace h := if_t h hb_45
                  simp only [decide_eq_true_eq, decide_eq_false_iff_not, Bool.not_eq_true', Bool.not_eq_false', beq_iff_eq, beq_eq_false_iff_ne, ne_eq, Bool.and_eq_true, Bool.or_eq_true, Int.not_lt, Int.not_le] at hb_45
                  refine vc_skip_of ?_
                  refine seqQ_normal hQ46 ?_
                  refine vc_seq_gen (by kernel_rfl) ?_
                  intro QQ48 hQ48
                  refine vc_block_gen ?_
                  intro QQ49 hQ49
                  refine vc_seq_gen (by kernel_rfl) ?_
                  intro QQ50 hQ50
                  simp only [go_sem, Try.ntmps29, Try.results29]
                  refine seqQ_normal hQ50 ?_
                  refine vc_seq_gen (by kernel_rfl) ?_
                  intro QQ51 hQ51
                  obtain ⟨v_91, ev_91, h⟩ := bindO_some h
                  simp only [go_sem, Try.ntmps29, Try.results29]
                  refine callm (id := 1) (f_backwashref08_walk_num_ok b_26 0 2147483647 2 v_91 ev_91) rfl (by simp) (by simp) rfl rfl rfl rfl rfl rfl ?_
                  simp only [go_sem, Try.ntmps29, Try.results29]
                  refine seqQ_normal hQ51 ?_
                  refine vc_seq_gen (by kernel_rfl) ?_
                  intro QQ52 hQ52
                  obtain ⟨v_92, ev_92, h⟩ := bindO_some h
                  simp only [go_sem, Try.ntmps29, Try.results29]
                  refine callm (id := 1) (f_backwashref08_walk_sign_ok v_91.2 v_92 ev_92) rfl (by simp) (by simp) rfl rfl rfl rfl rfl rfl ?_
                  simp only [go_sem, Try.ntmps29, Try.results29]
                  refine seqQ_normal hQ52 ?_
                  have rf_81 : [[.v (.int .i64 v_91.1), .v (.int .i64 v_92.1)]] = enc ([(⟨v_91.1, v_92.1⟩ : GIns)] : List GIns) := by rfl
                  obtain ⟨g_49, h⟩ := guardO_some h
                  simp only [List.length_cons, List.length_nil, Nat.zero_add, List.length_append] at g_49
                  have rf_82 : enc a_27 ++ [[.v (.int .i64 v_91.1), .v (.int .i64 v_92.1)]] = enc (a_27 ++ ([(⟨v_91.1, v_92.1⟩ : GIns)] : List GIns)) := by exact (enc_app a_27 ([(⟨v_91.1, v_92.1⟩ : GIns)] : List GIns)).symm
                  simp only [go_sem, Try.ntmps29, Try.results29, g_49, rf_82]
                  refine And.intro (by omega) ?_
                  simp only [rf_81]
                  refine blockQ_normal hQ49 ?_
                  refine seqQ_normal hQ48 ?_
                  simp only [go_sem, Try.ntmps29, Try.results29]
                  refine thenQ_normal hQ45 ?_
                  refine ⟨(m_8, IntKind.i64.wrap (k_11 + 1), v_92.2, (a_27 ++ ([(⟨v_91.1, v_92.1⟩ : GIns)] : List GIns))), [some 0, some 1, some 2, some 3, some 4, some 5, some 6, some 10], ?_, h, Nat.lt_succ_self _⟩
                  simp only [go_sem, Le] <;> (repeat' apply And.intro) <;> first | rfl | omega | (simp [go_sem]; done)
                ·
                  replace h := if_f h hb_45
                  refine vc_exit_of ?_
                  refine seqQ_exit hQ46 ?_
                  refine thenQ_exit hQ45 ?_
                  refine blockQ_exit hQ44 ?_
                  refine seqQ_normal hQ42 ?_
                  have rf_83 : [[.v (.int .i64 v_83.1), .v (.int .i64 v_84.1), .v (.int .i64 v_85.1), .sl 2 (enc a_27)]] = enc ([(⟨v_83.1, v_84.1, v_85.1, a_27⟩ : GNode)] : List GNode) := by rfl
                  obtain ⟨g_50, h⟩ := guardO_some h
                  simp only [List.length_cons, List.length_nil, Nat.zero_add, List.length_append] at g_50
                  have rf_84 : enc a_25 ++ [[.v (.int .i64 v_83.1), .v (.int .i64 v_84.1), .v (.int .i64 v_85.1), .sl 2 (enc a_27)]] = enc (a_25 ++ ([(⟨v_83.1, v_84.1, v_85.1, a_27⟩ : GNode)] : List GNode)) := by exact (enc_app a_25 ([(⟨v_83.1, v_84.1, v_85.1, a_27⟩ : GNode)] : List GNode)).symm
                  simp only [go_sem, Try.ntmps29, Try.results29, g_50, rf_84]
                  refine And.intro (by omega) ?_
                  refine And.intro (by omega) ?_
                  refine blockQ_normal hQ36 ?_
                  refine seqQ_normal hQ35 ?_
                  simp only [go_sem, Try.ntmps29, Try.results29]
                  refine thenQ_normal hQ32 ?_
                  refine ⟨(m_7, IntKind.i64.wrap (i_9 + 1), b_26, (a_25 ++ ([(⟨v_83.1, v_84.1, v_85.1, a_27⟩ : GNode)] : List GNode))), [some 0, some 1, some 2, some 4, some 5, some 9], ?_, h, Nat.lt_succ_self _⟩
                  simp only [go_sem, Le] <;> (repeat' apply And.intro) <;> first | rfl | omega | (simp [go_sem]; done) | (simp [enc]; rfl)
            ·
              replace h := if_f h hb_42
              refine vc_exit_of ?_
              refine seqQ_exit hQ33 ?_
              refine thenQ_exit hQ32 ?_
              refine blockQ_exit hQ31 ?_
              refine thenQ_normal hQ29 ?_
              refine ⟨(b_24, a_25), [some 0, some 1, some 2, some 3, some 4, some 5], ?_, h⟩
              simp only [go_sem, Le] <;> (repeat' apply And.intro) <;> first | rfl | omega | (simp [go_sem]; done)
        · rintro ⟨b_12, a_14⟩ h
          try dsimp only at h
          rw [f_backwashref08_Read_J3] at h
          refine vc_seq_gen (by kernel_rfl) ?_
          intro QQ9 hQ9
          obtain ⟨v_38, ev_38, h⟩ := bindO_some h
          simp only [go_sem, Try.ntmps29, Try.results29]
          refine callm (id := 1) (f_backwashref08_walk_num_ok b_12 0 64 11 v_38 ev_38) rfl (by simp) (by simp) rfl rfl rfl rfl rfl rfl ?_
          simp only [go_sem, Try.ntmps29, Try.results29]
          refine seqQ_normal hQ9 ?_
          refine vc_join (by kernel_rfl) ?_
          refine seq_cut_gen (ι := GBackwashref08_walk × (List GEdge)) (fun ((b_15, a_17) : GBackwashref08_walk × (List GEdge)) => (⟨0, [(0, .sl 1 (enc b_0)), (2, .ptr 0 0), (6, .ptr 1 0), (7, .ptr 2 0)], [(0, .box [.v (.slice none 0 0), .v (.slice none 0 0), .v (.slice none 0 0), .v (.slice none 0 0)]), (1, .box [.sl 1 (enc b_15.b), .v (.int .i64 b_15.at_), .v (.int .i64 b_15.e)]), (2, .box [.osl 3 1 (0) (List.length a_4), .osl 4 1 (0) (List.length a_5), .osl 5 4 (0) (List.length a_14), .osl 6 4 (0) (List.length a_17)]), (3, .arr 1 (enc a_4)), (4, .arr 1 (enc a_5)), (5, .arr 4 (enc a_14)), (6, .arr 4 (enc a_17))], 7, 187⟩ : St)) (fun ((b_15, a_17) : GBackwashref08_walk × (List GEdge)) => f_backwashref08_Read_J4 b_0 a_4 a_5 a_14 b_15 a_17 = some r) ?_ ?_
          ·
            intro QQ16 hQ16
            refine vc_seq_gen (by kernel_rfl) ?_
            intro QQ17 hQ17
            simp only [go_sem, Try.ntmps29, Try.results29]
            refine seqQ_normal hQ17 ?_
            refine vc_block_gen ?_
            intro QQ18 hQ18
            refine vc_loop_of ?_
            refine loop_gen (ι := Nat × Int × GBackwashref08_walk × (List GEdge)) (fun ((_, i_7, b_18, a_19) : Nat × Int × GBackwashref08_walk × (List GEdge)) => (⟨0, [(0, .sl 1 (enc b_0)), (2, .ptr 0 0), (6, .ptr 1 0), (7, .ptr 2 0), (16, .v (.int .i64 v_38.1)), (17, .v (.int .i64 i_7))], [(0, .box [.v (.slice none 0 0), .v (.slice none 0 0), .v (.slice none 0 0), .v (.slice none 0 0)]), (1, .box [.sl 1 (enc b_18.b), .v (.int .i64 b_18.at_), .v (.int .i64 b_18.e)]), (2, .box [.osl 3 1 (0) (List.length a_4), .osl 4 1 (0) (List.length a_5), .osl 5 4 (0) (List.length a_14), .osl 6 4 (0) (List.length a_19)]), (3, .arr 1 (enc a_4)), (4, .arr 1 (enc a_5)), (5, .arr 4 (enc a_14)), (6, .arr 4 (enc a_19))], 7, 187⟩ : St)) (fun ((n_, i_7, b_18, a_19) : Nat × Int × GBackwashref08_walk × (List GEdge)) => loopK (f_backwashref08_Read_B6 b_0 a_4 a_5 a_14 v_38) n_ (i_7, b_18, a_19) = some r) (fun p => p.1) (rounds, 0, v_38.2, []) [some 0, some 1, some 2, some 3, some 4, some 5, none] ?_ h ?_
            · simp only [go_sem, Le] <;> (repeat' apply And.intro) <;> first | rfl | omega | (simp [go_sem]; done)
            · rintro ⟨n_6, i_7, b_18, a_19⟩ h QQ19 hQ19
              dsimp only at h
              replace h := loopK_some h
              obtain ⟨m_6, rfl, h⟩ := h
              rw [f_backwashref08_Read_B6] at h
              refine vc_seq_gen (by kernel_rfl) ?_
              intro QQ20 hQ20
              refine vc_seq_gen (by kernel_rfl) ?_
              intro QQ21 hQ21
              simp only [go_sem, Try.ntmps29, Try.results29]
              refine seqQ_normal hQ21 ?_
              refine vc_cond_of (b := ((decide (i_7 < v_38.1)) && (b_18.e == 0))) (by (simp only [go_sem]; done)) (fun hb_33 => ?_) (fun hb_33 => ?_)
              ·
                replace h := if_t h hb_33
                simp only [decide_eq_true_eq, decide_eq_false_iff_not, Bool.not_eq_true', Bool.not_eq_false', beq_iff_eq, beq_eq_false_iff_ne, ne_eq, Bool.and_eq_true, Bool.or_eq_true, Int.not_lt, Int.not_le] at hb_33
                refine vc_skip_of ?_
                refine seqQ_normal hQ20 ?_
                refine vc_seq_gen (by kernel_rfl) ?_
                intro QQ22 hQ22
                refine vc_block_gen ?_
                intro QQ23 hQ23
                refine vc_seq_gen (by kernel_rfl) ?_
                intro QQ24 hQ24
                simp only [go_sem, Try.ntmps29, Try.results29]
                refine seqQ_normal hQ24 ?_
                refine vc_seq_gen (by kernel_rfl) ?_
                intro QQ25 hQ25
                obtain ⟨v_59, ev_59, h⟩ := bindO_some h
                simp only [go_sem, Try.ntmps29, Try.results29]
                refine callm (id := 1) (f_backwashref08_walk_num_ok b_18 0 2147483647 2 v_59 ev_59) rfl (by simp) (by simp) rfl rfl rfl rfl rfl rfl ?_
                simp only [go_sem, Try.ntmps29, Try.results29]
                refine seqQ_normal hQ25 ?_
                refine vc_seq_gen (by kernel_rfl) ?_
                intro QQ26 hQ26
                obtain ⟨v_60, ev_60, h⟩ := bindO_some h
                simp only [go_sem, Try.ntmps29, Try.results29]
                refine callm (id := 1) (f_backwashref08_walk_num_ok v_59.2 0 2147483647 2 v_60 ev_60) rfl (by simp) (by simp) rfl rfl rfl rfl rfl rfl ?_
                simp only [go_sem, Try.ntmps29, Try.results29]
                refine seqQ_normal hQ26 ?_
                refine vc_seq_gen (by kernel_rfl) ?_
                intro QQ27 hQ27
                obtain ⟨v_61, ev_61, h⟩ := bindO_some h
                simp only [go_sem, Try.ntmps29, Try.results29]
                refine callm (id := 1) (f_backwashref08_walk_num_ok v_60.2 0 2147483647 2 v_61 ev_61) rfl (by simp) (by simp) rfl rfl rfl rfl rfl rfl ?_
                simp only [go_sem, Try.ntmps29, Try.results29]
                refine seqQ_normal hQ27 ?_
                refine vc_seq_gen (by kernel_rfl) ?_
                intro QQ28 hQ28
                obtain ⟨v_62, ev_62, h⟩ := bindO_some h
                simp only [go_sem, Try.ntmps29, Try.results29]
                refine callm (id := 1) (f_backwashref08_walk_num_ok v_61.2 0 1 4 v_62 ev_62) rfl (by simp) (by simp) rfl rfl rfl rfl rfl rfl ?_
                simp only [go_sem, Try.ntmps29, Try.results29]
                refine seqQ_normal hQ28 ?_
                have rf_53 : [[.v (.int .i64 v_59.1), .v (.int .i64 v_60.1), .v (.int .i64 v_61.1), .v (.bool (v_62.1 == 1))]] = enc ([(⟨v_59.1, v_60.1, v_61.1, v_62.1 == 1⟩ : GEdge)] : List GEdge) := by rfl
                obtain ⟨g_32, h⟩ := guardO_some h
                simp only [List.length_cons, List.length_nil, Nat.zero_add, List.length_append] at g_32
                have rf_54 : enc a_19 ++ [[.v (.int .i64 v_59.1), .v (.int .i64 v_60.1), .v (.int .i64 v_61.1), .v (.bool (v_62.1 == 1))]] = enc (a_19 ++ ([(⟨v_59.1, v_60.1, v_61.1, v_62.1 == 1⟩ : GEdge)] : List GEdge)) := by exact (enc_app a_19 ([(⟨v_59.1, v_60.1, v_61.1, v_62.1 == 1⟩ : GEdge)] : List GEdge)).symm
                simp only [go_sem, Try.ntmps29, Try.results29, g_32, rf_54]
                refine And.intro (by omega) ?_
                refine And.intro (by omega) ?_
                simp only [rf_53]
                refine blockQ_normal hQ23 ?_
                refine seqQ_normal hQ22 ?_
                simp only [go_sem, Try.ntmps29, Try.results29]
                refine thenQ_normal hQ19 ?_
                refine ⟨(m_6, IntKind.i64.wrap (i_7 + 1), v_62.2, (a_19 ++ ([(⟨v_59.1, v_60.1, v_61.1, v_62.1 == 1⟩ : GEdge)] : List GEdge))), [some 0, some 1, some 2, some 3, some 4, some 5, some 9], ?_, h, Nat.lt_succ_self _⟩
                simp only [go_sem, Le] <;> (repeat' apply And.intro) <;> first | rfl | omega | (simp [go_sem]; done)
              ·
                replace h := if_f h hb_33
                refine vc_exit_of ?_
                refine seqQ_exit hQ20 ?_
                refine thenQ_exit hQ19 ?_
                refine blockQ_exit hQ18 ?_
                refine thenQ_normal hQ16 ?_
                refine ⟨(b_18, a_19), [some 0, some 1, some 2, some 3, some 4, some 5, some 6], ?_, h⟩
                simp only [go_sem, Le] <;> (repeat' apply And.intro) <;> first | rfl | omega | (simp [go_sem]; done)
          · rintro ⟨b_15, a_17⟩ h
            try dsimp only at h
            rw [f_backwashref08_Read_J4] at h
            refine vc_join (by kernel_rfl) ?_
            refine seq_cut_gen (ι := GBackwashref08_walk) (fun (b_16 : GBackwashref08_walk) => (⟨0, [(2, .ptr 0 0), (6, .ptr 1 0), (7, .ptr 2 0)], [(0, .box [.v (.slice none 0 0), .v (.slice none 0 0), .v (.slice none 0 0), .v (.slice none 0 0)]), (1, .box [.sl 1 (enc b_16.b), .v (.int .i64 b_16.at_), .v (.int .i64 b_16.e)]), (2, .box [.osl 3 1 (0) (List.length a_4), .osl 4 1 (0) (List.length a_5), .osl 5 4 (0) (List.length a_14), .osl 6 4 (0) (List.length a_17)]), (3, .arr 1 (enc a_4)), (4, .arr 1 (enc a_5)), (5, .arr 4 (enc a_14)), (6, .arr 4 (enc a_17))], 7, 187⟩ : St)) (fun (b_16 : GBackwashref08_walk) => f_backwashref08_Read_J5 a_4 a_5 a_14 a_17 b_16 = some r) ?_ ?_
            ·
              intro QQ14 hQ14
              refine vc_seq_gen (by kernel_rfl) ?_
              intro QQ15 hQ15
              simp only [go_sem, Try.ntmps29, Try.results29]
              refine seqQ_normal hQ15 ?_
              refine vc_cond_of (b := ((b_15.e == 0) && (decide (b_15.at_ < (List.length b_0 : Int))))) (by (simp only [go_sem]; done)) (fun hb_30 => ?_) (fun hb_30 => ?_)
              ·
                replace h := if_t h hb_30
                simp only [decide_eq_true_eq, decide_eq_false_iff_not, Bool.not_eq_true', Bool.not_eq_false', beq_iff_eq, beq_eq_false_iff_ne, ne_eq, Bool.and_eq_true, Bool.or_eq_true, Int.not_lt, Int.not_le] at hb_30
                simp only [go_sem, Try.ntmps29, Try.results29]
                refine thenQ_normal hQ14 ?_
                refine ⟨(⟨b_15.b, b_15.at_, 4⟩ : GBackwashref08_walk), [some 0, some 1, some 2, some 3, some 4, some 5, some 6], ?_, h⟩
                simp only [go_sem, Le] <;> (repeat' apply And.intro) <;> first | rfl | omega | (simp [go_sem]; done)
              ·
                replace h := if_f h hb_30
                refine vc_skip_of ?_
                refine thenQ_normal hQ14 ?_
                refine ⟨b_15, [some 0, some 1, some 2, some 3, some 4, some 5, some 6], ?_, h⟩
                simp only [go_sem, Le] <;> (repeat' apply And.intro) <;> first | rfl | omega | (simp [go_sem]; done)
            · rintro b_16 h
              try dsimp only at h
              rw [f_backwashref08_Read_J5] at h
              refine vc_seq_gen (by kernel_rfl) ?_
              intro QQ10 hQ10
              refine vc_seq_gen (by kernel_rfl) ?_
              intro QQ11 hQ11
              simp only [go_sem, Try.ntmps29, Try.results29]
              refine seqQ_normal hQ11 ?_
              refine vc_cond_of (b := (!(b_16.e == 0))) (by (simp only [go_sem]; done)) (fun hb_29 => ?_) (fun hb_29 => ?_)
              ·
                replace h := if_t h hb_29
                simp only [decide_eq_true_eq, decide_eq_false_iff_not, Bool.not_eq_true', Bool.not_eq_false', beq_iff_eq, beq_eq_false_iff_ne, ne_eq, Bool.and_eq_true, Bool.or_eq_true, Int.not_lt, Int.not_le] at hb_29
                refine vc_seq_gen (by kernel_rfl) ?_
                intro QQ12 hQ12
                refine vc_draw ?_
                refine drawV_all 6 0 [0, 0, 2, 6, 14, 1, 63] [] [1, 2, 3, 4] [5] [] mixed (by kernel_rfl) (of_decide_eq_true (by kernel_rfl)) (by kernel_rfl) (by kernel_rfl) (by rfl) ?_
                simp only [go_sem, Try.ntmps29, Try.results29]
                refine seqQ_normal hQ12 ?_
                refine vc_ret_of ?_
                refine seqQ_ret hQ10 ?_
                simp only [go_sem, Try.ntmps29, Try.results29]
                obtain rfl := Option.some.inj h
                refine retW_pure rfl ?_
                simp only [go_sem, Le]
              ·
                replace h := if_f h hb_29
                simp only [decide_eq_true_eq, decide_eq_false_iff_not, Bool.not_eq_true', Bool.not_eq_false', beq_iff_eq, beq_eq_false_iff_ne, ne_eq, Bool.and_eq_true, Bool.or_eq_true, Int.not_lt, Int.not_le] at hb_29
                refine vc_skip_of ?_
                refine seqQ_normal hQ10 ?_
                refine vc_seq_gen (by kernel_rfl) ?_
                intro QQ13 hQ13
                simp only [go_sem, Try.ntmps29, Try.results29]
                refine seqQ_normal hQ13 ?_
                refine vc_ret_of ?_
                simp only [go_sem, Try.ntmps29, Try.results29]
                obtain rfl := Option.some.inj h
                refine retW_pure rfl ?_
                simp only [go_sem, Le] <;> (repeat' apply And.intro) <;> (simp [go_sem]; done)
end Go.Proofs.Ytngeldeahafcfaa

namespace Go.Proofs.Ytngeldeahafcfaa
open Go Go.RowKit
set_option maxHeartbeats 2000000
set_option maxRecDepth 100000
set_option linter.unusedSimpArgs false
set_option linter.unusedVariables false
def f_backwashref08_ints_B1 (a_0 : List Int) (b_0 : List Int) (rec_1 : Int → Option Bool) : Int → Option Bool :=
  fun i_1 =>
  (if (decide (i_1 < (List.length a_0 : Int))) = true then bindO (idx a_0 i_1) (fun (xv_4 : Int) =>
  bindO (idx b_0 i_1) (fun (xv_5 : Int) =>
  (if (!(xv_4 == xv_5)) = true then some false
  else rec_1 (IntKind.i64.wrap (i_1 + 1)))))
  else some true)
def f_backwashref08_ints (a_0 : List Int) (b_0 : List Int) : Option Bool :=
  (if (!((List.length a_0 : Int) == (List.length b_0 : Int))) = true then some false
  else loopK (f_backwashref08_ints_B1 a_0 b_0) rounds 0)
theorem f_backwashref08_ints_ok (a_0 : List Int) (b_0 : List Int)  (r : Bool) (h : f_backwashref08_ints a_0 b_0 = some r) : PureS Try.prog 52 [.sl 1 (enc a_0), .sl 1 (enc b_0)] 0 (.v (.bool r)) := by
  unfold PureS
  refine Spec.of_vc Try.func52 rfl (by kernel_rfl) (by kernel_rfl) ?_
  rw [f_backwashref08_ints] at h
  refine vc_seq_gen (by kernel_rfl) ?_
  intro QQ1 hQ1
  simp only [go_sem, Try.ntmps52, Try.results52]
  refine seqQ_normal hQ1 ?_
  refine vc_seq_gen (by kernel_rfl) ?_
  intro QQ2 hQ2
  refine vc_seq_gen (by kernel_rfl) ?_
  intro QQ3 hQ3
  simp only [go_sem, Try.ntmps52, Try.results52]
  refine seqQ_normal hQ3 ?_
  refine vc_cond_of (b := (!((List.length a_0 : Int) == (List.length b_0 : Int)))) (by (simp only [go_sem]; done)) (fun hb_0 => ?_) (fun hb_0 => ?_)
  ·
    replace h := if_t h hb_0
    simp only [decide_eq_true_eq, decide_eq_false_iff_not, Bool.not_eq_true', Bool.not_eq_false', beq_iff_eq, beq_eq_false_iff_ne, ne_eq, Bool.and_eq_true, Bool.or_eq_true, Int.not_lt, Int.not_le] at hb_0
    refine vc_seq_gen (by kernel_rfl) ?_
    intro QQ4 hQ4
    simp only [go_sem, Try.ntmps52, Try.results52]
    refine seqQ_normal hQ4 ?_
    refine vc_ret_of ?_
    refine seqQ_ret hQ2 ?_
    simp only [go_sem, Try.ntmps52, Try.results52]
    obtain rfl := Option.some.inj h
    refine retW_pure rfl ?_
    simp only [go_sem, Le]
  ·
    replace h := if_f h hb_0
    simp only [decide_eq_true_eq, decide_eq_false_iff_not, Bool.not_eq_true', Bool.not_eq_false', beq_iff_eq, beq_eq_false_iff_ne, ne_eq, Bool.and_eq_true, Bool.or_eq_true, Int.not_lt, Int.not_le] at hb_0
    refine vc_skip_of ?_
    refine seqQ_normal hQ2 ?_
    refine vc_join (by kernel_rfl) ?_
    refine seq_go_gen ?_
    intro QQ5 hQ5
    refine vc_seq_gen (by kernel_rfl) ?_
    intro QQ6 hQ6
    simp only [go_sem, Try.ntmps52, Try.results52]
    refine seqQ_normal hQ6 ?_
    refine vc_block_gen ?_
    intro QQ7 hQ7
    refine vc_loop_of ?_
    refine loop_gen (ι := Nat × Int) (fun ((_, i_1) : Nat × Int) => (⟨0, [(0, .sl 1 (enc a_0)), (1, .sl 1 (enc b_0)), (5, .v (.int .i64 i_1))], [], 0, 26⟩ : St)) (fun ((n_, i_1) : Nat × Int) => loopK (f_backwashref08_ints_B1 a_0 b_0) n_ i_1 = some r) (fun p => p.1) (rounds, 0) [] ?_ h ?_
    · simp only [go_sem, Le]
    · rintro ⟨n_1, i_1⟩ h QQ8 hQ8
      dsimp only at h
      replace h := loopK_some h
      obtain ⟨m_1, rfl, h⟩ := h
      rw [f_backwashref08_ints_B1] at h
      refine vc_seq_gen (by kernel_rfl) ?_
      intro QQ9 hQ9
      refine vc_seq_gen (by kernel_rfl) ?_
      intro QQ10 hQ10
      simp only [go_sem, Try.ntmps52, Try.results52]
      refine seqQ_normal hQ10 ?_
      refine vc_cond_of (b := (decide (i_1 < (List.length a_0 : Int)))) (by (simp only [go_sem]; done)) (fun hb_5 => ?_) (fun hb_5 => ?_)
      ·
        replace h := if_t h hb_5
        simp only [decide_eq_true_eq, decide_eq_false_iff_not, Bool.not_eq_true', Bool.not_eq_false', beq_iff_eq, beq_eq_false_iff_ne, ne_eq, Bool.and_eq_true, Bool.or_eq_true, Int.not_lt, Int.not_le] at hb_5
        refine vc_skip_of ?_
        refine seqQ_normal hQ9 ?_
        refine vc_seq_gen (by kernel_rfl) ?_
        intro QQ11 hQ11
        refine vc_block_gen ?_
        intro QQ12 hQ12
        refine vc_seq_gen (by kernel_rfl) ?_
        intro QQ13 hQ13
        refine vc_draw ?_
        refine drawM_tail 8 [0, 0, 3, 7, 0, 0, 48, 112, 255] mixed (by kernel_rfl) (of_decide_eq_true (by kernel_rfl)) (by kernel_rfl) ?_
        obtain ⟨xv_4, exv_4, h⟩ := bindO_some h
        obtain ⟨fxv_4a, fxv_4b, fxv_4c⟩ := idx_spec exv_4
        obtain ⟨xv_5, exv_5, h⟩ := bindO_some h
        obtain ⟨fxv_5a, fxv_5b, fxv_5c⟩ := idx_spec exv_5
        simp only [go_sem, Try.ntmps52, Try.results52, fxv_4a, fxv_4b, fxv_4c, fxv_5a, fxv_5b, fxv_5c]
        refine And.intro (by omega) ?_
        refine And.intro (by omega) ?_
        refine seqQ_normal hQ13 ?_
        refine vc_cond_of (b := (!(xv_4 == xv_5))) (by (simp only [go_sem]; done)) (fun hb_6 => ?_) (fun hb_6 => ?_)
        ·
          replace h := if_t h hb_6
          simp only [decide_eq_true_eq, decide_eq_false_iff_not, Bool.not_eq_true', Bool.not_eq_false', beq_iff_eq, beq_eq_false_iff_ne, ne_eq, Bool.and_eq_true, Bool.or_eq_true, Int.not_lt, Int.not_le] at hb_6
          refine vc_seq_gen (by kernel_rfl) ?_
          intro QQ14 hQ14
          simp only [go_sem, Try.ntmps52, Try.results52]
          refine seqQ_normal hQ14 ?_
          refine vc_ret_of ?_
          refine blockQ_ret hQ12 ?_
          refine seqQ_ret hQ11 ?_
          refine thenQ_ret hQ8 ?_
          refine blockQ_ret hQ7 ?_
          refine seqQ_ret hQ5 ?_
          simp only [go_sem, Try.ntmps52, Try.results52]
          obtain rfl := Option.some.inj h
          refine retW_pure rfl ?_
          simp only [go_sem, Le]
        ·
          replace h := if_f h hb_6
          simp only [decide_eq_true_eq, decide_eq_false_iff_not, Bool.not_eq_true', Bool.not_eq_false', beq_iff_eq, beq_eq_false_iff_ne, ne_eq, Bool.and_eq_true, Bool.or_eq_true, Int.not_lt, Int.not_le] at hb_6
          refine vc_skip_of ?_
          refine blockQ_normal hQ12 ?_
          refine seqQ_normal hQ11 ?_
          simp only [go_sem, Try.ntmps52, Try.results52]
          refine thenQ_normal hQ8 ?_
          refine ⟨(m_1, IntKind.i64.wrap (i_1 + 1)), [], ?_, h, Nat.lt_succ_self _⟩
          simp only [go_sem, Le]
      ·
        replace h := if_f h hb_5
        simp only [decide_eq_true_eq, decide_eq_false_iff_not, Bool.not_eq_true', Bool.not_eq_false', beq_iff_eq, beq_eq_false_iff_ne, ne_eq, Bool.and_eq_true, Bool.or_eq_true, Int.not_lt, Int.not_le] at hb_5
        refine vc_exit_of ?_
        refine seqQ_exit hQ9 ?_
        refine thenQ_exit hQ8 ?_
        refine blockQ_exit hQ7 ?_
        refine seqQ_normal hQ5 ?_
        refine vc_seq_gen (by kernel_rfl) ?_
        intro QQ15 hQ15
        simp only [go_sem, Try.ntmps52, Try.results52]
        refine seqQ_normal hQ15 ?_
        refine vc_ret_of ?_
        simp only [go_sem, Try.ntmps52, Try.results52]
        obtain rfl := Option.some.inj h
        refine retW_pure rfl ?_
        simp only [go_sem, Le]
end Go.Proofs.Ytngeldeahafcfaa

namespace Go.Proofs.Ytngeldeahafcfaa
open Go Go.RowKit
set_option maxHeartbeats 2000000
set_option maxRecDepth 100000
set_option linter.unusedSimpArgs false
set_option linter.unusedVariables false
def f_backwashref07_Same_B1 (a_0 : List GIns) (b_0 : List GIns) (rec_1 : Int → Option Bool) : Int → Option Bool :=
  fun i_1 =>
  (if (decide (i_1 < (List.length a_0 : Int))) = true then bindO (idx a_0 i_1) (fun (xv_4 : GIns) =>
  bindO (idx b_0 i_1) (fun (xv_5 : GIns) =>
  (if (!((xv_4.Op == xv_5.Op) && (xv_4.N == xv_5.N))) = true then some false
  else rec_1 (IntKind.i64.wrap (i_1 + 1)))))
  else some true)
def f_backwashref07_Same (a_0 : List GIns) (b_0 : List GIns) : Option Bool :=
  (if (!((List.length a_0 : Int) == (List.length b_0 : Int))) = true then some false
  else loopK (f_backwashref07_Same_B1 a_0 b_0) rounds 0)
theorem f_backwashref07_Same_ok (a_0 : List GIns) (b_0 : List GIns)  (r : Bool) (h : f_backwashref07_Same a_0 b_0 = some r) : PureS Try.prog 53 [.sl 2 (enc a_0), .sl 2 (enc b_0)] 0 (.v (.bool r)) := by
  unfold PureS
  refine Spec.of_vc Try.func53 rfl (by kernel_rfl) (by kernel_rfl) ?_
  rw [f_backwashref07_Same] at h
  refine vc_seq_gen (by kernel_rfl) ?_
  intro QQ1 hQ1
  simp only [go_sem, Try.ntmps53, Try.results53]
  refine seqQ_normal hQ1 ?_
  refine vc_seq_gen (by kernel_rfl) ?_
  intro QQ2 hQ2
  refine vc_seq_gen (by kernel_rfl) ?_
  intro QQ3 hQ3
  simp only [go_sem, Try.ntmps53, Try.results53]
  refine seqQ_normal hQ3 ?_
  refine vc_cond_of (b := (!((List.length a_0 : Int) == (List.length b_0 : Int)))) (by (simp only [go_sem]; done)) (fun hb_0 => ?_) (fun hb_0 => ?_)
  ·
    replace h := if_t h hb_0
    simp only [decide_eq_true_eq, decide_eq_false_iff_not, Bool.not_eq_true', Bool.not_eq_false', beq_iff_eq, beq_eq_false_iff_ne, ne_eq, Bool.and_eq_true, Bool.or_eq_true, Int.not_lt, Int.not_le] at hb_0
    refine vc_seq_gen (by kernel_rfl) ?_
    intro QQ4 hQ4
    simp only [go_sem, Try.ntmps53, Try.results53]
    refine seqQ_normal hQ4 ?_
    refine vc_ret_of ?_
    refine seqQ_ret hQ2 ?_
    simp only [go_sem, Try.ntmps53, Try.results53]
    obtain rfl := Option.some.inj h
    refine retW_pure rfl ?_
    simp only [go_sem, Le]
  ·
    replace h := if_f h hb_0
    simp only [decide_eq_true_eq, decide_eq_false_iff_not, Bool.not_eq_true', Bool.not_eq_false', beq_iff_eq, beq_eq_false_iff_ne, ne_eq, Bool.and_eq_true, Bool.or_eq_true, Int.not_lt, Int.not_le] at hb_0
    refine vc_skip_of ?_
    refine seqQ_normal hQ2 ?_
    refine vc_join (by kernel_rfl) ?_
    refine seq_go_gen ?_
    intro QQ5 hQ5
    refine vc_seq_gen (by kernel_rfl) ?_
    intro QQ6 hQ6
    simp only [go_sem, Try.ntmps53, Try.results53]
    refine seqQ_normal hQ6 ?_
    refine vc_block_gen ?_
    intro QQ7 hQ7
    refine vc_loop_of ?_
    refine loop_gen (ι := Nat × Int) (fun ((_, i_1) : Nat × Int) => (⟨0, [(0, .sl 2 (enc a_0)), (1, .sl 2 (enc b_0)), (5, .v (.int .i64 i_1))], [], 0, 26⟩ : St)) (fun ((n_, i_1) : Nat × Int) => loopK (f_backwashref07_Same_B1 a_0 b_0) n_ i_1 = some r) (fun p => p.1) (rounds, 0) [] ?_ h ?_
    · simp only [go_sem, Le]
    · rintro ⟨n_1, i_1⟩ h QQ8 hQ8
      dsimp only at h
      replace h := loopK_some h
      obtain ⟨m_1, rfl, h⟩ := h
      rw [f_backwashref07_Same_B1] at h
      refine vc_seq_gen (by kernel_rfl) ?_
      intro QQ9 hQ9
      refine vc_seq_gen (by kernel_rfl) ?_
      intro QQ10 hQ10
      simp only [go_sem, Try.ntmps53, Try.results53]
      refine seqQ_normal hQ10 ?_
      refine vc_cond_of (b := (decide (i_1 < (List.length a_0 : Int)))) (by (simp only [go_sem]; done)) (fun hb_5 => ?_) (fun hb_5 => ?_)
      ·
        replace h := if_t h hb_5
        simp only [decide_eq_true_eq, decide_eq_false_iff_not, Bool.not_eq_true', Bool.not_eq_false', beq_iff_eq, beq_eq_false_iff_ne, ne_eq, Bool.and_eq_true, Bool.or_eq_true, Int.not_lt, Int.not_le] at hb_5
        refine vc_skip_of ?_
        refine seqQ_normal hQ9 ?_
        refine vc_seq_gen (by kernel_rfl) ?_
        intro QQ11 hQ11
        refine vc_block_gen ?_
        intro QQ12 hQ12
        refine vc_seq_gen (by kernel_rfl) ?_
        intro QQ13 hQ13
        refine vc_draw ?_
        refine drawM_tail 8 [0, 0, 3, 7, 0, 0, 48, 112, 255] mixed (by kernel_rfl) (of_decide_eq_true (by kernel_rfl)) (by kernel_rfl) ?_
        obtain ⟨xv_4, exv_4, h⟩ := bindO_some h
        obtain ⟨fxv_4a, fxv_4b, fxv_4c⟩ := idx_spec exv_4
        obtain ⟨xv_5, exv_5, h⟩ := bindO_some h
        obtain ⟨fxv_5a, fxv_5b, fxv_5c⟩ := idx_spec exv_5
        simp only [go_sem, Try.ntmps53, Try.results53, fxv_4a, fxv_4b, fxv_4c, fxv_5a, fxv_5b, fxv_5c]
        refine And.intro (by omega) ?_
        refine And.intro (by omega) ?_
        refine seqQ_normal hQ13 ?_
        refine vc_cond_of (b := (!((xv_4.Op == xv_5.Op) && (xv_4.N == xv_5.N)))) (by (simp only [go_sem]; done)) (fun hb_6 => ?_) (fun hb_6 => ?_)
        ·
          replace h := if_t h hb_6
          simp only [decide_eq_true_eq, decide_eq_false_iff_not, Bool.not_eq_true', Bool.not_eq_false', beq_iff_eq, beq_eq_false_iff_ne, ne_eq, Bool.and_eq_true, Bool.or_eq_true, Int.not_lt, Int.not_le] at hb_6
          refine vc_seq_gen (by kernel_rfl) ?_
          intro QQ14 hQ14
          simp only [go_sem, Try.ntmps53, Try.results53]
          refine seqQ_normal hQ14 ?_
          refine vc_ret_of ?_
          refine blockQ_ret hQ12 ?_
          refine seqQ_ret hQ11 ?_
          refine thenQ_ret hQ8 ?_
          refine blockQ_ret hQ7 ?_
          refine seqQ_ret hQ5 ?_
          simp only [go_sem, Try.ntmps53, Try.results53]
          obtain rfl := Option.some.inj h
          refine retW_pure rfl ?_
          simp only [go_sem, Le]
        ·
          replace h := if_f h hb_6
          simp only [decide_eq_true_eq, decide_eq_false_iff_not, Bool.not_eq_true', Bool.not_eq_false', beq_iff_eq, beq_eq_false_iff_ne, ne_eq, Bool.and_eq_true, Bool.or_eq_true, Int.not_lt, Int.not_le] at hb_6
          refine vc_skip_of ?_
          refine blockQ_normal hQ12 ?_
          refine seqQ_normal hQ11 ?_
          simp only [go_sem, Try.ntmps53, Try.results53]
          refine thenQ_normal hQ8 ?_
          refine ⟨(m_1, IntKind.i64.wrap (i_1 + 1)), [], ?_, h, Nat.lt_succ_self _⟩
          simp only [go_sem, Le]
      ·
        replace h := if_f h hb_5
        simp only [decide_eq_true_eq, decide_eq_false_iff_not, Bool.not_eq_true', Bool.not_eq_false', beq_iff_eq, beq_eq_false_iff_ne, ne_eq, Bool.and_eq_true, Bool.or_eq_true, Int.not_lt, Int.not_le] at hb_5
        refine vc_exit_of ?_
        refine seqQ_exit hQ9 ?_
        refine thenQ_exit hQ8 ?_
        refine blockQ_exit hQ7 ?_
        refine seqQ_normal hQ5 ?_
        refine vc_seq_gen (by kernel_rfl) ?_
        intro QQ15 hQ15
        simp only [go_sem, Try.ntmps53, Try.results53]
        refine seqQ_normal hQ15 ?_
        refine vc_ret_of ?_
        simp only [go_sem, Try.ntmps53, Try.results53]
        obtain rfl := Option.some.inj h
        refine retW_pure rfl ?_
        simp only [go_sem, Le]
end Go.Proofs.Ytngeldeahafcfaa

namespace Go.Proofs.Ytngeldeahafcfaa
open Go Go.RowKit
set_option maxHeartbeats 2000000
set_option maxRecDepth 100000
set_option linter.unusedSimpArgs false
set_option linter.unusedVariables false
def f_backwashref08_Same_B2 (a_0 : GGraph) (b_0 : GGraph) (rec_2 : Int → Option Bool) : Int → Option Bool :=
  fun i_3 =>
  (if (decide (i_3 < (List.length a_0.Edges : Int))) = true then bindO (idx a_0.Edges i_3) (fun (xv_10 : GEdge) =>
  bindO (idx b_0.Edges i_3) (fun (xv_11 : GEdge) =>
  (if (!((xv_10.From == xv_11.From) && ((xv_10.To == xv_11.To) && ((xv_10.Port == xv_11.Port) && (xv_10.Exchange == xv_11.Exchange))))) = true then some false
  else rec_2 (IntKind.i64.wrap (i_3 + 1)))))
  else some true)
def f_backwashref08_Same_J1 (a_0 : GGraph) (b_0 : GGraph) : Option Bool :=
  loopK (f_backwashref08_Same_B2 a_0 b_0) rounds 0
def f_backwashref08_Same_B3 (a_0 : GGraph) (b_0 : GGraph) (rec_3 : Int → Option Bool) : Int → Option Bool :=
  fun i_5 =>
  (if (decide (i_5 < (List.length a_0.Nodes : Int))) = true then bindO (idx a_0.Nodes i_5) (fun (xv_16 : GNode) =>
  bindO (idx b_0.Nodes i_5) (fun (xv_17 : GNode) =>
  (if (((!(xv_16.Kind == xv_17.Kind)) || (!(xv_16.Scope == xv_17.Scope))) || (!(xv_16.Arg == xv_17.Arg))) = true then some false
  else bindO (f_backwashref07_Same xv_16.Prog xv_17.Prog) (fun (v_7 : Bool) =>
  (if (!v_7) = true then some false
  else rec_3 (IntKind.i64.wrap (i_5 + 1)))))))
  else f_backwashref08_Same_J1 a_0 b_0)
def f_backwashref08_Same (a_0 : GGraph) (b_0 : GGraph) : Option Bool :=
  bindO (f_backwashref08_ints a_0.Parent b_0.Parent) (fun (v_0 : Bool) =>
  (if v_0 = true then bindO (f_backwashref08_ints a_0.Bound b_0.Bound) (fun (v_1 : Bool) =>
  (if (((!v_1) || (!((List.length a_0.Nodes : Int) == (List.length b_0.Nodes : Int)))) || (!((List.length a_0.Edges : Int) == (List.length b_0.Edges : Int)))) = true then some false
  else loopK (f_backwashref08_Same_B3 a_0 b_0) rounds 0))
  else some false))
theorem f_backwashref08_Same_ok (a_0 : GGraph) (b_0 : GGraph)  (r : Bool) (h : f_backwashref08_Same a_0 b_0 = some r) : PureS Try.prog 30 [.agg [.sl 1 (enc a_0.Parent), .sl 1 (enc a_0.Bound), .sl 4 (enc a_0.Nodes), .sl 4 (enc a_0.Edges)], .agg [.sl 1 (enc b_0.Parent), .sl 1 (enc b_0.Bound), .sl 4 (enc b_0.Nodes), .sl 4 (enc b_0.Edges)]] 0 (.v (.bool r)) := by
  unfold PureS
  refine Spec.of_vc Try.func30 rfl (by kernel_rfl) (by kernel_rfl) ?_
  rw [f_backwashref08_Same] at h
  refine vc_seq_gen (by kernel_rfl) ?_
  intro QQ1 hQ1
  simp only [go_sem, Try.ntmps30, Try.results30]
  refine seqQ_normal hQ1 ?_
  refine vc_seq_gen (by kernel_rfl) ?_
  intro QQ2 hQ2
  refine vc_seq_gen (by kernel_rfl) ?_
  intro QQ3 hQ3
  obtain ⟨v_0, ev_0, h⟩ := bindO_some h
  simp only [go_sem, Try.ntmps30, Try.results30]
  refine And.intro (by omega) ?_
  refine And.intro (by omega) ?_
  refine call0 (f_backwashref08_ints_ok a_0.Parent b_0.Parent v_0 ev_0) (by rfl) (by rfl) ?_
  simp only [go_sem, Try.ntmps30, Try.results30]
  rcases hb_0 : v_0 with _ | _
  ·
    replace h := if_f h hb_0
    simp only [go_sem, Try.ntmps30, Try.results30, hb_0]
    refine seqQ_normal hQ3 ?_
    refine vc_cond_t (by (simp only [go_sem]; done)) ?_
    refine vc_seq_gen (by kernel_rfl) ?_
    intro QQ4 hQ4
    simp only [go_sem, Try.ntmps30, Try.results30]
    refine seqQ_normal hQ4 ?_
    refine vc_ret_of ?_
    refine seqQ_ret hQ2 ?_
    simp only [go_sem, Try.ntmps30, Try.results30]
    obtain rfl := Option.some.inj h
    refine retW_pure rfl ?_
    simp only [go_sem, Le]
  ·
    replace h := if_t h hb_0
    obtain ⟨v_1, ev_1, h⟩ := bindO_some h
    simp only [go_sem, Try.ntmps30, Try.results30, hb_0]
    refine call0 (f_backwashref08_ints_ok a_0.Bound b_0.Bound v_1 ev_1) (by rfl) (by rfl) ?_
    simp only [go_sem, Try.ntmps30, Try.results30]
    refine seqQ_normal hQ3 ?_
    refine vc_cond_of (b := (((!v_1) || (!((List.length a_0.Nodes : Int) == (List.length b_0.Nodes : Int)))) || (!((List.length a_0.Edges : Int) == (List.length b_0.Edges : Int))))) (by (simp only [go_sem]; done)) (fun hb_1 => ?_) (fun hb_1 => ?_)
    ·
      replace h := if_t h hb_1
      simp only [decide_eq_true_eq, decide_eq_false_iff_not, Bool.not_eq_true', Bool.not_eq_false', beq_iff_eq, beq_eq_false_iff_ne, ne_eq, Bool.and_eq_true, Bool.or_eq_true, Int.not_lt, Int.not_le] at hb_1
      refine vc_seq_gen (by kernel_rfl) ?_
      intro QQ5 hQ5
      simp only [go_sem, Try.ntmps30, Try.results30]
      refine seqQ_normal hQ5 ?_
      refine vc_ret_of ?_
      refine seqQ_ret hQ2 ?_
      simp only [go_sem, Try.ntmps30, Try.results30]
      obtain rfl := Option.some.inj h
      refine retW_pure rfl ?_
      simp only [go_sem, Le]
    ·
      replace h := if_f h hb_1
      refine vc_skip_of ?_
      refine seqQ_normal hQ2 ?_
      refine vc_join (by kernel_rfl) ?_
      refine seq_cut_gen (ι := Unit) (fun (_ : Unit) => (⟨0, [(2, .ptr 0 0), (3, .ptr 1 0)], [(0, .box [.sl 1 (enc a_0.Parent), .sl 1 (enc a_0.Bound), .sl 4 (enc a_0.Nodes), .sl 4 (enc a_0.Edges)]), (1, .box [.sl 1 (enc b_0.Parent), .sl 1 (enc b_0.Bound), .sl 4 (enc b_0.Nodes), .sl 4 (enc b_0.Edges)])], 2, 103⟩ : St)) (fun (_ : Unit) => f_backwashref08_Same_J1 a_0 b_0 = some r) ?_ ?_
      ·
        intro QQ17 hQ17
        refine vc_seq_gen (by kernel_rfl) ?_
        intro QQ18 hQ18
        simp only [go_sem, Try.ntmps30, Try.results30]
        refine seqQ_normal hQ18 ?_
        refine vc_block_gen ?_
        intro QQ19 hQ19
        refine vc_loop_of ?_
        refine loop_gen (ι := Nat × Int) (fun ((_, i_5) : Nat × Int) => (⟨0, [(2, .ptr 0 0), (3, .ptr 1 0), (5, .v (.int .i64 i_5))], [(0, .box [.sl 1 (enc a_0.Parent), .sl 1 (enc a_0.Bound), .sl 4 (enc a_0.Nodes), .sl 4 (enc a_0.Edges)]), (1, .box [.sl 1 (enc b_0.Parent), .sl 1 (enc b_0.Bound), .sl 4 (enc b_0.Nodes), .sl 4 (enc b_0.Edges)])], 2, 103⟩ : St)) (fun ((n_, i_5) : Nat × Int) => loopK (f_backwashref08_Same_B3 a_0 b_0) n_ i_5 = some r) (fun p => p.1) (rounds, 0) [some 0, some 1] ?_ h ?_
        · simp only [go_sem, Le] <;> (repeat' apply And.intro) <;> first | rfl | (simp [go_sem]; done)
        · rintro ⟨n_3, i_5⟩ h QQ20 hQ20
          dsimp only at h
          replace h := loopK_some h
          obtain ⟨m_3, rfl, h⟩ := h
          rw [f_backwashref08_Same_B3] at h
          refine vc_seq_gen (by kernel_rfl) ?_
          intro QQ21 hQ21
          refine vc_seq_gen (by kernel_rfl) ?_
          intro QQ22 hQ22
          simp only [go_sem, Try.ntmps30, Try.results30]
          refine seqQ_normal hQ22 ?_
          refine vc_cond_of (b := (decide (i_5 < (List.length a_0.Nodes : Int)))) (by (simp only [go_sem]; done)) (fun hb_23 => ?_) (fun hb_23 => ?_)
          ·
            replace h := if_t h hb_23
            simp only [decide_eq_true_eq, decide_eq_false_iff_not, Bool.not_eq_true', Bool.not_eq_false', beq_iff_eq, beq_eq_false_iff_ne, ne_eq, Bool.and_eq_true, Bool.or_eq_true, Int.not_lt, Int.not_le] at hb_23
            refine vc_skip_of ?_
            refine seqQ_normal hQ21 ?_
            refine vc_seq_gen (by kernel_rfl) ?_
            intro QQ23 hQ23
            refine vc_block_gen ?_
            intro QQ24 hQ24
            refine vc_seq_gen (by kernel_rfl) ?_
            intro QQ25 hQ25
            refine vc_draw ?_
            refine drawV_all 13 12 [0, 1, 0, 7, 15, 0, 32, 0, 224, 480, 0, 0, 3103, 8191] [2, 3] [0, 1, 2, 3, 4, 5, 6, 7, 8, 9] [12] [10, 11] mixed (by kernel_rfl) (of_decide_eq_true (by kernel_rfl)) (by kernel_rfl) (by kernel_rfl) (by rfl) ?_
            obtain ⟨xv_16, exv_16, h⟩ := bindO_some h
            obtain ⟨fxv_16a, fxv_16b, fxv_16c⟩ := idx_spec exv_16
            obtain ⟨xv_17, exv_17, h⟩ := bindO_some h
            obtain ⟨fxv_17a, fxv_17b, fxv_17c⟩ := idx_spec exv_17
            simp only [go_sem, Try.ntmps30, Try.results30, fxv_16a, fxv_16b, fxv_16c, fxv_17a, fxv_17b, fxv_17c]
            refine And.intro (by omega) ?_
            refine And.intro (by omega) ?_
            refine seqQ_normal hQ25 ?_
            refine vc_seq_gen (by kernel_rfl) ?_
            intro QQ26 hQ26
            simp only [go_sem, Try.ntmps30, Try.results30]
            refine And.intro (by omega) ?_
            refine And.intro (by omega) ?_
            rcases hb_24 : (((!(xv_16.Kind == xv_17.Kind)) || (!(xv_16.Scope == xv_17.Scope))) || (!(xv_16.Arg == xv_17.Arg))) with _ | _
            ·
              replace h := if_f h hb_24
              obtain ⟨v_7, ev_7, h⟩ := bindO_some h
              simp only [go_sem, Try.ntmps30, Try.results30, hb_24]
              refine call0 (f_backwashref07_Same_ok xv_16.Prog xv_17.Prog v_7 ev_7) (by rfl) (by rfl) ?_
              simp only [go_sem, Try.ntmps30, Try.results30]
              refine seqQ_normal hQ26 ?_
              refine vc_cond_of (b := (!v_7)) (by (simp only [go_sem]; done)) (fun hb_25 => ?_) (fun hb_25 => ?_)
              ·
                replace h := if_t h hb_25
                simp only [decide_eq_true_eq, decide_eq_false_iff_not, Bool.not_eq_true', Bool.not_eq_false', beq_iff_eq, beq_eq_false_iff_ne, ne_eq, Bool.and_eq_true, Bool.or_eq_true, Int.not_lt, Int.not_le] at hb_25
                refine vc_seq_gen (by kernel_rfl) ?_
                intro QQ27 hQ27
                simp only [go_sem, Try.ntmps30, Try.results30]
                refine seqQ_normal hQ27 ?_
                refine vc_ret_of ?_
                refine blockQ_ret hQ24 ?_
                refine seqQ_ret hQ23 ?_
                refine thenQ_ret hQ20 ?_
                refine blockQ_ret hQ19 ?_
                refine thenQ_ret hQ17 ?_
                simp only [go_sem, Try.ntmps30, Try.results30]
                obtain rfl := Option.some.inj h
                refine retW_pure rfl ?_
                simp only [go_sem, Le]
              ·
                replace h := if_f h hb_25
                simp only [decide_eq_true_eq, decide_eq_false_iff_not, Bool.not_eq_true', Bool.not_eq_false', beq_iff_eq, beq_eq_false_iff_ne, ne_eq, Bool.and_eq_true, Bool.or_eq_true, Int.not_lt, Int.not_le] at hb_25
                refine vc_skip_of ?_
                refine blockQ_normal hQ24 ?_
                refine seqQ_normal hQ23 ?_
                simp only [go_sem, Try.ntmps30, Try.results30]
                refine thenQ_normal hQ20 ?_
                refine ⟨(m_3, IntKind.i64.wrap (i_5 + 1)), [some 0, some 1], ?_, h, Nat.lt_succ_self _⟩
                simp only [go_sem, Le] <;> (repeat' apply And.intro) <;> first | rfl | (simp [go_sem]; done)
            ·
              replace h := if_t h hb_24
              simp only [go_sem, Try.ntmps30, Try.results30, hb_24]
              refine seqQ_normal hQ26 ?_
              refine vc_cond_t (by (simp only [go_sem]; done)) ?_
              refine vc_seq_gen (by kernel_rfl) ?_
              intro QQ28 hQ28
              simp only [go_sem, Try.ntmps30, Try.results30]
              refine seqQ_normal hQ28 ?_
              refine vc_ret_of ?_
              refine blockQ_ret hQ24 ?_
              refine seqQ_ret hQ23 ?_
              refine thenQ_ret hQ20 ?_
              refine blockQ_ret hQ19 ?_
              refine thenQ_ret hQ17 ?_
              simp only [go_sem, Try.ntmps30, Try.results30]
              obtain rfl := Option.some.inj h
              refine retW_pure rfl ?_
              simp only [go_sem, Le]
          ·
            replace h := if_f h hb_23
            simp only [decide_eq_true_eq, decide_eq_false_iff_not, Bool.not_eq_true', Bool.not_eq_false', beq_iff_eq, beq_eq_false_iff_ne, ne_eq, Bool.and_eq_true, Bool.or_eq_true, Int.not_lt, Int.not_le] at hb_23
            refine vc_exit_of ?_
            refine seqQ_exit hQ21 ?_
            refine thenQ_exit hQ20 ?_
            refine blockQ_exit hQ19 ?_
            refine thenQ_normal hQ17 ?_
            refine ⟨(), [some 0, some 1], ?_, h⟩
            simp only [go_sem, Le] <;> (repeat' apply And.intro) <;> first | rfl | (simp [go_sem]; done)
      · rintro ⟨⟩ h
        try dsimp only at h
        rw [f_backwashref08_Same_J1] at h
        refine vc_join (by kernel_rfl) ?_
        refine seq_go_gen ?_
        intro QQ6 hQ6
        refine vc_seq_gen (by kernel_rfl) ?_
        intro QQ7 hQ7
        simp only [go_sem, Try.ntmps30, Try.results30]
        refine seqQ_normal hQ7 ?_
        refine vc_block_gen ?_
        intro QQ8 hQ8
        refine vc_loop_of ?_
        refine loop_gen (ι := Nat × Int) (fun ((_, i_3) : Nat × Int) => (⟨0, [(2, .ptr 0 0), (3, .ptr 1 0), (8, .v (.int .i64 i_3))], [(0, .box [.sl 1 (enc a_0.Parent), .sl 1 (enc a_0.Bound), .sl 4 (enc a_0.Nodes), .sl 4 (enc a_0.Edges)]), (1, .box [.sl 1 (enc b_0.Parent), .sl 1 (enc b_0.Bound), .sl 4 (enc b_0.Nodes), .sl 4 (enc b_0.Edges)])], 2, 103⟩ : St)) (fun ((n_, i_3) : Nat × Int) => loopK (f_backwashref08_Same_B2 a_0 b_0) n_ i_3 = some r) (fun p => p.1) (rounds, 0) [some 0, some 1] ?_ h ?_
        · simp only [go_sem, Le] <;> (repeat' apply And.intro) <;> first | rfl | (simp [go_sem]; done)
        · rintro ⟨n_2, i_3⟩ h QQ9 hQ9
          dsimp only at h
          replace h := loopK_some h
          obtain ⟨m_2, rfl, h⟩ := h
          rw [f_backwashref08_Same_B2] at h
          refine vc_seq_gen (by kernel_rfl) ?_
          intro QQ10 hQ10
          refine vc_seq_gen (by kernel_rfl) ?_
          intro QQ11 hQ11
          simp only [go_sem, Try.ntmps30, Try.results30]
          refine seqQ_normal hQ11 ?_
          refine vc_cond_of (b := (decide (i_3 < (List.length a_0.Edges : Int)))) (by (simp only [go_sem]; done)) (fun hb_15 => ?_) (fun hb_15 => ?_)
          ·
            replace h := if_t h hb_15
            simp only [decide_eq_true_eq, decide_eq_false_iff_not, Bool.not_eq_true', Bool.not_eq_false', beq_iff_eq, beq_eq_false_iff_ne, ne_eq, Bool.and_eq_true, Bool.or_eq_true, Int.not_lt, Int.not_le] at hb_15
            refine vc_skip_of ?_
            refine seqQ_normal hQ10 ?_
            refine vc_seq_gen (by kernel_rfl) ?_
            intro QQ12 hQ12
            refine vc_block_gen ?_
            intro QQ13 hQ13
            refine vc_seq_gen (by kernel_rfl) ?_
            intro QQ14 hQ14
            refine vc_draw ?_
            refine drawM_tail 10 [0, 1, 0, 7, 15, 0, 32, 0, 224, 480, 1023] mixed (by kernel_rfl) (of_decide_eq_true (by kernel_rfl)) (by kernel_rfl) ?_
            obtain ⟨xv_10, exv_10, h⟩ := bindO_some h
            obtain ⟨fxv_10a, fxv_10b, fxv_10c⟩ := idx_spec exv_10
            obtain ⟨xv_11, exv_11, h⟩ := bindO_some h
            obtain ⟨fxv_11a, fxv_11b, fxv_11c⟩ := idx_spec exv_11
            simp only [go_sem, Try.ntmps30, Try.results30, fxv_10a, fxv_10b, fxv_10c, fxv_11a, fxv_11b, fxv_11c]
            refine And.intro (by omega) ?_
            refine And.intro (by omega) ?_
            refine seqQ_normal hQ14 ?_
            refine vc_cond_of (b := (!((xv_10.From == xv_11.From) && ((xv_10.To == xv_11.To) && ((xv_10.Port == xv_11.Port) && (xv_10.Exchange == xv_11.Exchange)))))) (by (simp only [go_sem]; done)) (fun hb_16 => ?_) (fun hb_16 => ?_)
            ·
              replace h := if_t h hb_16
              simp only [decide_eq_true_eq, decide_eq_false_iff_not, Bool.not_eq_true', Bool.not_eq_false', beq_iff_eq, beq_eq_false_iff_ne, ne_eq, Bool.and_eq_true, Bool.or_eq_true, Int.not_lt, Int.not_le] at hb_16
              refine vc_seq_gen (by kernel_rfl) ?_
              intro QQ15 hQ15
              simp only [go_sem, Try.ntmps30, Try.results30]
              refine seqQ_normal hQ15 ?_
              refine vc_ret_of ?_
              refine blockQ_ret hQ13 ?_
              refine seqQ_ret hQ12 ?_
              refine thenQ_ret hQ9 ?_
              refine blockQ_ret hQ8 ?_
              refine seqQ_ret hQ6 ?_
              simp only [go_sem, Try.ntmps30, Try.results30]
              obtain rfl := Option.some.inj h
              refine retW_pure rfl ?_
              simp only [go_sem, Le]
            ·
              replace h := if_f h hb_16
              simp only [decide_eq_true_eq, decide_eq_false_iff_not, Bool.not_eq_true', Bool.not_eq_false', beq_iff_eq, beq_eq_false_iff_ne, ne_eq, Bool.and_eq_true, Bool.or_eq_true, Int.not_lt, Int.not_le] at hb_16
              refine vc_skip_of ?_
              refine blockQ_normal hQ13 ?_
              refine seqQ_normal hQ12 ?_
              simp only [go_sem, Try.ntmps30, Try.results30]
              refine thenQ_normal hQ9 ?_
              refine ⟨(m_2, IntKind.i64.wrap (i_3 + 1)), [some 0, some 1], ?_, h, Nat.lt_succ_self _⟩
              simp only [go_sem, Le] <;> (repeat' apply And.intro) <;> first | rfl | (simp [go_sem]; done)
          ·
            replace h := if_f h hb_15
            simp only [decide_eq_true_eq, decide_eq_false_iff_not, Bool.not_eq_true', Bool.not_eq_false', beq_iff_eq, beq_eq_false_iff_ne, ne_eq, Bool.and_eq_true, Bool.or_eq_true, Int.not_lt, Int.not_le] at hb_15
            refine vc_exit_of ?_
            refine seqQ_exit hQ10 ?_
            refine thenQ_exit hQ9 ?_
            refine blockQ_exit hQ8 ?_
            refine seqQ_normal hQ6 ?_
            refine vc_seq_gen (by kernel_rfl) ?_
            intro QQ16 hQ16
            simp only [go_sem, Try.ntmps30, Try.results30]
            refine seqQ_normal hQ16 ?_
            refine vc_ret_of ?_
            simp only [go_sem, Try.ntmps30, Try.results30]
            obtain rfl := Option.some.inj h
            refine retW_pure rfl ?_
            simp only [go_sem, Le]
end Go.Proofs.Ytngeldeahafcfaa

namespace Go.Proofs.Ytngeldeahafcfaa
open Go Go.RowKit
set_option maxHeartbeats 2000000
set_option maxRecDepth 100000
set_option linter.unusedSimpArgs false
set_option linter.unusedVariables false
def f_slices_IndexFunc_int_B1 (s_0 : List Int) (f_0 : Int → Option Bool) (rec_1 : Int → Option Int) : Int → Option Int :=
  fun t8_1 =>
  (if (decide (t8_1 < (List.length s_0 : Int))) = true then bindO (idx s_0 t8_1) (fun (xv_2 : Int) =>
  bindO (f_0 xv_2) (fun (v_2 : Bool) =>
  (if v_2 = true then some t8_1
  else rec_1 (IntKind.i64.wrap (t8_1 + 1)))))
  else some (-1))
def f_slices_IndexFunc_int (s_0 : List Int) (f_0 : Int → Option Bool) : Option Int :=
  loopK (f_slices_IndexFunc_int_B1 s_0 f_0) rounds 0
theorem f_slices_IndexFunc_int_ok (s_0 : List Int) (f_0 : Int → Option Bool) (g_f_0 : FuncId) (c_f_0 : List AV) (F_f_0 : idFreeL c_f_0 = true) (E_f_0 : entB Try.prog g_f_0 = true) (H_f_0 : ∀ (x0 : Int) (r : Bool), f_0 x0 = some r → PureS Try.prog g_f_0 ([.v (.int .i64 x0)] ++ c_f_0) 0 (.v (.bool r))) (r : Int) (h : f_slices_IndexFunc_int s_0 f_0 = some r) : PureS Try.prog 116 [.sl 1 (enc s_0), .clo g_f_0 c_f_0] 0 (.v (.int .i64 r)) := by
  unfold PureS
  refine Spec.of_vc Try.func116 rfl (by kernel_rfl) (by kernel_rfl) ?_
  rw [f_slices_IndexFunc_int] at h
  refine vc_seq_gen (by kernel_rfl) ?_
  intro QQ1 hQ1
  simp only [go_sem, Try.ntmps116, Try.results116]
  refine seqQ_normal hQ1 ?_
  refine vc_join (by kernel_rfl) ?_
  refine seq_go_gen ?_
  intro QQ2 hQ2
  refine vc_seq_gen (by kernel_rfl) ?_
  intro QQ3 hQ3
  simp only [go_sem, Try.ntmps116, Try.results116]
  refine seqQ_normal hQ3 ?_
  refine vc_block_gen ?_
  intro QQ4 hQ4
  refine vc_loop_of ?_
  refine loop_gen (ι := Nat × Int) (fun ((_, t8_1) : Nat × Int) => (⟨0, [(0, .sl 1 (enc s_0)), (1, .clo g_f_0 c_f_0), (7, .v (.int .i64 (List.length s_0 : Int))), (8, .v (.int .i64 t8_1))], [], 0, 19⟩ : St)) (fun ((n_, t8_1) : Nat × Int) => loopK (f_slices_IndexFunc_int_B1 s_0 f_0) n_ t8_1 = some r) (fun p => p.1) (rounds, 0) [] ?_ h ?_
  · simp only [go_sem, Le, AvLeL_free _ F_f_0]
  · rintro ⟨n_1, t8_1⟩ h QQ5 hQ5
    dsimp only at h
    replace h := loopK_some h
    obtain ⟨m_1, rfl, h⟩ := h
    rw [f_slices_IndexFunc_int_B1] at h
    refine vc_seq_gen (by kernel_rfl) ?_
    intro QQ6 hQ6
    simp only [go_sem, Try.ntmps116, Try.results116]
    refine seqQ_normal hQ6 ?_
    refine vc_seq_gen (by kernel_rfl) ?_
    intro QQ7 hQ7
    refine vc_cond_of (b := (decide (t8_1 < (List.length s_0 : Int)))) (by (simp only [go_sem]; done)) (fun hb_4 => ?_) (fun hb_4 => ?_)
    ·
      replace h := if_t h hb_4
      simp only [decide_eq_true_eq, decide_eq_false_iff_not, Bool.not_eq_true', Bool.not_eq_false', beq_iff_eq, beq_eq_false_iff_ne, ne_eq, Bool.and_eq_true, Bool.or_eq_true, Int.not_lt, Int.not_le] at hb_4
      refine vc_skip_of ?_
      refine seqQ_normal hQ7 ?_
      refine vc_seq_gen (by kernel_rfl) ?_
      intro QQ8 hQ8
      refine vc_block_gen ?_
      intro QQ9 hQ9
      refine vc_seq_gen (by kernel_rfl) ?_
      intro QQ10 hQ10
      simp only [go_sem, Try.ntmps116, Try.results116]
      refine seqQ_normal hQ10 ?_
      refine vc_seq_gen (by kernel_rfl) ?_
      intro QQ11 hQ11
      obtain ⟨xv_2, exv_2, h⟩ := bindO_some h
      obtain ⟨fxv_2a, fxv_2b, fxv_2c⟩ := idx_spec exv_2
      obtain ⟨v_2, ev_2, h⟩ := bindO_some h
      simp only [go_sem, Try.ntmps116, Try.results116, fxv_2a, fxv_2b, fxv_2c, E_f_0]
      refine And.intro (by omega) ?_
      refine call0 (H_f_0 xv_2 v_2 ev_2) (by rfl) (by simp [idFreeL, idFree, F_f_0]) ?_
      simp only [go_sem, Try.ntmps116, Try.results116]
      refine seqQ_normal hQ11 ?_
      refine vc_cond_of (b := v_2) (by (simp only [go_sem]; done)) (fun hb_5 => ?_) (fun hb_5 => ?_)
      ·
        replace h := if_t h hb_5
        refine vc_seq_gen (by kernel_rfl) ?_
        intro QQ12 hQ12
        simp only [go_sem, Try.ntmps116, Try.results116]
        refine seqQ_normal hQ12 ?_
        refine vc_ret_of ?_
        refine blockQ_ret hQ9 ?_
        refine seqQ_ret hQ8 ?_
        refine thenQ_ret hQ5 ?_
        refine blockQ_ret hQ4 ?_
        refine seqQ_ret hQ2 ?_
        simp only [go_sem, Try.ntmps116, Try.results116]
        obtain rfl := Option.some.inj h
        refine retW_pure rfl ?_
        simp only [go_sem, Le, AvLeL_free _ F_f_0]
      ·
        replace h := if_f h hb_5
        refine vc_skip_of ?_
        refine blockQ_normal hQ9 ?_
        refine seqQ_normal hQ8 ?_
        simp only [go_sem, Try.ntmps116, Try.results116]
        refine thenQ_normal hQ5 ?_
        refine ⟨(m_1, IntKind.i64.wrap (t8_1 + 1)), [], ?_, h, Nat.lt_succ_self _⟩
        simp only [go_sem, Le, AvLeL_free _ F_f_0]
    ·
      replace h := if_f h hb_4
      simp only [decide_eq_true_eq, decide_eq_false_iff_not, Bool.not_eq_true', Bool.not_eq_false', beq_iff_eq, beq_eq_false_iff_ne, ne_eq, Bool.and_eq_true, Bool.or_eq_true, Int.not_lt, Int.not_le] at hb_4
      refine vc_exit_of ?_
      refine seqQ_exit hQ7 ?_
      refine thenQ_exit hQ5 ?_
      refine blockQ_exit hQ4 ?_
      refine seqQ_normal hQ2 ?_
      refine vc_seq_gen (by kernel_rfl) ?_
      intro QQ13 hQ13
      simp only [go_sem, Try.ntmps116, Try.results116]
      refine seqQ_normal hQ13 ?_
      refine vc_ret_of ?_
      simp only [go_sem, Try.ntmps116, Try.results116]
      obtain rfl := Option.some.inj h
      refine retW_pure rfl ?_
      simp only [go_sem, Le, AvLeL_free _ F_f_0]
end Go.Proofs.Ytngeldeahafcfaa

namespace Go.Proofs.Ytngeldeahafcfaa
open Go Go.RowKit
set_option maxHeartbeats 2000000
set_option maxRecDepth 100000
set_option linter.unusedSimpArgs false
set_option linter.unusedVariables false
def f_slices_ContainsFunc_int (s_0 : List Int) (f_0 : Int → Option Bool) : Option Bool :=
  bindO (f_slices_IndexFunc_int s_0 f_0) (fun (v_0 : Int) =>
  some (decide (0 ≤ v_0)))
theorem f_slices_ContainsFunc_int_ok (s_0 : List Int) (f_0 : Int → Option Bool) (g_f_0 : FuncId) (c_f_0 : List AV) (F_f_0 : idFreeL c_f_0 = true) (E_f_0 : entB Try.prog g_f_0 = true) (H_f_0 : ∀ (x0 : Int) (r : Bool), f_0 x0 = some r → PureS Try.prog g_f_0 ([.v (.int .i64 x0)] ++ c_f_0) 0 (.v (.bool r))) (r : Bool) (h : f_slices_ContainsFunc_int s_0 f_0 = some r) : PureS Try.prog 74 [.sl 1 (enc s_0), .clo g_f_0 c_f_0] 0 (.v (.bool r)) := by
  unfold PureS
  refine Spec.of_vc Try.func74 rfl (by kernel_rfl) (by kernel_rfl) ?_
  rw [f_slices_ContainsFunc_int] at h
  refine vc_seq_gen (by kernel_rfl) ?_
  intro QQ1 hQ1
  simp only [go_sem, Try.ntmps74, Try.results74]
  refine seqQ_normal hQ1 ?_
  refine vc_seq_gen (by kernel_rfl) ?_
  intro QQ2 hQ2
  obtain ⟨v_0, ev_0, h⟩ := bindO_some h
  simp only [go_sem, Try.ntmps74, Try.results74]
  refine call0 (f_slices_IndexFunc_int_ok s_0 f_0 g_f_0 c_f_0 F_f_0 E_f_0 H_f_0 v_0 ev_0) (by rfl) (by simp [idFreeL, idFree, F_f_0]) ?_
  simp only [go_sem, Try.ntmps74, Try.results74]
  refine seqQ_normal hQ2 ?_
  refine vc_ret_of ?_
  simp only [go_sem, Try.ntmps74, Try.results74]
  obtain rfl := Option.some.inj h
  refine retW_pure rfl ?_
  simp only [go_sem, Le, AvLeL_free _ F_f_0]
end Go.Proofs.Ytngeldeahafcfaa

namespace Go.Proofs.Ytngeldeahafcfaa
open Go Go.RowKit
set_option maxHeartbeats 2000000
set_option maxRecDepth 100000
set_option linter.unusedSimpArgs false
set_option linter.unusedVariables false
def f_graph_small_1 (nv_0 : Int) : Option Bool :=
  some ((decide (nv_0 < 0)) || (decide (2147483647 < nv_0)))
theorem f_graph_small_1_ok (nv_0 : Int)  (r : Bool) (h : f_graph_small_1 nv_0 = some r) : PureS Try.prog 117 [.v (.int .i64 nv_0)] 0 (.v (.bool r)) := by
  unfold PureS
  refine Spec.of_vc Try.func117 rfl (by kernel_rfl) (by kernel_rfl) ?_
  rw [f_graph_small_1] at h
  refine vc_seq_gen (by kernel_rfl) ?_
  intro QQ1 hQ1
  simp only [go_sem, Try.ntmps117, Try.results117]
  refine seqQ_normal hQ1 ?_
  refine vc_seq_gen (by kernel_rfl) ?_
  intro QQ2 hQ2
  simp only [go_sem, Try.ntmps117, Try.results117]
  refine seqQ_normal hQ2 ?_
  refine vc_ret_of ?_
  simp only [go_sem, Try.ntmps117, Try.results117]
  obtain rfl := Option.some.inj h
  refine retW_pure rfl ?_
  simp only [go_sem, Le]
end Go.Proofs.Ytngeldeahafcfaa

namespace Go.Proofs.Ytngeldeahafcfaa
open Go Go.RowKit
set_option maxHeartbeats 2000000
set_option maxRecDepth 100000
set_option linter.unusedSimpArgs false
set_option linter.unusedVariables false
def f_graph_small (l_0 : List Int) : Option Bool :=
  bindO (f_slices_ContainsFunc_int l_0 (fun x0_ => f_graph_small_1 x0_)) (fun (v_0 : Bool) =>
  some (!v_0))
theorem f_graph_small_ok (l_0 : List Int)  (r : Bool) (h : f_graph_small l_0 = some r) : PureS Try.prog 79 [.sl 1 (enc l_0)] 0 (.v (.bool r)) := by
  unfold PureS
  refine Spec.of_vc Try.func79 rfl (by kernel_rfl) (by kernel_rfl) ?_
  rw [f_graph_small] at h
  refine vc_seq_gen (by kernel_rfl) ?_
  intro QQ1 hQ1
  simp only [go_sem, Try.ntmps79, Try.results79]
  refine seqQ_normal hQ1 ?_
  refine vc_seq_gen (by kernel_rfl) ?_
  intro QQ2 hQ2
  obtain ⟨v_0, ev_0, h⟩ := bindO_some h
  simp only [go_sem, Try.ntmps79, Try.results79]
  refine call0 (f_slices_ContainsFunc_int_ok l_0 (fun x0_ => f_graph_small_1 x0_) 117 [] (by rfl) (by kernel_rfl) (fun y0 r_ e_ => f_graph_small_1_ok y0 r_ e_) v_0 ev_0) (by rfl) (by rfl) ?_
  simp only [go_sem, Try.ntmps79, Try.results79]
  refine seqQ_normal hQ2 ?_
  refine vc_ret_of ?_
  simp only [go_sem, Try.ntmps79, Try.results79]
  obtain rfl := Option.some.inj h
  refine retW_pure rfl ?_
  simp only [go_sem, Le]
end Go.Proofs.Ytngeldeahafcfaa

