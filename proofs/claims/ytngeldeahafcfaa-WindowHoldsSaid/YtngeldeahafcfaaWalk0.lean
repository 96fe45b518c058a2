/-
  What functions of the program compute, each told as a plain partial function, with the proof that the code does so. No condition beyond those that each theorem names.
-/
import Derived.Test.YtngeldeahafcfaaLibD
import Derived.Test.YtngeldeahafcfaaProg
set_option linter.unusedSimpArgs false
set_option linter.unusedVariables false
namespace Go.Proofs.Ytngeldeahafcfaa
open Go Go.RowKit
set_option maxHeartbeats 2000000
set_option maxRecDepth 100000
set_option linter.unusedSimpArgs false
set_option linter.unusedVariables false
theorem ty2_sz : szT Try.prog 2 = 1 := by kernel_rfl
theorem ty2_has : hasT Try.prog 2 = true := by kernel_rfl
theorem ty2_agg : aggT Try.prog 2 = false := by kernel_rfl
theorem ty2_by : bytesT Try.prog 2 = 8 := by kernel_rfl
theorem ty2_k : kindT Try.prog 2 = some .i64 := by kernel_rfl
theorem ty2_ar : arrayT Try.prog 2 = none := by kernel_rfl
theorem ty2_z : zeroL Try.prog 2 = some [.int .i64 0] := by kernel_rfl
theorem ty3_sz : szT Try.prog 3 = 1 := by kernel_rfl
theorem ty3_has : hasT Try.prog 3 = true := by kernel_rfl
theorem ty3_agg : aggT Try.prog 3 = false := by kernel_rfl
theorem ty3_by : bytesT Try.prog 3 = 8 := by kernel_rfl
theorem ty3_k : kindT Try.prog 3 = some .i64 := by kernel_rfl
theorem ty3_ar : arrayT Try.prog 3 = none := by kernel_rfl
theorem ty3_z : zeroL Try.prog 3 = some [.int .i64 0] := by kernel_rfl
theorem ty4_sz : szT Try.prog 4 = 1 := by kernel_rfl
theorem ty4_has : hasT Try.prog 4 = true := by kernel_rfl
theorem ty4_agg : aggT Try.prog 4 = false := by kernel_rfl
theorem ty4_by : bytesT Try.prog 4 = 1 := by kernel_rfl
theorem ty4_u : Try.prog.underlying 4 = some .bool := by kernel_rfl
theorem ty4_ar : arrayT Try.prog 4 = none := by kernel_rfl
theorem ty4_z : zeroL Try.prog 4 = some [.bool false] := by kernel_rfl
theorem ty5_sz : szT Try.prog 5 = 1 := by kernel_rfl
theorem ty5_has : hasT Try.prog 5 = true := by kernel_rfl
theorem ty5_agg : aggT Try.prog 5 = false := by kernel_rfl
theorem ty5_by : bytesT Try.prog 5 = 1 := by kernel_rfl
theorem ty5_k : kindT Try.prog 5 = some .u8 := by kernel_rfl
theorem ty5_ar : arrayT Try.prog 5 = none := by kernel_rfl
theorem ty5_z : zeroL Try.prog 5 = some [.int .u8 0] := by kernel_rfl
theorem ty22_sz : szT Try.prog 22 = 1 := by kernel_rfl
theorem ty22_has : hasT Try.prog 22 = true := by kernel_rfl
theorem ty22_agg : aggT Try.prog 22 = false := by kernel_rfl
theorem ty22_by : bytesT Try.prog 22 = 24 := by kernel_rfl
theorem ty22_e : sliceT Try.prog 22 = some 5 := by kernel_rfl
theorem ty22_ar : arrayT Try.prog 22 = none := by kernel_rfl
theorem ty22_z : zeroL Try.prog 22 = some [.slice none 0 0] := by kernel_rfl
theorem ty24_sz : szT Try.prog 24 = 1 := by kernel_rfl
theorem ty24_has : hasT Try.prog 24 = true := by kernel_rfl
theorem ty24_agg : aggT Try.prog 24 = false := by kernel_rfl
theorem ty24_by : bytesT Try.prog 24 = 8 := by kernel_rfl
theorem ty24_k : kindT Try.prog 24 = some .u64 := by kernel_rfl
theorem ty24_ar : arrayT Try.prog 24 = none := by kernel_rfl
theorem ty24_z : zeroL Try.prog 24 = some [.int .u64 0] := by kernel_rfl
theorem ty25_sz : szT Try.prog 25 = 1 := by kernel_rfl
theorem ty25_has : hasT Try.prog 25 = true := by kernel_rfl
theorem ty25_agg : aggT Try.prog 25 = false := by kernel_rfl
theorem ty25_by : bytesT Try.prog 25 = 8 := by kernel_rfl
theorem ty25_k : kindT Try.prog 25 = some .i64 := by kernel_rfl
theorem ty25_ar : arrayT Try.prog 25 = none := by kernel_rfl
theorem ty25_z : zeroL Try.prog 25 = some [.int .i64 0] := by kernel_rfl
theorem ty40_sz : szT Try.prog 40 = 1 := by kernel_rfl
theorem ty40_has : hasT Try.prog 40 = true := by kernel_rfl
theorem ty40_agg : aggT Try.prog 40 = false := by kernel_rfl
theorem ty40_by : bytesT Try.prog 40 = 1 := by kernel_rfl
theorem ty40_k : kindT Try.prog 40 = some .i8 := by kernel_rfl
theorem ty40_ar : arrayT Try.prog 40 = none := by kernel_rfl
theorem ty40_z : zeroL Try.prog 40 = some [.int .i8 0] := by kernel_rfl
theorem ty41_sz : szT Try.prog 41 = 1 := by kernel_rfl
theorem ty41_has : hasT Try.prog 41 = true := by kernel_rfl
theorem ty41_agg : aggT Try.prog 41 = false := by kernel_rfl
theorem ty41_by : bytesT Try.prog 41 = 8 := by kernel_rfl
theorem ty41_k : kindT Try.prog 41 = some .u64 := by kernel_rfl
theorem ty41_ar : arrayT Try.prog 41 = none := by kernel_rfl
theorem ty41_z : zeroL Try.prog 41 = some [.int .u64 0] := by kernel_rfl
theorem ty43_sz : szT Try.prog 43 = 1 := by kernel_rfl
theorem ty43_has : hasT Try.prog 43 = true := by kernel_rfl
theorem ty43_agg : aggT Try.prog 43 = false := by kernel_rfl
theorem ty43_by : bytesT Try.prog 43 = 24 := by kernel_rfl
theorem ty43_e : sliceT Try.prog 43 = some 49 := by kernel_rfl
theorem ty43_ar : arrayT Try.prog 43 = none := by kernel_rfl
theorem ty43_z : zeroL Try.prog 43 = some [.slice none 0 0] := by kernel_rfl
theorem ty47_sz : szT Try.prog 47 = 2 := by kernel_rfl
theorem ty47_has : hasT Try.prog 47 = true := by kernel_rfl
theorem ty47_agg : aggT Try.prog 47 = true := by kernel_rfl
theorem ty47_by : bytesT Try.prog 47 = 16 := by kernel_rfl
theorem ty47_ar : arrayT Try.prog 47 = none := by kernel_rfl
theorem ty47_f0 : fieldT Try.prog 47 0 = some (0, 2) := by kernel_rfl
theorem ty47_f1 : fieldT Try.prog 47 1 = some (1, 2) := by kernel_rfl
theorem ty47_pl : placesL Try.prog 47 = some [(0, 1), (1, 1)] := by kernel_rfl
theorem ty47_z : zeroL Try.prog 47 = some [.int .i64 0, .int .i64 0] := by kernel_rfl
theorem ty49_sz : szT Try.prog 49 = 4 := by kernel_rfl
theorem ty49_has : hasT Try.prog 49 = true := by kernel_rfl
theorem ty49_agg : aggT Try.prog 49 = true := by kernel_rfl
theorem ty49_by : bytesT Try.prog 49 = 32 := by kernel_rfl
theorem ty49_ar : arrayT Try.prog 49 = none := by kernel_rfl
theorem ty49_f0 : fieldT Try.prog 49 0 = some (0, 3) := by kernel_rfl
theorem ty49_f1 : fieldT Try.prog 49 1 = some (1, 3) := by kernel_rfl
theorem ty49_f2 : fieldT Try.prog 49 2 = some (2, 47) := by kernel_rfl
theorem ty49_pl : placesL Try.prog 49 = some [(0, 1), (1, 1), (2, 2)] := by kernel_rfl
theorem ty49_z : zeroL Try.prog 49 = some [.int .i64 0, .int .i64 0, .int .i64 0, .int .i64 0] := by kernel_rfl
theorem ty52_sz : szT Try.prog 52 = 1 := by kernel_rfl
theorem ty52_has : hasT Try.prog 52 = true := by kernel_rfl
theorem ty52_agg : aggT Try.prog 52 = false := by kernel_rfl
theorem ty52_by : bytesT Try.prog 52 = 24 := by kernel_rfl
theorem ty52_e : sliceT Try.prog 52 = some 3 := by kernel_rfl
theorem ty52_ar : arrayT Try.prog 52 = none := by kernel_rfl
theorem ty52_z : zeroL Try.prog 52 = some [.slice none 0 0] := by kernel_rfl
theorem ty53_sz : szT Try.prog 53 = 1 := by kernel_rfl
theorem ty53_has : hasT Try.prog 53 = true := by kernel_rfl
theorem ty53_agg : aggT Try.prog 53 = false := by kernel_rfl
theorem ty53_by : bytesT Try.prog 53 = 24 := by kernel_rfl
theorem ty53_e : sliceT Try.prog 53 = some 79 := by kernel_rfl
theorem ty53_ar : arrayT Try.prog 53 = none := by kernel_rfl
theorem ty53_z : zeroL Try.prog 53 = some [.slice none 0 0] := by kernel_rfl
theorem ty54_sz : szT Try.prog 54 = 1 := by kernel_rfl
theorem ty54_has : hasT Try.prog 54 = true := by kernel_rfl
theorem ty54_agg : aggT Try.prog 54 = false := by kernel_rfl
theorem ty54_by : bytesT Try.prog 54 = 24 := by kernel_rfl
theorem ty54_e : sliceT Try.prog 54 = some 93 := by kernel_rfl
theorem ty54_ar : arrayT Try.prog 54 = none := by kernel_rfl
theorem ty54_z : zeroL Try.prog 54 = some [.slice none 0 0] := by kernel_rfl
theorem ty56_sz : szT Try.prog 56 = 4 := by kernel_rfl
theorem ty56_has : hasT Try.prog 56 = true := by kernel_rfl
theorem ty56_agg : aggT Try.prog 56 = true := by kernel_rfl
theorem ty56_by : bytesT Try.prog 56 = 96 := by kernel_rfl
theorem ty56_ar : arrayT Try.prog 56 = none := by kernel_rfl
theorem ty56_f0 : fieldT Try.prog 56 0 = some (0, 52) := by kernel_rfl
theorem ty56_f1 : fieldT Try.prog 56 1 = some (1, 52) := by kernel_rfl
theorem ty56_f2 : fieldT Try.prog 56 2 = some (2, 53) := by kernel_rfl
theorem ty56_f3 : fieldT Try.prog 56 3 = some (3, 54) := by kernel_rfl
theorem ty56_pl : placesL Try.prog 56 = some [(0, 1), (1, 1), (2, 1), (3, 1)] := by kernel_rfl
theorem ty56_z : zeroL Try.prog 56 = some [.slice none 0 0, .slice none 0 0, .slice none 0 0, .slice none 0 0] := by kernel_rfl
theorem ty70_sz : szT Try.prog 70 = 5 := by kernel_rfl
theorem ty70_has : hasT Try.prog 70 = true := by kernel_rfl
theorem ty70_agg : aggT Try.prog 70 = true := by kernel_rfl
theorem ty70_by : bytesT Try.prog 70 = 120 := by kernel_rfl
theorem ty70_ar : arrayT Try.prog 70 = none := by kernel_rfl
theorem ty70_f0 : fieldT Try.prog 70 0 = some (0, 56) := by kernel_rfl
theorem ty70_f1 : fieldT Try.prog 70 1 = some (4, 52) := by kernel_rfl
theorem ty70_pl : placesL Try.prog 70 = some [(0, 4), (4, 1)] := by kernel_rfl
theorem ty70_z : zeroL Try.prog 70 = some [.slice none 0 0, .slice none 0 0, .slice none 0 0, .slice none 0 0, .slice none 0 0] := by kernel_rfl
theorem ty77_sz : szT Try.prog 77 = 1 := by kernel_rfl
theorem ty77_has : hasT Try.prog 77 = true := by kernel_rfl
theorem ty77_agg : aggT Try.prog 77 = false := by kernel_rfl
theorem ty77_by : bytesT Try.prog 77 = 24 := by kernel_rfl
theorem ty77_e : sliceT Try.prog 77 = some 102 := by kernel_rfl
theorem ty77_ar : arrayT Try.prog 77 = none := by kernel_rfl
theorem ty77_z : zeroL Try.prog 77 = some [.slice none 0 0] := by kernel_rfl
theorem ty79_sz : szT Try.prog 79 = 4 := by kernel_rfl
theorem ty79_has : hasT Try.prog 79 = true := by kernel_rfl
theorem ty79_agg : aggT Try.prog 79 = true := by kernel_rfl
theorem ty79_by : bytesT Try.prog 79 = 48 := by kernel_rfl
theorem ty79_ar : arrayT Try.prog 79 = none := by kernel_rfl
theorem ty79_f0 : fieldT Try.prog 79 0 = some (0, 3) := by kernel_rfl
theorem ty79_f1 : fieldT Try.prog 79 1 = some (1, 3) := by kernel_rfl
theorem ty79_f2 : fieldT Try.prog 79 2 = some (2, 2) := by kernel_rfl
theorem ty79_f3 : fieldT Try.prog 79 3 = some (3, 77) := by kernel_rfl
theorem ty79_pl : placesL Try.prog 79 = some [(0, 1), (1, 1), (2, 1), (3, 1)] := by kernel_rfl
theorem ty79_z : zeroL Try.prog 79 = some [.int .i64 0, .int .i64 0, .int .i64 0, .slice none 0 0] := by kernel_rfl
theorem ty86_sz : szT Try.prog 86 = 1 := by kernel_rfl
theorem ty86_has : hasT Try.prog 86 = true := by kernel_rfl
theorem ty86_agg : aggT Try.prog 86 = false := by kernel_rfl
theorem ty86_by : bytesT Try.prog 86 = 8 := by kernel_rfl
theorem ty86_ar : arrayT Try.prog 86 = none := by kernel_rfl
theorem ty86_z : zeroL Try.prog 86 = some [.pointer none] := by kernel_rfl
theorem ty88_sz : szT Try.prog 88 = 2 := by kernel_rfl
theorem ty88_has : hasT Try.prog 88 = true := by kernel_rfl
theorem ty88_agg : aggT Try.prog 88 = true := by kernel_rfl
theorem ty88_by : bytesT Try.prog 88 = 32 := by kernel_rfl
theorem ty88_ar : arrayT Try.prog 88 = none := by kernel_rfl
theorem ty88_f0 : fieldT Try.prog 88 0 = some (0, 22) := by kernel_rfl
theorem ty88_f1 : fieldT Try.prog 88 1 = some (1, 25) := by kernel_rfl
theorem ty88_pl : placesL Try.prog 88 = some [(0, 1), (1, 1)] := by kernel_rfl
theorem ty88_z : zeroL Try.prog 88 = some [.slice none 0 0, .int .i64 0] := by kernel_rfl
theorem ty93_sz : szT Try.prog 93 = 4 := by kernel_rfl
theorem ty93_has : hasT Try.prog 93 = true := by kernel_rfl
theorem ty93_agg : aggT Try.prog 93 = true := by kernel_rfl
theorem ty93_by : bytesT Try.prog 93 = 32 := by kernel_rfl
theorem ty93_ar : arrayT Try.prog 93 = none := by kernel_rfl
theorem ty93_f0 : fieldT Try.prog 93 0 = some (0, 3) := by kernel_rfl
theorem ty93_f1 : fieldT Try.prog 93 1 = some (1, 3) := by kernel_rfl
theorem ty93_f2 : fieldT Try.prog 93 2 = some (2, 3) := by kernel_rfl
theorem ty93_f3 : fieldT Try.prog 93 3 = some (3, 4) := by kernel_rfl
theorem ty93_pl : placesL Try.prog 93 = some [(0, 1), (1, 1), (2, 1), (3, 1)] := by kernel_rfl
theorem ty93_z : zeroL Try.prog 93 = some [.int .i64 0, .int .i64 0, .int .i64 0, .bool false] := by kernel_rfl
theorem ty98_sz : szT Try.prog 98 = 3 := by kernel_rfl
theorem ty98_has : hasT Try.prog 98 = true := by kernel_rfl
theorem ty98_agg : aggT Try.prog 98 = true := by kernel_rfl
theorem ty98_by : bytesT Try.prog 98 = 40 := by kernel_rfl
theorem ty98_ar : arrayT Try.prog 98 = none := by kernel_rfl
theorem ty98_f0 : fieldT Try.prog 98 0 = some (0, 22) := by kernel_rfl
theorem ty98_f1 : fieldT Try.prog 98 1 = some (1, 3) := by kernel_rfl
theorem ty98_f2 : fieldT Try.prog 98 2 = some (2, 3) := by kernel_rfl
theorem ty98_pl : placesL Try.prog 98 = some [(0, 1), (1, 1), (2, 1)] := by kernel_rfl
theorem ty98_z : zeroL Try.prog 98 = some [.slice none 0 0, .int .i64 0, .int .i64 0] := by kernel_rfl
theorem ty102_sz : szT Try.prog 102 = 2 := by kernel_rfl
theorem ty102_has : hasT Try.prog 102 = true := by kernel_rfl
theorem ty102_agg : aggT Try.prog 102 = true := by kernel_rfl
theorem ty102_by : bytesT Try.prog 102 = 16 := by kernel_rfl
theorem ty102_ar : arrayT Try.prog 102 = none := by kernel_rfl
theorem ty102_f0 : fieldT Try.prog 102 0 = some (0, 3) := by kernel_rfl
theorem ty102_f1 : fieldT Try.prog 102 1 = some (1, 2) := by kernel_rfl
theorem ty102_pl : placesL Try.prog 102 = some [(0, 1), (1, 1)] := by kernel_rfl
theorem ty102_z : zeroL Try.prog 102 = some [.int .i64 0, .int .i64 0] := by kernel_rfl
theorem ty107_sz : szT Try.prog 107 = 1 := by kernel_rfl
theorem ty107_has : hasT Try.prog 107 = true := by kernel_rfl
theorem ty107_agg : aggT Try.prog 107 = true := by kernel_rfl
theorem ty107_by : bytesT Try.prog 107 = 24 := by kernel_rfl
theorem ty107_ar : arrayT Try.prog 107 = none := by kernel_rfl
theorem ty107_f0 : fieldT Try.prog 107 0 = some (0, 22) := by kernel_rfl
theorem ty107_pl : placesL Try.prog 107 = some [(0, 1)] := by kernel_rfl
theorem ty107_z : zeroL Try.prog 107 = some [.slice none 0 0] := by kernel_rfl
theorem ty114_sz : szT Try.prog 114 = 1 := by kernel_rfl
theorem ty114_has : hasT Try.prog 114 = true := by kernel_rfl
theorem ty114_agg : aggT Try.prog 114 = false := by kernel_rfl
theorem ty114_by : bytesT Try.prog 114 = 24 := by kernel_rfl
theorem ty114_e : sliceT Try.prog 114 = some 4 := by kernel_rfl
theorem ty114_ar : arrayT Try.prog 114 = none := by kernel_rfl
theorem ty114_z : zeroL Try.prog 114 = some [.slice none 0 0] := by kernel_rfl
theorem ty116_sz : szT Try.prog 116 = 5 := by kernel_rfl
theorem ty116_has : hasT Try.prog 116 = true := by kernel_rfl
theorem ty116_agg : aggT Try.prog 116 = true := by kernel_rfl
theorem ty116_by : bytesT Try.prog 116 = 120 := by kernel_rfl
theorem ty116_ar : arrayT Try.prog 116 = none := by kernel_rfl
theorem ty116_f0 : fieldT Try.prog 116 0 = some (0, 56) := by kernel_rfl
theorem ty116_f1 : fieldT Try.prog 116 1 = some (4, 114) := by kernel_rfl
theorem ty116_pl : placesL Try.prog 116 = some [(0, 4), (4, 1)] := by kernel_rfl
theorem ty116_z : zeroL Try.prog 116 = some [.slice none 0 0, .slice none 0 0, .slice none 0 0, .slice none 0 0, .slice none 0 0] := by kernel_rfl
theorem ty121_sz : szT Try.prog 121 = 2 := by kernel_rfl
theorem ty121_has : hasT Try.prog 121 = true := by kernel_rfl
theorem ty121_agg : aggT Try.prog 121 = true := by kernel_rfl
theorem ty121_by : bytesT Try.prog 121 = 48 := by kernel_rfl
theorem ty121_ar : arrayT Try.prog 121 = none := by kernel_rfl
theorem ty121_f0 : fieldT Try.prog 121 0 = some (0, 54) := by kernel_rfl
theorem ty121_f1 : fieldT Try.prog 121 1 = some (1, 114) := by kernel_rfl
theorem ty121_pl : placesL Try.prog 121 = some [(0, 1), (1, 1)] := by kernel_rfl
theorem ty121_z : zeroL Try.prog 121 = some [.slice none 0 0, .slice none 0 0] := by kernel_rfl
theorem en3 : entB Try.prog 3 = true := by kernel_rfl
theorem en4 : entB Try.prog 4 = true := by kernel_rfl
theorem en6 : entB Try.prog 6 = true := by kernel_rfl
theorem en7 : entB Try.prog 7 = true := by kernel_rfl
theorem en14 : entB Try.prog 14 = true := by kernel_rfl
theorem en15 : entB Try.prog 15 = true := by kernel_rfl
theorem en16 : entB Try.prog 16 = true := by kernel_rfl
theorem en17 : entB Try.prog 17 = true := by kernel_rfl
theorem en18 : entB Try.prog 18 = true := by kernel_rfl
theorem en19 : entB Try.prog 19 = true := by kernel_rfl
theorem en20 : entB Try.prog 20 = true := by kernel_rfl
theorem en21 : entB Try.prog 21 = true := by kernel_rfl
theorem en22 : entB Try.prog 22 = true := by kernel_rfl
theorem en23 : entB Try.prog 23 = true := by kernel_rfl
theorem en24 : entB Try.prog 24 = true := by kernel_rfl
theorem en25 : entB Try.prog 25 = true := by kernel_rfl
theorem en26 : entB Try.prog 26 = true := by kernel_rfl
theorem en30 : entB Try.prog 30 = true := by kernel_rfl
theorem en32 : entB Try.prog 32 = true := by kernel_rfl
theorem en34 : entB Try.prog 34 = true := by kernel_rfl
theorem en39 : entB Try.prog 39 = true := by kernel_rfl
theorem en40 : entB Try.prog 40 = true := by kernel_rfl
theorem en41 : entB Try.prog 41 = true := by kernel_rfl
theorem en42 : entB Try.prog 42 = true := by kernel_rfl
theorem en43 : entB Try.prog 43 = true := by kernel_rfl
theorem en45 : entB Try.prog 45 = true := by kernel_rfl
theorem en46 : entB Try.prog 46 = true := by kernel_rfl
theorem en47 : entB Try.prog 47 = true := by kernel_rfl
theorem en48 : entB Try.prog 48 = true := by kernel_rfl
theorem en49 : entB Try.prog 49 = true := by kernel_rfl
theorem en50 : entB Try.prog 50 = true := by kernel_rfl
theorem en51 : entB Try.prog 51 = true := by kernel_rfl
theorem en52 : entB Try.prog 52 = true := by kernel_rfl
theorem en53 : entB Try.prog 53 = true := by kernel_rfl
theorem en54 : entB Try.prog 54 = true := by kernel_rfl
theorem en55 : entB Try.prog 55 = true := by kernel_rfl
theorem en56 : entB Try.prog 56 = true := by kernel_rfl
theorem en57 : entB Try.prog 57 = true := by kernel_rfl
theorem en58 : entB Try.prog 58 = true := by kernel_rfl
theorem en59 : entB Try.prog 59 = true := by kernel_rfl
theorem en60 : entB Try.prog 60 = true := by kernel_rfl
theorem en61 : entB Try.prog 61 = true := by kernel_rfl
theorem en62 : entB Try.prog 62 = true := by kernel_rfl
theorem en68 : entB Try.prog 68 = true := by kernel_rfl
theorem en69 : entB Try.prog 69 = true := by kernel_rfl
theorem en70 : entB Try.prog 70 = true := by kernel_rfl
theorem en71 : entB Try.prog 71 = true := by kernel_rfl
theorem en72 : entB Try.prog 72 = true := by kernel_rfl
theorem en74 : entB Try.prog 74 = true := by kernel_rfl
theorem en75 : entB Try.prog 75 = true := by kernel_rfl
theorem en76 : entB Try.prog 76 = true := by kernel_rfl
theorem en77 : entB Try.prog 77 = true := by kernel_rfl
theorem en78 : entB Try.prog 78 = true := by kernel_rfl
theorem en79 : entB Try.prog 79 = true := by kernel_rfl
theorem en80 : entB Try.prog 80 = true := by kernel_rfl
theorem en81 : entB Try.prog 81 = true := by kernel_rfl
theorem en82 : entB Try.prog 82 = true := by kernel_rfl
theorem en83 : entB Try.prog 83 = true := by kernel_rfl
theorem en84 : entB Try.prog 84 = true := by kernel_rfl
theorem en85 : entB Try.prog 85 = true := by kernel_rfl
theorem en88 : entB Try.prog 88 = true := by kernel_rfl
theorem en89 : entB Try.prog 89 = true := by kernel_rfl
theorem en91 : entB Try.prog 91 = true := by kernel_rfl
theorem en93 : entB Try.prog 93 = true := by kernel_rfl
theorem en94 : entB Try.prog 94 = true := by kernel_rfl
theorem en95 : entB Try.prog 95 = true := by kernel_rfl
theorem en96 : entB Try.prog 96 = true := by kernel_rfl
theorem en102 : entB Try.prog 102 = true := by kernel_rfl
theorem en103 : entB Try.prog 103 = true := by kernel_rfl
theorem en104 : entB Try.prog 104 = true := by kernel_rfl
theorem en105 : entB Try.prog 105 = true := by kernel_rfl
theorem en106 : entB Try.prog 106 = true := by kernel_rfl
theorem en107 : entB Try.prog 107 = true := by kernel_rfl
theorem en108 : entB Try.prog 108 = true := by kernel_rfl
theorem en109 : entB Try.prog 109 = true := by kernel_rfl
theorem en110 : entB Try.prog 110 = true := by kernel_rfl
theorem en111 : entB Try.prog 111 = true := by kernel_rfl
theorem en112 : entB Try.prog 112 = true := by kernel_rfl
theorem en113 : entB Try.prog 113 = true := by kernel_rfl
theorem en115 : entB Try.prog 115 = true := by kernel_rfl
theorem en116 : entB Try.prog 116 = true := by kernel_rfl
theorem en117 : entB Try.prog 117 = true := by kernel_rfl
theorem en118 : entB Try.prog 118 = true := by kernel_rfl
theorem en119 : entB Try.prog 119 = true := by kernel_rfl
theorem en120 : entB Try.prog 120 = true := by kernel_rfl
theorem en121 : entB Try.prog 121 = true := by kernel_rfl
theorem en122 : entB Try.prog 122 = true := by kernel_rfl
theorem en123 : entB Try.prog 123 = true := by kernel_rfl
theorem en124 : entB Try.prog 124 = true := by kernel_rfl
theorem en125 : entB Try.prog 125 = true := by kernel_rfl
theorem en126 : entB Try.prog 126 = true := by kernel_rfl
theorem en127 : entB Try.prog 127 = true := by kernel_rfl
theorem en128 : entB Try.prog 128 = true := by kernel_rfl
theorem en129 : entB Try.prog 129 = true := by kernel_rfl
theorem en130 : entB Try.prog 130 = true := by kernel_rfl
theorem en131 : entB Try.prog 131 = true := by kernel_rfl
@[go_sem] theorem tyb60_0 : (szT Try.prog 2 = 1) ∧ (hasT Try.prog 2 = true) ∧ (aggT Try.prog 2 = false) ∧ (bytesT Try.prog 2 = 8) ∧ (kindT Try.prog 2 = some .i64) ∧ (arrayT Try.prog 2 = none) ∧ (zeroL Try.prog 2 = some [.int .i64 0]) ∧ (szT Try.prog 3 = 1) ∧ (hasT Try.prog 3 = true) ∧ (aggT Try.prog 3 = false) ∧ (bytesT Try.prog 3 = 8) ∧ (kindT Try.prog 3 = some .i64) ∧ (arrayT Try.prog 3 = none) ∧ (zeroL Try.prog 3 = some [.int .i64 0]) ∧ (szT Try.prog 4 = 1) ∧ (hasT Try.prog 4 = true) ∧ (aggT Try.prog 4 = false) ∧ (bytesT Try.prog 4 = 1) ∧ (Try.prog.underlying 4 = some .bool) ∧ (arrayT Try.prog 4 = none) ∧ (zeroL Try.prog 4 = some [.bool false]) ∧ (szT Try.prog 5 = 1) ∧ (hasT Try.prog 5 = true) ∧ (aggT Try.prog 5 = false) ∧ (bytesT Try.prog 5 = 1) ∧ (kindT Try.prog 5 = some .u8) ∧ (arrayT Try.prog 5 = none) ∧ (zeroL Try.prog 5 = some [.int .u8 0]) ∧ (szT Try.prog 22 = 1) ∧ (hasT Try.prog 22 = true) ∧ (aggT Try.prog 22 = false) ∧ (bytesT Try.prog 22 = 24) ∧ (sliceT Try.prog 22 = some 5) ∧ (arrayT Try.prog 22 = none) ∧ (zeroL Try.prog 22 = some [.slice none 0 0]) ∧ (szT Try.prog 24 = 1) ∧ (hasT Try.prog 24 = true) ∧ (aggT Try.prog 24 = false) ∧ (bytesT Try.prog 24 = 8) ∧ (kindT Try.prog 24 = some .u64) ∧ (arrayT Try.prog 24 = none) ∧ (zeroL Try.prog 24 = some [.int .u64 0]) ∧ (szT Try.prog 25 = 1) ∧ (hasT Try.prog 25 = true) ∧ (aggT Try.prog 25 = false) ∧ (bytesT Try.prog 25 = 8) ∧ (kindT Try.prog 25 = some .i64) ∧ (arrayT Try.prog 25 = none) ∧ (zeroL Try.prog 25 = some [.int .i64 0]) ∧ (szT Try.prog 40 = 1) ∧ (hasT Try.prog 40 = true) ∧ (aggT Try.prog 40 = false) ∧ (bytesT Try.prog 40 = 1) ∧ (kindT Try.prog 40 = some .i8) ∧ (arrayT Try.prog 40 = none) ∧ (zeroL Try.prog 40 = some [.int .i8 0]) ∧ (szT Try.prog 41 = 1) ∧ (hasT Try.prog 41 = true) ∧ (aggT Try.prog 41 = false) ∧ (bytesT Try.prog 41 = 8) := ⟨ty2_sz, ty2_has, ty2_agg, ty2_by, ty2_k, ty2_ar, ty2_z, ty3_sz, ty3_has, ty3_agg, ty3_by, ty3_k, ty3_ar, ty3_z, ty4_sz, ty4_has, ty4_agg, ty4_by, ty4_u, ty4_ar, ty4_z, ty5_sz, ty5_has, ty5_agg, ty5_by, ty5_k, ty5_ar, ty5_z, ty22_sz, ty22_has, ty22_agg, ty22_by, ty22_e, ty22_ar, ty22_z, ty24_sz, ty24_has, ty24_agg, ty24_by, ty24_k, ty24_ar, ty24_z, ty25_sz, ty25_has, ty25_agg, ty25_by, ty25_k, ty25_ar, ty25_z, ty40_sz, ty40_has, ty40_agg, ty40_by, ty40_k, ty40_ar, ty40_z, ty41_sz, ty41_has, ty41_agg, ty41_by⟩
@[go_sem] theorem tyb120_0 : (kindT Try.prog 41 = some .u64) ∧ (arrayT Try.prog 41 = none) ∧ (zeroL Try.prog 41 = some [.int .u64 0]) ∧ (szT Try.prog 43 = 1) ∧ (hasT Try.prog 43 = true) ∧ (aggT Try.prog 43 = false) ∧ (bytesT Try.prog 43 = 24) ∧ (sliceT Try.prog 43 = some 49) ∧ (arrayT Try.prog 43 = none) ∧ (zeroL Try.prog 43 = some [.slice none 0 0]) ∧ (szT Try.prog 47 = 2) ∧ (hasT Try.prog 47 = true) ∧ (aggT Try.prog 47 = true) ∧ (bytesT Try.prog 47 = 16) ∧ (arrayT Try.prog 47 = none) ∧ (fieldT Try.prog 47 0 = some (0, 2)) ∧ (fieldT Try.prog 47 1 = some (1, 2)) ∧ (placesL Try.prog 47 = some [(0, 1), (1, 1)]) ∧ (zeroL Try.prog 47 = some [.int .i64 0, .int .i64 0]) ∧ (szT Try.prog 49 = 4) ∧ (hasT Try.prog 49 = true) ∧ (aggT Try.prog 49 = true) ∧ (bytesT Try.prog 49 = 32) ∧ (arrayT Try.prog 49 = none) ∧ (fieldT Try.prog 49 0 = some (0, 3)) ∧ (fieldT Try.prog 49 1 = some (1, 3)) ∧ (fieldT Try.prog 49 2 = some (2, 47)) ∧ (placesL Try.prog 49 = some [(0, 1), (1, 1), (2, 2)]) ∧ (zeroL Try.prog 49 = some [.int .i64 0, .int .i64 0, .int .i64 0, .int .i64 0]) ∧ (szT Try.prog 52 = 1) ∧ (hasT Try.prog 52 = true) ∧ (aggT Try.prog 52 = false) ∧ (bytesT Try.prog 52 = 24) ∧ (sliceT Try.prog 52 = some 3) ∧ (arrayT Try.prog 52 = none) ∧ (zeroL Try.prog 52 = some [.slice none 0 0]) ∧ (szT Try.prog 53 = 1) ∧ (hasT Try.prog 53 = true) ∧ (aggT Try.prog 53 = false) ∧ (bytesT Try.prog 53 = 24) ∧ (sliceT Try.prog 53 = some 79) ∧ (arrayT Try.prog 53 = none) ∧ (zeroL Try.prog 53 = some [.slice none 0 0]) ∧ (szT Try.prog 54 = 1) ∧ (hasT Try.prog 54 = true) ∧ (aggT Try.prog 54 = false) ∧ (bytesT Try.prog 54 = 24) ∧ (sliceT Try.prog 54 = some 93) ∧ (arrayT Try.prog 54 = none) ∧ (zeroL Try.prog 54 = some [.slice none 0 0]) ∧ (szT Try.prog 56 = 4) ∧ (hasT Try.prog 56 = true) ∧ (aggT Try.prog 56 = true) ∧ (bytesT Try.prog 56 = 96) ∧ (arrayT Try.prog 56 = none) ∧ (fieldT Try.prog 56 0 = some (0, 52)) ∧ (fieldT Try.prog 56 1 = some (1, 52)) ∧ (fieldT Try.prog 56 2 = some (2, 53)) ∧ (fieldT Try.prog 56 3 = some (3, 54)) ∧ (placesL Try.prog 56 = some [(0, 1), (1, 1), (2, 1), (3, 1)]) := ⟨ty41_k, ty41_ar, ty41_z, ty43_sz, ty43_has, ty43_agg, ty43_by, ty43_e, ty43_ar, ty43_z, ty47_sz, ty47_has, ty47_agg, ty47_by, ty47_ar, ty47_f0, ty47_f1, ty47_pl, ty47_z, ty49_sz, ty49_has, ty49_agg, ty49_by, ty49_ar, ty49_f0, ty49_f1, ty49_f2, ty49_pl, ty49_z, ty52_sz, ty52_has, ty52_agg, ty52_by, ty52_e, ty52_ar, ty52_z, ty53_sz, ty53_has, ty53_agg, ty53_by, ty53_e, ty53_ar, ty53_z, ty54_sz, ty54_has, ty54_agg, ty54_by, ty54_e, ty54_ar, ty54_z, ty56_sz, ty56_has, ty56_agg, ty56_by, ty56_ar, ty56_f0, ty56_f1, ty56_f2, ty56_f3, ty56_pl⟩
@[go_sem] theorem tyb180_0 : (zeroL Try.prog 56 = some [.slice none 0 0, .slice none 0 0, .slice none 0 0, .slice none 0 0]) ∧ (szT Try.prog 70 = 5) ∧ (hasT Try.prog 70 = true) ∧ (aggT Try.prog 70 = true) ∧ (bytesT Try.prog 70 = 120) ∧ (arrayT Try.prog 70 = none) ∧ (fieldT Try.prog 70 0 = some (0, 56)) ∧ (fieldT Try.prog 70 1 = some (4, 52)) ∧ (placesL Try.prog 70 = some [(0, 4), (4, 1)]) ∧ (zeroL Try.prog 70 = some [.slice none 0 0, .slice none 0 0, .slice none 0 0, .slice none 0 0, .slice none 0 0]) ∧ (szT Try.prog 77 = 1) ∧ (hasT Try.prog 77 = true) ∧ (aggT Try.prog 77 = false) ∧ (bytesT Try.prog 77 = 24) ∧ (sliceT Try.prog 77 = some 102) ∧ (arrayT Try.prog 77 = none) ∧ (zeroL Try.prog 77 = some [.slice none 0 0]) ∧ (szT Try.prog 79 = 4) ∧ (hasT Try.prog 79 = true) ∧ (aggT Try.prog 79 = true) ∧ (bytesT Try.prog 79 = 48) ∧ (arrayT Try.prog 79 = none) ∧ (fieldT Try.prog 79 0 = some (0, 3)) ∧ (fieldT Try.prog 79 1 = some (1, 3)) ∧ (fieldT Try.prog 79 2 = some (2, 2)) ∧ (fieldT Try.prog 79 3 = some (3, 77)) ∧ (placesL Try.prog 79 = some [(0, 1), (1, 1), (2, 1), (3, 1)]) ∧ (zeroL Try.prog 79 = some [.int .i64 0, .int .i64 0, .int .i64 0, .slice none 0 0]) ∧ (szT Try.prog 86 = 1) ∧ (hasT Try.prog 86 = true) ∧ (aggT Try.prog 86 = false) ∧ (bytesT Try.prog 86 = 8) ∧ (arrayT Try.prog 86 = none) ∧ (zeroL Try.prog 86 = some [.pointer none]) ∧ (szT Try.prog 88 = 2) ∧ (hasT Try.prog 88 = true) ∧ (aggT Try.prog 88 = true) ∧ (bytesT Try.prog 88 = 32) ∧ (arrayT Try.prog 88 = none) ∧ (fieldT Try.prog 88 0 = some (0, 22)) ∧ (fieldT Try.prog 88 1 = some (1, 25)) ∧ (placesL Try.prog 88 = some [(0, 1), (1, 1)]) ∧ (zeroL Try.prog 88 = some [.slice none 0 0, .int .i64 0]) ∧ (szT Try.prog 93 = 4) ∧ (hasT Try.prog 93 = true) ∧ (aggT Try.prog 93 = true) ∧ (bytesT Try.prog 93 = 32) ∧ (arrayT Try.prog 93 = none) ∧ (fieldT Try.prog 93 0 = some (0, 3)) ∧ (fieldT Try.prog 93 1 = some (1, 3)) ∧ (fieldT Try.prog 93 2 = some (2, 3)) ∧ (fieldT Try.prog 93 3 = some (3, 4)) ∧ (placesL Try.prog 93 = some [(0, 1), (1, 1), (2, 1), (3, 1)]) ∧ (zeroL Try.prog 93 = some [.int .i64 0, .int .i64 0, .int .i64 0, .bool false]) ∧ (szT Try.prog 98 = 3) ∧ (hasT Try.prog 98 = true) ∧ (aggT Try.prog 98 = true) ∧ (bytesT Try.prog 98 = 40) ∧ (arrayT Try.prog 98 = none) ∧ (fieldT Try.prog 98 0 = some (0, 22)) := ⟨ty56_z, ty70_sz, ty70_has, ty70_agg, ty70_by, ty70_ar, ty70_f0, ty70_f1, ty70_pl, ty70_z, ty77_sz, ty77_has, ty77_agg, ty77_by, ty77_e, ty77_ar, ty77_z, ty79_sz, ty79_has, ty79_agg, ty79_by, ty79_ar, ty79_f0, ty79_f1, ty79_f2, ty79_f3, ty79_pl, ty79_z, ty86_sz, ty86_has, ty86_agg, ty86_by, ty86_ar, ty86_z, ty88_sz, ty88_has, ty88_agg, ty88_by, ty88_ar, ty88_f0, ty88_f1, ty88_pl, ty88_z, ty93_sz, ty93_has, ty93_agg, ty93_by, ty93_ar, ty93_f0, ty93_f1, ty93_f2, ty93_f3, ty93_pl, ty93_z, ty98_sz, ty98_has, ty98_agg, ty98_by, ty98_ar, ty98_f0⟩
@[go_sem] theorem tyb240_0 : (fieldT Try.prog 98 1 = some (1, 3)) ∧ (fieldT Try.prog 98 2 = some (2, 3)) ∧ (placesL Try.prog 98 = some [(0, 1), (1, 1), (2, 1)]) ∧ (zeroL Try.prog 98 = some [.slice none 0 0, .int .i64 0, .int .i64 0]) ∧ (szT Try.prog 102 = 2) ∧ (hasT Try.prog 102 = true) ∧ (aggT Try.prog 102 = true) ∧ (bytesT Try.prog 102 = 16) ∧ (arrayT Try.prog 102 = none) ∧ (fieldT Try.prog 102 0 = some (0, 3)) ∧ (fieldT Try.prog 102 1 = some (1, 2)) ∧ (placesL Try.prog 102 = some [(0, 1), (1, 1)]) ∧ (zeroL Try.prog 102 = some [.int .i64 0, .int .i64 0]) ∧ (szT Try.prog 107 = 1) ∧ (hasT Try.prog 107 = true) ∧ (aggT Try.prog 107 = true) ∧ (bytesT Try.prog 107 = 24) ∧ (arrayT Try.prog 107 = none) ∧ (fieldT Try.prog 107 0 = some (0, 22)) ∧ (placesL Try.prog 107 = some [(0, 1)]) ∧ (zeroL Try.prog 107 = some [.slice none 0 0]) ∧ (szT Try.prog 114 = 1) ∧ (hasT Try.prog 114 = true) ∧ (aggT Try.prog 114 = false) ∧ (bytesT Try.prog 114 = 24) ∧ (sliceT Try.prog 114 = some 4) ∧ (arrayT Try.prog 114 = none) ∧ (zeroL Try.prog 114 = some [.slice none 0 0]) ∧ (szT Try.prog 116 = 5) ∧ (hasT Try.prog 116 = true) ∧ (aggT Try.prog 116 = true) ∧ (bytesT Try.prog 116 = 120) ∧ (arrayT Try.prog 116 = none) ∧ (fieldT Try.prog 116 0 = some (0, 56)) ∧ (fieldT Try.prog 116 1 = some (4, 114)) ∧ (placesL Try.prog 116 = some [(0, 4), (4, 1)]) ∧ (zeroL Try.prog 116 = some [.slice none 0 0, .slice none 0 0, .slice none 0 0, .slice none 0 0, .slice none 0 0]) ∧ (szT Try.prog 121 = 2) ∧ (hasT Try.prog 121 = true) ∧ (aggT Try.prog 121 = true) ∧ (bytesT Try.prog 121 = 48) ∧ (arrayT Try.prog 121 = none) ∧ (fieldT Try.prog 121 0 = some (0, 54)) ∧ (fieldT Try.prog 121 1 = some (1, 114)) ∧ (placesL Try.prog 121 = some [(0, 1), (1, 1)]) ∧ (zeroL Try.prog 121 = some [.slice none 0 0, .slice none 0 0]) ∧ (entB Try.prog 3 = true) ∧ (entB Try.prog 4 = true) ∧ (entB Try.prog 6 = true) ∧ (entB Try.prog 7 = true) ∧ (entB Try.prog 14 = true) ∧ (entB Try.prog 15 = true) ∧ (entB Try.prog 16 = true) ∧ (entB Try.prog 17 = true) ∧ (entB Try.prog 18 = true) ∧ (entB Try.prog 19 = true) ∧ (entB Try.prog 20 = true) ∧ (entB Try.prog 21 = true) ∧ (entB Try.prog 22 = true) ∧ (entB Try.prog 23 = true) := ⟨ty98_f1, ty98_f2, ty98_pl, ty98_z, ty102_sz, ty102_has, ty102_agg, ty102_by, ty102_ar, ty102_f0, ty102_f1, ty102_pl, ty102_z, ty107_sz, ty107_has, ty107_agg, ty107_by, ty107_ar, ty107_f0, ty107_pl, ty107_z, ty114_sz, ty114_has, ty114_agg, ty114_by, ty114_e, ty114_ar, ty114_z, ty116_sz, ty116_has, ty116_agg, ty116_by, ty116_ar, ty116_f0, ty116_f1, ty116_pl, ty116_z, ty121_sz, ty121_has, ty121_agg, ty121_by, ty121_ar, ty121_f0, ty121_f1, ty121_pl, ty121_z, en3, en4, en6, en7, en14, en15, en16, en17, en18, en19, en20, en21, en22, en23⟩
@[go_sem] theorem tyb300_0 : (entB Try.prog 24 = true) ∧ (entB Try.prog 25 = true) ∧ (entB Try.prog 26 = true) ∧ (entB Try.prog 30 = true) ∧ (entB Try.prog 32 = true) ∧ (entB Try.prog 34 = true) ∧ (entB Try.prog 39 = true) ∧ (entB Try.prog 40 = true) ∧ (entB Try.prog 41 = true) ∧ (entB Try.prog 42 = true) ∧ (entB Try.prog 43 = true) ∧ (entB Try.prog 45 = true) ∧ (entB Try.prog 46 = true) ∧ (entB Try.prog 47 = true) ∧ (entB Try.prog 48 = true) ∧ (entB Try.prog 49 = true) ∧ (entB Try.prog 50 = true) ∧ (entB Try.prog 51 = true) ∧ (entB Try.prog 52 = true) ∧ (entB Try.prog 53 = true) ∧ (entB Try.prog 54 = true) ∧ (entB Try.prog 55 = true) ∧ (entB Try.prog 56 = true) ∧ (entB Try.prog 57 = true) ∧ (entB Try.prog 58 = true) ∧ (entB Try.prog 59 = true) ∧ (entB Try.prog 60 = true) ∧ (entB Try.prog 61 = true) ∧ (entB Try.prog 62 = true) ∧ (entB Try.prog 68 = true) ∧ (entB Try.prog 69 = true) ∧ (entB Try.prog 70 = true) ∧ (entB Try.prog 71 = true) ∧ (entB Try.prog 72 = true) ∧ (entB Try.prog 74 = true) ∧ (entB Try.prog 75 = true) ∧ (entB Try.prog 76 = true) ∧ (entB Try.prog 77 = true) ∧ (entB Try.prog 78 = true) ∧ (entB Try.prog 79 = true) ∧ (entB Try.prog 80 = true) ∧ (entB Try.prog 81 = true) ∧ (entB Try.prog 82 = true) ∧ (entB Try.prog 83 = true) ∧ (entB Try.prog 84 = true) ∧ (entB Try.prog 85 = true) ∧ (entB Try.prog 88 = true) ∧ (entB Try.prog 89 = true) ∧ (entB Try.prog 91 = true) ∧ (entB Try.prog 93 = true) ∧ (entB Try.prog 94 = true) ∧ (entB Try.prog 95 = true) ∧ (entB Try.prog 96 = true) ∧ (entB Try.prog 102 = true) ∧ (entB Try.prog 103 = true) ∧ (entB Try.prog 104 = true) ∧ (entB Try.prog 105 = true) ∧ (entB Try.prog 106 = true) ∧ (entB Try.prog 107 = true) ∧ (entB Try.prog 108 = true) := ⟨en24, en25, en26, en30, en32, en34, en39, en40, en41, en42, en43, en45, en46, en47, en48, en49, en50, en51, en52, en53, en54, en55, en56, en57, en58, en59, en60, en61, en62, en68, en69, en70, en71, en72, en74, en75, en76, en77, en78, en79, en80, en81, en82, en83, en84, en85, en88, en89, en91, en93, en94, en95, en96, en102, en103, en104, en105, en106, en107, en108⟩
@[go_sem] theorem tyb360_0 : (entB Try.prog 109 = true) ∧ (entB Try.prog 110 = true) ∧ (entB Try.prog 111 = true) ∧ (entB Try.prog 112 = true) ∧ (entB Try.prog 113 = true) ∧ (entB Try.prog 115 = true) ∧ (entB Try.prog 116 = true) ∧ (entB Try.prog 117 = true) ∧ (entB Try.prog 118 = true) ∧ (entB Try.prog 119 = true) ∧ (entB Try.prog 120 = true) ∧ (entB Try.prog 121 = true) ∧ (entB Try.prog 122 = true) ∧ (entB Try.prog 123 = true) ∧ (entB Try.prog 124 = true) ∧ (entB Try.prog 125 = true) ∧ (entB Try.prog 126 = true) ∧ (entB Try.prog 127 = true) ∧ (entB Try.prog 128 = true) ∧ (entB Try.prog 129 = true) ∧ (entB Try.prog 130 = true) ∧ (entB Try.prog 131 = true) := ⟨en109, en110, en111, en112, en113, en115, en116, en117, en118, en119, en120, en121, en122, en123, en124, en125, en126, en127, en128, en129, en130, en131⟩
theorem mixed : Try.prog.follows .mixedOrders = true := by kernel_rfl
structure GRec where
  K : Int
  V : Int
instance : Row GRec := ⟨2, fun x => [.v (.int .i64 x.K), .v (.int .i64 x.V)]⟩
@[go_sem] theorem row_GRec (x : GRec) : Row.row x = [.v (.int .i64 x.K), .v (.int .i64 x.V)] := rfl
@[go_sem] theorem sz_GRec : Row.sz GRec = 2 := rfl
instance : Dat GRec where
  ct := Dat.ct Int ++ (Dat.ct Int)
  ok x := Dat.ok x.K ∧ Dat.ok x.V
  len := rfl
  of avs h := by
    obtain ⟨b0, r0, rfl, h0, g0⟩ := rowOK_split h
    obtain ⟨x0, rfl, k0⟩ := Dat.of (α := Int) _ h0
    obtain ⟨x1, rfl, k1⟩ := Dat.of (α := Int) _ g0
    exact ⟨⟨x0, x1⟩, rfl, k0, k1⟩
structure GFeed where
  Node : Int
  Epoch : Int
  Rec : GRec
instance : Row GFeed := ⟨4, fun x => [.v (.int .i64 x.Node), .v (.int .i64 x.Epoch), .v (.int .i64 x.Rec.K), .v (.int .i64 x.Rec.V)]⟩
@[go_sem] theorem row_GFeed (x : GFeed) : Row.row x = [.v (.int .i64 x.Node), .v (.int .i64 x.Epoch), .v (.int .i64 x.Rec.K), .v (.int .i64 x.Rec.V)] := rfl
@[go_sem] theorem sz_GFeed : Row.sz GFeed = 4 := rfl
instance : Dat GFeed where
  ct := Dat.ct Int ++ (Dat.ct Int ++ (Dat.ct GRec))
  ok x := Dat.ok x.Node ∧ Dat.ok x.Epoch ∧ Dat.ok x.Rec
  len := rfl
  of avs h := by
    obtain ⟨b0, r0, rfl, h0, g0⟩ := rowOK_split h
    obtain ⟨b1, r1, rfl, h1, g1⟩ := rowOK_split g0
    obtain ⟨x0, rfl, k0⟩ := Dat.of (α := Int) _ h0
    obtain ⟨x1, rfl, k1⟩ := Dat.of (α := Int) _ h1
    obtain ⟨x2, rfl, k2⟩ := Dat.of (α := GRec) _ g1
    exact ⟨⟨x0, x1, x2⟩, rfl, k0, k1, k2⟩
structure GIns where
  Op : Int
  N : Int
instance : Row GIns := ⟨2, fun x => [.v (.int .i64 x.Op), .v (.int .i64 x.N)]⟩
@[go_sem] theorem row_GIns (x : GIns) : Row.row x = [.v (.int .i64 x.Op), .v (.int .i64 x.N)] := rfl
@[go_sem] theorem sz_GIns : Row.sz GIns = 2 := rfl
instance : Dat GIns where
  ct := Dat.ct Int ++ (Dat.ct Int)
  ok x := Dat.ok x.Op ∧ Dat.ok x.N
  len := rfl
  of avs h := by
    obtain ⟨b0, r0, rfl, h0, g0⟩ := rowOK_split h
    obtain ⟨x0, rfl, k0⟩ := Dat.of (α := Int) _ h0
    obtain ⟨x1, rfl, k1⟩ := Dat.of (α := Int) _ g0
    exact ⟨⟨x0, x1⟩, rfl, k0, k1⟩
structure GEdge where
  From : Int
  To : Int
  Port : Int
  Exchange : Bool
instance : Row GEdge := ⟨4, fun x => [.v (.int .i64 x.From), .v (.int .i64 x.To), .v (.int .i64 x.Port), .v (.bool x.Exchange)]⟩
@[go_sem] theorem row_GEdge (x : GEdge) : Row.row x = [.v (.int .i64 x.From), .v (.int .i64 x.To), .v (.int .i64 x.Port), .v (.bool x.Exchange)] := rfl
@[go_sem] theorem sz_GEdge : Row.sz GEdge = 4 := rfl
instance : Dat GEdge where
  ct := Dat.ct Int ++ (Dat.ct Int ++ (Dat.ct Int ++ (Dat.ct Bool)))
  ok x := Dat.ok x.From ∧ Dat.ok x.To ∧ Dat.ok x.Port ∧ Dat.ok x.Exchange
  len := rfl
  of avs h := by
    obtain ⟨b0, r0, rfl, h0, g0⟩ := rowOK_split h
    obtain ⟨b1, r1, rfl, h1, g1⟩ := rowOK_split g0
    obtain ⟨b2, r2, rfl, h2, g2⟩ := rowOK_split g1
    obtain ⟨x0, rfl, k0⟩ := Dat.of (α := Int) _ h0
    obtain ⟨x1, rfl, k1⟩ := Dat.of (α := Int) _ h1
    obtain ⟨x2, rfl, k2⟩ := Dat.of (α := Int) _ h2
    obtain ⟨x3, rfl, k3⟩ := Dat.of (α := Bool) _ g2
    exact ⟨⟨x0, x1, x2, x3⟩, rfl, k0, k1, k2, k3⟩
structure GNode where
  Kind : Int
  Scope : Int
  Arg : Int
  Prog : List GIns
instance : Row GNode := ⟨4, fun x => [.v (.int .i64 x.Kind), .v (.int .i64 x.Scope), .v (.int .i64 x.Arg), .sl 2 (enc x.Prog)]⟩
@[go_sem] theorem row_GNode (x : GNode) : Row.row x = [.v (.int .i64 x.Kind), .v (.int .i64 x.Scope), .v (.int .i64 x.Arg), .sl 2 (enc x.Prog)] := rfl
@[go_sem] theorem sz_GNode : Row.sz GNode = 4 := rfl
instance : Dat GNode where
  ct := Dat.ct Int ++ (Dat.ct Int ++ (Dat.ct Int ++ (Dat.ct (List GIns))))
  ok x := Dat.ok x.Kind ∧ Dat.ok x.Scope ∧ Dat.ok x.Arg ∧ Dat.ok x.Prog
  len := rfl
  of avs h := by
    obtain ⟨b0, r0, rfl, h0, g0⟩ := rowOK_split h
    obtain ⟨b1, r1, rfl, h1, g1⟩ := rowOK_split g0
    obtain ⟨b2, r2, rfl, h2, g2⟩ := rowOK_split g1
    obtain ⟨x0, rfl, k0⟩ := Dat.of (α := Int) _ h0
    obtain ⟨x1, rfl, k1⟩ := Dat.of (α := Int) _ h1
    obtain ⟨x2, rfl, k2⟩ := Dat.of (α := Int) _ h2
    obtain ⟨x3, rfl, k3⟩ := Dat.of (α := List GIns) _ g2
    exact ⟨⟨x0, x1, x2, x3⟩, rfl, k0, k1, k2, k3⟩
structure GGraph where
  Parent : List Int
  Bound : List Int
  Nodes : List GNode
  Edges : List GEdge
instance : Row GGraph := ⟨4, fun x => [.sl 1 (enc x.Parent), .sl 1 (enc x.Bound), .sl 4 (enc x.Nodes), .sl 4 (enc x.Edges)]⟩
@[go_sem] theorem row_GGraph (x : GGraph) : Row.row x = [.sl 1 (enc x.Parent), .sl 1 (enc x.Bound), .sl 4 (enc x.Nodes), .sl 4 (enc x.Edges)] := rfl
@[go_sem] theorem sz_GGraph : Row.sz GGraph = 4 := rfl
instance : Dat GGraph where
  ct := Dat.ct (List Int) ++ (Dat.ct (List Int) ++ (Dat.ct (List GNode) ++ (Dat.ct (List GEdge))))
  ok x := Dat.ok x.Parent ∧ Dat.ok x.Bound ∧ Dat.ok x.Nodes ∧ Dat.ok x.Edges
  len := rfl
  of avs h := by
    obtain ⟨b0, r0, rfl, h0, g0⟩ := rowOK_split h
    obtain ⟨b1, r1, rfl, h1, g1⟩ := rowOK_split g0
    obtain ⟨b2, r2, rfl, h2, g2⟩ := rowOK_split g1
    obtain ⟨x0, rfl, k0⟩ := Dat.of (α := List Int) _ h0
    obtain ⟨x1, rfl, k1⟩ := Dat.of (α := List Int) _ h1
    obtain ⟨x2, rfl, k2⟩ := Dat.of (α := List GNode) _ h2
    obtain ⟨x3, rfl, k3⟩ := Dat.of (α := List GEdge) _ g2
    exact ⟨⟨x0, x1, x2, x3⟩, rfl, k0, k1, k2, k3⟩
structure GGraph_writer where
  b : List UInt8
instance : Row GGraph_writer := ⟨1, fun x => [.sl 1 (enc x.b)]⟩
@[go_sem] theorem row_GGraph_writer (x : GGraph_writer) : Row.row x = [.sl 1 (enc x.b)] := rfl
@[go_sem] theorem sz_GGraph_writer : Row.sz GGraph_writer = 1 := rfl
instance : Dat GGraph_writer where
  ct := Dat.ct (List UInt8)
  ok x := Dat.ok x.b
  len := rfl
  of avs h := by
    obtain ⟨x0, rfl, k0⟩ := Dat.of (α := List UInt8) _ h
    exact ⟨⟨x0⟩, rfl, k0⟩
structure GGraph_reader where
  b : List UInt8
  e : Int
instance : Row GGraph_reader := ⟨2, fun x => [.sl 1 (enc x.b), .v (.int .i64 x.e)]⟩
@[go_sem] theorem row_GGraph_reader (x : GGraph_reader) : Row.row x = [.sl 1 (enc x.b), .v (.int .i64 x.e)] := rfl
@[go_sem] theorem sz_GGraph_reader : Row.sz GGraph_reader = 2 := rfl
instance : Dat GGraph_reader where
  ct := Dat.ct (List UInt8) ++ (Dat.ct Int)
  ok x := Dat.ok x.b ∧ Dat.ok x.e
  len := rfl
  of avs h := by
    obtain ⟨b0, r0, rfl, h0, g0⟩ := rowOK_split h
    obtain ⟨x0, rfl, k0⟩ := Dat.of (α := List UInt8) _ h0
    obtain ⟨x1, rfl, k1⟩ := Dat.of (α := Int) _ g0
    exact ⟨⟨x0, x1⟩, rfl, k0, k1⟩
structure GBackwashref08_walk where
  b : List UInt8
  at_ : Int
  e : Int
instance : Row GBackwashref08_walk := ⟨3, fun x => [.sl 1 (enc x.b), .v (.int .i64 x.at_), .v (.int .i64 x.e)]⟩
@[go_sem] theorem row_GBackwashref08_walk (x : GBackwashref08_walk) : Row.row x = [.sl 1 (enc x.b), .v (.int .i64 x.at_), .v (.int .i64 x.e)] := rfl
@[go_sem] theorem sz_GBackwashref08_walk : Row.sz GBackwashref08_walk = 3 := rfl
instance : Dat GBackwashref08_walk where
  ct := Dat.ct (List UInt8) ++ (Dat.ct Int ++ (Dat.ct Int))
  ok x := Dat.ok x.b ∧ Dat.ok x.at_ ∧ Dat.ok x.e
  len := rfl
  of avs h := by
    obtain ⟨b0, r0, rfl, h0, g0⟩ := rowOK_split h
    obtain ⟨b1, r1, rfl, h1, g1⟩ := rowOK_split g0
    obtain ⟨x0, rfl, k0⟩ := Dat.of (α := List UInt8) _ h0
    obtain ⟨x1, rfl, k1⟩ := Dat.of (α := Int) _ h1
    obtain ⟨x2, rfl, k2⟩ := Dat.of (α := Int) _ g1
    exact ⟨⟨x0, x1, x2⟩, rfl, k0, k1, k2⟩
structure GFuse_work where
  g : GGraph
  gone : List Bool
instance : Row GFuse_work := ⟨5, fun x => [.sl 1 (enc x.g.Parent), .sl 1 (enc x.g.Bound), .sl 4 (enc x.g.Nodes), .sl 4 (enc x.g.Edges), .sl 1 (enc x.gone)]⟩
@[go_sem] theorem row_GFuse_work (x : GFuse_work) : Row.row x = [.sl 1 (enc x.g.Parent), .sl 1 (enc x.g.Bound), .sl 4 (enc x.g.Nodes), .sl 4 (enc x.g.Edges), .sl 1 (enc x.gone)] := rfl
@[go_sem] theorem sz_GFuse_work : Row.sz GFuse_work = 5 := rfl
instance : Dat GFuse_work where
  ct := Dat.ct GGraph ++ (Dat.ct (List Bool))
  ok x := Dat.ok x.g ∧ Dat.ok x.gone
  len := rfl
  of avs h := by
    obtain ⟨b0, r0, rfl, h0, g0⟩ := rowOK_split h
    obtain ⟨x0, rfl, k0⟩ := Dat.of (α := GGraph) _ h0
    obtain ⟨x1, rfl, k1⟩ := Dat.of (α := List Bool) _ g0
    exact ⟨⟨x0, x1⟩, rfl, k0, k1⟩
structure GFused where
  Graph : GGraph
  Now : List Int
instance : Row GFused := ⟨5, fun x => [.sl 1 (enc x.Graph.Parent), .sl 1 (enc x.Graph.Bound), .sl 4 (enc x.Graph.Nodes), .sl 4 (enc x.Graph.Edges), .sl 1 (enc x.Now)]⟩
@[go_sem] theorem row_GFused (x : GFused) : Row.row x = [.sl 1 (enc x.Graph.Parent), .sl 1 (enc x.Graph.Bound), .sl 4 (enc x.Graph.Nodes), .sl 4 (enc x.Graph.Edges), .sl 1 (enc x.Now)] := rfl
@[go_sem] theorem sz_GFused : Row.sz GFused = 5 := rfl
instance : Dat GFused where
  ct := Dat.ct GGraph ++ (Dat.ct (List Int))
  ok x := Dat.ok x.Graph ∧ Dat.ok x.Now
  len := rfl
  of avs h := by
    obtain ⟨b0, r0, rfl, h0, g0⟩ := rowOK_split h
    obtain ⟨x0, rfl, k0⟩ := Dat.of (α := GGraph) _ h0
    obtain ⟨x1, rfl, k1⟩ := Dat.of (α := List Int) _ g0
    exact ⟨⟨x0, x1⟩, rfl, k0, k1⟩
structure GBackwashref24_state where
  edges : List GEdge
  gone : List Bool
instance : Row GBackwashref24_state := ⟨2, fun x => [.sl 4 (enc x.edges), .sl 1 (enc x.gone)]⟩
@[go_sem] theorem row_GBackwashref24_state (x : GBackwashref24_state) : Row.row x = [.sl 4 (enc x.edges), .sl 1 (enc x.gone)] := rfl
@[go_sem] theorem sz_GBackwashref24_state : Row.sz GBackwashref24_state = 2 := rfl
instance : Dat GBackwashref24_state where
  ct := Dat.ct (List GEdge) ++ (Dat.ct (List Bool))
  ok x := Dat.ok x.edges ∧ Dat.ok x.gone
  len := rfl
  of avs h := by
    obtain ⟨b0, r0, rfl, h0, g0⟩ := rowOK_split h
    obtain ⟨x0, rfl, k0⟩ := Dat.of (α := List GEdge) _ h0
    obtain ⟨x1, rfl, k1⟩ := Dat.of (α := List Bool) _ g0
    exact ⟨⟨x0, x1⟩, rfl, k0, k1⟩
@[go_sem] theorem eqT47 : EqT Try.prog 47 [some .i64, some .i64] := EqT_of (by kernel_rfl) (by kernel_rfl) (by kernel_rfl)
@[go_sem] theorem eqT93 : EqT Try.prog 93 [some .i64, some .i64, some .i64, none] := EqT_of (by kernel_rfl) (by kernel_rfl) (by kernel_rfl)
@[go_sem] theorem eqT102 : EqT Try.prog 102 [some .i64, some .i64] := EqT_of (by kernel_rfl) (by kernel_rfl) (by kernel_rfl)
end Go.Proofs.Ytngeldeahafcfaa

namespace Go.Proofs.Ytngeldeahafcfaa
open Go Go.RowKit
set_option maxHeartbeats 2000000
set_option maxRecDepth 100000
set_option linter.unusedSimpArgs false
set_option linter.unusedVariables false
def f_slices_IndexFunc_int_B1 (s_0 : List Int) (f_0 : Int → Option Bool) (rec_1 : Int → Option Int) : Int → Option Int :=
  fun t8_1 =>
  (if (decide (t8_1 < (List.length s_0 : Int))) = true then bindO (idx s_0 t8_1) (fun (xv_2 : Int) =>
  bindO (f_0 xv_2) (fun (v_2 : Bool) =>
  (if v_2 = true then some t8_1
  else rec_1 (IntKind.i64.wrap (t8_1 + 1)))))
  else some (-1))
def f_slices_IndexFunc_int (s_0 : List Int) (f_0 : Int → Option Bool) : Option Int :=
  loopK (f_slices_IndexFunc_int_B1 s_0 f_0) rounds 0
theorem f_slices_IndexFunc_int_ok (s_0 : List Int) (f_0 : Int → Option Bool) (g_f_0 : FuncId) (c_f_0 : List AV) (F_f_0 : idFreeL c_f_0 = true) (E_f_0 : entB Try.prog g_f_0 = true) (H_f_0 : ∀ (x0 : Int) (r : Bool), f_0 x0 = some r → PureS Try.prog g_f_0 ([.v (.int .i64 x0)] ++ c_f_0) 0 (.v (.bool r))) (r : Int) (h : f_slices_IndexFunc_int s_0 f_0 = some r) : PureS Try.prog 116 [.sl 1 (enc s_0), .clo g_f_0 c_f_0] 0 (.v (.int .i64 r)) := by
  unfold PureS
  refine Spec.of_vc Try.func116 rfl (by kernel_rfl) (by kernel_rfl) ?_
  rw [f_slices_IndexFunc_int] at h
  refine vc_seq_gen (by kernel_rfl) ?_
  intro QQ1 hQ1
  try simp only [go_sem, Int.reduceToNat, Int.reduceLT, Int.reduceLE, Int.reduceBEq, Int.reduceEq, Int.reduceNeg, Int.reduceNegSucc, Int.reduceSub, Int.reduceAdd, Int.reduceMul, Int.natCast_zero, Int.natCast_one, UInt8.reduceToNat, Nat.reduceEqDiff, Nat.reduceAdd, Nat.reduceMul, Nat.reduceSub, Nat.reduceLeDiff, Nat.reduceBEq, ↓reduceIte, reduceCtorEq, Try.ntmps116, Try.results116]
  repeat ((with_reducible refine And.intro ?_ ?_); · (first | omega | assumption | (simp +contextual only [and_self, implies_true, true_and, and_true, imp_self]; done) | (intros; (repeat' apply And.intro) <;> first | assumption | omega) | (simp +contextual; done) | (intros; simp_all; done)))
  refine seqQ_normal hQ1 ?_
  refine vc_join (by kernel_rfl) ?_
  refine seq_go_gen ?_
  intro QQ2 hQ2
  refine vc_seq_gen (by kernel_rfl) ?_
  intro QQ3 hQ3
  try simp only [go_sem, Int.reduceToNat, Int.reduceLT, Int.reduceLE, Int.reduceBEq, Int.reduceEq, Int.reduceNeg, Int.reduceNegSucc, Int.reduceSub, Int.reduceAdd, Int.reduceMul, Int.natCast_zero, Int.natCast_one, UInt8.reduceToNat, Nat.reduceEqDiff, Nat.reduceAdd, Nat.reduceMul, Nat.reduceSub, Nat.reduceLeDiff, Nat.reduceBEq, ↓reduceIte, reduceCtorEq, Try.ntmps116, Try.results116]
  repeat ((with_reducible refine And.intro ?_ ?_); · (first | omega | assumption | (simp +contextual only [and_self, implies_true, true_and, and_true, imp_self]; done) | (intros; (repeat' apply And.intro) <;> first | assumption | omega) | (simp +contextual; done) | (intros; simp_all; done)))
  refine seqQ_normal hQ3 ?_
  refine vc_block_gen ?_
  intro QQ4 hQ4
  refine vc_loop_of ?_
  refine loop_gen (ι := Nat × Int) (fun ((_, t8_1) : Nat × Int) => (⟨0, [(0, .sl 1 (enc s_0)), (1, .clo g_f_0 c_f_0), (7, .v (.int .i64 (List.length s_0 : Int))), (8, .v (.int .i64 t8_1))], [], 0, 19⟩ : St)) (fun ((n_, t8_1) : Nat × Int) => loopK (f_slices_IndexFunc_int_B1 s_0 f_0) n_ t8_1 = some r) (fun p => p.1) (rounds, 0) [] ?_ h ?_
  · simp only [go_sem, Le, Int.reduceToNat, Int.reduceLT, Int.reduceLE, Int.reduceBEq, Int.reduceEq, Int.reduceNeg, Int.reduceNegSucc, Int.reduceSub, Int.reduceAdd, Int.reduceMul, Int.natCast_zero, Int.natCast_one, UInt8.reduceToNat, Nat.reduceEqDiff, Nat.reduceAdd, Nat.reduceMul, Nat.reduceSub, Nat.reduceLeDiff, Nat.reduceBEq, ↓reduceIte, reduceCtorEq, AvLeL_free _ F_f_0] <;> (repeat' apply And.intro) <;> first | rfl | assumption | omega | (simp only [go_sem, Int.reduceToNat, Int.reduceLT, Int.reduceLE, Int.reduceBEq, Int.reduceEq, Int.reduceNeg, Int.reduceNegSucc, Int.reduceSub, Int.reduceAdd, Int.reduceMul, Int.natCast_zero, Int.natCast_one, UInt8.reduceToNat, Nat.reduceEqDiff, Nat.reduceAdd, Nat.reduceMul, Nat.reduceSub, Nat.reduceLeDiff, Nat.reduceBEq, ↓reduceIte, reduceCtorEq, AvLeL_free _ F_f_0]; done) | (simp [go_sem]; done) | (simp [enc_len, enc]; done) | (simp [enc_len, enc]; omega) | (simp [enc, row_int, row_bool, row_u8, row_list, sz_int, sz_bool, sz_u8, sz_list]; done) | (simp [enc]; rw [List.take_of_length_le (by simp)])
  · rintro ⟨n_1, t8_1⟩ h QQ5 hQ5
    dsimp only at h
    replace h := loopK_some h
    obtain ⟨m_1, rfl, h⟩ := h
    rw [f_slices_IndexFunc_int_B1] at h
    refine vc_seq_gen (by kernel_rfl) ?_
    intro QQ6 hQ6
    try simp only [go_sem, Int.reduceToNat, Int.reduceLT, Int.reduceLE, Int.reduceBEq, Int.reduceEq, Int.reduceNeg, Int.reduceNegSucc, Int.reduceSub, Int.reduceAdd, Int.reduceMul, Int.natCast_zero, Int.natCast_one, UInt8.reduceToNat, Nat.reduceEqDiff, Nat.reduceAdd, Nat.reduceMul, Nat.reduceSub, Nat.reduceLeDiff, Nat.reduceBEq, ↓reduceIte, reduceCtorEq, Try.ntmps116, Try.results116]
    repeat ((with_reducible refine And.intro ?_ ?_); · (first | omega | assumption | (simp +contextual only [and_self, implies_true, true_and, and_true, imp_self]; done) | (intros; (repeat' apply And.intro) <;> first | assumption | omega) | (simp +contextual; done) | (intros; simp_all; done)))
    refine seqQ_normal hQ6 ?_
    refine vc_seq_gen (by kernel_rfl) ?_
    intro QQ7 hQ7
    refine vc_cond_of (b := (decide (t8_1 < (List.length s_0 : Int)))) (by first | (simp only [go_sem, Int.reduceToNat, Int.reduceLT, Int.reduceLE, Int.reduceBEq, Int.reduceEq, Int.reduceNeg, Int.reduceNegSucc, Int.reduceSub, Int.reduceAdd, Int.reduceMul, Int.natCast_zero, Int.natCast_one, UInt8.reduceToNat, Nat.reduceEqDiff, Nat.reduceAdd, Nat.reduceMul, Nat.reduceSub, Nat.reduceLeDiff, Nat.reduceBEq, ↓reduceIte, reduceCtorEq]; done) | (simp [go_sem]; done) | (simp only [go_sem, Int.reduceToNat, Int.reduceLT, Int.reduceLE, Int.reduceBEq, Int.reduceEq, Int.reduceNeg, Int.reduceNegSucc, Int.reduceSub, Int.reduceAdd, Int.reduceMul, Int.natCast_zero, Int.natCast_one, UInt8.reduceToNat, Nat.reduceEqDiff, Nat.reduceAdd, Nat.reduceMul, Nat.reduceSub, Nat.reduceLeDiff, Nat.reduceBEq, ↓reduceIte, reduceCtorEq]; congr 2; (first | grind | (simp_all; done))) | (simp [go_sem]; (first | grind | (simp_all; done)))) (fun hb_4 => ?_) (fun hb_4 => ?_)
    ·
      replace h := if_t h hb_4
      try simp only [decide_eq_true_eq, decide_eq_false_iff_not, Bool.not_eq_true', Bool.not_eq_false', beq_iff_eq, beq_eq_false_iff_ne, ne_eq, Bool.and_eq_true, Bool.or_eq_true, Int.not_lt, Int.not_le] at hb_4
      refine vc_skip_of ?_
      refine seqQ_normal hQ7 ?_
      refine vc_seq_gen (by kernel_rfl) ?_
      intro QQ8 hQ8
      refine vc_block_gen ?_
      intro QQ9 hQ9
      refine vc_seq_gen (by kernel_rfl) ?_
      intro QQ10 hQ10
      try simp only [go_sem, Int.reduceToNat, Int.reduceLT, Int.reduceLE, Int.reduceBEq, Int.reduceEq, Int.reduceNeg, Int.reduceNegSucc, Int.reduceSub, Int.reduceAdd, Int.reduceMul, Int.natCast_zero, Int.natCast_one, UInt8.reduceToNat, Nat.reduceEqDiff, Nat.reduceAdd, Nat.reduceMul, Nat.reduceSub, Nat.reduceLeDiff, Nat.reduceBEq, ↓reduceIte, reduceCtorEq, Try.ntmps116, Try.results116]
      repeat ((with_reducible refine And.intro ?_ ?_); · (first | omega | assumption | (simp +contextual only [and_self, implies_true, true_and, and_true, imp_self]; done) | (intros; (repeat' apply And.intro) <;> first | assumption | omega) | (simp +contextual; done) | (intros; simp_all; done)))
      refine seqQ_normal hQ10 ?_
      refine vc_seq_gen (by kernel_rfl) ?_
      intro QQ11 hQ11
      obtain ⟨xv_2, exv_2, h⟩ := bindO_some h
      obtain ⟨fxv_2a, fxv_2b, fxv_2c⟩ := idx_spec exv_2
      try simp only [Int.toNat_natCast, Int.reduceToNat] at fxv_2c
      obtain ⟨v_2, ev_2, h⟩ := bindO_some h
      simp only [go_sem, Int.reduceToNat, Int.reduceLT, Int.reduceLE, Int.reduceBEq, Int.reduceEq, Int.reduceNeg, Int.reduceNegSucc, Int.reduceSub, Int.reduceAdd, Int.reduceMul, Int.natCast_zero, Int.natCast_one, UInt8.reduceToNat, Nat.reduceEqDiff, Nat.reduceAdd, Nat.reduceMul, Nat.reduceSub, Nat.reduceLeDiff, Nat.reduceBEq, ↓reduceIte, reduceCtorEq, Try.ntmps116, Try.results116, fxv_2a, fxv_2b, fxv_2c, E_f_0]
      repeat ((with_reducible refine And.intro ?_ ?_); · (first | omega | assumption | (simp +contextual only [and_self, implies_true, true_and, and_true, imp_self]; done) | (intros; (repeat' apply And.intro) <;> first | assumption | omega) | (simp +contextual; done) | (intros; simp_all; done)))
      refine call0 (H_f_0 xv_2 v_2 ev_2) (by rfl) (by simp [idFreeL, idFree, F_f_0]) ?_
      try simp only [go_sem, Int.reduceToNat, Int.reduceLT, Int.reduceLE, Int.reduceBEq, Int.reduceEq, Int.reduceNeg, Int.reduceNegSucc, Int.reduceSub, Int.reduceAdd, Int.reduceMul, Int.natCast_zero, Int.natCast_one, UInt8.reduceToNat, Nat.reduceEqDiff, Nat.reduceAdd, Nat.reduceMul, Nat.reduceSub, Nat.reduceLeDiff, Nat.reduceBEq, ↓reduceIte, reduceCtorEq, Try.ntmps116, Try.results116]
      repeat ((with_reducible refine And.intro ?_ ?_); · (first | omega | assumption | (simp +contextual only [and_self, implies_true, true_and, and_true, imp_self]; done) | (intros; (repeat' apply And.intro) <;> first | assumption | omega) | (simp +contextual; done) | (intros; simp_all; done)))
      refine seqQ_normal hQ11 ?_
      refine vc_cond_of (b := v_2) (by first | (simp only [go_sem, Int.reduceToNat, Int.reduceLT, Int.reduceLE, Int.reduceBEq, Int.reduceEq, Int.reduceNeg, Int.reduceNegSucc, Int.reduceSub, Int.reduceAdd, Int.reduceMul, Int.natCast_zero, Int.natCast_one, UInt8.reduceToNat, Nat.reduceEqDiff, Nat.reduceAdd, Nat.reduceMul, Nat.reduceSub, Nat.reduceLeDiff, Nat.reduceBEq, ↓reduceIte, reduceCtorEq]; done) | (simp [go_sem]; done) | (simp only [go_sem, Int.reduceToNat, Int.reduceLT, Int.reduceLE, Int.reduceBEq, Int.reduceEq, Int.reduceNeg, Int.reduceNegSucc, Int.reduceSub, Int.reduceAdd, Int.reduceMul, Int.natCast_zero, Int.natCast_one, UInt8.reduceToNat, Nat.reduceEqDiff, Nat.reduceAdd, Nat.reduceMul, Nat.reduceSub, Nat.reduceLeDiff, Nat.reduceBEq, ↓reduceIte, reduceCtorEq]; congr 2; (first | grind | (simp_all; done))) | (simp [go_sem]; (first | grind | (simp_all; done)))) (fun hb_5 => ?_) (fun hb_5 => ?_)
      ·
        replace h := if_t h hb_5
        try simp only [decide_eq_true_eq, decide_eq_false_iff_not, Bool.not_eq_true', Bool.not_eq_false', beq_iff_eq, beq_eq_false_iff_ne, ne_eq, Bool.and_eq_true, Bool.or_eq_true, Int.not_lt, Int.not_le] at hb_5
        refine vc_seq_gen (by kernel_rfl) ?_
        intro QQ12 hQ12
        try simp only [go_sem, Int.reduceToNat, Int.reduceLT, Int.reduceLE, Int.reduceBEq, Int.reduceEq, Int.reduceNeg, Int.reduceNegSucc, Int.reduceSub, Int.reduceAdd, Int.reduceMul, Int.natCast_zero, Int.natCast_one, UInt8.reduceToNat, Nat.reduceEqDiff, Nat.reduceAdd, Nat.reduceMul, Nat.reduceSub, Nat.reduceLeDiff, Nat.reduceBEq, ↓reduceIte, reduceCtorEq, Try.ntmps116, Try.results116]
        repeat ((with_reducible refine And.intro ?_ ?_); · (first | omega | assumption | (simp +contextual only [and_self, implies_true, true_and, and_true, imp_self]; done) | (intros; (repeat' apply And.intro) <;> first | assumption | omega) | (simp +contextual; done) | (intros; simp_all; done)))
        refine seqQ_normal hQ12 ?_
        refine vc_ret_of ?_
        refine blockQ_ret hQ9 ?_
        refine seqQ_ret hQ8 ?_
        refine thenQ_ret hQ5 ?_
        refine blockQ_ret hQ4 ?_
        refine seqQ_ret hQ2 ?_
        try simp only [go_sem, Int.reduceToNat, Int.reduceLT, Int.reduceLE, Int.reduceBEq, Int.reduceEq, Int.reduceNeg, Int.reduceNegSucc, Int.reduceSub, Int.reduceAdd, Int.reduceMul, Int.natCast_zero, Int.natCast_one, UInt8.reduceToNat, Nat.reduceEqDiff, Nat.reduceAdd, Nat.reduceMul, Nat.reduceSub, Nat.reduceLeDiff, Nat.reduceBEq, ↓reduceIte, reduceCtorEq, Try.ntmps116, Try.results116]
        repeat ((with_reducible refine And.intro ?_ ?_); · (first | omega | assumption | (simp +contextual only [and_self, implies_true, true_and, and_true, imp_self]; done) | (intros; (repeat' apply And.intro) <;> first | assumption | omega) | (simp +contextual; done) | (intros; simp_all; done)))
        obtain rfl := Option.some.inj h
        refine retW_pure rfl ?_
        simp only [go_sem, Le, Int.reduceToNat, Int.reduceLT, Int.reduceLE, Int.reduceBEq, Int.reduceEq, Int.reduceNeg, Int.reduceNegSucc, Int.reduceSub, Int.reduceAdd, Int.reduceMul, Int.natCast_zero, Int.natCast_one, UInt8.reduceToNat, Nat.reduceEqDiff, Nat.reduceAdd, Nat.reduceMul, Nat.reduceSub, Nat.reduceLeDiff, Nat.reduceBEq, ↓reduceIte, reduceCtorEq, AvLeL_free _ F_f_0] <;> (repeat' apply And.intro) <;> first | rfl | assumption | omega | (simp only [go_sem, Int.reduceToNat, Int.reduceLT, Int.reduceLE, Int.reduceBEq, Int.reduceEq, Int.reduceNeg, Int.reduceNegSucc, Int.reduceSub, Int.reduceAdd, Int.reduceMul, Int.natCast_zero, Int.natCast_one, UInt8.reduceToNat, Nat.reduceEqDiff, Nat.reduceAdd, Nat.reduceMul, Nat.reduceSub, Nat.reduceLeDiff, Nat.reduceBEq, ↓reduceIte, reduceCtorEq, AvLeL_free _ F_f_0]; done) | (simp [go_sem]; done) | (simp [enc_len, enc]; done) | (simp [enc_len, enc]; omega) | (simp [enc, row_int, row_bool, row_u8, row_list, sz_int, sz_bool, sz_u8, sz_list]; done) | (simp [enc]; rw [List.take_of_length_le (by simp)])
      ·
        replace h := if_f h hb_5
        try simp only [decide_eq_true_eq, decide_eq_false_iff_not, Bool.not_eq_true', Bool.not_eq_false', beq_iff_eq, beq_eq_false_iff_ne, ne_eq, Bool.and_eq_true, Bool.or_eq_true, Int.not_lt, Int.not_le] at hb_5
        refine vc_skip_of ?_
        refine blockQ_normal hQ9 ?_
        refine seqQ_normal hQ8 ?_
        try simp only [go_sem, Int.reduceToNat, Int.reduceLT, Int.reduceLE, Int.reduceBEq, Int.reduceEq, Int.reduceNeg, Int.reduceNegSucc, Int.reduceSub, Int.reduceAdd, Int.reduceMul, Int.natCast_zero, Int.natCast_one, UInt8.reduceToNat, Nat.reduceEqDiff, Nat.reduceAdd, Nat.reduceMul, Nat.reduceSub, Nat.reduceLeDiff, Nat.reduceBEq, ↓reduceIte, reduceCtorEq, Try.ntmps116, Try.results116]
        repeat ((with_reducible refine And.intro ?_ ?_); · (first | omega | assumption | (simp +contextual only [and_self, implies_true, true_and, and_true, imp_self]; done) | (intros; (repeat' apply And.intro) <;> first | assumption | omega) | (simp +contextual; done) | (intros; simp_all; done)))
        refine thenQ_normal hQ5 ?_
        refine ⟨(m_1, IntKind.i64.wrap (t8_1 + 1)), [], ?_, h, Nat.lt_succ_self _⟩
        simp only [go_sem, Le, Int.reduceToNat, Int.reduceLT, Int.reduceLE, Int.reduceBEq, Int.reduceEq, Int.reduceNeg, Int.reduceNegSucc, Int.reduceSub, Int.reduceAdd, Int.reduceMul, Int.natCast_zero, Int.natCast_one, UInt8.reduceToNat, Nat.reduceEqDiff, Nat.reduceAdd, Nat.reduceMul, Nat.reduceSub, Nat.reduceLeDiff, Nat.reduceBEq, ↓reduceIte, reduceCtorEq, AvLeL_free _ F_f_0] <;> (repeat' apply And.intro) <;> first | rfl | assumption | omega | (simp only [go_sem, Int.reduceToNat, Int.reduceLT, Int.reduceLE, Int.reduceBEq, Int.reduceEq, Int.reduceNeg, Int.reduceNegSucc, Int.reduceSub, Int.reduceAdd, Int.reduceMul, Int.natCast_zero, Int.natCast_one, UInt8.reduceToNat, Nat.reduceEqDiff, Nat.reduceAdd, Nat.reduceMul, Nat.reduceSub, Nat.reduceLeDiff, Nat.reduceBEq, ↓reduceIte, reduceCtorEq, AvLeL_free _ F_f_0]; done) | (simp [go_sem]; done) | (simp [enc_len, enc]; done) | (simp [enc_len, enc]; omega) | (simp [enc, row_int, row_bool, row_u8, row_list, sz_int, sz_bool, sz_u8, sz_list]; done) | (simp [enc]; rw [List.take_of_length_le (by simp)])
    ·
      replace h := if_f h hb_4
      try simp only [decide_eq_true_eq, decide_eq_false_iff_not, Bool.not_eq_true', Bool.not_eq_false', beq_iff_eq, beq_eq_false_iff_ne, ne_eq, Bool.and_eq_true, Bool.or_eq_true, Int.not_lt, Int.not_le] at hb_4
      refine vc_exit_of ?_
      refine seqQ_exit hQ7 ?_
      refine thenQ_exit hQ5 ?_
      refine blockQ_exit hQ4 ?_
      refine seqQ_normal hQ2 ?_
      refine vc_seq_gen (by kernel_rfl) ?_
      intro QQ13 hQ13
      try simp only [go_sem, Int.reduceToNat, Int.reduceLT, Int.reduceLE, Int.reduceBEq, Int.reduceEq, Int.reduceNeg, Int.reduceNegSucc, Int.reduceSub, Int.reduceAdd, Int.reduceMul, Int.natCast_zero, Int.natCast_one, UInt8.reduceToNat, Nat.reduceEqDiff, Nat.reduceAdd, Nat.reduceMul, Nat.reduceSub, Nat.reduceLeDiff, Nat.reduceBEq, ↓reduceIte, reduceCtorEq, Try.ntmps116, Try.results116]
      repeat ((with_reducible refine And.intro ?_ ?_); · (first | omega | assumption | (simp +contextual only [and_self, implies_true, true_and, and_true, imp_self]; done) | (intros; (repeat' apply And.intro) <;> first | assumption | omega) | (simp +contextual; done) | (intros; simp_all; done)))
      refine seqQ_normal hQ13 ?_
      refine vc_ret_of ?_
      try simp only [go_sem, Int.reduceToNat, Int.reduceLT, Int.reduceLE, Int.reduceBEq, Int.reduceEq, Int.reduceNeg, Int.reduceNegSucc, Int.reduceSub, Int.reduceAdd, Int.reduceMul, Int.natCast_zero, Int.natCast_one, UInt8.reduceToNat, Nat.reduceEqDiff, Nat.reduceAdd, Nat.reduceMul, Nat.reduceSub, Nat.reduceLeDiff, Nat.reduceBEq, ↓reduceIte, reduceCtorEq, Try.ntmps116, Try.results116]
      repeat ((with_reducible refine And.intro ?_ ?_); · (first | omega | assumption | (simp +contextual only [and_self, implies_true, true_and, and_true, imp_self]; done) | (intros; (repeat' apply And.intro) <;> first | assumption | omega) | (simp +contextual; done) | (intros; simp_all; done)))
      obtain rfl := Option.some.inj h
      refine retW_pure rfl ?_
      simp only [go_sem, Le, Int.reduceToNat, Int.reduceLT, Int.reduceLE, Int.reduceBEq, Int.reduceEq, Int.reduceNeg, Int.reduceNegSucc, Int.reduceSub, Int.reduceAdd, Int.reduceMul, Int.natCast_zero, Int.natCast_one, UInt8.reduceToNat, Nat.reduceEqDiff, Nat.reduceAdd, Nat.reduceMul, Nat.reduceSub, Nat.reduceLeDiff, Nat.reduceBEq, ↓reduceIte, reduceCtorEq, AvLeL_free _ F_f_0] <;> (repeat' apply And.intro) <;> first | rfl | assumption | omega | (simp only [go_sem, Int.reduceToNat, Int.reduceLT, Int.reduceLE, Int.reduceBEq, Int.reduceEq, Int.reduceNeg, Int.reduceNegSucc, Int.reduceSub, Int.reduceAdd, Int.reduceMul, Int.natCast_zero, Int.natCast_one, UInt8.reduceToNat, Nat.reduceEqDiff, Nat.reduceAdd, Nat.reduceMul, Nat.reduceSub, Nat.reduceLeDiff, Nat.reduceBEq, ↓reduceIte, reduceCtorEq, AvLeL_free _ F_f_0]; done) | (simp [go_sem]; done) | (simp [enc_len, enc]; done) | (simp [enc_len, enc]; omega) | (simp [enc, row_int, row_bool, row_u8, row_list, sz_int, sz_bool, sz_u8, sz_list]; done) | (simp [enc]; rw [List.take_of_length_le (by simp)])
end Go.Proofs.Ytngeldeahafcfaa

namespace Go.Proofs.Ytngeldeahafcfaa
open Go Go.RowKit
set_option maxHeartbeats 2000000
set_option maxRecDepth 100000
set_option linter.unusedSimpArgs false
set_option linter.unusedVariables false
def f_slices_ContainsFunc_int (s_0 : List Int) (f_0 : Int → Option Bool) : Option Bool :=
  bindO (f_slices_IndexFunc_int s_0 f_0) (fun (v_0 : Int) =>
  some (decide (0 ≤ v_0)))
theorem f_slices_ContainsFunc_int_ok (s_0 : List Int) (f_0 : Int → Option Bool) (g_f_0 : FuncId) (c_f_0 : List AV) (F_f_0 : idFreeL c_f_0 = true) (E_f_0 : entB Try.prog g_f_0 = true) (H_f_0 : ∀ (x0 : Int) (r : Bool), f_0 x0 = some r → PureS Try.prog g_f_0 ([.v (.int .i64 x0)] ++ c_f_0) 0 (.v (.bool r))) (r : Bool) (h : f_slices_ContainsFunc_int s_0 f_0 = some r) : PureS Try.prog 74 [.sl 1 (enc s_0), .clo g_f_0 c_f_0] 0 (.v (.bool r)) := by
  unfold PureS
  refine Spec.of_vc Try.func74 rfl (by kernel_rfl) (by kernel_rfl) ?_
  rw [f_slices_ContainsFunc_int] at h
  refine vc_seq_gen (by kernel_rfl) ?_
  intro QQ1 hQ1
  try simp only [go_sem, Int.reduceToNat, Int.reduceLT, Int.reduceLE, Int.reduceBEq, Int.reduceEq, Int.reduceNeg, Int.reduceNegSucc, Int.reduceSub, Int.reduceAdd, Int.reduceMul, Int.natCast_zero, Int.natCast_one, UInt8.reduceToNat, Nat.reduceEqDiff, Nat.reduceAdd, Nat.reduceMul, Nat.reduceSub, Nat.reduceLeDiff, Nat.reduceBEq, ↓reduceIte, reduceCtorEq, Try.ntmps74, Try.results74]
  repeat ((with_reducible refine And.intro ?_ ?_); · (first | omega | assumption | (simp +contextual only [and_self, implies_true, true_and, and_true, imp_self]; done) | (intros; (repeat' apply And.intro) <;> first | assumption | omega) | (simp +contextual; done) | (intros; simp_all; done)))
  refine seqQ_normal hQ1 ?_
  refine vc_seq_gen (by kernel_rfl) ?_
  intro QQ2 hQ2
  obtain ⟨v_0, ev_0, h⟩ := bindO_some h
  simp only [go_sem, Int.reduceToNat, Int.reduceLT, Int.reduceLE, Int.reduceBEq, Int.reduceEq, Int.reduceNeg, Int.reduceNegSucc, Int.reduceSub, Int.reduceAdd, Int.reduceMul, Int.natCast_zero, Int.natCast_one, UInt8.reduceToNat, Nat.reduceEqDiff, Nat.reduceAdd, Nat.reduceMul, Nat.reduceSub, Nat.reduceLeDiff, Nat.reduceBEq, ↓reduceIte, reduceCtorEq, Try.ntmps74, Try.results74]
  repeat ((with_reducible refine And.intro ?_ ?_); · (first | omega | assumption | (simp +contextual only [and_self, implies_true, true_and, and_true, imp_self]; done) | (intros; (repeat' apply And.intro) <;> first | assumption | omega) | (simp +contextual; done) | (intros; simp_all; done)))
  refine call0 (f_slices_IndexFunc_int_ok s_0 f_0 g_f_0 c_f_0 F_f_0 E_f_0 H_f_0 v_0 ev_0) (by rfl) (by simp [idFreeL, idFree, F_f_0]) ?_
  try simp only [go_sem, Int.reduceToNat, Int.reduceLT, Int.reduceLE, Int.reduceBEq, Int.reduceEq, Int.reduceNeg, Int.reduceNegSucc, Int.reduceSub, Int.reduceAdd, Int.reduceMul, Int.natCast_zero, Int.natCast_one, UInt8.reduceToNat, Nat.reduceEqDiff, Nat.reduceAdd, Nat.reduceMul, Nat.reduceSub, Nat.reduceLeDiff, Nat.reduceBEq, ↓reduceIte, reduceCtorEq, Try.ntmps74, Try.results74]
  repeat ((with_reducible refine And.intro ?_ ?_); · (first | omega | assumption | (simp +contextual only [and_self, implies_true, true_and, and_true, imp_self]; done) | (intros; (repeat' apply And.intro) <;> first | assumption | omega) | (simp +contextual; done) | (intros; simp_all; done)))
  refine seqQ_normal hQ2 ?_
  refine vc_ret_of ?_
  try simp only [go_sem, Int.reduceToNat, Int.reduceLT, Int.reduceLE, Int.reduceBEq, Int.reduceEq, Int.reduceNeg, Int.reduceNegSucc, Int.reduceSub, Int.reduceAdd, Int.reduceMul, Int.natCast_zero, Int.natCast_one, UInt8.reduceToNat, Nat.reduceEqDiff, Nat.reduceAdd, Nat.reduceMul, Nat.reduceSub, Nat.reduceLeDiff, Nat.reduceBEq, ↓reduceIte, reduceCtorEq, Try.ntmps74, Try.results74]
  repeat ((with_reducible refine And.intro ?_ ?_); · (first | omega | assumption | (simp +contextual only [and_self, implies_true, true_and, and_true, imp_self]; done) | (intros; (repeat' apply And.intro) <;> first | assumption | omega) | (simp +contextual; done) | (intros; simp_all; done)))
  obtain rfl := Option.some.inj h
  refine retW_pure rfl ?_
  simp only [go_sem, Le, Int.reduceToNat, Int.reduceLT, Int.reduceLE, Int.reduceBEq, Int.reduceEq, Int.reduceNeg, Int.reduceNegSucc, Int.reduceSub, Int.reduceAdd, Int.reduceMul, Int.natCast_zero, Int.natCast_one, UInt8.reduceToNat, Nat.reduceEqDiff, Nat.reduceAdd, Nat.reduceMul, Nat.reduceSub, Nat.reduceLeDiff, Nat.reduceBEq, ↓reduceIte, reduceCtorEq, AvLeL_free _ F_f_0] <;> (repeat' apply And.intro) <;> first | rfl | assumption | omega | (simp only [go_sem, Int.reduceToNat, Int.reduceLT, Int.reduceLE, Int.reduceBEq, Int.reduceEq, Int.reduceNeg, Int.reduceNegSucc, Int.reduceSub, Int.reduceAdd, Int.reduceMul, Int.natCast_zero, Int.natCast_one, UInt8.reduceToNat, Nat.reduceEqDiff, Nat.reduceAdd, Nat.reduceMul, Nat.reduceSub, Nat.reduceLeDiff, Nat.reduceBEq, ↓reduceIte, reduceCtorEq, AvLeL_free _ F_f_0]; done) | (simp [go_sem]; done) | (simp [enc_len, enc]; done) | (simp [enc_len, enc]; omega) | (simp [enc, row_int, row_bool, row_u8, row_list, sz_int, sz_bool, sz_u8, sz_list]; done) | (simp [enc]; rw [List.take_of_length_le (by simp)])
end Go.Proofs.Ytngeldeahafcfaa

namespace Go.Proofs.Ytngeldeahafcfaa
open Go Go.RowKit
set_option maxHeartbeats 2000000
set_option maxRecDepth 100000
set_option linter.unusedSimpArgs false
set_option linter.unusedVariables false
def f_window_sizes_1 (nv_0 : Int) : Option Bool :=
  some ((decide (nv_0 < 1)) || (decide (1024 < nv_0)))
theorem f_window_sizes_1_ok (nv_0 : Int)  (r : Bool) (h : f_window_sizes_1 nv_0 = some r) : PureS Try.prog 75 [.v (.int .i64 nv_0)] 0 (.v (.bool r)) := by
  unfold PureS
  refine Spec.of_vc Try.func75 rfl (by kernel_rfl) (by kernel_rfl) ?_
  rw [f_window_sizes_1] at h
  refine vc_seq_gen (by kernel_rfl) ?_
  intro QQ1 hQ1
  try simp only [go_sem, Int.reduceToNat, Int.reduceLT, Int.reduceLE, Int.reduceBEq, Int.reduceEq, Int.reduceNeg, Int.reduceNegSucc, Int.reduceSub, Int.reduceAdd, Int.reduceMul, Int.natCast_zero, Int.natCast_one, UInt8.reduceToNat, Nat.reduceEqDiff, Nat.reduceAdd, Nat.reduceMul, Nat.reduceSub, Nat.reduceLeDiff, Nat.reduceBEq, ↓reduceIte, reduceCtorEq, Try.ntmps75, Try.results75]
  repeat ((with_reducible refine And.intro ?_ ?_); · (first | omega | assumption | (simp +contextual only [and_self, implies_true, true_and, and_true, imp_self]; done) | (intros; (repeat' apply And.intro) <;> first | assumption | omega) | (simp +contextual; done) | (intros; simp_all; done)))
  refine seqQ_normal hQ1 ?_
  refine vc_seq_gen (by kernel_rfl) ?_
  intro QQ2 hQ2
  try simp only [go_sem, Int.reduceToNat, Int.reduceLT, Int.reduceLE, Int.reduceBEq, Int.reduceEq, Int.reduceNeg, Int.reduceNegSucc, Int.reduceSub, Int.reduceAdd, Int.reduceMul, Int.natCast_zero, Int.natCast_one, UInt8.reduceToNat, Nat.reduceEqDiff, Nat.reduceAdd, Nat.reduceMul, Nat.reduceSub, Nat.reduceLeDiff, Nat.reduceBEq, ↓reduceIte, reduceCtorEq, Try.ntmps75, Try.results75]
  repeat ((with_reducible refine And.intro ?_ ?_); · (first | omega | assumption | (simp +contextual only [and_self, implies_true, true_and, and_true, imp_self]; done) | (intros; (repeat' apply And.intro) <;> first | assumption | omega) | (simp +contextual; done) | (intros; simp_all; done)))
  refine seqQ_normal hQ2 ?_
  refine vc_ret_of ?_
  try simp only [go_sem, Int.reduceToNat, Int.reduceLT, Int.reduceLE, Int.reduceBEq, Int.reduceEq, Int.reduceNeg, Int.reduceNegSucc, Int.reduceSub, Int.reduceAdd, Int.reduceMul, Int.natCast_zero, Int.natCast_one, UInt8.reduceToNat, Nat.reduceEqDiff, Nat.reduceAdd, Nat.reduceMul, Nat.reduceSub, Nat.reduceLeDiff, Nat.reduceBEq, ↓reduceIte, reduceCtorEq, Try.ntmps75, Try.results75]
  repeat ((with_reducible refine And.intro ?_ ?_); · (first | omega | assumption | (simp +contextual only [and_self, implies_true, true_and, and_true, imp_self]; done) | (intros; (repeat' apply And.intro) <;> first | assumption | omega) | (simp +contextual; done) | (intros; simp_all; done)))
  obtain rfl := Option.some.inj h
  refine retW_pure rfl ?_
  simp only [go_sem, Le, Int.reduceToNat, Int.reduceLT, Int.reduceLE, Int.reduceBEq, Int.reduceEq, Int.reduceNeg, Int.reduceNegSucc, Int.reduceSub, Int.reduceAdd, Int.reduceMul, Int.natCast_zero, Int.natCast_one, UInt8.reduceToNat, Nat.reduceEqDiff, Nat.reduceAdd, Nat.reduceMul, Nat.reduceSub, Nat.reduceLeDiff, Nat.reduceBEq, ↓reduceIte, reduceCtorEq] <;> (repeat' apply And.intro) <;> first | rfl | assumption | omega | (simp only [go_sem, Int.reduceToNat, Int.reduceLT, Int.reduceLE, Int.reduceBEq, Int.reduceEq, Int.reduceNeg, Int.reduceNegSucc, Int.reduceSub, Int.reduceAdd, Int.reduceMul, Int.natCast_zero, Int.natCast_one, UInt8.reduceToNat, Nat.reduceEqDiff, Nat.reduceAdd, Nat.reduceMul, Nat.reduceSub, Nat.reduceLeDiff, Nat.reduceBEq, ↓reduceIte, reduceCtorEq]; done) | (simp [go_sem]; done) | (simp [enc_len, enc]; done) | (simp [enc_len, enc]; omega) | (simp [enc, row_int, row_bool, row_u8, row_list, sz_int, sz_bool, sz_u8, sz_list]; done) | (simp [enc]; rw [List.take_of_length_le (by simp)])
end Go.Proofs.Ytngeldeahafcfaa

namespace Go.Proofs.Ytngeldeahafcfaa
open Go Go.RowKit
set_option maxHeartbeats 2000000
set_option maxRecDepth 100000
set_option linter.unusedSimpArgs false
set_option linter.unusedVariables false
def f_window_sizes (l_0 : List Int) : Option Bool :=
  bindO (f_slices_ContainsFunc_int l_0 (fun x0_ => f_window_sizes_1 x0_)) (fun (v_0 : Bool) =>
  some (!v_0))
theorem f_window_sizes_ok (l_0 : List Int)  (r : Bool) (h : f_window_sizes l_0 = some r) : PureS Try.prog 39 [.sl 1 (enc l_0)] 0 (.v (.bool r)) := by
  unfold PureS
  refine Spec.of_vc Try.func39 rfl (by kernel_rfl) (by kernel_rfl) ?_
  rw [f_window_sizes] at h
  refine vc_seq_gen (by kernel_rfl) ?_
  intro QQ1 hQ1
  try simp only [go_sem, Int.reduceToNat, Int.reduceLT, Int.reduceLE, Int.reduceBEq, Int.reduceEq, Int.reduceNeg, Int.reduceNegSucc, Int.reduceSub, Int.reduceAdd, Int.reduceMul, Int.natCast_zero, Int.natCast_one, UInt8.reduceToNat, Nat.reduceEqDiff, Nat.reduceAdd, Nat.reduceMul, Nat.reduceSub, Nat.reduceLeDiff, Nat.reduceBEq, ↓reduceIte, reduceCtorEq, Try.ntmps39, Try.results39]
  repeat ((with_reducible refine And.intro ?_ ?_); · (first | omega | assumption | (simp +contextual only [and_self, implies_true, true_and, and_true, imp_self]; done) | (intros; (repeat' apply And.intro) <;> first | assumption | omega) | (simp +contextual; done) | (intros; simp_all; done)))
  refine seqQ_normal hQ1 ?_
  refine vc_seq_gen (by kernel_rfl) ?_
  intro QQ2 hQ2
  obtain ⟨v_0, ev_0, h⟩ := bindO_some h
  simp only [go_sem, Int.reduceToNat, Int.reduceLT, Int.reduceLE, Int.reduceBEq, Int.reduceEq, Int.reduceNeg, Int.reduceNegSucc, Int.reduceSub, Int.reduceAdd, Int.reduceMul, Int.natCast_zero, Int.natCast_one, UInt8.reduceToNat, Nat.reduceEqDiff, Nat.reduceAdd, Nat.reduceMul, Nat.reduceSub, Nat.reduceLeDiff, Nat.reduceBEq, ↓reduceIte, reduceCtorEq, Try.ntmps39, Try.results39]
  repeat ((with_reducible refine And.intro ?_ ?_); · (first | omega | assumption | (simp +contextual only [and_self, implies_true, true_and, and_true, imp_self]; done) | (intros; (repeat' apply And.intro) <;> first | assumption | omega) | (simp +contextual; done) | (intros; simp_all; done)))
  refine call0 (f_slices_ContainsFunc_int_ok l_0 (fun x0_ => f_window_sizes_1 x0_) 75 [] (by rfl) (by kernel_rfl) (fun y0 r_ e_ => f_window_sizes_1_ok y0 r_ e_) v_0 ev_0) (by rfl) (by rfl) ?_
  try simp only [go_sem, Int.reduceToNat, Int.reduceLT, Int.reduceLE, Int.reduceBEq, Int.reduceEq, Int.reduceNeg, Int.reduceNegSucc, Int.reduceSub, Int.reduceAdd, Int.reduceMul, Int.natCast_zero, Int.natCast_one, UInt8.reduceToNat, Nat.reduceEqDiff, Nat.reduceAdd, Nat.reduceMul, Nat.reduceSub, Nat.reduceLeDiff, Nat.reduceBEq, ↓reduceIte, reduceCtorEq, Try.ntmps39, Try.results39]
  repeat ((with_reducible refine And.intro ?_ ?_); · (first | omega | assumption | (simp +contextual only [and_self, implies_true, true_and, and_true, imp_self]; done) | (intros; (repeat' apply And.intro) <;> first | assumption | omega) | (simp +contextual; done) | (intros; simp_all; done)))
  refine seqQ_normal hQ2 ?_
  refine vc_ret_of ?_
  try simp only [go_sem, Int.reduceToNat, Int.reduceLT, Int.reduceLE, Int.reduceBEq, Int.reduceEq, Int.reduceNeg, Int.reduceNegSucc, Int.reduceSub, Int.reduceAdd, Int.reduceMul, Int.natCast_zero, Int.natCast_one, UInt8.reduceToNat, Nat.reduceEqDiff, Nat.reduceAdd, Nat.reduceMul, Nat.reduceSub, Nat.reduceLeDiff, Nat.reduceBEq, ↓reduceIte, reduceCtorEq, Try.ntmps39, Try.results39]
  repeat ((with_reducible refine And.intro ?_ ?_); · (first | omega | assumption | (simp +contextual only [and_self, implies_true, true_and, and_true, imp_self]; done) | (intros; (repeat' apply And.intro) <;> first | assumption | omega) | (simp +contextual; done) | (intros; simp_all; done)))
  obtain rfl := Option.some.inj h
  refine retW_pure rfl ?_
  simp only [go_sem, Le, Int.reduceToNat, Int.reduceLT, Int.reduceLE, Int.reduceBEq, Int.reduceEq, Int.reduceNeg, Int.reduceNegSucc, Int.reduceSub, Int.reduceAdd, Int.reduceMul, Int.natCast_zero, Int.natCast_one, UInt8.reduceToNat, Nat.reduceEqDiff, Nat.reduceAdd, Nat.reduceMul, Nat.reduceSub, Nat.reduceLeDiff, Nat.reduceBEq, ↓reduceIte, reduceCtorEq] <;> (repeat' apply And.intro) <;> first | rfl | assumption | omega | (simp only [go_sem, Int.reduceToNat, Int.reduceLT, Int.reduceLE, Int.reduceBEq, Int.reduceEq, Int.reduceNeg, Int.reduceNegSucc, Int.reduceSub, Int.reduceAdd, Int.reduceMul, Int.natCast_zero, Int.natCast_one, UInt8.reduceToNat, Nat.reduceEqDiff, Nat.reduceAdd, Nat.reduceMul, Nat.reduceSub, Nat.reduceLeDiff, Nat.reduceBEq, ↓reduceIte, reduceCtorEq]; done) | (simp [go_sem]; done) | (simp [enc_len, enc]; done) | (simp [enc_len, enc]; omega) | (simp [enc, row_int, row_bool, row_u8, row_list, sz_int, sz_bool, sz_u8, sz_list]; done) | (simp [enc]; rw [List.take_of_length_le (by simp)])
end Go.Proofs.Ytngeldeahafcfaa

namespace Go.Proofs.Ytngeldeahafcfaa
open Go Go.RowKit
set_option maxHeartbeats 2000000
set_option maxRecDepth 100000
set_option linter.unusedSimpArgs false
set_option linter.unusedVariables false
def f_slices_IndexFunc_Feed_B1 (s_0 : List GFeed) (f_0 : GFeed → Option Bool) (rec_1 : Int → Option Int) : Int → Option Int :=
  fun t8_1 =>
  (if (decide (t8_1 < (List.length s_0 : Int))) = true then bindO (idx s_0 t8_1) (fun (xv_2 : GFeed) =>
  bindO (f_0 xv_2) (fun (v_2 : Bool) =>
  (if v_2 = true then some t8_1
  else rec_1 (IntKind.i64.wrap (t8_1 + 1)))))
  else some (-1))
def f_slices_IndexFunc_Feed (s_0 : List GFeed) (f_0 : GFeed → Option Bool) : Option Int :=
  loopK (f_slices_IndexFunc_Feed_B1 s_0 f_0) rounds 0
theorem f_slices_IndexFunc_Feed_ok (s_0 : List GFeed) (f_0 : GFeed → Option Bool) (g_f_0 : FuncId) (c_f_0 : List AV) (F_f_0 : idFreeL c_f_0 = true) (E_f_0 : entB Try.prog g_f_0 = true) (H_f_0 : ∀ (x0 : GFeed) (r : Bool), f_0 x0 = some r → PureS Try.prog g_f_0 ([.agg [.v (.int .i64 x0.Node), .v (.int .i64 x0.Epoch), .v (.int .i64 x0.Rec.K), .v (.int .i64 x0.Rec.V)]] ++ c_f_0) 0 (.v (.bool r))) (r : Int) (h : f_slices_IndexFunc_Feed s_0 f_0 = some r) : PureS Try.prog 76 [.sl 4 (enc s_0), .clo g_f_0 c_f_0] 0 (.v (.int .i64 r)) := by
  unfold PureS
  refine Spec.of_vc Try.func76 rfl (by kernel_rfl) (by kernel_rfl) ?_
  rw [f_slices_IndexFunc_Feed] at h
  refine vc_seq_gen (by kernel_rfl) ?_
  intro QQ1 hQ1
  try simp only [go_sem, Int.reduceToNat, Int.reduceLT, Int.reduceLE, Int.reduceBEq, Int.reduceEq, Int.reduceNeg, Int.reduceNegSucc, Int.reduceSub, Int.reduceAdd, Int.reduceMul, Int.natCast_zero, Int.natCast_one, UInt8.reduceToNat, Nat.reduceEqDiff, Nat.reduceAdd, Nat.reduceMul, Nat.reduceSub, Nat.reduceLeDiff, Nat.reduceBEq, ↓reduceIte, reduceCtorEq, Try.ntmps76, Try.results76]
  repeat ((with_reducible refine And.intro ?_ ?_); · (first | omega | assumption | (simp +contextual only [and_self, implies_true, true_and, and_true, imp_self]; done) | (intros; (repeat' apply And.intro) <;> first | assumption | omega) | (simp +contextual; done) | (intros; simp_all; done)))
  refine seqQ_normal hQ1 ?_
  refine vc_join (by kernel_rfl) ?_
  refine seq_go_gen ?_
  intro QQ2 hQ2
  refine vc_seq_gen (by kernel_rfl) ?_
  intro QQ3 hQ3
  try simp only [go_sem, Int.reduceToNat, Int.reduceLT, Int.reduceLE, Int.reduceBEq, Int.reduceEq, Int.reduceNeg, Int.reduceNegSucc, Int.reduceSub, Int.reduceAdd, Int.reduceMul, Int.natCast_zero, Int.natCast_one, UInt8.reduceToNat, Nat.reduceEqDiff, Nat.reduceAdd, Nat.reduceMul, Nat.reduceSub, Nat.reduceLeDiff, Nat.reduceBEq, ↓reduceIte, reduceCtorEq, Try.ntmps76, Try.results76]
  repeat ((with_reducible refine And.intro ?_ ?_); · (first | omega | assumption | (simp +contextual only [and_self, implies_true, true_and, and_true, imp_self]; done) | (intros; (repeat' apply And.intro) <;> first | assumption | omega) | (simp +contextual; done) | (intros; simp_all; done)))
  refine seqQ_normal hQ3 ?_
  refine vc_block_gen ?_
  intro QQ4 hQ4
  refine vc_loop_of ?_
  refine loop_gen (ι := Nat × Int) (fun ((_, t8_1) : Nat × Int) => (⟨0, [(0, .sl 4 (enc s_0)), (1, .clo g_f_0 c_f_0), (7, .v (.int .i64 (List.length s_0 : Int))), (8, .v (.int .i64 t8_1))], [], 0, 19⟩ : St)) (fun ((n_, t8_1) : Nat × Int) => loopK (f_slices_IndexFunc_Feed_B1 s_0 f_0) n_ t8_1 = some r) (fun p => p.1) (rounds, 0) [] ?_ h ?_
  · simp only [go_sem, Le, Int.reduceToNat, Int.reduceLT, Int.reduceLE, Int.reduceBEq, Int.reduceEq, Int.reduceNeg, Int.reduceNegSucc, Int.reduceSub, Int.reduceAdd, Int.reduceMul, Int.natCast_zero, Int.natCast_one, UInt8.reduceToNat, Nat.reduceEqDiff, Nat.reduceAdd, Nat.reduceMul, Nat.reduceSub, Nat.reduceLeDiff, Nat.reduceBEq, ↓reduceIte, reduceCtorEq, AvLeL_free _ F_f_0] <;> (repeat' apply And.intro) <;> first | rfl | assumption | omega | (simp only [go_sem, Int.reduceToNat, Int.reduceLT, Int.reduceLE, Int.reduceBEq, Int.reduceEq, Int.reduceNeg, Int.reduceNegSucc, Int.reduceSub, Int.reduceAdd, Int.reduceMul, Int.natCast_zero, Int.natCast_one, UInt8.reduceToNat, Nat.reduceEqDiff, Nat.reduceAdd, Nat.reduceMul, Nat.reduceSub, Nat.reduceLeDiff, Nat.reduceBEq, ↓reduceIte, reduceCtorEq, AvLeL_free _ F_f_0]; done) | (simp [go_sem]; done) | (simp [enc_len, enc]; done) | (simp [enc_len, enc]; omega) | (simp [enc, row_int, row_bool, row_u8, row_list, sz_int, sz_bool, sz_u8, sz_list]; done) | (simp [enc]; rw [List.take_of_length_le (by simp)])
  · rintro ⟨n_1, t8_1⟩ h QQ5 hQ5
    dsimp only at h
    replace h := loopK_some h
    obtain ⟨m_1, rfl, h⟩ := h
    rw [f_slices_IndexFunc_Feed_B1] at h
    refine vc_seq_gen (by kernel_rfl) ?_
    intro QQ6 hQ6
    try simp only [go_sem, Int.reduceToNat, Int.reduceLT, Int.reduceLE, Int.reduceBEq, Int.reduceEq, Int.reduceNeg, Int.reduceNegSucc, Int.reduceSub, Int.reduceAdd, Int.reduceMul, Int.natCast_zero, Int.natCast_one, UInt8.reduceToNat, Nat.reduceEqDiff, Nat.reduceAdd, Nat.reduceMul, Nat.reduceSub, Nat.reduceLeDiff, Nat.reduceBEq, ↓reduceIte, reduceCtorEq, Try.ntmps76, Try.results76]
    repeat ((with_reducible refine And.intro ?_ ?_); · (first | omega | assumption | (simp +contextual only [and_self, implies_true, true_and, and_true, imp_self]; done) | (intros; (repeat' apply And.intro) <;> first | assumption | omega) | (simp +contextual; done) | (intros; simp_all; done)))
    refine seqQ_normal hQ6 ?_
    refine vc_seq_gen (by kernel_rfl) ?_
    intro QQ7 hQ7
    refine vc_cond_of (b := (decide (t8_1 < (List.length s_0 : Int)))) (by first | (simp only [go_sem, Int.reduceToNat, Int.reduceLT, Int.reduceLE, Int.reduceBEq, Int.reduceEq, Int.reduceNeg, Int.reduceNegSucc, Int.reduceSub, Int.reduceAdd, Int.reduceMul, Int.natCast_zero, Int.natCast_one, UInt8.reduceToNat, Nat.reduceEqDiff, Nat.reduceAdd, Nat.reduceMul, Nat.reduceSub, Nat.reduceLeDiff, Nat.reduceBEq, ↓reduceIte, reduceCtorEq]; done) | (simp [go_sem]; done) | (simp only [go_sem, Int.reduceToNat, Int.reduceLT, Int.reduceLE, Int.reduceBEq, Int.reduceEq, Int.reduceNeg, Int.reduceNegSucc, Int.reduceSub, Int.reduceAdd, Int.reduceMul, Int.natCast_zero, Int.natCast_one, UInt8.reduceToNat, Nat.reduceEqDiff, Nat.reduceAdd, Nat.reduceMul, Nat.reduceSub, Nat.reduceLeDiff, Nat.reduceBEq, ↓reduceIte, reduceCtorEq]; congr 2; (first | grind | (simp_all; done))) | (simp [go_sem]; (first | grind | (simp_all; done)))) (fun hb_4 => ?_) (fun hb_4 => ?_)
    ·
      replace h := if_t h hb_4
      try simp only [decide_eq_true_eq, decide_eq_false_iff_not, Bool.not_eq_true', Bool.not_eq_false', beq_iff_eq, beq_eq_false_iff_ne, ne_eq, Bool.and_eq_true, Bool.or_eq_true, Int.not_lt, Int.not_le] at hb_4
      refine vc_skip_of ?_
      refine seqQ_normal hQ7 ?_
      refine vc_seq_gen (by kernel_rfl) ?_
      intro QQ8 hQ8
      refine vc_block_gen ?_
      intro QQ9 hQ9
      refine vc_seq_gen (by kernel_rfl) ?_
      intro QQ10 hQ10
      try simp only [go_sem, Int.reduceToNat, Int.reduceLT, Int.reduceLE, Int.reduceBEq, Int.reduceEq, Int.reduceNeg, Int.reduceNegSucc, Int.reduceSub, Int.reduceAdd, Int.reduceMul, Int.natCast_zero, Int.natCast_one, UInt8.reduceToNat, Nat.reduceEqDiff, Nat.reduceAdd, Nat.reduceMul, Nat.reduceSub, Nat.reduceLeDiff, Nat.reduceBEq, ↓reduceIte, reduceCtorEq, Try.ntmps76, Try.results76]
      repeat ((with_reducible refine And.intro ?_ ?_); · (first | omega | assumption | (simp +contextual only [and_self, implies_true, true_and, and_true, imp_self]; done) | (intros; (repeat' apply And.intro) <;> first | assumption | omega) | (simp +contextual; done) | (intros; simp_all; done)))
      refine seqQ_normal hQ10 ?_
      refine vc_seq_gen (by kernel_rfl) ?_
      intro QQ11 hQ11
      obtain ⟨xv_2, exv_2, h⟩ := bindO_some h
      obtain ⟨fxv_2a, fxv_2b, fxv_2c⟩ := idx_spec exv_2
      try simp only [Int.toNat_natCast, Int.reduceToNat] at fxv_2c
      obtain ⟨v_2, ev_2, h⟩ := bindO_some h
      simp only [go_sem, Int.reduceToNat, Int.reduceLT, Int.reduceLE, Int.reduceBEq, Int.reduceEq, Int.reduceNeg, Int.reduceNegSucc, Int.reduceSub, Int.reduceAdd, Int.reduceMul, Int.natCast_zero, Int.natCast_one, UInt8.reduceToNat, Nat.reduceEqDiff, Nat.reduceAdd, Nat.reduceMul, Nat.reduceSub, Nat.reduceLeDiff, Nat.reduceBEq, ↓reduceIte, reduceCtorEq, Try.ntmps76, Try.results76, fxv_2a, fxv_2b, fxv_2c, E_f_0]
      repeat ((with_reducible refine And.intro ?_ ?_); · (first | omega | assumption | (simp +contextual only [and_self, implies_true, true_and, and_true, imp_self]; done) | (intros; (repeat' apply And.intro) <;> first | assumption | omega) | (simp +contextual; done) | (intros; simp_all; done)))
      refine call0 (H_f_0 xv_2 v_2 ev_2) (by rfl) (by simp [idFreeL, idFree, F_f_0]) ?_
      try simp only [go_sem, Int.reduceToNat, Int.reduceLT, Int.reduceLE, Int.reduceBEq, Int.reduceEq, Int.reduceNeg, Int.reduceNegSucc, Int.reduceSub, Int.reduceAdd, Int.reduceMul, Int.natCast_zero, Int.natCast_one, UInt8.reduceToNat, Nat.reduceEqDiff, Nat.reduceAdd, Nat.reduceMul, Nat.reduceSub, Nat.reduceLeDiff, Nat.reduceBEq, ↓reduceIte, reduceCtorEq, Try.ntmps76, Try.results76]
      repeat ((with_reducible refine And.intro ?_ ?_); · (first | omega | assumption | (simp +contextual only [and_self, implies_true, true_and, and_true, imp_self]; done) | (intros; (repeat' apply And.intro) <;> first | assumption | omega) | (simp +contextual; done) | (intros; simp_all; done)))
      refine seqQ_normal hQ11 ?_
      refine vc_cond_of (b := v_2) (by first | (simp only [go_sem, Int.reduceToNat, Int.reduceLT, Int.reduceLE, Int.reduceBEq, Int.reduceEq, Int.reduceNeg, Int.reduceNegSucc, Int.reduceSub, Int.reduceAdd, Int.reduceMul, Int.natCast_zero, Int.natCast_one, UInt8.reduceToNat, Nat.reduceEqDiff, Nat.reduceAdd, Nat.reduceMul, Nat.reduceSub, Nat.reduceLeDiff, Nat.reduceBEq, ↓reduceIte, reduceCtorEq]; done) | (simp [go_sem]; done) | (simp only [go_sem, Int.reduceToNat, Int.reduceLT, Int.reduceLE, Int.reduceBEq, Int.reduceEq, Int.reduceNeg, Int.reduceNegSucc, Int.reduceSub, Int.reduceAdd, Int.reduceMul, Int.natCast_zero, Int.natCast_one, UInt8.reduceToNat, Nat.reduceEqDiff, Nat.reduceAdd, Nat.reduceMul, Nat.reduceSub, Nat.reduceLeDiff, Nat.reduceBEq, ↓reduceIte, reduceCtorEq]; congr 2; (first | grind | (simp_all; done))) | (simp [go_sem]; (first | grind | (simp_all; done)))) (fun hb_5 => ?_) (fun hb_5 => ?_)
      ·
        replace h := if_t h hb_5
        try simp only [decide_eq_true_eq, decide_eq_false_iff_not, Bool.not_eq_true', Bool.not_eq_false', beq_iff_eq, beq_eq_false_iff_ne, ne_eq, Bool.and_eq_true, Bool.or_eq_true, Int.not_lt, Int.not_le] at hb_5
        refine vc_seq_gen (by kernel_rfl) ?_
        intro QQ12 hQ12
        try simp only [go_sem, Int.reduceToNat, Int.reduceLT, Int.reduceLE, Int.reduceBEq, Int.reduceEq, Int.reduceNeg, Int.reduceNegSucc, Int.reduceSub, Int.reduceAdd, Int.reduceMul, Int.natCast_zero, Int.natCast_one, UInt8.reduceToNat, Nat.reduceEqDiff, Nat.reduceAdd, Nat.reduceMul, Nat.reduceSub, Nat.reduceLeDiff, Nat.reduceBEq, ↓reduceIte, reduceCtorEq, Try.ntmps76, Try.results76]
        repeat ((with_reducible refine And.intro ?_ ?_); · (first | omega | assumption | (simp +contextual only [and_self, implies_true, true_and, and_true, imp_self]; done) | (intros; (repeat' apply And.intro) <;> first | assumption | omega) | (simp +contextual; done) | (intros; simp_all; done)))
        refine seqQ_normal hQ12 ?_
        refine vc_ret_of ?_
        refine blockQ_ret hQ9 ?_
        refine seqQ_ret hQ8 ?_
        refine thenQ_ret hQ5 ?_
        refine blockQ_ret hQ4 ?_
        refine seqQ_ret hQ2 ?_
        try simp only [go_sem, Int.reduceToNat, Int.reduceLT, Int.reduceLE, Int.reduceBEq, Int.reduceEq, Int.reduceNeg, Int.reduceNegSucc, Int.reduceSub, Int.reduceAdd, Int.reduceMul, Int.natCast_zero, Int.natCast_one, UInt8.reduceToNat, Nat.reduceEqDiff, Nat.reduceAdd, Nat.reduceMul, Nat.reduceSub, Nat.reduceLeDiff, Nat.reduceBEq, ↓reduceIte, reduceCtorEq, Try.ntmps76, Try.results76]
        repeat ((with_reducible refine And.intro ?_ ?_); · (first | omega | assumption | (simp +contextual only [and_self, implies_true, true_and, and_true, imp_self]; done) | (intros; (repeat' apply And.intro) <;> first | assumption | omega) | (simp +contextual; done) | (intros; simp_all; done)))
        obtain rfl := Option.some.inj h
        refine retW_pure rfl ?_
        simp only [go_sem, Le, Int.reduceToNat, Int.reduceLT, Int.reduceLE, Int.reduceBEq, Int.reduceEq, Int.reduceNeg, Int.reduceNegSucc, Int.reduceSub, Int.reduceAdd, Int.reduceMul, Int.natCast_zero, Int.natCast_one, UInt8.reduceToNat, Nat.reduceEqDiff, Nat.reduceAdd, Nat.reduceMul, Nat.reduceSub, Nat.reduceLeDiff, Nat.reduceBEq, ↓reduceIte, reduceCtorEq, AvLeL_free _ F_f_0] <;> (repeat' apply And.intro) <;> first | rfl | assumption | omega | (simp only [go_sem, Int.reduceToNat, Int.reduceLT, Int.reduceLE, Int.reduceBEq, Int.reduceEq, Int.reduceNeg, Int.reduceNegSucc, Int.reduceSub, Int.reduceAdd, Int.reduceMul, Int.natCast_zero, Int.natCast_one, UInt8.reduceToNat, Nat.reduceEqDiff, Nat.reduceAdd, Nat.reduceMul, Nat.reduceSub, Nat.reduceLeDiff, Nat.reduceBEq, ↓reduceIte, reduceCtorEq, AvLeL_free _ F_f_0]; done) | (simp [go_sem]; done) | (simp [enc_len, enc]; done) | (simp [enc_len, enc]; omega) | (simp [enc, row_int, row_bool, row_u8, row_list, sz_int, sz_bool, sz_u8, sz_list]; done) | (simp [enc]; rw [List.take_of_length_le (by simp)])
      ·
        replace h := if_f h hb_5
        try simp only [decide_eq_true_eq, decide_eq_false_iff_not, Bool.not_eq_true', Bool.not_eq_false', beq_iff_eq, beq_eq_false_iff_ne, ne_eq, Bool.and_eq_true, Bool.or_eq_true, Int.not_lt, Int.not_le] at hb_5
        refine vc_skip_of ?_
        refine blockQ_normal hQ9 ?_
        refine seqQ_normal hQ8 ?_
        try simp only [go_sem, Int.reduceToNat, Int.reduceLT, Int.reduceLE, Int.reduceBEq, Int.reduceEq, Int.reduceNeg, Int.reduceNegSucc, Int.reduceSub, Int.reduceAdd, Int.reduceMul, Int.natCast_zero, Int.natCast_one, UInt8.reduceToNat, Nat.reduceEqDiff, Nat.reduceAdd, Nat.reduceMul, Nat.reduceSub, Nat.reduceLeDiff, Nat.reduceBEq, ↓reduceIte, reduceCtorEq, Try.ntmps76, Try.results76]
        repeat ((with_reducible refine And.intro ?_ ?_); · (first | omega | assumption | (simp +contextual only [and_self, implies_true, true_and, and_true, imp_self]; done) | (intros; (repeat' apply And.intro) <;> first | assumption | omega) | (simp +contextual; done) | (intros; simp_all; done)))
        refine thenQ_normal hQ5 ?_
        refine ⟨(m_1, IntKind.i64.wrap (t8_1 + 1)), [], ?_, h, Nat.lt_succ_self _⟩
        simp only [go_sem, Le, Int.reduceToNat, Int.reduceLT, Int.reduceLE, Int.reduceBEq, Int.reduceEq, Int.reduceNeg, Int.reduceNegSucc, Int.reduceSub, Int.reduceAdd, Int.reduceMul, Int.natCast_zero, Int.natCast_one, UInt8.reduceToNat, Nat.reduceEqDiff, Nat.reduceAdd, Nat.reduceMul, Nat.reduceSub, Nat.reduceLeDiff, Nat.reduceBEq, ↓reduceIte, reduceCtorEq, AvLeL_free _ F_f_0] <;> (repeat' apply And.intro) <;> first | rfl | assumption | omega | (simp only [go_sem, Int.reduceToNat, Int.reduceLT, Int.reduceLE, Int.reduceBEq, Int.reduceEq, Int.reduceNeg, Int.reduceNegSucc, Int.reduceSub, Int.reduceAdd, Int.reduceMul, Int.natCast_zero, Int.natCast_one, UInt8.reduceToNat, Nat.reduceEqDiff, Nat.reduceAdd, Nat.reduceMul, Nat.reduceSub, Nat.reduceLeDiff, Nat.reduceBEq, ↓reduceIte, reduceCtorEq, AvLeL_free _ F_f_0]; done) | (simp [go_sem]; done) | (simp [enc_len, enc]; done) | (simp [enc_len, enc]; omega) | (simp [enc, row_int, row_bool, row_u8, row_list, sz_int, sz_bool, sz_u8, sz_list]; done) | (simp [enc]; rw [List.take_of_length_le (by simp)])
    ·
      replace h := if_f h hb_4
      try simp only [decide_eq_true_eq, decide_eq_false_iff_not, Bool.not_eq_true', Bool.not_eq_false', beq_iff_eq, beq_eq_false_iff_ne, ne_eq, Bool.and_eq_true, Bool.or_eq_true, Int.not_lt, Int.not_le] at hb_4
      refine vc_exit_of ?_
      refine seqQ_exit hQ7 ?_
      refine thenQ_exit hQ5 ?_
      refine blockQ_exit hQ4 ?_
      refine seqQ_normal hQ2 ?_
      refine vc_seq_gen (by kernel_rfl) ?_
      intro QQ13 hQ13
      try simp only [go_sem, Int.reduceToNat, Int.reduceLT, Int.reduceLE, Int.reduceBEq, Int.reduceEq, Int.reduceNeg, Int.reduceNegSucc, Int.reduceSub, Int.reduceAdd, Int.reduceMul, Int.natCast_zero, Int.natCast_one, UInt8.reduceToNat, Nat.reduceEqDiff, Nat.reduceAdd, Nat.reduceMul, Nat.reduceSub, Nat.reduceLeDiff, Nat.reduceBEq, ↓reduceIte, reduceCtorEq, Try.ntmps76, Try.results76]
      repeat ((with_reducible refine And.intro ?_ ?_); · (first | omega | assumption | (simp +contextual only [and_self, implies_true, true_and, and_true, imp_self]; done) | (intros; (repeat' apply And.intro) <;> first | assumption | omega) | (simp +contextual; done) | (intros; simp_all; done)))
      refine seqQ_normal hQ13 ?_
      refine vc_ret_of ?_
      try simp only [go_sem, Int.reduceToNat, Int.reduceLT, Int.reduceLE, Int.reduceBEq, Int.reduceEq, Int.reduceNeg, Int.reduceNegSucc, Int.reduceSub, Int.reduceAdd, Int.reduceMul, Int.natCast_zero, Int.natCast_one, UInt8.reduceToNat, Nat.reduceEqDiff, Nat.reduceAdd, Nat.reduceMul, Nat.reduceSub, Nat.reduceLeDiff, Nat.reduceBEq, ↓reduceIte, reduceCtorEq, Try.ntmps76, Try.results76]
      repeat ((with_reducible refine And.intro ?_ ?_); · (first | omega | assumption | (simp +contextual only [and_self, implies_true, true_and, and_true, imp_self]; done) | (intros; (repeat' apply And.intro) <;> first | assumption | omega) | (simp +contextual; done) | (intros; simp_all; done)))
      obtain rfl := Option.some.inj h
      refine retW_pure rfl ?_
      simp only [go_sem, Le, Int.reduceToNat, Int.reduceLT, Int.reduceLE, Int.reduceBEq, Int.reduceEq, Int.reduceNeg, Int.reduceNegSucc, Int.reduceSub, Int.reduceAdd, Int.reduceMul, Int.natCast_zero, Int.natCast_one, UInt8.reduceToNat, Nat.reduceEqDiff, Nat.reduceAdd, Nat.reduceMul, Nat.reduceSub, Nat.reduceLeDiff, Nat.reduceBEq, ↓reduceIte, reduceCtorEq, AvLeL_free _ F_f_0] <;> (repeat' apply And.intro) <;> first | rfl | assumption | omega | (simp only [go_sem, Int.reduceToNat, Int.reduceLT, Int.reduceLE, Int.reduceBEq, Int.reduceEq, Int.reduceNeg, Int.reduceNegSucc, Int.reduceSub, Int.reduceAdd, Int.reduceMul, Int.natCast_zero, Int.natCast_one, UInt8.reduceToNat, Nat.reduceEqDiff, Nat.reduceAdd, Nat.reduceMul, Nat.reduceSub, Nat.reduceLeDiff, Nat.reduceBEq, ↓reduceIte, reduceCtorEq, AvLeL_free _ F_f_0]; done) | (simp [go_sem]; done) | (simp [enc_len, enc]; done) | (simp [enc_len, enc]; omega) | (simp [enc, row_int, row_bool, row_u8, row_list, sz_int, sz_bool, sz_u8, sz_list]; done) | (simp [enc]; rw [List.take_of_length_le (by simp)])
end Go.Proofs.Ytngeldeahafcfaa

namespace Go.Proofs.Ytngeldeahafcfaa
open Go Go.RowKit
set_option maxHeartbeats 2000000
set_option maxRecDepth 100000
set_option linter.unusedSimpArgs false
set_option linter.unusedVariables false
def f_slices_ContainsFunc_Feed (s_0 : List GFeed) (f_0 : GFeed → Option Bool) : Option Bool :=
  bindO (f_slices_IndexFunc_Feed s_0 f_0) (fun (v_0 : Int) =>
  some (decide (0 ≤ v_0)))
theorem f_slices_ContainsFunc_Feed_ok (s_0 : List GFeed) (f_0 : GFeed → Option Bool) (g_f_0 : FuncId) (c_f_0 : List AV) (F_f_0 : idFreeL c_f_0 = true) (E_f_0 : entB Try.prog g_f_0 = true) (H_f_0 : ∀ (x0 : GFeed) (r : Bool), f_0 x0 = some r → PureS Try.prog g_f_0 ([.agg [.v (.int .i64 x0.Node), .v (.int .i64 x0.Epoch), .v (.int .i64 x0.Rec.K), .v (.int .i64 x0.Rec.V)]] ++ c_f_0) 0 (.v (.bool r))) (r : Bool) (h : f_slices_ContainsFunc_Feed s_0 f_0 = some r) : PureS Try.prog 40 [.sl 4 (enc s_0), .clo g_f_0 c_f_0] 0 (.v (.bool r)) := by
  unfold PureS
  refine Spec.of_vc Try.func40 rfl (by kernel_rfl) (by kernel_rfl) ?_
  rw [f_slices_ContainsFunc_Feed] at h
  refine vc_seq_gen (by kernel_rfl) ?_
  intro QQ1 hQ1
  try simp only [go_sem, Int.reduceToNat, Int.reduceLT, Int.reduceLE, Int.reduceBEq, Int.reduceEq, Int.reduceNeg, Int.reduceNegSucc, Int.reduceSub, Int.reduceAdd, Int.reduceMul, Int.natCast_zero, Int.natCast_one, UInt8.reduceToNat, Nat.reduceEqDiff, Nat.reduceAdd, Nat.reduceMul, Nat.reduceSub, Nat.reduceLeDiff, Nat.reduceBEq, ↓reduceIte, reduceCtorEq, Try.ntmps40, Try.results40]
  repeat ((with_reducible refine And.intro ?_ ?_); · (first | omega | assumption | (simp +contextual only [and_self, implies_true, true_and, and_true, imp_self]; done) | (intros; (repeat' apply And.intro) <;> first | assumption | omega) | (simp +contextual; done) | (intros; simp_all; done)))
  refine seqQ_normal hQ1 ?_
  refine vc_seq_gen (by kernel_rfl) ?_
  intro QQ2 hQ2
  obtain ⟨v_0, ev_0, h⟩ := bindO_some h
  simp only [go_sem, Int.reduceToNat, Int.reduceLT, Int.reduceLE, Int.reduceBEq, Int.reduceEq, Int.reduceNeg, Int.reduceNegSucc, Int.reduceSub, Int.reduceAdd, Int.reduceMul, Int.natCast_zero, Int.natCast_one, UInt8.reduceToNat, Nat.reduceEqDiff, Nat.reduceAdd, Nat.reduceMul, Nat.reduceSub, Nat.reduceLeDiff, Nat.reduceBEq, ↓reduceIte, reduceCtorEq, Try.ntmps40, Try.results40]
  repeat ((with_reducible refine And.intro ?_ ?_); · (first | omega | assumption | (simp +contextual only [and_self, implies_true, true_and, and_true, imp_self]; done) | (intros; (repeat' apply And.intro) <;> first | assumption | omega) | (simp +contextual; done) | (intros; simp_all; done)))
  refine call0 (f_slices_IndexFunc_Feed_ok s_0 f_0 g_f_0 c_f_0 F_f_0 E_f_0 H_f_0 v_0 ev_0) (by rfl) (by simp [idFreeL, idFree, F_f_0]) ?_
  try simp only [go_sem, Int.reduceToNat, Int.reduceLT, Int.reduceLE, Int.reduceBEq, Int.reduceEq, Int.reduceNeg, Int.reduceNegSucc, Int.reduceSub, Int.reduceAdd, Int.reduceMul, Int.natCast_zero, Int.natCast_one, UInt8.reduceToNat, Nat.reduceEqDiff, Nat.reduceAdd, Nat.reduceMul, Nat.reduceSub, Nat.reduceLeDiff, Nat.reduceBEq, ↓reduceIte, reduceCtorEq, Try.ntmps40, Try.results40]
  repeat ((with_reducible refine And.intro ?_ ?_); · (first | omega | assumption | (simp +contextual only [and_self, implies_true, true_and, and_true, imp_self]; done) | (intros; (repeat' apply And.intro) <;> first | assumption | omega) | (simp +contextual; done) | (intros; simp_all; done)))
  refine seqQ_normal hQ2 ?_
  refine vc_ret_of ?_
  try simp only [go_sem, Int.reduceToNat, Int.reduceLT, Int.reduceLE, Int.reduceBEq, Int.reduceEq, Int.reduceNeg, Int.reduceNegSucc, Int.reduceSub, Int.reduceAdd, Int.reduceMul, Int.natCast_zero, Int.natCast_one, UInt8.reduceToNat, Nat.reduceEqDiff, Nat.reduceAdd, Nat.reduceMul, Nat.reduceSub, Nat.reduceLeDiff, Nat.reduceBEq, ↓reduceIte, reduceCtorEq, Try.ntmps40, Try.results40]
  repeat ((with_reducible refine And.intro ?_ ?_); · (first | omega | assumption | (simp +contextual only [and_self, implies_true, true_and, and_true, imp_self]; done) | (intros; (repeat' apply And.intro) <;> first | assumption | omega) | (simp +contextual; done) | (intros; simp_all; done)))
  obtain rfl := Option.some.inj h
  refine retW_pure rfl ?_
  simp only [go_sem, Le, Int.reduceToNat, Int.reduceLT, Int.reduceLE, Int.reduceBEq, Int.reduceEq, Int.reduceNeg, Int.reduceNegSucc, Int.reduceSub, Int.reduceAdd, Int.reduceMul, Int.natCast_zero, Int.natCast_one, UInt8.reduceToNat, Nat.reduceEqDiff, Nat.reduceAdd, Nat.reduceMul, Nat.reduceSub, Nat.reduceLeDiff, Nat.reduceBEq, ↓reduceIte, reduceCtorEq, AvLeL_free _ F_f_0] <;> (repeat' apply And.intro) <;> first | rfl | assumption | omega | (simp only [go_sem, Int.reduceToNat, Int.reduceLT, Int.reduceLE, Int.reduceBEq, Int.reduceEq, Int.reduceNeg, Int.reduceNegSucc, Int.reduceSub, Int.reduceAdd, Int.reduceMul, Int.natCast_zero, Int.natCast_one, UInt8.reduceToNat, Nat.reduceEqDiff, Nat.reduceAdd, Nat.reduceMul, Nat.reduceSub, Nat.reduceLeDiff, Nat.reduceBEq, ↓reduceIte, reduceCtorEq, AvLeL_free _ F_f_0]; done) | (simp [go_sem]; done) | (simp [enc_len, enc]; done) | (simp [enc_len, enc]; omega) | (simp [enc, row_int, row_bool, row_u8, row_list, sz_int, sz_bool, sz_u8, sz_list]; done) | (simp [enc]; rw [List.take_of_length_le (by simp)])
end Go.Proofs.Ytngeldeahafcfaa

namespace Go.Proofs.Ytngeldeahafcfaa
open Go Go.RowKit
set_option maxHeartbeats 2000000
set_option maxRecDepth 100000
set_option linter.unusedSimpArgs false
set_option linter.unusedVariables false
def f_window_epoch (e_0 : Int) : Option Bool :=
  some ((decide (0 ≤ e_0)) && (decide (e_0 ≤ 1048576)))
theorem f_window_epoch_ok (e_0 : Int)  (r : Bool) (h : f_window_epoch e_0 = some r) : PureS Try.prog 42 [.v (.int .i64 e_0)] 0 (.v (.bool r)) := by
  unfold PureS
  refine Spec.of_vc Try.func42 rfl (by kernel_rfl) (by kernel_rfl) ?_
  rw [f_window_epoch] at h
  refine vc_seq_gen (by kernel_rfl) ?_
  intro QQ1 hQ1
  try simp only [go_sem, Int.reduceToNat, Int.reduceLT, Int.reduceLE, Int.reduceBEq, Int.reduceEq, Int.reduceNeg, Int.reduceNegSucc, Int.reduceSub, Int.reduceAdd, Int.reduceMul, Int.natCast_zero, Int.natCast_one, UInt8.reduceToNat, Nat.reduceEqDiff, Nat.reduceAdd, Nat.reduceMul, Nat.reduceSub, Nat.reduceLeDiff, Nat.reduceBEq, ↓reduceIte, reduceCtorEq, Try.ntmps42, Try.results42]
  repeat ((with_reducible refine And.intro ?_ ?_); · (first | omega | assumption | (simp +contextual only [and_self, implies_true, true_and, and_true, imp_self]; done) | (intros; (repeat' apply And.intro) <;> first | assumption | omega) | (simp +contextual; done) | (intros; simp_all; done)))
  refine seqQ_normal hQ1 ?_
  refine vc_seq_gen (by kernel_rfl) ?_
  intro QQ2 hQ2
  try simp only [go_sem, Int.reduceToNat, Int.reduceLT, Int.reduceLE, Int.reduceBEq, Int.reduceEq, Int.reduceNeg, Int.reduceNegSucc, Int.reduceSub, Int.reduceAdd, Int.reduceMul, Int.natCast_zero, Int.natCast_one, UInt8.reduceToNat, Nat.reduceEqDiff, Nat.reduceAdd, Nat.reduceMul, Nat.reduceSub, Nat.reduceLeDiff, Nat.reduceBEq, ↓reduceIte, reduceCtorEq, Try.ntmps42, Try.results42]
  repeat ((with_reducible refine And.intro ?_ ?_); · (first | omega | assumption | (simp +contextual only [and_self, implies_true, true_and, and_true, imp_self]; done) | (intros; (repeat' apply And.intro) <;> first | assumption | omega) | (simp +contextual; done) | (intros; simp_all; done)))
  refine seqQ_normal hQ2 ?_
  refine vc_ret_of ?_
  try simp only [go_sem, Int.reduceToNat, Int.reduceLT, Int.reduceLE, Int.reduceBEq, Int.reduceEq, Int.reduceNeg, Int.reduceNegSucc, Int.reduceSub, Int.reduceAdd, Int.reduceMul, Int.natCast_zero, Int.natCast_one, UInt8.reduceToNat, Nat.reduceEqDiff, Nat.reduceAdd, Nat.reduceMul, Nat.reduceSub, Nat.reduceLeDiff, Nat.reduceBEq, ↓reduceIte, reduceCtorEq, Try.ntmps42, Try.results42]
  repeat ((with_reducible refine And.intro ?_ ?_); · (first | omega | assumption | (simp +contextual only [and_self, implies_true, true_and, and_true, imp_self]; done) | (intros; (repeat' apply And.intro) <;> first | assumption | omega) | (simp +contextual; done) | (intros; simp_all; done)))
  obtain rfl := Option.some.inj h
  refine retW_pure rfl ?_
  simp only [go_sem, Le, Int.reduceToNat, Int.reduceLT, Int.reduceLE, Int.reduceBEq, Int.reduceEq, Int.reduceNeg, Int.reduceNegSucc, Int.reduceSub, Int.reduceAdd, Int.reduceMul, Int.natCast_zero, Int.natCast_one, UInt8.reduceToNat, Nat.reduceEqDiff, Nat.reduceAdd, Nat.reduceMul, Nat.reduceSub, Nat.reduceLeDiff, Nat.reduceBEq, ↓reduceIte, reduceCtorEq] <;> (repeat' apply And.intro) <;> first | rfl | assumption | omega | (simp only [go_sem, Int.reduceToNat, Int.reduceLT, Int.reduceLE, Int.reduceBEq, Int.reduceEq, Int.reduceNeg, Int.reduceNegSucc, Int.reduceSub, Int.reduceAdd, Int.reduceMul, Int.natCast_zero, Int.natCast_one, UInt8.reduceToNat, Nat.reduceEqDiff, Nat.reduceAdd, Nat.reduceMul, Nat.reduceSub, Nat.reduceLeDiff, Nat.reduceBEq, ↓reduceIte, reduceCtorEq]; done) | (simp [go_sem]; done) | (simp [enc_len, enc]; done) | (simp [enc_len, enc]; omega) | (simp [enc, row_int, row_bool, row_u8, row_list, sz_int, sz_bool, sz_u8, sz_list]; done) | (simp [enc]; rw [List.take_of_length_le (by simp)])
end Go.Proofs.Ytngeldeahafcfaa

namespace Go.Proofs.Ytngeldeahafcfaa
open Go Go.RowKit
set_option maxHeartbeats 2000000
set_option maxRecDepth 100000
set_option linter.unusedSimpArgs false
set_option linter.unusedVariables false
def f_window_Slide_1 (f_0 : GFeed) : Option Bool :=
  bindO (f_window_epoch f_0.Epoch) (fun (v_0 : Bool) =>
  some (!v_0))
theorem f_window_Slide_1_ok (f_0 : GFeed)  (r : Bool) (h : f_window_Slide_1 f_0 = some r) : PureS Try.prog 41 [.agg [.v (.int .i64 f_0.Node), .v (.int .i64 f_0.Epoch), .v (.int .i64 f_0.Rec.K), .v (.int .i64 f_0.Rec.V)]] 0 (.v (.bool r)) := by
  unfold PureS
  refine Spec.of_vc Try.func41 rfl (by kernel_rfl) (by kernel_rfl) ?_
  rw [f_window_Slide_1] at h
  refine vc_seq_gen (by kernel_rfl) ?_
  intro QQ1 hQ1
  try simp only [go_sem, Int.reduceToNat, Int.reduceLT, Int.reduceLE, Int.reduceBEq, Int.reduceEq, Int.reduceNeg, Int.reduceNegSucc, Int.reduceSub, Int.reduceAdd, Int.reduceMul, Int.natCast_zero, Int.natCast_one, UInt8.reduceToNat, Nat.reduceEqDiff, Nat.reduceAdd, Nat.reduceMul, Nat.reduceSub, Nat.reduceLeDiff, Nat.reduceBEq, ↓reduceIte, reduceCtorEq, Try.ntmps41, Try.results41]
  repeat ((with_reducible refine And.intro ?_ ?_); · (first | omega | assumption | (simp +contextual only [and_self, implies_true, true_and, and_true, imp_self]; done) | (intros; (repeat' apply And.intro) <;> first | assumption | omega) | (simp +contextual; done) | (intros; simp_all; done)))
  refine seqQ_normal hQ1 ?_
  refine vc_seq_gen (by kernel_rfl) ?_
  intro QQ2 hQ2
  obtain ⟨v_0, ev_0, h⟩ := bindO_some h
  simp only [go_sem, Int.reduceToNat, Int.reduceLT, Int.reduceLE, Int.reduceBEq, Int.reduceEq, Int.reduceNeg, Int.reduceNegSucc, Int.reduceSub, Int.reduceAdd, Int.reduceMul, Int.natCast_zero, Int.natCast_one, UInt8.reduceToNat, Nat.reduceEqDiff, Nat.reduceAdd, Nat.reduceMul, Nat.reduceSub, Nat.reduceLeDiff, Nat.reduceBEq, ↓reduceIte, reduceCtorEq, Try.ntmps41, Try.results41]
  repeat ((with_reducible refine And.intro ?_ ?_); · (first | omega | assumption | (simp +contextual only [and_self, implies_true, true_and, and_true, imp_self]; done) | (intros; (repeat' apply And.intro) <;> first | assumption | omega) | (simp +contextual; done) | (intros; simp_all; done)))
  refine call0 (f_window_epoch_ok f_0.Epoch v_0 ev_0) (by rfl) (by rfl) ?_
  try simp only [go_sem, Int.reduceToNat, Int.reduceLT, Int.reduceLE, Int.reduceBEq, Int.reduceEq, Int.reduceNeg, Int.reduceNegSucc, Int.reduceSub, Int.reduceAdd, Int.reduceMul, Int.natCast_zero, Int.natCast_one, UInt8.reduceToNat, Nat.reduceEqDiff, Nat.reduceAdd, Nat.reduceMul, Nat.reduceSub, Nat.reduceLeDiff, Nat.reduceBEq, ↓reduceIte, reduceCtorEq, Try.ntmps41, Try.results41]
  repeat ((with_reducible refine And.intro ?_ ?_); · (first | omega | assumption | (simp +contextual only [and_self, implies_true, true_and, and_true, imp_self]; done) | (intros; (repeat' apply And.intro) <;> first | assumption | omega) | (simp +contextual; done) | (intros; simp_all; done)))
  refine seqQ_normal hQ2 ?_
  refine vc_ret_of ?_
  try simp only [go_sem, Int.reduceToNat, Int.reduceLT, Int.reduceLE, Int.reduceBEq, Int.reduceEq, Int.reduceNeg, Int.reduceNegSucc, Int.reduceSub, Int.reduceAdd, Int.reduceMul, Int.natCast_zero, Int.natCast_one, UInt8.reduceToNat, Nat.reduceEqDiff, Nat.reduceAdd, Nat.reduceMul, Nat.reduceSub, Nat.reduceLeDiff, Nat.reduceBEq, ↓reduceIte, reduceCtorEq, Try.ntmps41, Try.results41]
  repeat ((with_reducible refine And.intro ?_ ?_); · (first | omega | assumption | (simp +contextual only [and_self, implies_true, true_and, and_true, imp_self]; done) | (intros; (repeat' apply And.intro) <;> first | assumption | omega) | (simp +contextual; done) | (intros; simp_all; done)))
  obtain rfl := Option.some.inj h
  refine retW_pure rfl ?_
  simp only [go_sem, Le, Int.reduceToNat, Int.reduceLT, Int.reduceLE, Int.reduceBEq, Int.reduceEq, Int.reduceNeg, Int.reduceNegSucc, Int.reduceSub, Int.reduceAdd, Int.reduceMul, Int.natCast_zero, Int.natCast_one, UInt8.reduceToNat, Nat.reduceEqDiff, Nat.reduceAdd, Nat.reduceMul, Nat.reduceSub, Nat.reduceLeDiff, Nat.reduceBEq, ↓reduceIte, reduceCtorEq] <;> (repeat' apply And.intro) <;> first | rfl | assumption | omega | (simp only [go_sem, Int.reduceToNat, Int.reduceLT, Int.reduceLE, Int.reduceBEq, Int.reduceEq, Int.reduceNeg, Int.reduceNegSucc, Int.reduceSub, Int.reduceAdd, Int.reduceMul, Int.natCast_zero, Int.natCast_one, UInt8.reduceToNat, Nat.reduceEqDiff, Nat.reduceAdd, Nat.reduceMul, Nat.reduceSub, Nat.reduceLeDiff, Nat.reduceBEq, ↓reduceIte, reduceCtorEq]; done) | (simp [go_sem]; done) | (simp [enc_len, enc]; done) | (simp [enc_len, enc]; omega) | (simp [enc, row_int, row_bool, row_u8, row_list, sz_int, sz_bool, sz_u8, sz_list]; done) | (simp [enc]; rw [List.take_of_length_le (by simp)])
end Go.Proofs.Ytngeldeahafcfaa

namespace Go.Proofs.Ytngeldeahafcfaa
open Go Go.RowKit
set_option maxHeartbeats 2000000
set_option maxRecDepth 100000
set_option linter.unusedSimpArgs false
set_option linter.unusedVariables false
def f_window_first (e_0 : Int) (size_0 : Int) (step_0 : Int) : Option Int :=
  (if (decide (e_0 < size_0)) = true then some 0
  else guardO (step_0 ≠ 0) (
  some (IntKind.i64.wrap ((IntKind.i64.wrap (Int.tdiv (IntKind.i64.wrap (e_0 - size_0)) step_0)) + 1))))
theorem f_window_first_ok (e_0 : Int) (size_0 : Int) (step_0 : Int)  (r : Int) (h : f_window_first e_0 size_0 step_0 = some r) : PureS Try.prog 43 [.v (.int .i64 e_0), .v (.int .i64 size_0), .v (.int .i64 step_0)] 0 (.v (.int .i64 r)) := by
  unfold PureS
  refine Spec.of_vc Try.func43 rfl (by kernel_rfl) (by kernel_rfl) ?_
  rw [f_window_first] at h
  refine vc_seq_gen (by kernel_rfl) ?_
  intro QQ1 hQ1
  try simp only [go_sem, Int.reduceToNat, Int.reduceLT, Int.reduceLE, Int.reduceBEq, Int.reduceEq, Int.reduceNeg, Int.reduceNegSucc, Int.reduceSub, Int.reduceAdd, Int.reduceMul, Int.natCast_zero, Int.natCast_one, UInt8.reduceToNat, Nat.reduceEqDiff, Nat.reduceAdd, Nat.reduceMul, Nat.reduceSub, Nat.reduceLeDiff, Nat.reduceBEq, ↓reduceIte, reduceCtorEq, Try.ntmps43, Try.results43]
  repeat ((with_reducible refine And.intro ?_ ?_); · (first | omega | assumption | (simp +contextual only [and_self, implies_true, true_and, and_true, imp_self]; done) | (intros; (repeat' apply And.intro) <;> first | assumption | omega) | (simp +contextual; done) | (intros; simp_all; done)))
  refine seqQ_normal hQ1 ?_
  refine vc_seq_gen (by kernel_rfl) ?_
  intro QQ2 hQ2
  refine vc_seq_gen (by kernel_rfl) ?_
  intro QQ3 hQ3
  try simp only [go_sem, Int.reduceToNat, Int.reduceLT, Int.reduceLE, Int.reduceBEq, Int.reduceEq, Int.reduceNeg, Int.reduceNegSucc, Int.reduceSub, Int.reduceAdd, Int.reduceMul, Int.natCast_zero, Int.natCast_one, UInt8.reduceToNat, Nat.reduceEqDiff, Nat.reduceAdd, Nat.reduceMul, Nat.reduceSub, Nat.reduceLeDiff, Nat.reduceBEq, ↓reduceIte, reduceCtorEq, Try.ntmps43, Try.results43]
  repeat ((with_reducible refine And.intro ?_ ?_); · (first | omega | assumption | (simp +contextual only [and_self, implies_true, true_and, and_true, imp_self]; done) | (intros; (repeat' apply And.intro) <;> first | assumption | omega) | (simp +contextual; done) | (intros; simp_all; done)))
  refine seqQ_normal hQ3 ?_
  refine vc_cond_of (b := (decide (e_0 < size_0))) (by first | (simp only [go_sem, Int.reduceToNat, Int.reduceLT, Int.reduceLE, Int.reduceBEq, Int.reduceEq, Int.reduceNeg, Int.reduceNegSucc, Int.reduceSub, Int.reduceAdd, Int.reduceMul, Int.natCast_zero, Int.natCast_one, UInt8.reduceToNat, Nat.reduceEqDiff, Nat.reduceAdd, Nat.reduceMul, Nat.reduceSub, Nat.reduceLeDiff, Nat.reduceBEq, ↓reduceIte, reduceCtorEq]; done) | (simp [go_sem]; done) | (simp only [go_sem, Int.reduceToNat, Int.reduceLT, Int.reduceLE, Int.reduceBEq, Int.reduceEq, Int.reduceNeg, Int.reduceNegSucc, Int.reduceSub, Int.reduceAdd, Int.reduceMul, Int.natCast_zero, Int.natCast_one, UInt8.reduceToNat, Nat.reduceEqDiff, Nat.reduceAdd, Nat.reduceMul, Nat.reduceSub, Nat.reduceLeDiff, Nat.reduceBEq, ↓reduceIte, reduceCtorEq]; congr 2; (first | grind | (simp_all; done))) | (simp [go_sem]; (first | grind | (simp_all; done)))) (fun hb_0 => ?_) (fun hb_0 => ?_)
  ·
    replace h := if_t h hb_0
    try simp only [decide_eq_true_eq, decide_eq_false_iff_not, Bool.not_eq_true', Bool.not_eq_false', beq_iff_eq, beq_eq_false_iff_ne, ne_eq, Bool.and_eq_true, Bool.or_eq_true, Int.not_lt, Int.not_le] at hb_0
    refine vc_seq_gen (by kernel_rfl) ?_
    intro QQ4 hQ4
    try simp only [go_sem, Int.reduceToNat, Int.reduceLT, Int.reduceLE, Int.reduceBEq, Int.reduceEq, Int.reduceNeg, Int.reduceNegSucc, Int.reduceSub, Int.reduceAdd, Int.reduceMul, Int.natCast_zero, Int.natCast_one, UInt8.reduceToNat, Nat.reduceEqDiff, Nat.reduceAdd, Nat.reduceMul, Nat.reduceSub, Nat.reduceLeDiff, Nat.reduceBEq, ↓reduceIte, reduceCtorEq, Try.ntmps43, Try.results43]
    repeat ((with_reducible refine And.intro ?_ ?_); · (first | omega | assumption | (simp +contextual only [and_self, implies_true, true_and, and_true, imp_self]; done) | (intros; (repeat' apply And.intro) <;> first | assumption | omega) | (simp +contextual; done) | (intros; simp_all; done)))
    refine seqQ_normal hQ4 ?_
    refine vc_ret_of ?_
    refine seqQ_ret hQ2 ?_
    try simp only [go_sem, Int.reduceToNat, Int.reduceLT, Int.reduceLE, Int.reduceBEq, Int.reduceEq, Int.reduceNeg, Int.reduceNegSucc, Int.reduceSub, Int.reduceAdd, Int.reduceMul, Int.natCast_zero, Int.natCast_one, UInt8.reduceToNat, Nat.reduceEqDiff, Nat.reduceAdd, Nat.reduceMul, Nat.reduceSub, Nat.reduceLeDiff, Nat.reduceBEq, ↓reduceIte, reduceCtorEq, Try.ntmps43, Try.results43]
    repeat ((with_reducible refine And.intro ?_ ?_); · (first | omega | assumption | (simp +contextual only [and_self, implies_true, true_and, and_true, imp_self]; done) | (intros; (repeat' apply And.intro) <;> first | assumption | omega) | (simp +contextual; done) | (intros; simp_all; done)))
    obtain rfl := Option.some.inj h
    refine retW_pure rfl ?_
    simp only [go_sem, Le, Int.reduceToNat, Int.reduceLT, Int.reduceLE, Int.reduceBEq, Int.reduceEq, Int.reduceNeg, Int.reduceNegSucc, Int.reduceSub, Int.reduceAdd, Int.reduceMul, Int.natCast_zero, Int.natCast_one, UInt8.reduceToNat, Nat.reduceEqDiff, Nat.reduceAdd, Nat.reduceMul, Nat.reduceSub, Nat.reduceLeDiff, Nat.reduceBEq, ↓reduceIte, reduceCtorEq] <;> (repeat' apply And.intro) <;> first | rfl | assumption | omega | (simp only [go_sem, Int.reduceToNat, Int.reduceLT, Int.reduceLE, Int.reduceBEq, Int.reduceEq, Int.reduceNeg, Int.reduceNegSucc, Int.reduceSub, Int.reduceAdd, Int.reduceMul, Int.natCast_zero, Int.natCast_one, UInt8.reduceToNat, Nat.reduceEqDiff, Nat.reduceAdd, Nat.reduceMul, Nat.reduceSub, Nat.reduceLeDiff, Nat.reduceBEq, ↓reduceIte, reduceCtorEq]; done) | (simp [go_sem]; done) | (simp [enc_len, enc]; done) | (simp [enc_len, enc]; omega) | (simp [enc, row_int, row_bool, row_u8, row_list, sz_int, sz_bool, sz_u8, sz_list]; done) | (simp [enc]; rw [List.take_of_length_le (by simp)])
  ·
    replace h := if_f h hb_0
    try simp only [decide_eq_true_eq, decide_eq_false_iff_not, Bool.not_eq_true', Bool.not_eq_false', beq_iff_eq, beq_eq_false_iff_ne, ne_eq, Bool.and_eq_true, Bool.or_eq_true, Int.not_lt, Int.not_le] at hb_0
    refine vc_skip_of ?_
    refine seqQ_normal hQ2 ?_
    refine vc_seq_gen (by kernel_rfl) ?_
    intro QQ5 hQ5
    obtain ⟨g_0, h⟩ := guardO_some h
    try simp only [go_sem, Int.reduceToNat, Int.reduceLT, Int.reduceLE, Int.reduceBEq, Int.reduceEq, Int.reduceNeg, Int.reduceNegSucc, Int.reduceSub, Int.reduceAdd, Int.reduceMul, Int.natCast_zero, Int.natCast_one, UInt8.reduceToNat, Nat.reduceEqDiff, Nat.reduceAdd, Nat.reduceMul, Nat.reduceSub, Nat.reduceLeDiff, Nat.reduceBEq, ↓reduceIte, reduceCtorEq, Try.ntmps43, Try.results43, g_0]
    repeat ((with_reducible refine And.intro ?_ ?_); · (first | omega | assumption | (simp +contextual only [and_self, implies_true, true_and, and_true, imp_self]; done) | (intros; (repeat' apply And.intro) <;> first | assumption | omega) | (simp +contextual; done) | (intros; simp_all; done)))
    refine seqQ_normal hQ5 ?_
    refine vc_ret_of ?_
    try simp only [go_sem, Int.reduceToNat, Int.reduceLT, Int.reduceLE, Int.reduceBEq, Int.reduceEq, Int.reduceNeg, Int.reduceNegSucc, Int.reduceSub, Int.reduceAdd, Int.reduceMul, Int.natCast_zero, Int.natCast_one, UInt8.reduceToNat, Nat.reduceEqDiff, Nat.reduceAdd, Nat.reduceMul, Nat.reduceSub, Nat.reduceLeDiff, Nat.reduceBEq, ↓reduceIte, reduceCtorEq, Try.ntmps43, Try.results43]
    repeat ((with_reducible refine And.intro ?_ ?_); · (first | omega | assumption | (simp +contextual only [and_self, implies_true, true_and, and_true, imp_self]; done) | (intros; (repeat' apply And.intro) <;> first | assumption | omega) | (simp +contextual; done) | (intros; simp_all; done)))
    obtain rfl := Option.some.inj h
    refine retW_pure rfl ?_
    simp only [go_sem, Le, Int.reduceToNat, Int.reduceLT, Int.reduceLE, Int.reduceBEq, Int.reduceEq, Int.reduceNeg, Int.reduceNegSucc, Int.reduceSub, Int.reduceAdd, Int.reduceMul, Int.natCast_zero, Int.natCast_one, UInt8.reduceToNat, Nat.reduceEqDiff, Nat.reduceAdd, Nat.reduceMul, Nat.reduceSub, Nat.reduceLeDiff, Nat.reduceBEq, ↓reduceIte, reduceCtorEq] <;> (repeat' apply And.intro) <;> first | rfl | assumption | omega | (simp only [go_sem, Int.reduceToNat, Int.reduceLT, Int.reduceLE, Int.reduceBEq, Int.reduceEq, Int.reduceNeg, Int.reduceNegSucc, Int.reduceSub, Int.reduceAdd, Int.reduceMul, Int.natCast_zero, Int.natCast_one, UInt8.reduceToNat, Nat.reduceEqDiff, Nat.reduceAdd, Nat.reduceMul, Nat.reduceSub, Nat.reduceLeDiff, Nat.reduceBEq, ↓reduceIte, reduceCtorEq]; done) | (simp [go_sem]; done) | (simp [enc_len, enc]; done) | (simp [enc_len, enc]; omega) | (simp [enc, row_int, row_bool, row_u8, row_list, sz_int, sz_bool, sz_u8, sz_list]; done) | (simp [enc]; rw [List.take_of_length_le (by simp)])
end Go.Proofs.Ytngeldeahafcfaa

namespace Go.Proofs.Ytngeldeahafcfaa
open Go Go.RowKit
set_option maxHeartbeats 2000000
set_option maxRecDepth 100000
set_option linter.unusedSimpArgs false
set_option linter.unusedVariables false
def f_window_Slide_B2 (step_0 : Int) (t24_1 : Int) (rec_1 : (Int × (List GFeed) → Option ((List GFeed) × Int))) (xv_2 : GFeed) (rec_2 : Int × (List GFeed) × GFeed → Option ((List GFeed) × Int)) : Int × (List GFeed) × GFeed → Option ((List GFeed) × Int) :=
  fun (w_5, a_7, b_5) =>
  (if (decide ((IntKind.i64.wrap (w_5 * step_0)) ≤ xv_2.Epoch)) = true then (if ((List.length a_7 : Int) == 65536) = true then some (([] : List GFeed), 9)
  else guardO ((List.length a_7 + List.length ([(⟨b_5.Node, w_5, b_5.Rec⟩ : GFeed)] : List GFeed)) * 32 ≤ 140737488355328) (
  rec_2 (IntKind.i64.wrap (w_5 + 1), (a_7 ++ ([(⟨b_5.Node, w_5, b_5.Rec⟩ : GFeed)] : List GFeed)), (⟨b_5.Node, w_5, b_5.Rec⟩ : GFeed))))
  else rec_1 (IntKind.i64.wrap (t24_1 + 1), a_7))
def f_window_Slide_B1 (l_0 : List GFeed) (size_0 : Int) (step_0 : Int) (rec_1 : Int × (List GFeed) → Option ((List GFeed) × Int)) : Int × (List GFeed) → Option ((List GFeed) × Int) :=
  fun (t24_1, a_5) =>
  (if (decide (t24_1 < (List.length l_0 : Int))) = true then bindO (idx l_0 t24_1) (fun (xv_2 : GFeed) =>
  bindO (f_window_first xv_2.Epoch size_0 step_0) (fun (v_4 : Int) =>
  loopK (f_window_Slide_B2 step_0 t24_1 rec_1 xv_2) rounds (v_4, a_5, xv_2)))
  else some (a_5, 0))
def f_window_Slide (l_0 : List GFeed) (size_0 : Int) (step_0 : Int) : Option ((List GFeed) × Int) :=
  bindO (f_window_sizes ([size_0, step_0] : List Int)) (fun (v_0 : Bool) =>
  (if v_0 = true then bindO (f_slices_ContainsFunc_Feed l_0 (fun x0_ => f_window_Slide_1 x0_)) (fun (v_1 : Bool) =>
  (if v_1 = true then some (([] : List GFeed), 1)
  else loopK (f_window_Slide_B1 l_0 size_0 step_0) rounds (0, [])))
  else some (([] : List GFeed), 1)))
theorem f_window_Slide_ok (l_0 : List GFeed) (size_0 : Int) (step_0 : Int)  (r : (List GFeed) × Int) (h : f_window_Slide l_0 size_0 step_0 = some r) : PureS Try.prog 25 [.sl 4 (enc l_0), .v (.int .i64 size_0), .v (.int .i64 step_0)] 0 (.tup [.sl 4 (enc r.1), .v (.int .i64 r.2)]) := by
  unfold PureS
  refine Spec.of_vc Try.func25 rfl (by kernel_rfl) (by kernel_rfl) ?_
  rw [f_window_Slide] at h
  refine vc_seq_gen (by kernel_rfl) ?_
  intro QQ1 hQ1
  try simp only [go_sem, Int.reduceToNat, Int.reduceLT, Int.reduceLE, Int.reduceBEq, Int.reduceEq, Int.reduceNeg, Int.reduceNegSucc, Int.reduceSub, Int.reduceAdd, Int.reduceMul, Int.natCast_zero, Int.natCast_one, UInt8.reduceToNat, Nat.reduceEqDiff, Nat.reduceAdd, Nat.reduceMul, Nat.reduceSub, Nat.reduceLeDiff, Nat.reduceBEq, ↓reduceIte, reduceCtorEq, Try.ntmps25, Try.results25]
  repeat ((with_reducible refine And.intro ?_ ?_); · (first | omega | assumption | (simp +contextual only [and_self, implies_true, true_and, and_true, imp_self]; done) | (intros; (repeat' apply And.intro) <;> first | assumption | omega) | (simp +contextual; done) | (intros; simp_all; done)))
  refine seqQ_normal hQ1 ?_
  refine vc_seq_gen (by kernel_rfl) ?_
  intro QQ2 hQ2
  refine vc_seq_gen (by kernel_rfl) ?_
  intro QQ3 hQ3
  have rf_0 : [[.v (.int .i64 size_0)], [.v (.int .i64 step_0)]] = enc ([size_0, step_0] : List Int) := by first | rfl | simp [enc, row_int, row_bool, row_u8, row_list, sz_int, sz_bool, sz_u8, sz_list]
  obtain ⟨v_0, ev_0, h⟩ := bindO_some h
  simp only [go_sem, Int.reduceToNat, Int.reduceLT, Int.reduceLE, Int.reduceBEq, Int.reduceEq, Int.reduceNeg, Int.reduceNegSucc, Int.reduceSub, Int.reduceAdd, Int.reduceMul, Int.natCast_zero, Int.natCast_one, UInt8.reduceToNat, Nat.reduceEqDiff, Nat.reduceAdd, Nat.reduceMul, Nat.reduceSub, Nat.reduceLeDiff, Nat.reduceBEq, ↓reduceIte, reduceCtorEq, Try.ntmps25, Try.results25]
  repeat ((with_reducible refine And.intro ?_ ?_); · (first | omega | assumption | (simp +contextual only [and_self, implies_true, true_and, and_true, imp_self]; done) | (intros; (repeat' apply And.intro) <;> first | assumption | omega) | (simp +contextual; done) | (intros; simp_all; done)))
  try simp only [rf_0]
  refine callF_weak (s' := (⟨0, [(0, .sl 4 (enc l_0)), (1, .v (.int .i64 size_0)), (2, .v (.int .i64 step_0)), (6, .v (.slice none 0 0)), (7, .v (.int .i64 0)), (13, .v (.int .i64 size_0)), (14, .v (.int .i64 step_0)), (15, .sl 1 (enc ([size_0, step_0] : List Int)))], [], 0, 52⟩ : St)) (l := []) (args' := [.sl 1 (enc ([size_0, step_0] : List Int))]) ?_ ?_ (call0 (f_window_sizes_ok ([size_0, step_0] : List Int) v_0 ev_0) (by rfl) (by rfl) ?_)
  · simp only [go_sem, Le, Int.reduceToNat, Int.reduceLT, Int.reduceLE, Int.reduceBEq, Int.reduceEq, Int.reduceNeg, Int.reduceNegSucc, Int.reduceSub, Int.reduceAdd, Int.reduceMul, Int.natCast_zero, Int.natCast_one, UInt8.reduceToNat, Nat.reduceEqDiff, Nat.reduceAdd, Nat.reduceMul, Nat.reduceSub, Nat.reduceLeDiff, Nat.reduceBEq, ↓reduceIte, reduceCtorEq] <;> (repeat' apply And.intro) <;> first | rfl | assumption | omega | (simp only [go_sem, Int.reduceToNat, Int.reduceLT, Int.reduceLE, Int.reduceBEq, Int.reduceEq, Int.reduceNeg, Int.reduceNegSucc, Int.reduceSub, Int.reduceAdd, Int.reduceMul, Int.natCast_zero, Int.natCast_one, UInt8.reduceToNat, Nat.reduceEqDiff, Nat.reduceAdd, Nat.reduceMul, Nat.reduceSub, Nat.reduceLeDiff, Nat.reduceBEq, ↓reduceIte, reduceCtorEq]; done) | (simp [go_sem]; done) | (simp [enc_len, enc]; done) | (simp [enc_len, enc]; omega) | (simp [enc, row_int, row_bool, row_u8, row_list, sz_int, sz_bool, sz_u8, sz_list]; done) | (simp [enc]; rw [List.take_of_length_le (by simp)])
  · simp only [go_sem, Le, Int.reduceToNat, Int.reduceLT, Int.reduceLE, Int.reduceBEq, Int.reduceEq, Int.reduceNeg, Int.reduceNegSucc, Int.reduceSub, Int.reduceAdd, Int.reduceMul, Int.natCast_zero, Int.natCast_one, UInt8.reduceToNat, Nat.reduceEqDiff, Nat.reduceAdd, Nat.reduceMul, Nat.reduceSub, Nat.reduceLeDiff, Nat.reduceBEq, ↓reduceIte, reduceCtorEq] <;> (repeat' apply And.intro) <;> first | rfl | assumption | omega | (simp only [go_sem, Int.reduceToNat, Int.reduceLT, Int.reduceLE, Int.reduceBEq, Int.reduceEq, Int.reduceNeg, Int.reduceNegSucc, Int.reduceSub, Int.reduceAdd, Int.reduceMul, Int.natCast_zero, Int.natCast_one, UInt8.reduceToNat, Nat.reduceEqDiff, Nat.reduceAdd, Nat.reduceMul, Nat.reduceSub, Nat.reduceLeDiff, Nat.reduceBEq, ↓reduceIte, reduceCtorEq]; done) | (simp [go_sem]; done) | (simp [enc_len, enc]; done) | (simp [enc_len, enc]; omega) | (simp [enc, row_int, row_bool, row_u8, row_list, sz_int, sz_bool, sz_u8, sz_list]; done) | (simp [enc]; rw [List.take_of_length_le (by simp)])
  try simp only [go_sem, Int.reduceToNat, Int.reduceLT, Int.reduceLE, Int.reduceBEq, Int.reduceEq, Int.reduceNeg, Int.reduceNegSucc, Int.reduceSub, Int.reduceAdd, Int.reduceMul, Int.natCast_zero, Int.natCast_one, UInt8.reduceToNat, Nat.reduceEqDiff, Nat.reduceAdd, Nat.reduceMul, Nat.reduceSub, Nat.reduceLeDiff, Nat.reduceBEq, ↓reduceIte, reduceCtorEq, Try.ntmps25, Try.results25]
  repeat ((with_reducible refine And.intro ?_ ?_); · (first | omega | assumption | (simp +contextual only [and_self, implies_true, true_and, and_true, imp_self]; done) | (intros; (repeat' apply And.intro) <;> first | assumption | omega) | (simp +contextual; done) | (intros; simp_all; done)))
  rcases hb_0 : v_0 with _ | _
  ·
    replace h := if_f h hb_0
    try simp only [go_sem, Int.reduceToNat, Int.reduceLT, Int.reduceLE, Int.reduceBEq, Int.reduceEq, Int.reduceNeg, Int.reduceNegSucc, Int.reduceSub, Int.reduceAdd, Int.reduceMul, Int.natCast_zero, Int.natCast_one, UInt8.reduceToNat, Nat.reduceEqDiff, Nat.reduceAdd, Nat.reduceMul, Nat.reduceSub, Nat.reduceLeDiff, Nat.reduceBEq, ↓reduceIte, reduceCtorEq, Try.ntmps25, Try.results25, hb_0]
    repeat ((with_reducible refine And.intro ?_ ?_); · (first | omega | assumption | (simp +contextual only [and_self, implies_true, true_and, and_true, imp_self]; done) | (intros; (repeat' apply And.intro) <;> first | assumption | omega) | (simp +contextual; done) | (intros; simp_all; done)))
    refine seqQ_normal hQ3 ?_
    refine vc_cond_t (by first | (simp only [go_sem, Int.reduceToNat, Int.reduceLT, Int.reduceLE, Int.reduceBEq, Int.reduceEq, Int.reduceNeg, Int.reduceNegSucc, Int.reduceSub, Int.reduceAdd, Int.reduceMul, Int.natCast_zero, Int.natCast_one, UInt8.reduceToNat, Nat.reduceEqDiff, Nat.reduceAdd, Nat.reduceMul, Nat.reduceSub, Nat.reduceLeDiff, Nat.reduceBEq, ↓reduceIte, reduceCtorEq]; done) | (simp [go_sem]; done) | (simp only [go_sem, Int.reduceToNat, Int.reduceLT, Int.reduceLE, Int.reduceBEq, Int.reduceEq, Int.reduceNeg, Int.reduceNegSucc, Int.reduceSub, Int.reduceAdd, Int.reduceMul, Int.natCast_zero, Int.natCast_one, UInt8.reduceToNat, Nat.reduceEqDiff, Nat.reduceAdd, Nat.reduceMul, Nat.reduceSub, Nat.reduceLeDiff, Nat.reduceBEq, ↓reduceIte, reduceCtorEq]; congr 2; (first | grind | (simp_all; done))) | (simp [go_sem]; (first | grind | (simp_all; done)))) ?_
    refine vc_seq_gen (by kernel_rfl) ?_
    intro QQ4 hQ4
    try simp only [go_sem, Int.reduceToNat, Int.reduceLT, Int.reduceLE, Int.reduceBEq, Int.reduceEq, Int.reduceNeg, Int.reduceNegSucc, Int.reduceSub, Int.reduceAdd, Int.reduceMul, Int.natCast_zero, Int.natCast_one, UInt8.reduceToNat, Nat.reduceEqDiff, Nat.reduceAdd, Nat.reduceMul, Nat.reduceSub, Nat.reduceLeDiff, Nat.reduceBEq, ↓reduceIte, reduceCtorEq, Try.ntmps25, Try.results25]
    repeat ((with_reducible refine And.intro ?_ ?_); · (first | omega | assumption | (simp +contextual only [and_self, implies_true, true_and, and_true, imp_self]; done) | (intros; (repeat' apply And.intro) <;> first | assumption | omega) | (simp +contextual; done) | (intros; simp_all; done)))
    refine seqQ_normal hQ4 ?_
    refine vc_ret_of ?_
    refine seqQ_ret hQ2 ?_
    try simp only [go_sem, Int.reduceToNat, Int.reduceLT, Int.reduceLE, Int.reduceBEq, Int.reduceEq, Int.reduceNeg, Int.reduceNegSucc, Int.reduceSub, Int.reduceAdd, Int.reduceMul, Int.natCast_zero, Int.natCast_one, UInt8.reduceToNat, Nat.reduceEqDiff, Nat.reduceAdd, Nat.reduceMul, Nat.reduceSub, Nat.reduceLeDiff, Nat.reduceBEq, ↓reduceIte, reduceCtorEq, Try.ntmps25, Try.results25]
    repeat ((with_reducible refine And.intro ?_ ?_); · (first | omega | assumption | (simp +contextual only [and_self, implies_true, true_and, and_true, imp_self]; done) | (intros; (repeat' apply And.intro) <;> first | assumption | omega) | (simp +contextual; done) | (intros; simp_all; done)))
    obtain rfl := Option.some.inj h
    refine retW_pure rfl ?_
    simp only [go_sem, Le, Int.reduceToNat, Int.reduceLT, Int.reduceLE, Int.reduceBEq, Int.reduceEq, Int.reduceNeg, Int.reduceNegSucc, Int.reduceSub, Int.reduceAdd, Int.reduceMul, Int.natCast_zero, Int.natCast_one, UInt8.reduceToNat, Nat.reduceEqDiff, Nat.reduceAdd, Nat.reduceMul, Nat.reduceSub, Nat.reduceLeDiff, Nat.reduceBEq, ↓reduceIte, reduceCtorEq] <;> (repeat' apply And.intro) <;> first | rfl | assumption | omega | (simp only [go_sem, Int.reduceToNat, Int.reduceLT, Int.reduceLE, Int.reduceBEq, Int.reduceEq, Int.reduceNeg, Int.reduceNegSucc, Int.reduceSub, Int.reduceAdd, Int.reduceMul, Int.natCast_zero, Int.natCast_one, UInt8.reduceToNat, Nat.reduceEqDiff, Nat.reduceAdd, Nat.reduceMul, Nat.reduceSub, Nat.reduceLeDiff, Nat.reduceBEq, ↓reduceIte, reduceCtorEq]; done) | (simp [go_sem]; done) | (simp [enc_len, enc]; done) | (simp [enc_len, enc]; omega) | (simp [enc, row_int, row_bool, row_u8, row_list, sz_int, sz_bool, sz_u8, sz_list]; done) | (simp [enc]; rw [List.take_of_length_le (by simp)])
  ·
    replace h := if_t h hb_0
    obtain ⟨v_1, ev_1, h⟩ := bindO_some h
    simp only [go_sem, Int.reduceToNat, Int.reduceLT, Int.reduceLE, Int.reduceBEq, Int.reduceEq, Int.reduceNeg, Int.reduceNegSucc, Int.reduceSub, Int.reduceAdd, Int.reduceMul, Int.natCast_zero, Int.natCast_one, UInt8.reduceToNat, Nat.reduceEqDiff, Nat.reduceAdd, Nat.reduceMul, Nat.reduceSub, Nat.reduceLeDiff, Nat.reduceBEq, ↓reduceIte, reduceCtorEq, Try.ntmps25, Try.results25, hb_0]
    repeat ((with_reducible refine And.intro ?_ ?_); · (first | omega | assumption | (simp +contextual only [and_self, implies_true, true_and, and_true, imp_self]; done) | (intros; (repeat' apply And.intro) <;> first | assumption | omega) | (simp +contextual; done) | (intros; simp_all; done)))
    refine call0 (f_slices_ContainsFunc_Feed_ok l_0 (fun x0_ => f_window_Slide_1 x0_) 41 [] (by rfl) (by kernel_rfl) (fun y0 r_ e_ => f_window_Slide_1_ok y0 r_ e_) v_1 ev_1) (by rfl) (by rfl) ?_
    try simp only [go_sem, Int.reduceToNat, Int.reduceLT, Int.reduceLE, Int.reduceBEq, Int.reduceEq, Int.reduceNeg, Int.reduceNegSucc, Int.reduceSub, Int.reduceAdd, Int.reduceMul, Int.natCast_zero, Int.natCast_one, UInt8.reduceToNat, Nat.reduceEqDiff, Nat.reduceAdd, Nat.reduceMul, Nat.reduceSub, Nat.reduceLeDiff, Nat.reduceBEq, ↓reduceIte, reduceCtorEq, Try.ntmps25, Try.results25]
    repeat ((with_reducible refine And.intro ?_ ?_); · (first | omega | assumption | (simp +contextual only [and_self, implies_true, true_and, and_true, imp_self]; done) | (intros; (repeat' apply And.intro) <;> first | assumption | omega) | (simp +contextual; done) | (intros; simp_all; done)))
    refine seqQ_normal hQ3 ?_
    refine vc_cond_of (b := v_1) (by first | (simp only [go_sem, Int.reduceToNat, Int.reduceLT, Int.reduceLE, Int.reduceBEq, Int.reduceEq, Int.reduceNeg, Int.reduceNegSucc, Int.reduceSub, Int.reduceAdd, Int.reduceMul, Int.natCast_zero, Int.natCast_one, UInt8.reduceToNat, Nat.reduceEqDiff, Nat.reduceAdd, Nat.reduceMul, Nat.reduceSub, Nat.reduceLeDiff, Nat.reduceBEq, ↓reduceIte, reduceCtorEq]; done) | (simp [go_sem]; done) | (simp only [go_sem, Int.reduceToNat, Int.reduceLT, Int.reduceLE, Int.reduceBEq, Int.reduceEq, Int.reduceNeg, Int.reduceNegSucc, Int.reduceSub, Int.reduceAdd, Int.reduceMul, Int.natCast_zero, Int.natCast_one, UInt8.reduceToNat, Nat.reduceEqDiff, Nat.reduceAdd, Nat.reduceMul, Nat.reduceSub, Nat.reduceLeDiff, Nat.reduceBEq, ↓reduceIte, reduceCtorEq]; congr 2; (first | grind | (simp_all; done))) | (simp [go_sem]; (first | grind | (simp_all; done)))) (fun hb_1 => ?_) (fun hb_1 => ?_)
    ·
      replace h := if_t h hb_1
      try simp only [decide_eq_true_eq, decide_eq_false_iff_not, Bool.not_eq_true', Bool.not_eq_false', beq_iff_eq, beq_eq_false_iff_ne, ne_eq, Bool.and_eq_true, Bool.or_eq_true, Int.not_lt, Int.not_le] at hb_1
      refine vc_seq_gen (by kernel_rfl) ?_
      intro QQ5 hQ5
      try simp only [go_sem, Int.reduceToNat, Int.reduceLT, Int.reduceLE, Int.reduceBEq, Int.reduceEq, Int.reduceNeg, Int.reduceNegSucc, Int.reduceSub, Int.reduceAdd, Int.reduceMul, Int.natCast_zero, Int.natCast_one, UInt8.reduceToNat, Nat.reduceEqDiff, Nat.reduceAdd, Nat.reduceMul, Nat.reduceSub, Nat.reduceLeDiff, Nat.reduceBEq, ↓reduceIte, reduceCtorEq, Try.ntmps25, Try.results25]
      repeat ((with_reducible refine And.intro ?_ ?_); · (first | omega | assumption | (simp +contextual only [and_self, implies_true, true_and, and_true, imp_self]; done) | (intros; (repeat' apply And.intro) <;> first | assumption | omega) | (simp +contextual; done) | (intros; simp_all; done)))
      refine seqQ_normal hQ5 ?_
      refine vc_ret_of ?_
      refine seqQ_ret hQ2 ?_
      try simp only [go_sem, Int.reduceToNat, Int.reduceLT, Int.reduceLE, Int.reduceBEq, Int.reduceEq, Int.reduceNeg, Int.reduceNegSucc, Int.reduceSub, Int.reduceAdd, Int.reduceMul, Int.natCast_zero, Int.natCast_one, UInt8.reduceToNat, Nat.reduceEqDiff, Nat.reduceAdd, Nat.reduceMul, Nat.reduceSub, Nat.reduceLeDiff, Nat.reduceBEq, ↓reduceIte, reduceCtorEq, Try.ntmps25, Try.results25]
      repeat ((with_reducible refine And.intro ?_ ?_); · (first | omega | assumption | (simp +contextual only [and_self, implies_true, true_and, and_true, imp_self]; done) | (intros; (repeat' apply And.intro) <;> first | assumption | omega) | (simp +contextual; done) | (intros; simp_all; done)))
      obtain rfl := Option.some.inj h
      refine retW_pure rfl ?_
      simp only [go_sem, Le, Int.reduceToNat, Int.reduceLT, Int.reduceLE, Int.reduceBEq, Int.reduceEq, Int.reduceNeg, Int.reduceNegSucc, Int.reduceSub, Int.reduceAdd, Int.reduceMul, Int.natCast_zero, Int.natCast_one, UInt8.reduceToNat, Nat.reduceEqDiff, Nat.reduceAdd, Nat.reduceMul, Nat.reduceSub, Nat.reduceLeDiff, Nat.reduceBEq, ↓reduceIte, reduceCtorEq] <;> (repeat' apply And.intro) <;> first | rfl | assumption | omega | (simp only [go_sem, Int.reduceToNat, Int.reduceLT, Int.reduceLE, Int.reduceBEq, Int.reduceEq, Int.reduceNeg, Int.reduceNegSucc, Int.reduceSub, Int.reduceAdd, Int.reduceMul, Int.natCast_zero, Int.natCast_one, UInt8.reduceToNat, Nat.reduceEqDiff, Nat.reduceAdd, Nat.reduceMul, Nat.reduceSub, Nat.reduceLeDiff, Nat.reduceBEq, ↓reduceIte, reduceCtorEq]; done) | (simp [go_sem]; done) | (simp [enc_len, enc]; done) | (simp [enc_len, enc]; omega) | (simp [enc, row_int, row_bool, row_u8, row_list, sz_int, sz_bool, sz_u8, sz_list]; done) | (simp [enc]; rw [List.take_of_length_le (by simp)])
    ·
      replace h := if_f h hb_1
      try simp only [decide_eq_true_eq, decide_eq_false_iff_not, Bool.not_eq_true', Bool.not_eq_false', beq_iff_eq, beq_eq_false_iff_ne, ne_eq, Bool.and_eq_true, Bool.or_eq_true, Int.not_lt, Int.not_le] at hb_1
      refine vc_skip_of ?_
      refine seqQ_normal hQ2 ?_
      refine vc_seq_gen (by kernel_rfl) ?_
      intro QQ6 hQ6
      try simp only [go_sem, Int.reduceToNat, Int.reduceLT, Int.reduceLE, Int.reduceBEq, Int.reduceEq, Int.reduceNeg, Int.reduceNegSucc, Int.reduceSub, Int.reduceAdd, Int.reduceMul, Int.natCast_zero, Int.natCast_one, UInt8.reduceToNat, Nat.reduceEqDiff, Nat.reduceAdd, Nat.reduceMul, Nat.reduceSub, Nat.reduceLeDiff, Nat.reduceBEq, ↓reduceIte, reduceCtorEq, Try.ntmps25, Try.results25]
      repeat ((with_reducible refine And.intro ?_ ?_); · (first | omega | assumption | (simp +contextual only [and_self, implies_true, true_and, and_true, imp_self]; done) | (intros; (repeat' apply And.intro) <;> first | assumption | omega) | (simp +contextual; done) | (intros; simp_all; done)))
      refine seqQ_normal hQ6 ?_
      refine vc_join (by kernel_rfl) ?_
      refine seq_go_gen ?_
      intro QQ7 hQ7
      refine vc_seq_gen (by kernel_rfl) ?_
      intro QQ8 hQ8
      try simp only [go_sem, Int.reduceToNat, Int.reduceLT, Int.reduceLE, Int.reduceBEq, Int.reduceEq, Int.reduceNeg, Int.reduceNegSucc, Int.reduceSub, Int.reduceAdd, Int.reduceMul, Int.natCast_zero, Int.natCast_one, UInt8.reduceToNat, Nat.reduceEqDiff, Nat.reduceAdd, Nat.reduceMul, Nat.reduceSub, Nat.reduceLeDiff, Nat.reduceBEq, ↓reduceIte, reduceCtorEq, Try.ntmps25, Try.results25]
      repeat ((with_reducible refine And.intro ?_ ?_); · (first | omega | assumption | (simp +contextual only [and_self, implies_true, true_and, and_true, imp_self]; done) | (intros; (repeat' apply And.intro) <;> first | assumption | omega) | (simp +contextual; done) | (intros; simp_all; done)))
      refine seqQ_normal hQ8 ?_
      refine vc_block_gen ?_
      intro QQ9 hQ9
      refine vc_loop_of ?_
      refine loop_gen (ι := Nat × Int × (List GFeed)) (fun ((_, t24_1, a_5) : Nat × Int × (List GFeed)) => (⟨0, [(1, .v (.int .i64 size_0)), (2, .v (.int .i64 step_0)), (8, .osl 0 4 (0) (List.length a_5)), (22, .sl 4 (enc l_0)), (23, .v (.int .i64 (List.length l_0 : Int))), (24, .v (.int .i64 t24_1))], [(0, .arr 4 (enc a_5))], 1, 52⟩ : St)) (fun ((n_, t24_1, a_5) : Nat × Int × (List GFeed)) => loopK (f_window_Slide_B1 l_0 size_0 step_0) n_ (t24_1, a_5) = some r) (fun p => p.1) (rounds, 0, []) [none] ?_ h ?_
      · simp only [go_sem, Le, Int.reduceToNat, Int.reduceLT, Int.reduceLE, Int.reduceBEq, Int.reduceEq, Int.reduceNeg, Int.reduceNegSucc, Int.reduceSub, Int.reduceAdd, Int.reduceMul, Int.natCast_zero, Int.natCast_one, UInt8.reduceToNat, Nat.reduceEqDiff, Nat.reduceAdd, Nat.reduceMul, Nat.reduceSub, Nat.reduceLeDiff, Nat.reduceBEq, ↓reduceIte, reduceCtorEq] <;> (repeat' apply And.intro) <;> first | rfl | assumption | omega | (simp only [go_sem, Int.reduceToNat, Int.reduceLT, Int.reduceLE, Int.reduceBEq, Int.reduceEq, Int.reduceNeg, Int.reduceNegSucc, Int.reduceSub, Int.reduceAdd, Int.reduceMul, Int.natCast_zero, Int.natCast_one, UInt8.reduceToNat, Nat.reduceEqDiff, Nat.reduceAdd, Nat.reduceMul, Nat.reduceSub, Nat.reduceLeDiff, Nat.reduceBEq, ↓reduceIte, reduceCtorEq]; done) | (simp [go_sem]; done) | (simp [enc_len, enc]; done) | (simp [enc_len, enc]; omega) | (simp [enc, row_int, row_bool, row_u8, row_list, sz_int, sz_bool, sz_u8, sz_list]; done) | (simp [enc]; rw [List.take_of_length_le (by simp)])
      · rintro ⟨n_1, t24_1, a_5⟩ h QQ10 hQ10
        dsimp only at h
        replace h := loopK_some h
        obtain ⟨m_1, rfl, h⟩ := h
        rw [f_window_Slide_B1] at h
        refine vc_seq_gen (by kernel_rfl) ?_
        intro QQ11 hQ11
        try simp only [go_sem, Int.reduceToNat, Int.reduceLT, Int.reduceLE, Int.reduceBEq, Int.reduceEq, Int.reduceNeg, Int.reduceNegSucc, Int.reduceSub, Int.reduceAdd, Int.reduceMul, Int.natCast_zero, Int.natCast_one, UInt8.reduceToNat, Nat.reduceEqDiff, Nat.reduceAdd, Nat.reduceMul, Nat.reduceSub, Nat.reduceLeDiff, Nat.reduceBEq, ↓reduceIte, reduceCtorEq, Try.ntmps25, Try.results25]
        repeat ((with_reducible refine And.intro ?_ ?_); · (first | omega | assumption | (simp +contextual only [and_self, implies_true, true_and, and_true, imp_self]; done) | (intros; (repeat' apply And.intro) <;> first | assumption | omega) | (simp +contextual; done) | (intros; simp_all; done)))
        refine seqQ_normal hQ11 ?_
        refine vc_seq_gen (by kernel_rfl) ?_
        intro QQ12 hQ12
        refine vc_cond_of (b := (decide (t24_1 < (List.length l_0 : Int)))) (by first | (simp only [go_sem, Int.reduceToNat, Int.reduceLT, Int.reduceLE, Int.reduceBEq, Int.reduceEq, Int.reduceNeg, Int.reduceNegSucc, Int.reduceSub, Int.reduceAdd, Int.reduceMul, Int.natCast_zero, Int.natCast_one, UInt8.reduceToNat, Nat.reduceEqDiff, Nat.reduceAdd, Nat.reduceMul, Nat.reduceSub, Nat.reduceLeDiff, Nat.reduceBEq, ↓reduceIte, reduceCtorEq]; done) | (simp [go_sem]; done) | (simp only [go_sem, Int.reduceToNat, Int.reduceLT, Int.reduceLE, Int.reduceBEq, Int.reduceEq, Int.reduceNeg, Int.reduceNegSucc, Int.reduceSub, Int.reduceAdd, Int.reduceMul, Int.natCast_zero, Int.natCast_one, UInt8.reduceToNat, Nat.reduceEqDiff, Nat.reduceAdd, Nat.reduceMul, Nat.reduceSub, Nat.reduceLeDiff, Nat.reduceBEq, ↓reduceIte, reduceCtorEq]; congr 2; (first | grind | (simp_all; done))) | (simp [go_sem]; (first | grind | (simp_all; done)))) (fun hb_15 => ?_) (fun hb_15 => ?_)
        ·
          replace h := if_t h hb_15
          try simp only [decide_eq_true_eq, decide_eq_false_iff_not, Bool.not_eq_true', Bool.not_eq_false', beq_iff_eq, beq_eq_false_iff_ne, ne_eq, Bool.and_eq_true, Bool.or_eq_true, Int.not_lt, Int.not_le] at hb_15
          refine vc_skip_of ?_
          refine seqQ_normal hQ12 ?_
          refine vc_join (by kernel_rfl) ?_
          refine seq_go_gen ?_
          intro QQ13 hQ13
          refine vc_block_gen ?_
          intro QQ14 hQ14
          refine vc_seq_gen (by kernel_rfl) ?_
          intro QQ15 hQ15
          obtain ⟨xv_2, exv_2, h⟩ := bindO_some h
          obtain ⟨fxv_2a, fxv_2b, fxv_2c⟩ := idx_spec exv_2
          try simp only [Int.toNat_natCast, Int.reduceToNat] at fxv_2c
          try simp only [go_sem, Int.reduceToNat, Int.reduceLT, Int.reduceLE, Int.reduceBEq, Int.reduceEq, Int.reduceNeg, Int.reduceNegSucc, Int.reduceSub, Int.reduceAdd, Int.reduceMul, Int.natCast_zero, Int.natCast_one, UInt8.reduceToNat, Nat.reduceEqDiff, Nat.reduceAdd, Nat.reduceMul, Nat.reduceSub, Nat.reduceLeDiff, Nat.reduceBEq, ↓reduceIte, reduceCtorEq, Try.ntmps25, Try.results25, fxv_2a, fxv_2b, fxv_2c]
          repeat ((with_reducible refine And.intro ?_ ?_); · (first | omega | assumption | (simp +contextual only [and_self, implies_true, true_and, and_true, imp_self]; done) | (intros; (repeat' apply And.intro) <;> first | assumption | omega) | (simp +contextual; done) | (intros; simp_all; done)))
          refine seqQ_normal hQ15 ?_
          refine vc_seq_gen (by kernel_rfl) ?_
          intro QQ16 hQ16
          try simp only [go_sem, Int.reduceToNat, Int.reduceLT, Int.reduceLE, Int.reduceBEq, Int.reduceEq, Int.reduceNeg, Int.reduceNegSucc, Int.reduceSub, Int.reduceAdd, Int.reduceMul, Int.natCast_zero, Int.natCast_one, UInt8.reduceToNat, Nat.reduceEqDiff, Nat.reduceAdd, Nat.reduceMul, Nat.reduceSub, Nat.reduceLeDiff, Nat.reduceBEq, ↓reduceIte, reduceCtorEq, Try.ntmps25, Try.results25]
          repeat ((with_reducible refine And.intro ?_ ?_); · (first | omega | assumption | (simp +contextual only [and_self, implies_true, true_and, and_true, imp_self]; done) | (intros; (repeat' apply And.intro) <;> first | assumption | omega) | (simp +contextual; done) | (intros; simp_all; done)))
          refine seqQ_normal hQ16 ?_
          refine vc_seq_gen (by kernel_rfl) ?_
          intro QQ17 hQ17
          obtain ⟨v_4, ev_4, h⟩ := bindO_some h
          simp only [go_sem, Int.reduceToNat, Int.reduceLT, Int.reduceLE, Int.reduceBEq, Int.reduceEq, Int.reduceNeg, Int.reduceNegSucc, Int.reduceSub, Int.reduceAdd, Int.reduceMul, Int.natCast_zero, Int.natCast_one, UInt8.reduceToNat, Nat.reduceEqDiff, Nat.reduceAdd, Nat.reduceMul, Nat.reduceSub, Nat.reduceLeDiff, Nat.reduceBEq, ↓reduceIte, reduceCtorEq, Try.ntmps25, Try.results25]
          repeat ((with_reducible refine And.intro ?_ ?_); · (first | omega | assumption | (simp +contextual only [and_self, implies_true, true_and, and_true, imp_self]; done) | (intros; (repeat' apply And.intro) <;> first | assumption | omega) | (simp +contextual; done) | (intros; simp_all; done)))
          refine call0 (f_window_first_ok xv_2.Epoch size_0 step_0 v_4 ev_4) (by rfl) (by rfl) ?_
          try simp only [go_sem, Int.reduceToNat, Int.reduceLT, Int.reduceLE, Int.reduceBEq, Int.reduceEq, Int.reduceNeg, Int.reduceNegSucc, Int.reduceSub, Int.reduceAdd, Int.reduceMul, Int.natCast_zero, Int.natCast_one, UInt8.reduceToNat, Nat.reduceEqDiff, Nat.reduceAdd, Nat.reduceMul, Nat.reduceSub, Nat.reduceLeDiff, Nat.reduceBEq, ↓reduceIte, reduceCtorEq, Try.ntmps25, Try.results25]
          repeat ((with_reducible refine And.intro ?_ ?_); · (first | omega | assumption | (simp +contextual only [and_self, implies_true, true_and, and_true, imp_self]; done) | (intros; (repeat' apply And.intro) <;> first | assumption | omega) | (simp +contextual; done) | (intros; simp_all; done)))
          refine seqQ_normal hQ17 ?_
          refine vc_block_gen ?_
          intro QQ18 hQ18
          refine vc_loop_of ?_
          refine loop_gen (ι := Nat × Int × (List GFeed) × GFeed) (fun ((_, w_5, a_7, b_5) : Nat × Int × (List GFeed) × GFeed) => (⟨0, [(1, .v (.int .i64 size_0)), (2, .v (.int .i64 step_0)), (8, .osl 0 4 (0) (List.length a_7)), (10, .ptr 1 0), (11, .v (.int .i64 xv_2.Epoch)), (12, .v (.int .i64 w_5)), (22, .sl 4 (enc l_0)), (23, .v (.int .i64 (List.length l_0 : Int))), (24, .v (.int .i64 t24_1))], [(0, .arr 4 (enc a_7)), (1, .box [.v (.int .i64 b_5.Node), .v (.int .i64 b_5.Epoch), .v (.int .i64 b_5.Rec.K), .v (.int .i64 b_5.Rec.V)])], 2, 52⟩ : St)) (fun ((n_, w_5, a_7, b_5) : Nat × Int × (List GFeed) × GFeed) => loopK (f_window_Slide_B2 step_0 t24_1 (loopK (f_window_Slide_B1 l_0 size_0 step_0) m_1) xv_2) n_ (w_5, a_7, b_5) = some r) (fun p => p.1) (rounds, v_4, a_5, xv_2) [some 0, some 1] ?_ h ?_
          · simp only [go_sem, Le, Int.reduceToNat, Int.reduceLT, Int.reduceLE, Int.reduceBEq, Int.reduceEq, Int.reduceNeg, Int.reduceNegSucc, Int.reduceSub, Int.reduceAdd, Int.reduceMul, Int.natCast_zero, Int.natCast_one, UInt8.reduceToNat, Nat.reduceEqDiff, Nat.reduceAdd, Nat.reduceMul, Nat.reduceSub, Nat.reduceLeDiff, Nat.reduceBEq, ↓reduceIte, reduceCtorEq] <;> (repeat' apply And.intro) <;> first | rfl | assumption | omega | (simp only [go_sem, Int.reduceToNat, Int.reduceLT, Int.reduceLE, Int.reduceBEq, Int.reduceEq, Int.reduceNeg, Int.reduceNegSucc, Int.reduceSub, Int.reduceAdd, Int.reduceMul, Int.natCast_zero, Int.natCast_one, UInt8.reduceToNat, Nat.reduceEqDiff, Nat.reduceAdd, Nat.reduceMul, Nat.reduceSub, Nat.reduceLeDiff, Nat.reduceBEq, ↓reduceIte, reduceCtorEq]; done) | (simp [go_sem]; done) | (simp [enc_len, enc]; done) | (simp [enc_len, enc]; omega) | (simp [enc, row_int, row_bool, row_u8, row_list, sz_int, sz_bool, sz_u8, sz_list]; done) | (simp [enc]; rw [List.take_of_length_le (by simp)])
          · rintro ⟨n_2, w_5, a_7, b_5⟩ h QQ19 hQ19
            dsimp only at h
            replace h := loopK_some h
            obtain ⟨m_2, rfl, h⟩ := h
            rw [f_window_Slide_B2] at h
            refine vc_seq_gen (by kernel_rfl) ?_
            intro QQ20 hQ20
            refine vc_seq_gen (by kernel_rfl) ?_
            intro QQ21 hQ21
            try simp only [go_sem, Int.reduceToNat, Int.reduceLT, Int.reduceLE, Int.reduceBEq, Int.reduceEq, Int.reduceNeg, Int.reduceNegSucc, Int.reduceSub, Int.reduceAdd, Int.reduceMul, Int.natCast_zero, Int.natCast_one, UInt8.reduceToNat, Nat.reduceEqDiff, Nat.reduceAdd, Nat.reduceMul, Nat.reduceSub, Nat.reduceLeDiff, Nat.reduceBEq, ↓reduceIte, reduceCtorEq, Try.ntmps25, Try.results25]
            repeat ((with_reducible refine And.intro ?_ ?_); · (first | omega | assumption | (simp +contextual only [and_self, implies_true, true_and, and_true, imp_self]; done) | (intros; (repeat' apply And.intro) <;> first | assumption | omega) | (simp +contextual; done) | (intros; simp_all; done)))
            refine seqQ_normal hQ21 ?_
            refine vc_cond_of (b := (decide ((IntKind.i64.wrap (w_5 * step_0)) ≤ xv_2.Epoch))) (by first | (simp only [go_sem, Int.reduceToNat, Int.reduceLT, Int.reduceLE, Int.reduceBEq, Int.reduceEq, Int.reduceNeg, Int.reduceNegSucc, Int.reduceSub, Int.reduceAdd, Int.reduceMul, Int.natCast_zero, Int.natCast_one, UInt8.reduceToNat, Nat.reduceEqDiff, Nat.reduceAdd, Nat.reduceMul, Nat.reduceSub, Nat.reduceLeDiff, Nat.reduceBEq, ↓reduceIte, reduceCtorEq]; done) | (simp [go_sem]; done) | (simp only [go_sem, Int.reduceToNat, Int.reduceLT, Int.reduceLE, Int.reduceBEq, Int.reduceEq, Int.reduceNeg, Int.reduceNegSucc, Int.reduceSub, Int.reduceAdd, Int.reduceMul, Int.natCast_zero, Int.natCast_one, UInt8.reduceToNat, Nat.reduceEqDiff, Nat.reduceAdd, Nat.reduceMul, Nat.reduceSub, Nat.reduceLeDiff, Nat.reduceBEq, ↓reduceIte, reduceCtorEq]; congr 2; (first | grind | (simp_all; done))) | (simp [go_sem]; (first | grind | (simp_all; done)))) (fun hb_20 => ?_) (fun hb_20 => ?_)
            ·
              replace h := if_t h hb_20
              try simp only [decide_eq_true_eq, decide_eq_false_iff_not, Bool.not_eq_true', Bool.not_eq_false', beq_iff_eq, beq_eq_false_iff_ne, ne_eq, Bool.and_eq_true, Bool.or_eq_true, Int.not_lt, Int.not_le] at hb_20
              refine vc_skip_of ?_
              refine seqQ_normal hQ20 ?_
              refine vc_seq_gen (by kernel_rfl) ?_
              intro QQ22 hQ22
              refine vc_block_gen ?_
              intro QQ23 hQ23
              refine vc_seq_gen (by kernel_rfl) ?_
              intro QQ24 hQ24
              refine vc_seq_gen (by kernel_rfl) ?_
              intro QQ25 hQ25
              try simp only [go_sem, Int.reduceToNat, Int.reduceLT, Int.reduceLE, Int.reduceBEq, Int.reduceEq, Int.reduceNeg, Int.reduceNegSucc, Int.reduceSub, Int.reduceAdd, Int.reduceMul, Int.natCast_zero, Int.natCast_one, UInt8.reduceToNat, Nat.reduceEqDiff, Nat.reduceAdd, Nat.reduceMul, Nat.reduceSub, Nat.reduceLeDiff, Nat.reduceBEq, ↓reduceIte, reduceCtorEq, Try.ntmps25, Try.results25]
              repeat ((with_reducible refine And.intro ?_ ?_); · (first | omega | assumption | (simp +contextual only [and_self, implies_true, true_and, and_true, imp_self]; done) | (intros; (repeat' apply And.intro) <;> first | assumption | omega) | (simp +contextual; done) | (intros; simp_all; done)))
              refine seqQ_normal hQ25 ?_
              refine vc_cond_of (b := ((List.length a_7 : Int) == 65536)) (by first | (simp only [go_sem, Int.reduceToNat, Int.reduceLT, Int.reduceLE, Int.reduceBEq, Int.reduceEq, Int.reduceNeg, Int.reduceNegSucc, Int.reduceSub, Int.reduceAdd, Int.reduceMul, Int.natCast_zero, Int.natCast_one, UInt8.reduceToNat, Nat.reduceEqDiff, Nat.reduceAdd, Nat.reduceMul, Nat.reduceSub, Nat.reduceLeDiff, Nat.reduceBEq, ↓reduceIte, reduceCtorEq]; done) | (simp [go_sem]; done) | (simp only [go_sem, Int.reduceToNat, Int.reduceLT, Int.reduceLE, Int.reduceBEq, Int.reduceEq, Int.reduceNeg, Int.reduceNegSucc, Int.reduceSub, Int.reduceAdd, Int.reduceMul, Int.natCast_zero, Int.natCast_one, UInt8.reduceToNat, Nat.reduceEqDiff, Nat.reduceAdd, Nat.reduceMul, Nat.reduceSub, Nat.reduceLeDiff, Nat.reduceBEq, ↓reduceIte, reduceCtorEq]; congr 2; (first | grind | (simp_all; done))) | (simp [go_sem]; (first | grind | (simp_all; done)))) (fun hb_21 => ?_) (fun hb_21 => ?_)
              ·
                replace h := if_t h hb_21
                try simp only [decide_eq_true_eq, decide_eq_false_iff_not, Bool.not_eq_true', Bool.not_eq_false', beq_iff_eq, beq_eq_false_iff_ne, ne_eq, Bool.and_eq_true, Bool.or_eq_true, Int.not_lt, Int.not_le] at hb_21
                refine vc_seq_gen (by kernel_rfl) ?_
                intro QQ26 hQ26
                try simp only [go_sem, Int.reduceToNat, Int.reduceLT, Int.reduceLE, Int.reduceBEq, Int.reduceEq, Int.reduceNeg, Int.reduceNegSucc, Int.reduceSub, Int.reduceAdd, Int.reduceMul, Int.natCast_zero, Int.natCast_one, UInt8.reduceToNat, Nat.reduceEqDiff, Nat.reduceAdd, Nat.reduceMul, Nat.reduceSub, Nat.reduceLeDiff, Nat.reduceBEq, ↓reduceIte, reduceCtorEq, Try.ntmps25, Try.results25]
                repeat ((with_reducible refine And.intro ?_ ?_); · (first | omega | assumption | (simp +contextual only [and_self, implies_true, true_and, and_true, imp_self]; done) | (intros; (repeat' apply And.intro) <;> first | assumption | omega) | (simp +contextual; done) | (intros; simp_all; done)))
                refine seqQ_normal hQ26 ?_
                refine vc_ret_of ?_
                refine seqQ_ret hQ24 ?_
                refine blockQ_ret hQ23 ?_
                refine seqQ_ret hQ22 ?_
                refine thenQ_ret hQ19 ?_
                refine blockQ_ret hQ18 ?_
                refine blockQ_ret hQ14 ?_
                refine seqQ_ret hQ13 ?_
                refine thenQ_ret hQ10 ?_
                refine blockQ_ret hQ9 ?_
                refine seqQ_ret hQ7 ?_
                try simp only [go_sem, Int.reduceToNat, Int.reduceLT, Int.reduceLE, Int.reduceBEq, Int.reduceEq, Int.reduceNeg, Int.reduceNegSucc, Int.reduceSub, Int.reduceAdd, Int.reduceMul, Int.natCast_zero, Int.natCast_one, UInt8.reduceToNat, Nat.reduceEqDiff, Nat.reduceAdd, Nat.reduceMul, Nat.reduceSub, Nat.reduceLeDiff, Nat.reduceBEq, ↓reduceIte, reduceCtorEq, Try.ntmps25, Try.results25]
                repeat ((with_reducible refine And.intro ?_ ?_); · (first | omega | assumption | (simp +contextual only [and_self, implies_true, true_and, and_true, imp_self]; done) | (intros; (repeat' apply And.intro) <;> first | assumption | omega) | (simp +contextual; done) | (intros; simp_all; done)))
                obtain rfl := Option.some.inj h
                refine retW_pure rfl ?_
                simp only [go_sem, Le, Int.reduceToNat, Int.reduceLT, Int.reduceLE, Int.reduceBEq, Int.reduceEq, Int.reduceNeg, Int.reduceNegSucc, Int.reduceSub, Int.reduceAdd, Int.reduceMul, Int.natCast_zero, Int.natCast_one, UInt8.reduceToNat, Nat.reduceEqDiff, Nat.reduceAdd, Nat.reduceMul, Nat.reduceSub, Nat.reduceLeDiff, Nat.reduceBEq, ↓reduceIte, reduceCtorEq] <;> (repeat' apply And.intro) <;> first | rfl | assumption | omega | (simp only [go_sem, Int.reduceToNat, Int.reduceLT, Int.reduceLE, Int.reduceBEq, Int.reduceEq, Int.reduceNeg, Int.reduceNegSucc, Int.reduceSub, Int.reduceAdd, Int.reduceMul, Int.natCast_zero, Int.natCast_one, UInt8.reduceToNat, Nat.reduceEqDiff, Nat.reduceAdd, Nat.reduceMul, Nat.reduceSub, Nat.reduceLeDiff, Nat.reduceBEq, ↓reduceIte, reduceCtorEq]; done) | (simp [go_sem]; done) | (simp [enc_len, enc]; done) | (simp [enc_len, enc]; omega) | (simp [enc, row_int, row_bool, row_u8, row_list, sz_int, sz_bool, sz_u8, sz_list]; done) | (simp [enc]; rw [List.take_of_length_le (by simp)])
              ·
                replace h := if_f h hb_21
                try simp only [decide_eq_true_eq, decide_eq_false_iff_not, Bool.not_eq_true', Bool.not_eq_false', beq_iff_eq, beq_eq_false_iff_ne, ne_eq, Bool.and_eq_true, Bool.or_eq_true, Int.not_lt, Int.not_le] at hb_21
                refine vc_skip_of ?_
                refine seqQ_normal hQ24 ?_
                refine vc_seq_gen (by kernel_rfl) ?_
                intro QQ27 hQ27
                try simp only [go_sem, Int.reduceToNat, Int.reduceLT, Int.reduceLE, Int.reduceBEq, Int.reduceEq, Int.reduceNeg, Int.reduceNegSucc, Int.reduceSub, Int.reduceAdd, Int.reduceMul, Int.natCast_zero, Int.natCast_one, UInt8.reduceToNat, Nat.reduceEqDiff, Nat.reduceAdd, Nat.reduceMul, Nat.reduceSub, Nat.reduceLeDiff, Nat.reduceBEq, ↓reduceIte, reduceCtorEq, Try.ntmps25, Try.results25]
                repeat ((with_reducible refine And.intro ?_ ?_); · (first | omega | assumption | (simp +contextual only [and_self, implies_true, true_and, and_true, imp_self]; done) | (intros; (repeat' apply And.intro) <;> first | assumption | omega) | (simp +contextual; done) | (intros; simp_all; done)))
                refine seqQ_normal hQ27 ?_
                have rf_16 : [[.v (.int .i64 b_5.Node), .v (.int .i64 w_5), .v (.int .i64 b_5.Rec.K), .v (.int .i64 b_5.Rec.V)]] = enc ([(⟨b_5.Node, w_5, b_5.Rec⟩ : GFeed)] : List GFeed) := by first | rfl | simp [enc, row_int, row_bool, row_u8, row_list, sz_int, sz_bool, sz_u8, sz_list]
                obtain ⟨g_8, h⟩ := guardO_some h
                try simp only [List.length_cons, List.length_nil, Nat.zero_add, List.length_append] at g_8
                have rf_17 : enc a_7 ++ [[.v (.int .i64 b_5.Node), .v (.int .i64 w_5), .v (.int .i64 b_5.Rec.K), .v (.int .i64 b_5.Rec.V)]] = enc (a_7 ++ ([(⟨b_5.Node, w_5, b_5.Rec⟩ : GFeed)] : List GFeed)) := by first | exact (enc_app a_7 ([(⟨b_5.Node, w_5, b_5.Rec⟩ : GFeed)] : List GFeed)).symm | (simp [enc]; rfl) | (rw [enc_app, rf_16])
                try simp only [go_sem, Int.reduceToNat, Int.reduceLT, Int.reduceLE, Int.reduceBEq, Int.reduceEq, Int.reduceNeg, Int.reduceNegSucc, Int.reduceSub, Int.reduceAdd, Int.reduceMul, Int.natCast_zero, Int.natCast_one, UInt8.reduceToNat, Nat.reduceEqDiff, Nat.reduceAdd, Nat.reduceMul, Nat.reduceSub, Nat.reduceLeDiff, Nat.reduceBEq, ↓reduceIte, reduceCtorEq, Try.ntmps25, Try.results25, g_8, rf_17]
                repeat ((with_reducible refine And.intro ?_ ?_); · (first | omega | assumption | (simp +contextual only [and_self, implies_true, true_and, and_true, imp_self]; done) | (intros; (repeat' apply And.intro) <;> first | assumption | omega) | (simp +contextual; done) | (intros; simp_all; done)))
                try simp only [rf_16]
                refine blockQ_normal hQ23 ?_
                refine seqQ_normal hQ22 ?_
                try simp only [go_sem, Int.reduceToNat, Int.reduceLT, Int.reduceLE, Int.reduceBEq, Int.reduceEq, Int.reduceNeg, Int.reduceNegSucc, Int.reduceSub, Int.reduceAdd, Int.reduceMul, Int.natCast_zero, Int.natCast_one, UInt8.reduceToNat, Nat.reduceEqDiff, Nat.reduceAdd, Nat.reduceMul, Nat.reduceSub, Nat.reduceLeDiff, Nat.reduceBEq, ↓reduceIte, reduceCtorEq, Try.ntmps25, Try.results25]
                repeat ((with_reducible refine And.intro ?_ ?_); · (first | omega | assumption | (simp +contextual only [and_self, implies_true, true_and, and_true, imp_self]; done) | (intros; (repeat' apply And.intro) <;> first | assumption | omega) | (simp +contextual; done) | (intros; simp_all; done)))
                refine thenQ_normal hQ19 ?_
                refine ⟨(m_2, IntKind.i64.wrap (w_5 + 1), (a_7 ++ ([(⟨b_5.Node, w_5, b_5.Rec⟩ : GFeed)] : List GFeed)), (⟨b_5.Node, w_5, b_5.Rec⟩ : GFeed)), [some 3, some 1], ?_, h, Nat.lt_succ_self _⟩
                simp only [go_sem, Le, Int.reduceToNat, Int.reduceLT, Int.reduceLE, Int.reduceBEq, Int.reduceEq, Int.reduceNeg, Int.reduceNegSucc, Int.reduceSub, Int.reduceAdd, Int.reduceMul, Int.natCast_zero, Int.natCast_one, UInt8.reduceToNat, Nat.reduceEqDiff, Nat.reduceAdd, Nat.reduceMul, Nat.reduceSub, Nat.reduceLeDiff, Nat.reduceBEq, ↓reduceIte, reduceCtorEq] <;> (repeat' apply And.intro) <;> first | rfl | assumption | omega | (simp only [go_sem, Int.reduceToNat, Int.reduceLT, Int.reduceLE, Int.reduceBEq, Int.reduceEq, Int.reduceNeg, Int.reduceNegSucc, Int.reduceSub, Int.reduceAdd, Int.reduceMul, Int.natCast_zero, Int.natCast_one, UInt8.reduceToNat, Nat.reduceEqDiff, Nat.reduceAdd, Nat.reduceMul, Nat.reduceSub, Nat.reduceLeDiff, Nat.reduceBEq, ↓reduceIte, reduceCtorEq]; done) | (simp [go_sem]; done) | (simp [enc_len, enc]; done) | (simp [enc_len, enc]; omega) | (simp [enc, row_int, row_bool, row_u8, row_list, sz_int, sz_bool, sz_u8, sz_list]; done) | (simp [enc]; rw [List.take_of_length_le (by simp)])
            ·
              replace h := if_f h hb_20
              try simp only [decide_eq_true_eq, decide_eq_false_iff_not, Bool.not_eq_true', Bool.not_eq_false', beq_iff_eq, beq_eq_false_iff_ne, ne_eq, Bool.and_eq_true, Bool.or_eq_true, Int.not_lt, Int.not_le] at hb_20
              refine vc_exit_of ?_
              refine seqQ_exit hQ20 ?_
              refine thenQ_exit hQ19 ?_
              refine blockQ_exit hQ18 ?_
              refine blockQ_normal hQ14 ?_
              refine seqQ_normal hQ13 ?_
              try simp only [go_sem, Int.reduceToNat, Int.reduceLT, Int.reduceLE, Int.reduceBEq, Int.reduceEq, Int.reduceNeg, Int.reduceNegSucc, Int.reduceSub, Int.reduceAdd, Int.reduceMul, Int.natCast_zero, Int.natCast_one, UInt8.reduceToNat, Nat.reduceEqDiff, Nat.reduceAdd, Nat.reduceMul, Nat.reduceSub, Nat.reduceLeDiff, Nat.reduceBEq, ↓reduceIte, reduceCtorEq, Try.ntmps25, Try.results25]
              repeat ((with_reducible refine And.intro ?_ ?_); · (first | omega | assumption | (simp +contextual only [and_self, implies_true, true_and, and_true, imp_self]; done) | (intros; (repeat' apply And.intro) <;> first | assumption | omega) | (simp +contextual; done) | (intros; simp_all; done)))
              refine thenQ_normal hQ10 ?_
              refine ⟨(m_1, IntKind.i64.wrap (t24_1 + 1), a_7), [some 0], ?_, h, Nat.lt_succ_self _⟩
              simp only [go_sem, Le, Int.reduceToNat, Int.reduceLT, Int.reduceLE, Int.reduceBEq, Int.reduceEq, Int.reduceNeg, Int.reduceNegSucc, Int.reduceSub, Int.reduceAdd, Int.reduceMul, Int.natCast_zero, Int.natCast_one, UInt8.reduceToNat, Nat.reduceEqDiff, Nat.reduceAdd, Nat.reduceMul, Nat.reduceSub, Nat.reduceLeDiff, Nat.reduceBEq, ↓reduceIte, reduceCtorEq] <;> (repeat' apply And.intro) <;> first | rfl | assumption | omega | (simp only [go_sem, Int.reduceToNat, Int.reduceLT, Int.reduceLE, Int.reduceBEq, Int.reduceEq, Int.reduceNeg, Int.reduceNegSucc, Int.reduceSub, Int.reduceAdd, Int.reduceMul, Int.natCast_zero, Int.natCast_one, UInt8.reduceToNat, Nat.reduceEqDiff, Nat.reduceAdd, Nat.reduceMul, Nat.reduceSub, Nat.reduceLeDiff, Nat.reduceBEq, ↓reduceIte, reduceCtorEq]; done) | (simp [go_sem]; done) | (simp [enc_len, enc]; done) | (simp [enc_len, enc]; omega) | (simp [enc, row_int, row_bool, row_u8, row_list, sz_int, sz_bool, sz_u8, sz_list]; done) | (simp [enc]; rw [List.take_of_length_le (by simp)])
        ·
          replace h := if_f h hb_15
          try simp only [decide_eq_true_eq, decide_eq_false_iff_not, Bool.not_eq_true', Bool.not_eq_false', beq_iff_eq, beq_eq_false_iff_ne, ne_eq, Bool.and_eq_true, Bool.or_eq_true, Int.not_lt, Int.not_le] at hb_15
          refine vc_exit_of ?_
          refine seqQ_exit hQ12 ?_
          refine thenQ_exit hQ10 ?_
          refine blockQ_exit hQ9 ?_
          refine seqQ_normal hQ7 ?_
          refine vc_seq_gen (by kernel_rfl) ?_
          intro QQ28 hQ28
          try simp only [go_sem, Int.reduceToNat, Int.reduceLT, Int.reduceLE, Int.reduceBEq, Int.reduceEq, Int.reduceNeg, Int.reduceNegSucc, Int.reduceSub, Int.reduceAdd, Int.reduceMul, Int.natCast_zero, Int.natCast_one, UInt8.reduceToNat, Nat.reduceEqDiff, Nat.reduceAdd, Nat.reduceMul, Nat.reduceSub, Nat.reduceLeDiff, Nat.reduceBEq, ↓reduceIte, reduceCtorEq, Try.ntmps25, Try.results25]
          repeat ((with_reducible refine And.intro ?_ ?_); · (first | omega | assumption | (simp +contextual only [and_self, implies_true, true_and, and_true, imp_self]; done) | (intros; (repeat' apply And.intro) <;> first | assumption | omega) | (simp +contextual; done) | (intros; simp_all; done)))
          refine seqQ_normal hQ28 ?_
          refine vc_ret_of ?_
          try simp only [go_sem, Int.reduceToNat, Int.reduceLT, Int.reduceLE, Int.reduceBEq, Int.reduceEq, Int.reduceNeg, Int.reduceNegSucc, Int.reduceSub, Int.reduceAdd, Int.reduceMul, Int.natCast_zero, Int.natCast_one, UInt8.reduceToNat, Nat.reduceEqDiff, Nat.reduceAdd, Nat.reduceMul, Nat.reduceSub, Nat.reduceLeDiff, Nat.reduceBEq, ↓reduceIte, reduceCtorEq, Try.ntmps25, Try.results25]
          repeat ((with_reducible refine And.intro ?_ ?_); · (first | omega | assumption | (simp +contextual only [and_self, implies_true, true_and, and_true, imp_self]; done) | (intros; (repeat' apply And.intro) <;> first | assumption | omega) | (simp +contextual; done) | (intros; simp_all; done)))
          obtain rfl := Option.some.inj h
          refine retW_pure rfl ?_
          simp only [go_sem, Le, Int.reduceToNat, Int.reduceLT, Int.reduceLE, Int.reduceBEq, Int.reduceEq, Int.reduceNeg, Int.reduceNegSucc, Int.reduceSub, Int.reduceAdd, Int.reduceMul, Int.natCast_zero, Int.natCast_one, UInt8.reduceToNat, Nat.reduceEqDiff, Nat.reduceAdd, Nat.reduceMul, Nat.reduceSub, Nat.reduceLeDiff, Nat.reduceBEq, ↓reduceIte, reduceCtorEq] <;> (repeat' apply And.intro) <;> first | rfl | assumption | omega | (simp only [go_sem, Int.reduceToNat, Int.reduceLT, Int.reduceLE, Int.reduceBEq, Int.reduceEq, Int.reduceNeg, Int.reduceNegSucc, Int.reduceSub, Int.reduceAdd, Int.reduceMul, Int.natCast_zero, Int.natCast_one, UInt8.reduceToNat, Nat.reduceEqDiff, Nat.reduceAdd, Nat.reduceMul, Nat.reduceSub, Nat.reduceLeDiff, Nat.reduceBEq, ↓reduceIte, reduceCtorEq]; done) | (simp [go_sem]; done) | (simp [enc_len, enc]; done) | (simp [enc_len, enc]; omega) | (simp [enc, row_int, row_bool, row_u8, row_list, sz_int, sz_bool, sz_u8, sz_list]; done) | (simp [enc]; rw [List.take_of_length_le (by simp)])
end Go.Proofs.Ytngeldeahafcfaa

namespace Go.Proofs.Ytngeldeahafcfaa
open Go Go.RowKit
set_option maxHeartbeats 2000000
set_option maxRecDepth 100000
set_option linter.unusedSimpArgs false
set_option linter.unusedVariables false
def f_window_Tumble (l_0 : List GFeed) (size_0 : Int) : Option ((List GFeed) × Int) :=
  bindO (f_window_Slide l_0 size_0 size_0) (fun (v_0 : (List GFeed) × Int) =>
  some (v_0.1, v_0.2))
theorem f_window_Tumble_ok (l_0 : List GFeed) (size_0 : Int)  (r : (List GFeed) × Int) (h : f_window_Tumble l_0 size_0 = some r) : PureS Try.prog 26 [.sl 4 (enc l_0), .v (.int .i64 size_0)] 0 (.tup [.sl 4 (enc r.1), .v (.int .i64 r.2)]) := by
  unfold PureS
  refine Spec.of_vc Try.func26 rfl (by kernel_rfl) (by kernel_rfl) ?_
  rw [f_window_Tumble] at h
  refine vc_seq_gen (by kernel_rfl) ?_
  intro QQ1 hQ1
  try simp only [go_sem, Int.reduceToNat, Int.reduceLT, Int.reduceLE, Int.reduceBEq, Int.reduceEq, Int.reduceNeg, Int.reduceNegSucc, Int.reduceSub, Int.reduceAdd, Int.reduceMul, Int.natCast_zero, Int.natCast_one, UInt8.reduceToNat, Nat.reduceEqDiff, Nat.reduceAdd, Nat.reduceMul, Nat.reduceSub, Nat.reduceLeDiff, Nat.reduceBEq, ↓reduceIte, reduceCtorEq, Try.ntmps26, Try.results26]
  repeat ((with_reducible refine And.intro ?_ ?_); · (first | omega | assumption | (simp +contextual only [and_self, implies_true, true_and, and_true, imp_self]; done) | (intros; (repeat' apply And.intro) <;> first | assumption | omega) | (simp +contextual; done) | (intros; simp_all; done)))
  refine seqQ_normal hQ1 ?_
  refine vc_seq_gen (by kernel_rfl) ?_
  intro QQ2 hQ2
  obtain ⟨v_0, ev_0, h⟩ := bindO_some h
  simp only [go_sem, Int.reduceToNat, Int.reduceLT, Int.reduceLE, Int.reduceBEq, Int.reduceEq, Int.reduceNeg, Int.reduceNegSucc, Int.reduceSub, Int.reduceAdd, Int.reduceMul, Int.natCast_zero, Int.natCast_one, UInt8.reduceToNat, Nat.reduceEqDiff, Nat.reduceAdd, Nat.reduceMul, Nat.reduceSub, Nat.reduceLeDiff, Nat.reduceBEq, ↓reduceIte, reduceCtorEq, Try.ntmps26, Try.results26]
  repeat ((with_reducible refine And.intro ?_ ?_); · (first | omega | assumption | (simp +contextual only [and_self, implies_true, true_and, and_true, imp_self]; done) | (intros; (repeat' apply And.intro) <;> first | assumption | omega) | (simp +contextual; done) | (intros; simp_all; done)))
  refine call0 (f_window_Slide_ok l_0 size_0 size_0 v_0 ev_0) (by rfl) (by rfl) ?_
  try simp only [go_sem, Int.reduceToNat, Int.reduceLT, Int.reduceLE, Int.reduceBEq, Int.reduceEq, Int.reduceNeg, Int.reduceNegSucc, Int.reduceSub, Int.reduceAdd, Int.reduceMul, Int.natCast_zero, Int.natCast_one, UInt8.reduceToNat, Nat.reduceEqDiff, Nat.reduceAdd, Nat.reduceMul, Nat.reduceSub, Nat.reduceLeDiff, Nat.reduceBEq, ↓reduceIte, reduceCtorEq, Try.ntmps26, Try.results26]
  repeat ((with_reducible refine And.intro ?_ ?_); · (first | omega | assumption | (simp +contextual only [and_self, implies_true, true_and, and_true, imp_self]; done) | (intros; (repeat' apply And.intro) <;> first | assumption | omega) | (simp +contextual; done) | (intros; simp_all; done)))
  refine seqQ_normal hQ2 ?_
  refine vc_ret_of ?_
  try simp only [go_sem, Int.reduceToNat, Int.reduceLT, Int.reduceLE, Int.reduceBEq, Int.reduceEq, Int.reduceNeg, Int.reduceNegSucc, Int.reduceSub, Int.reduceAdd, Int.reduceMul, Int.natCast_zero, Int.natCast_one, UInt8.reduceToNat, Nat.reduceEqDiff, Nat.reduceAdd, Nat.reduceMul, Nat.reduceSub, Nat.reduceLeDiff, Nat.reduceBEq, ↓reduceIte, reduceCtorEq, Try.ntmps26, Try.results26]
  repeat ((with_reducible refine And.intro ?_ ?_); · (first | omega | assumption | (simp +contextual only [and_self, implies_true, true_and, and_true, imp_self]; done) | (intros; (repeat' apply And.intro) <;> first | assumption | omega) | (simp +contextual; done) | (intros; simp_all; done)))
  obtain rfl := Option.some.inj h
  refine retW_pure rfl ?_
  simp only [go_sem, Le, Int.reduceToNat, Int.reduceLT, Int.reduceLE, Int.reduceBEq, Int.reduceEq, Int.reduceNeg, Int.reduceNegSucc, Int.reduceSub, Int.reduceAdd, Int.reduceMul, Int.natCast_zero, Int.natCast_one, UInt8.reduceToNat, Nat.reduceEqDiff, Nat.reduceAdd, Nat.reduceMul, Nat.reduceSub, Nat.reduceLeDiff, Nat.reduceBEq, ↓reduceIte, reduceCtorEq] <;> (repeat' apply And.intro) <;> first | rfl | assumption | omega | (simp only [go_sem, Int.reduceToNat, Int.reduceLT, Int.reduceLE, Int.reduceBEq, Int.reduceEq, Int.reduceNeg, Int.reduceNegSucc, Int.reduceSub, Int.reduceAdd, Int.reduceMul, Int.natCast_zero, Int.natCast_one, UInt8.reduceToNat, Nat.reduceEqDiff, Nat.reduceAdd, Nat.reduceMul, Nat.reduceSub, Nat.reduceLeDiff, Nat.reduceBEq, ↓reduceIte, reduceCtorEq]; done) | (simp [go_sem]; done) | (simp [enc_len, enc]; done) | (simp [enc_len, enc]; omega) | (simp [enc, row_int, row_bool, row_u8, row_list, sz_int, sz_bool, sz_u8, sz_list]; done) | (simp [enc]; rw [List.take_of_length_le (by simp)])
end Go.Proofs.Ytngeldeahafcfaa

namespace Go.Proofs.Ytngeldeahafcfaa
open Go Go.RowKit
set_option maxHeartbeats 2000000
set_option maxRecDepth 100000
set_option linter.unusedSimpArgs false
set_option linter.unusedVariables false
def f_backwashlaw33_awake  : Option Bool :=
  bindO (f_window_Tumble ([(⟨0, 9, (⟨0, 0⟩ : GRec)⟩ : GFeed), (⟨0, 10, (⟨0, 0⟩ : GRec)⟩ : GFeed)] : List GFeed) 10) (fun (v_0 : (List GFeed) × Int) =>
  bindO (f_window_Slide ([(⟨0, 4, (⟨0, 0⟩ : GRec)⟩ : GFeed)] : List GFeed) 3 2) (fun (v_1 : (List GFeed) × Int) =>
  (if ((v_0.2 == 0) && ((List.length v_0.1 : Int) == 2)) = true then bindO (idx v_0.1 0) (fun (xv_0 : GFeed) =>
  (if (xv_0.Epoch == 0) = true then bindO (idx v_0.1 1) (fun (xv_1 : GFeed) =>
  (if (((xv_1.Epoch == 1) && (v_1.2 == 0)) && ((List.length v_1.1 : Int) == 2)) = true then bindO (idx v_1.1 0) (fun (xv_2 : GFeed) =>
  (if (xv_2.Epoch == 1) = true then bindO (idx v_1.1 1) (fun (xv_3 : GFeed) =>
  some (xv_3.Epoch == 2))
  else some false))
  else some false))
  else some false))
  else some false)))
theorem f_backwashlaw33_awake_ok   (r : Bool) (h : f_backwashlaw33_awake  = some r) : PureS Try.prog 24 [] 0 (.v (.bool r)) := by
  unfold PureS
  refine Spec.of_vc Try.func24 rfl (by kernel_rfl) (by kernel_rfl) ?_
  rw [f_backwashlaw33_awake] at h
  refine vc_seq_gen (by kernel_rfl) ?_
  intro QQ1 hQ1
  try simp only [go_sem, Int.reduceToNat, Int.reduceLT, Int.reduceLE, Int.reduceBEq, Int.reduceEq, Int.reduceNeg, Int.reduceNegSucc, Int.reduceSub, Int.reduceAdd, Int.reduceMul, Int.natCast_zero, Int.natCast_one, UInt8.reduceToNat, Nat.reduceEqDiff, Nat.reduceAdd, Nat.reduceMul, Nat.reduceSub, Nat.reduceLeDiff, Nat.reduceBEq, ↓reduceIte, reduceCtorEq, Try.ntmps24, Try.results24]
  repeat ((with_reducible refine And.intro ?_ ?_); · (first | omega | assumption | (simp +contextual only [and_self, implies_true, true_and, and_true, imp_self]; done) | (intros; (repeat' apply And.intro) <;> first | assumption | omega) | (simp +contextual; done) | (intros; simp_all; done)))
  refine seqQ_normal hQ1 ?_
  refine vc_seq_gen (by kernel_rfl) ?_
  intro QQ2 hQ2
  have rf_0 : [[.v (.int .i64 0), .v (.int .i64 9), .v (.int .i64 0), .v (.int .i64 0)], [.v (.int .i64 0), .v (.int .i64 10), .v (.int .i64 0), .v (.int .i64 0)]] = enc ([(⟨0, 9, (⟨0, 0⟩ : GRec)⟩ : GFeed), (⟨0, 10, (⟨0, 0⟩ : GRec)⟩ : GFeed)] : List GFeed) := by first | rfl | simp [enc, row_int, row_bool, row_u8, row_list, sz_int, sz_bool, sz_u8, sz_list]
  obtain ⟨v_0, ev_0, h⟩ := bindO_some h
  simp only [go_sem, Int.reduceToNat, Int.reduceLT, Int.reduceLE, Int.reduceBEq, Int.reduceEq, Int.reduceNeg, Int.reduceNegSucc, Int.reduceSub, Int.reduceAdd, Int.reduceMul, Int.natCast_zero, Int.natCast_one, UInt8.reduceToNat, Nat.reduceEqDiff, Nat.reduceAdd, Nat.reduceMul, Nat.reduceSub, Nat.reduceLeDiff, Nat.reduceBEq, ↓reduceIte, reduceCtorEq, Try.ntmps24, Try.results24]
  repeat ((with_reducible refine And.intro ?_ ?_); · (first | omega | assumption | (simp +contextual only [and_self, implies_true, true_and, and_true, imp_self]; done) | (intros; (repeat' apply And.intro) <;> first | assumption | omega) | (simp +contextual; done) | (intros; simp_all; done)))
  try simp only [rf_0]
  refine callF_weak (s' := (⟨0, [(0, .v (.bool false)), (6, .agg [.v (.int .i64 0), .v (.int .i64 9), .v (.int .i64 0), .v (.int .i64 0)]), (7, .agg [.v (.int .i64 0), .v (.int .i64 10), .v (.int .i64 0), .v (.int .i64 0)]), (8, .sl 4 (enc ([(⟨0, 9, (⟨0, 0⟩ : GRec)⟩ : GFeed), (⟨0, 10, (⟨0, 0⟩ : GRec)⟩ : GFeed)] : List GFeed)))], [], 0, 62⟩ : St)) (l := []) (args' := [.sl 4 (enc ([(⟨0, 9, (⟨0, 0⟩ : GRec)⟩ : GFeed), (⟨0, 10, (⟨0, 0⟩ : GRec)⟩ : GFeed)] : List GFeed)), .v (.int .i64 10)]) ?_ ?_ (call0 (f_window_Tumble_ok ([(⟨0, 9, (⟨0, 0⟩ : GRec)⟩ : GFeed), (⟨0, 10, (⟨0, 0⟩ : GRec)⟩ : GFeed)] : List GFeed) 10 v_0 ev_0) (by rfl) (by rfl) ?_)
  · simp only [go_sem, Le, Int.reduceToNat, Int.reduceLT, Int.reduceLE, Int.reduceBEq, Int.reduceEq, Int.reduceNeg, Int.reduceNegSucc, Int.reduceSub, Int.reduceAdd, Int.reduceMul, Int.natCast_zero, Int.natCast_one, UInt8.reduceToNat, Nat.reduceEqDiff, Nat.reduceAdd, Nat.reduceMul, Nat.reduceSub, Nat.reduceLeDiff, Nat.reduceBEq, ↓reduceIte, reduceCtorEq] <;> (repeat' apply And.intro) <;> first | rfl | assumption | omega | (simp only [go_sem, Int.reduceToNat, Int.reduceLT, Int.reduceLE, Int.reduceBEq, Int.reduceEq, Int.reduceNeg, Int.reduceNegSucc, Int.reduceSub, Int.reduceAdd, Int.reduceMul, Int.natCast_zero, Int.natCast_one, UInt8.reduceToNat, Nat.reduceEqDiff, Nat.reduceAdd, Nat.reduceMul, Nat.reduceSub, Nat.reduceLeDiff, Nat.reduceBEq, ↓reduceIte, reduceCtorEq]; done) | (simp [go_sem]; done) | (simp [enc_len, enc]; done) | (simp [enc_len, enc]; omega) | (simp [enc, row_int, row_bool, row_u8, row_list, sz_int, sz_bool, sz_u8, sz_list]; done) | (simp [enc]; rw [List.take_of_length_le (by simp)])
  · simp only [go_sem, Le, Int.reduceToNat, Int.reduceLT, Int.reduceLE, Int.reduceBEq, Int.reduceEq, Int.reduceNeg, Int.reduceNegSucc, Int.reduceSub, Int.reduceAdd, Int.reduceMul, Int.natCast_zero, Int.natCast_one, UInt8.reduceToNat, Nat.reduceEqDiff, Nat.reduceAdd, Nat.reduceMul, Nat.reduceSub, Nat.reduceLeDiff, Nat.reduceBEq, ↓reduceIte, reduceCtorEq] <;> (repeat' apply And.intro) <;> first | rfl | assumption | omega | (simp only [go_sem, Int.reduceToNat, Int.reduceLT, Int.reduceLE, Int.reduceBEq, Int.reduceEq, Int.reduceNeg, Int.reduceNegSucc, Int.reduceSub, Int.reduceAdd, Int.reduceMul, Int.natCast_zero, Int.natCast_one, UInt8.reduceToNat, Nat.reduceEqDiff, Nat.reduceAdd, Nat.reduceMul, Nat.reduceSub, Nat.reduceLeDiff, Nat.reduceBEq, ↓reduceIte, reduceCtorEq]; done) | (simp [go_sem]; done) | (simp [enc_len, enc]; done) | (simp [enc_len, enc]; omega) | (simp [enc, row_int, row_bool, row_u8, row_list, sz_int, sz_bool, sz_u8, sz_list]; done) | (simp [enc]; rw [List.take_of_length_le (by simp)])
  try simp only [go_sem, Int.reduceToNat, Int.reduceLT, Int.reduceLE, Int.reduceBEq, Int.reduceEq, Int.reduceNeg, Int.reduceNegSucc, Int.reduceSub, Int.reduceAdd, Int.reduceMul, Int.natCast_zero, Int.natCast_one, UInt8.reduceToNat, Nat.reduceEqDiff, Nat.reduceAdd, Nat.reduceMul, Nat.reduceSub, Nat.reduceLeDiff, Nat.reduceBEq, ↓reduceIte, reduceCtorEq, Try.ntmps24, Try.results24]
  repeat ((with_reducible refine And.intro ?_ ?_); · (first | omega | assumption | (simp +contextual only [and_self, implies_true, true_and, and_true, imp_self]; done) | (intros; (repeat' apply And.intro) <;> first | assumption | omega) | (simp +contextual; done) | (intros; simp_all; done)))
  refine seqQ_normal hQ2 ?_
  refine vc_seq_gen (by kernel_rfl) ?_
  intro QQ3 hQ3
  have rf_1 : [[.v (.int .i64 0), .v (.int .i64 4), .v (.int .i64 0), .v (.int .i64 0)]] = enc ([(⟨0, 4, (⟨0, 0⟩ : GRec)⟩ : GFeed)] : List GFeed) := by first | rfl | simp [enc, row_int, row_bool, row_u8, row_list, sz_int, sz_bool, sz_u8, sz_list]
  obtain ⟨v_1, ev_1, h⟩ := bindO_some h
  simp only [go_sem, Int.reduceToNat, Int.reduceLT, Int.reduceLE, Int.reduceBEq, Int.reduceEq, Int.reduceNeg, Int.reduceNegSucc, Int.reduceSub, Int.reduceAdd, Int.reduceMul, Int.natCast_zero, Int.natCast_one, UInt8.reduceToNat, Nat.reduceEqDiff, Nat.reduceAdd, Nat.reduceMul, Nat.reduceSub, Nat.reduceLeDiff, Nat.reduceBEq, ↓reduceIte, reduceCtorEq, Try.ntmps24, Try.results24]
  repeat ((with_reducible refine And.intro ?_ ?_); · (first | omega | assumption | (simp +contextual only [and_self, implies_true, true_and, and_true, imp_self]; done) | (intros; (repeat' apply And.intro) <;> first | assumption | omega) | (simp +contextual; done) | (intros; simp_all; done)))
  try simp only [rf_1]
  refine callF_weak (s' := (⟨0, [(0, .v (.bool false)), (1, .sl 4 (enc v_0.1)), (2, .v (.int .i64 v_0.2)), (5, .tup [.sl 4 (enc v_0.1), .v (.int .i64 v_0.2)]), (6, .agg [.v (.int .i64 0), .v (.int .i64 9), .v (.int .i64 0), .v (.int .i64 0)]), (7, .agg [.v (.int .i64 0), .v (.int .i64 10), .v (.int .i64 0), .v (.int .i64 0)]), (8, .sl 4 (enc ([(⟨0, 9, (⟨0, 0⟩ : GRec)⟩ : GFeed), (⟨0, 10, (⟨0, 0⟩ : GRec)⟩ : GFeed)] : List GFeed))), (9, .tup [.sl 4 (enc v_0.1), .v (.int .i64 v_0.2)]), (10, .sl 4 (enc v_0.1)), (11, .v (.int .i64 v_0.2)), (13, .agg [.v (.int .i64 0), .v (.int .i64 4), .v (.int .i64 0), .v (.int .i64 0)]), (14, .sl 4 (enc ([(⟨0, 4, (⟨0, 0⟩ : GRec)⟩ : GFeed)] : List GFeed)))], [], 0, 62⟩ : St)) (l := []) (args' := [.sl 4 (enc ([(⟨0, 4, (⟨0, 0⟩ : GRec)⟩ : GFeed)] : List GFeed)), .v (.int .i64 3), .v (.int .i64 2)]) ?_ ?_ (call0 (f_window_Slide_ok ([(⟨0, 4, (⟨0, 0⟩ : GRec)⟩ : GFeed)] : List GFeed) 3 2 v_1 ev_1) (by rfl) (by rfl) ?_)
  · simp only [go_sem, Le, Int.reduceToNat, Int.reduceLT, Int.reduceLE, Int.reduceBEq, Int.reduceEq, Int.reduceNeg, Int.reduceNegSucc, Int.reduceSub, Int.reduceAdd, Int.reduceMul, Int.natCast_zero, Int.natCast_one, UInt8.reduceToNat, Nat.reduceEqDiff, Nat.reduceAdd, Nat.reduceMul, Nat.reduceSub, Nat.reduceLeDiff, Nat.reduceBEq, ↓reduceIte, reduceCtorEq] <;> (repeat' apply And.intro) <;> first | rfl | assumption | omega | (simp only [go_sem, Int.reduceToNat, Int.reduceLT, Int.reduceLE, Int.reduceBEq, Int.reduceEq, Int.reduceNeg, Int.reduceNegSucc, Int.reduceSub, Int.reduceAdd, Int.reduceMul, Int.natCast_zero, Int.natCast_one, UInt8.reduceToNat, Nat.reduceEqDiff, Nat.reduceAdd, Nat.reduceMul, Nat.reduceSub, Nat.reduceLeDiff, Nat.reduceBEq, ↓reduceIte, reduceCtorEq]; done) | (simp [go_sem]; done) | (simp [enc_len, enc]; done) | (simp [enc_len, enc]; omega) | (simp [enc, row_int, row_bool, row_u8, row_list, sz_int, sz_bool, sz_u8, sz_list]; done) | (simp [enc]; rw [List.take_of_length_le (by simp)])
  · simp only [go_sem, Le, Int.reduceToNat, Int.reduceLT, Int.reduceLE, Int.reduceBEq, Int.reduceEq, Int.reduceNeg, Int.reduceNegSucc, Int.reduceSub, Int.reduceAdd, Int.reduceMul, Int.natCast_zero, Int.natCast_one, UInt8.reduceToNat, Nat.reduceEqDiff, Nat.reduceAdd, Nat.reduceMul, Nat.reduceSub, Nat.reduceLeDiff, Nat.reduceBEq, ↓reduceIte, reduceCtorEq] <;> (repeat' apply And.intro) <;> first | rfl | assumption | omega | (simp only [go_sem, Int.reduceToNat, Int.reduceLT, Int.reduceLE, Int.reduceBEq, Int.reduceEq, Int.reduceNeg, Int.reduceNegSucc, Int.reduceSub, Int.reduceAdd, Int.reduceMul, Int.natCast_zero, Int.natCast_one, UInt8.reduceToNat, Nat.reduceEqDiff, Nat.reduceAdd, Nat.reduceMul, Nat.reduceSub, Nat.reduceLeDiff, Nat.reduceBEq, ↓reduceIte, reduceCtorEq]; done) | (simp [go_sem]; done) | (simp [enc_len, enc]; done) | (simp [enc_len, enc]; omega) | (simp [enc, row_int, row_bool, row_u8, row_list, sz_int, sz_bool, sz_u8, sz_list]; done) | (simp [enc]; rw [List.take_of_length_le (by simp)])
  try simp only [go_sem, Int.reduceToNat, Int.reduceLT, Int.reduceLE, Int.reduceBEq, Int.reduceEq, Int.reduceNeg, Int.reduceNegSucc, Int.reduceSub, Int.reduceAdd, Int.reduceMul, Int.natCast_zero, Int.natCast_one, UInt8.reduceToNat, Nat.reduceEqDiff, Nat.reduceAdd, Nat.reduceMul, Nat.reduceSub, Nat.reduceLeDiff, Nat.reduceBEq, ↓reduceIte, reduceCtorEq, Try.ntmps24, Try.results24]
  repeat ((with_reducible refine And.intro ?_ ?_); · (first | omega | assumption | (simp +contextual only [and_self, implies_true, true_and, and_true, imp_self]; done) | (intros; (repeat' apply And.intro) <;> first | assumption | omega) | (simp +contextual; done) | (intros; simp_all; done)))
  refine seqQ_normal hQ3 ?_
  refine vc_seq_gen (by kernel_rfl) ?_
  intro QQ4 hQ4
  try simp only [go_sem, Int.reduceToNat, Int.reduceLT, Int.reduceLE, Int.reduceBEq, Int.reduceEq, Int.reduceNeg, Int.reduceNegSucc, Int.reduceSub, Int.reduceAdd, Int.reduceMul, Int.natCast_zero, Int.natCast_one, UInt8.reduceToNat, Nat.reduceEqDiff, Nat.reduceAdd, Nat.reduceMul, Nat.reduceSub, Nat.reduceLeDiff, Nat.reduceBEq, ↓reduceIte, reduceCtorEq, Try.ntmps24, Try.results24]
  repeat ((with_reducible refine And.intro ?_ ?_); · (first | omega | assumption | (simp +contextual only [and_self, implies_true, true_and, and_true, imp_self]; done) | (intros; (repeat' apply And.intro) <;> first | assumption | omega) | (simp +contextual; done) | (intros; simp_all; done)))
  rcases hb_0 : ((v_0.2 == 0) && ((List.length v_0.1 : Int) == 2)) with _ | _
  ·
    replace h := if_f h hb_0
    try simp only [go_sem, Int.reduceToNat, Int.reduceLT, Int.reduceLE, Int.reduceBEq, Int.reduceEq, Int.reduceNeg, Int.reduceNegSucc, Int.reduceSub, Int.reduceAdd, Int.reduceMul, Int.natCast_zero, Int.natCast_one, UInt8.reduceToNat, Nat.reduceEqDiff, Nat.reduceAdd, Nat.reduceMul, Nat.reduceSub, Nat.reduceLeDiff, Nat.reduceBEq, ↓reduceIte, reduceCtorEq, Try.ntmps24, Try.results24, hb_0]
    repeat ((with_reducible refine And.intro ?_ ?_); · (first | omega | assumption | (simp +contextual only [and_self, implies_true, true_and, and_true, imp_self]; done) | (intros; (repeat' apply And.intro) <;> first | assumption | omega) | (simp +contextual; done) | (intros; simp_all; done)))
    refine seqQ_normal hQ4 ?_
    refine vc_ret_of ?_
    try simp only [go_sem, Int.reduceToNat, Int.reduceLT, Int.reduceLE, Int.reduceBEq, Int.reduceEq, Int.reduceNeg, Int.reduceNegSucc, Int.reduceSub, Int.reduceAdd, Int.reduceMul, Int.natCast_zero, Int.natCast_one, UInt8.reduceToNat, Nat.reduceEqDiff, Nat.reduceAdd, Nat.reduceMul, Nat.reduceSub, Nat.reduceLeDiff, Nat.reduceBEq, ↓reduceIte, reduceCtorEq, Try.ntmps24, Try.results24]
    repeat ((with_reducible refine And.intro ?_ ?_); · (first | omega | assumption | (simp +contextual only [and_self, implies_true, true_and, and_true, imp_self]; done) | (intros; (repeat' apply And.intro) <;> first | assumption | omega) | (simp +contextual; done) | (intros; simp_all; done)))
    obtain rfl := Option.some.inj h
    refine retW_pure rfl ?_
    simp only [go_sem, Le, Int.reduceToNat, Int.reduceLT, Int.reduceLE, Int.reduceBEq, Int.reduceEq, Int.reduceNeg, Int.reduceNegSucc, Int.reduceSub, Int.reduceAdd, Int.reduceMul, Int.natCast_zero, Int.natCast_one, UInt8.reduceToNat, Nat.reduceEqDiff, Nat.reduceAdd, Nat.reduceMul, Nat.reduceSub, Nat.reduceLeDiff, Nat.reduceBEq, ↓reduceIte, reduceCtorEq] <;> (repeat' apply And.intro) <;> first | rfl | assumption | omega | (simp only [go_sem, Int.reduceToNat, Int.reduceLT, Int.reduceLE, Int.reduceBEq, Int.reduceEq, Int.reduceNeg, Int.reduceNegSucc, Int.reduceSub, Int.reduceAdd, Int.reduceMul, Int.natCast_zero, Int.natCast_one, UInt8.reduceToNat, Nat.reduceEqDiff, Nat.reduceAdd, Nat.reduceMul, Nat.reduceSub, Nat.reduceLeDiff, Nat.reduceBEq, ↓reduceIte, reduceCtorEq]; done) | (simp [go_sem]; done) | (simp [enc_len, enc]; done) | (simp [enc_len, enc]; omega) | (simp [enc, row_int, row_bool, row_u8, row_list, sz_int, sz_bool, sz_u8, sz_list]; done) | (simp [enc]; rw [List.take_of_length_le (by simp)])
  ·
    replace h := if_t h hb_0
    obtain ⟨xv_0, exv_0, h⟩ := bindO_some h
    obtain ⟨fxv_0a, fxv_0b, fxv_0c⟩ := idx_spec exv_0
    try simp only [Int.toNat_natCast, Int.reduceToNat] at fxv_0c
    try simp only [go_sem, Int.reduceToNat, Int.reduceLT, Int.reduceLE, Int.reduceBEq, Int.reduceEq, Int.reduceNeg, Int.reduceNegSucc, Int.reduceSub, Int.reduceAdd, Int.reduceMul, Int.natCast_zero, Int.natCast_one, UInt8.reduceToNat, Nat.reduceEqDiff, Nat.reduceAdd, Nat.reduceMul, Nat.reduceSub, Nat.reduceLeDiff, Nat.reduceBEq, ↓reduceIte, reduceCtorEq, Try.ntmps24, Try.results24, hb_0, fxv_0a, fxv_0b, fxv_0c]
    repeat ((with_reducible refine And.intro ?_ ?_); · (first | omega | assumption | (simp +contextual only [and_self, implies_true, true_and, and_true, imp_self]; done) | (intros; (repeat' apply And.intro) <;> first | assumption | omega) | (simp +contextual; done) | (intros; simp_all; done)))
    rcases hb_1 : (xv_0.Epoch == 0) with _ | _
    ·
      replace h := if_f h hb_1
      try simp only [go_sem, Int.reduceToNat, Int.reduceLT, Int.reduceLE, Int.reduceBEq, Int.reduceEq, Int.reduceNeg, Int.reduceNegSucc, Int.reduceSub, Int.reduceAdd, Int.reduceMul, Int.natCast_zero, Int.natCast_one, UInt8.reduceToNat, Nat.reduceEqDiff, Nat.reduceAdd, Nat.reduceMul, Nat.reduceSub, Nat.reduceLeDiff, Nat.reduceBEq, ↓reduceIte, reduceCtorEq, Try.ntmps24, Try.results24, hb_1]
      repeat ((with_reducible refine And.intro ?_ ?_); · (first | omega | assumption | (simp +contextual only [and_self, implies_true, true_and, and_true, imp_self]; done) | (intros; (repeat' apply And.intro) <;> first | assumption | omega) | (simp +contextual; done) | (intros; simp_all; done)))
      refine seqQ_normal hQ4 ?_
      refine vc_ret_of ?_
      try simp only [go_sem, Int.reduceToNat, Int.reduceLT, Int.reduceLE, Int.reduceBEq, Int.reduceEq, Int.reduceNeg, Int.reduceNegSucc, Int.reduceSub, Int.reduceAdd, Int.reduceMul, Int.natCast_zero, Int.natCast_one, UInt8.reduceToNat, Nat.reduceEqDiff, Nat.reduceAdd, Nat.reduceMul, Nat.reduceSub, Nat.reduceLeDiff, Nat.reduceBEq, ↓reduceIte, reduceCtorEq, Try.ntmps24, Try.results24]
      repeat ((with_reducible refine And.intro ?_ ?_); · (first | omega | assumption | (simp +contextual only [and_self, implies_true, true_and, and_true, imp_self]; done) | (intros; (repeat' apply And.intro) <;> first | assumption | omega) | (simp +contextual; done) | (intros; simp_all; done)))
      obtain rfl := Option.some.inj h
      refine retW_pure rfl ?_
      simp only [go_sem, Le, Int.reduceToNat, Int.reduceLT, Int.reduceLE, Int.reduceBEq, Int.reduceEq, Int.reduceNeg, Int.reduceNegSucc, Int.reduceSub, Int.reduceAdd, Int.reduceMul, Int.natCast_zero, Int.natCast_one, UInt8.reduceToNat, Nat.reduceEqDiff, Nat.reduceAdd, Nat.reduceMul, Nat.reduceSub, Nat.reduceLeDiff, Nat.reduceBEq, ↓reduceIte, reduceCtorEq] <;> (repeat' apply And.intro) <;> first | rfl | assumption | omega | (simp only [go_sem, Int.reduceToNat, Int.reduceLT, Int.reduceLE, Int.reduceBEq, Int.reduceEq, Int.reduceNeg, Int.reduceNegSucc, Int.reduceSub, Int.reduceAdd, Int.reduceMul, Int.natCast_zero, Int.natCast_one, UInt8.reduceToNat, Nat.reduceEqDiff, Nat.reduceAdd, Nat.reduceMul, Nat.reduceSub, Nat.reduceLeDiff, Nat.reduceBEq, ↓reduceIte, reduceCtorEq]; done) | (simp [go_sem]; done) | (simp [enc_len, enc]; done) | (simp [enc_len, enc]; omega) | (simp [enc, row_int, row_bool, row_u8, row_list, sz_int, sz_bool, sz_u8, sz_list]; done) | (simp [enc]; rw [List.take_of_length_le (by simp)])
    ·
      replace h := if_t h hb_1
      obtain ⟨xv_1, exv_1, h⟩ := bindO_some h
      obtain ⟨fxv_1a, fxv_1b, fxv_1c⟩ := idx_spec exv_1
      try simp only [Int.toNat_natCast, Int.reduceToNat] at fxv_1c
      try simp only [go_sem, Int.reduceToNat, Int.reduceLT, Int.reduceLE, Int.reduceBEq, Int.reduceEq, Int.reduceNeg, Int.reduceNegSucc, Int.reduceSub, Int.reduceAdd, Int.reduceMul, Int.natCast_zero, Int.natCast_one, UInt8.reduceToNat, Nat.reduceEqDiff, Nat.reduceAdd, Nat.reduceMul, Nat.reduceSub, Nat.reduceLeDiff, Nat.reduceBEq, ↓reduceIte, reduceCtorEq, Try.ntmps24, Try.results24, hb_1, fxv_1a, fxv_1b, fxv_1c]
      repeat ((with_reducible refine And.intro ?_ ?_); · (first | omega | assumption | (simp +contextual only [and_self, implies_true, true_and, and_true, imp_self]; done) | (intros; (repeat' apply And.intro) <;> first | assumption | omega) | (simp +contextual; done) | (intros; simp_all; done)))
      rcases hb_2 : (((xv_1.Epoch == 1) && (v_1.2 == 0)) && ((List.length v_1.1 : Int) == 2)) with _ | _
      ·
        replace h := if_f h hb_2
        try simp only [go_sem, Int.reduceToNat, Int.reduceLT, Int.reduceLE, Int.reduceBEq, Int.reduceEq, Int.reduceNeg, Int.reduceNegSucc, Int.reduceSub, Int.reduceAdd, Int.reduceMul, Int.natCast_zero, Int.natCast_one, UInt8.reduceToNat, Nat.reduceEqDiff, Nat.reduceAdd, Nat.reduceMul, Nat.reduceSub, Nat.reduceLeDiff, Nat.reduceBEq, ↓reduceIte, reduceCtorEq, Try.ntmps24, Try.results24, hb_2]
        repeat ((with_reducible refine And.intro ?_ ?_); · (first | omega | assumption | (simp +contextual only [and_self, implies_true, true_and, and_true, imp_self]; done) | (intros; (repeat' apply And.intro) <;> first | assumption | omega) | (simp +contextual; done) | (intros; simp_all; done)))
        refine seqQ_normal hQ4 ?_
        refine vc_ret_of ?_
        try simp only [go_sem, Int.reduceToNat, Int.reduceLT, Int.reduceLE, Int.reduceBEq, Int.reduceEq, Int.reduceNeg, Int.reduceNegSucc, Int.reduceSub, Int.reduceAdd, Int.reduceMul, Int.natCast_zero, Int.natCast_one, UInt8.reduceToNat, Nat.reduceEqDiff, Nat.reduceAdd, Nat.reduceMul, Nat.reduceSub, Nat.reduceLeDiff, Nat.reduceBEq, ↓reduceIte, reduceCtorEq, Try.ntmps24, Try.results24]
        repeat ((with_reducible refine And.intro ?_ ?_); · (first | omega | assumption | (simp +contextual only [and_self, implies_true, true_and, and_true, imp_self]; done) | (intros; (repeat' apply And.intro) <;> first | assumption | omega) | (simp +contextual; done) | (intros; simp_all; done)))
        obtain rfl := Option.some.inj h
        refine retW_pure rfl ?_
        simp only [go_sem, Le, Int.reduceToNat, Int.reduceLT, Int.reduceLE, Int.reduceBEq, Int.reduceEq, Int.reduceNeg, Int.reduceNegSucc, Int.reduceSub, Int.reduceAdd, Int.reduceMul, Int.natCast_zero, Int.natCast_one, UInt8.reduceToNat, Nat.reduceEqDiff, Nat.reduceAdd, Nat.reduceMul, Nat.reduceSub, Nat.reduceLeDiff, Nat.reduceBEq, ↓reduceIte, reduceCtorEq] <;> (repeat' apply And.intro) <;> first | rfl | assumption | omega | (simp only [go_sem, Int.reduceToNat, Int.reduceLT, Int.reduceLE, Int.reduceBEq, Int.reduceEq, Int.reduceNeg, Int.reduceNegSucc, Int.reduceSub, Int.reduceAdd, Int.reduceMul, Int.natCast_zero, Int.natCast_one, UInt8.reduceToNat, Nat.reduceEqDiff, Nat.reduceAdd, Nat.reduceMul, Nat.reduceSub, Nat.reduceLeDiff, Nat.reduceBEq, ↓reduceIte, reduceCtorEq]; done) | (simp [go_sem]; done) | (simp [enc_len, enc]; done) | (simp [enc_len, enc]; omega) | (simp [enc, row_int, row_bool, row_u8, row_list, sz_int, sz_bool, sz_u8, sz_list]; done) | (simp [enc]; rw [List.take_of_length_le (by simp)])
      ·
        replace h := if_t h hb_2
        obtain ⟨xv_2, exv_2, h⟩ := bindO_some h
        obtain ⟨fxv_2a, fxv_2b, fxv_2c⟩ := idx_spec exv_2
        try simp only [Int.toNat_natCast, Int.reduceToNat] at fxv_2c
        try simp only [go_sem, Int.reduceToNat, Int.reduceLT, Int.reduceLE, Int.reduceBEq, Int.reduceEq, Int.reduceNeg, Int.reduceNegSucc, Int.reduceSub, Int.reduceAdd, Int.reduceMul, Int.natCast_zero, Int.natCast_one, UInt8.reduceToNat, Nat.reduceEqDiff, Nat.reduceAdd, Nat.reduceMul, Nat.reduceSub, Nat.reduceLeDiff, Nat.reduceBEq, ↓reduceIte, reduceCtorEq, Try.ntmps24, Try.results24, hb_2, fxv_2a, fxv_2b, fxv_2c]
        repeat ((with_reducible refine And.intro ?_ ?_); · (first | omega | assumption | (simp +contextual only [and_self, implies_true, true_and, and_true, imp_self]; done) | (intros; (repeat' apply And.intro) <;> first | assumption | omega) | (simp +contextual; done) | (intros; simp_all; done)))
        rcases hb_3 : (xv_2.Epoch == 1) with _ | _
        ·
          replace h := if_f h hb_3
          try simp only [go_sem, Int.reduceToNat, Int.reduceLT, Int.reduceLE, Int.reduceBEq, Int.reduceEq, Int.reduceNeg, Int.reduceNegSucc, Int.reduceSub, Int.reduceAdd, Int.reduceMul, Int.natCast_zero, Int.natCast_one, UInt8.reduceToNat, Nat.reduceEqDiff, Nat.reduceAdd, Nat.reduceMul, Nat.reduceSub, Nat.reduceLeDiff, Nat.reduceBEq, ↓reduceIte, reduceCtorEq, Try.ntmps24, Try.results24, hb_3]
          repeat ((with_reducible refine And.intro ?_ ?_); · (first | omega | assumption | (simp +contextual only [and_self, implies_true, true_and, and_true, imp_self]; done) | (intros; (repeat' apply And.intro) <;> first | assumption | omega) | (simp +contextual; done) | (intros; simp_all; done)))
          refine seqQ_normal hQ4 ?_
          refine vc_ret_of ?_
          try simp only [go_sem, Int.reduceToNat, Int.reduceLT, Int.reduceLE, Int.reduceBEq, Int.reduceEq, Int.reduceNeg, Int.reduceNegSucc, Int.reduceSub, Int.reduceAdd, Int.reduceMul, Int.natCast_zero, Int.natCast_one, UInt8.reduceToNat, Nat.reduceEqDiff, Nat.reduceAdd, Nat.reduceMul, Nat.reduceSub, Nat.reduceLeDiff, Nat.reduceBEq, ↓reduceIte, reduceCtorEq, Try.ntmps24, Try.results24]
          repeat ((with_reducible refine And.intro ?_ ?_); · (first | omega | assumption | (simp +contextual only [and_self, implies_true, true_and, and_true, imp_self]; done) | (intros; (repeat' apply And.intro) <;> first | assumption | omega) | (simp +contextual; done) | (intros; simp_all; done)))
          obtain rfl := Option.some.inj h
          refine retW_pure rfl ?_
          simp only [go_sem, Le, Int.reduceToNat, Int.reduceLT, Int.reduceLE, Int.reduceBEq, Int.reduceEq, Int.reduceNeg, Int.reduceNegSucc, Int.reduceSub, Int.reduceAdd, Int.reduceMul, Int.natCast_zero, Int.natCast_one, UInt8.reduceToNat, Nat.reduceEqDiff, Nat.reduceAdd, Nat.reduceMul, Nat.reduceSub, Nat.reduceLeDiff, Nat.reduceBEq, ↓reduceIte, reduceCtorEq] <;> (repeat' apply And.intro) <;> first | rfl | assumption | omega | (simp only [go_sem, Int.reduceToNat, Int.reduceLT, Int.reduceLE, Int.reduceBEq, Int.reduceEq, Int.reduceNeg, Int.reduceNegSucc, Int.reduceSub, Int.reduceAdd, Int.reduceMul, Int.natCast_zero, Int.natCast_one, UInt8.reduceToNat, Nat.reduceEqDiff, Nat.reduceAdd, Nat.reduceMul, Nat.reduceSub, Nat.reduceLeDiff, Nat.reduceBEq, ↓reduceIte, reduceCtorEq]; done) | (simp [go_sem]; done) | (simp [enc_len, enc]; done) | (simp [enc_len, enc]; omega) | (simp [enc, row_int, row_bool, row_u8, row_list, sz_int, sz_bool, sz_u8, sz_list]; done) | (simp [enc]; rw [List.take_of_length_le (by simp)])
        ·
          replace h := if_t h hb_3
          obtain ⟨xv_3, exv_3, h⟩ := bindO_some h
          obtain ⟨fxv_3a, fxv_3b, fxv_3c⟩ := idx_spec exv_3
          try simp only [Int.toNat_natCast, Int.reduceToNat] at fxv_3c
          try simp only [go_sem, Int.reduceToNat, Int.reduceLT, Int.reduceLE, Int.reduceBEq, Int.reduceEq, Int.reduceNeg, Int.reduceNegSucc, Int.reduceSub, Int.reduceAdd, Int.reduceMul, Int.natCast_zero, Int.natCast_one, UInt8.reduceToNat, Nat.reduceEqDiff, Nat.reduceAdd, Nat.reduceMul, Nat.reduceSub, Nat.reduceLeDiff, Nat.reduceBEq, ↓reduceIte, reduceCtorEq, Try.ntmps24, Try.results24, hb_3, fxv_3a, fxv_3b, fxv_3c]
          repeat ((with_reducible refine And.intro ?_ ?_); · (first | omega | assumption | (simp +contextual only [and_self, implies_true, true_and, and_true, imp_self]; done) | (intros; (repeat' apply And.intro) <;> first | assumption | omega) | (simp +contextual; done) | (intros; simp_all; done)))
          refine seqQ_normal hQ4 ?_
          refine vc_ret_of ?_
          try simp only [go_sem, Int.reduceToNat, Int.reduceLT, Int.reduceLE, Int.reduceBEq, Int.reduceEq, Int.reduceNeg, Int.reduceNegSucc, Int.reduceSub, Int.reduceAdd, Int.reduceMul, Int.natCast_zero, Int.natCast_one, UInt8.reduceToNat, Nat.reduceEqDiff, Nat.reduceAdd, Nat.reduceMul, Nat.reduceSub, Nat.reduceLeDiff, Nat.reduceBEq, ↓reduceIte, reduceCtorEq, Try.ntmps24, Try.results24]
          repeat ((with_reducible refine And.intro ?_ ?_); · (first | omega | assumption | (simp +contextual only [and_self, implies_true, true_and, and_true, imp_self]; done) | (intros; (repeat' apply And.intro) <;> first | assumption | omega) | (simp +contextual; done) | (intros; simp_all; done)))
          obtain rfl := Option.some.inj h
          refine retW_pure rfl ?_
          simp only [go_sem, Le, Int.reduceToNat, Int.reduceLT, Int.reduceLE, Int.reduceBEq, Int.reduceEq, Int.reduceNeg, Int.reduceNegSucc, Int.reduceSub, Int.reduceAdd, Int.reduceMul, Int.natCast_zero, Int.natCast_one, UInt8.reduceToNat, Nat.reduceEqDiff, Nat.reduceAdd, Nat.reduceMul, Nat.reduceSub, Nat.reduceLeDiff, Nat.reduceBEq, ↓reduceIte, reduceCtorEq] <;> (repeat' apply And.intro) <;> first | rfl | assumption | omega | (simp only [go_sem, Int.reduceToNat, Int.reduceLT, Int.reduceLE, Int.reduceBEq, Int.reduceEq, Int.reduceNeg, Int.reduceNegSucc, Int.reduceSub, Int.reduceAdd, Int.reduceMul, Int.natCast_zero, Int.natCast_one, UInt8.reduceToNat, Nat.reduceEqDiff, Nat.reduceAdd, Nat.reduceMul, Nat.reduceSub, Nat.reduceLeDiff, Nat.reduceBEq, ↓reduceIte, reduceCtorEq]; done) | (simp [go_sem]; done) | (simp [enc_len, enc]; done) | (simp [enc_len, enc]; omega) | (simp [enc, row_int, row_bool, row_u8, row_list, sz_int, sz_bool, sz_u8, sz_list]; done) | (simp [enc]; rw [List.take_of_length_le (by simp)])
end Go.Proofs.Ytngeldeahafcfaa

