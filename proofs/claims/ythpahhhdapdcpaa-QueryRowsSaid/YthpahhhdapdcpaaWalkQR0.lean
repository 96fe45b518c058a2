/-
  What functions of the program compute, each told as a plain function that may give nothing, with the proof that the code does so. No condition beyond those that each theorem names.
-/
import Derived.Test.YthpahhhdapdcpaaLibD
import Derived.Test.YthpahhhdapdcpaaProg
import Derived.Test.YthpahhhdapdcpaaLibE
set_option linter.unusedSimpArgs false
set_option linter.unusedVariables false
namespace Go.Proofs.Ythpahhhdapdcpaa
open Go Go.RowKit
set_option maxHeartbeats 2000000
set_option maxRecDepth 100000
set_option linter.unusedSimpArgs false
set_option linter.unusedVariables false
theorem ty2_sz : szT Try.prog 2 = 1 := by kernel_rfl
theorem ty2_has : hasT Try.prog 2 = true := by kernel_rfl
theorem ty2_agg : aggT Try.prog 2 = false := by kernel_rfl
theorem ty2_by : bytesT Try.prog 2 = 8 := by kernel_rfl
theorem ty2_k : kindT Try.prog 2 = some .i64 := by kernel_rfl
theorem ty2_n : nilsX Try.prog 2 = [none] := by kernel_rfl
theorem ty2_ar : arrayT Try.prog 2 = none := by kernel_rfl
theorem ty2_z : zeroL Try.prog 2 = some [.int .i64 0] := by kernel_rfl
theorem ty3_sz : szT Try.prog 3 = 1 := by kernel_rfl
theorem ty3_has : hasT Try.prog 3 = true := by kernel_rfl
theorem ty3_agg : aggT Try.prog 3 = false := by kernel_rfl
theorem ty3_by : bytesT Try.prog 3 = 8 := by kernel_rfl
theorem ty3_k : kindT Try.prog 3 = some .i64 := by kernel_rfl
theorem ty3_n : nilsX Try.prog 3 = [none] := by kernel_rfl
theorem ty3_ar : arrayT Try.prog 3 = none := by kernel_rfl
theorem ty3_z : zeroL Try.prog 3 = some [.int .i64 0] := by kernel_rfl
theorem ty4_sz : szT Try.prog 4 = 1 := by kernel_rfl
theorem ty4_has : hasT Try.prog 4 = true := by kernel_rfl
theorem ty4_agg : aggT Try.prog 4 = false := by kernel_rfl
theorem ty4_by : bytesT Try.prog 4 = 1 := by kernel_rfl
theorem ty4_u : Try.prog.underlying 4 = some .bool := by kernel_rfl
theorem ty4_n : nilsX Try.prog 4 = [none] := by kernel_rfl
theorem ty4_ar : arrayT Try.prog 4 = none := by kernel_rfl
theorem ty4_z : zeroL Try.prog 4 = some [.bool false] := by kernel_rfl
theorem ty5_sz : szT Try.prog 5 = 1 := by kernel_rfl
theorem ty5_has : hasT Try.prog 5 = true := by kernel_rfl
theorem ty5_agg : aggT Try.prog 5 = false := by kernel_rfl
theorem ty5_by : bytesT Try.prog 5 = 1 := by kernel_rfl
theorem ty5_k : kindT Try.prog 5 = some .u8 := by kernel_rfl
theorem ty5_n : nilsX Try.prog 5 = [none] := by kernel_rfl
theorem ty5_ar : arrayT Try.prog 5 = none := by kernel_rfl
theorem ty5_z : zeroL Try.prog 5 = some [.int .u8 0] := by kernel_rfl
theorem ty22_sz : szT Try.prog 22 = 1 := by kernel_rfl
theorem ty22_has : hasT Try.prog 22 = true := by kernel_rfl
theorem ty22_agg : aggT Try.prog 22 = false := by kernel_rfl
theorem ty22_by : bytesT Try.prog 22 = 24 := by kernel_rfl
theorem ty22_e : sliceT Try.prog 22 = some 104 := by kernel_rfl
theorem ty22_n : nilsX Try.prog 22 = [some 4] := by kernel_rfl
theorem ty22_ar : arrayT Try.prog 22 = none := by kernel_rfl
theorem ty22_z : zeroL Try.prog 22 = some [.slice none 0 0] := by kernel_rfl
theorem ty24_sz : szT Try.prog 24 = 1 := by kernel_rfl
theorem ty24_has : hasT Try.prog 24 = true := by kernel_rfl
theorem ty24_agg : aggT Try.prog 24 = false := by kernel_rfl
theorem ty24_by : bytesT Try.prog 24 = 24 := by kernel_rfl
theorem ty24_e : sliceT Try.prog 24 = some 3 := by kernel_rfl
theorem ty24_n : nilsX Try.prog 24 = [some 1] := by kernel_rfl
theorem ty24_ar : arrayT Try.prog 24 = none := by kernel_rfl
theorem ty24_z : zeroL Try.prog 24 = some [.slice none 0 0] := by kernel_rfl
theorem ty27_sz : szT Try.prog 27 = 1 := by kernel_rfl
theorem ty27_has : hasT Try.prog 27 = true := by kernel_rfl
theorem ty27_agg : aggT Try.prog 27 = false := by kernel_rfl
theorem ty27_by : bytesT Try.prog 27 = 24 := by kernel_rfl
theorem ty27_e : sliceT Try.prog 27 = some 107 := by kernel_rfl
theorem ty27_n : nilsX Try.prog 27 = [some 6] := by kernel_rfl
theorem ty27_ar : arrayT Try.prog 27 = none := by kernel_rfl
theorem ty27_z : zeroL Try.prog 27 = some [.slice none 0 0] := by kernel_rfl
theorem ty30_sz : szT Try.prog 30 = 1 := by kernel_rfl
theorem ty30_has : hasT Try.prog 30 = true := by kernel_rfl
theorem ty30_agg : aggT Try.prog 30 = false := by kernel_rfl
theorem ty30_by : bytesT Try.prog 30 = 24 := by kernel_rfl
theorem ty30_e : sliceT Try.prog 30 = some 198 := by kernel_rfl
theorem ty30_n : nilsX Try.prog 30 = [some 2] := by kernel_rfl
theorem ty30_ar : arrayT Try.prog 30 = none := by kernel_rfl
theorem ty30_z : zeroL Try.prog 30 = some [.slice none 0 0] := by kernel_rfl
theorem ty32_sz : szT Try.prog 32 = 4 := by kernel_rfl
theorem ty32_has : hasT Try.prog 32 = true := by kernel_rfl
theorem ty32_agg : aggT Try.prog 32 = true := by kernel_rfl
theorem ty32_by : bytesT Try.prog 32 = 48 := by kernel_rfl
theorem ty32_n : nilsX Try.prog 32 = [none, none, none, some 2] := by kernel_rfl
theorem ty32_ar : arrayT Try.prog 32 = none := by kernel_rfl
theorem ty32_f0 : fieldT Try.prog 32 0 = some (0, 3) := by kernel_rfl
theorem ty32_f1 : fieldT Try.prog 32 1 = some (1, 3) := by kernel_rfl
theorem ty32_f2 : fieldT Try.prog 32 2 = some (2, 2) := by kernel_rfl
theorem ty32_f3 : fieldT Try.prog 32 3 = some (3, 30) := by kernel_rfl
theorem ty32_pl : placesL Try.prog 32 = some [(0, 1), (1, 1), (2, 1), (3, 1)] := by kernel_rfl
theorem ty32_z : zeroL Try.prog 32 = some [.int .i64 0, .int .i64 0, .int .i64 0, .slice none 0 0] := by kernel_rfl
theorem ty33_sz : szT Try.prog 33 = 1 := by kernel_rfl
theorem ty33_has : hasT Try.prog 33 = true := by kernel_rfl
theorem ty33_agg : aggT Try.prog 33 = false := by kernel_rfl
theorem ty33_by : bytesT Try.prog 33 = 24 := by kernel_rfl
theorem ty33_e : sliceT Try.prog 33 = some 42 := by kernel_rfl
theorem ty33_n : nilsX Try.prog 33 = [some 3] := by kernel_rfl
theorem ty33_ar : arrayT Try.prog 33 = none := by kernel_rfl
theorem ty33_z : zeroL Try.prog 33 = some [.slice none 0 0] := by kernel_rfl
theorem ty35_sz : szT Try.prog 35 = 1 := by kernel_rfl
theorem ty35_has : hasT Try.prog 35 = true := by kernel_rfl
theorem ty35_agg : aggT Try.prog 35 = false := by kernel_rfl
theorem ty35_by : bytesT Try.prog 35 = 24 := by kernel_rfl
theorem ty35_e : sliceT Try.prog 35 = some 33 := by kernel_rfl
theorem ty35_n : nilsX Try.prog 35 = [some 1] := by kernel_rfl
theorem ty35_ar : arrayT Try.prog 35 = none := by kernel_rfl
theorem ty35_z : zeroL Try.prog 35 = some [.slice none 0 0] := by kernel_rfl
theorem ty40_sz : szT Try.prog 40 = 2 := by kernel_rfl
theorem ty40_has : hasT Try.prog 40 = true := by kernel_rfl
theorem ty40_agg : aggT Try.prog 40 = true := by kernel_rfl
theorem ty40_by : bytesT Try.prog 40 = 16 := by kernel_rfl
theorem ty40_n : nilsX Try.prog 40 = [none, none] := by kernel_rfl
theorem ty40_ar : arrayT Try.prog 40 = none := by kernel_rfl
theorem ty40_f0 : fieldT Try.prog 40 0 = some (0, 2) := by kernel_rfl
theorem ty40_f1 : fieldT Try.prog 40 1 = some (1, 2) := by kernel_rfl
theorem ty40_pl : placesL Try.prog 40 = some [(0, 1), (1, 1)] := by kernel_rfl
theorem ty40_z : zeroL Try.prog 40 = some [.int .i64 0, .int .i64 0] := by kernel_rfl
theorem ty42_sz : szT Try.prog 42 = 3 := by kernel_rfl
theorem ty42_has : hasT Try.prog 42 = true := by kernel_rfl
theorem ty42_agg : aggT Try.prog 42 = true := by kernel_rfl
theorem ty42_by : bytesT Try.prog 42 = 24 := by kernel_rfl
theorem ty42_n : nilsX Try.prog 42 = [none, none, none] := by kernel_rfl
theorem ty42_ar : arrayT Try.prog 42 = none := by kernel_rfl
theorem ty42_f0 : fieldT Try.prog 42 0 = some (0, 40) := by kernel_rfl
theorem ty42_f1 : fieldT Try.prog 42 1 = some (2, 3) := by kernel_rfl
theorem ty42_pl : placesL Try.prog 42 = some [(0, 2), (2, 1)] := by kernel_rfl
theorem ty42_z : zeroL Try.prog 42 = some [.int .i64 0, .int .i64 0, .int .i64 0] := by kernel_rfl
theorem ty46_sz : szT Try.prog 46 = 1 := by kernel_rfl
theorem ty46_has : hasT Try.prog 46 = true := by kernel_rfl
theorem ty46_agg : aggT Try.prog 46 = false := by kernel_rfl
theorem ty46_by : bytesT Try.prog 46 = 24 := by kernel_rfl
theorem ty46_e : sliceT Try.prog 46 = some 40 := by kernel_rfl
theorem ty46_n : nilsX Try.prog 46 = [some 2] := by kernel_rfl
theorem ty46_ar : arrayT Try.prog 46 = none := by kernel_rfl
theorem ty46_z : zeroL Try.prog 46 = some [.slice none 0 0] := by kernel_rfl
theorem ty104_sz : szT Try.prog 104 = 4 := by kernel_rfl
theorem ty104_has : hasT Try.prog 104 = true := by kernel_rfl
theorem ty104_agg : aggT Try.prog 104 = true := by kernel_rfl
theorem ty104_by : bytesT Try.prog 104 = 32 := by kernel_rfl
theorem ty104_n : nilsX Try.prog 104 = [none, none, none, none] := by kernel_rfl
theorem ty104_ar : arrayT Try.prog 104 = none := by kernel_rfl
theorem ty104_f0 : fieldT Try.prog 104 0 = some (0, 3) := by kernel_rfl
theorem ty104_f1 : fieldT Try.prog 104 1 = some (1, 3) := by kernel_rfl
theorem ty104_f2 : fieldT Try.prog 104 2 = some (2, 40) := by kernel_rfl
theorem ty104_pl : placesL Try.prog 104 = some [(0, 1), (1, 1), (2, 2)] := by kernel_rfl
theorem ty104_z : zeroL Try.prog 104 = some [.int .i64 0, .int .i64 0, .int .i64 0, .int .i64 0] := by kernel_rfl
theorem ty107_sz : szT Try.prog 107 = 6 := by kernel_rfl
theorem ty107_has : hasT Try.prog 107 = true := by kernel_rfl
theorem ty107_agg : aggT Try.prog 107 = true := by kernel_rfl
theorem ty107_by : bytesT Try.prog 107 = 48 := by kernel_rfl
theorem ty107_n : nilsX Try.prog 107 = [none, none, none, none, none, none] := by kernel_rfl
theorem ty107_ar : arrayT Try.prog 107 = none := by kernel_rfl
theorem ty107_f0 : fieldT Try.prog 107 0 = some (0, 2) := by kernel_rfl
theorem ty107_f1 : fieldT Try.prog 107 1 = some (1, 3) := by kernel_rfl
theorem ty107_f2 : fieldT Try.prog 107 2 = some (2, 2) := by kernel_rfl
theorem ty107_f3 : fieldT Try.prog 107 3 = some (3, 2) := by kernel_rfl
theorem ty107_f4 : fieldT Try.prog 107 4 = some (4, 2) := by kernel_rfl
theorem ty107_f5 : fieldT Try.prog 107 5 = some (5, 4) := by kernel_rfl
theorem ty107_pl : placesL Try.prog 107 = some [(0, 1), (1, 1), (2, 1), (3, 1), (4, 1), (5, 1)] := by kernel_rfl
theorem ty107_z : zeroL Try.prog 107 = some [.int .i64 0, .int .i64 0, .int .i64 0, .int .i64 0, .int .i64 0, .bool false] := by kernel_rfl
theorem ty113_sz : szT Try.prog 113 = 1 := by kernel_rfl
theorem ty113_has : hasT Try.prog 113 = true := by kernel_rfl
theorem ty113_agg : aggT Try.prog 113 = false := by kernel_rfl
theorem ty113_by : bytesT Try.prog 113 = 8 := by kernel_rfl
theorem ty113_n : nilsX Try.prog 113 = [none] := by kernel_rfl
theorem ty113_ar : arrayT Try.prog 113 = none := by kernel_rfl
theorem ty113_z : zeroL Try.prog 113 = some [.nilFunc] := by kernel_rfl
theorem ty114_sz : szT Try.prog 114 = 1 := by kernel_rfl
theorem ty114_has : hasT Try.prog 114 = true := by kernel_rfl
theorem ty114_agg : aggT Try.prog 114 = false := by kernel_rfl
theorem ty114_by : bytesT Try.prog 114 = 8 := by kernel_rfl
theorem ty114_n : nilsX Try.prog 114 = [none] := by kernel_rfl
theorem ty114_ar : arrayT Try.prog 114 = none := by kernel_rfl
theorem ty114_z : zeroL Try.prog 114 = some [.pointer none] := by kernel_rfl
theorem ty115_sz : szT Try.prog 115 = 1 := by kernel_rfl
theorem ty115_has : hasT Try.prog 115 = true := by kernel_rfl
theorem ty115_agg : aggT Try.prog 115 = false := by kernel_rfl
theorem ty115_by : bytesT Try.prog 115 = 8 := by kernel_rfl
theorem ty115_k : kindT Try.prog 115 = some .u64 := by kernel_rfl
theorem ty115_n : nilsX Try.prog 115 = [none] := by kernel_rfl
theorem ty115_ar : arrayT Try.prog 115 = none := by kernel_rfl
theorem ty115_z : zeroL Try.prog 115 = some [.int .u64 0] := by kernel_rfl
theorem ty117_sz : szT Try.prog 117 = 2 := by kernel_rfl
theorem ty117_has : hasT Try.prog 117 = true := by kernel_rfl
theorem ty117_agg : aggT Try.prog 117 = true := by kernel_rfl
theorem ty117_by : bytesT Try.prog 117 = 16 := by kernel_rfl
theorem ty117_n : nilsX Try.prog 117 = [none, none] := by kernel_rfl
theorem ty117_ar : arrayT Try.prog 117 = none := by kernel_rfl
theorem ty117_f0 : fieldT Try.prog 117 0 = some (0, 2) := by kernel_rfl
theorem ty117_f1 : fieldT Try.prog 117 1 = some (1, 115) := by kernel_rfl
theorem ty117_pl : placesL Try.prog 117 = some [(0, 1), (1, 1)] := by kernel_rfl
theorem ty117_z : zeroL Try.prog 117 = some [.int .i64 0, .int .u64 0] := by kernel_rfl
theorem ty119_sz : szT Try.prog 119 = 8 := by kernel_rfl
theorem ty119_has : hasT Try.prog 119 = true := by kernel_rfl
theorem ty119_agg : aggT Try.prog 119 = true := by kernel_rfl
theorem ty119_by : bytesT Try.prog 119 = 64 := by kernel_rfl
theorem ty119_n : nilsX Try.prog 119 = [none, none, none, none, none, none, none, none] := by kernel_rfl
theorem ty119_ar : arrayT Try.prog 119 = none := by kernel_rfl
theorem ty119_f0 : fieldT Try.prog 119 0 = some (0, 107) := by kernel_rfl
theorem ty119_f1 : fieldT Try.prog 119 1 = some (6, 117) := by kernel_rfl
theorem ty119_pl : placesL Try.prog 119 = some [(0, 6), (6, 2)] := by kernel_rfl
theorem ty119_z : zeroL Try.prog 119 = some [.int .i64 0, .int .i64 0, .int .i64 0, .int .i64 0, .int .i64 0, .bool false, .int .i64 0, .int .u64 0] := by kernel_rfl
theorem ty125_sz : szT Try.prog 125 = 1 := by kernel_rfl
theorem ty125_has : hasT Try.prog 125 = true := by kernel_rfl
theorem ty125_agg : aggT Try.prog 125 = false := by kernel_rfl
theorem ty125_by : bytesT Try.prog 125 = 8 := by kernel_rfl
theorem ty125_n : nilsX Try.prog 125 = [none] := by kernel_rfl
theorem ty125_ar : arrayT Try.prog 125 = none := by kernel_rfl
theorem ty125_z : zeroL Try.prog 125 = some [.pointer none] := by kernel_rfl
theorem ty127_sz : szT Try.prog 127 = 2 := by kernel_rfl
theorem ty127_has : hasT Try.prog 127 = true := by kernel_rfl
theorem ty127_agg : aggT Try.prog 127 = true := by kernel_rfl
theorem ty127_by : bytesT Try.prog 127 = 32 := by kernel_rfl
theorem ty127_n : nilsX Try.prog 127 = [some 3, none] := by kernel_rfl
theorem ty127_ar : arrayT Try.prog 127 = none := by kernel_rfl
theorem ty127_f0 : fieldT Try.prog 127 0 = some (0, 33) := by kernel_rfl
theorem ty127_f1 : fieldT Try.prog 127 1 = some (1, 3) := by kernel_rfl
theorem ty127_pl : placesL Try.prog 127 = some [(0, 1), (1, 1)] := by kernel_rfl
theorem ty127_z : zeroL Try.prog 127 = some [.slice none 0 0, .int .i64 0] := by kernel_rfl
theorem ty170_sz : szT Try.prog 170 = 1 := by kernel_rfl
theorem ty170_has : hasT Try.prog 170 = true := by kernel_rfl
theorem ty170_agg : aggT Try.prog 170 = false := by kernel_rfl
theorem ty170_by : bytesT Try.prog 170 = 8 := by kernel_rfl
theorem ty170_n : nilsX Try.prog 170 = [none] := by kernel_rfl
theorem ty170_ar : arrayT Try.prog 170 = none := by kernel_rfl
theorem ty170_z : zeroL Try.prog 170 = some [.nilFunc] := by kernel_rfl
theorem ty173_sz : szT Try.prog 173 = 1 := by kernel_rfl
theorem ty173_has : hasT Try.prog 173 = true := by kernel_rfl
theorem ty173_agg : aggT Try.prog 173 = false := by kernel_rfl
theorem ty173_by : bytesT Try.prog 173 = 8 := by kernel_rfl
theorem ty173_k : kindT Try.prog 173 = some .u64 := by kernel_rfl
theorem ty173_n : nilsX Try.prog 173 = [none] := by kernel_rfl
theorem ty173_ar : arrayT Try.prog 173 = none := by kernel_rfl
theorem ty173_z : zeroL Try.prog 173 = some [.int .u64 0] := by kernel_rfl
theorem ty181_sz : szT Try.prog 181 = 1 := by kernel_rfl
theorem ty181_has : hasT Try.prog 181 = true := by kernel_rfl
theorem ty181_agg : aggT Try.prog 181 = false := by kernel_rfl
theorem ty181_by : bytesT Try.prog 181 = 8 := by kernel_rfl
theorem ty181_n : nilsX Try.prog 181 = [none] := by kernel_rfl
theorem ty181_ar : arrayT Try.prog 181 = none := by kernel_rfl
theorem ty181_z : zeroL Try.prog 181 = some [.nilFunc] := by kernel_rfl
theorem ty183_sz : szT Try.prog 183 = 2 := by kernel_rfl
theorem ty183_has : hasT Try.prog 183 = true := by kernel_rfl
theorem ty183_agg : aggT Try.prog 183 = true := by kernel_rfl
theorem ty183_by : bytesT Try.prog 183 = 16 := by kernel_rfl
theorem ty183_n : nilsX Try.prog 183 = [none, none] := by kernel_rfl
theorem ty183_ar : arrayT Try.prog 183 = none := by kernel_rfl
theorem ty183_f0 : fieldT Try.prog 183 0 = some (0, 2) := by kernel_rfl
theorem ty183_f1 : fieldT Try.prog 183 1 = some (1, 115) := by kernel_rfl
theorem ty183_pl : placesL Try.prog 183 = some [(0, 1), (1, 1)] := by kernel_rfl
theorem ty183_z : zeroL Try.prog 183 = some [.int .i64 0, .int .u64 0] := by kernel_rfl
theorem ty187_sz : szT Try.prog 187 = 1 := by kernel_rfl
theorem ty187_has : hasT Try.prog 187 = true := by kernel_rfl
theorem ty187_agg : aggT Try.prog 187 = false := by kernel_rfl
theorem ty187_by : bytesT Try.prog 187 = 8 := by kernel_rfl
theorem ty187_n : nilsX Try.prog 187 = [none] := by kernel_rfl
theorem ty187_ar : arrayT Try.prog 187 = none := by kernel_rfl
theorem ty187_z : zeroL Try.prog 187 = some [.nilFunc] := by kernel_rfl
theorem ty198_sz : szT Try.prog 198 = 2 := by kernel_rfl
theorem ty198_has : hasT Try.prog 198 = true := by kernel_rfl
theorem ty198_agg : aggT Try.prog 198 = true := by kernel_rfl
theorem ty198_by : bytesT Try.prog 198 = 16 := by kernel_rfl
theorem ty198_n : nilsX Try.prog 198 = [none, none] := by kernel_rfl
theorem ty198_ar : arrayT Try.prog 198 = none := by kernel_rfl
theorem ty198_f0 : fieldT Try.prog 198 0 = some (0, 3) := by kernel_rfl
theorem ty198_f1 : fieldT Try.prog 198 1 = some (1, 2) := by kernel_rfl
theorem ty198_pl : placesL Try.prog 198 = some [(0, 1), (1, 1)] := by kernel_rfl
theorem ty198_z : zeroL Try.prog 198 = some [.int .i64 0, .int .i64 0] := by kernel_rfl
theorem ty263_sz : szT Try.prog 263 = 1 := by kernel_rfl
theorem ty263_has : hasT Try.prog 263 = true := by kernel_rfl
theorem ty263_agg : aggT Try.prog 263 = false := by kernel_rfl
theorem ty263_by : bytesT Try.prog 263 = 8 := by kernel_rfl
theorem ty263_n : nilsX Try.prog 263 = [none] := by kernel_rfl
theorem ty263_ar : arrayT Try.prog 263 = none := by kernel_rfl
theorem ty263_z : zeroL Try.prog 263 = some [.pointer none] := by kernel_rfl
theorem ty264_sz : szT Try.prog 264 = 1 := by kernel_rfl
theorem ty264_has : hasT Try.prog 264 = true := by kernel_rfl
theorem ty264_agg : aggT Try.prog 264 = false := by kernel_rfl
theorem ty264_by : bytesT Try.prog 264 = 24 := by kernel_rfl
theorem ty264_e : sliceT Try.prog 264 = some 2 := by kernel_rfl
theorem ty264_n : nilsX Try.prog 264 = [some 1] := by kernel_rfl
theorem ty264_ar : arrayT Try.prog 264 = none := by kernel_rfl
theorem ty264_z : zeroL Try.prog 264 = some [.slice none 0 0] := by kernel_rfl
theorem ty266_sz : szT Try.prog 266 = 6 := by kernel_rfl
theorem ty266_has : hasT Try.prog 266 = true := by kernel_rfl
theorem ty266_agg : aggT Try.prog 266 = true := by kernel_rfl
theorem ty266_by : bytesT Try.prog 266 = 80 := by kernel_rfl
theorem ty266_n : nilsX Try.prog 266 = [none, none, some 1, some 2, none, none] := by kernel_rfl
theorem ty266_ar : arrayT Try.prog 266 = none := by kernel_rfl
theorem ty266_f0 : fieldT Try.prog 266 0 = some (0, 40) := by kernel_rfl
theorem ty266_f1 : fieldT Try.prog 266 1 = some (2, 264) := by kernel_rfl
theorem ty266_f2 : fieldT Try.prog 266 2 = some (3, 46) := by kernel_rfl
theorem ty266_f3 : fieldT Try.prog 266 3 = some (4, 3) := by kernel_rfl
theorem ty266_f4 : fieldT Try.prog 266 4 = some (5, 3) := by kernel_rfl
theorem ty266_pl : placesL Try.prog 266 = some [(0, 2), (2, 1), (3, 1), (4, 1), (5, 1)] := by kernel_rfl
theorem ty266_z : zeroL Try.prog 266 = some [.int .i64 0, .int .i64 0, .slice none 0 0, .slice none 0 0, .int .i64 0, .int .i64 0] := by kernel_rfl
theorem en3 : entB Try.prog 3 = true := by kernel_rfl
theorem en4 : entB Try.prog 4 = true := by kernel_rfl
theorem en5 : entB Try.prog 5 = true := by kernel_rfl
theorem en6 : entB Try.prog 6 = true := by kernel_rfl
theorem en7 : entB Try.prog 7 = true := by kernel_rfl
theorem en13 : entB Try.prog 13 = true := by kernel_rfl
theorem en14 : entB Try.prog 14 = true := by kernel_rfl
theorem en15 : entB Try.prog 15 = true := by kernel_rfl
theorem en16 : entB Try.prog 16 = true := by kernel_rfl
theorem en17 : entB Try.prog 17 = true := by kernel_rfl
theorem en18 : entB Try.prog 18 = true := by kernel_rfl
theorem en19 : entB Try.prog 19 = true := by kernel_rfl
theorem en20 : entB Try.prog 20 = true := by kernel_rfl
theorem en21 : entB Try.prog 21 = true := by kernel_rfl
theorem en22 : entB Try.prog 22 = true := by kernel_rfl
theorem en23 : entB Try.prog 23 = true := by kernel_rfl
theorem en24 : entB Try.prog 24 = true := by kernel_rfl
theorem en25 : entB Try.prog 25 = true := by kernel_rfl
theorem en26 : entB Try.prog 26 = true := by kernel_rfl
theorem en27 : entB Try.prog 27 = true := by kernel_rfl
theorem en28 : entB Try.prog 28 = true := by kernel_rfl
theorem en55 : entB Try.prog 55 = true := by kernel_rfl
theorem en56 : entB Try.prog 56 = true := by kernel_rfl
theorem en57 : entB Try.prog 57 = true := by kernel_rfl
theorem en58 : entB Try.prog 58 = true := by kernel_rfl
theorem en59 : entB Try.prog 59 = true := by kernel_rfl
theorem en60 : entB Try.prog 60 = true := by kernel_rfl
theorem en61 : entB Try.prog 61 = true := by kernel_rfl
theorem en62 : entB Try.prog 62 = true := by kernel_rfl
theorem en63 : entB Try.prog 63 = true := by kernel_rfl
theorem en64 : entB Try.prog 64 = true := by kernel_rfl
theorem en65 : entB Try.prog 65 = true := by kernel_rfl
theorem en66 : entB Try.prog 66 = true := by kernel_rfl
theorem en67 : entB Try.prog 67 = true := by kernel_rfl
theorem en68 : entB Try.prog 68 = true := by kernel_rfl
theorem en69 : entB Try.prog 69 = true := by kernel_rfl
theorem en70 : entB Try.prog 70 = true := by kernel_rfl
theorem en71 : entB Try.prog 71 = true := by kernel_rfl
theorem en72 : entB Try.prog 72 = true := by kernel_rfl
theorem en73 : entB Try.prog 73 = true := by kernel_rfl
theorem en74 : entB Try.prog 74 = true := by kernel_rfl
theorem en75 : entB Try.prog 75 = true := by kernel_rfl
theorem en94 : entB Try.prog 94 = true := by kernel_rfl
theorem en107 : entB Try.prog 107 = true := by kernel_rfl
theorem en108 : entB Try.prog 108 = true := by kernel_rfl
theorem en109 : entB Try.prog 109 = true := by kernel_rfl
theorem en110 : entB Try.prog 110 = true := by kernel_rfl
theorem en111 : entB Try.prog 111 = true := by kernel_rfl
theorem en112 : entB Try.prog 112 = true := by kernel_rfl
theorem en116 : entB Try.prog 116 = true := by kernel_rfl
theorem en117 : entB Try.prog 117 = true := by kernel_rfl
theorem en118 : entB Try.prog 118 = true := by kernel_rfl
theorem en119 : entB Try.prog 119 = true := by kernel_rfl
theorem en120 : entB Try.prog 120 = true := by kernel_rfl
theorem en121 : entB Try.prog 121 = true := by kernel_rfl
theorem en122 : entB Try.prog 122 = true := by kernel_rfl
theorem en123 : entB Try.prog 123 = true := by kernel_rfl
theorem en124 : entB Try.prog 124 = true := by kernel_rfl
theorem en125 : entB Try.prog 125 = true := by kernel_rfl
theorem en126 : entB Try.prog 126 = true := by kernel_rfl
theorem en127 : entB Try.prog 127 = true := by kernel_rfl
theorem en128 : entB Try.prog 128 = true := by kernel_rfl
theorem en129 : entB Try.prog 129 = true := by kernel_rfl
theorem en130 : entB Try.prog 130 = true := by kernel_rfl
theorem en154 : entB Try.prog 154 = true := by kernel_rfl
theorem en172 : entB Try.prog 172 = true := by kernel_rfl
theorem en173 : entB Try.prog 173 = true := by kernel_rfl
theorem en194 : entB Try.prog 194 = true := by kernel_rfl
theorem en195 : entB Try.prog 195 = true := by kernel_rfl
theorem en196 : entB Try.prog 196 = true := by kernel_rfl
theorem en208 : entB Try.prog 208 = true := by kernel_rfl
theorem en212 : entB Try.prog 212 = true := by kernel_rfl
theorem en213 : entB Try.prog 213 = true := by kernel_rfl
theorem en223 : entB Try.prog 223 = true := by kernel_rfl
theorem en224 : entB Try.prog 224 = true := by kernel_rfl
theorem en230 : entB Try.prog 230 = true := by kernel_rfl
theorem en233 : entB Try.prog 233 = true := by kernel_rfl
theorem en234 : entB Try.prog 234 = true := by kernel_rfl
theorem en235 : entB Try.prog 235 = true := by kernel_rfl
theorem en236 : entB Try.prog 236 = true := by kernel_rfl
theorem en238 : entB Try.prog 238 = true := by kernel_rfl
theorem en239 : entB Try.prog 239 = true := by kernel_rfl
theorem en240 : entB Try.prog 240 = true := by kernel_rfl
theorem en241 : entB Try.prog 241 = true := by kernel_rfl
@[go_sem] theorem tyb60_0 : (szT Try.prog 2 = 1) ∧ (hasT Try.prog 2 = true) ∧ (aggT Try.prog 2 = false) ∧ (bytesT Try.prog 2 = 8) ∧ (kindT Try.prog 2 = some .i64) ∧ (nilsX Try.prog 2 = [none]) ∧ (arrayT Try.prog 2 = none) ∧ (zeroL Try.prog 2 = some [.int .i64 0]) ∧ (szT Try.prog 3 = 1) ∧ (hasT Try.prog 3 = true) ∧ (aggT Try.prog 3 = false) ∧ (bytesT Try.prog 3 = 8) ∧ (kindT Try.prog 3 = some .i64) ∧ (nilsX Try.prog 3 = [none]) ∧ (arrayT Try.prog 3 = none) ∧ (zeroL Try.prog 3 = some [.int .i64 0]) ∧ (szT Try.prog 4 = 1) ∧ (hasT Try.prog 4 = true) ∧ (aggT Try.prog 4 = false) ∧ (bytesT Try.prog 4 = 1) ∧ (Try.prog.underlying 4 = some .bool) ∧ (nilsX Try.prog 4 = [none]) ∧ (arrayT Try.prog 4 = none) ∧ (zeroL Try.prog 4 = some [.bool false]) ∧ (szT Try.prog 5 = 1) ∧ (hasT Try.prog 5 = true) ∧ (aggT Try.prog 5 = false) ∧ (bytesT Try.prog 5 = 1) ∧ (kindT Try.prog 5 = some .u8) ∧ (nilsX Try.prog 5 = [none]) ∧ (arrayT Try.prog 5 = none) ∧ (zeroL Try.prog 5 = some [.int .u8 0]) ∧ (szT Try.prog 22 = 1) ∧ (hasT Try.prog 22 = true) ∧ (aggT Try.prog 22 = false) ∧ (bytesT Try.prog 22 = 24) ∧ (sliceT Try.prog 22 = some 104) ∧ (nilsX Try.prog 22 = [some 4]) ∧ (arrayT Try.prog 22 = none) ∧ (zeroL Try.prog 22 = some [.slice none 0 0]) ∧ (szT Try.prog 24 = 1) ∧ (hasT Try.prog 24 = true) ∧ (aggT Try.prog 24 = false) ∧ (bytesT Try.prog 24 = 24) ∧ (sliceT Try.prog 24 = some 3) ∧ (nilsX Try.prog 24 = [some 1]) ∧ (arrayT Try.prog 24 = none) ∧ (zeroL Try.prog 24 = some [.slice none 0 0]) ∧ (szT Try.prog 27 = 1) ∧ (hasT Try.prog 27 = true) ∧ (aggT Try.prog 27 = false) ∧ (bytesT Try.prog 27 = 24) ∧ (sliceT Try.prog 27 = some 107) ∧ (nilsX Try.prog 27 = [some 6]) ∧ (arrayT Try.prog 27 = none) ∧ (zeroL Try.prog 27 = some [.slice none 0 0]) ∧ (szT Try.prog 30 = 1) ∧ (hasT Try.prog 30 = true) ∧ (aggT Try.prog 30 = false) ∧ (bytesT Try.prog 30 = 24) := ⟨ty2_sz, ty2_has, ty2_agg, ty2_by, ty2_k, ty2_n, ty2_ar, ty2_z, ty3_sz, ty3_has, ty3_agg, ty3_by, ty3_k, ty3_n, ty3_ar, ty3_z, ty4_sz, ty4_has, ty4_agg, ty4_by, ty4_u, ty4_n, ty4_ar, ty4_z, ty5_sz, ty5_has, ty5_agg, ty5_by, ty5_k, ty5_n, ty5_ar, ty5_z, ty22_sz, ty22_has, ty22_agg, ty22_by, ty22_e, ty22_n, ty22_ar, ty22_z, ty24_sz, ty24_has, ty24_agg, ty24_by, ty24_e, ty24_n, ty24_ar, ty24_z, ty27_sz, ty27_has, ty27_agg, ty27_by, ty27_e, ty27_n, ty27_ar, ty27_z, ty30_sz, ty30_has, ty30_agg, ty30_by⟩
@[go_sem] theorem tyb120_0 : (sliceT Try.prog 30 = some 198) ∧ (nilsX Try.prog 30 = [some 2]) ∧ (arrayT Try.prog 30 = none) ∧ (zeroL Try.prog 30 = some [.slice none 0 0]) ∧ (szT Try.prog 32 = 4) ∧ (hasT Try.prog 32 = true) ∧ (aggT Try.prog 32 = true) ∧ (bytesT Try.prog 32 = 48) ∧ (nilsX Try.prog 32 = [none, none, none, some 2]) ∧ (arrayT Try.prog 32 = none) ∧ (fieldT Try.prog 32 0 = some (0, 3)) ∧ (fieldT Try.prog 32 1 = some (1, 3)) ∧ (fieldT Try.prog 32 2 = some (2, 2)) ∧ (fieldT Try.prog 32 3 = some (3, 30)) ∧ (placesL Try.prog 32 = some [(0, 1), (1, 1), (2, 1), (3, 1)]) ∧ (zeroL Try.prog 32 = some [.int .i64 0, .int .i64 0, .int .i64 0, .slice none 0 0]) ∧ (szT Try.prog 33 = 1) ∧ (hasT Try.prog 33 = true) ∧ (aggT Try.prog 33 = false) ∧ (bytesT Try.prog 33 = 24) ∧ (sliceT Try.prog 33 = some 42) ∧ (nilsX Try.prog 33 = [some 3]) ∧ (arrayT Try.prog 33 = none) ∧ (zeroL Try.prog 33 = some [.slice none 0 0]) ∧ (szT Try.prog 35 = 1) ∧ (hasT Try.prog 35 = true) ∧ (aggT Try.prog 35 = false) ∧ (bytesT Try.prog 35 = 24) ∧ (sliceT Try.prog 35 = some 33) ∧ (nilsX Try.prog 35 = [some 1]) ∧ (arrayT Try.prog 35 = none) ∧ (zeroL Try.prog 35 = some [.slice none 0 0]) ∧ (szT Try.prog 40 = 2) ∧ (hasT Try.prog 40 = true) ∧ (aggT Try.prog 40 = true) ∧ (bytesT Try.prog 40 = 16) ∧ (nilsX Try.prog 40 = [none, none]) ∧ (arrayT Try.prog 40 = none) ∧ (fieldT Try.prog 40 0 = some (0, 2)) ∧ (fieldT Try.prog 40 1 = some (1, 2)) ∧ (placesL Try.prog 40 = some [(0, 1), (1, 1)]) ∧ (zeroL Try.prog 40 = some [.int .i64 0, .int .i64 0]) ∧ (szT Try.prog 42 = 3) ∧ (hasT Try.prog 42 = true) ∧ (aggT Try.prog 42 = true) ∧ (bytesT Try.prog 42 = 24) ∧ (nilsX Try.prog 42 = [none, none, none]) ∧ (arrayT Try.prog 42 = none) ∧ (fieldT Try.prog 42 0 = some (0, 40)) ∧ (fieldT Try.prog 42 1 = some (2, 3)) ∧ (placesL Try.prog 42 = some [(0, 2), (2, 1)]) ∧ (zeroL Try.prog 42 = some [.int .i64 0, .int .i64 0, .int .i64 0]) ∧ (szT Try.prog 46 = 1) ∧ (hasT Try.prog 46 = true) ∧ (aggT Try.prog 46 = false) ∧ (bytesT Try.prog 46 = 24) ∧ (sliceT Try.prog 46 = some 40) ∧ (nilsX Try.prog 46 = [some 2]) ∧ (arrayT Try.prog 46 = none) ∧ (zeroL Try.prog 46 = some [.slice none 0 0]) := ⟨ty30_e, ty30_n, ty30_ar, ty30_z, ty32_sz, ty32_has, ty32_agg, ty32_by, ty32_n, ty32_ar, ty32_f0, ty32_f1, ty32_f2, ty32_f3, ty32_pl, ty32_z, ty33_sz, ty33_has, ty33_agg, ty33_by, ty33_e, ty33_n, ty33_ar, ty33_z, ty35_sz, ty35_has, ty35_agg, ty35_by, ty35_e, ty35_n, ty35_ar, ty35_z, ty40_sz, ty40_has, ty40_agg, ty40_by, ty40_n, ty40_ar, ty40_f0, ty40_f1, ty40_pl, ty40_z, ty42_sz, ty42_has, ty42_agg, ty42_by, ty42_n, ty42_ar, ty42_f0, ty42_f1, ty42_pl, ty42_z, ty46_sz, ty46_has, ty46_agg, ty46_by, ty46_e, ty46_n, ty46_ar, ty46_z⟩
@[go_sem] theorem tyb180_0 : (szT Try.prog 104 = 4) ∧ (hasT Try.prog 104 = true) ∧ (aggT Try.prog 104 = true) ∧ (bytesT Try.prog 104 = 32) ∧ (nilsX Try.prog 104 = [none, none, none, none]) ∧ (arrayT Try.prog 104 = none) ∧ (fieldT Try.prog 104 0 = some (0, 3)) ∧ (fieldT Try.prog 104 1 = some (1, 3)) ∧ (fieldT Try.prog 104 2 = some (2, 40)) ∧ (placesL Try.prog 104 = some [(0, 1), (1, 1), (2, 2)]) ∧ (zeroL Try.prog 104 = some [.int .i64 0, .int .i64 0, .int .i64 0, .int .i64 0]) ∧ (szT Try.prog 107 = 6) ∧ (hasT Try.prog 107 = true) ∧ (aggT Try.prog 107 = true) ∧ (bytesT Try.prog 107 = 48) ∧ (nilsX Try.prog 107 = [none, none, none, none, none, none]) ∧ (arrayT Try.prog 107 = none) ∧ (fieldT Try.prog 107 0 = some (0, 2)) ∧ (fieldT Try.prog 107 1 = some (1, 3)) ∧ (fieldT Try.prog 107 2 = some (2, 2)) ∧ (fieldT Try.prog 107 3 = some (3, 2)) ∧ (fieldT Try.prog 107 4 = some (4, 2)) ∧ (fieldT Try.prog 107 5 = some (5, 4)) ∧ (placesL Try.prog 107 = some [(0, 1), (1, 1), (2, 1), (3, 1), (4, 1), (5, 1)]) ∧ (zeroL Try.prog 107 = some [.int .i64 0, .int .i64 0, .int .i64 0, .int .i64 0, .int .i64 0, .bool false]) ∧ (szT Try.prog 113 = 1) ∧ (hasT Try.prog 113 = true) ∧ (aggT Try.prog 113 = false) ∧ (bytesT Try.prog 113 = 8) ∧ (nilsX Try.prog 113 = [none]) ∧ (arrayT Try.prog 113 = none) ∧ (zeroL Try.prog 113 = some [.nilFunc]) ∧ (szT Try.prog 114 = 1) ∧ (hasT Try.prog 114 = true) ∧ (aggT Try.prog 114 = false) ∧ (bytesT Try.prog 114 = 8) ∧ (nilsX Try.prog 114 = [none]) ∧ (arrayT Try.prog 114 = none) ∧ (zeroL Try.prog 114 = some [.pointer none]) ∧ (szT Try.prog 115 = 1) ∧ (hasT Try.prog 115 = true) ∧ (aggT Try.prog 115 = false) ∧ (bytesT Try.prog 115 = 8) ∧ (kindT Try.prog 115 = some .u64) ∧ (nilsX Try.prog 115 = [none]) ∧ (arrayT Try.prog 115 = none) ∧ (zeroL Try.prog 115 = some [.int .u64 0]) ∧ (szT Try.prog 117 = 2) ∧ (hasT Try.prog 117 = true) ∧ (aggT Try.prog 117 = true) ∧ (bytesT Try.prog 117 = 16) ∧ (nilsX Try.prog 117 = [none, none]) ∧ (arrayT Try.prog 117 = none) ∧ (fieldT Try.prog 117 0 = some (0, 2)) ∧ (fieldT Try.prog 117 1 = some (1, 115)) ∧ (placesL Try.prog 117 = some [(0, 1), (1, 1)]) ∧ (zeroL Try.prog 117 = some [.int .i64 0, .int .u64 0]) ∧ (szT Try.prog 119 = 8) ∧ (hasT Try.prog 119 = true) ∧ (aggT Try.prog 119 = true) := ⟨ty104_sz, ty104_has, ty104_agg, ty104_by, ty104_n, ty104_ar, ty104_f0, ty104_f1, ty104_f2, ty104_pl, ty104_z, ty107_sz, ty107_has, ty107_agg, ty107_by, ty107_n, ty107_ar, ty107_f0, ty107_f1, ty107_f2, ty107_f3, ty107_f4, ty107_f5, ty107_pl, ty107_z, ty113_sz, ty113_has, ty113_agg, ty113_by, ty113_n, ty113_ar, ty113_z, ty114_sz, ty114_has, ty114_agg, ty114_by, ty114_n, ty114_ar, ty114_z, ty115_sz, ty115_has, ty115_agg, ty115_by, ty115_k, ty115_n, ty115_ar, ty115_z, ty117_sz, ty117_has, ty117_agg, ty117_by, ty117_n, ty117_ar, ty117_f0, ty117_f1, ty117_pl, ty117_z, ty119_sz, ty119_has, ty119_agg⟩
@[go_sem] theorem tyb240_0 : (bytesT Try.prog 119 = 64) ∧ (nilsX Try.prog 119 = [none, none, none, none, none, none, none, none]) ∧ (arrayT Try.prog 119 = none) ∧ (fieldT Try.prog 119 0 = some (0, 107)) ∧ (fieldT Try.prog 119 1 = some (6, 117)) ∧ (placesL Try.prog 119 = some [(0, 6), (6, 2)]) ∧ (zeroL Try.prog 119 = some [.int .i64 0, .int .i64 0, .int .i64 0, .int .i64 0, .int .i64 0, .bool false, .int .i64 0, .int .u64 0]) ∧ (szT Try.prog 125 = 1) ∧ (hasT Try.prog 125 = true) ∧ (aggT Try.prog 125 = false) ∧ (bytesT Try.prog 125 = 8) ∧ (nilsX Try.prog 125 = [none]) ∧ (arrayT Try.prog 125 = none) ∧ (zeroL Try.prog 125 = some [.pointer none]) ∧ (szT Try.prog 127 = 2) ∧ (hasT Try.prog 127 = true) ∧ (aggT Try.prog 127 = true) ∧ (bytesT Try.prog 127 = 32) ∧ (nilsX Try.prog 127 = [some 3, none]) ∧ (arrayT Try.prog 127 = none) ∧ (fieldT Try.prog 127 0 = some (0, 33)) ∧ (fieldT Try.prog 127 1 = some (1, 3)) ∧ (placesL Try.prog 127 = some [(0, 1), (1, 1)]) ∧ (zeroL Try.prog 127 = some [.slice none 0 0, .int .i64 0]) ∧ (szT Try.prog 170 = 1) ∧ (hasT Try.prog 170 = true) ∧ (aggT Try.prog 170 = false) ∧ (bytesT Try.prog 170 = 8) ∧ (nilsX Try.prog 170 = [none]) ∧ (arrayT Try.prog 170 = none) ∧ (zeroL Try.prog 170 = some [.nilFunc]) ∧ (szT Try.prog 173 = 1) ∧ (hasT Try.prog 173 = true) ∧ (aggT Try.prog 173 = false) ∧ (bytesT Try.prog 173 = 8) ∧ (kindT Try.prog 173 = some .u64) ∧ (nilsX Try.prog 173 = [none]) ∧ (arrayT Try.prog 173 = none) ∧ (zeroL Try.prog 173 = some [.int .u64 0]) ∧ (szT Try.prog 181 = 1) ∧ (hasT Try.prog 181 = true) ∧ (aggT Try.prog 181 = false) ∧ (bytesT Try.prog 181 = 8) ∧ (nilsX Try.prog 181 = [none]) ∧ (arrayT Try.prog 181 = none) ∧ (zeroL Try.prog 181 = some [.nilFunc]) ∧ (szT Try.prog 183 = 2) ∧ (hasT Try.prog 183 = true) ∧ (aggT Try.prog 183 = true) ∧ (bytesT Try.prog 183 = 16) ∧ (nilsX Try.prog 183 = [none, none]) ∧ (arrayT Try.prog 183 = none) ∧ (fieldT Try.prog 183 0 = some (0, 2)) ∧ (fieldT Try.prog 183 1 = some (1, 115)) ∧ (placesL Try.prog 183 = some [(0, 1), (1, 1)]) ∧ (zeroL Try.prog 183 = some [.int .i64 0, .int .u64 0]) ∧ (szT Try.prog 187 = 1) ∧ (hasT Try.prog 187 = true) ∧ (aggT Try.prog 187 = false) ∧ (bytesT Try.prog 187 = 8) := ⟨ty119_by, ty119_n, ty119_ar, ty119_f0, ty119_f1, ty119_pl, ty119_z, ty125_sz, ty125_has, ty125_agg, ty125_by, ty125_n, ty125_ar, ty125_z, ty127_sz, ty127_has, ty127_agg, ty127_by, ty127_n, ty127_ar, ty127_f0, ty127_f1, ty127_pl, ty127_z, ty170_sz, ty170_has, ty170_agg, ty170_by, ty170_n, ty170_ar, ty170_z, ty173_sz, ty173_has, ty173_agg, ty173_by, ty173_k, ty173_n, ty173_ar, ty173_z, ty181_sz, ty181_has, ty181_agg, ty181_by, ty181_n, ty181_ar, ty181_z, ty183_sz, ty183_has, ty183_agg, ty183_by, ty183_n, ty183_ar, ty183_f0, ty183_f1, ty183_pl, ty183_z, ty187_sz, ty187_has, ty187_agg, ty187_by⟩
@[go_sem] theorem tyb300_0 : (nilsX Try.prog 187 = [none]) ∧ (arrayT Try.prog 187 = none) ∧ (zeroL Try.prog 187 = some [.nilFunc]) ∧ (szT Try.prog 198 = 2) ∧ (hasT Try.prog 198 = true) ∧ (aggT Try.prog 198 = true) ∧ (bytesT Try.prog 198 = 16) ∧ (nilsX Try.prog 198 = [none, none]) ∧ (arrayT Try.prog 198 = none) ∧ (fieldT Try.prog 198 0 = some (0, 3)) ∧ (fieldT Try.prog 198 1 = some (1, 2)) ∧ (placesL Try.prog 198 = some [(0, 1), (1, 1)]) ∧ (zeroL Try.prog 198 = some [.int .i64 0, .int .i64 0]) ∧ (szT Try.prog 263 = 1) ∧ (hasT Try.prog 263 = true) ∧ (aggT Try.prog 263 = false) ∧ (bytesT Try.prog 263 = 8) ∧ (nilsX Try.prog 263 = [none]) ∧ (arrayT Try.prog 263 = none) ∧ (zeroL Try.prog 263 = some [.pointer none]) ∧ (szT Try.prog 264 = 1) ∧ (hasT Try.prog 264 = true) ∧ (aggT Try.prog 264 = false) ∧ (bytesT Try.prog 264 = 24) ∧ (sliceT Try.prog 264 = some 2) ∧ (nilsX Try.prog 264 = [some 1]) ∧ (arrayT Try.prog 264 = none) ∧ (zeroL Try.prog 264 = some [.slice none 0 0]) ∧ (szT Try.prog 266 = 6) ∧ (hasT Try.prog 266 = true) ∧ (aggT Try.prog 266 = true) ∧ (bytesT Try.prog 266 = 80) ∧ (nilsX Try.prog 266 = [none, none, some 1, some 2, none, none]) ∧ (arrayT Try.prog 266 = none) ∧ (fieldT Try.prog 266 0 = some (0, 40)) ∧ (fieldT Try.prog 266 1 = some (2, 264)) ∧ (fieldT Try.prog 266 2 = some (3, 46)) ∧ (fieldT Try.prog 266 3 = some (4, 3)) ∧ (fieldT Try.prog 266 4 = some (5, 3)) ∧ (placesL Try.prog 266 = some [(0, 2), (2, 1), (3, 1), (4, 1), (5, 1)]) ∧ (zeroL Try.prog 266 = some [.int .i64 0, .int .i64 0, .slice none 0 0, .slice none 0 0, .int .i64 0, .int .i64 0]) ∧ (entB Try.prog 3 = true) ∧ (entB Try.prog 4 = true) ∧ (entB Try.prog 5 = true) ∧ (entB Try.prog 6 = true) ∧ (entB Try.prog 7 = true) ∧ (entB Try.prog 13 = true) ∧ (entB Try.prog 14 = true) ∧ (entB Try.prog 15 = true) ∧ (entB Try.prog 16 = true) ∧ (entB Try.prog 17 = true) ∧ (entB Try.prog 18 = true) ∧ (entB Try.prog 19 = true) ∧ (entB Try.prog 20 = true) ∧ (entB Try.prog 21 = true) ∧ (entB Try.prog 22 = true) ∧ (entB Try.prog 23 = true) ∧ (entB Try.prog 24 = true) ∧ (entB Try.prog 25 = true) ∧ (entB Try.prog 26 = true) := ⟨ty187_n, ty187_ar, ty187_z, ty198_sz, ty198_has, ty198_agg, ty198_by, ty198_n, ty198_ar, ty198_f0, ty198_f1, ty198_pl, ty198_z, ty263_sz, ty263_has, ty263_agg, ty263_by, ty263_n, ty263_ar, ty263_z, ty264_sz, ty264_has, ty264_agg, ty264_by, ty264_e, ty264_n, ty264_ar, ty264_z, ty266_sz, ty266_has, ty266_agg, ty266_by, ty266_n, ty266_ar, ty266_f0, ty266_f1, ty266_f2, ty266_f3, ty266_f4, ty266_pl, ty266_z, en3, en4, en5, en6, en7, en13, en14, en15, en16, en17, en18, en19, en20, en21, en22, en23, en24, en25, en26⟩
@[go_sem] theorem tyb360_0 : (entB Try.prog 27 = true) ∧ (entB Try.prog 28 = true) ∧ (entB Try.prog 55 = true) ∧ (entB Try.prog 56 = true) ∧ (entB Try.prog 57 = true) ∧ (entB Try.prog 58 = true) ∧ (entB Try.prog 59 = true) ∧ (entB Try.prog 60 = true) ∧ (entB Try.prog 61 = true) ∧ (entB Try.prog 62 = true) ∧ (entB Try.prog 63 = true) ∧ (entB Try.prog 64 = true) ∧ (entB Try.prog 65 = true) ∧ (entB Try.prog 66 = true) ∧ (entB Try.prog 67 = true) ∧ (entB Try.prog 68 = true) ∧ (entB Try.prog 69 = true) ∧ (entB Try.prog 70 = true) ∧ (entB Try.prog 71 = true) ∧ (entB Try.prog 72 = true) ∧ (entB Try.prog 73 = true) ∧ (entB Try.prog 74 = true) ∧ (entB Try.prog 75 = true) ∧ (entB Try.prog 94 = true) ∧ (entB Try.prog 107 = true) ∧ (entB Try.prog 108 = true) ∧ (entB Try.prog 109 = true) ∧ (entB Try.prog 110 = true) ∧ (entB Try.prog 111 = true) ∧ (entB Try.prog 112 = true) ∧ (entB Try.prog 116 = true) ∧ (entB Try.prog 117 = true) ∧ (entB Try.prog 118 = true) ∧ (entB Try.prog 119 = true) ∧ (entB Try.prog 120 = true) ∧ (entB Try.prog 121 = true) ∧ (entB Try.prog 122 = true) ∧ (entB Try.prog 123 = true) ∧ (entB Try.prog 124 = true) ∧ (entB Try.prog 125 = true) ∧ (entB Try.prog 126 = true) ∧ (entB Try.prog 127 = true) ∧ (entB Try.prog 128 = true) ∧ (entB Try.prog 129 = true) ∧ (entB Try.prog 130 = true) ∧ (entB Try.prog 154 = true) ∧ (entB Try.prog 172 = true) ∧ (entB Try.prog 173 = true) ∧ (entB Try.prog 194 = true) ∧ (entB Try.prog 195 = true) ∧ (entB Try.prog 196 = true) ∧ (entB Try.prog 208 = true) ∧ (entB Try.prog 212 = true) ∧ (entB Try.prog 213 = true) ∧ (entB Try.prog 223 = true) ∧ (entB Try.prog 224 = true) ∧ (entB Try.prog 230 = true) ∧ (entB Try.prog 233 = true) ∧ (entB Try.prog 234 = true) ∧ (entB Try.prog 235 = true) := ⟨en27, en28, en55, en56, en57, en58, en59, en60, en61, en62, en63, en64, en65, en66, en67, en68, en69, en70, en71, en72, en73, en74, en75, en94, en107, en108, en109, en110, en111, en112, en116, en117, en118, en119, en120, en121, en122, en123, en124, en125, en126, en127, en128, en129, en130, en154, en172, en173, en194, en195, en196, en208, en212, en213, en223, en224, en230, en233, en234, en235⟩
@[go_sem] theorem tyb420_0 : (entB Try.prog 236 = true) ∧ (entB Try.prog 238 = true) ∧ (entB Try.prog 239 = true) ∧ (entB Try.prog 240 = true) ∧ (entB Try.prog 241 = true) := ⟨en236, en238, en239, en240, en241⟩
theorem mixed : Try.prog.follows .mixedOrders = true := by kernel_rfl
structure Nu64 where
  n : Int
instance : Row Nu64 := ⟨1, fun x => [.v (.int .u64 x.n)]⟩
@[go_sem] theorem row_Nu64 (x : Nu64) : Row.row x = [.v (.int .u64 x.n)] := rfl
instance : Dat Nu64 where
  ct := [.int .u64]
  ok x := inI .u64 x.n
  len := rfl
  of avs h := by
    simp only [rowOK, ctOK] at h
    obtain ⟨_, _, rfl, ⟨n, rfl, hw⟩, rfl⟩ := h
    exact ⟨⟨n⟩, rfl, hw⟩
structure GRec where
  K : Int
  V : Int
instance : Row GRec := ⟨2, fun x => [.v (.int .i64 x.K), .v (.int .i64 x.V)]⟩
@[go_sem] theorem row_GRec (x : GRec) : Row.row x = [.v (.int .i64 x.K), .v (.int .i64 x.V)] := rfl
@[go_sem] theorem sz_GRec : Row.sz GRec = 2 := rfl
instance : Dat GRec where
  ct := Dat.ct Int ++ (Dat.ct Int)
  ok x := Dat.ok x.K ∧ Dat.ok x.V
  len := rfl
  of avs h := by
    obtain ⟨b0, r0, rfl, h0, g0⟩ := rowOK_split h
    obtain ⟨x0, rfl, k0⟩ := Dat.of (α := Int) _ h0
    obtain ⟨x1, rfl, k1⟩ := Dat.of (α := Int) _ g0
    exact ⟨⟨x0, x1⟩, rfl, k0, k1⟩
structure GQuery_wide where
  hi : Int
  lo : Nu64
instance : Row GQuery_wide := ⟨2, fun x => [.v (.int .i64 x.hi), .v (.int .u64 x.lo.n)]⟩
@[go_sem] theorem row_GQuery_wide (x : GQuery_wide) : Row.row x = [.v (.int .i64 x.hi), .v (.int .u64 x.lo.n)] := rfl
@[go_sem] theorem sz_GQuery_wide : Row.sz GQuery_wide = 2 := rfl
instance : Dat GQuery_wide where
  ct := Dat.ct Int ++ (Dat.ct Nu64)
  ok x := Dat.ok x.hi ∧ Dat.ok x.lo
  len := rfl
  of avs h := by
    obtain ⟨b0, r0, rfl, h0, g0⟩ := rowOK_split h
    obtain ⟨x0, rfl, k0⟩ := Dat.of (α := Int) _ h0
    obtain ⟨x1, rfl, k1⟩ := Dat.of (α := Nu64) _ g0
    exact ⟨⟨x0, x1⟩, rfl, k0, k1⟩
structure GRow where
  K : Int
  Many : Int
  Least : Int
  Top : Int
  Sum : Int
  Sure : Bool
instance : Row GRow := ⟨6, fun x => [.v (.int .i64 x.K), .v (.int .i64 x.Many), .v (.int .i64 x.Least), .v (.int .i64 x.Top), .v (.int .i64 x.Sum), .v (.bool x.Sure)]⟩
@[go_sem] theorem row_GRow (x : GRow) : Row.row x = [.v (.int .i64 x.K), .v (.int .i64 x.Many), .v (.int .i64 x.Least), .v (.int .i64 x.Top), .v (.int .i64 x.Sum), .v (.bool x.Sure)] := rfl
@[go_sem] theorem sz_GRow : Row.sz GRow = 6 := rfl
instance : Dat GRow where
  ct := Dat.ct Int ++ (Dat.ct Int ++ (Dat.ct Int ++ (Dat.ct Int ++ (Dat.ct Int ++ (Dat.ct Bool)))))
  ok x := Dat.ok x.K ∧ Dat.ok x.Many ∧ Dat.ok x.Least ∧ Dat.ok x.Top ∧ Dat.ok x.Sum ∧ Dat.ok x.Sure
  len := rfl
  of avs h := by
    obtain ⟨b0, r0, rfl, h0, g0⟩ := rowOK_split h
    obtain ⟨b1, r1, rfl, h1, g1⟩ := rowOK_split g0
    obtain ⟨b2, r2, rfl, h2, g2⟩ := rowOK_split g1
    obtain ⟨b3, r3, rfl, h3, g3⟩ := rowOK_split g2
    obtain ⟨b4, r4, rfl, h4, g4⟩ := rowOK_split g3
    obtain ⟨x0, rfl, k0⟩ := Dat.of (α := Int) _ h0
    obtain ⟨x1, rfl, k1⟩ := Dat.of (α := Int) _ h1
    obtain ⟨x2, rfl, k2⟩ := Dat.of (α := Int) _ h2
    obtain ⟨x3, rfl, k3⟩ := Dat.of (α := Int) _ h3
    obtain ⟨x4, rfl, k4⟩ := Dat.of (α := Int) _ h4
    obtain ⟨x5, rfl, k5⟩ := Dat.of (α := Bool) _ g4
    exact ⟨⟨x0, x1, x2, x3, x4, x5⟩, rfl, k0, k1, k2, k3, k4, k5⟩
structure GQuery_group where
  Row : GRow
  sum : GQuery_wide
instance : Row GQuery_group := ⟨8, fun x => [.v (.int .i64 x.Row.K), .v (.int .i64 x.Row.Many), .v (.int .i64 x.Row.Least), .v (.int .i64 x.Row.Top), .v (.int .i64 x.Row.Sum), .v (.bool x.Row.Sure), .v (.int .i64 x.sum.hi), .v (.int .u64 x.sum.lo.n)]⟩
@[go_sem] theorem row_GQuery_group (x : GQuery_group) : Row.row x = [.v (.int .i64 x.Row.K), .v (.int .i64 x.Row.Many), .v (.int .i64 x.Row.Least), .v (.int .i64 x.Row.Top), .v (.int .i64 x.Row.Sum), .v (.bool x.Row.Sure), .v (.int .i64 x.sum.hi), .v (.int .u64 x.sum.lo.n)] := rfl
@[go_sem] theorem sz_GQuery_group : Row.sz GQuery_group = 8 := rfl
instance : Dat GQuery_group where
  ct := Dat.ct GRow ++ (Dat.ct GQuery_wide)
  ok x := Dat.ok x.Row ∧ Dat.ok x.sum
  len := rfl
  of avs h := by
    obtain ⟨b0, r0, rfl, h0, g0⟩ := rowOK_split h
    obtain ⟨x0, rfl, k0⟩ := Dat.of (α := GRow) _ h0
    obtain ⟨x1, rfl, k1⟩ := Dat.of (α := GQuery_wide) _ g0
    exact ⟨⟨x0, x1⟩, rfl, k0, k1⟩
structure GOut where
  Node : Int
  Epoch : Int
  Rec : GRec
instance : Row GOut := ⟨4, fun x => [.v (.int .i64 x.Node), .v (.int .i64 x.Epoch), .v (.int .i64 x.Rec.K), .v (.int .i64 x.Rec.V)]⟩
@[go_sem] theorem row_GOut (x : GOut) : Row.row x = [.v (.int .i64 x.Node), .v (.int .i64 x.Epoch), .v (.int .i64 x.Rec.K), .v (.int .i64 x.Rec.V)] := rfl
@[go_sem] theorem sz_GOut : Row.sz GOut = 4 := rfl
instance : Dat GOut where
  ct := Dat.ct Int ++ (Dat.ct Int ++ (Dat.ct GRec))
  ok x := Dat.ok x.Node ∧ Dat.ok x.Epoch ∧ Dat.ok x.Rec
  len := rfl
  of avs h := by
    obtain ⟨b0, r0, rfl, h0, g0⟩ := rowOK_split h
    obtain ⟨b1, r1, rfl, h1, g1⟩ := rowOK_split g0
    obtain ⟨x0, rfl, k0⟩ := Dat.of (α := Int) _ h0
    obtain ⟨x1, rfl, k1⟩ := Dat.of (α := Int) _ h1
    obtain ⟨x2, rfl, k2⟩ := Dat.of (α := GRec) _ g1
    exact ⟨⟨x0, x1, x2⟩, rfl, k0, k1, k2⟩
structure GItem where
  Rec : GRec
  N : Int
instance : Row GItem := ⟨3, fun x => [.v (.int .i64 x.Rec.K), .v (.int .i64 x.Rec.V), .v (.int .i64 x.N)]⟩
@[go_sem] theorem row_GItem (x : GItem) : Row.row x = [.v (.int .i64 x.Rec.K), .v (.int .i64 x.Rec.V), .v (.int .i64 x.N)] := rfl
@[go_sem] theorem sz_GItem : Row.sz GItem = 3 := rfl
instance : Dat GItem where
  ct := Dat.ct GRec ++ (Dat.ct Int)
  ok x := Dat.ok x.Rec ∧ Dat.ok x.N
  len := rfl
  of avs h := by
    obtain ⟨b0, r0, rfl, h0, g0⟩ := rowOK_split h
    obtain ⟨x0, rfl, k0⟩ := Dat.of (α := GRec) _ h0
    obtain ⟨x1, rfl, k1⟩ := Dat.of (α := Int) _ g0
    exact ⟨⟨x0, x1⟩, rfl, k0, k1⟩
structure GIns where
  Op : Int
  N : Int
instance : Row GIns := ⟨2, fun x => [.v (.int .i64 x.Op), .v (.int .i64 x.N)]⟩
@[go_sem] theorem row_GIns (x : GIns) : Row.row x = [.v (.int .i64 x.Op), .v (.int .i64 x.N)] := rfl
@[go_sem] theorem sz_GIns : Row.sz GIns = 2 := rfl
instance : Dat GIns where
  ct := Dat.ct Int ++ (Dat.ct Int)
  ok x := Dat.ok x.Op ∧ Dat.ok x.N
  len := rfl
  of avs h := by
    obtain ⟨b0, r0, rfl, h0, g0⟩ := rowOK_split h
    obtain ⟨x0, rfl, k0⟩ := Dat.of (α := Int) _ h0
    obtain ⟨x1, rfl, k1⟩ := Dat.of (α := Int) _ g0
    exact ⟨⟨x0, x1⟩, rfl, k0, k1⟩
structure GProg_machine where
  r : GRec
  stack : List Int
  out : List GRec
  at_ : Int
  bad : Int
instance : Row GProg_machine := ⟨6, fun x => [.v (.int .i64 x.r.K), .v (.int .i64 x.r.V), .sl 1 (enc x.stack), .sl 2 (enc x.out), .v (.int .i64 x.at_), .v (.int .i64 x.bad)]⟩
@[go_sem] theorem row_GProg_machine (x : GProg_machine) : Row.row x = [.v (.int .i64 x.r.K), .v (.int .i64 x.r.V), .sl 1 (enc x.stack), .sl 2 (enc x.out), .v (.int .i64 x.at_), .v (.int .i64 x.bad)] := rfl
@[go_sem] theorem sz_GProg_machine : Row.sz GProg_machine = 6 := rfl
instance : Dat GProg_machine where
  ct := Dat.ct GRec ++ (Dat.ct (List Int) ++ (Dat.ct (List GRec) ++ (Dat.ct Int ++ (Dat.ct Int))))
  ok x := Dat.ok x.r ∧ Dat.ok x.stack ∧ Dat.ok x.out ∧ Dat.ok x.at_ ∧ Dat.ok x.bad
  len := rfl
  of avs h := by
    obtain ⟨b0, r0, rfl, h0, g0⟩ := rowOK_split h
    obtain ⟨b1, r1, rfl, h1, g1⟩ := rowOK_split g0
    obtain ⟨b2, r2, rfl, h2, g2⟩ := rowOK_split g1
    obtain ⟨b3, r3, rfl, h3, g3⟩ := rowOK_split g2
    obtain ⟨x0, rfl, k0⟩ := Dat.of (α := GRec) _ h0
    obtain ⟨x1, rfl, k1⟩ := Dat.of (α := List Int) _ h1
    obtain ⟨x2, rfl, k2⟩ := Dat.of (α := List GRec) _ h2
    obtain ⟨x3, rfl, k3⟩ := Dat.of (α := Int) _ h3
    obtain ⟨x4, rfl, k4⟩ := Dat.of (α := Int) _ g3
    exact ⟨⟨x0, x1, x2, x3, x4⟩, rfl, k0, k1, k2, k3, k4⟩
structure GNode where
  Kind : Int
  Scope : Int
  Arg : Int
  Prog : List GIns
instance : Row GNode := ⟨4, fun x => [.v (.int .i64 x.Kind), .v (.int .i64 x.Scope), .v (.int .i64 x.Arg), .sl 2 (enc x.Prog)]⟩
@[go_sem] theorem row_GNode (x : GNode) : Row.row x = [.v (.int .i64 x.Kind), .v (.int .i64 x.Scope), .v (.int .i64 x.Arg), .sl 2 (enc x.Prog)] := rfl
@[go_sem] theorem sz_GNode : Row.sz GNode = 4 := rfl
instance : Dat GNode where
  ct := Dat.ct Int ++ (Dat.ct Int ++ (Dat.ct Int ++ (Dat.ct (List GIns))))
  ok x := Dat.ok x.Kind ∧ Dat.ok x.Scope ∧ Dat.ok x.Arg ∧ Dat.ok x.Prog
  len := rfl
  of avs h := by
    obtain ⟨b0, r0, rfl, h0, g0⟩ := rowOK_split h
    obtain ⟨b1, r1, rfl, h1, g1⟩ := rowOK_split g0
    obtain ⟨b2, r2, rfl, h2, g2⟩ := rowOK_split g1
    obtain ⟨x0, rfl, k0⟩ := Dat.of (α := Int) _ h0
    obtain ⟨x1, rfl, k1⟩ := Dat.of (α := Int) _ h1
    obtain ⟨x2, rfl, k2⟩ := Dat.of (α := Int) _ h2
    obtain ⟨x3, rfl, k3⟩ := Dat.of (α := List GIns) _ g2
    exact ⟨⟨x0, x1, x2, x3⟩, rfl, k0, k1, k2, k3⟩
structure GOps_maker where
  out : List GItem
  many : Int
instance : Row GOps_maker := ⟨2, fun x => [.sl 3 (enc x.out), .v (.int .i64 x.many)]⟩
@[go_sem] theorem row_GOps_maker (x : GOps_maker) : Row.row x = [.sl 3 (enc x.out), .v (.int .i64 x.many)] := rfl
@[go_sem] theorem sz_GOps_maker : Row.sz GOps_maker = 2 := rfl
instance : Dat GOps_maker where
  ct := Dat.ct (List GItem) ++ (Dat.ct Int)
  ok x := Dat.ok x.out ∧ Dat.ok x.many
  len := rfl
  of avs h := by
    obtain ⟨b0, r0, rfl, h0, g0⟩ := rowOK_split h
    obtain ⟨x0, rfl, k0⟩ := Dat.of (α := List GItem) _ h0
    obtain ⟨x1, rfl, k1⟩ := Dat.of (α := Int) _ g0
    exact ⟨⟨x0, x1⟩, rfl, k0, k1⟩
structure GOps_wide where
  hi : Int
  lo : Nu64
instance : Row GOps_wide := ⟨2, fun x => [.v (.int .i64 x.hi), .v (.int .u64 x.lo.n)]⟩
@[go_sem] theorem row_GOps_wide (x : GOps_wide) : Row.row x = [.v (.int .i64 x.hi), .v (.int .u64 x.lo.n)] := rfl
@[go_sem] theorem sz_GOps_wide : Row.sz GOps_wide = 2 := rfl
instance : Dat GOps_wide where
  ct := Dat.ct Int ++ (Dat.ct Nu64)
  ok x := Dat.ok x.hi ∧ Dat.ok x.lo
  len := rfl
  of avs h := by
    obtain ⟨b0, r0, rfl, h0, g0⟩ := rowOK_split h
    obtain ⟨x0, rfl, k0⟩ := Dat.of (α := Int) _ h0
    obtain ⟨x1, rfl, k1⟩ := Dat.of (α := Nu64) _ g0
    exact ⟨⟨x0, x1⟩, rfl, k0, k1⟩
@[go_sem] theorem eqT42 : EqT Try.prog 42 [some .i64, some .i64, some .i64] := EqT_of (by kernel_rfl) (by kernel_rfl) (by kernel_rfl)
@[go_sem] theorem eqT107 : EqT Try.prog 107 [some .i64, some .i64, some .i64, some .i64, some .i64, none] := EqT_of (by kernel_rfl) (by kernel_rfl) (by kernel_rfl)
instance : Inhabited GRec := ⟨⟨0, 0⟩⟩
end Go.Proofs.Ythpahhhdapdcpaa

namespace Go.Proofs.Ythpahhhdapdcpaa
open Go Go.RowKit
set_option maxHeartbeats 2000000
set_option maxRecDepth 100000
set_option linter.unusedSimpArgs false
set_option linter.unusedVariables false
def lay59_ren : Go.Shelf.Ren := ⟨fun | 6 => 59 | 15 => 114 | 14 => 115 | 28 => 183 | 29 => 184 | 20 => 185 | 21 => 186 | 22 => 187 | 23 => 188 | 24 => 189 | 25 => 190 | 26 => 191 | 27 => 192 | 46 => 220 | 47 => 215 | 48 => 216 | 49 => 221 | 50 => 222 | 57 => 232 | n => n, fun | 22 => 46 | 24 => 40 | 25 => 113 | 3 => 3 | 39 => 173 | 0 => 0 | 53 => 232 | 55 => 115 | 4 => 4 | 46 => 226 | 45 => 225 | 50 => 156 | 5 => 5 | 9 => 9 | 66 => 255 | 70 => 259 | 76 => 271 | 77 => 141 | n => n, fun | n => n⟩
theorem lay59 : Go.Proofs.SlLaysF0.n6 Try.prog lay59_ren := {
  mixed := by kernel_rfl
  f6 := ⟨Try.f59.name, by decide, Try.func59.trans (congrArg some (by kernel_rfl))⟩
  f14 := ⟨Try.f115.name, by decide, Try.func115.trans (congrArg some (by kernel_rfl))⟩
  f15 := Try.func114.trans (congrArg some (by kernel_rfl))
  f20 := ⟨Try.f185.name, by decide, Try.func185.trans (congrArg some (by kernel_rfl))⟩
  f21 := ⟨Try.f186.name, by decide, Try.func186.trans (congrArg some (by kernel_rfl))⟩
  f22 := ⟨Try.f187.name, by decide, Try.func187.trans (congrArg some (by kernel_rfl))⟩
  f23 := ⟨Try.f188.name, by decide, Try.func188.trans (congrArg some (by kernel_rfl))⟩
  f24 := ⟨Try.f189.name, by decide, Try.func189.trans (congrArg some (by kernel_rfl))⟩
  f25 := ⟨Try.f190.name, by decide, Try.func190.trans (congrArg some (by kernel_rfl))⟩
  f26 := ⟨Try.f191.name, by decide, Try.func191.trans (congrArg some (by kernel_rfl))⟩
  f27 := ⟨Try.f192.name, by decide, Try.func192.trans (congrArg some (by kernel_rfl))⟩
  f28 := Try.func183.trans (congrArg some (by kernel_rfl))
  f29 := Try.func184.trans (congrArg some (by kernel_rfl))
  f46 := ⟨Try.f220.name, by decide, Try.func220.trans (congrArg some (by kernel_rfl))⟩
  f47 := Try.func215.trans (congrArg some (by kernel_rfl))
  f48 := Try.func216.trans (congrArg some (by kernel_rfl))
  f49 := ⟨Try.f221.name, by decide, Try.func221.trans (congrArg some (by kernel_rfl))⟩
  f50 := ⟨Try.f222.name, by decide, Try.func222.trans (congrArg some (by kernel_rfl))⟩
  f57 := ⟨Try.f232.name, by decide, Try.func232.trans (congrArg some (by kernel_rfl))⟩
  t0 := Try.underlying0
  a0 := Try.isAgg0
  z0 := Try.sizeOf0
  v0 := Try.zeroValue0
  t3 := Try.underlying3
  a3 := Try.isAgg3
  z3 := Try.sizeOf3
  v3 := Try.zeroValue3
  t4 := Try.underlying4
  a4 := Try.isAgg4
  z4 := Try.sizeOf4
  v4 := Try.zeroValue4
  t5 := Try.underlying5
  a5 := Try.isAgg5
  z5 := Try.sizeOf5
  v5 := Try.zeroValue5
  t9 := Try.underlying9
  a9 := Try.isAgg9
  z9 := Try.sizeOf9
  v9 := Try.zeroValue9
  t22 := Try.underlying46
  a22 := Try.isAgg46
  z22 := Try.sizeOf46
  v22 := Try.zeroValue46
  t25 := Try.underlying113
  a25 := Try.isAgg113
  z25 := Try.sizeOf113
  v25 := Try.zeroValue113
  t39 := Try.underlying173
  a39 := Try.isAgg173
  z39 := Try.sizeOf173
  v39 := Try.zeroValue173
  t45 := Try.underlying225
  a45 := Try.isAgg225
  z45 := Try.sizeOf225
  v45 := Try.zeroValue225
  t46 := Try.underlying226
  a46 := Try.isAgg226
  z46 := Try.sizeOf226
  v46 := Try.zeroValue226
  t50 := Try.underlying156
  a50 := Try.isAgg156
  z50 := Try.sizeOf156
  v50 := Try.zeroValue156
  t53 := Try.underlying232
  a53 := Try.isAgg232
  z53 := Try.sizeOf232
  v53 := Try.zeroValue232
  t55 := Try.underlying115
  a55 := Try.isAgg115
  z55 := Try.sizeOf115
  v55 := Try.zeroValue115
  t66 := Try.underlying255
  a66 := Try.isAgg255
  z66 := Try.sizeOf255
  v66 := Try.zeroValue255
  t70 := Try.underlying259
  a70 := Try.isAgg259
  z70 := Try.sizeOf259
  v70 := Try.zeroValue259
  t76 := Try.underlying271
  a76 := Try.isAgg271
  z76 := Try.sizeOf271
  v76 := Try.zeroValue271
  t77 := Try.underlying141
  a77 := Try.isAgg141
  z77 := Try.sizeOf141
  v77 := Try.zeroValue141 }
noncomputable def f_slices_SortFunc_Rec_s0_0 (x_0 : List GRec) (cmp_0 : GRec → GRec → Option Int) : Option (List GRec) := sortF cmp_0 x_0
def f_slices_SortFunc_Rec_s0_0_ev (x : GRec) : List Value := [(.int .i64 x.K), (.int .i64 x.V)]
theorem f_slices_SortFunc_Rec_s0_0_det (x_0 : List GRec) (cmp_0 : GRec → GRec → Option Int) (g_cmp_0 : FuncId) (c_cmp_0 : List AV) (F_cmp_0 : idFreeL c_cmp_0 = true) (E_cmp_0 : entB Try.prog g_cmp_0 = true) (H_cmp_0 : ∀ (x0 : GRec) (x1 : GRec) (r : Int), cmp_0 x0 x1 = some r → PureS Try.prog g_cmp_0 ([.agg [.v (.int .i64 x0.K), .v (.int .i64 x0.V)], .agg [.v (.int .i64 x1.K), .v (.int .i64 x1.V)]] ++ c_cmp_0) 0 (.v (.int .i64 r))) (r : List GRec) (h : f_slices_SortFunc_Rec_s0_0 x_0 cmp_0 = some r) : DetS Try.prog 59 [.osl 0 2 0 (List.length x_0), .clo g_cmp_0 c_cmp_0] [(0, .arr 2 (enc x_0))] 1 (.tup []) [(0, .arr 2 (enc r))] 1 :=
  sortFunc_det (ev := f_slices_SortFunc_Rec_s0_0_ev) lay59 (by kernel_rfl) (fun _ => rfl) (fun _ => rfl) (fun x v hv => by simp only [f_slices_SortFunc_Rec_s0_0_ev, List.mem_cons, List.not_mem_nil, or_false] at hv; rcases hv with rfl | rfl <;> rfl) Try.isAgg40 Try.sizeOf40 F_cmp_0 E_cmp_0 H_cmp_0 h
end Go.Proofs.Ythpahhhdapdcpaa

namespace Go.Proofs.Ythpahhhdapdcpaa
open Go Go.RowKit
set_option maxHeartbeats 2000000
set_option maxRecDepth 100000
set_option linter.unusedSimpArgs false
set_option linter.unusedVariables false
def f_cmp_isNaN_int64 (xv_0 : Int) : Option Bool :=
  some (!(xv_0 == xv_0))
theorem f_cmp_isNaN_int64_ok (xv_0 : Int)  (r : Bool) (h : f_cmp_isNaN_int64 xv_0 = some r) : PureS Try.prog 173 [.v (.int .i64 xv_0)] 0 (.v (.bool r)) := by
  unfold PureS
  refine Spec.of_vc Try.func173 rfl (by kernel_rfl) (by kernel_rfl) ?_
  rw [f_cmp_isNaN_int64] at h
  refine vc_seq_gen (by kernel_rfl) ?_
  intro QQ1 hQ1
  simp only [go_sem, Try.ntmps173, Try.results173]
  refine seqQ_normal hQ1 ?_
  refine vc_seq_gen (by kernel_rfl) ?_
  intro QQ2 hQ2
  simp only [go_sem, Try.ntmps173, Try.results173]
  refine seqQ_normal hQ2 ?_
  refine vc_ret_of ?_
  simp only [go_sem, Try.ntmps173, Try.results173]
  obtain rfl := Option.some.inj h
  refine retW_pure rfl ?_
  simp only [go_sem, Le]
end Go.Proofs.Ythpahhhdapdcpaa

namespace Go.Proofs.Ythpahhhdapdcpaa
open Go Go.RowKit
set_option maxHeartbeats 2000000
set_option maxRecDepth 100000
set_option linter.unusedSimpArgs false
set_option linter.unusedVariables false
def f_cmp_Compare_int64 (xv_0 : Int) (y_0 : Int) : Option Int :=
  bindO (f_cmp_isNaN_int64 xv_0) (fun (v_0 : Bool) =>
  bindO (f_cmp_isNaN_int64 y_0) (fun (v_1 : Bool) =>
  (if v_0 = true then (if v_1 = true then some 0
  else some (-1))
  else (if v_1 = true then some 1
  else (if (decide (xv_0 < y_0)) = true then some (-1)
  else (if (decide (y_0 < xv_0)) = true then some 1
  else some 0))))))
theorem f_cmp_Compare_int64_ok (xv_0 : Int) (y_0 : Int)  (r : Int) (h : f_cmp_Compare_int64 xv_0 y_0 = some r) : PureS Try.prog 111 [.v (.int .i64 xv_0), .v (.int .i64 y_0)] 0 (.v (.int .i64 r)) := by
  unfold PureS
  refine Spec.of_vc Try.func111 rfl (by kernel_rfl) (by kernel_rfl) ?_
  rw [f_cmp_Compare_int64] at h
  refine vc_seq_gen (by kernel_rfl) ?_
  intro QQ1 hQ1
  simp only [go_sem, Try.ntmps111, Try.results111]
  refine seqQ_normal hQ1 ?_
  refine vc_seq_gen (by kernel_rfl) ?_
  intro QQ2 hQ2
  obtain ⟨v_0, ev_0, h⟩ := bindO_some h
  simp only [go_sem, Try.ntmps111, Try.results111]
  refine call0 (f_cmp_isNaN_int64_ok xv_0 v_0 ev_0) (by rfl) (by rfl) ?_
  simp only [go_sem, Try.ntmps111, Try.results111]
  refine seqQ_normal hQ2 ?_
  refine vc_seq_gen (by kernel_rfl) ?_
  intro QQ3 hQ3
  obtain ⟨v_1, ev_1, h⟩ := bindO_some h
  simp only [go_sem, Try.ntmps111, Try.results111]
  refine call0 (f_cmp_isNaN_int64_ok y_0 v_1 ev_1) (by rfl) (by rfl) ?_
  simp only [go_sem, Try.ntmps111, Try.results111]
  refine seqQ_normal hQ3 ?_
  refine vc_seq_gen (by kernel_rfl) ?_
  intro QQ4 hQ4
  refine vc_seq_gen (by kernel_rfl) ?_
  intro QQ5 hQ5
  simp only [go_sem, Try.ntmps111, Try.results111]
  refine seqQ_normal hQ5 ?_
  refine vc_cond_of (b := v_0) (by (simp only [go_sem]; done)) (fun hb_0 => ?_) (fun hb_0 => ?_)
  ·
    replace h := if_t h hb_0
    refine vc_seq_gen (by kernel_rfl) ?_
    intro QQ6 hQ6
    refine vc_seq_gen (by kernel_rfl) ?_
    intro QQ7 hQ7
    simp only [go_sem, Try.ntmps111, Try.results111]
    refine seqQ_normal hQ7 ?_
    refine vc_cond_of (b := v_1) (by (simp only [go_sem]; done)) (fun hb_1 => ?_) (fun hb_1 => ?_)
    ·
      replace h := if_t h hb_1
      refine vc_seq_gen (by kernel_rfl) ?_
      intro QQ8 hQ8
      simp only [go_sem, Try.ntmps111, Try.results111]
      refine seqQ_normal hQ8 ?_
      refine vc_ret_of ?_
      refine seqQ_ret hQ6 ?_
      refine seqQ_ret hQ4 ?_
      simp only [go_sem, Try.ntmps111, Try.results111]
      obtain rfl := Option.some.inj h
      refine retW_pure rfl ?_
      simp only [go_sem, Le]
    ·
      replace h := if_f h hb_1
      refine vc_skip_of ?_
      refine seqQ_normal hQ6 ?_
      refine vc_seq_gen (by kernel_rfl) ?_
      intro QQ9 hQ9
      simp only [go_sem, Try.ntmps111, Try.results111]
      refine seqQ_normal hQ9 ?_
      refine vc_ret_of ?_
      refine seqQ_ret hQ4 ?_
      simp only [go_sem, Try.ntmps111, Try.results111]
      obtain rfl := Option.some.inj h
      refine retW_pure rfl ?_
      simp only [go_sem, Le]
  ·
    replace h := if_f h hb_0
    refine vc_skip_of ?_
    refine seqQ_normal hQ4 ?_
    refine vc_seq_gen (by kernel_rfl) ?_
    intro QQ10 hQ10
    refine vc_seq_gen (by kernel_rfl) ?_
    intro QQ11 hQ11
    simp only [go_sem, Try.ntmps111, Try.results111]
    refine seqQ_normal hQ11 ?_
    refine vc_cond_of (b := v_1) (by (simp only [go_sem]; done)) (fun hb_2 => ?_) (fun hb_2 => ?_)
    ·
      replace h := if_t h hb_2
      refine vc_seq_gen (by kernel_rfl) ?_
      intro QQ12 hQ12
      simp only [go_sem, Try.ntmps111, Try.results111]
      refine seqQ_normal hQ12 ?_
      refine vc_ret_of ?_
      refine seqQ_ret hQ10 ?_
      simp only [go_sem, Try.ntmps111, Try.results111]
      obtain rfl := Option.some.inj h
      refine retW_pure rfl ?_
      simp only [go_sem, Le]
    ·
      replace h := if_f h hb_2
      refine vc_skip_of ?_
      refine seqQ_normal hQ10 ?_
      refine vc_seq_gen (by kernel_rfl) ?_
      intro QQ13 hQ13
      refine vc_seq_gen (by kernel_rfl) ?_
      intro QQ14 hQ14
      simp only [go_sem, Try.ntmps111, Try.results111]
      refine seqQ_normal hQ14 ?_
      refine vc_cond_of (b := (decide (xv_0 < y_0))) (by (simp only [go_sem]; done)) (fun hb_3 => ?_) (fun hb_3 => ?_)
      ·
        replace h := if_t h hb_3
        simp only [decide_eq_true_eq, decide_eq_false_iff_not, Bool.not_eq_true', Bool.not_eq_false', beq_iff_eq, beq_eq_false_iff_ne, ne_eq, Bool.and_eq_true, Bool.or_eq_true, Int.not_lt, Int.not_le] at hb_3
        refine vc_seq_gen (by kernel_rfl) ?_
        intro QQ15 hQ15
        simp only [go_sem, Try.ntmps111, Try.results111]
        refine seqQ_normal hQ15 ?_
        refine vc_ret_of ?_
        refine seqQ_ret hQ13 ?_
        simp only [go_sem, Try.ntmps111, Try.results111]
        obtain rfl := Option.some.inj h
        refine retW_pure rfl ?_
        simp only [go_sem, Le]
      ·
        replace h := if_f h hb_3
        simp only [decide_eq_true_eq, decide_eq_false_iff_not, Bool.not_eq_true', Bool.not_eq_false', beq_iff_eq, beq_eq_false_iff_ne, ne_eq, Bool.and_eq_true, Bool.or_eq_true, Int.not_lt, Int.not_le] at hb_3
        refine vc_skip_of ?_
        refine seqQ_normal hQ13 ?_
        refine vc_seq_gen (by kernel_rfl) ?_
        intro QQ16 hQ16
        refine vc_seq_gen (by kernel_rfl) ?_
        intro QQ17 hQ17
        simp only [go_sem, Try.ntmps111, Try.results111]
        refine seqQ_normal hQ17 ?_
        refine vc_cond_of (b := (decide (y_0 < xv_0))) (by (simp only [go_sem]; done)) (fun hb_4 => ?_) (fun hb_4 => ?_)
        ·
          replace h := if_t h hb_4
          simp only [decide_eq_true_eq, decide_eq_false_iff_not, Bool.not_eq_true', Bool.not_eq_false', beq_iff_eq, beq_eq_false_iff_ne, ne_eq, Bool.and_eq_true, Bool.or_eq_true, Int.not_lt, Int.not_le] at hb_4
          refine vc_seq_gen (by kernel_rfl) ?_
          intro QQ18 hQ18
          simp only [go_sem, Try.ntmps111, Try.results111]
          refine seqQ_normal hQ18 ?_
          refine vc_ret_of ?_
          refine seqQ_ret hQ16 ?_
          simp only [go_sem, Try.ntmps111, Try.results111]
          obtain rfl := Option.some.inj h
          refine retW_pure rfl ?_
          simp only [go_sem, Le]
        ·
          replace h := if_f h hb_4
          simp only [decide_eq_true_eq, decide_eq_false_iff_not, Bool.not_eq_true', Bool.not_eq_false', beq_iff_eq, beq_eq_false_iff_ne, ne_eq, Bool.and_eq_true, Bool.or_eq_true, Int.not_lt, Int.not_le] at hb_4
          refine vc_skip_of ?_
          refine seqQ_normal hQ16 ?_
          refine vc_seq_gen (by kernel_rfl) ?_
          intro QQ19 hQ19
          simp only [go_sem, Try.ntmps111, Try.results111]
          refine seqQ_normal hQ19 ?_
          refine vc_ret_of ?_
          simp only [go_sem, Try.ntmps111, Try.results111]
          obtain rfl := Option.some.inj h
          refine retW_pure rfl ?_
          simp only [go_sem, Le]
end Go.Proofs.Ythpahhhdapdcpaa

namespace Go.Proofs.Ythpahhhdapdcpaa
open Go Go.RowKit
set_option maxHeartbeats 2000000
set_option maxRecDepth 100000
set_option linter.unusedSimpArgs false
set_option linter.unusedVariables false
def f_cmp_Or_int_B1 (vals_0 : List Int) (rec_1 : Int → Option Int) : Int → Option Int :=
  fun t8_1 =>
  (if (decide (t8_1 < (List.length vals_0 : Int))) = true then bindO (idx vals_0 t8_1) (fun (xv_2 : Int) =>
  (if (!(xv_2 == 0)) = true then some xv_2
  else rec_1 (IntKind.i64.wrap (t8_1 + 1))))
  else some 0)
def f_cmp_Or_int (vals_0 : List Int) : Option Int :=
  loopK (f_cmp_Or_int_B1 vals_0) rounds 0
theorem f_cmp_Or_int_ok (vals_0 : List Int)  (r : Int) (h : f_cmp_Or_int vals_0 = some r) : PureS Try.prog 110 [.sl 1 (enc vals_0)] 0 (.v (.int .i64 r)) := by
  unfold PureS
  refine Spec.of_vc Try.func110 rfl (by kernel_rfl) (by kernel_rfl) ?_
  rw [f_cmp_Or_int] at h
  refine vc_seq_gen (by kernel_rfl) ?_
  intro QQ1 hQ1
  simp only [go_sem, Try.ntmps110, Try.results110]
  refine seqQ_normal hQ1 ?_
  refine vc_seq_gen (by kernel_rfl) ?_
  intro QQ2 hQ2
  simp only [go_sem, Try.ntmps110, Try.results110]
  refine seqQ_normal hQ2 ?_
  refine vc_join (by kernel_rfl) ?_
  refine seq_go_gen ?_
  intro QQ3 hQ3
  refine vc_seq_gen (by kernel_rfl) ?_
  intro QQ4 hQ4
  simp only [go_sem, Try.ntmps110, Try.results110]
  refine seqQ_normal hQ4 ?_
  refine vc_block_gen ?_
  intro QQ5 hQ5
  refine vc_loop_of ?_
  refine loop_gen (ι := Nat × Int) (fun ((_, t8_1) : Nat × Int) => (⟨0, [(3, .v (.int .i64 0)), (6, .sl 1 (enc vals_0)), (7, .v (.int .i64 (List.length vals_0 : Int))), (8, .v (.int .i64 t8_1))], [], 0, 18⟩ : St)) (fun ((n_, t8_1) : Nat × Int) => loopK (f_cmp_Or_int_B1 vals_0) n_ t8_1 = some r) (fun p => p.1) (rounds, 0) [] ?_ h ?_
  · simp only [go_sem, Le]
  · rintro ⟨n_1, t8_1⟩ h QQ6 hQ6
    dsimp only at h
    replace h := loopK_some h
    obtain ⟨m_1, rfl, h⟩ := h
    rw [f_cmp_Or_int_B1] at h
    refine vc_seq_gen (by kernel_rfl) ?_
    intro QQ7 hQ7
    simp only [go_sem, Try.ntmps110, Try.results110]
    refine seqQ_normal hQ7 ?_
    refine vc_seq_gen (by kernel_rfl) ?_
    intro QQ8 hQ8
    refine vc_cond_of (b := (decide (t8_1 < (List.length vals_0 : Int)))) (by (simp only [go_sem]; done)) (fun hb_4 => ?_) (fun hb_4 => ?_)
    ·
      replace h := if_t h hb_4
      simp only [decide_eq_true_eq, decide_eq_false_iff_not, Bool.not_eq_true', Bool.not_eq_false', beq_iff_eq, beq_eq_false_iff_ne, ne_eq, Bool.and_eq_true, Bool.or_eq_true, Int.not_lt, Int.not_le] at hb_4
      refine vc_skip_of ?_
      refine seqQ_normal hQ8 ?_
      refine vc_seq_gen (by kernel_rfl) ?_
      intro QQ9 hQ9
      refine vc_block_gen ?_
      intro QQ10 hQ10
      refine vc_seq_gen (by kernel_rfl) ?_
      intro QQ11 hQ11
      obtain ⟨xv_2, exv_2, h⟩ := bindO_some h
      obtain ⟨fxv_2a, fxv_2b, fxv_2c⟩ := idx_spec exv_2
      simp only [go_sem, Try.ntmps110, Try.results110, fxv_2a, fxv_2b, fxv_2c]
      refine And.intro (by omega) ?_
      refine seqQ_normal hQ11 ?_
      refine vc_seq_gen (by kernel_rfl) ?_
      intro QQ12 hQ12
      simp only [go_sem, Try.ntmps110, Try.results110]
      refine seqQ_normal hQ12 ?_
      refine vc_cond_of (b := (!(xv_2 == 0))) (by (simp only [go_sem]; done)) (fun hb_5 => ?_) (fun hb_5 => ?_)
      ·
        replace h := if_t h hb_5
        simp only [decide_eq_true_eq, decide_eq_false_iff_not, Bool.not_eq_true', Bool.not_eq_false', beq_iff_eq, beq_eq_false_iff_ne, ne_eq, Bool.and_eq_true, Bool.or_eq_true, Int.not_lt, Int.not_le] at hb_5
        refine vc_seq_gen (by kernel_rfl) ?_
        intro QQ13 hQ13
        simp only [go_sem, Try.ntmps110, Try.results110]
        refine seqQ_normal hQ13 ?_
        refine vc_ret_of ?_
        refine blockQ_ret hQ10 ?_
        refine seqQ_ret hQ9 ?_
        refine thenQ_ret hQ6 ?_
        refine blockQ_ret hQ5 ?_
        refine seqQ_ret hQ3 ?_
        simp only [go_sem, Try.ntmps110, Try.results110]
        obtain rfl := Option.some.inj h
        refine retW_pure rfl ?_
        simp only [go_sem, Le]
      ·
        replace h := if_f h hb_5
        simp only [decide_eq_true_eq, decide_eq_false_iff_not, Bool.not_eq_true', Bool.not_eq_false', beq_iff_eq, beq_eq_false_iff_ne, ne_eq, Bool.and_eq_true, Bool.or_eq_true, Int.not_lt, Int.not_le] at hb_5
        refine vc_skip_of ?_
        refine blockQ_normal hQ10 ?_
        refine seqQ_normal hQ9 ?_
        simp only [go_sem, Try.ntmps110, Try.results110]
        refine thenQ_normal hQ6 ?_
        refine ⟨(m_1, IntKind.i64.wrap (t8_1 + 1)), [], ?_, h, Nat.lt_succ_self _⟩
        simp only [go_sem, Le]
    ·
      replace h := if_f h hb_4
      simp only [decide_eq_true_eq, decide_eq_false_iff_not, Bool.not_eq_true', Bool.not_eq_false', beq_iff_eq, beq_eq_false_iff_ne, ne_eq, Bool.and_eq_true, Bool.or_eq_true, Int.not_lt, Int.not_le] at hb_4
      refine vc_exit_of ?_
      refine seqQ_exit hQ8 ?_
      refine thenQ_exit hQ6 ?_
      refine blockQ_exit hQ5 ?_
      refine seqQ_normal hQ3 ?_
      refine vc_seq_gen (by kernel_rfl) ?_
      intro QQ14 hQ14
      simp only [go_sem, Try.ntmps110, Try.results110]
      refine seqQ_normal hQ14 ?_
      refine vc_ret_of ?_
      simp only [go_sem, Try.ntmps110, Try.results110]
      obtain rfl := Option.some.inj h
      refine retW_pure rfl ?_
      simp only [go_sem, Le]
end Go.Proofs.Ythpahhhdapdcpaa

namespace Go.Proofs.Ythpahhhdapdcpaa
open Go Go.RowKit
set_option maxHeartbeats 2000000
set_option maxRecDepth 100000
set_option linter.unusedSimpArgs false
set_option linter.unusedVariables false
def f_bag_order (a_0 : GRec) (b_0 : GRec) : Option Int :=
  bindO (f_cmp_Compare_int64 a_0.K b_0.K) (fun (v_0 : Int) =>
  bindO (f_cmp_Compare_int64 a_0.V b_0.V) (fun (v_1 : Int) =>
  bindO (f_cmp_Or_int ([v_0, v_1] : List Int)) (fun (v_2 : Int) =>
  some v_2)))
theorem f_bag_order_ok (a_0 : GRec) (b_0 : GRec)  (r : Int) (h : f_bag_order a_0 b_0 = some r) : PureS Try.prog 116 [.agg [.v (.int .i64 a_0.K), .v (.int .i64 a_0.V)], .agg [.v (.int .i64 b_0.K), .v (.int .i64 b_0.V)]] 0 (.v (.int .i64 r)) := by
  unfold PureS
  refine Spec.of_vc Try.func116 rfl (by kernel_rfl) (by kernel_rfl) ?_
  rw [f_bag_order] at h
  refine vc_seq_gen (by kernel_rfl) ?_
  intro QQ1 hQ1
  simp only [go_sem, Try.ntmps116, Try.results116]
  refine seqQ_normal hQ1 ?_
  refine vc_seq_gen (by kernel_rfl) ?_
  intro QQ2 hQ2
  refine vc_draw ?_
  refine drawM_tail 9 [0, 1, 0, 4, 15, 0, 32, 0, 128, 511, 1023, 2047, 4095] mixed (by kernel_rfl) (of_decide_eq_true (by kernel_rfl)) (by kernel_rfl) ?_
  obtain ⟨v_0, ev_0, h⟩ := bindO_some h
  simp only [go_sem, Try.ntmps116, Try.results116]
  refine callq (fun _ => (f_cmp_Compare_int64_ok a_0.K b_0.K v_0 ev_0)) (by rfl) (by rfl) ?_
  obtain ⟨v_1, ev_1, h⟩ := bindO_some h
  simp only [go_sem, Try.ntmps116, Try.results116]
  refine call0 (f_cmp_Compare_int64_ok a_0.V b_0.V v_1 ev_1) (by rfl) (by rfl) ?_
  have rf_0 : [[.v (.int .i64 v_0)], [.v (.int .i64 v_1)]] = enc ([v_0, v_1] : List Int) := by rfl
  obtain ⟨v_2, ev_2, h⟩ := bindO_some h
  simp only [go_sem, Try.ntmps116, Try.results116]
  simp only [rf_0]
  refine callB (s' := (⟨0, [(0, .agg [.v (.int .i64 a_0.K), .v (.int .i64 a_0.V)]), (1, .agg [.v (.int .i64 b_0.K), .v (.int .i64 b_0.V)]), (2, .ptr 0 0), (3, .ptr 1 0), (4, .v (.int .i64 0)), (5, .ptr 0 0), (6, .v (.int .i64 a_0.K)), (7, .ptr 1 0), (8, .v (.int .i64 b_0.K)), (9, .v (.int .i64 v_0)), (10, .ptr 0 1), (11, .v (.int .i64 a_0.V)), (12, .ptr 1 1), (13, .v (.int .i64 b_0.V)), (14, .v (.int .i64 v_1)), (15, .sl 1 (enc ([v_0, v_1] : List Int)))], [(0, .box [.v (.int .i64 a_0.K), .v (.int .i64 a_0.V)]), (1, .box [.v (.int .i64 b_0.K), .v (.int .i64 b_0.V)])], 2, 17⟩ : St)) (l := [some 0, some 1]) (args' := [.sl 1 (enc ([v_0, v_1] : List Int))]) ?_ ?_ (f_cmp_Or_int_ok ([v_0, v_1] : List Int) v_2 ev_2) (by rfl) (by rfl) ?_
  · simp only [go_sem, Le] <;> (repeat' apply And.intro) <;> first | ((try with_reducible refine TL_eq ?_); omega) | ((try with_reducible refine TL_eq ?_); (simp [go_sem]; done))
  · simp only [go_sem, Le] <;> (repeat' apply And.intro) <;> ((try with_reducible refine TL_eq ?_); (simp [go_sem]; done))
  simp only [go_sem, Try.ntmps116, Try.results116]
  refine seqQ_normal hQ2 ?_
  refine vc_ret_of ?_
  simp only [go_sem, Try.ntmps116, Try.results116]
  obtain rfl := Option.some.inj h
  refine retW_pure rfl ?_
  simp only [go_sem, Le]
end Go.Proofs.Ythpahhhdapdcpaa

namespace Go.Proofs.Ythpahhhdapdcpaa
open Go Go.RowKit
set_option maxHeartbeats 2000000
set_option maxRecDepth 100000
set_option linter.unusedSimpArgs false
set_option linter.unusedVariables false
def f_bag_Less (a_0 : GRec) (b_0 : GRec) : Option Bool :=
  bindO (f_bag_order a_0 b_0) (fun (v_0 : Int) =>
  some (decide (v_0 < 0)))
theorem f_bag_Less_ok (a_0 : GRec) (b_0 : GRec)  (r : Bool) (h : f_bag_Less a_0 b_0 = some r) : PureS Try.prog 61 [.agg [.v (.int .i64 a_0.K), .v (.int .i64 a_0.V)], .agg [.v (.int .i64 b_0.K), .v (.int .i64 b_0.V)]] 0 (.v (.bool r)) := by
  unfold PureS
  refine Spec.of_vc Try.func61 rfl (by kernel_rfl) (by kernel_rfl) ?_
  rw [f_bag_Less] at h
  refine vc_seq_gen (by kernel_rfl) ?_
  intro QQ1 hQ1
  simp only [go_sem, Try.ntmps61, Try.results61]
  refine seqQ_normal hQ1 ?_
  refine vc_seq_gen (by kernel_rfl) ?_
  intro QQ2 hQ2
  obtain ⟨v_0, ev_0, h⟩ := bindO_some h
  simp only [go_sem, Try.ntmps61, Try.results61]
  refine call0 (f_bag_order_ok a_0 b_0 v_0 ev_0) (by rfl) (by rfl) ?_
  simp only [go_sem, Try.ntmps61, Try.results61]
  refine seqQ_normal hQ2 ?_
  refine vc_ret_of ?_
  simp only [go_sem, Try.ntmps61, Try.results61]
  obtain rfl := Option.some.inj h
  refine retW_pure rfl ?_
  simp only [go_sem, Le]
end Go.Proofs.Ythpahhhdapdcpaa

namespace Go.Proofs.Ythpahhhdapdcpaa
open Go Go.RowKit
set_option maxHeartbeats 2000000
set_option maxRecDepth 100000
set_option linter.unusedSimpArgs false
set_option linter.unusedVariables false
def f_query_Rows_1 (a_0 : GRec) (b_0 : GRec) : Option Int :=
  bindO (f_bag_Less a_0 b_0) (fun (v_0 : Bool) =>
  (if v_0 = true then some (-1)
  else bindO (f_bag_Less b_0 a_0) (fun (v_1 : Bool) =>
  (if v_1 = true then some 1
  else some 0))))
theorem f_query_Rows_1_ok (a_0 : GRec) (b_0 : GRec)  (r : Int) (h : f_query_Rows_1 a_0 b_0 = some r) : PureS Try.prog 60 [.agg [.v (.int .i64 a_0.K), .v (.int .i64 a_0.V)], .agg [.v (.int .i64 b_0.K), .v (.int .i64 b_0.V)]] 0 (.v (.int .i64 r)) := by
  unfold PureS
  refine Spec.of_vc Try.func60 rfl (by kernel_rfl) (by kernel_rfl) ?_
  rw [f_query_Rows_1] at h
  refine vc_seq_gen (by kernel_rfl) ?_
  intro QQ1 hQ1
  simp only [go_sem, Try.ntmps60, Try.results60]
  refine seqQ_normal hQ1 ?_
  refine vc_seq_gen (by kernel_rfl) ?_
  intro QQ2 hQ2
  refine vc_block_gen ?_
  intro QQ3 hQ3
  refine vc_seq_gen (by kernel_rfl) ?_
  intro QQ4 hQ4
  obtain ⟨v_0, ev_0, h⟩ := bindO_some h
  simp only [go_sem, Try.ntmps60, Try.results60]
  refine call0 (f_bag_Less_ok a_0 b_0 v_0 ev_0) (by rfl) (by rfl) ?_
  simp only [go_sem, Try.ntmps60, Try.results60]
  refine seqQ_normal hQ4 ?_
  refine vc_cond_of (b := v_0) (by (simp only [go_sem]; done)) (fun hb_0 => ?_) (fun hb_0 => ?_)
  ·
    replace h := if_t h hb_0
    refine vc_seq_gen (by kernel_rfl) ?_
    intro QQ5 hQ5
    simp only [go_sem, Try.ntmps60, Try.results60]
    refine seqQ_normal hQ5 ?_
    refine vc_ret_of ?_
    refine blockQ_ret hQ3 ?_
    refine seqQ_ret hQ2 ?_
    simp only [go_sem, Try.ntmps60, Try.results60]
    obtain rfl := Option.some.inj h
    refine retW_pure rfl ?_
    simp only [go_sem, Le]
  ·
    replace h := if_f h hb_0
    refine vc_seq_gen (by kernel_rfl) ?_
    intro QQ6 hQ6
    obtain ⟨v_1, ev_1, h⟩ := bindO_some h
    simp only [go_sem, Try.ntmps60, Try.results60]
    refine call0 (f_bag_Less_ok b_0 a_0 v_1 ev_1) (by rfl) (by rfl) ?_
    simp only [go_sem, Try.ntmps60, Try.results60]
    refine seqQ_normal hQ6 ?_
    refine vc_cond_of (b := v_1) (by (simp only [go_sem]; done)) (fun hb_1 => ?_) (fun hb_1 => ?_)
    ·
      replace h := if_t h hb_1
      refine vc_seq_gen (by kernel_rfl) ?_
      intro QQ7 hQ7
      simp only [go_sem, Try.ntmps60, Try.results60]
      refine seqQ_normal hQ7 ?_
      refine vc_ret_of ?_
      refine blockQ_ret hQ3 ?_
      refine seqQ_ret hQ2 ?_
      simp only [go_sem, Try.ntmps60, Try.results60]
      obtain rfl := Option.some.inj h
      refine retW_pure rfl ?_
      simp only [go_sem, Le]
    ·
      replace h := if_f h hb_1
      refine vc_skip_of ?_
      refine blockQ_normal hQ3 ?_
      refine seqQ_normal hQ2 ?_
      refine vc_seq_gen (by kernel_rfl) ?_
      intro QQ8 hQ8
      simp only [go_sem, Try.ntmps60, Try.results60]
      refine seqQ_normal hQ8 ?_
      refine vc_ret_of ?_
      simp only [go_sem, Try.ntmps60, Try.results60]
      obtain rfl := Option.some.inj h
      refine retW_pure rfl ?_
      simp only [go_sem, Le]
end Go.Proofs.Ythpahhhdapdcpaa

namespace Go.Proofs.Ythpahhhdapdcpaa
open Go Go.RowKit
set_option maxHeartbeats 2000000
set_option maxRecDepth 100000
set_option linter.unusedSimpArgs false
set_option linter.unusedVariables false
def f_math_bits_Add64 (x_0 : Int) (y_0 : Int) (c_0 : Int) : Option (Int × Int) := add64F x_0 y_0 c_0
theorem f_math_bits_Add64_ok (x_0 : Int) (y_0 : Int) (c_0 : Int) (r : Int × Int) (h : f_math_bits_Add64 x_0 y_0 c_0 = some r) : PureS Try.prog 193 [.v (.int .u64 x_0), .v (.int .u64 y_0), .v (.int .u64 c_0)] 0 (.tup [.v (.int .u64 r.1), .v (.int .u64 r.2)]) :=
  add64_pure Try.func193 (by kernel_rfl) (by kernel_rfl) (by kernel_rfl) (by kernel_rfl) h
end Go.Proofs.Ythpahhhdapdcpaa

namespace Go.Proofs.Ythpahhhdapdcpaa
open Go Go.RowKit
set_option maxHeartbeats 2000000
set_option maxRecDepth 100000
set_option linter.unusedSimpArgs false
set_option linter.unusedVariables false
def f_query_wide_plus (w_0 : GQuery_wide) (v_0 : Int) : Option GQuery_wide :=
  bindO (f_math_bits_Add64 w_0.lo.n (IntKind.u64.wrap v_0) 0) (fun (v_1 : Int × Int) =>
  some (⟨IntKind.i64.wrap ((IntKind.i64.wrap (w_0.hi + (shrI .i64 v_0 63))) + (IntKind.i64.wrap v_1.2)), (⟨v_1.1⟩ : Nu64)⟩ : GQuery_wide))
theorem f_query_wide_plus_ok (w_0 : GQuery_wide) (v_0 : Int)  (r : GQuery_wide) (h : f_query_wide_plus w_0 v_0 = some r) : PureS Try.prog 117 [.agg [.v (.int .i64 w_0.hi), .v (.int .u64 w_0.lo.n)], .v (.int .i64 v_0)] 0 (.agg [.v (.int .i64 r.hi), .v (.int .u64 r.lo.n)]) := by
  unfold PureS
  refine Spec.of_vc Try.func117 rfl (by kernel_rfl) (by kernel_rfl) ?_
  rw [f_query_wide_plus] at h
  refine vc_seq_gen (by kernel_rfl) ?_
  intro QQ1 hQ1
  simp only [go_sem, Try.ntmps117, Try.results117]
  refine seqQ_normal hQ1 ?_
  refine vc_seq_gen (by kernel_rfl) ?_
  intro QQ2 hQ2
  obtain ⟨v_1, ev_1, h⟩ := bindO_some h
  simp only [go_sem, Try.ntmps117, Try.results117]
  refine call0 (f_math_bits_Add64_ok w_0.lo.n (IntKind.u64.wrap v_0) 0 v_1 ev_1) (by rfl) (by rfl) ?_
  simp only [go_sem, Try.ntmps117, Try.results117]
  refine seqQ_normal hQ2 ?_
  refine vc_seq_gen (by kernel_rfl) ?_
  intro QQ3 hQ3
  simp only [go_sem, Try.ntmps117, Try.results117]
  refine seqQ_normal hQ3 ?_
  refine vc_ret_of ?_
  simp only [go_sem, Try.ntmps117, Try.results117]
  obtain rfl := Option.some.inj h
  refine retW_pure rfl ?_
  simp only [go_sem, Le]
end Go.Proofs.Ythpahhhdapdcpaa

namespace Go.Proofs.Ythpahhhdapdcpaa
open Go Go.RowKit
set_option maxHeartbeats 2000000
set_option maxRecDepth 100000
set_option linter.unusedSimpArgs false
set_option linter.unusedVariables false
def f_query_group_add_p0_J1 (v_0 : Int) (b_0 : GQuery_group) : Option GQuery_group :=
  bindO (f_query_wide_plus b_0.sum v_0) (fun (v_1 : GQuery_wide) =>
  some (⟨(⟨b_0.Row.K, IntKind.i64.wrap (b_0.Row.Many + 1), min b_0.Row.Least v_0, max b_0.Row.Top v_0, b_0.Row.Sum, b_0.Row.Sure⟩ : GRow), v_1⟩ : GQuery_group))
def f_query_group_add_p0 (g_0 : GQuery_group) (v_0 : Int) : Option GQuery_group :=
  (if (g_0.Row.Many == 0) = true then f_query_group_add_p0_J1 v_0 (⟨(⟨g_0.Row.K, g_0.Row.Many, v_0, v_0, g_0.Row.Sum, g_0.Row.Sure⟩ : GRow), g_0.sum⟩ : GQuery_group)
  else f_query_group_add_p0_J1 v_0 g_0)
theorem f_query_group_add_p0_det (g_0 : GQuery_group) (v_0 : Int)  (r : GQuery_group) (h : f_query_group_add_p0 g_0 v_0 = some r) : DetS Try.prog 62 [.ptr 0 0, .v (.int .i64 v_0)] [(0, .box [.v (.int .i64 g_0.Row.K), .v (.int .i64 g_0.Row.Many), .v (.int .i64 g_0.Row.Least), .v (.int .i64 g_0.Row.Top), .v (.int .i64 g_0.Row.Sum), .v (.bool g_0.Row.Sure), .v (.int .i64 g_0.sum.hi), .v (.int .u64 g_0.sum.lo.n)])] 1 (.tup []) [(0, .box [.v (.int .i64 r.Row.K), .v (.int .i64 r.Row.Many), .v (.int .i64 r.Row.Least), .v (.int .i64 r.Row.Top), .v (.int .i64 r.Row.Sum), .v (.bool r.Row.Sure), .v (.int .i64 r.sum.hi), .v (.int .u64 r.sum.lo.n)])] 1 := by
  unfold DetS
  refine Spec.of_vc Try.func62 rfl (by kernel_rfl) (by kernel_rfl) ?_
  rw [f_query_group_add_p0] at h
  refine vc_join (by kernel_rfl) ?_
  refine seq_cut_gen (ι := GQuery_group) (fun (b_0 : GQuery_group) => (⟨1, [(0, .ptr 0 0), (1, .v (.int .i64 v_0))], [(0, .box [.v (.int .i64 b_0.Row.K), .v (.int .i64 b_0.Row.Many), .v (.int .i64 b_0.Row.Least), .v (.int .i64 b_0.Row.Top), .v (.int .i64 b_0.Row.Sum), .v (.bool b_0.Row.Sure), .v (.int .i64 b_0.sum.hi), .v (.int .u64 b_0.sum.lo.n)])], 1, 60⟩ : St)) (fun (b_0 : GQuery_group) => f_query_group_add_p0_J1 v_0 b_0 = some r) ?_ ?_
  ·
    intro QQ3 hQ3
    refine vc_seq_gen (by kernel_rfl) ?_
    intro QQ4 hQ4
    simp only [go_sem, Try.ntmps62, Try.results62]
    refine seqQ_normal hQ4 ?_
    refine vc_cond_of (b := (g_0.Row.Many == 0)) (by (simp only [go_sem]; done)) (fun hb_1 => ?_) (fun hb_1 => ?_)
    ·
      replace h := if_t h hb_1
      simp only [decide_eq_true_eq, decide_eq_false_iff_not, Bool.not_eq_true', Bool.not_eq_false', beq_iff_eq, beq_eq_false_iff_ne, ne_eq, Bool.and_eq_true, Bool.or_eq_true, Int.not_lt, Int.not_le] at hb_1
      simp only [go_sem, Try.ntmps62, Try.results62]
      refine thenQ_normal hQ3 ?_
      refine ⟨(⟨(⟨g_0.Row.K, g_0.Row.Many, v_0, v_0, g_0.Row.Sum, g_0.Row.Sure⟩ : GRow), g_0.sum⟩ : GQuery_group), [], ?_, h⟩
      simp only [go_sem, Le]
    ·
      replace h := if_f h hb_1
      simp only [decide_eq_true_eq, decide_eq_false_iff_not, Bool.not_eq_true', Bool.not_eq_false', beq_iff_eq, beq_eq_false_iff_ne, ne_eq, Bool.and_eq_true, Bool.or_eq_true, Int.not_lt, Int.not_le] at hb_1
      refine vc_skip_of ?_
      refine thenQ_normal hQ3 ?_
      refine ⟨g_0, [], ?_, h⟩
      simp only [go_sem, Le]
  · rintro b_0 h
    try dsimp only at h
    rw [f_query_group_add_p0_J1] at h
    refine vc_seq_gen (by kernel_rfl) ?_
    intro QQ1 hQ1
    simp only [go_sem, Try.ntmps62, Try.results62]
    refine seqQ_normal hQ1 ?_
    refine vc_seq_gen (by kernel_rfl) ?_
    intro QQ2 hQ2
    refine vc_draw ?_
    refine drawV_all 20 0 [0, 0, 0, 4, 12, 28, 60, 0, 252, 0, 512, 1536, 3584, 7680, 0, 32256, 16381, 81917, 212989, 475133, 1048575, 2097151, 4194303, 8388607] [0] [1, 14, 15] [19] [] mixed (by kernel_rfl) (of_decide_eq_true (by kernel_rfl)) (by kernel_rfl) (by kernel_rfl) (by rfl) ?_
    simp only [go_sem, Try.ntmps62, Try.results62]
    refine seqQ_normal hQ2 ?_
    obtain ⟨v_1, ev_1, h⟩ := bindO_some h
    simp only [go_sem, Try.ntmps62, Try.results62]
    refine call0 (f_query_wide_plus_ok b_0.sum v_0 v_1 ev_1) (by rfl) (by rfl) ?_
    simp only [go_sem, Try.ntmps62, Try.results62]
    obtain rfl := Option.some.inj h
    refine retW_det [] ?_
    simp only [go_sem, Le]
theorem f_query_group_add_p0_mut (g_0 : GQuery_group) (v_0 : Int)  (r : GQuery_group) (h : f_query_group_add_p0 g_0 v_0 = some r) : DetS Try.prog 62 [.ptr 0 0, .v (.int .i64 v_0)] [(0, .box [.v (.int .i64 g_0.Row.K), .v (.int .i64 g_0.Row.Many), .v (.int .i64 g_0.Row.Least), .v (.int .i64 g_0.Row.Top), .v (.int .i64 g_0.Row.Sum), .v (.bool g_0.Row.Sure), .v (.int .i64 g_0.sum.hi), .v (.int .u64 g_0.sum.lo.n)])] 1 (.tup []) [(0, .box [.v (.int .i64 r.Row.K), .v (.int .i64 r.Row.Many), .v (.int .i64 r.Row.Least), .v (.int .i64 r.Row.Top), .v (.int .i64 r.Row.Sum), .v (.bool r.Row.Sure), .v (.int .i64 r.sum.hi), .v (.int .u64 r.sum.lo.n)])] 1 := by
  refine (f_query_group_add_p0_det g_0 v_0  r h).less [] ?_
  simp only [go_sem, Le]
end Go.Proofs.Ythpahhhdapdcpaa

namespace Go.Proofs.Ythpahhhdapdcpaa
open Go Go.RowKit
set_option maxHeartbeats 2000000
set_option maxRecDepth 100000
set_option linter.unusedSimpArgs false
set_option linter.unusedVariables false
def f_query_wide_number (w_0 : GQuery_wide) : Option (Int × Bool) :=
  (if (!(w_0.hi == (shrI .i64 (IntKind.i64.wrap w_0.lo.n) 63))) = true then some (0, false)
  else some (IntKind.i64.wrap w_0.lo.n, true))
theorem f_query_wide_number_ok (w_0 : GQuery_wide)  (r : Int × Bool) (h : f_query_wide_number w_0 = some r) : PureS Try.prog 118 [.agg [.v (.int .i64 w_0.hi), .v (.int .u64 w_0.lo.n)]] 0 (.tup [.v (.int .i64 r.1), .v (.bool r.2)]) := by
  unfold PureS
  refine Spec.of_vc Try.func118 rfl (by kernel_rfl) (by kernel_rfl) ?_
  rw [f_query_wide_number] at h
  refine vc_seq_gen (by kernel_rfl) ?_
  intro QQ1 hQ1
  simp only [go_sem, Try.ntmps118, Try.results118]
  refine seqQ_normal hQ1 ?_
  refine vc_seq_gen (by kernel_rfl) ?_
  intro QQ2 hQ2
  simp only [go_sem, Try.ntmps118, Try.results118]
  refine seqQ_normal hQ2 ?_
  refine vc_seq_gen (by kernel_rfl) ?_
  intro QQ3 hQ3
  refine vc_seq_gen (by kernel_rfl) ?_
  intro QQ4 hQ4
  simp only [go_sem, Try.ntmps118, Try.results118]
  refine seqQ_normal hQ4 ?_
  refine vc_cond_of (b := (!(w_0.hi == (shrI .i64 (IntKind.i64.wrap w_0.lo.n) 63)))) (by (simp only [go_sem]; done)) (fun hb_0 => ?_) (fun hb_0 => ?_)
  ·
    replace h := if_t h hb_0
    simp only [decide_eq_true_eq, decide_eq_false_iff_not, Bool.not_eq_true', Bool.not_eq_false', beq_iff_eq, beq_eq_false_iff_ne, ne_eq, Bool.and_eq_true, Bool.or_eq_true, Int.not_lt, Int.not_le] at hb_0
    refine vc_seq_gen (by kernel_rfl) ?_
    intro QQ5 hQ5
    simp only [go_sem, Try.ntmps118, Try.results118]
    refine seqQ_normal hQ5 ?_
    refine vc_ret_of ?_
    refine seqQ_ret hQ3 ?_
    simp only [go_sem, Try.ntmps118, Try.results118]
    obtain rfl := Option.some.inj h
    refine retW_pure rfl ?_
    simp only [go_sem, Le]
  ·
    replace h := if_f h hb_0
    simp only [decide_eq_true_eq, decide_eq_false_iff_not, Bool.not_eq_true', Bool.not_eq_false', beq_iff_eq, beq_eq_false_iff_ne, ne_eq, Bool.and_eq_true, Bool.or_eq_true, Int.not_lt, Int.not_le] at hb_0
    refine vc_skip_of ?_
    refine seqQ_normal hQ3 ?_
    refine vc_seq_gen (by kernel_rfl) ?_
    intro QQ6 hQ6
    simp only [go_sem, Try.ntmps118, Try.results118]
    refine seqQ_normal hQ6 ?_
    refine vc_ret_of ?_
    simp only [go_sem, Try.ntmps118, Try.results118]
    obtain rfl := Option.some.inj h
    refine retW_pure rfl ?_
    simp only [go_sem, Le]
end Go.Proofs.Ythpahhhdapdcpaa

namespace Go.Proofs.Ythpahhhdapdcpaa
open Go Go.RowKit
set_option maxHeartbeats 2000000
set_option maxRecDepth 100000
set_option linter.unusedSimpArgs false
set_option linter.unusedVariables false
def f_query_group_row_p0 (g_0 : GQuery_group) : Option (GRow × GQuery_group) :=
  bindO (f_query_wide_number g_0.sum) (fun (v_0 : Int × Bool) =>
  some ((⟨g_0.Row.K, g_0.Row.Many, g_0.Row.Least, g_0.Row.Top, v_0.1, v_0.2⟩ : GRow), (⟨(⟨g_0.Row.K, g_0.Row.Many, g_0.Row.Least, g_0.Row.Top, v_0.1, v_0.2⟩ : GRow), g_0.sum⟩ : GQuery_group)))
theorem f_query_group_row_p0_det (g_0 : GQuery_group)  (r : GRow × GQuery_group) (h : f_query_group_row_p0 g_0 = some r) : DetS Try.prog 63 [.ptr 0 0] [(0, .box [.v (.int .i64 g_0.Row.K), .v (.int .i64 g_0.Row.Many), .v (.int .i64 g_0.Row.Least), .v (.int .i64 g_0.Row.Top), .v (.int .i64 g_0.Row.Sum), .v (.bool g_0.Row.Sure), .v (.int .i64 g_0.sum.hi), .v (.int .u64 g_0.sum.lo.n)])] 1 (.agg [.v (.int .i64 r.1.K), .v (.int .i64 r.1.Many), .v (.int .i64 r.1.Least), .v (.int .i64 r.1.Top), .v (.int .i64 r.1.Sum), .v (.bool r.1.Sure)]) [(0, .box [.v (.int .i64 r.2.Row.K), .v (.int .i64 r.2.Row.Many), .v (.int .i64 r.2.Row.Least), .v (.int .i64 r.2.Row.Top), .v (.int .i64 r.2.Row.Sum), .v (.bool r.2.Row.Sure), .v (.int .i64 r.2.sum.hi), .v (.int .u64 r.2.sum.lo.n)])] 1 := by
  unfold DetS
  refine Spec.of_vc Try.func63 rfl (by kernel_rfl) (by kernel_rfl) ?_
  rw [f_query_group_row_p0] at h
  refine vc_seq_gen (by kernel_rfl) ?_
  intro QQ1 hQ1
  simp only [go_sem, Try.ntmps63, Try.results63]
  refine seqQ_normal hQ1 ?_
  refine vc_seq_gen (by kernel_rfl) ?_
  intro QQ2 hQ2
  obtain ⟨v_0, ev_0, h⟩ := bindO_some h
  simp only [go_sem, Try.ntmps63, Try.results63]
  refine call0 (f_query_wide_number_ok g_0.sum v_0 ev_0) (by rfl) (by rfl) ?_
  simp only [go_sem, Try.ntmps63, Try.results63]
  refine seqQ_normal hQ2 ?_
  refine vc_seq_gen (by kernel_rfl) ?_
  intro QQ3 hQ3
  simp only [go_sem, Try.ntmps63, Try.results63]
  refine seqQ_normal hQ3 ?_
  refine vc_ret_of ?_
  simp only [go_sem, Try.ntmps63, Try.results63]
  obtain rfl := Option.some.inj h
  refine retW_det [] ?_
  simp only [go_sem, Le]
theorem f_query_group_row_p0_mut (g_0 : GQuery_group)  (r : GRow × GQuery_group) (h : f_query_group_row_p0 g_0 = some r) : DetS Try.prog 63 [.ptr 0 0] [(0, .box [.v (.int .i64 g_0.Row.K), .v (.int .i64 g_0.Row.Many), .v (.int .i64 g_0.Row.Least), .v (.int .i64 g_0.Row.Top), .v (.int .i64 g_0.Row.Sum), .v (.bool g_0.Row.Sure), .v (.int .i64 g_0.sum.hi), .v (.int .u64 g_0.sum.lo.n)])] 1 (.agg [.v (.int .i64 r.1.K), .v (.int .i64 r.1.Many), .v (.int .i64 r.1.Least), .v (.int .i64 r.1.Top), .v (.int .i64 r.1.Sum), .v (.bool r.1.Sure)]) [(0, .box [.v (.int .i64 r.2.Row.K), .v (.int .i64 r.2.Row.Many), .v (.int .i64 r.2.Row.Least), .v (.int .i64 r.2.Row.Top), .v (.int .i64 r.2.Row.Sum), .v (.bool r.2.Row.Sure), .v (.int .i64 r.2.sum.hi), .v (.int .u64 r.2.sum.lo.n)])] 1 := by
  refine (f_query_group_row_p0_det g_0  r h).less [] ?_
  simp only [go_sem, Le]
end Go.Proofs.Ythpahhhdapdcpaa

namespace Go.Proofs.Ythpahhhdapdcpaa
open Go Go.RowKit
set_option maxHeartbeats 2000000
set_option maxRecDepth 100000
set_option linter.unusedSimpArgs false
set_option linter.unusedVariables false
noncomputable def f_query_Rows_J3 (a_4 : List GRow) (rec_2 : (Int × (List GRow) → Option (List GRow))) (atv_14 : Int) (b_12 : GQuery_group) : Option (List GRow) :=
  bindO (f_query_group_row_p0 b_12) (fun (v_18 : GRow × GQuery_group) =>
  guardO ((List.length a_4 + List.length ([v_18.1] : List GRow)) * 48 ≤ 140737488355328) (
  rec_2 (atv_14, (a_4 ++ ([v_18.1] : List GRow)))))
noncomputable def f_query_Rows_B4 (v_0 : List GRec) (a_4 : List GRow) (rec_2 : (Int × (List GRow) → Option (List GRow))) (rec_4 : Int × GQuery_group → Option (List GRow)) : Int × GQuery_group → Option (List GRow) :=
  fun (atv_16, b_14) =>
  (if (decide (atv_16 < (List.length v_0 : Int))) = true then bindO (idx v_0 atv_16) (fun (xv_17 : GRec) =>
  (if (xv_17.K == b_14.Row.K) = true then bindO (f_query_group_add_p0 b_14 xv_17.V) (fun (v_21 : GQuery_group) =>
  rec_4 (IntKind.i64.wrap (atv_16 + 1), v_21))
  else f_query_Rows_J3 a_4 rec_2 atv_16 b_14))
  else f_query_Rows_J3 a_4 rec_2 atv_16 b_14)
noncomputable def f_query_Rows_B2 (v_0 : List GRec) (rec_2 : Int × (List GRow) → Option (List GRow)) : Int × (List GRow) → Option (List GRow) :=
  fun (atv_11, a_4) =>
  (if (decide (atv_11 < (List.length v_0 : Int))) = true then bindO (idx v_0 atv_11) (fun (xv_13 : GRec) =>
  loopK (f_query_Rows_B4 v_0 a_4 rec_2) rounds (atv_11, (⟨(⟨xv_13.K, 0, 0, 0, 0, false⟩ : GRow), (⟨0, (⟨0⟩ : Nu64)⟩ : GQuery_wide)⟩ : GQuery_group)))
  else some a_4)
noncomputable def f_query_Rows_J1 (a_2 : List GRec) : Option (List GRow) :=
  bindO (f_slices_SortFunc_Rec_s0_0 a_2 (fun x0_ x1_ => f_query_Rows_1 x0_ x1_)) (fun (v_0 : List GRec) =>
  guardO (List.length v_0 = List.length a_2) (
  loopK (f_query_Rows_B2 v_0) rounds (0, [])))
noncomputable def f_query_Rows_B5 (l_0 : List GOut) (node_0 : Int) (fromv_0 : Int) (tov_0 : Int) (rec_5 : Int × (List GRec) → Option (List GRow)) : Int × (List GRec) → Option (List GRow) :=
  fun (t17_3, a_6) =>
  (if (decide (t17_3 < (List.length l_0 : Int))) = true then bindO (idx l_0 t17_3) (fun (xv_20 : GOut) =>
  (if (((xv_20.Node == node_0) && (decide (fromv_0 ≤ xv_20.Epoch))) && (decide (xv_20.Epoch ≤ tov_0))) = true then guardO ((List.length a_6 + List.length ([xv_20.Rec] : List GRec)) * 16 ≤ 140737488355328) (
  rec_5 (IntKind.i64.wrap (t17_3 + 1), (a_6 ++ ([xv_20.Rec] : List GRec))))
  else rec_5 (IntKind.i64.wrap (t17_3 + 1), a_6)))
  else f_query_Rows_J1 a_6)
noncomputable def f_query_Rows (l_0 : List GOut) (node_0 : Int) (fromv_0 : Int) (tov_0 : Int) : Option (List GRow) :=
  loopK (f_query_Rows_B5 l_0 node_0 fromv_0 tov_0) rounds (0, [])
theorem f_query_Rows_det (l_0 : List GOut) (node_0 : Int) (fromv_0 : Int) (tov_0 : Int)  (r : List GRow) (h : f_query_Rows l_0 node_0 fromv_0 tov_0 = some r) : DetS Try.prog 17 [.sl 4 (enc l_0), .v (.int .i64 node_0), .v (.int .i64 fromv_0), .v (.int .i64 tov_0)] [] 0 (.osl 0 6 (0) (List.length r)) [(0, .arr 6 (enc r))] 1 := by
  unfold DetS
  refine Spec.of_vc Try.func17 rfl (by kernel_rfl) (by kernel_rfl) ?_
  rw [f_query_Rows] at h
  refine vc_seq_gen (by kernel_rfl) ?_
  intro QQ1 hQ1
  simp only [go_sem, Try.ntmps17, Try.results17]
  refine seqQ_normal hQ1 ?_
  refine vc_seq_gen (by kernel_rfl) ?_
  intro QQ2 hQ2
  simp only [go_sem, Try.ntmps17, Try.results17]
  refine seqQ_normal hQ2 ?_
  refine vc_join (by kernel_rfl) ?_
  refine seq_cut_gen (ι := (List GRec)) (fun (a_2 : (List GRec)) => (⟨0, [(9, .osl 0 2 (0) (List.length a_2))], [(0, .arr 2 (enc a_2))], 1, 89⟩ : St)) (fun (a_2 : (List GRec)) => f_query_Rows_J1 a_2 = some r) ?_ ?_
  ·
    intro QQ21 hQ21
    refine vc_seq_gen (by kernel_rfl) ?_
    intro QQ22 hQ22
    simp only [go_sem, Try.ntmps17, Try.results17]
    refine seqQ_normal hQ22 ?_
    refine vc_block_gen ?_
    intro QQ23 hQ23
    refine vc_loop_of ?_
    refine loop_gen (ι := Nat × Int × (List GRec)) (fun ((_, t17_3, a_6) : Nat × Int × (List GRec)) => (⟨0, [(1, .v (.int .i64 node_0)), (2, .v (.int .i64 fromv_0)), (3, .v (.int .i64 tov_0)), (9, .osl 0 2 (0) (List.length a_6)), (15, .sl 4 (enc l_0)), (16, .v (.int .i64 (List.length l_0 : Int))), (17, .v (.int .i64 t17_3))], [(0, .arr 2 (enc a_6))], 1, 89⟩ : St)) (fun ((n_, t17_3, a_6) : Nat × Int × (List GRec)) => loopK (f_query_Rows_B5 l_0 node_0 fromv_0 tov_0) n_ (t17_3, a_6) = some r) (fun p => p.1) (rounds, 0, []) [none] ?_ h ?_
    · simp only [go_sem, Le] <;> (repeat' apply And.intro) <;> ((try with_reducible refine TL_eq ?_); (simp [go_sem]; done))
    · rintro ⟨n_5, t17_3, a_6⟩ h QQ24 hQ24
      dsimp only at h
      replace h := loopK_some h
      obtain ⟨m_5, rfl, h⟩ := h
      rw [f_query_Rows_B5] at h
      refine vc_seq_gen (by kernel_rfl) ?_
      intro QQ25 hQ25
      simp only [go_sem, Try.ntmps17, Try.results17]
      refine seqQ_normal hQ25 ?_
      refine vc_seq_gen (by kernel_rfl) ?_
      intro QQ26 hQ26
      refine vc_cond_of (b := (decide (t17_3 < (List.length l_0 : Int)))) (by (simp only [go_sem]; done)) (fun hb_49 => ?_) (fun hb_49 => ?_)
      ·
        replace h := if_t h hb_49
        simp only [decide_eq_true_eq, decide_eq_false_iff_not, Bool.not_eq_true', Bool.not_eq_false', beq_iff_eq, beq_eq_false_iff_ne, ne_eq, Bool.and_eq_true, Bool.or_eq_true, Int.not_lt, Int.not_le] at hb_49
        refine vc_skip_of ?_
        refine seqQ_normal hQ26 ?_
        refine vc_join (by kernel_rfl) ?_
        refine seq_go_gen ?_
        intro QQ27 hQ27
        refine vc_block_gen ?_
        intro QQ28 hQ28
        refine vc_seq_gen (by kernel_rfl) ?_
        intro QQ29 hQ29
        obtain ⟨xv_20, exv_20, h⟩ := bindO_some h
        obtain ⟨fxv_20a, fxv_20b, fxv_20c⟩ := idx_spec exv_20
        simp only [go_sem, Try.ntmps17, Try.results17, fxv_20a, fxv_20b, fxv_20c]
        refine And.intro (by omega) ?_
        refine seqQ_normal hQ29 ?_
        refine vc_seq_gen (by kernel_rfl) ?_
        intro QQ30 hQ30
        simp only [go_sem, Try.ntmps17, Try.results17]
        refine And.intro (by omega) ?_
        refine seqQ_normal hQ30 ?_
        refine vc_cond_of (b := (((xv_20.Node == node_0) && (decide (fromv_0 ≤ xv_20.Epoch))) && (decide (xv_20.Epoch ≤ tov_0)))) (by (simp only [go_sem]; done)) (fun hb_50 => ?_) (fun hb_50 => ?_)
        ·
          replace h := if_t h hb_50
          simp only [decide_eq_true_eq, decide_eq_false_iff_not, Bool.not_eq_true', Bool.not_eq_false', beq_iff_eq, beq_eq_false_iff_ne, ne_eq, Bool.and_eq_true, Bool.or_eq_true, Int.not_lt, Int.not_le] at hb_50
          have rf_13 : [[.v (.int .i64 xv_20.Rec.K), .v (.int .i64 xv_20.Rec.V)]] = enc ([xv_20.Rec] : List GRec) := by rfl
          obtain ⟨g_9, h⟩ := guardO_some h
          simp only [List.length_cons, List.length_nil, Nat.zero_add, List.length_append] at g_9
          have rf_14 : enc a_6 ++ [[.v (.int .i64 xv_20.Rec.K), .v (.int .i64 xv_20.Rec.V)]] = enc (a_6 ++ ([xv_20.Rec] : List GRec)) := by exact (enc_app a_6 ([xv_20.Rec] : List GRec)).symm
          simp only [go_sem, Try.ntmps17, Try.results17, g_9, rf_14]
          simp only [rf_13]
          refine blockQ_normal hQ28 ?_
          refine seqQ_normal hQ27 ?_
          simp only [go_sem, Try.ntmps17, Try.results17]
          refine thenQ_normal hQ24 ?_
          refine ⟨(m_5, IntKind.i64.wrap (t17_3 + 1), (a_6 ++ ([xv_20.Rec] : List GRec))), [some 3], ?_, h, Nat.lt_succ_self _⟩
          simp only [go_sem, Le] <;> (repeat' apply And.intro) <;> ((try with_reducible refine TL_eq ?_); (simp [go_sem]; done))
        ·
          replace h := if_f h hb_50
          refine vc_skip_of ?_
          refine blockQ_normal hQ28 ?_
          refine seqQ_normal hQ27 ?_
          simp only [go_sem, Try.ntmps17, Try.results17]
          refine thenQ_normal hQ24 ?_
          refine ⟨(m_5, IntKind.i64.wrap (t17_3 + 1), a_6), [some 0], ?_, h, Nat.lt_succ_self _⟩
          simp only [go_sem, Le]
      ·
        replace h := if_f h hb_49
        simp only [decide_eq_true_eq, decide_eq_false_iff_not, Bool.not_eq_true', Bool.not_eq_false', beq_iff_eq, beq_eq_false_iff_ne, ne_eq, Bool.and_eq_true, Bool.or_eq_true, Int.not_lt, Int.not_le] at hb_49
        refine vc_exit_of ?_
        refine seqQ_exit hQ26 ?_
        refine thenQ_exit hQ24 ?_
        refine blockQ_exit hQ23 ?_
        refine thenQ_normal hQ21 ?_
        refine ⟨a_6, [some 0], ?_, h⟩
        simp only [go_sem, Le]
  · rintro a_2 h
    try dsimp only at h
    rw [f_query_Rows_J1] at h
    refine vc_seq_gen (by kernel_rfl) ?_
    intro QQ3 hQ3
    obtain ⟨v_0, ev_0, h⟩ := bindO_some h
    simp only [go_sem, Try.ntmps17, Try.results17]
    refine callD [0] (f_slices_SortFunc_Rec_s0_0_det a_2 (fun x0_ x1_ => f_query_Rows_1 x0_ x1_) 60 [] (by rfl) (by kernel_rfl) (fun y0 y1 r_ e_ => f_query_Rows_1_ok y0 y1 r_ e_) v_0 ev_0) (by simp) rfl ⟨rfl, trivial⟩ rfl rfl rfl rfl ?_
    obtain ⟨g_3, h⟩ := guardO_some h
    simp only [go_sem, Try.ntmps17, Try.results17, g_3]
    refine seqQ_normal hQ3 ?_
    refine vc_seq_gen (by kernel_rfl) ?_
    intro QQ4 hQ4
    simp only [go_sem, Try.ntmps17, Try.results17]
    refine seqQ_normal hQ4 ?_
    refine vc_join (by kernel_rfl) ?_
    refine seq_go_gen ?_
    intro QQ5 hQ5
    refine vc_seq_gen (by kernel_rfl) ?_
    intro QQ6 hQ6
    simp only [go_sem, Try.ntmps17, Try.results17]
    refine seqQ_normal hQ6 ?_
    refine vc_block_gen ?_
    intro QQ7 hQ7
    refine vc_loop_of ?_
    refine loop_gen (ι := Nat × Int × (List GRow)) (fun ((_, atv_11, a_4) : Nat × Int × (List GRow)) => (⟨0, [(9, .osl 0 2 (0) (List.length v_0)), (12, .osl 1 6 (0) (List.length a_4)), (13, .v (.int .i64 atv_11))], [(0, .arr 2 (enc v_0)), (1, .arr 6 (enc a_4))], 2, 89⟩ : St)) (fun ((n_, atv_11, a_4) : Nat × Int × (List GRow)) => loopK (f_query_Rows_B2 v_0) n_ (atv_11, a_4) = some r) (fun p => p.1) (rounds, 0, []) [some 0, none] ?_ h ?_
    · simp only [go_sem, Le] <;> (repeat' apply And.intro) <;> first | ((try with_reducible refine TL_eq ?_); omega) | ((try with_reducible refine TL_eq ?_); (simp [go_sem]; done))
    · rintro ⟨n_2, atv_11, a_4⟩ h QQ8 hQ8
      dsimp only at h
      replace h := loopK_some h
      obtain ⟨m_2, rfl, h⟩ := h
      rw [f_query_Rows_B2] at h
      refine vc_seq_gen (by kernel_rfl) ?_
      intro QQ9 hQ9
      refine vc_seq_gen (by kernel_rfl) ?_
      intro QQ10 hQ10
      simp only [go_sem, Try.ntmps17, Try.results17]
      refine seqQ_normal hQ10 ?_
      refine vc_cond_of (b := (decide (atv_11 < (List.length v_0 : Int)))) (by (simp only [go_sem]; done)) (fun hb_32 => ?_) (fun hb_32 => ?_)
      ·
        replace h := if_t h hb_32
        simp only [decide_eq_true_eq, decide_eq_false_iff_not, Bool.not_eq_true', Bool.not_eq_false', beq_iff_eq, beq_eq_false_iff_ne, ne_eq, Bool.and_eq_true, Bool.or_eq_true, Int.not_lt, Int.not_le] at hb_32
        refine vc_skip_of ?_
        refine seqQ_normal hQ9 ?_
        refine vc_block_gen ?_
        intro QQ11 hQ11
        refine vc_seq_gen (by kernel_rfl) ?_
        intro QQ12 hQ12
        obtain ⟨xv_13, exv_13, h⟩ := bindO_some h
        obtain ⟨fxv_13a, fxv_13b, fxv_13c⟩ := idx_spec exv_13
        simp only [go_sem, Try.ntmps17, Try.results17, fxv_13a, fxv_13b, fxv_13c]
        refine And.intro (by omega) ?_
        refine seqQ_normal hQ12 ?_
        refine vc_join (by kernel_rfl) ?_
        refine seq_cut_gen (ι := Int × GQuery_group) (fun ((atv_14, b_12) : Int × GQuery_group) => (⟨0, [(9, .osl 0 2 (0) (List.length v_0)), (12, .osl 1 6 (0) (List.length a_4)), (13, .v (.int .i64 atv_14)), (14, .ptr 2 0)], [(0, .arr 2 (enc v_0)), (1, .arr 6 (enc a_4)), (2, .box [.v (.int .i64 b_12.Row.K), .v (.int .i64 b_12.Row.Many), .v (.int .i64 b_12.Row.Least), .v (.int .i64 b_12.Row.Top), .v (.int .i64 b_12.Row.Sum), .v (.bool b_12.Row.Sure), .v (.int .i64 b_12.sum.hi), .v (.int .u64 b_12.sum.lo.n)])], 3, 89⟩ : St)) (fun ((atv_14, b_12) : Int × GQuery_group) => f_query_Rows_J3 a_4 (loopK (f_query_Rows_B2 v_0) m_2) atv_14 b_12 = some r) ?_ ?_
        ·
          intro QQ13 hQ13
          refine vc_block_gen ?_
          intro QQ14 hQ14
          refine vc_loop_of ?_
          refine loop_gen (ι := Nat × Int × GQuery_group) (fun ((_, atv_16, b_14) : Nat × Int × GQuery_group) => (⟨0, [(9, .osl 0 2 (0) (List.length v_0)), (12, .osl 1 6 (0) (List.length a_4)), (13, .v (.int .i64 atv_16)), (14, .ptr 2 0)], [(0, .arr 2 (enc v_0)), (1, .arr 6 (enc a_4)), (2, .box [.v (.int .i64 b_14.Row.K), .v (.int .i64 b_14.Row.Many), .v (.int .i64 b_14.Row.Least), .v (.int .i64 b_14.Row.Top), .v (.int .i64 b_14.Row.Sum), .v (.bool b_14.Row.Sure), .v (.int .i64 b_14.sum.hi), .v (.int .u64 b_14.sum.lo.n)])], 3, 89⟩ : St)) (fun ((n_, atv_16, b_14) : Nat × Int × GQuery_group) => loopK (f_query_Rows_B4 v_0 a_4 (loopK (f_query_Rows_B2 v_0) m_2)) n_ (atv_16, b_14) = some r) (fun p => p.1) (rounds, atv_11, (⟨(⟨xv_13.K, 0, 0, 0, 0, false⟩ : GRow), (⟨0, (⟨0⟩ : Nu64)⟩ : GQuery_wide)⟩ : GQuery_group)) [some 0, some 1, some 2] ?_ h ?_
          · simp only [go_sem, Le] <;> (repeat' apply And.intro) <;> first | ((try with_reducible refine TL_eq ?_); omega) | ((try with_reducible refine TL_eq ?_); (simp [go_sem]; done))
          · rintro ⟨n_4, atv_16, b_14⟩ h QQ15 hQ15
            dsimp only at h
            replace h := loopK_some h
            obtain ⟨m_4, rfl, h⟩ := h
            rw [f_query_Rows_B4] at h
            refine vc_seq_gen (by kernel_rfl) ?_
            intro QQ16 hQ16
            refine vc_seq_gen (by kernel_rfl) ?_
            intro QQ17 hQ17
            refine vc_draw ?_
            refine drawM_tail 15 [0, 0, 2, 7, 15, 31, 31, 127, 255, 511, 31, 1055, 3103, 7199, 15391, 32767, 65535] mixed (by kernel_rfl) (of_decide_eq_true (by kernel_rfl)) (by kernel_rfl) ?_
            simp only [go_sem, Try.ntmps17, Try.results17]
            rcases hb_43 : (decide (atv_16 < (List.length v_0 : Int))) with _ | _
            ·
              replace h := if_f h hb_43
              simp only [go_sem, Try.ntmps17, Try.results17, hb_43]
              refine seqQ_normal hQ17 ?_
              refine vc_cond_f (by (simp only [go_sem]; done)) ?_
              refine vc_exit_of ?_
              refine seqQ_exit hQ16 ?_
              refine thenQ_exit hQ15 ?_
              refine blockQ_exit hQ14 ?_
              refine thenQ_normal hQ13 ?_
              refine ⟨(atv_16, b_14), [some 0, some 1, some 2], ?_, h⟩
              simp only [go_sem, Le] <;> (repeat' apply And.intro) <;> first | ((try with_reducible refine TL_eq ?_); omega) | ((try with_reducible refine TL_eq ?_); (simp [go_sem]; done))
            ·
              replace h := if_t h hb_43
              obtain ⟨xv_17, exv_17, h⟩ := bindO_some h
              obtain ⟨fxv_17a, fxv_17b, fxv_17c⟩ := idx_spec exv_17
              simp only [go_sem, Try.ntmps17, Try.results17, hb_43, fxv_17a, fxv_17b, fxv_17c]
              refine And.intro (by omega) ?_
              refine seqQ_normal hQ17 ?_
              refine vc_cond_of (b := (xv_17.K == b_14.Row.K)) (by (simp only [go_sem]; done)) (fun hb_44 => ?_) (fun hb_44 => ?_)
              ·
                replace h := if_t h hb_44
                simp only [decide_eq_true_eq, decide_eq_false_iff_not, Bool.not_eq_true', Bool.not_eq_false', beq_iff_eq, beq_eq_false_iff_ne, ne_eq, Bool.and_eq_true, Bool.or_eq_true, Int.not_lt, Int.not_le] at hb_44
                refine vc_skip_of ?_
                refine seqQ_normal hQ16 ?_
                refine vc_block_gen ?_
                intro QQ18 hQ18
                refine vc_seq_gen (by kernel_rfl) ?_
                intro QQ19 hQ19
                obtain ⟨v_21, ev_21, h⟩ := bindO_some h
                simp only [go_sem, Try.ntmps17, Try.results17, fxv_17a, fxv_17b, fxv_17c]
                refine And.intro (by omega) ?_
                refine callD [2] (f_query_group_add_p0_det b_14 xv_17.V v_21 ev_21) (by simp) rfl ⟨rfl, trivial⟩ rfl rfl rfl rfl ?_
                simp only [go_sem, Try.ntmps17, Try.results17]
                refine seqQ_normal hQ19 ?_
                simp only [go_sem, Try.ntmps17, Try.results17]
                refine blockQ_normal hQ18 ?_
                refine thenQ_normal hQ15 ?_
                refine ⟨(m_4, IntKind.i64.wrap (atv_16 + 1), v_21), [some 0, some 1, some 2], ?_, h, Nat.lt_succ_self _⟩
                simp only [go_sem, Le] <;> (repeat' apply And.intro) <;> first | ((try with_reducible refine TL_eq ?_); omega) | ((try with_reducible refine TL_eq ?_); (simp [go_sem]; done))
              ·
                replace h := if_f h hb_44
                simp only [decide_eq_true_eq, decide_eq_false_iff_not, Bool.not_eq_true', Bool.not_eq_false', beq_iff_eq, beq_eq_false_iff_ne, ne_eq, Bool.and_eq_true, Bool.or_eq_true, Int.not_lt, Int.not_le] at hb_44
                refine vc_exit_of ?_
                refine seqQ_exit hQ16 ?_
                refine thenQ_exit hQ15 ?_
                refine blockQ_exit hQ14 ?_
                refine thenQ_normal hQ13 ?_
                refine ⟨(atv_16, b_14), [some 0, some 1, some 2], ?_, h⟩
                simp only [go_sem, Le] <;> (repeat' apply And.intro) <;> first | ((try with_reducible refine TL_eq ?_); omega) | ((try with_reducible refine TL_eq ?_); (simp [go_sem]; done))
        · rintro ⟨atv_14, b_12⟩ h
          try dsimp only at h
          rw [f_query_Rows_J3] at h
          obtain ⟨v_18, ev_18, h⟩ := bindO_some h
          simp only [go_sem, Try.ntmps17, Try.results17]
          refine callD [2] (f_query_group_row_p0_det b_12 v_18 ev_18) (by simp) rfl ⟨rfl, trivial⟩ rfl rfl rfl rfl ?_
          have rf_8 : [[.v (.int .i64 v_18.1.K), .v (.int .i64 v_18.1.Many), .v (.int .i64 v_18.1.Least), .v (.int .i64 v_18.1.Top), .v (.int .i64 v_18.1.Sum), .v (.bool v_18.1.Sure)]] = enc ([v_18.1] : List GRow) := by rfl
          obtain ⟨g_6, h⟩ := guardO_some h
          simp only [List.length_cons, List.length_nil, Nat.zero_add, List.length_append] at g_6
          have rf_9 : enc a_4 ++ [[.v (.int .i64 v_18.1.K), .v (.int .i64 v_18.1.Many), .v (.int .i64 v_18.1.Least), .v (.int .i64 v_18.1.Top), .v (.int .i64 v_18.1.Sum), .v (.bool v_18.1.Sure)]] = enc (a_4 ++ ([v_18.1] : List GRow)) := by exact (enc_app a_4 ([v_18.1] : List GRow)).symm
          simp only [go_sem, Try.ntmps17, Try.results17, g_6, rf_9]
          simp only [rf_8]
          refine blockQ_normal hQ11 ?_
          refine thenQ_normal hQ8 ?_
          refine ⟨(m_2, atv_14, (a_4 ++ ([v_18.1] : List GRow))), [some 0, some 4], ?_, h, Nat.lt_succ_self _⟩
          simp only [go_sem, Le] <;> (repeat' apply And.intro) <;> first | ((try with_reducible refine TL_eq ?_); omega) | ((try with_reducible refine TL_eq ?_); (simp [go_sem]; done))
      ·
        replace h := if_f h hb_32
        simp only [decide_eq_true_eq, decide_eq_false_iff_not, Bool.not_eq_true', Bool.not_eq_false', beq_iff_eq, beq_eq_false_iff_ne, ne_eq, Bool.and_eq_true, Bool.or_eq_true, Int.not_lt, Int.not_le] at hb_32
        refine vc_exit_of ?_
        refine seqQ_exit hQ9 ?_
        refine thenQ_exit hQ8 ?_
        refine blockQ_exit hQ7 ?_
        refine seqQ_normal hQ5 ?_
        refine vc_seq_gen (by kernel_rfl) ?_
        intro QQ20 hQ20
        simp only [go_sem, Try.ntmps17, Try.results17]
        refine seqQ_normal hQ20 ?_
        refine vc_ret_of ?_
        simp only [go_sem, Try.ntmps17, Try.results17]
        obtain rfl := Option.some.inj h
        refine retW_det [some 1] ?_
        simp only [go_sem, Le]
theorem f_query_Rows_ok (l_0 : List GOut) (node_0 : Int) (fromv_0 : Int) (tov_0 : Int)  (r : List GRow) (h : f_query_Rows l_0 node_0 fromv_0 tov_0 = some r) : PureS Try.prog 17 [.sl 4 (enc l_0), .v (.int .i64 node_0), .v (.int .i64 fromv_0), .v (.int .i64 tov_0)] 0 (.sl 6 (enc r)) := by
  refine (f_query_Rows_det l_0 node_0 fromv_0 tov_0  r h).pure ?_
  simp only [go_sem, Le] <;> (repeat' apply And.intro) <;> ((try with_reducible refine TL_eq ?_); (simp [go_sem]; done))
end Go.Proofs.Ythpahhhdapdcpaa

namespace Go.Proofs.Ythpahhhdapdcpaa
open Go Go.RowKit
set_option maxHeartbeats 2000000
set_option maxRecDepth 100000
set_option linter.unusedSimpArgs false
set_option linter.unusedVariables false
def f_slices_Clone_Row (s_0 : List GRow) : Option (List GRow) :=
  guardO ((List.length ([] : List GRow) + List.length s_0) * 48 ≤ 140737488355328) (
  some (([] : List GRow) ++ s_0))
theorem f_slices_Clone_Row_det (s_0 : List GRow)  (r : List GRow) (h : f_slices_Clone_Row s_0 = some r) : DetS Try.prog 107 [.sl 6 (enc s_0)] [] 0 (.osl 0 6 (0) (List.length r)) [(0, .arr 6 (enc r))] 1 := by
  unfold DetS
  refine Spec.of_vc Try.func107 rfl (by kernel_rfl) (by kernel_rfl) ?_
  rw [f_slices_Clone_Row] at h
  refine vc_seq_gen (by kernel_rfl) ?_
  intro QQ1 hQ1
  simp only [go_sem, Try.ntmps107, Try.results107]
  refine seqQ_normal hQ1 ?_
  refine vc_seq_gen (by kernel_rfl) ?_
  intro QQ2 hQ2
  refine vc_seq_gen (by kernel_rfl) ?_
  intro QQ3 hQ3
  simp only [go_sem, Try.ntmps107, Try.results107]
  intro nb_0 hnb_0
  rcases nb_0 with _ | _
  ·
    refine seqQ_normal hQ3 ?_
    refine vc_cond_f (by (simp only [go_sem]; done)) ?_
    refine vc_skip_of ?_
    refine seqQ_normal hQ2 ?_
    refine vc_seq_gen (by kernel_rfl) ?_
    intro QQ4 hQ4
    obtain ⟨g_0, h⟩ := guardO_some h
    simp only [List.length_cons, List.length_nil, Nat.zero_add, List.length_append] at g_0
    have rf_0 : enc ([] : List GRow) ++ enc s_0 = enc (([] : List GRow) ++ s_0) := by exact (enc_app ([] : List GRow) s_0).symm
    simp only [go_sem, Try.ntmps107, Try.results107, g_0, rf_0]
    refine seqQ_normal hQ4 ?_
    refine vc_ret_of ?_
    simp only [go_sem, Try.ntmps107, Try.results107]
    obtain rfl := Option.some.inj h
    refine retW_det [some 1] ?_
    simp only [go_sem, Le]
  ·
    have hE_nb_0 : s_0 = [] := by cases hq : (s_0) with | nil => rfl | cons y ys => exact absurd (hnb_0 (by rw [hq]; simp [enc])) (by simp)
    simp only [hE_nb_0] at h
    refine seqQ_normal hQ3 ?_
    refine vc_cond_t (by (simp only [go_sem]; done)) ?_
    refine vc_seq_gen (by kernel_rfl) ?_
    intro QQ5 hQ5
    simp only [go_sem, Try.ntmps107, Try.results107]
    refine seqQ_normal hQ5 ?_
    refine vc_ret_of ?_
    refine seqQ_ret hQ2 ?_
    simp only [go_sem, Try.ntmps107, Try.results107]
    obtain rfl := Option.some.inj h
    refine retW_det [none] ?_
    simp only [go_sem, Le] <;> (repeat' apply And.intro) <;> ((try with_reducible refine TL_eq ?_); (simp [go_sem]; done))
theorem f_slices_Clone_Row_ok (s_0 : List GRow)  (r : List GRow) (h : f_slices_Clone_Row s_0 = some r) : PureS Try.prog 107 [.sl 6 (enc s_0)] 0 (.sl 6 (enc r)) := by
  refine (f_slices_Clone_Row_det s_0  r h).pure ?_
  simp only [go_sem, Le] <;> (repeat' apply And.intro) <;> ((try with_reducible refine TL_eq ?_); (simp [go_sem]; done))
end Go.Proofs.Ythpahhhdapdcpaa

namespace Go.Proofs.Ythpahhhdapdcpaa
open Go Go.RowKit
set_option maxHeartbeats 2000000
set_option maxRecDepth 100000
set_option linter.unusedSimpArgs false
set_option linter.unusedVariables false
def f_slices_insertionSortCmpFunc_Row_s0_0_B2 (a_0 : Int) (cmp_0 : GRow → GRow → Option Int) (i_1 : Int) (rec_1 : (Int × (List GRow) → Option (List GRow))) (rec_2 : Int × (List GRow) → Option (List GRow)) : Int × (List GRow) → Option (List GRow) :=
  fun (j_5, a_8) =>
  (if (decide (a_0 < j_5)) = true then bindO (idx a_8 j_5) (fun (xv_24 : GRow) =>
  bindO (idx a_8 (IntKind.i64.wrap (j_5 - 1))) (fun (xv_25 : GRow) =>
  bindO (cmp_0 xv_24 xv_25) (fun (v_8 : Int) =>
  (if (decide (v_8 < 0)) = true then bindO (idx (List.set a_8 (Int.toNat j_5) xv_25) (IntKind.i64.wrap (j_5 - 1))) (fun (xv_26 : GRow) =>
  rec_2 (IntKind.i64.wrap (j_5 - 1), (List.set (List.set a_8 (Int.toNat j_5) xv_25) (Int.toNat (IntKind.i64.wrap (j_5 - 1))) xv_24)))
  else rec_1 (IntKind.i64.wrap (i_1 + 1), a_8)))))
  else rec_1 (IntKind.i64.wrap (i_1 + 1), a_8))
def f_slices_insertionSortCmpFunc_Row_s0_0_B1 (a_0 : Int) (b_0 : Int) (cmp_0 : GRow → GRow → Option Int) (rec_1 : Int × (List GRow) → Option (List GRow)) : Int × (List GRow) → Option (List GRow) :=
  fun (i_1, a_6) =>
  (if (decide (i_1 < b_0)) = true then loopK (f_slices_insertionSortCmpFunc_Row_s0_0_B2 a_0 cmp_0 i_1 rec_1) rounds (i_1, a_6)
  else some a_6)
def f_slices_insertionSortCmpFunc_Row_s0_0 (data_0 : List GRow) (a_0 : Int) (b_0 : Int) (cmp_0 : GRow → GRow → Option Int) : Option (List GRow) :=
  loopK (f_slices_insertionSortCmpFunc_Row_s0_0_B1 a_0 b_0 cmp_0) rounds (IntKind.i64.wrap (a_0 + 1), data_0)
theorem f_slices_insertionSortCmpFunc_Row_s0_0_det (data_0 : List GRow) (a_0 : Int) (b_0 : Int) (cmp_0 : GRow → GRow → Option Int) (g_cmp_0 : FuncId) (c_cmp_0 : List AV) (F_cmp_0 : idFreeL c_cmp_0 = true) (E_cmp_0 : entB Try.prog g_cmp_0 = true) (H_cmp_0 : ∀ (x0 : GRow) (x1 : GRow) (r : Int), cmp_0 x0 x1 = some r → PureS Try.prog g_cmp_0 ([.agg [.v (.int .i64 x0.K), .v (.int .i64 x0.Many), .v (.int .i64 x0.Least), .v (.int .i64 x0.Top), .v (.int .i64 x0.Sum), .v (.bool x0.Sure)], .agg [.v (.int .i64 x1.K), .v (.int .i64 x1.Many), .v (.int .i64 x1.Least), .v (.int .i64 x1.Top), .v (.int .i64 x1.Sum), .v (.bool x1.Sure)]] ++ c_cmp_0) 0 (.v (.int .i64 r))) (r : List GRow) (h : f_slices_insertionSortCmpFunc_Row_s0_0 data_0 a_0 b_0 cmp_0 = some r) : DetS Try.prog 212 [.osl 0 6 (0) (List.length data_0), .v (.int .i64 a_0), .v (.int .i64 b_0), .clo g_cmp_0 c_cmp_0] [(0, .arr 6 (enc data_0))] 1 (.tup []) [(0, .arr 6 (enc r))] 1 := by
  unfold DetS
  refine Spec.of_vc Try.func212 rfl (by kernel_rfl) (by kernel_rfl) ?_
  rw [f_slices_insertionSortCmpFunc_Row_s0_0] at h
  refine vc_seq_gen (by kernel_rfl) ?_
  intro QQ1 hQ1
  simp only [go_sem, Try.ntmps212, Try.results212]
  refine seqQ_normal hQ1 ?_
  refine vc_block_gen ?_
  intro QQ2 hQ2
  refine vc_loop_of ?_
  refine loop_gen (ι := Nat × Int × (List GRow)) (fun ((_, i_1, a_6) : Nat × Int × (List GRow)) => (⟨1, [(0, .osl 0 6 (0) (List.length a_6)), (1, .v (.int .i64 a_0)), (2, .v (.int .i64 b_0)), (3, .clo g_cmp_0 c_cmp_0), (8, .v (.int .i64 i_1))], [(0, .arr 6 (enc a_6))], 1, 53⟩ : St)) (fun ((n_, i_1, a_6) : Nat × Int × (List GRow)) => loopK (f_slices_insertionSortCmpFunc_Row_s0_0_B1 a_0 b_0 cmp_0) n_ (i_1, a_6) = some r) (fun p => p.1) (rounds, IntKind.i64.wrap (a_0 + 1), data_0) [] ?_ h ?_
  · simp only [go_sem, Le, AvLeL_free _ F_cmp_0]
  · rintro ⟨n_1, i_1, a_6⟩ h QQ3 hQ3
    dsimp only at h
    replace h := loopK_some h
    obtain ⟨m_1, rfl, h⟩ := h
    rw [f_slices_insertionSortCmpFunc_Row_s0_0_B1] at h
    refine vc_seq_gen (by kernel_rfl) ?_
    intro QQ4 hQ4
    refine vc_seq_gen (by kernel_rfl) ?_
    intro QQ5 hQ5
    simp only [go_sem, Try.ntmps212, Try.results212]
    refine seqQ_normal hQ5 ?_
    refine vc_cond_of (b := (decide (i_1 < b_0))) (by (simp only [go_sem]; done)) (fun hb_14 => ?_) (fun hb_14 => ?_)
    ·
      replace h := if_t h hb_14
      simp only [decide_eq_true_eq, decide_eq_false_iff_not, Bool.not_eq_true', Bool.not_eq_false', beq_iff_eq, beq_eq_false_iff_ne, ne_eq, Bool.and_eq_true, Bool.or_eq_true, Int.not_lt, Int.not_le] at hb_14
      refine vc_skip_of ?_
      refine seqQ_normal hQ4 ?_
      refine vc_join (by kernel_rfl) ?_
      refine seq_go_gen ?_
      intro QQ6 hQ6
      refine vc_block_gen ?_
      intro QQ7 hQ7
      refine vc_seq_gen (by kernel_rfl) ?_
      intro QQ8 hQ8
      simp only [go_sem, Try.ntmps212, Try.results212]
      refine seqQ_normal hQ8 ?_
      refine vc_block_gen ?_
      intro QQ9 hQ9
      refine vc_loop_of ?_
      refine loop_gen (ι := Nat × Int × (List GRow)) (fun ((_, j_5, a_8) : Nat × Int × (List GRow)) => (⟨1, [(0, .osl 0 6 (0) (List.length a_8)), (1, .v (.int .i64 a_0)), (2, .v (.int .i64 b_0)), (3, .clo g_cmp_0 c_cmp_0), (8, .v (.int .i64 i_1)), (9, .v (.int .i64 j_5))], [(0, .arr 6 (enc a_8))], 1, 53⟩ : St)) (fun ((n_, j_5, a_8) : Nat × Int × (List GRow)) => loopK (f_slices_insertionSortCmpFunc_Row_s0_0_B2 a_0 cmp_0 i_1 (loopK (f_slices_insertionSortCmpFunc_Row_s0_0_B1 a_0 b_0 cmp_0) m_1)) n_ (j_5, a_8) = some r) (fun p => p.1) (rounds, i_1, a_6) [] ?_ h ?_
      · simp only [go_sem, Le, AvLeL_free _ F_cmp_0]
      · rintro ⟨n_2, j_5, a_8⟩ h QQ10 hQ10
        dsimp only at h
        replace h := loopK_some h
        obtain ⟨m_2, rfl, h⟩ := h
        rw [f_slices_insertionSortCmpFunc_Row_s0_0_B2] at h
        refine vc_seq_gen (by kernel_rfl) ?_
        intro QQ11 hQ11
        refine vc_seq_gen (by kernel_rfl) ?_
        intro QQ12 hQ12
        refine vc_draw ?_
        refine drawM_tail 14 [0, 0, 3, 7, 15, 15, 15, 111, 239, 15, 15, 1039, 3599, 7695, 16383, 32767, 65535] mixed (by kernel_rfl) (of_decide_eq_true (by kernel_rfl)) (by kernel_rfl) ?_
        simp only [go_sem, Try.ntmps212, Try.results212]
        rcases hb_19 : (decide (a_0 < j_5)) with _ | _
        ·
          replace h := if_f h hb_19
          simp only [go_sem, Try.ntmps212, Try.results212, hb_19]
          refine seqQ_normal hQ12 ?_
          refine vc_cond_f (by (simp only [go_sem]; done)) ?_
          refine vc_exit_of ?_
          refine seqQ_exit hQ11 ?_
          refine thenQ_exit hQ10 ?_
          refine blockQ_exit hQ9 ?_
          refine blockQ_normal hQ7 ?_
          refine seqQ_normal hQ6 ?_
          simp only [go_sem, Try.ntmps212, Try.results212]
          refine thenQ_normal hQ3 ?_
          refine ⟨(m_1, IntKind.i64.wrap (i_1 + 1), a_8), [], ?_, h, Nat.lt_succ_self _⟩
          simp only [go_sem, Le, AvLeL_free _ F_cmp_0]
        ·
          replace h := if_t h hb_19
          obtain ⟨xv_24, exv_24, h⟩ := bindO_some h
          obtain ⟨fxv_24a, fxv_24b, fxv_24c⟩ := idx_spec exv_24
          obtain ⟨xv_25, exv_25, h⟩ := bindO_some h
          obtain ⟨fxv_25a, fxv_25b, fxv_25c⟩ := idx_spec exv_25
          obtain ⟨v_8, ev_8, h⟩ := bindO_some h
          simp only [go_sem, Try.ntmps212, Try.results212, hb_19, fxv_24a, fxv_24b, fxv_24c, fxv_25a, fxv_25b, fxv_25c, E_cmp_0]
          refine And.intro (by omega) ?_
          refine And.intro (by omega) ?_
          refine call0 (H_cmp_0 xv_24 xv_25 v_8 ev_8) (by rfl) (by simp [idFreeL, idFree, F_cmp_0]) ?_
          simp only [go_sem, Try.ntmps212, Try.results212]
          refine seqQ_normal hQ12 ?_
          refine vc_cond_of (b := (decide (v_8 < 0))) (by (simp only [go_sem]; done)) (fun hb_20 => ?_) (fun hb_20 => ?_)
          ·
            replace h := if_t h hb_20
            simp only [decide_eq_true_eq, decide_eq_false_iff_not, Bool.not_eq_true', Bool.not_eq_false', beq_iff_eq, beq_eq_false_iff_ne, ne_eq, Bool.and_eq_true, Bool.or_eq_true, Int.not_lt, Int.not_le] at hb_20
            refine vc_skip_of ?_
            refine seqQ_normal hQ11 ?_
            refine vc_seq_gen (by kernel_rfl) ?_
            intro QQ13 hQ13
            refine vc_block_gen ?_
            intro QQ14 hQ14
            refine vc_draw ?_
            refine drawV_all 16 0 [0, 0, 0, 0, 8, 0, 0, 64, 224, 480, 0, 0, 3072, 7168, 16355, 32739, 65535, 131071] [0] [2, 3, 4] [15] [] mixed (by kernel_rfl) (of_decide_eq_true (by kernel_rfl)) (by kernel_rfl) (by kernel_rfl) (by rfl) ?_
            have rf_16 : (enc a_8).set (Int.toNat j_5) [.v (.int .i64 xv_25.K), .v (.int .i64 xv_25.Many), .v (.int .i64 xv_25.Least), .v (.int .i64 xv_25.Top), .v (.int .i64 xv_25.Sum), .v (.bool xv_25.Sure)] = enc (List.set a_8 (Int.toNat j_5) xv_25) := by exact enc_set _ _ _
            obtain ⟨xv_26, exv_26, h⟩ := bindO_some h
            obtain ⟨fxv_26a, fxv_26b, fxv_26c⟩ := idx_spec exv_26
            have rf_17 : (enc (List.set a_8 (Int.toNat j_5) xv_25)).set (Int.toNat (IntKind.i64.wrap (j_5 - 1))) [.v (.int .i64 xv_24.K), .v (.int .i64 xv_24.Many), .v (.int .i64 xv_24.Least), .v (.int .i64 xv_24.Top), .v (.int .i64 xv_24.Sum), .v (.bool xv_24.Sure)] = enc (List.set (List.set a_8 (Int.toNat j_5) xv_25) (Int.toNat (IntKind.i64.wrap (j_5 - 1))) xv_24) := by exact enc_set _ _ _
            simp only [go_sem, Try.ntmps212, Try.results212, fxv_25a, fxv_25b, fxv_25c, fxv_24a, fxv_24b, fxv_24c, rf_16, fxv_26a, fxv_26b, fxv_26c, rf_17]
            refine And.intro (by omega) ?_
            refine And.intro (by omega) ?_
            refine And.intro (by omega) ?_
            refine And.intro (by omega) ?_
            refine blockQ_normal hQ14 ?_
            refine seqQ_normal hQ13 ?_
            simp only [go_sem, Try.ntmps212, Try.results212]
            refine thenQ_normal hQ10 ?_
            refine ⟨(m_2, IntKind.i64.wrap (j_5 - 1), (List.set (List.set a_8 (Int.toNat j_5) xv_25) (Int.toNat (IntKind.i64.wrap (j_5 - 1))) xv_24)), [], ?_, h, Nat.lt_succ_self _⟩
            simp only [go_sem, Le, AvLeL_free _ F_cmp_0]
          ·
            replace h := if_f h hb_20
            simp only [decide_eq_true_eq, decide_eq_false_iff_not, Bool.not_eq_true', Bool.not_eq_false', beq_iff_eq, beq_eq_false_iff_ne, ne_eq, Bool.and_eq_true, Bool.or_eq_true, Int.not_lt, Int.not_le] at hb_20
            refine vc_exit_of ?_
            refine seqQ_exit hQ11 ?_
            refine thenQ_exit hQ10 ?_
            refine blockQ_exit hQ9 ?_
            refine blockQ_normal hQ7 ?_
            refine seqQ_normal hQ6 ?_
            simp only [go_sem, Try.ntmps212, Try.results212]
            refine thenQ_normal hQ3 ?_
            refine ⟨(m_1, IntKind.i64.wrap (i_1 + 1), a_8), [], ?_, h, Nat.lt_succ_self _⟩
            simp only [go_sem, Le, AvLeL_free _ F_cmp_0]
    ·
      replace h := if_f h hb_14
      simp only [decide_eq_true_eq, decide_eq_false_iff_not, Bool.not_eq_true', Bool.not_eq_false', beq_iff_eq, beq_eq_false_iff_ne, ne_eq, Bool.and_eq_true, Bool.or_eq_true, Int.not_lt, Int.not_le] at hb_14
      refine vc_exit_of ?_
      refine seqQ_exit hQ4 ?_
      refine thenQ_exit hQ3 ?_
      refine blockQ_exit hQ2 ?_
      simp only [go_sem, Try.ntmps212, Try.results212]
      obtain rfl := Option.some.inj h
      refine retW_det [] ?_
      simp only [go_sem, Le, AvLeL_free _ F_cmp_0]
end Go.Proofs.Ythpahhhdapdcpaa

namespace Go.Proofs.Ythpahhhdapdcpaa
open Go Go.RowKit
set_option maxHeartbeats 2000000
set_option maxRecDepth 100000
set_option linter.unusedSimpArgs false
set_option linter.unusedVariables false
def f_slices_swapRangeCmpFunc_Row_s0_0_B1 (a_0 : Int) (b_0 : Int) (nv_0 : Int) (rec_1 : Int × (List GRow) → Option (List GRow)) : Int × (List GRow) → Option (List GRow) :=
  fun (i_1, a_2) =>
  (if (decide (i_1 < nv_0)) = true then bindO (idx a_2 (IntKind.i64.wrap (b_0 + i_1))) (fun (xv_6 : GRow) =>
  bindO (idx a_2 (IntKind.i64.wrap (a_0 + i_1))) (fun (xv_7 : GRow) =>
  bindO (idx (List.set a_2 (Int.toNat (IntKind.i64.wrap (a_0 + i_1))) xv_6) (IntKind.i64.wrap (b_0 + i_1))) (fun (xv_8 : GRow) =>
  rec_1 (IntKind.i64.wrap (i_1 + 1), (List.set (List.set a_2 (Int.toNat (IntKind.i64.wrap (a_0 + i_1))) xv_6) (Int.toNat (IntKind.i64.wrap (b_0 + i_1))) xv_7)))))
  else some a_2)
def f_slices_swapRangeCmpFunc_Row_s0_0 (data_0 : List GRow) (a_0 : Int) (b_0 : Int) (nv_0 : Int) (cmp_0 : GRow → GRow → Option Int) : Option (List GRow) :=
  loopK (f_slices_swapRangeCmpFunc_Row_s0_0_B1 a_0 b_0 nv_0) rounds (0, data_0)
theorem f_slices_swapRangeCmpFunc_Row_s0_0_det (data_0 : List GRow) (a_0 : Int) (b_0 : Int) (nv_0 : Int) (cmp_0 : GRow → GRow → Option Int) (g_cmp_0 : FuncId) (c_cmp_0 : List AV) (F_cmp_0 : idFreeL c_cmp_0 = true) (E_cmp_0 : entB Try.prog g_cmp_0 = true) (H_cmp_0 : ∀ (x0 : GRow) (x1 : GRow) (r : Int), cmp_0 x0 x1 = some r → PureS Try.prog g_cmp_0 ([.agg [.v (.int .i64 x0.K), .v (.int .i64 x0.Many), .v (.int .i64 x0.Least), .v (.int .i64 x0.Top), .v (.int .i64 x0.Sum), .v (.bool x0.Sure)], .agg [.v (.int .i64 x1.K), .v (.int .i64 x1.Many), .v (.int .i64 x1.Least), .v (.int .i64 x1.Top), .v (.int .i64 x1.Sum), .v (.bool x1.Sure)]] ++ c_cmp_0) 0 (.v (.int .i64 r))) (r : List GRow) (h : f_slices_swapRangeCmpFunc_Row_s0_0 data_0 a_0 b_0 nv_0 cmp_0 = some r) : DetS Try.prog 238 [.osl 0 6 (0) (List.length data_0), .v (.int .i64 a_0), .v (.int .i64 b_0), .v (.int .i64 nv_0), .clo g_cmp_0 c_cmp_0] [(0, .arr 6 (enc data_0))] 1 (.tup []) [(0, .arr 6 (enc r))] 1 := by
  unfold DetS
  refine Spec.of_vc Try.func238 rfl (by kernel_rfl) (by kernel_rfl) ?_
  rw [f_slices_swapRangeCmpFunc_Row_s0_0] at h
  refine vc_seq_gen (by kernel_rfl) ?_
  intro QQ1 hQ1
  simp only [go_sem, Try.ntmps238, Try.results238]
  refine seqQ_normal hQ1 ?_
  refine vc_block_gen ?_
  intro QQ2 hQ2
  refine vc_loop_of ?_
  refine loop_gen (ι := Nat × Int × (List GRow)) (fun ((_, i_1, a_2) : Nat × Int × (List GRow)) => (⟨1, [(0, .osl 0 6 (0) (List.length a_2)), (1, .v (.int .i64 a_0)), (2, .v (.int .i64 b_0)), (3, .v (.int .i64 nv_0)), (10, .v (.int .i64 i_1))], [(0, .arr 6 (enc a_2))], 1, 38⟩ : St)) (fun ((n_, i_1, a_2) : Nat × Int × (List GRow)) => loopK (f_slices_swapRangeCmpFunc_Row_s0_0_B1 a_0 b_0 nv_0) n_ (i_1, a_2) = some r) (fun p => p.1) (rounds, 0, data_0) [] ?_ h ?_
  · simp only [go_sem, Le, AvLeL_free _ F_cmp_0]
  · rintro ⟨n_1, i_1, a_2⟩ h QQ3 hQ3
    dsimp only at h
    replace h := loopK_some h
    obtain ⟨m_1, rfl, h⟩ := h
    rw [f_slices_swapRangeCmpFunc_Row_s0_0_B1] at h
    refine vc_seq_gen (by kernel_rfl) ?_
    intro QQ4 hQ4
    refine vc_seq_gen (by kernel_rfl) ?_
    intro QQ5 hQ5
    simp only [go_sem, Try.ntmps238, Try.results238]
    refine seqQ_normal hQ5 ?_
    refine vc_cond_of (b := (decide (i_1 < nv_0))) (by (simp only [go_sem]; done)) (fun hb_2 => ?_) (fun hb_2 => ?_)
    ·
      replace h := if_t h hb_2
      simp only [decide_eq_true_eq, decide_eq_false_iff_not, Bool.not_eq_true', Bool.not_eq_false', beq_iff_eq, beq_eq_false_iff_ne, ne_eq, Bool.and_eq_true, Bool.or_eq_true, Int.not_lt, Int.not_le] at hb_2
      refine vc_skip_of ?_
      refine seqQ_normal hQ4 ?_
      refine vc_seq_gen (by kernel_rfl) ?_
      intro QQ6 hQ6
      refine vc_block_gen ?_
      intro QQ7 hQ7
      refine vc_draw ?_
      refine drawV_all 22 0 [0, 0, 0, 6, 0, 0, 0, 96, 0, 0, 0, 1536, 3840, 7936, 0, 0, 0, 98304, 245760, 507904, 1048335, 2096911, 4194303, 8388607] [0] [4, 5, 6, 7] [21] [] mixed (by kernel_rfl) (of_decide_eq_true (by kernel_rfl)) (by kernel_rfl) (by kernel_rfl) (by rfl) ?_
      obtain ⟨xv_6, exv_6, h⟩ := bindO_some h
      obtain ⟨fxv_6a, fxv_6b, fxv_6c⟩ := idx_spec exv_6
      obtain ⟨xv_7, exv_7, h⟩ := bindO_some h
      obtain ⟨fxv_7a, fxv_7b, fxv_7c⟩ := idx_spec exv_7
      have rf_4 : (enc a_2).set (Int.toNat (IntKind.i64.wrap (a_0 + i_1))) [.v (.int .i64 xv_6.K), .v (.int .i64 xv_6.Many), .v (.int .i64 xv_6.Least), .v (.int .i64 xv_6.Top), .v (.int .i64 xv_6.Sum), .v (.bool xv_6.Sure)] = enc (List.set a_2 (Int.toNat (IntKind.i64.wrap (a_0 + i_1))) xv_6) := by exact enc_set _ _ _
      obtain ⟨xv_8, exv_8, h⟩ := bindO_some h
      obtain ⟨fxv_8a, fxv_8b, fxv_8c⟩ := idx_spec exv_8
      have rf_5 : (enc (List.set a_2 (Int.toNat (IntKind.i64.wrap (a_0 + i_1))) xv_6)).set (Int.toNat (IntKind.i64.wrap (b_0 + i_1))) [.v (.int .i64 xv_7.K), .v (.int .i64 xv_7.Many), .v (.int .i64 xv_7.Least), .v (.int .i64 xv_7.Top), .v (.int .i64 xv_7.Sum), .v (.bool xv_7.Sure)] = enc (List.set (List.set a_2 (Int.toNat (IntKind.i64.wrap (a_0 + i_1))) xv_6) (Int.toNat (IntKind.i64.wrap (b_0 + i_1))) xv_7) := by exact enc_set _ _ _
      simp only [go_sem, Try.ntmps238, Try.results238, fxv_6a, fxv_6b, fxv_6c, fxv_7a, fxv_7b, fxv_7c, rf_4, fxv_8a, fxv_8b, fxv_8c, rf_5]
      refine And.intro (by omega) ?_
      refine And.intro (by omega) ?_
      refine And.intro (by omega) ?_
      refine And.intro (by omega) ?_
      refine blockQ_normal hQ7 ?_
      refine seqQ_normal hQ6 ?_
      simp only [go_sem, Try.ntmps238, Try.results238]
      refine thenQ_normal hQ3 ?_
      refine ⟨(m_1, IntKind.i64.wrap (i_1 + 1), (List.set (List.set a_2 (Int.toNat (IntKind.i64.wrap (a_0 + i_1))) xv_6) (Int.toNat (IntKind.i64.wrap (b_0 + i_1))) xv_7)), [], ?_, h, Nat.lt_succ_self _⟩
      simp only [go_sem, Le, AvLeL_free _ F_cmp_0]
    ·
      replace h := if_f h hb_2
      simp only [decide_eq_true_eq, decide_eq_false_iff_not, Bool.not_eq_true', Bool.not_eq_false', beq_iff_eq, beq_eq_false_iff_ne, ne_eq, Bool.and_eq_true, Bool.or_eq_true, Int.not_lt, Int.not_le] at hb_2
      refine vc_exit_of ?_
      refine seqQ_exit hQ4 ?_
      refine thenQ_exit hQ3 ?_
      refine blockQ_exit hQ2 ?_
      simp only [go_sem, Try.ntmps238, Try.results238]
      obtain rfl := Option.some.inj h
      refine retW_det [] ?_
      simp only [go_sem, Le, AvLeL_free _ F_cmp_0]
end Go.Proofs.Ythpahhhdapdcpaa

namespace Go.Proofs.Ythpahhhdapdcpaa
open Go Go.RowKit
set_option maxHeartbeats 2000000
set_option maxRecDepth 100000
set_option linter.unusedSimpArgs false
set_option linter.unusedVariables false
def f_slices_rotateCmpFunc_Row_s0_0_J1 (mv_0 : Int) (cmp_0 : GRow → GRow → Option Int) (i_2 : Int) (a_3 : List GRow) : Option (List GRow) :=
  bindO (f_slices_swapRangeCmpFunc_Row_s0_0 a_3 (IntKind.i64.wrap (mv_0 - i_2)) mv_0 i_2 cmp_0) (fun (v_6 : List GRow) =>
  guardO (List.length v_6 = List.length a_3) (
  some v_6))
def f_slices_rotateCmpFunc_Row_s0_0_B2 (mv_0 : Int) (cmp_0 : GRow → GRow → Option Int) (rec_2 : Int × Int × (List GRow) → Option (List GRow)) : Int × Int × (List GRow) → Option (List GRow) :=
  fun (i_4, j_3, a_5) =>
  (if (!(i_4 == j_3)) = true then (if (decide (j_3 < i_4)) = true then bindO (f_slices_swapRangeCmpFunc_Row_s0_0 a_5 (IntKind.i64.wrap (mv_0 - i_4)) mv_0 j_3 cmp_0) (fun (v_11 : List GRow) =>
  guardO (List.length v_11 = List.length a_5) (
  rec_2 (IntKind.i64.wrap (i_4 - j_3), j_3, v_11)))
  else bindO (f_slices_swapRangeCmpFunc_Row_s0_0 a_5 (IntKind.i64.wrap (mv_0 - i_4)) (IntKind.i64.wrap ((IntKind.i64.wrap (mv_0 + j_3)) - i_4)) i_4 cmp_0) (fun (v_12 : List GRow) =>
  guardO (List.length v_12 = List.length a_5) (
  rec_2 (i_4, IntKind.i64.wrap (j_3 - i_4), v_12))))
  else f_slices_rotateCmpFunc_Row_s0_0_J1 mv_0 cmp_0 i_4 a_5)
def f_slices_rotateCmpFunc_Row_s0_0 (data_0 : List GRow) (a_0 : Int) (mv_0 : Int) (b_0 : Int) (cmp_0 : GRow → GRow → Option Int) : Option (List GRow) :=
  loopK (f_slices_rotateCmpFunc_Row_s0_0_B2 mv_0 cmp_0) rounds (IntKind.i64.wrap (mv_0 - a_0), IntKind.i64.wrap (b_0 - mv_0), data_0)
theorem f_slices_rotateCmpFunc_Row_s0_0_det (data_0 : List GRow) (a_0 : Int) (mv_0 : Int) (b_0 : Int) (cmp_0 : GRow → GRow → Option Int) (g_cmp_0 : FuncId) (c_cmp_0 : List AV) (F_cmp_0 : idFreeL c_cmp_0 = true) (E_cmp_0 : entB Try.prog g_cmp_0 = true) (H_cmp_0 : ∀ (x0 : GRow) (x1 : GRow) (r : Int), cmp_0 x0 x1 = some r → PureS Try.prog g_cmp_0 ([.agg [.v (.int .i64 x0.K), .v (.int .i64 x0.Many), .v (.int .i64 x0.Least), .v (.int .i64 x0.Top), .v (.int .i64 x0.Sum), .v (.bool x0.Sure)], .agg [.v (.int .i64 x1.K), .v (.int .i64 x1.Many), .v (.int .i64 x1.Least), .v (.int .i64 x1.Top), .v (.int .i64 x1.Sum), .v (.bool x1.Sure)]] ++ c_cmp_0) 0 (.v (.int .i64 r))) (r : List GRow) (h : f_slices_rotateCmpFunc_Row_s0_0 data_0 a_0 mv_0 b_0 cmp_0 = some r) : DetS Try.prog 230 [.osl 0 6 (0) (List.length data_0), .v (.int .i64 a_0), .v (.int .i64 mv_0), .v (.int .i64 b_0), .clo g_cmp_0 c_cmp_0] [(0, .arr 6 (enc data_0))] 1 (.tup []) [(0, .arr 6 (enc r))] 1 := by
  unfold DetS
  refine Spec.of_vc Try.func230 rfl (by kernel_rfl) (by kernel_rfl) ?_
  rw [f_slices_rotateCmpFunc_Row_s0_0] at h
  refine vc_seq_gen (by kernel_rfl) ?_
  intro QQ1 hQ1
  simp only [go_sem, Try.ntmps230, Try.results230]
  refine seqQ_normal hQ1 ?_
  refine vc_seq_gen (by kernel_rfl) ?_
  intro QQ2 hQ2
  simp only [go_sem, Try.ntmps230, Try.results230]
  refine seqQ_normal hQ2 ?_
  refine vc_join (by kernel_rfl) ?_
  refine seq_cut_gen (ι := Int × (List GRow)) (fun ((i_2, a_3) : Int × (List GRow)) => (⟨1, [(0, .osl 0 6 (0) (List.length a_3)), (2, .v (.int .i64 mv_0)), (4, .clo g_cmp_0 c_cmp_0), (10, .v (.int .i64 i_2))], [(0, .arr 6 (enc a_3))], 1, 58⟩ : St)) (fun ((i_2, a_3) : Int × (List GRow)) => f_slices_rotateCmpFunc_Row_s0_0_J1 mv_0 cmp_0 i_2 a_3 = some r) ?_ ?_
  ·
    intro QQ3 hQ3
    refine vc_block_gen ?_
    intro QQ4 hQ4
    refine vc_loop_of ?_
    refine loop_gen (ι := Nat × Int × Int × (List GRow)) (fun ((_, i_4, j_3, a_5) : Nat × Int × Int × (List GRow)) => (⟨1, [(0, .osl 0 6 (0) (List.length a_5)), (2, .v (.int .i64 mv_0)), (4, .clo g_cmp_0 c_cmp_0), (10, .v (.int .i64 i_4)), (11, .v (.int .i64 j_3))], [(0, .arr 6 (enc a_5))], 1, 58⟩ : St)) (fun ((n_, i_4, j_3, a_5) : Nat × Int × Int × (List GRow)) => loopK (f_slices_rotateCmpFunc_Row_s0_0_B2 mv_0 cmp_0) n_ (i_4, j_3, a_5) = some r) (fun p => p.1) (rounds, IntKind.i64.wrap (mv_0 - a_0), IntKind.i64.wrap (b_0 - mv_0), data_0) [] ?_ h ?_
    · simp only [go_sem, Le, AvLeL_free _ F_cmp_0]
    · rintro ⟨n_2, i_4, j_3, a_5⟩ h QQ5 hQ5
      dsimp only at h
      replace h := loopK_some h
      obtain ⟨m_2, rfl, h⟩ := h
      rw [f_slices_rotateCmpFunc_Row_s0_0_B2] at h
      refine vc_seq_gen (by kernel_rfl) ?_
      intro QQ6 hQ6
      refine vc_seq_gen (by kernel_rfl) ?_
      intro QQ7 hQ7
      simp only [go_sem, Try.ntmps230, Try.results230]
      refine seqQ_normal hQ7 ?_
      refine vc_cond_of (b := (!(i_4 == j_3))) (by (simp only [go_sem]; done)) (fun hb_10 => ?_) (fun hb_10 => ?_)
      ·
        replace h := if_t h hb_10
        simp only [decide_eq_true_eq, decide_eq_false_iff_not, Bool.not_eq_true', Bool.not_eq_false', beq_iff_eq, beq_eq_false_iff_ne, ne_eq, Bool.and_eq_true, Bool.or_eq_true, Int.not_lt, Int.not_le] at hb_10
        refine vc_skip_of ?_
        refine seqQ_normal hQ6 ?_
        refine vc_block_gen ?_
        intro QQ8 hQ8
        refine vc_seq_gen (by kernel_rfl) ?_
        intro QQ9 hQ9
        simp only [go_sem, Try.ntmps230, Try.results230]
        refine seqQ_normal hQ9 ?_
        refine vc_cond_of (b := (decide (j_3 < i_4))) (by (simp only [go_sem]; done)) (fun hb_11 => ?_) (fun hb_11 => ?_)
        ·
          replace h := if_t h hb_11
          simp only [decide_eq_true_eq, decide_eq_false_iff_not, Bool.not_eq_true', Bool.not_eq_false', beq_iff_eq, beq_eq_false_iff_ne, ne_eq, Bool.and_eq_true, Bool.or_eq_true, Int.not_lt, Int.not_le] at hb_11
          refine vc_seq_gen (by kernel_rfl) ?_
          intro QQ10 hQ10
          obtain ⟨v_11, ev_11, h⟩ := bindO_some h
          simp only [go_sem, Try.ntmps230, Try.results230]
          refine callD [0] (f_slices_swapRangeCmpFunc_Row_s0_0_det a_5 (IntKind.i64.wrap (mv_0 - i_4)) mv_0 j_3 cmp_0 g_cmp_0 c_cmp_0 F_cmp_0 E_cmp_0 H_cmp_0 v_11 ev_11) (by simp) (by simp only [renL, renA, renL_free F_cmp_0] <;> rfl) ⟨rfl, trivial⟩ (by simp only [ltL, ltA, ltL_free F_cmp_0] <;> rfl) rfl rfl rfl ?_
          obtain ⟨g_11, h⟩ := guardO_some h
          simp only [go_sem, Try.ntmps230, Try.results230, g_11]
          refine seqQ_normal hQ10 ?_
          simp only [go_sem, Try.ntmps230, Try.results230]
          refine blockQ_normal hQ8 ?_
          refine thenQ_normal hQ5 ?_
          refine ⟨(m_2, IntKind.i64.wrap (i_4 - j_3), j_3, v_11), [], ?_, h, Nat.lt_succ_self _⟩
          simp only [go_sem, Le, AvLeL_free _ F_cmp_0] <;> (repeat' apply And.intro) <;> ((try with_reducible refine TL_eq ?_); omega)
        ·
          replace h := if_f h hb_11
          simp only [decide_eq_true_eq, decide_eq_false_iff_not, Bool.not_eq_true', Bool.not_eq_false', beq_iff_eq, beq_eq_false_iff_ne, ne_eq, Bool.and_eq_true, Bool.or_eq_true, Int.not_lt, Int.not_le] at hb_11
          refine vc_seq_gen (by kernel_rfl) ?_
          intro QQ11 hQ11
          obtain ⟨v_12, ev_12, h⟩ := bindO_some h
          simp only [go_sem, Try.ntmps230, Try.results230]
          refine callD [0] (f_slices_swapRangeCmpFunc_Row_s0_0_det a_5 (IntKind.i64.wrap (mv_0 - i_4)) (IntKind.i64.wrap ((IntKind.i64.wrap (mv_0 + j_3)) - i_4)) i_4 cmp_0 g_cmp_0 c_cmp_0 F_cmp_0 E_cmp_0 H_cmp_0 v_12 ev_12) (by simp) (by simp only [renL, renA, renL_free F_cmp_0] <;> rfl) ⟨rfl, trivial⟩ (by simp only [ltL, ltA, ltL_free F_cmp_0] <;> rfl) rfl rfl rfl ?_
          obtain ⟨g_12, h⟩ := guardO_some h
          simp only [go_sem, Try.ntmps230, Try.results230, g_12]
          refine seqQ_normal hQ11 ?_
          simp only [go_sem, Try.ntmps230, Try.results230]
          refine blockQ_normal hQ8 ?_
          refine thenQ_normal hQ5 ?_
          refine ⟨(m_2, i_4, IntKind.i64.wrap (j_3 - i_4), v_12), [], ?_, h, Nat.lt_succ_self _⟩
          simp only [go_sem, Le, AvLeL_free _ F_cmp_0] <;> (repeat' apply And.intro) <;> ((try with_reducible refine TL_eq ?_); omega)
      ·
        replace h := if_f h hb_10
        simp only [decide_eq_true_eq, decide_eq_false_iff_not, Bool.not_eq_true', Bool.not_eq_false', beq_iff_eq, beq_eq_false_iff_ne, ne_eq, Bool.and_eq_true, Bool.or_eq_true, Int.not_lt, Int.not_le] at hb_10
        refine vc_exit_of ?_
        refine seqQ_exit hQ6 ?_
        refine thenQ_exit hQ5 ?_
        refine blockQ_exit hQ4 ?_
        refine thenQ_normal hQ3 ?_
        refine ⟨(i_4, a_5), [], ?_, h⟩
        simp only [go_sem, Le, AvLeL_free _ F_cmp_0]
  · rintro ⟨i_2, a_3⟩ h
    try dsimp only at h
    rw [f_slices_rotateCmpFunc_Row_s0_0_J1] at h
    obtain ⟨v_6, ev_6, h⟩ := bindO_some h
    simp only [go_sem, Try.ntmps230, Try.results230]
    refine callD [0] (f_slices_swapRangeCmpFunc_Row_s0_0_det a_3 (IntKind.i64.wrap (mv_0 - i_2)) mv_0 i_2 cmp_0 g_cmp_0 c_cmp_0 F_cmp_0 E_cmp_0 H_cmp_0 v_6 ev_6) (by simp) (by simp only [renL, renA, renL_free F_cmp_0] <;> rfl) ⟨rfl, trivial⟩ (by simp only [ltL, ltA, ltL_free F_cmp_0] <;> rfl) rfl rfl rfl ?_
    obtain ⟨g_6, h⟩ := guardO_some h
    simp only [go_sem, Try.ntmps230, Try.results230, g_6]
    obtain rfl := Option.some.inj h
    refine retW_det [] ?_
    simp only [go_sem, Le, AvLeL_free _ F_cmp_0]
end Go.Proofs.Ythpahhhdapdcpaa

namespace Go.Proofs.Ythpahhhdapdcpaa
open Go Go.RowKit
set_option maxHeartbeats 2000000
set_option maxRecDepth 100000
set_option linter.unusedSimpArgs false
set_option linter.unusedVariables false
def f_slices_symMergeCmpFunc_Row_s0_0_J6 (a_0 : Int) (mv_0 : Int) (b_0 : Int) (cmp_0 : GRow → GRow → Option Int) (self : (List GRow) → Int → Int → Int → (GRow → GRow → Option Int) → Option (List GRow)) (start_3 : Int) (a_6 : List GRow) : Option (List GRow) :=
  (if ((decide ((IntKind.i64.wrap (shrI .u64 (IntKind.u64.wrap (IntKind.i64.wrap (a_0 + b_0))) 1)) < (IntKind.i64.wrap ((IntKind.i64.wrap ((IntKind.i64.wrap (shrI .u64 (IntKind.u64.wrap (IntKind.i64.wrap (a_0 + b_0))) 1)) + mv_0)) - start_3)))) && (decide ((IntKind.i64.wrap ((IntKind.i64.wrap ((IntKind.i64.wrap (shrI .u64 (IntKind.u64.wrap (IntKind.i64.wrap (a_0 + b_0))) 1)) + mv_0)) - start_3)) < b_0))) = true then bindO (self a_6 (IntKind.i64.wrap (shrI .u64 (IntKind.u64.wrap (IntKind.i64.wrap (a_0 + b_0))) 1)) (IntKind.i64.wrap ((IntKind.i64.wrap ((IntKind.i64.wrap (shrI .u64 (IntKind.u64.wrap (IntKind.i64.wrap (a_0 + b_0))) 1)) + mv_0)) - start_3)) b_0 cmp_0) (fun (v_17 : List GRow) =>
  guardO (List.length v_17 = List.length a_6) (
  some v_17))
  else some a_6)
def f_slices_symMergeCmpFunc_Row_s0_0_J5 (a_0 : Int) (mv_0 : Int) (b_0 : Int) (cmp_0 : GRow → GRow → Option Int) (self : (List GRow) → Int → Int → Int → (GRow → GRow → Option Int) → Option (List GRow)) (start_3 : Int) (a_5 : List GRow) : Option (List GRow) :=
  (if ((decide (a_0 < start_3)) && (decide (start_3 < (IntKind.i64.wrap (shrI .u64 (IntKind.u64.wrap (IntKind.i64.wrap (a_0 + b_0))) 1))))) = true then bindO (self a_5 a_0 start_3 (IntKind.i64.wrap (shrI .u64 (IntKind.u64.wrap (IntKind.i64.wrap (a_0 + b_0))) 1)) cmp_0) (fun (v_18 : List GRow) =>
  guardO (List.length v_18 = List.length a_5) (
  f_slices_symMergeCmpFunc_Row_s0_0_J6 a_0 mv_0 b_0 cmp_0 self start_3 v_18))
  else f_slices_symMergeCmpFunc_Row_s0_0_J6 a_0 mv_0 b_0 cmp_0 self start_3 a_5)
def f_slices_symMergeCmpFunc_Row_s0_0_J4 (data_0 : List GRow) (a_0 : Int) (mv_0 : Int) (b_0 : Int) (cmp_0 : GRow → GRow → Option Int) (self : (List GRow) → Int → Int → Int → (GRow → GRow → Option Int) → Option (List GRow)) (start_3 : Int) : Option (List GRow) :=
  (if ((decide (start_3 < mv_0)) && (decide (mv_0 < (IntKind.i64.wrap ((IntKind.i64.wrap ((IntKind.i64.wrap (shrI .u64 (IntKind.u64.wrap (IntKind.i64.wrap (a_0 + b_0))) 1)) + mv_0)) - start_3))))) = true then bindO (f_slices_rotateCmpFunc_Row_s0_0 data_0 start_3 mv_0 (IntKind.i64.wrap ((IntKind.i64.wrap ((IntKind.i64.wrap (shrI .u64 (IntKind.u64.wrap (IntKind.i64.wrap (a_0 + b_0))) 1)) + mv_0)) - start_3)) cmp_0) (fun (v_19 : List GRow) =>
  guardO (List.length v_19 = List.length data_0) (
  f_slices_symMergeCmpFunc_Row_s0_0_J5 a_0 mv_0 b_0 cmp_0 self start_3 v_19))
  else f_slices_symMergeCmpFunc_Row_s0_0_J5 a_0 mv_0 b_0 cmp_0 self start_3 data_0)
def f_slices_symMergeCmpFunc_Row_s0_0_B7 (data_0 : List GRow) (a_0 : Int) (mv_0 : Int) (b_0 : Int) (cmp_0 : GRow → GRow → Option Int) (self : (List GRow) → Int → Int → Int → (GRow → GRow → Option Int) → Option (List GRow)) (rec_7 : Int × Int → Option (List GRow)) : Int × Int → Option (List GRow) :=
  fun (start_5, rv_4) =>
  (if (decide (start_5 < rv_4)) = true then bindO (idx data_0 (IntKind.i64.wrap ((IntKind.i64.wrap ((IntKind.i64.wrap ((IntKind.i64.wrap (shrI .u64 (IntKind.u64.wrap (IntKind.i64.wrap (a_0 + b_0))) 1)) + mv_0)) - 1)) - (IntKind.i64.wrap (shrI .u64 (IntKind.u64.wrap (IntKind.i64.wrap (start_5 + rv_4))) 1))))) (fun (xv_52 : GRow) =>
  bindO (idx data_0 (IntKind.i64.wrap (shrI .u64 (IntKind.u64.wrap (IntKind.i64.wrap (start_5 + rv_4))) 1))) (fun (xv_53 : GRow) =>
  bindO (cmp_0 xv_52 xv_53) (fun (v_22 : Int) =>
  (if (!(decide (v_22 < 0))) = true then rec_7 (IntKind.i64.wrap ((IntKind.i64.wrap (shrI .u64 (IntKind.u64.wrap (IntKind.i64.wrap (start_5 + rv_4))) 1)) + 1), rv_4)
  else rec_7 (start_5, IntKind.i64.wrap (shrI .u64 (IntKind.u64.wrap (IntKind.i64.wrap (start_5 + rv_4))) 1))))))
  else f_slices_symMergeCmpFunc_Row_s0_0_J4 data_0 a_0 mv_0 b_0 cmp_0 self start_5)
def f_slices_symMergeCmpFunc_Row_s0_0_J3 (data_0 : List GRow) (a_0 : Int) (mv_0 : Int) (b_0 : Int) (cmp_0 : GRow → GRow → Option Int) (self : (List GRow) → Int → Int → Int → (GRow → GRow → Option Int) → Option (List GRow)) (start_0 : Int) (rv_0 : Int) : Option (List GRow) :=
  loopK (f_slices_symMergeCmpFunc_Row_s0_0_B7 data_0 a_0 mv_0 b_0 cmp_0 self) rounds (start_0, rv_0)
def f_slices_symMergeCmpFunc_Row_s0_0_J2 (data_0 : List GRow) (a_0 : Int) (mv_0 : Int) (b_0 : Int) (cmp_0 : GRow → GRow → Option Int) (self : (List GRow) → Int → Int → Int → (GRow → GRow → Option Int) → Option (List GRow)) : Option (List GRow) :=
  (if (decide ((IntKind.i64.wrap (shrI .u64 (IntKind.u64.wrap (IntKind.i64.wrap (a_0 + b_0))) 1)) < mv_0)) = true then f_slices_symMergeCmpFunc_Row_s0_0_J3 data_0 a_0 mv_0 b_0 cmp_0 self (IntKind.i64.wrap ((IntKind.i64.wrap ((IntKind.i64.wrap (shrI .u64 (IntKind.u64.wrap (IntKind.i64.wrap (a_0 + b_0))) 1)) + mv_0)) - b_0)) (IntKind.i64.wrap (shrI .u64 (IntKind.u64.wrap (IntKind.i64.wrap (a_0 + b_0))) 1))
  else f_slices_symMergeCmpFunc_Row_s0_0_J3 data_0 a_0 mv_0 b_0 cmp_0 self a_0 mv_0)
def f_slices_symMergeCmpFunc_Row_s0_0_B9 (i_12 : Int) (rec_9 : Int × (List GRow) → Option (List GRow)) : Int × (List GRow) → Option (List GRow) :=
  fun (k_5, a_8) =>
  (if (decide (i_12 < k_5)) = true then bindO (idx a_8 (IntKind.i64.wrap (k_5 - 1))) (fun (xv_66 : GRow) =>
  bindO (idx a_8 k_5) (fun (xv_67 : GRow) =>
  bindO (idx (List.set a_8 (Int.toNat k_5) xv_66) (IntKind.i64.wrap (k_5 - 1))) (fun (xv_68 : GRow) =>
  rec_9 (IntKind.i64.wrap (k_5 - 1), (List.set (List.set a_8 (Int.toNat k_5) xv_66) (Int.toNat (IntKind.i64.wrap (k_5 - 1))) xv_67)))))
  else some a_8)
def f_slices_symMergeCmpFunc_Row_s0_0_J8 (data_0 : List GRow) (mv_0 : Int) (i_12 : Int) : Option (List GRow) :=
  loopK (f_slices_symMergeCmpFunc_Row_s0_0_B9 i_12) rounds (mv_0, data_0)
def f_slices_symMergeCmpFunc_Row_s0_0_B10 (data_0 : List GRow) (mv_0 : Int) (cmp_0 : GRow → GRow → Option Int) (rec_10 : Int × Int → Option (List GRow)) : Int × Int → Option (List GRow) :=
  fun (i_14, j_11) =>
  (if (decide (i_14 < j_11)) = true then bindO (idx data_0 mv_0) (fun (xv_73 : GRow) =>
  bindO (idx data_0 (IntKind.i64.wrap (shrI .u64 (IntKind.u64.wrap (IntKind.i64.wrap (i_14 + j_11))) 1))) (fun (xv_74 : GRow) =>
  bindO (cmp_0 xv_73 xv_74) (fun (v_28 : Int) =>
  (if (!(decide (v_28 < 0))) = true then rec_10 (IntKind.i64.wrap ((IntKind.i64.wrap (shrI .u64 (IntKind.u64.wrap (IntKind.i64.wrap (i_14 + j_11))) 1)) + 1), j_11)
  else rec_10 (i_14, IntKind.i64.wrap (shrI .u64 (IntKind.u64.wrap (IntKind.i64.wrap (i_14 + j_11))) 1))))))
  else f_slices_symMergeCmpFunc_Row_s0_0_J8 data_0 mv_0 i_14)
def f_slices_symMergeCmpFunc_Row_s0_0_J1 (data_0 : List GRow) (a_0 : Int) (mv_0 : Int) (b_0 : Int) (cmp_0 : GRow → GRow → Option Int) (self : (List GRow) → Int → Int → Int → (GRow → GRow → Option Int) → Option (List GRow)) : Option (List GRow) :=
  (if ((IntKind.i64.wrap (b_0 - mv_0)) == 1) = true then loopK (f_slices_symMergeCmpFunc_Row_s0_0_B10 data_0 mv_0 cmp_0) rounds (a_0, mv_0)
  else f_slices_symMergeCmpFunc_Row_s0_0_J2 data_0 a_0 mv_0 b_0 cmp_0 self)
def f_slices_symMergeCmpFunc_Row_s0_0_B12 (i_17 : Int) (rec_12 : Int × (List GRow) → Option (List GRow)) : Int × (List GRow) → Option (List GRow) :=
  fun (k_7, a_10) =>
  (if (decide (k_7 < (IntKind.i64.wrap (i_17 - 1)))) = true then bindO (idx a_10 (IntKind.i64.wrap (k_7 + 1))) (fun (xv_87 : GRow) =>
  bindO (idx a_10 k_7) (fun (xv_88 : GRow) =>
  bindO (idx (List.set a_10 (Int.toNat k_7) xv_87) (IntKind.i64.wrap (k_7 + 1))) (fun (xv_89 : GRow) =>
  rec_12 (IntKind.i64.wrap (k_7 + 1), (List.set (List.set a_10 (Int.toNat k_7) xv_87) (Int.toNat (IntKind.i64.wrap (k_7 + 1))) xv_88)))))
  else some a_10)
def f_slices_symMergeCmpFunc_Row_s0_0_J11 (data_0 : List GRow) (a_0 : Int) (i_17 : Int) : Option (List GRow) :=
  loopK (f_slices_symMergeCmpFunc_Row_s0_0_B12 i_17) rounds (a_0, data_0)
def f_slices_symMergeCmpFunc_Row_s0_0_B13 (data_0 : List GRow) (a_0 : Int) (cmp_0 : GRow → GRow → Option Int) (rec_13 : Int × Int → Option (List GRow)) : Int × Int → Option (List GRow) :=
  fun (i_19, j_15) =>
  (if (decide (i_19 < j_15)) = true then bindO (idx data_0 (IntKind.i64.wrap (shrI .u64 (IntKind.u64.wrap (IntKind.i64.wrap (i_19 + j_15))) 1))) (fun (xv_94 : GRow) =>
  bindO (idx data_0 a_0) (fun (xv_95 : GRow) =>
  bindO (cmp_0 xv_94 xv_95) (fun (v_34 : Int) =>
  (if (decide (v_34 < 0)) = true then rec_13 (IntKind.i64.wrap ((IntKind.i64.wrap (shrI .u64 (IntKind.u64.wrap (IntKind.i64.wrap (i_19 + j_15))) 1)) + 1), j_15)
  else rec_13 (i_19, IntKind.i64.wrap (shrI .u64 (IntKind.u64.wrap (IntKind.i64.wrap (i_19 + j_15))) 1))))))
  else f_slices_symMergeCmpFunc_Row_s0_0_J11 data_0 a_0 i_19)
def f_slices_symMergeCmpFunc_Row_s0_0_R (self : (List GRow) → Int → Int → Int → (GRow → GRow → Option Int) → Option (List GRow)) (data_0 : List GRow) (a_0 : Int) (mv_0 : Int) (b_0 : Int) (cmp_0 : GRow → GRow → Option Int) : Option (List GRow) :=
  (if ((IntKind.i64.wrap (mv_0 - a_0)) == 1) = true then loopK (f_slices_symMergeCmpFunc_Row_s0_0_B13 data_0 a_0 cmp_0) rounds (mv_0, b_0)
  else f_slices_symMergeCmpFunc_Row_s0_0_J1 data_0 a_0 mv_0 b_0 cmp_0 self)
def f_slices_symMergeCmpFunc_Row_s0_0_D : Nat → (List GRow) → Int → Int → Int → (GRow → GRow → Option Int) → Option (List GRow)
  | 0 => fun _ _ _ _ _ => none
  | n + 1 => f_slices_symMergeCmpFunc_Row_s0_0_R (f_slices_symMergeCmpFunc_Row_s0_0_D n)
def f_slices_symMergeCmpFunc_Row_s0_0 (data_0 : List GRow) (a_0 : Int) (mv_0 : Int) (b_0 : Int) (cmp_0 : GRow → GRow → Option Int) : Option (List GRow) := f_slices_symMergeCmpFunc_Row_s0_0_D rounds data_0 a_0 mv_0 b_0 cmp_0
theorem f_slices_symMergeCmpFunc_Row_s0_0_R_det (self : (List GRow) → Int → Int → Int → (GRow → GRow → Option Int) → Option (List GRow)) (Hself : ∀ (data_0 : List GRow) (a_0 : Int) (mv_0 : Int) (b_0 : Int) (cmp_0 : GRow → GRow → Option Int) (g_cmp_0 : FuncId) (c_cmp_0 : List AV) (F_cmp_0 : idFreeL c_cmp_0 = true) (E_cmp_0 : entB Try.prog g_cmp_0 = true) (H_cmp_0 : ∀ (x0 : GRow) (x1 : GRow) (r : Int), cmp_0 x0 x1 = some r → PureS Try.prog g_cmp_0 ([.agg [.v (.int .i64 x0.K), .v (.int .i64 x0.Many), .v (.int .i64 x0.Least), .v (.int .i64 x0.Top), .v (.int .i64 x0.Sum), .v (.bool x0.Sure)], .agg [.v (.int .i64 x1.K), .v (.int .i64 x1.Many), .v (.int .i64 x1.Least), .v (.int .i64 x1.Top), .v (.int .i64 x1.Sum), .v (.bool x1.Sure)]] ++ c_cmp_0) 0 (.v (.int .i64 r))) (r : List GRow), self data_0 a_0 mv_0 b_0 cmp_0 = some r → DetS Try.prog 213 [.osl 0 6 (0) (List.length data_0), .v (.int .i64 a_0), .v (.int .i64 mv_0), .v (.int .i64 b_0), .clo g_cmp_0 c_cmp_0] [(0, .arr 6 (enc data_0))] 1 (.tup []) [(0, .arr 6 (enc r))] 1) (data_0 : List GRow) (a_0 : Int) (mv_0 : Int) (b_0 : Int) (cmp_0 : GRow → GRow → Option Int) (g_cmp_0 : FuncId) (c_cmp_0 : List AV) (F_cmp_0 : idFreeL c_cmp_0 = true) (E_cmp_0 : entB Try.prog g_cmp_0 = true) (H_cmp_0 : ∀ (x0 : GRow) (x1 : GRow) (r : Int), cmp_0 x0 x1 = some r → PureS Try.prog g_cmp_0 ([.agg [.v (.int .i64 x0.K), .v (.int .i64 x0.Many), .v (.int .i64 x0.Least), .v (.int .i64 x0.Top), .v (.int .i64 x0.Sum), .v (.bool x0.Sure)], .agg [.v (.int .i64 x1.K), .v (.int .i64 x1.Many), .v (.int .i64 x1.Least), .v (.int .i64 x1.Top), .v (.int .i64 x1.Sum), .v (.bool x1.Sure)]] ++ c_cmp_0) 0 (.v (.int .i64 r))) (r : List GRow) (h : f_slices_symMergeCmpFunc_Row_s0_0_R self data_0 a_0 mv_0 b_0 cmp_0 = some r) : DetS Try.prog 213 [.osl 0 6 (0) (List.length data_0), .v (.int .i64 a_0), .v (.int .i64 mv_0), .v (.int .i64 b_0), .clo g_cmp_0 c_cmp_0] [(0, .arr 6 (enc data_0))] 1 (.tup []) [(0, .arr 6 (enc r))] 1 := by
  unfold DetS
  refine Spec.of_vc Try.func213 rfl (by kernel_rfl) (by kernel_rfl) ?_
  rw [f_slices_symMergeCmpFunc_Row_s0_0_R] at h
  refine vc_join (by kernel_rfl) ?_
  refine seq_cut_gen (ι := Unit) (fun (_ : Unit) => (⟨1, [(0, .osl 0 6 (0) (List.length data_0)), (1, .v (.int .i64 a_0)), (2, .v (.int .i64 mv_0)), (3, .v (.int .i64 b_0)), (4, .clo g_cmp_0 c_cmp_0)], [(0, .arr 6 (enc data_0))], 1, 220⟩ : St)) (fun (_ : Unit) => f_slices_symMergeCmpFunc_Row_s0_0_J1 data_0 a_0 mv_0 b_0 cmp_0 self = some r) ?_ ?_
  ·
    intro QQ43 hQ43
    refine vc_seq_gen (by kernel_rfl) ?_
    intro QQ44 hQ44
    simp only [go_sem, Try.ntmps213, Try.results213]
    refine seqQ_normal hQ44 ?_
    refine vc_cond_of (b := ((IntKind.i64.wrap (mv_0 - a_0)) == 1)) (by (simp only [go_sem]; done)) (fun hb_67 => ?_) (fun hb_67 => ?_)
    ·
      replace h := if_t h hb_67
      simp only [decide_eq_true_eq, decide_eq_false_iff_not, Bool.not_eq_true', Bool.not_eq_false', beq_iff_eq, beq_eq_false_iff_ne, ne_eq, Bool.and_eq_true, Bool.or_eq_true, Int.not_lt, Int.not_le] at hb_67
      refine vc_seq_gen (by kernel_rfl) ?_
      intro QQ45 hQ45
      simp only [go_sem, Try.ntmps213, Try.results213]
      refine seqQ_normal hQ45 ?_
      refine vc_seq_gen (by kernel_rfl) ?_
      intro QQ46 hQ46
      simp only [go_sem, Try.ntmps213, Try.results213]
      refine seqQ_normal hQ46 ?_
      refine vc_join (by kernel_rfl) ?_
      refine seq_cut_gen (ι := Int) (fun (i_17 : Int) => (⟨1, [(0, .osl 0 6 (0) (List.length data_0)), (1, .v (.int .i64 a_0)), (10, .v (.int .i64 i_17))], [(0, .arr 6 (enc data_0))], 1, 220⟩ : St)) (fun (i_17 : Int) => f_slices_symMergeCmpFunc_Row_s0_0_J11 data_0 a_0 i_17 = some r) ?_ ?_
      ·
        intro QQ55 hQ55
        refine vc_block_gen ?_
        intro QQ56 hQ56
        refine vc_loop_of ?_
        refine loop_gen (ι := Nat × Int × Int) (fun ((_, i_19, j_15) : Nat × Int × Int) => (⟨1, [(0, .osl 0 6 (0) (List.length data_0)), (1, .v (.int .i64 a_0)), (4, .clo g_cmp_0 c_cmp_0), (10, .v (.int .i64 i_19)), (11, .v (.int .i64 j_15))], [(0, .arr 6 (enc data_0))], 1, 220⟩ : St)) (fun ((n_, i_19, j_15) : Nat × Int × Int) => loopK (f_slices_symMergeCmpFunc_Row_s0_0_B13 data_0 a_0 cmp_0) n_ (i_19, j_15) = some r) (fun p => p.1) (rounds, mv_0, b_0) [] ?_ h ?_
        · simp only [go_sem, Le, AvLeL_free _ F_cmp_0]
        · rintro ⟨n_13, i_19, j_15⟩ h QQ57 hQ57
          dsimp only at h
          replace h := loopK_some h
          obtain ⟨m_13, rfl, h⟩ := h
          rw [f_slices_symMergeCmpFunc_Row_s0_0_B13] at h
          refine vc_seq_gen (by kernel_rfl) ?_
          intro QQ58 hQ58
          refine vc_seq_gen (by kernel_rfl) ?_
          intro QQ59 hQ59
          simp only [go_sem, Try.ntmps213, Try.results213]
          refine seqQ_normal hQ59 ?_
          refine vc_cond_of (b := (decide (i_19 < j_15))) (by (simp only [go_sem]; done)) (fun hb_81 => ?_) (fun hb_81 => ?_)
          ·
            replace h := if_t h hb_81
            simp only [decide_eq_true_eq, decide_eq_false_iff_not, Bool.not_eq_true', Bool.not_eq_false', beq_iff_eq, beq_eq_false_iff_ne, ne_eq, Bool.and_eq_true, Bool.or_eq_true, Int.not_lt, Int.not_le] at hb_81
            refine vc_skip_of ?_
            refine seqQ_normal hQ58 ?_
            refine vc_block_gen ?_
            intro QQ60 hQ60
            refine vc_seq_gen (by kernel_rfl) ?_
            intro QQ61 hQ61
            simp only [go_sem, Try.ntmps213, Try.results213]
            refine seqQ_normal hQ61 ?_
            refine vc_seq_gen (by kernel_rfl) ?_
            intro QQ62 hQ62
            refine vc_draw ?_
            refine drawM_tail 9 [0, 0, 0, 6, 14, 0, 0, 96, 224, 511, 1023] mixed (by kernel_rfl) (of_decide_eq_true (by kernel_rfl)) (by kernel_rfl) ?_
            obtain ⟨xv_94, exv_94, h⟩ := bindO_some h
            obtain ⟨fxv_94a, fxv_94b, fxv_94c⟩ := idx_spec exv_94
            obtain ⟨xv_95, exv_95, h⟩ := bindO_some h
            obtain ⟨fxv_95a, fxv_95b, fxv_95c⟩ := idx_spec exv_95
            obtain ⟨v_34, ev_34, h⟩ := bindO_some h
            simp only [go_sem, Try.ntmps213, Try.results213, fxv_94a, fxv_94b, fxv_94c, fxv_95a, fxv_95b, fxv_95c, E_cmp_0]
            refine And.intro (by omega) ?_
            refine And.intro (by omega) ?_
            refine call0 (H_cmp_0 xv_94 xv_95 v_34 ev_34) (by rfl) (by simp [idFreeL, idFree, F_cmp_0]) ?_
            simp only [go_sem, Try.ntmps213, Try.results213]
            refine seqQ_normal hQ62 ?_
            refine vc_cond_of (b := (decide (v_34 < 0))) (by (simp only [go_sem]; done)) (fun hb_82 => ?_) (fun hb_82 => ?_)
            ·
              replace h := if_t h hb_82
              simp only [decide_eq_true_eq, decide_eq_false_iff_not, Bool.not_eq_true', Bool.not_eq_false', beq_iff_eq, beq_eq_false_iff_ne, ne_eq, Bool.and_eq_true, Bool.or_eq_true, Int.not_lt, Int.not_le] at hb_82
              simp only [go_sem, Try.ntmps213, Try.results213]
              refine blockQ_normal hQ60 ?_
              refine thenQ_normal hQ57 ?_
              refine ⟨(m_13, IntKind.i64.wrap ((IntKind.i64.wrap (shrI .u64 (IntKind.u64.wrap (IntKind.i64.wrap (i_19 + j_15))) 1)) + 1), j_15), [], ?_, h, Nat.lt_succ_self _⟩
              simp only [go_sem, Le, AvLeL_free _ F_cmp_0]
            ·
              replace h := if_f h hb_82
              simp only [decide_eq_true_eq, decide_eq_false_iff_not, Bool.not_eq_true', Bool.not_eq_false', beq_iff_eq, beq_eq_false_iff_ne, ne_eq, Bool.and_eq_true, Bool.or_eq_true, Int.not_lt, Int.not_le] at hb_82
              simp only [go_sem, Try.ntmps213, Try.results213]
              refine blockQ_normal hQ60 ?_
              refine thenQ_normal hQ57 ?_
              refine ⟨(m_13, i_19, IntKind.i64.wrap (shrI .u64 (IntKind.u64.wrap (IntKind.i64.wrap (i_19 + j_15))) 1)), [], ?_, h, Nat.lt_succ_self _⟩
              simp only [go_sem, Le, AvLeL_free _ F_cmp_0]
          ·
            replace h := if_f h hb_81
            simp only [decide_eq_true_eq, decide_eq_false_iff_not, Bool.not_eq_true', Bool.not_eq_false', beq_iff_eq, beq_eq_false_iff_ne, ne_eq, Bool.and_eq_true, Bool.or_eq_true, Int.not_lt, Int.not_le] at hb_81
            refine vc_exit_of ?_
            refine seqQ_exit hQ58 ?_
            refine thenQ_exit hQ57 ?_
            refine blockQ_exit hQ56 ?_
            refine thenQ_normal hQ55 ?_
            refine ⟨i_19, [], ?_, h⟩
            simp only [go_sem, Le, AvLeL_free _ F_cmp_0]
      · rintro i_17 h
        try dsimp only at h
        rw [f_slices_symMergeCmpFunc_Row_s0_0_J11] at h
        refine vc_join (by kernel_rfl) ?_
        refine seq_go_gen ?_
        intro QQ47 hQ47
        refine vc_seq_gen (by kernel_rfl) ?_
        intro QQ48 hQ48
        simp only [go_sem, Try.ntmps213, Try.results213]
        refine seqQ_normal hQ48 ?_
        refine vc_block_gen ?_
        intro QQ49 hQ49
        refine vc_loop_of ?_
        refine loop_gen (ι := Nat × Int × (List GRow)) (fun ((_, k_7, a_10) : Nat × Int × (List GRow)) => (⟨1, [(0, .osl 0 6 (0) (List.length a_10)), (10, .v (.int .i64 i_17)), (13, .v (.int .i64 k_7))], [(0, .arr 6 (enc a_10))], 1, 220⟩ : St)) (fun ((n_, k_7, a_10) : Nat × Int × (List GRow)) => loopK (f_slices_symMergeCmpFunc_Row_s0_0_B12 i_17) n_ (k_7, a_10) = some r) (fun p => p.1) (rounds, a_0, data_0) [] ?_ h ?_
        · simp only [go_sem, Le, AvLeL_free _ F_cmp_0]
        · rintro ⟨n_12, k_7, a_10⟩ h QQ50 hQ50
          dsimp only at h
          replace h := loopK_some h
          obtain ⟨m_12, rfl, h⟩ := h
          rw [f_slices_symMergeCmpFunc_Row_s0_0_B12] at h
          refine vc_seq_gen (by kernel_rfl) ?_
          intro QQ51 hQ51
          refine vc_seq_gen (by kernel_rfl) ?_
          intro QQ52 hQ52
          simp only [go_sem, Try.ntmps213, Try.results213]
          refine seqQ_normal hQ52 ?_
          refine vc_cond_of (b := (decide (k_7 < (IntKind.i64.wrap (i_17 - 1))))) (by (simp only [go_sem]; done)) (fun hb_76 => ?_) (fun hb_76 => ?_)
          ·
            replace h := if_t h hb_76
            simp only [decide_eq_true_eq, decide_eq_false_iff_not, Bool.not_eq_true', Bool.not_eq_false', beq_iff_eq, beq_eq_false_iff_ne, ne_eq, Bool.and_eq_true, Bool.or_eq_true, Int.not_lt, Int.not_le] at hb_76
            refine vc_skip_of ?_
            refine seqQ_normal hQ51 ?_
            refine vc_seq_gen (by kernel_rfl) ?_
            intro QQ53 hQ53
            refine vc_block_gen ?_
            intro QQ54 hQ54
            refine vc_draw ?_
            refine drawV_all 16 0 [0, 0, 0, 0, 8, 0, 0, 64, 224, 480, 0, 0, 3072, 7168, 16355, 32739, 65535, 131071] [0] [2, 3, 4] [15] [] mixed (by kernel_rfl) (of_decide_eq_true (by kernel_rfl)) (by kernel_rfl) (by kernel_rfl) (by rfl) ?_
            obtain ⟨xv_87, exv_87, h⟩ := bindO_some h
            obtain ⟨fxv_87a, fxv_87b, fxv_87c⟩ := idx_spec exv_87
            obtain ⟨xv_88, exv_88, h⟩ := bindO_some h
            obtain ⟨fxv_88a, fxv_88b, fxv_88c⟩ := idx_spec exv_88
            have rf_22 : (enc a_10).set (Int.toNat k_7) [.v (.int .i64 xv_87.K), .v (.int .i64 xv_87.Many), .v (.int .i64 xv_87.Least), .v (.int .i64 xv_87.Top), .v (.int .i64 xv_87.Sum), .v (.bool xv_87.Sure)] = enc (List.set a_10 (Int.toNat k_7) xv_87) := by exact enc_set _ _ _
            obtain ⟨xv_89, exv_89, h⟩ := bindO_some h
            obtain ⟨fxv_89a, fxv_89b, fxv_89c⟩ := idx_spec exv_89
            have rf_23 : (enc (List.set a_10 (Int.toNat k_7) xv_87)).set (Int.toNat (IntKind.i64.wrap (k_7 + 1))) [.v (.int .i64 xv_88.K), .v (.int .i64 xv_88.Many), .v (.int .i64 xv_88.Least), .v (.int .i64 xv_88.Top), .v (.int .i64 xv_88.Sum), .v (.bool xv_88.Sure)] = enc (List.set (List.set a_10 (Int.toNat k_7) xv_87) (Int.toNat (IntKind.i64.wrap (k_7 + 1))) xv_88) := by exact enc_set _ _ _
            simp only [go_sem, Try.ntmps213, Try.results213, fxv_87a, fxv_87b, fxv_87c, fxv_88a, fxv_88b, fxv_88c, rf_22, fxv_89a, fxv_89b, fxv_89c, rf_23]
            refine And.intro (by omega) ?_
            refine And.intro (by omega) ?_
            refine And.intro (by omega) ?_
            refine And.intro (by omega) ?_
            refine blockQ_normal hQ54 ?_
            refine seqQ_normal hQ53 ?_
            simp only [go_sem, Try.ntmps213, Try.results213]
            refine thenQ_normal hQ50 ?_
            refine ⟨(m_12, IntKind.i64.wrap (k_7 + 1), (List.set (List.set a_10 (Int.toNat k_7) xv_87) (Int.toNat (IntKind.i64.wrap (k_7 + 1))) xv_88)), [], ?_, h, Nat.lt_succ_self _⟩
            simp only [go_sem, Le, AvLeL_free _ F_cmp_0]
          ·
            replace h := if_f h hb_76
            simp only [decide_eq_true_eq, decide_eq_false_iff_not, Bool.not_eq_true', Bool.not_eq_false', beq_iff_eq, beq_eq_false_iff_ne, ne_eq, Bool.and_eq_true, Bool.or_eq_true, Int.not_lt, Int.not_le] at hb_76
            refine vc_exit_of ?_
            refine seqQ_exit hQ51 ?_
            refine thenQ_exit hQ50 ?_
            refine blockQ_exit hQ49 ?_
            refine seqQ_normal hQ47 ?_
            refine vc_ret_of ?_
            refine thenQ_ret hQ43 ?_
            simp only [go_sem, Try.ntmps213, Try.results213]
            obtain rfl := Option.some.inj h
            refine retW_det [] ?_
            simp only [go_sem, Le, AvLeL_free _ F_cmp_0]
    ·
      replace h := if_f h hb_67
      simp only [decide_eq_true_eq, decide_eq_false_iff_not, Bool.not_eq_true', Bool.not_eq_false', beq_iff_eq, beq_eq_false_iff_ne, ne_eq, Bool.and_eq_true, Bool.or_eq_true, Int.not_lt, Int.not_le] at hb_67
      refine vc_skip_of ?_
      refine thenQ_normal hQ43 ?_
      refine ⟨(), [], ?_, h⟩
      simp only [go_sem, Le, AvLeL_free _ F_cmp_0]
  · rintro ⟨⟩ h
    try dsimp only at h
    rw [f_slices_symMergeCmpFunc_Row_s0_0_J1] at h
    refine vc_join (by kernel_rfl) ?_
    refine seq_cut_gen (ι := Unit) (fun (_ : Unit) => (⟨1, [(0, .osl 0 6 (0) (List.length data_0)), (1, .v (.int .i64 a_0)), (2, .v (.int .i64 mv_0)), (3, .v (.int .i64 b_0)), (4, .clo g_cmp_0 c_cmp_0)], [(0, .arr 6 (enc data_0))], 1, 220⟩ : St)) (fun (_ : Unit) => f_slices_symMergeCmpFunc_Row_s0_0_J2 data_0 a_0 mv_0 b_0 cmp_0 self = some r) ?_ ?_
    ·
      intro QQ23 hQ23
      refine vc_seq_gen (by kernel_rfl) ?_
      intro QQ24 hQ24
      simp only [go_sem, Try.ntmps213, Try.results213]
      refine seqQ_normal hQ24 ?_
      refine vc_cond_of (b := ((IntKind.i64.wrap (b_0 - mv_0)) == 1)) (by (simp only [go_sem]; done)) (fun hb_51 => ?_) (fun hb_51 => ?_)
      ·
        replace h := if_t h hb_51
        simp only [decide_eq_true_eq, decide_eq_false_iff_not, Bool.not_eq_true', Bool.not_eq_false', beq_iff_eq, beq_eq_false_iff_ne, ne_eq, Bool.and_eq_true, Bool.or_eq_true, Int.not_lt, Int.not_le] at hb_51
        refine vc_seq_gen (by kernel_rfl) ?_
        intro QQ25 hQ25
        simp only [go_sem, Try.ntmps213, Try.results213]
        refine seqQ_normal hQ25 ?_
        refine vc_seq_gen (by kernel_rfl) ?_
        intro QQ26 hQ26
        simp only [go_sem, Try.ntmps213, Try.results213]
        refine seqQ_normal hQ26 ?_
        refine vc_join (by kernel_rfl) ?_
        refine seq_cut_gen (ι := Int) (fun (i_12 : Int) => (⟨1, [(0, .osl 0 6 (0) (List.length data_0)), (2, .v (.int .i64 mv_0)), (14, .v (.int .i64 i_12))], [(0, .arr 6 (enc data_0))], 1, 220⟩ : St)) (fun (i_12 : Int) => f_slices_symMergeCmpFunc_Row_s0_0_J8 data_0 mv_0 i_12 = some r) ?_ ?_
        ·
          intro QQ35 hQ35
          refine vc_block_gen ?_
          intro QQ36 hQ36
          refine vc_loop_of ?_
          refine loop_gen (ι := Nat × Int × Int) (fun ((_, i_14, j_11) : Nat × Int × Int) => (⟨1, [(0, .osl 0 6 (0) (List.length data_0)), (2, .v (.int .i64 mv_0)), (4, .clo g_cmp_0 c_cmp_0), (14, .v (.int .i64 i_14)), (15, .v (.int .i64 j_11))], [(0, .arr 6 (enc data_0))], 1, 220⟩ : St)) (fun ((n_, i_14, j_11) : Nat × Int × Int) => loopK (f_slices_symMergeCmpFunc_Row_s0_0_B10 data_0 mv_0 cmp_0) n_ (i_14, j_11) = some r) (fun p => p.1) (rounds, a_0, mv_0) [] ?_ h ?_
          · simp only [go_sem, Le, AvLeL_free _ F_cmp_0]
          · rintro ⟨n_10, i_14, j_11⟩ h QQ37 hQ37
            dsimp only at h
            replace h := loopK_some h
            obtain ⟨m_10, rfl, h⟩ := h
            rw [f_slices_symMergeCmpFunc_Row_s0_0_B10] at h
            refine vc_seq_gen (by kernel_rfl) ?_
            intro QQ38 hQ38
            refine vc_seq_gen (by kernel_rfl) ?_
            intro QQ39 hQ39
            simp only [go_sem, Try.ntmps213, Try.results213]
            refine seqQ_normal hQ39 ?_
            refine vc_cond_of (b := (decide (i_14 < j_11))) (by (simp only [go_sem]; done)) (fun hb_65 => ?_) (fun hb_65 => ?_)
            ·
              replace h := if_t h hb_65
              simp only [decide_eq_true_eq, decide_eq_false_iff_not, Bool.not_eq_true', Bool.not_eq_false', beq_iff_eq, beq_eq_false_iff_ne, ne_eq, Bool.and_eq_true, Bool.or_eq_true, Int.not_lt, Int.not_le] at hb_65
              refine vc_skip_of ?_
              refine seqQ_normal hQ38 ?_
              refine vc_block_gen ?_
              intro QQ40 hQ40
              refine vc_seq_gen (by kernel_rfl) ?_
              intro QQ41 hQ41
              simp only [go_sem, Try.ntmps213, Try.results213]
              refine seqQ_normal hQ41 ?_
              refine vc_seq_gen (by kernel_rfl) ?_
              intro QQ42 hQ42
              refine vc_draw ?_
              refine drawM_tail 9 [0, 0, 0, 6, 14, 0, 0, 96, 224, 511, 1023, 2047] mixed (by kernel_rfl) (of_decide_eq_true (by kernel_rfl)) (by kernel_rfl) ?_
              obtain ⟨xv_73, exv_73, h⟩ := bindO_some h
              obtain ⟨fxv_73a, fxv_73b, fxv_73c⟩ := idx_spec exv_73
              obtain ⟨xv_74, exv_74, h⟩ := bindO_some h
              obtain ⟨fxv_74a, fxv_74b, fxv_74c⟩ := idx_spec exv_74
              obtain ⟨v_28, ev_28, h⟩ := bindO_some h
              simp only [go_sem, Try.ntmps213, Try.results213, fxv_73a, fxv_73b, fxv_73c, fxv_74a, fxv_74b, fxv_74c, E_cmp_0]
              refine And.intro (by omega) ?_
              refine And.intro (by omega) ?_
              refine call0 (H_cmp_0 xv_73 xv_74 v_28 ev_28) (by rfl) (by simp [idFreeL, idFree, F_cmp_0]) ?_
              simp only [go_sem, Try.ntmps213, Try.results213]
              refine seqQ_normal hQ42 ?_
              refine vc_cond_of (b := (!(decide (v_28 < 0)))) (by (simp only [go_sem]; done)) (fun hb_66 => ?_) (fun hb_66 => ?_)
              ·
                replace h := if_t h hb_66
                simp only [decide_eq_true_eq, decide_eq_false_iff_not, Bool.not_eq_true', Bool.not_eq_false', beq_iff_eq, beq_eq_false_iff_ne, ne_eq, Bool.and_eq_true, Bool.or_eq_true, Int.not_lt, Int.not_le] at hb_66
                simp only [go_sem, Try.ntmps213, Try.results213]
                refine blockQ_normal hQ40 ?_
                refine thenQ_normal hQ37 ?_
                refine ⟨(m_10, IntKind.i64.wrap ((IntKind.i64.wrap (shrI .u64 (IntKind.u64.wrap (IntKind.i64.wrap (i_14 + j_11))) 1)) + 1), j_11), [], ?_, h, Nat.lt_succ_self _⟩
                simp only [go_sem, Le, AvLeL_free _ F_cmp_0]
              ·
                replace h := if_f h hb_66
                simp only [decide_eq_true_eq, decide_eq_false_iff_not, Bool.not_eq_true', Bool.not_eq_false', beq_iff_eq, beq_eq_false_iff_ne, ne_eq, Bool.and_eq_true, Bool.or_eq_true, Int.not_lt, Int.not_le] at hb_66
                simp only [go_sem, Try.ntmps213, Try.results213]
                refine blockQ_normal hQ40 ?_
                refine thenQ_normal hQ37 ?_
                refine ⟨(m_10, i_14, IntKind.i64.wrap (shrI .u64 (IntKind.u64.wrap (IntKind.i64.wrap (i_14 + j_11))) 1)), [], ?_, h, Nat.lt_succ_self _⟩
                simp only [go_sem, Le, AvLeL_free _ F_cmp_0]
            ·
              replace h := if_f h hb_65
              simp only [decide_eq_true_eq, decide_eq_false_iff_not, Bool.not_eq_true', Bool.not_eq_false', beq_iff_eq, beq_eq_false_iff_ne, ne_eq, Bool.and_eq_true, Bool.or_eq_true, Int.not_lt, Int.not_le] at hb_65
              refine vc_exit_of ?_
              refine seqQ_exit hQ38 ?_
              refine thenQ_exit hQ37 ?_
              refine blockQ_exit hQ36 ?_
              refine thenQ_normal hQ35 ?_
              refine ⟨i_14, [], ?_, h⟩
              simp only [go_sem, Le, AvLeL_free _ F_cmp_0]
        · rintro i_12 h
          try dsimp only at h
          rw [f_slices_symMergeCmpFunc_Row_s0_0_J8] at h
          refine vc_join (by kernel_rfl) ?_
          refine seq_go_gen ?_
          intro QQ27 hQ27
          refine vc_seq_gen (by kernel_rfl) ?_
          intro QQ28 hQ28
          simp only [go_sem, Try.ntmps213, Try.results213]
          refine seqQ_normal hQ28 ?_
          refine vc_block_gen ?_
          intro QQ29 hQ29
          refine vc_loop_of ?_
          refine loop_gen (ι := Nat × Int × (List GRow)) (fun ((_, k_5, a_8) : Nat × Int × (List GRow)) => (⟨1, [(0, .osl 0 6 (0) (List.length a_8)), (14, .v (.int .i64 i_12)), (17, .v (.int .i64 k_5))], [(0, .arr 6 (enc a_8))], 1, 220⟩ : St)) (fun ((n_, k_5, a_8) : Nat × Int × (List GRow)) => loopK (f_slices_symMergeCmpFunc_Row_s0_0_B9 i_12) n_ (k_5, a_8) = some r) (fun p => p.1) (rounds, mv_0, data_0) [] ?_ h ?_
          · simp only [go_sem, Le, AvLeL_free _ F_cmp_0]
          · rintro ⟨n_9, k_5, a_8⟩ h QQ30 hQ30
            dsimp only at h
            replace h := loopK_some h
            obtain ⟨m_9, rfl, h⟩ := h
            rw [f_slices_symMergeCmpFunc_Row_s0_0_B9] at h
            refine vc_seq_gen (by kernel_rfl) ?_
            intro QQ31 hQ31
            refine vc_seq_gen (by kernel_rfl) ?_
            intro QQ32 hQ32
            simp only [go_sem, Try.ntmps213, Try.results213]
            refine seqQ_normal hQ32 ?_
            refine vc_cond_of (b := (decide (i_12 < k_5))) (by (simp only [go_sem]; done)) (fun hb_60 => ?_) (fun hb_60 => ?_)
            ·
              replace h := if_t h hb_60
              simp only [decide_eq_true_eq, decide_eq_false_iff_not, Bool.not_eq_true', Bool.not_eq_false', beq_iff_eq, beq_eq_false_iff_ne, ne_eq, Bool.and_eq_true, Bool.or_eq_true, Int.not_lt, Int.not_le] at hb_60
              refine vc_skip_of ?_
              refine seqQ_normal hQ31 ?_
              refine vc_seq_gen (by kernel_rfl) ?_
              intro QQ33 hQ33
              refine vc_block_gen ?_
              intro QQ34 hQ34
              refine vc_draw ?_
              refine drawV_all 16 0 [0, 0, 0, 0, 8, 0, 0, 64, 224, 480, 0, 0, 3072, 7168, 16355, 32739, 65535, 131071] [0] [2, 3, 4] [15] [] mixed (by kernel_rfl) (of_decide_eq_true (by kernel_rfl)) (by kernel_rfl) (by kernel_rfl) (by rfl) ?_
              obtain ⟨xv_66, exv_66, h⟩ := bindO_some h
              obtain ⟨fxv_66a, fxv_66b, fxv_66c⟩ := idx_spec exv_66
              obtain ⟨xv_67, exv_67, h⟩ := bindO_some h
              obtain ⟨fxv_67a, fxv_67b, fxv_67c⟩ := idx_spec exv_67
              have rf_16 : (enc a_8).set (Int.toNat k_5) [.v (.int .i64 xv_66.K), .v (.int .i64 xv_66.Many), .v (.int .i64 xv_66.Least), .v (.int .i64 xv_66.Top), .v (.int .i64 xv_66.Sum), .v (.bool xv_66.Sure)] = enc (List.set a_8 (Int.toNat k_5) xv_66) := by exact enc_set _ _ _
              obtain ⟨xv_68, exv_68, h⟩ := bindO_some h
              obtain ⟨fxv_68a, fxv_68b, fxv_68c⟩ := idx_spec exv_68
              have rf_17 : (enc (List.set a_8 (Int.toNat k_5) xv_66)).set (Int.toNat (IntKind.i64.wrap (k_5 - 1))) [.v (.int .i64 xv_67.K), .v (.int .i64 xv_67.Many), .v (.int .i64 xv_67.Least), .v (.int .i64 xv_67.Top), .v (.int .i64 xv_67.Sum), .v (.bool xv_67.Sure)] = enc (List.set (List.set a_8 (Int.toNat k_5) xv_66) (Int.toNat (IntKind.i64.wrap (k_5 - 1))) xv_67) := by exact enc_set _ _ _
              simp only [go_sem, Try.ntmps213, Try.results213, fxv_66a, fxv_66b, fxv_66c, fxv_67a, fxv_67b, fxv_67c, rf_16, fxv_68a, fxv_68b, fxv_68c, rf_17]
              refine And.intro (by omega) ?_
              refine And.intro (by omega) ?_
              refine And.intro (by omega) ?_
              refine And.intro (by omega) ?_
              refine blockQ_normal hQ34 ?_
              refine seqQ_normal hQ33 ?_
              simp only [go_sem, Try.ntmps213, Try.results213]
              refine thenQ_normal hQ30 ?_
              refine ⟨(m_9, IntKind.i64.wrap (k_5 - 1), (List.set (List.set a_8 (Int.toNat k_5) xv_66) (Int.toNat (IntKind.i64.wrap (k_5 - 1))) xv_67)), [], ?_, h, Nat.lt_succ_self _⟩
              simp only [go_sem, Le, AvLeL_free _ F_cmp_0]
            ·
              replace h := if_f h hb_60
              simp only [decide_eq_true_eq, decide_eq_false_iff_not, Bool.not_eq_true', Bool.not_eq_false', beq_iff_eq, beq_eq_false_iff_ne, ne_eq, Bool.and_eq_true, Bool.or_eq_true, Int.not_lt, Int.not_le] at hb_60
              refine vc_exit_of ?_
              refine seqQ_exit hQ31 ?_
              refine thenQ_exit hQ30 ?_
              refine blockQ_exit hQ29 ?_
              refine seqQ_normal hQ27 ?_
              refine vc_ret_of ?_
              refine thenQ_ret hQ23 ?_
              simp only [go_sem, Try.ntmps213, Try.results213]
              obtain rfl := Option.some.inj h
              refine retW_det [] ?_
              simp only [go_sem, Le, AvLeL_free _ F_cmp_0]
      ·
        replace h := if_f h hb_51
        simp only [decide_eq_true_eq, decide_eq_false_iff_not, Bool.not_eq_true', Bool.not_eq_false', beq_iff_eq, beq_eq_false_iff_ne, ne_eq, Bool.and_eq_true, Bool.or_eq_true, Int.not_lt, Int.not_le] at hb_51
        refine vc_skip_of ?_
        refine thenQ_normal hQ23 ?_
        refine ⟨(), [], ?_, h⟩
        simp only [go_sem, Le, AvLeL_free _ F_cmp_0]
    · rintro ⟨⟩ h
      try dsimp only at h
      rw [f_slices_symMergeCmpFunc_Row_s0_0_J2] at h
      refine vc_seq_gen (by kernel_rfl) ?_
      intro QQ1 hQ1
      simp only [go_sem, Try.ntmps213, Try.results213]
      refine seqQ_normal hQ1 ?_
      refine vc_seq_gen (by kernel_rfl) ?_
      intro QQ2 hQ2
      simp only [go_sem, Try.ntmps213, Try.results213]
      refine seqQ_normal hQ2 ?_
      refine vc_seq_gen (by kernel_rfl) ?_
      intro QQ3 hQ3
      simp only [go_sem, Try.ntmps213, Try.results213]
      refine seqQ_normal hQ3 ?_
      refine vc_join (by kernel_rfl) ?_
      refine seq_cut_gen (ι := Int × Int) (fun ((start_0, rv_0) : Int × Int) => (⟨1, [(0, .osl 0 6 (0) (List.length data_0)), (1, .v (.int .i64 a_0)), (2, .v (.int .i64 mv_0)), (3, .v (.int .i64 b_0)), (4, .clo g_cmp_0 c_cmp_0), (18, .v (.int .i64 (IntKind.i64.wrap (shrI .u64 (IntKind.u64.wrap (IntKind.i64.wrap (a_0 + b_0))) 1)))), (19, .v (.int .i64 (IntKind.i64.wrap ((IntKind.i64.wrap (shrI .u64 (IntKind.u64.wrap (IntKind.i64.wrap (a_0 + b_0))) 1)) + mv_0)))), (20, .v (.int .i64 start_0)), (21, .v (.int .i64 rv_0))], [(0, .arr 6 (enc data_0))], 1, 220⟩ : St)) (fun ((start_0, rv_0) : Int × Int) => f_slices_symMergeCmpFunc_Row_s0_0_J3 data_0 a_0 mv_0 b_0 cmp_0 self start_0 rv_0 = some r) ?_ ?_
      ·
        intro QQ19 hQ19
        refine vc_seq_gen (by kernel_rfl) ?_
        intro QQ20 hQ20
        simp only [go_sem, Try.ntmps213, Try.results213]
        refine seqQ_normal hQ20 ?_
        refine vc_cond_of (b := (decide ((IntKind.i64.wrap (shrI .u64 (IntKind.u64.wrap (IntKind.i64.wrap (a_0 + b_0))) 1)) < mv_0))) (by (simp only [go_sem]; done)) (fun hb_50 => ?_) (fun hb_50 => ?_)
        ·
          replace h := if_t h hb_50
          simp only [decide_eq_true_eq, decide_eq_false_iff_not, Bool.not_eq_true', Bool.not_eq_false', beq_iff_eq, beq_eq_false_iff_ne, ne_eq, Bool.and_eq_true, Bool.or_eq_true, Int.not_lt, Int.not_le] at hb_50
          refine vc_seq_gen (by kernel_rfl) ?_
          intro QQ21 hQ21
          simp only [go_sem, Try.ntmps213, Try.results213]
          refine seqQ_normal hQ21 ?_
          simp only [go_sem, Try.ntmps213, Try.results213]
          refine thenQ_normal hQ19 ?_
          refine ⟨(IntKind.i64.wrap ((IntKind.i64.wrap ((IntKind.i64.wrap (shrI .u64 (IntKind.u64.wrap (IntKind.i64.wrap (a_0 + b_0))) 1)) + mv_0)) - b_0), IntKind.i64.wrap (shrI .u64 (IntKind.u64.wrap (IntKind.i64.wrap (a_0 + b_0))) 1)), [], ?_, h⟩
          simp only [go_sem, Le, AvLeL_free _ F_cmp_0]
        ·
          replace h := if_f h hb_50
          simp only [decide_eq_true_eq, decide_eq_false_iff_not, Bool.not_eq_true', Bool.not_eq_false', beq_iff_eq, beq_eq_false_iff_ne, ne_eq, Bool.and_eq_true, Bool.or_eq_true, Int.not_lt, Int.not_le] at hb_50
          refine vc_seq_gen (by kernel_rfl) ?_
          intro QQ22 hQ22
          simp only [go_sem, Try.ntmps213, Try.results213]
          refine seqQ_normal hQ22 ?_
          simp only [go_sem, Try.ntmps213, Try.results213]
          refine thenQ_normal hQ19 ?_
          refine ⟨(a_0, mv_0), [], ?_, h⟩
          simp only [go_sem, Le, AvLeL_free _ F_cmp_0]
      · rintro ⟨start_0, rv_0⟩ h
        try dsimp only at h
        rw [f_slices_symMergeCmpFunc_Row_s0_0_J3] at h
        refine vc_seq_gen (by kernel_rfl) ?_
        intro QQ4 hQ4
        simp only [go_sem, Try.ntmps213, Try.results213]
        refine seqQ_normal hQ4 ?_
        refine vc_join (by kernel_rfl) ?_
        refine seq_cut_gen (ι := Int) (fun (start_3 : Int) => (⟨1, [(0, .osl 0 6 (0) (List.length data_0)), (1, .v (.int .i64 a_0)), (2, .v (.int .i64 mv_0)), (3, .v (.int .i64 b_0)), (4, .clo g_cmp_0 c_cmp_0), (18, .v (.int .i64 (IntKind.i64.wrap (shrI .u64 (IntKind.u64.wrap (IntKind.i64.wrap (a_0 + b_0))) 1)))), (19, .v (.int .i64 (IntKind.i64.wrap ((IntKind.i64.wrap (shrI .u64 (IntKind.u64.wrap (IntKind.i64.wrap (a_0 + b_0))) 1)) + mv_0)))), (20, .v (.int .i64 start_3))], [(0, .arr 6 (enc data_0))], 1, 220⟩ : St)) (fun (start_3 : Int) => f_slices_symMergeCmpFunc_Row_s0_0_J4 data_0 a_0 mv_0 b_0 cmp_0 self start_3 = some r) ?_ ?_
        ·
          intro QQ11 hQ11
          refine vc_block_gen ?_
          intro QQ12 hQ12
          refine vc_loop_of ?_
          refine loop_gen (ι := Nat × Int × Int) (fun ((_, start_5, rv_4) : Nat × Int × Int) => (⟨1, [(0, .osl 0 6 (0) (List.length data_0)), (1, .v (.int .i64 a_0)), (2, .v (.int .i64 mv_0)), (3, .v (.int .i64 b_0)), (4, .clo g_cmp_0 c_cmp_0), (18, .v (.int .i64 (IntKind.i64.wrap (shrI .u64 (IntKind.u64.wrap (IntKind.i64.wrap (a_0 + b_0))) 1)))), (19, .v (.int .i64 (IntKind.i64.wrap ((IntKind.i64.wrap (shrI .u64 (IntKind.u64.wrap (IntKind.i64.wrap (a_0 + b_0))) 1)) + mv_0)))), (20, .v (.int .i64 start_5)), (21, .v (.int .i64 rv_4)), (22, .v (.int .i64 (IntKind.i64.wrap ((IntKind.i64.wrap ((IntKind.i64.wrap (shrI .u64 (IntKind.u64.wrap (IntKind.i64.wrap (a_0 + b_0))) 1)) + mv_0)) - 1))))], [(0, .arr 6 (enc data_0))], 1, 220⟩ : St)) (fun ((n_, start_5, rv_4) : Nat × Int × Int) => loopK (f_slices_symMergeCmpFunc_Row_s0_0_B7 data_0 a_0 mv_0 b_0 cmp_0 self) n_ (start_5, rv_4) = some r) (fun p => p.1) (rounds, start_0, rv_0) [] ?_ h ?_
          · simp only [go_sem, Le, AvLeL_free _ F_cmp_0]
          · rintro ⟨n_7, start_5, rv_4⟩ h QQ13 hQ13
            dsimp only at h
            replace h := loopK_some h
            obtain ⟨m_7, rfl, h⟩ := h
            rw [f_slices_symMergeCmpFunc_Row_s0_0_B7] at h
            refine vc_seq_gen (by kernel_rfl) ?_
            intro QQ14 hQ14
            refine vc_seq_gen (by kernel_rfl) ?_
            intro QQ15 hQ15
            simp only [go_sem, Try.ntmps213, Try.results213]
            refine seqQ_normal hQ15 ?_
            refine vc_cond_of (b := (decide (start_5 < rv_4))) (by (simp only [go_sem]; done)) (fun hb_48 => ?_) (fun hb_48 => ?_)
            ·
              replace h := if_t h hb_48
              simp only [decide_eq_true_eq, decide_eq_false_iff_not, Bool.not_eq_true', Bool.not_eq_false', beq_iff_eq, beq_eq_false_iff_ne, ne_eq, Bool.and_eq_true, Bool.or_eq_true, Int.not_lt, Int.not_le] at hb_48
              refine vc_skip_of ?_
              refine seqQ_normal hQ14 ?_
              refine vc_block_gen ?_
              intro QQ16 hQ16
              refine vc_seq_gen (by kernel_rfl) ?_
              intro QQ17 hQ17
              simp only [go_sem, Try.ntmps213, Try.results213]
              refine seqQ_normal hQ17 ?_
              refine vc_seq_gen (by kernel_rfl) ?_
              intro QQ18 hQ18
              refine vc_draw ?_
              refine drawM_tail 11 [0, 0, 0, 0, 12, 30, 62, 0, 0, 384, 896, 2047, 4095, 8191] mixed (by kernel_rfl) (of_decide_eq_true (by kernel_rfl)) (by kernel_rfl) ?_
              obtain ⟨xv_52, exv_52, h⟩ := bindO_some h
              obtain ⟨fxv_52a, fxv_52b, fxv_52c⟩ := idx_spec exv_52
              obtain ⟨xv_53, exv_53, h⟩ := bindO_some h
              obtain ⟨fxv_53a, fxv_53b, fxv_53c⟩ := idx_spec exv_53
              obtain ⟨v_22, ev_22, h⟩ := bindO_some h
              simp only [go_sem, Try.ntmps213, Try.results213, fxv_52a, fxv_52b, fxv_52c, fxv_53a, fxv_53b, fxv_53c, E_cmp_0]
              refine And.intro (by omega) ?_
              refine And.intro (by omega) ?_
              refine call0 (H_cmp_0 xv_52 xv_53 v_22 ev_22) (by rfl) (by simp [idFreeL, idFree, F_cmp_0]) ?_
              simp only [go_sem, Try.ntmps213, Try.results213]
              refine seqQ_normal hQ18 ?_
              refine vc_cond_of (b := (!(decide (v_22 < 0)))) (by (simp only [go_sem]; done)) (fun hb_49 => ?_) (fun hb_49 => ?_)
              ·
                replace h := if_t h hb_49
                simp only [decide_eq_true_eq, decide_eq_false_iff_not, Bool.not_eq_true', Bool.not_eq_false', beq_iff_eq, beq_eq_false_iff_ne, ne_eq, Bool.and_eq_true, Bool.or_eq_true, Int.not_lt, Int.not_le] at hb_49
                simp only [go_sem, Try.ntmps213, Try.results213]
                refine blockQ_normal hQ16 ?_
                refine thenQ_normal hQ13 ?_
                refine ⟨(m_7, IntKind.i64.wrap ((IntKind.i64.wrap (shrI .u64 (IntKind.u64.wrap (IntKind.i64.wrap (start_5 + rv_4))) 1)) + 1), rv_4), [], ?_, h, Nat.lt_succ_self _⟩
                simp only [go_sem, Le, AvLeL_free _ F_cmp_0]
              ·
                replace h := if_f h hb_49
                simp only [decide_eq_true_eq, decide_eq_false_iff_not, Bool.not_eq_true', Bool.not_eq_false', beq_iff_eq, beq_eq_false_iff_ne, ne_eq, Bool.and_eq_true, Bool.or_eq_true, Int.not_lt, Int.not_le] at hb_49
                simp only [go_sem, Try.ntmps213, Try.results213]
                refine blockQ_normal hQ16 ?_
                refine thenQ_normal hQ13 ?_
                refine ⟨(m_7, start_5, IntKind.i64.wrap (shrI .u64 (IntKind.u64.wrap (IntKind.i64.wrap (start_5 + rv_4))) 1)), [], ?_, h, Nat.lt_succ_self _⟩
                simp only [go_sem, Le, AvLeL_free _ F_cmp_0]
            ·
              replace h := if_f h hb_48
              simp only [decide_eq_true_eq, decide_eq_false_iff_not, Bool.not_eq_true', Bool.not_eq_false', beq_iff_eq, beq_eq_false_iff_ne, ne_eq, Bool.and_eq_true, Bool.or_eq_true, Int.not_lt, Int.not_le] at hb_48
              refine vc_exit_of ?_
              refine seqQ_exit hQ14 ?_
              refine thenQ_exit hQ13 ?_
              refine blockQ_exit hQ12 ?_
              refine thenQ_normal hQ11 ?_
              refine ⟨start_5, [], ?_, h⟩
              simp only [go_sem, Le, AvLeL_free _ F_cmp_0]
        · rintro start_3 h
          try dsimp only at h
          rw [f_slices_symMergeCmpFunc_Row_s0_0_J4] at h
          refine vc_seq_gen (by kernel_rfl) ?_
          intro QQ5 hQ5
          simp only [go_sem, Try.ntmps213, Try.results213]
          refine seqQ_normal hQ5 ?_
          refine vc_join (by kernel_rfl) ?_
          refine seq_cut_gen (ι := (List GRow)) (fun (a_5 : (List GRow)) => (⟨1, [(0, .osl 0 6 (0) (List.length a_5)), (1, .v (.int .i64 a_0)), (3, .v (.int .i64 b_0)), (4, .clo g_cmp_0 c_cmp_0), (18, .v (.int .i64 (IntKind.i64.wrap (shrI .u64 (IntKind.u64.wrap (IntKind.i64.wrap (a_0 + b_0))) 1)))), (20, .v (.int .i64 start_3)), (24, .v (.int .i64 (IntKind.i64.wrap ((IntKind.i64.wrap ((IntKind.i64.wrap (shrI .u64 (IntKind.u64.wrap (IntKind.i64.wrap (a_0 + b_0))) 1)) + mv_0)) - start_3))))], [(0, .arr 6 (enc a_5))], 1, 220⟩ : St)) (fun (a_5 : (List GRow)) => f_slices_symMergeCmpFunc_Row_s0_0_J5 a_0 mv_0 b_0 cmp_0 self start_3 a_5 = some r) ?_ ?_
          ·
            intro QQ9 hQ9
            refine vc_seq_gen (by kernel_rfl) ?_
            intro QQ10 hQ10
            simp only [go_sem, Try.ntmps213, Try.results213]
            refine seqQ_normal hQ10 ?_
            refine vc_cond_of (b := ((decide (start_3 < mv_0)) && (decide (mv_0 < (IntKind.i64.wrap ((IntKind.i64.wrap ((IntKind.i64.wrap (shrI .u64 (IntKind.u64.wrap (IntKind.i64.wrap (a_0 + b_0))) 1)) + mv_0)) - start_3)))))) (by (simp only [go_sem]; done)) (fun hb_43 => ?_) (fun hb_43 => ?_)
            ·
              replace h := if_t h hb_43
              simp only [decide_eq_true_eq, decide_eq_false_iff_not, Bool.not_eq_true', Bool.not_eq_false', beq_iff_eq, beq_eq_false_iff_ne, ne_eq, Bool.and_eq_true, Bool.or_eq_true, Int.not_lt, Int.not_le] at hb_43
              obtain ⟨v_19, ev_19, h⟩ := bindO_some h
              simp only [go_sem, Try.ntmps213, Try.results213]
              refine callD [0] (f_slices_rotateCmpFunc_Row_s0_0_det data_0 start_3 mv_0 (IntKind.i64.wrap ((IntKind.i64.wrap ((IntKind.i64.wrap (shrI .u64 (IntKind.u64.wrap (IntKind.i64.wrap (a_0 + b_0))) 1)) + mv_0)) - start_3)) cmp_0 g_cmp_0 c_cmp_0 F_cmp_0 E_cmp_0 H_cmp_0 v_19 ev_19) (by simp) (by simp only [renL, renA, renL_free F_cmp_0] <;> rfl) ⟨rfl, trivial⟩ (by simp only [ltL, ltA, ltL_free F_cmp_0] <;> rfl) rfl rfl rfl ?_
              obtain ⟨g_4, h⟩ := guardO_some h
              simp only [go_sem, Try.ntmps213, Try.results213, g_4]
              refine thenQ_normal hQ9 ?_
              refine ⟨v_19, [], ?_, h⟩
              simp only [go_sem, Le, AvLeL_free _ F_cmp_0] <;> (repeat' apply And.intro) <;> ((try with_reducible refine TL_eq ?_); omega)
            ·
              replace h := if_f h hb_43
              refine vc_skip_of ?_
              refine thenQ_normal hQ9 ?_
              refine ⟨data_0, [], ?_, h⟩
              simp only [go_sem, Le, AvLeL_free _ F_cmp_0]
          · rintro a_5 h
            try dsimp only at h
            rw [f_slices_symMergeCmpFunc_Row_s0_0_J5] at h
            refine vc_join (by kernel_rfl) ?_
            refine seq_cut_gen (ι := (List GRow)) (fun (a_6 : (List GRow)) => (⟨1, [(0, .osl 0 6 (0) (List.length a_6)), (3, .v (.int .i64 b_0)), (4, .clo g_cmp_0 c_cmp_0), (18, .v (.int .i64 (IntKind.i64.wrap (shrI .u64 (IntKind.u64.wrap (IntKind.i64.wrap (a_0 + b_0))) 1)))), (24, .v (.int .i64 (IntKind.i64.wrap ((IntKind.i64.wrap ((IntKind.i64.wrap (shrI .u64 (IntKind.u64.wrap (IntKind.i64.wrap (a_0 + b_0))) 1)) + mv_0)) - start_3))))], [(0, .arr 6 (enc a_6))], 1, 220⟩ : St)) (fun (a_6 : (List GRow)) => f_slices_symMergeCmpFunc_Row_s0_0_J6 a_0 mv_0 b_0 cmp_0 self start_3 a_6 = some r) ?_ ?_
            ·
              intro QQ7 hQ7
              refine vc_seq_gen (by kernel_rfl) ?_
              intro QQ8 hQ8
              simp only [go_sem, Try.ntmps213, Try.results213]
              refine seqQ_normal hQ8 ?_
              refine vc_cond_of (b := ((decide (a_0 < start_3)) && (decide (start_3 < (IntKind.i64.wrap (shrI .u64 (IntKind.u64.wrap (IntKind.i64.wrap (a_0 + b_0))) 1)))))) (by (simp only [go_sem]; done)) (fun hb_42 => ?_) (fun hb_42 => ?_)
              ·
                replace h := if_t h hb_42
                simp only [decide_eq_true_eq, decide_eq_false_iff_not, Bool.not_eq_true', Bool.not_eq_false', beq_iff_eq, beq_eq_false_iff_ne, ne_eq, Bool.and_eq_true, Bool.or_eq_true, Int.not_lt, Int.not_le] at hb_42
                obtain ⟨v_18, ev_18, h⟩ := bindO_some h
                simp only [go_sem, Try.ntmps213, Try.results213]
                refine callD [0] (Hself a_5 a_0 start_3 (IntKind.i64.wrap (shrI .u64 (IntKind.u64.wrap (IntKind.i64.wrap (a_0 + b_0))) 1)) cmp_0 g_cmp_0 c_cmp_0 F_cmp_0 E_cmp_0 H_cmp_0 v_18 ev_18) (by simp) (by simp only [renL, renA, renL_free F_cmp_0] <;> rfl) ⟨rfl, trivial⟩ (by simp only [ltL, ltA, ltL_free F_cmp_0] <;> rfl) rfl rfl rfl ?_
                obtain ⟨g_3, h⟩ := guardO_some h
                simp only [go_sem, Try.ntmps213, Try.results213, g_3]
                refine thenQ_normal hQ7 ?_
                refine ⟨v_18, [], ?_, h⟩
                simp only [go_sem, Le, AvLeL_free _ F_cmp_0] <;> (repeat' apply And.intro) <;> ((try with_reducible refine TL_eq ?_); omega)
              ·
                replace h := if_f h hb_42
                refine vc_skip_of ?_
                refine thenQ_normal hQ7 ?_
                refine ⟨a_5, [], ?_, h⟩
                simp only [go_sem, Le, AvLeL_free _ F_cmp_0]
            · rintro a_6 h
              try dsimp only at h
              rw [f_slices_symMergeCmpFunc_Row_s0_0_J6] at h
              refine vc_seq_gen (by kernel_rfl) ?_
              intro QQ6 hQ6
              simp only [go_sem, Try.ntmps213, Try.results213]
              refine seqQ_normal hQ6 ?_
              refine vc_cond_of (b := ((decide ((IntKind.i64.wrap (shrI .u64 (IntKind.u64.wrap (IntKind.i64.wrap (a_0 + b_0))) 1)) < (IntKind.i64.wrap ((IntKind.i64.wrap ((IntKind.i64.wrap (shrI .u64 (IntKind.u64.wrap (IntKind.i64.wrap (a_0 + b_0))) 1)) + mv_0)) - start_3)))) && (decide ((IntKind.i64.wrap ((IntKind.i64.wrap ((IntKind.i64.wrap (shrI .u64 (IntKind.u64.wrap (IntKind.i64.wrap (a_0 + b_0))) 1)) + mv_0)) - start_3)) < b_0)))) (by (simp only [go_sem]; done)) (fun hb_41 => ?_) (fun hb_41 => ?_)
              ·
                replace h := if_t h hb_41
                simp only [decide_eq_true_eq, decide_eq_false_iff_not, Bool.not_eq_true', Bool.not_eq_false', beq_iff_eq, beq_eq_false_iff_ne, ne_eq, Bool.and_eq_true, Bool.or_eq_true, Int.not_lt, Int.not_le] at hb_41
                obtain ⟨v_17, ev_17, h⟩ := bindO_some h
                simp only [go_sem, Try.ntmps213, Try.results213]
                refine callD [0] (Hself a_6 (IntKind.i64.wrap (shrI .u64 (IntKind.u64.wrap (IntKind.i64.wrap (a_0 + b_0))) 1)) (IntKind.i64.wrap ((IntKind.i64.wrap ((IntKind.i64.wrap (shrI .u64 (IntKind.u64.wrap (IntKind.i64.wrap (a_0 + b_0))) 1)) + mv_0)) - start_3)) b_0 cmp_0 g_cmp_0 c_cmp_0 F_cmp_0 E_cmp_0 H_cmp_0 v_17 ev_17) (by simp) (by simp only [renL, renA, renL_free F_cmp_0] <;> rfl) ⟨rfl, trivial⟩ (by simp only [ltL, ltA, ltL_free F_cmp_0] <;> rfl) rfl rfl rfl ?_
                obtain ⟨g_2, h⟩ := guardO_some h
                simp only [go_sem, Try.ntmps213, Try.results213, g_2]
                obtain rfl := Option.some.inj h
                refine retW_det [] ?_
                simp only [go_sem, Le, AvLeL_free _ F_cmp_0]
              ·
                replace h := if_f h hb_41
                refine vc_skip_of ?_
                simp only [go_sem, Try.ntmps213, Try.results213]
                obtain rfl := Option.some.inj h
                refine retW_det [] ?_
                simp only [go_sem, Le, AvLeL_free _ F_cmp_0]
theorem f_slices_symMergeCmpFunc_Row_s0_0_D_det : ∀ (n : Nat) (data_0 : List GRow) (a_0 : Int) (mv_0 : Int) (b_0 : Int) (cmp_0 : GRow → GRow → Option Int) (g_cmp_0 : FuncId) (c_cmp_0 : List AV) (F_cmp_0 : idFreeL c_cmp_0 = true) (E_cmp_0 : entB Try.prog g_cmp_0 = true) (H_cmp_0 : ∀ (x0 : GRow) (x1 : GRow) (r : Int), cmp_0 x0 x1 = some r → PureS Try.prog g_cmp_0 ([.agg [.v (.int .i64 x0.K), .v (.int .i64 x0.Many), .v (.int .i64 x0.Least), .v (.int .i64 x0.Top), .v (.int .i64 x0.Sum), .v (.bool x0.Sure)], .agg [.v (.int .i64 x1.K), .v (.int .i64 x1.Many), .v (.int .i64 x1.Least), .v (.int .i64 x1.Top), .v (.int .i64 x1.Sum), .v (.bool x1.Sure)]] ++ c_cmp_0) 0 (.v (.int .i64 r))) (r : List GRow), f_slices_symMergeCmpFunc_Row_s0_0_D n data_0 a_0 mv_0 b_0 cmp_0 = some r → DetS Try.prog 213 [.osl 0 6 (0) (List.length data_0), .v (.int .i64 a_0), .v (.int .i64 mv_0), .v (.int .i64 b_0), .clo g_cmp_0 c_cmp_0] [(0, .arr 6 (enc data_0))] 1 (.tup []) [(0, .arr 6 (enc r))] 1
  | 0, data_0, a_0, mv_0, b_0, cmp_0, g_cmp_0, c_cmp_0, F_cmp_0, E_cmp_0, H_cmp_0, r, h => by simp [f_slices_symMergeCmpFunc_Row_s0_0_D] at h
  | n + 1, data_0, a_0, mv_0, b_0, cmp_0, g_cmp_0, c_cmp_0, F_cmp_0, E_cmp_0, H_cmp_0, r, h => f_slices_symMergeCmpFunc_Row_s0_0_R_det (f_slices_symMergeCmpFunc_Row_s0_0_D n) (f_slices_symMergeCmpFunc_Row_s0_0_D_det n) data_0 a_0 mv_0 b_0 cmp_0 g_cmp_0 c_cmp_0 F_cmp_0 E_cmp_0 H_cmp_0 r h
theorem f_slices_symMergeCmpFunc_Row_s0_0_det (data_0 : List GRow) (a_0 : Int) (mv_0 : Int) (b_0 : Int) (cmp_0 : GRow → GRow → Option Int) (g_cmp_0 : FuncId) (c_cmp_0 : List AV) (F_cmp_0 : idFreeL c_cmp_0 = true) (E_cmp_0 : entB Try.prog g_cmp_0 = true) (H_cmp_0 : ∀ (x0 : GRow) (x1 : GRow) (r : Int), cmp_0 x0 x1 = some r → PureS Try.prog g_cmp_0 ([.agg [.v (.int .i64 x0.K), .v (.int .i64 x0.Many), .v (.int .i64 x0.Least), .v (.int .i64 x0.Top), .v (.int .i64 x0.Sum), .v (.bool x0.Sure)], .agg [.v (.int .i64 x1.K), .v (.int .i64 x1.Many), .v (.int .i64 x1.Least), .v (.int .i64 x1.Top), .v (.int .i64 x1.Sum), .v (.bool x1.Sure)]] ++ c_cmp_0) 0 (.v (.int .i64 r))) (r : List GRow) (h : f_slices_symMergeCmpFunc_Row_s0_0 data_0 a_0 mv_0 b_0 cmp_0 = some r) : DetS Try.prog 213 [.osl 0 6 (0) (List.length data_0), .v (.int .i64 a_0), .v (.int .i64 mv_0), .v (.int .i64 b_0), .clo g_cmp_0 c_cmp_0] [(0, .arr 6 (enc data_0))] 1 (.tup []) [(0, .arr 6 (enc r))] 1 := f_slices_symMergeCmpFunc_Row_s0_0_D_det rounds data_0 a_0 mv_0 b_0 cmp_0 g_cmp_0 c_cmp_0 F_cmp_0 E_cmp_0 H_cmp_0 r h
end Go.Proofs.Ythpahhhdapdcpaa

namespace Go.Proofs.Ythpahhhdapdcpaa
open Go Go.RowKit
set_option maxHeartbeats 2000000
set_option maxRecDepth 100000
set_option linter.unusedSimpArgs false
set_option linter.unusedVariables false
def f_slices_stableCmpFunc_Row_s0_0_J3 (nv_0 : Int) (cmp_0 : GRow → GRow → Option Int) (blockSize_1 : Int) (rec_2 : (Int × (List GRow) → Option (List GRow))) (a_32 : Int) (a_33 : List GRow) : Option (List GRow) :=
  (if (decide ((IntKind.i64.wrap (a_32 + blockSize_1)) < nv_0)) = true then bindO (f_slices_symMergeCmpFunc_Row_s0_0 a_33 a_32 (IntKind.i64.wrap (a_32 + blockSize_1)) nv_0 cmp_0) (fun (v_21 : List GRow) =>
  guardO (List.length v_21 = List.length a_33) (
  rec_2 (IntKind.i64.wrap (blockSize_1 * 2), v_21)))
  else rec_2 (IntKind.i64.wrap (blockSize_1 * 2), a_33))
def f_slices_stableCmpFunc_Row_s0_0_B4 (nv_0 : Int) (cmp_0 : GRow → GRow → Option Int) (blockSize_1 : Int) (rec_2 : (Int × (List GRow) → Option (List GRow))) (rec_4 : Int × Int × (List GRow) → Option (List GRow)) : Int × Int × (List GRow) → Option (List GRow) :=
  fun (a_36, b_13, a_37) =>
  (if (decide (b_13 ≤ nv_0)) = true then bindO (f_slices_symMergeCmpFunc_Row_s0_0 a_37 a_36 (IntKind.i64.wrap (a_36 + blockSize_1)) b_13 cmp_0) (fun (v_24 : List GRow) =>
  guardO (List.length v_24 = List.length a_37) (
  rec_4 (b_13, IntKind.i64.wrap (b_13 + (IntKind.i64.wrap (2 * blockSize_1))), v_24)))
  else f_slices_stableCmpFunc_Row_s0_0_J3 nv_0 cmp_0 blockSize_1 rec_2 a_36 a_37)
def f_slices_stableCmpFunc_Row_s0_0_B2 (nv_0 : Int) (cmp_0 : GRow → GRow → Option Int) (rec_2 : Int × (List GRow) → Option (List GRow)) : Int × (List GRow) → Option (List GRow) :=
  fun (blockSize_1, a_27) =>
  (if (decide (blockSize_1 < nv_0)) = true then loopK (f_slices_stableCmpFunc_Row_s0_0_B4 nv_0 cmp_0 blockSize_1 rec_2) rounds (0, IntKind.i64.wrap (2 * blockSize_1), a_27)
  else some a_27)
def f_slices_stableCmpFunc_Row_s0_0_J1 (nv_0 : Int) (cmp_0 : GRow → GRow → Option Int) (a_4 : Int) (a_5 : List GRow) : Option (List GRow) :=
  bindO (f_slices_insertionSortCmpFunc_Row_s0_0 a_5 a_4 nv_0 cmp_0) (fun (v_3 : List GRow) =>
  guardO (List.length v_3 = List.length a_5) (
  loopK (f_slices_stableCmpFunc_Row_s0_0_B2 nv_0 cmp_0) rounds (20, v_3)))
def f_slices_stableCmpFunc_Row_s0_0_B5 (nv_0 : Int) (cmp_0 : GRow → GRow → Option Int) (rec_5 : Int × Int × (List GRow) → Option (List GRow)) : Int × Int × (List GRow) → Option (List GRow) :=
  fun (a_40, b_15, a_41) =>
  (if (decide (b_15 ≤ nv_0)) = true then bindO (f_slices_insertionSortCmpFunc_Row_s0_0 a_41 a_40 b_15 cmp_0) (fun (v_27 : List GRow) =>
  guardO (List.length v_27 = List.length a_41) (
  rec_5 (b_15, IntKind.i64.wrap (b_15 + 20), v_27)))
  else f_slices_stableCmpFunc_Row_s0_0_J1 nv_0 cmp_0 a_40 a_41)
def f_slices_stableCmpFunc_Row_s0_0 (data_0 : List GRow) (nv_0 : Int) (cmp_0 : GRow → GRow → Option Int) : Option (List GRow) :=
  loopK (f_slices_stableCmpFunc_Row_s0_0_B5 nv_0 cmp_0) rounds (0, 20, data_0)
theorem f_slices_stableCmpFunc_Row_s0_0_det (data_0 : List GRow) (nv_0 : Int) (cmp_0 : GRow → GRow → Option Int) (g_cmp_0 : FuncId) (c_cmp_0 : List AV) (F_cmp_0 : idFreeL c_cmp_0 = true) (E_cmp_0 : entB Try.prog g_cmp_0 = true) (H_cmp_0 : ∀ (x0 : GRow) (x1 : GRow) (r : Int), cmp_0 x0 x1 = some r → PureS Try.prog g_cmp_0 ([.agg [.v (.int .i64 x0.K), .v (.int .i64 x0.Many), .v (.int .i64 x0.Least), .v (.int .i64 x0.Top), .v (.int .i64 x0.Sum), .v (.bool x0.Sure)], .agg [.v (.int .i64 x1.K), .v (.int .i64 x1.Many), .v (.int .i64 x1.Least), .v (.int .i64 x1.Top), .v (.int .i64 x1.Sum), .v (.bool x1.Sure)]] ++ c_cmp_0) 0 (.v (.int .i64 r))) (r : List GRow) (h : f_slices_stableCmpFunc_Row_s0_0 data_0 nv_0 cmp_0 = some r) : DetS Try.prog 172 [.osl 0 6 (0) (List.length data_0), .v (.int .i64 nv_0), .clo g_cmp_0 c_cmp_0] [(0, .arr 6 (enc data_0))] 1 (.tup []) [(0, .arr 6 (enc r))] 1 := by
  unfold DetS
  refine Spec.of_vc Try.func172 rfl (by kernel_rfl) (by kernel_rfl) ?_
  rw [f_slices_stableCmpFunc_Row_s0_0] at h
  refine vc_seq_gen (by kernel_rfl) ?_
  intro QQ1 hQ1
  simp only [go_sem, Try.ntmps172, Try.results172]
  refine seqQ_normal hQ1 ?_
  refine vc_seq_gen (by kernel_rfl) ?_
  intro QQ2 hQ2
  simp only [go_sem, Try.ntmps172, Try.results172]
  refine seqQ_normal hQ2 ?_
  refine vc_join (by kernel_rfl) ?_
  refine seq_cut_gen (ι := Int × (List GRow)) (fun ((a_4, a_5) : Int × (List GRow)) => (⟨1, [(0, .osl 0 6 (0) (List.length a_5)), (1, .v (.int .i64 nv_0)), (2, .clo g_cmp_0 c_cmp_0), (6, .v (.int .i64 20)), (7, .v (.int .i64 a_4))], [(0, .arr 6 (enc a_5))], 1, 63⟩ : St)) (fun ((a_4, a_5) : Int × (List GRow)) => f_slices_stableCmpFunc_Row_s0_0_J1 nv_0 cmp_0 a_4 a_5 = some r) ?_ ?_
  ·
    intro QQ21 hQ21
    refine vc_block_gen ?_
    intro QQ22 hQ22
    refine vc_loop_of ?_
    refine loop_gen (ι := Nat × Int × Int × (List GRow)) (fun ((_, a_40, b_15, a_41) : Nat × Int × Int × (List GRow)) => (⟨1, [(0, .osl 0 6 (0) (List.length a_41)), (1, .v (.int .i64 nv_0)), (2, .clo g_cmp_0 c_cmp_0), (6, .v (.int .i64 20)), (7, .v (.int .i64 a_40)), (8, .v (.int .i64 b_15))], [(0, .arr 6 (enc a_41))], 1, 63⟩ : St)) (fun ((n_, a_40, b_15, a_41) : Nat × Int × Int × (List GRow)) => loopK (f_slices_stableCmpFunc_Row_s0_0_B5 nv_0 cmp_0) n_ (a_40, b_15, a_41) = some r) (fun p => p.1) (rounds, 0, 20, data_0) [] ?_ h ?_
    · simp only [go_sem, Le, AvLeL_free _ F_cmp_0]
    · rintro ⟨n_5, a_40, b_15, a_41⟩ h QQ23 hQ23
      dsimp only at h
      replace h := loopK_some h
      obtain ⟨m_5, rfl, h⟩ := h
      rw [f_slices_stableCmpFunc_Row_s0_0_B5] at h
      refine vc_seq_gen (by kernel_rfl) ?_
      intro QQ24 hQ24
      refine vc_seq_gen (by kernel_rfl) ?_
      intro QQ25 hQ25
      simp only [go_sem, Try.ntmps172, Try.results172]
      refine seqQ_normal hQ25 ?_
      refine vc_cond_of (b := (decide (b_15 ≤ nv_0))) (by (simp only [go_sem]; done)) (fun hb_29 => ?_) (fun hb_29 => ?_)
      ·
        replace h := if_t h hb_29
        simp only [decide_eq_true_eq, decide_eq_false_iff_not, Bool.not_eq_true', Bool.not_eq_false', beq_iff_eq, beq_eq_false_iff_ne, ne_eq, Bool.and_eq_true, Bool.or_eq_true, Int.not_lt, Int.not_le] at hb_29
        refine vc_skip_of ?_
        refine seqQ_normal hQ24 ?_
        refine vc_block_gen ?_
        intro QQ26 hQ26
        refine vc_seq_gen (by kernel_rfl) ?_
        intro QQ27 hQ27
        obtain ⟨v_27, ev_27, h⟩ := bindO_some h
        simp only [go_sem, Try.ntmps172, Try.results172]
        refine callD [0] (f_slices_insertionSortCmpFunc_Row_s0_0_det a_41 a_40 b_15 cmp_0 g_cmp_0 c_cmp_0 F_cmp_0 E_cmp_0 H_cmp_0 v_27 ev_27) (by simp) (by simp only [renL, renA, renL_free F_cmp_0] <;> rfl) ⟨rfl, trivial⟩ (by simp only [ltL, ltA, ltL_free F_cmp_0] <;> rfl) rfl rfl rfl ?_
        obtain ⟨g_27, h⟩ := guardO_some h
        simp only [go_sem, Try.ntmps172, Try.results172, g_27]
        refine seqQ_normal hQ27 ?_
        refine vc_seq_gen (by kernel_rfl) ?_
        intro QQ28 hQ28
        simp only [go_sem, Try.ntmps172, Try.results172]
        refine seqQ_normal hQ28 ?_
        simp only [go_sem, Try.ntmps172, Try.results172]
        refine blockQ_normal hQ26 ?_
        refine thenQ_normal hQ23 ?_
        refine ⟨(m_5, b_15, IntKind.i64.wrap (b_15 + 20), v_27), [], ?_, h, Nat.lt_succ_self _⟩
        simp only [go_sem, Le, AvLeL_free _ F_cmp_0] <;> (repeat' apply And.intro) <;> ((try with_reducible refine TL_eq ?_); omega)
      ·
        replace h := if_f h hb_29
        simp only [decide_eq_true_eq, decide_eq_false_iff_not, Bool.not_eq_true', Bool.not_eq_false', beq_iff_eq, beq_eq_false_iff_ne, ne_eq, Bool.and_eq_true, Bool.or_eq_true, Int.not_lt, Int.not_le] at hb_29
        refine vc_exit_of ?_
        refine seqQ_exit hQ24 ?_
        refine thenQ_exit hQ23 ?_
        refine blockQ_exit hQ22 ?_
        refine thenQ_normal hQ21 ?_
        refine ⟨(a_40, a_41), [], ?_, h⟩
        simp only [go_sem, Le, AvLeL_free _ F_cmp_0]
  · rintro ⟨a_4, a_5⟩ h
    try dsimp only at h
    rw [f_slices_stableCmpFunc_Row_s0_0_J1] at h
    refine vc_seq_gen (by kernel_rfl) ?_
    intro QQ3 hQ3
    obtain ⟨v_3, ev_3, h⟩ := bindO_some h
    simp only [go_sem, Try.ntmps172, Try.results172]
    refine callD [0] (f_slices_insertionSortCmpFunc_Row_s0_0_det a_5 a_4 nv_0 cmp_0 g_cmp_0 c_cmp_0 F_cmp_0 E_cmp_0 H_cmp_0 v_3 ev_3) (by simp) (by simp only [renL, renA, renL_free F_cmp_0] <;> rfl) ⟨rfl, trivial⟩ (by simp only [ltL, ltA, ltL_free F_cmp_0] <;> rfl) rfl rfl rfl ?_
    obtain ⟨g_3, h⟩ := guardO_some h
    simp only [go_sem, Try.ntmps172, Try.results172, g_3]
    refine seqQ_normal hQ3 ?_
    refine vc_block_gen ?_
    intro QQ4 hQ4
    refine vc_loop_of ?_
    refine loop_gen (ι := Nat × Int × (List GRow)) (fun ((_, blockSize_1, a_27) : Nat × Int × (List GRow)) => (⟨1, [(0, .osl 0 6 (0) (List.length a_27)), (1, .v (.int .i64 nv_0)), (2, .clo g_cmp_0 c_cmp_0), (6, .v (.int .i64 blockSize_1))], [(0, .arr 6 (enc a_27))], 1, 63⟩ : St)) (fun ((n_, blockSize_1, a_27) : Nat × Int × (List GRow)) => loopK (f_slices_stableCmpFunc_Row_s0_0_B2 nv_0 cmp_0) n_ (blockSize_1, a_27) = some r) (fun p => p.1) (rounds, 20, v_3) [] ?_ h ?_
    · simp only [go_sem, Le, AvLeL_free _ F_cmp_0] <;> (repeat' apply And.intro) <;> ((try with_reducible refine TL_eq ?_); omega)
    · rintro ⟨n_2, blockSize_1, a_27⟩ h QQ5 hQ5
      dsimp only at h
      replace h := loopK_some h
      obtain ⟨m_2, rfl, h⟩ := h
      rw [f_slices_stableCmpFunc_Row_s0_0_B2] at h
      refine vc_seq_gen (by kernel_rfl) ?_
      intro QQ6 hQ6
      refine vc_seq_gen (by kernel_rfl) ?_
      intro QQ7 hQ7
      simp only [go_sem, Try.ntmps172, Try.results172]
      refine seqQ_normal hQ7 ?_
      refine vc_cond_of (b := (decide (blockSize_1 < nv_0))) (by (simp only [go_sem]; done)) (fun hb_19 => ?_) (fun hb_19 => ?_)
      ·
        replace h := if_t h hb_19
        simp only [decide_eq_true_eq, decide_eq_false_iff_not, Bool.not_eq_true', Bool.not_eq_false', beq_iff_eq, beq_eq_false_iff_ne, ne_eq, Bool.and_eq_true, Bool.or_eq_true, Int.not_lt, Int.not_le] at hb_19
        refine vc_skip_of ?_
        refine seqQ_normal hQ6 ?_
        refine vc_block_gen ?_
        intro QQ8 hQ8
        refine vc_seq_gen (by kernel_rfl) ?_
        intro QQ9 hQ9
        simp only [go_sem, Try.ntmps172, Try.results172]
        refine seqQ_normal hQ9 ?_
        refine vc_join (by kernel_rfl) ?_
        refine seq_cut_gen (ι := Int × (List GRow)) (fun ((a_32, a_33) : Int × (List GRow)) => (⟨1, [(0, .osl 0 6 (0) (List.length a_33)), (1, .v (.int .i64 nv_0)), (2, .clo g_cmp_0 c_cmp_0), (6, .v (.int .i64 blockSize_1)), (7, .v (.int .i64 a_32))], [(0, .arr 6 (enc a_33))], 1, 63⟩ : St)) (fun ((a_32, a_33) : Int × (List GRow)) => f_slices_stableCmpFunc_Row_s0_0_J3 nv_0 cmp_0 blockSize_1 (loopK (f_slices_stableCmpFunc_Row_s0_0_B2 nv_0 cmp_0) m_2) a_32 a_33 = some r) ?_ ?_
        ·
          intro QQ13 hQ13
          refine vc_block_gen ?_
          intro QQ14 hQ14
          refine vc_loop_of ?_
          refine loop_gen (ι := Nat × Int × Int × (List GRow)) (fun ((_, a_36, b_13, a_37) : Nat × Int × Int × (List GRow)) => (⟨1, [(0, .osl 0 6 (0) (List.length a_37)), (1, .v (.int .i64 nv_0)), (2, .clo g_cmp_0 c_cmp_0), (6, .v (.int .i64 blockSize_1)), (7, .v (.int .i64 a_36)), (8, .v (.int .i64 b_13))], [(0, .arr 6 (enc a_37))], 1, 63⟩ : St)) (fun ((n_, a_36, b_13, a_37) : Nat × Int × Int × (List GRow)) => loopK (f_slices_stableCmpFunc_Row_s0_0_B4 nv_0 cmp_0 blockSize_1 (loopK (f_slices_stableCmpFunc_Row_s0_0_B2 nv_0 cmp_0) m_2)) n_ (a_36, b_13, a_37) = some r) (fun p => p.1) (rounds, 0, IntKind.i64.wrap (2 * blockSize_1), a_27) [] ?_ h ?_
          · simp only [go_sem, Le, AvLeL_free _ F_cmp_0]
          · rintro ⟨n_4, a_36, b_13, a_37⟩ h QQ15 hQ15
            dsimp only at h
            replace h := loopK_some h
            obtain ⟨m_4, rfl, h⟩ := h
            rw [f_slices_stableCmpFunc_Row_s0_0_B4] at h
            refine vc_seq_gen (by kernel_rfl) ?_
            intro QQ16 hQ16
            refine vc_seq_gen (by kernel_rfl) ?_
            intro QQ17 hQ17
            simp only [go_sem, Try.ntmps172, Try.results172]
            refine seqQ_normal hQ17 ?_
            refine vc_cond_of (b := (decide (b_13 ≤ nv_0))) (by (simp only [go_sem]; done)) (fun hb_26 => ?_) (fun hb_26 => ?_)
            ·
              replace h := if_t h hb_26
              simp only [decide_eq_true_eq, decide_eq_false_iff_not, Bool.not_eq_true', Bool.not_eq_false', beq_iff_eq, beq_eq_false_iff_ne, ne_eq, Bool.and_eq_true, Bool.or_eq_true, Int.not_lt, Int.not_le] at hb_26
              refine vc_skip_of ?_
              refine seqQ_normal hQ16 ?_
              refine vc_block_gen ?_
              intro QQ18 hQ18
              refine vc_seq_gen (by kernel_rfl) ?_
              intro QQ19 hQ19
              obtain ⟨v_24, ev_24, h⟩ := bindO_some h
              simp only [go_sem, Try.ntmps172, Try.results172]
              refine callD [0] (f_slices_symMergeCmpFunc_Row_s0_0_det a_37 a_36 (IntKind.i64.wrap (a_36 + blockSize_1)) b_13 cmp_0 g_cmp_0 c_cmp_0 F_cmp_0 E_cmp_0 H_cmp_0 v_24 ev_24) (by simp) (by simp only [renL, renA, renL_free F_cmp_0] <;> rfl) ⟨rfl, trivial⟩ (by simp only [ltL, ltA, ltL_free F_cmp_0] <;> rfl) rfl rfl rfl ?_
              obtain ⟨g_24, h⟩ := guardO_some h
              simp only [go_sem, Try.ntmps172, Try.results172, g_24]
              refine seqQ_normal hQ19 ?_
              refine vc_seq_gen (by kernel_rfl) ?_
              intro QQ20 hQ20
              simp only [go_sem, Try.ntmps172, Try.results172]
              refine seqQ_normal hQ20 ?_
              simp only [go_sem, Try.ntmps172, Try.results172]
              refine blockQ_normal hQ18 ?_
              refine thenQ_normal hQ15 ?_
              refine ⟨(m_4, b_13, IntKind.i64.wrap (b_13 + (IntKind.i64.wrap (2 * blockSize_1))), v_24), [], ?_, h, Nat.lt_succ_self _⟩
              simp only [go_sem, Le, AvLeL_free _ F_cmp_0] <;> (repeat' apply And.intro) <;> ((try with_reducible refine TL_eq ?_); omega)
            ·
              replace h := if_f h hb_26
              simp only [decide_eq_true_eq, decide_eq_false_iff_not, Bool.not_eq_true', Bool.not_eq_false', beq_iff_eq, beq_eq_false_iff_ne, ne_eq, Bool.and_eq_true, Bool.or_eq_true, Int.not_lt, Int.not_le] at hb_26
              refine vc_exit_of ?_
              refine seqQ_exit hQ16 ?_
              refine thenQ_exit hQ15 ?_
              refine blockQ_exit hQ14 ?_
              refine thenQ_normal hQ13 ?_
              refine ⟨(a_36, a_37), [], ?_, h⟩
              simp only [go_sem, Le, AvLeL_free _ F_cmp_0]
        · rintro ⟨a_32, a_33⟩ h
          try dsimp only at h
          rw [f_slices_stableCmpFunc_Row_s0_0_J3] at h
          refine vc_join (by kernel_rfl) ?_
          refine seq_go_gen ?_
          intro QQ10 hQ10
          refine vc_seq_gen (by kernel_rfl) ?_
          intro QQ11 hQ11
          simp only [go_sem, Try.ntmps172, Try.results172]
          refine seqQ_normal hQ11 ?_
          refine vc_seq_gen (by kernel_rfl) ?_
          intro QQ12 hQ12
          simp only [go_sem, Try.ntmps172, Try.results172]
          refine seqQ_normal hQ12 ?_
          refine vc_cond_of (b := (decide ((IntKind.i64.wrap (a_32 + blockSize_1)) < nv_0))) (by (simp only [go_sem]; done)) (fun hb_23 => ?_) (fun hb_23 => ?_)
          ·
            replace h := if_t h hb_23
            simp only [decide_eq_true_eq, decide_eq_false_iff_not, Bool.not_eq_true', Bool.not_eq_false', beq_iff_eq, beq_eq_false_iff_ne, ne_eq, Bool.and_eq_true, Bool.or_eq_true, Int.not_lt, Int.not_le] at hb_23
            obtain ⟨v_21, ev_21, h⟩ := bindO_some h
            simp only [go_sem, Try.ntmps172, Try.results172]
            refine callD [0] (f_slices_symMergeCmpFunc_Row_s0_0_det a_33 a_32 (IntKind.i64.wrap (a_32 + blockSize_1)) nv_0 cmp_0 g_cmp_0 c_cmp_0 F_cmp_0 E_cmp_0 H_cmp_0 v_21 ev_21) (by simp) (by simp only [renL, renA, renL_free F_cmp_0] <;> rfl) ⟨rfl, trivial⟩ (by simp only [ltL, ltA, ltL_free F_cmp_0] <;> rfl) rfl rfl rfl ?_
            obtain ⟨g_21, h⟩ := guardO_some h
            simp only [go_sem, Try.ntmps172, Try.results172, g_21]
            refine seqQ_normal hQ10 ?_
            simp only [go_sem, Try.ntmps172, Try.results172]
            refine blockQ_normal hQ8 ?_
            refine thenQ_normal hQ5 ?_
            refine ⟨(m_2, IntKind.i64.wrap (blockSize_1 * 2), v_21), [], ?_, h, Nat.lt_succ_self _⟩
            simp only [go_sem, Le, AvLeL_free _ F_cmp_0] <;> (repeat' apply And.intro) <;> ((try with_reducible refine TL_eq ?_); omega)
          ·
            replace h := if_f h hb_23
            simp only [decide_eq_true_eq, decide_eq_false_iff_not, Bool.not_eq_true', Bool.not_eq_false', beq_iff_eq, beq_eq_false_iff_ne, ne_eq, Bool.and_eq_true, Bool.or_eq_true, Int.not_lt, Int.not_le] at hb_23
            refine vc_skip_of ?_
            refine seqQ_normal hQ10 ?_
            simp only [go_sem, Try.ntmps172, Try.results172]
            refine blockQ_normal hQ8 ?_
            refine thenQ_normal hQ5 ?_
            refine ⟨(m_2, IntKind.i64.wrap (blockSize_1 * 2), a_33), [], ?_, h, Nat.lt_succ_self _⟩
            simp only [go_sem, Le, AvLeL_free _ F_cmp_0]
      ·
        replace h := if_f h hb_19
        simp only [decide_eq_true_eq, decide_eq_false_iff_not, Bool.not_eq_true', Bool.not_eq_false', beq_iff_eq, beq_eq_false_iff_ne, ne_eq, Bool.and_eq_true, Bool.or_eq_true, Int.not_lt, Int.not_le] at hb_19
        refine vc_exit_of ?_
        refine seqQ_exit hQ6 ?_
        refine thenQ_exit hQ5 ?_
        refine blockQ_exit hQ4 ?_
        simp only [go_sem, Try.ntmps172, Try.results172]
        obtain rfl := Option.some.inj h
        refine retW_det [] ?_
        simp only [go_sem, Le, AvLeL_free _ F_cmp_0]
end Go.Proofs.Ythpahhhdapdcpaa

namespace Go.Proofs.Ythpahhhdapdcpaa
open Go Go.RowKit
set_option maxHeartbeats 2000000
set_option maxRecDepth 100000
set_option linter.unusedSimpArgs false
set_option linter.unusedVariables false
def f_slices_SortStableFunc_Row_s0_0 (xv_0 : List GRow) (cmp_0 : GRow → GRow → Option Int) : Option (List GRow) :=
  bindO (f_slices_stableCmpFunc_Row_s0_0 xv_0 (List.length xv_0 : Int) cmp_0) (fun (v_0 : List GRow) =>
  guardO (List.length v_0 = List.length xv_0) (
  some v_0))
theorem f_slices_SortStableFunc_Row_s0_0_det (xv_0 : List GRow) (cmp_0 : GRow → GRow → Option Int) (g_cmp_0 : FuncId) (c_cmp_0 : List AV) (F_cmp_0 : idFreeL c_cmp_0 = true) (E_cmp_0 : entB Try.prog g_cmp_0 = true) (H_cmp_0 : ∀ (x0 : GRow) (x1 : GRow) (r : Int), cmp_0 x0 x1 = some r → PureS Try.prog g_cmp_0 ([.agg [.v (.int .i64 x0.K), .v (.int .i64 x0.Many), .v (.int .i64 x0.Least), .v (.int .i64 x0.Top), .v (.int .i64 x0.Sum), .v (.bool x0.Sure)], .agg [.v (.int .i64 x1.K), .v (.int .i64 x1.Many), .v (.int .i64 x1.Least), .v (.int .i64 x1.Top), .v (.int .i64 x1.Sum), .v (.bool x1.Sure)]] ++ c_cmp_0) 0 (.v (.int .i64 r))) (r : List GRow) (h : f_slices_SortStableFunc_Row_s0_0 xv_0 cmp_0 = some r) : DetS Try.prog 108 [.osl 0 6 (0) (List.length xv_0), .clo g_cmp_0 c_cmp_0] [(0, .arr 6 (enc xv_0))] 1 (.tup []) [(0, .arr 6 (enc r))] 1 := by
  unfold DetS
  refine Spec.of_vc Try.func108 rfl (by kernel_rfl) (by kernel_rfl) ?_
  rw [f_slices_SortStableFunc_Row_s0_0] at h
  obtain ⟨v_0, ev_0, h⟩ := bindO_some h
  simp only [go_sem, Try.ntmps108, Try.results108]
  refine callD [0] (f_slices_stableCmpFunc_Row_s0_0_det xv_0 (List.length xv_0 : Int) cmp_0 g_cmp_0 c_cmp_0 F_cmp_0 E_cmp_0 H_cmp_0 v_0 ev_0) (by simp) (by simp only [renL, renA, renL_free F_cmp_0] <;> rfl) ⟨rfl, trivial⟩ (by simp only [ltL, ltA, ltL_free F_cmp_0] <;> rfl) rfl rfl rfl ?_
  obtain ⟨g_0, h⟩ := guardO_some h
  simp only [go_sem, Try.ntmps108, Try.results108, g_0]
  obtain rfl := Option.some.inj h
  refine retW_det [] ?_
  simp only [go_sem, Le, AvLeL_free _ F_cmp_0]
end Go.Proofs.Ythpahhhdapdcpaa

namespace Go.Proofs.Ythpahhhdapdcpaa
open Go Go.RowKit
set_option maxHeartbeats 2000000
set_option maxRecDepth 100000
set_option linter.unusedSimpArgs false
set_option linter.unusedVariables false
def f_query_measured (rv_0 : GRow) (measure_0 : Int) : Option Int :=
  (if (measure_0 == 0) = true then some rv_0.Many
  else (if (measure_0 == 1) = true then some rv_0.Least
  else (if (measure_0 == 2) = true then some rv_0.Top
  else (if (!rv_0.Sure) = true then some (-9223372036854775808)
  else some rv_0.Sum))))
theorem f_query_measured_ok (rv_0 : GRow) (measure_0 : Int)  (r : Int) (h : f_query_measured rv_0 measure_0 = some r) : PureS Try.prog 112 [.agg [.v (.int .i64 rv_0.K), .v (.int .i64 rv_0.Many), .v (.int .i64 rv_0.Least), .v (.int .i64 rv_0.Top), .v (.int .i64 rv_0.Sum), .v (.bool rv_0.Sure)], .v (.int .i64 measure_0)] 0 (.v (.int .i64 r)) := by
  unfold PureS
  refine Spec.of_vc Try.func112 rfl (by kernel_rfl) (by kernel_rfl) ?_
  rw [f_query_measured] at h
  refine vc_seq_gen (by kernel_rfl) ?_
  intro QQ1 hQ1
  simp only [go_sem, Try.ntmps112, Try.results112]
  refine seqQ_normal hQ1 ?_
  refine vc_seq_gen (by kernel_rfl) ?_
  intro QQ2 hQ2
  refine vc_seq_gen (by kernel_rfl) ?_
  intro QQ3 hQ3
  simp only [go_sem, Try.ntmps112, Try.results112]
  refine seqQ_normal hQ3 ?_
  refine vc_block_gen ?_
  intro QQ4 hQ4
  refine vc_seq_gen (by kernel_rfl) ?_
  intro QQ5 hQ5
  simp only [go_sem, Try.ntmps112, Try.results112]
  refine seqQ_normal hQ5 ?_
  refine vc_cond_of (b := (measure_0 == 0)) (by (simp only [go_sem]; done)) (fun hb_0 => ?_) (fun hb_0 => ?_)
  ·
    replace h := if_t h hb_0
    simp only [decide_eq_true_eq, decide_eq_false_iff_not, Bool.not_eq_true', Bool.not_eq_false', beq_iff_eq, beq_eq_false_iff_ne, ne_eq, Bool.and_eq_true, Bool.or_eq_true, Int.not_lt, Int.not_le] at hb_0
    refine vc_seq_gen (by kernel_rfl) ?_
    intro QQ6 hQ6
    simp only [go_sem, Try.ntmps112, Try.results112]
    refine seqQ_normal hQ6 ?_
    refine vc_ret_of ?_
    refine blockQ_ret hQ4 ?_
    refine seqQ_ret hQ2 ?_
    simp only [go_sem, Try.ntmps112, Try.results112]
    obtain rfl := Option.some.inj h
    refine retW_pure rfl ?_
    simp only [go_sem, Le]
  ·
    replace h := if_f h hb_0
    simp only [decide_eq_true_eq, decide_eq_false_iff_not, Bool.not_eq_true', Bool.not_eq_false', beq_iff_eq, beq_eq_false_iff_ne, ne_eq, Bool.and_eq_true, Bool.or_eq_true, Int.not_lt, Int.not_le] at hb_0
    refine vc_seq_gen (by kernel_rfl) ?_
    intro QQ7 hQ7
    simp only [go_sem, Try.ntmps112, Try.results112]
    refine seqQ_normal hQ7 ?_
    refine vc_cond_of (b := (measure_0 == 1)) (by (simp only [go_sem]; done)) (fun hb_1 => ?_) (fun hb_1 => ?_)
    ·
      replace h := if_t h hb_1
      simp only [decide_eq_true_eq, decide_eq_false_iff_not, Bool.not_eq_true', Bool.not_eq_false', beq_iff_eq, beq_eq_false_iff_ne, ne_eq, Bool.and_eq_true, Bool.or_eq_true, Int.not_lt, Int.not_le] at hb_1
      refine vc_seq_gen (by kernel_rfl) ?_
      intro QQ8 hQ8
      simp only [go_sem, Try.ntmps112, Try.results112]
      refine seqQ_normal hQ8 ?_
      refine vc_ret_of ?_
      refine blockQ_ret hQ4 ?_
      refine seqQ_ret hQ2 ?_
      simp only [go_sem, Try.ntmps112, Try.results112]
      obtain rfl := Option.some.inj h
      refine retW_pure rfl ?_
      simp only [go_sem, Le]
    ·
      replace h := if_f h hb_1
      simp only [decide_eq_true_eq, decide_eq_false_iff_not, Bool.not_eq_true', Bool.not_eq_false', beq_iff_eq, beq_eq_false_iff_ne, ne_eq, Bool.and_eq_true, Bool.or_eq_true, Int.not_lt, Int.not_le] at hb_1
      refine vc_seq_gen (by kernel_rfl) ?_
      intro QQ9 hQ9
      simp only [go_sem, Try.ntmps112, Try.results112]
      refine seqQ_normal hQ9 ?_
      refine vc_cond_of (b := (measure_0 == 2)) (by (simp only [go_sem]; done)) (fun hb_2 => ?_) (fun hb_2 => ?_)
      ·
        replace h := if_t h hb_2
        simp only [decide_eq_true_eq, decide_eq_false_iff_not, Bool.not_eq_true', Bool.not_eq_false', beq_iff_eq, beq_eq_false_iff_ne, ne_eq, Bool.and_eq_true, Bool.or_eq_true, Int.not_lt, Int.not_le] at hb_2
        refine vc_seq_gen (by kernel_rfl) ?_
        intro QQ10 hQ10
        simp only [go_sem, Try.ntmps112, Try.results112]
        refine seqQ_normal hQ10 ?_
        refine vc_ret_of ?_
        refine blockQ_ret hQ4 ?_
        refine seqQ_ret hQ2 ?_
        simp only [go_sem, Try.ntmps112, Try.results112]
        obtain rfl := Option.some.inj h
        refine retW_pure rfl ?_
        simp only [go_sem, Le]
      ·
        replace h := if_f h hb_2
        simp only [decide_eq_true_eq, decide_eq_false_iff_not, Bool.not_eq_true', Bool.not_eq_false', beq_iff_eq, beq_eq_false_iff_ne, ne_eq, Bool.and_eq_true, Bool.or_eq_true, Int.not_lt, Int.not_le] at hb_2
        refine vc_skip_of ?_
        refine blockQ_normal hQ4 ?_
        refine seqQ_normal hQ2 ?_
        refine vc_seq_gen (by kernel_rfl) ?_
        intro QQ11 hQ11
        refine vc_seq_gen (by kernel_rfl) ?_
        intro QQ12 hQ12
        simp only [go_sem, Try.ntmps112, Try.results112]
        refine seqQ_normal hQ12 ?_
        refine vc_cond_of (b := (!rv_0.Sure)) (by (simp only [go_sem]; done)) (fun hb_3 => ?_) (fun hb_3 => ?_)
        ·
          replace h := if_t h hb_3
          simp only [decide_eq_true_eq, decide_eq_false_iff_not, Bool.not_eq_true', Bool.not_eq_false', beq_iff_eq, beq_eq_false_iff_ne, ne_eq, Bool.and_eq_true, Bool.or_eq_true, Int.not_lt, Int.not_le] at hb_3
          refine vc_seq_gen (by kernel_rfl) ?_
          intro QQ13 hQ13
          simp only [go_sem, Try.ntmps112, Try.results112]
          refine seqQ_normal hQ13 ?_
          refine vc_ret_of ?_
          refine seqQ_ret hQ11 ?_
          simp only [go_sem, Try.ntmps112, Try.results112]
          obtain rfl := Option.some.inj h
          refine retW_pure rfl ?_
          simp only [go_sem, Le]
        ·
          replace h := if_f h hb_3
          simp only [decide_eq_true_eq, decide_eq_false_iff_not, Bool.not_eq_true', Bool.not_eq_false', beq_iff_eq, beq_eq_false_iff_ne, ne_eq, Bool.and_eq_true, Bool.or_eq_true, Int.not_lt, Int.not_le] at hb_3
          refine vc_skip_of ?_
          refine seqQ_normal hQ11 ?_
          refine vc_seq_gen (by kernel_rfl) ?_
          intro QQ14 hQ14
          simp only [go_sem, Try.ntmps112, Try.results112]
          refine seqQ_normal hQ14 ?_
          refine vc_ret_of ?_
          simp only [go_sem, Try.ntmps112, Try.results112]
          obtain rfl := Option.some.inj h
          refine retW_pure rfl ?_
          simp only [go_sem, Le]
end Go.Proofs.Ythpahhhdapdcpaa

namespace Go.Proofs.Ythpahhhdapdcpaa
open Go Go.RowKit
set_option maxHeartbeats 2000000
set_option maxRecDepth 100000
set_option linter.unusedSimpArgs false
set_option linter.unusedVariables false
def f_query_First_1 (a_0 : GRow) (b_0 : GRow) (cap_0 : Int) : Option Int :=
  bindO (f_query_measured b_0 cap_0) (fun (v_0 : Int) =>
  bindO (f_query_measured a_0 cap_0) (fun (v_1 : Int) =>
  bindO (f_cmp_Compare_int64 v_0 v_1) (fun (v_2 : Int) =>
  bindO (f_cmp_Compare_int64 a_0.K b_0.K) (fun (v_3 : Int) =>
  bindO (f_cmp_Or_int ([v_2, v_3] : List Int)) (fun (v_4 : Int) =>
  some v_4)))))
theorem f_query_First_1_ok (a_0 : GRow) (b_0 : GRow) (cap_0 : Int)  (r : Int) (h : f_query_First_1 a_0 b_0 cap_0 = some r) : PureS Try.prog 109 [.agg [.v (.int .i64 a_0.K), .v (.int .i64 a_0.Many), .v (.int .i64 a_0.Least), .v (.int .i64 a_0.Top), .v (.int .i64 a_0.Sum), .v (.bool a_0.Sure)], .agg [.v (.int .i64 b_0.K), .v (.int .i64 b_0.Many), .v (.int .i64 b_0.Least), .v (.int .i64 b_0.Top), .v (.int .i64 b_0.Sum), .v (.bool b_0.Sure)], .el 1 [[.v (.int .i64 cap_0)]] 0 0] 0 (.v (.int .i64 r)) := by
  unfold PureS
  refine Spec.of_vc Try.func109 rfl (by kernel_rfl) (by kernel_rfl) ?_
  rw [f_query_First_1] at h
  refine vc_seq_gen (by kernel_rfl) ?_
  intro QQ1 hQ1
  simp only [go_sem, Try.ntmps109, Try.results109]
  refine seqQ_normal hQ1 ?_
  refine vc_seq_gen (by kernel_rfl) ?_
  intro QQ2 hQ2
  refine vc_draw ?_
  refine drawM_tail 11 [0, 0, 3, 0, 0, 31, 63, 0, 128, 0, 512, 2047, 4095, 8191, 16383] mixed (by kernel_rfl) (of_decide_eq_true (by kernel_rfl)) (by kernel_rfl) ?_
  obtain ⟨v_0, ev_0, h⟩ := bindO_some h
  simp only [go_sem, Try.ntmps109, Try.results109]
  refine callq (fun _ => (f_query_measured_ok b_0 cap_0 v_0 ev_0)) (by rfl) (by rfl) ?_
  obtain ⟨v_1, ev_1, h⟩ := bindO_some h
  simp only [go_sem, Try.ntmps109, Try.results109]
  refine callq (fun _ => (f_query_measured_ok a_0 cap_0 v_1 ev_1)) (by rfl) (by rfl) ?_
  obtain ⟨v_2, ev_2, h⟩ := bindO_some h
  simp only [go_sem, Try.ntmps109, Try.results109]
  refine callq (fun _ => (f_cmp_Compare_int64_ok v_0 v_1 v_2 ev_2)) (by rfl) (by rfl) ?_
  obtain ⟨v_3, ev_3, h⟩ := bindO_some h
  simp only [go_sem, Try.ntmps109, Try.results109]
  refine call0 (f_cmp_Compare_int64_ok a_0.K b_0.K v_3 ev_3) (by rfl) (by rfl) ?_
  have rf_0 : [[.v (.int .i64 v_2)], [.v (.int .i64 v_3)]] = enc ([v_2, v_3] : List Int) := by rfl
  obtain ⟨v_4, ev_4, h⟩ := bindO_some h
  simp only [go_sem, Try.ntmps109, Try.results109]
  simp only [rf_0]
  refine callB (s' := (⟨0, [(0, .agg [.v (.int .i64 a_0.K), .v (.int .i64 a_0.Many), .v (.int .i64 a_0.Least), .v (.int .i64 a_0.Top), .v (.int .i64 a_0.Sum), .v (.bool a_0.Sure)]), (1, .agg [.v (.int .i64 b_0.K), .v (.int .i64 b_0.Many), .v (.int .i64 b_0.Least), .v (.int .i64 b_0.Top), .v (.int .i64 b_0.Sum), .v (.bool b_0.Sure)]), (2, .el 1 [[.v (.int .i64 cap_0)]] 0 0), (3, .ptr 0 0), (4, .ptr 1 0), (5, .v (.int .i64 0)), (6, .agg [.v (.int .i64 b_0.K), .v (.int .i64 b_0.Many), .v (.int .i64 b_0.Least), .v (.int .i64 b_0.Top), .v (.int .i64 b_0.Sum), .v (.bool b_0.Sure)]), (7, .v (.int .i64 cap_0)), (8, .v (.int .i64 v_0)), (9, .agg [.v (.int .i64 a_0.K), .v (.int .i64 a_0.Many), .v (.int .i64 a_0.Least), .v (.int .i64 a_0.Top), .v (.int .i64 a_0.Sum), .v (.bool a_0.Sure)]), (10, .v (.int .i64 cap_0)), (11, .v (.int .i64 v_1)), (12, .v (.int .i64 v_2)), (13, .ptr 0 0), (14, .v (.int .i64 a_0.K)), (15, .ptr 1 0), (16, .v (.int .i64 b_0.K)), (17, .v (.int .i64 v_3)), (18, .sl 1 (enc ([v_2, v_3] : List Int)))], [(0, .box [.v (.int .i64 a_0.K), .v (.int .i64 a_0.Many), .v (.int .i64 a_0.Least), .v (.int .i64 a_0.Top), .v (.int .i64 a_0.Sum), .v (.bool a_0.Sure)]), (1, .box [.v (.int .i64 b_0.K), .v (.int .i64 b_0.Many), .v (.int .i64 b_0.Least), .v (.int .i64 b_0.Top), .v (.int .i64 b_0.Sum), .v (.bool b_0.Sure)])], 2, 20⟩ : St)) (l := [some 0, some 1]) (args' := [.sl 1 (enc ([v_2, v_3] : List Int))]) ?_ ?_ (f_cmp_Or_int_ok ([v_2, v_3] : List Int) v_4 ev_4) (by rfl) (by rfl) ?_
  · simp only [go_sem, Le] <;> (repeat' apply And.intro) <;> first | ((try with_reducible refine TL_eq ?_); omega) | ((try with_reducible refine TL_eq ?_); (simp [go_sem]; done))
  · simp only [go_sem, Le] <;> (repeat' apply And.intro) <;> ((try with_reducible refine TL_eq ?_); (simp [go_sem]; done))
  simp only [go_sem, Try.ntmps109, Try.results109]
  refine seqQ_normal hQ2 ?_
  refine vc_ret_of ?_
  simp only [go_sem, Try.ntmps109, Try.results109]
  obtain rfl := Option.some.inj h
  refine retW_pure rfl ?_
  simp only [go_sem, Le]
end Go.Proofs.Ythpahhhdapdcpaa

namespace Go.Proofs.Ythpahhhdapdcpaa
open Go Go.RowKit
set_option maxHeartbeats 2000000
set_option maxRecDepth 100000
set_option linter.unusedSimpArgs false
set_option linter.unusedVariables false
def f_query_First (rows_0 : List GRow) (measure_0 : Int) (many_0 : Int) : Option (List GRow) :=
  (if (((decide (measure_0 < 0)) || (decide (3 < measure_0))) || (decide (many_0 < 1))) = true then some ([] : List GRow)
  else bindO (f_slices_Clone_Row rows_0) (fun (v_0 : List GRow) =>
  bindO (f_slices_SortStableFunc_Row_s0_0 v_0 (fun x0_ x1_ => f_query_First_1 x0_ x1_ measure_0)) (fun (v_1 : List GRow) =>
  guardO (List.length v_1 = List.length v_0) (
  guardO (0 ≤ 0 ∧ 0 ≤ (min (List.length v_1 : Int) many_0) ∧ (min (List.length v_1 : Int) many_0) ≤ (List.length v_1 : Int)) (
  some (List.take (Int.toNat (min (List.length v_1 : Int) many_0)) v_1))))))
theorem f_query_First_det (rows_0 : List GRow) (measure_0 : Int) (many_0 : Int)  (r : List GRow) (h : f_query_First rows_0 measure_0 many_0 = some r) : DetS Try.prog 55 [.sl 6 (enc rows_0), .v (.int .i64 measure_0), .v (.int .i64 many_0)] [] 0 (.osl 0 6 (0) (List.length r)) [(0, .arr 6 (enc r))] 1 := by
  unfold DetS
  refine Spec.of_vc Try.func55 rfl (by kernel_rfl) (by kernel_rfl) ?_
  rw [f_query_First] at h
  refine vc_seq_gen (by kernel_rfl) ?_
  intro QQ1 hQ1
  simp only [go_sem, Try.ntmps55, Try.results55]
  refine seqQ_normal hQ1 ?_
  refine vc_seq_gen (by kernel_rfl) ?_
  intro QQ2 hQ2
  refine vc_seq_gen (by kernel_rfl) ?_
  intro QQ3 hQ3
  simp only [go_sem, Try.ntmps55, Try.results55]
  refine seqQ_normal hQ3 ?_
  refine vc_cond_of (b := (((decide (measure_0 < 0)) || (decide (3 < measure_0))) || (decide (many_0 < 1)))) (by (simp only [go_sem]; done)) (fun hb_0 => ?_) (fun hb_0 => ?_)
  ·
    replace h := if_t h hb_0
    simp only [decide_eq_true_eq, decide_eq_false_iff_not, Bool.not_eq_true', Bool.not_eq_false', beq_iff_eq, beq_eq_false_iff_ne, ne_eq, Bool.and_eq_true, Bool.or_eq_true, Int.not_lt, Int.not_le] at hb_0
    refine vc_seq_gen (by kernel_rfl) ?_
    intro QQ4 hQ4
    simp only [go_sem, Try.ntmps55, Try.results55]
    refine seqQ_normal hQ4 ?_
    refine vc_ret_of ?_
    refine seqQ_ret hQ2 ?_
    simp only [go_sem, Try.ntmps55, Try.results55]
    obtain rfl := Option.some.inj h
    refine retW_det [none] ?_
    simp only [go_sem, Le] <;> (repeat' apply And.intro) <;> ((try with_reducible refine TL_eq ?_); (simp [go_sem]; done))
  ·
    replace h := if_f h hb_0
    refine vc_skip_of ?_
    refine seqQ_normal hQ2 ?_
    refine vc_seq_gen (by kernel_rfl) ?_
    intro QQ5 hQ5
    obtain ⟨v_0, ev_0, h⟩ := bindO_some h
    simp only [go_sem, Try.ntmps55, Try.results55]
    refine callD [] (f_slices_Clone_Row_det rows_0 v_0 ev_0) (by simp) rfl trivial rfl rfl rfl rfl ?_
    simp only [go_sem, Try.ntmps55, Try.results55]
    refine seqQ_normal hQ5 ?_
    refine vc_seq_gen (by kernel_rfl) ?_
    intro QQ6 hQ6
    obtain ⟨v_1, ev_1, h⟩ := bindO_some h
    simp only [go_sem, Try.ntmps55, Try.results55]
    refine callF_weak (s' := (⟨0, [(0, .sl 6 (enc rows_0)), (1, .v (.int .i64 measure_0)), (2, .v (.int .i64 many_0)), (4, .el 1 [[.v (.int .i64 measure_0)]] 0 0), (6, .v (.slice none 0 0)), (7, .osl 0 6 (0) (List.length v_0)), (8, .v (.int .i64 measure_0)), (9, .v (.bool (decide (measure_0 < 0)))), (10, .v (.bool (decide (measure_0 < 0)))), (13, .v (.bool ((decide (measure_0 < 0)) || (decide (3 < measure_0))))), (14, .v (.bool ((decide (measure_0 < 0)) || (decide (3 < measure_0))))), (17, .v (.bool (((decide (measure_0 < 0)) || (decide (3 < measure_0))) || (decide (many_0 < 1))))), (18, .sl 6 (enc rows_0)), (19, .osl 0 6 (0) (List.length v_0)), (20, .osl 0 6 (0) (List.length v_0)), (21, .clo 109 [.el 1 [[.v (.int .i64 measure_0)]] 0 0])], [(0, .arr 6 (enc v_0))], 1, 29⟩ : St)) (l := [some 1]) (args' := [.osl 0 6 (0) (List.length v_0), .clo 109 [.el 1 [[.v (.int .i64 measure_0)]] 0 0]]) ?_ ?_ ?_
    · simp only [go_sem, Le] <;> (repeat' apply And.intro) <;> ((try with_reducible refine TL_eq ?_); (simp [go_sem]; done))
    · simp only [go_sem, Le] <;> (repeat' apply And.intro) <;> ((try with_reducible refine TL_eq ?_); (simp [go_sem]; done))
    refine callD [0] (f_slices_SortStableFunc_Row_s0_0_det v_0 (fun x0_ x1_ => f_query_First_1 x0_ x1_ measure_0) 109 [.el 1 [[.v (.int .i64 measure_0)]] 0 0] (by rfl) (by kernel_rfl) (fun y0 y1 r_ e_ => f_query_First_1_ok y0 y1 measure_0 r_ e_) v_1 ev_1) (by simp) rfl ⟨rfl, trivial⟩ rfl rfl rfl rfl ?_
    obtain ⟨g_0, h⟩ := guardO_some h
    simp only [go_sem, Try.ntmps55, Try.results55, g_0]
    refine seqQ_normal hQ6 ?_
    refine vc_seq_gen (by kernel_rfl) ?_
    intro QQ7 hQ7
    obtain ⟨g_1, h⟩ := guardO_some h
    simp only [go_sem, Try.ntmps55, Try.results55, g_1]
    refine And.intro (by omega) ?_
    refine And.intro (by omega) ?_
    refine seqQ_normal hQ7 ?_
    refine vc_ret_of ?_
    simp only [go_sem, Try.ntmps55, Try.results55]
    obtain rfl := Option.some.inj h
    refine retW_det [some 0] ?_
    simp only [go_sem, Le] <;> (repeat' apply And.intro) <;> first | (with_reducible exact TL_enc _ _) | ((try with_reducible refine TL_eq ?_); (simp [enc_len, enc]; omega))
theorem f_query_First_ok (rows_0 : List GRow) (measure_0 : Int) (many_0 : Int)  (r : List GRow) (h : f_query_First rows_0 measure_0 many_0 = some r) : PureS Try.prog 55 [.sl 6 (enc rows_0), .v (.int .i64 measure_0), .v (.int .i64 many_0)] 0 (.sl 6 (enc r)) := by
  refine (f_query_First_det rows_0 measure_0 many_0  r h).pure ?_
  simp only [go_sem, Le] <;> (repeat' apply And.intro) <;> ((try with_reducible refine TL_eq ?_); (simp [go_sem]; done))
end Go.Proofs.Ythpahhhdapdcpaa

namespace Go.Proofs.Ythpahhhdapdcpaa
open Go Go.RowKit
set_option maxHeartbeats 2000000
set_option maxRecDepth 100000
set_option linter.unusedSimpArgs false
set_option linter.unusedVariables false
def f_query_Total_B1 (rows_0 : List GRow) (rec_1 : Int × Int → Option Int) : Int × Int → Option Int :=
  fun (nv_1, t8_1) =>
  (if (decide (t8_1 < (List.length rows_0 : Int))) = true then bindO (idx rows_0 t8_1) (fun (xv_2 : GRow) =>
  (if (decide ((IntKind.i64.wrap (4611686018427387904 - nv_1)) < xv_2.Many)) = true then some 4611686018427387904
  else rec_1 (IntKind.i64.wrap (nv_1 + (max 0 xv_2.Many)), IntKind.i64.wrap (t8_1 + 1))))
  else some nv_1)
def f_query_Total (rows_0 : List GRow) : Option Int :=
  loopK (f_query_Total_B1 rows_0) rounds (0, 0)
theorem f_query_Total_ok (rows_0 : List GRow)  (r : Int) (h : f_query_Total rows_0 = some r) : PureS Try.prog 56 [.sl 6 (enc rows_0)] 0 (.v (.int .i64 r)) := by
  unfold PureS
  refine Spec.of_vc Try.func56 rfl (by kernel_rfl) (by kernel_rfl) ?_
  rw [f_query_Total] at h
  refine vc_seq_gen (by kernel_rfl) ?_
  intro QQ1 hQ1
  simp only [go_sem, Try.ntmps56, Try.results56]
  refine seqQ_normal hQ1 ?_
  refine vc_seq_gen (by kernel_rfl) ?_
  intro QQ2 hQ2
  simp only [go_sem, Try.ntmps56, Try.results56]
  refine seqQ_normal hQ2 ?_
  refine vc_join (by kernel_rfl) ?_
  refine seq_go_gen ?_
  intro QQ3 hQ3
  refine vc_seq_gen (by kernel_rfl) ?_
  intro QQ4 hQ4
  simp only [go_sem, Try.ntmps56, Try.results56]
  refine seqQ_normal hQ4 ?_
  refine vc_block_gen ?_
  intro QQ5 hQ5
  refine vc_loop_of ?_
  refine loop_gen (ι := Nat × Int × Int) (fun ((_, nv_1, t8_1) : Nat × Int × Int) => (⟨0, [(3, .v (.int .i64 nv_1)), (6, .sl 6 (enc rows_0)), (7, .v (.int .i64 (List.length rows_0 : Int))), (8, .v (.int .i64 t8_1))], [], 0, 24⟩ : St)) (fun ((n_, nv_1, t8_1) : Nat × Int × Int) => loopK (f_query_Total_B1 rows_0) n_ (nv_1, t8_1) = some r) (fun p => p.1) (rounds, 0, 0) [] ?_ h ?_
  · simp only [go_sem, Le]
  · rintro ⟨n_1, nv_1, t8_1⟩ h QQ6 hQ6
    dsimp only at h
    replace h := loopK_some h
    obtain ⟨m_1, rfl, h⟩ := h
    rw [f_query_Total_B1] at h
    refine vc_seq_gen (by kernel_rfl) ?_
    intro QQ7 hQ7
    simp only [go_sem, Try.ntmps56, Try.results56]
    refine seqQ_normal hQ7 ?_
    refine vc_seq_gen (by kernel_rfl) ?_
    intro QQ8 hQ8
    refine vc_cond_of (b := (decide (t8_1 < (List.length rows_0 : Int)))) (by (simp only [go_sem]; done)) (fun hb_4 => ?_) (fun hb_4 => ?_)
    ·
      replace h := if_t h hb_4
      simp only [decide_eq_true_eq, decide_eq_false_iff_not, Bool.not_eq_true', Bool.not_eq_false', beq_iff_eq, beq_eq_false_iff_ne, ne_eq, Bool.and_eq_true, Bool.or_eq_true, Int.not_lt, Int.not_le] at hb_4
      refine vc_skip_of ?_
      refine seqQ_normal hQ8 ?_
      refine vc_seq_gen (by kernel_rfl) ?_
      intro QQ9 hQ9
      refine vc_block_gen ?_
      intro QQ10 hQ10
      refine vc_seq_gen (by kernel_rfl) ?_
      intro QQ11 hQ11
      obtain ⟨xv_2, exv_2, h⟩ := bindO_some h
      obtain ⟨fxv_2a, fxv_2b, fxv_2c⟩ := idx_spec exv_2
      simp only [go_sem, Try.ntmps56, Try.results56, fxv_2a, fxv_2b, fxv_2c]
      refine And.intro (by omega) ?_
      refine seqQ_normal hQ11 ?_
      refine vc_seq_gen (by kernel_rfl) ?_
      intro QQ12 hQ12
      refine vc_seq_gen (by kernel_rfl) ?_
      intro QQ13 hQ13
      simp only [go_sem, Try.ntmps56, Try.results56]
      refine seqQ_normal hQ13 ?_
      refine vc_cond_of (b := (decide ((IntKind.i64.wrap (4611686018427387904 - nv_1)) < xv_2.Many))) (by (simp only [go_sem]; done)) (fun hb_5 => ?_) (fun hb_5 => ?_)
      ·
        replace h := if_t h hb_5
        simp only [decide_eq_true_eq, decide_eq_false_iff_not, Bool.not_eq_true', Bool.not_eq_false', beq_iff_eq, beq_eq_false_iff_ne, ne_eq, Bool.and_eq_true, Bool.or_eq_true, Int.not_lt, Int.not_le] at hb_5
        refine vc_seq_gen (by kernel_rfl) ?_
        intro QQ14 hQ14
        simp only [go_sem, Try.ntmps56, Try.results56]
        refine seqQ_normal hQ14 ?_
        refine vc_ret_of ?_
        refine seqQ_ret hQ12 ?_
        refine blockQ_ret hQ10 ?_
        refine seqQ_ret hQ9 ?_
        refine thenQ_ret hQ6 ?_
        refine blockQ_ret hQ5 ?_
        refine seqQ_ret hQ3 ?_
        simp only [go_sem, Try.ntmps56, Try.results56]
        obtain rfl := Option.some.inj h
        refine retW_pure rfl ?_
        simp only [go_sem, Le]
      ·
        replace h := if_f h hb_5
        simp only [decide_eq_true_eq, decide_eq_false_iff_not, Bool.not_eq_true', Bool.not_eq_false', beq_iff_eq, beq_eq_false_iff_ne, ne_eq, Bool.and_eq_true, Bool.or_eq_true, Int.not_lt, Int.not_le] at hb_5
        refine vc_skip_of ?_
        refine seqQ_normal hQ12 ?_
        simp only [go_sem, Try.ntmps56, Try.results56]
        refine blockQ_normal hQ10 ?_
        refine seqQ_normal hQ9 ?_
        simp only [go_sem, Try.ntmps56, Try.results56]
        refine thenQ_normal hQ6 ?_
        refine ⟨(m_1, IntKind.i64.wrap (nv_1 + (max 0 xv_2.Many)), IntKind.i64.wrap (t8_1 + 1)), [], ?_, h, Nat.lt_succ_self _⟩
        simp only [go_sem, Le]
    ·
      replace h := if_f h hb_4
      simp only [decide_eq_true_eq, decide_eq_false_iff_not, Bool.not_eq_true', Bool.not_eq_false', beq_iff_eq, beq_eq_false_iff_ne, ne_eq, Bool.and_eq_true, Bool.or_eq_true, Int.not_lt, Int.not_le] at hb_4
      refine vc_exit_of ?_
      refine seqQ_exit hQ8 ?_
      refine thenQ_exit hQ6 ?_
      refine blockQ_exit hQ5 ?_
      refine seqQ_normal hQ3 ?_
      refine vc_seq_gen (by kernel_rfl) ?_
      intro QQ15 hQ15
      simp only [go_sem, Try.ntmps56, Try.results56]
      refine seqQ_normal hQ15 ?_
      refine vc_ret_of ?_
      simp only [go_sem, Try.ntmps56, Try.results56]
      obtain rfl := Option.some.inj h
      refine retW_pure rfl ?_
      simp only [go_sem, Le]
end Go.Proofs.Ythpahhhdapdcpaa

namespace Go.Proofs.Ythpahhhdapdcpaa
open Go Go.RowKit
set_option maxHeartbeats 2000000
set_option maxRecDepth 100000
set_option linter.unusedSimpArgs false
set_option linter.unusedVariables false
noncomputable def f_backwashlaw32_awake  : Option Bool :=
  bindO (f_query_Rows ([(⟨0, 0, (⟨2, 9⟩ : GRec)⟩ : GOut), (⟨0, 0, (⟨1, 3⟩ : GRec)⟩ : GOut), (⟨0, 0, (⟨1, 5⟩ : GRec)⟩ : GOut)] : List GOut) 0 0 0) (fun (v_0 : List GRow) =>
  bindO (f_query_First v_0 3 1) (fun (v_1 : List GRow) =>
  (if ((List.length v_0 : Int) == 2) = true then bindO (idx v_0 0) (fun (xv_0 : GRow) =>
  (if (((xv_0.K == 1) && ((xv_0.Many == 2) && ((xv_0.Least == 3) && ((xv_0.Top == 5) && ((xv_0.Sum == 8) && xv_0.Sure))))) && ((List.length v_1 : Int) == 1)) = true then bindO (idx v_1 0) (fun (xv_1 : GRow) =>
  (if (xv_1.K == 2) = true then bindO (f_query_Total v_0) (fun (v_2 : Int) =>
  some (v_2 == 3))
  else some false))
  else some false))
  else some false)))
theorem f_backwashlaw32_awake_ok   (r : Bool) (h : f_backwashlaw32_awake  = some r) : PureS Try.prog 13 [] 0 (.v (.bool r)) := by
  unfold PureS
  refine Spec.of_vc Try.func13 rfl (by kernel_rfl) (by kernel_rfl) ?_
  rw [f_backwashlaw32_awake] at h
  refine vc_seq_gen (by kernel_rfl) ?_
  intro QQ1 hQ1
  simp only [go_sem, Try.ntmps13, Try.results13]
  refine seqQ_normal hQ1 ?_
  refine vc_seq_gen (by kernel_rfl) ?_
  intro QQ2 hQ2
  have rf_0 : [[.v (.int .i64 0), .v (.int .i64 0), .v (.int .i64 2), .v (.int .i64 9)], [.v (.int .i64 0), .v (.int .i64 0), .v (.int .i64 1), .v (.int .i64 3)], [.v (.int .i64 0), .v (.int .i64 0), .v (.int .i64 1), .v (.int .i64 5)]] = enc ([(⟨0, 0, (⟨2, 9⟩ : GRec)⟩ : GOut), (⟨0, 0, (⟨1, 3⟩ : GRec)⟩ : GOut), (⟨0, 0, (⟨1, 5⟩ : GRec)⟩ : GOut)] : List GOut) := by rfl
  obtain ⟨v_0, ev_0, h⟩ := bindO_some h
  simp only [go_sem, Try.ntmps13, Try.results13]
  simp only [rf_0]
  refine callF_weak (s' := (⟨0, [(0, .v (.bool false)), (3, .agg [.v (.int .i64 2), .v (.int .i64 9)]), (4, .agg [.v (.int .i64 0), .v (.int .i64 0), .v (.int .i64 2), .v (.int .i64 9)]), (5, .agg [.v (.int .i64 1), .v (.int .i64 3)]), (6, .agg [.v (.int .i64 0), .v (.int .i64 0), .v (.int .i64 1), .v (.int .i64 3)]), (7, .agg [.v (.int .i64 1), .v (.int .i64 5)]), (8, .agg [.v (.int .i64 0), .v (.int .i64 0), .v (.int .i64 1), .v (.int .i64 5)]), (9, .sl 4 (enc ([(⟨0, 0, (⟨2, 9⟩ : GRec)⟩ : GOut), (⟨0, 0, (⟨1, 3⟩ : GRec)⟩ : GOut), (⟨0, 0, (⟨1, 5⟩ : GRec)⟩ : GOut)] : List GOut)))], [], 0, 40⟩ : St)) (l := []) (args' := [.sl 4 (enc ([(⟨0, 0, (⟨2, 9⟩ : GRec)⟩ : GOut), (⟨0, 0, (⟨1, 3⟩ : GRec)⟩ : GOut), (⟨0, 0, (⟨1, 5⟩ : GRec)⟩ : GOut)] : List GOut)), .v (.int .i64 0), .v (.int .i64 0), .v (.int .i64 0)]) ?_ ?_ ?_
  · simp only [go_sem, Le] <;> (repeat' apply And.intro) <;> ((try with_reducible refine TL_eq ?_); (simp [go_sem]; done))
  · simp only [go_sem, Le] <;> (repeat' apply And.intro) <;> ((try with_reducible refine TL_eq ?_); (simp [go_sem]; done))
  refine callD [] (f_query_Rows_det ([(⟨0, 0, (⟨2, 9⟩ : GRec)⟩ : GOut), (⟨0, 0, (⟨1, 3⟩ : GRec)⟩ : GOut), (⟨0, 0, (⟨1, 5⟩ : GRec)⟩ : GOut)] : List GOut) 0 0 0 v_0 ev_0) (by simp) rfl trivial rfl rfl rfl rfl ?_
  simp only [go_sem, Try.ntmps13, Try.results13]
  refine seqQ_normal hQ2 ?_
  refine vc_seq_gen (by kernel_rfl) ?_
  intro QQ3 hQ3
  obtain ⟨v_1, ev_1, h⟩ := bindO_some h
  simp only [go_sem, Try.ntmps13, Try.results13]
  refine callF_weak (s' := (⟨0, [(0, .v (.bool false)), (1, .sl 6 (enc v_0)), (3, .agg [.v (.int .i64 2), .v (.int .i64 9)]), (4, .agg [.v (.int .i64 0), .v (.int .i64 0), .v (.int .i64 2), .v (.int .i64 9)]), (5, .agg [.v (.int .i64 1), .v (.int .i64 3)]), (6, .agg [.v (.int .i64 0), .v (.int .i64 0), .v (.int .i64 1), .v (.int .i64 3)]), (7, .agg [.v (.int .i64 1), .v (.int .i64 5)]), (8, .agg [.v (.int .i64 0), .v (.int .i64 0), .v (.int .i64 1), .v (.int .i64 5)]), (9, .sl 4 (enc ([(⟨0, 0, (⟨2, 9⟩ : GRec)⟩ : GOut), (⟨0, 0, (⟨1, 3⟩ : GRec)⟩ : GOut), (⟨0, 0, (⟨1, 5⟩ : GRec)⟩ : GOut)] : List GOut))), (10, .sl 6 (enc v_0)), (11, .sl 6 (enc v_0))], [], 0, 40⟩ : St)) (l := []) (args' := [.sl 6 (enc v_0), .v (.int .i64 3), .v (.int .i64 1)]) ?_ ?_ ?_
  · simp only [go_sem, Le] <;> (repeat' apply And.intro) <;> ((try with_reducible refine TL_eq ?_); (simp [go_sem]; done))
  · simp only [go_sem, Le] <;> (repeat' apply And.intro) <;> ((try with_reducible refine TL_eq ?_); (simp [go_sem]; done))
  refine callD [] (f_query_First_det v_0 3 1 v_1 ev_1) (by simp) rfl trivial rfl rfl rfl rfl ?_
  simp only [go_sem, Try.ntmps13, Try.results13]
  refine seqQ_normal hQ3 ?_
  refine vc_seq_gen (by kernel_rfl) ?_
  intro QQ4 hQ4
  simp only [go_sem, Try.ntmps13, Try.results13]
  rcases hb_0 : ((List.length v_0 : Int) == 2) with _ | _
  ·
    replace h := if_f h hb_0
    simp only [go_sem, Try.ntmps13, Try.results13, hb_0]
    refine seqQ_normal hQ4 ?_
    refine vc_ret_of ?_
    simp only [go_sem, Try.ntmps13, Try.results13]
    obtain rfl := Option.some.inj h
    refine retW_pure rfl ?_
    simp only [go_sem, Le]
  ·
    replace h := if_t h hb_0
    obtain ⟨xv_0, exv_0, h⟩ := bindO_some h
    obtain ⟨fxv_0a, fxv_0b, fxv_0c⟩ := idx_spec exv_0
    simp only [Int.toNat_natCast, Int.reduceToNat] at fxv_0c
    simp only [go_sem, Try.ntmps13, Try.results13, hb_0, fxv_0a, fxv_0b, fxv_0c]
    refine And.intro (by omega) ?_
    rcases hb_1 : (((xv_0.K == 1) && ((xv_0.Many == 2) && ((xv_0.Least == 3) && ((xv_0.Top == 5) && ((xv_0.Sum == 8) && xv_0.Sure))))) && ((List.length v_1 : Int) == 1)) with _ | _
    ·
      replace h := if_f h hb_1
      simp only [go_sem, Try.ntmps13, Try.results13, hb_1]
      refine seqQ_normal hQ4 ?_
      refine vc_ret_of ?_
      simp only [go_sem, Try.ntmps13, Try.results13]
      obtain rfl := Option.some.inj h
      refine retW_pure rfl ?_
      simp only [go_sem, Le]
    ·
      replace h := if_t h hb_1
      obtain ⟨xv_1, exv_1, h⟩ := bindO_some h
      obtain ⟨fxv_1a, fxv_1b, fxv_1c⟩ := idx_spec exv_1
      simp only [Int.toNat_natCast, Int.reduceToNat] at fxv_1c
      simp only [go_sem, Try.ntmps13, Try.results13, hb_1, fxv_1a, fxv_1b, fxv_1c]
      refine And.intro (by omega) ?_
      rcases hb_2 : (xv_1.K == 2) with _ | _
      ·
        replace h := if_f h hb_2
        simp only [go_sem, Try.ntmps13, Try.results13, hb_2]
        refine seqQ_normal hQ4 ?_
        refine vc_ret_of ?_
        simp only [go_sem, Try.ntmps13, Try.results13]
        obtain rfl := Option.some.inj h
        refine retW_pure rfl ?_
        simp only [go_sem, Le]
      ·
        replace h := if_t h hb_2
        obtain ⟨v_2, ev_2, h⟩ := bindO_some h
        simp only [go_sem, Try.ntmps13, Try.results13, hb_2]
        refine call0 (f_query_Total_ok v_0 v_2 ev_2) (by rfl) (by rfl) ?_
        simp only [go_sem, Try.ntmps13, Try.results13]
        refine seqQ_normal hQ4 ?_
        refine vc_ret_of ?_
        simp only [go_sem, Try.ntmps13, Try.results13]
        obtain rfl := Option.some.inj h
        refine retW_pure rfl ?_
        simp only [go_sem, Le]
end Go.Proofs.Ythpahhhdapdcpaa

namespace Go.Proofs.Ythpahhhdapdcpaa
open Go Go.RowKit
set_option maxHeartbeats 2000000
set_option maxRecDepth 100000
set_option linter.unusedSimpArgs false
set_option linter.unusedVariables false
def lay57_ren : Go.Shelf.Ren := ⟨fun | 189 => 57 | 125 => 114 | 257 => 113 | 128 => 183 | 129 => 184 | 294 => 174 | 295 => 175 | 296 => 176 | 297 => 177 | 298 => 178 | 299 => 179 | 216 => 180 | 300 => 181 | 301 => 182 | 328 => 214 | 329 => 215 | 330 => 216 | 331 => 217 | 332 => 218 | 215 => 219 | 343 => 231 | n => n, fun | 28 => 24 | 3 => 3 | 46 => 173 | 0 => 0 | 51 => 232 | 53 => 115 | 4 => 4 | 183 => 226 | 182 => 225 | 131 => 156 | 5 => 5 | 9 => 9 | 218 => 255 | 222 => 259 | 228 => 271 | 229 => 141 | n => n, fun | n => n⟩
theorem lay57 : Go.Proofs.Lays.n189 Try.prog lay57_ren := {
  mixed := by kernel_rfl
  f125 := Try.func114.trans (congrArg some (by kernel_rfl))
  f128 := Try.func183.trans (congrArg some (by kernel_rfl))
  f129 := Try.func184.trans (congrArg some (by kernel_rfl))
  f189 := Try.func57.trans (congrArg some (by kernel_rfl))
  f215 := Try.func219.trans (congrArg some (by kernel_rfl))
  f216 := Try.func180.trans (congrArg some (by kernel_rfl))
  f257 := Try.func113.trans (congrArg some (by kernel_rfl))
  f294 := Try.func174.trans (congrArg some (by kernel_rfl))
  f295 := Try.func175.trans (congrArg some (by kernel_rfl))
  f296 := Try.func176.trans (congrArg some (by kernel_rfl))
  f297 := Try.func177.trans (congrArg some (by kernel_rfl))
  f298 := Try.func178.trans (congrArg some (by kernel_rfl))
  f299 := Try.func179.trans (congrArg some (by kernel_rfl))
  f300 := Try.func181.trans (congrArg some (by kernel_rfl))
  f301 := Try.func182.trans (congrArg some (by kernel_rfl))
  f328 := Try.func214.trans (congrArg some (by kernel_rfl))
  f329 := Try.func215.trans (congrArg some (by kernel_rfl))
  f330 := Try.func216.trans (congrArg some (by kernel_rfl))
  f331 := Try.func217.trans (congrArg some (by kernel_rfl))
  f332 := Try.func218.trans (congrArg some (by kernel_rfl))
  f343 := Try.func231.trans (congrArg some (by kernel_rfl))
  t0 := Try.underlying0
  a0 := Try.isAgg0
  z0 := Try.sizeOf0
  v0 := Try.zeroValue0
  t3 := Try.underlying3
  a3 := Try.isAgg3
  z3 := Try.sizeOf3
  v3 := Try.zeroValue3
  t4 := Try.underlying4
  a4 := Try.isAgg4
  z4 := Try.sizeOf4
  v4 := Try.zeroValue4
  t5 := Try.underlying5
  a5 := Try.isAgg5
  z5 := Try.sizeOf5
  v5 := Try.zeroValue5
  t9 := Try.underlying9
  a9 := Try.isAgg9
  z9 := Try.sizeOf9
  v9 := Try.zeroValue9
  t28 := Try.underlying24
  a28 := Try.isAgg24
  z28 := Try.sizeOf24
  v28 := Try.zeroValue24
  t46 := Try.underlying173
  a46 := Try.isAgg173
  z46 := Try.sizeOf173
  v46 := Try.zeroValue173
  t51 := Try.underlying232
  a51 := Try.isAgg232
  z51 := Try.sizeOf232
  v51 := Try.zeroValue232
  t53 := Try.underlying115
  a53 := Try.isAgg115
  z53 := Try.sizeOf115
  v53 := Try.zeroValue115
  t131 := Try.underlying156
  a131 := Try.isAgg156
  z131 := Try.sizeOf156
  v131 := Try.zeroValue156
  t182 := Try.underlying225
  a182 := Try.isAgg225
  z182 := Try.sizeOf225
  v182 := Try.zeroValue225
  t183 := Try.underlying226
  a183 := Try.isAgg226
  z183 := Try.sizeOf226
  v183 := Try.zeroValue226
  t218 := Try.underlying255
  a218 := Try.isAgg255
  z218 := Try.sizeOf255
  v218 := Try.zeroValue255
  t222 := Try.underlying259
  a222 := Try.isAgg259
  z222 := Try.sizeOf259
  v222 := Try.zeroValue259
  t228 := Try.underlying271
  a228 := Try.isAgg271
  z228 := Try.sizeOf271
  v228 := Try.zeroValue271
  t229 := Try.underlying141
  a229 := Try.isAgg141
  z229 := Try.sizeOf141
  v229 := Try.zeroValue141 }
def f_slices_Sort_int_s0_0 (x_0 : List Int) : Option (List Int) := sortI x_0
theorem f_slices_Sort_int_s0_0_det (x_0 : List Int) (r : List Int) (h : f_slices_Sort_int_s0_0 x_0 = some r) : DetS Try.prog 57 [.osl 0 1 0 (List.length x_0)] [(0, .arr 1 (enc x_0))] 1 (.tup []) [(0, .arr 1 (enc r))] 1 :=
  sortInts_det lay57 (by kernel_rfl) (fun w => Any.slices_Sort_int_none lay57 none 0 w) h
end Go.Proofs.Ythpahhhdapdcpaa

namespace Go.Proofs.Ythpahhhdapdcpaa
open Go Go.RowKit
set_option maxHeartbeats 2000000
set_option maxRecDepth 100000
set_option linter.unusedSimpArgs false
set_option linter.unusedVariables false
def lay58_ren : Go.Shelf.Ren := ⟨fun | 20 => 58 | n => n, fun | 22 => 24 | 3 => 3 | 4 => 4 | 0 => 0 | n => n, fun | n => n⟩
theorem lay58 : Go.Proofs.Lays2.n20 Try.prog lay58_ren := {
  mixed := by kernel_rfl
  f20 := Try.func58.trans (congrArg some (by kernel_rfl))
  t0 := Try.underlying0
  a0 := Try.isAgg0
  z0 := Try.sizeOf0
  v0 := Try.zeroValue0
  t3 := Try.underlying3
  a3 := Try.isAgg3
  z3 := Try.sizeOf3
  v3 := Try.zeroValue3
  t4 := Try.underlying4
  a4 := Try.isAgg4
  z4 := Try.sizeOf4
  v4 := Try.zeroValue4
  t22 := Try.underlying24
  a22 := Try.isAgg24
  z22 := Try.sizeOf24
  v22 := Try.zeroValue24
  i3 := by kernel_rfl }
def f_slices_Compact_int_s0_0 (x_0 : List Int) : Option (List Int) := compactI x_0
theorem f_slices_Compact_int_s0_0_det (x_0 : List Int) (r : List Int) (h : f_slices_Compact_int_s0_0 x_0 = some r) : DetS Try.prog 58 [.osl 0 1 0 (List.length x_0)] [(0, .arr 1 (enc x_0))] 1 (.osl 0 1 0 (List.length r)) [(0, .arr 1 (enc r))] 1 :=
  compactInts_det lay58 (by kernel_rfl) h
end Go.Proofs.Ythpahhhdapdcpaa

namespace Go.Proofs.Ythpahhhdapdcpaa
open Go Go.RowKit
set_option maxHeartbeats 2000000
set_option maxRecDepth 100000
set_option linter.unusedSimpArgs false
set_option linter.unusedVariables false
def f_query_Epochs_J1 (a_2 : List Int) : Option (List Int) :=
  bindO (f_slices_Sort_int_s0_0 a_2) (fun (v_0 : List Int) =>
  guardO (List.length v_0 = List.length a_2) (
  bindO (f_slices_Compact_int_s0_0 v_0) (fun (v_1 : List Int) =>
  some v_1)))
def f_query_Epochs_B2 (l_0 : List GOut) (node_0 : Int) (rec_2 : Int × (List Int) → Option (List Int)) : Int × (List Int) → Option (List Int) :=
  fun (t10_3, a_4) =>
  (if (decide (t10_3 < (List.length l_0 : Int))) = true then bindO (idx l_0 t10_3) (fun (xv_5 : GOut) =>
  (if (xv_5.Node == node_0) = true then guardO ((List.length a_4 + List.length ([xv_5.Epoch] : List Int)) * 8 ≤ 140737488355328) (
  rec_2 (IntKind.i64.wrap (t10_3 + 1), (a_4 ++ ([xv_5.Epoch] : List Int))))
  else rec_2 (IntKind.i64.wrap (t10_3 + 1), a_4)))
  else f_query_Epochs_J1 a_4)
def f_query_Epochs (l_0 : List GOut) (node_0 : Int) : Option (List Int) :=
  loopK (f_query_Epochs_B2 l_0 node_0) rounds (0, [])
theorem f_query_Epochs_det (l_0 : List GOut) (node_0 : Int)  (r : List Int) (h : f_query_Epochs l_0 node_0 = some r) : DetS Try.prog 14 [.sl 4 (enc l_0), .v (.int .i64 node_0)] [] 0 (.osl 0 1 (0) (List.length r)) [(0, .arr 1 (enc r))] 1 := by
  unfold DetS
  refine Spec.of_vc Try.func14 rfl (by kernel_rfl) (by kernel_rfl) ?_
  rw [f_query_Epochs] at h
  refine vc_seq_gen (by kernel_rfl) ?_
  intro QQ1 hQ1
  simp only [go_sem, Try.ntmps14, Try.results14]
  refine seqQ_normal hQ1 ?_
  refine vc_seq_gen (by kernel_rfl) ?_
  intro QQ2 hQ2
  simp only [go_sem, Try.ntmps14, Try.results14]
  refine seqQ_normal hQ2 ?_
  refine vc_join (by kernel_rfl) ?_
  refine seq_cut_gen (ι := (List Int)) (fun (a_2 : (List Int)) => (⟨0, [(5, .osl 0 1 (0) (List.length a_2))], [(0, .arr 1 (enc a_2))], 1, 28⟩ : St)) (fun (a_2 : (List Int)) => f_query_Epochs_J1 a_2 = some r) ?_ ?_
  ·
    intro QQ5 hQ5
    refine vc_seq_gen (by kernel_rfl) ?_
    intro QQ6 hQ6
    simp only [go_sem, Try.ntmps14, Try.results14]
    refine seqQ_normal hQ6 ?_
    refine vc_block_gen ?_
    intro QQ7 hQ7
    refine vc_loop_of ?_
    refine loop_gen (ι := Nat × Int × (List Int)) (fun ((_, t10_3, a_4) : Nat × Int × (List Int)) => (⟨0, [(1, .v (.int .i64 node_0)), (5, .osl 0 1 (0) (List.length a_4)), (8, .sl 4 (enc l_0)), (9, .v (.int .i64 (List.length l_0 : Int))), (10, .v (.int .i64 t10_3))], [(0, .arr 1 (enc a_4))], 1, 28⟩ : St)) (fun ((n_, t10_3, a_4) : Nat × Int × (List Int)) => loopK (f_query_Epochs_B2 l_0 node_0) n_ (t10_3, a_4) = some r) (fun p => p.1) (rounds, 0, []) [none] ?_ h ?_
    · simp only [go_sem, Le] <;> (repeat' apply And.intro) <;> ((try with_reducible refine TL_eq ?_); (simp [go_sem]; done))
    · rintro ⟨n_2, t10_3, a_4⟩ h QQ8 hQ8
      dsimp only at h
      replace h := loopK_some h
      obtain ⟨m_2, rfl, h⟩ := h
      rw [f_query_Epochs_B2] at h
      refine vc_seq_gen (by kernel_rfl) ?_
      intro QQ9 hQ9
      simp only [go_sem, Try.ntmps14, Try.results14]
      refine seqQ_normal hQ9 ?_
      refine vc_seq_gen (by kernel_rfl) ?_
      intro QQ10 hQ10
      refine vc_cond_of (b := (decide (t10_3 < (List.length l_0 : Int)))) (by (simp only [go_sem]; done)) (fun hb_10 => ?_) (fun hb_10 => ?_)
      ·
        replace h := if_t h hb_10
        simp only [decide_eq_true_eq, decide_eq_false_iff_not, Bool.not_eq_true', Bool.not_eq_false', beq_iff_eq, beq_eq_false_iff_ne, ne_eq, Bool.and_eq_true, Bool.or_eq_true, Int.not_lt, Int.not_le] at hb_10
        refine vc_skip_of ?_
        refine seqQ_normal hQ10 ?_
        refine vc_join (by kernel_rfl) ?_
        refine seq_go_gen ?_
        intro QQ11 hQ11
        refine vc_block_gen ?_
        intro QQ12 hQ12
        refine vc_seq_gen (by kernel_rfl) ?_
        intro QQ13 hQ13
        obtain ⟨xv_5, exv_5, h⟩ := bindO_some h
        obtain ⟨fxv_5a, fxv_5b, fxv_5c⟩ := idx_spec exv_5
        simp only [go_sem, Try.ntmps14, Try.results14, fxv_5a, fxv_5b, fxv_5c]
        refine And.intro (by omega) ?_
        refine seqQ_normal hQ13 ?_
        refine vc_seq_gen (by kernel_rfl) ?_
        intro QQ14 hQ14
        simp only [go_sem, Try.ntmps14, Try.results14]
        refine seqQ_normal hQ14 ?_
        refine vc_cond_of (b := (xv_5.Node == node_0)) (by (simp only [go_sem]; done)) (fun hb_11 => ?_) (fun hb_11 => ?_)
        ·
          replace h := if_t h hb_11
          simp only [decide_eq_true_eq, decide_eq_false_iff_not, Bool.not_eq_true', Bool.not_eq_false', beq_iff_eq, beq_eq_false_iff_ne, ne_eq, Bool.and_eq_true, Bool.or_eq_true, Int.not_lt, Int.not_le] at hb_11
          have rf_8 : [[.v (.int .i64 xv_5.Epoch)]] = enc ([xv_5.Epoch] : List Int) := by rfl
          obtain ⟨g_6, h⟩ := guardO_some h
          simp only [List.length_cons, List.length_nil, Nat.zero_add, List.length_append] at g_6
          have rf_9 : enc a_4 ++ [[.v (.int .i64 xv_5.Epoch)]] = enc (a_4 ++ ([xv_5.Epoch] : List Int)) := by exact (enc_app a_4 ([xv_5.Epoch] : List Int)).symm
          simp only [go_sem, Try.ntmps14, Try.results14, g_6, rf_9]
          simp only [rf_8]
          refine blockQ_normal hQ12 ?_
          refine seqQ_normal hQ11 ?_
          simp only [go_sem, Try.ntmps14, Try.results14]
          refine thenQ_normal hQ8 ?_
          refine ⟨(m_2, IntKind.i64.wrap (t10_3 + 1), (a_4 ++ ([xv_5.Epoch] : List Int))), [some 3], ?_, h, Nat.lt_succ_self _⟩
          simp only [go_sem, Le] <;> (repeat' apply And.intro) <;> ((try with_reducible refine TL_eq ?_); (simp [go_sem]; done))
        ·
          replace h := if_f h hb_11
          simp only [decide_eq_true_eq, decide_eq_false_iff_not, Bool.not_eq_true', Bool.not_eq_false', beq_iff_eq, beq_eq_false_iff_ne, ne_eq, Bool.and_eq_true, Bool.or_eq_true, Int.not_lt, Int.not_le] at hb_11
          refine vc_skip_of ?_
          refine blockQ_normal hQ12 ?_
          refine seqQ_normal hQ11 ?_
          simp only [go_sem, Try.ntmps14, Try.results14]
          refine thenQ_normal hQ8 ?_
          refine ⟨(m_2, IntKind.i64.wrap (t10_3 + 1), a_4), [some 0], ?_, h, Nat.lt_succ_self _⟩
          simp only [go_sem, Le]
      ·
        replace h := if_f h hb_10
        simp only [decide_eq_true_eq, decide_eq_false_iff_not, Bool.not_eq_true', Bool.not_eq_false', beq_iff_eq, beq_eq_false_iff_ne, ne_eq, Bool.and_eq_true, Bool.or_eq_true, Int.not_lt, Int.not_le] at hb_10
        refine vc_exit_of ?_
        refine seqQ_exit hQ10 ?_
        refine thenQ_exit hQ8 ?_
        refine blockQ_exit hQ7 ?_
        refine thenQ_normal hQ5 ?_
        refine ⟨a_4, [some 0], ?_, h⟩
        simp only [go_sem, Le]
  · rintro a_2 h
    try dsimp only at h
    rw [f_query_Epochs_J1] at h
    refine vc_seq_gen (by kernel_rfl) ?_
    intro QQ3 hQ3
    obtain ⟨v_0, ev_0, h⟩ := bindO_some h
    simp only [go_sem, Try.ntmps14, Try.results14]
    refine callD [0] (f_slices_Sort_int_s0_0_det a_2 v_0 ev_0) (by simp) rfl ⟨rfl, trivial⟩ rfl rfl rfl rfl ?_
    obtain ⟨g_3, h⟩ := guardO_some h
    simp only [go_sem, Try.ntmps14, Try.results14, g_3]
    refine seqQ_normal hQ3 ?_
    refine vc_seq_gen (by kernel_rfl) ?_
    intro QQ4 hQ4
    obtain ⟨v_1, ev_1, h⟩ := bindO_some h
    simp only [go_sem, Try.ntmps14, Try.results14]
    refine callF_weak (s' := (⟨0, [(5, .osl 0 1 (0) (List.length v_0)), (24, .osl 0 1 (0) (List.length v_0)), (25, .tup []), (26, .osl 0 1 (0) (List.length v_0))], [(0, .arr 1 (enc v_0))], 1, 28⟩ : St)) (l := [some 0]) (args' := [.osl 0 1 (0) (List.length v_0)]) ?_ ?_ ?_
    · simp only [go_sem, Le] <;> (repeat' apply And.intro) <;> ((try with_reducible refine TL_eq ?_); omega)
    · simp only [go_sem, Le] <;> (repeat' apply And.intro) <;> ((try with_reducible refine TL_eq ?_); omega)
    refine callD [0] (f_slices_Compact_int_s0_0_det v_0 v_1 ev_1) (by simp) rfl ⟨rfl, trivial⟩ rfl rfl rfl rfl ?_
    simp only [go_sem, Try.ntmps14, Try.results14]
    refine seqQ_normal hQ4 ?_
    refine vc_ret_of ?_
    simp only [go_sem, Try.ntmps14, Try.results14]
    obtain rfl := Option.some.inj h
    refine retW_det [some 0] ?_
    simp only [go_sem, Le]
theorem f_query_Epochs_ok (l_0 : List GOut) (node_0 : Int)  (r : List Int) (h : f_query_Epochs l_0 node_0 = some r) : PureS Try.prog 14 [.sl 4 (enc l_0), .v (.int .i64 node_0)] 0 (.sl 1 (enc r)) := by
  refine (f_query_Epochs_det l_0 node_0  r h).pure ?_
  simp only [go_sem, Le] <;> (repeat' apply And.intro) <;> ((try with_reducible refine TL_eq ?_); (simp [go_sem]; done))
end Go.Proofs.Ythpahhhdapdcpaa

