/-
  What functions of the program compute, each told as a plain function that may give nothing, with the proof that the code does so. No condition beyond those that each theorem names.
-/
import Derived.Test.YthpahhhdapdcpaaLibD
import Derived.Test.YthpahhhdapdcpaaProg
import Derived.Test.YthpahhhdapdcpaaLibI
set_option linter.unusedSimpArgs false
set_option linter.unusedVariables false
set_option maxHeartbeats 2000000
set_option maxRecDepth 100000
namespace Go.Proofs.Ythpahhhdapdcpaa
open Go Go.RowKit
theorem ty2_sz : szT Try.prog 2 = 1 := by kernel_rfl
theorem ty2_has : hasT Try.prog 2 = true := by kernel_rfl
theorem ty2_agg : aggT Try.prog 2 = false := by kernel_rfl
theorem ty2_by : bytesT Try.prog 2 = 8 := by kernel_rfl
theorem ty2_k : kindT Try.prog 2 = some .i64 := by kernel_rfl
theorem ty2_n : nilsX Try.prog 2 = [none] := by kernel_rfl
theorem ty2_ar : arrayT Try.prog 2 = none := by kernel_rfl
theorem ty2_z : zeroL Try.prog 2 = some [.int .i64 0] := by kernel_rfl
theorem ty3_sz : szT Try.prog 3 = 1 := by kernel_rfl
theorem ty3_has : hasT Try.prog 3 = true := by kernel_rfl
theorem ty3_agg : aggT Try.prog 3 = false := by kernel_rfl
theorem ty3_by : bytesT Try.prog 3 = 8 := by kernel_rfl
theorem ty3_k : kindT Try.prog 3 = some .i64 := by kernel_rfl
theorem ty3_n : nilsX Try.prog 3 = [none] := by kernel_rfl
theorem ty3_ar : arrayT Try.prog 3 = none := by kernel_rfl
theorem ty3_z : zeroL Try.prog 3 = some [.int .i64 0] := by kernel_rfl
theorem ty4_sz : szT Try.prog 4 = 1 := by kernel_rfl
theorem ty4_has : hasT Try.prog 4 = true := by kernel_rfl
theorem ty4_agg : aggT Try.prog 4 = false := by kernel_rfl
theorem ty4_by : bytesT Try.prog 4 = 1 := by kernel_rfl
theorem ty4_u : Try.prog.underlying 4 = some .bool := by kernel_rfl
theorem ty4_n : nilsX Try.prog 4 = [none] := by kernel_rfl
theorem ty4_ar : arrayT Try.prog 4 = none := by kernel_rfl
theorem ty4_z : zeroL Try.prog 4 = some [.bool false] := by kernel_rfl
theorem ty5_sz : szT Try.prog 5 = 1 := by kernel_rfl
theorem ty5_has : hasT Try.prog 5 = true := by kernel_rfl
theorem ty5_agg : aggT Try.prog 5 = false := by kernel_rfl
theorem ty5_by : bytesT Try.prog 5 = 1 := by kernel_rfl
theorem ty5_k : kindT Try.prog 5 = some .u8 := by kernel_rfl
theorem ty5_n : nilsX Try.prog 5 = [none] := by kernel_rfl
theorem ty5_ar : arrayT Try.prog 5 = none := by kernel_rfl
theorem ty5_z : zeroL Try.prog 5 = some [.int .u8 0] := by kernel_rfl
theorem ty22_sz : szT Try.prog 22 = 1 := by kernel_rfl
theorem ty22_has : hasT Try.prog 22 = true := by kernel_rfl
theorem ty22_agg : aggT Try.prog 22 = false := by kernel_rfl
theorem ty22_by : bytesT Try.prog 22 = 24 := by kernel_rfl
theorem ty22_e : sliceT Try.prog 22 = some 104 := by kernel_rfl
theorem ty22_n : nilsX Try.prog 22 = [some 4] := by kernel_rfl
theorem ty22_ar : arrayT Try.prog 22 = none := by kernel_rfl
theorem ty22_z : zeroL Try.prog 22 = some [.slice none 0 0] := by kernel_rfl
theorem ty24_sz : szT Try.prog 24 = 1 := by kernel_rfl
theorem ty24_has : hasT Try.prog 24 = true := by kernel_rfl
theorem ty24_agg : aggT Try.prog 24 = false := by kernel_rfl
theorem ty24_by : bytesT Try.prog 24 = 24 := by kernel_rfl
theorem ty24_e : sliceT Try.prog 24 = some 3 := by kernel_rfl
theorem ty24_n : nilsX Try.prog 24 = [some 1] := by kernel_rfl
theorem ty24_ar : arrayT Try.prog 24 = none := by kernel_rfl
theorem ty24_z : zeroL Try.prog 24 = some [.slice none 0 0] := by kernel_rfl
theorem ty27_sz : szT Try.prog 27 = 1 := by kernel_rfl
theorem ty27_has : hasT Try.prog 27 = true := by kernel_rfl
theorem ty27_agg : aggT Try.prog 27 = false := by kernel_rfl
theorem ty27_by : bytesT Try.prog 27 = 24 := by kernel_rfl
theorem ty27_e : sliceT Try.prog 27 = some 107 := by kernel_rfl
theorem ty27_n : nilsX Try.prog 27 = [some 6] := by kernel_rfl
theorem ty27_ar : arrayT Try.prog 27 = none := by kernel_rfl
theorem ty27_z : zeroL Try.prog 27 = some [.slice none 0 0] := by kernel_rfl
theorem ty30_sz : szT Try.prog 30 = 1 := by kernel_rfl
theorem ty30_has : hasT Try.prog 30 = true := by kernel_rfl
theorem ty30_agg : aggT Try.prog 30 = false := by kernel_rfl
theorem ty30_by : bytesT Try.prog 30 = 24 := by kernel_rfl
theorem ty30_e : sliceT Try.prog 30 = some 198 := by kernel_rfl
theorem ty30_n : nilsX Try.prog 30 = [some 2] := by kernel_rfl
theorem ty30_ar : arrayT Try.prog 30 = none := by kernel_rfl
theorem ty30_z : zeroL Try.prog 30 = some [.slice none 0 0] := by kernel_rfl
theorem ty32_sz : szT Try.prog 32 = 4 := by kernel_rfl
theorem ty32_has : hasT Try.prog 32 = true := by kernel_rfl
theorem ty32_agg : aggT Try.prog 32 = true := by kernel_rfl
theorem ty32_by : bytesT Try.prog 32 = 48 := by kernel_rfl
theorem ty32_n : nilsX Try.prog 32 = [none, none, none, some 2] := by kernel_rfl
theorem ty32_ar : arrayT Try.prog 32 = none := by kernel_rfl
theorem ty32_f0 : fieldT Try.prog 32 0 = some (0, 3) := by kernel_rfl
theorem ty32_f1 : fieldT Try.prog 32 1 = some (1, 3) := by kernel_rfl
theorem ty32_f2 : fieldT Try.prog 32 2 = some (2, 2) := by kernel_rfl
theorem ty32_f3 : fieldT Try.prog 32 3 = some (3, 30) := by kernel_rfl
theorem ty32_pl : placesL Try.prog 32 = some [(0, 1), (1, 1), (2, 1), (3, 1)] := by kernel_rfl
theorem ty32_z : zeroL Try.prog 32 = some [.int .i64 0, .int .i64 0, .int .i64 0, .slice none 0 0] := by kernel_rfl
theorem ty33_sz : szT Try.prog 33 = 1 := by kernel_rfl
theorem ty33_has : hasT Try.prog 33 = true := by kernel_rfl
theorem ty33_agg : aggT Try.prog 33 = false := by kernel_rfl
theorem ty33_by : bytesT Try.prog 33 = 24 := by kernel_rfl
theorem ty33_e : sliceT Try.prog 33 = some 42 := by kernel_rfl
theorem ty33_n : nilsX Try.prog 33 = [some 3] := by kernel_rfl
theorem ty33_ar : arrayT Try.prog 33 = none := by kernel_rfl
theorem ty33_z : zeroL Try.prog 33 = some [.slice none 0 0] := by kernel_rfl
theorem ty35_sz : szT Try.prog 35 = 1 := by kernel_rfl
theorem ty35_has : hasT Try.prog 35 = true := by kernel_rfl
theorem ty35_agg : aggT Try.prog 35 = false := by kernel_rfl
theorem ty35_by : bytesT Try.prog 35 = 24 := by kernel_rfl
theorem ty35_e : sliceT Try.prog 35 = some 33 := by kernel_rfl
theorem ty35_n : nilsX Try.prog 35 = [some 1] := by kernel_rfl
theorem ty35_ar : arrayT Try.prog 35 = none := by kernel_rfl
theorem ty35_z : zeroL Try.prog 35 = some [.slice none 0 0] := by kernel_rfl
theorem ty40_sz : szT Try.prog 40 = 2 := by kernel_rfl
theorem ty40_has : hasT Try.prog 40 = true := by kernel_rfl
theorem ty40_agg : aggT Try.prog 40 = true := by kernel_rfl
theorem ty40_by : bytesT Try.prog 40 = 16 := by kernel_rfl
theorem ty40_n : nilsX Try.prog 40 = [none, none] := by kernel_rfl
theorem ty40_ar : arrayT Try.prog 40 = none := by kernel_rfl
theorem ty40_f0 : fieldT Try.prog 40 0 = some (0, 2) := by kernel_rfl
theorem ty40_f1 : fieldT Try.prog 40 1 = some (1, 2) := by kernel_rfl
theorem ty40_pl : placesL Try.prog 40 = some [(0, 1), (1, 1)] := by kernel_rfl
theorem ty40_z : zeroL Try.prog 40 = some [.int .i64 0, .int .i64 0] := by kernel_rfl
theorem ty42_sz : szT Try.prog 42 = 3 := by kernel_rfl
theorem ty42_has : hasT Try.prog 42 = true := by kernel_rfl
theorem ty42_agg : aggT Try.prog 42 = true := by kernel_rfl
theorem ty42_by : bytesT Try.prog 42 = 24 := by kernel_rfl
theorem ty42_n : nilsX Try.prog 42 = [none, none, none] := by kernel_rfl
theorem ty42_ar : arrayT Try.prog 42 = none := by kernel_rfl
theorem ty42_f0 : fieldT Try.prog 42 0 = some (0, 40) := by kernel_rfl
theorem ty42_f1 : fieldT Try.prog 42 1 = some (2, 3) := by kernel_rfl
theorem ty42_pl : placesL Try.prog 42 = some [(0, 2), (2, 1)] := by kernel_rfl
theorem ty42_z : zeroL Try.prog 42 = some [.int .i64 0, .int .i64 0, .int .i64 0] := by kernel_rfl
theorem ty46_sz : szT Try.prog 46 = 1 := by kernel_rfl
theorem ty46_has : hasT Try.prog 46 = true := by kernel_rfl
theorem ty46_agg : aggT Try.prog 46 = false := by kernel_rfl
theorem ty46_by : bytesT Try.prog 46 = 24 := by kernel_rfl
theorem ty46_e : sliceT Try.prog 46 = some 40 := by kernel_rfl
theorem ty46_n : nilsX Try.prog 46 = [some 2] := by kernel_rfl
theorem ty46_ar : arrayT Try.prog 46 = none := by kernel_rfl
theorem ty46_z : zeroL Try.prog 46 = some [.slice none 0 0] := by kernel_rfl
theorem ty69_sz : szT Try.prog 69 = 1 := by kernel_rfl
theorem ty69_has : hasT Try.prog 69 = true := by kernel_rfl
theorem ty69_agg : aggT Try.prog 69 = false := by kernel_rfl
theorem ty69_by : bytesT Try.prog 69 = 24 := by kernel_rfl
theorem ty69_e : sliceT Try.prog 69 = some 82 := by kernel_rfl
theorem ty69_n : nilsX Try.prog 69 = [some 10] := by kernel_rfl
theorem ty69_ar : arrayT Try.prog 69 = none := by kernel_rfl
theorem ty69_z : zeroL Try.prog 69 = some [.slice none 0 0] := by kernel_rfl
theorem ty70_sz : szT Try.prog 70 = 4 := by kernel_rfl
theorem ty70_has : hasT Try.prog 70 = true := by kernel_rfl
theorem ty70_agg : aggT Try.prog 70 = true := by kernel_rfl
theorem ty70_by : bytesT Try.prog 70 = 32 := by kernel_rfl
theorem ty70_n : nilsX Try.prog 70 = [none, none, none, none] := by kernel_rfl
theorem ty70_ar : arrayT Try.prog 70 = some (4, 3) := by kernel_rfl
theorem ty70_pl : placesL Try.prog 70 = some [(0, 1), (1, 1), (2, 1), (3, 1)] := by kernel_rfl
theorem ty70_z : zeroL Try.prog 70 = some [.int .i64 0, .int .i64 0, .int .i64 0, .int .i64 0] := by kernel_rfl
theorem ty72_sz : szT Try.prog 72 = 5 := by kernel_rfl
theorem ty72_has : hasT Try.prog 72 = true := by kernel_rfl
theorem ty72_agg : aggT Try.prog 72 = true := by kernel_rfl
theorem ty72_by : bytesT Try.prog 72 = 40 := by kernel_rfl
theorem ty72_n : nilsX Try.prog 72 = [none, none, none, none, none] := by kernel_rfl
theorem ty72_ar : arrayT Try.prog 72 = none := by kernel_rfl
theorem ty72_f0 : fieldT Try.prog 72 0 = some (0, 3) := by kernel_rfl
theorem ty72_f1 : fieldT Try.prog 72 1 = some (1, 70) := by kernel_rfl
theorem ty72_pl : placesL Try.prog 72 = some [(0, 1), (1, 4)] := by kernel_rfl
theorem ty72_z : zeroL Try.prog 72 = some [.int .i64 0, .int .i64 0, .int .i64 0, .int .i64 0, .int .i64 0] := by kernel_rfl
theorem ty73_sz : szT Try.prog 73 = 1 := by kernel_rfl
theorem ty73_has : hasT Try.prog 73 = true := by kernel_rfl
theorem ty73_agg : aggT Try.prog 73 = false := by kernel_rfl
theorem ty73_by : bytesT Try.prog 73 = 1 := by kernel_rfl
theorem ty73_k : kindT Try.prog 73 = some .i8 := by kernel_rfl
theorem ty73_n : nilsX Try.prog 73 = [none] := by kernel_rfl
theorem ty73_ar : arrayT Try.prog 73 = none := by kernel_rfl
theorem ty73_z : zeroL Try.prog 73 = some [.int .i8 0] := by kernel_rfl
theorem ty78_sz : szT Try.prog 78 = 1 := by kernel_rfl
theorem ty78_has : hasT Try.prog 78 = true := by kernel_rfl
theorem ty78_agg : aggT Try.prog 78 = false := by kernel_rfl
theorem ty78_by : bytesT Try.prog 78 = 24 := by kernel_rfl
theorem ty78_e : sliceT Try.prog 78 = some 72 := by kernel_rfl
theorem ty78_n : nilsX Try.prog 78 = [some 5] := by kernel_rfl
theorem ty78_ar : arrayT Try.prog 78 = none := by kernel_rfl
theorem ty78_z : zeroL Try.prog 78 = some [.slice none 0 0] := by kernel_rfl
theorem ty80_sz : szT Try.prog 80 = 2 := by kernel_rfl
theorem ty80_has : hasT Try.prog 80 = true := by kernel_rfl
theorem ty80_agg : aggT Try.prog 80 = true := by kernel_rfl
theorem ty80_by : bytesT Try.prog 80 = 48 := by kernel_rfl
theorem ty80_n : nilsX Try.prog 80 = [some 3, some 3] := by kernel_rfl
theorem ty80_ar : arrayT Try.prog 80 = some (2, 33) := by kernel_rfl
theorem ty80_pl : placesL Try.prog 80 = some [(0, 1), (1, 1)] := by kernel_rfl
theorem ty80_z : zeroL Try.prog 80 = some [.slice none 0 0, .slice none 0 0] := by kernel_rfl
theorem ty82_sz : szT Try.prog 82 = 10 := by kernel_rfl
theorem ty82_has : hasT Try.prog 82 = true := by kernel_rfl
theorem ty82_agg : aggT Try.prog 82 = true := by kernel_rfl
theorem ty82_by : bytesT Try.prog 82 = 120 := by kernel_rfl
theorem ty82_n : nilsX Try.prog 82 = [none, none, none, none, none, some 3, some 3, some 3, none, none] := by kernel_rfl
theorem ty82_ar : arrayT Try.prog 82 = none := by kernel_rfl
theorem ty82_f0 : fieldT Try.prog 82 0 = some (0, 72) := by kernel_rfl
theorem ty82_f1 : fieldT Try.prog 82 1 = some (5, 80) := by kernel_rfl
theorem ty82_f2 : fieldT Try.prog 82 2 = some (7, 33) := by kernel_rfl
theorem ty82_f3 : fieldT Try.prog 82 3 = some (8, 4) := by kernel_rfl
theorem ty82_f4 : fieldT Try.prog 82 4 = some (9, 4) := by kernel_rfl
theorem ty82_pl : placesL Try.prog 82 = some [(0, 5), (5, 2), (7, 1), (8, 1), (9, 1)] := by kernel_rfl
theorem ty82_z : zeroL Try.prog 82 = some [.int .i64 0, .int .i64 0, .int .i64 0, .int .i64 0, .int .i64 0, .slice none 0 0, .slice none 0 0, .slice none 0 0, .bool false, .bool false] := by kernel_rfl
theorem ty90_sz : szT Try.prog 90 = 1 := by kernel_rfl
theorem ty90_has : hasT Try.prog 90 = true := by kernel_rfl
theorem ty90_agg : aggT Try.prog 90 = false := by kernel_rfl
theorem ty90_by : bytesT Try.prog 90 = 24 := by kernel_rfl
theorem ty90_e : sliceT Try.prog 90 = some 93 := by kernel_rfl
theorem ty90_n : nilsX Try.prog 90 = [some 10] := by kernel_rfl
theorem ty90_ar : arrayT Try.prog 90 = none := by kernel_rfl
theorem ty90_z : zeroL Try.prog 90 = some [.slice none 0 0] := by kernel_rfl
theorem ty91_sz : szT Try.prog 91 = 1 := by kernel_rfl
theorem ty91_has : hasT Try.prog 91 = true := by kernel_rfl
theorem ty91_agg : aggT Try.prog 91 = false := by kernel_rfl
theorem ty91_by : bytesT Try.prog 91 = 24 := by kernel_rfl
theorem ty91_e : sliceT Try.prog 91 = some 100 := by kernel_rfl
theorem ty91_n : nilsX Try.prog 91 = [some 7] := by kernel_rfl
theorem ty91_ar : arrayT Try.prog 91 = none := by kernel_rfl
theorem ty91_z : zeroL Try.prog 91 = some [.slice none 0 0] := by kernel_rfl
theorem ty93_sz : szT Try.prog 93 = 10 := by kernel_rfl
theorem ty93_has : hasT Try.prog 93 = true := by kernel_rfl
theorem ty93_agg : aggT Try.prog 93 = true := by kernel_rfl
theorem ty93_by : bytesT Try.prog 93 = 72 := by kernel_rfl
theorem ty93_n : nilsX Try.prog 93 = [none, none, none, none, none, none, none, none, none, none] := by kernel_rfl
theorem ty93_ar : arrayT Try.prog 93 = none := by kernel_rfl
theorem ty93_f0 : fieldT Try.prog 93 0 = some (0, 4) := by kernel_rfl
theorem ty93_f1 : fieldT Try.prog 93 1 = some (1, 5) := by kernel_rfl
theorem ty93_f2 : fieldT Try.prog 93 2 = some (2, 72) := by kernel_rfl
theorem ty93_f3 : fieldT Try.prog 93 3 = some (7, 40) := by kernel_rfl
theorem ty93_f4 : fieldT Try.prog 93 4 = some (9, 73) := by kernel_rfl
theorem ty93_pl : placesL Try.prog 93 = some [(0, 1), (1, 1), (2, 5), (7, 2), (9, 1)] := by kernel_rfl
theorem ty93_z : zeroL Try.prog 93 = some [.bool false, .int .u8 0, .int .i64 0, .int .i64 0, .int .i64 0, .int .i64 0, .int .i64 0, .int .i64 0, .int .i64 0, .int .i8 0] := by kernel_rfl
theorem ty100_sz : szT Try.prog 100 = 7 := by kernel_rfl
theorem ty100_has : hasT Try.prog 100 = true := by kernel_rfl
theorem ty100_agg : aggT Try.prog 100 = true := by kernel_rfl
theorem ty100_by : bytesT Try.prog 100 = 88 := by kernel_rfl
theorem ty100_n : nilsX Try.prog 100 = [none, none, none, none, none, some 3, some 3] := by kernel_rfl
theorem ty100_ar : arrayT Try.prog 100 = none := by kernel_rfl
theorem ty100_f0 : fieldT Try.prog 100 0 = some (0, 72) := by kernel_rfl
theorem ty100_f1 : fieldT Try.prog 100 1 = some (5, 80) := by kernel_rfl
theorem ty100_pl : placesL Try.prog 100 = some [(0, 5), (5, 2)] := by kernel_rfl
theorem ty100_z : zeroL Try.prog 100 = some [.int .i64 0, .int .i64 0, .int .i64 0, .int .i64 0, .int .i64 0, .slice none 0 0, .slice none 0 0] := by kernel_rfl
theorem ty104_sz : szT Try.prog 104 = 4 := by kernel_rfl
theorem ty104_has : hasT Try.prog 104 = true := by kernel_rfl
theorem ty104_agg : aggT Try.prog 104 = true := by kernel_rfl
theorem ty104_by : bytesT Try.prog 104 = 32 := by kernel_rfl
theorem ty104_n : nilsX Try.prog 104 = [none, none, none, none] := by kernel_rfl
theorem ty104_ar : arrayT Try.prog 104 = none := by kernel_rfl
theorem ty104_f0 : fieldT Try.prog 104 0 = some (0, 3) := by kernel_rfl
theorem ty104_f1 : fieldT Try.prog 104 1 = some (1, 3) := by kernel_rfl
theorem ty104_f2 : fieldT Try.prog 104 2 = some (2, 40) := by kernel_rfl
theorem ty104_pl : placesL Try.prog 104 = some [(0, 1), (1, 1), (2, 2)] := by kernel_rfl
theorem ty104_z : zeroL Try.prog 104 = some [.int .i64 0, .int .i64 0, .int .i64 0, .int .i64 0] := by kernel_rfl
theorem ty107_sz : szT Try.prog 107 = 6 := by kernel_rfl
theorem ty107_has : hasT Try.prog 107 = true := by kernel_rfl
theorem ty107_agg : aggT Try.prog 107 = true := by kernel_rfl
theorem ty107_by : bytesT Try.prog 107 = 48 := by kernel_rfl
theorem ty107_n : nilsX Try.prog 107 = [none, none, none, none, none, none] := by kernel_rfl
theorem ty107_ar : arrayT Try.prog 107 = none := by kernel_rfl
theorem ty107_f0 : fieldT Try.prog 107 0 = some (0, 2) := by kernel_rfl
theorem ty107_f1 : fieldT Try.prog 107 1 = some (1, 3) := by kernel_rfl
theorem ty107_f2 : fieldT Try.prog 107 2 = some (2, 2) := by kernel_rfl
theorem ty107_f3 : fieldT Try.prog 107 3 = some (3, 2) := by kernel_rfl
theorem ty107_f4 : fieldT Try.prog 107 4 = some (4, 2) := by kernel_rfl
theorem ty107_f5 : fieldT Try.prog 107 5 = some (5, 4) := by kernel_rfl
theorem ty107_pl : placesL Try.prog 107 = some [(0, 1), (1, 1), (2, 1), (3, 1), (4, 1), (5, 1)] := by kernel_rfl
theorem ty107_z : zeroL Try.prog 107 = some [.int .i64 0, .int .i64 0, .int .i64 0, .int .i64 0, .int .i64 0, .bool false] := by kernel_rfl
theorem ty113_sz : szT Try.prog 113 = 1 := by kernel_rfl
theorem ty113_has : hasT Try.prog 113 = true := by kernel_rfl
theorem ty113_agg : aggT Try.prog 113 = false := by kernel_rfl
theorem ty113_by : bytesT Try.prog 113 = 8 := by kernel_rfl
theorem ty113_n : nilsX Try.prog 113 = [none] := by kernel_rfl
theorem ty113_ar : arrayT Try.prog 113 = none := by kernel_rfl
theorem ty113_z : zeroL Try.prog 113 = some [.nilFunc] := by kernel_rfl
theorem ty114_sz : szT Try.prog 114 = 1 := by kernel_rfl
theorem ty114_has : hasT Try.prog 114 = true := by kernel_rfl
theorem ty114_agg : aggT Try.prog 114 = false := by kernel_rfl
theorem ty114_by : bytesT Try.prog 114 = 8 := by kernel_rfl
theorem ty114_n : nilsX Try.prog 114 = [none] := by kernel_rfl
theorem ty114_ar : arrayT Try.prog 114 = none := by kernel_rfl
theorem ty114_z : zeroL Try.prog 114 = some [.pointer none] := by kernel_rfl
theorem ty115_sz : szT Try.prog 115 = 1 := by kernel_rfl
theorem ty115_has : hasT Try.prog 115 = true := by kernel_rfl
theorem ty115_agg : aggT Try.prog 115 = false := by kernel_rfl
theorem ty115_by : bytesT Try.prog 115 = 8 := by kernel_rfl
theorem ty115_k : kindT Try.prog 115 = some .u64 := by kernel_rfl
theorem ty115_n : nilsX Try.prog 115 = [none] := by kernel_rfl
theorem ty115_ar : arrayT Try.prog 115 = none := by kernel_rfl
theorem ty115_z : zeroL Try.prog 115 = some [.int .u64 0] := by kernel_rfl
theorem ty117_sz : szT Try.prog 117 = 2 := by kernel_rfl
theorem ty117_has : hasT Try.prog 117 = true := by kernel_rfl
theorem ty117_agg : aggT Try.prog 117 = true := by kernel_rfl
theorem ty117_by : bytesT Try.prog 117 = 16 := by kernel_rfl
theorem ty117_n : nilsX Try.prog 117 = [none, none] := by kernel_rfl
theorem ty117_ar : arrayT Try.prog 117 = none := by kernel_rfl
theorem ty117_f0 : fieldT Try.prog 117 0 = some (0, 2) := by kernel_rfl
theorem ty117_f1 : fieldT Try.prog 117 1 = some (1, 115) := by kernel_rfl
theorem ty117_pl : placesL Try.prog 117 = some [(0, 1), (1, 1)] := by kernel_rfl
theorem ty117_z : zeroL Try.prog 117 = some [.int .i64 0, .int .u64 0] := by kernel_rfl
theorem ty119_sz : szT Try.prog 119 = 8 := by kernel_rfl
theorem ty119_has : hasT Try.prog 119 = true := by kernel_rfl
theorem ty119_agg : aggT Try.prog 119 = true := by kernel_rfl
theorem ty119_by : bytesT Try.prog 119 = 64 := by kernel_rfl
theorem ty119_n : nilsX Try.prog 119 = [none, none, none, none, none, none, none, none] := by kernel_rfl
theorem ty119_ar : arrayT Try.prog 119 = none := by kernel_rfl
theorem ty119_f0 : fieldT Try.prog 119 0 = some (0, 107) := by kernel_rfl
theorem ty119_f1 : fieldT Try.prog 119 1 = some (6, 117) := by kernel_rfl
theorem ty119_pl : placesL Try.prog 119 = some [(0, 6), (6, 2)] := by kernel_rfl
theorem ty119_z : zeroL Try.prog 119 = some [.int .i64 0, .int .i64 0, .int .i64 0, .int .i64 0, .int .i64 0, .bool false, .int .i64 0, .int .u64 0] := by kernel_rfl
theorem ty125_sz : szT Try.prog 125 = 1 := by kernel_rfl
theorem ty125_has : hasT Try.prog 125 = true := by kernel_rfl
theorem ty125_agg : aggT Try.prog 125 = false := by kernel_rfl
theorem ty125_by : bytesT Try.prog 125 = 8 := by kernel_rfl
theorem ty125_n : nilsX Try.prog 125 = [none] := by kernel_rfl
theorem ty125_ar : arrayT Try.prog 125 = none := by kernel_rfl
theorem ty125_z : zeroL Try.prog 125 = some [.pointer none] := by kernel_rfl
theorem ty127_sz : szT Try.prog 127 = 2 := by kernel_rfl
theorem ty127_has : hasT Try.prog 127 = true := by kernel_rfl
theorem ty127_agg : aggT Try.prog 127 = true := by kernel_rfl
theorem ty127_by : bytesT Try.prog 127 = 32 := by kernel_rfl
theorem ty127_n : nilsX Try.prog 127 = [some 3, none] := by kernel_rfl
theorem ty127_ar : arrayT Try.prog 127 = none := by kernel_rfl
theorem ty127_f0 : fieldT Try.prog 127 0 = some (0, 33) := by kernel_rfl
theorem ty127_f1 : fieldT Try.prog 127 1 = some (1, 3) := by kernel_rfl
theorem ty127_pl : placesL Try.prog 127 = some [(0, 1), (1, 1)] := by kernel_rfl
theorem ty127_z : zeroL Try.prog 127 = some [.slice none 0 0, .int .i64 0] := by kernel_rfl
theorem ty170_sz : szT Try.prog 170 = 1 := by kernel_rfl
theorem ty170_has : hasT Try.prog 170 = true := by kernel_rfl
theorem ty170_agg : aggT Try.prog 170 = false := by kernel_rfl
theorem ty170_by : bytesT Try.prog 170 = 8 := by kernel_rfl
theorem ty170_n : nilsX Try.prog 170 = [none] := by kernel_rfl
theorem ty170_ar : arrayT Try.prog 170 = none := by kernel_rfl
theorem ty170_z : zeroL Try.prog 170 = some [.nilFunc] := by kernel_rfl
theorem ty173_sz : szT Try.prog 173 = 1 := by kernel_rfl
theorem ty173_has : hasT Try.prog 173 = true := by kernel_rfl
theorem ty173_agg : aggT Try.prog 173 = false := by kernel_rfl
theorem ty173_by : bytesT Try.prog 173 = 8 := by kernel_rfl
theorem ty173_k : kindT Try.prog 173 = some .u64 := by kernel_rfl
theorem ty173_n : nilsX Try.prog 173 = [none] := by kernel_rfl
theorem ty173_ar : arrayT Try.prog 173 = none := by kernel_rfl
theorem ty173_z : zeroL Try.prog 173 = some [.int .u64 0] := by kernel_rfl
theorem ty181_sz : szT Try.prog 181 = 1 := by kernel_rfl
theorem ty181_has : hasT Try.prog 181 = true := by kernel_rfl
theorem ty181_agg : aggT Try.prog 181 = false := by kernel_rfl
theorem ty181_by : bytesT Try.prog 181 = 8 := by kernel_rfl
theorem ty181_n : nilsX Try.prog 181 = [none] := by kernel_rfl
theorem ty181_ar : arrayT Try.prog 181 = none := by kernel_rfl
theorem ty181_z : zeroL Try.prog 181 = some [.nilFunc] := by kernel_rfl
theorem ty183_sz : szT Try.prog 183 = 2 := by kernel_rfl
theorem ty183_has : hasT Try.prog 183 = true := by kernel_rfl
theorem ty183_agg : aggT Try.prog 183 = true := by kernel_rfl
theorem ty183_by : bytesT Try.prog 183 = 16 := by kernel_rfl
theorem ty183_n : nilsX Try.prog 183 = [none, none] := by kernel_rfl
theorem ty183_ar : arrayT Try.prog 183 = none := by kernel_rfl
theorem ty183_f0 : fieldT Try.prog 183 0 = some (0, 2) := by kernel_rfl
theorem ty183_f1 : fieldT Try.prog 183 1 = some (1, 115) := by kernel_rfl
theorem ty183_pl : placesL Try.prog 183 = some [(0, 1), (1, 1)] := by kernel_rfl
theorem ty183_z : zeroL Try.prog 183 = some [.int .i64 0, .int .u64 0] := by kernel_rfl
theorem ty187_sz : szT Try.prog 187 = 1 := by kernel_rfl
theorem ty187_has : hasT Try.prog 187 = true := by kernel_rfl
theorem ty187_agg : aggT Try.prog 187 = false := by kernel_rfl
theorem ty187_by : bytesT Try.prog 187 = 8 := by kernel_rfl
theorem ty187_n : nilsX Try.prog 187 = [none] := by kernel_rfl
theorem ty187_ar : arrayT Try.prog 187 = none := by kernel_rfl
theorem ty187_z : zeroL Try.prog 187 = some [.nilFunc] := by kernel_rfl
theorem ty198_sz : szT Try.prog 198 = 2 := by kernel_rfl
theorem ty198_has : hasT Try.prog 198 = true := by kernel_rfl
theorem ty198_agg : aggT Try.prog 198 = true := by kernel_rfl
theorem ty198_by : bytesT Try.prog 198 = 16 := by kernel_rfl
theorem ty198_n : nilsX Try.prog 198 = [none, none] := by kernel_rfl
theorem ty198_ar : arrayT Try.prog 198 = none := by kernel_rfl
theorem ty198_f0 : fieldT Try.prog 198 0 = some (0, 3) := by kernel_rfl
theorem ty198_f1 : fieldT Try.prog 198 1 = some (1, 2) := by kernel_rfl
theorem ty198_pl : placesL Try.prog 198 = some [(0, 1), (1, 1)] := by kernel_rfl
theorem ty198_z : zeroL Try.prog 198 = some [.int .i64 0, .int .i64 0] := by kernel_rfl
theorem ty219_sz : szT Try.prog 219 = 1 := by kernel_rfl
theorem ty219_has : hasT Try.prog 219 = true := by kernel_rfl
theorem ty219_agg : aggT Try.prog 219 = false := by kernel_rfl
theorem ty219_by : bytesT Try.prog 219 = 8 := by kernel_rfl
theorem ty219_n : nilsX Try.prog 219 = [none] := by kernel_rfl
theorem ty219_ar : arrayT Try.prog 219 = none := by kernel_rfl
theorem ty219_z : zeroL Try.prog 219 = some [.nilFunc] := by kernel_rfl
theorem ty263_sz : szT Try.prog 263 = 1 := by kernel_rfl
theorem ty263_has : hasT Try.prog 263 = true := by kernel_rfl
theorem ty263_agg : aggT Try.prog 263 = false := by kernel_rfl
theorem ty263_by : bytesT Try.prog 263 = 8 := by kernel_rfl
theorem ty263_n : nilsX Try.prog 263 = [none] := by kernel_rfl
theorem ty263_ar : arrayT Try.prog 263 = none := by kernel_rfl
theorem ty263_z : zeroL Try.prog 263 = some [.pointer none] := by kernel_rfl
theorem ty264_sz : szT Try.prog 264 = 1 := by kernel_rfl
theorem ty264_has : hasT Try.prog 264 = true := by kernel_rfl
theorem ty264_agg : aggT Try.prog 264 = false := by kernel_rfl
theorem ty264_by : bytesT Try.prog 264 = 24 := by kernel_rfl
theorem ty264_e : sliceT Try.prog 264 = some 2 := by kernel_rfl
theorem ty264_n : nilsX Try.prog 264 = [some 1] := by kernel_rfl
theorem ty264_ar : arrayT Try.prog 264 = none := by kernel_rfl
theorem ty264_z : zeroL Try.prog 264 = some [.slice none 0 0] := by kernel_rfl
theorem ty266_sz : szT Try.prog 266 = 6 := by kernel_rfl
theorem ty266_has : hasT Try.prog 266 = true := by kernel_rfl
theorem ty266_agg : aggT Try.prog 266 = true := by kernel_rfl
theorem ty266_by : bytesT Try.prog 266 = 80 := by kernel_rfl
theorem ty266_n : nilsX Try.prog 266 = [none, none, some 1, some 2, none, none] := by kernel_rfl
theorem ty266_ar : arrayT Try.prog 266 = none := by kernel_rfl
theorem ty266_f0 : fieldT Try.prog 266 0 = some (0, 40) := by kernel_rfl
theorem ty266_f1 : fieldT Try.prog 266 1 = some (2, 264) := by kernel_rfl
theorem ty266_f2 : fieldT Try.prog 266 2 = some (3, 46) := by kernel_rfl
theorem ty266_f3 : fieldT Try.prog 266 3 = some (4, 3) := by kernel_rfl
theorem ty266_f4 : fieldT Try.prog 266 4 = some (5, 3) := by kernel_rfl
theorem ty266_pl : placesL Try.prog 266 = some [(0, 2), (2, 1), (3, 1), (4, 1), (5, 1)] := by kernel_rfl
theorem ty266_z : zeroL Try.prog 266 = some [.int .i64 0, .int .i64 0, .slice none 0 0, .slice none 0 0, .int .i64 0, .int .i64 0] := by kernel_rfl
theorem en3 : entB Try.prog 3 = true := by kernel_rfl
theorem en4 : entB Try.prog 4 = true := by kernel_rfl
theorem en5 : entB Try.prog 5 = true := by kernel_rfl
theorem en6 : entB Try.prog 6 = true := by kernel_rfl
theorem en7 : entB Try.prog 7 = true := by kernel_rfl
theorem en10 : entB Try.prog 10 = true := by kernel_rfl
theorem en11 : entB Try.prog 11 = true := by kernel_rfl
theorem en12 : entB Try.prog 12 = true := by kernel_rfl
theorem en13 : entB Try.prog 13 = true := by kernel_rfl
theorem en14 : entB Try.prog 14 = true := by kernel_rfl
theorem en15 : entB Try.prog 15 = true := by kernel_rfl
theorem en16 : entB Try.prog 16 = true := by kernel_rfl
theorem en17 : entB Try.prog 17 = true := by kernel_rfl
theorem en18 : entB Try.prog 18 = true := by kernel_rfl
theorem en19 : entB Try.prog 19 = true := by kernel_rfl
theorem en20 : entB Try.prog 20 = true := by kernel_rfl
theorem en21 : entB Try.prog 21 = true := by kernel_rfl
theorem en22 : entB Try.prog 22 = true := by kernel_rfl
theorem en23 : entB Try.prog 23 = true := by kernel_rfl
theorem en24 : entB Try.prog 24 = true := by kernel_rfl
theorem en25 : entB Try.prog 25 = true := by kernel_rfl
theorem en26 : entB Try.prog 26 = true := by kernel_rfl
theorem en27 : entB Try.prog 27 = true := by kernel_rfl
theorem en28 : entB Try.prog 28 = true := by kernel_rfl
theorem en35 : entB Try.prog 35 = true := by kernel_rfl
theorem en36 : entB Try.prog 36 = true := by kernel_rfl
theorem en37 : entB Try.prog 37 = true := by kernel_rfl
theorem en38 : entB Try.prog 38 = true := by kernel_rfl
theorem en39 : entB Try.prog 39 = true := by kernel_rfl
theorem en40 : entB Try.prog 40 = true := by kernel_rfl
theorem en41 : entB Try.prog 41 = true := by kernel_rfl
theorem en42 : entB Try.prog 42 = true := by kernel_rfl
theorem en43 : entB Try.prog 43 = true := by kernel_rfl
theorem en44 : entB Try.prog 44 = true := by kernel_rfl
theorem en45 : entB Try.prog 45 = true := by kernel_rfl
theorem en46 : entB Try.prog 46 = true := by kernel_rfl
theorem en47 : entB Try.prog 47 = true := by kernel_rfl
theorem en48 : entB Try.prog 48 = true := by kernel_rfl
theorem en49 : entB Try.prog 49 = true := by kernel_rfl
theorem en50 : entB Try.prog 50 = true := by kernel_rfl
theorem en51 : entB Try.prog 51 = true := by kernel_rfl
theorem en52 : entB Try.prog 52 = true := by kernel_rfl
theorem en53 : entB Try.prog 53 = true := by kernel_rfl
theorem en54 : entB Try.prog 54 = true := by kernel_rfl
theorem en55 : entB Try.prog 55 = true := by kernel_rfl
theorem en56 : entB Try.prog 56 = true := by kernel_rfl
theorem en57 : entB Try.prog 57 = true := by kernel_rfl
theorem en58 : entB Try.prog 58 = true := by kernel_rfl
theorem en59 : entB Try.prog 59 = true := by kernel_rfl
theorem en60 : entB Try.prog 60 = true := by kernel_rfl
theorem en61 : entB Try.prog 61 = true := by kernel_rfl
theorem en62 : entB Try.prog 62 = true := by kernel_rfl
theorem en63 : entB Try.prog 63 = true := by kernel_rfl
theorem en64 : entB Try.prog 64 = true := by kernel_rfl
theorem en65 : entB Try.prog 65 = true := by kernel_rfl
theorem en66 : entB Try.prog 66 = true := by kernel_rfl
theorem en67 : entB Try.prog 67 = true := by kernel_rfl
theorem en68 : entB Try.prog 68 = true := by kernel_rfl
theorem en69 : entB Try.prog 69 = true := by kernel_rfl
theorem en70 : entB Try.prog 70 = true := by kernel_rfl
theorem en71 : entB Try.prog 71 = true := by kernel_rfl
theorem en72 : entB Try.prog 72 = true := by kernel_rfl
theorem en73 : entB Try.prog 73 = true := by kernel_rfl
theorem en74 : entB Try.prog 74 = true := by kernel_rfl
theorem en75 : entB Try.prog 75 = true := by kernel_rfl
theorem en89 : entB Try.prog 89 = true := by kernel_rfl
theorem en90 : entB Try.prog 90 = true := by kernel_rfl
theorem en91 : entB Try.prog 91 = true := by kernel_rfl
theorem en92 : entB Try.prog 92 = true := by kernel_rfl
theorem en93 : entB Try.prog 93 = true := by kernel_rfl
theorem en94 : entB Try.prog 94 = true := by kernel_rfl
theorem en95 : entB Try.prog 95 = true := by kernel_rfl
theorem en96 : entB Try.prog 96 = true := by kernel_rfl
theorem en97 : entB Try.prog 97 = true := by kernel_rfl
theorem en98 : entB Try.prog 98 = true := by kernel_rfl
theorem en99 : entB Try.prog 99 = true := by kernel_rfl
theorem en100 : entB Try.prog 100 = true := by kernel_rfl
theorem en101 : entB Try.prog 101 = true := by kernel_rfl
theorem en102 : entB Try.prog 102 = true := by kernel_rfl
theorem en103 : entB Try.prog 103 = true := by kernel_rfl
theorem en104 : entB Try.prog 104 = true := by kernel_rfl
theorem en105 : entB Try.prog 105 = true := by kernel_rfl
theorem en106 : entB Try.prog 106 = true := by kernel_rfl
theorem en107 : entB Try.prog 107 = true := by kernel_rfl
theorem en108 : entB Try.prog 108 = true := by kernel_rfl
theorem en109 : entB Try.prog 109 = true := by kernel_rfl
theorem en110 : entB Try.prog 110 = true := by kernel_rfl
theorem en111 : entB Try.prog 111 = true := by kernel_rfl
theorem en112 : entB Try.prog 112 = true := by kernel_rfl
theorem en116 : entB Try.prog 116 = true := by kernel_rfl
theorem en117 : entB Try.prog 117 = true := by kernel_rfl
theorem en118 : entB Try.prog 118 = true := by kernel_rfl
theorem en119 : entB Try.prog 119 = true := by kernel_rfl
theorem en120 : entB Try.prog 120 = true := by kernel_rfl
theorem en121 : entB Try.prog 121 = true := by kernel_rfl
theorem en122 : entB Try.prog 122 = true := by kernel_rfl
theorem en123 : entB Try.prog 123 = true := by kernel_rfl
theorem en124 : entB Try.prog 124 = true := by kernel_rfl
theorem en125 : entB Try.prog 125 = true := by kernel_rfl
theorem en126 : entB Try.prog 126 = true := by kernel_rfl
theorem en127 : entB Try.prog 127 = true := by kernel_rfl
theorem en128 : entB Try.prog 128 = true := by kernel_rfl
theorem en129 : entB Try.prog 129 = true := by kernel_rfl
theorem en130 : entB Try.prog 130 = true := by kernel_rfl
theorem en154 : entB Try.prog 154 = true := by kernel_rfl
theorem en162 : entB Try.prog 162 = true := by kernel_rfl
theorem en163 : entB Try.prog 163 = true := by kernel_rfl
theorem en164 : entB Try.prog 164 = true := by kernel_rfl
theorem en165 : entB Try.prog 165 = true := by kernel_rfl
theorem en166 : entB Try.prog 166 = true := by kernel_rfl
theorem en169 : entB Try.prog 169 = true := by kernel_rfl
theorem en170 : entB Try.prog 170 = true := by kernel_rfl
theorem en171 : entB Try.prog 171 = true := by kernel_rfl
theorem en172 : entB Try.prog 172 = true := by kernel_rfl
theorem en173 : entB Try.prog 173 = true := by kernel_rfl
theorem en194 : entB Try.prog 194 = true := by kernel_rfl
theorem en195 : entB Try.prog 195 = true := by kernel_rfl
theorem en196 : entB Try.prog 196 = true := by kernel_rfl
theorem en208 : entB Try.prog 208 = true := by kernel_rfl
theorem en212 : entB Try.prog 212 = true := by kernel_rfl
theorem en213 : entB Try.prog 213 = true := by kernel_rfl
theorem en223 : entB Try.prog 223 = true := by kernel_rfl
theorem en224 : entB Try.prog 224 = true := by kernel_rfl
theorem en230 : entB Try.prog 230 = true := by kernel_rfl
theorem en233 : entB Try.prog 233 = true := by kernel_rfl
theorem en234 : entB Try.prog 234 = true := by kernel_rfl
theorem en235 : entB Try.prog 235 = true := by kernel_rfl
theorem en236 : entB Try.prog 236 = true := by kernel_rfl
theorem en238 : entB Try.prog 238 = true := by kernel_rfl
theorem en239 : entB Try.prog 239 = true := by kernel_rfl
theorem en240 : entB Try.prog 240 = true := by kernel_rfl
theorem en241 : entB Try.prog 241 = true := by kernel_rfl
@[go_sem] theorem tyb60_0 : (szT Try.prog 2 = 1) ∧ (hasT Try.prog 2 = true) ∧ (aggT Try.prog 2 = false) ∧ (bytesT Try.prog 2 = 8) ∧ (kindT Try.prog 2 = some .i64) ∧ (nilsX Try.prog 2 = [none]) ∧ (arrayT Try.prog 2 = none) ∧ (zeroL Try.prog 2 = some [.int .i64 0]) ∧ (szT Try.prog 3 = 1) ∧ (hasT Try.prog 3 = true) ∧ (aggT Try.prog 3 = false) ∧ (bytesT Try.prog 3 = 8) ∧ (kindT Try.prog 3 = some .i64) ∧ (nilsX Try.prog 3 = [none]) ∧ (arrayT Try.prog 3 = none) ∧ (zeroL Try.prog 3 = some [.int .i64 0]) ∧ (szT Try.prog 4 = 1) ∧ (hasT Try.prog 4 = true) ∧ (aggT Try.prog 4 = false) ∧ (bytesT Try.prog 4 = 1) ∧ (Try.prog.underlying 4 = some .bool) ∧ (nilsX Try.prog 4 = [none]) ∧ (arrayT Try.prog 4 = none) ∧ (zeroL Try.prog 4 = some [.bool false]) ∧ (szT Try.prog 5 = 1) ∧ (hasT Try.prog 5 = true) ∧ (aggT Try.prog 5 = false) ∧ (bytesT Try.prog 5 = 1) ∧ (kindT Try.prog 5 = some .u8) ∧ (nilsX Try.prog 5 = [none]) ∧ (arrayT Try.prog 5 = none) ∧ (zeroL Try.prog 5 = some [.int .u8 0]) ∧ (szT Try.prog 22 = 1) ∧ (hasT Try.prog 22 = true) ∧ (aggT Try.prog 22 = false) ∧ (bytesT Try.prog 22 = 24) ∧ (sliceT Try.prog 22 = some 104) ∧ (nilsX Try.prog 22 = [some 4]) ∧ (arrayT Try.prog 22 = none) ∧ (zeroL Try.prog 22 = some [.slice none 0 0]) ∧ (szT Try.prog 24 = 1) ∧ (hasT Try.prog 24 = true) ∧ (aggT Try.prog 24 = false) ∧ (bytesT Try.prog 24 = 24) ∧ (sliceT Try.prog 24 = some 3) ∧ (nilsX Try.prog 24 = [some 1]) ∧ (arrayT Try.prog 24 = none) ∧ (zeroL Try.prog 24 = some [.slice none 0 0]) ∧ (szT Try.prog 27 = 1) ∧ (hasT Try.prog 27 = true) ∧ (aggT Try.prog 27 = false) ∧ (bytesT Try.prog 27 = 24) ∧ (sliceT Try.prog 27 = some 107) ∧ (nilsX Try.prog 27 = [some 6]) ∧ (arrayT Try.prog 27 = none) ∧ (zeroL Try.prog 27 = some [.slice none 0 0]) ∧ (szT Try.prog 30 = 1) ∧ (hasT Try.prog 30 = true) ∧ (aggT Try.prog 30 = false) ∧ (bytesT Try.prog 30 = 24) := ⟨ty2_sz, ty2_has, ty2_agg, ty2_by, ty2_k, ty2_n, ty2_ar, ty2_z, ty3_sz, ty3_has, ty3_agg, ty3_by, ty3_k, ty3_n, ty3_ar, ty3_z, ty4_sz, ty4_has, ty4_agg, ty4_by, ty4_u, ty4_n, ty4_ar, ty4_z, ty5_sz, ty5_has, ty5_agg, ty5_by, ty5_k, ty5_n, ty5_ar, ty5_z, ty22_sz, ty22_has, ty22_agg, ty22_by, ty22_e, ty22_n, ty22_ar, ty22_z, ty24_sz, ty24_has, ty24_agg, ty24_by, ty24_e, ty24_n, ty24_ar, ty24_z, ty27_sz, ty27_has, ty27_agg, ty27_by, ty27_e, ty27_n, ty27_ar, ty27_z, ty30_sz, ty30_has, ty30_agg, ty30_by⟩
@[go_sem] theorem tyb120_0 : (sliceT Try.prog 30 = some 198) ∧ (nilsX Try.prog 30 = [some 2]) ∧ (arrayT Try.prog 30 = none) ∧ (zeroL Try.prog 30 = some [.slice none 0 0]) ∧ (szT Try.prog 32 = 4) ∧ (hasT Try.prog 32 = true) ∧ (aggT Try.prog 32 = true) ∧ (bytesT Try.prog 32 = 48) ∧ (nilsX Try.prog 32 = [none, none, none, some 2]) ∧ (arrayT Try.prog 32 = none) ∧ (fieldT Try.prog 32 0 = some (0, 3)) ∧ (fieldT Try.prog 32 1 = some (1, 3)) ∧ (fieldT Try.prog 32 2 = some (2, 2)) ∧ (fieldT Try.prog 32 3 = some (3, 30)) ∧ (placesL Try.prog 32 = some [(0, 1), (1, 1), (2, 1), (3, 1)]) ∧ (zeroL Try.prog 32 = some [.int .i64 0, .int .i64 0, .int .i64 0, .slice none 0 0]) ∧ (szT Try.prog 33 = 1) ∧ (hasT Try.prog 33 = true) ∧ (aggT Try.prog 33 = false) ∧ (bytesT Try.prog 33 = 24) ∧ (sliceT Try.prog 33 = some 42) ∧ (nilsX Try.prog 33 = [some 3]) ∧ (arrayT Try.prog 33 = none) ∧ (zeroL Try.prog 33 = some [.slice none 0 0]) ∧ (szT Try.prog 35 = 1) ∧ (hasT Try.prog 35 = true) ∧ (aggT Try.prog 35 = false) ∧ (bytesT Try.prog 35 = 24) ∧ (sliceT Try.prog 35 = some 33) ∧ (nilsX Try.prog 35 = [some 1]) ∧ (arrayT Try.prog 35 = none) ∧ (zeroL Try.prog 35 = some [.slice none 0 0]) ∧ (szT Try.prog 40 = 2) ∧ (hasT Try.prog 40 = true) ∧ (aggT Try.prog 40 = true) ∧ (bytesT Try.prog 40 = 16) ∧ (nilsX Try.prog 40 = [none, none]) ∧ (arrayT Try.prog 40 = none) ∧ (fieldT Try.prog 40 0 = some (0, 2)) ∧ (fieldT Try.prog 40 1 = some (1, 2)) ∧ (placesL Try.prog 40 = some [(0, 1), (1, 1)]) ∧ (zeroL Try.prog 40 = some [.int .i64 0, .int .i64 0]) ∧ (szT Try.prog 42 = 3) ∧ (hasT Try.prog 42 = true) ∧ (aggT Try.prog 42 = true) ∧ (bytesT Try.prog 42 = 24) ∧ (nilsX Try.prog 42 = [none, none, none]) ∧ (arrayT Try.prog 42 = none) ∧ (fieldT Try.prog 42 0 = some (0, 40)) ∧ (fieldT Try.prog 42 1 = some (2, 3)) ∧ (placesL Try.prog 42 = some [(0, 2), (2, 1)]) ∧ (zeroL Try.prog 42 = some [.int .i64 0, .int .i64 0, .int .i64 0]) ∧ (szT Try.prog 46 = 1) ∧ (hasT Try.prog 46 = true) ∧ (aggT Try.prog 46 = false) ∧ (bytesT Try.prog 46 = 24) ∧ (sliceT Try.prog 46 = some 40) ∧ (nilsX Try.prog 46 = [some 2]) ∧ (arrayT Try.prog 46 = none) ∧ (zeroL Try.prog 46 = some [.slice none 0 0]) := ⟨ty30_e, ty30_n, ty30_ar, ty30_z, ty32_sz, ty32_has, ty32_agg, ty32_by, ty32_n, ty32_ar, ty32_f0, ty32_f1, ty32_f2, ty32_f3, ty32_pl, ty32_z, ty33_sz, ty33_has, ty33_agg, ty33_by, ty33_e, ty33_n, ty33_ar, ty33_z, ty35_sz, ty35_has, ty35_agg, ty35_by, ty35_e, ty35_n, ty35_ar, ty35_z, ty40_sz, ty40_has, ty40_agg, ty40_by, ty40_n, ty40_ar, ty40_f0, ty40_f1, ty40_pl, ty40_z, ty42_sz, ty42_has, ty42_agg, ty42_by, ty42_n, ty42_ar, ty42_f0, ty42_f1, ty42_pl, ty42_z, ty46_sz, ty46_has, ty46_agg, ty46_by, ty46_e, ty46_n, ty46_ar, ty46_z⟩
@[go_sem] theorem tyb180_0 : (szT Try.prog 69 = 1) ∧ (hasT Try.prog 69 = true) ∧ (aggT Try.prog 69 = false) ∧ (bytesT Try.prog 69 = 24) ∧ (sliceT Try.prog 69 = some 82) ∧ (nilsX Try.prog 69 = [some 10]) ∧ (arrayT Try.prog 69 = none) ∧ (zeroL Try.prog 69 = some [.slice none 0 0]) ∧ (szT Try.prog 70 = 4) ∧ (hasT Try.prog 70 = true) ∧ (aggT Try.prog 70 = true) ∧ (bytesT Try.prog 70 = 32) ∧ (nilsX Try.prog 70 = [none, none, none, none]) ∧ (arrayT Try.prog 70 = some (4, 3)) ∧ (placesL Try.prog 70 = some [(0, 1), (1, 1), (2, 1), (3, 1)]) ∧ (zeroL Try.prog 70 = some [.int .i64 0, .int .i64 0, .int .i64 0, .int .i64 0]) ∧ (szT Try.prog 72 = 5) ∧ (hasT Try.prog 72 = true) ∧ (aggT Try.prog 72 = true) ∧ (bytesT Try.prog 72 = 40) ∧ (nilsX Try.prog 72 = [none, none, none, none, none]) ∧ (arrayT Try.prog 72 = none) ∧ (fieldT Try.prog 72 0 = some (0, 3)) ∧ (fieldT Try.prog 72 1 = some (1, 70)) ∧ (placesL Try.prog 72 = some [(0, 1), (1, 4)]) ∧ (zeroL Try.prog 72 = some [.int .i64 0, .int .i64 0, .int .i64 0, .int .i64 0, .int .i64 0]) ∧ (szT Try.prog 73 = 1) ∧ (hasT Try.prog 73 = true) ∧ (aggT Try.prog 73 = false) ∧ (bytesT Try.prog 73 = 1) ∧ (kindT Try.prog 73 = some .i8) ∧ (nilsX Try.prog 73 = [none]) ∧ (arrayT Try.prog 73 = none) ∧ (zeroL Try.prog 73 = some [.int .i8 0]) ∧ (szT Try.prog 78 = 1) ∧ (hasT Try.prog 78 = true) ∧ (aggT Try.prog 78 = false) ∧ (bytesT Try.prog 78 = 24) ∧ (sliceT Try.prog 78 = some 72) ∧ (nilsX Try.prog 78 = [some 5]) ∧ (arrayT Try.prog 78 = none) ∧ (zeroL Try.prog 78 = some [.slice none 0 0]) ∧ (szT Try.prog 80 = 2) ∧ (hasT Try.prog 80 = true) ∧ (aggT Try.prog 80 = true) ∧ (bytesT Try.prog 80 = 48) ∧ (nilsX Try.prog 80 = [some 3, some 3]) ∧ (arrayT Try.prog 80 = some (2, 33)) ∧ (placesL Try.prog 80 = some [(0, 1), (1, 1)]) ∧ (zeroL Try.prog 80 = some [.slice none 0 0, .slice none 0 0]) ∧ (szT Try.prog 82 = 10) ∧ (hasT Try.prog 82 = true) ∧ (aggT Try.prog 82 = true) ∧ (bytesT Try.prog 82 = 120) ∧ (nilsX Try.prog 82 = [none, none, none, none, none, some 3, some 3, some 3, none, none]) ∧ (arrayT Try.prog 82 = none) ∧ (fieldT Try.prog 82 0 = some (0, 72)) ∧ (fieldT Try.prog 82 1 = some (5, 80)) ∧ (fieldT Try.prog 82 2 = some (7, 33)) ∧ (fieldT Try.prog 82 3 = some (8, 4)) := ⟨ty69_sz, ty69_has, ty69_agg, ty69_by, ty69_e, ty69_n, ty69_ar, ty69_z, ty70_sz, ty70_has, ty70_agg, ty70_by, ty70_n, ty70_ar, ty70_pl, ty70_z, ty72_sz, ty72_has, ty72_agg, ty72_by, ty72_n, ty72_ar, ty72_f0, ty72_f1, ty72_pl, ty72_z, ty73_sz, ty73_has, ty73_agg, ty73_by, ty73_k, ty73_n, ty73_ar, ty73_z, ty78_sz, ty78_has, ty78_agg, ty78_by, ty78_e, ty78_n, ty78_ar, ty78_z, ty80_sz, ty80_has, ty80_agg, ty80_by, ty80_n, ty80_ar, ty80_pl, ty80_z, ty82_sz, ty82_has, ty82_agg, ty82_by, ty82_n, ty82_ar, ty82_f0, ty82_f1, ty82_f2, ty82_f3⟩
@[go_sem] theorem tyb240_0 : (fieldT Try.prog 82 4 = some (9, 4)) ∧ (placesL Try.prog 82 = some [(0, 5), (5, 2), (7, 1), (8, 1), (9, 1)]) ∧ (zeroL Try.prog 82 = some [.int .i64 0, .int .i64 0, .int .i64 0, .int .i64 0, .int .i64 0, .slice none 0 0, .slice none 0 0, .slice none 0 0, .bool false, .bool false]) ∧ (szT Try.prog 90 = 1) ∧ (hasT Try.prog 90 = true) ∧ (aggT Try.prog 90 = false) ∧ (bytesT Try.prog 90 = 24) ∧ (sliceT Try.prog 90 = some 93) ∧ (nilsX Try.prog 90 = [some 10]) ∧ (arrayT Try.prog 90 = none) ∧ (zeroL Try.prog 90 = some [.slice none 0 0]) ∧ (szT Try.prog 91 = 1) ∧ (hasT Try.prog 91 = true) ∧ (aggT Try.prog 91 = false) ∧ (bytesT Try.prog 91 = 24) ∧ (sliceT Try.prog 91 = some 100) ∧ (nilsX Try.prog 91 = [some 7]) ∧ (arrayT Try.prog 91 = none) ∧ (zeroL Try.prog 91 = some [.slice none 0 0]) ∧ (szT Try.prog 93 = 10) ∧ (hasT Try.prog 93 = true) ∧ (aggT Try.prog 93 = true) ∧ (bytesT Try.prog 93 = 72) ∧ (nilsX Try.prog 93 = [none, none, none, none, none, none, none, none, none, none]) ∧ (arrayT Try.prog 93 = none) ∧ (fieldT Try.prog 93 0 = some (0, 4)) ∧ (fieldT Try.prog 93 1 = some (1, 5)) ∧ (fieldT Try.prog 93 2 = some (2, 72)) ∧ (fieldT Try.prog 93 3 = some (7, 40)) ∧ (fieldT Try.prog 93 4 = some (9, 73)) ∧ (placesL Try.prog 93 = some [(0, 1), (1, 1), (2, 5), (7, 2), (9, 1)]) ∧ (zeroL Try.prog 93 = some [.bool false, .int .u8 0, .int .i64 0, .int .i64 0, .int .i64 0, .int .i64 0, .int .i64 0, .int .i64 0, .int .i64 0, .int .i8 0]) ∧ (szT Try.prog 100 = 7) ∧ (hasT Try.prog 100 = true) ∧ (aggT Try.prog 100 = true) ∧ (bytesT Try.prog 100 = 88) ∧ (nilsX Try.prog 100 = [none, none, none, none, none, some 3, some 3]) ∧ (arrayT Try.prog 100 = none) ∧ (fieldT Try.prog 100 0 = some (0, 72)) ∧ (fieldT Try.prog 100 1 = some (5, 80)) ∧ (placesL Try.prog 100 = some [(0, 5), (5, 2)]) ∧ (zeroL Try.prog 100 = some [.int .i64 0, .int .i64 0, .int .i64 0, .int .i64 0, .int .i64 0, .slice none 0 0, .slice none 0 0]) ∧ (szT Try.prog 104 = 4) ∧ (hasT Try.prog 104 = true) ∧ (aggT Try.prog 104 = true) ∧ (bytesT Try.prog 104 = 32) ∧ (nilsX Try.prog 104 = [none, none, none, none]) ∧ (arrayT Try.prog 104 = none) ∧ (fieldT Try.prog 104 0 = some (0, 3)) ∧ (fieldT Try.prog 104 1 = some (1, 3)) ∧ (fieldT Try.prog 104 2 = some (2, 40)) ∧ (placesL Try.prog 104 = some [(0, 1), (1, 1), (2, 2)]) ∧ (zeroL Try.prog 104 = some [.int .i64 0, .int .i64 0, .int .i64 0, .int .i64 0]) ∧ (szT Try.prog 107 = 6) ∧ (hasT Try.prog 107 = true) ∧ (aggT Try.prog 107 = true) ∧ (bytesT Try.prog 107 = 48) ∧ (nilsX Try.prog 107 = [none, none, none, none, none, none]) ∧ (arrayT Try.prog 107 = none) ∧ (fieldT Try.prog 107 0 = some (0, 2)) := ⟨ty82_f4, ty82_pl, ty82_z, ty90_sz, ty90_has, ty90_agg, ty90_by, ty90_e, ty90_n, ty90_ar, ty90_z, ty91_sz, ty91_has, ty91_agg, ty91_by, ty91_e, ty91_n, ty91_ar, ty91_z, ty93_sz, ty93_has, ty93_agg, ty93_by, ty93_n, ty93_ar, ty93_f0, ty93_f1, ty93_f2, ty93_f3, ty93_f4, ty93_pl, ty93_z, ty100_sz, ty100_has, ty100_agg, ty100_by, ty100_n, ty100_ar, ty100_f0, ty100_f1, ty100_pl, ty100_z, ty104_sz, ty104_has, ty104_agg, ty104_by, ty104_n, ty104_ar, ty104_f0, ty104_f1, ty104_f2, ty104_pl, ty104_z, ty107_sz, ty107_has, ty107_agg, ty107_by, ty107_n, ty107_ar, ty107_f0⟩
@[go_sem] theorem tyb300_0 : (fieldT Try.prog 107 1 = some (1, 3)) ∧ (fieldT Try.prog 107 2 = some (2, 2)) ∧ (fieldT Try.prog 107 3 = some (3, 2)) ∧ (fieldT Try.prog 107 4 = some (4, 2)) ∧ (fieldT Try.prog 107 5 = some (5, 4)) ∧ (placesL Try.prog 107 = some [(0, 1), (1, 1), (2, 1), (3, 1), (4, 1), (5, 1)]) ∧ (zeroL Try.prog 107 = some [.int .i64 0, .int .i64 0, .int .i64 0, .int .i64 0, .int .i64 0, .bool false]) ∧ (szT Try.prog 113 = 1) ∧ (hasT Try.prog 113 = true) ∧ (aggT Try.prog 113 = false) ∧ (bytesT Try.prog 113 = 8) ∧ (nilsX Try.prog 113 = [none]) ∧ (arrayT Try.prog 113 = none) ∧ (zeroL Try.prog 113 = some [.nilFunc]) ∧ (szT Try.prog 114 = 1) ∧ (hasT Try.prog 114 = true) ∧ (aggT Try.prog 114 = false) ∧ (bytesT Try.prog 114 = 8) ∧ (nilsX Try.prog 114 = [none]) ∧ (arrayT Try.prog 114 = none) ∧ (zeroL Try.prog 114 = some [.pointer none]) ∧ (szT Try.prog 115 = 1) ∧ (hasT Try.prog 115 = true) ∧ (aggT Try.prog 115 = false) ∧ (bytesT Try.prog 115 = 8) ∧ (kindT Try.prog 115 = some .u64) ∧ (nilsX Try.prog 115 = [none]) ∧ (arrayT Try.prog 115 = none) ∧ (zeroL Try.prog 115 = some [.int .u64 0]) ∧ (szT Try.prog 117 = 2) ∧ (hasT Try.prog 117 = true) ∧ (aggT Try.prog 117 = true) ∧ (bytesT Try.prog 117 = 16) ∧ (nilsX Try.prog 117 = [none, none]) ∧ (arrayT Try.prog 117 = none) ∧ (fieldT Try.prog 117 0 = some (0, 2)) ∧ (fieldT Try.prog 117 1 = some (1, 115)) ∧ (placesL Try.prog 117 = some [(0, 1), (1, 1)]) ∧ (zeroL Try.prog 117 = some [.int .i64 0, .int .u64 0]) ∧ (szT Try.prog 119 = 8) ∧ (hasT Try.prog 119 = true) ∧ (aggT Try.prog 119 = true) ∧ (bytesT Try.prog 119 = 64) ∧ (nilsX Try.prog 119 = [none, none, none, none, none, none, none, none]) ∧ (arrayT Try.prog 119 = none) ∧ (fieldT Try.prog 119 0 = some (0, 107)) ∧ (fieldT Try.prog 119 1 = some (6, 117)) ∧ (placesL Try.prog 119 = some [(0, 6), (6, 2)]) ∧ (zeroL Try.prog 119 = some [.int .i64 0, .int .i64 0, .int .i64 0, .int .i64 0, .int .i64 0, .bool false, .int .i64 0, .int .u64 0]) ∧ (szT Try.prog 125 = 1) ∧ (hasT Try.prog 125 = true) ∧ (aggT Try.prog 125 = false) ∧ (bytesT Try.prog 125 = 8) ∧ (nilsX Try.prog 125 = [none]) ∧ (arrayT Try.prog 125 = none) ∧ (zeroL Try.prog 125 = some [.pointer none]) ∧ (szT Try.prog 127 = 2) ∧ (hasT Try.prog 127 = true) ∧ (aggT Try.prog 127 = true) ∧ (bytesT Try.prog 127 = 32) := ⟨ty107_f1, ty107_f2, ty107_f3, ty107_f4, ty107_f5, ty107_pl, ty107_z, ty113_sz, ty113_has, ty113_agg, ty113_by, ty113_n, ty113_ar, ty113_z, ty114_sz, ty114_has, ty114_agg, ty114_by, ty114_n, ty114_ar, ty114_z, ty115_sz, ty115_has, ty115_agg, ty115_by, ty115_k, ty115_n, ty115_ar, ty115_z, ty117_sz, ty117_has, ty117_agg, ty117_by, ty117_n, ty117_ar, ty117_f0, ty117_f1, ty117_pl, ty117_z, ty119_sz, ty119_has, ty119_agg, ty119_by, ty119_n, ty119_ar, ty119_f0, ty119_f1, ty119_pl, ty119_z, ty125_sz, ty125_has, ty125_agg, ty125_by, ty125_n, ty125_ar, ty125_z, ty127_sz, ty127_has, ty127_agg, ty127_by⟩
@[go_sem] theorem tyb360_0 : (nilsX Try.prog 127 = [some 3, none]) ∧ (arrayT Try.prog 127 = none) ∧ (fieldT Try.prog 127 0 = some (0, 33)) ∧ (fieldT Try.prog 127 1 = some (1, 3)) ∧ (placesL Try.prog 127 = some [(0, 1), (1, 1)]) ∧ (zeroL Try.prog 127 = some [.slice none 0 0, .int .i64 0]) ∧ (szT Try.prog 170 = 1) ∧ (hasT Try.prog 170 = true) ∧ (aggT Try.prog 170 = false) ∧ (bytesT Try.prog 170 = 8) ∧ (nilsX Try.prog 170 = [none]) ∧ (arrayT Try.prog 170 = none) ∧ (zeroL Try.prog 170 = some [.nilFunc]) ∧ (szT Try.prog 173 = 1) ∧ (hasT Try.prog 173 = true) ∧ (aggT Try.prog 173 = false) ∧ (bytesT Try.prog 173 = 8) ∧ (kindT Try.prog 173 = some .u64) ∧ (nilsX Try.prog 173 = [none]) ∧ (arrayT Try.prog 173 = none) ∧ (zeroL Try.prog 173 = some [.int .u64 0]) ∧ (szT Try.prog 181 = 1) ∧ (hasT Try.prog 181 = true) ∧ (aggT Try.prog 181 = false) ∧ (bytesT Try.prog 181 = 8) ∧ (nilsX Try.prog 181 = [none]) ∧ (arrayT Try.prog 181 = none) ∧ (zeroL Try.prog 181 = some [.nilFunc]) ∧ (szT Try.prog 183 = 2) ∧ (hasT Try.prog 183 = true) ∧ (aggT Try.prog 183 = true) ∧ (bytesT Try.prog 183 = 16) ∧ (nilsX Try.prog 183 = [none, none]) ∧ (arrayT Try.prog 183 = none) ∧ (fieldT Try.prog 183 0 = some (0, 2)) ∧ (fieldT Try.prog 183 1 = some (1, 115)) ∧ (placesL Try.prog 183 = some [(0, 1), (1, 1)]) ∧ (zeroL Try.prog 183 = some [.int .i64 0, .int .u64 0]) ∧ (szT Try.prog 187 = 1) ∧ (hasT Try.prog 187 = true) ∧ (aggT Try.prog 187 = false) ∧ (bytesT Try.prog 187 = 8) ∧ (nilsX Try.prog 187 = [none]) ∧ (arrayT Try.prog 187 = none) ∧ (zeroL Try.prog 187 = some [.nilFunc]) ∧ (szT Try.prog 198 = 2) ∧ (hasT Try.prog 198 = true) ∧ (aggT Try.prog 198 = true) ∧ (bytesT Try.prog 198 = 16) ∧ (nilsX Try.prog 198 = [none, none]) ∧ (arrayT Try.prog 198 = none) ∧ (fieldT Try.prog 198 0 = some (0, 3)) ∧ (fieldT Try.prog 198 1 = some (1, 2)) ∧ (placesL Try.prog 198 = some [(0, 1), (1, 1)]) ∧ (zeroL Try.prog 198 = some [.int .i64 0, .int .i64 0]) ∧ (szT Try.prog 219 = 1) ∧ (hasT Try.prog 219 = true) ∧ (aggT Try.prog 219 = false) ∧ (bytesT Try.prog 219 = 8) ∧ (nilsX Try.prog 219 = [none]) := ⟨ty127_n, ty127_ar, ty127_f0, ty127_f1, ty127_pl, ty127_z, ty170_sz, ty170_has, ty170_agg, ty170_by, ty170_n, ty170_ar, ty170_z, ty173_sz, ty173_has, ty173_agg, ty173_by, ty173_k, ty173_n, ty173_ar, ty173_z, ty181_sz, ty181_has, ty181_agg, ty181_by, ty181_n, ty181_ar, ty181_z, ty183_sz, ty183_has, ty183_agg, ty183_by, ty183_n, ty183_ar, ty183_f0, ty183_f1, ty183_pl, ty183_z, ty187_sz, ty187_has, ty187_agg, ty187_by, ty187_n, ty187_ar, ty187_z, ty198_sz, ty198_has, ty198_agg, ty198_by, ty198_n, ty198_ar, ty198_f0, ty198_f1, ty198_pl, ty198_z, ty219_sz, ty219_has, ty219_agg, ty219_by, ty219_n⟩
@[go_sem] theorem tyb420_0 : (arrayT Try.prog 219 = none) ∧ (zeroL Try.prog 219 = some [.nilFunc]) ∧ (szT Try.prog 263 = 1) ∧ (hasT Try.prog 263 = true) ∧ (aggT Try.prog 263 = false) ∧ (bytesT Try.prog 263 = 8) ∧ (nilsX Try.prog 263 = [none]) ∧ (arrayT Try.prog 263 = none) ∧ (zeroL Try.prog 263 = some [.pointer none]) ∧ (szT Try.prog 264 = 1) ∧ (hasT Try.prog 264 = true) ∧ (aggT Try.prog 264 = false) ∧ (bytesT Try.prog 264 = 24) ∧ (sliceT Try.prog 264 = some 2) ∧ (nilsX Try.prog 264 = [some 1]) ∧ (arrayT Try.prog 264 = none) ∧ (zeroL Try.prog 264 = some [.slice none 0 0]) ∧ (szT Try.prog 266 = 6) ∧ (hasT Try.prog 266 = true) ∧ (aggT Try.prog 266 = true) ∧ (bytesT Try.prog 266 = 80) ∧ (nilsX Try.prog 266 = [none, none, some 1, some 2, none, none]) ∧ (arrayT Try.prog 266 = none) ∧ (fieldT Try.prog 266 0 = some (0, 40)) ∧ (fieldT Try.prog 266 1 = some (2, 264)) ∧ (fieldT Try.prog 266 2 = some (3, 46)) ∧ (fieldT Try.prog 266 3 = some (4, 3)) ∧ (fieldT Try.prog 266 4 = some (5, 3)) ∧ (placesL Try.prog 266 = some [(0, 2), (2, 1), (3, 1), (4, 1), (5, 1)]) ∧ (zeroL Try.prog 266 = some [.int .i64 0, .int .i64 0, .slice none 0 0, .slice none 0 0, .int .i64 0, .int .i64 0]) ∧ (entB Try.prog 3 = true) ∧ (entB Try.prog 4 = true) ∧ (entB Try.prog 5 = true) ∧ (entB Try.prog 6 = true) ∧ (entB Try.prog 7 = true) ∧ (entB Try.prog 10 = true) ∧ (entB Try.prog 11 = true) ∧ (entB Try.prog 12 = true) ∧ (entB Try.prog 13 = true) ∧ (entB Try.prog 14 = true) ∧ (entB Try.prog 15 = true) ∧ (entB Try.prog 16 = true) ∧ (entB Try.prog 17 = true) ∧ (entB Try.prog 18 = true) ∧ (entB Try.prog 19 = true) ∧ (entB Try.prog 20 = true) ∧ (entB Try.prog 21 = true) ∧ (entB Try.prog 22 = true) ∧ (entB Try.prog 23 = true) ∧ (entB Try.prog 24 = true) ∧ (entB Try.prog 25 = true) ∧ (entB Try.prog 26 = true) ∧ (entB Try.prog 27 = true) ∧ (entB Try.prog 28 = true) ∧ (entB Try.prog 35 = true) ∧ (entB Try.prog 36 = true) ∧ (entB Try.prog 37 = true) ∧ (entB Try.prog 38 = true) ∧ (entB Try.prog 39 = true) ∧ (entB Try.prog 40 = true) := ⟨ty219_ar, ty219_z, ty263_sz, ty263_has, ty263_agg, ty263_by, ty263_n, ty263_ar, ty263_z, ty264_sz, ty264_has, ty264_agg, ty264_by, ty264_e, ty264_n, ty264_ar, ty264_z, ty266_sz, ty266_has, ty266_agg, ty266_by, ty266_n, ty266_ar, ty266_f0, ty266_f1, ty266_f2, ty266_f3, ty266_f4, ty266_pl, ty266_z, en3, en4, en5, en6, en7, en10, en11, en12, en13, en14, en15, en16, en17, en18, en19, en20, en21, en22, en23, en24, en25, en26, en27, en28, en35, en36, en37, en38, en39, en40⟩
@[go_sem] theorem tyb480_0 : (entB Try.prog 41 = true) ∧ (entB Try.prog 42 = true) ∧ (entB Try.prog 43 = true) ∧ (entB Try.prog 44 = true) ∧ (entB Try.prog 45 = true) ∧ (entB Try.prog 46 = true) ∧ (entB Try.prog 47 = true) ∧ (entB Try.prog 48 = true) ∧ (entB Try.prog 49 = true) ∧ (entB Try.prog 50 = true) ∧ (entB Try.prog 51 = true) ∧ (entB Try.prog 52 = true) ∧ (entB Try.prog 53 = true) ∧ (entB Try.prog 54 = true) ∧ (entB Try.prog 55 = true) ∧ (entB Try.prog 56 = true) ∧ (entB Try.prog 57 = true) ∧ (entB Try.prog 58 = true) ∧ (entB Try.prog 59 = true) ∧ (entB Try.prog 60 = true) ∧ (entB Try.prog 61 = true) ∧ (entB Try.prog 62 = true) ∧ (entB Try.prog 63 = true) ∧ (entB Try.prog 64 = true) ∧ (entB Try.prog 65 = true) ∧ (entB Try.prog 66 = true) ∧ (entB Try.prog 67 = true) ∧ (entB Try.prog 68 = true) ∧ (entB Try.prog 69 = true) ∧ (entB Try.prog 70 = true) ∧ (entB Try.prog 71 = true) ∧ (entB Try.prog 72 = true) ∧ (entB Try.prog 73 = true) ∧ (entB Try.prog 74 = true) ∧ (entB Try.prog 75 = true) ∧ (entB Try.prog 89 = true) ∧ (entB Try.prog 90 = true) ∧ (entB Try.prog 91 = true) ∧ (entB Try.prog 92 = true) ∧ (entB Try.prog 93 = true) ∧ (entB Try.prog 94 = true) ∧ (entB Try.prog 95 = true) ∧ (entB Try.prog 96 = true) ∧ (entB Try.prog 97 = true) ∧ (entB Try.prog 98 = true) ∧ (entB Try.prog 99 = true) ∧ (entB Try.prog 100 = true) ∧ (entB Try.prog 101 = true) ∧ (entB Try.prog 102 = true) ∧ (entB Try.prog 103 = true) ∧ (entB Try.prog 104 = true) ∧ (entB Try.prog 105 = true) ∧ (entB Try.prog 106 = true) ∧ (entB Try.prog 107 = true) ∧ (entB Try.prog 108 = true) ∧ (entB Try.prog 109 = true) ∧ (entB Try.prog 110 = true) ∧ (entB Try.prog 111 = true) ∧ (entB Try.prog 112 = true) ∧ (entB Try.prog 116 = true) := ⟨en41, en42, en43, en44, en45, en46, en47, en48, en49, en50, en51, en52, en53, en54, en55, en56, en57, en58, en59, en60, en61, en62, en63, en64, en65, en66, en67, en68, en69, en70, en71, en72, en73, en74, en75, en89, en90, en91, en92, en93, en94, en95, en96, en97, en98, en99, en100, en101, en102, en103, en104, en105, en106, en107, en108, en109, en110, en111, en112, en116⟩
@[go_sem] theorem tyb540_0 : (entB Try.prog 117 = true) ∧ (entB Try.prog 118 = true) ∧ (entB Try.prog 119 = true) ∧ (entB Try.prog 120 = true) ∧ (entB Try.prog 121 = true) ∧ (entB Try.prog 122 = true) ∧ (entB Try.prog 123 = true) ∧ (entB Try.prog 124 = true) ∧ (entB Try.prog 125 = true) ∧ (entB Try.prog 126 = true) ∧ (entB Try.prog 127 = true) ∧ (entB Try.prog 128 = true) ∧ (entB Try.prog 129 = true) ∧ (entB Try.prog 130 = true) ∧ (entB Try.prog 154 = true) ∧ (entB Try.prog 162 = true) ∧ (entB Try.prog 163 = true) ∧ (entB Try.prog 164 = true) ∧ (entB Try.prog 165 = true) ∧ (entB Try.prog 166 = true) ∧ (entB Try.prog 169 = true) ∧ (entB Try.prog 170 = true) ∧ (entB Try.prog 171 = true) ∧ (entB Try.prog 172 = true) ∧ (entB Try.prog 173 = true) ∧ (entB Try.prog 194 = true) ∧ (entB Try.prog 195 = true) ∧ (entB Try.prog 196 = true) ∧ (entB Try.prog 208 = true) ∧ (entB Try.prog 212 = true) ∧ (entB Try.prog 213 = true) ∧ (entB Try.prog 223 = true) ∧ (entB Try.prog 224 = true) ∧ (entB Try.prog 230 = true) ∧ (entB Try.prog 233 = true) ∧ (entB Try.prog 234 = true) ∧ (entB Try.prog 235 = true) ∧ (entB Try.prog 236 = true) ∧ (entB Try.prog 238 = true) ∧ (entB Try.prog 239 = true) ∧ (entB Try.prog 240 = true) ∧ (entB Try.prog 241 = true) := ⟨en117, en118, en119, en120, en121, en122, en123, en124, en125, en126, en127, en128, en129, en130, en154, en162, en163, en164, en165, en166, en169, en170, en171, en172, en173, en194, en195, en196, en208, en212, en213, en223, en224, en230, en233, en234, en235, en236, en238, en239, en240, en241⟩
theorem mixed : Try.prog.follows .mixedOrders = true := by kernel_rfl
structure Arr2 (α : Type) where
 a0 : α
 a1 : α
instance {α : Type} [Row α] : Row (Arr2 α) := ⟨Row.sz α + Row.sz α, fun x => Row.row x.a0 ++ Row.row x.a1⟩
instance {α : Type} [Dat α] : Dat (Arr2 α) where
 ct := Dat.ct α ++ (Dat.ct α)
 ok x := Dat.ok x.a0 ∧ Dat.ok x.a1
 len := by simp only [List.length_append, Dat.len]; (try simp only [Row.sz]); (try omega)
 of avs h := by
  obtain ⟨b0, r0, rfl, h0, g0⟩ := rowOK_split h
  obtain ⟨x0, rfl, k0⟩ := Dat.of (α := α) _ h0
  obtain ⟨x1, rfl, k1⟩ := Dat.of (α := α) _ g0
  exact ⟨⟨x0, x1⟩, by simp only [Row.row, List.append_assoc], k0, k1⟩
structure Arr4 (α : Type) where
 a0 : α
 a1 : α
 a2 : α
 a3 : α
instance {α : Type} [Row α] : Row (Arr4 α) := ⟨Row.sz α + Row.sz α + Row.sz α + Row.sz α, fun x => Row.row x.a0 ++ Row.row x.a1 ++ Row.row x.a2 ++ Row.row x.a3⟩
instance {α : Type} [Dat α] : Dat (Arr4 α) where
 ct := Dat.ct α ++ (Dat.ct α ++ (Dat.ct α ++ (Dat.ct α)))
 ok x := Dat.ok x.a0 ∧ Dat.ok x.a1 ∧ Dat.ok x.a2 ∧ Dat.ok x.a3
 len := by simp only [List.length_append, Dat.len]; (try simp only [Row.sz]); (try omega)
 of avs h := by
  obtain ⟨b0, r0, rfl, h0, g0⟩ := rowOK_split h
  obtain ⟨b1, r1, rfl, h1, g1⟩ := rowOK_split g0
  obtain ⟨b2, r2, rfl, h2, g2⟩ := rowOK_split g1
  obtain ⟨x0, rfl, k0⟩ := Dat.of (α := α) _ h0
  obtain ⟨x1, rfl, k1⟩ := Dat.of (α := α) _ h1
  obtain ⟨x2, rfl, k2⟩ := Dat.of (α := α) _ h2
  obtain ⟨x3, rfl, k3⟩ := Dat.of (α := α) _ g2
  exact ⟨⟨x0, x1, x2, x3⟩, by simp only [Row.row, List.append_assoc], k0, k1, k2, k3⟩
structure Ni8 where
 n : Int
instance : Row Ni8 := ⟨1, fun x => [.v (.int .i8 x.n)]⟩
@[go_sem] theorem row_Ni8 (x : Ni8) : Row.row x = [.v (.int .i8 x.n)] := rfl
instance : Dat Ni8 where
 ct := [.int .i8]
 ok x := inI .i8 x.n
 len := rfl
 of avs h := by
  simp only [rowOK, ctOK] at h
  obtain ⟨_, _, rfl, ⟨n, rfl, hw⟩, rfl⟩ := h
  exact ⟨⟨n⟩, rfl, hw⟩
structure Nu64 where
 n : Int
instance : Row Nu64 := ⟨1, fun x => [.v (.int .u64 x.n)]⟩
@[go_sem] theorem row_Nu64 (x : Nu64) : Row.row x = [.v (.int .u64 x.n)] := rfl
instance : Dat Nu64 where
 ct := [.int .u64]
 ok x := inI .u64 x.n
 len := rfl
 of avs h := by
  simp only [rowOK, ctOK] at h
  obtain ⟨_, _, rfl, ⟨n, rfl, hw⟩, rfl⟩ := h
  exact ⟨⟨n⟩, rfl, hw⟩
structure GRec where
 K : Int
 V : Int
instance : Row GRec := ⟨2, fun x => [.v (.int .i64 x.K), .v (.int .i64 x.V)]⟩
@[go_sem] theorem row_GRec (x : GRec) : Row.row x = [.v (.int .i64 x.K), .v (.int .i64 x.V)] := rfl
@[go_sem] theorem sz_GRec : Row.sz GRec = 2 := rfl
instance : Dat GRec where
 ct := Dat.ct Int ++ (Dat.ct Int)
 ok x := Dat.ok x.K ∧ Dat.ok x.V
 len := rfl
 of avs h := by
  obtain ⟨b0, r0, rfl, h0, g0⟩ := rowOK_split h
  obtain ⟨x0, rfl, k0⟩ := Dat.of (α := Int) _ h0
  obtain ⟨x1, rfl, k1⟩ := Dat.of (α := Int) _ g0
  exact ⟨⟨x0, x1⟩, rfl, k0, k1⟩
structure GQuery_wide where
 hi : Int
 lo : Nu64
instance : Row GQuery_wide := ⟨2, fun x => [.v (.int .i64 x.hi), .v (.int .u64 x.lo.n)]⟩
@[go_sem] theorem row_GQuery_wide (x : GQuery_wide) : Row.row x = [.v (.int .i64 x.hi), .v (.int .u64 x.lo.n)] := rfl
@[go_sem] theorem sz_GQuery_wide : Row.sz GQuery_wide = 2 := rfl
instance : Dat GQuery_wide where
 ct := Dat.ct Int ++ (Dat.ct Nu64)
 ok x := Dat.ok x.hi ∧ Dat.ok x.lo
 len := rfl
 of avs h := by
  obtain ⟨b0, r0, rfl, h0, g0⟩ := rowOK_split h
  obtain ⟨x0, rfl, k0⟩ := Dat.of (α := Int) _ h0
  obtain ⟨x1, rfl, k1⟩ := Dat.of (α := Nu64) _ g0
  exact ⟨⟨x0, x1⟩, rfl, k0, k1⟩
structure GRow where
 K : Int
 Many : Int
 Least : Int
 Top : Int
 Sum : Int
 Sure : Bool
instance : Row GRow := ⟨6, fun x => [.v (.int .i64 x.K), .v (.int .i64 x.Many), .v (.int .i64 x.Least), .v (.int .i64 x.Top), .v (.int .i64 x.Sum), .v (.bool x.Sure)]⟩
@[go_sem] theorem row_GRow (x : GRow) : Row.row x = [.v (.int .i64 x.K), .v (.int .i64 x.Many), .v (.int .i64 x.Least), .v (.int .i64 x.Top), .v (.int .i64 x.Sum), .v (.bool x.Sure)] := rfl
@[go_sem] theorem sz_GRow : Row.sz GRow = 6 := rfl
instance : Dat GRow where
 ct := Dat.ct Int ++ (Dat.ct Int ++ (Dat.ct Int ++ (Dat.ct Int ++ (Dat.ct Int ++ (Dat.ct Bool)))))
 ok x := Dat.ok x.K ∧ Dat.ok x.Many ∧ Dat.ok x.Least ∧ Dat.ok x.Top ∧ Dat.ok x.Sum ∧ Dat.ok x.Sure
 len := rfl
 of avs h := by
  obtain ⟨b0, r0, rfl, h0, g0⟩ := rowOK_split h
  obtain ⟨b1, r1, rfl, h1, g1⟩ := rowOK_split g0
  obtain ⟨b2, r2, rfl, h2, g2⟩ := rowOK_split g1
  obtain ⟨b3, r3, rfl, h3, g3⟩ := rowOK_split g2
  obtain ⟨b4, r4, rfl, h4, g4⟩ := rowOK_split g3
  obtain ⟨x0, rfl, k0⟩ := Dat.of (α := Int) _ h0
  obtain ⟨x1, rfl, k1⟩ := Dat.of (α := Int) _ h1
  obtain ⟨x2, rfl, k2⟩ := Dat.of (α := Int) _ h2
  obtain ⟨x3, rfl, k3⟩ := Dat.of (α := Int) _ h3
  obtain ⟨x4, rfl, k4⟩ := Dat.of (α := Int) _ h4
  obtain ⟨x5, rfl, k5⟩ := Dat.of (α := Bool) _ g4
  exact ⟨⟨x0, x1, x2, x3, x4, x5⟩, rfl, k0, k1, k2, k3, k4, k5⟩
structure GQuery_group where
 Row : GRow
 sum : GQuery_wide
instance : Row GQuery_group := ⟨8, fun x => [.v (.int .i64 x.Row.K), .v (.int .i64 x.Row.Many), .v (.int .i64 x.Row.Least), .v (.int .i64 x.Row.Top), .v (.int .i64 x.Row.Sum), .v (.bool x.Row.Sure), .v (.int .i64 x.sum.hi), .v (.int .u64 x.sum.lo.n)]⟩
@[go_sem] theorem row_GQuery_group (x : GQuery_group) : Row.row x = [.v (.int .i64 x.Row.K), .v (.int .i64 x.Row.Many), .v (.int .i64 x.Row.Least), .v (.int .i64 x.Row.Top), .v (.int .i64 x.Row.Sum), .v (.bool x.Row.Sure), .v (.int .i64 x.sum.hi), .v (.int .u64 x.sum.lo.n)] := rfl
@[go_sem] theorem sz_GQuery_group : Row.sz GQuery_group = 8 := rfl
instance : Dat GQuery_group where
 ct := Dat.ct GRow ++ (Dat.ct GQuery_wide)
 ok x := Dat.ok x.Row ∧ Dat.ok x.sum
 len := rfl
 of avs h := by
  obtain ⟨b0, r0, rfl, h0, g0⟩ := rowOK_split h
  obtain ⟨x0, rfl, k0⟩ := Dat.of (α := GRow) _ h0
  obtain ⟨x1, rfl, k1⟩ := Dat.of (α := GQuery_wide) _ g0
  exact ⟨⟨x0, x1⟩, rfl, k0, k1⟩
structure GOut where
 Node : Int
 Epoch : Int
 Rec : GRec
instance : Row GOut := ⟨4, fun x => [.v (.int .i64 x.Node), .v (.int .i64 x.Epoch), .v (.int .i64 x.Rec.K), .v (.int .i64 x.Rec.V)]⟩
@[go_sem] theorem row_GOut (x : GOut) : Row.row x = [.v (.int .i64 x.Node), .v (.int .i64 x.Epoch), .v (.int .i64 x.Rec.K), .v (.int .i64 x.Rec.V)] := rfl
@[go_sem] theorem sz_GOut : Row.sz GOut = 4 := rfl
instance : Dat GOut where
 ct := Dat.ct Int ++ (Dat.ct Int ++ (Dat.ct GRec))
 ok x := Dat.ok x.Node ∧ Dat.ok x.Epoch ∧ Dat.ok x.Rec
 len := rfl
 of avs h := by
  obtain ⟨b0, r0, rfl, h0, g0⟩ := rowOK_split h
  obtain ⟨b1, r1, rfl, h1, g1⟩ := rowOK_split g0
  obtain ⟨x0, rfl, k0⟩ := Dat.of (α := Int) _ h0
  obtain ⟨x1, rfl, k1⟩ := Dat.of (α := Int) _ h1
  obtain ⟨x2, rfl, k2⟩ := Dat.of (α := GRec) _ g1
  exact ⟨⟨x0, x1, x2⟩, rfl, k0, k1, k2⟩
structure GItem where
 Rec : GRec
 N : Int
instance : Row GItem := ⟨3, fun x => [.v (.int .i64 x.Rec.K), .v (.int .i64 x.Rec.V), .v (.int .i64 x.N)]⟩
@[go_sem] theorem row_GItem (x : GItem) : Row.row x = [.v (.int .i64 x.Rec.K), .v (.int .i64 x.Rec.V), .v (.int .i64 x.N)] := rfl
@[go_sem] theorem sz_GItem : Row.sz GItem = 3 := rfl
instance : Dat GItem where
 ct := Dat.ct GRec ++ (Dat.ct Int)
 ok x := Dat.ok x.Rec ∧ Dat.ok x.N
 len := rfl
 of avs h := by
  obtain ⟨b0, r0, rfl, h0, g0⟩ := rowOK_split h
  obtain ⟨x0, rfl, k0⟩ := Dat.of (α := GRec) _ h0
  obtain ⟨x1, rfl, k1⟩ := Dat.of (α := Int) _ g0
  exact ⟨⟨x0, x1⟩, rfl, k0, k1⟩
structure GIns where
 Op : Int
 N : Int
instance : Row GIns := ⟨2, fun x => [.v (.int .i64 x.Op), .v (.int .i64 x.N)]⟩
@[go_sem] theorem row_GIns (x : GIns) : Row.row x = [.v (.int .i64 x.Op), .v (.int .i64 x.N)] := rfl
@[go_sem] theorem sz_GIns : Row.sz GIns = 2 := rfl
instance : Dat GIns where
 ct := Dat.ct Int ++ (Dat.ct Int)
 ok x := Dat.ok x.Op ∧ Dat.ok x.N
 len := rfl
 of avs h := by
  obtain ⟨b0, r0, rfl, h0, g0⟩ := rowOK_split h
  obtain ⟨x0, rfl, k0⟩ := Dat.of (α := Int) _ h0
  obtain ⟨x1, rfl, k1⟩ := Dat.of (α := Int) _ g0
  exact ⟨⟨x0, x1⟩, rfl, k0, k1⟩
structure GProg_machine where
 r : GRec
 stack : List Int
 out : List GRec
 at_ : Int
 bad : Int
instance : Row GProg_machine := ⟨6, fun x => [.v (.int .i64 x.r.K), .v (.int .i64 x.r.V), .sl 1 (enc x.stack), .sl 2 (enc x.out), .v (.int .i64 x.at_), .v (.int .i64 x.bad)]⟩
@[go_sem] theorem row_GProg_machine (x : GProg_machine) : Row.row x = [.v (.int .i64 x.r.K), .v (.int .i64 x.r.V), .sl 1 (enc x.stack), .sl 2 (enc x.out), .v (.int .i64 x.at_), .v (.int .i64 x.bad)] := rfl
@[go_sem] theorem sz_GProg_machine : Row.sz GProg_machine = 6 := rfl
instance : Dat GProg_machine where
 ct := Dat.ct GRec ++ (Dat.ct (List Int) ++ (Dat.ct (List GRec) ++ (Dat.ct Int ++ (Dat.ct Int))))
 ok x := Dat.ok x.r ∧ Dat.ok x.stack ∧ Dat.ok x.out ∧ Dat.ok x.at_ ∧ Dat.ok x.bad
 len := rfl
 of avs h := by
  obtain ⟨b0, r0, rfl, h0, g0⟩ := rowOK_split h
  obtain ⟨b1, r1, rfl, h1, g1⟩ := rowOK_split g0
  obtain ⟨b2, r2, rfl, h2, g2⟩ := rowOK_split g1
  obtain ⟨b3, r3, rfl, h3, g3⟩ := rowOK_split g2
  obtain ⟨x0, rfl, k0⟩ := Dat.of (α := GRec) _ h0
  obtain ⟨x1, rfl, k1⟩ := Dat.of (α := List Int) _ h1
  obtain ⟨x2, rfl, k2⟩ := Dat.of (α := List GRec) _ h2
  obtain ⟨x3, rfl, k3⟩ := Dat.of (α := Int) _ h3
  obtain ⟨x4, rfl, k4⟩ := Dat.of (α := Int) _ g3
  exact ⟨⟨x0, x1, x2, x3, x4⟩, rfl, k0, k1, k2, k3, k4⟩
structure GNode where
 Kind : Int
 Scope : Int
 Arg : Int
 Prog : List GIns
instance : Row GNode := ⟨4, fun x => [.v (.int .i64 x.Kind), .v (.int .i64 x.Scope), .v (.int .i64 x.Arg), .sl 2 (enc x.Prog)]⟩
@[go_sem] theorem row_GNode (x : GNode) : Row.row x = [.v (.int .i64 x.Kind), .v (.int .i64 x.Scope), .v (.int .i64 x.Arg), .sl 2 (enc x.Prog)] := rfl
@[go_sem] theorem sz_GNode : Row.sz GNode = 4 := rfl
instance : Dat GNode where
 ct := Dat.ct Int ++ (Dat.ct Int ++ (Dat.ct Int ++ (Dat.ct (List GIns))))
 ok x := Dat.ok x.Kind ∧ Dat.ok x.Scope ∧ Dat.ok x.Arg ∧ Dat.ok x.Prog
 len := rfl
 of avs h := by
  obtain ⟨b0, r0, rfl, h0, g0⟩ := rowOK_split h
  obtain ⟨b1, r1, rfl, h1, g1⟩ := rowOK_split g0
  obtain ⟨b2, r2, rfl, h2, g2⟩ := rowOK_split g1
  obtain ⟨x0, rfl, k0⟩ := Dat.of (α := Int) _ h0
  obtain ⟨x1, rfl, k1⟩ := Dat.of (α := Int) _ h1
  obtain ⟨x2, rfl, k2⟩ := Dat.of (α := Int) _ h2
  obtain ⟨x3, rfl, k3⟩ := Dat.of (α := List GIns) _ g2
  exact ⟨⟨x0, x1, x2, x3⟩, rfl, k0, k1, k2, k3⟩
structure GOps_maker where
 out : List GItem
 many : Int
instance : Row GOps_maker := ⟨2, fun x => [.sl 3 (enc x.out), .v (.int .i64 x.many)]⟩
@[go_sem] theorem row_GOps_maker (x : GOps_maker) : Row.row x = [.sl 3 (enc x.out), .v (.int .i64 x.many)] := rfl
@[go_sem] theorem sz_GOps_maker : Row.sz GOps_maker = 2 := rfl
instance : Dat GOps_maker where
 ct := Dat.ct (List GItem) ++ (Dat.ct Int)
 ok x := Dat.ok x.out ∧ Dat.ok x.many
 len := rfl
 of avs h := by
  obtain ⟨b0, r0, rfl, h0, g0⟩ := rowOK_split h
  obtain ⟨x0, rfl, k0⟩ := Dat.of (α := List GItem) _ h0
  obtain ⟨x1, rfl, k1⟩ := Dat.of (α := Int) _ g0
  exact ⟨⟨x0, x1⟩, rfl, k0, k1⟩
structure GOps_wide where
 hi : Int
 lo : Nu64
instance : Row GOps_wide := ⟨2, fun x => [.v (.int .i64 x.hi), .v (.int .u64 x.lo.n)]⟩
@[go_sem] theorem row_GOps_wide (x : GOps_wide) : Row.row x = [.v (.int .i64 x.hi), .v (.int .u64 x.lo.n)] := rfl
@[go_sem] theorem sz_GOps_wide : Row.sz GOps_wide = 2 := rfl
instance : Dat GOps_wide where
 ct := Dat.ct Int ++ (Dat.ct Nu64)
 ok x := Dat.ok x.hi ∧ Dat.ok x.lo
 len := rfl
 of avs h := by
  obtain ⟨b0, r0, rfl, h0, g0⟩ := rowOK_split h
  obtain ⟨x0, rfl, k0⟩ := Dat.of (α := Int) _ h0
  obtain ⟨x1, rfl, k1⟩ := Dat.of (α := Nu64) _ g0
  exact ⟨⟨x0, x1⟩, rfl, k0, k1⟩
structure GTime where
 D : Int
 C : Arr4 Int
instance : Row GTime := ⟨5, fun x => [.v (.int .i64 x.D), .v (.int .i64 x.C.a0), .v (.int .i64 x.C.a1), .v (.int .i64 x.C.a2), .v (.int .i64 x.C.a3)]⟩
@[go_sem] theorem row_GTime (x : GTime) : Row.row x = [.v (.int .i64 x.D), .v (.int .i64 x.C.a0), .v (.int .i64 x.C.a1), .v (.int .i64 x.C.a2), .v (.int .i64 x.C.a3)] := rfl
@[go_sem] theorem sz_GTime : Row.sz GTime = 5 := rfl
instance : Dat GTime where
 ct := Dat.ct Int ++ (Dat.ct (Arr4 Int))
 ok x := Dat.ok x.D ∧ Dat.ok x.C
 len := rfl
 of avs h := by
  obtain ⟨b0, r0, rfl, h0, g0⟩ := rowOK_split h
  obtain ⟨x0, rfl, k0⟩ := Dat.of (α := Int) _ h0
  obtain ⟨x1, rfl, k1⟩ := Dat.of (α := Arr4 Int) _ g0
  exact ⟨⟨x0, x1⟩, rfl, k0, k1⟩
structure GSlot where
 Time : GTime
 In : Arr2 (List GItem)
 Sent : List GItem
 Dirty : Bool
 Fired : Bool
instance : Row GSlot := ⟨10, fun x => [.v (.int .i64 x.Time.D), .v (.int .i64 x.Time.C.a0), .v (.int .i64 x.Time.C.a1), .v (.int .i64 x.Time.C.a2), .v (.int .i64 x.Time.C.a3), .sl 3 (enc x.In.a0), .sl 3 (enc x.In.a1), .sl 3 (enc x.Sent), .v (.bool x.Dirty), .v (.bool x.Fired)]⟩
@[go_sem] theorem row_GSlot (x : GSlot) : Row.row x = [.v (.int .i64 x.Time.D), .v (.int .i64 x.Time.C.a0), .v (.int .i64 x.Time.C.a1), .v (.int .i64 x.Time.C.a2), .v (.int .i64 x.Time.C.a3), .sl 3 (enc x.In.a0), .sl 3 (enc x.In.a1), .sl 3 (enc x.Sent), .v (.bool x.Dirty), .v (.bool x.Fired)] := rfl
@[go_sem] theorem sz_GSlot : Row.sz GSlot = 10 := rfl
instance : Dat GSlot where
 ct := Dat.ct GTime ++ (Dat.ct (Arr2 (List GItem)) ++ (Dat.ct (List GItem) ++ (Dat.ct Bool ++ (Dat.ct Bool))))
 ok x := Dat.ok x.Time ∧ Dat.ok x.In ∧ Dat.ok x.Sent ∧ Dat.ok x.Dirty ∧ Dat.ok x.Fired
 len := rfl
 of avs h := by
  obtain ⟨b0, r0, rfl, h0, g0⟩ := rowOK_split h
  obtain ⟨b1, r1, rfl, h1, g1⟩ := rowOK_split g0
  obtain ⟨b2, r2, rfl, h2, g2⟩ := rowOK_split g1
  obtain ⟨b3, r3, rfl, h3, g3⟩ := rowOK_split g2
  obtain ⟨x0, rfl, k0⟩ := Dat.of (α := GTime) _ h0
  obtain ⟨x1, rfl, k1⟩ := Dat.of (α := Arr2 (List GItem)) _ h1
  obtain ⟨x2, rfl, k2⟩ := Dat.of (α := List GItem) _ h2
  obtain ⟨x3, rfl, k3⟩ := Dat.of (α := Bool) _ h3
  obtain ⟨x4, rfl, k4⟩ := Dat.of (α := Bool) _ g3
  exact ⟨⟨x0, x1, x2, x3, x4⟩, rfl, k0, k1, k2, k3, k4⟩
structure GBackwashlaw15_came where
 time : GTime
 in_ : Arr2 (List GItem)
instance : Row GBackwashlaw15_came := ⟨7, fun x => [.v (.int .i64 x.time.D), .v (.int .i64 x.time.C.a0), .v (.int .i64 x.time.C.a1), .v (.int .i64 x.time.C.a2), .v (.int .i64 x.time.C.a3), .sl 3 (enc x.in_.a0), .sl 3 (enc x.in_.a1)]⟩
@[go_sem] theorem row_GBackwashlaw15_came (x : GBackwashlaw15_came) : Row.row x = [.v (.int .i64 x.time.D), .v (.int .i64 x.time.C.a0), .v (.int .i64 x.time.C.a1), .v (.int .i64 x.time.C.a2), .v (.int .i64 x.time.C.a3), .sl 3 (enc x.in_.a0), .sl 3 (enc x.in_.a1)] := rfl
@[go_sem] theorem sz_GBackwashlaw15_came : Row.sz GBackwashlaw15_came = 7 := rfl
instance : Dat GBackwashlaw15_came where
 ct := Dat.ct GTime ++ (Dat.ct (Arr2 (List GItem)))
 ok x := Dat.ok x.time ∧ Dat.ok x.in_
 len := rfl
 of avs h := by
  obtain ⟨b0, r0, rfl, h0, g0⟩ := rowOK_split h
  obtain ⟨x0, rfl, k0⟩ := Dat.of (α := GTime) _ h0
  obtain ⟨x1, rfl, k1⟩ := Dat.of (α := Arr2 (List GItem)) _ g0
  exact ⟨⟨x0, x1⟩, rfl, k0, k1⟩
structure GBackwashlaw15_Act where
 Make : Bool
 Port : UInt8
 Time : GTime
 Rec : GRec
 N : Ni8
instance : Row GBackwashlaw15_Act := ⟨10, fun x => [.v (.bool x.Make), .v (.int .u8 ((UInt8.toNat x.Port : Nat) : Int)), .v (.int .i64 x.Time.D), .v (.int .i64 x.Time.C.a0), .v (.int .i64 x.Time.C.a1), .v (.int .i64 x.Time.C.a2), .v (.int .i64 x.Time.C.a3), .v (.int .i64 x.Rec.K), .v (.int .i64 x.Rec.V), .v (.int .i8 x.N.n)]⟩
@[go_sem] theorem row_GBackwashlaw15_Act (x : GBackwashlaw15_Act) : Row.row x = [.v (.bool x.Make), .v (.int .u8 ((UInt8.toNat x.Port : Nat) : Int)), .v (.int .i64 x.Time.D), .v (.int .i64 x.Time.C.a0), .v (.int .i64 x.Time.C.a1), .v (.int .i64 x.Time.C.a2), .v (.int .i64 x.Time.C.a3), .v (.int .i64 x.Rec.K), .v (.int .i64 x.Rec.V), .v (.int .i8 x.N.n)] := rfl
@[go_sem] theorem sz_GBackwashlaw15_Act : Row.sz GBackwashlaw15_Act = 10 := rfl
instance : Dat GBackwashlaw15_Act where
 ct := Dat.ct Bool ++ (Dat.ct UInt8 ++ (Dat.ct GTime ++ (Dat.ct GRec ++ (Dat.ct Ni8))))
 ok x := Dat.ok x.Make ∧ Dat.ok x.Port ∧ Dat.ok x.Time ∧ Dat.ok x.Rec ∧ Dat.ok x.N
 len := rfl
 of avs h := by
  obtain ⟨b0, r0, rfl, h0, g0⟩ := rowOK_split h
  obtain ⟨b1, r1, rfl, h1, g1⟩ := rowOK_split g0
  obtain ⟨b2, r2, rfl, h2, g2⟩ := rowOK_split g1
  obtain ⟨b3, r3, rfl, h3, g3⟩ := rowOK_split g2
  obtain ⟨x0, rfl, k0⟩ := Dat.of (α := Bool) _ h0
  obtain ⟨x1, rfl, k1⟩ := Dat.of (α := UInt8) _ h1
  obtain ⟨x2, rfl, k2⟩ := Dat.of (α := GTime) _ h2
  obtain ⟨x3, rfl, k3⟩ := Dat.of (α := GRec) _ h3
  obtain ⟨x4, rfl, k4⟩ := Dat.of (α := Ni8) _ g3
  exact ⟨⟨x0, x1, x2, x3, x4⟩, rfl, k0, k1, k2, k3, k4⟩
@[go_sem] theorem eqT40 : EqT Try.prog 40 [some .i64, some .i64] := EqT_of (by kernel_rfl) (by kernel_rfl) (by kernel_rfl)
@[go_sem] theorem eqT42 : EqT Try.prog 42 [some .i64, some .i64, some .i64] := EqT_of (by kernel_rfl) (by kernel_rfl) (by kernel_rfl)
@[go_sem] theorem eqT72 : EqT Try.prog 72 [some .i64, some .i64, some .i64, some .i64, some .i64] := EqT_of (by kernel_rfl) (by kernel_rfl) (by kernel_rfl)
@[go_sem] theorem eqT107 : EqT Try.prog 107 [some .i64, some .i64, some .i64, some .i64, some .i64, none] := EqT_of (by kernel_rfl) (by kernel_rfl) (by kernel_rfl)
attribute [go_sem] Try.ntmps3 Try.results3 Try.ntmps4 Try.results4 Try.ntmps5 Try.results5 Try.ntmps6 Try.results6 Try.ntmps7 Try.results7 Try.ntmps10 Try.results10 Try.ntmps11 Try.results11 Try.ntmps12 Try.results12 Try.ntmps13 Try.results13 Try.ntmps14 Try.results14 Try.ntmps15 Try.results15 Try.ntmps16 Try.results16 Try.ntmps17 Try.results17 Try.ntmps18 Try.results18 Try.ntmps19 Try.results19 Try.ntmps20 Try.results20 Try.ntmps21 Try.results21 Try.ntmps22 Try.results22 Try.ntmps23 Try.results23 Try.ntmps24 Try.results24 Try.ntmps25 Try.results25 Try.ntmps26 Try.results26 Try.ntmps27 Try.results27 Try.ntmps28 Try.results28 Try.ntmps35 Try.results35 Try.ntmps36 Try.results36 Try.ntmps37 Try.results37 Try.ntmps38 Try.results38 Try.ntmps39 Try.results39 Try.ntmps40 Try.results40 Try.ntmps41 Try.results41 Try.ntmps42 Try.results42 Try.ntmps43 Try.results43 Try.ntmps44 Try.results44 Try.ntmps45 Try.results45 Try.ntmps46 Try.results46 Try.ntmps47 Try.results47 Try.ntmps48 Try.results48 Try.ntmps49 Try.results49 Try.ntmps50 Try.results50 Try.ntmps51 Try.results51 Try.ntmps52 Try.results52 Try.ntmps53 Try.results53 Try.ntmps54 Try.results54 Try.ntmps55 Try.results55 Try.ntmps56 Try.results56 Try.ntmps57 Try.results57 Try.ntmps58 Try.results58 Try.ntmps59 Try.results59 Try.ntmps60 Try.results60 Try.ntmps61 Try.results61 Try.ntmps62 Try.results62 Try.ntmps63 Try.results63 Try.ntmps64 Try.results64 Try.ntmps65 Try.results65 Try.ntmps66 Try.results66 Try.ntmps67 Try.results67 Try.ntmps68 Try.results68 Try.ntmps69 Try.results69 Try.ntmps70 Try.results70 Try.ntmps71 Try.results71 Try.ntmps72 Try.results72 Try.ntmps73 Try.results73 Try.ntmps74 Try.results74 Try.ntmps75 Try.results75 Try.ntmps89 Try.results89 Try.ntmps90 Try.results90 Try.ntmps91 Try.results91 Try.ntmps92 Try.results92 Try.ntmps93 Try.results93 Try.ntmps94 Try.results94 Try.ntmps95 Try.results95 Try.ntmps96 Try.results96 Try.ntmps97 Try.results97 Try.ntmps98 Try.results98 Try.ntmps99 Try.results99 Try.ntmps100 Try.results100 Try.ntmps101 Try.results101 Try.ntmps102 Try.results102 Try.ntmps103 Try.results103 Try.ntmps104 Try.results104 Try.ntmps105 Try.results105 Try.ntmps106 Try.results106 Try.ntmps107 Try.results107 Try.ntmps108 Try.results108 Try.ntmps109 Try.results109 Try.ntmps110 Try.results110 Try.ntmps111 Try.results111 Try.ntmps112 Try.results112 Try.ntmps116 Try.results116 Try.ntmps117 Try.results117 Try.ntmps118 Try.results118 Try.ntmps119 Try.results119 Try.ntmps120 Try.results120 Try.ntmps121 Try.results121 Try.ntmps122 Try.results122 Try.ntmps123 Try.results123 Try.ntmps124 Try.results124 Try.ntmps125 Try.results125 Try.ntmps126 Try.results126 Try.ntmps127 Try.results127 Try.ntmps128 Try.results128 Try.ntmps129 Try.results129 Try.ntmps130 Try.results130 Try.ntmps154 Try.results154 Try.ntmps162 Try.results162 Try.ntmps163 Try.results163 Try.ntmps164 Try.results164 Try.ntmps165 Try.results165 Try.ntmps166 Try.results166 Try.ntmps169 Try.results169 Try.ntmps170 Try.results170 Try.ntmps171 Try.results171 Try.ntmps172 Try.results172 Try.ntmps173 Try.results173 Try.ntmps194 Try.results194 Try.ntmps195 Try.results195 Try.ntmps196 Try.results196 Try.ntmps208 Try.results208 Try.ntmps212 Try.results212 Try.ntmps213 Try.results213 Try.ntmps223 Try.results223 Try.ntmps224 Try.results224 Try.ntmps230 Try.results230 Try.ntmps233 Try.results233 Try.ntmps234 Try.results234 Try.ntmps235 Try.results235 Try.ntmps236 Try.results236 Try.ntmps238 Try.results238 Try.ntmps239 Try.results239 Try.ntmps240 Try.results240 Try.ntmps241 Try.results241
instance : Inhabited GRec := ⟨⟨0, 0⟩⟩

def f_ts_greatest (i_0 : Int) : Option Int :=
 (if (i_0 == 0) = true then some 1048576
 else some 64)
theorem f_ts_greatest_ok (i_0 : Int)  (r : Int) (h : f_ts_greatest i_0 = some r) : PureS Try.prog 164 [.v (.int .i64 i_0)] 0 (.v (.int .i64 r)) := by
 unfold PureS
 refine Spec.of_vc Try.func164 rfl (by kernel_rfl) (by kernel_rfl) ?_
 rw [f_ts_greatest] at h
 refine sg fun QQ1 hQ1 => ?_
 simp only [go_sem]
 refine seqQ_normal hQ1 ?_
 refine sg fun QQ2 hQ2 => ?_
 refine sg fun QQ3 hQ3 => ?_
 simp only [go_sem]
 refine seqQ_normal hQ3 ?_
 refine vc_cond_of (b := (i_0 == 0)) (by (simp only [go_sem]; done)) (fun hb_0 => ?_) (fun hb_0 => ?_)
 ·
  replace h := if_t h hb_0
  simp only [bool_to_prop] at hb_0
  refine sg fun QQ4 hQ4 => ?_
  simp only [go_sem]
  refine seqQ_normal hQ4 ?_
  refine vc_ret_of ?_
  refine seqQ_ret hQ2 ?_
  simp only [go_sem]
  obtain rfl := Option.some.inj h
  refine retW_pure rfl ?_
  simp only [go_sem, Le]
 ·
  replace h := if_f h hb_0
  simp only [bool_to_prop] at hb_0
  refine vc_skip_of ?_
  refine seqQ_normal hQ2 ?_
  refine sg fun QQ5 hQ5 => ?_
  simp only [go_sem]
  refine seqQ_normal hQ5 ?_
  refine vc_ret_of ?_
  simp only [go_sem]
  obtain rfl := Option.some.inj h
  refine retW_pure rfl ?_
  simp only [go_sem, Le]

def f_ts_Right_B1 (t_0 : GTime) (rec_1 : Int → Option Bool) : Int → Option Bool :=
 fun t15_1 =>
 (if (decide (t15_1 < 4)) = true then bindO (idx ([t_0.C.a0, t_0.C.a1, t_0.C.a2, t_0.C.a3] : List Int) t15_1) (fun (xv_1 : Int) =>
 (if (decide (xv_1 < 0)) = true then some false
 else (if (decide (t15_1 < t_0.D)) = true then bindO (f_ts_greatest t15_1) (fun (v_2 : Int) =>
 (if ((decide (v_2 < xv_1)) || ((decide (t_0.D ≤ t15_1)) && (!(xv_1 == 0)))) = true then some false
 else rec_1 (IntKind.i64.wrap (t15_1 + 1))))
 else (if ((decide (t_0.D ≤ t15_1)) && (!(xv_1 == 0))) = true then some false
 else rec_1 (IntKind.i64.wrap (t15_1 + 1))))))
 else some true)
def f_ts_Right (t_0 : GTime) : Option Bool :=
 (if ((decide (t_0.D < 1)) || (decide (4 < t_0.D))) = true then some false
 else loopK (f_ts_Right_B1 t_0) rounds 0)
theorem f_ts_Right_ok (t_0 : GTime)  (r : Bool) (h : f_ts_Right t_0 = some r) : PureS Try.prog 91 [.agg [.v (.int .i64 t_0.D), .v (.int .i64 t_0.C.a0), .v (.int .i64 t_0.C.a1), .v (.int .i64 t_0.C.a2), .v (.int .i64 t_0.C.a3)]] 0 (.v (.bool r)) := by
 unfold PureS
 refine Spec.of_vc Try.func91 rfl (by kernel_rfl) (by kernel_rfl) ?_
 rw [f_ts_Right] at h
 refine sg fun QQ1 hQ1 => ?_
 simp only [go_sem]
 refine seqQ_normal hQ1 ?_
 refine sg fun QQ2 hQ2 => ?_
 refine sg fun QQ3 hQ3 => ?_
 simp only [go_sem]
 refine seqQ_normal hQ3 ?_
 refine vc_cond_of (b := ((decide (t_0.D < 1)) || (decide (4 < t_0.D)))) (by (simp only [go_sem]; done)) (fun hb_0 => ?_) (fun hb_0 => ?_)
 ·
  replace h := if_t h hb_0
  simp only [bool_to_prop] at hb_0
  refine sg fun QQ4 hQ4 => ?_
  simp only [go_sem]
  refine seqQ_normal hQ4 ?_
  refine vc_ret_of ?_
  refine seqQ_ret hQ2 ?_
  simp only [go_sem]
  obtain rfl := Option.some.inj h
  refine retW_pure rfl ?_
  simp only [go_sem, Le]
 ·
  replace h := if_f h hb_0
  simp only [bool_to_prop] at hb_0
  refine vc_skip_of ?_
  refine seqQ_normal hQ2 ?_
  refine vc_join (by kernel_rfl) ?_
  refine seq_go_gen ?_
  intro QQ5 hQ5
  refine sg fun QQ6 hQ6 => ?_
  simp only [go_sem]
  refine seqQ_normal hQ6 ?_
  refine vc_block_gen ?_
  intro QQ7 hQ7
  refine vc_loop_of ?_
  refine loop_gen (ι := Nat × Int) (fun ((_, t15_1) : Nat × Int) => (⟨0, [(1, .ptr 0 0), (14, .agg [.v (.int .i64 t_0.C.a0), .v (.int .i64 t_0.C.a1), .v (.int .i64 t_0.C.a2), .v (.int .i64 t_0.C.a3)]), (15, .v (.int .i64 t15_1))], [(0, .box [.v (.int .i64 t_0.D), .v (.int .i64 t_0.C.a0), .v (.int .i64 t_0.C.a1), .v (.int .i64 t_0.C.a2), .v (.int .i64 t_0.C.a3)])], 1, 44⟩ : St)) (fun ((n_, t15_1) : Nat × Int) => loopK (f_ts_Right_B1 t_0) n_ t15_1 = some r) (fun p => p.1) (rounds, 0) [some 0] ?_ h ?_
  · simp only [go_sem, Le]
  ·
   rintro ⟨n_1, t15_1⟩ h QQ8 hQ8
   dsimp only at h
   replace h := loopK_some h
   obtain ⟨m_1, rfl, h⟩ := h
   rw [f_ts_Right_B1] at h
   refine sg fun QQ9 hQ9 => ?_
   simp only [go_sem]
   refine seqQ_normal hQ9 ?_
   refine sg fun QQ10 hQ10 => ?_
   refine vc_cond_of (b := (decide (t15_1 < 4))) (by (simp only [go_sem]; done)) (fun hb_11 => ?_) (fun hb_11 => ?_)
   ·
    replace h := if_t h hb_11
    simp only [bool_to_prop] at hb_11
    refine vc_skip_of ?_
    refine seqQ_normal hQ10 ?_
    refine sg fun QQ11 hQ11 => ?_
    refine vc_block_gen ?_
    intro QQ12 hQ12
    refine sg fun QQ13 hQ13 => ?_
    obtain ⟨xv_1, exv_1, h⟩ := bindO_some h
    obtain ⟨fxv_1a, fxv_1b, fxv_1c, fxv_1d⟩ := idx_at (f := (fun y => AV.v (.int .i64 y))) exv_1
    simp only [List.cons_append, List.nil_append, List.append_nil, List.map_cons, List.map_nil, List.length_cons, List.length_nil, Nat.zero_add, Nat.reduceAdd] at fxv_1b fxv_1c fxv_1d
    simp only [go_sem, fxv_1a, fxv_1b, fxv_1c, fxv_1d]
    refine And.intro (by omega) ?_
    refine And.intro (by omega) ?_
    simp only [List.getD_eq_getElem?_getD, Nat.mul_one, fxv_1d, Option.map_some, Option.getD_some, true_and]
    refine seqQ_normal hQ13 ?_
    refine sg fun QQ14 hQ14 => ?_
    simp only [go_sem]
    rcases hb_12 : (decide (xv_1 < 0)) with _ | _
    ·
     replace h := if_f h hb_12
     simp only [go_sem, hb_12]
     rcases hb_13 : (decide (t15_1 < t_0.D)) with _ | _
     ·
      replace h := if_f h hb_13
      simp only [go_sem, hb_13]
      refine seqQ_normal hQ14 ?_
      refine vc_cond_of (b := ((decide (t_0.D ≤ t15_1)) && (!(xv_1 == 0)))) (by (simp only [go_sem]; done)) (fun hb_14 => ?_) (fun hb_14 => ?_)
      ·
       replace h := if_t h hb_14
       simp only [bool_to_prop] at hb_14
       refine sg fun QQ15 hQ15 => ?_
       simp only [go_sem]
       refine seqQ_normal hQ15 ?_
       refine vc_ret_of ?_
       refine blockQ_ret hQ12 ?_
       refine seqQ_ret hQ11 ?_
       refine thenQ_ret hQ8 ?_
       refine blockQ_ret hQ7 ?_
       refine seqQ_ret hQ5 ?_
       simp only [go_sem]
       obtain rfl := Option.some.inj h
       refine retW_pure rfl ?_
       simp only [go_sem, Le]
      ·
       replace h := if_f h hb_14
       simp only [bool_to_prop] at hb_14
       refine vc_skip_of ?_
       refine blockQ_normal hQ12 ?_
       refine seqQ_normal hQ11 ?_
       simp only [go_sem]
       refine thenQ_normal hQ8 ?_
       refine ⟨(m_1, IntKind.i64.wrap (t15_1 + 1)), [some 0], ?_, h, Nat.lt_succ_self _⟩
       simp only [go_sem, Le]
     ·
      replace h := if_t h hb_13
      obtain ⟨v_2, ev_2, h⟩ := bindO_some h
      simp only [go_sem, hb_13]
      refine call0 (f_ts_greatest_ok t15_1 v_2 ev_2) (by rfl) (by rfl) ?_
      simp only [go_sem]
      refine And.intro (by omega) ?_
      refine seqQ_normal hQ14 ?_
      refine vc_cond_of (b := ((decide (v_2 < xv_1)) || ((decide (t_0.D ≤ t15_1)) && (!(xv_1 == 0))))) (by (simp only [go_sem]; done)) (fun hb_15 => ?_) (fun hb_15 => ?_)
      ·
       replace h := if_t h hb_15
       simp only [bool_to_prop] at hb_15
       refine sg fun QQ16 hQ16 => ?_
       simp only [go_sem]
       refine seqQ_normal hQ16 ?_
       refine vc_ret_of ?_
       refine blockQ_ret hQ12 ?_
       refine seqQ_ret hQ11 ?_
       refine thenQ_ret hQ8 ?_
       refine blockQ_ret hQ7 ?_
       refine seqQ_ret hQ5 ?_
       simp only [go_sem]
       obtain rfl := Option.some.inj h
       refine retW_pure rfl ?_
       simp only [go_sem, Le]
      ·
       replace h := if_f h hb_15
       simp only [bool_to_prop] at hb_15
       refine vc_skip_of ?_
       refine blockQ_normal hQ12 ?_
       refine seqQ_normal hQ11 ?_
       simp only [go_sem]
       refine thenQ_normal hQ8 ?_
       refine ⟨(m_1, IntKind.i64.wrap (t15_1 + 1)), [some 0], ?_, h, Nat.lt_succ_self _⟩
       simp only [go_sem, Le]
    ·
     replace h := if_t h hb_12
     simp only [go_sem, hb_12]
     refine seqQ_normal hQ14 ?_
     refine vc_cond_t (by (simp only [go_sem]; done)) ?_
     refine sg fun QQ17 hQ17 => ?_
     simp only [go_sem]
     refine seqQ_normal hQ17 ?_
     refine vc_ret_of ?_
     refine blockQ_ret hQ12 ?_
     refine seqQ_ret hQ11 ?_
     refine thenQ_ret hQ8 ?_
     refine blockQ_ret hQ7 ?_
     refine seqQ_ret hQ5 ?_
     simp only [go_sem]
     obtain rfl := Option.some.inj h
     refine retW_pure rfl ?_
     simp only [go_sem, Le]
   ·
    replace h := if_f h hb_11
    simp only [bool_to_prop] at hb_11
    refine vc_exit_of ?_
    refine seqQ_exit hQ10 ?_
    refine thenQ_exit hQ8 ?_
    refine blockQ_exit hQ7 ?_
    refine seqQ_normal hQ5 ?_
    refine sg fun QQ18 hQ18 => ?_
    simp only [go_sem]
    refine seqQ_normal hQ18 ?_
    refine vc_ret_of ?_
    simp only [go_sem]
    obtain rfl := Option.some.inj h
    refine retW_pure rfl ?_
    simp only [go_sem, Le]

def f_ts_Less_B1 (a_0 : GTime) (b_0 : GTime) (rec_1 : Int → Option Bool) : Int → Option Bool :=
 fun t19_1 =>
 (if (decide (t19_1 < (min a_0.D b_0.D))) = true then guardO (0 ≤ t19_1 ∧ t19_1 < 4) (
 bindO (idx ([a_0.C.a0, a_0.C.a1, a_0.C.a2, a_0.C.a3] : List Int) t19_1) (fun (xv_4 : Int) =>
 guardO (0 ≤ t19_1 ∧ t19_1 < 4) (
 bindO (idx ([b_0.C.a0, b_0.C.a1, b_0.C.a2, b_0.C.a3] : List Int) t19_1) (fun (xv_5 : Int) =>
 (if (!(xv_4 == xv_5)) = true then guardO (0 ≤ t19_1 ∧ t19_1 < 4) (
 bindO (idx ([a_0.C.a0, a_0.C.a1, a_0.C.a2, a_0.C.a3] : List Int) t19_1) (fun (xv_6 : Int) =>
 guardO (0 ≤ t19_1 ∧ t19_1 < 4) (
 bindO (idx ([b_0.C.a0, b_0.C.a1, b_0.C.a2, b_0.C.a3] : List Int) t19_1) (fun (xv_7 : Int) =>
 some (decide (xv_6 < xv_7))))))
 else rec_1 (IntKind.i64.wrap (t19_1 + 1)))))))
 else some (decide (a_0.D < b_0.D)))
def f_ts_Less (a_0 : GTime) (b_0 : GTime) : Option Bool :=
 bindO (f_ts_Right a_0) (fun (v_0 : Bool) =>
 (if v_0 = true then bindO (f_ts_Right b_0) (fun (v_1 : Bool) =>
 (if (!v_1) = true then some false
 else loopK (f_ts_Less_B1 a_0 b_0) rounds 0))
 else some false))
theorem f_ts_Less_ok (a_0 : GTime) (b_0 : GTime)  (r : Bool) (h : f_ts_Less a_0 b_0 = some r) : PureS Try.prog 103 [.agg [.v (.int .i64 a_0.D), .v (.int .i64 a_0.C.a0), .v (.int .i64 a_0.C.a1), .v (.int .i64 a_0.C.a2), .v (.int .i64 a_0.C.a3)], .agg [.v (.int .i64 b_0.D), .v (.int .i64 b_0.C.a0), .v (.int .i64 b_0.C.a1), .v (.int .i64 b_0.C.a2), .v (.int .i64 b_0.C.a3)]] 0 (.v (.bool r)) := by
 unfold PureS
 refine Spec.of_vc Try.func103 rfl (by kernel_rfl) (by kernel_rfl) ?_
 rw [f_ts_Less] at h
 refine sg fun QQ1 hQ1 => ?_
 simp only [go_sem]
 refine seqQ_normal hQ1 ?_
 refine sg fun QQ2 hQ2 => ?_
 refine sg fun QQ3 hQ3 => ?_
 obtain ⟨v_0, ev_0, h⟩ := bindO_some h
 simp only [go_sem]
 refine call0 (f_ts_Right_ok a_0 v_0 ev_0) (by rfl) (by rfl) ?_
 simp only [go_sem]
 rcases hb_0 : v_0 with _ | _
 ·
  replace h := if_f h hb_0
  simp only [go_sem, hb_0]
  refine seqQ_normal hQ3 ?_
  refine vc_cond_t (by (simp only [go_sem]; done)) ?_
  refine sg fun QQ4 hQ4 => ?_
  simp only [go_sem]
  refine seqQ_normal hQ4 ?_
  refine vc_ret_of ?_
  refine seqQ_ret hQ2 ?_
  simp only [go_sem]
  obtain rfl := Option.some.inj h
  refine retW_pure rfl ?_
  simp only [go_sem, Le]
 ·
  replace h := if_t h hb_0
  obtain ⟨v_1, ev_1, h⟩ := bindO_some h
  simp only [go_sem, hb_0]
  refine call0 (f_ts_Right_ok b_0 v_1 ev_1) (by rfl) (by rfl) ?_
  simp only [go_sem]
  refine seqQ_normal hQ3 ?_
  refine vc_cond_of (b := (!v_1)) (by (simp only [go_sem]; done)) (fun hb_1 => ?_) (fun hb_1 => ?_)
  ·
   replace h := if_t h hb_1
   simp only [bool_to_prop] at hb_1
   refine sg fun QQ5 hQ5 => ?_
   simp only [go_sem]
   refine seqQ_normal hQ5 ?_
   refine vc_ret_of ?_
   refine seqQ_ret hQ2 ?_
   simp only [go_sem]
   obtain rfl := Option.some.inj h
   refine retW_pure rfl ?_
   simp only [go_sem, Le]
  ·
   replace h := if_f h hb_1
   simp only [bool_to_prop] at hb_1
   refine vc_skip_of ?_
   refine seqQ_normal hQ2 ?_
   refine vc_join (by kernel_rfl) ?_
   refine seq_go_gen ?_
   intro QQ6 hQ6
   refine sg fun QQ7 hQ7 => ?_
   simp only [go_sem]
   refine seqQ_normal hQ7 ?_
   refine vc_block_gen ?_
   intro QQ8 hQ8
   refine vc_loop_of ?_
   refine loop_gen (ι := Nat × Int) (fun ((_, t19_1) : Nat × Int) => (⟨0, [(2, .ptr 0 0), (3, .ptr 1 0), (18, .v (.int .i64 (min a_0.D b_0.D))), (19, .v (.int .i64 t19_1))], [(0, .box [.v (.int .i64 a_0.D), .v (.int .i64 a_0.C.a0), .v (.int .i64 a_0.C.a1), .v (.int .i64 a_0.C.a2), .v (.int .i64 a_0.C.a3)]), (1, .box [.v (.int .i64 b_0.D), .v (.int .i64 b_0.C.a0), .v (.int .i64 b_0.C.a1), .v (.int .i64 b_0.C.a2), .v (.int .i64 b_0.C.a3)])], 2, 46⟩ : St)) (fun ((n_, t19_1) : Nat × Int) => loopK (f_ts_Less_B1 a_0 b_0) n_ t19_1 = some r) (fun p => p.1) (rounds, 0) [some 0, some 1] ?_ h ?_
   · simp only [go_sem, Le] <;> (repeat' apply And.intro) <;> first | ((try with_reducible refine TL_eq ?_); omega) | ((try with_reducible refine TL_eq ?_); (simp [go_sem]; done))
   ·
    rintro ⟨n_1, t19_1⟩ h QQ9 hQ9
    dsimp only at h
    replace h := loopK_some h
    obtain ⟨m_1, rfl, h⟩ := h
    rw [f_ts_Less_B1] at h
    refine sg fun QQ10 hQ10 => ?_
    simp only [go_sem]
    refine seqQ_normal hQ10 ?_
    refine sg fun QQ11 hQ11 => ?_
    refine vc_cond_of (b := (decide (t19_1 < (min a_0.D b_0.D)))) (by (simp only [go_sem]; done)) (fun hb_6 => ?_) (fun hb_6 => ?_)
    ·
     replace h := if_t h hb_6
     simp only [bool_to_prop] at hb_6
     refine vc_skip_of ?_
     refine seqQ_normal hQ11 ?_
     refine sg fun QQ12 hQ12 => ?_
     refine vc_block_gen ?_
     intro QQ13 hQ13
     refine sg fun QQ14 hQ14 => ?_
     simp only [go_sem]
     refine seqQ_normal hQ14 ?_
     refine sg fun QQ15 hQ15 => ?_
     refine vc_draw ?_
     refine drawM_tail 8 [0, 0, 3, 7, 0, 0, 48, 112, 255] mixed (by kernel_rfl) (of_decide_eq_true (by kernel_rfl)) (by kernel_rfl) ?_
     obtain ⟨g_4, h⟩ := guardO_some h
     obtain ⟨xv_4, exv_4, h⟩ := bindO_some h
     obtain ⟨fxv_4a, fxv_4b, fxv_4c, fxv_4d⟩ := idx_at2 (f := (fun y => AV.v (.int .i64 y))) [.v (.int .i64 a_0.D)] [] exv_4
     simp only [List.cons_append, List.nil_append, List.append_nil, List.map_cons, List.map_nil, List.length_cons, List.length_nil, Nat.zero_add, Nat.reduceAdd] at fxv_4b fxv_4c fxv_4d
     obtain ⟨g_5, h⟩ := guardO_some h
     obtain ⟨xv_5, exv_5, h⟩ := bindO_some h
     obtain ⟨fxv_5a, fxv_5b, fxv_5c, fxv_5d⟩ := idx_at2 (f := (fun y => AV.v (.int .i64 y))) [.v (.int .i64 b_0.D)] [] exv_5
     simp only [List.cons_append, List.nil_append, List.append_nil, List.map_cons, List.map_nil, List.length_cons, List.length_nil, Nat.zero_add, Nat.reduceAdd] at fxv_5b fxv_5c fxv_5d
     simp only [go_sem, g_4, fxv_4a, fxv_4b, fxv_4c, fxv_4d, g_5, fxv_5a, fxv_5b, fxv_5c, fxv_5d]
     refine And.intro (by omega) ?_
     refine And.intro (by omega) ?_
     simp only [List.getD_eq_getElem?_getD, Nat.mul_one, fxv_4d, Option.map_some, Option.getD_some, true_and, List.getD_eq_getElem?_getD, Nat.mul_one, fxv_5d, Option.map_some, Option.getD_some, true_and]
     refine seqQ_normal hQ15 ?_
     refine vc_cond_of (b := (!(xv_4 == xv_5))) (by (simp only [go_sem]; done)) (fun hb_7 => ?_) (fun hb_7 => ?_)
     ·
      replace h := if_t h hb_7
      simp only [bool_to_prop] at hb_7
      refine sg fun QQ16 hQ16 => ?_
      refine vc_draw ?_
      refine drawM_tail 8 [0, 0, 3, 7, 0, 0, 48, 112, 255, 511] mixed (by kernel_rfl) (of_decide_eq_true (by kernel_rfl)) (by kernel_rfl) ?_
      obtain ⟨g_6, h⟩ := guardO_some h
      obtain ⟨xv_6, exv_6, h⟩ := bindO_some h
      obtain ⟨fxv_6a, fxv_6b, fxv_6c, fxv_6d⟩ := idx_at2 (f := (fun y => AV.v (.int .i64 y))) [.v (.int .i64 a_0.D)] [] exv_6
      simp only [List.cons_append, List.nil_append, List.append_nil, List.map_cons, List.map_nil, List.length_cons, List.length_nil, Nat.zero_add, Nat.reduceAdd] at fxv_6b fxv_6c fxv_6d
      obtain ⟨g_7, h⟩ := guardO_some h
      obtain ⟨xv_7, exv_7, h⟩ := bindO_some h
      obtain ⟨fxv_7a, fxv_7b, fxv_7c, fxv_7d⟩ := idx_at2 (f := (fun y => AV.v (.int .i64 y))) [.v (.int .i64 b_0.D)] [] exv_7
      simp only [List.cons_append, List.nil_append, List.append_nil, List.map_cons, List.map_nil, List.length_cons, List.length_nil, Nat.zero_add, Nat.reduceAdd] at fxv_7b fxv_7c fxv_7d
      simp only [go_sem, g_6, fxv_6a, fxv_6b, fxv_6c, fxv_6d, g_7, fxv_7a, fxv_7b, fxv_7c, fxv_7d]
      refine And.intro (by omega) ?_
      refine And.intro (by omega) ?_
      simp only [List.getD_eq_getElem?_getD, Nat.mul_one, fxv_6d, Option.map_some, Option.getD_some, true_and, List.getD_eq_getElem?_getD, Nat.mul_one, fxv_7d, Option.map_some, Option.getD_some, true_and]
      refine seqQ_normal hQ16 ?_
      refine vc_ret_of ?_
      refine blockQ_ret hQ13 ?_
      refine seqQ_ret hQ12 ?_
      refine thenQ_ret hQ9 ?_
      refine blockQ_ret hQ8 ?_
      refine seqQ_ret hQ6 ?_
      simp only [go_sem]
      obtain rfl := Option.some.inj h
      refine retW_pure rfl ?_
      simp only [go_sem, Le]
     ·
      replace h := if_f h hb_7
      simp only [bool_to_prop] at hb_7
      refine vc_skip_of ?_
      refine blockQ_normal hQ13 ?_
      refine seqQ_normal hQ12 ?_
      simp only [go_sem]
      refine thenQ_normal hQ9 ?_
      refine ⟨(m_1, IntKind.i64.wrap (t19_1 + 1)), [some 0, some 1], ?_, h, Nat.lt_succ_self _⟩
      simp only [go_sem, Le] <;> (repeat' apply And.intro) <;> first | ((try with_reducible refine TL_eq ?_); omega) | ((try with_reducible refine TL_eq ?_); (simp [go_sem]; done))
    ·
     replace h := if_f h hb_6
     simp only [bool_to_prop] at hb_6
     refine vc_exit_of ?_
     refine seqQ_exit hQ11 ?_
     refine thenQ_exit hQ9 ?_
     refine blockQ_exit hQ8 ?_
     refine seqQ_normal hQ6 ?_
     refine sg fun QQ17 hQ17 => ?_
     simp only [go_sem]
     refine seqQ_normal hQ17 ?_
     refine vc_ret_of ?_
     simp only [go_sem]
     obtain rfl := Option.some.inj h
     refine retW_pure rfl ?_
     simp only [go_sem, Le]

def f_ts_both (a_0 : GTime) (b_0 : GTime) : Option Bool :=
 bindO (f_ts_Right a_0) (fun (v_0 : Bool) =>
 (if v_0 = true then bindO (f_ts_Right b_0) (fun (v_1 : Bool) =>
 some (v_1 && (a_0.D == b_0.D)))
 else some false))
theorem f_ts_both_ok (a_0 : GTime) (b_0 : GTime)  (r : Bool) (h : f_ts_both a_0 b_0 = some r) : PureS Try.prog 171 [.agg [.v (.int .i64 a_0.D), .v (.int .i64 a_0.C.a0), .v (.int .i64 a_0.C.a1), .v (.int .i64 a_0.C.a2), .v (.int .i64 a_0.C.a3)], .agg [.v (.int .i64 b_0.D), .v (.int .i64 b_0.C.a0), .v (.int .i64 b_0.C.a1), .v (.int .i64 b_0.C.a2), .v (.int .i64 b_0.C.a3)]] 0 (.v (.bool r)) := by
 unfold PureS
 refine Spec.of_vc Try.func171 rfl (by kernel_rfl) (by kernel_rfl) ?_
 rw [f_ts_both] at h
 refine sg fun QQ1 hQ1 => ?_
 simp only [go_sem]
 refine seqQ_normal hQ1 ?_
 refine sg fun QQ2 hQ2 => ?_
 obtain ⟨v_0, ev_0, h⟩ := bindO_some h
 simp only [go_sem]
 refine call0 (f_ts_Right_ok a_0 v_0 ev_0) (by rfl) (by rfl) ?_
 simp only [go_sem]
 rcases hb_0 : v_0 with _ | _
 ·
  replace h := if_f h hb_0
  simp only [go_sem, hb_0]
  refine seqQ_normal hQ2 ?_
  refine vc_ret_of ?_
  simp only [go_sem]
  obtain rfl := Option.some.inj h
  refine retW_pure rfl ?_
  simp only [go_sem, Le]
 ·
  replace h := if_t h hb_0
  obtain ⟨v_1, ev_1, h⟩ := bindO_some h
  simp only [go_sem, hb_0]
  refine call0 (f_ts_Right_ok b_0 v_1 ev_1) (by rfl) (by rfl) ?_
  simp only [go_sem]
  refine seqQ_normal hQ2 ?_
  refine vc_ret_of ?_
  simp only [go_sem]
  obtain rfl := Option.some.inj h
  refine retW_pure rfl ?_
  simp only [go_sem, Le]

def f_ts_Le_B1 (a_0 : GTime) (b_0 : GTime) (rec_1 : Int → Option Bool) : Int → Option Bool :=
 fun t10_1 =>
 (if (decide (t10_1 < 4)) = true then guardO (0 ≤ t10_1 ∧ t10_1 < 4) (
 bindO (idx ([a_0.C.a0, a_0.C.a1, a_0.C.a2, a_0.C.a3] : List Int) t10_1) (fun (xv_2 : Int) =>
 guardO (0 ≤ t10_1 ∧ t10_1 < 4) (
 bindO (idx ([b_0.C.a0, b_0.C.a1, b_0.C.a2, b_0.C.a3] : List Int) t10_1) (fun (xv_3 : Int) =>
 (if (decide (xv_3 < xv_2)) = true then some false
 else rec_1 (IntKind.i64.wrap (t10_1 + 1)))))))
 else some true)
def f_ts_Le (a_0 : GTime) (b_0 : GTime) : Option Bool :=
 bindO (f_ts_both a_0 b_0) (fun (v_0 : Bool) =>
 (if (!v_0) = true then some false
 else loopK (f_ts_Le_B1 a_0 b_0) rounds 0))
theorem f_ts_Le_ok (a_0 : GTime) (b_0 : GTime)  (r : Bool) (h : f_ts_Le a_0 b_0 = some r) : PureS Try.prog 106 [.agg [.v (.int .i64 a_0.D), .v (.int .i64 a_0.C.a0), .v (.int .i64 a_0.C.a1), .v (.int .i64 a_0.C.a2), .v (.int .i64 a_0.C.a3)], .agg [.v (.int .i64 b_0.D), .v (.int .i64 b_0.C.a0), .v (.int .i64 b_0.C.a1), .v (.int .i64 b_0.C.a2), .v (.int .i64 b_0.C.a3)]] 0 (.v (.bool r)) := by
 unfold PureS
 refine Spec.of_vc Try.func106 rfl (by kernel_rfl) (by kernel_rfl) ?_
 rw [f_ts_Le] at h
 refine sg fun QQ1 hQ1 => ?_
 simp only [go_sem]
 refine seqQ_normal hQ1 ?_
 refine sg fun QQ2 hQ2 => ?_
 refine sg fun QQ3 hQ3 => ?_
 obtain ⟨v_0, ev_0, h⟩ := bindO_some h
 simp only [go_sem]
 refine call0 (f_ts_both_ok a_0 b_0 v_0 ev_0) (by rfl) (by rfl) ?_
 simp only [go_sem]
 refine seqQ_normal hQ3 ?_
 refine vc_cond_of (b := (!v_0)) (by (simp only [go_sem]; done)) (fun hb_0 => ?_) (fun hb_0 => ?_)
 ·
  replace h := if_t h hb_0
  simp only [bool_to_prop] at hb_0
  refine sg fun QQ4 hQ4 => ?_
  simp only [go_sem]
  refine seqQ_normal hQ4 ?_
  refine vc_ret_of ?_
  refine seqQ_ret hQ2 ?_
  simp only [go_sem]
  obtain rfl := Option.some.inj h
  refine retW_pure rfl ?_
  simp only [go_sem, Le]
 ·
  replace h := if_f h hb_0
  simp only [bool_to_prop] at hb_0
  refine vc_skip_of ?_
  refine seqQ_normal hQ2 ?_
  refine vc_join (by kernel_rfl) ?_
  refine seq_go_gen ?_
  intro QQ5 hQ5
  refine sg fun QQ6 hQ6 => ?_
  simp only [go_sem]
  refine seqQ_normal hQ6 ?_
  refine vc_block_gen ?_
  intro QQ7 hQ7
  refine vc_loop_of ?_
  refine loop_gen (ι := Nat × Int) (fun ((_, t10_1) : Nat × Int) => (⟨0, [(2, .ptr 0 0), (3, .ptr 1 0), (10, .v (.int .i64 t10_1))], [(0, .box [.v (.int .i64 a_0.D), .v (.int .i64 a_0.C.a0), .v (.int .i64 a_0.C.a1), .v (.int .i64 a_0.C.a2), .v (.int .i64 a_0.C.a3)]), (1, .box [.v (.int .i64 b_0.D), .v (.int .i64 b_0.C.a0), .v (.int .i64 b_0.C.a1), .v (.int .i64 b_0.C.a2), .v (.int .i64 b_0.C.a3)])], 2, 23⟩ : St)) (fun ((n_, t10_1) : Nat × Int) => loopK (f_ts_Le_B1 a_0 b_0) n_ t10_1 = some r) (fun p => p.1) (rounds, 0) [some 0, some 1] ?_ h ?_
  · simp only [go_sem, Le] <;> (repeat' apply And.intro) <;> first | ((try with_reducible refine TL_eq ?_); omega) | ((try with_reducible refine TL_eq ?_); (simp [go_sem]; done))
  ·
   rintro ⟨n_1, t10_1⟩ h QQ8 hQ8
   dsimp only at h
   replace h := loopK_some h
   obtain ⟨m_1, rfl, h⟩ := h
   rw [f_ts_Le_B1] at h
   refine sg fun QQ9 hQ9 => ?_
   simp only [go_sem]
   refine seqQ_normal hQ9 ?_
   refine sg fun QQ10 hQ10 => ?_
   refine vc_cond_of (b := (decide (t10_1 < 4))) (by (simp only [go_sem]; done)) (fun hb_5 => ?_) (fun hb_5 => ?_)
   ·
    replace h := if_t h hb_5
    simp only [bool_to_prop] at hb_5
    refine vc_skip_of ?_
    refine seqQ_normal hQ10 ?_
    refine sg fun QQ11 hQ11 => ?_
    refine vc_block_gen ?_
    intro QQ12 hQ12
    refine sg fun QQ13 hQ13 => ?_
    simp only [go_sem]
    refine seqQ_normal hQ13 ?_
    refine sg fun QQ14 hQ14 => ?_
    refine vc_draw ?_
    refine drawM_tail 8 [0, 0, 3, 7, 0, 0, 48, 112, 255] mixed (by kernel_rfl) (of_decide_eq_true (by kernel_rfl)) (by kernel_rfl) ?_
    obtain ⟨g_2, h⟩ := guardO_some h
    obtain ⟨xv_2, exv_2, h⟩ := bindO_some h
    obtain ⟨fxv_2a, fxv_2b, fxv_2c, fxv_2d⟩ := idx_at2 (f := (fun y => AV.v (.int .i64 y))) [.v (.int .i64 a_0.D)] [] exv_2
    simp only [List.cons_append, List.nil_append, List.append_nil, List.map_cons, List.map_nil, List.length_cons, List.length_nil, Nat.zero_add, Nat.reduceAdd] at fxv_2b fxv_2c fxv_2d
    obtain ⟨g_3, h⟩ := guardO_some h
    obtain ⟨xv_3, exv_3, h⟩ := bindO_some h
    obtain ⟨fxv_3a, fxv_3b, fxv_3c, fxv_3d⟩ := idx_at2 (f := (fun y => AV.v (.int .i64 y))) [.v (.int .i64 b_0.D)] [] exv_3
    simp only [List.cons_append, List.nil_append, List.append_nil, List.map_cons, List.map_nil, List.length_cons, List.length_nil, Nat.zero_add, Nat.reduceAdd] at fxv_3b fxv_3c fxv_3d
    simp only [go_sem, g_2, fxv_2a, fxv_2b, fxv_2c, fxv_2d, g_3, fxv_3a, fxv_3b, fxv_3c, fxv_3d]
    refine And.intro (by omega) ?_
    refine And.intro (by omega) ?_
    simp only [List.getD_eq_getElem?_getD, Nat.mul_one, fxv_2d, Option.map_some, Option.getD_some, true_and, List.getD_eq_getElem?_getD, Nat.mul_one, fxv_3d, Option.map_some, Option.getD_some, true_and]
    refine seqQ_normal hQ14 ?_
    refine vc_cond_of (b := (decide (xv_3 < xv_2))) (by (simp only [go_sem]; done)) (fun hb_6 => ?_) (fun hb_6 => ?_)
    ·
     replace h := if_t h hb_6
     simp only [bool_to_prop] at hb_6
     refine sg fun QQ15 hQ15 => ?_
     simp only [go_sem]
     refine seqQ_normal hQ15 ?_
     refine vc_ret_of ?_
     refine blockQ_ret hQ12 ?_
     refine seqQ_ret hQ11 ?_
     refine thenQ_ret hQ8 ?_
     refine blockQ_ret hQ7 ?_
     refine seqQ_ret hQ5 ?_
     simp only [go_sem]
     obtain rfl := Option.some.inj h
     refine retW_pure rfl ?_
     simp only [go_sem, Le]
    ·
     replace h := if_f h hb_6
     simp only [bool_to_prop] at hb_6
     refine vc_skip_of ?_
     refine blockQ_normal hQ12 ?_
     refine seqQ_normal hQ11 ?_
     simp only [go_sem]
     refine thenQ_normal hQ8 ?_
     refine ⟨(m_1, IntKind.i64.wrap (t10_1 + 1)), [some 0, some 1], ?_, h, Nat.lt_succ_self _⟩
     simp only [go_sem, Le] <;> (repeat' apply And.intro) <;> first | ((try with_reducible refine TL_eq ?_); omega) | ((try with_reducible refine TL_eq ?_); (simp [go_sem]; done))
   ·
    replace h := if_f h hb_5
    simp only [bool_to_prop] at hb_5
    refine vc_exit_of ?_
    refine seqQ_exit hQ10 ?_
    refine thenQ_exit hQ8 ?_
    refine blockQ_exit hQ7 ?_
    refine seqQ_normal hQ5 ?_
    refine sg fun QQ16 hQ16 => ?_
    simp only [go_sem]
    refine seqQ_normal hQ16 ?_
    refine vc_ret_of ?_
    simp only [go_sem]
    obtain rfl := Option.some.inj h
    refine retW_pure rfl ?_
    simp only [go_sem, Le]

def f_backwashref01_List_B1 (t_0 : GTime) (rec_1 : Int × (List Int) → Option ((List Int) × Bool)) : Int × (List Int) → Option ((List Int) × Bool) :=
 fun (i_1, a_1) =>
 (if (decide (i_1 < 4)) = true then guardO (0 ≤ i_1 ∧ i_1 < 4) (
 bindO (idx ([t_0.C.a0, t_0.C.a1, t_0.C.a2, t_0.C.a3] : List Int) i_1) (fun (xv_1 : Int) =>
 (if (decide (t_0.D ≤ i_1)) = true then (if (!(xv_1 == 0)) = true then some (([] : List Int), false)
 else rec_1 (IntKind.i64.wrap (i_1 + 1), a_1))
 else (if (((decide (xv_1 < 0)) || ((i_1 == 0) && (decide (1048576 < xv_1)))) || ((decide (0 < i_1)) && (decide (64 < xv_1)))) = true then some (([] : List Int), false)
 else guardO ((List.length a_1 + List.length ([xv_1] : List Int)) * 8 ≤ 140737488355328) (
 rec_1 (IntKind.i64.wrap (i_1 + 1), (a_1 ++ ([xv_1] : List Int))))))))
 else some (a_1, true))
def f_backwashref01_List (t_0 : GTime) : Option ((List Int) × Bool) :=
 (if ((decide (t_0.D < 1)) || (decide (4 < t_0.D))) = true then some (([] : List Int), false)
 else loopK (f_backwashref01_List_B1 t_0) rounds (0, []))
def f_backwashref01_Less_B1 (v_0 : (List Int) × Bool) (v_1 : (List Int) × Bool) (rec_1 : Int → Option Bool) : Int → Option Bool :=
 fun i_1 =>
 (if (decide (i_1 < (List.length v_0.1 : Int))) = true then (if (i_1 == (List.length v_1.1 : Int)) = true then some false
 else bindO (idx v_0.1 i_1) (fun (xv_4 : Int) =>
 bindO (idx v_1.1 i_1) (fun (xv_5 : Int) =>
 (if (decide (xv_5 < xv_4)) = true then some false
 else (if (decide (xv_4 < xv_5)) = true then some true
 else rec_1 (IntKind.i64.wrap (i_1 + 1)))))))
 else some (decide ((List.length v_0.1 : Int) < (List.length v_1.1 : Int))))
def f_backwashref01_Less (a_0 : GTime) (b_0 : GTime) : Option Bool :=
 bindO (f_backwashref01_List a_0) (fun (v_0 : (List Int) × Bool) =>
 bindO (f_backwashref01_List b_0) (fun (v_1 : (List Int) × Bool) =>
 (if ((!v_0.2) || (!v_1.2)) = true then some false
 else loopK (f_backwashref01_Less_B1 v_0 v_1) rounds 0)))
def f_backwashref01_Le_B1 (v_0 : (List Int) × Bool) (v_1 : (List Int) × Bool) (rec_1 : Int → Option Bool) : Int → Option Bool :=
 fun i_1 =>
 (if (decide (i_1 < (List.length v_0.1 : Int))) = true then bindO (idx v_0.1 i_1) (fun (xv_4 : Int) =>
 bindO (idx v_1.1 i_1) (fun (xv_5 : Int) =>
 (if (decide (xv_5 < xv_4)) = true then some false
 else rec_1 (IntKind.i64.wrap (i_1 + 1)))))
 else some true)
def f_backwashref01_Le (a_0 : GTime) (b_0 : GTime) : Option Bool :=
 bindO (f_backwashref01_List a_0) (fun (v_0 : (List Int) × Bool) =>
 bindO (f_backwashref01_List b_0) (fun (v_1 : (List Int) × Bool) =>
 (if (((!v_0.2) || (!v_1.2)) || (!((List.length v_0.1 : Int) == (List.length v_1.1 : Int)))) = true then some false
 else loopK (f_backwashref01_Le_B1 v_0 v_1) rounds 0)))
def f_slices_BinarySearchFunc_Rec_J1 (xv_0 : List GItem) (target_0 : GRec) (cmp_0 : GItem → GRec → Option Int) (i_2 : Int) : Option (Int × Bool) :=
 (if (decide (i_2 < (List.length xv_0 : Int))) = true then bindO (idx xv_0 i_2) (fun (xv_4 : GItem) =>
 bindO (cmp_0 xv_4 target_0) (fun (v_3 : Int) =>
 some (i_2, (v_3 == 0))))
 else some (i_2, false))
def f_slices_BinarySearchFunc_Rec_B2 (xv_0 : List GItem) (target_0 : GRec) (cmp_0 : GItem → GRec → Option Int) (rec_2 : Int × Int → Option (Int × Bool)) : Int × Int → Option (Int × Bool) :=
 fun (i_4, j_3) =>
 (if (decide (i_4 < j_3)) = true then bindO (idx xv_0 (IntKind.i64.wrap (shrI .u64 (IntKind.u64.wrap (IntKind.i64.wrap (i_4 + j_3))) 1))) (fun (xv_7 : GItem) =>
 bindO (cmp_0 xv_7 target_0) (fun (v_6 : Int) =>
 (if (decide (v_6 < 0)) = true then rec_2 (IntKind.i64.wrap ((IntKind.i64.wrap (shrI .u64 (IntKind.u64.wrap (IntKind.i64.wrap (i_4 + j_3))) 1)) + 1), j_3)
 else rec_2 (i_4, IntKind.i64.wrap (shrI .u64 (IntKind.u64.wrap (IntKind.i64.wrap (i_4 + j_3))) 1)))))
 else f_slices_BinarySearchFunc_Rec_J1 xv_0 target_0 cmp_0 i_4)
def f_slices_BinarySearchFunc_Rec (xv_0 : List GItem) (target_0 : GRec) (cmp_0 : GItem → GRec → Option Int) : Option (Int × Bool) :=
 loopK (f_slices_BinarySearchFunc_Rec_B2 xv_0 target_0 cmp_0) rounds (0, (List.length xv_0 : Int))
theorem f_slices_BinarySearchFunc_Rec_ok (xv_0 : List GItem) (target_0 : GRec) (cmp_0 : GItem → GRec → Option Int) (g_cmp_0 : FuncId) (c_cmp_0 : List AV) (F_cmp_0 : idFreeL c_cmp_0 = true) (E_cmp_0 : entB Try.prog g_cmp_0 = true) (H_cmp_0 : ∀ (x0 : GItem) (x1 : GRec) (r : Int), cmp_0 x0 x1 = some r → PureS Try.prog g_cmp_0 ([.agg [.v (.int .i64 x0.Rec.K), .v (.int .i64 x0.Rec.V), .v (.int .i64 x0.N)], .agg [.v (.int .i64 x1.K), .v (.int .i64 x1.V)]] ++ c_cmp_0) 0 (.v (.int .i64 r))) (r : Int × Bool) (h : f_slices_BinarySearchFunc_Rec xv_0 target_0 cmp_0 = some r) : PureS Try.prog 126 [.sl 3 (enc xv_0), .agg [.v (.int .i64 target_0.K), .v (.int .i64 target_0.V)], .clo g_cmp_0 c_cmp_0] 0 (.tup [.v (.int .i64 r.1), .v (.bool r.2)]) := by
 unfold PureS
 refine Spec.of_vc Try.func126 rfl (by kernel_rfl) (by kernel_rfl) ?_
 rw [f_slices_BinarySearchFunc_Rec] at h
 refine sg fun QQ1 hQ1 => ?_
 simp only [go_sem]
 refine seqQ_normal hQ1 ?_
 refine sg fun QQ2 hQ2 => ?_
 simp only [go_sem]
 refine seqQ_normal hQ2 ?_
 refine sg fun QQ3 hQ3 => ?_
 simp only [go_sem]
 refine seqQ_normal hQ3 ?_
 refine vc_join (by kernel_rfl) ?_
 refine seq_cut_gen (ι := Int) (fun (i_2 : Int) => (⟨0, [(0, .sl 3 (enc xv_0)), (2, .clo g_cmp_0 c_cmp_0), (4, .ptr 0 0), (8, .v (.int .i64 (List.length xv_0 : Int))), (9, .v (.int .i64 i_2))], [(0, .box [.v (.int .i64 target_0.K), .v (.int .i64 target_0.V)])], 1, 49⟩ : St)) (fun (i_2 : Int) => f_slices_BinarySearchFunc_Rec_J1 xv_0 target_0 cmp_0 i_2 = some r) ?_ ?_
 ·
  intro QQ5 hQ5
  refine vc_block_gen ?_
  intro QQ6 hQ6
  refine vc_loop_of ?_
  refine loop_gen (ι := Nat × Int × Int) (fun ((_, i_4, j_3) : Nat × Int × Int) => (⟨0, [(0, .sl 3 (enc xv_0)), (2, .clo g_cmp_0 c_cmp_0), (4, .ptr 0 0), (8, .v (.int .i64 (List.length xv_0 : Int))), (9, .v (.int .i64 i_4)), (10, .v (.int .i64 j_3))], [(0, .box [.v (.int .i64 target_0.K), .v (.int .i64 target_0.V)])], 1, 49⟩ : St)) (fun ((n_, i_4, j_3) : Nat × Int × Int) => loopK (f_slices_BinarySearchFunc_Rec_B2 xv_0 target_0 cmp_0) n_ (i_4, j_3) = some r) (fun p => p.1) (rounds, 0, (List.length xv_0 : Int)) [some 0] ?_ h ?_
  · simp only [go_sem, Le, AvLeL_free _ F_cmp_0]
  ·
   rintro ⟨n_2, i_4, j_3⟩ h QQ7 hQ7
   dsimp only at h
   replace h := loopK_some h
   obtain ⟨m_2, rfl, h⟩ := h
   rw [f_slices_BinarySearchFunc_Rec_B2] at h
   refine sg fun QQ8 hQ8 => ?_
   refine sg fun QQ9 hQ9 => ?_
   simp only [go_sem]
   refine seqQ_normal hQ9 ?_
   refine vc_cond_of (b := (decide (i_4 < j_3))) (by (simp only [go_sem]; done)) (fun hb_11 => ?_) (fun hb_11 => ?_)
   ·
    replace h := if_t h hb_11
    simp only [bool_to_prop] at hb_11
    refine vc_skip_of ?_
    refine seqQ_normal hQ8 ?_
    refine vc_block_gen ?_
    intro QQ10 hQ10
    refine sg fun QQ11 hQ11 => ?_
    simp only [go_sem]
    refine seqQ_normal hQ11 ?_
    refine sg fun QQ12 hQ12 => ?_
    refine vc_draw ?_
    refine drawM_tail 6 [0, 0, 0, 6, 14, 0, 63, 127] mixed (by kernel_rfl) (of_decide_eq_true (by kernel_rfl)) (by kernel_rfl) ?_
    obtain ⟨xv_7, exv_7, h⟩ := bindO_some h
    obtain ⟨fxv_7a, fxv_7b, fxv_7c⟩ := idx_spec exv_7
    obtain ⟨v_6, ev_6, h⟩ := bindO_some h
    simp only [go_sem, fxv_7a, fxv_7b, fxv_7c, E_cmp_0]
    refine And.intro (by omega) ?_
    refine call0 (H_cmp_0 xv_7 target_0 v_6 ev_6) (by rfl) (by simp [idFreeL, idFree, F_cmp_0]) ?_
    simp only [go_sem]
    refine seqQ_normal hQ12 ?_
    refine vc_cond_of (b := (decide (v_6 < 0))) (by (simp only [go_sem]; done)) (fun hb_12 => ?_) (fun hb_12 => ?_)
    ·
     replace h := if_t h hb_12
     simp only [bool_to_prop] at hb_12
     simp only [go_sem]
     refine blockQ_normal hQ10 ?_
     refine thenQ_normal hQ7 ?_
     refine ⟨(m_2, IntKind.i64.wrap ((IntKind.i64.wrap (shrI .u64 (IntKind.u64.wrap (IntKind.i64.wrap (i_4 + j_3))) 1)) + 1), j_3), [some 0], ?_, h, Nat.lt_succ_self _⟩
     simp only [go_sem, Le, AvLeL_free _ F_cmp_0]
    ·
     replace h := if_f h hb_12
     simp only [bool_to_prop] at hb_12
     simp only [go_sem]
     refine blockQ_normal hQ10 ?_
     refine thenQ_normal hQ7 ?_
     refine ⟨(m_2, i_4, IntKind.i64.wrap (shrI .u64 (IntKind.u64.wrap (IntKind.i64.wrap (i_4 + j_3))) 1)), [some 0], ?_, h, Nat.lt_succ_self _⟩
     simp only [go_sem, Le, AvLeL_free _ F_cmp_0]
   ·
    replace h := if_f h hb_11
    simp only [bool_to_prop] at hb_11
    refine vc_exit_of ?_
    refine seqQ_exit hQ8 ?_
    refine thenQ_exit hQ7 ?_
    refine blockQ_exit hQ6 ?_
    refine thenQ_normal hQ5 ?_
    refine ⟨i_4, [some 0], ?_, h⟩
    simp only [go_sem, Le, AvLeL_free _ F_cmp_0]
 ·
  rintro i_2 h
  try dsimp only at h
  rw [f_slices_BinarySearchFunc_Rec_J1] at h
  refine sg fun QQ4 hQ4 => ?_
  refine vc_draw ?_
  refine drawM_tail 15 [0, 0, 0, 6, 14, 30, 30, 30, 222, 478, 30, 2046, 4094, 8190, 4095, 32767] mixed (by kernel_rfl) (of_decide_eq_true (by kernel_rfl)) (by kernel_rfl) ?_
  simp only [go_sem]
  rcases hb_6 : (decide (i_2 < (List.length xv_0 : Int))) with _ | _
  ·
   replace h := if_f h hb_6
   simp only [go_sem, hb_6]
   refine seqQ_normal hQ4 ?_
   refine vc_ret_of ?_
   simp only [go_sem]
   obtain rfl := Option.some.inj h
   refine retW_pure rfl ?_
   simp only [go_sem, Le, AvLeL_free _ F_cmp_0]
  ·
   replace h := if_t h hb_6
   obtain ⟨xv_4, exv_4, h⟩ := bindO_some h
   obtain ⟨fxv_4a, fxv_4b, fxv_4c⟩ := idx_spec exv_4
   obtain ⟨v_3, ev_3, h⟩ := bindO_some h
   simp only [go_sem, hb_6, fxv_4a, fxv_4b, fxv_4c, E_cmp_0]
   refine And.intro (by omega) ?_
   refine And.intro (by omega) ?_
   refine callq (fun _ => (H_cmp_0 xv_4 target_0 v_3 ev_3)) (by rfl) (by simp [idFreeL, idFree, F_cmp_0]) ?_
   simp only [go_sem]
   refine seqQ_normal hQ4 ?_
   refine vc_ret_of ?_
   simp only [go_sem]
   obtain rfl := Option.some.inj h
   refine retW_pure rfl ?_
   simp only [go_sem, Le, AvLeL_free _ F_cmp_0]

def f_cmp_isNaN_int64 (xv_0 : Int) : Option Bool :=
 some (!(xv_0 == xv_0))
theorem f_cmp_isNaN_int64_ok (xv_0 : Int)  (r : Bool) (h : f_cmp_isNaN_int64 xv_0 = some r) : PureS Try.prog 173 [.v (.int .i64 xv_0)] 0 (.v (.bool r)) := by
 unfold PureS
 refine Spec.of_vc Try.func173 rfl (by kernel_rfl) (by kernel_rfl) ?_
 rw [f_cmp_isNaN_int64] at h
 refine sg fun QQ1 hQ1 => ?_
 simp only [go_sem]
 refine seqQ_normal hQ1 ?_
 refine sg fun QQ2 hQ2 => ?_
 simp only [go_sem]
 refine seqQ_normal hQ2 ?_
 refine vc_ret_of ?_
 simp only [go_sem]
 obtain rfl := Option.some.inj h
 refine retW_pure rfl ?_
 simp only [go_sem, Le]

def f_cmp_Compare_int64 (xv_0 : Int) (y_0 : Int) : Option Int :=
 bindO (f_cmp_isNaN_int64 xv_0) (fun (v_0 : Bool) =>
 bindO (f_cmp_isNaN_int64 y_0) (fun (v_1 : Bool) =>
 (if v_0 = true then (if v_1 = true then some 0
 else some (-1))
 else (if v_1 = true then some 1
 else (if (decide (xv_0 < y_0)) = true then some (-1)
 else (if (decide (y_0 < xv_0)) = true then some 1
 else some 0))))))
theorem f_cmp_Compare_int64_ok (xv_0 : Int) (y_0 : Int)  (r : Int) (h : f_cmp_Compare_int64 xv_0 y_0 = some r) : PureS Try.prog 111 [.v (.int .i64 xv_0), .v (.int .i64 y_0)] 0 (.v (.int .i64 r)) := by
 unfold PureS
 refine Spec.of_vc Try.func111 rfl (by kernel_rfl) (by kernel_rfl) ?_
 rw [f_cmp_Compare_int64] at h
 refine sg fun QQ1 hQ1 => ?_
 simp only [go_sem]
 refine seqQ_normal hQ1 ?_
 refine sg fun QQ2 hQ2 => ?_
 obtain ⟨v_0, ev_0, h⟩ := bindO_some h
 simp only [go_sem]
 refine call0 (f_cmp_isNaN_int64_ok xv_0 v_0 ev_0) (by rfl) (by rfl) ?_
 simp only [go_sem]
 refine seqQ_normal hQ2 ?_
 refine sg fun QQ3 hQ3 => ?_
 obtain ⟨v_1, ev_1, h⟩ := bindO_some h
 simp only [go_sem]
 refine call0 (f_cmp_isNaN_int64_ok y_0 v_1 ev_1) (by rfl) (by rfl) ?_
 simp only [go_sem]
 refine seqQ_normal hQ3 ?_
 refine sg fun QQ4 hQ4 => ?_
 refine sg fun QQ5 hQ5 => ?_
 simp only [go_sem]
 refine seqQ_normal hQ5 ?_
 refine vc_cond_of (b := v_0) (by (simp only [go_sem]; done)) (fun hb_0 => ?_) (fun hb_0 => ?_)
 ·
  replace h := if_t h hb_0
  refine sg fun QQ6 hQ6 => ?_
  refine sg fun QQ7 hQ7 => ?_
  simp only [go_sem]
  refine seqQ_normal hQ7 ?_
  refine vc_cond_of (b := v_1) (by (simp only [go_sem]; done)) (fun hb_1 => ?_) (fun hb_1 => ?_)
  ·
   replace h := if_t h hb_1
   refine sg fun QQ8 hQ8 => ?_
   simp only [go_sem]
   refine seqQ_normal hQ8 ?_
   refine vc_ret_of ?_
   refine seqQ_ret hQ6 ?_
   refine seqQ_ret hQ4 ?_
   simp only [go_sem]
   obtain rfl := Option.some.inj h
   refine retW_pure rfl ?_
   simp only [go_sem, Le]
  ·
   replace h := if_f h hb_1
   refine vc_skip_of ?_
   refine seqQ_normal hQ6 ?_
   refine sg fun QQ9 hQ9 => ?_
   simp only [go_sem]
   refine seqQ_normal hQ9 ?_
   refine vc_ret_of ?_
   refine seqQ_ret hQ4 ?_
   simp only [go_sem]
   obtain rfl := Option.some.inj h
   refine retW_pure rfl ?_
   simp only [go_sem, Le]
 ·
  replace h := if_f h hb_0
  refine vc_skip_of ?_
  refine seqQ_normal hQ4 ?_
  refine sg fun QQ10 hQ10 => ?_
  refine sg fun QQ11 hQ11 => ?_
  simp only [go_sem]
  refine seqQ_normal hQ11 ?_
  refine vc_cond_of (b := v_1) (by (simp only [go_sem]; done)) (fun hb_2 => ?_) (fun hb_2 => ?_)
  ·
   replace h := if_t h hb_2
   refine sg fun QQ12 hQ12 => ?_
   simp only [go_sem]
   refine seqQ_normal hQ12 ?_
   refine vc_ret_of ?_
   refine seqQ_ret hQ10 ?_
   simp only [go_sem]
   obtain rfl := Option.some.inj h
   refine retW_pure rfl ?_
   simp only [go_sem, Le]
  ·
   replace h := if_f h hb_2
   refine vc_skip_of ?_
   refine seqQ_normal hQ10 ?_
   refine sg fun QQ13 hQ13 => ?_
   refine sg fun QQ14 hQ14 => ?_
   simp only [go_sem]
   refine seqQ_normal hQ14 ?_
   refine vc_cond_of (b := (decide (xv_0 < y_0))) (by (simp only [go_sem]; done)) (fun hb_3 => ?_) (fun hb_3 => ?_)
   ·
    replace h := if_t h hb_3
    simp only [bool_to_prop] at hb_3
    refine sg fun QQ15 hQ15 => ?_
    simp only [go_sem]
    refine seqQ_normal hQ15 ?_
    refine vc_ret_of ?_
    refine seqQ_ret hQ13 ?_
    simp only [go_sem]
    obtain rfl := Option.some.inj h
    refine retW_pure rfl ?_
    simp only [go_sem, Le]
   ·
    replace h := if_f h hb_3
    simp only [bool_to_prop] at hb_3
    refine vc_skip_of ?_
    refine seqQ_normal hQ13 ?_
    refine sg fun QQ16 hQ16 => ?_
    refine sg fun QQ17 hQ17 => ?_
    simp only [go_sem]
    refine seqQ_normal hQ17 ?_
    refine vc_cond_of (b := (decide (y_0 < xv_0))) (by (simp only [go_sem]; done)) (fun hb_4 => ?_) (fun hb_4 => ?_)
    ·
     replace h := if_t h hb_4
     simp only [bool_to_prop] at hb_4
     refine sg fun QQ18 hQ18 => ?_
     simp only [go_sem]
     refine seqQ_normal hQ18 ?_
     refine vc_ret_of ?_
     refine seqQ_ret hQ16 ?_
     simp only [go_sem]
     obtain rfl := Option.some.inj h
     refine retW_pure rfl ?_
     simp only [go_sem, Le]
    ·
     replace h := if_f h hb_4
     simp only [bool_to_prop] at hb_4
     refine vc_skip_of ?_
     refine seqQ_normal hQ16 ?_
     refine sg fun QQ19 hQ19 => ?_
     simp only [go_sem]
     refine seqQ_normal hQ19 ?_
     refine vc_ret_of ?_
     simp only [go_sem]
     obtain rfl := Option.some.inj h
     refine retW_pure rfl ?_
     simp only [go_sem, Le]

def f_cmp_Or_int_B1 (vals_0 : List Int) (rec_1 : Int → Option Int) : Int → Option Int :=
 fun t8_1 =>
 (if (decide (t8_1 < (List.length vals_0 : Int))) = true then bindO (idx vals_0 t8_1) (fun (xv_2 : Int) =>
 (if (!(xv_2 == 0)) = true then some xv_2
 else rec_1 (IntKind.i64.wrap (t8_1 + 1))))
 else some 0)
def f_cmp_Or_int (vals_0 : List Int) : Option Int :=
 loopK (f_cmp_Or_int_B1 vals_0) rounds 0
theorem f_cmp_Or_int_ok (vals_0 : List Int)  (r : Int) (h : f_cmp_Or_int vals_0 = some r) : PureS Try.prog 110 [.sl 1 (enc vals_0)] 0 (.v (.int .i64 r)) := by
 unfold PureS
 refine Spec.of_vc Try.func110 rfl (by kernel_rfl) (by kernel_rfl) ?_
 rw [f_cmp_Or_int] at h
 refine sg fun QQ1 hQ1 => ?_
 simp only [go_sem]
 refine seqQ_normal hQ1 ?_
 refine sg fun QQ2 hQ2 => ?_
 simp only [go_sem]
 refine seqQ_normal hQ2 ?_
 refine vc_join (by kernel_rfl) ?_
 refine seq_go_gen ?_
 intro QQ3 hQ3
 refine sg fun QQ4 hQ4 => ?_
 simp only [go_sem]
 refine seqQ_normal hQ4 ?_
 refine vc_block_gen ?_
 intro QQ5 hQ5
 refine vc_loop_of ?_
 refine loop_gen (ι := Nat × Int) (fun ((_, t8_1) : Nat × Int) => (⟨0, [(3, .v (.int .i64 0)), (6, .sl 1 (enc vals_0)), (7, .v (.int .i64 (List.length vals_0 : Int))), (8, .v (.int .i64 t8_1))], [], 0, 18⟩ : St)) (fun ((n_, t8_1) : Nat × Int) => loopK (f_cmp_Or_int_B1 vals_0) n_ t8_1 = some r) (fun p => p.1) (rounds, 0) [] ?_ h ?_
 · simp only [go_sem, Le]
 ·
  rintro ⟨n_1, t8_1⟩ h QQ6 hQ6
  dsimp only at h
  replace h := loopK_some h
  obtain ⟨m_1, rfl, h⟩ := h
  rw [f_cmp_Or_int_B1] at h
  refine sg fun QQ7 hQ7 => ?_
  simp only [go_sem]
  refine seqQ_normal hQ7 ?_
  refine sg fun QQ8 hQ8 => ?_
  refine vc_cond_of (b := (decide (t8_1 < (List.length vals_0 : Int)))) (by (simp only [go_sem]; done)) (fun hb_4 => ?_) (fun hb_4 => ?_)
  ·
   replace h := if_t h hb_4
   simp only [bool_to_prop] at hb_4
   refine vc_skip_of ?_
   refine seqQ_normal hQ8 ?_
   refine sg fun QQ9 hQ9 => ?_
   refine vc_block_gen ?_
   intro QQ10 hQ10
   refine sg fun QQ11 hQ11 => ?_
   obtain ⟨xv_2, exv_2, h⟩ := bindO_some h
   obtain ⟨fxv_2a, fxv_2b, fxv_2c⟩ := idx_spec exv_2
   simp only [go_sem, fxv_2a, fxv_2b, fxv_2c]
   refine And.intro (by omega) ?_
   refine seqQ_normal hQ11 ?_
   refine sg fun QQ12 hQ12 => ?_
   simp only [go_sem]
   refine seqQ_normal hQ12 ?_
   refine vc_cond_of (b := (!(xv_2 == 0))) (by (simp only [go_sem]; done)) (fun hb_5 => ?_) (fun hb_5 => ?_)
   ·
    replace h := if_t h hb_5
    simp only [bool_to_prop] at hb_5
    refine sg fun QQ13 hQ13 => ?_
    simp only [go_sem]
    refine seqQ_normal hQ13 ?_
    refine vc_ret_of ?_
    refine blockQ_ret hQ10 ?_
    refine seqQ_ret hQ9 ?_
    refine thenQ_ret hQ6 ?_
    refine blockQ_ret hQ5 ?_
    refine seqQ_ret hQ3 ?_
    simp only [go_sem]
    obtain rfl := Option.some.inj h
    refine retW_pure rfl ?_
    simp only [go_sem, Le]
   ·
    replace h := if_f h hb_5
    simp only [bool_to_prop] at hb_5
    refine vc_skip_of ?_
    refine blockQ_normal hQ10 ?_
    refine seqQ_normal hQ9 ?_
    simp only [go_sem]
    refine thenQ_normal hQ6 ?_
    refine ⟨(m_1, IntKind.i64.wrap (t8_1 + 1)), [], ?_, h, Nat.lt_succ_self _⟩
    simp only [go_sem, Le]
  ·
   replace h := if_f h hb_4
   simp only [bool_to_prop] at hb_4
   refine vc_exit_of ?_
   refine seqQ_exit hQ8 ?_
   refine thenQ_exit hQ6 ?_
   refine blockQ_exit hQ5 ?_
   refine seqQ_normal hQ3 ?_
   refine sg fun QQ14 hQ14 => ?_
   simp only [go_sem]
   refine seqQ_normal hQ14 ?_
   refine vc_ret_of ?_
   simp only [go_sem]
   obtain rfl := Option.some.inj h
   refine retW_pure rfl ?_
   simp only [go_sem, Le]

def f_bag_order (a_0 : GRec) (b_0 : GRec) : Option Int :=
 bindO (f_cmp_Compare_int64 a_0.K b_0.K) (fun (v_0 : Int) =>
 bindO (f_cmp_Compare_int64 a_0.V b_0.V) (fun (v_1 : Int) =>
 bindO (f_cmp_Or_int ([v_0, v_1] : List Int)) (fun (v_2 : Int) =>
 some v_2)))
theorem f_bag_order_ok (a_0 : GRec) (b_0 : GRec)  (r : Int) (h : f_bag_order a_0 b_0 = some r) : PureS Try.prog 116 [.agg [.v (.int .i64 a_0.K), .v (.int .i64 a_0.V)], .agg [.v (.int .i64 b_0.K), .v (.int .i64 b_0.V)]] 0 (.v (.int .i64 r)) := by
 unfold PureS
 refine Spec.of_vc Try.func116 rfl (by kernel_rfl) (by kernel_rfl) ?_
 rw [f_bag_order] at h
 refine sg fun QQ1 hQ1 => ?_
 simp only [go_sem]
 refine seqQ_normal hQ1 ?_
 refine sg fun QQ2 hQ2 => ?_
 refine vc_draw ?_
 refine drawM_tail 9 [0, 1, 0, 4, 15, 0, 32, 0, 128, 511, 1023, 2047, 4095] mixed (by kernel_rfl) (of_decide_eq_true (by kernel_rfl)) (by kernel_rfl) ?_
 obtain ⟨v_0, ev_0, h⟩ := bindO_some h
 simp only [go_sem]
 refine callq (fun _ => (f_cmp_Compare_int64_ok a_0.K b_0.K v_0 ev_0)) (by rfl) (by rfl) ?_
 obtain ⟨v_1, ev_1, h⟩ := bindO_some h
 simp only [go_sem]
 refine call0 (f_cmp_Compare_int64_ok a_0.V b_0.V v_1 ev_1) (by rfl) (by rfl) ?_
 have rf_0 : [[.v (.int .i64 v_0)], [.v (.int .i64 v_1)]] = enc ([v_0, v_1] : List Int) := by rfl
 obtain ⟨v_2, ev_2, h⟩ := bindO_some h
 simp only [go_sem]
 simp only [rf_0]
 refine callB (s' := (⟨0, [(0, .agg [.v (.int .i64 a_0.K), .v (.int .i64 a_0.V)]), (1, .agg [.v (.int .i64 b_0.K), .v (.int .i64 b_0.V)]), (2, .ptr 0 0), (3, .ptr 1 0), (4, .v (.int .i64 0)), (5, .ptr 0 0), (6, .v (.int .i64 a_0.K)), (7, .ptr 1 0), (8, .v (.int .i64 b_0.K)), (9, .v (.int .i64 v_0)), (10, .ptr 0 1), (11, .v (.int .i64 a_0.V)), (12, .ptr 1 1), (13, .v (.int .i64 b_0.V)), (14, .v (.int .i64 v_1)), (15, .sl 1 (enc ([v_0, v_1] : List Int)))], [(0, .box [.v (.int .i64 a_0.K), .v (.int .i64 a_0.V)]), (1, .box [.v (.int .i64 b_0.K), .v (.int .i64 b_0.V)])], 2, 17⟩ : St)) (l := [some 0, some 1]) (args' := [.sl 1 (enc ([v_0, v_1] : List Int))]) ?_ ?_ (f_cmp_Or_int_ok ([v_0, v_1] : List Int) v_2 ev_2) (by rfl) (by rfl) ?_
 · simp only [go_sem, Le] <;> (repeat' apply And.intro) <;> first | ((try with_reducible refine TL_eq ?_); omega) | ((try with_reducible refine TL_eq ?_); (simp [go_sem]; done))
 · simp only [go_sem, Le] <;> (repeat' apply And.intro) <;> ((try with_reducible refine TL_eq ?_); (simp [go_sem]; done))
 simp only [go_sem]
 refine seqQ_normal hQ2 ?_
 refine vc_ret_of ?_
 simp only [go_sem]
 obtain rfl := Option.some.inj h
 refine retW_pure rfl ?_
 simp only [go_sem, Le]

def f_bag_put_1 (xv_0 : GItem) (rv_0 : GRec) : Option Int :=
 bindO (f_bag_order xv_0.Rec rv_0) (fun (v_0 : Int) =>
 some v_0)
theorem f_bag_put_1_ok (xv_0 : GItem) (rv_0 : GRec)  (r : Int) (h : f_bag_put_1 xv_0 rv_0 = some r) : PureS Try.prog 127 [.agg [.v (.int .i64 xv_0.Rec.K), .v (.int .i64 xv_0.Rec.V), .v (.int .i64 xv_0.N)], .agg [.v (.int .i64 rv_0.K), .v (.int .i64 rv_0.V)]] 0 (.v (.int .i64 r)) := by
 unfold PureS
 refine Spec.of_vc Try.func127 rfl (by kernel_rfl) (by kernel_rfl) ?_
 rw [f_bag_put_1] at h
 refine sg fun QQ1 hQ1 => ?_
 simp only [go_sem]
 refine seqQ_normal hQ1 ?_
 refine sg fun QQ2 hQ2 => ?_
 obtain ⟨v_0, ev_0, h⟩ := bindO_some h
 simp only [go_sem]
 refine call0 (f_bag_order_ok xv_0.Rec rv_0 v_0 ev_0) (by rfl) (by rfl) ?_
 simp only [go_sem]
 refine seqQ_normal hQ2 ?_
 refine vc_ret_of ?_
 simp only [go_sem]
 obtain rfl := Option.some.inj h
 refine retW_pure rfl ?_
 simp only [go_sem, Le]

def f_bag_may (nv_0 : Int) : Option Bool :=
 some ((decide ((-2147483648) ≤ nv_0)) && (decide (nv_0 ≤ 2147483648)))
theorem f_bag_may_ok (nv_0 : Int)  (r : Bool) (h : f_bag_may nv_0 = some r) : PureS Try.prog 73 [.v (.int .i64 nv_0)] 0 (.v (.bool r)) := by
 unfold PureS
 refine Spec.of_vc Try.func73 rfl (by kernel_rfl) (by kernel_rfl) ?_
 rw [f_bag_may] at h
 refine sg fun QQ1 hQ1 => ?_
 simp only [go_sem]
 refine seqQ_normal hQ1 ?_
 refine sg fun QQ2 hQ2 => ?_
 simp only [go_sem]
 refine seqQ_normal hQ2 ?_
 refine vc_ret_of ?_
 simp only [go_sem]
 obtain rfl := Option.some.inj h
 refine retW_pure rfl ?_
 simp only [go_sem, Le]

def f_slices_Insert_Item_s0_0_s2_0 (x_0 : List GItem) (i_0 : Int) (v_0 : List GItem) : Option (List GItem) := insertF 24 x_0 i_0 v_0
theorem f_slices_Insert_Item_s0_0_s2_0_lay : InsLay Try.prog (insRen 128 197 198 0 3 4 42 33) 3 24 (.agg #[.int .i64 0, .int .i64 0, .int .i64 0] : Value) := { mixed := by kernel_rfl, t0 := Try.underlying0, a0 := Try.isAgg0, z0 := Try.sizeOf0, v0 := Try.zeroValue0, t3 := Try.underlying3, a3 := Try.isAgg3, z3 := Try.sizeOf3, v3 := Try.zeroValue3, t4 := Try.underlying4, a4 := Try.isAgg4, z4 := Try.sizeOf4, v4 := Try.zeroValue4, t24 := Try.underlying33, a24 := Try.isAgg33, z24 := Try.sizeOf33, v24 := Try.zeroValue33, z9 := Try.sizeOf42, i9 := info_ex (by kernel_rfl), f22 := ⟨"slices.Insert[[]backwash/api.Item,backwash/api.Item]", by decide, by kernel_rfl⟩, ov := ⟨_, Try.func197, by kernel_rfl, by kernel_rfl, by kernel_rfl, by kernel_rfl⟩ }
theorem f_slices_Insert_Item_s0_0_s2_0_det (x_0 : List GItem) (i_0 : Int) (v_0 : List GItem) (r : List GItem) (h : f_slices_Insert_Item_s0_0_s2_0 x_0 i_0 v_0 = some r) : DetS Try.prog 128 [.osl 0 3 0 (List.length x_0), .v (.int .i64 i_0), .osl 1 3 0 (List.length v_0)] [(0, .arr 3 (enc x_0)), (1, .arr 3 (enc v_0))] 2 (.osl 2 3 0 (List.length r)) [(2, .arr 3 (enc r))] 3 :=
 insert_det f_slices_Insert_Item_s0_0_s2_0_lay (by kernel_rfl) (by kernel_rfl) (by decide) (by rfl) (by decide) rfl (fun _ => rfl) h

def f_slices_Delete_Item_s0_0 (x_0 : List GItem) (i_0 : Int) (j_0 : Int) : Option (List GItem) := deleteF x_0 i_0 j_0
theorem f_slices_Delete_Item_s0_0_lay : DelLay Try.prog (insRen 129 0 0 0 3 4 42 33) 3 (.agg #[.int .i64 0, .int .i64 0, .int .i64 0] : Value) := { mixed := by kernel_rfl, t0 := Try.underlying0, a0 := Try.isAgg0, z0 := Try.sizeOf0, v0 := Try.zeroValue0, t3 := Try.underlying3, a3 := Try.isAgg3, z3 := Try.sizeOf3, v3 := Try.zeroValue3, t4 := Try.underlying4, a4 := Try.isAgg4, z4 := Try.sizeOf4, v4 := Try.zeroValue4, t24 := Try.underlying33, a24 := Try.isAgg33, z24 := Try.sizeOf33, v24 := Try.zeroValue33, z9 := Try.sizeOf42, v9 := Try.zeroValue42, i9 := info_ex3 (b := 24) (by kernel_rfl), f24 := ⟨"slices.Delete[[]backwash/api.Item,backwash/api.Item]", by decide, by kernel_rfl⟩ }
theorem f_slices_Delete_Item_s0_0_det (x_0 : List GItem) (i_0 : Int) (j_0 : Int) (r : List GItem) (h : f_slices_Delete_Item_s0_0 x_0 i_0 j_0 = some r) : DetS Try.prog 129 [.osl 0 3 0 (List.length x_0), .v (.int .i64 i_0), .v (.int .i64 j_0)] [(0, .arr 3 (enc x_0))] 1 (.osl 1 3 0 (List.length r)) [(1, .arr 3 (enc r))] 2 :=
 delete_det f_slices_Delete_Item_s0_0_lay (by kernel_rfl) (by decide) (by rfl) (by rfl) (fun _ => rfl) h

def f_bag_put_s0_0 (b_0 : List GItem) (rv_0 : GRec) (nv_0 : Int) : Option (List GItem) :=
 bindO (f_slices_BinarySearchFunc_Rec b_0 rv_0 (fun x0_ x1_ => f_bag_put_1 x0_ x1_)) (fun (v_0 : Int × Bool) =>
 (if (nv_0 == 0) = true then some b_0
 else bindO (f_bag_may nv_0) (fun (v_1 : Bool) =>
 (if (!v_1) = true then some b_0
 else (if (!v_0.2) = true then bindO (f_slices_Insert_Item_s0_0_s2_0 b_0 v_0.1 ([(⟨rv_0, nv_0⟩ : GItem)] : List GItem)) (fun (v_2 : List GItem) =>
 some v_2)
 else bindO (idx b_0 v_0.1) (fun (xv_0 : GItem) =>
 (if ((IntKind.i64.wrap (xv_0.N + nv_0)) == 0) = true then bindO (f_slices_Delete_Item_s0_0 b_0 v_0.1 (IntKind.i64.wrap (v_0.1 + 1))) (fun (v_3 : List GItem) =>
 some v_3)
 else bindO (f_bag_may (IntKind.i64.wrap (xv_0.N + nv_0))) (fun (v_4 : Bool) =>
 (if v_4 = true then some (List.set b_0 (Int.toNat v_0.1) (⟨xv_0.Rec, IntKind.i64.wrap (xv_0.N + nv_0)⟩ : GItem))
 else some b_0)))))))))
theorem f_bag_put_s0_0_det (b_0 : List GItem) (rv_0 : GRec) (nv_0 : Int)  (r : List GItem) (h : f_bag_put_s0_0 b_0 rv_0 nv_0 = some r) : DetS Try.prog 74 [.osl 0 3 (0) (List.length b_0), .agg [.v (.int .i64 rv_0.K), .v (.int .i64 rv_0.V)], .v (.int .i64 nv_0)] [(0, .arr 3 (enc b_0))] 1 (.osl 1 3 (0) (List.length r)) [(1, .arr 3 (enc r))] 2 := by
 unfold DetS
 refine Spec.of_vc Try.func74 rfl (by kernel_rfl) (by kernel_rfl) ?_
 rw [f_bag_put_s0_0] at h
 refine sg fun QQ1 hQ1 => ?_
 simp only [go_sem]
 refine seqQ_normal hQ1 ?_
 refine sg fun QQ2 hQ2 => ?_
 obtain ⟨v_0, ev_0, h⟩ := bindO_some h
 simp only [go_sem]
 refine callB (s' := (⟨1, [(0, .sl 3 (enc b_0)), (1, .agg [.v (.int .i64 rv_0.K), .v (.int .i64 rv_0.V)]), (2, .v (.int .i64 nv_0)), (4, .ptr 1 0), (6, .v (.slice none 0 0)), (10, .sl 3 (enc b_0)), (11, .agg [.v (.int .i64 rv_0.K), .v (.int .i64 rv_0.V)])], [(1, .box [.v (.int .i64 rv_0.K), .v (.int .i64 rv_0.V)])], 2, 66⟩ : St)) (l := [some 1]) (args' := [.sl 3 (enc b_0), .agg [.v (.int .i64 rv_0.K), .v (.int .i64 rv_0.V)], .clo 127 []]) ?_ ?_ (f_slices_BinarySearchFunc_Rec_ok b_0 rv_0 (fun x0_ x1_ => f_bag_put_1 x0_ x1_) 127 [] (by rfl) (by kernel_rfl) (fun y0 y1 r_ e_ => f_bag_put_1_ok y0 y1 r_ e_) v_0 ev_0) (by rfl) (by rfl) ?_
 · simp only [go_sem, Le] <;> (repeat' apply And.intro) <;> ((try with_reducible refine TL_eq ?_); (simp [go_sem]; done))
 · simp only [go_sem, Le] <;> (repeat' apply And.intro) <;> ((try with_reducible refine TL_eq ?_); (simp [go_sem]; done))
 simp only [go_sem]
 refine seqQ_normal hQ2 ?_
 refine vc_join (by kernel_rfl) ?_
 refine seq_go_gen ?_
 intro QQ3 hQ3
 refine vc_block_gen ?_
 intro QQ4 hQ4
 refine sg fun QQ5 hQ5 => ?_
 simp only [go_sem]
 rcases hb_0 : (nv_0 == 0) with _ | _
 ·
  replace h := if_f h hb_0
  obtain ⟨v_1, ev_1, h⟩ := bindO_some h
  simp only [go_sem, hb_0]
  refine call0 (f_bag_may_ok nv_0 v_1 ev_1) (by rfl) (by rfl) ?_
  simp only [go_sem]
  refine seqQ_normal hQ5 ?_
  refine vc_cond_of (b := (!v_1)) (by (simp only [go_sem]; done)) (fun hb_1 => ?_) (fun hb_1 => ?_)
  ·
   replace h := if_t h hb_1
   simp only [bool_to_prop] at hb_1
   refine vc_skip_of ?_
   refine blockQ_normal hQ4 ?_
   refine seqQ_normal hQ3 ?_
   refine sg fun QQ6 hQ6 => ?_
   simp only [go_sem]
   refine seqQ_normal hQ6 ?_
   refine vc_ret_of ?_
   simp only [go_sem]
   obtain rfl := Option.some.inj h
   refine retW_det [some 0] ?_
   simp only [go_sem, Le]
  ·
   replace h := if_f h hb_1
   simp only [bool_to_prop] at hb_1
   refine sg fun QQ7 hQ7 => ?_
   simp only [go_sem]
   refine seqQ_normal hQ7 ?_
   refine vc_cond_of (b := (!v_0.2)) (by (simp only [go_sem]; done)) (fun hb_2 => ?_) (fun hb_2 => ?_)
   ·
    replace h := if_t h hb_2
    simp only [bool_to_prop] at hb_2
    refine sg fun QQ8 hQ8 => ?_
    have rf_0 : [[.v (.int .i64 rv_0.K), .v (.int .i64 rv_0.V), .v (.int .i64 nv_0)]] = enc ([(⟨rv_0, nv_0⟩ : GItem)] : List GItem) := by rfl
    obtain ⟨v_2, ev_2, h⟩ := bindO_some h
    simp only [go_sem]
    simp only [rf_0]
    refine callD [0, 2] (f_slices_Insert_Item_s0_0_s2_0_det b_0 v_0.1 ([(⟨rv_0, nv_0⟩ : GItem)] : List GItem) v_2 ev_2) (by simp) rfl ⟨rfl, ⟨rfl, trivial⟩⟩ rfl rfl rfl rfl ?_
    simp only [go_sem]
    refine seqQ_normal hQ8 ?_
    refine vc_ret_of ?_
    refine blockQ_ret hQ4 ?_
    refine seqQ_ret hQ3 ?_
    simp only [go_sem]
    obtain rfl := Option.some.inj h
    refine retW_det [some 3] ?_
    simp only [go_sem, Le]
   ·
    replace h := if_f h hb_2
    simp only [bool_to_prop] at hb_2
    refine sg fun QQ9 hQ9 => ?_
    obtain ⟨xv_0, exv_0, h⟩ := bindO_some h
    obtain ⟨fxv_0a, fxv_0b, fxv_0c⟩ := idx_spec exv_0
    simp only [go_sem, fxv_0a, fxv_0b, fxv_0c]
    refine And.intro (by omega) ?_
    refine seqQ_normal hQ9 ?_
    refine vc_cond_of (b := ((IntKind.i64.wrap (xv_0.N + nv_0)) == 0)) (by (simp only [go_sem]; done)) (fun hb_3 => ?_) (fun hb_3 => ?_)
    ·
     replace h := if_t h hb_3
     simp only [bool_to_prop] at hb_3
     refine sg fun QQ10 hQ10 => ?_
     obtain ⟨v_3, ev_3, h⟩ := bindO_some h
     simp only [go_sem]
     refine callD [0] (f_slices_Delete_Item_s0_0_det b_0 v_0.1 (IntKind.i64.wrap (v_0.1 + 1)) v_3 ev_3) (by simp) rfl ⟨rfl, trivial⟩ rfl rfl rfl rfl ?_
     simp only [go_sem]
     refine seqQ_normal hQ10 ?_
     refine vc_ret_of ?_
     refine blockQ_ret hQ4 ?_
     refine seqQ_ret hQ3 ?_
     simp only [go_sem]
     obtain rfl := Option.some.inj h
     refine retW_det [some 2] ?_
     simp only [go_sem, Le]
    ·
     replace h := if_f h hb_3
     simp only [bool_to_prop] at hb_3
     refine sg fun QQ11 hQ11 => ?_
     obtain ⟨v_4, ev_4, h⟩ := bindO_some h
     simp only [go_sem, fxv_0a, fxv_0b, fxv_0c]
     refine And.intro (by omega) ?_
     refine call0 (f_bag_may_ok (IntKind.i64.wrap (xv_0.N + nv_0)) v_4 ev_4) (by rfl) (by rfl) ?_
     simp only [go_sem]
     refine seqQ_normal hQ11 ?_
     refine vc_cond_of (b := v_4) (by (simp only [go_sem]; done)) (fun hb_4 => ?_) (fun hb_4 => ?_)
     ·
      replace h := if_t h hb_4
      have rf_1 : (enc b_0).set (Int.toNat v_0.1) [.v (.int .i64 xv_0.Rec.K), .v (.int .i64 xv_0.Rec.V), .v (.int .i64 (IntKind.i64.wrap (xv_0.N + nv_0)))] = enc (List.set b_0 (Int.toNat v_0.1) (⟨xv_0.Rec, IntKind.i64.wrap (xv_0.N + nv_0)⟩ : GItem)) := by exact enc_set b_0 (Int.toNat v_0.1) (⟨xv_0.Rec, IntKind.i64.wrap (xv_0.N + nv_0)⟩ : GItem)
      simp only [go_sem, fxv_0a, fxv_0b, fxv_0c, rf_1]
      refine And.intro (by omega) ?_
      refine And.intro (by omega) ?_
      refine blockQ_normal hQ4 ?_
      refine seqQ_normal hQ3 ?_
      refine sg fun QQ12 hQ12 => ?_
      simp only [go_sem]
      refine seqQ_normal hQ12 ?_
      refine vc_ret_of ?_
      simp only [go_sem]
      obtain rfl := Option.some.inj h
      refine retW_det [some 0] ?_
      simp only [go_sem, Le]
     ·
      replace h := if_f h hb_4
      refine vc_skip_of ?_
      refine blockQ_normal hQ4 ?_
      refine seqQ_normal hQ3 ?_
      refine sg fun QQ13 hQ13 => ?_
      simp only [go_sem]
      refine seqQ_normal hQ13 ?_
      refine vc_ret_of ?_
      simp only [go_sem]
      obtain rfl := Option.some.inj h
      refine retW_det [some 0] ?_
      simp only [go_sem, Le]
 ·
  replace h := if_t h hb_0
  simp only [go_sem, hb_0]
  refine seqQ_normal hQ5 ?_
  refine vc_cond_t (by (simp only [go_sem]; done)) ?_
  refine vc_skip_of ?_
  refine blockQ_normal hQ4 ?_
  refine seqQ_normal hQ3 ?_
  refine sg fun QQ14 hQ14 => ?_
  simp only [go_sem]
  refine seqQ_normal hQ14 ?_
  refine vc_ret_of ?_
  simp only [go_sem]
  obtain rfl := Option.some.inj h
  refine retW_det [some 0] ?_
  simp only [go_sem, Le]

def f_slices_Clone_Item (s_0 : List GItem) : Option (List GItem) :=
 guardO ((List.length ([] : List GItem) + List.length s_0) * 24 ≤ 140737488355328) (
 some (([] : List GItem) ++ s_0))
theorem f_slices_Clone_Item_det (s_0 : List GItem)  (r : List GItem) (h : f_slices_Clone_Item s_0 = some r) : DetS Try.prog 130 [.sl 3 (enc s_0)] [] 0 (.osl 0 3 (0) (List.length r)) [(0, .arr 3 (enc r))] 1 := by
 unfold DetS
 refine Spec.of_vc Try.func130 rfl (by kernel_rfl) (by kernel_rfl) ?_
 rw [f_slices_Clone_Item] at h
 refine sg fun QQ1 hQ1 => ?_
 simp only [go_sem]
 refine seqQ_normal hQ1 ?_
 refine sg fun QQ2 hQ2 => ?_
 refine sg fun QQ3 hQ3 => ?_
 simp only [go_sem]
 intro nb_0 hnb_0
 rcases nb_0 with _ | _
 ·
  refine seqQ_normal hQ3 ?_
  refine vc_cond_f (by (simp only [go_sem]; done)) ?_
  refine vc_skip_of ?_
  refine seqQ_normal hQ2 ?_
  refine sg fun QQ4 hQ4 => ?_
  obtain ⟨g_0, h⟩ := guardO_some h
  simp only [List.length_cons, List.length_nil, Nat.zero_add, List.length_append] at g_0
  have rf_0 : enc ([] : List GItem) ++ enc s_0 = enc (([] : List GItem) ++ s_0) := by exact (enc_app ([] : List GItem) s_0).symm
  simp only [go_sem, g_0, rf_0]
  refine seqQ_normal hQ4 ?_
  refine vc_ret_of ?_
  simp only [go_sem]
  obtain rfl := Option.some.inj h
  refine retW_det [some 1] ?_
  simp only [go_sem, Le]
 ·
  have hE_nb_0 : s_0 = [] := by cases hq : (s_0) with | nil => rfl | cons y ys => exact absurd (hnb_0 (by rw [hq]; simp [enc])) (by simp)
  simp only [hE_nb_0] at h
  refine seqQ_normal hQ3 ?_
  refine vc_cond_t (by (simp only [go_sem]; done)) ?_
  refine sg fun QQ5 hQ5 => ?_
  simp only [go_sem]
  refine seqQ_normal hQ5 ?_
  refine vc_ret_of ?_
  refine seqQ_ret hQ2 ?_
  simp only [go_sem]
  obtain rfl := Option.some.inj h
  refine retW_det [none] ?_
  simp only [go_sem, Le] <;> (repeat' apply And.intro) <;> ((try with_reducible refine TL_eq ?_); (simp [go_sem]; done))
def f_bag_Less (a_0 : GRec) (b_0 : GRec) : Option Bool :=
 bindO (f_bag_order a_0 b_0) (fun (v_0 : Int) =>
 some (decide (v_0 < 0)))
theorem f_bag_Less_ok (a_0 : GRec) (b_0 : GRec)  (r : Bool) (h : f_bag_Less a_0 b_0 = some r) : PureS Try.prog 61 [.agg [.v (.int .i64 a_0.K), .v (.int .i64 a_0.V)], .agg [.v (.int .i64 b_0.K), .v (.int .i64 b_0.V)]] 0 (.v (.bool r)) := by
 unfold PureS
 refine Spec.of_vc Try.func61 rfl (by kernel_rfl) (by kernel_rfl) ?_
 rw [f_bag_Less] at h
 refine sg fun QQ1 hQ1 => ?_
 simp only [go_sem]
 refine seqQ_normal hQ1 ?_
 refine sg fun QQ2 hQ2 => ?_
 obtain ⟨v_0, ev_0, h⟩ := bindO_some h
 simp only [go_sem]
 refine call0 (f_bag_order_ok a_0 b_0 v_0 ev_0) (by rfl) (by rfl) ?_
 simp only [go_sem]
 refine seqQ_normal hQ2 ?_
 refine vc_ret_of ?_
 simp only [go_sem]
 obtain rfl := Option.some.inj h
 refine retW_pure rfl ?_
 simp only [go_sem, Le]

def f_bag_Right_B1 (b_0 : List GItem) (rec_1 : Int → Option Bool) : Int → Option Bool :=
 fun t7_1 =>
 (if (decide (t7_1 < (List.length b_0 : Int))) = true then bindO (idx b_0 t7_1) (fun (xv_4 : GItem) =>
 (if (xv_4.N == 0) = true then some false
 else bindO (f_bag_may xv_4.N) (fun (v_4 : Bool) =>
 (if v_4 = true then (if (decide (0 < t7_1)) = true then bindO (idx b_0 (IntKind.i64.wrap (t7_1 - 1))) (fun (xv_5 : GItem) =>
 bindO (f_bag_Less xv_5.Rec xv_4.Rec) (fun (v_5 : Bool) =>
 (if (!v_5) = true then some false
 else rec_1 (IntKind.i64.wrap (t7_1 + 1)))))
 else rec_1 (IntKind.i64.wrap (t7_1 + 1)))
 else some false))))
 else some true)
def f_bag_Right (b_0 : List GItem) : Option Bool :=
 loopK (f_bag_Right_B1 b_0) rounds 0
theorem f_bag_Right_ok (b_0 : List GItem)  (r : Bool) (h : f_bag_Right b_0 = some r) : PureS Try.prog 24 [.sl 3 (enc b_0)] 0 (.v (.bool r)) := by
 unfold PureS
 refine Spec.of_vc Try.func24 rfl (by kernel_rfl) (by kernel_rfl) ?_
 rw [f_bag_Right] at h
 refine sg fun QQ1 hQ1 => ?_
 simp only [go_sem]
 refine seqQ_normal hQ1 ?_
 refine vc_join (by kernel_rfl) ?_
 refine seq_go_gen ?_
 intro QQ2 hQ2
 refine sg fun QQ3 hQ3 => ?_
 simp only [go_sem]
 refine seqQ_normal hQ3 ?_
 refine vc_block_gen ?_
 intro QQ4 hQ4
 refine vc_loop_of ?_
 refine loop_gen (ι := Nat × Int) (fun ((_, t7_1) : Nat × Int) => (⟨0, [(0, .sl 3 (enc b_0)), (5, .sl 3 (enc b_0)), (6, .v (.int .i64 (List.length b_0 : Int))), (7, .v (.int .i64 t7_1))], [], 0, 38⟩ : St)) (fun ((n_, t7_1) : Nat × Int) => loopK (f_bag_Right_B1 b_0) n_ t7_1 = some r) (fun p => p.1) (rounds, 0) [] ?_ h ?_
 · simp only [go_sem, Le]
 ·
  rintro ⟨n_1, t7_1⟩ h QQ5 hQ5
  dsimp only at h
  replace h := loopK_some h
  obtain ⟨m_1, rfl, h⟩ := h
  rw [f_bag_Right_B1] at h
  refine sg fun QQ6 hQ6 => ?_
  simp only [go_sem]
  refine seqQ_normal hQ6 ?_
  refine sg fun QQ7 hQ7 => ?_
  refine vc_cond_of (b := (decide (t7_1 < (List.length b_0 : Int)))) (by (simp only [go_sem]; done)) (fun hb_10 => ?_) (fun hb_10 => ?_)
  ·
   replace h := if_t h hb_10
   simp only [bool_to_prop] at hb_10
   refine vc_skip_of ?_
   refine seqQ_normal hQ7 ?_
   refine sg fun QQ8 hQ8 => ?_
   refine vc_block_gen ?_
   intro QQ9 hQ9
   refine sg fun QQ10 hQ10 => ?_
   obtain ⟨xv_4, exv_4, h⟩ := bindO_some h
   obtain ⟨fxv_4a, fxv_4b, fxv_4c⟩ := idx_spec exv_4
   simp only [go_sem, fxv_4a, fxv_4b, fxv_4c]
   refine And.intro (by omega) ?_
   refine seqQ_normal hQ10 ?_
   refine sg fun QQ11 hQ11 => ?_
   refine vc_draw ?_
   refine drawM_tail 21 [0, 1, 3, 7, 15, 31, 63, 127, 255, 511, 1023, 2047, 4095, 8191, 8191, 24575, 65535, 131071, 262143, 8191, 532479, 2097151, 4194303, 8388607, 16777215] mixed (by kernel_rfl) (of_decide_eq_true (by kernel_rfl)) (by kernel_rfl) ?_
   simp only [go_sem]
   rcases hb_11 : (xv_4.N == 0) with _ | _
   ·
    replace h := if_f h hb_11
    obtain ⟨v_4, ev_4, h⟩ := bindO_some h
    simp only [go_sem, hb_11]
    refine callq (fun _ => (f_bag_may_ok xv_4.N v_4 ev_4)) (by rfl) (by rfl) ?_
    simp only [go_sem]
    rcases hb_12 : v_4 with _ | _
    ·
     replace h := if_f h hb_12
     simp only [go_sem, hb_12]
     refine seqQ_normal hQ11 ?_
     refine vc_cond_t (by (simp only [go_sem]; done)) ?_
     refine sg fun QQ12 hQ12 => ?_
     simp only [go_sem]
     refine seqQ_normal hQ12 ?_
     refine vc_ret_of ?_
     refine blockQ_ret hQ9 ?_
     refine seqQ_ret hQ8 ?_
     refine thenQ_ret hQ5 ?_
     refine blockQ_ret hQ4 ?_
     refine seqQ_ret hQ2 ?_
     simp only [go_sem]
     obtain rfl := Option.some.inj h
     refine retW_pure rfl ?_
     simp only [go_sem, Le]
    ·
     replace h := if_t h hb_12
     simp only [go_sem, hb_12]
     rcases hb_13 : (decide (0 < t7_1)) with _ | _
     ·
      replace h := if_f h hb_13
      simp only [go_sem, hb_13]
      refine seqQ_normal hQ11 ?_
      refine vc_cond_f (by (simp only [go_sem]; done)) ?_
      refine vc_skip_of ?_
      refine blockQ_normal hQ9 ?_
      refine seqQ_normal hQ8 ?_
      simp only [go_sem]
      refine thenQ_normal hQ5 ?_
      refine ⟨(m_1, IntKind.i64.wrap (t7_1 + 1)), [], ?_, h, Nat.lt_succ_self _⟩
      simp only [go_sem, Le]
     ·
      replace h := if_t h hb_13
      obtain ⟨xv_5, exv_5, h⟩ := bindO_some h
      obtain ⟨fxv_5a, fxv_5b, fxv_5c⟩ := idx_spec exv_5
      obtain ⟨v_5, ev_5, h⟩ := bindO_some h
      simp only [go_sem, hb_13, fxv_5a, fxv_5b, fxv_5c]
      refine And.intro (by omega) ?_
      refine call0 (f_bag_Less_ok xv_5.Rec xv_4.Rec v_5 ev_5) (by rfl) (by rfl) ?_
      simp only [go_sem]
      refine seqQ_normal hQ11 ?_
      refine vc_cond_of (b := (!v_5)) (by (simp only [go_sem]; done)) (fun hb_14 => ?_) (fun hb_14 => ?_)
      ·
       replace h := if_t h hb_14
       simp only [bool_to_prop] at hb_14
       refine sg fun QQ13 hQ13 => ?_
       simp only [go_sem]
       refine seqQ_normal hQ13 ?_
       refine vc_ret_of ?_
       refine blockQ_ret hQ9 ?_
       refine seqQ_ret hQ8 ?_
       refine thenQ_ret hQ5 ?_
       refine blockQ_ret hQ4 ?_
       refine seqQ_ret hQ2 ?_
       simp only [go_sem]
       obtain rfl := Option.some.inj h
       refine retW_pure rfl ?_
       simp only [go_sem, Le]
      ·
       replace h := if_f h hb_14
       simp only [bool_to_prop] at hb_14
       refine vc_skip_of ?_
       refine blockQ_normal hQ9 ?_
       refine seqQ_normal hQ8 ?_
       simp only [go_sem]
       refine thenQ_normal hQ5 ?_
       refine ⟨(m_1, IntKind.i64.wrap (t7_1 + 1)), [], ?_, h, Nat.lt_succ_self _⟩
       simp only [go_sem, Le]
   ·
    replace h := if_t h hb_11
    simp only [go_sem, hb_11]
    refine seqQ_normal hQ11 ?_
    refine vc_cond_t (by (simp only [go_sem]; done)) ?_
    refine sg fun QQ14 hQ14 => ?_
    simp only [go_sem]
    refine seqQ_normal hQ14 ?_
    refine vc_ret_of ?_
    refine blockQ_ret hQ9 ?_
    refine seqQ_ret hQ8 ?_
    refine thenQ_ret hQ5 ?_
    refine blockQ_ret hQ4 ?_
    refine seqQ_ret hQ2 ?_
    simp only [go_sem]
    obtain rfl := Option.some.inj h
    refine retW_pure rfl ?_
    simp only [go_sem, Le]
  ·
   replace h := if_f h hb_10
   simp only [bool_to_prop] at hb_10
   refine vc_exit_of ?_
   refine seqQ_exit hQ7 ?_
   refine thenQ_exit hQ5 ?_
   refine blockQ_exit hQ4 ?_
   refine seqQ_normal hQ2 ?_
   refine sg fun QQ15 hQ15 => ?_
   simp only [go_sem]
   refine seqQ_normal hQ15 ?_
   refine vc_ret_of ?_
   simp only [go_sem]
   obtain rfl := Option.some.inj h
   refine retW_pure rfl ?_
   simp only [go_sem, Le]

def f_bag_joined_B1 (b_0 : List GItem) (times_0 : Int) (rec_1 : Int × (List GItem) → Option (List GItem)) : Int × (List GItem) → Option (List GItem) :=
 fun (t23_1, a_2) =>
 (if (decide (t23_1 < (List.length b_0 : Int))) = true then bindO (idx b_0 t23_1) (fun (xv_2 : GItem) =>
 bindO (f_bag_put_s0_0 a_2 xv_2.Rec (IntKind.i64.wrap (times_0 * xv_2.N))) (fun (v_5 : List GItem) =>
 rec_1 (IntKind.i64.wrap (t23_1 + 1), v_5)))
 else some a_2)
def f_bag_joined (a_0 : List GItem) (b_0 : List GItem) (times_0 : Int) : Option (List GItem) :=
 bindO (f_slices_Clone_Item a_0) (fun (v_0 : List GItem) =>
 bindO (f_bag_Right a_0) (fun (v_1 : Bool) =>
 (if v_1 = true then bindO (f_bag_Right b_0) (fun (v_2 : Bool) =>
 (if (!v_2) = true then some v_0
 else loopK (f_bag_joined_B1 b_0 times_0) rounds (0, v_0)))
 else some v_0)))
theorem f_bag_joined_det (a_0 : List GItem) (b_0 : List GItem) (times_0 : Int)  (r : List GItem) (h : f_bag_joined a_0 b_0 times_0 = some r) : DetS Try.prog 75 [.sl 3 (enc a_0), .sl 3 (enc b_0), .v (.int .i64 times_0)] [] 0 (.osl 0 3 (0) (List.length r)) [(0, .arr 3 (enc r))] 1 := by
 unfold DetS
 refine Spec.of_vc Try.func75 rfl (by kernel_rfl) (by kernel_rfl) ?_
 rw [f_bag_joined] at h
 refine sg fun QQ1 hQ1 => ?_
 simp only [go_sem]
 refine seqQ_normal hQ1 ?_
 refine sg fun QQ2 hQ2 => ?_
 obtain ⟨v_0, ev_0, h⟩ := bindO_some h
 simp only [go_sem]
 refine callD [] (f_slices_Clone_Item_det a_0 v_0 ev_0) (by simp) rfl trivial rfl rfl rfl rfl ?_
 simp only [go_sem]
 refine seqQ_normal hQ2 ?_
 refine sg fun QQ3 hQ3 => ?_
 refine sg fun QQ4 hQ4 => ?_
 obtain ⟨v_1, ev_1, h⟩ := bindO_some h
 simp only [go_sem]
 refine call0 (f_bag_Right_ok a_0 v_1 ev_1) (by rfl) (by rfl) ?_
 simp only [go_sem]
 rcases hb_0 : v_1 with _ | _
 ·
  replace h := if_f h hb_0
  simp only [go_sem, hb_0]
  refine seqQ_normal hQ4 ?_
  refine vc_cond_t (by (simp only [go_sem]; done)) ?_
  refine sg fun QQ5 hQ5 => ?_
  simp only [go_sem]
  refine seqQ_normal hQ5 ?_
  refine vc_ret_of ?_
  refine seqQ_ret hQ3 ?_
  simp only [go_sem]
  obtain rfl := Option.some.inj h
  refine retW_det [some 0] ?_
  simp only [go_sem, Le]
 ·
  replace h := if_t h hb_0
  obtain ⟨v_2, ev_2, h⟩ := bindO_some h
  simp only [go_sem, hb_0]
  refine call0 (f_bag_Right_ok b_0 v_2 ev_2) (by rfl) (by rfl) ?_
  simp only [go_sem]
  refine seqQ_normal hQ4 ?_
  refine vc_cond_of (b := (!v_2)) (by (simp only [go_sem]; done)) (fun hb_1 => ?_) (fun hb_1 => ?_)
  ·
   replace h := if_t h hb_1
   simp only [bool_to_prop] at hb_1
   refine sg fun QQ6 hQ6 => ?_
   simp only [go_sem]
   refine seqQ_normal hQ6 ?_
   refine vc_ret_of ?_
   refine seqQ_ret hQ3 ?_
   simp only [go_sem]
   obtain rfl := Option.some.inj h
   refine retW_det [some 0] ?_
   simp only [go_sem, Le]
  ·
   replace h := if_f h hb_1
   simp only [bool_to_prop] at hb_1
   refine vc_skip_of ?_
   refine seqQ_normal hQ3 ?_
   refine vc_join (by kernel_rfl) ?_
   refine seq_go_gen ?_
   intro QQ7 hQ7
   refine sg fun QQ8 hQ8 => ?_
   simp only [go_sem]
   refine seqQ_normal hQ8 ?_
   refine vc_block_gen ?_
   intro QQ9 hQ9
   refine vc_loop_of ?_
   refine loop_gen (ι := Nat × Int × (List GItem)) (fun ((_, t23_1, a_2) : Nat × Int × (List GItem)) => (⟨0, [(2, .v (.int .i64 times_0)), (7, .osl 0 3 (0) (List.length a_2)), (21, .sl 3 (enc b_0)), (22, .v (.int .i64 (List.length b_0 : Int))), (23, .v (.int .i64 t23_1))], [(0, .arr 3 (enc a_2))], 1, 37⟩ : St)) (fun ((n_, t23_1, a_2) : Nat × Int × (List GItem)) => loopK (f_bag_joined_B1 b_0 times_0) n_ (t23_1, a_2) = some r) (fun p => p.1) (rounds, 0, v_0) [some 0] ?_ h ?_
   · simp only [go_sem, Le]
   ·
    rintro ⟨n_1, t23_1, a_2⟩ h QQ10 hQ10
    dsimp only at h
    replace h := loopK_some h
    obtain ⟨m_1, rfl, h⟩ := h
    rw [f_bag_joined_B1] at h
    refine sg fun QQ11 hQ11 => ?_
    simp only [go_sem]
    refine seqQ_normal hQ11 ?_
    refine sg fun QQ12 hQ12 => ?_
    refine vc_cond_of (b := (decide (t23_1 < (List.length b_0 : Int)))) (by (simp only [go_sem]; done)) (fun hb_4 => ?_) (fun hb_4 => ?_)
    ·
     replace h := if_t h hb_4
     simp only [bool_to_prop] at hb_4
     refine vc_skip_of ?_
     refine seqQ_normal hQ12 ?_
     refine sg fun QQ13 hQ13 => ?_
     refine vc_block_gen ?_
     intro QQ14 hQ14
     refine sg fun QQ15 hQ15 => ?_
     obtain ⟨xv_2, exv_2, h⟩ := bindO_some h
     obtain ⟨fxv_2a, fxv_2b, fxv_2c⟩ := idx_spec exv_2
     simp only [go_sem, fxv_2a, fxv_2b, fxv_2c]
     refine And.intro (by omega) ?_
     refine seqQ_normal hQ15 ?_
     obtain ⟨v_5, ev_5, h⟩ := bindO_some h
     simp only [go_sem]
     refine callD [0] (f_bag_put_s0_0_det a_2 xv_2.Rec (IntKind.i64.wrap (times_0 * xv_2.N)) v_5 ev_5) (by simp) rfl ⟨rfl, trivial⟩ rfl rfl rfl rfl ?_
     simp only [go_sem]
     refine blockQ_normal hQ14 ?_
     refine seqQ_normal hQ13 ?_
     simp only [go_sem]
     refine thenQ_normal hQ10 ?_
     refine ⟨(m_1, IntKind.i64.wrap (t23_1 + 1), v_5), [some 2], ?_, h, Nat.lt_succ_self _⟩
     simp only [go_sem, Le]
    ·
     replace h := if_f h hb_4
     simp only [bool_to_prop] at hb_4
     refine vc_exit_of ?_
     refine seqQ_exit hQ12 ?_
     refine thenQ_exit hQ10 ?_
     refine blockQ_exit hQ9 ?_
     refine seqQ_normal hQ7 ?_
     refine sg fun QQ16 hQ16 => ?_
     simp only [go_sem]
     refine seqQ_normal hQ16 ?_
     refine vc_ret_of ?_
     simp only [go_sem]
     obtain rfl := Option.some.inj h
     refine retW_det [some 0] ?_
     simp only [go_sem, Le]
def f_bag_Plus (a_0 : List GItem) (b_0 : List GItem) : Option (List GItem) :=
 bindO (f_bag_joined a_0 b_0 1) (fun (v_0 : List GItem) =>
 some v_0)
theorem f_bag_Plus_det (a_0 : List GItem) (b_0 : List GItem)  (r : List GItem) (h : f_bag_Plus a_0 b_0 = some r) : DetS Try.prog 27 [.sl 3 (enc a_0), .sl 3 (enc b_0)] [] 0 (.osl 0 3 (0) (List.length r)) [(0, .arr 3 (enc r))] 1 := by
 unfold DetS
 refine Spec.of_vc Try.func27 rfl (by kernel_rfl) (by kernel_rfl) ?_
 rw [f_bag_Plus] at h
 refine sg fun QQ1 hQ1 => ?_
 simp only [go_sem]
 refine seqQ_normal hQ1 ?_
 refine sg fun QQ2 hQ2 => ?_
 obtain ⟨v_0, ev_0, h⟩ := bindO_some h
 simp only [go_sem]
 refine callD [] (f_bag_joined_det a_0 b_0 1 v_0 ev_0) (by simp) rfl trivial rfl rfl rfl rfl ?_
 simp only [go_sem]
 refine seqQ_normal hQ2 ?_
 refine vc_ret_of ?_
 simp only [go_sem]
 obtain rfl := Option.some.inj h
 refine retW_det [some 0] ?_
 simp only [go_sem, Le]
theorem f_bag_Plus_ok (a_0 : List GItem) (b_0 : List GItem)  (r : List GItem) (h : f_bag_Plus a_0 b_0 = some r) : PureS Try.prog 27 [.sl 3 (enc a_0), .sl 3 (enc b_0)] 0 (.sl 3 (enc r)) := by
 refine (f_bag_Plus_det a_0 b_0  r h).pure ?_
 simp only [go_sem, Le] <;> (repeat' apply And.intro) <;> ((try with_reducible refine TL_eq ?_); (simp [go_sem]; done))

def f_bag_Add (b_0 : List GItem) (rv_0 : GRec) (nv_0 : Int) : Option (List GItem) :=
 bindO (f_slices_Clone_Item b_0) (fun (v_0 : List GItem) =>
 bindO (f_bag_Right b_0) (fun (v_1 : Bool) =>
 (if (!v_1) = true then some v_0
 else bindO (f_bag_put_s0_0 v_0 rv_0 nv_0) (fun (v_2 : List GItem) =>
 some v_2))))
theorem f_bag_Add_det (b_0 : List GItem) (rv_0 : GRec) (nv_0 : Int)  (r : List GItem) (h : f_bag_Add b_0 rv_0 nv_0 = some r) : DetS Try.prog 94 [.sl 3 (enc b_0), .agg [.v (.int .i64 rv_0.K), .v (.int .i64 rv_0.V)], .v (.int .i64 nv_0)] [] 0 (.osl 0 3 (0) (List.length r)) [(0, .arr 3 (enc r))] 1 := by
 unfold DetS
 refine Spec.of_vc Try.func94 rfl (by kernel_rfl) (by kernel_rfl) ?_
 rw [f_bag_Add] at h
 refine sg fun QQ1 hQ1 => ?_
 simp only [go_sem]
 refine seqQ_normal hQ1 ?_
 refine sg fun QQ2 hQ2 => ?_
 obtain ⟨v_0, ev_0, h⟩ := bindO_some h
 simp only [go_sem]
 refine callD [] (f_slices_Clone_Item_det b_0 v_0 ev_0) (by simp) rfl trivial rfl rfl rfl rfl ?_
 simp only [go_sem]
 refine seqQ_normal hQ2 ?_
 refine sg fun QQ3 hQ3 => ?_
 refine sg fun QQ4 hQ4 => ?_
 obtain ⟨v_1, ev_1, h⟩ := bindO_some h
 simp only [go_sem]
 refine call0 (f_bag_Right_ok b_0 v_1 ev_1) (by rfl) (by rfl) ?_
 simp only [go_sem]
 refine seqQ_normal hQ4 ?_
 refine vc_cond_of (b := (!v_1)) (by (simp only [go_sem]; done)) (fun hb_0 => ?_) (fun hb_0 => ?_)
 ·
  replace h := if_t h hb_0
  simp only [bool_to_prop] at hb_0
  refine sg fun QQ5 hQ5 => ?_
  simp only [go_sem]
  refine seqQ_normal hQ5 ?_
  refine vc_ret_of ?_
  refine seqQ_ret hQ3 ?_
  simp only [go_sem]
  obtain rfl := Option.some.inj h
  refine retW_det [some 1] ?_
  simp only [go_sem, Le]
 ·
  replace h := if_f h hb_0
  simp only [bool_to_prop] at hb_0
  refine vc_skip_of ?_
  refine seqQ_normal hQ3 ?_
  refine sg fun QQ6 hQ6 => ?_
  obtain ⟨v_2, ev_2, h⟩ := bindO_some h
  simp only [go_sem]
  refine callD [1] (f_bag_put_s0_0_det v_0 rv_0 nv_0 v_2 ev_2) (by simp) rfl ⟨rfl, trivial⟩ rfl rfl rfl rfl ?_
  simp only [go_sem]
  refine seqQ_normal hQ6 ?_
  refine vc_ret_of ?_
  simp only [go_sem]
  obtain rfl := Option.some.inj h
  refine retW_det [some 2] ?_
  simp only [go_sem, Le]
theorem f_bag_Add_ok (b_0 : List GItem) (rv_0 : GRec) (nv_0 : Int)  (r : List GItem) (h : f_bag_Add b_0 rv_0 nv_0 = some r) : PureS Try.prog 94 [.sl 3 (enc b_0), .agg [.v (.int .i64 rv_0.K), .v (.int .i64 rv_0.V)], .v (.int .i64 nv_0)] 0 (.sl 3 (enc r)) := by
 refine (f_bag_Add_det b_0 rv_0 nv_0  r h).pure ?_
 simp only [go_sem, Le] <;> (repeat' apply And.intro) <;> ((try with_reducible refine TL_eq ?_); (simp [go_sem]; done))

def f_bag_There_J1 (b_0 : List GItem) (a_2 : List GItem) : Option (List GItem) :=
 bindO (f_bag_Right b_0) (fun (v_0 : Bool) =>
 (if (!v_0) = true then some ([] : List GItem)
 else some a_2))
def f_bag_There_B2 (b_0 : List GItem) (rec_2 : Int × (List GItem) → Option (List GItem)) : Int × (List GItem) → Option (List GItem) :=
 fun (t8_3, a_4) =>
 (if (decide (t8_3 < (List.length b_0 : Int))) = true then bindO (idx b_0 t8_3) (fun (xv_5 : GItem) =>
 (if (decide (0 < xv_5.N)) = true then guardO ((List.length a_4 + List.length ([xv_5] : List GItem)) * 24 ≤ 140737488355328) (
 rec_2 (IntKind.i64.wrap (t8_3 + 1), (a_4 ++ ([xv_5] : List GItem))))
 else rec_2 (IntKind.i64.wrap (t8_3 + 1), a_4)))
 else f_bag_There_J1 b_0 a_4)
def f_bag_There (b_0 : List GItem) : Option (List GItem) :=
 loopK (f_bag_There_B2 b_0) rounds (0, [])
theorem f_bag_There_det (b_0 : List GItem)  (r : List GItem) (h : f_bag_There b_0 = some r) : DetS Try.prog 22 [.sl 3 (enc b_0)] [] 0 (.osl 0 3 (0) (List.length r)) [(0, .arr 3 (enc r))] 1 := by
 unfold DetS
 refine Spec.of_vc Try.func22 rfl (by kernel_rfl) (by kernel_rfl) ?_
 rw [f_bag_There] at h
 refine sg fun QQ1 hQ1 => ?_
 simp only [go_sem]
 refine seqQ_normal hQ1 ?_
 refine sg fun QQ2 hQ2 => ?_
 simp only [go_sem]
 refine seqQ_normal hQ2 ?_
 refine vc_join (by kernel_rfl) ?_
 refine seq_cut_gen (ι := (List GItem)) (fun (a_2 : (List GItem)) => (⟨0, [(0, .sl 3 (enc b_0)), (3, .osl 0 3 (0) (List.length a_2))], [(0, .arr 3 (enc a_2))], 1, 24⟩ : St)) (fun (a_2 : (List GItem)) => f_bag_There_J1 b_0 a_2 = some r) ?_ ?_
 ·
  intro QQ7 hQ7
  refine sg fun QQ8 hQ8 => ?_
  simp only [go_sem]
  refine seqQ_normal hQ8 ?_
  refine vc_block_gen ?_
  intro QQ9 hQ9
  refine vc_loop_of ?_
  refine loop_gen (ι := Nat × Int × (List GItem)) (fun ((_, t8_3, a_4) : Nat × Int × (List GItem)) => (⟨0, [(0, .sl 3 (enc b_0)), (3, .osl 0 3 (0) (List.length a_4)), (6, .sl 3 (enc b_0)), (7, .v (.int .i64 (List.length b_0 : Int))), (8, .v (.int .i64 t8_3))], [(0, .arr 3 (enc a_4))], 1, 24⟩ : St)) (fun ((n_, t8_3, a_4) : Nat × Int × (List GItem)) => loopK (f_bag_There_B2 b_0) n_ (t8_3, a_4) = some r) (fun p => p.1) (rounds, 0, []) [none] ?_ h ?_
  · simp only [go_sem, Le] <;> (repeat' apply And.intro) <;> ((try with_reducible refine TL_eq ?_); (simp [go_sem]; done))
  ·
   rintro ⟨n_2, t8_3, a_4⟩ h QQ10 hQ10
   dsimp only at h
   replace h := loopK_some h
   obtain ⟨m_2, rfl, h⟩ := h
   rw [f_bag_There_B2] at h
   refine sg fun QQ11 hQ11 => ?_
   simp only [go_sem]
   refine seqQ_normal hQ11 ?_
   refine sg fun QQ12 hQ12 => ?_
   refine vc_cond_of (b := (decide (t8_3 < (List.length b_0 : Int)))) (by (simp only [go_sem]; done)) (fun hb_11 => ?_) (fun hb_11 => ?_)
   ·
    replace h := if_t h hb_11
    simp only [bool_to_prop] at hb_11
    refine vc_skip_of ?_
    refine seqQ_normal hQ12 ?_
    refine vc_join (by kernel_rfl) ?_
    refine seq_go_gen ?_
    intro QQ13 hQ13
    refine vc_block_gen ?_
    intro QQ14 hQ14
    refine sg fun QQ15 hQ15 => ?_
    obtain ⟨xv_5, exv_5, h⟩ := bindO_some h
    obtain ⟨fxv_5a, fxv_5b, fxv_5c⟩ := idx_spec exv_5
    simp only [go_sem, fxv_5a, fxv_5b, fxv_5c]
    refine And.intro (by omega) ?_
    refine seqQ_normal hQ15 ?_
    refine sg fun QQ16 hQ16 => ?_
    simp only [go_sem]
    refine seqQ_normal hQ16 ?_
    refine vc_cond_of (b := (decide (0 < xv_5.N))) (by (simp only [go_sem]; done)) (fun hb_12 => ?_) (fun hb_12 => ?_)
    ·
     replace h := if_t h hb_12
     simp only [bool_to_prop] at hb_12
     have rf_8 : [[.v (.int .i64 xv_5.Rec.K), .v (.int .i64 xv_5.Rec.V), .v (.int .i64 xv_5.N)]] = enc ([xv_5] : List GItem) := by rfl
     obtain ⟨g_5, h⟩ := guardO_some h
     simp only [List.length_cons, List.length_nil, Nat.zero_add, List.length_append] at g_5
     have rf_9 : enc a_4 ++ [[.v (.int .i64 xv_5.Rec.K), .v (.int .i64 xv_5.Rec.V), .v (.int .i64 xv_5.N)]] = enc (a_4 ++ ([xv_5] : List GItem)) := by exact (enc_app a_4 ([xv_5] : List GItem)).symm
     simp only [go_sem, g_5, rf_9]
     simp only [rf_8]
     refine blockQ_normal hQ14 ?_
     refine seqQ_normal hQ13 ?_
     simp only [go_sem]
     refine thenQ_normal hQ10 ?_
     refine ⟨(m_2, IntKind.i64.wrap (t8_3 + 1), (a_4 ++ ([xv_5] : List GItem))), [some 3], ?_, h, Nat.lt_succ_self _⟩
     simp only [go_sem, Le] <;> (repeat' apply And.intro) <;> ((try with_reducible refine TL_eq ?_); (simp [go_sem]; done))
    ·
     replace h := if_f h hb_12
     simp only [bool_to_prop] at hb_12
     refine vc_skip_of ?_
     refine blockQ_normal hQ14 ?_
     refine seqQ_normal hQ13 ?_
     simp only [go_sem]
     refine thenQ_normal hQ10 ?_
     refine ⟨(m_2, IntKind.i64.wrap (t8_3 + 1), a_4), [some 0], ?_, h, Nat.lt_succ_self _⟩
     simp only [go_sem, Le]
   ·
    replace h := if_f h hb_11
    simp only [bool_to_prop] at hb_11
    refine vc_exit_of ?_
    refine seqQ_exit hQ12 ?_
    refine thenQ_exit hQ10 ?_
    refine blockQ_exit hQ9 ?_
    refine thenQ_normal hQ7 ?_
    refine ⟨a_4, [some 0], ?_, h⟩
    simp only [go_sem, Le]
 ·
  rintro a_2 h
  try dsimp only at h
  rw [f_bag_There_J1] at h
  refine sg fun QQ3 hQ3 => ?_
  refine sg fun QQ4 hQ4 => ?_
  obtain ⟨v_0, ev_0, h⟩ := bindO_some h
  simp only [go_sem]
  refine call0 (f_bag_Right_ok b_0 v_0 ev_0) (by rfl) (by rfl) ?_
  simp only [go_sem]
  refine seqQ_normal hQ4 ?_
  refine vc_cond_of (b := (!v_0)) (by (simp only [go_sem]; done)) (fun hb_6 => ?_) (fun hb_6 => ?_)
  ·
   replace h := if_t h hb_6
   simp only [bool_to_prop] at hb_6
   refine sg fun QQ5 hQ5 => ?_
   simp only [go_sem]
   refine seqQ_normal hQ5 ?_
   refine vc_ret_of ?_
   refine seqQ_ret hQ3 ?_
   simp only [go_sem]
   obtain rfl := Option.some.inj h
   refine retW_det [none] ?_
   simp only [go_sem, Le] <;> (repeat' apply And.intro) <;> ((try with_reducible refine TL_eq ?_); (simp [go_sem]; done))
  ·
   replace h := if_f h hb_6
   simp only [bool_to_prop] at hb_6
   refine vc_skip_of ?_
   refine seqQ_normal hQ3 ?_
   refine sg fun QQ6 hQ6 => ?_
   simp only [go_sem]
   refine seqQ_normal hQ6 ?_
   refine vc_ret_of ?_
   simp only [go_sem]
   obtain rfl := Option.some.inj h
   refine retW_det [some 0] ?_
   simp only [go_sem, Le]
def f_slices_Equal_Item_B1 (s1_0 : List GItem) (s2_0 : List GItem) (rec_1 : Int → Option Bool) : Int → Option Bool :=
 fun t13_1 =>
 (if (decide (t13_1 < (List.length s1_0 : Int))) = true then bindO (idx s1_0 t13_1) (fun (xv_4 : GItem) =>
 bindO (idx s2_0 t13_1) (fun (xv_5 : GItem) =>
 (if (!((xv_4.Rec.K == xv_5.Rec.K) && ((xv_4.Rec.V == xv_5.Rec.V) && (xv_4.N == xv_5.N)))) = true then some false
 else rec_1 (IntKind.i64.wrap (t13_1 + 1)))))
 else some true)
def f_slices_Equal_Item (s1_0 : List GItem) (s2_0 : List GItem) : Option Bool :=
 (if (!((List.length s1_0 : Int) == (List.length s2_0 : Int))) = true then some false
 else loopK (f_slices_Equal_Item_B1 s1_0 s2_0) rounds 0)
theorem f_slices_Equal_Item_ok (s1_0 : List GItem) (s2_0 : List GItem)  (r : Bool) (h : f_slices_Equal_Item s1_0 s2_0 = some r) : PureS Try.prog 72 [.sl 3 (enc s1_0), .sl 3 (enc s2_0)] 0 (.v (.bool r)) := by
 unfold PureS
 refine Spec.of_vc Try.func72 rfl (by kernel_rfl) (by kernel_rfl) ?_
 rw [f_slices_Equal_Item] at h
 refine sg fun QQ1 hQ1 => ?_
 simp only [go_sem]
 refine seqQ_normal hQ1 ?_
 refine sg fun QQ2 hQ2 => ?_
 refine sg fun QQ3 hQ3 => ?_
 simp only [go_sem]
 refine seqQ_normal hQ3 ?_
 refine vc_cond_of (b := (!((List.length s1_0 : Int) == (List.length s2_0 : Int)))) (by (simp only [go_sem]; done)) (fun hb_0 => ?_) (fun hb_0 => ?_)
 ·
  replace h := if_t h hb_0
  simp only [bool_to_prop] at hb_0
  refine sg fun QQ4 hQ4 => ?_
  simp only [go_sem]
  refine seqQ_normal hQ4 ?_
  refine vc_ret_of ?_
  refine seqQ_ret hQ2 ?_
  simp only [go_sem]
  obtain rfl := Option.some.inj h
  refine retW_pure rfl ?_
  simp only [go_sem, Le]
 ·
  replace h := if_f h hb_0
  simp only [bool_to_prop] at hb_0
  refine vc_skip_of ?_
  refine seqQ_normal hQ2 ?_
  refine vc_join (by kernel_rfl) ?_
  refine seq_go_gen ?_
  intro QQ5 hQ5
  refine sg fun QQ6 hQ6 => ?_
  simp only [go_sem]
  refine seqQ_normal hQ6 ?_
  refine vc_block_gen ?_
  intro QQ7 hQ7
  refine vc_loop_of ?_
  refine loop_gen (ι := Nat × Int) (fun ((_, t13_1) : Nat × Int) => (⟨0, [(0, .sl 3 (enc s1_0)), (1, .sl 3 (enc s2_0)), (12, .v (.int .i64 (List.length s1_0 : Int))), (13, .v (.int .i64 t13_1))], [], 0, 26⟩ : St)) (fun ((n_, t13_1) : Nat × Int) => loopK (f_slices_Equal_Item_B1 s1_0 s2_0) n_ t13_1 = some r) (fun p => p.1) (rounds, 0) [] ?_ h ?_
  · simp only [go_sem, Le]
  ·
   rintro ⟨n_1, t13_1⟩ h QQ8 hQ8
   dsimp only at h
   replace h := loopK_some h
   obtain ⟨m_1, rfl, h⟩ := h
   rw [f_slices_Equal_Item_B1] at h
   refine sg fun QQ9 hQ9 => ?_
   simp only [go_sem]
   refine seqQ_normal hQ9 ?_
   refine sg fun QQ10 hQ10 => ?_
   refine vc_cond_of (b := (decide (t13_1 < (List.length s1_0 : Int)))) (by (simp only [go_sem]; done)) (fun hb_5 => ?_) (fun hb_5 => ?_)
   ·
    replace h := if_t h hb_5
    simp only [bool_to_prop] at hb_5
    refine vc_skip_of ?_
    refine seqQ_normal hQ10 ?_
    refine sg fun QQ11 hQ11 => ?_
    refine vc_block_gen ?_
    intro QQ12 hQ12
    refine sg fun QQ13 hQ13 => ?_
    simp only [go_sem]
    refine seqQ_normal hQ13 ?_
    refine sg fun QQ14 hQ14 => ?_
    refine vc_draw ?_
    refine drawM_tail 8 [0, 0, 3, 7, 0, 0, 48, 112, 255] mixed (by kernel_rfl) (of_decide_eq_true (by kernel_rfl)) (by kernel_rfl) ?_
    obtain ⟨xv_4, exv_4, h⟩ := bindO_some h
    obtain ⟨fxv_4a, fxv_4b, fxv_4c⟩ := idx_spec exv_4
    obtain ⟨xv_5, exv_5, h⟩ := bindO_some h
    obtain ⟨fxv_5a, fxv_5b, fxv_5c⟩ := idx_spec exv_5
    simp only [go_sem, fxv_4a, fxv_4b, fxv_4c, fxv_5a, fxv_5b, fxv_5c]
    refine And.intro (by omega) ?_
    refine And.intro (by omega) ?_
    refine seqQ_normal hQ14 ?_
    refine vc_cond_of (b := (!((xv_4.Rec.K == xv_5.Rec.K) && ((xv_4.Rec.V == xv_5.Rec.V) && (xv_4.N == xv_5.N))))) (by (simp only [go_sem]; done)) (fun hb_6 => ?_) (fun hb_6 => ?_)
    ·
     replace h := if_t h hb_6
     simp only [bool_to_prop] at hb_6
     refine sg fun QQ15 hQ15 => ?_
     simp only [go_sem]
     refine seqQ_normal hQ15 ?_
     refine vc_ret_of ?_
     refine blockQ_ret hQ12 ?_
     refine seqQ_ret hQ11 ?_
     refine thenQ_ret hQ8 ?_
     refine blockQ_ret hQ7 ?_
     refine seqQ_ret hQ5 ?_
     simp only [go_sem]
     obtain rfl := Option.some.inj h
     refine retW_pure rfl ?_
     simp only [go_sem, Le]
    ·
     replace h := if_f h hb_6
     simp only [bool_to_prop] at hb_6
     refine vc_skip_of ?_
     refine blockQ_normal hQ12 ?_
     refine seqQ_normal hQ11 ?_
     simp only [go_sem]
     refine thenQ_normal hQ8 ?_
     refine ⟨(m_1, IntKind.i64.wrap (t13_1 + 1)), [], ?_, h, Nat.lt_succ_self _⟩
     simp only [go_sem, Le]
   ·
    replace h := if_f h hb_5
    simp only [bool_to_prop] at hb_5
    refine vc_exit_of ?_
    refine seqQ_exit hQ10 ?_
    refine thenQ_exit hQ8 ?_
    refine blockQ_exit hQ7 ?_
    refine seqQ_normal hQ5 ?_
    refine sg fun QQ16 hQ16 => ?_
    simp only [go_sem]
    refine seqQ_normal hQ16 ?_
    refine vc_ret_of ?_
    simp only [go_sem]
    obtain rfl := Option.some.inj h
    refine retW_pure rfl ?_
    simp only [go_sem, Le]

def f_bag_Same (a_0 : List GItem) (b_0 : List GItem) : Option Bool :=
 bindO (f_slices_Equal_Item a_0 b_0) (fun (v_0 : Bool) =>
 some v_0)
theorem f_bag_Same_ok (a_0 : List GItem) (b_0 : List GItem)  (r : Bool) (h : f_bag_Same a_0 b_0 = some r) : PureS Try.prog 23 [.sl 3 (enc a_0), .sl 3 (enc b_0)] 0 (.v (.bool r)) := by
 unfold PureS
 refine Spec.of_vc Try.func23 rfl (by kernel_rfl) (by kernel_rfl) ?_
 rw [f_bag_Same] at h
 refine sg fun QQ1 hQ1 => ?_
 simp only [go_sem]
 refine seqQ_normal hQ1 ?_
 refine sg fun QQ2 hQ2 => ?_
 obtain ⟨v_0, ev_0, h⟩ := bindO_some h
 simp only [go_sem]
 refine call0 (f_slices_Equal_Item_ok a_0 b_0 v_0 ev_0) (by rfl) (by rfl) ?_
 simp only [go_sem]
 refine seqQ_normal hQ2 ?_
 refine vc_ret_of ?_
 simp only [go_sem]
 obtain rfl := Option.some.inj h
 refine retW_pure rfl ?_
 simp only [go_sem, Le]

def f_backwashref05_Less (a_0 : GRec) (b_0 : GRec) : Option Bool :=
 some ((decide (a_0.K < b_0.K)) || ((a_0.K == b_0.K) && (decide (a_0.V < b_0.V))))
def f_backwashref05_Right_B1 (b_0 : List GItem) (rec_1 : Int → Option Bool) : Int → Option Bool :=
 fun i_1 =>
 (if (decide (i_1 < (List.length b_0 : Int))) = true then bindO (idx b_0 i_1) (fun (xv_4 : GItem) =>
 (if (xv_4.N == 0) = true then some false
 else (if (decide (2147483648 < xv_4.N)) = true then some false
 else (if (decide (xv_4.N < (-2147483648))) = true then some false
 else (if (decide (0 < i_1)) = true then bindO (idx b_0 (IntKind.i64.wrap (i_1 - 1))) (fun (xv_5 : GItem) =>
 bindO (f_backwashref05_Less xv_5.Rec xv_4.Rec) (fun (v_2 : Bool) =>
 (if (!v_2) = true then some false
 else rec_1 (IntKind.i64.wrap (i_1 + 1)))))
 else rec_1 (IntKind.i64.wrap (i_1 + 1)))))))
 else some true)
def f_backwashref05_Right (b_0 : List GItem) : Option Bool :=
 loopK (f_backwashref05_Right_B1 b_0) rounds 0
def f_backwashref05_Add_J1 (rv_0 : GRec) (nv_0 : Int) (done_5 : Bool) (a_5 : List GItem) : Option (List GItem) :=
 (if (!done_5) = true then guardO ((List.length a_5 + List.length ([(⟨rv_0, nv_0⟩ : GItem)] : List GItem)) * 24 ≤ 140737488355328) (
 some (a_5 ++ ([(⟨rv_0, nv_0⟩ : GItem)] : List GItem)))
 else some a_5)
def f_backwashref05_Add_J3 (i_3 : Int) (rec_2 : (Bool × Int × (List GItem) → Option (List GItem))) (done_10 : Bool) (a_10 : List GItem) (b_6 : GItem) : Option (List GItem) :=
 (if (!(b_6.N == 0)) = true then guardO ((List.length a_10 + List.length ([b_6] : List GItem)) * 24 ≤ 140737488355328) (
 rec_2 (done_10, IntKind.i64.wrap (i_3 + 1), (a_10 ++ ([b_6] : List GItem))))
 else rec_2 (done_10, IntKind.i64.wrap (i_3 + 1), a_10))
def f_backwashref05_Add_B2 (b_0 : List GItem) (rv_0 : GRec) (nv_0 : Int) (rec_2 : Bool × Int × (List GItem) → Option (List GItem)) : Bool × Int × (List GItem) → Option (List GItem) :=
 fun (done_9, i_3, a_9) =>
 (if (decide (i_3 < (List.length b_0 : Int))) = true then bindO (idx b_0 i_3) (fun (xv_5 : GItem) =>
 (if ((xv_5.Rec.K == rv_0.K) && (xv_5.Rec.V == rv_0.V)) = true then (if ((decide (2147483648 < (IntKind.i64.wrap (xv_5.N + nv_0)))) || (decide ((IntKind.i64.wrap (xv_5.N + nv_0)) < (-2147483648)))) = true then some (([] : List GItem) ++ b_0)
 else f_backwashref05_Add_J3 i_3 rec_2 true a_9 (⟨xv_5.Rec, IntKind.i64.wrap (xv_5.N + nv_0)⟩ : GItem))
 else (if done_9 = true then f_backwashref05_Add_J3 i_3 rec_2 true a_9 xv_5
 else bindO (f_backwashref05_Less rv_0 xv_5.Rec) (fun (v_12 : Bool) =>
 (if v_12 = true then guardO ((List.length a_9 + List.length ([(⟨rv_0, nv_0⟩ : GItem)] : List GItem)) * 24 ≤ 140737488355328) (
 f_backwashref05_Add_J3 i_3 rec_2 true (a_9 ++ ([(⟨rv_0, nv_0⟩ : GItem)] : List GItem)) xv_5)
 else f_backwashref05_Add_J3 i_3 rec_2 false a_9 xv_5)))))
 else f_backwashref05_Add_J1 rv_0 nv_0 done_9 a_9)
def f_backwashref05_Add (b_0 : List GItem) (rv_0 : GRec) (nv_0 : Int) : Option (List GItem) :=
 guardO ((List.length ([] : List GItem) + List.length b_0) * 24 ≤ 140737488355328) (
 bindO (f_backwashref05_Right b_0) (fun (v_0 : Bool) =>
 (if (((!v_0) || (decide (2147483648 < nv_0))) || (decide (nv_0 < (-2147483648)))) = true then some (([] : List GItem) ++ b_0)
 else loopK (f_backwashref05_Add_B2 b_0 rv_0 nv_0) rounds ((nv_0 == 0), 0, []))))
def f_backwashref05_Same_B1 (a_0 : List GItem) (b_0 : List GItem) (rec_1 : Int → Option Bool) : Int → Option Bool :=
 fun i_1 =>
 (if (decide (i_1 < (List.length a_0 : Int))) = true then bindO (idx a_0 i_1) (fun (xv_4 : GItem) =>
 bindO (idx b_0 i_1) (fun (xv_5 : GItem) =>
 (if (!((xv_4.Rec.K == xv_5.Rec.K) && ((xv_4.Rec.V == xv_5.Rec.V) && (xv_4.N == xv_5.N)))) = true then some false
 else rec_1 (IntKind.i64.wrap (i_1 + 1)))))
 else some true)
def f_backwashref05_Same (a_0 : List GItem) (b_0 : List GItem) : Option Bool :=
 (if (!((List.length a_0 : Int) == (List.length b_0 : Int))) = true then some false
 else loopK (f_backwashref05_Same_B1 a_0 b_0) rounds 0)
def f_prog_jumps (op_0 : Int) : Option Bool :=
 some ((op_0 == 14) || (op_0 == 15))
theorem f_prog_jumps_ok (op_0 : Int)  (r : Bool) (h : f_prog_jumps op_0 = some r) : PureS Try.prog 208 [.v (.int .i64 op_0)] 0 (.v (.bool r)) := by
 unfold PureS
 refine Spec.of_vc Try.func208 rfl (by kernel_rfl) (by kernel_rfl) ?_
 rw [f_prog_jumps] at h
 refine sg fun QQ1 hQ1 => ?_
 simp only [go_sem]
 refine seqQ_normal hQ1 ?_
 refine sg fun QQ2 hQ2 => ?_
 simp only [go_sem]
 refine seqQ_normal hQ2 ?_
 refine vc_ret_of ?_
 simp only [go_sem]
 obtain rfl := Option.some.inj h
 refine retW_pure rfl ?_
 simp only [go_sem, Le]

def f_prog_Right_B1 (p_0 : List GIns) (rec_1 : Int → Option Bool) : Int → Option Bool :=
 fun t10_1 =>
 (if (decide (t10_1 < (List.length p_0 : Int))) = true then bindO (idx p_0 t10_1) (fun (xv_2 : GIns) =>
 (if ((decide (xv_2.Op < 1)) || (decide (16 < xv_2.Op))) = true then some false
 else bindO (f_prog_jumps xv_2.Op) (fun (v_2 : Bool) =>
 (if v_2 = true then (if ((decide (xv_2.N < 0)) || (decide ((List.length p_0 : Int) < xv_2.N))) = true then some false
 else rec_1 (IntKind.i64.wrap (t10_1 + 1)))
 else (if ((!(xv_2.Op == 1)) && (!(xv_2.N == 0))) = true then some false
 else rec_1 (IntKind.i64.wrap (t10_1 + 1)))))))
 else some true)
def f_prog_Right (p_0 : List GIns) : Option Bool :=
 (if (decide (64 < (List.length p_0 : Int))) = true then some false
 else loopK (f_prog_Right_B1 p_0) rounds 0)
theorem f_prog_Right_ok (p_0 : List GIns)  (r : Bool) (h : f_prog_Right p_0 = some r) : PureS Try.prog 154 [.sl 2 (enc p_0)] 0 (.v (.bool r)) := by
 unfold PureS
 refine Spec.of_vc Try.func154 rfl (by kernel_rfl) (by kernel_rfl) ?_
 rw [f_prog_Right] at h
 refine sg fun QQ1 hQ1 => ?_
 simp only [go_sem]
 refine seqQ_normal hQ1 ?_
 refine sg fun QQ2 hQ2 => ?_
 refine sg fun QQ3 hQ3 => ?_
 simp only [go_sem]
 refine seqQ_normal hQ3 ?_
 refine vc_cond_of (b := (decide (64 < (List.length p_0 : Int)))) (by (simp only [go_sem]; done)) (fun hb_0 => ?_) (fun hb_0 => ?_)
 ·
  replace h := if_t h hb_0
  simp only [bool_to_prop] at hb_0
  refine sg fun QQ4 hQ4 => ?_
  simp only [go_sem]
  refine seqQ_normal hQ4 ?_
  refine vc_ret_of ?_
  refine seqQ_ret hQ2 ?_
  simp only [go_sem]
  obtain rfl := Option.some.inj h
  refine retW_pure rfl ?_
  simp only [go_sem, Le]
 ·
  replace h := if_f h hb_0
  simp only [bool_to_prop] at hb_0
  refine vc_skip_of ?_
  refine seqQ_normal hQ2 ?_
  refine vc_join (by kernel_rfl) ?_
  refine seq_go_gen ?_
  intro QQ5 hQ5
  refine sg fun QQ6 hQ6 => ?_
  simp only [go_sem]
  refine seqQ_normal hQ6 ?_
  refine vc_block_gen ?_
  intro QQ7 hQ7
  refine vc_loop_of ?_
  refine loop_gen (ι := Nat × Int) (fun ((_, t10_1) : Nat × Int) => (⟨0, [(0, .sl 2 (enc p_0)), (8, .sl 2 (enc p_0)), (9, .v (.int .i64 (List.length p_0 : Int))), (10, .v (.int .i64 t10_1))], [], 0, 47⟩ : St)) (fun ((n_, t10_1) : Nat × Int) => loopK (f_prog_Right_B1 p_0) n_ t10_1 = some r) (fun p => p.1) (rounds, 0) [] ?_ h ?_
  · simp only [go_sem, Le]
  ·
   rintro ⟨n_1, t10_1⟩ h QQ8 hQ8
   dsimp only at h
   replace h := loopK_some h
   obtain ⟨m_1, rfl, h⟩ := h
   rw [f_prog_Right_B1] at h
   refine sg fun QQ9 hQ9 => ?_
   simp only [go_sem]
   refine seqQ_normal hQ9 ?_
   refine sg fun QQ10 hQ10 => ?_
   refine vc_cond_of (b := (decide (t10_1 < (List.length p_0 : Int)))) (by (simp only [go_sem]; done)) (fun hb_11 => ?_) (fun hb_11 => ?_)
   ·
    replace h := if_t h hb_11
    simp only [bool_to_prop] at hb_11
    refine vc_skip_of ?_
    refine seqQ_normal hQ10 ?_
    refine vc_join (by kernel_rfl) ?_
    refine seq_go_gen ?_
    intro QQ11 hQ11
    refine vc_block_gen ?_
    intro QQ12 hQ12
    refine sg fun QQ13 hQ13 => ?_
    obtain ⟨xv_2, exv_2, h⟩ := bindO_some h
    obtain ⟨fxv_2a, fxv_2b, fxv_2c⟩ := idx_spec exv_2
    simp only [go_sem, fxv_2a, fxv_2b, fxv_2c]
    refine And.intro (by omega) ?_
    refine seqQ_normal hQ13 ?_
    refine vc_block_gen ?_
    intro QQ14 hQ14
    refine sg fun QQ15 hQ15 => ?_
    simp only [go_sem]
    refine seqQ_normal hQ15 ?_
    refine vc_cond_of (b := ((decide (xv_2.Op < 1)) || (decide (16 < xv_2.Op)))) (by (simp only [go_sem]; done)) (fun hb_12 => ?_) (fun hb_12 => ?_)
    ·
     replace h := if_t h hb_12
     simp only [bool_to_prop] at hb_12
     refine sg fun QQ16 hQ16 => ?_
     simp only [go_sem]
     refine seqQ_normal hQ16 ?_
     refine vc_ret_of ?_
     refine blockQ_ret hQ14 ?_
     refine blockQ_ret hQ12 ?_
     refine seqQ_ret hQ11 ?_
     refine thenQ_ret hQ8 ?_
     refine blockQ_ret hQ7 ?_
     refine seqQ_ret hQ5 ?_
     simp only [go_sem]
     obtain rfl := Option.some.inj h
     refine retW_pure rfl ?_
     simp only [go_sem, Le]
    ·
     replace h := if_f h hb_12
     simp only [bool_to_prop] at hb_12
     refine sg fun QQ17 hQ17 => ?_
     obtain ⟨v_2, ev_2, h⟩ := bindO_some h
     simp only [go_sem]
     refine call0 (f_prog_jumps_ok xv_2.Op v_2 ev_2) (by rfl) (by rfl) ?_
     simp only [go_sem]
     refine seqQ_normal hQ17 ?_
     refine vc_cond_of (b := v_2) (by (simp only [go_sem]; done)) (fun hb_13 => ?_) (fun hb_13 => ?_)
     ·
      replace h := if_t h hb_13
      refine sg fun QQ18 hQ18 => ?_
      simp only [go_sem]
      refine seqQ_normal hQ18 ?_
      refine vc_cond_of (b := ((decide (xv_2.N < 0)) || (decide ((List.length p_0 : Int) < xv_2.N)))) (by (simp only [go_sem]; done)) (fun hb_14 => ?_) (fun hb_14 => ?_)
      ·
       replace h := if_t h hb_14
       simp only [bool_to_prop] at hb_14
       refine sg fun QQ19 hQ19 => ?_
       simp only [go_sem]
       refine seqQ_normal hQ19 ?_
       refine vc_ret_of ?_
       refine blockQ_ret hQ14 ?_
       refine blockQ_ret hQ12 ?_
       refine seqQ_ret hQ11 ?_
       refine thenQ_ret hQ8 ?_
       refine blockQ_ret hQ7 ?_
       refine seqQ_ret hQ5 ?_
       simp only [go_sem]
       obtain rfl := Option.some.inj h
       refine retW_pure rfl ?_
       simp only [go_sem, Le]
      ·
       replace h := if_f h hb_14
       simp only [bool_to_prop] at hb_14
       refine vc_skip_of ?_
       refine blockQ_normal hQ14 ?_
       refine blockQ_normal hQ12 ?_
       refine seqQ_normal hQ11 ?_
       simp only [go_sem]
       refine thenQ_normal hQ8 ?_
       refine ⟨(m_1, IntKind.i64.wrap (t10_1 + 1)), [], ?_, h, Nat.lt_succ_self _⟩
       simp only [go_sem, Le]
     ·
      replace h := if_f h hb_13
      refine sg fun QQ20 hQ20 => ?_
      simp only [go_sem]
      refine seqQ_normal hQ20 ?_
      refine vc_cond_of (b := ((!(xv_2.Op == 1)) && (!(xv_2.N == 0)))) (by (simp only [go_sem]; done)) (fun hb_15 => ?_) (fun hb_15 => ?_)
      ·
       replace h := if_t h hb_15
       simp only [bool_to_prop] at hb_15
       refine sg fun QQ21 hQ21 => ?_
       simp only [go_sem]
       refine seqQ_normal hQ21 ?_
       refine vc_ret_of ?_
       refine blockQ_ret hQ14 ?_
       refine blockQ_ret hQ12 ?_
       refine seqQ_ret hQ11 ?_
       refine thenQ_ret hQ8 ?_
       refine blockQ_ret hQ7 ?_
       refine seqQ_ret hQ5 ?_
       simp only [go_sem]
       obtain rfl := Option.some.inj h
       refine retW_pure rfl ?_
       simp only [go_sem, Le]
      ·
       replace h := if_f h hb_15
       simp only [bool_to_prop] at hb_15
       refine vc_skip_of ?_
       refine blockQ_normal hQ14 ?_
       refine blockQ_normal hQ12 ?_
       refine seqQ_normal hQ11 ?_
       simp only [go_sem]
       refine thenQ_normal hQ8 ?_
       refine ⟨(m_1, IntKind.i64.wrap (t10_1 + 1)), [], ?_, h, Nat.lt_succ_self _⟩
       simp only [go_sem, Le]
   ·
    replace h := if_f h hb_11
    simp only [bool_to_prop] at hb_11
    refine vc_exit_of ?_
    refine seqQ_exit hQ10 ?_
    refine thenQ_exit hQ8 ?_
    refine blockQ_exit hQ7 ?_
    refine seqQ_normal hQ5 ?_
    refine sg fun QQ22 hQ22 => ?_
    simp only [go_sem]
    refine seqQ_normal hQ22 ?_
    refine vc_ret_of ?_
    simp only [go_sem]
    obtain rfl := Option.some.inj h
    refine retW_pure rfl ?_
    simp only [go_sem, Le]

def f_prog_machine_push_p0_s0_2_s0_3 (mv_0 : GProg_machine) (nv_0 : Int) : Option GProg_machine :=
 (if ((List.length mv_0.stack : Int) == 8) = true then some (⟨mv_0.r, mv_0.stack, mv_0.out, mv_0.at_, 1⟩ : GProg_machine)
 else guardO ((List.length mv_0.stack + List.length ([nv_0] : List Int)) * 8 ≤ 140737488355328) (
 some (⟨mv_0.r, (mv_0.stack ++ ([nv_0] : List Int)), mv_0.out, mv_0.at_, mv_0.bad⟩ : GProg_machine)))
theorem f_prog_machine_push_p0_s0_2_s0_3_det (mv_0 : GProg_machine) (nv_0 : Int)  (r : GProg_machine) (h : f_prog_machine_push_p0_s0_2_s0_3 mv_0 nv_0 = some r) : DetS Try.prog 236 [.ptr 0 0, .v (.int .i64 nv_0)] [(0, .box [.v (.int .i64 mv_0.r.K), .v (.int .i64 mv_0.r.V), .osl 1 1 (0) (List.length mv_0.stack), .osl 2 2 (0) (List.length mv_0.out), .v (.int .i64 mv_0.at_), .v (.int .i64 mv_0.bad)]), (1, .arr 1 (enc mv_0.stack)), (2, .arr 2 (enc mv_0.out))] 3 (.tup []) [(0, .box [.v (.int .i64 r.r.K), .v (.int .i64 r.r.V), .osl 3 1 (0) (List.length r.stack), .osl 4 2 (0) (List.length r.out), .v (.int .i64 r.at_), .v (.int .i64 r.bad)]), (3, .arr 1 (enc r.stack)), (4, .arr 2 (enc r.out))] 5 := by
 unfold DetS
 refine Spec.of_vc Try.func236 rfl (by kernel_rfl) (by kernel_rfl) ?_
 rw [f_prog_machine_push_p0_s0_2_s0_3] at h
 refine sg fun QQ1 hQ1 => ?_
 refine sg fun QQ2 hQ2 => ?_
 simp only [go_sem]
 refine seqQ_normal hQ2 ?_
 refine vc_cond_of (b := ((List.length mv_0.stack : Int) == 8)) (by (simp only [go_sem]; done)) (fun hb_0 => ?_) (fun hb_0 => ?_)
 ·
  replace h := if_t h hb_0
  simp only [bool_to_prop] at hb_0
  refine sg fun QQ3 hQ3 => ?_
  simp only [go_sem]
  refine seqQ_normal hQ3 ?_
  refine vc_ret_of ?_
  refine seqQ_ret hQ1 ?_
  simp only [go_sem]
  obtain rfl := Option.some.inj h
  refine retW_det [some 1, some 2] ?_
  simp only [go_sem, Le] <;> (repeat' apply And.intro) <;> first | ((try with_reducible refine TL_eq ?_); omega) | ((try with_reducible refine TL_eq ?_); (simp [go_sem]; done))
 ·
  replace h := if_f h hb_0
  simp only [bool_to_prop] at hb_0
  refine vc_skip_of ?_
  refine seqQ_normal hQ1 ?_
  have rf_0 : [[.v (.int .i64 nv_0)]] = enc ([nv_0] : List Int) := by rfl
  obtain ⟨g_0, h⟩ := guardO_some h
  simp only [List.length_cons, List.length_nil, Nat.zero_add, List.length_append] at g_0
  have rf_1 : enc mv_0.stack ++ [[.v (.int .i64 nv_0)]] = enc (mv_0.stack ++ ([nv_0] : List Int)) := by exact (enc_app mv_0.stack ([nv_0] : List Int)).symm
  simp only [go_sem, g_0, rf_1]
  simp only [rf_0]
  obtain rfl := Option.some.inj h
  refine retW_det [some 4, some 2] ?_
  simp only [go_sem, Le] <;> (repeat' apply And.intro) <;> first | ((try with_reducible refine TL_eq ?_); omega) | ((try with_reducible refine TL_eq ?_); (simp [go_sem]; done))

end Go.Proofs.Ythpahhhdapdcpaa
