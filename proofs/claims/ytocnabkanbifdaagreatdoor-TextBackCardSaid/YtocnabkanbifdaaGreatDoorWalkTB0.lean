/-
  What functions of the program compute, each told as a plain function that may give nothing, with the proof that the code does so. No condition beyond those that each theorem names.
-/
import Derived.Test.YtocnabkanbifdaaGreatDoorLibD
import Derived.Test.YtocnabkanbifdaaGreatDoorProg
import Derived.Test.YtocnabkanbifdaaGreatDoorLibS
set_option linter.unusedSimpArgs false
set_option linter.unusedVariables false
set_option linter.unusedSectionVars false
set_option maxHeartbeats 2000000
set_option maxRecDepth 100000
namespace Go.Proofs.YtocnabkanbifdaaGreatDoor
open Go Go.RowKit
theorem ty2_sz : szT Tryz.prog 2 = 1 := by kernel_rfl
theorem ty2_has : hasT Tryz.prog 2 = true := by kernel_rfl
theorem ty2_agg : aggT Tryz.prog 2 = false := by kernel_rfl
theorem ty2_by : bytesT Tryz.prog 2 = 8 := by kernel_rfl
theorem ty2_k : kindT Tryz.prog 2 = some .i64 := by kernel_rfl
theorem ty2_n : nilsX Tryz.prog 2 = [none] := by kernel_rfl
theorem ty2_ar : arrayT Tryz.prog 2 = none := by kernel_rfl
theorem ty2_z : zeroL Tryz.prog 2 = some [.int .i64 0] := by kernel_rfl
theorem ty3_sz : szT Tryz.prog 3 = 1 := by kernel_rfl
theorem ty3_has : hasT Tryz.prog 3 = true := by kernel_rfl
theorem ty3_agg : aggT Tryz.prog 3 = false := by kernel_rfl
theorem ty3_by : bytesT Tryz.prog 3 = 8 := by kernel_rfl
theorem ty3_k : kindT Tryz.prog 3 = some .i64 := by kernel_rfl
theorem ty3_n : nilsX Tryz.prog 3 = [none] := by kernel_rfl
theorem ty3_ar : arrayT Tryz.prog 3 = none := by kernel_rfl
theorem ty3_z : zeroL Tryz.prog 3 = some [.int .i64 0] := by kernel_rfl
theorem ty4_sz : szT Tryz.prog 4 = 1 := by kernel_rfl
theorem ty4_has : hasT Tryz.prog 4 = true := by kernel_rfl
theorem ty4_agg : aggT Tryz.prog 4 = false := by kernel_rfl
theorem ty4_by : bytesT Tryz.prog 4 = 1 := by kernel_rfl
theorem ty4_u : Tryz.prog.underlying 4 = some .bool := by kernel_rfl
theorem ty4_n : nilsX Tryz.prog 4 = [none] := by kernel_rfl
theorem ty4_ar : arrayT Tryz.prog 4 = none := by kernel_rfl
theorem ty4_z : zeroL Tryz.prog 4 = some [.bool false] := by kernel_rfl
theorem ty5_sz : szT Tryz.prog 5 = 1 := by kernel_rfl
theorem ty5_has : hasT Tryz.prog 5 = true := by kernel_rfl
theorem ty5_agg : aggT Tryz.prog 5 = false := by kernel_rfl
theorem ty5_by : bytesT Tryz.prog 5 = 1 := by kernel_rfl
theorem ty5_k : kindT Tryz.prog 5 = some .u8 := by kernel_rfl
theorem ty5_n : nilsX Tryz.prog 5 = [none] := by kernel_rfl
theorem ty5_ar : arrayT Tryz.prog 5 = none := by kernel_rfl
theorem ty5_z : zeroL Tryz.prog 5 = some [.int .u8 0] := by kernel_rfl
theorem ty9_k : kindT Tryz.prog 9 = none := by kernel_rfl
theorem ty9_sz : szT Tryz.prog 9 = 1 := by kernel_rfl
theorem ty9_has : hasT Tryz.prog 9 = true := by kernel_rfl
theorem ty9_agg : aggT Tryz.prog 9 = false := by kernel_rfl
theorem ty9_by : bytesT Tryz.prog 9 = 16 := by kernel_rfl
theorem ty9_u : Tryz.prog.underlying 9 = some .string := by kernel_rfl
theorem ty9_n : nilsX Tryz.prog 9 = [none] := by kernel_rfl
theorem ty9_ar : arrayT Tryz.prog 9 = none := by kernel_rfl
theorem ty9_z : zeroL Tryz.prog 9 = some [.string ⟨#[]⟩] := by kernel_rfl
theorem ty21_sz : szT Tryz.prog 21 = 1 := by kernel_rfl
theorem ty21_has : hasT Tryz.prog 21 = true := by kernel_rfl
theorem ty21_agg : aggT Tryz.prog 21 = false := by kernel_rfl
theorem ty21_by : bytesT Tryz.prog 21 = 4 := by kernel_rfl
theorem ty21_k : kindT Tryz.prog 21 = some .i32 := by kernel_rfl
theorem ty21_n : nilsX Tryz.prog 21 = [none] := by kernel_rfl
theorem ty21_ar : arrayT Tryz.prog 21 = none := by kernel_rfl
theorem ty21_z : zeroL Tryz.prog 21 = some [.int .i32 0] := by kernel_rfl
theorem ty22_sz : szT Tryz.prog 22 = 1 := by kernel_rfl
theorem ty22_has : hasT Tryz.prog 22 = true := by kernel_rfl
theorem ty22_agg : aggT Tryz.prog 22 = false := by kernel_rfl
theorem ty22_by : bytesT Tryz.prog 22 = 24 := by kernel_rfl
theorem ty22_e : sliceT Tryz.prog 22 = some 3 := by kernel_rfl
theorem ty22_n : nilsX Tryz.prog 22 = [some 1] := by kernel_rfl
theorem ty22_ar : arrayT Tryz.prog 22 = none := by kernel_rfl
theorem ty22_z : zeroL Tryz.prog 22 = some [.slice none 0 0] := by kernel_rfl
theorem ty23_sz : szT Tryz.prog 23 = 1 := by kernel_rfl
theorem ty23_has : hasT Tryz.prog 23 = true := by kernel_rfl
theorem ty23_agg : aggT Tryz.prog 23 = false := by kernel_rfl
theorem ty23_by : bytesT Tryz.prog 23 = 24 := by kernel_rfl
theorem ty23_e : sliceT Tryz.prog 23 = some 43 := by kernel_rfl
theorem ty23_n : nilsX Tryz.prog 23 = [some 4] := by kernel_rfl
theorem ty23_ar : arrayT Tryz.prog 23 = none := by kernel_rfl
theorem ty23_z : zeroL Tryz.prog 23 = some [.slice none 0 0] := by kernel_rfl
theorem ty24_sz : szT Tryz.prog 24 = 1 := by kernel_rfl
theorem ty24_has : hasT Tryz.prog 24 = true := by kernel_rfl
theorem ty24_agg : aggT Tryz.prog 24 = false := by kernel_rfl
theorem ty24_by : bytesT Tryz.prog 24 = 24 := by kernel_rfl
theorem ty24_e : sliceT Tryz.prog 24 = some 45 := by kernel_rfl
theorem ty24_n : nilsX Tryz.prog 24 = [some 4] := by kernel_rfl
theorem ty24_ar : arrayT Tryz.prog 24 = none := by kernel_rfl
theorem ty24_z : zeroL Tryz.prog 24 = some [.slice none 0 0] := by kernel_rfl
theorem ty26_sz : szT Tryz.prog 26 = 4 := by kernel_rfl
theorem ty26_has : hasT Tryz.prog 26 = true := by kernel_rfl
theorem ty26_agg : aggT Tryz.prog 26 = true := by kernel_rfl
theorem ty26_by : bytesT Tryz.prog 26 = 96 := by kernel_rfl
theorem ty26_n : nilsX Tryz.prog 26 = [some 1, some 1, some 4, some 4] := by kernel_rfl
theorem ty26_ar : arrayT Tryz.prog 26 = none := by kernel_rfl
theorem ty26_f0 : fieldT Tryz.prog 26 0 = some (0, 22) := by kernel_rfl
theorem ty26_f1 : fieldT Tryz.prog 26 1 = some (1, 22) := by kernel_rfl
theorem ty26_f2 : fieldT Tryz.prog 26 2 = some (2, 23) := by kernel_rfl
theorem ty26_f3 : fieldT Tryz.prog 26 3 = some (3, 24) := by kernel_rfl
theorem ty26_pl : placesL Tryz.prog 26 = some [(0, 1), (1, 1), (2, 1), (3, 1)] := by kernel_rfl
theorem ty26_z : zeroL Tryz.prog 26 = some [.slice none 0 0, .slice none 0 0, .slice none 0 0, .slice none 0 0] := by kernel_rfl
theorem ty29_sz : szT Tryz.prog 29 = 1 := by kernel_rfl
theorem ty29_has : hasT Tryz.prog 29 = true := by kernel_rfl
theorem ty29_agg : aggT Tryz.prog 29 = false := by kernel_rfl
theorem ty29_by : bytesT Tryz.prog 29 = 8 := by kernel_rfl
theorem ty29_k : kindT Tryz.prog 29 = some .i64 := by kernel_rfl
theorem ty29_n : nilsX Tryz.prog 29 = [none] := by kernel_rfl
theorem ty29_ar : arrayT Tryz.prog 29 = none := by kernel_rfl
theorem ty29_z : zeroL Tryz.prog 29 = some [.int .i64 0] := by kernel_rfl
theorem ty36_sz : szT Tryz.prog 36 = 1 := by kernel_rfl
theorem ty36_has : hasT Tryz.prog 36 = true := by kernel_rfl
theorem ty36_agg : aggT Tryz.prog 36 = false := by kernel_rfl
theorem ty36_by : bytesT Tryz.prog 36 = 24 := by kernel_rfl
theorem ty36_e : sliceT Tryz.prog 36 = some 5 := by kernel_rfl
theorem ty36_n : nilsX Tryz.prog 36 = [some 1] := by kernel_rfl
theorem ty36_ar : arrayT Tryz.prog 36 = none := by kernel_rfl
theorem ty36_z : zeroL Tryz.prog 36 = some [.slice none 0 0] := by kernel_rfl
theorem ty41_sz : szT Tryz.prog 41 = 1 := by kernel_rfl
theorem ty41_has : hasT Tryz.prog 41 = true := by kernel_rfl
theorem ty41_agg : aggT Tryz.prog 41 = false := by kernel_rfl
theorem ty41_by : bytesT Tryz.prog 41 = 24 := by kernel_rfl
theorem ty41_e : sliceT Tryz.prog 41 = some 59 := by kernel_rfl
theorem ty41_n : nilsX Tryz.prog 41 = [some 2] := by kernel_rfl
theorem ty41_ar : arrayT Tryz.prog 41 = none := by kernel_rfl
theorem ty41_z : zeroL Tryz.prog 41 = some [.slice none 0 0] := by kernel_rfl
theorem ty43_sz : szT Tryz.prog 43 = 4 := by kernel_rfl
theorem ty43_has : hasT Tryz.prog 43 = true := by kernel_rfl
theorem ty43_agg : aggT Tryz.prog 43 = true := by kernel_rfl
theorem ty43_by : bytesT Tryz.prog 43 = 48 := by kernel_rfl
theorem ty43_n : nilsX Tryz.prog 43 = [none, none, none, some 2] := by kernel_rfl
theorem ty43_ar : arrayT Tryz.prog 43 = none := by kernel_rfl
theorem ty43_f0 : fieldT Tryz.prog 43 0 = some (0, 3) := by kernel_rfl
theorem ty43_f1 : fieldT Tryz.prog 43 1 = some (1, 3) := by kernel_rfl
theorem ty43_f2 : fieldT Tryz.prog 43 2 = some (2, 2) := by kernel_rfl
theorem ty43_f3 : fieldT Tryz.prog 43 3 = some (3, 41) := by kernel_rfl
theorem ty43_pl : placesL Tryz.prog 43 = some [(0, 1), (1, 1), (2, 1), (3, 1)] := by kernel_rfl
theorem ty43_z : zeroL Tryz.prog 43 = some [.int .i64 0, .int .i64 0, .int .i64 0, .slice none 0 0] := by kernel_rfl
theorem ty45_sz : szT Tryz.prog 45 = 4 := by kernel_rfl
theorem ty45_has : hasT Tryz.prog 45 = true := by kernel_rfl
theorem ty45_agg : aggT Tryz.prog 45 = true := by kernel_rfl
theorem ty45_by : bytesT Tryz.prog 45 = 32 := by kernel_rfl
theorem ty45_n : nilsX Tryz.prog 45 = [none, none, none, none] := by kernel_rfl
theorem ty45_ar : arrayT Tryz.prog 45 = none := by kernel_rfl
theorem ty45_f0 : fieldT Tryz.prog 45 0 = some (0, 3) := by kernel_rfl
theorem ty45_f1 : fieldT Tryz.prog 45 1 = some (1, 3) := by kernel_rfl
theorem ty45_f2 : fieldT Tryz.prog 45 2 = some (2, 3) := by kernel_rfl
theorem ty45_f3 : fieldT Tryz.prog 45 3 = some (3, 4) := by kernel_rfl
theorem ty45_pl : placesL Tryz.prog 45 = some [(0, 1), (1, 1), (2, 1), (3, 1)] := by kernel_rfl
theorem ty45_z : zeroL Tryz.prog 45 = some [.int .i64 0, .int .i64 0, .int .i64 0, .bool false] := by kernel_rfl
theorem ty46_sz : szT Tryz.prog 46 = 1 := by kernel_rfl
theorem ty46_has : hasT Tryz.prog 46 = true := by kernel_rfl
theorem ty46_agg : aggT Tryz.prog 46 = false := by kernel_rfl
theorem ty46_by : bytesT Tryz.prog 46 = 8 := by kernel_rfl
theorem ty46_n : nilsX Tryz.prog 46 = [none] := by kernel_rfl
theorem ty46_ar : arrayT Tryz.prog 46 = none := by kernel_rfl
theorem ty46_z : zeroL Tryz.prog 46 = some [.pointer none] := by kernel_rfl
theorem ty47_sz : szT Tryz.prog 47 = 1 := by kernel_rfl
theorem ty47_has : hasT Tryz.prog 47 = true := by kernel_rfl
theorem ty47_agg : aggT Tryz.prog 47 = false := by kernel_rfl
theorem ty47_by : bytesT Tryz.prog 47 = 8 := by kernel_rfl
theorem ty47_n : nilsX Tryz.prog 47 = [none] := by kernel_rfl
theorem ty47_ar : arrayT Tryz.prog 47 = none := by kernel_rfl
theorem ty47_z : zeroL Tryz.prog 47 = some [.pointer none] := by kernel_rfl
theorem ty49_sz : szT Tryz.prog 49 = 2 := by kernel_rfl
theorem ty49_has : hasT Tryz.prog 49 = true := by kernel_rfl
theorem ty49_agg : aggT Tryz.prog 49 = true := by kernel_rfl
theorem ty49_by : bytesT Tryz.prog 49 = 32 := by kernel_rfl
theorem ty49_n : nilsX Tryz.prog 49 = [none, some 1] := by kernel_rfl
theorem ty49_ar : arrayT Tryz.prog 49 = none := by kernel_rfl
theorem ty49_f0 : fieldT Tryz.prog 49 0 = some (0, 47) := by kernel_rfl
theorem ty49_f1 : fieldT Tryz.prog 49 1 = some (1, 36) := by kernel_rfl
theorem ty49_pl : placesL Tryz.prog 49 = some [(0, 1), (1, 1)] := by kernel_rfl
theorem ty49_z : zeroL Tryz.prog 49 = some [.pointer none, .slice none 0 0] := by kernel_rfl
theorem ty51_sz : szT Tryz.prog 51 = 3 := by kernel_rfl
theorem ty51_has : hasT Tryz.prog 51 = true := by kernel_rfl
theorem ty51_agg : aggT Tryz.prog 51 = true := by kernel_rfl
theorem ty51_by : bytesT Tryz.prog 51 = 40 := by kernel_rfl
theorem ty51_n : nilsX Tryz.prog 51 = [none, some 1, none] := by kernel_rfl
theorem ty51_ar : arrayT Tryz.prog 51 = none := by kernel_rfl
theorem ty51_f0 : fieldT Tryz.prog 51 0 = some (0, 49) := by kernel_rfl
theorem ty51_f1 : fieldT Tryz.prog 51 1 = some (2, 4) := by kernel_rfl
theorem ty51_pl : placesL Tryz.prog 51 = some [(0, 2), (2, 1)] := by kernel_rfl
theorem ty51_z : zeroL Tryz.prog 51 = some [.pointer none, .slice none 0 0, .bool false] := by kernel_rfl
theorem ty55_sz : szT Tryz.prog 55 = 1 := by kernel_rfl
theorem ty55_has : hasT Tryz.prog 55 = true := by kernel_rfl
theorem ty55_agg : aggT Tryz.prog 55 = false := by kernel_rfl
theorem ty55_by : bytesT Tryz.prog 55 = 24 := by kernel_rfl
theorem ty55_e : sliceT Tryz.prog 55 = some 9 := by kernel_rfl
theorem ty55_n : nilsX Tryz.prog 55 = [some 1] := by kernel_rfl
theorem ty55_ar : arrayT Tryz.prog 55 = none := by kernel_rfl
theorem ty55_z : zeroL Tryz.prog 55 = some [.slice none 0 0] := by kernel_rfl
theorem ty59_sz : szT Tryz.prog 59 = 2 := by kernel_rfl
theorem ty59_has : hasT Tryz.prog 59 = true := by kernel_rfl
theorem ty59_agg : aggT Tryz.prog 59 = true := by kernel_rfl
theorem ty59_by : bytesT Tryz.prog 59 = 16 := by kernel_rfl
theorem ty59_n : nilsX Tryz.prog 59 = [none, none] := by kernel_rfl
theorem ty59_ar : arrayT Tryz.prog 59 = none := by kernel_rfl
theorem ty59_f0 : fieldT Tryz.prog 59 0 = some (0, 3) := by kernel_rfl
theorem ty59_f1 : fieldT Tryz.prog 59 1 = some (1, 2) := by kernel_rfl
theorem ty59_pl : placesL Tryz.prog 59 = some [(0, 1), (1, 1)] := by kernel_rfl
theorem ty59_z : zeroL Tryz.prog 59 = some [.int .i64 0, .int .i64 0] := by kernel_rfl
theorem ty61_sz : szT Tryz.prog 61 = 1 := by kernel_rfl
theorem ty61_has : hasT Tryz.prog 61 = true := by kernel_rfl
theorem ty61_agg : aggT Tryz.prog 61 = false := by kernel_rfl
theorem ty61_by : bytesT Tryz.prog 61 = 8 := by kernel_rfl
theorem ty61_n : nilsX Tryz.prog 61 = [none] := by kernel_rfl
theorem ty61_ar : arrayT Tryz.prog 61 = none := by kernel_rfl
theorem ty61_z : zeroL Tryz.prog 61 = some [.pointer none] := by kernel_rfl
theorem ty63_sz : szT Tryz.prog 63 = 5 := by kernel_rfl
theorem ty63_has : hasT Tryz.prog 63 = true := by kernel_rfl
theorem ty63_agg : aggT Tryz.prog 63 = true := by kernel_rfl
theorem ty63_by : bytesT Tryz.prog 63 = 104 := by kernel_rfl
theorem ty63_n : nilsX Tryz.prog 63 = [some 1, some 1, some 4, some 4, none] := by kernel_rfl
theorem ty63_ar : arrayT Tryz.prog 63 = none := by kernel_rfl
theorem ty63_f0 : fieldT Tryz.prog 63 0 = some (0, 26) := by kernel_rfl
theorem ty63_f1 : fieldT Tryz.prog 63 1 = some (4, 29) := by kernel_rfl
theorem ty63_pl : placesL Tryz.prog 63 = some [(0, 4), (4, 1)] := by kernel_rfl
theorem ty63_z : zeroL Tryz.prog 63 = some [.slice none 0 0, .slice none 0 0, .slice none 0 0, .slice none 0 0, .int .i64 0] := by kernel_rfl
theorem ty66_sz : szT Tryz.prog 66 = 1 := by kernel_rfl
theorem ty66_has : hasT Tryz.prog 66 = true := by kernel_rfl
theorem ty66_agg : aggT Tryz.prog 66 = false := by kernel_rfl
theorem ty66_by : bytesT Tryz.prog 66 = 8 := by kernel_rfl
theorem ty66_n : nilsX Tryz.prog 66 = [none] := by kernel_rfl
theorem ty66_ar : arrayT Tryz.prog 66 = none := by kernel_rfl
theorem ty66_z : zeroL Tryz.prog 66 = some [.nilFunc] := by kernel_rfl
theorem ty68_sz : szT Tryz.prog 68 = 1 := by kernel_rfl
theorem ty68_has : hasT Tryz.prog 68 = true := by kernel_rfl
theorem ty68_agg : aggT Tryz.prog 68 = false := by kernel_rfl
theorem ty68_by : bytesT Tryz.prog 68 = 8 := by kernel_rfl
theorem ty68_n : nilsX Tryz.prog 68 = [none] := by kernel_rfl
theorem ty68_ar : arrayT Tryz.prog 68 = none := by kernel_rfl
theorem ty68_z : zeroL Tryz.prog 68 = some [.pointer none] := by kernel_rfl
theorem ty70_sz : szT Tryz.prog 70 = 1 := by kernel_rfl
theorem ty70_has : hasT Tryz.prog 70 = true := by kernel_rfl
theorem ty70_agg : aggT Tryz.prog 70 = true := by kernel_rfl
theorem ty70_by : bytesT Tryz.prog 70 = 24 := by kernel_rfl
theorem ty70_n : nilsX Tryz.prog 70 = [some 1] := by kernel_rfl
theorem ty70_ar : arrayT Tryz.prog 70 = none := by kernel_rfl
theorem ty70_f0 : fieldT Tryz.prog 70 0 = some (0, 36) := by kernel_rfl
theorem ty70_pl : placesL Tryz.prog 70 = some [(0, 1)] := by kernel_rfl
theorem ty70_z : zeroL Tryz.prog 70 = some [.slice none 0 0] := by kernel_rfl
theorem ty76_if : ifaceT Tryz.prog 76 = true := by kernel_rfl
theorem ty82_sz : szT Tryz.prog 82 = 1 := by kernel_rfl
theorem ty82_has : hasT Tryz.prog 82 = true := by kernel_rfl
theorem ty82_agg : aggT Tryz.prog 82 = false := by kernel_rfl
theorem ty82_by : bytesT Tryz.prog 82 = 8 := by kernel_rfl
theorem ty82_n : nilsX Tryz.prog 82 = [none] := by kernel_rfl
theorem ty82_ar : arrayT Tryz.prog 82 = none := by kernel_rfl
theorem ty82_z : zeroL Tryz.prog 82 = some [.pointer none] := by kernel_rfl
theorem ty83_sz : szT Tryz.prog 83 = 1 := by kernel_rfl
theorem ty83_has : hasT Tryz.prog 83 = true := by kernel_rfl
theorem ty83_agg : aggT Tryz.prog 83 = false := by kernel_rfl
theorem ty83_by : bytesT Tryz.prog 83 = 8 := by kernel_rfl
theorem ty83_n : nilsX Tryz.prog 83 = [none] := by kernel_rfl
theorem ty83_ar : arrayT Tryz.prog 83 = none := by kernel_rfl
theorem ty83_z : zeroL Tryz.prog 83 = some [.nilFunc] := by kernel_rfl
theorem ty85_sz : szT Tryz.prog 85 = 1 := by kernel_rfl
theorem ty85_has : hasT Tryz.prog 85 = true := by kernel_rfl
theorem ty85_agg : aggT Tryz.prog 85 = false := by kernel_rfl
theorem ty85_by : bytesT Tryz.prog 85 = 8 := by kernel_rfl
theorem ty85_k : kindT Tryz.prog 85 = some .u64 := by kernel_rfl
theorem ty85_n : nilsX Tryz.prog 85 = [none] := by kernel_rfl
theorem ty85_ar : arrayT Tryz.prog 85 = none := by kernel_rfl
theorem ty85_z : zeroL Tryz.prog 85 = some [.int .u64 0] := by kernel_rfl
theorem ty87_sz : szT Tryz.prog 87 = 1 := by kernel_rfl
theorem ty87_has : hasT Tryz.prog 87 = true := by kernel_rfl
theorem ty87_agg : aggT Tryz.prog 87 = false := by kernel_rfl
theorem ty87_by : bytesT Tryz.prog 87 = 24 := by kernel_rfl
theorem ty87_e : sliceT Tryz.prog 87 = some 89 := by kernel_rfl
theorem ty87_n : nilsX Tryz.prog 87 = [some 2] := by kernel_rfl
theorem ty87_ar : arrayT Tryz.prog 87 = none := by kernel_rfl
theorem ty87_z : zeroL Tryz.prog 87 = some [.slice none 0 0] := by kernel_rfl
theorem ty89_sz : szT Tryz.prog 89 = 2 := by kernel_rfl
theorem ty89_has : hasT Tryz.prog 89 = true := by kernel_rfl
theorem ty89_agg : aggT Tryz.prog 89 = true := by kernel_rfl
theorem ty89_by : bytesT Tryz.prog 89 = 16 := by kernel_rfl
theorem ty89_n : nilsX Tryz.prog 89 = [none, none] := by kernel_rfl
theorem ty89_ar : arrayT Tryz.prog 89 = none := by kernel_rfl
theorem ty89_f0 : fieldT Tryz.prog 89 0 = some (0, 3) := by kernel_rfl
theorem ty89_f1 : fieldT Tryz.prog 89 1 = some (1, 3) := by kernel_rfl
theorem ty89_pl : placesL Tryz.prog 89 = some [(0, 1), (1, 1)] := by kernel_rfl
theorem ty89_z : zeroL Tryz.prog 89 = some [.int .i64 0, .int .i64 0] := by kernel_rfl
theorem ty93_sz : szT Tryz.prog 93 = 1 := by kernel_rfl
theorem ty93_has : hasT Tryz.prog 93 = true := by kernel_rfl
theorem ty93_agg : aggT Tryz.prog 93 = false := by kernel_rfl
theorem ty93_by : bytesT Tryz.prog 93 = 8 := by kernel_rfl
theorem ty93_n : nilsX Tryz.prog 93 = [none] := by kernel_rfl
theorem ty93_ar : arrayT Tryz.prog 93 = none := by kernel_rfl
theorem ty93_z : zeroL Tryz.prog 93 = some [.nilFunc] := by kernel_rfl
theorem ty95_sz : szT Tryz.prog 95 = 1 := by kernel_rfl
theorem ty95_has : hasT Tryz.prog 95 = true := by kernel_rfl
theorem ty95_agg : aggT Tryz.prog 95 = false := by kernel_rfl
theorem ty95_by : bytesT Tryz.prog 95 = 8 := by kernel_rfl
theorem ty95_n : nilsX Tryz.prog 95 = [none] := by kernel_rfl
theorem ty95_ar : arrayT Tryz.prog 95 = none := by kernel_rfl
theorem ty95_z : zeroL Tryz.prog 95 = some [.nilFunc] := by kernel_rfl
theorem ty99_sz : szT Tryz.prog 99 = 256 := by kernel_rfl
theorem ty99_has : hasT Tryz.prog 99 = true := by kernel_rfl
theorem ty99_agg : aggT Tryz.prog 99 = true := by kernel_rfl
theorem ty99_by : bytesT Tryz.prog 99 = 256 := by kernel_rfl
theorem ty99_n : nilsX Tryz.prog 99 = [none, none, none, none, none, none, none, none, none, none, none, none, none, none, none, none, none, none, none, none, none, none, none, none, none, none, none, none, none, none, none, none, none, none, none, none, none, none, none, none, none, none, none, none, none, none, none, none, none, none, none, none, none, none, none, none, none, none, none, none, none, none, none, none, none, none, none, none, none, none, none, none, none, none, none, none, none, none, none, none, none, none, none, none, none, none, none, none, none, none, none, none, none, none, none, none, none, none, none, none, none, none, none, none, none, none, none, none, none, none, none, none, none, none, none, none, none, none, none, none, none, none, none, none, none, none, none, none, none, none, none, none, none, none, none, none, none, none, none, none, none, none, none, none, none, none, none, none, none, none, none, none, none, none, none, none, none, none, none, none, none, none, none, none, none, none, none, none, none, none, none, none, none, none, none, none, none, none, none, none, none, none, none, none, none, none, none, none, none, none, none, none, none, none, none, none, none, none, none, none, none, none, none, none, none, none, none, none, none, none, none, none, none, none, none, none, none, none, none, none, none, none, none, none, none, none, none, none, none, none, none, none, none, none, none, none, none, none, none, none, none, none, none, none, none, none, none, none, none, none, none, none, none, none, none, none] := by kernel_rfl
theorem ty99_ar : arrayT Tryz.prog 99 = some (256, 5) := by kernel_rfl
theorem ty99_pl : placesL Tryz.prog 99 = some [(0, 1), (1, 1), (2, 1), (3, 1), (4, 1), (5, 1), (6, 1), (7, 1), (8, 1), (9, 1), (10, 1), (11, 1), (12, 1), (13, 1), (14, 1), (15, 1), (16, 1), (17, 1), (18, 1), (19, 1), (20, 1), (21, 1), (22, 1), (23, 1), (24, 1), (25, 1), (26, 1), (27, 1), (28, 1), (29, 1), (30, 1), (31, 1), (32, 1), (33, 1), (34, 1), (35, 1), (36, 1), (37, 1), (38, 1), (39, 1), (40, 1), (41, 1), (42, 1), (43, 1), (44, 1), (45, 1), (46, 1), (47, 1), (48, 1), (49, 1), (50, 1), (51, 1), (52, 1), (53, 1), (54, 1), (55, 1), (56, 1), (57, 1), (58, 1), (59, 1), (60, 1), (61, 1), (62, 1), (63, 1), (64, 1), (65, 1), (66, 1), (67, 1), (68, 1), (69, 1), (70, 1), (71, 1), (72, 1), (73, 1), (74, 1), (75, 1), (76, 1), (77, 1), (78, 1), (79, 1), (80, 1), (81, 1), (82, 1), (83, 1), (84, 1), (85, 1), (86, 1), (87, 1), (88, 1), (89, 1), (90, 1), (91, 1), (92, 1), (93, 1), (94, 1), (95, 1), (96, 1), (97, 1), (98, 1), (99, 1), (100, 1), (101, 1), (102, 1), (103, 1), (104, 1), (105, 1), (106, 1), (107, 1), (108, 1), (109, 1), (110, 1), (111, 1), (112, 1), (113, 1), (114, 1), (115, 1), (116, 1), (117, 1), (118, 1), (119, 1), (120, 1), (121, 1), (122, 1), (123, 1), (124, 1), (125, 1), (126, 1), (127, 1), (128, 1), (129, 1), (130, 1), (131, 1), (132, 1), (133, 1), (134, 1), (135, 1), (136, 1), (137, 1), (138, 1), (139, 1), (140, 1), (141, 1), (142, 1), (143, 1), (144, 1), (145, 1), (146, 1), (147, 1), (148, 1), (149, 1), (150, 1), (151, 1), (152, 1), (153, 1), (154, 1), (155, 1), (156, 1), (157, 1), (158, 1), (159, 1), (160, 1), (161, 1), (162, 1), (163, 1), (164, 1), (165, 1), (166, 1), (167, 1), (168, 1), (169, 1), (170, 1), (171, 1), (172, 1), (173, 1), (174, 1), (175, 1), (176, 1), (177, 1), (178, 1), (179, 1), (180, 1), (181, 1), (182, 1), (183, 1), (184, 1), (185, 1), (186, 1), (187, 1), (188, 1), (189, 1), (190, 1), (191, 1), (192, 1), (193, 1), (194, 1), (195, 1), (196, 1), (197, 1), (198, 1), (199, 1), (200, 1), (201, 1), (202, 1), (203, 1), (204, 1), (205, 1), (206, 1), (207, 1), (208, 1), (209, 1), (210, 1), (211, 1), (212, 1), (213, 1), (214, 1), (215, 1), (216, 1), (217, 1), (218, 1), (219, 1), (220, 1), (221, 1), (222, 1), (223, 1), (224, 1), (225, 1), (226, 1), (227, 1), (228, 1), (229, 1), (230, 1), (231, 1), (232, 1), (233, 1), (234, 1), (235, 1), (236, 1), (237, 1), (238, 1), (239, 1), (240, 1), (241, 1), (242, 1), (243, 1), (244, 1), (245, 1), (246, 1), (247, 1), (248, 1), (249, 1), (250, 1), (251, 1), (252, 1), (253, 1), (254, 1), (255, 1)] := by kernel_rfl
theorem ty99_z : zeroL Tryz.prog 99 = some [.int .u8 0, .int .u8 0, .int .u8 0, .int .u8 0, .int .u8 0, .int .u8 0, .int .u8 0, .int .u8 0, .int .u8 0, .int .u8 0, .int .u8 0, .int .u8 0, .int .u8 0, .int .u8 0, .int .u8 0, .int .u8 0, .int .u8 0, .int .u8 0, .int .u8 0, .int .u8 0, .int .u8 0, .int .u8 0, .int .u8 0, .int .u8 0, .int .u8 0, .int .u8 0, .int .u8 0, .int .u8 0, .int .u8 0, .int .u8 0, .int .u8 0, .int .u8 0, .int .u8 0, .int .u8 0, .int .u8 0, .int .u8 0, .int .u8 0, .int .u8 0, .int .u8 0, .int .u8 0, .int .u8 0, .int .u8 0, .int .u8 0, .int .u8 0, .int .u8 0, .int .u8 0, .int .u8 0, .int .u8 0, .int .u8 0, .int .u8 0, .int .u8 0, .int .u8 0, .int .u8 0, .int .u8 0, .int .u8 0, .int .u8 0, .int .u8 0, .int .u8 0, .int .u8 0, .int .u8 0, .int .u8 0, .int .u8 0, .int .u8 0, .int .u8 0, .int .u8 0, .int .u8 0, .int .u8 0, .int .u8 0, .int .u8 0, .int .u8 0, .int .u8 0, .int .u8 0, .int .u8 0, .int .u8 0, .int .u8 0, .int .u8 0, .int .u8 0, .int .u8 0, .int .u8 0, .int .u8 0, .int .u8 0, .int .u8 0, .int .u8 0, .int .u8 0, .int .u8 0, .int .u8 0, .int .u8 0, .int .u8 0, .int .u8 0, .int .u8 0, .int .u8 0, .int .u8 0, .int .u8 0, .int .u8 0, .int .u8 0, .int .u8 0, .int .u8 0, .int .u8 0, .int .u8 0, .int .u8 0, .int .u8 0, .int .u8 0, .int .u8 0, .int .u8 0, .int .u8 0, .int .u8 0, .int .u8 0, .int .u8 0, .int .u8 0, .int .u8 0, .int .u8 0, .int .u8 0, .int .u8 0, .int .u8 0, .int .u8 0, .int .u8 0, .int .u8 0, .int .u8 0, .int .u8 0, .int .u8 0, .int .u8 0, .int .u8 0, .int .u8 0, .int .u8 0, .int .u8 0, .int .u8 0, .int .u8 0, .int .u8 0, .int .u8 0, .int .u8 0, .int .u8 0, .int .u8 0, .int .u8 0, .int .u8 0, .int .u8 0, .int .u8 0, .int .u8 0, .int .u8 0, .int .u8 0, .int .u8 0, .int .u8 0, .int .u8 0, .int .u8 0, .int .u8 0, .int .u8 0, .int .u8 0, .int .u8 0, .int .u8 0, .int .u8 0, .int .u8 0, .int .u8 0, .int .u8 0, .int .u8 0, .int .u8 0, .int .u8 0, .int .u8 0, .int .u8 0, .int .u8 0, .int .u8 0, .int .u8 0, .int .u8 0, .int .u8 0, .int .u8 0, .int .u8 0, .int .u8 0, .int .u8 0, .int .u8 0, .int .u8 0, .int .u8 0, .int .u8 0, .int .u8 0, .int .u8 0, .int .u8 0, .int .u8 0, .int .u8 0, .int .u8 0, .int .u8 0, .int .u8 0, .int .u8 0, .int .u8 0, .int .u8 0, .int .u8 0, .int .u8 0, .int .u8 0, .int .u8 0, .int .u8 0, .int .u8 0, .int .u8 0, .int .u8 0, .int .u8 0, .int .u8 0, .int .u8 0, .int .u8 0, .int .u8 0, .int .u8 0, .int .u8 0, .int .u8 0, .int .u8 0, .int .u8 0, .int .u8 0, .int .u8 0, .int .u8 0, .int .u8 0, .int .u8 0, .int .u8 0, .int .u8 0, .int .u8 0, .int .u8 0, .int .u8 0, .int .u8 0, .int .u8 0, .int .u8 0, .int .u8 0, .int .u8 0, .int .u8 0, .int .u8 0, .int .u8 0, .int .u8 0, .int .u8 0, .int .u8 0, .int .u8 0, .int .u8 0, .int .u8 0, .int .u8 0, .int .u8 0, .int .u8 0, .int .u8 0, .int .u8 0, .int .u8 0, .int .u8 0, .int .u8 0, .int .u8 0, .int .u8 0, .int .u8 0, .int .u8 0, .int .u8 0, .int .u8 0, .int .u8 0, .int .u8 0, .int .u8 0, .int .u8 0, .int .u8 0, .int .u8 0, .int .u8 0, .int .u8 0, .int .u8 0, .int .u8 0, .int .u8 0, .int .u8 0, .int .u8 0, .int .u8 0, .int .u8 0, .int .u8 0, .int .u8 0, .int .u8 0, .int .u8 0] := by kernel_rfl
theorem ty111_sz : szT Tryz.prog 111 = 1 := by kernel_rfl
theorem ty111_has : hasT Tryz.prog 111 = true := by kernel_rfl
theorem ty111_agg : aggT Tryz.prog 111 = false := by kernel_rfl
theorem ty111_by : bytesT Tryz.prog 111 = 8 := by kernel_rfl
theorem ty111_k : kindT Tryz.prog 111 = some .u64 := by kernel_rfl
theorem ty111_n : nilsX Tryz.prog 111 = [none] := by kernel_rfl
theorem ty111_ar : arrayT Tryz.prog 111 = none := by kernel_rfl
theorem ty111_z : zeroL Tryz.prog 111 = some [.int .u64 0] := by kernel_rfl
theorem en3 : entB Tryz.prog 3 = true := by kernel_rfl
theorem en4 : entB Tryz.prog 4 = true := by kernel_rfl
theorem en5 : entB Tryz.prog 5 = true := by kernel_rfl
theorem en6 : entB Tryz.prog 6 = true := by kernel_rfl
theorem en7 : entB Tryz.prog 7 = true := by kernel_rfl
theorem en8 : entB Tryz.prog 8 = true := by kernel_rfl
theorem en9 : entB Tryz.prog 9 = true := by kernel_rfl
theorem en10 : entB Tryz.prog 10 = true := by kernel_rfl
theorem en11 : entB Tryz.prog 11 = true := by kernel_rfl
theorem en12 : entB Tryz.prog 12 = true := by kernel_rfl
theorem en13 : entB Tryz.prog 13 = true := by kernel_rfl
theorem en14 : entB Tryz.prog 14 = true := by kernel_rfl
theorem en15 : entB Tryz.prog 15 = true := by kernel_rfl
theorem en16 : entB Tryz.prog 16 = true := by kernel_rfl
theorem en17 : entB Tryz.prog 17 = true := by kernel_rfl
theorem en18 : entB Tryz.prog 18 = true := by kernel_rfl
theorem en19 : entB Tryz.prog 19 = true := by kernel_rfl
theorem en20 : entB Tryz.prog 20 = true := by kernel_rfl
theorem en21 : entB Tryz.prog 21 = true := by kernel_rfl
theorem en22 : entB Tryz.prog 22 = true := by kernel_rfl
theorem en23 : entB Tryz.prog 23 = true := by kernel_rfl
theorem en24 : entB Tryz.prog 24 = true := by kernel_rfl
theorem en25 : entB Tryz.prog 25 = true := by kernel_rfl
theorem en26 : entB Tryz.prog 26 = true := by kernel_rfl
theorem en27 : entB Tryz.prog 27 = true := by kernel_rfl
theorem en28 : entB Tryz.prog 28 = true := by kernel_rfl
theorem en29 : entB Tryz.prog 29 = true := by kernel_rfl
theorem en30 : entB Tryz.prog 30 = true := by kernel_rfl
theorem en31 : entB Tryz.prog 31 = true := by kernel_rfl
theorem en32 : entB Tryz.prog 32 = true := by kernel_rfl
theorem en33 : entB Tryz.prog 33 = true := by kernel_rfl
theorem en35 : entB Tryz.prog 35 = true := by kernel_rfl
theorem en36 : entB Tryz.prog 36 = true := by kernel_rfl
theorem en37 : entB Tryz.prog 37 = true := by kernel_rfl
theorem en38 : entB Tryz.prog 38 = true := by kernel_rfl
theorem en40 : entB Tryz.prog 40 = true := by kernel_rfl
theorem en41 : entB Tryz.prog 41 = true := by kernel_rfl
theorem en42 : entB Tryz.prog 42 = true := by kernel_rfl
theorem en43 : entB Tryz.prog 43 = true := by kernel_rfl
theorem en44 : entB Tryz.prog 44 = true := by kernel_rfl
theorem en45 : entB Tryz.prog 45 = true := by kernel_rfl
theorem en46 : entB Tryz.prog 46 = true := by kernel_rfl
theorem en47 : entB Tryz.prog 47 = true := by kernel_rfl
theorem en48 : entB Tryz.prog 48 = true := by kernel_rfl
theorem en49 : entB Tryz.prog 49 = true := by kernel_rfl
theorem en50 : entB Tryz.prog 50 = true := by kernel_rfl
theorem en51 : entB Tryz.prog 51 = true := by kernel_rfl
theorem en53 : entB Tryz.prog 53 = true := by kernel_rfl
theorem en59 : entB Tryz.prog 59 = true := by kernel_rfl
theorem en60 : entB Tryz.prog 60 = true := by kernel_rfl
theorem en61 : entB Tryz.prog 61 = true := by kernel_rfl
theorem en62 : entB Tryz.prog 62 = true := by kernel_rfl
theorem en63 : entB Tryz.prog 63 = true := by kernel_rfl
theorem en64 : entB Tryz.prog 64 = true := by kernel_rfl
theorem en65 : entB Tryz.prog 65 = true := by kernel_rfl
theorem en66 : entB Tryz.prog 66 = true := by kernel_rfl
theorem en67 : entB Tryz.prog 67 = true := by kernel_rfl
theorem en79 : entB Tryz.prog 79 = true := by kernel_rfl
theorem en80 : entB Tryz.prog 80 = true := by kernel_rfl
theorem en81 : entB Tryz.prog 81 = true := by kernel_rfl
theorem en82 : entB Tryz.prog 82 = true := by kernel_rfl
@[go_sem] theorem tyb60_0 : (szT Tryz.prog 2 = 1) ∧ (hasT Tryz.prog 2 = true) ∧ (aggT Tryz.prog 2 = false) ∧ (bytesT Tryz.prog 2 = 8) ∧ (kindT Tryz.prog 2 = some .i64) ∧ (nilsX Tryz.prog 2 = [none]) ∧ (arrayT Tryz.prog 2 = none) ∧ (zeroL Tryz.prog 2 = some [.int .i64 0]) ∧ (szT Tryz.prog 3 = 1) ∧ (hasT Tryz.prog 3 = true) ∧ (aggT Tryz.prog 3 = false) ∧ (bytesT Tryz.prog 3 = 8) ∧ (kindT Tryz.prog 3 = some .i64) ∧ (nilsX Tryz.prog 3 = [none]) ∧ (arrayT Tryz.prog 3 = none) ∧ (zeroL Tryz.prog 3 = some [.int .i64 0]) ∧ (szT Tryz.prog 4 = 1) ∧ (hasT Tryz.prog 4 = true) ∧ (aggT Tryz.prog 4 = false) ∧ (bytesT Tryz.prog 4 = 1) ∧ (Tryz.prog.underlying 4 = some .bool) ∧ (nilsX Tryz.prog 4 = [none]) ∧ (arrayT Tryz.prog 4 = none) ∧ (zeroL Tryz.prog 4 = some [.bool false]) ∧ (szT Tryz.prog 5 = 1) ∧ (hasT Tryz.prog 5 = true) ∧ (aggT Tryz.prog 5 = false) ∧ (bytesT Tryz.prog 5 = 1) ∧ (kindT Tryz.prog 5 = some .u8) ∧ (nilsX Tryz.prog 5 = [none]) ∧ (arrayT Tryz.prog 5 = none) ∧ (zeroL Tryz.prog 5 = some [.int .u8 0]) ∧ (kindT Tryz.prog 9 = none) ∧ (szT Tryz.prog 9 = 1) ∧ (hasT Tryz.prog 9 = true) ∧ (aggT Tryz.prog 9 = false) ∧ (bytesT Tryz.prog 9 = 16) ∧ (Tryz.prog.underlying 9 = some .string) ∧ (nilsX Tryz.prog 9 = [none]) ∧ (arrayT Tryz.prog 9 = none) ∧ (zeroL Tryz.prog 9 = some [.string ⟨#[]⟩]) ∧ (szT Tryz.prog 21 = 1) ∧ (hasT Tryz.prog 21 = true) ∧ (aggT Tryz.prog 21 = false) ∧ (bytesT Tryz.prog 21 = 4) ∧ (kindT Tryz.prog 21 = some .i32) ∧ (nilsX Tryz.prog 21 = [none]) ∧ (arrayT Tryz.prog 21 = none) ∧ (zeroL Tryz.prog 21 = some [.int .i32 0]) ∧ (szT Tryz.prog 22 = 1) ∧ (hasT Tryz.prog 22 = true) ∧ (aggT Tryz.prog 22 = false) ∧ (bytesT Tryz.prog 22 = 24) ∧ (sliceT Tryz.prog 22 = some 3) ∧ (nilsX Tryz.prog 22 = [some 1]) ∧ (arrayT Tryz.prog 22 = none) ∧ (zeroL Tryz.prog 22 = some [.slice none 0 0]) ∧ (szT Tryz.prog 23 = 1) ∧ (hasT Tryz.prog 23 = true) ∧ (aggT Tryz.prog 23 = false) := ⟨ty2_sz, ty2_has, ty2_agg, ty2_by, ty2_k, ty2_n, ty2_ar, ty2_z, ty3_sz, ty3_has, ty3_agg, ty3_by, ty3_k, ty3_n, ty3_ar, ty3_z, ty4_sz, ty4_has, ty4_agg, ty4_by, ty4_u, ty4_n, ty4_ar, ty4_z, ty5_sz, ty5_has, ty5_agg, ty5_by, ty5_k, ty5_n, ty5_ar, ty5_z, ty9_k, ty9_sz, ty9_has, ty9_agg, ty9_by, ty9_u, ty9_n, ty9_ar, ty9_z, ty21_sz, ty21_has, ty21_agg, ty21_by, ty21_k, ty21_n, ty21_ar, ty21_z, ty22_sz, ty22_has, ty22_agg, ty22_by, ty22_e, ty22_n, ty22_ar, ty22_z, ty23_sz, ty23_has, ty23_agg⟩
@[go_sem] theorem tyb120_0 : (bytesT Tryz.prog 23 = 24) ∧ (sliceT Tryz.prog 23 = some 43) ∧ (nilsX Tryz.prog 23 = [some 4]) ∧ (arrayT Tryz.prog 23 = none) ∧ (zeroL Tryz.prog 23 = some [.slice none 0 0]) ∧ (szT Tryz.prog 24 = 1) ∧ (hasT Tryz.prog 24 = true) ∧ (aggT Tryz.prog 24 = false) ∧ (bytesT Tryz.prog 24 = 24) ∧ (sliceT Tryz.prog 24 = some 45) ∧ (nilsX Tryz.prog 24 = [some 4]) ∧ (arrayT Tryz.prog 24 = none) ∧ (zeroL Tryz.prog 24 = some [.slice none 0 0]) ∧ (szT Tryz.prog 26 = 4) ∧ (hasT Tryz.prog 26 = true) ∧ (aggT Tryz.prog 26 = true) ∧ (bytesT Tryz.prog 26 = 96) ∧ (nilsX Tryz.prog 26 = [some 1, some 1, some 4, some 4]) ∧ (arrayT Tryz.prog 26 = none) ∧ (fieldT Tryz.prog 26 0 = some (0, 22)) ∧ (fieldT Tryz.prog 26 1 = some (1, 22)) ∧ (fieldT Tryz.prog 26 2 = some (2, 23)) ∧ (fieldT Tryz.prog 26 3 = some (3, 24)) ∧ (placesL Tryz.prog 26 = some [(0, 1), (1, 1), (2, 1), (3, 1)]) ∧ (zeroL Tryz.prog 26 = some [.slice none 0 0, .slice none 0 0, .slice none 0 0, .slice none 0 0]) ∧ (szT Tryz.prog 29 = 1) ∧ (hasT Tryz.prog 29 = true) ∧ (aggT Tryz.prog 29 = false) ∧ (bytesT Tryz.prog 29 = 8) ∧ (kindT Tryz.prog 29 = some .i64) ∧ (nilsX Tryz.prog 29 = [none]) ∧ (arrayT Tryz.prog 29 = none) ∧ (zeroL Tryz.prog 29 = some [.int .i64 0]) ∧ (szT Tryz.prog 36 = 1) ∧ (hasT Tryz.prog 36 = true) ∧ (aggT Tryz.prog 36 = false) ∧ (bytesT Tryz.prog 36 = 24) ∧ (sliceT Tryz.prog 36 = some 5) ∧ (nilsX Tryz.prog 36 = [some 1]) ∧ (arrayT Tryz.prog 36 = none) ∧ (zeroL Tryz.prog 36 = some [.slice none 0 0]) ∧ (szT Tryz.prog 41 = 1) ∧ (hasT Tryz.prog 41 = true) ∧ (aggT Tryz.prog 41 = false) ∧ (bytesT Tryz.prog 41 = 24) ∧ (sliceT Tryz.prog 41 = some 59) ∧ (nilsX Tryz.prog 41 = [some 2]) ∧ (arrayT Tryz.prog 41 = none) ∧ (zeroL Tryz.prog 41 = some [.slice none 0 0]) ∧ (szT Tryz.prog 43 = 4) ∧ (hasT Tryz.prog 43 = true) ∧ (aggT Tryz.prog 43 = true) ∧ (bytesT Tryz.prog 43 = 48) ∧ (nilsX Tryz.prog 43 = [none, none, none, some 2]) ∧ (arrayT Tryz.prog 43 = none) ∧ (fieldT Tryz.prog 43 0 = some (0, 3)) ∧ (fieldT Tryz.prog 43 1 = some (1, 3)) ∧ (fieldT Tryz.prog 43 2 = some (2, 2)) ∧ (fieldT Tryz.prog 43 3 = some (3, 41)) ∧ (placesL Tryz.prog 43 = some [(0, 1), (1, 1), (2, 1), (3, 1)]) := ⟨ty23_by, ty23_e, ty23_n, ty23_ar, ty23_z, ty24_sz, ty24_has, ty24_agg, ty24_by, ty24_e, ty24_n, ty24_ar, ty24_z, ty26_sz, ty26_has, ty26_agg, ty26_by, ty26_n, ty26_ar, ty26_f0, ty26_f1, ty26_f2, ty26_f3, ty26_pl, ty26_z, ty29_sz, ty29_has, ty29_agg, ty29_by, ty29_k, ty29_n, ty29_ar, ty29_z, ty36_sz, ty36_has, ty36_agg, ty36_by, ty36_e, ty36_n, ty36_ar, ty36_z, ty41_sz, ty41_has, ty41_agg, ty41_by, ty41_e, ty41_n, ty41_ar, ty41_z, ty43_sz, ty43_has, ty43_agg, ty43_by, ty43_n, ty43_ar, ty43_f0, ty43_f1, ty43_f2, ty43_f3, ty43_pl⟩
@[go_sem] theorem tyb180_0 : (zeroL Tryz.prog 43 = some [.int .i64 0, .int .i64 0, .int .i64 0, .slice none 0 0]) ∧ (szT Tryz.prog 45 = 4) ∧ (hasT Tryz.prog 45 = true) ∧ (aggT Tryz.prog 45 = true) ∧ (bytesT Tryz.prog 45 = 32) ∧ (nilsX Tryz.prog 45 = [none, none, none, none]) ∧ (arrayT Tryz.prog 45 = none) ∧ (fieldT Tryz.prog 45 0 = some (0, 3)) ∧ (fieldT Tryz.prog 45 1 = some (1, 3)) ∧ (fieldT Tryz.prog 45 2 = some (2, 3)) ∧ (fieldT Tryz.prog 45 3 = some (3, 4)) ∧ (placesL Tryz.prog 45 = some [(0, 1), (1, 1), (2, 1), (3, 1)]) ∧ (zeroL Tryz.prog 45 = some [.int .i64 0, .int .i64 0, .int .i64 0, .bool false]) ∧ (szT Tryz.prog 46 = 1) ∧ (hasT Tryz.prog 46 = true) ∧ (aggT Tryz.prog 46 = false) ∧ (bytesT Tryz.prog 46 = 8) ∧ (nilsX Tryz.prog 46 = [none]) ∧ (arrayT Tryz.prog 46 = none) ∧ (zeroL Tryz.prog 46 = some [.pointer none]) ∧ (szT Tryz.prog 47 = 1) ∧ (hasT Tryz.prog 47 = true) ∧ (aggT Tryz.prog 47 = false) ∧ (bytesT Tryz.prog 47 = 8) ∧ (nilsX Tryz.prog 47 = [none]) ∧ (arrayT Tryz.prog 47 = none) ∧ (zeroL Tryz.prog 47 = some [.pointer none]) ∧ (szT Tryz.prog 49 = 2) ∧ (hasT Tryz.prog 49 = true) ∧ (aggT Tryz.prog 49 = true) ∧ (bytesT Tryz.prog 49 = 32) ∧ (nilsX Tryz.prog 49 = [none, some 1]) ∧ (arrayT Tryz.prog 49 = none) ∧ (fieldT Tryz.prog 49 0 = some (0, 47)) ∧ (fieldT Tryz.prog 49 1 = some (1, 36)) ∧ (placesL Tryz.prog 49 = some [(0, 1), (1, 1)]) ∧ (zeroL Tryz.prog 49 = some [.pointer none, .slice none 0 0]) ∧ (szT Tryz.prog 51 = 3) ∧ (hasT Tryz.prog 51 = true) ∧ (aggT Tryz.prog 51 = true) ∧ (bytesT Tryz.prog 51 = 40) ∧ (nilsX Tryz.prog 51 = [none, some 1, none]) ∧ (arrayT Tryz.prog 51 = none) ∧ (fieldT Tryz.prog 51 0 = some (0, 49)) ∧ (fieldT Tryz.prog 51 1 = some (2, 4)) ∧ (placesL Tryz.prog 51 = some [(0, 2), (2, 1)]) ∧ (zeroL Tryz.prog 51 = some [.pointer none, .slice none 0 0, .bool false]) ∧ (szT Tryz.prog 55 = 1) ∧ (hasT Tryz.prog 55 = true) ∧ (aggT Tryz.prog 55 = false) ∧ (bytesT Tryz.prog 55 = 24) ∧ (sliceT Tryz.prog 55 = some 9) ∧ (nilsX Tryz.prog 55 = [some 1]) ∧ (arrayT Tryz.prog 55 = none) ∧ (zeroL Tryz.prog 55 = some [.slice none 0 0]) ∧ (szT Tryz.prog 59 = 2) ∧ (hasT Tryz.prog 59 = true) ∧ (aggT Tryz.prog 59 = true) ∧ (bytesT Tryz.prog 59 = 16) ∧ (nilsX Tryz.prog 59 = [none, none]) := ⟨ty43_z, ty45_sz, ty45_has, ty45_agg, ty45_by, ty45_n, ty45_ar, ty45_f0, ty45_f1, ty45_f2, ty45_f3, ty45_pl, ty45_z, ty46_sz, ty46_has, ty46_agg, ty46_by, ty46_n, ty46_ar, ty46_z, ty47_sz, ty47_has, ty47_agg, ty47_by, ty47_n, ty47_ar, ty47_z, ty49_sz, ty49_has, ty49_agg, ty49_by, ty49_n, ty49_ar, ty49_f0, ty49_f1, ty49_pl, ty49_z, ty51_sz, ty51_has, ty51_agg, ty51_by, ty51_n, ty51_ar, ty51_f0, ty51_f1, ty51_pl, ty51_z, ty55_sz, ty55_has, ty55_agg, ty55_by, ty55_e, ty55_n, ty55_ar, ty55_z, ty59_sz, ty59_has, ty59_agg, ty59_by, ty59_n⟩
@[go_sem] theorem tyb240_0 : (arrayT Tryz.prog 59 = none) ∧ (fieldT Tryz.prog 59 0 = some (0, 3)) ∧ (fieldT Tryz.prog 59 1 = some (1, 2)) ∧ (placesL Tryz.prog 59 = some [(0, 1), (1, 1)]) ∧ (zeroL Tryz.prog 59 = some [.int .i64 0, .int .i64 0]) ∧ (szT Tryz.prog 61 = 1) ∧ (hasT Tryz.prog 61 = true) ∧ (aggT Tryz.prog 61 = false) ∧ (bytesT Tryz.prog 61 = 8) ∧ (nilsX Tryz.prog 61 = [none]) ∧ (arrayT Tryz.prog 61 = none) ∧ (zeroL Tryz.prog 61 = some [.pointer none]) ∧ (szT Tryz.prog 63 = 5) ∧ (hasT Tryz.prog 63 = true) ∧ (aggT Tryz.prog 63 = true) ∧ (bytesT Tryz.prog 63 = 104) ∧ (nilsX Tryz.prog 63 = [some 1, some 1, some 4, some 4, none]) ∧ (arrayT Tryz.prog 63 = none) ∧ (fieldT Tryz.prog 63 0 = some (0, 26)) ∧ (fieldT Tryz.prog 63 1 = some (4, 29)) ∧ (placesL Tryz.prog 63 = some [(0, 4), (4, 1)]) ∧ (zeroL Tryz.prog 63 = some [.slice none 0 0, .slice none 0 0, .slice none 0 0, .slice none 0 0, .int .i64 0]) ∧ (szT Tryz.prog 66 = 1) ∧ (hasT Tryz.prog 66 = true) ∧ (aggT Tryz.prog 66 = false) ∧ (bytesT Tryz.prog 66 = 8) ∧ (nilsX Tryz.prog 66 = [none]) ∧ (arrayT Tryz.prog 66 = none) ∧ (zeroL Tryz.prog 66 = some [.nilFunc]) ∧ (szT Tryz.prog 68 = 1) ∧ (hasT Tryz.prog 68 = true) ∧ (aggT Tryz.prog 68 = false) ∧ (bytesT Tryz.prog 68 = 8) ∧ (nilsX Tryz.prog 68 = [none]) ∧ (arrayT Tryz.prog 68 = none) ∧ (zeroL Tryz.prog 68 = some [.pointer none]) ∧ (szT Tryz.prog 70 = 1) ∧ (hasT Tryz.prog 70 = true) ∧ (aggT Tryz.prog 70 = true) ∧ (bytesT Tryz.prog 70 = 24) ∧ (nilsX Tryz.prog 70 = [some 1]) ∧ (arrayT Tryz.prog 70 = none) ∧ (fieldT Tryz.prog 70 0 = some (0, 36)) ∧ (placesL Tryz.prog 70 = some [(0, 1)]) ∧ (zeroL Tryz.prog 70 = some [.slice none 0 0]) ∧ (ifaceT Tryz.prog 76 = true) ∧ (szT Tryz.prog 82 = 1) ∧ (hasT Tryz.prog 82 = true) ∧ (aggT Tryz.prog 82 = false) ∧ (bytesT Tryz.prog 82 = 8) ∧ (nilsX Tryz.prog 82 = [none]) ∧ (arrayT Tryz.prog 82 = none) ∧ (zeroL Tryz.prog 82 = some [.pointer none]) ∧ (szT Tryz.prog 83 = 1) ∧ (hasT Tryz.prog 83 = true) ∧ (aggT Tryz.prog 83 = false) ∧ (bytesT Tryz.prog 83 = 8) ∧ (nilsX Tryz.prog 83 = [none]) ∧ (arrayT Tryz.prog 83 = none) ∧ (zeroL Tryz.prog 83 = some [.nilFunc]) := ⟨ty59_ar, ty59_f0, ty59_f1, ty59_pl, ty59_z, ty61_sz, ty61_has, ty61_agg, ty61_by, ty61_n, ty61_ar, ty61_z, ty63_sz, ty63_has, ty63_agg, ty63_by, ty63_n, ty63_ar, ty63_f0, ty63_f1, ty63_pl, ty63_z, ty66_sz, ty66_has, ty66_agg, ty66_by, ty66_n, ty66_ar, ty66_z, ty68_sz, ty68_has, ty68_agg, ty68_by, ty68_n, ty68_ar, ty68_z, ty70_sz, ty70_has, ty70_agg, ty70_by, ty70_n, ty70_ar, ty70_f0, ty70_pl, ty70_z, ty76_if, ty82_sz, ty82_has, ty82_agg, ty82_by, ty82_n, ty82_ar, ty82_z, ty83_sz, ty83_has, ty83_agg, ty83_by, ty83_n, ty83_ar, ty83_z⟩
@[go_sem] theorem tyb300_0 : (szT Tryz.prog 85 = 1) ∧ (hasT Tryz.prog 85 = true) ∧ (aggT Tryz.prog 85 = false) ∧ (bytesT Tryz.prog 85 = 8) ∧ (kindT Tryz.prog 85 = some .u64) ∧ (nilsX Tryz.prog 85 = [none]) ∧ (arrayT Tryz.prog 85 = none) ∧ (zeroL Tryz.prog 85 = some [.int .u64 0]) ∧ (szT Tryz.prog 87 = 1) ∧ (hasT Tryz.prog 87 = true) ∧ (aggT Tryz.prog 87 = false) ∧ (bytesT Tryz.prog 87 = 24) ∧ (sliceT Tryz.prog 87 = some 89) ∧ (nilsX Tryz.prog 87 = [some 2]) ∧ (arrayT Tryz.prog 87 = none) ∧ (zeroL Tryz.prog 87 = some [.slice none 0 0]) ∧ (szT Tryz.prog 89 = 2) ∧ (hasT Tryz.prog 89 = true) ∧ (aggT Tryz.prog 89 = true) ∧ (bytesT Tryz.prog 89 = 16) ∧ (nilsX Tryz.prog 89 = [none, none]) ∧ (arrayT Tryz.prog 89 = none) ∧ (fieldT Tryz.prog 89 0 = some (0, 3)) ∧ (fieldT Tryz.prog 89 1 = some (1, 3)) ∧ (placesL Tryz.prog 89 = some [(0, 1), (1, 1)]) ∧ (zeroL Tryz.prog 89 = some [.int .i64 0, .int .i64 0]) ∧ (szT Tryz.prog 93 = 1) ∧ (hasT Tryz.prog 93 = true) ∧ (aggT Tryz.prog 93 = false) ∧ (bytesT Tryz.prog 93 = 8) ∧ (nilsX Tryz.prog 93 = [none]) ∧ (arrayT Tryz.prog 93 = none) ∧ (zeroL Tryz.prog 93 = some [.nilFunc]) ∧ (szT Tryz.prog 95 = 1) ∧ (hasT Tryz.prog 95 = true) ∧ (aggT Tryz.prog 95 = false) ∧ (bytesT Tryz.prog 95 = 8) ∧ (nilsX Tryz.prog 95 = [none]) ∧ (arrayT Tryz.prog 95 = none) ∧ (zeroL Tryz.prog 95 = some [.nilFunc]) ∧ (szT Tryz.prog 99 = 256) ∧ (hasT Tryz.prog 99 = true) ∧ (aggT Tryz.prog 99 = true) ∧ (bytesT Tryz.prog 99 = 256) ∧ (nilsX Tryz.prog 99 = [none, none, none, none, none, none, none, none, none, none, none, none, none, none, none, none, none, none, none, none, none, none, none, none, none, none, none, none, none, none, none, none, none, none, none, none, none, none, none, none, none, none, none, none, none, none, none, none, none, none, none, none, none, none, none, none, none, none, none, none, none, none, none, none, none, none, none, none, none, none, none, none, none, none, none, none, none, none, none, none, none, none, none, none, none, none, none, none, none, none, none, none, none, none, none, none, none, none, none, none, none, none, none, none, none, none, none, none, none, none, none, none, none, none, none, none, none, none, none, none, none, none, none, none, none, none, none, none, none, none, none, none, none, none, none, none, none, none, none, none, none, none, none, none, none, none, none, none, none, none, none, none, none, none, none, none, none, none, none, none, none, none, none, none, none, none, none, none, none, none, none, none, none, none, none, none, none, none, none, none, none, none, none, none, none, none, none, none, none, none, none, none, none, none, none, none, none, none, none, none, none, none, none, none, none, none, none, none, none, none, none, none, none, none, none, none, none, none, none, none, none, none, none, none, none, none, none, none, none, none, none, none, none, none, none, none, none, none, none, none, none, none, none, none, none, none, none, none, none, none, none, none, none, none, none, none]) ∧ (arrayT Tryz.prog 99 = some (256, 5)) ∧ (placesL Tryz.prog 99 = some [(0, 1), (1, 1), (2, 1), (3, 1), (4, 1), (5, 1), (6, 1), (7, 1), (8, 1), (9, 1), (10, 1), (11, 1), (12, 1), (13, 1), (14, 1), (15, 1), (16, 1), (17, 1), (18, 1), (19, 1), (20, 1), (21, 1), (22, 1), (23, 1), (24, 1), (25, 1), (26, 1), (27, 1), (28, 1), (29, 1), (30, 1), (31, 1), (32, 1), (33, 1), (34, 1), (35, 1), (36, 1), (37, 1), (38, 1), (39, 1), (40, 1), (41, 1), (42, 1), (43, 1), (44, 1), (45, 1), (46, 1), (47, 1), (48, 1), (49, 1), (50, 1), (51, 1), (52, 1), (53, 1), (54, 1), (55, 1), (56, 1), (57, 1), (58, 1), (59, 1), (60, 1), (61, 1), (62, 1), (63, 1), (64, 1), (65, 1), (66, 1), (67, 1), (68, 1), (69, 1), (70, 1), (71, 1), (72, 1), (73, 1), (74, 1), (75, 1), (76, 1), (77, 1), (78, 1), (79, 1), (80, 1), (81, 1), (82, 1), (83, 1), (84, 1), (85, 1), (86, 1), (87, 1), (88, 1), (89, 1), (90, 1), (91, 1), (92, 1), (93, 1), (94, 1), (95, 1), (96, 1), (97, 1), (98, 1), (99, 1), (100, 1), (101, 1), (102, 1), (103, 1), (104, 1), (105, 1), (106, 1), (107, 1), (108, 1), (109, 1), (110, 1), (111, 1), (112, 1), (113, 1), (114, 1), (115, 1), (116, 1), (117, 1), (118, 1), (119, 1), (120, 1), (121, 1), (122, 1), (123, 1), (124, 1), (125, 1), (126, 1), (127, 1), (128, 1), (129, 1), (130, 1), (131, 1), (132, 1), (133, 1), (134, 1), (135, 1), (136, 1), (137, 1), (138, 1), (139, 1), (140, 1), (141, 1), (142, 1), (143, 1), (144, 1), (145, 1), (146, 1), (147, 1), (148, 1), (149, 1), (150, 1), (151, 1), (152, 1), (153, 1), (154, 1), (155, 1), (156, 1), (157, 1), (158, 1), (159, 1), (160, 1), (161, 1), (162, 1), (163, 1), (164, 1), (165, 1), (166, 1), (167, 1), (168, 1), (169, 1), (170, 1), (171, 1), (172, 1), (173, 1), (174, 1), (175, 1), (176, 1), (177, 1), (178, 1), (179, 1), (180, 1), (181, 1), (182, 1), (183, 1), (184, 1), (185, 1), (186, 1), (187, 1), (188, 1), (189, 1), (190, 1), (191, 1), (192, 1), (193, 1), (194, 1), (195, 1), (196, 1), (197, 1), (198, 1), (199, 1), (200, 1), (201, 1), (202, 1), (203, 1), (204, 1), (205, 1), (206, 1), (207, 1), (208, 1), (209, 1), (210, 1), (211, 1), (212, 1), (213, 1), (214, 1), (215, 1), (216, 1), (217, 1), (218, 1), (219, 1), (220, 1), (221, 1), (222, 1), (223, 1), (224, 1), (225, 1), (226, 1), (227, 1), (228, 1), (229, 1), (230, 1), (231, 1), (232, 1), (233, 1), (234, 1), (235, 1), (236, 1), (237, 1), (238, 1), (239, 1), (240, 1), (241, 1), (242, 1), (243, 1), (244, 1), (245, 1), (246, 1), (247, 1), (248, 1), (249, 1), (250, 1), (251, 1), (252, 1), (253, 1), (254, 1), (255, 1)]) ∧ (zeroL Tryz.prog 99 = some [.int .u8 0, .int .u8 0, .int .u8 0, .int .u8 0, .int .u8 0, .int .u8 0, .int .u8 0, .int .u8 0, .int .u8 0, .int .u8 0, .int .u8 0, .int .u8 0, .int .u8 0, .int .u8 0, .int .u8 0, .int .u8 0, .int .u8 0, .int .u8 0, .int .u8 0, .int .u8 0, .int .u8 0, .int .u8 0, .int .u8 0, .int .u8 0, .int .u8 0, .int .u8 0, .int .u8 0, .int .u8 0, .int .u8 0, .int .u8 0, .int .u8 0, .int .u8 0, .int .u8 0, .int .u8 0, .int .u8 0, .int .u8 0, .int .u8 0, .int .u8 0, .int .u8 0, .int .u8 0, .int .u8 0, .int .u8 0, .int .u8 0, .int .u8 0, .int .u8 0, .int .u8 0, .int .u8 0, .int .u8 0, .int .u8 0, .int .u8 0, .int .u8 0, .int .u8 0, .int .u8 0, .int .u8 0, .int .u8 0, .int .u8 0, .int .u8 0, .int .u8 0, .int .u8 0, .int .u8 0, .int .u8 0, .int .u8 0, .int .u8 0, .int .u8 0, .int .u8 0, .int .u8 0, .int .u8 0, .int .u8 0, .int .u8 0, .int .u8 0, .int .u8 0, .int .u8 0, .int .u8 0, .int .u8 0, .int .u8 0, .int .u8 0, .int .u8 0, .int .u8 0, .int .u8 0, .int .u8 0, .int .u8 0, .int .u8 0, .int .u8 0, .int .u8 0, .int .u8 0, .int .u8 0, .int .u8 0, .int .u8 0, .int .u8 0, .int .u8 0, .int .u8 0, .int .u8 0, .int .u8 0, .int .u8 0, .int .u8 0, .int .u8 0, .int .u8 0, .int .u8 0, .int .u8 0, .int .u8 0, .int .u8 0, .int .u8 0, .int .u8 0, .int .u8 0, .int .u8 0, .int .u8 0, .int .u8 0, .int .u8 0, .int .u8 0, .int .u8 0, .int .u8 0, .int .u8 0, .int .u8 0, .int .u8 0, .int .u8 0, .int .u8 0, .int .u8 0, .int .u8 0, .int .u8 0, .int .u8 0, .int .u8 0, .int .u8 0, .int .u8 0, .int .u8 0, .int .u8 0, .int .u8 0, .int .u8 0, .int .u8 0, .int .u8 0, .int .u8 0, .int .u8 0, .int .u8 0, .int .u8 0, .int .u8 0, .int .u8 0, .int .u8 0, .int .u8 0, .int .u8 0, .int .u8 0, .int .u8 0, .int .u8 0, .int .u8 0, .int .u8 0, .int .u8 0, .int .u8 0, .int .u8 0, .int .u8 0, .int .u8 0, .int .u8 0, .int .u8 0, .int .u8 0, .int .u8 0, .int .u8 0, .int .u8 0, .int .u8 0, .int .u8 0, .int .u8 0, .int .u8 0, .int .u8 0, .int .u8 0, .int .u8 0, .int .u8 0, .int .u8 0, .int .u8 0, .int .u8 0, .int .u8 0, .int .u8 0, .int .u8 0, .int .u8 0, .int .u8 0, .int .u8 0, .int .u8 0, .int .u8 0, .int .u8 0, .int .u8 0, .int .u8 0, .int .u8 0, .int .u8 0, .int .u8 0, .int .u8 0, .int .u8 0, .int .u8 0, .int .u8 0, .int .u8 0, .int .u8 0, .int .u8 0, .int .u8 0, .int .u8 0, .int .u8 0, .int .u8 0, .int .u8 0, .int .u8 0, .int .u8 0, .int .u8 0, .int .u8 0, .int .u8 0, .int .u8 0, .int .u8 0, .int .u8 0, .int .u8 0, .int .u8 0, .int .u8 0, .int .u8 0, .int .u8 0, .int .u8 0, .int .u8 0, .int .u8 0, .int .u8 0, .int .u8 0, .int .u8 0, .int .u8 0, .int .u8 0, .int .u8 0, .int .u8 0, .int .u8 0, .int .u8 0, .int .u8 0, .int .u8 0, .int .u8 0, .int .u8 0, .int .u8 0, .int .u8 0, .int .u8 0, .int .u8 0, .int .u8 0, .int .u8 0, .int .u8 0, .int .u8 0, .int .u8 0, .int .u8 0, .int .u8 0, .int .u8 0, .int .u8 0, .int .u8 0, .int .u8 0, .int .u8 0, .int .u8 0, .int .u8 0, .int .u8 0, .int .u8 0, .int .u8 0, .int .u8 0, .int .u8 0, .int .u8 0, .int .u8 0, .int .u8 0, .int .u8 0, .int .u8 0, .int .u8 0, .int .u8 0, .int .u8 0, .int .u8 0, .int .u8 0, .int .u8 0, .int .u8 0, .int .u8 0]) ∧ (szT Tryz.prog 111 = 1) ∧ (hasT Tryz.prog 111 = true) ∧ (aggT Tryz.prog 111 = false) ∧ (bytesT Tryz.prog 111 = 8) ∧ (kindT Tryz.prog 111 = some .u64) ∧ (nilsX Tryz.prog 111 = [none]) ∧ (arrayT Tryz.prog 111 = none) ∧ (zeroL Tryz.prog 111 = some [.int .u64 0]) ∧ (entB Tryz.prog 3 = true) ∧ (entB Tryz.prog 4 = true) ∧ (entB Tryz.prog 5 = true) ∧ (entB Tryz.prog 6 = true) := ⟨ty85_sz, ty85_has, ty85_agg, ty85_by, ty85_k, ty85_n, ty85_ar, ty85_z, ty87_sz, ty87_has, ty87_agg, ty87_by, ty87_e, ty87_n, ty87_ar, ty87_z, ty89_sz, ty89_has, ty89_agg, ty89_by, ty89_n, ty89_ar, ty89_f0, ty89_f1, ty89_pl, ty89_z, ty93_sz, ty93_has, ty93_agg, ty93_by, ty93_n, ty93_ar, ty93_z, ty95_sz, ty95_has, ty95_agg, ty95_by, ty95_n, ty95_ar, ty95_z, ty99_sz, ty99_has, ty99_agg, ty99_by, ty99_n, ty99_ar, ty99_pl, ty99_z, ty111_sz, ty111_has, ty111_agg, ty111_by, ty111_k, ty111_n, ty111_ar, ty111_z, en3, en4, en5, en6⟩
@[go_sem] theorem tyb360_0 : (entB Tryz.prog 7 = true) ∧ (entB Tryz.prog 8 = true) ∧ (entB Tryz.prog 9 = true) ∧ (entB Tryz.prog 10 = true) ∧ (entB Tryz.prog 11 = true) ∧ (entB Tryz.prog 12 = true) ∧ (entB Tryz.prog 13 = true) ∧ (entB Tryz.prog 14 = true) ∧ (entB Tryz.prog 15 = true) ∧ (entB Tryz.prog 16 = true) ∧ (entB Tryz.prog 17 = true) ∧ (entB Tryz.prog 18 = true) ∧ (entB Tryz.prog 19 = true) ∧ (entB Tryz.prog 20 = true) ∧ (entB Tryz.prog 21 = true) ∧ (entB Tryz.prog 22 = true) ∧ (entB Tryz.prog 23 = true) ∧ (entB Tryz.prog 24 = true) ∧ (entB Tryz.prog 25 = true) ∧ (entB Tryz.prog 26 = true) ∧ (entB Tryz.prog 27 = true) ∧ (entB Tryz.prog 28 = true) ∧ (entB Tryz.prog 29 = true) ∧ (entB Tryz.prog 30 = true) ∧ (entB Tryz.prog 31 = true) ∧ (entB Tryz.prog 32 = true) ∧ (entB Tryz.prog 33 = true) ∧ (entB Tryz.prog 35 = true) ∧ (entB Tryz.prog 36 = true) ∧ (entB Tryz.prog 37 = true) ∧ (entB Tryz.prog 38 = true) ∧ (entB Tryz.prog 40 = true) ∧ (entB Tryz.prog 41 = true) ∧ (entB Tryz.prog 42 = true) ∧ (entB Tryz.prog 43 = true) ∧ (entB Tryz.prog 44 = true) ∧ (entB Tryz.prog 45 = true) ∧ (entB Tryz.prog 46 = true) ∧ (entB Tryz.prog 47 = true) ∧ (entB Tryz.prog 48 = true) ∧ (entB Tryz.prog 49 = true) ∧ (entB Tryz.prog 50 = true) ∧ (entB Tryz.prog 51 = true) ∧ (entB Tryz.prog 53 = true) ∧ (entB Tryz.prog 59 = true) ∧ (entB Tryz.prog 60 = true) ∧ (entB Tryz.prog 61 = true) ∧ (entB Tryz.prog 62 = true) ∧ (entB Tryz.prog 63 = true) ∧ (entB Tryz.prog 64 = true) ∧ (entB Tryz.prog 65 = true) ∧ (entB Tryz.prog 66 = true) ∧ (entB Tryz.prog 67 = true) ∧ (entB Tryz.prog 79 = true) ∧ (entB Tryz.prog 80 = true) ∧ (entB Tryz.prog 81 = true) ∧ (entB Tryz.prog 82 = true) := ⟨en7, en8, en9, en10, en11, en12, en13, en14, en15, en16, en17, en18, en19, en20, en21, en22, en23, en24, en25, en26, en27, en28, en29, en30, en31, en32, en33, en35, en36, en37, en38, en40, en41, en42, en43, en44, en45, en46, en47, en48, en49, en50, en51, en53, en59, en60, en61, en62, en63, en64, en65, en66, en67, en79, en80, en81, en82⟩
theorem mixed : Tryz.prog.follows .mixedOrders = true := by kernel_rfl
structure GIns where
 Op : Int
 N : Int
instance : Row GIns := ⟨2, fun x => [.v (.int .i64 x.Op), .v (.int .i64 x.N)]⟩
@[go_sem] theorem row_GIns (x : GIns) : Row.row x = [.v (.int .i64 x.Op), .v (.int .i64 x.N)] := rfl
@[go_sem] theorem sz_GIns : Row.sz GIns = 2 := rfl
instance : Dat GIns where
 ct := Dat.ct Int ++ (Dat.ct Int)
 ok x := Dat.ok x.Op ∧ Dat.ok x.N
 len := rfl
 of avs h := by
  obtain ⟨b0, r0, rfl, h0, g0⟩ := rowOK_split h
  obtain ⟨x0, rfl, k0⟩ := Dat.of (α := Int) _ h0
  obtain ⟨x1, rfl, k1⟩ := Dat.of (α := Int) _ g0
  exact ⟨⟨x0, x1⟩, rfl, k0, k1⟩
structure GNode where
 Kind : Int
 Scope : Int
 Arg : Int
 Prog : List GIns
instance : Row GNode := ⟨4, fun x => [.v (.int .i64 x.Kind), .v (.int .i64 x.Scope), .v (.int .i64 x.Arg), .sl 2 (enc x.Prog)]⟩
@[go_sem] theorem row_GNode (x : GNode) : Row.row x = [.v (.int .i64 x.Kind), .v (.int .i64 x.Scope), .v (.int .i64 x.Arg), .sl 2 (enc x.Prog)] := rfl
@[go_sem] theorem sz_GNode : Row.sz GNode = 4 := rfl
instance : Dat GNode where
 ct := Dat.ct Int ++ (Dat.ct Int ++ (Dat.ct Int ++ (Dat.ct (List GIns))))
 ok x := Dat.ok x.Kind ∧ Dat.ok x.Scope ∧ Dat.ok x.Arg ∧ Dat.ok x.Prog
 len := rfl
 of avs h := by
  obtain ⟨b0, r0, rfl, h0, g0⟩ := rowOK_split h
  obtain ⟨b1, r1, rfl, h1, g1⟩ := rowOK_split g0
  obtain ⟨b2, r2, rfl, h2, g2⟩ := rowOK_split g1
  obtain ⟨x0, rfl, k0⟩ := Dat.of (α := Int) _ h0
  obtain ⟨x1, rfl, k1⟩ := Dat.of (α := Int) _ h1
  obtain ⟨x2, rfl, k2⟩ := Dat.of (α := Int) _ h2
  obtain ⟨x3, rfl, k3⟩ := Dat.of (α := List GIns) _ g2
  exact ⟨⟨x0, x1, x2, x3⟩, rfl, k0, k1, k2, k3⟩
structure GEdge where
 From : Int
 To : Int
 Port : Int
 Exchange : Bool
instance : Row GEdge := ⟨4, fun x => [.v (.int .i64 x.From), .v (.int .i64 x.To), .v (.int .i64 x.Port), .v (.bool x.Exchange)]⟩
@[go_sem] theorem row_GEdge (x : GEdge) : Row.row x = [.v (.int .i64 x.From), .v (.int .i64 x.To), .v (.int .i64 x.Port), .v (.bool x.Exchange)] := rfl
@[go_sem] theorem sz_GEdge : Row.sz GEdge = 4 := rfl
instance : Dat GEdge where
 ct := Dat.ct Int ++ (Dat.ct Int ++ (Dat.ct Int ++ (Dat.ct Bool)))
 ok x := Dat.ok x.From ∧ Dat.ok x.To ∧ Dat.ok x.Port ∧ Dat.ok x.Exchange
 len := rfl
 of avs h := by
  obtain ⟨b0, r0, rfl, h0, g0⟩ := rowOK_split h
  obtain ⟨b1, r1, rfl, h1, g1⟩ := rowOK_split g0
  obtain ⟨b2, r2, rfl, h2, g2⟩ := rowOK_split g1
  obtain ⟨x0, rfl, k0⟩ := Dat.of (α := Int) _ h0
  obtain ⟨x1, rfl, k1⟩ := Dat.of (α := Int) _ h1
  obtain ⟨x2, rfl, k2⟩ := Dat.of (α := Int) _ h2
  obtain ⟨x3, rfl, k3⟩ := Dat.of (α := Bool) _ g2
  exact ⟨⟨x0, x1, x2, x3⟩, rfl, k0, k1, k2, k3⟩
structure GGraph where
 Parent : List Int
 Bound : List Int
 Nodes : List GNode
 Edges : List GEdge
instance : Row GGraph := ⟨4, fun x => [.sl 1 (enc x.Parent), .sl 1 (enc x.Bound), .sl 4 (enc x.Nodes), .sl 4 (enc x.Edges)]⟩
@[go_sem] theorem row_GGraph (x : GGraph) : Row.row x = [.sl 1 (enc x.Parent), .sl 1 (enc x.Bound), .sl 4 (enc x.Nodes), .sl 4 (enc x.Edges)] := rfl
@[go_sem] theorem sz_GGraph : Row.sz GGraph = 4 := rfl
instance : Dat GGraph where
 ct := Dat.ct (List Int) ++ (Dat.ct (List Int) ++ (Dat.ct (List GNode) ++ (Dat.ct (List GEdge))))
 ok x := Dat.ok x.Parent ∧ Dat.ok x.Bound ∧ Dat.ok x.Nodes ∧ Dat.ok x.Edges
 len := rfl
 of avs h := by
  obtain ⟨b0, r0, rfl, h0, g0⟩ := rowOK_split h
  obtain ⟨b1, r1, rfl, h1, g1⟩ := rowOK_split g0
  obtain ⟨b2, r2, rfl, h2, g2⟩ := rowOK_split g1
  obtain ⟨x0, rfl, k0⟩ := Dat.of (α := List Int) _ h0
  obtain ⟨x1, rfl, k1⟩ := Dat.of (α := List Int) _ h1
  obtain ⟨x2, rfl, k2⟩ := Dat.of (α := List GNode) _ h2
  obtain ⟨x3, rfl, k3⟩ := Dat.of (α := List GEdge) _ g2
  exact ⟨⟨x0, x1, x2, x3⟩, rfl, k0, k1, k2, k3⟩
structure GText_reader where
 g : GGraph
 e : Int
instance : Row GText_reader := ⟨5, fun x => [.sl 1 (enc x.g.Parent), .sl 1 (enc x.g.Bound), .sl 4 (enc x.g.Nodes), .sl 4 (enc x.g.Edges), .v (.int .i64 x.e)]⟩
@[go_sem] theorem row_GText_reader (x : GText_reader) : Row.row x = [.sl 1 (enc x.g.Parent), .sl 1 (enc x.g.Bound), .sl 4 (enc x.g.Nodes), .sl 4 (enc x.g.Edges), .v (.int .i64 x.e)] := rfl
@[go_sem] theorem sz_GText_reader : Row.sz GText_reader = 5 := rfl
instance : Dat GText_reader where
 ct := Dat.ct GGraph ++ (Dat.ct Int)
 ok x := Dat.ok x.g ∧ Dat.ok x.e
 len := rfl
 of avs h := by
  obtain ⟨b0, r0, rfl, h0, g0⟩ := rowOK_split h
  obtain ⟨x0, rfl, k0⟩ := Dat.of (α := GGraph) _ h0
  obtain ⟨x1, rfl, k1⟩ := Dat.of (α := Int) _ g0
  exact ⟨⟨x0, x1⟩, rfl, k0, k1⟩
structure GGraph_writer where
 b : List UInt8
instance : Row GGraph_writer := ⟨1, fun x => [.sl 1 (enc x.b)]⟩
@[go_sem] theorem row_GGraph_writer (x : GGraph_writer) : Row.row x = [.sl 1 (enc x.b)] := rfl
@[go_sem] theorem sz_GGraph_writer : Row.sz GGraph_writer = 1 := rfl
instance : Dat GGraph_writer where
 ct := Dat.ct (List UInt8)
 ok x := Dat.ok x.b
 len := rfl
 of avs h := by
  obtain ⟨x0, rfl, k0⟩ := Dat.of (α := List UInt8) _ h
  exact ⟨⟨x0⟩, rfl, k0⟩
@[go_sem] theorem eqT45 : EqT Tryz.prog 45 [some .i64, some .i64, some .i64, none] := EqT_of (by kernel_rfl) (by kernel_rfl) (by kernel_rfl)
@[go_sem] theorem eqT59 : EqT Tryz.prog 59 [some .i64, some .i64] := EqT_of (by kernel_rfl) (by kernel_rfl) (by kernel_rfl)
attribute [go_sem] Tryz.ntmps3 Tryz.results3 Tryz.ntmps4 Tryz.results4 Tryz.ntmps5 Tryz.results5 Tryz.ntmps6 Tryz.results6 Tryz.ntmps7 Tryz.results7 Tryz.ntmps8 Tryz.results8 Tryz.ntmps9 Tryz.results9 Tryz.ntmps10 Tryz.results10 Tryz.ntmps11 Tryz.results11 Tryz.ntmps12 Tryz.results12 Tryz.ntmps13 Tryz.results13 Tryz.ntmps14 Tryz.results14 Tryz.ntmps15 Tryz.results15 Tryz.ntmps16 Tryz.results16 Tryz.ntmps17 Tryz.results17 Tryz.ntmps18 Tryz.results18 Tryz.ntmps19 Tryz.results19 Tryz.ntmps20 Tryz.results20 Tryz.ntmps21 Tryz.results21 Tryz.ntmps22 Tryz.results22 Tryz.ntmps23 Tryz.results23 Tryz.ntmps24 Tryz.results24 Tryz.ntmps25 Tryz.results25 Tryz.ntmps26 Tryz.results26 Tryz.ntmps27 Tryz.results27 Tryz.ntmps28 Tryz.results28 Tryz.ntmps29 Tryz.results29 Tryz.ntmps30 Tryz.results30 Tryz.ntmps31 Tryz.results31 Tryz.ntmps32 Tryz.results32 Tryz.ntmps33 Tryz.results33 Tryz.ntmps35 Tryz.results35 Tryz.ntmps36 Tryz.results36 Tryz.ntmps37 Tryz.results37 Tryz.ntmps38 Tryz.results38 Tryz.ntmps40 Tryz.results40 Tryz.ntmps41 Tryz.results41 Tryz.ntmps42 Tryz.results42 Tryz.ntmps43 Tryz.results43 Tryz.ntmps44 Tryz.results44 Tryz.ntmps45 Tryz.results45 Tryz.ntmps46 Tryz.results46 Tryz.ntmps47 Tryz.results47 Tryz.ntmps48 Tryz.results48 Tryz.ntmps49 Tryz.results49 Tryz.ntmps50 Tryz.results50 Tryz.ntmps51 Tryz.results51 Tryz.ntmps53 Tryz.results53 Tryz.ntmps59 Tryz.results59 Tryz.ntmps60 Tryz.results60 Tryz.ntmps61 Tryz.results61 Tryz.ntmps62 Tryz.results62 Tryz.ntmps63 Tryz.results63 Tryz.ntmps64 Tryz.results64 Tryz.ntmps65 Tryz.results65 Tryz.ntmps66 Tryz.results66 Tryz.ntmps67 Tryz.results67 Tryz.ntmps79 Tryz.results79 Tryz.ntmps80 Tryz.results80 Tryz.ntmps81 Tryz.results81 Tryz.ntmps82 Tryz.results82

def lay13_ren : Go.Shelf.Ren := ⟨fun | 171 => 13 | 243 => 34 | 246 => 54 | 283 => 70 | 284 => 71 | 285 => 72 | 286 => 73 | 129 => 85 | 317 => 84 | 318 => 86 | 319 => 87 | 320 => 88 | 337 => 98 | 338 => 99 | n => n, fun | 3 => 3 | 9 => 9 | 2 => 2 | 4 => 4 | 171 => 114 | 0 => 0 | 53 => 85 | 37 => 36 | 5 => 5 | 173 => 117 | 212 => 132 | 51 => 119 | 20 => 20 | 213 => 133 | 46 => 111 | 232 => 161 | 233 => 162 | n => n, fun | 17 => 2 | 18 => 6 | 19 => 7 | n => n⟩
theorem lay13 : Go.Proofs.LaysM.n171 Tryz.prog lay13_ren := {
 mixed := by kernel_rfl
 f129 := Tryz.func85.trans (congrArg some (by kernel_rfl))
 f171 := Tryz.func13.trans (congrArg some (by kernel_rfl))
 f243 := Tryz.func34.trans (congrArg some (by kernel_rfl))
 f246 := Tryz.func54.trans (congrArg some (by kernel_rfl))
 f283 := Tryz.func70.trans (congrArg some (by kernel_rfl))
 f284 := Tryz.func71.trans (congrArg some (by kernel_rfl))
 f285 := Tryz.func72.trans (congrArg some (by kernel_rfl))
 f286 := Tryz.func73.trans (congrArg some (by kernel_rfl))
 f317 := Tryz.func84.trans (congrArg some (by kernel_rfl))
 f318 := Tryz.func86.trans (congrArg some (by kernel_rfl))
 f319 := Tryz.func87.trans (congrArg some (by kernel_rfl))
 f320 := Tryz.func88.trans (congrArg some (by kernel_rfl))
 f337 := Tryz.func98.trans (congrArg some (by kernel_rfl))
 f338 := Tryz.func99.trans (congrArg some (by kernel_rfl))
 t0 := Tryz.underlying0
 a0 := Tryz.isAgg0
 z0 := Tryz.sizeOf0
 v0 := Tryz.zeroValue0
 t2 := Tryz.underlying2
 a2 := Tryz.isAgg2
 z2 := Tryz.sizeOf2
 v2 := Tryz.zeroValue2
 t3 := Tryz.underlying3
 a3 := Tryz.isAgg3
 z3 := Tryz.sizeOf3
 v3 := Tryz.zeroValue3
 t4 := Tryz.underlying4
 a4 := Tryz.isAgg4
 z4 := Tryz.sizeOf4
 v4 := Tryz.zeroValue4
 t5 := Tryz.underlying5
 a5 := Tryz.isAgg5
 z5 := Tryz.sizeOf5
 v5 := Tryz.zeroValue5
 t9 := Tryz.underlying9
 a9 := Tryz.isAgg9
 z9 := Tryz.sizeOf9
 v9 := Tryz.zeroValue9
 t20 := Tryz.underlying20
 a20 := Tryz.isAgg20
 z20 := Tryz.sizeOf20
 v20 := Tryz.zeroValue20
 t37 := Tryz.underlying36
 a37 := Tryz.isAgg36
 z37 := Tryz.sizeOf36
 v37 := Tryz.zeroValue36
 t46 := Tryz.underlying111
 a46 := Tryz.isAgg111
 z46 := Tryz.sizeOf111
 v46 := Tryz.zeroValue111
 t51 := Tryz.underlying119
 a51 := Tryz.isAgg119
 z51 := Tryz.sizeOf119
 v51 := Tryz.zeroValue119
 t53 := Tryz.underlying85
 a53 := Tryz.isAgg85
 z53 := Tryz.sizeOf85
 v53 := Tryz.zeroValue85
 t171 := Tryz.underlying114
 a171 := Tryz.isAgg114
 z171 := Tryz.sizeOf114
 v171 := Tryz.zeroValue114
 t173 := Tryz.underlying117
 a173 := Tryz.isAgg117
 z173 := Tryz.sizeOf117
 v173 := Tryz.zeroValue117
 t212 := Tryz.underlying132
 a212 := Tryz.isAgg132
 z212 := Tryz.sizeOf132
 v212 := Tryz.zeroValue132
 t213 := Tryz.underlying133
 a213 := Tryz.isAgg133
 z213 := Tryz.sizeOf133
 t232 := Tryz.underlying161
 a232 := Tryz.isAgg161
 z232 := Tryz.sizeOf161
 v232 := Tryz.zeroValue161
 t233 := Tryz.underlying162
 a233 := Tryz.isAgg162
 z233 := Tryz.sizeOf162
 v233 := Tryz.zeroValue162
 g17 := by kernel_rfl
 g18 := by kernel_rfl
 g19 := by kernel_rfl
 i0 := by kernel_rfl
 i2 := by kernel_rfl
 i3 := by kernel_rfl
 i4 := by kernel_rfl
 i5 := by kernel_rfl
 i9 := by kernel_rfl
 i20 := by kernel_rfl
 i37 := by kernel_rfl
 i46 := by kernel_rfl
 i51 := by kernel_rfl
 i53 := by kernel_rfl
 i171 := by kernel_rfl
 i173 := by kernel_rfl
 i212 := by kernel_rfl
 i232 := by kernel_rfl
 i233 := by kernel_rfl
 m17 := by kernel_rfl
 m18 := by kernel_rfl
 m19 := by kernel_rfl }
def f_strconv_Itoa (n_0 : Int) : Option (List UInt8) := itoaF n_0
theorem f_strconv_Itoa_ok (n_0 : Int) (r : List UInt8) (h : f_strconv_Itoa n_0 = some r) : PureS Tryz.prog 13 [.v (.int .i64 n_0)] 0 (.v (.string ⟨⟨r⟩⟩)) :=
 itoa_pure lay13 (by kernel_rfl) (by kernel_rfl) h

def lay36_ren : Go.Shelf.Ren := ⟨fun | 173 => 36 | 246 => 54 | 283 => 70 | 284 => 71 | 285 => 72 | 286 => 73 | 129 => 85 | 317 => 84 | 318 => 86 | 319 => 87 | 320 => 88 | 337 => 98 | 338 => 99 | n => n, fun | 2 => 2 | 3 => 3 | 9 => 9 | 4 => 4 | 171 => 114 | 0 => 0 | 53 => 85 | 37 => 36 | 5 => 5 | 173 => 117 | 212 => 132 | 51 => 119 | 20 => 20 | 213 => 133 | 46 => 111 | 232 => 161 | 233 => 162 | n => n, fun | 17 => 2 | 18 => 6 | 19 => 7 | n => n⟩
theorem lay36 : Go.Proofs.LaysM.n173 Tryz.prog lay36_ren := {
 mixed := by kernel_rfl
 f129 := Tryz.func85.trans (congrArg some (by kernel_rfl))
 f173 := Tryz.func36.trans (congrArg some (by kernel_rfl))
 f246 := Tryz.func54.trans (congrArg some (by kernel_rfl))
 f283 := Tryz.func70.trans (congrArg some (by kernel_rfl))
 f284 := Tryz.func71.trans (congrArg some (by kernel_rfl))
 f285 := Tryz.func72.trans (congrArg some (by kernel_rfl))
 f286 := Tryz.func73.trans (congrArg some (by kernel_rfl))
 f317 := Tryz.func84.trans (congrArg some (by kernel_rfl))
 f318 := Tryz.func86.trans (congrArg some (by kernel_rfl))
 f319 := Tryz.func87.trans (congrArg some (by kernel_rfl))
 f320 := Tryz.func88.trans (congrArg some (by kernel_rfl))
 f337 := Tryz.func98.trans (congrArg some (by kernel_rfl))
 f338 := Tryz.func99.trans (congrArg some (by kernel_rfl))
 t0 := Tryz.underlying0
 a0 := Tryz.isAgg0
 z0 := Tryz.sizeOf0
 v0 := Tryz.zeroValue0
 t2 := Tryz.underlying2
 a2 := Tryz.isAgg2
 z2 := Tryz.sizeOf2
 v2 := Tryz.zeroValue2
 t3 := Tryz.underlying3
 a3 := Tryz.isAgg3
 z3 := Tryz.sizeOf3
 v3 := Tryz.zeroValue3
 t4 := Tryz.underlying4
 a4 := Tryz.isAgg4
 z4 := Tryz.sizeOf4
 v4 := Tryz.zeroValue4
 t5 := Tryz.underlying5
 a5 := Tryz.isAgg5
 z5 := Tryz.sizeOf5
 v5 := Tryz.zeroValue5
 t9 := Tryz.underlying9
 a9 := Tryz.isAgg9
 z9 := Tryz.sizeOf9
 v9 := Tryz.zeroValue9
 t20 := Tryz.underlying20
 a20 := Tryz.isAgg20
 z20 := Tryz.sizeOf20
 v20 := Tryz.zeroValue20
 t37 := Tryz.underlying36
 a37 := Tryz.isAgg36
 z37 := Tryz.sizeOf36
 v37 := Tryz.zeroValue36
 t46 := Tryz.underlying111
 a46 := Tryz.isAgg111
 z46 := Tryz.sizeOf111
 v46 := Tryz.zeroValue111
 t51 := Tryz.underlying119
 a51 := Tryz.isAgg119
 z51 := Tryz.sizeOf119
 v51 := Tryz.zeroValue119
 t53 := Tryz.underlying85
 a53 := Tryz.isAgg85
 z53 := Tryz.sizeOf85
 v53 := Tryz.zeroValue85
 t171 := Tryz.underlying114
 a171 := Tryz.isAgg114
 z171 := Tryz.sizeOf114
 v171 := Tryz.zeroValue114
 t173 := Tryz.underlying117
 a173 := Tryz.isAgg117
 z173 := Tryz.sizeOf117
 v173 := Tryz.zeroValue117
 t212 := Tryz.underlying132
 a212 := Tryz.isAgg132
 z212 := Tryz.sizeOf132
 v212 := Tryz.zeroValue132
 t213 := Tryz.underlying133
 a213 := Tryz.isAgg133
 z213 := Tryz.sizeOf133
 t232 := Tryz.underlying161
 a232 := Tryz.isAgg161
 z232 := Tryz.sizeOf161
 v232 := Tryz.zeroValue161
 t233 := Tryz.underlying162
 a233 := Tryz.isAgg162
 z233 := Tryz.sizeOf162
 v233 := Tryz.zeroValue162
 g17 := by kernel_rfl
 g18 := by kernel_rfl
 g19 := by kernel_rfl
 i0 := by kernel_rfl
 i2 := by kernel_rfl
 i3 := by kernel_rfl
 i4 := by kernel_rfl
 i5 := by kernel_rfl
 i9 := by kernel_rfl
 i20 := by kernel_rfl
 i37 := by kernel_rfl
 i46 := by kernel_rfl
 i51 := by kernel_rfl
 i53 := by kernel_rfl
 i171 := by kernel_rfl
 i173 := by kernel_rfl
 i212 := by kernel_rfl
 i232 := by kernel_rfl
 i233 := by kernel_rfl
 m17 := by kernel_rfl
 m18 := by kernel_rfl
 m19 := by kernel_rfl }
def f_strconv_FormatInt (n_0 : Int) (b_0 : Int) : Option (List UInt8) := fmtF n_0 b_0
theorem f_strconv_FormatInt_ok (n_0 : Int) (b_0 : Int) (r : List UInt8) (h : f_strconv_FormatInt n_0 b_0 = some r) : PureS Tryz.prog 36 [.v (.int .i64 n_0), .v (.int .i64 b_0)] 0 (.v (.string ⟨⟨r⟩⟩)) :=
 fmt_pure lay36 (by kernel_rfl) (by kernel_rfl) h

def lay23_ren : Go.Shelf.Ren := ⟨fun | 146 => 23 | 221 => 39 | 268 => 56 | 138 => 57 | 143 => 58 | 195 => 75 | 197 => 76 | 218 => 77 | 219 => 78 | 260 => 91 | 217 => 92 | 225 => 93 | 224 => 94 | 267 => 95 | 266 => 100 | 314 => 101 | n => n, fun | 9 => 9 | 31 => 55 | 3 => 3 | 4 => 4 | 0 => 0 | 105 => 123 | 21 => 21 | 5 => 5 | 46 => 111 | 119 => 99 | 139 => 152 | 138 => 151 | 146 => 153 | 51 => 119 | n => n, fun | 1 => 3 | 3 => 4 | 4 => 5 | n => n⟩
theorem lay23 : Go.Proofs.Lays.n146 Tryz.prog lay23_ren := {
 mixed := by kernel_rfl
 f138 := Tryz.func57.trans (congrArg some (by kernel_rfl))
 f143 := Tryz.func58.trans (congrArg some (by kernel_rfl))
 f146 := Tryz.func23.trans (congrArg some (by kernel_rfl))
 f195 := Tryz.func75.trans (congrArg some (by kernel_rfl))
 f197 := Tryz.func76.trans (congrArg some (by kernel_rfl))
 f217 := Tryz.func92.trans (congrArg some (by kernel_rfl))
 f218 := Tryz.func77.trans (congrArg some (by kernel_rfl))
 f219 := Tryz.func78.trans (congrArg some (by kernel_rfl))
 f221 := Tryz.func39.trans (congrArg some (by kernel_rfl))
 f224 := Tryz.func94.trans (congrArg some (by kernel_rfl))
 f225 := Tryz.func93.trans (congrArg some (by kernel_rfl))
 f260 := Tryz.func91.trans (congrArg some (by kernel_rfl))
 f266 := Tryz.func100.trans (congrArg some (by kernel_rfl))
 f267 := Tryz.func95.trans (congrArg some (by kernel_rfl))
 f268 := Tryz.func56.trans (congrArg some (by kernel_rfl))
 f314 := Tryz.func101.trans (congrArg some (by kernel_rfl))
 t0 := Tryz.underlying0
 a0 := Tryz.isAgg0
 z0 := Tryz.sizeOf0
 v0 := Tryz.zeroValue0
 t3 := Tryz.underlying3
 a3 := Tryz.isAgg3
 z3 := Tryz.sizeOf3
 v3 := Tryz.zeroValue3
 t4 := Tryz.underlying4
 a4 := Tryz.isAgg4
 z4 := Tryz.sizeOf4
 v4 := Tryz.zeroValue4
 t5 := Tryz.underlying5
 a5 := Tryz.isAgg5
 z5 := Tryz.sizeOf5
 v5 := Tryz.zeroValue5
 t9 := Tryz.underlying9
 a9 := Tryz.isAgg9
 z9 := Tryz.sizeOf9
 v9 := Tryz.zeroValue9
 t21 := Tryz.underlying21
 a21 := Tryz.isAgg21
 z21 := Tryz.sizeOf21
 v21 := Tryz.zeroValue21
 t31 := Tryz.underlying55
 a31 := Tryz.isAgg55
 z31 := Tryz.sizeOf55
 v31 := Tryz.zeroValue55
 t46 := Tryz.underlying111
 a46 := Tryz.isAgg111
 z46 := Tryz.sizeOf111
 v46 := Tryz.zeroValue111
 t51 := Tryz.underlying119
 a51 := Tryz.isAgg119
 z51 := Tryz.sizeOf119
 v51 := Tryz.zeroValue119
 t105 := Tryz.underlying123
 a105 := Tryz.isAgg123
 z105 := Tryz.sizeOf123
 v105 := Tryz.zeroValue123
 t119 := Tryz.underlying99
 a119 := Tryz.isAgg99
 z119 := Tryz.sizeOf99
 t138 := Tryz.underlying151
 a138 := Tryz.isAgg151
 z138 := Tryz.sizeOf151
 v138 := Tryz.zeroValue151
 t139 := Tryz.underlying152
 a139 := Tryz.isAgg152
 z139 := Tryz.sizeOf152
 v139 := Tryz.zeroValue152
 t146 := Tryz.underlying153
 a146 := Tryz.isAgg153
 z146 := Tryz.sizeOf153
 v146 := Tryz.zeroValue153
 g1 := by kernel_rfl
 g3 := by kernel_rfl
 g4 := by kernel_rfl }
def f_strings_Split (s_0 : List UInt8) (p_0 : List UInt8) : Option (List GStr) := splitF s_0 p_0
theorem f_strings_Split_ok (s_0 : List UInt8) (p_0 : List UInt8) (r : List GStr) (h : f_strings_Split s_0 p_0 = some r) : PureS Tryz.prog 23 [.v (.string ⟨⟨s_0⟩⟩), .v (.string ⟨⟨p_0⟩⟩)] 0 (.sl 1 (enc r)) :=
 split_pure lay23 (by kernel_rfl) (by kernel_rfl) (by kernel_rfl) h

def lay24_ren : Go.Shelf.Ren := ⟨fun | 229 => 24 | n => n, fun | 9 => 9 | 40 => 66 | 31 => 55 | 152 => 87 | 3 => 3 | 0 => 0 | 4 => 4 | 21 => 21 | 154 => 89 | n => n, fun | n => n⟩
theorem lay24 : Go.Proofs.Lays.n229 Tryz.prog lay24_ren := {
 mixed := by kernel_rfl
 f229 := Tryz.func24.trans (congrArg some (by kernel_rfl))
 t0 := Tryz.underlying0
 a0 := Tryz.isAgg0
 z0 := Tryz.sizeOf0
 v0 := Tryz.zeroValue0
 t3 := Tryz.underlying3
 a3 := Tryz.isAgg3
 z3 := Tryz.sizeOf3
 v3 := Tryz.zeroValue3
 t4 := Tryz.underlying4
 a4 := Tryz.isAgg4
 z4 := Tryz.sizeOf4
 v4 := Tryz.zeroValue4
 t9 := Tryz.underlying9
 a9 := Tryz.isAgg9
 z9 := Tryz.sizeOf9
 v9 := Tryz.zeroValue9
 t21 := Tryz.underlying21
 a21 := Tryz.isAgg21
 z21 := Tryz.sizeOf21
 v21 := Tryz.zeroValue21
 t31 := Tryz.underlying55
 a31 := Tryz.isAgg55
 z31 := Tryz.sizeOf55
 v31 := Tryz.zeroValue55
 t40 := Tryz.underlying66
 a40 := Tryz.isAgg66
 z40 := Tryz.sizeOf66
 v40 := Tryz.zeroValue66
 t152 := Tryz.underlying87
 a152 := Tryz.isAgg87
 z152 := Tryz.sizeOf87
 v152 := Tryz.zeroValue87
 t154 := Tryz.underlying89
 a154 := Tryz.isAgg89
 z154 := Tryz.sizeOf89
 v154 := Tryz.zeroValue89 }
noncomputable def f_strings_FieldsFunc (s_0 : List UInt8) (f_0 : Int → Option Bool) : Option (List GStr) := fieldsF s_0 f_0
theorem f_strings_FieldsFunc_ok (s_0 : List UInt8) (f_0 : Int → Option Bool) (g_f_0 : FuncId) (c_f_0 : List AV) (F_f_0 : idFreeL c_f_0 = true) (E_f_0 : entB Tryz.prog g_f_0 = true) (H_f_0 : ∀ (x0 : Int) (r : Bool), f_0 x0 = some r → PureS Tryz.prog g_f_0 ([.v (.int .i32 x0)] ++ c_f_0) 0 (.v (.bool r))) (r : List GStr) (h : f_strings_FieldsFunc s_0 f_0 = some r) : PureS Tryz.prog 24 [.v (.string ⟨⟨s_0⟩⟩), .clo g_f_0 c_f_0] 0 (.sl 1 (enc r)) :=
 fields_pure lay24 (by kernel_rfl) (by kernel_rfl) (by kernel_rfl) F_f_0 E_f_0 H_f_0 h

def f_text_Parse_1 (c_0 : Int) : Option Bool :=
 some (c_0 == 32)
theorem f_text_Parse_1_ok (c_0 : Int)  (r : Bool) (h : f_text_Parse_1 c_0 = some r) : PureS Tryz.prog 25 [.v (.int .i32 c_0)] 0 (.v (.bool r)) := by
 unfold PureS
 refine Spec.of_vc Tryz.func25 rfl (by kernel_rfl) (by kernel_rfl) ?_
 rw [f_text_Parse_1] at h
 refine sg fun QQ1 hQ1 => ?_
 simp only [go_sem]
 refine seqQ_normal hQ1 ?_
 refine sg fun QQ2 hQ2 => ?_
 simp only [go_sem]
 refine seqQ_normal hQ2 ?_
 refine vc_ret_of ?_
 simp only [go_sem]
 obtain rfl := Option.some.inj h
 refine retW_pure rfl ?_
 simp only [go_sem, Le]

def lay18049_ren : Go.Shelf.Ren := ⟨fun | 169 => 18 | n => n, fun | 70 => 47 | 9 => 9 | 0 => 0 | 72 => 49 | 37 => 36 | 127 => 82 | 3 => 3 | 5 => 5 | n => n, fun | n => n⟩
theorem lay18049 : Go.Proofs.Lays.n169 Tryz.prog lay18049_ren := {
 mixed := by kernel_rfl
 f169 := Tryz.func18.trans (congrArg some (by kernel_rfl))
 t0 := Tryz.underlying0
 a0 := Tryz.isAgg0
 z0 := Tryz.sizeOf0
 v0 := Tryz.zeroValue0
 t3 := Tryz.underlying3
 a3 := Tryz.isAgg3
 z3 := Tryz.sizeOf3
 v3 := Tryz.zeroValue3
 t9 := Tryz.underlying9
 a9 := Tryz.isAgg9
 z9 := Tryz.sizeOf9
 v9 := Tryz.zeroValue9
 t37 := Tryz.underlying36
 a37 := Tryz.isAgg36
 z37 := Tryz.sizeOf36
 v37 := Tryz.zeroValue36
 t70 := Tryz.underlying47
 a70 := Tryz.isAgg47
 z70 := Tryz.sizeOf47
 v70 := Tryz.zeroValue47
 t72 := Tryz.underlying49
 a72 := Tryz.isAgg49
 z72 := Tryz.sizeOf49
 v72 := Tryz.zeroValue49
 t127 := Tryz.underlying82
 a127 := Tryz.isAgg82
 z127 := Tryz.sizeOf82
 v127 := Tryz.zeroValue82 }
theorem f_strings_Builder_String_T49_p0_X : Go.Proofs.Builder.Extra Tryz.prog lay18049_ren := { sizeBuilder := by kernel_rfl, liesBuilder := by kernel_rfl, t5 := by kernel_rfl, a5 := Tryz.isAgg5, z5 := Tryz.sizeOf5, v5 := Tryz.zeroValue5, infoByte := by kernel_rfl, cellsByte := by kernel_rfl, sizeByte := by kernel_rfl, neB5 := by decide }
def f_strings_Builder_String_T49_p0 (b_0 : List UInt8) : Option (List UInt8) := bstringF b_0
theorem f_strings_Builder_String_T49_p0_det (b_0 : List UInt8) (r : List UInt8) (h : f_strings_Builder_String_T49_p0 b_0 = some r) : DetS Tryz.prog 18 [.ptr 0 0] [(0, .con (bldK 49 5 b_0) [])] 1 (.v (.string ⟨⟨r⟩⟩)) [] 1 :=
 bstring_det lay18049 f_strings_Builder_String_T49_p0_X (by kernel_rfl) h

theorem f_strings_Builder_WriteString_T49_p0_ccf (b : Nat) (w : World) (h0 : w.cell? ⟨b, 0, none⟩ = some (.pointer none)) (hsh : w.shape? b = some (49, 2)) (hfz : w.frozen? ⟨b, 0, none⟩ = false) : Calls Tryz.prog 52 #[.pointer (some ⟨b, 0, none⟩)] w fun e w' => e = .returned (.tuple #[]) ∧ w' = w.setCell ⟨b, 0, none⟩ (.pointer (some ⟨b, 0, none⟩)) := by
 obtain ⟨j, hj, hjs⟩ := Option.map_eq_some_iff.1 (show (Tryz.prog.info? 49).map (·.size) = some 2 by kernel_rfl)
 go_enter Tryz.func52, Tryz.ntmps52
 go_wp2
 rw [Lib.run_to_unsafe w ⟨b, 0, none⟩ Tryz.underlying47 Tryz.underlying112 hj (by rw [hjs]; decide) hsh (Nat.zero_lt_succ 1)]
 simp only [Result.andThen]
 rw [Oper.upon_value]
 go_wp2
 rw [run_callFunc_extern Tryz.func68 (by kernel_rfl) (by kernel_rfl) (by kernel_rfl) (e := Extern.AbiNoEscape.same) (by kernel_rfl)]
 rw [Lib.run_noEscape]
 simp only [Result.andThen]
 rw [Oper.upon_value]
 go_wp2
 rw [Lib.run_from_unsafe w ⟨b, 0, none⟩ Tryz.underlying112 Tryz.underlying47 hj hsh (by kernel_rfl)]
 simp only [Result.andThen]
 rw [Oper.upon_value]
 go_wp2
 go_end0
 exact ⟨rfl, rfl⟩
theorem f_strings_Builder_WriteString_T49_p0_ccu (b : Nat) (w : World) (h0 : w.cell? ⟨b, 0, none⟩ = some (.pointer (some ⟨b, 0, none⟩))) : Calls Tryz.prog 52 #[.pointer (some ⟨b, 0, none⟩)] w fun e w' => e = .returned (.tuple #[]) ∧ w' = w := by
 obtain ⟨j, hj, _⟩ := Option.map_eq_some_iff.1 (show (Tryz.prog.info? 49).map (·.size) = some 2 by kernel_rfl)
 go_enter Tryz.func52, Tryz.ntmps52
 go_wp2
 rw [Lib.run_neq_ptr_same w _ Tryz.underlying47 hj]
 go_wp2
 go_end0
 exact ⟨rfl, rfl⟩
theorem f_strings_Builder_WriteString_T49_p0_wr (b : Nat) (us : List Value) (v : Value) (ao : Option Addr) (n cap : Nat) (s : ByteArray) (w W w2 : World) (hcc : Calls Tryz.prog 52 #[.pointer (some ⟨b, 0, none⟩)] w fun e w' => e = .returned (.tuple #[]) ∧ w' = W) (hb : W.heap[b]? = some (.cells ⟨.pointer (some ⟨b, 0, none⟩) :: v :: us⟩ 49 (0, 0)))
  (happ : ∀ ty, (Builtin.append_ #[36, 9] ty #[v, .string s]).run Tryz.prog W = .ok (.slice ao n cap) w2) (hb2 : w2.heap[b]? = some (.cells ⟨.pointer (some ⟨b, 0, none⟩) :: v :: us⟩ 49 (0, 0))) :
  Calls Tryz.prog 32 #[.pointer (some ⟨b, 0, none⟩), .string s] w fun e w' => e = .returned (.tuple #[.int .i64 s.size, .nilIface]) ∧ w' = w2.setCell ⟨b, 1, none⟩ (.slice ao n cap) := by
 have c1 : W.cell? ⟨b, 1, none⟩ = some v := by rw [Lib.cell_of_heap hb]; rfl
 have d1 : w2.cell? ⟨b, 1, none⟩ = some v := by rw [Lib.cell_of_heap hb2]; rfl
 have f1 : w2.frozen? ⟨b, 1, none⟩ = false := Lib.frozen_of_heap hb2 1
 go_enter Tryz.func32, Tryz.ntmps32
 go_wp2_with (go_at_call 52; refine hcc.mono ?_)
 rintro e w1 ⟨rfl, rfl⟩
 go_wp2_with (at_builtin; refine wpList_app1 rfl _ _ 36 9 rfl rfl rfl (happ _) ?_)
 go_wp2
 go_ret2
 exact ⟨rfl, rfl⟩
def f_strings_Builder_WriteString_T49_p0 (b_0 : List UInt8) (s_0 : List UInt8) : Option (Int × Bool × (List UInt8)) := bindO (bwriteF b_0 s_0) fun q => some (q.1, q.2.1, q.2.2)
theorem f_strings_Builder_WriteString_T49_p0_det (b_0 : List UInt8) (s_0 : List UInt8) (r : Int × Bool × (List UInt8)) (h : f_strings_Builder_WriteString_T49_p0 b_0 s_0 = some r) : DetS Tryz.prog 32 [.ptr 0 0, .v (.string ⟨⟨s_0⟩⟩)] [(0, .con (bldK 49 5 b_0) [])] 1 (.tup [.v (.int .i64 r.1), .erb r.2.1]) [(0, .con (bldK 49 5 r.2.2) [])] 1 := by
 obtain ⟨q, h1, h⟩ := bindO_some h
 obtain rfl := Option.some.inj h
 exact bwrite_det rfl rfl (by kernel_rfl) Tryz.underlying36 Tryz.underlying9 (by kernel_rfl) f_strings_Builder_WriteString_T49_p0_ccf f_strings_Builder_WriteString_T49_p0_ccu f_strings_Builder_WriteString_T49_p0_wr h1

theorem f_strings_Builder_Grow_T49_p0_ccf (b : Nat) (w : World) (h0 : w.cell? ⟨b, 0, none⟩ = some (.pointer none)) (hsh : w.shape? b = some (49, 2)) (hfz : w.frozen? ⟨b, 0, none⟩ = false) : Calls Tryz.prog 52 #[.pointer (some ⟨b, 0, none⟩)] w fun e w' => e = .returned (.tuple #[]) ∧ w' = w.setCell ⟨b, 0, none⟩ (.pointer (some ⟨b, 0, none⟩)) := by
 obtain ⟨j, hj, hjs⟩ := Option.map_eq_some_iff.1 (show (Tryz.prog.info? 49).map (·.size) = some 2 by kernel_rfl)
 go_enter Tryz.func52, Tryz.ntmps52
 go_wp2
 rw [Lib.run_to_unsafe w ⟨b, 0, none⟩ Tryz.underlying47 Tryz.underlying112 hj (by rw [hjs]; decide) hsh (Nat.zero_lt_succ 1)]
 simp only [Result.andThen]
 rw [Oper.upon_value]
 go_wp2
 rw [run_callFunc_extern Tryz.func68 (by kernel_rfl) (by kernel_rfl) (by kernel_rfl) (e := Extern.AbiNoEscape.same) (by kernel_rfl)]
 rw [Lib.run_noEscape]
 simp only [Result.andThen]
 rw [Oper.upon_value]
 go_wp2
 rw [Lib.run_from_unsafe w ⟨b, 0, none⟩ Tryz.underlying112 Tryz.underlying47 hj hsh (by kernel_rfl)]
 simp only [Result.andThen]
 rw [Oper.upon_value]
 go_wp2
 go_end0
 exact ⟨rfl, rfl⟩
theorem f_strings_Builder_Grow_T49_p0_gr (b n : Nat) (w : World) (hbk : w.heap[b]? = some (.cells #[.pointer (some ⟨b, 0, none⟩), .slice none 0 0] 49 (0, 0))) (hn : n ≤ 281474976710656) : Calls Tryz.prog 69 #[.pointer (some ⟨b, 0, none⟩), .int .i64 n] w fun e w' => e = .returned (.tuple #[]) ∧ ∃ cs : Array Value, n ≤ cs.size ∧ (n ≤ maxLen → cs.size ≤ maxLen) ∧ w' = ((w.alloc (.cells cs 5)).setCell ⟨b, 1, none⟩ (.slice (some ⟨w.heap.size, 0, none⟩) 0 cs.size)).drew.drew.drew := by
 obtain ⟨cs, hrun, hle, hmax⟩ := Lib.run_makeNoZero (P := Tryz.prog) w.drew Tryz.f83.params 36 5 Tryz.underlying36 n hn
 have hw : IntKind.i64.wrap (IntKind.i64.wrap 0 + (n : Int)) = n := by
  rw [IntKind.wrap_i64, IntKind.wrap_i64]
  omega
 have hcall : (callFunc 83 #[.int .i64 (IntKind.i64.wrap (IntKind.i64.wrap 0 + (n : Int)))]).run Tryz.prog w.drew = .ok (.value (.slice (some ⟨w.drew.heap.size, 0, none⟩) n cs.size)) (w.drew.drew.drew.alloc (.cells cs 5)) := by
  rw [hw, run_callFunc_extern Tryz.func83 (by kernel_rfl) (by kernel_rfl) (by kernel_rfl) (e := Extern.BytealgMakeNoZero.makeNoZero Tryz.f83.params #[36]) (by kernel_rfl), hrun]
  rfl
 have hlt : b < w.heap.size := (Array.getElem?_eq_some_iff.1 hbk).1
 have hal : (w.alloc (.cells cs 5)).heap[b]? = _ := (Lib.alloc_old w _ b hlt).trans hbk
 have c1 : w.drew.cell? ⟨b, 1, none⟩ = some (.slice none 0 0) := by
  have : w.drew.heap[b]? = _ := hbk
  rw [Lib.cell_of_heap this]; rfl
 have c2 : (w.alloc (.cells cs 5)).cell? ⟨b, 1, none⟩ = some (.slice none 0 0) := by rw [Lib.cell_of_heap hal]; rfl
 have f2 : (w.alloc (.cells cs 5)).frozen? ⟨b, 1, none⟩ = false := Lib.frozen_of_heap hal 1
 have hcopy : ∀ W : World, (Builtin.copy_ #[36, 36] 3 #[.slice (some ⟨w.heap.size, 0, none⟩) 0 cs.size, .slice none 0 0]).run Tryz.prog W = .ok (goInt 0) W :=
  fun W => run_copy_none W 36 36 3 5 _ _ 0 cs.size 0 0 Tryz.underlying36 (by kernel_rfl) rfl
 clear hw
 go_enter Tryz.func69, Tryz.ntmps69
 go_wp2
 go_region
 all_goals (go_wp2; go_end0; exact ⟨rfl, cs, hle, hmax, by rw [setCell_alloc hlt]⟩)
theorem f_strings_Builder_Grow_T49_p0_gw (b n : Nat) (w : World) (hbk : w.heap[b]? = some (.cells #[.pointer none, .slice none 0 0] 49 (0, 0))) (h1 : 1 ≤ n) (hn : n ≤ 281474976710656) : Calls Tryz.prog 53 #[.pointer (some ⟨b, 0, none⟩), .int .i64 n] w fun e w' => e = .returned (.tuple #[]) ∧ GrownW 49 5 w b n w' := by
 have hbk1 : (w.setCell ⟨b, 0, none⟩ (.pointer (some ⟨b, 0, none⟩))).heap[b]? = some (.cells #[.pointer (some ⟨b, 0, none⟩), .slice none 0 0] 49 (0, 0)) := by simp [World.setCell, Array.getElem?_modify, hbk]
 have c1 : (w.setCell ⟨b, 0, none⟩ (.pointer (some ⟨b, 0, none⟩))).cell? ⟨b, 1, none⟩ = some (.slice none 0 0) := by rw [Lib.cell_of_heap hbk1]; rfl
 have c1' : (w.setCell ⟨b, 0, none⟩ (.pointer (some ⟨b, 0, none⟩))).drew.cell? ⟨b, 1, none⟩ = some (.slice none 0 0) := c1
 go_enter Tryz.func53, Tryz.ntmps53
 go_wp2_with (go_at_call 52; refine (f_strings_Builder_Grow_T49_p0_ccf b w (by rw [Lib.cell_of_heap hbk]; rfl) (by simp [World.shape?, hbk]) (Lib.frozen_of_heap hbk 0)).mono ?_; rintro e w' ⟨rfl, rfl⟩)
 go_region
 all_goals go_wp2_with (go_at_call 69; refine (f_strings_Builder_Grow_T49_p0_gr b n (w.setCell ⟨b, 0, none⟩ (.pointer (some ⟨b, 0, none⟩))).drew hbk1 hn).mono ?_; rintro e w' ⟨rfl, cs, q1, q2, rfl⟩)
 all_goals (first | (go_end0; exact ⟨rfl, GrownW.of2 hbk hn cs q1 q2⟩) | (exfalso; omega))
def f_strings_Builder_Grow_T49_p0 (b_0 : List UInt8) (n_0 : Int) : Option (List UInt8) := bgrowF b_0 n_0
theorem f_strings_Builder_Grow_T49_p0_det (b_0 : List UInt8) (n_0 : Int) (r : List UInt8) (h : f_strings_Builder_Grow_T49_p0 b_0 n_0 = some r) : DetS Tryz.prog 53 [.ptr 0 0, .v (.int .i64 n_0)] [(0, .con (boxK 49) [.v (.pointer none), .v (.slice none 0 0)])] 1 (.tup []) [(0, .con (bldK 49 5 r) [])] 1 :=
 bgrow_det (by kernel_rfl) f_strings_Builder_Grow_T49_p0_gw h

def f_strings_Join_J3 (b_2 : List UInt8) : Option (List UInt8) :=
 bindO (f_strings_Builder_String_T49_p0 (b_2 : List UInt8)) (fun (v_8 : List UInt8) =>
 some v_8)
def f_strings_Join_B4 (elems_0 : List GStr) (sep_0 : List UInt8) (rec_4 : Int × (List UInt8) → Option (List UInt8)) : Int × (List UInt8) → Option (List UInt8) :=
 fun (t65_3, b_4) =>
 (if (decide (t65_3 < (List.length (List.drop (Int.toNat 1) (List.take (List.length elems_0) elems_0)) : Int))) = true then bindO (idx (List.drop (Int.toNat 1) (List.take (List.length elems_0) elems_0)) t65_3) (fun (xv_10 : GStr) =>
 bindO (f_strings_Builder_WriteString_T49_p0 (b_4 : List UInt8) sep_0) (fun (v_13 : Int × Bool × (List UInt8)) =>
 bindO (f_strings_Builder_WriteString_T49_p0 (v_13.2.2 : List UInt8) xv_10.s) (fun (v_14 : Int × Bool × (List UInt8)) =>
 rec_4 (IntKind.i64.wrap (t65_3 + 1), v_14.2.2))))
 else f_strings_Join_J3 b_4)
def f_strings_Join_J2 (elems_0 : List GStr) (sep_0 : List UInt8) (nv_3 : Int) : Option (List UInt8) :=
 bindO (f_strings_Builder_Grow_T49_p0 ([] : List UInt8) nv_3) (fun (v_0 : List UInt8) =>
 bindO (idx elems_0 0) (fun (xv_4 : GStr) =>
 bindO (f_strings_Builder_WriteString_T49_p0 (v_0 : List UInt8) xv_4.s) (fun (v_1 : Int × Bool × (List UInt8)) =>
 guardO (0 ≤ 1 ∧ 1 ≤ (List.length elems_0 : Int) ∧ (List.length elems_0 : Int) ≤ (List.length elems_0 : Int)) (
 loopK (f_strings_Join_B4 elems_0 sep_0) rounds (0, v_1.2.2)))))
def f_strings_Join_B5 (elems_0 : List GStr) (sep_0 : List UInt8) (rec_5 : Int × Int → Option (List UInt8)) : Int × Int → Option (List UInt8) :=
 fun (nv_5, t41_3) =>
 (if (decide (t41_3 < (List.length elems_0 : Int))) = true then bindO (idx elems_0 t41_3) (fun (xv_13 : GStr) =>
 (if (decide ((IntKind.i64.wrap (9223372036854775807 - nv_5)) < (List.length xv_13.s : Int))) = true then none
 else rec_5 (IntKind.i64.wrap (nv_5 + (List.length xv_13.s : Int)), IntKind.i64.wrap (t41_3 + 1))))
 else f_strings_Join_J2 elems_0 sep_0 nv_5)
def f_strings_Join_J1 (elems_0 : List GStr) (sep_0 : List UInt8) (nv_0 : Int) : Option (List UInt8) :=
 loopK (f_strings_Join_B5 elems_0 sep_0) rounds (nv_0, 0)
def f_strings_Join_J6 (elems_0 : List GStr) (sep_0 : List UInt8) : Option (List UInt8) :=
 f_strings_Join_J1 elems_0 sep_0 (IntKind.i64.wrap (0 + (IntKind.i64.wrap ((List.length sep_0 : Int) * (IntKind.i64.wrap ((List.length elems_0 : Int) - 1))))))
def f_strings_Join (elems_0 : List GStr) (sep_0 : List UInt8) : Option (List UInt8) :=
 (if ((List.length elems_0 : Int) == 0) = true then some ([] : List UInt8)
 else (if ((List.length elems_0 : Int) == 1) = true then bindO (idx elems_0 0) (fun (xv_0 : GStr) =>
 some xv_0.s)
 else (if (decide (0 < (List.length sep_0 : Int))) = true then guardO ((IntKind.i64.wrap ((List.length elems_0 : Int) - 1)) ≠ 0) (
 (if (decide ((IntKind.i64.wrap (Int.tdiv 9223372036854775807 (IntKind.i64.wrap ((List.length elems_0 : Int) - 1)))) ≤ (List.length sep_0 : Int))) = true then none
 else f_strings_Join_J6 elems_0 sep_0))
 else f_strings_Join_J1 elems_0 sep_0 0)))
theorem f_strings_Join_ok (elems_0 : List GStr) (sep_0 : List UInt8)  (r : List UInt8) (h : f_strings_Join elems_0 sep_0 = some r) : PureS Tryz.prog 33 [.sl 1 (enc elems_0), .v (.string ⟨⟨sep_0⟩⟩)] 0 (.v (.string ⟨⟨r⟩⟩)) := by
 unfold PureS
 refine Spec.of_vc Tryz.func33 rfl (by kernel_rfl) (by kernel_rfl) ?_
 rw [f_strings_Join] at h
 refine sg fun QQ1 hQ1 => ?_
 simp only [go_sem]
 refine seqQ_normal hQ1 ?_
 refine sg fun QQ2 hQ2 => ?_
 refine sg fun QQ3 hQ3 => ?_
 simp only [go_sem]
 refine seqQ_normal hQ3 ?_
 refine vc_block_gen ?_
 intro QQ4 hQ4
 refine sg fun QQ5 hQ5 => ?_
 simp only [go_sem]
 refine seqQ_normal hQ5 ?_
 refine vc_cond_of (b := ((List.length elems_0 : Int) == 0)) (by (simp only [go_sem]; done)) (fun hb_0 => ?_) (fun hb_0 => ?_)
 ·
  replace h := if_t h hb_0
  simp only [bool_to_prop] at hb_0
  refine sg fun QQ6 hQ6 => ?_
  simp only [go_sem]
  refine seqQ_normal hQ6 ?_
  refine vc_ret_of ?_
  refine blockQ_ret hQ4 ?_
  refine seqQ_ret hQ2 ?_
  simp only [go_sem]
  obtain rfl := Option.some.inj h
  refine retW_pure rfl ?_
  simp only [go_sem, Le]
 ·
  replace h := if_f h hb_0
  simp only [bool_to_prop] at hb_0
  refine sg fun QQ7 hQ7 => ?_
  simp only [go_sem]
  refine seqQ_normal hQ7 ?_
  refine vc_cond_of (b := ((List.length elems_0 : Int) == 1)) (by (simp only [go_sem]; done)) (fun hb_1 => ?_) (fun hb_1 => ?_)
  ·
   replace h := if_t h hb_1
   simp only [bool_to_prop] at hb_1
   refine sg fun QQ8 hQ8 => ?_
   obtain ⟨xv_0, exv_0, h⟩ := bindO_some h
   obtain ⟨fxv_0a, fxv_0b, fxv_0c⟩ := idx_spec exv_0
   simp only [Int.toNat_natCast, Int.reduceToNat] at fxv_0c
   simp only [go_sem, fxv_0a, fxv_0b, fxv_0c]
   refine And.intro (by omega) ?_
   refine seqQ_normal hQ8 ?_
   refine vc_ret_of ?_
   refine blockQ_ret hQ4 ?_
   refine seqQ_ret hQ2 ?_
   simp only [go_sem]
   obtain rfl := Option.some.inj h
   refine retW_pure rfl ?_
   simp only [go_sem, Le]
  ·
   replace h := if_f h hb_1
   simp only [bool_to_prop] at hb_1
   refine vc_skip_of ?_
   refine blockQ_normal hQ4 ?_
   refine seqQ_normal hQ2 ?_
   refine sg fun QQ9 hQ9 => ?_
   simp only [go_sem]
   refine seqQ_normal hQ9 ?_
   refine vc_join (by kernel_rfl) ?_
   refine seq_cut_gen (ι := Int) (fun (nv_0 : Int) => (⟨0, [(0, .sl 1 (enc elems_0)), (1, .v (.string ⟨⟨sep_0⟩⟩)), (5, .v (.int .i64 nv_0))], [], 0, 75⟩ : St)) (fun (nv_0 : Int) => f_strings_Join_J1 elems_0 sep_0 nv_0 = some r) ?_ ?_ --K[0,1];[]
   ·
    intro QQ35 hQ35
    refine sg fun QQ36 hQ36 => ?_
    simp only [go_sem]
    refine seqQ_normal hQ36 ?_
    refine vc_cond_of (b := (decide (0 < (List.length sep_0 : Int)))) (by (simp [go_sem]; done)) (fun hb_23 => ?_) (fun hb_23 => ?_)
    ·
     replace h := if_t h hb_23
     simp only [bool_to_prop] at hb_23
     refine vc_join (by kernel_rfl) ?_
     refine seq_cut_gen (ι := Unit) (fun (_ : Unit) => (⟨0, [(0, .sl 1 (enc elems_0)), (1, .v (.string ⟨⟨sep_0⟩⟩)), (5, .v (.int .i64 0))], [], 0, 75⟩ : St)) (fun (_ : Unit) => f_strings_Join_J6 elems_0 sep_0 = some r) ?_ ?_ --K[0,1,5];[]
     ·
      intro QQ37 hQ37
      refine sg fun QQ38 hQ38 => ?_
      obtain ⟨g_5, h⟩ := guardO_some h
      simp only [go_sem, g_5]
      refine seqQ_normal hQ38 ?_
      refine vc_cond_of (b := (decide ((IntKind.i64.wrap (Int.tdiv 9223372036854775807 (IntKind.i64.wrap ((List.length elems_0 : Int) - 1)))) ≤ (List.length sep_0 : Int)))) (by (simp [go_sem]; done)) (fun hb_25 => ?_) (fun hb_25 => ?_)
      ·
       replace h := if_t h hb_25
       simp only [bool_to_prop] at hb_25
       exact absurd h (by simp)
      ·
       replace h := if_f h hb_25
       simp only [bool_to_prop] at hb_25
       refine vc_skip_of ?_
       refine thenQ_normal hQ37 ?_
       refine ⟨(), [], ?_, h⟩
       simp only [go_sem, Le]
     ·
      rintro ⟨⟩ h
      try dsimp only at h
      rw [f_strings_Join_J6] at h
      simp only [go_sem]
      refine thenQ_normal hQ35 ?_
      refine ⟨IntKind.i64.wrap (0 + (IntKind.i64.wrap ((List.length sep_0 : Int) * (IntKind.i64.wrap ((List.length elems_0 : Int) - 1))))), [], ?_, h⟩
      simp only [go_sem, Le] <;> (repeat' apply And.intro) <;> ((try with_reducible refine TL_eq ?_); rfl)
    ·
     replace h := if_f h hb_23
     simp only [bool_to_prop] at hb_23
     refine vc_skip_of ?_
     refine thenQ_normal hQ35 ?_
     refine ⟨0, [], ?_, h⟩
     simp only [go_sem, Le]
   ·
    rintro nv_0 h
    try dsimp only at h
    rw [f_strings_Join_J1] at h
    refine vc_join (by kernel_rfl) ?_
    refine seq_cut_gen (ι := Int) (fun (nv_3 : Int) => (⟨0, [(0, .sl 1 (enc elems_0)), (1, .v (.string ⟨⟨sep_0⟩⟩)), (5, .v (.int .i64 nv_3))], [], 0, 75⟩ : St)) (fun (nv_3 : Int) => f_strings_Join_J2 elems_0 sep_0 nv_3 = some r) ?_ ?_ --K[0,1];[]
    ·
     intro QQ24 hQ24
     refine sg fun QQ25 hQ25 => ?_
     simp only [go_sem]
     refine seqQ_normal hQ25 ?_
     refine vc_block_gen ?_
     intro QQ26 hQ26
     refine vc_loop_of ?_
     refine loop_gen (ι := Nat × Int × Int) (fun ((_, nv_5, t41_3) : Nat × Int × Int) => (⟨0, [(0, .sl 1 (enc elems_0)), (1, .v (.string ⟨⟨sep_0⟩⟩)), (5, .v (.int .i64 nv_5)), (39, .sl 1 (enc elems_0)), (40, .v (.int .i64 (List.length elems_0 : Int))), (41, .v (.int .i64 t41_3))], [], 0, 75⟩ : St)) (fun ((n_, nv_5, t41_3) : Nat × Int × Int) => loopK (f_strings_Join_B5 elems_0 sep_0) n_ (nv_5, t41_3) = some r) (fun p => p.1) (rounds, nv_0, 0) [] ?_ h ?_ --K[0,1,39,40];[]
     · simp only [go_sem, Le]
     ·
      rintro ⟨n_5, nv_5, t41_3⟩ h QQ27 hQ27
      dsimp only at h
      replace h := loopK_some h
      obtain ⟨m_5, rfl, h⟩ := h
      rw [f_strings_Join_B5] at h
      refine sg fun QQ28 hQ28 => ?_
      simp only [go_sem]
      refine seqQ_normal hQ28 ?_
      refine sg fun QQ29 hQ29 => ?_
      refine vc_cond_of (b := (decide (t41_3 < (List.length elems_0 : Int)))) (by (simp only [go_sem]; done)) (fun hb_21 => ?_) (fun hb_21 => ?_)
      ·
       replace h := if_t h hb_21
       simp only [bool_to_prop] at hb_21
       refine vc_skip_of ?_
       refine seqQ_normal hQ29 ?_
       refine vc_join (by kernel_rfl) ?_
       refine seq_go_gen ?_
       intro QQ30 hQ30
       refine vc_block_gen ?_
       intro QQ31 hQ31
       refine sg fun QQ32 hQ32 => ?_
       obtain ⟨xv_13, exv_13, h⟩ := bindO_some h
       obtain ⟨fxv_13a, fxv_13b, fxv_13c⟩ := idx_spec exv_13
       simp only [go_sem, fxv_13a, fxv_13b, fxv_13c]
       refine And.intro (by omega) ?_
       refine seqQ_normal hQ32 ?_
       refine vc_join (by kernel_rfl) ?_
       refine seq_go_gen ?_
       intro QQ33 hQ33
       refine sg fun QQ34 hQ34 => ?_
       simp only [go_sem]
       refine seqQ_normal hQ34 ?_
       refine vc_cond_of (b := (decide ((IntKind.i64.wrap (9223372036854775807 - nv_5)) < (List.length xv_13.s : Int)))) (by (simp [go_sem]; done)) (fun hb_22 => ?_) (fun hb_22 => ?_)
       ·
        replace h := if_t h hb_22
        simp only [bool_to_prop] at hb_22
        exact absurd h (by simp)
       ·
        replace h := if_f h hb_22
        simp only [bool_to_prop] at hb_22
        refine vc_skip_of ?_
        refine seqQ_normal hQ33 ?_
        simp only [go_sem]
        refine blockQ_normal hQ31 ?_
        refine seqQ_normal hQ30 ?_
        simp only [go_sem]
        refine thenQ_normal hQ27 ?_
        refine ⟨(m_5, IntKind.i64.wrap (nv_5 + (List.length xv_13.s : Int)), IntKind.i64.wrap (t41_3 + 1)), [], ?_, h, Nat.lt_succ_self _⟩
        simp only [go_sem, Le] <;> (repeat' apply And.intro) <;> ((try with_reducible refine TL_eq ?_); rfl)
      ·
       replace h := if_f h hb_21
       simp only [bool_to_prop] at hb_21
       refine vc_exit_of ?_
       refine seqQ_exit hQ29 ?_
       refine thenQ_exit hQ27 ?_
       refine blockQ_exit hQ26 ?_
       refine thenQ_normal hQ24 ?_
       refine ⟨nv_5, [], ?_, h⟩
       simp only [go_sem, Le]
    ·
     rintro nv_3 h
     try dsimp only at h
     rw [f_strings_Join_J2] at h
     refine sg fun QQ10 hQ10 => ?_
     simp only [go_sem]
     refine seqQ_normal hQ10 ?_
     refine sg fun QQ11 hQ11 => ?_
     obtain ⟨v_0, ev_0, h⟩ := bindO_some h
     simp only [go_sem]
     refine callD [0] (f_strings_Builder_Grow_T49_p0_det ([] : List UInt8) nv_3 v_0 ev_0) (by simp) rfl ⟨rfl, trivial⟩ rfl rfl rfl rfl ?_
     simp only [go_sem]
     refine seqQ_normal hQ11 ?_
     refine sg fun QQ12 hQ12 => ?_
     obtain ⟨xv_4, exv_4, h⟩ := bindO_some h
     obtain ⟨fxv_4a, fxv_4b, fxv_4c⟩ := idx_spec exv_4
     simp only [Int.toNat_natCast, Int.reduceToNat] at fxv_4c
     obtain ⟨v_1, ev_1, h⟩ := bindO_some h
     simp only [go_sem, fxv_4a, fxv_4b, fxv_4c]
     refine And.intro (by omega) ?_
     refine callD [0] (f_strings_Builder_WriteString_T49_p0_det (v_0 : List UInt8) xv_4.s v_1 ev_1) (by simp) rfl ⟨rfl, trivial⟩ rfl rfl rfl rfl ?_
     simp only [go_sem]
     refine seqQ_normal hQ12 ?_
     refine vc_join (by kernel_rfl) ?_
     refine seq_cut_gen (ι := (List UInt8)) (fun (b_2 : (List UInt8)) => (⟨0, [(8, .ptr 0 0)], [(0, .con (bldK 49 5 b_2) [])], 1, 75⟩ : St)) (fun (b_2 : (List UInt8)) => f_strings_Join_J3 b_2 = some r) ?_ ?_ --K[8];[]
     ·
      intro QQ14 hQ14
      refine sg fun QQ15 hQ15 => ?_
      obtain ⟨g_3, h⟩ := guardO_some h
      simp only [go_sem, g_3]
      refine seqQ_normal hQ15 ?_
      refine vc_block_gen ?_
      intro QQ16 hQ16
      refine vc_loop_of ?_
      refine loop_gen (ι := Nat × Int × (List UInt8)) (fun ((_, t65_3, b_4) : Nat × Int × (List UInt8)) => (⟨0, [(1, .v (.string ⟨⟨sep_0⟩⟩)), (8, .ptr 0 0), (63, .sl 1 (enc (List.drop (Int.toNat 1) (List.take (List.length elems_0) elems_0)))), (64, .v (.int .i64 (List.length (List.drop (Int.toNat 1) (List.take (List.length elems_0) elems_0)) : Int))), (65, .v (.int .i64 t65_3))], [(0, .con (bldK 49 5 b_4) [])], 1, 75⟩ : St)) (fun ((n_, t65_3, b_4) : Nat × Int × (List UInt8)) => loopK (f_strings_Join_B4 elems_0 sep_0) n_ (t65_3, b_4) = some r) (fun p => p.1) (rounds, 0, v_1.2.2) [some 0] ?_ h ?_ --K[1,8,63,64];[]
      · simp only [go_sem, Le]
      ·
       rintro ⟨n_4, t65_3, b_4⟩ h QQ17 hQ17
       dsimp only at h
       replace h := loopK_some h
       obtain ⟨m_4, rfl, h⟩ := h
       rw [f_strings_Join_B4] at h
       refine sg fun QQ18 hQ18 => ?_
       simp only [go_sem]
       refine seqQ_normal hQ18 ?_
       refine sg fun QQ19 hQ19 => ?_
       refine vc_cond_of (b := (decide (t65_3 < (List.length (List.drop (Int.toNat 1) (List.take (List.length elems_0) elems_0)) : Int)))) (by (simp only [go_sem]; done)) (fun hb_16 => ?_) (fun hb_16 => ?_)
       ·
        replace h := if_t h hb_16
        simp only [bool_to_prop] at hb_16
        refine vc_skip_of ?_
        refine seqQ_normal hQ19 ?_
        refine sg fun QQ20 hQ20 => ?_
        refine vc_block_gen ?_
        intro QQ21 hQ21
        refine sg fun QQ22 hQ22 => ?_
        obtain ⟨xv_10, exv_10, h⟩ := bindO_some h
        obtain ⟨fxv_10a, fxv_10b, fxv_10c⟩ := idx_spec exv_10
        simp only [Int.toNat_natCast, Int.reduceToNat] at fxv_10c
        simp only [go_sem, fxv_10a, fxv_10b, fxv_10c]
        refine And.intro (by first | assumption | (intros; simp_all; done)) ?_
        refine And.intro (by first | assumption | (intros; simp_all; done)) ?_
        refine seqQ_normal hQ22 ?_
        refine sg fun QQ23 hQ23 => ?_
        obtain ⟨v_13, ev_13, h⟩ := bindO_some h
        simp only [go_sem]
        refine callD [0] (f_strings_Builder_WriteString_T49_p0_det (b_4 : List UInt8) sep_0 v_13 ev_13) (by simp) rfl ⟨rfl, trivial⟩ rfl rfl rfl rfl ?_
        simp only [go_sem]
        refine seqQ_normal hQ23 ?_
        obtain ⟨v_14, ev_14, h⟩ := bindO_some h
        simp only [go_sem]
        refine callD [0] (f_strings_Builder_WriteString_T49_p0_det (v_13.2.2 : List UInt8) xv_10.s v_14 ev_14) (by simp) rfl ⟨rfl, trivial⟩ rfl rfl rfl rfl ?_
        simp only [go_sem]
        refine blockQ_normal hQ21 ?_
        refine seqQ_normal hQ20 ?_
        simp only [go_sem]
        refine thenQ_normal hQ17 ?_
        refine ⟨(m_4, IntKind.i64.wrap (t65_3 + 1), v_14.2.2), [some 0], ?_, h, Nat.lt_succ_self _⟩
        simp only [go_sem, Le]
       ·
        replace h := if_f h hb_16
        simp only [bool_to_prop] at hb_16
        refine vc_exit_of ?_
        refine seqQ_exit hQ19 ?_
        refine thenQ_exit hQ17 ?_
        refine blockQ_exit hQ16 ?_
        refine thenQ_normal hQ14 ?_
        refine ⟨b_4, [some 0], ?_, h⟩
        simp only [go_sem, Le]
     ·
      rintro b_2 h
      try dsimp only at h
      rw [f_strings_Join_J3] at h
      refine sg fun QQ13 hQ13 => ?_
      obtain ⟨v_8, ev_8, h⟩ := bindO_some h
      simp only [go_sem]
      refine callD [0] (f_strings_Builder_String_T49_p0_det (b_2 : List UInt8) v_8 ev_8) (by simp) rfl ⟨rfl, trivial⟩ rfl rfl rfl rfl ?_
      simp only [go_sem]
      refine seqQ_normal hQ13 ?_
      refine vc_ret_of ?_
      simp only [go_sem]
      obtain rfl := Option.some.inj h
      refine retW_pure rfl ?_
      simp only [go_sem, Le]

theorem f_strings_Builder_WriteString_T51_p0_ccf (b : Nat) (w : World) (h0 : w.cell? ⟨b, 0, none⟩ = some (.pointer none)) (hsh : w.shape? b = some (51, 3)) (hfz : w.frozen? ⟨b, 0, none⟩ = false) : Calls Tryz.prog 52 #[.pointer (some ⟨b, 0, none⟩)] w fun e w' => e = .returned (.tuple #[]) ∧ w' = w.setCell ⟨b, 0, none⟩ (.pointer (some ⟨b, 0, none⟩)) := by
 obtain ⟨j, hj, hjs⟩ := Option.map_eq_some_iff.1 (show (Tryz.prog.info? 49).map (·.size) = some 2 by kernel_rfl)
 go_enter Tryz.func52, Tryz.ntmps52
 go_wp2
 rw [Lib.run_to_unsafe w ⟨b, 0, none⟩ Tryz.underlying47 Tryz.underlying112 hj (by rw [hjs]; decide) hsh (Nat.zero_lt_succ 2)]
 simp only [Result.andThen]
 rw [Oper.upon_value]
 go_wp2
 rw [run_callFunc_extern Tryz.func68 (by kernel_rfl) (by kernel_rfl) (by kernel_rfl) (e := Extern.AbiNoEscape.same) (by kernel_rfl)]
 rw [Lib.run_noEscape]
 simp only [Result.andThen]
 rw [Oper.upon_value]
 go_wp2
 rw [Lib.run_from_unsafe w ⟨b, 0, none⟩ Tryz.underlying112 Tryz.underlying47 hj hsh (by kernel_rfl)]
 simp only [Result.andThen]
 rw [Oper.upon_value]
 go_wp2
 go_end0
 exact ⟨rfl, rfl⟩
theorem f_strings_Builder_WriteString_T51_p0_ccu (b : Nat) (w : World) (h0 : w.cell? ⟨b, 0, none⟩ = some (.pointer (some ⟨b, 0, none⟩))) : Calls Tryz.prog 52 #[.pointer (some ⟨b, 0, none⟩)] w fun e w' => e = .returned (.tuple #[]) ∧ w' = w := by
 obtain ⟨j, hj, _⟩ := Option.map_eq_some_iff.1 (show (Tryz.prog.info? 49).map (·.size) = some 2 by kernel_rfl)
 go_enter Tryz.func52, Tryz.ntmps52
 go_wp2
 rw [Lib.run_neq_ptr_same w _ Tryz.underlying47 hj]
 go_wp2
 go_end0
 exact ⟨rfl, rfl⟩
theorem f_strings_Builder_WriteString_T51_p0_wr (b : Nat) (us : List Value) (v : Value) (ao : Option Addr) (n cap : Nat) (s : ByteArray) (w W w2 : World) (hcc : Calls Tryz.prog 52 #[.pointer (some ⟨b, 0, none⟩)] w fun e w' => e = .returned (.tuple #[]) ∧ w' = W) (hb : W.heap[b]? = some (.cells ⟨.pointer (some ⟨b, 0, none⟩) :: v :: us⟩ 51 (0, 0)))
  (happ : ∀ ty, (Builtin.append_ #[36, 9] ty #[v, .string s]).run Tryz.prog W = .ok (.slice ao n cap) w2) (hb2 : w2.heap[b]? = some (.cells ⟨.pointer (some ⟨b, 0, none⟩) :: v :: us⟩ 51 (0, 0))) :
  Calls Tryz.prog 32 #[.pointer (some ⟨b, 0, none⟩), .string s] w fun e w' => e = .returned (.tuple #[.int .i64 s.size, .nilIface]) ∧ w' = w2.setCell ⟨b, 1, none⟩ (.slice ao n cap) := by
 have c1 : W.cell? ⟨b, 1, none⟩ = some v := by rw [Lib.cell_of_heap hb]; rfl
 have d1 : w2.cell? ⟨b, 1, none⟩ = some v := by rw [Lib.cell_of_heap hb2]; rfl
 have f1 : w2.frozen? ⟨b, 1, none⟩ = false := Lib.frozen_of_heap hb2 1
 go_enter Tryz.func32, Tryz.ntmps32
 go_wp2_with (go_at_call 52; refine hcc.mono ?_)
 rintro e w1 ⟨rfl, rfl⟩
 go_wp2_with (at_builtin; refine wpList_app1 rfl _ _ 36 9 rfl rfl rfl (happ _) ?_)
 go_wp2
 go_ret2
 exact ⟨rfl, rfl⟩
def f_strings_Builder_WriteString_T51_p0 (b_0 : List UInt8 × Bool) (s_0 : List UInt8) : Option (Int × Bool × (List UInt8 × Bool)) := bindO (bwriteF b_0.1 s_0) fun q => some (q.1, q.2.1, (q.2.2, b_0.2))
theorem f_strings_Builder_WriteString_T51_p0_det (b_0 : List UInt8 × Bool) (s_0 : List UInt8) (r : Int × Bool × (List UInt8 × Bool)) (h : f_strings_Builder_WriteString_T51_p0 b_0 s_0 = some r) : DetS Tryz.prog 32 [.ptr 0 0, .v (.string ⟨⟨s_0⟩⟩)] [(0, .con (bldK 51 5 b_0.1) [.v (.bool b_0.2)])] 1 (.tup [.v (.int .i64 r.1), .erb r.2.1]) [(0, .con (bldK 51 5 r.2.2.1) [.v (.bool r.2.2.2)])] 1 := by
 obtain ⟨q, h1, h⟩ := bindO_some h
 obtain rfl := Option.some.inj h
 exact bwrite_det rfl rfl (by kernel_rfl) Tryz.underlying36 Tryz.underlying9 (by kernel_rfl) f_strings_Builder_WriteString_T51_p0_ccf f_strings_Builder_WriteString_T51_p0_ccu f_strings_Builder_WriteString_T51_p0_wr h1

def f_text_shower_say_p0 (s_0 : List UInt8 × Bool) (words_0 : List GStr) : Option (List UInt8 × Bool) :=
 bindO (f_strings_Join words_0 ([32] : List UInt8)) (fun (v_0 : List UInt8) =>
 guardO (List.length v_0 + List.length ([10] : List UInt8) ≤ 9223372036854775807) (
 bindO (f_strings_Builder_WriteString_T51_p0 ((s_0.1 : List UInt8), s_0.2) (v_0 ++ ([10] : List UInt8))) (fun (v_1 : Int × Bool × (List UInt8 × Bool)) =>
 some ((v_1.2.2.1 : List UInt8), v_1.2.2.2))))
theorem f_text_shower_say_p0_det (s_0 : List UInt8 × Bool) (words_0 : List GStr)  (r : List UInt8 × Bool) (h : f_text_shower_say_p0 s_0 words_0 = some r) : DetS Tryz.prog 12 [.ptr 0 0, .sl 1 (enc words_0)] [(0, .con (bldK 51 5 s_0.1) [.v (.bool s_0.2)])] 1 (.tup []) [(0, .con (bldK 51 5 r.1) [.v (.bool r.2)])] 1 := by
 unfold DetS
 refine Spec.of_vc Tryz.func12 rfl (by kernel_rfl) (by kernel_rfl) ?_
 rw [f_text_shower_say_p0] at h
 refine vc_draw ?_
 refine drawM_tail 6 [0, 1, 3, 0, 8, 24, 63] mixed (by kernel_rfl) (of_decide_eq_true (by kernel_rfl)) (by kernel_rfl) ?_
 obtain ⟨v_0, ev_0, h⟩ := bindO_some h
 simp only [go_sem]
 refine callq (fun _ => (f_strings_Join_ok words_0 ([32] : List UInt8) v_0 ev_0)) (by rfl) (by rfl) ?_
 obtain ⟨g_0, h⟩ := guardO_some h
 obtain ⟨v_1, ev_1, h⟩ := bindO_some h
 simp only [go_sem, g_0]
 refine And.intro (by (intros; simp_all; done)) ?_
 refine callD [0] (f_strings_Builder_WriteString_T51_p0_det ((s_0.1 : List UInt8), s_0.2) (v_0 ++ ([10] : List UInt8)) v_1 ev_1) (by simp) rfl ⟨rfl, trivial⟩ rfl rfl rfl rfl ?_
 simp only [go_sem]
 obtain rfl := Option.some.inj h
 refine retW_det [] ?_
 simp only [go_sem, Le]

def f_text_shower_name_p0 (s_0 : List UInt8 × Bool) (names_0 : List GStr) (nv_0 : Int) : Option ((List UInt8) × (List UInt8 × Bool)) :=
 (if ((decide (nv_0 < 1)) || (decide ((List.length names_0 : Int) < nv_0))) = true then some (([] : List UInt8), ((s_0.1 : List UInt8), true))
 else bindO (idx names_0 (IntKind.i64.wrap (nv_0 - 1))) (fun (xv_0 : GStr) =>
 some (xv_0.s, ((s_0.1 : List UInt8), s_0.2))))
theorem f_text_shower_name_p0_det (s_0 : List UInt8 × Bool) (names_0 : List GStr) (nv_0 : Int)  (r : (List UInt8) × (List UInt8 × Bool)) (h : f_text_shower_name_p0 s_0 names_0 nv_0 = some r) : DetS Tryz.prog 14 [.ptr 0 0, .sl 1 (enc names_0), .v (.int .i64 nv_0)] [(0, .con (bldK 51 5 s_0.1) [.v (.bool s_0.2)])] 1 (.v (.string ⟨⟨r.1⟩⟩)) [(0, .con (bldK 51 5 r.2.1) [.v (.bool r.2.2)])] 1 := by
 unfold DetS
 refine Spec.of_vc Tryz.func14 rfl (by kernel_rfl) (by kernel_rfl) ?_
 rw [f_text_shower_name_p0] at h
 refine sg fun QQ1 hQ1 => ?_
 simp only [go_sem]
 refine seqQ_normal hQ1 ?_
 refine sg fun QQ2 hQ2 => ?_
 refine sg fun QQ3 hQ3 => ?_
 simp only [go_sem]
 refine seqQ_normal hQ3 ?_
 refine vc_cond_of (b := ((decide (nv_0 < 1)) || (decide ((List.length names_0 : Int) < nv_0)))) (by (simp only [go_sem]; done)) (fun hb_0 => ?_) (fun hb_0 => ?_)
 ·
  replace h := if_t h hb_0
  simp only [bool_to_prop] at hb_0
  refine sg fun QQ4 hQ4 => ?_
  simp only [go_sem]
  refine seqQ_normal hQ4 ?_
  refine sg fun QQ5 hQ5 => ?_
  simp only [go_sem]
  refine seqQ_normal hQ5 ?_
  refine vc_ret_of ?_
  refine seqQ_ret hQ2 ?_
  simp only [go_sem]
  obtain rfl := Option.some.inj h
  refine retW_det [] ?_
  simp only [go_sem, Le]
 ·
  replace h := if_f h hb_0
  simp only [bool_to_prop] at hb_0
  refine vc_skip_of ?_
  refine seqQ_normal hQ2 ?_
  refine sg fun QQ6 hQ6 => ?_
  obtain ⟨xv_0, exv_0, h⟩ := bindO_some h
  obtain ⟨fxv_0a, fxv_0b, fxv_0c⟩ := idx_spec exv_0
  simp only [go_sem, fxv_0a, fxv_0b, fxv_0c]
  refine And.intro (by omega) ?_
  refine seqQ_normal hQ6 ?_
  refine vc_ret_of ?_
  simp only [go_sem]
  obtain rfl := Option.some.inj h
  refine retW_det [] ?_
  simp only [go_sem, Le]

def lay35_ren : Go.Shelf.Ren := ⟨fun | 157 => 35 | 229 => 24 | 199 => 55 | 261 => 74 | 311 => 89 | 312 => 90 | n => n, fun | 9 => 9 | 31 => 55 | 3 => 3 | 5 => 5 | 4 => 4 | 119 => 99 | 0 => 0 | 40 => 66 | 152 => 87 | 21 => 21 | 154 => 89 | 51 => 119 | 141 => 121 | 196 => 138 | 193 => 135 | 198 => 141 | 49 => 139 | 194 => 136 | 201 => 144 | 226 => 148 | 46 => 111 | 227 => 149 | n => n, fun | 0 => 0 | 6 => 1 | n => n⟩
theorem lay35 : Go.Proofs.Lays.n157 Tryz.prog lay35_ren := {
 mixed := by kernel_rfl
 f157 := Tryz.func35.trans (congrArg some (by kernel_rfl))
 f199 := Tryz.func55.trans (congrArg some (by kernel_rfl))
 f229 := Tryz.func24.trans (congrArg some (by kernel_rfl))
 f261 := Tryz.func74.trans (congrArg some (by kernel_rfl))
 f311 := Tryz.func89.trans (congrArg some (by kernel_rfl))
 f312 := Tryz.func90.trans (congrArg some (by kernel_rfl))
 t0 := Tryz.underlying0
 a0 := Tryz.isAgg0
 z0 := Tryz.sizeOf0
 v0 := Tryz.zeroValue0
 t3 := Tryz.underlying3
 a3 := Tryz.isAgg3
 z3 := Tryz.sizeOf3
 v3 := Tryz.zeroValue3
 t4 := Tryz.underlying4
 a4 := Tryz.isAgg4
 z4 := Tryz.sizeOf4
 v4 := Tryz.zeroValue4
 t5 := Tryz.underlying5
 a5 := Tryz.isAgg5
 z5 := Tryz.sizeOf5
 v5 := Tryz.zeroValue5
 t9 := Tryz.underlying9
 a9 := Tryz.isAgg9
 z9 := Tryz.sizeOf9
 v9 := Tryz.zeroValue9
 t21 := Tryz.underlying21
 a21 := Tryz.isAgg21
 z21 := Tryz.sizeOf21
 v21 := Tryz.zeroValue21
 t31 := Tryz.underlying55
 a31 := Tryz.isAgg55
 z31 := Tryz.sizeOf55
 v31 := Tryz.zeroValue55
 t40 := Tryz.underlying66
 a40 := Tryz.isAgg66
 z40 := Tryz.sizeOf66
 v40 := Tryz.zeroValue66
 t46 := Tryz.underlying111
 a46 := Tryz.isAgg111
 z46 := Tryz.sizeOf111
 v46 := Tryz.zeroValue111
 t49 := Tryz.underlying139
 a49 := Tryz.isAgg139
 z49 := Tryz.sizeOf139
 v49 := Tryz.zeroValue139
 t51 := Tryz.underlying119
 a51 := Tryz.isAgg119
 z51 := Tryz.sizeOf119
 v51 := Tryz.zeroValue119
 t119 := Tryz.underlying99
 a119 := Tryz.isAgg99
 z119 := Tryz.sizeOf99
 t141 := Tryz.underlying121
 a141 := Tryz.isAgg121
 z141 := Tryz.sizeOf121
 v141 := Tryz.zeroValue121
 t152 := Tryz.underlying87
 a152 := Tryz.isAgg87
 z152 := Tryz.sizeOf87
 v152 := Tryz.zeroValue87
 t154 := Tryz.underlying89
 a154 := Tryz.isAgg89
 z154 := Tryz.sizeOf89
 v154 := Tryz.zeroValue89
 t193 := Tryz.underlying135
 a193 := Tryz.isAgg135
 z193 := Tryz.sizeOf135
 v193 := Tryz.zeroValue135
 t194 := Tryz.underlying136
 a194 := Tryz.isAgg136
 z194 := Tryz.sizeOf136
 v194 := Tryz.zeroValue136
 t196 := Tryz.underlying138
 a196 := Tryz.isAgg138
 z196 := Tryz.sizeOf138
 v196 := Tryz.zeroValue138
 t198 := Tryz.underlying141
 a198 := Tryz.isAgg141
 z198 := Tryz.sizeOf141
 v198 := Tryz.zeroValue141
 t201 := Tryz.underlying144
 a201 := Tryz.isAgg144
 z201 := Tryz.sizeOf144
 v201 := Tryz.zeroValue144
 t226 := Tryz.underlying148
 a226 := Tryz.isAgg148
 z226 := Tryz.sizeOf148
 v226 := Tryz.zeroValue148
 t227 := Tryz.underlying149
 a227 := Tryz.isAgg149
 z227 := Tryz.sizeOf149
 v227 := Tryz.zeroValue149
 g0 := by kernel_rfl
 g6 := by kernel_rfl }
def f_strings_Fields (s_0 : List UInt8) : Option (List GStr) := wordsF s_0
theorem f_strings_Fields_ok (s_0 : List UInt8) (r : List GStr) (h : f_strings_Fields s_0 = some r) : PureS Tryz.prog 35 [.v (.string ⟨⟨s_0⟩⟩)] 0 (.sl 1 (enc r)) :=
 words_pure lay35 (by kernel_rfl) (by kernel_rfl) (by kernel_rfl) h

def f_text_kinds  : Option (List GStr) :=
 bindO (f_strings_Fields ([105, 110, 112, 117, 116, 32, 112, 114, 111, 103, 32, 115, 104, 105, 102, 116, 32, 107, 101, 101, 112, 32, 99, 111, 110, 99, 97, 116, 32, 115, 117, 109, 32, 99, 111, 117, 110, 116, 32, 100, 105, 115, 116, 105, 110, 99, 116, 32, 106, 111, 105, 110, 32, 101, 110, 116, 101, 114, 32, 108, 101, 97, 118, 101, 32, 98, 97, 99, 107, 32, 105, 110, 115, 112, 101, 99, 116, 32, 116, 111, 116, 97, 108, 32, 115, 105, 110, 107] : List UInt8)) (fun (v_0 : List GStr) =>
 some v_0)
theorem f_text_kinds_ok   (r : List GStr) (h : f_text_kinds  = some r) : PureS Tryz.prog 15 [] 0 (.sl 1 (enc r)) := by
 unfold PureS
 refine Spec.of_vc Tryz.func15 rfl (by kernel_rfl) (by kernel_rfl) ?_
 rw [f_text_kinds] at h
 refine sg fun QQ1 hQ1 => ?_
 simp only [go_sem]
 refine seqQ_normal hQ1 ?_
 refine sg fun QQ2 hQ2 => ?_
 obtain ⟨v_0, ev_0, h⟩ := bindO_some h
 simp only [go_sem]
 refine call0 (f_strings_Fields_ok ([105, 110, 112, 117, 116, 32, 112, 114, 111, 103, 32, 115, 104, 105, 102, 116, 32, 107, 101, 101, 112, 32, 99, 111, 110, 99, 97, 116, 32, 115, 117, 109, 32, 99, 111, 117, 110, 116, 32, 100, 105, 115, 116, 105, 110, 99, 116, 32, 106, 111, 105, 110, 32, 101, 110, 116, 101, 114, 32, 108, 101, 97, 118, 101, 32, 98, 97, 99, 107, 32, 105, 110, 115, 112, 101, 99, 116, 32, 116, 111, 116, 97, 108, 32, 115, 105, 110, 107] : List UInt8) v_0 ev_0) (by rfl) (by rfl) ?_
 simp only [go_sem]
 refine seqQ_normal hQ2 ?_
 refine vc_ret_of ?_
 simp only [go_sem]
 obtain rfl := Option.some.inj h
 refine retW_pure rfl ?_
 simp only [go_sem, Le]

def f_text_codes  : Option (List GStr) :=
 bindO (f_strings_Fields ([112, 117, 115, 104, 32, 107, 101, 121, 32, 118, 97, 108, 32, 97, 100, 100, 32, 115, 117, 98, 32, 109, 117, 108, 32, 100, 105, 118, 32, 109, 111, 100, 32, 108, 101, 115, 115, 32, 115, 97, 109, 101, 32, 100, 117, 112, 32, 115, 119, 97, 112, 32, 100, 114, 111, 112, 32, 106, 117, 109, 112, 32, 122, 101, 114, 111, 32, 101, 109, 105, 116] : List UInt8)) (fun (v_0 : List GStr) =>
 some v_0)
theorem f_text_codes_ok   (r : List GStr) (h : f_text_codes  = some r) : PureS Tryz.prog 17 [] 0 (.sl 1 (enc r)) := by
 unfold PureS
 refine Spec.of_vc Tryz.func17 rfl (by kernel_rfl) (by kernel_rfl) ?_
 rw [f_text_codes] at h
 refine sg fun QQ1 hQ1 => ?_
 simp only [go_sem]
 refine seqQ_normal hQ1 ?_
 refine sg fun QQ2 hQ2 => ?_
 obtain ⟨v_0, ev_0, h⟩ := bindO_some h
 simp only [go_sem]
 refine call0 (f_strings_Fields_ok ([112, 117, 115, 104, 32, 107, 101, 121, 32, 118, 97, 108, 32, 97, 100, 100, 32, 115, 117, 98, 32, 109, 117, 108, 32, 100, 105, 118, 32, 109, 111, 100, 32, 108, 101, 115, 115, 32, 115, 97, 109, 101, 32, 100, 117, 112, 32, 115, 119, 97, 112, 32, 100, 114, 111, 112, 32, 106, 117, 109, 112, 32, 122, 101, 114, 111, 32, 101, 109, 105, 116] : List UInt8) v_0 ev_0) (by rfl) (by rfl) ?_
 simp only [go_sem]
 refine seqQ_normal hQ2 ?_
 refine vc_ret_of ?_
 simp only [go_sem]
 obtain rfl := Option.some.inj h
 refine retW_pure rfl ?_
 simp only [go_sem, Le]

def f_wire_Uint_B1  (rec_1 : Int × (List UInt8) → Option (List UInt8)) : Int × (List UInt8) → Option (List UInt8) :=
 fun (nv_2, a_1) =>
 (if (decide (128 ≤ nv_2)) = true then guardO (0 ≤ (orI .u8 (IntKind.u8.wrap nv_2) 128) ∧ (orI .u8 (IntKind.u8.wrap nv_2) 128) < 256) (
 guardO ((List.length a_1 + List.length ([toB (orI .u8 (IntKind.u8.wrap nv_2) 128)] : List UInt8)) * 1 ≤ 140737488355328) (
 rec_1 (shrI .u64 nv_2 7, (a_1 ++ ([toB (orI .u8 (IntKind.u8.wrap nv_2) 128)] : List UInt8)))))
 else guardO (0 ≤ (IntKind.u8.wrap nv_2) ∧ (IntKind.u8.wrap nv_2) < 256) (
 guardO ((List.length a_1 + List.length ([toB (IntKind.u8.wrap nv_2)] : List UInt8)) * 1 ≤ 140737488355328) (
 some (a_1 ++ ([toB (IntKind.u8.wrap nv_2)] : List UInt8)))))
def f_wire_Uint (b_0 : List UInt8) (nv_0 : Int) : Option (List UInt8) :=
 guardO ((List.length ([] : List UInt8) + List.length b_0) * 1 ≤ 140737488355328) (
 loopK (f_wire_Uint_B1) rounds (nv_0, (([] : List UInt8) ++ b_0)))
theorem f_wire_Uint_det (b_0 : List UInt8) (nv_0 : Int)  (r : List UInt8) (h : f_wire_Uint b_0 nv_0 = some r) : DetS Tryz.prog 50 [.sl 1 (enc b_0), .v (.int .u64 nv_0)] [] 0 (.osl 0 1 (0) (List.length r)) [(0, .arr 1 (enc r))] 1 := by
 unfold DetS
 refine Spec.of_vc Tryz.func50 rfl (by kernel_rfl) (by kernel_rfl) ?_
 rw [f_wire_Uint] at h
 refine sg fun QQ1 hQ1 => ?_
 simp only [go_sem]
 refine seqQ_normal hQ1 ?_
 refine sg fun QQ2 hQ2 => ?_
 obtain ⟨g_0, h⟩ := guardO_some h
 simp only [List.length_cons, List.length_nil, Nat.zero_add, List.length_append] at g_0
 have rf_0 : enc ([] : List UInt8) ++ enc b_0 = enc (([] : List UInt8) ++ b_0) := by exact (enc_app ([] : List UInt8) b_0).symm
 simp only [go_sem, g_0, rf_0]
 refine seqQ_normal hQ2 ?_
 refine vc_join (by kernel_rfl) ?_
 refine seq_go_gen ?_
 intro QQ3 hQ3
 refine vc_block_gen ?_
 intro QQ4 hQ4
 refine vc_loop_of ?_
 refine loop_gen (ι := Nat × Int × (List UInt8)) (fun ((_, nv_2, a_1) : Nat × Int × (List UInt8)) => (⟨0, [(1, .v (.int .u64 nv_2)), (5, .osl 0 1 (0) (List.length a_1))], [(0, .arr 1 (enc a_1))], 1, 24⟩ : St)) (fun ((n_, nv_2, a_1) : Nat × Int × (List UInt8)) => loopK (f_wire_Uint_B1) n_ (nv_2, a_1) = some r) (fun p => p.1) (rounds, nv_0, (([] : List UInt8) ++ b_0)) [some 1] ?_ h ?_ --K[];[]
 · simp only [go_sem, Le]
 ·
  rintro ⟨n_1, nv_2, a_1⟩ h QQ5 hQ5
  dsimp only at h
  replace h := loopK_some h
  obtain ⟨m_1, rfl, h⟩ := h
  rw [f_wire_Uint_B1] at h
  refine sg fun QQ6 hQ6 => ?_
  refine sg fun QQ7 hQ7 => ?_
  simp only [go_sem]
  refine seqQ_normal hQ7 ?_
  refine vc_cond_of (b := (decide (128 ≤ nv_2))) (by (simp only [go_sem]; done)) (fun hb_2 => ?_) (fun hb_2 => ?_)
  ·
   replace h := if_t h hb_2
   simp only [bool_to_prop] at hb_2
   refine vc_skip_of ?_
   refine seqQ_normal hQ6 ?_
   refine vc_block_gen ?_
   intro QQ8 hQ8
   refine sg fun QQ9 hQ9 => ?_
   obtain ⟨g_9, h⟩ := guardO_some h
   have rf_9 : [[.v (.int .u8 (orI .u8 (IntKind.u8.wrap nv_2) 128))]] = enc ([toB (orI .u8 (IntKind.u8.wrap nv_2) 128)] : List UInt8) := by simp [enc, row_int, row_bool, row_u8, row_list, sz_int, sz_bool, sz_u8, sz_list, toB_nat _ g_9]
   obtain ⟨g_10, h⟩ := guardO_some h
   simp only [List.length_cons, List.length_nil, Nat.zero_add, List.length_append] at g_10
   have rf_10 : enc a_1 ++ [[.v (.int .u8 (orI .u8 (IntKind.u8.wrap nv_2) 128))]] = enc (a_1 ++ ([toB (orI .u8 (IntKind.u8.wrap nv_2) 128)] : List UInt8)) := by (rw [rf_9]; exact (enc_app a_1 ([toB (orI .u8 (IntKind.u8.wrap nv_2) 128)] : List UInt8)).symm)
   simp only [go_sem, g_9, g_10, rf_10]
   simp only [rf_9]
   refine seqQ_normal hQ9 ?_
   simp only [go_sem]
   refine blockQ_normal hQ8 ?_
   refine thenQ_normal hQ5 ?_
   refine ⟨(m_1, shrI .u64 nv_2 7, (a_1 ++ ([toB (orI .u8 (IntKind.u8.wrap nv_2) 128)] : List UInt8))), [some 2], ?_, h, Nat.lt_succ_self _⟩
   simp only [go_sem, Le] <;> (repeat' apply And.intro) <;> ((try with_reducible refine TL_eq ?_); (simp [go_sem]; done))
  ·
   replace h := if_f h hb_2
   simp only [bool_to_prop] at hb_2
   refine vc_exit_of ?_
   refine seqQ_exit hQ6 ?_
   refine thenQ_exit hQ5 ?_
   refine blockQ_exit hQ4 ?_
   refine seqQ_normal hQ3 ?_
   refine sg fun QQ10 hQ10 => ?_
   obtain ⟨g_11, h⟩ := guardO_some h
   have rf_11 : [[.v (.int .u8 (IntKind.u8.wrap nv_2))]] = enc ([toB (IntKind.u8.wrap nv_2)] : List UInt8) := by simp [enc, row_int, row_bool, row_u8, row_list, sz_int, sz_bool, sz_u8, sz_list, toB_nat _ g_11]
   obtain ⟨g_12, h⟩ := guardO_some h
   simp only [List.length_cons, List.length_nil, Nat.zero_add, List.length_append] at g_12
   have rf_12 : enc a_1 ++ [[.v (.int .u8 (IntKind.u8.wrap nv_2))]] = enc (a_1 ++ ([toB (IntKind.u8.wrap nv_2)] : List UInt8)) := by (rw [rf_11]; exact (enc_app a_1 ([toB (IntKind.u8.wrap nv_2)] : List UInt8)).symm)
   simp only [go_sem, g_11, g_12, rf_12]
   simp only [rf_11]
   refine seqQ_normal hQ10 ?_
   refine vc_ret_of ?_
   simp only [go_sem]
   obtain rfl := Option.some.inj h
   refine retW_det [some 2] ?_
   simp only [go_sem, Le] <;> (repeat' apply And.intro) <;> ((try with_reducible refine TL_eq ?_); (simp [go_sem]; done))
def f_wire_Int (b_0 : List UInt8) (nv_0 : Int) : Option (List UInt8) :=
 bindO (f_wire_Uint b_0 (xorI .u64 (shlI .u64 (IntKind.u64.wrap nv_0) 1) (IntKind.u64.wrap (shrI .i64 nv_0 63)))) (fun (v_0 : List UInt8) =>
 some v_0)
theorem f_wire_Int_det (b_0 : List UInt8) (nv_0 : Int)  (r : List UInt8) (h : f_wire_Int b_0 nv_0 = some r) : DetS Tryz.prog 51 [.sl 1 (enc b_0), .v (.int .i64 nv_0)] [] 0 (.osl 0 1 (0) (List.length r)) [(0, .arr 1 (enc r))] 1 := by
 unfold DetS
 refine Spec.of_vc Tryz.func51 rfl (by kernel_rfl) (by kernel_rfl) ?_
 rw [f_wire_Int] at h
 refine sg fun QQ1 hQ1 => ?_
 simp only [go_sem]
 refine seqQ_normal hQ1 ?_
 refine sg fun QQ2 hQ2 => ?_
 obtain ⟨v_0, ev_0, h⟩ := bindO_some h
 simp only [go_sem]
 refine callD [] (f_wire_Uint_det b_0 (xorI .u64 (shlI .u64 (IntKind.u64.wrap nv_0) 1) (IntKind.u64.wrap (shrI .i64 nv_0 63))) v_0 ev_0) (by simp) rfl trivial rfl rfl rfl rfl ?_
 simp only [go_sem]
 refine seqQ_normal hQ2 ?_
 refine vc_ret_of ?_
 simp only [go_sem]
 obtain rfl := Option.some.inj h
 refine retW_det [some 0] ?_
 simp only [go_sem, Le]
def f_backwashref08_ints_B1 (a_0 : List Int) (b_0 : List Int) (rec_1 : Int → Option Bool) : Int → Option Bool :=
 fun i_1 =>
 (if (decide (i_1 < (List.length a_0 : Int))) = true then bindO (idx a_0 i_1) (fun (xv_4 : Int) =>
 bindO (idx b_0 i_1) (fun (xv_5 : Int) =>
 (if (!(xv_4 == xv_5)) = true then some false
 else rec_1 (IntKind.i64.wrap (i_1 + 1)))))
 else some true)
def f_backwashref08_ints (a_0 : List Int) (b_0 : List Int) : Option Bool :=
 (if (!((List.length a_0 : Int) == (List.length b_0 : Int))) = true then some false
 else loopK (f_backwashref08_ints_B1 a_0 b_0) rounds 0)
theorem f_backwashref08_ints_ok (a_0 : List Int) (b_0 : List Int)  (r : Bool) (h : f_backwashref08_ints a_0 b_0 = some r) : PureS Tryz.prog 30 [.sl 1 (enc a_0), .sl 1 (enc b_0)] 0 (.v (.bool r)) := by
 unfold PureS
 refine Spec.of_vc Tryz.func30 rfl (by kernel_rfl) (by kernel_rfl) ?_
 rw [f_backwashref08_ints] at h
 refine sg fun QQ1 hQ1 => ?_
 simp only [go_sem]
 refine seqQ_normal hQ1 ?_
 refine sg fun QQ2 hQ2 => ?_
 refine sg fun QQ3 hQ3 => ?_
 simp only [go_sem]
 refine seqQ_normal hQ3 ?_
 refine vc_cond_of (b := (!((List.length a_0 : Int) == (List.length b_0 : Int)))) (by (simp only [go_sem]; done)) (fun hb_0 => ?_) (fun hb_0 => ?_)
 ·
  replace h := if_t h hb_0
  simp only [bool_to_prop] at hb_0
  refine sg fun QQ4 hQ4 => ?_
  simp only [go_sem]
  refine seqQ_normal hQ4 ?_
  refine vc_ret_of ?_
  refine seqQ_ret hQ2 ?_
  simp only [go_sem]
  obtain rfl := Option.some.inj h
  refine retW_pure rfl ?_
  simp only [go_sem, Le]
 ·
  replace h := if_f h hb_0
  simp only [bool_to_prop] at hb_0
  refine vc_skip_of ?_
  refine seqQ_normal hQ2 ?_
  refine vc_join (by kernel_rfl) ?_
  refine seq_go_gen ?_
  intro QQ5 hQ5
  refine sg fun QQ6 hQ6 => ?_
  simp only [go_sem]
  refine seqQ_normal hQ6 ?_
  refine vc_block_gen ?_
  intro QQ7 hQ7
  refine vc_loop_of ?_
  refine loop_gen (ι := Nat × Int) (fun ((_, i_1) : Nat × Int) => (⟨0, [(0, .sl 1 (enc a_0)), (1, .sl 1 (enc b_0)), (5, .v (.int .i64 i_1))], [], 0, 26⟩ : St)) (fun ((n_, i_1) : Nat × Int) => loopK (f_backwashref08_ints_B1 a_0 b_0) n_ i_1 = some r) (fun p => p.1) (rounds, 0) [] ?_ h ?_ --K[0,1];[]
  · simp only [go_sem, Le]
  ·
   rintro ⟨n_1, i_1⟩ h QQ8 hQ8
   dsimp only at h
   replace h := loopK_some h
   obtain ⟨m_1, rfl, h⟩ := h
   rw [f_backwashref08_ints_B1] at h
   refine sg fun QQ9 hQ9 => ?_
   refine sg fun QQ10 hQ10 => ?_
   simp only [go_sem]
   refine seqQ_normal hQ10 ?_
   refine vc_cond_of (b := (decide (i_1 < (List.length a_0 : Int)))) (by (simp only [go_sem]; done)) (fun hb_5 => ?_) (fun hb_5 => ?_)
   ·
    replace h := if_t h hb_5
    simp only [bool_to_prop] at hb_5
    refine vc_skip_of ?_
    refine seqQ_normal hQ9 ?_
    refine sg fun QQ11 hQ11 => ?_
    refine vc_block_gen ?_
    intro QQ12 hQ12
    refine sg fun QQ13 hQ13 => ?_
    refine vc_draw ?_
    refine drawM_tail 8 [0, 0, 3, 7, 0, 0, 48, 112, 255] mixed (by kernel_rfl) (of_decide_eq_true (by kernel_rfl)) (by kernel_rfl) ?_
    obtain ⟨xv_4, exv_4, h⟩ := bindO_some h
    obtain ⟨fxv_4a, fxv_4b, fxv_4c⟩ := idx_spec exv_4
    obtain ⟨xv_5, exv_5, h⟩ := bindO_some h
    obtain ⟨fxv_5a, fxv_5b, fxv_5c⟩ := idx_spec exv_5
    simp only [go_sem, fxv_4a, fxv_4b, fxv_4c, fxv_5a, fxv_5b, fxv_5c]
    refine And.intro (by omega) ?_
    refine And.intro (by omega) ?_
    refine seqQ_normal hQ13 ?_
    refine vc_cond_of (b := (!(xv_4 == xv_5))) (by (simp only [go_sem]; done)) (fun hb_6 => ?_) (fun hb_6 => ?_)
    ·
     replace h := if_t h hb_6
     simp only [bool_to_prop] at hb_6
     refine sg fun QQ14 hQ14 => ?_
     simp only [go_sem]
     refine seqQ_normal hQ14 ?_
     refine vc_ret_of ?_
     refine blockQ_ret hQ12 ?_
     refine seqQ_ret hQ11 ?_
     refine thenQ_ret hQ8 ?_
     refine blockQ_ret hQ7 ?_
     refine seqQ_ret hQ5 ?_
     simp only [go_sem]
     obtain rfl := Option.some.inj h
     refine retW_pure rfl ?_
     simp only [go_sem, Le]
    ·
     replace h := if_f h hb_6
     simp only [bool_to_prop] at hb_6
     refine vc_skip_of ?_
     refine blockQ_normal hQ12 ?_
     refine seqQ_normal hQ11 ?_
     simp only [go_sem]
     refine thenQ_normal hQ8 ?_
     refine ⟨(m_1, IntKind.i64.wrap (i_1 + 1)), [], ?_, h, Nat.lt_succ_self _⟩
     simp only [go_sem, Le]
   ·
    replace h := if_f h hb_5
    simp only [bool_to_prop] at hb_5
    refine vc_exit_of ?_
    refine seqQ_exit hQ9 ?_
    refine thenQ_exit hQ8 ?_
    refine blockQ_exit hQ7 ?_
    refine seqQ_normal hQ5 ?_
    refine sg fun QQ15 hQ15 => ?_
    simp only [go_sem]
    refine seqQ_normal hQ15 ?_
    refine vc_ret_of ?_
    simp only [go_sem]
    obtain rfl := Option.some.inj h
    refine retW_pure rfl ?_
    simp only [go_sem, Le]

def f_backwashref07_Same_B1 (a_0 : List GIns) (b_0 : List GIns) (rec_1 : Int → Option Bool) : Int → Option Bool :=
 fun i_1 =>
 (if (decide (i_1 < (List.length a_0 : Int))) = true then bindO (idx a_0 i_1) (fun (xv_4 : GIns) =>
 bindO (idx b_0 i_1) (fun (xv_5 : GIns) =>
 (if (!((xv_4.Op == xv_5.Op) && (xv_4.N == xv_5.N))) = true then some false
 else rec_1 (IntKind.i64.wrap (i_1 + 1)))))
 else some true)
def f_backwashref07_Same (a_0 : List GIns) (b_0 : List GIns) : Option Bool :=
 (if (!((List.length a_0 : Int) == (List.length b_0 : Int))) = true then some false
 else loopK (f_backwashref07_Same_B1 a_0 b_0) rounds 0)
theorem f_backwashref07_Same_ok (a_0 : List GIns) (b_0 : List GIns)  (r : Bool) (h : f_backwashref07_Same a_0 b_0 = some r) : PureS Tryz.prog 31 [.sl 2 (enc a_0), .sl 2 (enc b_0)] 0 (.v (.bool r)) := by
 unfold PureS
 refine Spec.of_vc Tryz.func31 rfl (by kernel_rfl) (by kernel_rfl) ?_
 rw [f_backwashref07_Same] at h
 refine sg fun QQ1 hQ1 => ?_
 simp only [go_sem]
 refine seqQ_normal hQ1 ?_
 refine sg fun QQ2 hQ2 => ?_
 refine sg fun QQ3 hQ3 => ?_
 simp only [go_sem]
 refine seqQ_normal hQ3 ?_
 refine vc_cond_of (b := (!((List.length a_0 : Int) == (List.length b_0 : Int)))) (by (simp only [go_sem]; done)) (fun hb_0 => ?_) (fun hb_0 => ?_)
 ·
  replace h := if_t h hb_0
  simp only [bool_to_prop] at hb_0
  refine sg fun QQ4 hQ4 => ?_
  simp only [go_sem]
  refine seqQ_normal hQ4 ?_
  refine vc_ret_of ?_
  refine seqQ_ret hQ2 ?_
  simp only [go_sem]
  obtain rfl := Option.some.inj h
  refine retW_pure rfl ?_
  simp only [go_sem, Le]
 ·
  replace h := if_f h hb_0
  simp only [bool_to_prop] at hb_0
  refine vc_skip_of ?_
  refine seqQ_normal hQ2 ?_
  refine vc_join (by kernel_rfl) ?_
  refine seq_go_gen ?_
  intro QQ5 hQ5
  refine sg fun QQ6 hQ6 => ?_
  simp only [go_sem]
  refine seqQ_normal hQ6 ?_
  refine vc_block_gen ?_
  intro QQ7 hQ7
  refine vc_loop_of ?_
  refine loop_gen (ι := Nat × Int) (fun ((_, i_1) : Nat × Int) => (⟨0, [(0, .sl 2 (enc a_0)), (1, .sl 2 (enc b_0)), (5, .v (.int .i64 i_1))], [], 0, 26⟩ : St)) (fun ((n_, i_1) : Nat × Int) => loopK (f_backwashref07_Same_B1 a_0 b_0) n_ i_1 = some r) (fun p => p.1) (rounds, 0) [] ?_ h ?_ --K[0,1];[]
  · simp only [go_sem, Le]
  ·
   rintro ⟨n_1, i_1⟩ h QQ8 hQ8
   dsimp only at h
   replace h := loopK_some h
   obtain ⟨m_1, rfl, h⟩ := h
   rw [f_backwashref07_Same_B1] at h
   refine sg fun QQ9 hQ9 => ?_
   refine sg fun QQ10 hQ10 => ?_
   simp only [go_sem]
   refine seqQ_normal hQ10 ?_
   refine vc_cond_of (b := (decide (i_1 < (List.length a_0 : Int)))) (by (simp only [go_sem]; done)) (fun hb_5 => ?_) (fun hb_5 => ?_)
   ·
    replace h := if_t h hb_5
    simp only [bool_to_prop] at hb_5
    refine vc_skip_of ?_
    refine seqQ_normal hQ9 ?_
    refine sg fun QQ11 hQ11 => ?_
    refine vc_block_gen ?_
    intro QQ12 hQ12
    refine sg fun QQ13 hQ13 => ?_
    refine vc_draw ?_
    refine drawM_tail 8 [0, 0, 3, 7, 0, 0, 48, 112, 255] mixed (by kernel_rfl) (of_decide_eq_true (by kernel_rfl)) (by kernel_rfl) ?_
    obtain ⟨xv_4, exv_4, h⟩ := bindO_some h
    obtain ⟨fxv_4a, fxv_4b, fxv_4c⟩ := idx_spec exv_4
    obtain ⟨xv_5, exv_5, h⟩ := bindO_some h
    obtain ⟨fxv_5a, fxv_5b, fxv_5c⟩ := idx_spec exv_5
    simp only [go_sem, fxv_4a, fxv_4b, fxv_4c, fxv_5a, fxv_5b, fxv_5c]
    refine And.intro (by omega) ?_
    refine And.intro (by omega) ?_
    refine seqQ_normal hQ13 ?_
    refine vc_cond_of (b := (!((xv_4.Op == xv_5.Op) && (xv_4.N == xv_5.N)))) (by (simp only [go_sem]; done)) (fun hb_6 => ?_) (fun hb_6 => ?_)
    ·
     replace h := if_t h hb_6
     simp only [bool_to_prop] at hb_6
     refine sg fun QQ14 hQ14 => ?_
     simp only [go_sem]
     refine seqQ_normal hQ14 ?_
     refine vc_ret_of ?_
     refine blockQ_ret hQ12 ?_
     refine seqQ_ret hQ11 ?_
     refine thenQ_ret hQ8 ?_
     refine blockQ_ret hQ7 ?_
     refine seqQ_ret hQ5 ?_
     simp only [go_sem]
     obtain rfl := Option.some.inj h
     refine retW_pure rfl ?_
     simp only [go_sem, Le]
    ·
     replace h := if_f h hb_6
     simp only [bool_to_prop] at hb_6
     refine vc_skip_of ?_
     refine blockQ_normal hQ12 ?_
     refine seqQ_normal hQ11 ?_
     simp only [go_sem]
     refine thenQ_normal hQ8 ?_
     refine ⟨(m_1, IntKind.i64.wrap (i_1 + 1)), [], ?_, h, Nat.lt_succ_self _⟩
     simp only [go_sem, Le]
   ·
    replace h := if_f h hb_5
    simp only [bool_to_prop] at hb_5
    refine vc_exit_of ?_
    refine seqQ_exit hQ9 ?_
    refine thenQ_exit hQ8 ?_
    refine blockQ_exit hQ7 ?_
    refine seqQ_normal hQ5 ?_
    refine sg fun QQ15 hQ15 => ?_
    simp only [go_sem]
    refine seqQ_normal hQ15 ?_
    refine vc_ret_of ?_
    simp only [go_sem]
    obtain rfl := Option.some.inj h
    refine retW_pure rfl ?_
    simp only [go_sem, Le]

def f_backwashref08_Same_B2 (a_0 : GGraph) (b_0 : GGraph) (rec_2 : Int → Option Bool) : Int → Option Bool :=
 fun i_3 =>
 (if (decide (i_3 < (List.length a_0.Edges : Int))) = true then bindO (idx a_0.Edges i_3) (fun (xv_10 : GEdge) =>
 bindO (idx b_0.Edges i_3) (fun (xv_11 : GEdge) =>
 (if (!((xv_10.From == xv_11.From) && ((xv_10.To == xv_11.To) && ((xv_10.Port == xv_11.Port) && (xv_10.Exchange == xv_11.Exchange))))) = true then some false
 else rec_2 (IntKind.i64.wrap (i_3 + 1)))))
 else some true)
def f_backwashref08_Same_J1 (a_0 : GGraph) (b_0 : GGraph) : Option Bool :=
 loopK (f_backwashref08_Same_B2 a_0 b_0) rounds 0
def f_backwashref08_Same_B3 (a_0 : GGraph) (b_0 : GGraph) (rec_3 : Int → Option Bool) : Int → Option Bool :=
 fun i_5 =>
 (if (decide (i_5 < (List.length a_0.Nodes : Int))) = true then bindO (idx a_0.Nodes i_5) (fun (xv_16 : GNode) =>
 bindO (idx b_0.Nodes i_5) (fun (xv_17 : GNode) =>
 (if (((!(xv_16.Kind == xv_17.Kind)) || (!(xv_16.Scope == xv_17.Scope))) || (!(xv_16.Arg == xv_17.Arg))) = true then some false
 else bindO (f_backwashref07_Same xv_16.Prog xv_17.Prog) (fun (v_7 : Bool) =>
 (if (!v_7) = true then some false
 else rec_3 (IntKind.i64.wrap (i_5 + 1)))))))
 else f_backwashref08_Same_J1 a_0 b_0)
def f_backwashref08_Same (a_0 : GGraph) (b_0 : GGraph) : Option Bool :=
 bindO (f_backwashref08_ints a_0.Parent b_0.Parent) (fun (v_0 : Bool) =>
 (if v_0 = true then bindO (f_backwashref08_ints a_0.Bound b_0.Bound) (fun (v_1 : Bool) =>
 (if (((!v_1) || (!((List.length a_0.Nodes : Int) == (List.length b_0.Nodes : Int)))) || (!((List.length a_0.Edges : Int) == (List.length b_0.Edges : Int)))) = true then some false
 else loopK (f_backwashref08_Same_B3 a_0 b_0) rounds 0))
 else some false))
theorem f_backwashref08_Same_ok (a_0 : GGraph) (b_0 : GGraph)  (r : Bool) (h : f_backwashref08_Same a_0 b_0 = some r) : PureS Tryz.prog 11 [.agg [.sl 1 (enc a_0.Parent), .sl 1 (enc a_0.Bound), .sl 4 (enc a_0.Nodes), .sl 4 (enc a_0.Edges)], .agg [.sl 1 (enc b_0.Parent), .sl 1 (enc b_0.Bound), .sl 4 (enc b_0.Nodes), .sl 4 (enc b_0.Edges)]] 0 (.v (.bool r)) := by
 unfold PureS
 refine Spec.of_vc Tryz.func11 rfl (by kernel_rfl) (by kernel_rfl) ?_
 rw [f_backwashref08_Same] at h
 refine sg fun QQ1 hQ1 => ?_
 simp only [go_sem]
 refine seqQ_normal hQ1 ?_
 refine sg fun QQ2 hQ2 => ?_
 refine sg fun QQ3 hQ3 => ?_
 obtain ⟨v_0, ev_0, h⟩ := bindO_some h
 simp only [go_sem]
 refine call0 (f_backwashref08_ints_ok a_0.Parent b_0.Parent v_0 ev_0) (by rfl) (by rfl) ?_
 simp only [go_sem]
 rcases hb_0 : v_0 with _ | _
 ·
  replace h := if_f h hb_0
  simp only [go_sem, hb_0]
  refine seqQ_normal hQ3 ?_
  refine vc_cond_t (by (simp only [go_sem]; done)) ?_
  refine sg fun QQ4 hQ4 => ?_
  simp only [go_sem]
  refine seqQ_normal hQ4 ?_
  refine vc_ret_of ?_
  refine seqQ_ret hQ2 ?_
  simp only [go_sem]
  obtain rfl := Option.some.inj h
  refine retW_pure rfl ?_
  simp only [go_sem, Le]
 ·
  replace h := if_t h hb_0
  obtain ⟨v_1, ev_1, h⟩ := bindO_some h
  simp only [go_sem, hb_0]
  refine call0 (f_backwashref08_ints_ok a_0.Bound b_0.Bound v_1 ev_1) (by rfl) (by rfl) ?_
  simp only [go_sem]
  refine seqQ_normal hQ3 ?_
  refine vc_cond_of (b := (((!v_1) || (!((List.length a_0.Nodes : Int) == (List.length b_0.Nodes : Int)))) || (!((List.length a_0.Edges : Int) == (List.length b_0.Edges : Int))))) (by (simp only [go_sem]; done)) (fun hb_1 => ?_) (fun hb_1 => ?_)
  ·
   replace h := if_t h hb_1
   simp only [bool_to_prop] at hb_1
   refine sg fun QQ5 hQ5 => ?_
   simp only [go_sem]
   refine seqQ_normal hQ5 ?_
   refine vc_ret_of ?_
   refine seqQ_ret hQ2 ?_
   simp only [go_sem]
   obtain rfl := Option.some.inj h
   refine retW_pure rfl ?_
   simp only [go_sem, Le]
  ·
   replace h := if_f h hb_1
   simp only [bool_to_prop] at hb_1
   refine vc_skip_of ?_
   refine seqQ_normal hQ2 ?_
   refine vc_join (by kernel_rfl) ?_
   refine seq_cut_gen (ι := Unit) (fun (_ : Unit) => (⟨0, [(2, .ptr 0 0), (3, .ptr 1 0)], [(0, .box [.sl 1 (enc a_0.Parent), .sl 1 (enc a_0.Bound), .sl 4 (enc a_0.Nodes), .sl 4 (enc a_0.Edges)]), (1, .box [.sl 1 (enc b_0.Parent), .sl 1 (enc b_0.Bound), .sl 4 (enc b_0.Nodes), .sl 4 (enc b_0.Edges)])], 2, 103⟩ : St)) (fun (_ : Unit) => f_backwashref08_Same_J1 a_0 b_0 = some r) ?_ ?_ --K[2,3];[0,1]
   ·
    intro QQ17 hQ17
    refine sg fun QQ18 hQ18 => ?_
    simp only [go_sem]
    refine seqQ_normal hQ18 ?_
    refine vc_block_gen ?_
    intro QQ19 hQ19
    refine vc_loop_of ?_
    refine loop_gen (ι := Nat × Int) (fun ((_, i_5) : Nat × Int) => (⟨0, [(2, .ptr 0 0), (3, .ptr 1 0), (5, .v (.int .i64 i_5))], [(0, .box [.sl 1 (enc a_0.Parent), .sl 1 (enc a_0.Bound), .sl 4 (enc a_0.Nodes), .sl 4 (enc a_0.Edges)]), (1, .box [.sl 1 (enc b_0.Parent), .sl 1 (enc b_0.Bound), .sl 4 (enc b_0.Nodes), .sl 4 (enc b_0.Edges)])], 2, 103⟩ : St)) (fun ((n_, i_5) : Nat × Int) => loopK (f_backwashref08_Same_B3 a_0 b_0) n_ i_5 = some r) (fun p => p.1) (rounds, 0) [some 0, some 1] ?_ h ?_ --K[2,3];[0,1]
    · simp only [go_sem, Le] <;> (repeat' apply And.intro) <;> first | ((try with_reducible refine TL_eq ?_); omega) | ((try with_reducible refine TL_eq ?_); (simp [go_sem]; done))
    ·
     rintro ⟨n_3, i_5⟩ h QQ20 hQ20
     dsimp only at h
     replace h := loopK_some h
     obtain ⟨m_3, rfl, h⟩ := h
     rw [f_backwashref08_Same_B3] at h
     refine sg fun QQ21 hQ21 => ?_
     refine sg fun QQ22 hQ22 => ?_
     simp only [go_sem]
     refine seqQ_normal hQ22 ?_
     refine vc_cond_of (b := (decide (i_5 < (List.length a_0.Nodes : Int)))) (by (simp only [go_sem]; done)) (fun hb_23 => ?_) (fun hb_23 => ?_)
     ·
      replace h := if_t h hb_23
      simp only [bool_to_prop] at hb_23
      refine vc_skip_of ?_
      refine seqQ_normal hQ21 ?_
      refine sg fun QQ23 hQ23 => ?_
      refine vc_block_gen ?_
      intro QQ24 hQ24
      refine sg fun QQ25 hQ25 => ?_
      refine vc_draw ?_
      refine drawV_all 13 0 12 [0, 1, 0, 7, 15, 0, 32, 0, 224, 480, 0, 0, 3103, 8191] [2, 3] [0, 1, 2, 3, 4, 5, 6, 7, 8, 9] [] [12] [10, 11] mixed (by kernel_rfl) (of_decide_eq_true (by kernel_rfl)) (by kernel_rfl) (by kernel_rfl) (by rfl) ?_
      obtain ⟨xv_16, exv_16, h⟩ := bindO_some h
      obtain ⟨fxv_16a, fxv_16b, fxv_16c⟩ := idx_spec exv_16
      obtain ⟨xv_17, exv_17, h⟩ := bindO_some h
      obtain ⟨fxv_17a, fxv_17b, fxv_17c⟩ := idx_spec exv_17
      simp only [go_sem, fxv_16a, fxv_16b, fxv_16c, fxv_17a, fxv_17b, fxv_17c]
      refine And.intro (by omega) ?_
      refine And.intro (by omega) ?_
      refine seqQ_normal hQ25 ?_
      refine sg fun QQ26 hQ26 => ?_
      simp only [go_sem]
      rcases hb_24 : (((!(xv_16.Kind == xv_17.Kind)) || (!(xv_16.Scope == xv_17.Scope))) || (!(xv_16.Arg == xv_17.Arg))) with _ | _
      ·
       replace h := if_f h hb_24
       obtain ⟨v_7, ev_7, h⟩ := bindO_some h
       simp only [go_sem, hb_24]
       refine call0 (f_backwashref07_Same_ok xv_16.Prog xv_17.Prog v_7 ev_7) (by rfl) (by rfl) ?_
       simp only [go_sem]
       refine seqQ_normal hQ26 ?_
       refine vc_cond_of (b := (!v_7)) (by (simp only [go_sem]; done)) (fun hb_25 => ?_) (fun hb_25 => ?_)
       ·
        replace h := if_t h hb_25
        simp only [bool_to_prop] at hb_25
        refine sg fun QQ27 hQ27 => ?_
        simp only [go_sem]
        refine seqQ_normal hQ27 ?_
        refine vc_ret_of ?_
        refine blockQ_ret hQ24 ?_
        refine seqQ_ret hQ23 ?_
        refine thenQ_ret hQ20 ?_
        refine blockQ_ret hQ19 ?_
        refine thenQ_ret hQ17 ?_
        simp only [go_sem]
        obtain rfl := Option.some.inj h
        refine retW_pure rfl ?_
        simp only [go_sem, Le]
       ·
        replace h := if_f h hb_25
        simp only [bool_to_prop] at hb_25
        refine vc_skip_of ?_
        refine blockQ_normal hQ24 ?_
        refine seqQ_normal hQ23 ?_
        simp only [go_sem]
        refine thenQ_normal hQ20 ?_
        refine ⟨(m_3, IntKind.i64.wrap (i_5 + 1)), [some 0, some 1], ?_, h, Nat.lt_succ_self _⟩
        simp only [go_sem, Le] <;> (repeat' apply And.intro) <;> first | ((try with_reducible refine TL_eq ?_); omega) | ((try with_reducible refine TL_eq ?_); (simp [go_sem]; done))
      ·
       replace h := if_t h hb_24
       simp only [go_sem, hb_24]
       refine seqQ_normal hQ26 ?_
       refine vc_cond_t (by (simp only [go_sem]; done)) ?_
       refine sg fun QQ28 hQ28 => ?_
       simp only [go_sem]
       refine seqQ_normal hQ28 ?_
       refine vc_ret_of ?_
       refine blockQ_ret hQ24 ?_
       refine seqQ_ret hQ23 ?_
       refine thenQ_ret hQ20 ?_
       refine blockQ_ret hQ19 ?_
       refine thenQ_ret hQ17 ?_
       simp only [go_sem]
       obtain rfl := Option.some.inj h
       refine retW_pure rfl ?_
       simp only [go_sem, Le]
     ·
      replace h := if_f h hb_23
      simp only [bool_to_prop] at hb_23
      refine vc_exit_of ?_
      refine seqQ_exit hQ21 ?_
      refine thenQ_exit hQ20 ?_
      refine blockQ_exit hQ19 ?_
      refine thenQ_normal hQ17 ?_
      refine ⟨(), [some 0, some 1], ?_, h⟩
      simp only [go_sem, Le] <;> (repeat' apply And.intro) <;> first | ((try with_reducible refine TL_eq ?_); omega) | ((try with_reducible refine TL_eq ?_); (simp [go_sem]; done))
   ·
    rintro ⟨⟩ h
    try dsimp only at h
    rw [f_backwashref08_Same_J1] at h
    refine vc_join (by kernel_rfl) ?_
    refine seq_go_gen ?_
    intro QQ6 hQ6
    refine sg fun QQ7 hQ7 => ?_
    simp only [go_sem]
    refine seqQ_normal hQ7 ?_
    refine vc_block_gen ?_
    intro QQ8 hQ8
    refine vc_loop_of ?_
    refine loop_gen (ι := Nat × Int) (fun ((_, i_3) : Nat × Int) => (⟨0, [(2, .ptr 0 0), (3, .ptr 1 0), (8, .v (.int .i64 i_3))], [(0, .box [.sl 1 (enc a_0.Parent), .sl 1 (enc a_0.Bound), .sl 4 (enc a_0.Nodes), .sl 4 (enc a_0.Edges)]), (1, .box [.sl 1 (enc b_0.Parent), .sl 1 (enc b_0.Bound), .sl 4 (enc b_0.Nodes), .sl 4 (enc b_0.Edges)])], 2, 103⟩ : St)) (fun ((n_, i_3) : Nat × Int) => loopK (f_backwashref08_Same_B2 a_0 b_0) n_ i_3 = some r) (fun p => p.1) (rounds, 0) [some 0, some 1] ?_ h ?_ --K[2,3];[0,1]
    · simp only [go_sem, Le] <;> (repeat' apply And.intro) <;> first | ((try with_reducible refine TL_eq ?_); omega) | ((try with_reducible refine TL_eq ?_); (simp [go_sem]; done))
    ·
     rintro ⟨n_2, i_3⟩ h QQ9 hQ9
     dsimp only at h
     replace h := loopK_some h
     obtain ⟨m_2, rfl, h⟩ := h
     rw [f_backwashref08_Same_B2] at h
     refine sg fun QQ10 hQ10 => ?_
     refine sg fun QQ11 hQ11 => ?_
     simp only [go_sem]
     refine seqQ_normal hQ11 ?_
     refine vc_cond_of (b := (decide (i_3 < (List.length a_0.Edges : Int)))) (by (simp only [go_sem]; done)) (fun hb_15 => ?_) (fun hb_15 => ?_)
     ·
      replace h := if_t h hb_15
      simp only [bool_to_prop] at hb_15
      refine vc_skip_of ?_
      refine seqQ_normal hQ10 ?_
      refine sg fun QQ12 hQ12 => ?_
      refine vc_block_gen ?_
      intro QQ13 hQ13
      refine sg fun QQ14 hQ14 => ?_
      refine vc_draw ?_
      refine drawM_tail 10 [0, 1, 0, 7, 15, 0, 32, 0, 224, 480, 1023] mixed (by kernel_rfl) (of_decide_eq_true (by kernel_rfl)) (by kernel_rfl) ?_
      obtain ⟨xv_10, exv_10, h⟩ := bindO_some h
      obtain ⟨fxv_10a, fxv_10b, fxv_10c⟩ := idx_spec exv_10
      obtain ⟨xv_11, exv_11, h⟩ := bindO_some h
      obtain ⟨fxv_11a, fxv_11b, fxv_11c⟩ := idx_spec exv_11
      simp only [go_sem, fxv_10a, fxv_10b, fxv_10c, fxv_11a, fxv_11b, fxv_11c]
      refine And.intro (by omega) ?_
      refine And.intro (by omega) ?_
      refine seqQ_normal hQ14 ?_
      refine vc_cond_of (b := (!((xv_10.From == xv_11.From) && ((xv_10.To == xv_11.To) && ((xv_10.Port == xv_11.Port) && (xv_10.Exchange == xv_11.Exchange)))))) (by (simp only [go_sem]; done)) (fun hb_16 => ?_) (fun hb_16 => ?_)
      ·
       replace h := if_t h hb_16
       simp only [bool_to_prop] at hb_16
       refine sg fun QQ15 hQ15 => ?_
       simp only [go_sem]
       refine seqQ_normal hQ15 ?_
       refine vc_ret_of ?_
       refine blockQ_ret hQ13 ?_
       refine seqQ_ret hQ12 ?_
       refine thenQ_ret hQ9 ?_
       refine blockQ_ret hQ8 ?_
       refine seqQ_ret hQ6 ?_
       simp only [go_sem]
       obtain rfl := Option.some.inj h
       refine retW_pure rfl ?_
       simp only [go_sem, Le]
      ·
       replace h := if_f h hb_16
       simp only [bool_to_prop] at hb_16
       refine vc_skip_of ?_
       refine blockQ_normal hQ13 ?_
       refine seqQ_normal hQ12 ?_
       simp only [go_sem]
       refine thenQ_normal hQ9 ?_
       refine ⟨(m_2, IntKind.i64.wrap (i_3 + 1)), [some 0, some 1], ?_, h, Nat.lt_succ_self _⟩
       simp only [go_sem, Le] <;> (repeat' apply And.intro) <;> first | ((try with_reducible refine TL_eq ?_); omega) | ((try with_reducible refine TL_eq ?_); (simp [go_sem]; done))
     ·
      replace h := if_f h hb_15
      simp only [bool_to_prop] at hb_15
      refine vc_exit_of ?_
      refine seqQ_exit hQ10 ?_
      refine thenQ_exit hQ9 ?_
      refine blockQ_exit hQ8 ?_
      refine seqQ_normal hQ6 ?_
      refine sg fun QQ16 hQ16 => ?_
      simp only [go_sem]
      refine seqQ_normal hQ16 ?_
      refine vc_ret_of ?_
      simp only [go_sem]
      obtain rfl := Option.some.inj h
      refine retW_pure rfl ?_
      simp only [go_sem, Le]

def f_backwashref08_low (nv_0 : Int) : Option Bool :=
 some ((decide (0 ≤ nv_0)) && (decide (nv_0 ≤ 2147483647)))
def f_slices_IndexFunc_int_B1 (s_0 : List Int) (f_0 : Int → Option Bool) (rec_1 : Int → Option Int) : Int → Option Int :=
 fun t8_1 =>
 (if (decide (t8_1 < (List.length s_0 : Int))) = true then bindO (idx s_0 t8_1) (fun (xv_2 : Int) =>
 bindO (f_0 xv_2) (fun (v_2 : Bool) =>
 (if v_2 = true then some t8_1
 else rec_1 (IntKind.i64.wrap (t8_1 + 1)))))
 else some (-1))
def f_slices_IndexFunc_int (s_0 : List Int) (f_0 : Int → Option Bool) : Option Int :=
 loopK (f_slices_IndexFunc_int_B1 s_0 f_0) rounds 0
theorem f_slices_IndexFunc_int_ok (s_0 : List Int) (f_0 : Int → Option Bool) (g_f_0 : FuncId) (c_f_0 : List AV) (F_f_0 : idFreeL c_f_0 = true) (E_f_0 : entB Tryz.prog g_f_0 = true) (H_f_0 : ∀ (x0 : Int) (r : Bool), f_0 x0 = some r → PureS Tryz.prog g_f_0 ([.v (.int .i64 x0)] ++ c_f_0) 0 (.v (.bool r))) (r : Int) (h : f_slices_IndexFunc_int s_0 f_0 = some r) : PureS Tryz.prog 82 [.sl 1 (enc s_0), .clo g_f_0 c_f_0] 0 (.v (.int .i64 r)) := by
 unfold PureS
 refine Spec.of_vc Tryz.func82 rfl (by kernel_rfl) (by kernel_rfl) ?_
 rw [f_slices_IndexFunc_int] at h
 refine sg fun QQ1 hQ1 => ?_
 simp only [go_sem]
 refine seqQ_normal hQ1 ?_
 refine vc_join (by kernel_rfl) ?_
 refine seq_go_gen ?_
 intro QQ2 hQ2
 refine sg fun QQ3 hQ3 => ?_
 simp only [go_sem]
 refine seqQ_normal hQ3 ?_
 refine vc_block_gen ?_
 intro QQ4 hQ4
 refine vc_loop_of ?_
 refine loop_gen (ι := Nat × Int) (fun ((_, t8_1) : Nat × Int) => (⟨0, [(0, .sl 1 (enc s_0)), (1, .clo g_f_0 c_f_0), (7, .v (.int .i64 (List.length s_0 : Int))), (8, .v (.int .i64 t8_1))], [], 0, 19⟩ : St)) (fun ((n_, t8_1) : Nat × Int) => loopK (f_slices_IndexFunc_int_B1 s_0 f_0) n_ t8_1 = some r) (fun p => p.1) (rounds, 0) [] ?_ h ?_ --K[0,1,7];[]
 · simp only [go_sem, Le, AvLeL_free _ F_f_0]
 ·
  rintro ⟨n_1, t8_1⟩ h QQ5 hQ5
  dsimp only at h
  replace h := loopK_some h
  obtain ⟨m_1, rfl, h⟩ := h
  rw [f_slices_IndexFunc_int_B1] at h
  refine sg fun QQ6 hQ6 => ?_
  simp only [go_sem]
  refine seqQ_normal hQ6 ?_
  refine sg fun QQ7 hQ7 => ?_
  refine vc_cond_of (b := (decide (t8_1 < (List.length s_0 : Int)))) (by (simp only [go_sem]; done)) (fun hb_4 => ?_) (fun hb_4 => ?_)
  ·
   replace h := if_t h hb_4
   simp only [bool_to_prop] at hb_4
   refine vc_skip_of ?_
   refine seqQ_normal hQ7 ?_
   refine sg fun QQ8 hQ8 => ?_
   refine vc_block_gen ?_
   intro QQ9 hQ9
   refine sg fun QQ10 hQ10 => ?_
   simp only [go_sem]
   refine seqQ_normal hQ10 ?_
   refine sg fun QQ11 hQ11 => ?_
   obtain ⟨xv_2, exv_2, h⟩ := bindO_some h
   obtain ⟨fxv_2a, fxv_2b, fxv_2c⟩ := idx_spec exv_2
   obtain ⟨v_2, ev_2, h⟩ := bindO_some h
   simp only [go_sem, fxv_2a, fxv_2b, fxv_2c, E_f_0]
   refine And.intro (by omega) ?_
   refine call0 (H_f_0 xv_2 v_2 ev_2) (by rfl) (by simp [idFreeL, idFree, F_f_0]) ?_
   simp only [go_sem]
   refine seqQ_normal hQ11 ?_
   refine vc_cond_of (b := v_2) (by (simp only [go_sem]; done)) (fun hb_5 => ?_) (fun hb_5 => ?_)
   ·
    replace h := if_t h hb_5
    refine sg fun QQ12 hQ12 => ?_
    simp only [go_sem]
    refine seqQ_normal hQ12 ?_
    refine vc_ret_of ?_
    refine blockQ_ret hQ9 ?_
    refine seqQ_ret hQ8 ?_
    refine thenQ_ret hQ5 ?_
    refine blockQ_ret hQ4 ?_
    refine seqQ_ret hQ2 ?_
    simp only [go_sem]
    obtain rfl := Option.some.inj h
    refine retW_pure rfl ?_
    simp only [go_sem, Le, AvLeL_free _ F_f_0]
   ·
    replace h := if_f h hb_5
    refine vc_skip_of ?_
    refine blockQ_normal hQ9 ?_
    refine seqQ_normal hQ8 ?_
    simp only [go_sem]
    refine thenQ_normal hQ5 ?_
    refine ⟨(m_1, IntKind.i64.wrap (t8_1 + 1)), [], ?_, h, Nat.lt_succ_self _⟩
    simp only [go_sem, Le, AvLeL_free _ F_f_0]
  ·
   replace h := if_f h hb_4
   simp only [bool_to_prop] at hb_4
   refine vc_exit_of ?_
   refine seqQ_exit hQ7 ?_
   refine thenQ_exit hQ5 ?_
   refine blockQ_exit hQ4 ?_
   refine seqQ_normal hQ2 ?_
   refine sg fun QQ13 hQ13 => ?_
   simp only [go_sem]
   refine seqQ_normal hQ13 ?_
   refine vc_ret_of ?_
   simp only [go_sem]
   obtain rfl := Option.some.inj h
   refine retW_pure rfl ?_
   simp only [go_sem, Le, AvLeL_free _ F_f_0]

def f_slices_ContainsFunc_int (s_0 : List Int) (f_0 : Int → Option Bool) : Option Bool :=
 bindO (f_slices_IndexFunc_int s_0 f_0) (fun (v_0 : Int) =>
 some (decide (0 ≤ v_0)))
theorem f_slices_ContainsFunc_int_ok (s_0 : List Int) (f_0 : Int → Option Bool) (g_f_0 : FuncId) (c_f_0 : List AV) (F_f_0 : idFreeL c_f_0 = true) (E_f_0 : entB Tryz.prog g_f_0 = true) (H_f_0 : ∀ (x0 : Int) (r : Bool), f_0 x0 = some r → PureS Tryz.prog g_f_0 ([.v (.int .i64 x0)] ++ c_f_0) 0 (.v (.bool r))) (r : Bool) (h : f_slices_ContainsFunc_int s_0 f_0 = some r) : PureS Tryz.prog 64 [.sl 1 (enc s_0), .clo g_f_0 c_f_0] 0 (.v (.bool r)) := by
 unfold PureS
 refine Spec.of_vc Tryz.func64 rfl (by kernel_rfl) (by kernel_rfl) ?_
 rw [f_slices_ContainsFunc_int] at h
 refine sg fun QQ1 hQ1 => ?_
 simp only [go_sem]
 refine seqQ_normal hQ1 ?_
 refine sg fun QQ2 hQ2 => ?_
 obtain ⟨v_0, ev_0, h⟩ := bindO_some h
 simp only [go_sem]
 refine call0 (f_slices_IndexFunc_int_ok s_0 f_0 g_f_0 c_f_0 F_f_0 E_f_0 H_f_0 v_0 ev_0) (by rfl) (by simp [idFreeL, idFree, F_f_0]) ?_
 simp only [go_sem]
 refine seqQ_normal hQ2 ?_
 refine vc_ret_of ?_
 simp only [go_sem]
 obtain rfl := Option.some.inj h
 refine retW_pure rfl ?_
 simp only [go_sem, Le, AvLeL_free _ F_f_0]

def f_graph_small_1 (nv_0 : Int) : Option Bool :=
 some ((decide (nv_0 < 0)) || (decide (2147483647 < nv_0)))
theorem f_graph_small_1_ok (nv_0 : Int)  (r : Bool) (h : f_graph_small_1 nv_0 = some r) : PureS Tryz.prog 65 [.v (.int .i64 nv_0)] 0 (.v (.bool r)) := by
 unfold PureS
 refine Spec.of_vc Tryz.func65 rfl (by kernel_rfl) (by kernel_rfl) ?_
 rw [f_graph_small_1] at h
 refine sg fun QQ1 hQ1 => ?_
 simp only [go_sem]
 refine seqQ_normal hQ1 ?_
 refine sg fun QQ2 hQ2 => ?_
 simp only [go_sem]
 refine seqQ_normal hQ2 ?_
 refine vc_ret_of ?_
 simp only [go_sem]
 obtain rfl := Option.some.inj h
 refine retW_pure rfl ?_
 simp only [go_sem, Le]

def f_graph_small (l_0 : List Int) : Option Bool :=
 bindO (f_slices_ContainsFunc_int l_0 (fun x0_ => f_graph_small_1 x0_)) (fun (v_0 : Bool) =>
 some (!v_0))
theorem f_graph_small_ok (l_0 : List Int)  (r : Bool) (h : f_graph_small l_0 = some r) : PureS Tryz.prog 45 [.sl 1 (enc l_0)] 0 (.v (.bool r)) := by
 unfold PureS
 refine Spec.of_vc Tryz.func45 rfl (by kernel_rfl) (by kernel_rfl) ?_
 rw [f_graph_small] at h
 refine sg fun QQ1 hQ1 => ?_
 simp only [go_sem]
 refine seqQ_normal hQ1 ?_
 refine sg fun QQ2 hQ2 => ?_
 obtain ⟨v_0, ev_0, h⟩ := bindO_some h
 simp only [go_sem]
 refine call0 (f_slices_ContainsFunc_int_ok l_0 (fun x0_ => f_graph_small_1 x0_) 65 [] (by rfl) (by kernel_rfl) (fun y0 r_ e_ => f_graph_small_1_ok y0 r_ e_) v_0 ev_0) (by rfl) (by rfl) ?_
 simp only [go_sem]
 refine seqQ_normal hQ2 ?_
 refine vc_ret_of ?_
 simp only [go_sem]
 obtain rfl := Option.some.inj h
 refine retW_pure rfl ?_
 simp only [go_sem, Le]

def f_slices_IndexFunc_Ins_B1 (s_0 : List GIns) (f_0 : GIns → Option Bool) (rec_1 : Int → Option Int) : Int → Option Int :=
 fun t8_1 =>
 (if (decide (t8_1 < (List.length s_0 : Int))) = true then bindO (idx s_0 t8_1) (fun (xv_2 : GIns) =>
 bindO (f_0 xv_2) (fun (v_2 : Bool) =>
 (if v_2 = true then some t8_1
 else rec_1 (IntKind.i64.wrap (t8_1 + 1)))))
 else some (-1))
def f_slices_IndexFunc_Ins (s_0 : List GIns) (f_0 : GIns → Option Bool) : Option Int :=
 loopK (f_slices_IndexFunc_Ins_B1 s_0 f_0) rounds 0
theorem f_slices_IndexFunc_Ins_ok (s_0 : List GIns) (f_0 : GIns → Option Bool) (g_f_0 : FuncId) (c_f_0 : List AV) (F_f_0 : idFreeL c_f_0 = true) (E_f_0 : entB Tryz.prog g_f_0 = true) (H_f_0 : ∀ (x0 : GIns) (r : Bool), f_0 x0 = some r → PureS Tryz.prog g_f_0 ([.agg [.v (.int .i64 x0.Op), .v (.int .i64 x0.N)]] ++ c_f_0) 0 (.v (.bool r))) (r : Int) (h : f_slices_IndexFunc_Ins s_0 f_0 = some r) : PureS Tryz.prog 66 [.sl 2 (enc s_0), .clo g_f_0 c_f_0] 0 (.v (.int .i64 r)) := by
 unfold PureS
 refine Spec.of_vc Tryz.func66 rfl (by kernel_rfl) (by kernel_rfl) ?_
 rw [f_slices_IndexFunc_Ins] at h
 refine sg fun QQ1 hQ1 => ?_
 simp only [go_sem]
 refine seqQ_normal hQ1 ?_
 refine vc_join (by kernel_rfl) ?_
 refine seq_go_gen ?_
 intro QQ2 hQ2
 refine sg fun QQ3 hQ3 => ?_
 simp only [go_sem]
 refine seqQ_normal hQ3 ?_
 refine vc_block_gen ?_
 intro QQ4 hQ4
 refine vc_loop_of ?_
 refine loop_gen (ι := Nat × Int) (fun ((_, t8_1) : Nat × Int) => (⟨0, [(0, .sl 2 (enc s_0)), (1, .clo g_f_0 c_f_0), (7, .v (.int .i64 (List.length s_0 : Int))), (8, .v (.int .i64 t8_1))], [], 0, 19⟩ : St)) (fun ((n_, t8_1) : Nat × Int) => loopK (f_slices_IndexFunc_Ins_B1 s_0 f_0) n_ t8_1 = some r) (fun p => p.1) (rounds, 0) [] ?_ h ?_ --K[0,1,7];[]
 · simp only [go_sem, Le, AvLeL_free _ F_f_0]
 ·
  rintro ⟨n_1, t8_1⟩ h QQ5 hQ5
  dsimp only at h
  replace h := loopK_some h
  obtain ⟨m_1, rfl, h⟩ := h
  rw [f_slices_IndexFunc_Ins_B1] at h
  refine sg fun QQ6 hQ6 => ?_
  simp only [go_sem]
  refine seqQ_normal hQ6 ?_
  refine sg fun QQ7 hQ7 => ?_
  refine vc_cond_of (b := (decide (t8_1 < (List.length s_0 : Int)))) (by (simp only [go_sem]; done)) (fun hb_4 => ?_) (fun hb_4 => ?_)
  ·
   replace h := if_t h hb_4
   simp only [bool_to_prop] at hb_4
   refine vc_skip_of ?_
   refine seqQ_normal hQ7 ?_
   refine sg fun QQ8 hQ8 => ?_
   refine vc_block_gen ?_
   intro QQ9 hQ9
   refine sg fun QQ10 hQ10 => ?_
   simp only [go_sem]
   refine seqQ_normal hQ10 ?_
   refine sg fun QQ11 hQ11 => ?_
   obtain ⟨xv_2, exv_2, h⟩ := bindO_some h
   obtain ⟨fxv_2a, fxv_2b, fxv_2c⟩ := idx_spec exv_2
   obtain ⟨v_2, ev_2, h⟩ := bindO_some h
   simp only [go_sem, fxv_2a, fxv_2b, fxv_2c, E_f_0]
   refine And.intro (by omega) ?_
   refine call0 (H_f_0 xv_2 v_2 ev_2) (by rfl) (by simp [idFreeL, idFree, F_f_0]) ?_
   simp only [go_sem]
   refine seqQ_normal hQ11 ?_
   refine vc_cond_of (b := v_2) (by (simp only [go_sem]; done)) (fun hb_5 => ?_) (fun hb_5 => ?_)
   ·
    replace h := if_t h hb_5
    refine sg fun QQ12 hQ12 => ?_
    simp only [go_sem]
    refine seqQ_normal hQ12 ?_
    refine vc_ret_of ?_
    refine blockQ_ret hQ9 ?_
    refine seqQ_ret hQ8 ?_
    refine thenQ_ret hQ5 ?_
    refine blockQ_ret hQ4 ?_
    refine seqQ_ret hQ2 ?_
    simp only [go_sem]
    obtain rfl := Option.some.inj h
    refine retW_pure rfl ?_
    simp only [go_sem, Le, AvLeL_free _ F_f_0]
   ·
    replace h := if_f h hb_5
    refine vc_skip_of ?_
    refine blockQ_normal hQ9 ?_
    refine seqQ_normal hQ8 ?_
    simp only [go_sem]
    refine thenQ_normal hQ5 ?_
    refine ⟨(m_1, IntKind.i64.wrap (t8_1 + 1)), [], ?_, h, Nat.lt_succ_self _⟩
    simp only [go_sem, Le, AvLeL_free _ F_f_0]
  ·
   replace h := if_f h hb_4
   simp only [bool_to_prop] at hb_4
   refine vc_exit_of ?_
   refine seqQ_exit hQ7 ?_
   refine thenQ_exit hQ5 ?_
   refine blockQ_exit hQ4 ?_
   refine seqQ_normal hQ2 ?_
   refine sg fun QQ13 hQ13 => ?_
   simp only [go_sem]
   refine seqQ_normal hQ13 ?_
   refine vc_ret_of ?_
   simp only [go_sem]
   obtain rfl := Option.some.inj h
   refine retW_pure rfl ?_
   simp only [go_sem, Le, AvLeL_free _ F_f_0]

def f_slices_ContainsFunc_Ins (s_0 : List GIns) (f_0 : GIns → Option Bool) : Option Bool :=
 bindO (f_slices_IndexFunc_Ins s_0 f_0) (fun (v_0 : Int) =>
 some (decide (0 ≤ v_0)))
theorem f_slices_ContainsFunc_Ins_ok (s_0 : List GIns) (f_0 : GIns → Option Bool) (g_f_0 : FuncId) (c_f_0 : List AV) (F_f_0 : idFreeL c_f_0 = true) (E_f_0 : entB Tryz.prog g_f_0 = true) (H_f_0 : ∀ (x0 : GIns) (r : Bool), f_0 x0 = some r → PureS Tryz.prog g_f_0 ([.agg [.v (.int .i64 x0.Op), .v (.int .i64 x0.N)]] ++ c_f_0) 0 (.v (.bool r))) (r : Bool) (h : f_slices_ContainsFunc_Ins s_0 f_0 = some r) : PureS Tryz.prog 46 [.sl 2 (enc s_0), .clo g_f_0 c_f_0] 0 (.v (.bool r)) := by
 unfold PureS
 refine Spec.of_vc Tryz.func46 rfl (by kernel_rfl) (by kernel_rfl) ?_
 rw [f_slices_ContainsFunc_Ins] at h
 refine sg fun QQ1 hQ1 => ?_
 simp only [go_sem]
 refine seqQ_normal hQ1 ?_
 refine sg fun QQ2 hQ2 => ?_
 obtain ⟨v_0, ev_0, h⟩ := bindO_some h
 simp only [go_sem]
 refine call0 (f_slices_IndexFunc_Ins_ok s_0 f_0 g_f_0 c_f_0 F_f_0 E_f_0 H_f_0 v_0 ev_0) (by rfl) (by simp [idFreeL, idFree, F_f_0]) ?_
 simp only [go_sem]
 refine seqQ_normal hQ2 ?_
 refine vc_ret_of ?_
 simp only [go_sem]
 obtain rfl := Option.some.inj h
 refine retW_pure rfl ?_
 simp only [go_sem, Le, AvLeL_free _ F_f_0]

def f_graph_fits_1 (i_0 : GIns) : Option Bool :=
 bindO (f_graph_small ([i_0.Op] : List Int)) (fun (v_0 : Bool) =>
 some (!v_0))
theorem f_graph_fits_1_ok (i_0 : GIns)  (r : Bool) (h : f_graph_fits_1 i_0 = some r) : PureS Tryz.prog 47 [.agg [.v (.int .i64 i_0.Op), .v (.int .i64 i_0.N)]] 0 (.v (.bool r)) := by
 unfold PureS
 refine Spec.of_vc Tryz.func47 rfl (by kernel_rfl) (by kernel_rfl) ?_
 rw [f_graph_fits_1] at h
 refine sg fun QQ1 hQ1 => ?_
 simp only [go_sem]
 refine seqQ_normal hQ1 ?_
 refine sg fun QQ2 hQ2 => ?_
 have rf_0 : [[.v (.int .i64 i_0.Op)]] = enc ([i_0.Op] : List Int) := by rfl
 obtain ⟨v_0, ev_0, h⟩ := bindO_some h
 simp only [go_sem]
 simp only [rf_0]
 refine callB (s' := (⟨0, [(2, .v (.bool false))], [(0, .box [.v (.int .i64 i_0.Op), .v (.int .i64 i_0.N)])], 1, 8⟩ : St)) (l := [some 0]) (args' := [.sl 1 (enc ([i_0.Op] : List Int))]) ?_ ?_ (f_graph_small_ok ([i_0.Op] : List Int) v_0 ev_0) (by rfl) (by rfl) ?_
 · simp only [go_sem, Le]
 · simp only [go_sem, Le] <;> (repeat' apply And.intro) <;> ((try with_reducible refine TL_eq ?_); (simp [go_sem]; done))
 simp only [go_sem]
 refine seqQ_normal hQ2 ?_
 refine vc_ret_of ?_
 simp only [go_sem]
 obtain rfl := Option.some.inj h
 refine retW_pure rfl ?_
 simp only [go_sem, Le]

def f_slices_IndexFunc_Edge_B1 (s_0 : List GEdge) (f_0 : GEdge → Option Bool) (rec_1 : Int → Option Int) : Int → Option Int :=
 fun t8_1 =>
 (if (decide (t8_1 < (List.length s_0 : Int))) = true then bindO (idx s_0 t8_1) (fun (xv_2 : GEdge) =>
 bindO (f_0 xv_2) (fun (v_2 : Bool) =>
 (if v_2 = true then some t8_1
 else rec_1 (IntKind.i64.wrap (t8_1 + 1)))))
 else some (-1))
def f_slices_IndexFunc_Edge (s_0 : List GEdge) (f_0 : GEdge → Option Bool) : Option Int :=
 loopK (f_slices_IndexFunc_Edge_B1 s_0 f_0) rounds 0
theorem f_slices_IndexFunc_Edge_ok (s_0 : List GEdge) (f_0 : GEdge → Option Bool) (g_f_0 : FuncId) (c_f_0 : List AV) (F_f_0 : idFreeL c_f_0 = true) (E_f_0 : entB Tryz.prog g_f_0 = true) (H_f_0 : ∀ (x0 : GEdge) (r : Bool), f_0 x0 = some r → PureS Tryz.prog g_f_0 ([.agg [.v (.int .i64 x0.From), .v (.int .i64 x0.To), .v (.int .i64 x0.Port), .v (.bool x0.Exchange)]] ++ c_f_0) 0 (.v (.bool r))) (r : Int) (h : f_slices_IndexFunc_Edge s_0 f_0 = some r) : PureS Tryz.prog 67 [.sl 4 (enc s_0), .clo g_f_0 c_f_0] 0 (.v (.int .i64 r)) := by
 unfold PureS
 refine Spec.of_vc Tryz.func67 rfl (by kernel_rfl) (by kernel_rfl) ?_
 rw [f_slices_IndexFunc_Edge] at h
 refine sg fun QQ1 hQ1 => ?_
 simp only [go_sem]
 refine seqQ_normal hQ1 ?_
 refine vc_join (by kernel_rfl) ?_
 refine seq_go_gen ?_
 intro QQ2 hQ2
 refine sg fun QQ3 hQ3 => ?_
 simp only [go_sem]
 refine seqQ_normal hQ3 ?_
 refine vc_block_gen ?_
 intro QQ4 hQ4
 refine vc_loop_of ?_
 refine loop_gen (ι := Nat × Int) (fun ((_, t8_1) : Nat × Int) => (⟨0, [(0, .sl 4 (enc s_0)), (1, .clo g_f_0 c_f_0), (7, .v (.int .i64 (List.length s_0 : Int))), (8, .v (.int .i64 t8_1))], [], 0, 19⟩ : St)) (fun ((n_, t8_1) : Nat × Int) => loopK (f_slices_IndexFunc_Edge_B1 s_0 f_0) n_ t8_1 = some r) (fun p => p.1) (rounds, 0) [] ?_ h ?_ --K[0,1,7];[]
 · simp only [go_sem, Le, AvLeL_free _ F_f_0]
 ·
  rintro ⟨n_1, t8_1⟩ h QQ5 hQ5
  dsimp only at h
  replace h := loopK_some h
  obtain ⟨m_1, rfl, h⟩ := h
  rw [f_slices_IndexFunc_Edge_B1] at h
  refine sg fun QQ6 hQ6 => ?_
  simp only [go_sem]
  refine seqQ_normal hQ6 ?_
  refine sg fun QQ7 hQ7 => ?_
  refine vc_cond_of (b := (decide (t8_1 < (List.length s_0 : Int)))) (by (simp only [go_sem]; done)) (fun hb_4 => ?_) (fun hb_4 => ?_)
  ·
   replace h := if_t h hb_4
   simp only [bool_to_prop] at hb_4
   refine vc_skip_of ?_
   refine seqQ_normal hQ7 ?_
   refine sg fun QQ8 hQ8 => ?_
   refine vc_block_gen ?_
   intro QQ9 hQ9
   refine sg fun QQ10 hQ10 => ?_
   simp only [go_sem]
   refine seqQ_normal hQ10 ?_
   refine sg fun QQ11 hQ11 => ?_
   obtain ⟨xv_2, exv_2, h⟩ := bindO_some h
   obtain ⟨fxv_2a, fxv_2b, fxv_2c⟩ := idx_spec exv_2
   obtain ⟨v_2, ev_2, h⟩ := bindO_some h
   simp only [go_sem, fxv_2a, fxv_2b, fxv_2c, E_f_0]
   refine And.intro (by omega) ?_
   refine call0 (H_f_0 xv_2 v_2 ev_2) (by rfl) (by simp [idFreeL, idFree, F_f_0]) ?_
   simp only [go_sem]
   refine seqQ_normal hQ11 ?_
   refine vc_cond_of (b := v_2) (by (simp only [go_sem]; done)) (fun hb_5 => ?_) (fun hb_5 => ?_)
   ·
    replace h := if_t h hb_5
    refine sg fun QQ12 hQ12 => ?_
    simp only [go_sem]
    refine seqQ_normal hQ12 ?_
    refine vc_ret_of ?_
    refine blockQ_ret hQ9 ?_
    refine seqQ_ret hQ8 ?_
    refine thenQ_ret hQ5 ?_
    refine blockQ_ret hQ4 ?_
    refine seqQ_ret hQ2 ?_
    simp only [go_sem]
    obtain rfl := Option.some.inj h
    refine retW_pure rfl ?_
    simp only [go_sem, Le, AvLeL_free _ F_f_0]
   ·
    replace h := if_f h hb_5
    refine vc_skip_of ?_
    refine blockQ_normal hQ9 ?_
    refine seqQ_normal hQ8 ?_
    simp only [go_sem]
    refine thenQ_normal hQ5 ?_
    refine ⟨(m_1, IntKind.i64.wrap (t8_1 + 1)), [], ?_, h, Nat.lt_succ_self _⟩
    simp only [go_sem, Le, AvLeL_free _ F_f_0]
  ·
   replace h := if_f h hb_4
   simp only [bool_to_prop] at hb_4
   refine vc_exit_of ?_
   refine seqQ_exit hQ7 ?_
   refine thenQ_exit hQ5 ?_
   refine blockQ_exit hQ4 ?_
   refine seqQ_normal hQ2 ?_
   refine sg fun QQ13 hQ13 => ?_
   simp only [go_sem]
   refine seqQ_normal hQ13 ?_
   refine vc_ret_of ?_
   simp only [go_sem]
   obtain rfl := Option.some.inj h
   refine retW_pure rfl ?_
   simp only [go_sem, Le, AvLeL_free _ F_f_0]

def f_slices_ContainsFunc_Edge (s_0 : List GEdge) (f_0 : GEdge → Option Bool) : Option Bool :=
 bindO (f_slices_IndexFunc_Edge s_0 f_0) (fun (v_0 : Int) =>
 some (decide (0 ≤ v_0)))
theorem f_slices_ContainsFunc_Edge_ok (s_0 : List GEdge) (f_0 : GEdge → Option Bool) (g_f_0 : FuncId) (c_f_0 : List AV) (F_f_0 : idFreeL c_f_0 = true) (E_f_0 : entB Tryz.prog g_f_0 = true) (H_f_0 : ∀ (x0 : GEdge) (r : Bool), f_0 x0 = some r → PureS Tryz.prog g_f_0 ([.agg [.v (.int .i64 x0.From), .v (.int .i64 x0.To), .v (.int .i64 x0.Port), .v (.bool x0.Exchange)]] ++ c_f_0) 0 (.v (.bool r))) (r : Bool) (h : f_slices_ContainsFunc_Edge s_0 f_0 = some r) : PureS Tryz.prog 48 [.sl 4 (enc s_0), .clo g_f_0 c_f_0] 0 (.v (.bool r)) := by
 unfold PureS
 refine Spec.of_vc Tryz.func48 rfl (by kernel_rfl) (by kernel_rfl) ?_
 rw [f_slices_ContainsFunc_Edge] at h
 refine sg fun QQ1 hQ1 => ?_
 simp only [go_sem]
 refine seqQ_normal hQ1 ?_
 refine sg fun QQ2 hQ2 => ?_
 obtain ⟨v_0, ev_0, h⟩ := bindO_some h
 simp only [go_sem]
 refine call0 (f_slices_IndexFunc_Edge_ok s_0 f_0 g_f_0 c_f_0 F_f_0 E_f_0 H_f_0 v_0 ev_0) (by rfl) (by simp [idFreeL, idFree, F_f_0]) ?_
 simp only [go_sem]
 refine seqQ_normal hQ2 ?_
 refine vc_ret_of ?_
 simp only [go_sem]
 obtain rfl := Option.some.inj h
 refine retW_pure rfl ?_
 simp only [go_sem, Le, AvLeL_free _ F_f_0]

def f_graph_fits_2 (e_0 : GEdge) : Option Bool :=
 bindO (f_graph_small ([e_0.From, e_0.To, e_0.Port] : List Int)) (fun (v_0 : Bool) =>
 some (!v_0))
theorem f_graph_fits_2_ok (e_0 : GEdge)  (r : Bool) (h : f_graph_fits_2 e_0 = some r) : PureS Tryz.prog 49 [.agg [.v (.int .i64 e_0.From), .v (.int .i64 e_0.To), .v (.int .i64 e_0.Port), .v (.bool e_0.Exchange)]] 0 (.v (.bool r)) := by
 unfold PureS
 refine Spec.of_vc Tryz.func49 rfl (by kernel_rfl) (by kernel_rfl) ?_
 rw [f_graph_fits_2] at h
 refine sg fun QQ1 hQ1 => ?_
 simp only [go_sem]
 refine seqQ_normal hQ1 ?_
 refine sg fun QQ2 hQ2 => ?_
 have rf_0 : [[.v (.int .i64 e_0.From)], [.v (.int .i64 e_0.To)], [.v (.int .i64 e_0.Port)]] = enc ([e_0.From, e_0.To, e_0.Port] : List Int) := by rfl
 obtain ⟨v_0, ev_0, h⟩ := bindO_some h
 simp only [go_sem]
 simp only [rf_0]
 refine callB (s' := (⟨0, [(2, .v (.bool false))], [(0, .box [.v (.int .i64 e_0.From), .v (.int .i64 e_0.To), .v (.int .i64 e_0.Port), .v (.bool e_0.Exchange)])], 1, 12⟩ : St)) (l := [some 0]) (args' := [.sl 1 (enc ([e_0.From, e_0.To, e_0.Port] : List Int))]) ?_ ?_ (f_graph_small_ok ([e_0.From, e_0.To, e_0.Port] : List Int) v_0 ev_0) (by rfl) (by rfl) ?_
 · simp only [go_sem, Le]
 · simp only [go_sem, Le] <;> (repeat' apply And.intro) <;> ((try with_reducible refine TL_eq ?_); (simp [go_sem]; done))
 simp only [go_sem]
 refine seqQ_normal hQ2 ?_
 refine vc_ret_of ?_
 simp only [go_sem]
 obtain rfl := Option.some.inj h
 refine retW_pure rfl ?_
 simp only [go_sem, Le]

def f_graph_fits_J1 (g_0 : GGraph) : Option Bool :=
 bindO (f_slices_ContainsFunc_Edge g_0.Edges (fun x0_ => f_graph_fits_2 x0_)) (fun (v_8 : Bool) =>
 some (!v_8))
def f_graph_fits_B2 (g_0 : GGraph) (rec_2 : Int → Option Bool) : Int → Option Bool :=
 fun t62_3 =>
 (if (decide (t62_3 < (List.length g_0.Nodes : Int))) = true then bindO (idx g_0.Nodes t62_3) (fun (xv_7 : GNode) =>
 bindO (f_graph_small ([xv_7.Kind, xv_7.Scope] : List Int)) (fun (v_13 : Bool) =>
 (if ((!v_13) || (decide (64 < (List.length xv_7.Prog : Int)))) = true then some false
 else bindO (f_slices_ContainsFunc_Ins xv_7.Prog (fun x0_ => f_graph_fits_1 x0_)) (fun (v_14 : Bool) =>
 (if v_14 = true then some false
 else rec_2 (IntKind.i64.wrap (t62_3 + 1)))))))
 else f_graph_fits_J1 g_0)
def f_graph_fits (g_0 : GGraph) : Option Bool :=
 (if (((decide ((List.length g_0.Parent : Int) < 1)) || (decide (8 < (List.length g_0.Parent : Int)))) || (!((List.length g_0.Bound : Int) == (List.length g_0.Parent : Int)))) = true then some false
 else bindO (idx g_0.Parent 0) (fun (xv_0 : Int) =>
 (if (xv_0 == (-1)) = true then bindO (idx g_0.Bound 0) (fun (xv_1 : Int) =>
 (if (xv_1 == 0) = true then guardO (0 ≤ 1 ∧ 1 ≤ (List.length g_0.Parent : Int) ∧ (List.length g_0.Parent : Int) ≤ (List.length g_0.Parent : Int)) (
 bindO (f_graph_small (List.drop (Int.toNat 1) (List.take (List.length g_0.Parent) g_0.Parent))) (fun (v_0 : Bool) =>
 (if v_0 = true then bindO (f_graph_small g_0.Bound) (fun (v_1 : Bool) =>
 (if (!v_1) = true then some false
 else (if ((decide (32 < (List.length g_0.Nodes : Int))) || (decide (64 < (List.length g_0.Edges : Int)))) = true then some false
 else loopK (f_graph_fits_B2 g_0) rounds 0)))
 else some false)))
 else some false))
 else some false)))
theorem f_graph_fits_ok (g_0 : GGraph)  (r : Bool) (h : f_graph_fits g_0 = some r) : PureS Tryz.prog 27 [.agg [.sl 1 (enc g_0.Parent), .sl 1 (enc g_0.Bound), .sl 4 (enc g_0.Nodes), .sl 4 (enc g_0.Edges)]] 0 (.v (.bool r)) := by
 unfold PureS
 refine Spec.of_vc Tryz.func27 rfl (by kernel_rfl) (by kernel_rfl) ?_
 rw [f_graph_fits] at h
 refine sg fun QQ1 hQ1 => ?_
 simp only [go_sem]
 refine seqQ_normal hQ1 ?_
 refine sg fun QQ2 hQ2 => ?_
 simp only [go_sem]
 refine seqQ_normal hQ2 ?_
 refine sg fun QQ3 hQ3 => ?_
 refine sg fun QQ4 hQ4 => ?_
 simp only [go_sem]
 rcases hb_0 : (((decide ((List.length g_0.Parent : Int) < 1)) || (decide (8 < (List.length g_0.Parent : Int)))) || (!((List.length g_0.Bound : Int) == (List.length g_0.Parent : Int)))) with _ | _
 ·
  replace h := if_f h hb_0
  obtain ⟨xv_0, exv_0, h⟩ := bindO_some h
  obtain ⟨fxv_0a, fxv_0b, fxv_0c⟩ := idx_spec exv_0
  simp only [Int.toNat_natCast, Int.reduceToNat] at fxv_0c
  simp only [go_sem, hb_0, fxv_0a, fxv_0b, fxv_0c]
  refine And.intro (by omega) ?_
  rcases hb_1 : (xv_0 == (-1)) with _ | _
  ·
   replace h := if_f h hb_1
   simp only [go_sem, hb_1]
   refine seqQ_normal hQ4 ?_
   refine vc_cond_t (by (simp only [go_sem]; done)) ?_
   refine sg fun QQ5 hQ5 => ?_
   simp only [go_sem]
   refine seqQ_normal hQ5 ?_
   refine vc_ret_of ?_
   refine seqQ_ret hQ3 ?_
   simp only [go_sem]
   obtain rfl := Option.some.inj h
   refine retW_pure rfl ?_
   simp only [go_sem, Le]
  ·
   replace h := if_t h hb_1
   obtain ⟨xv_1, exv_1, h⟩ := bindO_some h
   obtain ⟨fxv_1a, fxv_1b, fxv_1c⟩ := idx_spec exv_1
   simp only [Int.toNat_natCast, Int.reduceToNat] at fxv_1c
   simp only [go_sem, hb_1, fxv_1a, fxv_1b, fxv_1c]
   refine And.intro (by omega) ?_
   rcases hb_2 : (xv_1 == 0) with _ | _
   ·
    replace h := if_f h hb_2
    simp only [go_sem, hb_2]
    refine seqQ_normal hQ4 ?_
    refine vc_cond_t (by (simp only [go_sem]; done)) ?_
    refine sg fun QQ6 hQ6 => ?_
    simp only [go_sem]
    refine seqQ_normal hQ6 ?_
    refine vc_ret_of ?_
    refine seqQ_ret hQ3 ?_
    simp only [go_sem]
    obtain rfl := Option.some.inj h
    refine retW_pure rfl ?_
    simp only [go_sem, Le]
   ·
    replace h := if_t h hb_2
    obtain ⟨g_1, h⟩ := guardO_some h
    obtain ⟨v_0, ev_0, h⟩ := bindO_some h
    simp only [go_sem, hb_2, g_1]
    refine call0 (f_graph_small_ok (List.drop (Int.toNat 1) (List.take (List.length g_0.Parent) g_0.Parent)) v_0 ev_0) (by rfl) (by rfl) ?_
    simp only [go_sem]
    rcases hb_3 : v_0 with _ | _
    ·
     replace h := if_f h hb_3
     simp only [go_sem, hb_3]
     refine seqQ_normal hQ4 ?_
     refine vc_cond_t (by (simp only [go_sem]; done)) ?_
     refine sg fun QQ7 hQ7 => ?_
     simp only [go_sem]
     refine seqQ_normal hQ7 ?_
     refine vc_ret_of ?_
     refine seqQ_ret hQ3 ?_
     simp only [go_sem]
     obtain rfl := Option.some.inj h
     refine retW_pure rfl ?_
     simp only [go_sem, Le]
    ·
     replace h := if_t h hb_3
     obtain ⟨v_1, ev_1, h⟩ := bindO_some h
     simp only [go_sem, hb_3]
     refine call0 (f_graph_small_ok g_0.Bound v_1 ev_1) (by rfl) (by rfl) ?_
     simp only [go_sem]
     refine seqQ_normal hQ4 ?_
     refine vc_cond_of (b := (!v_1)) (by (simp only [go_sem]; done)) (fun hb_4 => ?_) (fun hb_4 => ?_)
     ·
      replace h := if_t h hb_4
      simp only [bool_to_prop] at hb_4
      refine sg fun QQ8 hQ8 => ?_
      simp only [go_sem]
      refine seqQ_normal hQ8 ?_
      refine vc_ret_of ?_
      refine seqQ_ret hQ3 ?_
      simp only [go_sem]
      obtain rfl := Option.some.inj h
      refine retW_pure rfl ?_
      simp only [go_sem, Le]
     ·
      replace h := if_f h hb_4
      simp only [bool_to_prop] at hb_4
      refine vc_skip_of ?_
      refine seqQ_normal hQ3 ?_
      refine sg fun QQ9 hQ9 => ?_
      refine sg fun QQ10 hQ10 => ?_
      simp only [go_sem]
      refine seqQ_normal hQ10 ?_
      refine vc_cond_of (b := ((decide (32 < (List.length g_0.Nodes : Int))) || (decide (64 < (List.length g_0.Edges : Int))))) (by (simp only [go_sem]; done)) (fun hb_5 => ?_) (fun hb_5 => ?_)
      ·
       replace h := if_t h hb_5
       simp only [bool_to_prop] at hb_5
       refine sg fun QQ11 hQ11 => ?_
       simp only [go_sem]
       refine seqQ_normal hQ11 ?_
       refine vc_ret_of ?_
       refine seqQ_ret hQ9 ?_
       simp only [go_sem]
       obtain rfl := Option.some.inj h
       refine retW_pure rfl ?_
       simp only [go_sem, Le]
      ·
       replace h := if_f h hb_5
       simp only [bool_to_prop] at hb_5
       refine vc_skip_of ?_
       refine seqQ_normal hQ9 ?_
       refine vc_join (by kernel_rfl) ?_
       refine seq_cut_gen (ι := Unit) (fun (_ : Unit) => (⟨0, [(1, .ptr 0 0)], [(0, .box [.sl 1 (enc g_0.Parent), .sl 1 (enc g_0.Bound), .sl 4 (enc g_0.Nodes), .sl 4 (enc g_0.Edges)])], 1, 89⟩ : St)) (fun (_ : Unit) => f_graph_fits_J1 g_0 = some r) ?_ ?_ --K[1];[0]
       ·
        intro QQ13 hQ13
        refine sg fun QQ14 hQ14 => ?_
        simp only [go_sem]
        refine seqQ_normal hQ14 ?_
        refine vc_block_gen ?_
        intro QQ15 hQ15
        refine vc_loop_of ?_
        refine loop_gen (ι := Nat × Int) (fun ((_, t62_3) : Nat × Int) => (⟨0, [(1, .ptr 0 0), (60, .sl 4 (enc g_0.Nodes)), (61, .v (.int .i64 (List.length g_0.Nodes : Int))), (62, .v (.int .i64 t62_3))], [(0, .box [.sl 1 (enc g_0.Parent), .sl 1 (enc g_0.Bound), .sl 4 (enc g_0.Nodes), .sl 4 (enc g_0.Edges)])], 1, 89⟩ : St)) (fun ((n_, t62_3) : Nat × Int) => loopK (f_graph_fits_B2 g_0) n_ t62_3 = some r) (fun p => p.1) (rounds, 0) [some 0] ?_ h ?_ --K[1,60,61];[0]
        · simp only [go_sem, Le]
        ·
         rintro ⟨n_2, t62_3⟩ h QQ16 hQ16
         dsimp only at h
         replace h := loopK_some h
         obtain ⟨m_2, rfl, h⟩ := h
         rw [f_graph_fits_B2] at h
         refine sg fun QQ17 hQ17 => ?_
         simp only [go_sem]
         refine seqQ_normal hQ17 ?_
         refine sg fun QQ18 hQ18 => ?_
         refine vc_cond_of (b := (decide (t62_3 < (List.length g_0.Nodes : Int)))) (by (simp only [go_sem]; done)) (fun hb_21 => ?_) (fun hb_21 => ?_)
         ·
          replace h := if_t h hb_21
          simp only [bool_to_prop] at hb_21
          refine vc_skip_of ?_
          refine seqQ_normal hQ18 ?_
          refine sg fun QQ19 hQ19 => ?_
          refine vc_block_gen ?_
          intro QQ20 hQ20
          refine sg fun QQ21 hQ21 => ?_
          obtain ⟨xv_7, exv_7, h⟩ := bindO_some h
          obtain ⟨fxv_7a, fxv_7b, fxv_7c⟩ := idx_spec exv_7
          simp only [go_sem, fxv_7a, fxv_7b, fxv_7c]
          refine And.intro (by omega) ?_
          refine seqQ_normal hQ21 ?_
          refine sg fun QQ22 hQ22 => ?_
          have rf_5 : [[.v (.int .i64 xv_7.Kind)], [.v (.int .i64 xv_7.Scope)]] = enc ([xv_7.Kind, xv_7.Scope] : List Int) := by rfl
          obtain ⟨v_13, ev_13, h⟩ := bindO_some h
          simp only [go_sem]
          simp only [rf_5]
          refine callB (s' := (⟨0, [(1, .ptr 0 0), (5, .ptr 1 0), (60, .sl 4 (enc g_0.Nodes)), (61, .v (.int .i64 (List.length g_0.Nodes : Int))), (62, .v (.int .i64 t62_3))], [(0, .box [.sl 1 (enc g_0.Parent), .sl 1 (enc g_0.Bound), .sl 4 (enc g_0.Nodes), .sl 4 (enc g_0.Edges)]), (1, .box [.v (.int .i64 xv_7.Kind), .v (.int .i64 xv_7.Scope), .v (.int .i64 xv_7.Arg), .sl 2 (enc xv_7.Prog)])], 2, 89⟩ : St)) (l := [some 0, some 1]) (args' := [.sl 1 (enc ([xv_7.Kind, xv_7.Scope] : List Int))]) ?_ ?_ (f_graph_small_ok ([xv_7.Kind, xv_7.Scope] : List Int) v_13 ev_13) (by rfl) (by rfl) ?_
          · simp only [go_sem, Le] <;> (repeat' apply And.intro) <;> first | ((try with_reducible refine TL_eq ?_); omega) | ((try with_reducible refine TL_eq ?_); (simp [go_sem]; done))
          · simp only [go_sem, Le] <;> (repeat' apply And.intro) <;> ((try with_reducible refine TL_eq ?_); (simp [go_sem]; done))
          simp only [go_sem]
          rcases hb_22 : ((!v_13) || (decide (64 < (List.length xv_7.Prog : Int)))) with _ | _
          ·
           replace h := if_f h hb_22
           obtain ⟨v_14, ev_14, h⟩ := bindO_some h
           simp only [go_sem, hb_22]
           refine call0 (f_slices_ContainsFunc_Ins_ok xv_7.Prog (fun x0_ => f_graph_fits_1 x0_) 47 [] (by rfl) (by kernel_rfl) (fun y0 r_ e_ => f_graph_fits_1_ok y0 r_ e_) v_14 ev_14) (by rfl) (by rfl) ?_
           simp only [go_sem]
           refine seqQ_normal hQ22 ?_
           refine vc_cond_of (b := v_14) (by (simp only [go_sem]; done)) (fun hb_23 => ?_) (fun hb_23 => ?_)
           ·
            replace h := if_t h hb_23
            refine sg fun QQ23 hQ23 => ?_
            simp only [go_sem]
            refine seqQ_normal hQ23 ?_
            refine vc_ret_of ?_
            refine blockQ_ret hQ20 ?_
            refine seqQ_ret hQ19 ?_
            refine thenQ_ret hQ16 ?_
            refine blockQ_ret hQ15 ?_
            refine thenQ_ret hQ13 ?_
            simp only [go_sem]
            obtain rfl := Option.some.inj h
            refine retW_pure rfl ?_
            simp only [go_sem, Le]
           ·
            replace h := if_f h hb_23
            refine vc_skip_of ?_
            refine blockQ_normal hQ20 ?_
            refine seqQ_normal hQ19 ?_
            simp only [go_sem]
            refine thenQ_normal hQ16 ?_
            refine ⟨(m_2, IntKind.i64.wrap (t62_3 + 1)), [some 0], ?_, h, Nat.lt_succ_self _⟩
            simp only [go_sem, Le]
          ·
           replace h := if_t h hb_22
           simp only [go_sem, hb_22]
           refine seqQ_normal hQ22 ?_
           refine vc_cond_t (by (simp only [go_sem]; done)) ?_
           refine sg fun QQ24 hQ24 => ?_
           simp only [go_sem]
           refine seqQ_normal hQ24 ?_
           refine vc_ret_of ?_
           refine blockQ_ret hQ20 ?_
           refine seqQ_ret hQ19 ?_
           refine thenQ_ret hQ16 ?_
           refine blockQ_ret hQ15 ?_
           refine thenQ_ret hQ13 ?_
           simp only [go_sem]
           obtain rfl := Option.some.inj h
           refine retW_pure rfl ?_
           simp only [go_sem, Le]
         ·
          replace h := if_f h hb_21
          simp only [bool_to_prop] at hb_21
          refine vc_exit_of ?_
          refine seqQ_exit hQ18 ?_
          refine thenQ_exit hQ16 ?_
          refine blockQ_exit hQ15 ?_
          refine thenQ_normal hQ13 ?_
          refine ⟨(), [some 0], ?_, h⟩
          simp only [go_sem, Le]
       ·
        rintro ⟨⟩ h
        try dsimp only at h
        rw [f_graph_fits_J1] at h
        refine sg fun QQ12 hQ12 => ?_
        obtain ⟨v_8, ev_8, h⟩ := bindO_some h
        simp only [go_sem]
        refine call0 (f_slices_ContainsFunc_Edge_ok g_0.Edges (fun x0_ => f_graph_fits_2 x0_) 49 [] (by rfl) (by kernel_rfl) (fun y0 r_ e_ => f_graph_fits_2_ok y0 r_ e_) v_8 ev_8) (by rfl) (by rfl) ?_
        simp only [go_sem]
        refine seqQ_normal hQ12 ?_
        refine vc_ret_of ?_
        simp only [go_sem]
        obtain rfl := Option.some.inj h
        refine retW_pure rfl ?_
        simp only [go_sem, Le]
 ·
  replace h := if_t h hb_0
  simp only [go_sem, hb_0]
  refine seqQ_normal hQ4 ?_
  refine vc_cond_t (by (simp only [go_sem]; done)) ?_
  refine sg fun QQ25 hQ25 => ?_
  simp only [go_sem]
  refine seqQ_normal hQ25 ?_
  refine vc_ret_of ?_
  refine seqQ_ret hQ3 ?_
  simp only [go_sem]
  obtain rfl := Option.some.inj h
  refine retW_pure rfl ?_
  simp only [go_sem, Le]

def f_graph_writer_add_p0_B1 (l_0 : List Int) (rec_1 : Int × (List UInt8) → Option GGraph_writer) : Int × (List UInt8) → Option GGraph_writer :=
 fun (t8_1, b_1) =>
 (if (decide (t8_1 < (List.length l_0 : Int))) = true then bindO (idx l_0 t8_1) (fun (xv_2 : Int) =>
 bindO (f_wire_Uint b_1 (IntKind.u64.wrap xv_2)) (fun (v_2 : List UInt8) =>
 rec_1 (IntKind.i64.wrap (t8_1 + 1), v_2)))
 else some (⟨b_1⟩ : GGraph_writer))
def f_graph_writer_add_p0 (w_0 : GGraph_writer) (l_0 : List Int) : Option GGraph_writer :=
 loopK (f_graph_writer_add_p0_B1 l_0) rounds (0, w_0.b)
theorem f_graph_writer_add_p0_det (w_0 : GGraph_writer) (l_0 : List Int)  (r : GGraph_writer) (h : f_graph_writer_add_p0 w_0 l_0 = some r) : DetS Tryz.prog 28 [.ptr 0 0, .sl 1 (enc l_0)] [(0, .box [.sl 1 (enc w_0.b)])] 1 (.tup []) [(0, .box [.sl 1 (enc r.b)])] 1 := by
 unfold DetS
 refine Spec.of_vc Tryz.func28 rfl (by kernel_rfl) (by kernel_rfl) ?_
 rw [f_graph_writer_add_p0] at h
 refine sg fun QQ1 hQ1 => ?_
 simp only [go_sem]
 refine seqQ_normal hQ1 ?_
 refine vc_block_gen ?_
 intro QQ2 hQ2
 refine vc_loop_of ?_
 refine loop_gen (ι := Nat × Int × (List UInt8)) (fun ((_, t8_1, b_1) : Nat × Int × (List UInt8)) => (⟨1, [(0, .ptr 0 0), (6, .sl 1 (enc l_0)), (7, .v (.int .i64 (List.length l_0 : Int))), (8, .v (.int .i64 t8_1))], [(0, .box [.sl 1 (enc b_1)])], 1, 23⟩ : St)) (fun ((n_, t8_1, b_1) : Nat × Int × (List UInt8)) => loopK (f_graph_writer_add_p0_B1 l_0) n_ (t8_1, b_1) = some r) (fun p => p.1) (rounds, 0, w_0.b) [] ?_ h ?_ --K[0,6,7];[]
 · simp only [go_sem, Le]
 ·
  rintro ⟨n_1, t8_1, b_1⟩ h QQ3 hQ3
  dsimp only at h
  replace h := loopK_some h
  obtain ⟨m_1, rfl, h⟩ := h
  rw [f_graph_writer_add_p0_B1] at h
  refine sg fun QQ4 hQ4 => ?_
  simp only [go_sem]
  refine seqQ_normal hQ4 ?_
  refine sg fun QQ5 hQ5 => ?_
  refine vc_cond_of (b := (decide (t8_1 < (List.length l_0 : Int)))) (by (simp only [go_sem]; done)) (fun hb_2 => ?_) (fun hb_2 => ?_)
  ·
   replace h := if_t h hb_2
   simp only [bool_to_prop] at hb_2
   refine vc_skip_of ?_
   refine seqQ_normal hQ5 ?_
   refine sg fun QQ6 hQ6 => ?_
   refine vc_block_gen ?_
   intro QQ7 hQ7
   refine sg fun QQ8 hQ8 => ?_
   obtain ⟨xv_2, exv_2, h⟩ := bindO_some h
   obtain ⟨fxv_2a, fxv_2b, fxv_2c⟩ := idx_spec exv_2
   simp only [go_sem, fxv_2a, fxv_2b, fxv_2c]
   refine And.intro (by omega) ?_
   refine seqQ_normal hQ8 ?_
   obtain ⟨v_2, ev_2, h⟩ := bindO_some h
   simp only [go_sem]
   refine callD [] (f_wire_Uint_det b_1 (IntKind.u64.wrap xv_2) v_2 ev_2) (by simp) rfl trivial rfl rfl rfl rfl ?_
   simp only [go_sem]
   refine blockQ_normal hQ7 ?_
   refine seqQ_normal hQ6 ?_
   simp only [go_sem]
   refine thenQ_normal hQ3 ?_
   refine ⟨(m_1, IntKind.i64.wrap (t8_1 + 1), v_2), [], ?_, h, Nat.lt_succ_self _⟩
   simp only [go_sem, Le] <;> (repeat' apply And.intro) <;> ((try with_reducible refine TL_eq ?_); (simp [go_sem]; done))
  ·
   replace h := if_f h hb_2
   simp only [bool_to_prop] at hb_2
   refine vc_exit_of ?_
   refine seqQ_exit hQ5 ?_
   refine thenQ_exit hQ3 ?_
   refine blockQ_exit hQ2 ?_
   simp only [go_sem]
   obtain rfl := Option.some.inj h
   refine retW_det [] ?_
   simp only [go_sem, Le]
def f_graph_writer_sign_p0 (w_0 : GGraph_writer) (nv_0 : Int) : Option GGraph_writer :=
 bindO (f_wire_Int w_0.b nv_0) (fun (v_0 : List UInt8) =>
 some (⟨v_0⟩ : GGraph_writer))
theorem f_graph_writer_sign_p0_det (w_0 : GGraph_writer) (nv_0 : Int)  (r : GGraph_writer) (h : f_graph_writer_sign_p0 w_0 nv_0 = some r) : DetS Tryz.prog 29 [.ptr 0 0, .v (.int .i64 nv_0)] [(0, .box [.sl 1 (enc w_0.b)])] 1 (.tup []) [(0, .box [.sl 1 (enc r.b)])] 1 := by
 unfold DetS
 refine Spec.of_vc Tryz.func29 rfl (by kernel_rfl) (by kernel_rfl) ?_
 rw [f_graph_writer_sign_p0] at h
 obtain ⟨v_0, ev_0, h⟩ := bindO_some h
 simp only [go_sem]
 refine callD [] (f_wire_Int_det w_0.b nv_0 v_0 ev_0) (by simp) rfl trivial rfl rfl rfl rfl ?_
 simp only [go_sem]
 obtain rfl := Option.some.inj h
 refine retW_det [] ?_
 simp only [go_sem, Le] <;> (repeat' apply And.intro) <;> ((try with_reducible refine TL_eq ?_); (simp [go_sem]; done))
end Go.Proofs.YtocnabkanbifdaaGreatDoor
