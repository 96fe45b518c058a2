/-
  What functions of the program compute, each told as a plain function that may give nothing, with the proof that the code does so. No condition beyond those that each theorem names.
-/
import Derived.Test.YtkjinognbjmccaaDoorLibD
import Derived.Test.YtkjinognbjmccaaDoorProg
import Derived.Test.YtkjinognbjmccaaDoorLibS
set_option linter.unusedSimpArgs false
set_option linter.unusedVariables false
set_option linter.unusedSectionVars false
set_option maxHeartbeats 2000000
set_option maxRecDepth 100000
namespace Go.Proofs.YtkjinognbjmccaaDoor
open Go Go.RowKit
theorem ty2_sz : szT Tryd.prog 2 = 1 := by kernel_rfl
theorem ty2_has : hasT Tryd.prog 2 = true := by kernel_rfl
theorem ty2_agg : aggT Tryd.prog 2 = false := by kernel_rfl
theorem ty2_by : bytesT Tryd.prog 2 = 8 := by kernel_rfl
theorem ty2_k : kindT Tryd.prog 2 = some .i64 := by kernel_rfl
theorem ty2_n : nilsX Tryd.prog 2 = [none] := by kernel_rfl
theorem ty2_ar : arrayT Tryd.prog 2 = none := by kernel_rfl
theorem ty2_z : zeroL Tryd.prog 2 = some [.int .i64 0] := by kernel_rfl
theorem ty3_sz : szT Tryd.prog 3 = 1 := by kernel_rfl
theorem ty3_has : hasT Tryd.prog 3 = true := by kernel_rfl
theorem ty3_agg : aggT Tryd.prog 3 = false := by kernel_rfl
theorem ty3_by : bytesT Tryd.prog 3 = 8 := by kernel_rfl
theorem ty3_k : kindT Tryd.prog 3 = some .i64 := by kernel_rfl
theorem ty3_n : nilsX Tryd.prog 3 = [none] := by kernel_rfl
theorem ty3_ar : arrayT Tryd.prog 3 = none := by kernel_rfl
theorem ty3_z : zeroL Tryd.prog 3 = some [.int .i64 0] := by kernel_rfl
theorem ty4_sz : szT Tryd.prog 4 = 1 := by kernel_rfl
theorem ty4_has : hasT Tryd.prog 4 = true := by kernel_rfl
theorem ty4_agg : aggT Tryd.prog 4 = false := by kernel_rfl
theorem ty4_by : bytesT Tryd.prog 4 = 1 := by kernel_rfl
theorem ty4_u : Tryd.prog.underlying 4 = some .bool := by kernel_rfl
theorem ty4_n : nilsX Tryd.prog 4 = [none] := by kernel_rfl
theorem ty4_ar : arrayT Tryd.prog 4 = none := by kernel_rfl
theorem ty4_z : zeroL Tryd.prog 4 = some [.bool false] := by kernel_rfl
theorem ty5_sz : szT Tryd.prog 5 = 1 := by kernel_rfl
theorem ty5_has : hasT Tryd.prog 5 = true := by kernel_rfl
theorem ty5_agg : aggT Tryd.prog 5 = false := by kernel_rfl
theorem ty5_by : bytesT Tryd.prog 5 = 1 := by kernel_rfl
theorem ty5_k : kindT Tryd.prog 5 = some .u8 := by kernel_rfl
theorem ty5_n : nilsX Tryd.prog 5 = [none] := by kernel_rfl
theorem ty5_ar : arrayT Tryd.prog 5 = none := by kernel_rfl
theorem ty5_z : zeroL Tryd.prog 5 = some [.int .u8 0] := by kernel_rfl
theorem ty9_k : kindT Tryd.prog 9 = none := by kernel_rfl
theorem ty9_sz : szT Tryd.prog 9 = 1 := by kernel_rfl
theorem ty9_has : hasT Tryd.prog 9 = true := by kernel_rfl
theorem ty9_agg : aggT Tryd.prog 9 = false := by kernel_rfl
theorem ty9_by : bytesT Tryd.prog 9 = 16 := by kernel_rfl
theorem ty9_u : Tryd.prog.underlying 9 = some .string := by kernel_rfl
theorem ty9_n : nilsX Tryd.prog 9 = [none] := by kernel_rfl
theorem ty9_ar : arrayT Tryd.prog 9 = none := by kernel_rfl
theorem ty9_z : zeroL Tryd.prog 9 = some [.string ⟨#[]⟩] := by kernel_rfl
theorem ty21_sz : szT Tryd.prog 21 = 1 := by kernel_rfl
theorem ty21_has : hasT Tryd.prog 21 = true := by kernel_rfl
theorem ty21_agg : aggT Tryd.prog 21 = false := by kernel_rfl
theorem ty21_by : bytesT Tryd.prog 21 = 4 := by kernel_rfl
theorem ty21_k : kindT Tryd.prog 21 = some .i32 := by kernel_rfl
theorem ty21_n : nilsX Tryd.prog 21 = [none] := by kernel_rfl
theorem ty21_ar : arrayT Tryd.prog 21 = none := by kernel_rfl
theorem ty21_z : zeroL Tryd.prog 21 = some [.int .i32 0] := by kernel_rfl
theorem ty22_sz : szT Tryd.prog 22 = 1 := by kernel_rfl
theorem ty22_has : hasT Tryd.prog 22 = true := by kernel_rfl
theorem ty22_agg : aggT Tryd.prog 22 = false := by kernel_rfl
theorem ty22_by : bytesT Tryd.prog 22 = 24 := by kernel_rfl
theorem ty22_e : sliceT Tryd.prog 22 = some 39 := by kernel_rfl
theorem ty22_n : nilsX Tryd.prog 22 = [some 7] := by kernel_rfl
theorem ty22_ar : arrayT Tryd.prog 22 = none := by kernel_rfl
theorem ty22_z : zeroL Tryd.prog 22 = some [.slice none 0 0] := by kernel_rfl
theorem ty24_sz : szT Tryd.prog 24 = 1 := by kernel_rfl
theorem ty24_has : hasT Tryd.prog 24 = true := by kernel_rfl
theorem ty24_agg : aggT Tryd.prog 24 = false := by kernel_rfl
theorem ty24_by : bytesT Tryd.prog 24 = 8 := by kernel_rfl
theorem ty24_k : kindT Tryd.prog 24 = some .i64 := by kernel_rfl
theorem ty24_n : nilsX Tryd.prog 24 = [none] := by kernel_rfl
theorem ty24_ar : arrayT Tryd.prog 24 = none := by kernel_rfl
theorem ty24_z : zeroL Tryd.prog 24 = some [.int .i64 0] := by kernel_rfl
theorem ty34_sz : szT Tryd.prog 34 = 1 := by kernel_rfl
theorem ty34_has : hasT Tryd.prog 34 = true := by kernel_rfl
theorem ty34_agg : aggT Tryd.prog 34 = false := by kernel_rfl
theorem ty34_by : bytesT Tryd.prog 34 = 24 := by kernel_rfl
theorem ty34_e : sliceT Tryd.prog 34 = some 5 := by kernel_rfl
theorem ty34_n : nilsX Tryd.prog 34 = [some 1] := by kernel_rfl
theorem ty34_ar : arrayT Tryd.prog 34 = none := by kernel_rfl
theorem ty34_z : zeroL Tryd.prog 34 = some [.slice none 0 0] := by kernel_rfl
theorem ty37_sz : szT Tryd.prog 37 = 2 := by kernel_rfl
theorem ty37_has : hasT Tryd.prog 37 = true := by kernel_rfl
theorem ty37_agg : aggT Tryd.prog 37 = true := by kernel_rfl
theorem ty37_by : bytesT Tryd.prog 37 = 16 := by kernel_rfl
theorem ty37_n : nilsX Tryd.prog 37 = [none, none] := by kernel_rfl
theorem ty37_ar : arrayT Tryd.prog 37 = none := by kernel_rfl
theorem ty37_f0 : fieldT Tryd.prog 37 0 = some (0, 2) := by kernel_rfl
theorem ty37_f1 : fieldT Tryd.prog 37 1 = some (1, 2) := by kernel_rfl
theorem ty37_pl : placesL Tryd.prog 37 = some [(0, 1), (1, 1)] := by kernel_rfl
theorem ty37_z : zeroL Tryd.prog 37 = some [.int .i64 0, .int .i64 0] := by kernel_rfl
theorem ty39_sz : szT Tryd.prog 39 = 7 := by kernel_rfl
theorem ty39_has : hasT Tryd.prog 39 = true := by kernel_rfl
theorem ty39_agg : aggT Tryd.prog 39 = true := by kernel_rfl
theorem ty39_by : bytesT Tryd.prog 39 = 56 := by kernel_rfl
theorem ty39_n : nilsX Tryd.prog 39 = [none, none, none, none, none, none, none] := by kernel_rfl
theorem ty39_ar : arrayT Tryd.prog 39 = none := by kernel_rfl
theorem ty39_f0 : fieldT Tryd.prog 39 0 = some (0, 3) := by kernel_rfl
theorem ty39_f1 : fieldT Tryd.prog 39 1 = some (1, 3) := by kernel_rfl
theorem ty39_f2 : fieldT Tryd.prog 39 2 = some (2, 3) := by kernel_rfl
theorem ty39_f3 : fieldT Tryd.prog 39 3 = some (3, 3) := by kernel_rfl
theorem ty39_f4 : fieldT Tryd.prog 39 4 = some (4, 3) := by kernel_rfl
theorem ty39_f5 : fieldT Tryd.prog 39 5 = some (5, 37) := by kernel_rfl
theorem ty39_pl : placesL Tryd.prog 39 = some [(0, 1), (1, 1), (2, 1), (3, 1), (4, 1), (5, 2)] := by kernel_rfl
theorem ty39_z : zeroL Tryd.prog 39 = some [.int .i64 0, .int .i64 0, .int .i64 0, .int .i64 0, .int .i64 0, .int .i64 0, .int .i64 0] := by kernel_rfl
theorem ty40_sz : szT Tryd.prog 40 = 1 := by kernel_rfl
theorem ty40_has : hasT Tryd.prog 40 = true := by kernel_rfl
theorem ty40_agg : aggT Tryd.prog 40 = false := by kernel_rfl
theorem ty40_by : bytesT Tryd.prog 40 = 8 := by kernel_rfl
theorem ty40_n : nilsX Tryd.prog 40 = [none] := by kernel_rfl
theorem ty40_ar : arrayT Tryd.prog 40 = none := by kernel_rfl
theorem ty40_z : zeroL Tryd.prog 40 = some [.pointer none] := by kernel_rfl
theorem ty42_sz : szT Tryd.prog 42 = 2 := by kernel_rfl
theorem ty42_has : hasT Tryd.prog 42 = true := by kernel_rfl
theorem ty42_agg : aggT Tryd.prog 42 = true := by kernel_rfl
theorem ty42_by : bytesT Tryd.prog 42 = 32 := by kernel_rfl
theorem ty42_n : nilsX Tryd.prog 42 = [none, some 1] := by kernel_rfl
theorem ty42_ar : arrayT Tryd.prog 42 = none := by kernel_rfl
theorem ty42_f0 : fieldT Tryd.prog 42 0 = some (0, 40) := by kernel_rfl
theorem ty42_f1 : fieldT Tryd.prog 42 1 = some (1, 34) := by kernel_rfl
theorem ty42_pl : placesL Tryd.prog 42 = some [(0, 1), (1, 1)] := by kernel_rfl
theorem ty42_z : zeroL Tryd.prog 42 = some [.pointer none, .slice none 0 0] := by kernel_rfl
theorem ty46_if : ifaceT Tryd.prog 46 = true := by kernel_rfl
theorem ty50_sz : szT Tryd.prog 50 = 7 := by kernel_rfl
theorem ty50_has : hasT Tryd.prog 50 = true := by kernel_rfl
theorem ty50_agg : aggT Tryd.prog 50 = true := by kernel_rfl
theorem ty50_by : bytesT Tryd.prog 50 = 112 := by kernel_rfl
theorem ty50_n : nilsX Tryd.prog 50 = [none, none, none, none, none, none, none] := by kernel_rfl
theorem ty50_ar : arrayT Tryd.prog 50 = some (7, 9) := by kernel_rfl
theorem ty50_pl : placesL Tryd.prog 50 = some [(0, 1), (1, 1), (2, 1), (3, 1), (4, 1), (5, 1), (6, 1)] := by kernel_rfl
theorem ty50_z : zeroL Tryd.prog 50 = some [.string ⟨#[]⟩, .string ⟨#[]⟩, .string ⟨#[]⟩, .string ⟨#[]⟩, .string ⟨#[]⟩, .string ⟨#[]⟩, .string ⟨#[]⟩] := by kernel_rfl
theorem ty51_sz : szT Tryd.prog 51 = 7 := by kernel_rfl
theorem ty51_has : hasT Tryd.prog 51 = true := by kernel_rfl
theorem ty51_agg : aggT Tryd.prog 51 = true := by kernel_rfl
theorem ty51_by : bytesT Tryd.prog 51 = 56 := by kernel_rfl
theorem ty51_n : nilsX Tryd.prog 51 = [none, none, none, none, none, none, none] := by kernel_rfl
theorem ty51_ar : arrayT Tryd.prog 51 = some (7, 3) := by kernel_rfl
theorem ty51_pl : placesL Tryd.prog 51 = some [(0, 1), (1, 1), (2, 1), (3, 1), (4, 1), (5, 1), (6, 1)] := by kernel_rfl
theorem ty51_z : zeroL Tryd.prog 51 = some [.int .i64 0, .int .i64 0, .int .i64 0, .int .i64 0, .int .i64 0, .int .i64 0, .int .i64 0] := by kernel_rfl
theorem ty54_sz : szT Tryd.prog 54 = 4 := by kernel_rfl
theorem ty54_has : hasT Tryd.prog 54 = true := by kernel_rfl
theorem ty54_agg : aggT Tryd.prog 54 = true := by kernel_rfl
theorem ty54_by : bytesT Tryd.prog 54 = 32 := by kernel_rfl
theorem ty54_n : nilsX Tryd.prog 54 = [none, none, none, none] := by kernel_rfl
theorem ty54_ar : arrayT Tryd.prog 54 = some (4, 3) := by kernel_rfl
theorem ty54_pl : placesL Tryd.prog 54 = some [(0, 1), (1, 1), (2, 1), (3, 1)] := by kernel_rfl
theorem ty54_z : zeroL Tryd.prog 54 = some [.int .i64 0, .int .i64 0, .int .i64 0, .int .i64 0] := by kernel_rfl
theorem ty56_sz : szT Tryd.prog 56 = 1 := by kernel_rfl
theorem ty56_has : hasT Tryd.prog 56 = true := by kernel_rfl
theorem ty56_agg : aggT Tryd.prog 56 = false := by kernel_rfl
theorem ty56_by : bytesT Tryd.prog 56 = 24 := by kernel_rfl
theorem ty56_e : sliceT Tryd.prog 56 = some 9 := by kernel_rfl
theorem ty56_n : nilsX Tryd.prog 56 = [some 1] := by kernel_rfl
theorem ty56_ar : arrayT Tryd.prog 56 = none := by kernel_rfl
theorem ty56_z : zeroL Tryd.prog 56 = some [.slice none 0 0] := by kernel_rfl
theorem ty59_sz : szT Tryd.prog 59 = 1 := by kernel_rfl
theorem ty59_has : hasT Tryd.prog 59 = true := by kernel_rfl
theorem ty59_agg : aggT Tryd.prog 59 = false := by kernel_rfl
theorem ty59_by : bytesT Tryd.prog 59 = 8 := by kernel_rfl
theorem ty59_n : nilsX Tryd.prog 59 = [none] := by kernel_rfl
theorem ty59_ar : arrayT Tryd.prog 59 = none := by kernel_rfl
theorem ty59_z : zeroL Tryd.prog 59 = some [.nilFunc] := by kernel_rfl
theorem ty63_sz : szT Tryd.prog 63 = 3 := by kernel_rfl
theorem ty63_has : hasT Tryd.prog 63 = true := by kernel_rfl
theorem ty63_agg : aggT Tryd.prog 63 = true := by kernel_rfl
theorem ty63_by : bytesT Tryd.prog 63 = 32 := by kernel_rfl
theorem ty63_n : nilsX Tryd.prog 63 = [none, none, none] := by kernel_rfl
theorem ty63_ar : arrayT Tryd.prog 63 = none := by kernel_rfl
theorem ty63_f0 : fieldT Tryd.prog 63 0 = some (0, 9) := by kernel_rfl
theorem ty63_f1 : fieldT Tryd.prog 63 1 = some (1, 3) := by kernel_rfl
theorem ty63_f2 : fieldT Tryd.prog 63 2 = some (2, 4) := by kernel_rfl
theorem ty63_pl : placesL Tryd.prog 63 = some [(0, 1), (1, 1), (2, 1)] := by kernel_rfl
theorem ty63_z : zeroL Tryd.prog 63 = some [.string ⟨#[]⟩, .int .i64 0, .bool false] := by kernel_rfl
theorem ty64_sz : szT Tryd.prog 64 = 1 := by kernel_rfl
theorem ty64_has : hasT Tryd.prog 64 = true := by kernel_rfl
theorem ty64_agg : aggT Tryd.prog 64 = false := by kernel_rfl
theorem ty64_by : bytesT Tryd.prog 64 = 24 := by kernel_rfl
theorem ty64_e : sliceT Tryd.prog 64 = some 63 := by kernel_rfl
theorem ty64_n : nilsX Tryd.prog 64 = [some 3] := by kernel_rfl
theorem ty64_ar : arrayT Tryd.prog 64 = none := by kernel_rfl
theorem ty64_z : zeroL Tryd.prog 64 = some [.slice none 0 0] := by kernel_rfl
theorem ty66_sz : szT Tryd.prog 66 = 1 := by kernel_rfl
theorem ty66_has : hasT Tryd.prog 66 = true := by kernel_rfl
theorem ty66_agg : aggT Tryd.prog 66 = false := by kernel_rfl
theorem ty66_by : bytesT Tryd.prog 66 = 24 := by kernel_rfl
theorem ty66_e : sliceT Tryd.prog 66 = some 69 := by kernel_rfl
theorem ty66_n : nilsX Tryd.prog 66 = [some 1] := by kernel_rfl
theorem ty66_ar : arrayT Tryd.prog 66 = none := by kernel_rfl
theorem ty66_z : zeroL Tryd.prog 66 = some [.slice none 0 0] := by kernel_rfl
theorem ty68_sz : szT Tryd.prog 68 = 1 := by kernel_rfl
theorem ty68_has : hasT Tryd.prog 68 = true := by kernel_rfl
theorem ty68_agg : aggT Tryd.prog 68 = false := by kernel_rfl
theorem ty68_by : bytesT Tryd.prog 68 = 8 := by kernel_rfl
theorem ty68_n : nilsX Tryd.prog 68 = [none] := by kernel_rfl
theorem ty68_ar : arrayT Tryd.prog 68 = none := by kernel_rfl
theorem ty68_z : zeroL Tryd.prog 68 = some [.pointer none] := by kernel_rfl
theorem ty69_sz : szT Tryd.prog 69 = 1 := by kernel_rfl
theorem ty69_has : hasT Tryd.prog 69 = true := by kernel_rfl
theorem ty69_agg : aggT Tryd.prog 69 = false := by kernel_rfl
theorem ty69_by : bytesT Tryd.prog 69 = 8 := by kernel_rfl
theorem ty69_n : nilsX Tryd.prog 69 = [none] := by kernel_rfl
theorem ty69_ar : arrayT Tryd.prog 69 = none := by kernel_rfl
theorem ty69_z : zeroL Tryd.prog 69 = some [.pointer none] := by kernel_rfl
theorem ty72_sz : szT Tryd.prog 72 = 1 := by kernel_rfl
theorem ty72_has : hasT Tryd.prog 72 = true := by kernel_rfl
theorem ty72_agg : aggT Tryd.prog 72 = false := by kernel_rfl
theorem ty72_by : bytesT Tryd.prog 72 = 8 := by kernel_rfl
theorem ty72_n : nilsX Tryd.prog 72 = [none] := by kernel_rfl
theorem ty72_ar : arrayT Tryd.prog 72 = none := by kernel_rfl
theorem ty72_z : zeroL Tryd.prog 72 = some [.pointer none] := by kernel_rfl
theorem ty74_sz : szT Tryd.prog 74 = 1 := by kernel_rfl
theorem ty74_has : hasT Tryd.prog 74 = true := by kernel_rfl
theorem ty74_agg : aggT Tryd.prog 74 = false := by kernel_rfl
theorem ty74_by : bytesT Tryd.prog 74 = 8 := by kernel_rfl
theorem ty74_k : kindT Tryd.prog 74 = some .u64 := by kernel_rfl
theorem ty74_n : nilsX Tryd.prog 74 = [none] := by kernel_rfl
theorem ty74_ar : arrayT Tryd.prog 74 = none := by kernel_rfl
theorem ty74_z : zeroL Tryd.prog 74 = some [.int .u64 0] := by kernel_rfl
theorem ty76_sz : szT Tryd.prog 76 = 1 := by kernel_rfl
theorem ty76_has : hasT Tryd.prog 76 = true := by kernel_rfl
theorem ty76_agg : aggT Tryd.prog 76 = false := by kernel_rfl
theorem ty76_by : bytesT Tryd.prog 76 = 24 := by kernel_rfl
theorem ty76_e : sliceT Tryd.prog 76 = some 78 := by kernel_rfl
theorem ty76_n : nilsX Tryd.prog 76 = [some 2] := by kernel_rfl
theorem ty76_ar : arrayT Tryd.prog 76 = none := by kernel_rfl
theorem ty76_z : zeroL Tryd.prog 76 = some [.slice none 0 0] := by kernel_rfl
theorem ty78_sz : szT Tryd.prog 78 = 2 := by kernel_rfl
theorem ty78_has : hasT Tryd.prog 78 = true := by kernel_rfl
theorem ty78_agg : aggT Tryd.prog 78 = true := by kernel_rfl
theorem ty78_by : bytesT Tryd.prog 78 = 16 := by kernel_rfl
theorem ty78_n : nilsX Tryd.prog 78 = [none, none] := by kernel_rfl
theorem ty78_ar : arrayT Tryd.prog 78 = none := by kernel_rfl
theorem ty78_f0 : fieldT Tryd.prog 78 0 = some (0, 3) := by kernel_rfl
theorem ty78_f1 : fieldT Tryd.prog 78 1 = some (1, 3) := by kernel_rfl
theorem ty78_pl : placesL Tryd.prog 78 = some [(0, 1), (1, 1)] := by kernel_rfl
theorem ty78_z : zeroL Tryd.prog 78 = some [.int .i64 0, .int .i64 0] := by kernel_rfl
theorem ty79_sz : szT Tryd.prog 79 = 1 := by kernel_rfl
theorem ty79_has : hasT Tryd.prog 79 = true := by kernel_rfl
theorem ty79_agg : aggT Tryd.prog 79 = false := by kernel_rfl
theorem ty79_by : bytesT Tryd.prog 79 = 24 := by kernel_rfl
theorem ty79_e : sliceT Tryd.prog 79 = some 2 := by kernel_rfl
theorem ty79_n : nilsX Tryd.prog 79 = [some 1] := by kernel_rfl
theorem ty79_ar : arrayT Tryd.prog 79 = none := by kernel_rfl
theorem ty79_z : zeroL Tryd.prog 79 = some [.slice none 0 0] := by kernel_rfl
theorem en3 : entB Tryd.prog 3 = true := by kernel_rfl
theorem en4 : entB Tryd.prog 4 = true := by kernel_rfl
theorem en5 : entB Tryd.prog 5 = true := by kernel_rfl
theorem en6 : entB Tryd.prog 6 = true := by kernel_rfl
theorem en7 : entB Tryd.prog 7 = true := by kernel_rfl
theorem en8 : entB Tryd.prog 8 = true := by kernel_rfl
theorem en9 : entB Tryd.prog 9 = true := by kernel_rfl
theorem en10 : entB Tryd.prog 10 = true := by kernel_rfl
theorem en11 : entB Tryd.prog 11 = true := by kernel_rfl
theorem en12 : entB Tryd.prog 12 = true := by kernel_rfl
theorem en13 : entB Tryd.prog 13 = true := by kernel_rfl
theorem en14 : entB Tryd.prog 14 = true := by kernel_rfl
theorem en15 : entB Tryd.prog 15 = true := by kernel_rfl
theorem en16 : entB Tryd.prog 16 = true := by kernel_rfl
theorem en17 : entB Tryd.prog 17 = true := by kernel_rfl
theorem en18 : entB Tryd.prog 18 = true := by kernel_rfl
theorem en19 : entB Tryd.prog 19 = true := by kernel_rfl
theorem en20 : entB Tryd.prog 20 = true := by kernel_rfl
theorem en21 : entB Tryd.prog 21 = true := by kernel_rfl
theorem en22 : entB Tryd.prog 22 = true := by kernel_rfl
theorem en23 : entB Tryd.prog 23 = true := by kernel_rfl
theorem en25 : entB Tryd.prog 25 = true := by kernel_rfl
theorem en27 : entB Tryd.prog 27 = true := by kernel_rfl
theorem en34 : entB Tryd.prog 34 = true := by kernel_rfl
theorem en43 : entB Tryd.prog 43 = true := by kernel_rfl
@[go_sem] theorem tyb60_0 : (szT Tryd.prog 2 = 1) ∧ (hasT Tryd.prog 2 = true) ∧ (aggT Tryd.prog 2 = false) ∧ (bytesT Tryd.prog 2 = 8) ∧ (kindT Tryd.prog 2 = some .i64) ∧ (nilsX Tryd.prog 2 = [none]) ∧ (arrayT Tryd.prog 2 = none) ∧ (zeroL Tryd.prog 2 = some [.int .i64 0]) ∧ (szT Tryd.prog 3 = 1) ∧ (hasT Tryd.prog 3 = true) ∧ (aggT Tryd.prog 3 = false) ∧ (bytesT Tryd.prog 3 = 8) ∧ (kindT Tryd.prog 3 = some .i64) ∧ (nilsX Tryd.prog 3 = [none]) ∧ (arrayT Tryd.prog 3 = none) ∧ (zeroL Tryd.prog 3 = some [.int .i64 0]) ∧ (szT Tryd.prog 4 = 1) ∧ (hasT Tryd.prog 4 = true) ∧ (aggT Tryd.prog 4 = false) ∧ (bytesT Tryd.prog 4 = 1) ∧ (Tryd.prog.underlying 4 = some .bool) ∧ (nilsX Tryd.prog 4 = [none]) ∧ (arrayT Tryd.prog 4 = none) ∧ (zeroL Tryd.prog 4 = some [.bool false]) ∧ (szT Tryd.prog 5 = 1) ∧ (hasT Tryd.prog 5 = true) ∧ (aggT Tryd.prog 5 = false) ∧ (bytesT Tryd.prog 5 = 1) ∧ (kindT Tryd.prog 5 = some .u8) ∧ (nilsX Tryd.prog 5 = [none]) ∧ (arrayT Tryd.prog 5 = none) ∧ (zeroL Tryd.prog 5 = some [.int .u8 0]) ∧ (kindT Tryd.prog 9 = none) ∧ (szT Tryd.prog 9 = 1) ∧ (hasT Tryd.prog 9 = true) ∧ (aggT Tryd.prog 9 = false) ∧ (bytesT Tryd.prog 9 = 16) ∧ (Tryd.prog.underlying 9 = some .string) ∧ (nilsX Tryd.prog 9 = [none]) ∧ (arrayT Tryd.prog 9 = none) ∧ (zeroL Tryd.prog 9 = some [.string ⟨#[]⟩]) ∧ (szT Tryd.prog 21 = 1) ∧ (hasT Tryd.prog 21 = true) ∧ (aggT Tryd.prog 21 = false) ∧ (bytesT Tryd.prog 21 = 4) ∧ (kindT Tryd.prog 21 = some .i32) ∧ (nilsX Tryd.prog 21 = [none]) ∧ (arrayT Tryd.prog 21 = none) ∧ (zeroL Tryd.prog 21 = some [.int .i32 0]) ∧ (szT Tryd.prog 22 = 1) ∧ (hasT Tryd.prog 22 = true) ∧ (aggT Tryd.prog 22 = false) ∧ (bytesT Tryd.prog 22 = 24) ∧ (sliceT Tryd.prog 22 = some 39) ∧ (nilsX Tryd.prog 22 = [some 7]) ∧ (arrayT Tryd.prog 22 = none) ∧ (zeroL Tryd.prog 22 = some [.slice none 0 0]) ∧ (szT Tryd.prog 24 = 1) ∧ (hasT Tryd.prog 24 = true) ∧ (aggT Tryd.prog 24 = false) := ⟨ty2_sz, ty2_has, ty2_agg, ty2_by, ty2_k, ty2_n, ty2_ar, ty2_z, ty3_sz, ty3_has, ty3_agg, ty3_by, ty3_k, ty3_n, ty3_ar, ty3_z, ty4_sz, ty4_has, ty4_agg, ty4_by, ty4_u, ty4_n, ty4_ar, ty4_z, ty5_sz, ty5_has, ty5_agg, ty5_by, ty5_k, ty5_n, ty5_ar, ty5_z, ty9_k, ty9_sz, ty9_has, ty9_agg, ty9_by, ty9_u, ty9_n, ty9_ar, ty9_z, ty21_sz, ty21_has, ty21_agg, ty21_by, ty21_k, ty21_n, ty21_ar, ty21_z, ty22_sz, ty22_has, ty22_agg, ty22_by, ty22_e, ty22_n, ty22_ar, ty22_z, ty24_sz, ty24_has, ty24_agg⟩
@[go_sem] theorem tyb120_0 : (bytesT Tryd.prog 24 = 8) ∧ (kindT Tryd.prog 24 = some .i64) ∧ (nilsX Tryd.prog 24 = [none]) ∧ (arrayT Tryd.prog 24 = none) ∧ (zeroL Tryd.prog 24 = some [.int .i64 0]) ∧ (szT Tryd.prog 34 = 1) ∧ (hasT Tryd.prog 34 = true) ∧ (aggT Tryd.prog 34 = false) ∧ (bytesT Tryd.prog 34 = 24) ∧ (sliceT Tryd.prog 34 = some 5) ∧ (nilsX Tryd.prog 34 = [some 1]) ∧ (arrayT Tryd.prog 34 = none) ∧ (zeroL Tryd.prog 34 = some [.slice none 0 0]) ∧ (szT Tryd.prog 37 = 2) ∧ (hasT Tryd.prog 37 = true) ∧ (aggT Tryd.prog 37 = true) ∧ (bytesT Tryd.prog 37 = 16) ∧ (nilsX Tryd.prog 37 = [none, none]) ∧ (arrayT Tryd.prog 37 = none) ∧ (fieldT Tryd.prog 37 0 = some (0, 2)) ∧ (fieldT Tryd.prog 37 1 = some (1, 2)) ∧ (placesL Tryd.prog 37 = some [(0, 1), (1, 1)]) ∧ (zeroL Tryd.prog 37 = some [.int .i64 0, .int .i64 0]) ∧ (szT Tryd.prog 39 = 7) ∧ (hasT Tryd.prog 39 = true) ∧ (aggT Tryd.prog 39 = true) ∧ (bytesT Tryd.prog 39 = 56) ∧ (nilsX Tryd.prog 39 = [none, none, none, none, none, none, none]) ∧ (arrayT Tryd.prog 39 = none) ∧ (fieldT Tryd.prog 39 0 = some (0, 3)) ∧ (fieldT Tryd.prog 39 1 = some (1, 3)) ∧ (fieldT Tryd.prog 39 2 = some (2, 3)) ∧ (fieldT Tryd.prog 39 3 = some (3, 3)) ∧ (fieldT Tryd.prog 39 4 = some (4, 3)) ∧ (fieldT Tryd.prog 39 5 = some (5, 37)) ∧ (placesL Tryd.prog 39 = some [(0, 1), (1, 1), (2, 1), (3, 1), (4, 1), (5, 2)]) ∧ (zeroL Tryd.prog 39 = some [.int .i64 0, .int .i64 0, .int .i64 0, .int .i64 0, .int .i64 0, .int .i64 0, .int .i64 0]) ∧ (szT Tryd.prog 40 = 1) ∧ (hasT Tryd.prog 40 = true) ∧ (aggT Tryd.prog 40 = false) ∧ (bytesT Tryd.prog 40 = 8) ∧ (nilsX Tryd.prog 40 = [none]) ∧ (arrayT Tryd.prog 40 = none) ∧ (zeroL Tryd.prog 40 = some [.pointer none]) ∧ (szT Tryd.prog 42 = 2) ∧ (hasT Tryd.prog 42 = true) ∧ (aggT Tryd.prog 42 = true) ∧ (bytesT Tryd.prog 42 = 32) ∧ (nilsX Tryd.prog 42 = [none, some 1]) ∧ (arrayT Tryd.prog 42 = none) ∧ (fieldT Tryd.prog 42 0 = some (0, 40)) ∧ (fieldT Tryd.prog 42 1 = some (1, 34)) ∧ (placesL Tryd.prog 42 = some [(0, 1), (1, 1)]) ∧ (zeroL Tryd.prog 42 = some [.pointer none, .slice none 0 0]) ∧ (ifaceT Tryd.prog 46 = true) ∧ (szT Tryd.prog 50 = 7) ∧ (hasT Tryd.prog 50 = true) ∧ (aggT Tryd.prog 50 = true) ∧ (bytesT Tryd.prog 50 = 112) ∧ (nilsX Tryd.prog 50 = [none, none, none, none, none, none, none]) := ⟨ty24_by, ty24_k, ty24_n, ty24_ar, ty24_z, ty34_sz, ty34_has, ty34_agg, ty34_by, ty34_e, ty34_n, ty34_ar, ty34_z, ty37_sz, ty37_has, ty37_agg, ty37_by, ty37_n, ty37_ar, ty37_f0, ty37_f1, ty37_pl, ty37_z, ty39_sz, ty39_has, ty39_agg, ty39_by, ty39_n, ty39_ar, ty39_f0, ty39_f1, ty39_f2, ty39_f3, ty39_f4, ty39_f5, ty39_pl, ty39_z, ty40_sz, ty40_has, ty40_agg, ty40_by, ty40_n, ty40_ar, ty40_z, ty42_sz, ty42_has, ty42_agg, ty42_by, ty42_n, ty42_ar, ty42_f0, ty42_f1, ty42_pl, ty42_z, ty46_if, ty50_sz, ty50_has, ty50_agg, ty50_by, ty50_n⟩
@[go_sem] theorem tyb180_0 : (arrayT Tryd.prog 50 = some (7, 9)) ∧ (placesL Tryd.prog 50 = some [(0, 1), (1, 1), (2, 1), (3, 1), (4, 1), (5, 1), (6, 1)]) ∧ (zeroL Tryd.prog 50 = some [.string ⟨#[]⟩, .string ⟨#[]⟩, .string ⟨#[]⟩, .string ⟨#[]⟩, .string ⟨#[]⟩, .string ⟨#[]⟩, .string ⟨#[]⟩]) ∧ (szT Tryd.prog 51 = 7) ∧ (hasT Tryd.prog 51 = true) ∧ (aggT Tryd.prog 51 = true) ∧ (bytesT Tryd.prog 51 = 56) ∧ (nilsX Tryd.prog 51 = [none, none, none, none, none, none, none]) ∧ (arrayT Tryd.prog 51 = some (7, 3)) ∧ (placesL Tryd.prog 51 = some [(0, 1), (1, 1), (2, 1), (3, 1), (4, 1), (5, 1), (6, 1)]) ∧ (zeroL Tryd.prog 51 = some [.int .i64 0, .int .i64 0, .int .i64 0, .int .i64 0, .int .i64 0, .int .i64 0, .int .i64 0]) ∧ (szT Tryd.prog 54 = 4) ∧ (hasT Tryd.prog 54 = true) ∧ (aggT Tryd.prog 54 = true) ∧ (bytesT Tryd.prog 54 = 32) ∧ (nilsX Tryd.prog 54 = [none, none, none, none]) ∧ (arrayT Tryd.prog 54 = some (4, 3)) ∧ (placesL Tryd.prog 54 = some [(0, 1), (1, 1), (2, 1), (3, 1)]) ∧ (zeroL Tryd.prog 54 = some [.int .i64 0, .int .i64 0, .int .i64 0, .int .i64 0]) ∧ (szT Tryd.prog 56 = 1) ∧ (hasT Tryd.prog 56 = true) ∧ (aggT Tryd.prog 56 = false) ∧ (bytesT Tryd.prog 56 = 24) ∧ (sliceT Tryd.prog 56 = some 9) ∧ (nilsX Tryd.prog 56 = [some 1]) ∧ (arrayT Tryd.prog 56 = none) ∧ (zeroL Tryd.prog 56 = some [.slice none 0 0]) ∧ (szT Tryd.prog 59 = 1) ∧ (hasT Tryd.prog 59 = true) ∧ (aggT Tryd.prog 59 = false) ∧ (bytesT Tryd.prog 59 = 8) ∧ (nilsX Tryd.prog 59 = [none]) ∧ (arrayT Tryd.prog 59 = none) ∧ (zeroL Tryd.prog 59 = some [.nilFunc]) ∧ (szT Tryd.prog 63 = 3) ∧ (hasT Tryd.prog 63 = true) ∧ (aggT Tryd.prog 63 = true) ∧ (bytesT Tryd.prog 63 = 32) ∧ (nilsX Tryd.prog 63 = [none, none, none]) ∧ (arrayT Tryd.prog 63 = none) ∧ (fieldT Tryd.prog 63 0 = some (0, 9)) ∧ (fieldT Tryd.prog 63 1 = some (1, 3)) ∧ (fieldT Tryd.prog 63 2 = some (2, 4)) ∧ (placesL Tryd.prog 63 = some [(0, 1), (1, 1), (2, 1)]) ∧ (zeroL Tryd.prog 63 = some [.string ⟨#[]⟩, .int .i64 0, .bool false]) ∧ (szT Tryd.prog 64 = 1) ∧ (hasT Tryd.prog 64 = true) ∧ (aggT Tryd.prog 64 = false) ∧ (bytesT Tryd.prog 64 = 24) ∧ (sliceT Tryd.prog 64 = some 63) ∧ (nilsX Tryd.prog 64 = [some 3]) ∧ (arrayT Tryd.prog 64 = none) ∧ (zeroL Tryd.prog 64 = some [.slice none 0 0]) ∧ (szT Tryd.prog 66 = 1) ∧ (hasT Tryd.prog 66 = true) ∧ (aggT Tryd.prog 66 = false) ∧ (bytesT Tryd.prog 66 = 24) ∧ (sliceT Tryd.prog 66 = some 69) ∧ (nilsX Tryd.prog 66 = [some 1]) ∧ (arrayT Tryd.prog 66 = none) := ⟨ty50_ar, ty50_pl, ty50_z, ty51_sz, ty51_has, ty51_agg, ty51_by, ty51_n, ty51_ar, ty51_pl, ty51_z, ty54_sz, ty54_has, ty54_agg, ty54_by, ty54_n, ty54_ar, ty54_pl, ty54_z, ty56_sz, ty56_has, ty56_agg, ty56_by, ty56_e, ty56_n, ty56_ar, ty56_z, ty59_sz, ty59_has, ty59_agg, ty59_by, ty59_n, ty59_ar, ty59_z, ty63_sz, ty63_has, ty63_agg, ty63_by, ty63_n, ty63_ar, ty63_f0, ty63_f1, ty63_f2, ty63_pl, ty63_z, ty64_sz, ty64_has, ty64_agg, ty64_by, ty64_e, ty64_n, ty64_ar, ty64_z, ty66_sz, ty66_has, ty66_agg, ty66_by, ty66_e, ty66_n, ty66_ar⟩
@[go_sem] theorem tyb240_0 : (zeroL Tryd.prog 66 = some [.slice none 0 0]) ∧ (szT Tryd.prog 68 = 1) ∧ (hasT Tryd.prog 68 = true) ∧ (aggT Tryd.prog 68 = false) ∧ (bytesT Tryd.prog 68 = 8) ∧ (nilsX Tryd.prog 68 = [none]) ∧ (arrayT Tryd.prog 68 = none) ∧ (zeroL Tryd.prog 68 = some [.pointer none]) ∧ (szT Tryd.prog 69 = 1) ∧ (hasT Tryd.prog 69 = true) ∧ (aggT Tryd.prog 69 = false) ∧ (bytesT Tryd.prog 69 = 8) ∧ (nilsX Tryd.prog 69 = [none]) ∧ (arrayT Tryd.prog 69 = none) ∧ (zeroL Tryd.prog 69 = some [.pointer none]) ∧ (szT Tryd.prog 72 = 1) ∧ (hasT Tryd.prog 72 = true) ∧ (aggT Tryd.prog 72 = false) ∧ (bytesT Tryd.prog 72 = 8) ∧ (nilsX Tryd.prog 72 = [none]) ∧ (arrayT Tryd.prog 72 = none) ∧ (zeroL Tryd.prog 72 = some [.pointer none]) ∧ (szT Tryd.prog 74 = 1) ∧ (hasT Tryd.prog 74 = true) ∧ (aggT Tryd.prog 74 = false) ∧ (bytesT Tryd.prog 74 = 8) ∧ (kindT Tryd.prog 74 = some .u64) ∧ (nilsX Tryd.prog 74 = [none]) ∧ (arrayT Tryd.prog 74 = none) ∧ (zeroL Tryd.prog 74 = some [.int .u64 0]) ∧ (szT Tryd.prog 76 = 1) ∧ (hasT Tryd.prog 76 = true) ∧ (aggT Tryd.prog 76 = false) ∧ (bytesT Tryd.prog 76 = 24) ∧ (sliceT Tryd.prog 76 = some 78) ∧ (nilsX Tryd.prog 76 = [some 2]) ∧ (arrayT Tryd.prog 76 = none) ∧ (zeroL Tryd.prog 76 = some [.slice none 0 0]) ∧ (szT Tryd.prog 78 = 2) ∧ (hasT Tryd.prog 78 = true) ∧ (aggT Tryd.prog 78 = true) ∧ (bytesT Tryd.prog 78 = 16) ∧ (nilsX Tryd.prog 78 = [none, none]) ∧ (arrayT Tryd.prog 78 = none) ∧ (fieldT Tryd.prog 78 0 = some (0, 3)) ∧ (fieldT Tryd.prog 78 1 = some (1, 3)) ∧ (placesL Tryd.prog 78 = some [(0, 1), (1, 1)]) ∧ (zeroL Tryd.prog 78 = some [.int .i64 0, .int .i64 0]) ∧ (szT Tryd.prog 79 = 1) ∧ (hasT Tryd.prog 79 = true) ∧ (aggT Tryd.prog 79 = false) ∧ (bytesT Tryd.prog 79 = 24) ∧ (sliceT Tryd.prog 79 = some 2) ∧ (nilsX Tryd.prog 79 = [some 1]) ∧ (arrayT Tryd.prog 79 = none) ∧ (zeroL Tryd.prog 79 = some [.slice none 0 0]) ∧ (entB Tryd.prog 3 = true) ∧ (entB Tryd.prog 4 = true) ∧ (entB Tryd.prog 5 = true) ∧ (entB Tryd.prog 6 = true) := ⟨ty66_z, ty68_sz, ty68_has, ty68_agg, ty68_by, ty68_n, ty68_ar, ty68_z, ty69_sz, ty69_has, ty69_agg, ty69_by, ty69_n, ty69_ar, ty69_z, ty72_sz, ty72_has, ty72_agg, ty72_by, ty72_n, ty72_ar, ty72_z, ty74_sz, ty74_has, ty74_agg, ty74_by, ty74_k, ty74_n, ty74_ar, ty74_z, ty76_sz, ty76_has, ty76_agg, ty76_by, ty76_e, ty76_n, ty76_ar, ty76_z, ty78_sz, ty78_has, ty78_agg, ty78_by, ty78_n, ty78_ar, ty78_f0, ty78_f1, ty78_pl, ty78_z, ty79_sz, ty79_has, ty79_agg, ty79_by, ty79_e, ty79_n, ty79_ar, ty79_z, en3, en4, en5, en6⟩
@[go_sem] theorem tyb300_0 : (entB Tryd.prog 7 = true) ∧ (entB Tryd.prog 8 = true) ∧ (entB Tryd.prog 9 = true) ∧ (entB Tryd.prog 10 = true) ∧ (entB Tryd.prog 11 = true) ∧ (entB Tryd.prog 12 = true) ∧ (entB Tryd.prog 13 = true) ∧ (entB Tryd.prog 14 = true) ∧ (entB Tryd.prog 15 = true) ∧ (entB Tryd.prog 16 = true) ∧ (entB Tryd.prog 17 = true) ∧ (entB Tryd.prog 18 = true) ∧ (entB Tryd.prog 19 = true) ∧ (entB Tryd.prog 20 = true) ∧ (entB Tryd.prog 21 = true) ∧ (entB Tryd.prog 22 = true) ∧ (entB Tryd.prog 23 = true) ∧ (entB Tryd.prog 25 = true) ∧ (entB Tryd.prog 27 = true) ∧ (entB Tryd.prog 34 = true) ∧ (entB Tryd.prog 43 = true) := ⟨en7, en8, en9, en10, en11, en12, en13, en14, en15, en16, en17, en18, en19, en20, en21, en22, en23, en25, en27, en34, en43⟩
theorem mixed : Tryd.prog.follows .mixedOrders = true := by kernel_rfl
structure Arr4 (α : Type) where
 a0 : α
 a1 : α
 a2 : α
 a3 : α
instance {α : Type} [Row α] : Row (Arr4 α) := ⟨Row.sz α + Row.sz α + Row.sz α + Row.sz α, fun x => Row.row x.a0 ++ Row.row x.a1 ++ Row.row x.a2 ++ Row.row x.a3⟩
instance {α : Type} [Dat α] : Dat (Arr4 α) where
 ct := Dat.ct α ++ (Dat.ct α ++ (Dat.ct α ++ (Dat.ct α)))
 ok x := Dat.ok x.a0 ∧ Dat.ok x.a1 ∧ Dat.ok x.a2 ∧ Dat.ok x.a3
 len := by simp only [List.length_append, Dat.len]; (try simp only [Row.sz]); (try omega)
 of avs h := by
  obtain ⟨b0, r0, rfl, h0, g0⟩ := rowOK_split h
  obtain ⟨b1, r1, rfl, h1, g1⟩ := rowOK_split g0
  obtain ⟨b2, r2, rfl, h2, g2⟩ := rowOK_split g1
  obtain ⟨x0, rfl, k0⟩ := Dat.of (α := α) _ h0
  obtain ⟨x1, rfl, k1⟩ := Dat.of (α := α) _ h1
  obtain ⟨x2, rfl, k2⟩ := Dat.of (α := α) _ h2
  obtain ⟨x3, rfl, k3⟩ := Dat.of (α := α) _ g2
  exact ⟨⟨x0, x1, x2, x3⟩, by simp only [Row.row, List.append_assoc], k0, k1, k2, k3⟩
structure Arr7 (α : Type) where
 a0 : α
 a1 : α
 a2 : α
 a3 : α
 a4 : α
 a5 : α
 a6 : α
instance {α : Type} [Row α] : Row (Arr7 α) := ⟨Row.sz α + Row.sz α + Row.sz α + Row.sz α + Row.sz α + Row.sz α + Row.sz α, fun x => Row.row x.a0 ++ Row.row x.a1 ++ Row.row x.a2 ++ Row.row x.a3 ++ Row.row x.a4 ++ Row.row x.a5 ++ Row.row x.a6⟩
instance {α : Type} [Dat α] : Dat (Arr7 α) where
 ct := Dat.ct α ++ (Dat.ct α ++ (Dat.ct α ++ (Dat.ct α ++ (Dat.ct α ++ (Dat.ct α ++ (Dat.ct α))))))
 ok x := Dat.ok x.a0 ∧ Dat.ok x.a1 ∧ Dat.ok x.a2 ∧ Dat.ok x.a3 ∧ Dat.ok x.a4 ∧ Dat.ok x.a5 ∧ Dat.ok x.a6
 len := by simp only [List.length_append, Dat.len]; (try simp only [Row.sz]); (try omega)
 of avs h := by
  obtain ⟨b0, r0, rfl, h0, g0⟩ := rowOK_split h
  obtain ⟨b1, r1, rfl, h1, g1⟩ := rowOK_split g0
  obtain ⟨b2, r2, rfl, h2, g2⟩ := rowOK_split g1
  obtain ⟨b3, r3, rfl, h3, g3⟩ := rowOK_split g2
  obtain ⟨b4, r4, rfl, h4, g4⟩ := rowOK_split g3
  obtain ⟨b5, r5, rfl, h5, g5⟩ := rowOK_split g4
  obtain ⟨x0, rfl, k0⟩ := Dat.of (α := α) _ h0
  obtain ⟨x1, rfl, k1⟩ := Dat.of (α := α) _ h1
  obtain ⟨x2, rfl, k2⟩ := Dat.of (α := α) _ h2
  obtain ⟨x3, rfl, k3⟩ := Dat.of (α := α) _ h3
  obtain ⟨x4, rfl, k4⟩ := Dat.of (α := α) _ h4
  obtain ⟨x5, rfl, k5⟩ := Dat.of (α := α) _ h5
  obtain ⟨x6, rfl, k6⟩ := Dat.of (α := α) _ g5
  exact ⟨⟨x0, x1, x2, x3, x4, x5, x6⟩, by simp only [Row.row, List.append_assoc], k0, k1, k2, k3, k4, k5, k6⟩
structure GScript_shape where
 word : GStr
 many : Int
 record : Bool
instance : Row GScript_shape := ⟨3, fun x => [.v (.string ⟨⟨x.word.s⟩⟩), .v (.int .i64 x.many), .v (.bool x.record)]⟩
@[go_sem] theorem row_GScript_shape (x : GScript_shape) : Row.row x = [.v (.string ⟨⟨x.word.s⟩⟩), .v (.int .i64 x.many), .v (.bool x.record)] := rfl
@[go_sem] theorem sz_GScript_shape : Row.sz GScript_shape = 3 := rfl
instance : Dat GScript_shape where
 ct := Dat.ct GStr ++ (Dat.ct Int ++ (Dat.ct Bool))
 ok x := Dat.ok x.word ∧ Dat.ok x.many ∧ Dat.ok x.record
 len := rfl
 of avs h := by
  obtain ⟨b0, r0, rfl, h0, g0⟩ := rowOK_split h
  obtain ⟨b1, r1, rfl, h1, g1⟩ := rowOK_split g0
  obtain ⟨x0, rfl, k0⟩ := Dat.of (α := GStr) _ h0
  obtain ⟨x1, rfl, k1⟩ := Dat.of (α := Int) _ h1
  obtain ⟨x2, rfl, k2⟩ := Dat.of (α := Bool) _ g1
  exact ⟨⟨x0, x1, x2⟩, rfl, k0, k1, k2⟩
structure GRec where
 K : Int
 V : Int
instance : Row GRec := ⟨2, fun x => [.v (.int .i64 x.K), .v (.int .i64 x.V)]⟩
@[go_sem] theorem row_GRec (x : GRec) : Row.row x = [.v (.int .i64 x.K), .v (.int .i64 x.V)] := rfl
@[go_sem] theorem sz_GRec : Row.sz GRec = 2 := rfl
instance : Dat GRec where
 ct := Dat.ct Int ++ (Dat.ct Int)
 ok x := Dat.ok x.K ∧ Dat.ok x.V
 len := rfl
 of avs h := by
  obtain ⟨b0, r0, rfl, h0, g0⟩ := rowOK_split h
  obtain ⟨x0, rfl, k0⟩ := Dat.of (α := Int) _ h0
  obtain ⟨x1, rfl, k1⟩ := Dat.of (α := Int) _ g0
  exact ⟨⟨x0, x1⟩, rfl, k0, k1⟩
structure GAct where
 Kind : Int
 A : Int
 B : Int
 C : Int
 D : Int
 Rec : GRec
instance : Row GAct := ⟨7, fun x => [.v (.int .i64 x.Kind), .v (.int .i64 x.A), .v (.int .i64 x.B), .v (.int .i64 x.C), .v (.int .i64 x.D), .v (.int .i64 x.Rec.K), .v (.int .i64 x.Rec.V)]⟩
@[go_sem] theorem row_GAct (x : GAct) : Row.row x = [.v (.int .i64 x.Kind), .v (.int .i64 x.A), .v (.int .i64 x.B), .v (.int .i64 x.C), .v (.int .i64 x.D), .v (.int .i64 x.Rec.K), .v (.int .i64 x.Rec.V)] := rfl
@[go_sem] theorem sz_GAct : Row.sz GAct = 7 := rfl
instance : Dat GAct where
 ct := Dat.ct Int ++ (Dat.ct Int ++ (Dat.ct Int ++ (Dat.ct Int ++ (Dat.ct Int ++ (Dat.ct GRec)))))
 ok x := Dat.ok x.Kind ∧ Dat.ok x.A ∧ Dat.ok x.B ∧ Dat.ok x.C ∧ Dat.ok x.D ∧ Dat.ok x.Rec
 len := rfl
 of avs h := by
  obtain ⟨b0, r0, rfl, h0, g0⟩ := rowOK_split h
  obtain ⟨b1, r1, rfl, h1, g1⟩ := rowOK_split g0
  obtain ⟨b2, r2, rfl, h2, g2⟩ := rowOK_split g1
  obtain ⟨b3, r3, rfl, h3, g3⟩ := rowOK_split g2
  obtain ⟨b4, r4, rfl, h4, g4⟩ := rowOK_split g3
  obtain ⟨x0, rfl, k0⟩ := Dat.of (α := Int) _ h0
  obtain ⟨x1, rfl, k1⟩ := Dat.of (α := Int) _ h1
  obtain ⟨x2, rfl, k2⟩ := Dat.of (α := Int) _ h2
  obtain ⟨x3, rfl, k3⟩ := Dat.of (α := Int) _ h3
  obtain ⟨x4, rfl, k4⟩ := Dat.of (α := Int) _ h4
  obtain ⟨x5, rfl, k5⟩ := Dat.of (α := GRec) _ g4
  exact ⟨⟨x0, x1, x2, x3, x4, x5⟩, rfl, k0, k1, k2, k3, k4, k5⟩
@[go_sem] theorem eqT37 : EqT Tryd.prog 37 [some .i64, some .i64] := EqT_of (by kernel_rfl) (by kernel_rfl) (by kernel_rfl)
@[go_sem] theorem eqT39 : EqT Tryd.prog 39 [some .i64, some .i64, some .i64, some .i64, some .i64, some .i64, some .i64] := EqT_of (by kernel_rfl) (by kernel_rfl) (by kernel_rfl)
attribute [go_sem] Tryd.ntmps3 Tryd.results3 Tryd.ntmps4 Tryd.results4 Tryd.ntmps5 Tryd.results5 Tryd.ntmps6 Tryd.results6 Tryd.ntmps7 Tryd.results7 Tryd.ntmps8 Tryd.results8 Tryd.ntmps9 Tryd.results9 Tryd.ntmps10 Tryd.results10 Tryd.ntmps11 Tryd.results11 Tryd.ntmps12 Tryd.results12 Tryd.ntmps13 Tryd.results13 Tryd.ntmps14 Tryd.results14 Tryd.ntmps15 Tryd.results15 Tryd.ntmps16 Tryd.results16 Tryd.ntmps17 Tryd.results17 Tryd.ntmps18 Tryd.results18 Tryd.ntmps19 Tryd.results19 Tryd.ntmps20 Tryd.results20 Tryd.ntmps21 Tryd.results21 Tryd.ntmps22 Tryd.results22 Tryd.ntmps23 Tryd.results23 Tryd.ntmps25 Tryd.results25 Tryd.ntmps27 Tryd.results27 Tryd.ntmps34 Tryd.results34 Tryd.ntmps43 Tryd.results43

def lay22_ren : Go.Shelf.Ren := ⟨fun | 171 => 22 | 243 => 28 | 246 => 29 | 283 => 35 | 284 => 36 | 285 => 37 | 286 => 38 | 129 => 45 | 317 => 44 | 318 => 46 | 319 => 47 | 320 => 48 | 337 => 56 | 338 => 57 | n => n, fun | 3 => 3 | 9 => 9 | 2 => 2 | 4 => 4 | 171 => 88 | 0 => 0 | 53 => 74 | 37 => 34 | 5 => 5 | 173 => 91 | 212 => 101 | 51 => 102 | 20 => 20 | 213 => 103 | 46 => 105 | 232 => 121 | 233 => 122 | n => n, fun | 17 => 0 | 18 => 4 | 19 => 5 | n => n⟩
theorem lay22 : Go.Proofs.LaysM.n171 Tryd.prog lay22_ren := {
 mixed := by kernel_rfl
 f129 := Tryd.func45.trans (congrArg some (by kernel_rfl))
 f171 := Tryd.func22.trans (congrArg some (by kernel_rfl))
 f243 := Tryd.func28.trans (congrArg some (by kernel_rfl))
 f246 := Tryd.func29.trans (congrArg some (by kernel_rfl))
 f283 := Tryd.func35.trans (congrArg some (by kernel_rfl))
 f284 := Tryd.func36.trans (congrArg some (by kernel_rfl))
 f285 := Tryd.func37.trans (congrArg some (by kernel_rfl))
 f286 := Tryd.func38.trans (congrArg some (by kernel_rfl))
 f317 := Tryd.func44.trans (congrArg some (by kernel_rfl))
 f318 := Tryd.func46.trans (congrArg some (by kernel_rfl))
 f319 := Tryd.func47.trans (congrArg some (by kernel_rfl))
 f320 := Tryd.func48.trans (congrArg some (by kernel_rfl))
 f337 := Tryd.func56.trans (congrArg some (by kernel_rfl))
 f338 := Tryd.func57.trans (congrArg some (by kernel_rfl))
 t0 := Tryd.underlying0
 a0 := Tryd.isAgg0
 z0 := Tryd.sizeOf0
 v0 := Tryd.zeroValue0
 t2 := Tryd.underlying2
 a2 := Tryd.isAgg2
 z2 := Tryd.sizeOf2
 v2 := Tryd.zeroValue2
 t3 := Tryd.underlying3
 a3 := Tryd.isAgg3
 z3 := Tryd.sizeOf3
 v3 := Tryd.zeroValue3
 t4 := Tryd.underlying4
 a4 := Tryd.isAgg4
 z4 := Tryd.sizeOf4
 v4 := Tryd.zeroValue4
 t5 := Tryd.underlying5
 a5 := Tryd.isAgg5
 z5 := Tryd.sizeOf5
 v5 := Tryd.zeroValue5
 t9 := Tryd.underlying9
 a9 := Tryd.isAgg9
 z9 := Tryd.sizeOf9
 v9 := Tryd.zeroValue9
 t20 := Tryd.underlying20
 a20 := Tryd.isAgg20
 z20 := Tryd.sizeOf20
 v20 := Tryd.zeroValue20
 t37 := Tryd.underlying34
 a37 := Tryd.isAgg34
 z37 := Tryd.sizeOf34
 v37 := Tryd.zeroValue34
 t46 := Tryd.underlying105
 a46 := Tryd.isAgg105
 z46 := Tryd.sizeOf105
 v46 := Tryd.zeroValue105
 t51 := Tryd.underlying102
 a51 := Tryd.isAgg102
 z51 := Tryd.sizeOf102
 v51 := Tryd.zeroValue102
 t53 := Tryd.underlying74
 a53 := Tryd.isAgg74
 z53 := Tryd.sizeOf74
 v53 := Tryd.zeroValue74
 t171 := Tryd.underlying88
 a171 := Tryd.isAgg88
 z171 := Tryd.sizeOf88
 v171 := Tryd.zeroValue88
 t173 := Tryd.underlying91
 a173 := Tryd.isAgg91
 z173 := Tryd.sizeOf91
 v173 := Tryd.zeroValue91
 t212 := Tryd.underlying101
 a212 := Tryd.isAgg101
 z212 := Tryd.sizeOf101
 v212 := Tryd.zeroValue101
 t213 := Tryd.underlying103
 a213 := Tryd.isAgg103
 z213 := Tryd.sizeOf103
 t232 := Tryd.underlying121
 a232 := Tryd.isAgg121
 z232 := Tryd.sizeOf121
 v232 := Tryd.zeroValue121
 t233 := Tryd.underlying122
 a233 := Tryd.isAgg122
 z233 := Tryd.sizeOf122
 v233 := Tryd.zeroValue122
 g17 := by kernel_rfl
 g18 := by kernel_rfl
 g19 := by kernel_rfl
 i0 := by kernel_rfl
 i2 := by kernel_rfl
 i3 := by kernel_rfl
 i4 := by kernel_rfl
 i5 := by kernel_rfl
 i9 := by kernel_rfl
 i20 := by kernel_rfl
 i37 := by kernel_rfl
 i46 := by kernel_rfl
 i51 := by kernel_rfl
 i53 := by kernel_rfl
 i171 := by kernel_rfl
 i173 := by kernel_rfl
 i212 := by kernel_rfl
 i232 := by kernel_rfl
 i233 := by kernel_rfl
 m17 := by kernel_rfl
 m18 := by kernel_rfl
 m19 := by kernel_rfl }
def f_strconv_Itoa (n_0 : Int) : Option (List UInt8) := itoaF n_0
theorem f_strconv_Itoa_ok (n_0 : Int) (r : List UInt8) (h : f_strconv_Itoa n_0 = some r) : PureS Tryd.prog 22 [.v (.int .i64 n_0)] 0 (.v (.string ⟨⟨r⟩⟩)) :=
 itoa_pure lay22 (by kernel_rfl) (by kernel_rfl) h

def lay23_ren : Go.Shelf.Ren := ⟨fun | 173 => 23 | 246 => 29 | 283 => 35 | 284 => 36 | 285 => 37 | 286 => 38 | 129 => 45 | 317 => 44 | 318 => 46 | 319 => 47 | 320 => 48 | 337 => 56 | 338 => 57 | n => n, fun | 2 => 2 | 3 => 3 | 9 => 9 | 4 => 4 | 171 => 88 | 0 => 0 | 53 => 74 | 37 => 34 | 5 => 5 | 173 => 91 | 212 => 101 | 51 => 102 | 20 => 20 | 213 => 103 | 46 => 105 | 232 => 121 | 233 => 122 | n => n, fun | 17 => 0 | 18 => 4 | 19 => 5 | n => n⟩
theorem lay23 : Go.Proofs.LaysM.n173 Tryd.prog lay23_ren := {
 mixed := by kernel_rfl
 f129 := Tryd.func45.trans (congrArg some (by kernel_rfl))
 f173 := Tryd.func23.trans (congrArg some (by kernel_rfl))
 f246 := Tryd.func29.trans (congrArg some (by kernel_rfl))
 f283 := Tryd.func35.trans (congrArg some (by kernel_rfl))
 f284 := Tryd.func36.trans (congrArg some (by kernel_rfl))
 f285 := Tryd.func37.trans (congrArg some (by kernel_rfl))
 f286 := Tryd.func38.trans (congrArg some (by kernel_rfl))
 f317 := Tryd.func44.trans (congrArg some (by kernel_rfl))
 f318 := Tryd.func46.trans (congrArg some (by kernel_rfl))
 f319 := Tryd.func47.trans (congrArg some (by kernel_rfl))
 f320 := Tryd.func48.trans (congrArg some (by kernel_rfl))
 f337 := Tryd.func56.trans (congrArg some (by kernel_rfl))
 f338 := Tryd.func57.trans (congrArg some (by kernel_rfl))
 t0 := Tryd.underlying0
 a0 := Tryd.isAgg0
 z0 := Tryd.sizeOf0
 v0 := Tryd.zeroValue0
 t2 := Tryd.underlying2
 a2 := Tryd.isAgg2
 z2 := Tryd.sizeOf2
 v2 := Tryd.zeroValue2
 t3 := Tryd.underlying3
 a3 := Tryd.isAgg3
 z3 := Tryd.sizeOf3
 v3 := Tryd.zeroValue3
 t4 := Tryd.underlying4
 a4 := Tryd.isAgg4
 z4 := Tryd.sizeOf4
 v4 := Tryd.zeroValue4
 t5 := Tryd.underlying5
 a5 := Tryd.isAgg5
 z5 := Tryd.sizeOf5
 v5 := Tryd.zeroValue5
 t9 := Tryd.underlying9
 a9 := Tryd.isAgg9
 z9 := Tryd.sizeOf9
 v9 := Tryd.zeroValue9
 t20 := Tryd.underlying20
 a20 := Tryd.isAgg20
 z20 := Tryd.sizeOf20
 v20 := Tryd.zeroValue20
 t37 := Tryd.underlying34
 a37 := Tryd.isAgg34
 z37 := Tryd.sizeOf34
 v37 := Tryd.zeroValue34
 t46 := Tryd.underlying105
 a46 := Tryd.isAgg105
 z46 := Tryd.sizeOf105
 v46 := Tryd.zeroValue105
 t51 := Tryd.underlying102
 a51 := Tryd.isAgg102
 z51 := Tryd.sizeOf102
 v51 := Tryd.zeroValue102
 t53 := Tryd.underlying74
 a53 := Tryd.isAgg74
 z53 := Tryd.sizeOf74
 v53 := Tryd.zeroValue74
 t171 := Tryd.underlying88
 a171 := Tryd.isAgg88
 z171 := Tryd.sizeOf88
 v171 := Tryd.zeroValue88
 t173 := Tryd.underlying91
 a173 := Tryd.isAgg91
 z173 := Tryd.sizeOf91
 v173 := Tryd.zeroValue91
 t212 := Tryd.underlying101
 a212 := Tryd.isAgg101
 z212 := Tryd.sizeOf101
 v212 := Tryd.zeroValue101
 t213 := Tryd.underlying103
 a213 := Tryd.isAgg103
 z213 := Tryd.sizeOf103
 t232 := Tryd.underlying121
 a232 := Tryd.isAgg121
 z232 := Tryd.sizeOf121
 v232 := Tryd.zeroValue121
 t233 := Tryd.underlying122
 a233 := Tryd.isAgg122
 z233 := Tryd.sizeOf122
 v233 := Tryd.zeroValue122
 g17 := by kernel_rfl
 g18 := by kernel_rfl
 g19 := by kernel_rfl
 i0 := by kernel_rfl
 i2 := by kernel_rfl
 i3 := by kernel_rfl
 i4 := by kernel_rfl
 i5 := by kernel_rfl
 i9 := by kernel_rfl
 i20 := by kernel_rfl
 i37 := by kernel_rfl
 i46 := by kernel_rfl
 i51 := by kernel_rfl
 i53 := by kernel_rfl
 i171 := by kernel_rfl
 i173 := by kernel_rfl
 i212 := by kernel_rfl
 i232 := by kernel_rfl
 i233 := by kernel_rfl
 m17 := by kernel_rfl
 m18 := by kernel_rfl
 m19 := by kernel_rfl }
def f_strconv_FormatInt (n_0 : Int) (b_0 : Int) : Option (List UInt8) := fmtF n_0 b_0
theorem f_strconv_FormatInt_ok (n_0 : Int) (b_0 : Int) (r : List UInt8) (h : f_strconv_FormatInt n_0 b_0 = some r) : PureS Tryd.prog 23 [.v (.int .i64 n_0), .v (.int .i64 b_0)] 0 (.v (.string ⟨⟨r⟩⟩)) :=
 fmt_pure lay23 (by kernel_rfl) (by kernel_rfl) h

def lay43_ren : Go.Shelf.Ren := ⟨fun | 174 => 43 | 247 => 54 | 245 => 55 | 287 => 60 | 279 => 61 | 280 => 62 | 281 => 63 | 282 => 64 | 321 => 65 | 322 => 66 | 316 => 67 | 171 => 22 | 205 => 68 | 243 => 28 | 246 => 29 | 283 => 35 | 284 => 36 | 285 => 37 | 286 => 38 | 129 => 45 | 317 => 44 | 318 => 46 | 319 => 47 | 320 => 48 | 337 => 56 | 338 => 57 | n => n, fun | 9 => 9 | 3 => 3 | 2 => 2 | 75 => 46 | 85 => 97 | 4 => 4 | 167 => 115 | 5 => 5 | 53 => 74 | 175 => 116 | 46 => 105 | 168 => 118 | 37 => 34 | 0 => 0 | 210 => 127 | 21 => 21 | 127 => 72 | 145 => 131 | 143 => 129 | 171 => 88 | 173 => 91 | 212 => 101 | 51 => 102 | 20 => 20 | 213 => 103 | 232 => 121 | 233 => 122 | 80 => 49 | n => n, fun | 15 => 6 | 16 => 7 | 17 => 0 | 18 => 4 | 19 => 5 | n => n⟩
theorem lay43 : Go.Proofs.LaysC.n174 Tryd.prog lay43_ren := {
 mixed := by kernel_rfl
 f129 := Tryd.func45.trans (congrArg some (by kernel_rfl))
 f171 := Tryd.func22.trans (congrArg some (by kernel_rfl))
 f174 := Tryd.func43.trans (congrArg some (by kernel_rfl))
 f205 := Tryd.func68.trans (congrArg some (by kernel_rfl))
 f243 := Tryd.func28.trans (congrArg some (by kernel_rfl))
 f245 := Tryd.func55.trans (congrArg some (by kernel_rfl))
 f246 := Tryd.func29.trans (congrArg some (by kernel_rfl))
 f247 := Tryd.func54.trans (congrArg some (by kernel_rfl))
 f279 := Tryd.func61.trans (congrArg some (by kernel_rfl))
 f280 := Tryd.func62.trans (congrArg some (by kernel_rfl))
 f281 := Tryd.func63.trans (congrArg some (by kernel_rfl))
 f282 := Tryd.func64.trans (congrArg some (by kernel_rfl))
 f283 := Tryd.func35.trans (congrArg some (by kernel_rfl))
 f284 := Tryd.func36.trans (congrArg some (by kernel_rfl))
 f285 := Tryd.func37.trans (congrArg some (by kernel_rfl))
 f286 := Tryd.func38.trans (congrArg some (by kernel_rfl))
 f287 := Tryd.func60.trans (congrArg some (by kernel_rfl))
 f316 := Tryd.func67.trans (congrArg some (by kernel_rfl))
 f317 := Tryd.func44.trans (congrArg some (by kernel_rfl))
 f318 := Tryd.func46.trans (congrArg some (by kernel_rfl))
 f319 := Tryd.func47.trans (congrArg some (by kernel_rfl))
 f320 := Tryd.func48.trans (congrArg some (by kernel_rfl))
 f321 := Tryd.func65.trans (congrArg some (by kernel_rfl))
 f322 := Tryd.func66.trans (congrArg some (by kernel_rfl))
 f337 := Tryd.func56.trans (congrArg some (by kernel_rfl))
 f338 := Tryd.func57.trans (congrArg some (by kernel_rfl))
 t0 := Tryd.underlying0
 a0 := Tryd.isAgg0
 z0 := Tryd.sizeOf0
 v0 := Tryd.zeroValue0
 t2 := Tryd.underlying2
 a2 := Tryd.isAgg2
 z2 := Tryd.sizeOf2
 v2 := Tryd.zeroValue2
 t3 := Tryd.underlying3
 a3 := Tryd.isAgg3
 z3 := Tryd.sizeOf3
 v3 := Tryd.zeroValue3
 t4 := Tryd.underlying4
 a4 := Tryd.isAgg4
 z4 := Tryd.sizeOf4
 v4 := Tryd.zeroValue4
 t5 := Tryd.underlying5
 a5 := Tryd.isAgg5
 z5 := Tryd.sizeOf5
 v5 := Tryd.zeroValue5
 t9 := Tryd.underlying9
 a9 := Tryd.isAgg9
 z9 := Tryd.sizeOf9
 v9 := Tryd.zeroValue9
 t20 := Tryd.underlying20
 a20 := Tryd.isAgg20
 z20 := Tryd.sizeOf20
 v20 := Tryd.zeroValue20
 t21 := Tryd.underlying21
 a21 := Tryd.isAgg21
 z21 := Tryd.sizeOf21
 v21 := Tryd.zeroValue21
 t37 := Tryd.underlying34
 a37 := Tryd.isAgg34
 z37 := Tryd.sizeOf34
 v37 := Tryd.zeroValue34
 t46 := Tryd.underlying105
 a46 := Tryd.isAgg105
 z46 := Tryd.sizeOf105
 v46 := Tryd.zeroValue105
 t51 := Tryd.underlying102
 a51 := Tryd.isAgg102
 z51 := Tryd.sizeOf102
 v51 := Tryd.zeroValue102
 t53 := Tryd.underlying74
 a53 := Tryd.isAgg74
 z53 := Tryd.sizeOf74
 v53 := Tryd.zeroValue74
 t75 := Tryd.underlying46
 a75 := Tryd.isAgg46
 z75 := Tryd.sizeOf46
 v75 := Tryd.zeroValue46
 t85 := Tryd.underlying97
 a85 := Tryd.isAgg97
 z85 := Tryd.sizeOf97
 v85 := Tryd.zeroValue97
 t127 := Tryd.underlying72
 a127 := Tryd.isAgg72
 z127 := Tryd.sizeOf72
 v127 := Tryd.zeroValue72
 t143 := Tryd.underlying129
 a143 := Tryd.isAgg129
 z143 := Tryd.sizeOf129
 v143 := Tryd.zeroValue129
 t145 := Tryd.underlying131
 a145 := Tryd.isAgg131
 z145 := Tryd.sizeOf131
 v145 := Tryd.zeroValue131
 t167 := Tryd.underlying115
 a167 := Tryd.isAgg115
 z167 := Tryd.sizeOf115
 v167 := Tryd.zeroValue115
 t168 := Tryd.underlying118
 a168 := Tryd.isAgg118
 z168 := Tryd.sizeOf118
 v168 := Tryd.zeroValue118
 t171 := Tryd.underlying88
 a171 := Tryd.isAgg88
 z171 := Tryd.sizeOf88
 v171 := Tryd.zeroValue88
 t173 := Tryd.underlying91
 a173 := Tryd.isAgg91
 z173 := Tryd.sizeOf91
 v173 := Tryd.zeroValue91
 t175 := Tryd.underlying116
 a175 := Tryd.isAgg116
 z175 := Tryd.sizeOf116
 v175 := Tryd.zeroValue116
 t210 := Tryd.underlying127
 a210 := Tryd.isAgg127
 z210 := Tryd.sizeOf127
 v210 := Tryd.zeroValue127
 t212 := Tryd.underlying101
 a212 := Tryd.isAgg101
 z212 := Tryd.sizeOf101
 v212 := Tryd.zeroValue101
 t213 := Tryd.underlying103
 a213 := Tryd.isAgg103
 z213 := Tryd.sizeOf103
 t232 := Tryd.underlying121
 a232 := Tryd.isAgg121
 z232 := Tryd.sizeOf121
 v232 := Tryd.zeroValue121
 t233 := Tryd.underlying122
 a233 := Tryd.isAgg122
 z233 := Tryd.sizeOf122
 v233 := Tryd.zeroValue122
 g15 := by kernel_rfl
 g16 := by kernel_rfl
 g17 := by kernel_rfl
 g18 := by kernel_rfl
 g19 := by kernel_rfl
 t80 := Tryd.underlying49
 a80 := Tryd.isAgg49
 z80 := Tryd.sizeOf49
 v80 := Tryd.zeroValue49
 i0 := by kernel_rfl
 i2 := by kernel_rfl
 i3 := by kernel_rfl
 i4 := by kernel_rfl
 i5 := by kernel_rfl
 i9 := by kernel_rfl
 i20 := by kernel_rfl
 i21 := by kernel_rfl
 i37 := by kernel_rfl
 i46 := by kernel_rfl
 i51 := by kernel_rfl
 i53 := by kernel_rfl
 i75 := by kernel_rfl
 i80 := by kernel_rfl
 i85 := by kernel_rfl
 i127 := by kernel_rfl
 i143 := by kernel_rfl
 i145 := by kernel_rfl
 i167 := by kernel_rfl
 i168 := by kernel_rfl
 i171 := by kernel_rfl
 i173 := by kernel_rfl
 i175 := by kernel_rfl
 i210 := by kernel_rfl
 i212 := by kernel_rfl
 i232 := by kernel_rfl
 i233 := by kernel_rfl
 m15 := by kernel_rfl
 m16 := by kernel_rfl
 m17 := by kernel_rfl
 m18 := by kernel_rfl
 m19 := by kernel_rfl
 c0 := by kernel_rfl
 c2 := by kernel_rfl
 c3 := by kernel_rfl
 c4 := by kernel_rfl
 c5 := by kernel_rfl
 c9 := by kernel_rfl
 c20 := by kernel_rfl
 c21 := by kernel_rfl
 c37 := by kernel_rfl
 c46 := by kernel_rfl
 c51 := by kernel_rfl
 c53 := by kernel_rfl
 c75 := by kernel_rfl
 c80 := by kernel_rfl
 c85 := by kernel_rfl
 c127 := by kernel_rfl
 c143 := by kernel_rfl
 c145 := by kernel_rfl
 c167 := by kernel_rfl
 c168 := by kernel_rfl
 c171 := by kernel_rfl
 c173 := by kernel_rfl
 c175 := by kernel_rfl
 c210 := by kernel_rfl
 c212 := by kernel_rfl
 c213 := by kernel_rfl
 c232 := by kernel_rfl
 c233 := by kernel_rfl }
def f_strconv_ParseInt (s_0 : List UInt8) (b_0 : Int) (k_0 : Int) : Option (Int × Bool) := parseF s_0 b_0 k_0
theorem f_strconv_ParseInt_ok (s_0 : List UInt8) (b_0 : Int) (k_0 : Int) (r : Int × Bool) (h : f_strconv_ParseInt s_0 b_0 k_0 = some r) : PureS Tryd.prog 43 [.v (.string ⟨⟨s_0⟩⟩), .v (.int .i64 b_0), .v (.int .i64 k_0)] 0 (.tup [.v (.int .i64 r.1), .erb r.2]) :=
 parse_pure lay43 (by kernel_rfl) (by kernel_rfl) (by kernel_rfl) h

def f_script_number (s_0 : List UInt8) : Option (Int × Bool) :=
 bindO (f_strconv_ParseInt s_0 10 64) (fun (v_0 : Int × Bool) =>
 (if v_0.2 = true then bindO (f_strconv_FormatInt v_0.1 10) (fun (v_1 : List UInt8) =>
 (if (!(v_1 == s_0)) = true then some (0, false)
 else some (v_0.1, true)))
 else some (0, false)))
theorem f_script_number_ok (s_0 : List UInt8)  (r : Int × Bool) (h : f_script_number s_0 = some r) : PureS Tryd.prog 34 [.v (.string ⟨⟨s_0⟩⟩)] 0 (.tup [.v (.int .i64 r.1), .v (.bool r.2)]) := by
 unfold PureS
 refine Spec.of_vc Tryd.func34 rfl (by kernel_rfl) (by kernel_rfl) ?_
 rw [f_script_number] at h
 refine sg fun QQ1 hQ1 => ?_
 simp only [go_sem]
 refine seqQ_normal hQ1 ?_
 refine sg fun QQ2 hQ2 => ?_
 obtain ⟨v_0, ev_0, h⟩ := bindO_some h
 simp only [go_sem]
 refine call0 (f_strconv_ParseInt_ok s_0 10 64 v_0 ev_0) (by rfl) (by rfl) ?_
 simp only [go_sem]
 refine seqQ_normal hQ2 ?_
 refine sg fun QQ3 hQ3 => ?_
 refine sg fun QQ4 hQ4 => ?_
 simp only [go_sem]
 rcases hb_0 : v_0.2 with _ | _
 ·
  replace h := if_f h hb_0
  simp only [go_sem, hb_0]
  refine seqQ_normal hQ4 ?_
  refine vc_cond_t (by (simp only [go_sem]; done)) ?_
  refine sg fun QQ5 hQ5 => ?_
  simp only [go_sem]
  refine seqQ_normal hQ5 ?_
  refine vc_ret_of ?_
  refine seqQ_ret hQ3 ?_
  simp only [go_sem]
  obtain rfl := Option.some.inj h
  refine retW_pure rfl ?_
  simp only [go_sem, Le]
 ·
  replace h := if_t h hb_0
  obtain ⟨v_1, ev_1, h⟩ := bindO_some h
  simp only [go_sem, hb_0]
  refine call0 (f_strconv_FormatInt_ok v_0.1 10 v_1 ev_1) (by rfl) (by rfl) ?_
  simp only [go_sem]
  refine seqQ_normal hQ4 ?_
  refine vc_cond_of (b := (!(v_1 == s_0))) (by (simp only [go_sem]; done)) (fun hb_1 => ?_) (fun hb_1 => ?_)
  ·
   replace h := if_t h hb_1
   simp only [bool_to_prop] at hb_1
   refine sg fun QQ6 hQ6 => ?_
   simp only [go_sem]
   refine seqQ_normal hQ6 ?_
   refine vc_ret_of ?_
   refine seqQ_ret hQ3 ?_
   simp only [go_sem]
   obtain rfl := Option.some.inj h
   refine retW_pure rfl ?_
   simp only [go_sem, Le]
  ·
   replace h := if_f h hb_1
   simp only [bool_to_prop] at hb_1
   refine vc_skip_of ?_
   refine seqQ_normal hQ3 ?_
   refine sg fun QQ7 hQ7 => ?_
   simp only [go_sem]
   refine seqQ_normal hQ7 ?_
   refine vc_ret_of ?_
   simp only [go_sem]
   obtain rfl := Option.some.inj h
   refine retW_pure rfl ?_
   simp only [go_sem, Le]

def lay17_ren : Go.Shelf.Ren := ⟨fun | 229 => 17 | n => n, fun | 9 => 9 | 40 => 59 | 31 => 56 | 152 => 76 | 3 => 3 | 0 => 0 | 4 => 4 | 21 => 21 | 154 => 78 | n => n, fun | n => n⟩
theorem lay17 : Go.Proofs.Lays.n229 Tryd.prog lay17_ren := {
 mixed := by kernel_rfl
 f229 := Tryd.func17.trans (congrArg some (by kernel_rfl))
 t0 := Tryd.underlying0
 a0 := Tryd.isAgg0
 z0 := Tryd.sizeOf0
 v0 := Tryd.zeroValue0
 t3 := Tryd.underlying3
 a3 := Tryd.isAgg3
 z3 := Tryd.sizeOf3
 v3 := Tryd.zeroValue3
 t4 := Tryd.underlying4
 a4 := Tryd.isAgg4
 z4 := Tryd.sizeOf4
 v4 := Tryd.zeroValue4
 t9 := Tryd.underlying9
 a9 := Tryd.isAgg9
 z9 := Tryd.sizeOf9
 v9 := Tryd.zeroValue9
 t21 := Tryd.underlying21
 a21 := Tryd.isAgg21
 z21 := Tryd.sizeOf21
 v21 := Tryd.zeroValue21
 t31 := Tryd.underlying56
 a31 := Tryd.isAgg56
 z31 := Tryd.sizeOf56
 v31 := Tryd.zeroValue56
 t40 := Tryd.underlying59
 a40 := Tryd.isAgg59
 z40 := Tryd.sizeOf59
 v40 := Tryd.zeroValue59
 t152 := Tryd.underlying76
 a152 := Tryd.isAgg76
 z152 := Tryd.sizeOf76
 v152 := Tryd.zeroValue76
 t154 := Tryd.underlying78
 a154 := Tryd.isAgg78
 z154 := Tryd.sizeOf78
 v154 := Tryd.zeroValue78 }
noncomputable def f_strings_FieldsFunc (s_0 : List UInt8) (f_0 : Int → Option Bool) : Option (List GStr) := fieldsF s_0 f_0
theorem f_strings_FieldsFunc_ok (s_0 : List UInt8) (f_0 : Int → Option Bool) (g_f_0 : FuncId) (c_f_0 : List AV) (F_f_0 : idFreeL c_f_0 = true) (E_f_0 : entB Tryd.prog g_f_0 = true) (H_f_0 : ∀ (x0 : Int) (r : Bool), f_0 x0 = some r → PureS Tryd.prog g_f_0 ([.v (.int .i32 x0)] ++ c_f_0) 0 (.v (.bool r))) (r : List GStr) (h : f_strings_FieldsFunc s_0 f_0 = some r) : PureS Tryd.prog 17 [.v (.string ⟨⟨s_0⟩⟩), .clo g_f_0 c_f_0] 0 (.sl 1 (enc r)) :=
 fields_pure lay17 (by kernel_rfl) (by kernel_rfl) (by kernel_rfl) F_f_0 E_f_0 H_f_0 h

def f_script_Parse_1 (rv_0 : Int) : Option Bool :=
 some (rv_0 == 32)
theorem f_script_Parse_1_ok (rv_0 : Int)  (r : Bool) (h : f_script_Parse_1 rv_0 = some r) : PureS Tryd.prog 18 [.v (.int .i32 rv_0)] 0 (.v (.bool r)) := by
 unfold PureS
 refine Spec.of_vc Tryd.func18 rfl (by kernel_rfl) (by kernel_rfl) ?_
 rw [f_script_Parse_1] at h
 refine sg fun QQ1 hQ1 => ?_
 simp only [go_sem]
 refine seqQ_normal hQ1 ?_
 refine sg fun QQ2 hQ2 => ?_
 simp only [go_sem]
 refine seqQ_normal hQ2 ?_
 refine vc_ret_of ?_
 simp only [go_sem]
 obtain rfl := Option.some.inj h
 refine retW_pure rfl ?_
 simp only [go_sem, Le]

def lay16_ren : Go.Shelf.Ren := ⟨fun | 146 => 16 | 221 => 26 | 268 => 31 | 138 => 32 | 143 => 33 | 195 => 39 | 197 => 40 | 218 => 41 | 219 => 42 | 260 => 49 | 217 => 50 | 225 => 51 | 224 => 52 | 267 => 53 | 266 => 58 | 314 => 59 | n => n, fun | 9 => 9 | 31 => 56 | 3 => 3 | 4 => 4 | 0 => 0 | 105 => 94 | 21 => 21 | 5 => 5 | 46 => 105 | 119 => 109 | 139 => 112 | 138 => 111 | 146 => 113 | 51 => 102 | n => n, fun | 1 => 1 | 3 => 2 | 4 => 3 | n => n⟩
theorem lay16 : Go.Proofs.Lays.n146 Tryd.prog lay16_ren := {
 mixed := by kernel_rfl
 f138 := Tryd.func32.trans (congrArg some (by kernel_rfl))
 f143 := Tryd.func33.trans (congrArg some (by kernel_rfl))
 f146 := Tryd.func16.trans (congrArg some (by kernel_rfl))
 f195 := Tryd.func39.trans (congrArg some (by kernel_rfl))
 f197 := Tryd.func40.trans (congrArg some (by kernel_rfl))
 f217 := Tryd.func50.trans (congrArg some (by kernel_rfl))
 f218 := Tryd.func41.trans (congrArg some (by kernel_rfl))
 f219 := Tryd.func42.trans (congrArg some (by kernel_rfl))
 f221 := Tryd.func26.trans (congrArg some (by kernel_rfl))
 f224 := Tryd.func52.trans (congrArg some (by kernel_rfl))
 f225 := Tryd.func51.trans (congrArg some (by kernel_rfl))
 f260 := Tryd.func49.trans (congrArg some (by kernel_rfl))
 f266 := Tryd.func58.trans (congrArg some (by kernel_rfl))
 f267 := Tryd.func53.trans (congrArg some (by kernel_rfl))
 f268 := Tryd.func31.trans (congrArg some (by kernel_rfl))
 f314 := Tryd.func59.trans (congrArg some (by kernel_rfl))
 t0 := Tryd.underlying0
 a0 := Tryd.isAgg0
 z0 := Tryd.sizeOf0
 v0 := Tryd.zeroValue0
 t3 := Tryd.underlying3
 a3 := Tryd.isAgg3
 z3 := Tryd.sizeOf3
 v3 := Tryd.zeroValue3
 t4 := Tryd.underlying4
 a4 := Tryd.isAgg4
 z4 := Tryd.sizeOf4
 v4 := Tryd.zeroValue4
 t5 := Tryd.underlying5
 a5 := Tryd.isAgg5
 z5 := Tryd.sizeOf5
 v5 := Tryd.zeroValue5
 t9 := Tryd.underlying9
 a9 := Tryd.isAgg9
 z9 := Tryd.sizeOf9
 v9 := Tryd.zeroValue9
 t21 := Tryd.underlying21
 a21 := Tryd.isAgg21
 z21 := Tryd.sizeOf21
 v21 := Tryd.zeroValue21
 t31 := Tryd.underlying56
 a31 := Tryd.isAgg56
 z31 := Tryd.sizeOf56
 v31 := Tryd.zeroValue56
 t46 := Tryd.underlying105
 a46 := Tryd.isAgg105
 z46 := Tryd.sizeOf105
 v46 := Tryd.zeroValue105
 t51 := Tryd.underlying102
 a51 := Tryd.isAgg102
 z51 := Tryd.sizeOf102
 v51 := Tryd.zeroValue102
 t105 := Tryd.underlying94
 a105 := Tryd.isAgg94
 z105 := Tryd.sizeOf94
 v105 := Tryd.zeroValue94
 t119 := Tryd.underlying109
 a119 := Tryd.isAgg109
 z119 := Tryd.sizeOf109
 t138 := Tryd.underlying111
 a138 := Tryd.isAgg111
 z138 := Tryd.sizeOf111
 v138 := Tryd.zeroValue111
 t139 := Tryd.underlying112
 a139 := Tryd.isAgg112
 z139 := Tryd.sizeOf112
 v139 := Tryd.zeroValue112
 t146 := Tryd.underlying113
 a146 := Tryd.isAgg113
 z146 := Tryd.sizeOf113
 v146 := Tryd.zeroValue113
 g1 := by kernel_rfl
 g3 := by kernel_rfl
 g4 := by kernel_rfl }
def f_strings_Split (s_0 : List UInt8) (p_0 : List UInt8) : Option (List GStr) := splitF s_0 p_0
theorem f_strings_Split_ok (s_0 : List UInt8) (p_0 : List UInt8) (r : List GStr) (h : f_strings_Split s_0 p_0 = some r) : PureS Tryd.prog 16 [.v (.string ⟨⟨s_0⟩⟩), .v (.string ⟨⟨p_0⟩⟩)] 0 (.sl 1 (enc r)) :=
 split_pure lay16 (by kernel_rfl) (by kernel_rfl) (by kernel_rfl) h

def f_script_shapes  : Option (List GScript_shape) :=
 some ([(⟨(⟨[102, 101, 101, 100]⟩ : GStr), 2, true⟩ : GScript_shape), (⟨(⟨[99, 108, 111, 115, 101]⟩ : GStr), 1, false⟩ : GScript_shape), (⟨(⟨[102, 105, 110, 105, 115, 104]⟩ : GStr), 0, false⟩ : GScript_shape), (⟨(⟨[109, 97, 107, 101]⟩ : GStr), 1, false⟩ : GScript_shape), (⟨(⟨[109, 111, 118, 101]⟩ : GStr), 4, false⟩ : GScript_shape), (⟨(⟨[116, 111, 107, 101, 110]⟩ : GStr), 0, false⟩ : GScript_shape)] : List GScript_shape)
theorem f_script_shapes_det   (r : List GScript_shape) (h : f_script_shapes  = some r) : DetS Tryd.prog 20 [] [] 0 (.osl 0 3 (0) (List.length r)) [(0, .arr 3 (enc r))] 1 := by
 unfold DetS
 refine Spec.of_vc Tryd.func20 rfl (by kernel_rfl) (by kernel_rfl) ?_
 rw [f_script_shapes] at h
 refine sg fun QQ1 hQ1 => ?_
 simp only [go_sem]
 refine seqQ_normal hQ1 ?_
 refine sg fun QQ2 hQ2 => ?_
 have rf_0 : [[.v (.string ⟨⟨[102, 101, 101, 100]⟩⟩), .v (.int .i64 2), .v (.bool true)], [.v (.string ⟨⟨[99, 108, 111, 115, 101]⟩⟩), .v (.int .i64 1), .v (.bool false)], [.v (.string ⟨⟨[102, 105, 110, 105, 115, 104]⟩⟩), .v (.int .i64 0), .v (.bool false)], [.v (.string ⟨⟨[109, 97, 107, 101]⟩⟩), .v (.int .i64 1), .v (.bool false)], [.v (.string ⟨⟨[109, 111, 118, 101]⟩⟩), .v (.int .i64 4), .v (.bool false)], [.v (.string ⟨⟨[116, 111, 107, 101, 110]⟩⟩), .v (.int .i64 0), .v (.bool false)]] = enc ([(⟨(⟨[102, 101, 101, 100]⟩ : GStr), 2, true⟩ : GScript_shape), (⟨(⟨[99, 108, 111, 115, 101]⟩ : GStr), 1, false⟩ : GScript_shape), (⟨(⟨[102, 105, 110, 105, 115, 104]⟩ : GStr), 0, false⟩ : GScript_shape), (⟨(⟨[109, 97, 107, 101]⟩ : GStr), 1, false⟩ : GScript_shape), (⟨(⟨[109, 111, 118, 101]⟩ : GStr), 4, false⟩ : GScript_shape), (⟨(⟨[116, 111, 107, 101, 110]⟩ : GStr), 0, false⟩ : GScript_shape)] : List GScript_shape) := by rfl
 simp only [go_sem]
 simp only [rf_0]
 refine seqQ_normal hQ2 ?_
 refine vc_ret_of ?_
 simp only [go_sem]
 obtain rfl := Option.some.inj h
 refine retW_det [some 0] ?_
 simp only [go_sem, Le]
theorem f_script_shapes_ok   (r : List GScript_shape) (h : f_script_shapes  = some r) : PureS Tryd.prog 20 [] 0 (.sl 3 (enc r)) := by
 refine (f_script_shapes_det   r h).pure ?_
 simp only [go_sem, Le] <;> (repeat' apply And.intro) <;> ((try with_reducible refine TL_eq ?_); (simp [go_sem]; done))

def f_script_places_p0 (a_0 : GAct) : Option (Unit × GAct) :=
 some ((), a_0)
theorem f_script_places_p0_det (a_0 : GAct)  (r : Unit × GAct) (h : f_script_places_p0 a_0 = some r) : DetS Tryd.prog 21 [.ptr 0 0] [(0, .box [.v (.int .i64 a_0.Kind), .v (.int .i64 a_0.A), .v (.int .i64 a_0.B), .v (.int .i64 a_0.C), .v (.int .i64 a_0.D), .v (.int .i64 a_0.Rec.K), .v (.int .i64 a_0.Rec.V)])] 1 (.bsl 1 (0) (4)) [(0, .box [.v (.int .i64 r.2.Kind), .v (.int .i64 r.2.A), .v (.int .i64 r.2.B), .v (.int .i64 r.2.C), .v (.int .i64 r.2.D), .v (.int .i64 r.2.Rec.K), .v (.int .i64 r.2.Rec.V)]), (1, .box [.ptr 0 1, .ptr 0 2, .ptr 0 3, .ptr 0 4])] 2 := by
 unfold DetS
 refine Spec.of_vc Tryd.func21 rfl (by kernel_rfl) (by kernel_rfl) ?_
 rw [f_script_places_p0] at h
 refine sg fun QQ1 hQ1 => ?_
 simp only [go_sem]
 refine seqQ_normal hQ1 ?_
 refine sg fun QQ2 hQ2 => ?_
 refine vc_draw ?_
 refine drawM_tail 12 [0, 1, 3, 0, 8, 24, 0, 64, 192, 0, 512, 1536, 4095, 8191] mixed (by kernel_rfl) (of_decide_eq_true (by kernel_rfl)) (by kernel_rfl) ?_
 simp only [go_sem]
 refine seqQ_normal hQ2 ?_
 refine vc_ret_of ?_
 simp only [go_sem]
 obtain rfl := Option.some.inj h
 refine retW_det [some 1] ?_
 simp only [go_sem, Le] <;> (repeat' apply And.intro) <;> first | ((try with_reducible refine TL_eq ?_); omega) | ((try with_reducible refine TL_eq ?_); (simp [go_sem]; done))

def f_script_line_J1 (xv_0 : GScript_shape) (out_0 : List UInt8) (b_0 : GAct) : Option ((List UInt8) × Bool) :=
 (if xv_0.record = true then guardO (List.length out_0 + List.length ([32] : List UInt8) ≤ 9223372036854775807) (
 bindO (f_strconv_FormatInt b_0.Rec.K 10) (fun (v_17 : List UInt8) =>
 guardO (List.length (out_0 ++ ([32] : List UInt8)) + List.length v_17 ≤ 9223372036854775807) (
 guardO (List.length ((out_0 ++ ([32] : List UInt8)) ++ v_17) + List.length ([32] : List UInt8) ≤ 9223372036854775807) (
 bindO (f_strconv_FormatInt b_0.Rec.V 10) (fun (v_18 : List UInt8) =>
 guardO (List.length (((out_0 ++ ([32] : List UInt8)) ++ v_17) ++ ([32] : List UInt8)) + List.length v_18 ≤ 9223372036854775807) (
 some (((((out_0 ++ ([32] : List UInt8)) ++ v_17) ++ ([32] : List UInt8)) ++ v_18), true)))))))
 else some (out_0, ((b_0.Rec.K == 0) && (b_0.Rec.V == 0))))
def f_script_line (a_0 : GAct) : Option ((List UInt8) × Bool) :=
 (if ((decide (a_0.Kind < 1)) || (decide (6 < a_0.Kind))) = true then some (([] : List UInt8), false)
 else bindO (f_script_shapes) (fun (v_0 : List GScript_shape) =>
 bindO (idx v_0 (IntKind.i64.wrap (a_0.Kind - 1))) (fun (xv_0 : GScript_shape) =>
 bindO (f_script_places_p0 a_0) (fun (v_19 : Unit × GAct) =>
 (if (decide (xv_0.many ≤ 0)) = true then (if (!(v_19.2.A == 0)) = true then some (([] : List UInt8), false)
 else (if (decide (xv_0.many ≤ 1)) = true then (if (!(v_19.2.B == 0)) = true then some (([] : List UInt8), false)
 else (if (decide (xv_0.many ≤ 2)) = true then (if (!(v_19.2.C == 0)) = true then some (([] : List UInt8), false)
 else (if (decide (xv_0.many ≤ 3)) = true then (if (!(v_19.2.D == 0)) = true then some (([] : List UInt8), false)
 else f_script_line_J1 xv_0 xv_0.word.s v_19.2)
 else (if ((decide (v_19.2.D < 0)) || (decide (2147483647 < v_19.2.D))) = true then some (([] : List UInt8), false)
 else bindO (f_strconv_Itoa v_19.2.D) (fun (v_20 : List UInt8) =>
 guardO (List.length ([32] : List UInt8) + List.length v_20 ≤ 9223372036854775807) (
 guardO (List.length xv_0.word.s + List.length (([32] : List UInt8) ++ v_20) ≤ 9223372036854775807) (
 f_script_line_J1 xv_0 (xv_0.word.s ++ (([32] : List UInt8) ++ v_20)) v_19.2))))))
 else (if ((decide (v_19.2.C < 0)) || (decide (2147483647 < v_19.2.C))) = true then some (([] : List UInt8), false)
 else bindO (f_strconv_Itoa v_19.2.C) (fun (v_21 : List UInt8) =>
 guardO (List.length ([32] : List UInt8) + List.length v_21 ≤ 9223372036854775807) (
 guardO (List.length xv_0.word.s + List.length (([32] : List UInt8) ++ v_21) ≤ 9223372036854775807) (
 (if (decide (xv_0.many ≤ 3)) = true then (if (!(v_19.2.D == 0)) = true then some (([] : List UInt8), false)
 else f_script_line_J1 xv_0 (xv_0.word.s ++ (([32] : List UInt8) ++ v_21)) v_19.2)
 else (if ((decide (v_19.2.D < 0)) || (decide (2147483647 < v_19.2.D))) = true then some (([] : List UInt8), false)
 else bindO (f_strconv_Itoa v_19.2.D) (fun (v_22 : List UInt8) =>
 guardO (List.length ([32] : List UInt8) + List.length v_22 ≤ 9223372036854775807) (
 guardO (List.length (xv_0.word.s ++ (([32] : List UInt8) ++ v_21)) + List.length (([32] : List UInt8) ++ v_22) ≤ 9223372036854775807) (
 f_script_line_J1 xv_0 ((xv_0.word.s ++ (([32] : List UInt8) ++ v_21)) ++ (([32] : List UInt8) ++ v_22)) v_19.2)))))))))))
 else (if ((decide (v_19.2.B < 0)) || (decide (2147483647 < v_19.2.B))) = true then some (([] : List UInt8), false)
 else bindO (f_strconv_Itoa v_19.2.B) (fun (v_23 : List UInt8) =>
 guardO (List.length ([32] : List UInt8) + List.length v_23 ≤ 9223372036854775807) (
 guardO (List.length xv_0.word.s + List.length (([32] : List UInt8) ++ v_23) ≤ 9223372036854775807) (
 (if (decide (xv_0.many ≤ 2)) = true then (if (!(v_19.2.C == 0)) = true then some (([] : List UInt8), false)
 else (if (decide (xv_0.many ≤ 3)) = true then (if (!(v_19.2.D == 0)) = true then some (([] : List UInt8), false)
 else f_script_line_J1 xv_0 (xv_0.word.s ++ (([32] : List UInt8) ++ v_23)) v_19.2)
 else (if ((decide (v_19.2.D < 0)) || (decide (2147483647 < v_19.2.D))) = true then some (([] : List UInt8), false)
 else bindO (f_strconv_Itoa v_19.2.D) (fun (v_24 : List UInt8) =>
 guardO (List.length ([32] : List UInt8) + List.length v_24 ≤ 9223372036854775807) (
 guardO (List.length (xv_0.word.s ++ (([32] : List UInt8) ++ v_23)) + List.length (([32] : List UInt8) ++ v_24) ≤ 9223372036854775807) (
 f_script_line_J1 xv_0 ((xv_0.word.s ++ (([32] : List UInt8) ++ v_23)) ++ (([32] : List UInt8) ++ v_24)) v_19.2))))))
 else (if ((decide (v_19.2.C < 0)) || (decide (2147483647 < v_19.2.C))) = true then some (([] : List UInt8), false)
 else bindO (f_strconv_Itoa v_19.2.C) (fun (v_25 : List UInt8) =>
 guardO (List.length ([32] : List UInt8) + List.length v_25 ≤ 9223372036854775807) (
 guardO (List.length (xv_0.word.s ++ (([32] : List UInt8) ++ v_23)) + List.length (([32] : List UInt8) ++ v_25) ≤ 9223372036854775807) (
 (if (decide (xv_0.many ≤ 3)) = true then (if (!(v_19.2.D == 0)) = true then some (([] : List UInt8), false)
 else f_script_line_J1 xv_0 ((xv_0.word.s ++ (([32] : List UInt8) ++ v_23)) ++ (([32] : List UInt8) ++ v_25)) v_19.2)
 else (if ((decide (v_19.2.D < 0)) || (decide (2147483647 < v_19.2.D))) = true then some (([] : List UInt8), false)
 else bindO (f_strconv_Itoa v_19.2.D) (fun (v_26 : List UInt8) =>
 guardO (List.length ([32] : List UInt8) + List.length v_26 ≤ 9223372036854775807) (
 guardO (List.length ((xv_0.word.s ++ (([32] : List UInt8) ++ v_23)) ++ (([32] : List UInt8) ++ v_25)) + List.length (([32] : List UInt8) ++ v_26) ≤ 9223372036854775807) (
 f_script_line_J1 xv_0 (((xv_0.word.s ++ (([32] : List UInt8) ++ v_23)) ++ (([32] : List UInt8) ++ v_25)) ++ (([32] : List UInt8) ++ v_26)) v_19.2))))))))))))))))
 else (if ((decide (v_19.2.A < 0)) || (decide (2147483647 < v_19.2.A))) = true then some (([] : List UInt8), false)
 else bindO (f_strconv_Itoa v_19.2.A) (fun (v_27 : List UInt8) =>
 guardO (List.length ([32] : List UInt8) + List.length v_27 ≤ 9223372036854775807) (
 guardO (List.length xv_0.word.s + List.length (([32] : List UInt8) ++ v_27) ≤ 9223372036854775807) (
 (if (decide (xv_0.many ≤ 1)) = true then (if (!(v_19.2.B == 0)) = true then some (([] : List UInt8), false)
 else (if (decide (xv_0.many ≤ 2)) = true then (if (!(v_19.2.C == 0)) = true then some (([] : List UInt8), false)
 else (if (decide (xv_0.many ≤ 3)) = true then (if (!(v_19.2.D == 0)) = true then some (([] : List UInt8), false)
 else f_script_line_J1 xv_0 (xv_0.word.s ++ (([32] : List UInt8) ++ v_27)) v_19.2)
 else (if ((decide (v_19.2.D < 0)) || (decide (2147483647 < v_19.2.D))) = true then some (([] : List UInt8), false)
 else bindO (f_strconv_Itoa v_19.2.D) (fun (v_28 : List UInt8) =>
 guardO (List.length ([32] : List UInt8) + List.length v_28 ≤ 9223372036854775807) (
 guardO (List.length (xv_0.word.s ++ (([32] : List UInt8) ++ v_27)) + List.length (([32] : List UInt8) ++ v_28) ≤ 9223372036854775807) (
 f_script_line_J1 xv_0 ((xv_0.word.s ++ (([32] : List UInt8) ++ v_27)) ++ (([32] : List UInt8) ++ v_28)) v_19.2))))))
 else (if ((decide (v_19.2.C < 0)) || (decide (2147483647 < v_19.2.C))) = true then some (([] : List UInt8), false)
 else bindO (f_strconv_Itoa v_19.2.C) (fun (v_29 : List UInt8) =>
 guardO (List.length ([32] : List UInt8) + List.length v_29 ≤ 9223372036854775807) (
 guardO (List.length (xv_0.word.s ++ (([32] : List UInt8) ++ v_27)) + List.length (([32] : List UInt8) ++ v_29) ≤ 9223372036854775807) (
 (if (decide (xv_0.many ≤ 3)) = true then (if (!(v_19.2.D == 0)) = true then some (([] : List UInt8), false)
 else f_script_line_J1 xv_0 ((xv_0.word.s ++ (([32] : List UInt8) ++ v_27)) ++ (([32] : List UInt8) ++ v_29)) v_19.2)
 else (if ((decide (v_19.2.D < 0)) || (decide (2147483647 < v_19.2.D))) = true then some (([] : List UInt8), false)
 else bindO (f_strconv_Itoa v_19.2.D) (fun (v_30 : List UInt8) =>
 guardO (List.length ([32] : List UInt8) + List.length v_30 ≤ 9223372036854775807) (
 guardO (List.length ((xv_0.word.s ++ (([32] : List UInt8) ++ v_27)) ++ (([32] : List UInt8) ++ v_29)) + List.length (([32] : List UInt8) ++ v_30) ≤ 9223372036854775807) (
 f_script_line_J1 xv_0 (((xv_0.word.s ++ (([32] : List UInt8) ++ v_27)) ++ (([32] : List UInt8) ++ v_29)) ++ (([32] : List UInt8) ++ v_30)) v_19.2)))))))))))
 else (if ((decide (v_19.2.B < 0)) || (decide (2147483647 < v_19.2.B))) = true then some (([] : List UInt8), false)
 else bindO (f_strconv_Itoa v_19.2.B) (fun (v_31 : List UInt8) =>
 guardO (List.length ([32] : List UInt8) + List.length v_31 ≤ 9223372036854775807) (
 guardO (List.length (xv_0.word.s ++ (([32] : List UInt8) ++ v_27)) + List.length (([32] : List UInt8) ++ v_31) ≤ 9223372036854775807) (
 (if (decide (xv_0.many ≤ 2)) = true then (if (!(v_19.2.C == 0)) = true then some (([] : List UInt8), false)
 else (if (decide (xv_0.many ≤ 3)) = true then (if (!(v_19.2.D == 0)) = true then some (([] : List UInt8), false)
 else f_script_line_J1 xv_0 ((xv_0.word.s ++ (([32] : List UInt8) ++ v_27)) ++ (([32] : List UInt8) ++ v_31)) v_19.2)
 else (if ((decide (v_19.2.D < 0)) || (decide (2147483647 < v_19.2.D))) = true then some (([] : List UInt8), false)
 else bindO (f_strconv_Itoa v_19.2.D) (fun (v_32 : List UInt8) =>
 guardO (List.length ([32] : List UInt8) + List.length v_32 ≤ 9223372036854775807) (
 guardO (List.length ((xv_0.word.s ++ (([32] : List UInt8) ++ v_27)) ++ (([32] : List UInt8) ++ v_31)) + List.length (([32] : List UInt8) ++ v_32) ≤ 9223372036854775807) (
 f_script_line_J1 xv_0 (((xv_0.word.s ++ (([32] : List UInt8) ++ v_27)) ++ (([32] : List UInt8) ++ v_31)) ++ (([32] : List UInt8) ++ v_32)) v_19.2))))))
 else (if ((decide (v_19.2.C < 0)) || (decide (2147483647 < v_19.2.C))) = true then some (([] : List UInt8), false)
 else bindO (f_strconv_Itoa v_19.2.C) (fun (v_33 : List UInt8) =>
 guardO (List.length ([32] : List UInt8) + List.length v_33 ≤ 9223372036854775807) (
 guardO (List.length ((xv_0.word.s ++ (([32] : List UInt8) ++ v_27)) ++ (([32] : List UInt8) ++ v_31)) + List.length (([32] : List UInt8) ++ v_33) ≤ 9223372036854775807) (
 (if (decide (xv_0.many ≤ 3)) = true then (if (!(v_19.2.D == 0)) = true then some (([] : List UInt8), false)
 else f_script_line_J1 xv_0 (((xv_0.word.s ++ (([32] : List UInt8) ++ v_27)) ++ (([32] : List UInt8) ++ v_31)) ++ (([32] : List UInt8) ++ v_33)) v_19.2)
 else (if ((decide (v_19.2.D < 0)) || (decide (2147483647 < v_19.2.D))) = true then some (([] : List UInt8), false)
 else bindO (f_strconv_Itoa v_19.2.D) (fun (v_34 : List UInt8) =>
 guardO (List.length ([32] : List UInt8) + List.length v_34 ≤ 9223372036854775807) (
 guardO (List.length (((xv_0.word.s ++ (([32] : List UInt8) ++ v_27)) ++ (([32] : List UInt8) ++ v_31)) ++ (([32] : List UInt8) ++ v_33)) + List.length (([32] : List UInt8) ++ v_34) ≤ 9223372036854775807) (
 f_script_line_J1 xv_0 ((((xv_0.word.s ++ (([32] : List UInt8) ++ v_27)) ++ (([32] : List UInt8) ++ v_31)) ++ (([32] : List UInt8) ++ v_33)) ++ (([32] : List UInt8) ++ v_34)) v_19.2))))))))))))))))))))))))
theorem f_script_line_ok (a_0 : GAct)  (r : (List UInt8) × Bool) (h : f_script_line a_0 = some r) : PureS Tryd.prog 11 [.agg [.v (.int .i64 a_0.Kind), .v (.int .i64 a_0.A), .v (.int .i64 a_0.B), .v (.int .i64 a_0.C), .v (.int .i64 a_0.D), .v (.int .i64 a_0.Rec.K), .v (.int .i64 a_0.Rec.V)]] 0 (.tup [.v (.string ⟨⟨r.1⟩⟩), .v (.bool r.2)]) := by
 unfold PureS
 refine Spec.of_vc Tryd.func11 rfl (by kernel_rfl) (by kernel_rfl) ?_
 rw [f_script_line] at h
 refine sg fun QQ1 hQ1 => ?_
 simp only [go_sem]
 refine seqQ_normal hQ1 ?_
 refine sg fun QQ2 hQ2 => ?_
 refine sg fun QQ3 hQ3 => ?_
 simp only [go_sem]
 refine seqQ_normal hQ3 ?_
 refine vc_cond_of (b := ((decide (a_0.Kind < 1)) || (decide (6 < a_0.Kind)))) (by (simp only [go_sem]; done)) (fun hb_0 => ?_) (fun hb_0 => ?_)
 ·
  replace h := if_t h hb_0
  simp only [bool_to_prop] at hb_0
  refine sg fun QQ4 hQ4 => ?_
  simp only [go_sem]
  refine seqQ_normal hQ4 ?_
  refine vc_ret_of ?_
  refine seqQ_ret hQ2 ?_
  simp only [go_sem]
  obtain rfl := Option.some.inj h
  refine retW_pure rfl ?_
  simp only [go_sem, Le]
 ·
  replace h := if_f h hb_0
  simp only [bool_to_prop] at hb_0
  refine vc_skip_of ?_
  refine seqQ_normal hQ2 ?_
  refine sg fun QQ5 hQ5 => ?_
  refine vc_draw ?_
  refine drawV_all 7 0 0 [0, 0, 2, 6, 15, 31, 0, 127] [1] [0, 1, 2, 3, 4, 5] [] [6] [] mixed (by kernel_rfl) (of_decide_eq_true (by kernel_rfl)) (by kernel_rfl) (by kernel_rfl) (by rfl) ?_
  obtain ⟨v_0, ev_0, h⟩ := bindO_some h
  simp only [go_sem]
  refine callq (fun _ => (f_script_shapes_ok v_0 ev_0)) (by rfl) (by rfl) ?_
  obtain ⟨xv_0, exv_0, h⟩ := bindO_some h
  obtain ⟨fxv_0a, fxv_0b, fxv_0c⟩ := idx_spec exv_0
  simp only [go_sem, fxv_0a, fxv_0b, fxv_0c]
  refine And.intro (by omega) ?_
  refine seqQ_normal hQ5 ?_
  refine sg fun QQ6 hQ6 => ?_
  simp only [go_sem]
  refine seqQ_normal hQ6 ?_
  refine vc_join (by kernel_rfl) ?_
  refine seq_cut_gen (ι := (List UInt8) × GAct) (fun ((out_0, b_0) : (List UInt8) × GAct) => (⟨0, [(1, .ptr 0 0), (4, .ptr 1 0), (5, .v (.string ⟨⟨out_0⟩⟩))], [(0, .box [.v (.int .i64 b_0.Kind), .v (.int .i64 b_0.A), .v (.int .i64 b_0.B), .v (.int .i64 b_0.C), .v (.int .i64 b_0.D), .v (.int .i64 b_0.Rec.K), .v (.int .i64 b_0.Rec.V)]), (1, .box [.v (.string ⟨⟨xv_0.word.s⟩⟩), .v (.int .i64 xv_0.many), .v (.bool xv_0.record)])], 2, 77⟩ : St)) (fun ((out_0, b_0) : (List UInt8) × GAct) => f_script_line_J1 xv_0 out_0 b_0 = some r) ?_ ?_ --K[1,4];[1]
  ·
   intro QQ11 hQ11
   refine sg fun QQ12 hQ12 => ?_
   obtain ⟨v_19, ev_19, h⟩ := bindO_some h
   simp only [go_sem]
   refine callD [0] (f_script_places_p0_det a_0 v_19 ev_19) (by simp) rfl ⟨rfl, trivial⟩ rfl rfl rfl rfl ?_
   simp only [go_sem]
   refine seqQ_normal hQ12 ?_
   refine vc_block_gen ?_
   intro QQ13 hQ13
   refine vc_loop_of ?_
   refine loop_n 5 ?_
   refine rnd_gen ?_
   intro QQ14 hQ14
   refine sg fun QQ15 hQ15 => ?_
   simp only [go_sem]
   refine seqQ_normal hQ15 ?_
   refine sg fun QQ16 hQ16 => ?_
   refine vc_cond_t (by (simp only [go_sem]; done)) ?_
   refine vc_skip_of ?_
   refine seqQ_normal hQ16 ?_
   refine sg fun QQ17 hQ17 => ?_
   refine vc_block_gen ?_
   intro QQ18 hQ18
   refine sg fun QQ19 hQ19 => ?_
   simp only [go_sem]
   refine seqQ_normal hQ19 ?_
   refine sg fun QQ20 hQ20 => ?_
   refine sg fun QQ21 hQ21 => ?_
   simp only [go_sem]
   refine seqQ_normal hQ21 ?_
   refine vc_cond_of (b := (decide (xv_0.many ≤ 0))) (by (simp only [go_sem]; done)) (fun hb_47 => ?_) (fun hb_47 => ?_)
   ·
    replace h := if_t h hb_47
    simp only [bool_to_prop] at hb_47
    refine sg fun QQ22 hQ22 => ?_
    refine sg fun QQ23 hQ23 => ?_
    simp only [go_sem]
    refine seqQ_normal hQ23 ?_
    refine vc_cond_of (b := (!(v_19.2.A == 0))) (by (simp only [go_sem]; done)) (fun hb_48 => ?_) (fun hb_48 => ?_)
    ·
     replace h := if_t h hb_48
     simp only [bool_to_prop] at hb_48
     refine sg fun QQ24 hQ24 => ?_
     simp only [go_sem]
     refine seqQ_normal hQ24 ?_
     refine vc_ret_of ?_
     refine seqQ_ret hQ22 ?_
     refine seqQ_ret hQ20 ?_
     refine blockQ_ret hQ18 ?_
     refine seqQ_ret hQ17 ?_
     refine thenQ_ret hQ14 ?_
     refine blockQ_ret hQ13 ?_
     refine thenQ_ret hQ11 ?_
     simp only [go_sem]
     obtain rfl := Option.some.inj h
     refine retW_pure rfl ?_
     simp only [go_sem, Le]
    ·
     replace h := if_f h hb_48
     simp only [bool_to_prop] at hb_48
     refine vc_skip_of ?_
     refine seqQ_normal hQ22 ?_
     refine vc_exit_of ?_
     refine seqQ_exit hQ20 ?_
     refine blockQ_exit hQ18 ?_
     refine seqQ_normal hQ17 ?_
     simp only [go_sem]
     refine thenQ_normal hQ14 ?_
     refine rnd_gen ?_
     intro QQ25 hQ25
     refine sg fun QQ26 hQ26 => ?_
     simp only [go_sem]
     refine seqQ_normal hQ26 ?_
     refine sg fun QQ27 hQ27 => ?_
     refine vc_cond_t (by (simp only [go_sem]; done)) ?_
     refine vc_skip_of ?_
     refine seqQ_normal hQ27 ?_
     refine sg fun QQ28 hQ28 => ?_
     refine vc_block_gen ?_
     intro QQ29 hQ29
     refine sg fun QQ30 hQ30 => ?_
     simp only [go_sem]
     refine seqQ_normal hQ30 ?_
     refine sg fun QQ31 hQ31 => ?_
     refine sg fun QQ32 hQ32 => ?_
     simp only [go_sem]
     refine seqQ_normal hQ32 ?_
     refine vc_cond_of (b := (decide (xv_0.many ≤ 1))) (by (simp only [go_sem]; done)) (fun hb_49 => ?_) (fun hb_49 => ?_)
     ·
      replace h := if_t h hb_49
      simp only [bool_to_prop] at hb_49
      refine sg fun QQ33 hQ33 => ?_
      refine sg fun QQ34 hQ34 => ?_
      simp only [go_sem]
      refine seqQ_normal hQ34 ?_
      refine vc_cond_of (b := (!(v_19.2.B == 0))) (by (simp only [go_sem]; done)) (fun hb_50 => ?_) (fun hb_50 => ?_)
      ·
       replace h := if_t h hb_50
       simp only [bool_to_prop] at hb_50
       refine sg fun QQ35 hQ35 => ?_
       simp only [go_sem]
       refine seqQ_normal hQ35 ?_
       refine vc_ret_of ?_
       refine seqQ_ret hQ33 ?_
       refine seqQ_ret hQ31 ?_
       refine blockQ_ret hQ29 ?_
       refine seqQ_ret hQ28 ?_
       refine thenQ_ret hQ25 ?_
       refine blockQ_ret hQ13 ?_
       refine thenQ_ret hQ11 ?_
       simp only [go_sem]
       obtain rfl := Option.some.inj h
       refine retW_pure rfl ?_
       simp only [go_sem, Le]
      ·
       replace h := if_f h hb_50
       simp only [bool_to_prop] at hb_50
       refine vc_skip_of ?_
       refine seqQ_normal hQ33 ?_
       refine vc_exit_of ?_
       refine seqQ_exit hQ31 ?_
       refine blockQ_exit hQ29 ?_
       refine seqQ_normal hQ28 ?_
       simp only [go_sem]
       refine thenQ_normal hQ25 ?_
       refine rnd_gen ?_
       intro QQ36 hQ36
       refine sg fun QQ37 hQ37 => ?_
       simp only [go_sem]
       refine seqQ_normal hQ37 ?_
       refine sg fun QQ38 hQ38 => ?_
       refine vc_cond_t (by (simp only [go_sem]; done)) ?_
       refine vc_skip_of ?_
       refine seqQ_normal hQ38 ?_
       refine sg fun QQ39 hQ39 => ?_
       refine vc_block_gen ?_
       intro QQ40 hQ40
       refine sg fun QQ41 hQ41 => ?_
       simp only [go_sem]
       refine seqQ_normal hQ41 ?_
       refine sg fun QQ42 hQ42 => ?_
       refine sg fun QQ43 hQ43 => ?_
       simp only [go_sem]
       refine seqQ_normal hQ43 ?_
       refine vc_cond_of (b := (decide (xv_0.many ≤ 2))) (by (simp only [go_sem]; done)) (fun hb_51 => ?_) (fun hb_51 => ?_)
       ·
        replace h := if_t h hb_51
        simp only [bool_to_prop] at hb_51
        refine sg fun QQ44 hQ44 => ?_
        refine sg fun QQ45 hQ45 => ?_
        simp only [go_sem]
        refine seqQ_normal hQ45 ?_
        refine vc_cond_of (b := (!(v_19.2.C == 0))) (by (simp only [go_sem]; done)) (fun hb_52 => ?_) (fun hb_52 => ?_)
        ·
         replace h := if_t h hb_52
         simp only [bool_to_prop] at hb_52
         refine sg fun QQ46 hQ46 => ?_
         simp only [go_sem]
         refine seqQ_normal hQ46 ?_
         refine vc_ret_of ?_
         refine seqQ_ret hQ44 ?_
         refine seqQ_ret hQ42 ?_
         refine blockQ_ret hQ40 ?_
         refine seqQ_ret hQ39 ?_
         refine thenQ_ret hQ36 ?_
         refine blockQ_ret hQ13 ?_
         refine thenQ_ret hQ11 ?_
         simp only [go_sem]
         obtain rfl := Option.some.inj h
         refine retW_pure rfl ?_
         simp only [go_sem, Le]
        ·
         replace h := if_f h hb_52
         simp only [bool_to_prop] at hb_52
         refine vc_skip_of ?_
         refine seqQ_normal hQ44 ?_
         refine vc_exit_of ?_
         refine seqQ_exit hQ42 ?_
         refine blockQ_exit hQ40 ?_
         refine seqQ_normal hQ39 ?_
         simp only [go_sem]
         refine thenQ_normal hQ36 ?_
         refine rnd_gen ?_
         intro QQ47 hQ47
         refine sg fun QQ48 hQ48 => ?_
         simp only [go_sem]
         refine seqQ_normal hQ48 ?_
         refine sg fun QQ49 hQ49 => ?_
         refine vc_cond_t (by (simp only [go_sem]; done)) ?_
         refine vc_skip_of ?_
         refine seqQ_normal hQ49 ?_
         refine sg fun QQ50 hQ50 => ?_
         refine vc_block_gen ?_
         intro QQ51 hQ51
         refine sg fun QQ52 hQ52 => ?_
         simp only [go_sem]
         refine seqQ_normal hQ52 ?_
         refine sg fun QQ53 hQ53 => ?_
         refine sg fun QQ54 hQ54 => ?_
         simp only [go_sem]
         refine seqQ_normal hQ54 ?_
         refine vc_cond_of (b := (decide (xv_0.many ≤ 3))) (by (simp only [go_sem]; done)) (fun hb_53 => ?_) (fun hb_53 => ?_)
         ·
          replace h := if_t h hb_53
          simp only [bool_to_prop] at hb_53
          refine sg fun QQ55 hQ55 => ?_
          refine sg fun QQ56 hQ56 => ?_
          simp only [go_sem]
          refine seqQ_normal hQ56 ?_
          refine vc_cond_of (b := (!(v_19.2.D == 0))) (by (simp only [go_sem]; done)) (fun hb_54 => ?_) (fun hb_54 => ?_)
          ·
           replace h := if_t h hb_54
           simp only [bool_to_prop] at hb_54
           refine sg fun QQ57 hQ57 => ?_
           simp only [go_sem]
           refine seqQ_normal hQ57 ?_
           refine vc_ret_of ?_
           refine seqQ_ret hQ55 ?_
           refine seqQ_ret hQ53 ?_
           refine blockQ_ret hQ51 ?_
           refine seqQ_ret hQ50 ?_
           refine thenQ_ret hQ47 ?_
           refine blockQ_ret hQ13 ?_
           refine thenQ_ret hQ11 ?_
           simp only [go_sem]
           obtain rfl := Option.some.inj h
           refine retW_pure rfl ?_
           simp only [go_sem, Le]
          ·
           replace h := if_f h hb_54
           simp only [bool_to_prop] at hb_54
           refine vc_skip_of ?_
           refine seqQ_normal hQ55 ?_
           refine vc_exit_of ?_
           refine seqQ_exit hQ53 ?_
           refine blockQ_exit hQ51 ?_
           refine seqQ_normal hQ50 ?_
           simp only [go_sem]
           refine thenQ_normal hQ47 ?_
           refine rnd_gen ?_
           intro QQ58 hQ58
           refine sg fun QQ59 hQ59 => ?_
           simp only [go_sem]
           refine seqQ_normal hQ59 ?_
           refine sg fun QQ60 hQ60 => ?_
           refine vc_cond_f (by (simp only [go_sem]; done)) ?_
           refine vc_exit_of ?_
           refine seqQ_exit hQ60 ?_
           refine thenQ_exit hQ58 ?_
           refine blockQ_exit hQ13 ?_
           refine thenQ_normal hQ11 ?_
           refine ⟨(xv_0.word.s, v_19.2), [some 0, some 1], ?_, h⟩
           simp only [go_sem, Le] <;> (repeat' apply And.intro) <;> first | ((try with_reducible refine TL_eq ?_); omega) | ((try with_reducible refine TL_eq ?_); (simp [go_sem]; done))
         ·
          replace h := if_f h hb_53
          simp only [bool_to_prop] at hb_53
          refine vc_skip_of ?_
          refine seqQ_normal hQ53 ?_
          refine sg fun QQ61 hQ61 => ?_
          refine sg fun QQ62 hQ62 => ?_
          simp only [go_sem]
          refine seqQ_normal hQ62 ?_
          refine vc_cond_of (b := ((decide (v_19.2.D < 0)) || (decide (2147483647 < v_19.2.D)))) (by (simp only [go_sem]; done)) (fun hb_55 => ?_) (fun hb_55 => ?_)
          ·
           replace h := if_t h hb_55
           simp only [bool_to_prop] at hb_55
           refine sg fun QQ63 hQ63 => ?_
           simp only [go_sem]
           refine seqQ_normal hQ63 ?_
           refine vc_ret_of ?_
           refine seqQ_ret hQ61 ?_
           refine blockQ_ret hQ51 ?_
           refine seqQ_ret hQ50 ?_
           refine thenQ_ret hQ47 ?_
           refine blockQ_ret hQ13 ?_
           refine thenQ_ret hQ11 ?_
           simp only [go_sem]
           obtain rfl := Option.some.inj h
           refine retW_pure rfl ?_
           simp only [go_sem, Le]
          ·
           replace h := if_f h hb_55
           simp only [bool_to_prop] at hb_55
           refine vc_skip_of ?_
           refine seqQ_normal hQ61 ?_
           obtain ⟨v_20, ev_20, h⟩ := bindO_some h
           simp only [go_sem]
           refine call0 (f_strconv_Itoa_ok v_19.2.D v_20 ev_20) (by rfl) (by rfl) ?_
           obtain ⟨g_34, h⟩ := guardO_some h
           obtain ⟨g_35, h⟩ := guardO_some h
           simp only [go_sem, g_34, g_35]
           refine And.intro (by omega) ?_
           refine And.intro (by omega) ?_
           refine blockQ_normal hQ51 ?_
           refine seqQ_normal hQ50 ?_
           simp only [go_sem]
           refine thenQ_normal hQ47 ?_
           refine rnd_gen ?_
           intro QQ64 hQ64
           refine sg fun QQ65 hQ65 => ?_
           simp only [go_sem]
           refine seqQ_normal hQ65 ?_
           refine sg fun QQ66 hQ66 => ?_
           refine vc_cond_f (by (simp only [go_sem]; done)) ?_
           refine vc_exit_of ?_
           refine seqQ_exit hQ66 ?_
           refine thenQ_exit hQ64 ?_
           refine blockQ_exit hQ13 ?_
           refine thenQ_normal hQ11 ?_
           refine ⟨((xv_0.word.s ++ (([32] : List UInt8) ++ v_20)), v_19.2), [some 0, some 1], ?_, h⟩
           simp only [go_sem, Le] <;> (repeat' apply And.intro) <;> ((try with_reducible refine TL_eq ?_); omega)
       ·
        replace h := if_f h hb_51
        simp only [bool_to_prop] at hb_51
        refine vc_skip_of ?_
        refine seqQ_normal hQ42 ?_
        refine sg fun QQ67 hQ67 => ?_
        refine sg fun QQ68 hQ68 => ?_
        simp only [go_sem]
        refine seqQ_normal hQ68 ?_
        refine vc_cond_of (b := ((decide (v_19.2.C < 0)) || (decide (2147483647 < v_19.2.C)))) (by (simp only [go_sem]; done)) (fun hb_56 => ?_) (fun hb_56 => ?_)
        ·
         replace h := if_t h hb_56
         simp only [bool_to_prop] at hb_56
         refine sg fun QQ69 hQ69 => ?_
         simp only [go_sem]
         refine seqQ_normal hQ69 ?_
         refine vc_ret_of ?_
         refine seqQ_ret hQ67 ?_
         refine blockQ_ret hQ40 ?_
         refine seqQ_ret hQ39 ?_
         refine thenQ_ret hQ36 ?_
         refine blockQ_ret hQ13 ?_
         refine thenQ_ret hQ11 ?_
         simp only [go_sem]
         obtain rfl := Option.some.inj h
         refine retW_pure rfl ?_
         simp only [go_sem, Le]
        ·
         replace h := if_f h hb_56
         simp only [bool_to_prop] at hb_56
         refine vc_skip_of ?_
         refine seqQ_normal hQ67 ?_
         obtain ⟨v_21, ev_21, h⟩ := bindO_some h
         simp only [go_sem]
         refine call0 (f_strconv_Itoa_ok v_19.2.C v_21 ev_21) (by rfl) (by rfl) ?_
         obtain ⟨g_36, h⟩ := guardO_some h
         obtain ⟨g_37, h⟩ := guardO_some h
         simp only [go_sem, g_36, g_37]
         refine And.intro (by omega) ?_
         refine And.intro (by omega) ?_
         refine blockQ_normal hQ40 ?_
         refine seqQ_normal hQ39 ?_
         simp only [go_sem]
         refine thenQ_normal hQ36 ?_
         refine rnd_gen ?_
         intro QQ70 hQ70
         refine sg fun QQ71 hQ71 => ?_
         simp only [go_sem]
         refine seqQ_normal hQ71 ?_
         refine sg fun QQ72 hQ72 => ?_
         refine vc_cond_t (by (simp only [go_sem]; done)) ?_
         refine vc_skip_of ?_
         refine seqQ_normal hQ72 ?_
         refine sg fun QQ73 hQ73 => ?_
         refine vc_block_gen ?_
         intro QQ74 hQ74
         refine sg fun QQ75 hQ75 => ?_
         simp only [go_sem]
         refine seqQ_normal hQ75 ?_
         refine sg fun QQ76 hQ76 => ?_
         refine sg fun QQ77 hQ77 => ?_
         simp only [go_sem]
         refine seqQ_normal hQ77 ?_
         refine vc_cond_of (b := (decide (xv_0.many ≤ 3))) (by (simp only [go_sem]; done)) (fun hb_57 => ?_) (fun hb_57 => ?_)
         ·
          replace h := if_t h hb_57
          simp only [bool_to_prop] at hb_57
          refine sg fun QQ78 hQ78 => ?_
          refine sg fun QQ79 hQ79 => ?_
          simp only [go_sem]
          refine seqQ_normal hQ79 ?_
          refine vc_cond_of (b := (!(v_19.2.D == 0))) (by (simp only [go_sem]; done)) (fun hb_58 => ?_) (fun hb_58 => ?_)
          ·
           replace h := if_t h hb_58
           simp only [bool_to_prop] at hb_58
           refine sg fun QQ80 hQ80 => ?_
           simp only [go_sem]
           refine seqQ_normal hQ80 ?_
           refine vc_ret_of ?_
           refine seqQ_ret hQ78 ?_
           refine seqQ_ret hQ76 ?_
           refine blockQ_ret hQ74 ?_
           refine seqQ_ret hQ73 ?_
           refine thenQ_ret hQ70 ?_
           refine blockQ_ret hQ13 ?_
           refine thenQ_ret hQ11 ?_
           simp only [go_sem]
           obtain rfl := Option.some.inj h
           refine retW_pure rfl ?_
           simp only [go_sem, Le]
          ·
           replace h := if_f h hb_58
           simp only [bool_to_prop] at hb_58
           refine vc_skip_of ?_
           refine seqQ_normal hQ78 ?_
           refine vc_exit_of ?_
           refine seqQ_exit hQ76 ?_
           refine blockQ_exit hQ74 ?_
           refine seqQ_normal hQ73 ?_
           simp only [go_sem]
           refine thenQ_normal hQ70 ?_
           refine rnd_gen ?_
           intro QQ81 hQ81
           refine sg fun QQ82 hQ82 => ?_
           simp only [go_sem]
           refine seqQ_normal hQ82 ?_
           refine sg fun QQ83 hQ83 => ?_
           refine vc_cond_f (by (simp only [go_sem]; done)) ?_
           refine vc_exit_of ?_
           refine seqQ_exit hQ83 ?_
           refine thenQ_exit hQ81 ?_
           refine blockQ_exit hQ13 ?_
           refine thenQ_normal hQ11 ?_
           refine ⟨((xv_0.word.s ++ (([32] : List UInt8) ++ v_21)), v_19.2), [some 0, some 1], ?_, h⟩
           simp only [go_sem, Le] <;> (repeat' apply And.intro) <;> ((try with_reducible refine TL_eq ?_); omega)
         ·
          replace h := if_f h hb_57
          simp only [bool_to_prop] at hb_57
          refine vc_skip_of ?_
          refine seqQ_normal hQ76 ?_
          refine sg fun QQ84 hQ84 => ?_
          refine sg fun QQ85 hQ85 => ?_
          simp only [go_sem]
          refine seqQ_normal hQ85 ?_
          refine vc_cond_of (b := ((decide (v_19.2.D < 0)) || (decide (2147483647 < v_19.2.D)))) (by (simp only [go_sem]; done)) (fun hb_59 => ?_) (fun hb_59 => ?_)
          ·
           replace h := if_t h hb_59
           simp only [bool_to_prop] at hb_59
           refine sg fun QQ86 hQ86 => ?_
           simp only [go_sem]
           refine seqQ_normal hQ86 ?_
           refine vc_ret_of ?_
           refine seqQ_ret hQ84 ?_
           refine blockQ_ret hQ74 ?_
           refine seqQ_ret hQ73 ?_
           refine thenQ_ret hQ70 ?_
           refine blockQ_ret hQ13 ?_
           refine thenQ_ret hQ11 ?_
           simp only [go_sem]
           obtain rfl := Option.some.inj h
           refine retW_pure rfl ?_
           simp only [go_sem, Le]
          ·
           replace h := if_f h hb_59
           simp only [bool_to_prop] at hb_59
           refine vc_skip_of ?_
           refine seqQ_normal hQ84 ?_
           obtain ⟨v_22, ev_22, h⟩ := bindO_some h
           simp only [go_sem]
           refine call0 (f_strconv_Itoa_ok v_19.2.D v_22 ev_22) (by rfl) (by rfl) ?_
           obtain ⟨g_38, h⟩ := guardO_some h
           obtain ⟨g_39, h⟩ := guardO_some h
           simp only [go_sem, g_38, g_39]
           refine And.intro (by first | (simp only [List.length_append, List.length_cons, List.length_nil, Nat.zero_add] <;> omega) | omega) ?_
           refine And.intro (by first | (simp only [List.length_append, List.length_cons, List.length_nil, Nat.zero_add] <;> omega) | omega) ?_
           refine blockQ_normal hQ74 ?_
           refine seqQ_normal hQ73 ?_
           simp only [go_sem]
           refine thenQ_normal hQ70 ?_
           refine rnd_gen ?_
           intro QQ87 hQ87
           refine sg fun QQ88 hQ88 => ?_
           simp only [go_sem]
           refine seqQ_normal hQ88 ?_
           refine sg fun QQ89 hQ89 => ?_
           refine vc_cond_f (by (simp only [go_sem]; done)) ?_
           refine vc_exit_of ?_
           refine seqQ_exit hQ89 ?_
           refine thenQ_exit hQ87 ?_
           refine blockQ_exit hQ13 ?_
           refine thenQ_normal hQ11 ?_
           refine ⟨(((xv_0.word.s ++ (([32] : List UInt8) ++ v_21)) ++ (([32] : List UInt8) ++ v_22)), v_19.2), [some 0, some 1], ?_, h⟩
           simp only [go_sem, Le] <;> (repeat' apply And.intro) <;> ((try with_reducible refine TL_eq ?_); omega)
     ·
      replace h := if_f h hb_49
      simp only [bool_to_prop] at hb_49
      refine vc_skip_of ?_
      refine seqQ_normal hQ31 ?_
      refine sg fun QQ90 hQ90 => ?_
      refine sg fun QQ91 hQ91 => ?_
      simp only [go_sem]
      refine seqQ_normal hQ91 ?_
      refine vc_cond_of (b := ((decide (v_19.2.B < 0)) || (decide (2147483647 < v_19.2.B)))) (by (simp only [go_sem]; done)) (fun hb_60 => ?_) (fun hb_60 => ?_)
      ·
       replace h := if_t h hb_60
       simp only [bool_to_prop] at hb_60
       refine sg fun QQ92 hQ92 => ?_
       simp only [go_sem]
       refine seqQ_normal hQ92 ?_
       refine vc_ret_of ?_
       refine seqQ_ret hQ90 ?_
       refine blockQ_ret hQ29 ?_
       refine seqQ_ret hQ28 ?_
       refine thenQ_ret hQ25 ?_
       refine blockQ_ret hQ13 ?_
       refine thenQ_ret hQ11 ?_
       simp only [go_sem]
       obtain rfl := Option.some.inj h
       refine retW_pure rfl ?_
       simp only [go_sem, Le]
      ·
       replace h := if_f h hb_60
       simp only [bool_to_prop] at hb_60
       refine vc_skip_of ?_
       refine seqQ_normal hQ90 ?_
       obtain ⟨v_23, ev_23, h⟩ := bindO_some h
       simp only [go_sem]
       refine call0 (f_strconv_Itoa_ok v_19.2.B v_23 ev_23) (by rfl) (by rfl) ?_
       obtain ⟨g_40, h⟩ := guardO_some h
       obtain ⟨g_41, h⟩ := guardO_some h
       simp only [go_sem, g_40, g_41]
       refine And.intro (by omega) ?_
       refine And.intro (by omega) ?_
       refine blockQ_normal hQ29 ?_
       refine seqQ_normal hQ28 ?_
       simp only [go_sem]
       refine thenQ_normal hQ25 ?_
       refine rnd_gen ?_
       intro QQ93 hQ93
       refine sg fun QQ94 hQ94 => ?_
       simp only [go_sem]
       refine seqQ_normal hQ94 ?_
       refine sg fun QQ95 hQ95 => ?_
       refine vc_cond_t (by (simp only [go_sem]; done)) ?_
       refine vc_skip_of ?_
       refine seqQ_normal hQ95 ?_
       refine sg fun QQ96 hQ96 => ?_
       refine vc_block_gen ?_
       intro QQ97 hQ97
       refine sg fun QQ98 hQ98 => ?_
       simp only [go_sem]
       refine seqQ_normal hQ98 ?_
       refine sg fun QQ99 hQ99 => ?_
       refine sg fun QQ100 hQ100 => ?_
       simp only [go_sem]
       refine seqQ_normal hQ100 ?_
       refine vc_cond_of (b := (decide (xv_0.many ≤ 2))) (by (simp only [go_sem]; done)) (fun hb_61 => ?_) (fun hb_61 => ?_)
       ·
        replace h := if_t h hb_61
        simp only [bool_to_prop] at hb_61
        refine sg fun QQ101 hQ101 => ?_
        refine sg fun QQ102 hQ102 => ?_
        simp only [go_sem]
        refine seqQ_normal hQ102 ?_
        refine vc_cond_of (b := (!(v_19.2.C == 0))) (by (simp only [go_sem]; done)) (fun hb_62 => ?_) (fun hb_62 => ?_)
        ·
         replace h := if_t h hb_62
         simp only [bool_to_prop] at hb_62
         refine sg fun QQ103 hQ103 => ?_
         simp only [go_sem]
         refine seqQ_normal hQ103 ?_
         refine vc_ret_of ?_
         refine seqQ_ret hQ101 ?_
         refine seqQ_ret hQ99 ?_
         refine blockQ_ret hQ97 ?_
         refine seqQ_ret hQ96 ?_
         refine thenQ_ret hQ93 ?_
         refine blockQ_ret hQ13 ?_
         refine thenQ_ret hQ11 ?_
         simp only [go_sem]
         obtain rfl := Option.some.inj h
         refine retW_pure rfl ?_
         simp only [go_sem, Le]
        ·
         replace h := if_f h hb_62
         simp only [bool_to_prop] at hb_62
         refine vc_skip_of ?_
         refine seqQ_normal hQ101 ?_
         refine vc_exit_of ?_
         refine seqQ_exit hQ99 ?_
         refine blockQ_exit hQ97 ?_
         refine seqQ_normal hQ96 ?_
         simp only [go_sem]
         refine thenQ_normal hQ93 ?_
         refine rnd_gen ?_
         intro QQ104 hQ104
         refine sg fun QQ105 hQ105 => ?_
         simp only [go_sem]
         refine seqQ_normal hQ105 ?_
         refine sg fun QQ106 hQ106 => ?_
         refine vc_cond_t (by (simp only [go_sem]; done)) ?_
         refine vc_skip_of ?_
         refine seqQ_normal hQ106 ?_
         refine sg fun QQ107 hQ107 => ?_
         refine vc_block_gen ?_
         intro QQ108 hQ108
         refine sg fun QQ109 hQ109 => ?_
         simp only [go_sem]
         refine seqQ_normal hQ109 ?_
         refine sg fun QQ110 hQ110 => ?_
         refine sg fun QQ111 hQ111 => ?_
         simp only [go_sem]
         refine seqQ_normal hQ111 ?_
         refine vc_cond_of (b := (decide (xv_0.many ≤ 3))) (by (simp only [go_sem]; done)) (fun hb_63 => ?_) (fun hb_63 => ?_)
         ·
          replace h := if_t h hb_63
          simp only [bool_to_prop] at hb_63
          refine sg fun QQ112 hQ112 => ?_
          refine sg fun QQ113 hQ113 => ?_
          simp only [go_sem]
          refine seqQ_normal hQ113 ?_
          refine vc_cond_of (b := (!(v_19.2.D == 0))) (by (simp only [go_sem]; done)) (fun hb_64 => ?_) (fun hb_64 => ?_)
          ·
           replace h := if_t h hb_64
           simp only [bool_to_prop] at hb_64
           refine sg fun QQ114 hQ114 => ?_
           simp only [go_sem]
           refine seqQ_normal hQ114 ?_
           refine vc_ret_of ?_
           refine seqQ_ret hQ112 ?_
           refine seqQ_ret hQ110 ?_
           refine blockQ_ret hQ108 ?_
           refine seqQ_ret hQ107 ?_
           refine thenQ_ret hQ104 ?_
           refine blockQ_ret hQ13 ?_
           refine thenQ_ret hQ11 ?_
           simp only [go_sem]
           obtain rfl := Option.some.inj h
           refine retW_pure rfl ?_
           simp only [go_sem, Le]
          ·
           replace h := if_f h hb_64
           simp only [bool_to_prop] at hb_64
           refine vc_skip_of ?_
           refine seqQ_normal hQ112 ?_
           refine vc_exit_of ?_
           refine seqQ_exit hQ110 ?_
           refine blockQ_exit hQ108 ?_
           refine seqQ_normal hQ107 ?_
           simp only [go_sem]
           refine thenQ_normal hQ104 ?_
           refine rnd_gen ?_
           intro QQ115 hQ115
           refine sg fun QQ116 hQ116 => ?_
           simp only [go_sem]
           refine seqQ_normal hQ116 ?_
           refine sg fun QQ117 hQ117 => ?_
           refine vc_cond_f (by (simp only [go_sem]; done)) ?_
           refine vc_exit_of ?_
           refine seqQ_exit hQ117 ?_
           refine thenQ_exit hQ115 ?_
           refine blockQ_exit hQ13 ?_
           refine thenQ_normal hQ11 ?_
           refine ⟨((xv_0.word.s ++ (([32] : List UInt8) ++ v_23)), v_19.2), [some 0, some 1], ?_, h⟩
           simp only [go_sem, Le] <;> (repeat' apply And.intro) <;> ((try with_reducible refine TL_eq ?_); omega)
         ·
          replace h := if_f h hb_63
          simp only [bool_to_prop] at hb_63
          refine vc_skip_of ?_
          refine seqQ_normal hQ110 ?_
          refine sg fun QQ118 hQ118 => ?_
          refine sg fun QQ119 hQ119 => ?_
          simp only [go_sem]
          refine seqQ_normal hQ119 ?_
          refine vc_cond_of (b := ((decide (v_19.2.D < 0)) || (decide (2147483647 < v_19.2.D)))) (by (simp only [go_sem]; done)) (fun hb_65 => ?_) (fun hb_65 => ?_)
          ·
           replace h := if_t h hb_65
           simp only [bool_to_prop] at hb_65
           refine sg fun QQ120 hQ120 => ?_
           simp only [go_sem]
           refine seqQ_normal hQ120 ?_
           refine vc_ret_of ?_
           refine seqQ_ret hQ118 ?_
           refine blockQ_ret hQ108 ?_
           refine seqQ_ret hQ107 ?_
           refine thenQ_ret hQ104 ?_
           refine blockQ_ret hQ13 ?_
           refine thenQ_ret hQ11 ?_
           simp only [go_sem]
           obtain rfl := Option.some.inj h
           refine retW_pure rfl ?_
           simp only [go_sem, Le]
          ·
           replace h := if_f h hb_65
           simp only [bool_to_prop] at hb_65
           refine vc_skip_of ?_
           refine seqQ_normal hQ118 ?_
           obtain ⟨v_24, ev_24, h⟩ := bindO_some h
           simp only [go_sem]
           refine call0 (f_strconv_Itoa_ok v_19.2.D v_24 ev_24) (by rfl) (by rfl) ?_
           obtain ⟨g_42, h⟩ := guardO_some h
           obtain ⟨g_43, h⟩ := guardO_some h
           simp only [go_sem, g_42, g_43]
           refine And.intro (by first | (simp only [List.length_append, List.length_cons, List.length_nil, Nat.zero_add] <;> omega) | omega) ?_
           refine And.intro (by first | (simp only [List.length_append, List.length_cons, List.length_nil, Nat.zero_add] <;> omega) | omega) ?_
           refine blockQ_normal hQ108 ?_
           refine seqQ_normal hQ107 ?_
           simp only [go_sem]
           refine thenQ_normal hQ104 ?_
           refine rnd_gen ?_
           intro QQ121 hQ121
           refine sg fun QQ122 hQ122 => ?_
           simp only [go_sem]
           refine seqQ_normal hQ122 ?_
           refine sg fun QQ123 hQ123 => ?_
           refine vc_cond_f (by (simp only [go_sem]; done)) ?_
           refine vc_exit_of ?_
           refine seqQ_exit hQ123 ?_
           refine thenQ_exit hQ121 ?_
           refine blockQ_exit hQ13 ?_
           refine thenQ_normal hQ11 ?_
           refine ⟨(((xv_0.word.s ++ (([32] : List UInt8) ++ v_23)) ++ (([32] : List UInt8) ++ v_24)), v_19.2), [some 0, some 1], ?_, h⟩
           simp only [go_sem, Le] <;> (repeat' apply And.intro) <;> ((try with_reducible refine TL_eq ?_); omega)
       ·
        replace h := if_f h hb_61
        simp only [bool_to_prop] at hb_61
        refine vc_skip_of ?_
        refine seqQ_normal hQ99 ?_
        refine sg fun QQ124 hQ124 => ?_
        refine sg fun QQ125 hQ125 => ?_
        simp only [go_sem]
        refine seqQ_normal hQ125 ?_
        refine vc_cond_of (b := ((decide (v_19.2.C < 0)) || (decide (2147483647 < v_19.2.C)))) (by (simp only [go_sem]; done)) (fun hb_66 => ?_) (fun hb_66 => ?_)
        ·
         replace h := if_t h hb_66
         simp only [bool_to_prop] at hb_66
         refine sg fun QQ126 hQ126 => ?_
         simp only [go_sem]
         refine seqQ_normal hQ126 ?_
         refine vc_ret_of ?_
         refine seqQ_ret hQ124 ?_
         refine blockQ_ret hQ97 ?_
         refine seqQ_ret hQ96 ?_
         refine thenQ_ret hQ93 ?_
         refine blockQ_ret hQ13 ?_
         refine thenQ_ret hQ11 ?_
         simp only [go_sem]
         obtain rfl := Option.some.inj h
         refine retW_pure rfl ?_
         simp only [go_sem, Le]
        ·
         replace h := if_f h hb_66
         simp only [bool_to_prop] at hb_66
         refine vc_skip_of ?_
         refine seqQ_normal hQ124 ?_
         obtain ⟨v_25, ev_25, h⟩ := bindO_some h
         simp only [go_sem]
         refine call0 (f_strconv_Itoa_ok v_19.2.C v_25 ev_25) (by rfl) (by rfl) ?_
         obtain ⟨g_44, h⟩ := guardO_some h
         obtain ⟨g_45, h⟩ := guardO_some h
         simp only [go_sem, g_44, g_45]
         refine And.intro (by first | (simp only [List.length_append, List.length_cons, List.length_nil, Nat.zero_add] <;> omega) | omega) ?_
         refine And.intro (by first | (simp only [List.length_append, List.length_cons, List.length_nil, Nat.zero_add] <;> omega) | omega) ?_
         refine blockQ_normal hQ97 ?_
         refine seqQ_normal hQ96 ?_
         simp only [go_sem]
         refine thenQ_normal hQ93 ?_
         refine rnd_gen ?_
         intro QQ127 hQ127
         refine sg fun QQ128 hQ128 => ?_
         simp only [go_sem]
         refine seqQ_normal hQ128 ?_
         refine sg fun QQ129 hQ129 => ?_
         refine vc_cond_t (by (simp only [go_sem]; done)) ?_
         refine vc_skip_of ?_
         refine seqQ_normal hQ129 ?_
         refine sg fun QQ130 hQ130 => ?_
         refine vc_block_gen ?_
         intro QQ131 hQ131
         refine sg fun QQ132 hQ132 => ?_
         simp only [go_sem]
         refine seqQ_normal hQ132 ?_
         refine sg fun QQ133 hQ133 => ?_
         refine sg fun QQ134 hQ134 => ?_
         simp only [go_sem]
         refine seqQ_normal hQ134 ?_
         refine vc_cond_of (b := (decide (xv_0.many ≤ 3))) (by (simp only [go_sem]; done)) (fun hb_67 => ?_) (fun hb_67 => ?_)
         ·
          replace h := if_t h hb_67
          simp only [bool_to_prop] at hb_67
          refine sg fun QQ135 hQ135 => ?_
          refine sg fun QQ136 hQ136 => ?_
          simp only [go_sem]
          refine seqQ_normal hQ136 ?_
          refine vc_cond_of (b := (!(v_19.2.D == 0))) (by (simp only [go_sem]; done)) (fun hb_68 => ?_) (fun hb_68 => ?_)
          ·
           replace h := if_t h hb_68
           simp only [bool_to_prop] at hb_68
           refine sg fun QQ137 hQ137 => ?_
           simp only [go_sem]
           refine seqQ_normal hQ137 ?_
           refine vc_ret_of ?_
           refine seqQ_ret hQ135 ?_
           refine seqQ_ret hQ133 ?_
           refine blockQ_ret hQ131 ?_
           refine seqQ_ret hQ130 ?_
           refine thenQ_ret hQ127 ?_
           refine blockQ_ret hQ13 ?_
           refine thenQ_ret hQ11 ?_
           simp only [go_sem]
           obtain rfl := Option.some.inj h
           refine retW_pure rfl ?_
           simp only [go_sem, Le]
          ·
           replace h := if_f h hb_68
           simp only [bool_to_prop] at hb_68
           refine vc_skip_of ?_
           refine seqQ_normal hQ135 ?_
           refine vc_exit_of ?_
           refine seqQ_exit hQ133 ?_
           refine blockQ_exit hQ131 ?_
           refine seqQ_normal hQ130 ?_
           simp only [go_sem]
           refine thenQ_normal hQ127 ?_
           refine rnd_gen ?_
           intro QQ138 hQ138
           refine sg fun QQ139 hQ139 => ?_
           simp only [go_sem]
           refine seqQ_normal hQ139 ?_
           refine sg fun QQ140 hQ140 => ?_
           refine vc_cond_f (by (simp only [go_sem]; done)) ?_
           refine vc_exit_of ?_
           refine seqQ_exit hQ140 ?_
           refine thenQ_exit hQ138 ?_
           refine blockQ_exit hQ13 ?_
           refine thenQ_normal hQ11 ?_
           refine ⟨(((xv_0.word.s ++ (([32] : List UInt8) ++ v_23)) ++ (([32] : List UInt8) ++ v_25)), v_19.2), [some 0, some 1], ?_, h⟩
           simp only [go_sem, Le] <;> (repeat' apply And.intro) <;> ((try with_reducible refine TL_eq ?_); omega)
         ·
          replace h := if_f h hb_67
          simp only [bool_to_prop] at hb_67
          refine vc_skip_of ?_
          refine seqQ_normal hQ133 ?_
          refine sg fun QQ141 hQ141 => ?_
          refine sg fun QQ142 hQ142 => ?_
          simp only [go_sem]
          refine seqQ_normal hQ142 ?_
          refine vc_cond_of (b := ((decide (v_19.2.D < 0)) || (decide (2147483647 < v_19.2.D)))) (by (simp only [go_sem]; done)) (fun hb_69 => ?_) (fun hb_69 => ?_)
          ·
           replace h := if_t h hb_69
           simp only [bool_to_prop] at hb_69
           refine sg fun QQ143 hQ143 => ?_
           simp only [go_sem]
           refine seqQ_normal hQ143 ?_
           refine vc_ret_of ?_
           refine seqQ_ret hQ141 ?_
           refine blockQ_ret hQ131 ?_
           refine seqQ_ret hQ130 ?_
           refine thenQ_ret hQ127 ?_
           refine blockQ_ret hQ13 ?_
           refine thenQ_ret hQ11 ?_
           simp only [go_sem]
           obtain rfl := Option.some.inj h
           refine retW_pure rfl ?_
           simp only [go_sem, Le]
          ·
           replace h := if_f h hb_69
           simp only [bool_to_prop] at hb_69
           refine vc_skip_of ?_
           refine seqQ_normal hQ141 ?_
           obtain ⟨v_26, ev_26, h⟩ := bindO_some h
           simp only [go_sem]
           refine call0 (f_strconv_Itoa_ok v_19.2.D v_26 ev_26) (by rfl) (by rfl) ?_
           obtain ⟨g_46, h⟩ := guardO_some h
           obtain ⟨g_47, h⟩ := guardO_some h
           simp only [go_sem, g_46, g_47]
           refine And.intro (by first | (simp only [List.length_append, List.length_cons, List.length_nil, Nat.zero_add] <;> omega) | omega) ?_
           refine And.intro (by first | (simp only [List.length_append, List.length_cons, List.length_nil, Nat.zero_add] <;> omega) | omega) ?_
           refine blockQ_normal hQ131 ?_
           refine seqQ_normal hQ130 ?_
           simp only [go_sem]
           refine thenQ_normal hQ127 ?_
           refine rnd_gen ?_
           intro QQ144 hQ144
           refine sg fun QQ145 hQ145 => ?_
           simp only [go_sem]
           refine seqQ_normal hQ145 ?_
           refine sg fun QQ146 hQ146 => ?_
           refine vc_cond_f (by (simp only [go_sem]; done)) ?_
           refine vc_exit_of ?_
           refine seqQ_exit hQ146 ?_
           refine thenQ_exit hQ144 ?_
           refine blockQ_exit hQ13 ?_
           refine thenQ_normal hQ11 ?_
           refine ⟨((((xv_0.word.s ++ (([32] : List UInt8) ++ v_23)) ++ (([32] : List UInt8) ++ v_25)) ++ (([32] : List UInt8) ++ v_26)), v_19.2), [some 0, some 1], ?_, h⟩
           simp only [go_sem, Le] <;> (repeat' apply And.intro) <;> ((try with_reducible refine TL_eq ?_); omega)
   ·
    replace h := if_f h hb_47
    simp only [bool_to_prop] at hb_47
    refine vc_skip_of ?_
    refine seqQ_normal hQ20 ?_
    refine sg fun QQ147 hQ147 => ?_
    refine sg fun QQ148 hQ148 => ?_
    simp only [go_sem]
    refine seqQ_normal hQ148 ?_
    refine vc_cond_of (b := ((decide (v_19.2.A < 0)) || (decide (2147483647 < v_19.2.A)))) (by (simp only [go_sem]; done)) (fun hb_70 => ?_) (fun hb_70 => ?_)
    ·
     replace h := if_t h hb_70
     simp only [bool_to_prop] at hb_70
     refine sg fun QQ149 hQ149 => ?_
     simp only [go_sem]
     refine seqQ_normal hQ149 ?_
     refine vc_ret_of ?_
     refine seqQ_ret hQ147 ?_
     refine blockQ_ret hQ18 ?_
     refine seqQ_ret hQ17 ?_
     refine thenQ_ret hQ14 ?_
     refine blockQ_ret hQ13 ?_
     refine thenQ_ret hQ11 ?_
     simp only [go_sem]
     obtain rfl := Option.some.inj h
     refine retW_pure rfl ?_
     simp only [go_sem, Le]
    ·
     replace h := if_f h hb_70
     simp only [bool_to_prop] at hb_70
     refine vc_skip_of ?_
     refine seqQ_normal hQ147 ?_
     obtain ⟨v_27, ev_27, h⟩ := bindO_some h
     simp only [go_sem]
     refine call0 (f_strconv_Itoa_ok v_19.2.A v_27 ev_27) (by rfl) (by rfl) ?_
     obtain ⟨g_48, h⟩ := guardO_some h
     obtain ⟨g_49, h⟩ := guardO_some h
     simp only [go_sem, g_48, g_49]
     refine And.intro (by first | omega | assumption) ?_
     refine And.intro (by first | omega | assumption) ?_
     refine blockQ_normal hQ18 ?_
     refine seqQ_normal hQ17 ?_
     simp only [go_sem]
     refine thenQ_normal hQ14 ?_
     refine rnd_gen ?_
     intro QQ150 hQ150
     refine sg fun QQ151 hQ151 => ?_
     simp only [go_sem]
     refine seqQ_normal hQ151 ?_
     refine sg fun QQ152 hQ152 => ?_
     refine vc_cond_t (by (simp only [go_sem]; done)) ?_
     refine vc_skip_of ?_
     refine seqQ_normal hQ152 ?_
     refine sg fun QQ153 hQ153 => ?_
     refine vc_block_gen ?_
     intro QQ154 hQ154
     refine sg fun QQ155 hQ155 => ?_
     simp only [go_sem]
     refine seqQ_normal hQ155 ?_
     refine sg fun QQ156 hQ156 => ?_
     refine sg fun QQ157 hQ157 => ?_
     simp only [go_sem]
     refine seqQ_normal hQ157 ?_
     refine vc_cond_of (b := (decide (xv_0.many ≤ 1))) (by (simp only [go_sem]; done)) (fun hb_71 => ?_) (fun hb_71 => ?_)
     ·
      replace h := if_t h hb_71
      simp only [bool_to_prop] at hb_71
      refine sg fun QQ158 hQ158 => ?_
      refine sg fun QQ159 hQ159 => ?_
      simp only [go_sem]
      refine seqQ_normal hQ159 ?_
      refine vc_cond_of (b := (!(v_19.2.B == 0))) (by (simp only [go_sem]; done)) (fun hb_72 => ?_) (fun hb_72 => ?_)
      ·
       replace h := if_t h hb_72
       simp only [bool_to_prop] at hb_72
       refine sg fun QQ160 hQ160 => ?_
       simp only [go_sem]
       refine seqQ_normal hQ160 ?_
       refine vc_ret_of ?_
       refine seqQ_ret hQ158 ?_
       refine seqQ_ret hQ156 ?_
       refine blockQ_ret hQ154 ?_
       refine seqQ_ret hQ153 ?_
       refine thenQ_ret hQ150 ?_
       refine blockQ_ret hQ13 ?_
       refine thenQ_ret hQ11 ?_
       simp only [go_sem]
       obtain rfl := Option.some.inj h
       refine retW_pure rfl ?_
       simp only [go_sem, Le]
      ·
       replace h := if_f h hb_72
       simp only [bool_to_prop] at hb_72
       refine vc_skip_of ?_
       refine seqQ_normal hQ158 ?_
       refine vc_exit_of ?_
       refine seqQ_exit hQ156 ?_
       refine blockQ_exit hQ154 ?_
       refine seqQ_normal hQ153 ?_
       simp only [go_sem]
       refine thenQ_normal hQ150 ?_
       refine rnd_gen ?_
       intro QQ161 hQ161
       refine sg fun QQ162 hQ162 => ?_
       simp only [go_sem]
       refine seqQ_normal hQ162 ?_
       refine sg fun QQ163 hQ163 => ?_
       refine vc_cond_t (by (simp only [go_sem]; done)) ?_
       refine vc_skip_of ?_
       refine seqQ_normal hQ163 ?_
       refine sg fun QQ164 hQ164 => ?_
       refine vc_block_gen ?_
       intro QQ165 hQ165
       refine sg fun QQ166 hQ166 => ?_
       simp only [go_sem]
       refine seqQ_normal hQ166 ?_
       refine sg fun QQ167 hQ167 => ?_
       refine sg fun QQ168 hQ168 => ?_
       simp only [go_sem]
       refine seqQ_normal hQ168 ?_
       refine vc_cond_of (b := (decide (xv_0.many ≤ 2))) (by (simp only [go_sem]; done)) (fun hb_73 => ?_) (fun hb_73 => ?_)
       ·
        replace h := if_t h hb_73
        simp only [bool_to_prop] at hb_73
        refine sg fun QQ169 hQ169 => ?_
        refine sg fun QQ170 hQ170 => ?_
        simp only [go_sem]
        refine seqQ_normal hQ170 ?_
        refine vc_cond_of (b := (!(v_19.2.C == 0))) (by (simp only [go_sem]; done)) (fun hb_74 => ?_) (fun hb_74 => ?_)
        ·
         replace h := if_t h hb_74
         simp only [bool_to_prop] at hb_74
         refine sg fun QQ171 hQ171 => ?_
         simp only [go_sem]
         refine seqQ_normal hQ171 ?_
         refine vc_ret_of ?_
         refine seqQ_ret hQ169 ?_
         refine seqQ_ret hQ167 ?_
         refine blockQ_ret hQ165 ?_
         refine seqQ_ret hQ164 ?_
         refine thenQ_ret hQ161 ?_
         refine blockQ_ret hQ13 ?_
         refine thenQ_ret hQ11 ?_
         simp only [go_sem]
         obtain rfl := Option.some.inj h
         refine retW_pure rfl ?_
         simp only [go_sem, Le]
        ·
         replace h := if_f h hb_74
         simp only [bool_to_prop] at hb_74
         refine vc_skip_of ?_
         refine seqQ_normal hQ169 ?_
         refine vc_exit_of ?_
         refine seqQ_exit hQ167 ?_
         refine blockQ_exit hQ165 ?_
         refine seqQ_normal hQ164 ?_
         simp only [go_sem]
         refine thenQ_normal hQ161 ?_
         refine rnd_gen ?_
         intro QQ172 hQ172
         refine sg fun QQ173 hQ173 => ?_
         simp only [go_sem]
         refine seqQ_normal hQ173 ?_
         refine sg fun QQ174 hQ174 => ?_
         refine vc_cond_t (by (simp only [go_sem]; done)) ?_
         refine vc_skip_of ?_
         refine seqQ_normal hQ174 ?_
         refine sg fun QQ175 hQ175 => ?_
         refine vc_block_gen ?_
         intro QQ176 hQ176
         refine sg fun QQ177 hQ177 => ?_
         simp only [go_sem]
         refine seqQ_normal hQ177 ?_
         refine sg fun QQ178 hQ178 => ?_
         refine sg fun QQ179 hQ179 => ?_
         simp only [go_sem]
         refine seqQ_normal hQ179 ?_
         refine vc_cond_of (b := (decide (xv_0.many ≤ 3))) (by (simp only [go_sem]; done)) (fun hb_75 => ?_) (fun hb_75 => ?_)
         ·
          replace h := if_t h hb_75
          simp only [bool_to_prop] at hb_75
          refine sg fun QQ180 hQ180 => ?_
          refine sg fun QQ181 hQ181 => ?_
          simp only [go_sem]
          refine seqQ_normal hQ181 ?_
          refine vc_cond_of (b := (!(v_19.2.D == 0))) (by (simp only [go_sem]; done)) (fun hb_76 => ?_) (fun hb_76 => ?_)
          ·
           replace h := if_t h hb_76
           simp only [bool_to_prop] at hb_76
           refine sg fun QQ182 hQ182 => ?_
           simp only [go_sem]
           refine seqQ_normal hQ182 ?_
           refine vc_ret_of ?_
           refine seqQ_ret hQ180 ?_
           refine seqQ_ret hQ178 ?_
           refine blockQ_ret hQ176 ?_
           refine seqQ_ret hQ175 ?_
           refine thenQ_ret hQ172 ?_
           refine blockQ_ret hQ13 ?_
           refine thenQ_ret hQ11 ?_
           simp only [go_sem]
           obtain rfl := Option.some.inj h
           refine retW_pure rfl ?_
           simp only [go_sem, Le]
          ·
           replace h := if_f h hb_76
           simp only [bool_to_prop] at hb_76
           refine vc_skip_of ?_
           refine seqQ_normal hQ180 ?_
           refine vc_exit_of ?_
           refine seqQ_exit hQ178 ?_
           refine blockQ_exit hQ176 ?_
           refine seqQ_normal hQ175 ?_
           simp only [go_sem]
           refine thenQ_normal hQ172 ?_
           refine rnd_gen ?_
           intro QQ183 hQ183
           refine sg fun QQ184 hQ184 => ?_
           simp only [go_sem]
           refine seqQ_normal hQ184 ?_
           refine sg fun QQ185 hQ185 => ?_
           refine vc_cond_f (by (simp only [go_sem]; done)) ?_
           refine vc_exit_of ?_
           refine seqQ_exit hQ185 ?_
           refine thenQ_exit hQ183 ?_
           refine blockQ_exit hQ13 ?_
           refine thenQ_normal hQ11 ?_
           refine ⟨((xv_0.word.s ++ (([32] : List UInt8) ++ v_27)), v_19.2), [some 0, some 1], ?_, h⟩
           simp only [go_sem, Le] <;> (repeat' apply And.intro) <;> first | ((try with_reducible refine TL_eq ?_); omega) | ((try with_reducible refine TL_eq ?_); (simp [go_sem]; done))
         ·
          replace h := if_f h hb_75
          simp only [bool_to_prop] at hb_75
          refine vc_skip_of ?_
          refine seqQ_normal hQ178 ?_
          refine sg fun QQ186 hQ186 => ?_
          refine sg fun QQ187 hQ187 => ?_
          simp only [go_sem]
          refine seqQ_normal hQ187 ?_
          refine vc_cond_of (b := ((decide (v_19.2.D < 0)) || (decide (2147483647 < v_19.2.D)))) (by (simp only [go_sem]; done)) (fun hb_77 => ?_) (fun hb_77 => ?_)
          ·
           replace h := if_t h hb_77
           simp only [bool_to_prop] at hb_77
           refine sg fun QQ188 hQ188 => ?_
           simp only [go_sem]
           refine seqQ_normal hQ188 ?_
           refine vc_ret_of ?_
           refine seqQ_ret hQ186 ?_
           refine blockQ_ret hQ176 ?_
           refine seqQ_ret hQ175 ?_
           refine thenQ_ret hQ172 ?_
           refine blockQ_ret hQ13 ?_
           refine thenQ_ret hQ11 ?_
           simp only [go_sem]
           obtain rfl := Option.some.inj h
           refine retW_pure rfl ?_
           simp only [go_sem, Le]
          ·
           replace h := if_f h hb_77
           simp only [bool_to_prop] at hb_77
           refine vc_skip_of ?_
           refine seqQ_normal hQ186 ?_
           obtain ⟨v_28, ev_28, h⟩ := bindO_some h
           simp only [go_sem]
           refine call0 (f_strconv_Itoa_ok v_19.2.D v_28 ev_28) (by rfl) (by rfl) ?_
           obtain ⟨g_50, h⟩ := guardO_some h
           obtain ⟨g_51, h⟩ := guardO_some h
           simp only [go_sem, g_50, g_51]
           refine And.intro (by first | (simp only [List.length_append, List.length_cons, List.length_nil, Nat.zero_add] <;> omega) | omega) ?_
           refine And.intro (by first | (simp only [List.length_append, List.length_cons, List.length_nil, Nat.zero_add] <;> omega) | omega) ?_
           refine blockQ_normal hQ176 ?_
           refine seqQ_normal hQ175 ?_
           simp only [go_sem]
           refine thenQ_normal hQ172 ?_
           refine rnd_gen ?_
           intro QQ189 hQ189
           refine sg fun QQ190 hQ190 => ?_
           simp only [go_sem]
           refine seqQ_normal hQ190 ?_
           refine sg fun QQ191 hQ191 => ?_
           refine vc_cond_f (by (simp only [go_sem]; done)) ?_
           refine vc_exit_of ?_
           refine seqQ_exit hQ191 ?_
           refine thenQ_exit hQ189 ?_
           refine blockQ_exit hQ13 ?_
           refine thenQ_normal hQ11 ?_
           refine ⟨(((xv_0.word.s ++ (([32] : List UInt8) ++ v_27)) ++ (([32] : List UInt8) ++ v_28)), v_19.2), [some 0, some 1], ?_, h⟩
           simp only [go_sem, Le] <;> (repeat' apply And.intro) <;> ((try with_reducible refine TL_eq ?_); omega)
       ·
        replace h := if_f h hb_73
        simp only [bool_to_prop] at hb_73
        refine vc_skip_of ?_
        refine seqQ_normal hQ167 ?_
        refine sg fun QQ192 hQ192 => ?_
        refine sg fun QQ193 hQ193 => ?_
        simp only [go_sem]
        refine seqQ_normal hQ193 ?_
        refine vc_cond_of (b := ((decide (v_19.2.C < 0)) || (decide (2147483647 < v_19.2.C)))) (by (simp only [go_sem]; done)) (fun hb_78 => ?_) (fun hb_78 => ?_)
        ·
         replace h := if_t h hb_78
         simp only [bool_to_prop] at hb_78
         refine sg fun QQ194 hQ194 => ?_
         simp only [go_sem]
         refine seqQ_normal hQ194 ?_
         refine vc_ret_of ?_
         refine seqQ_ret hQ192 ?_
         refine blockQ_ret hQ165 ?_
         refine seqQ_ret hQ164 ?_
         refine thenQ_ret hQ161 ?_
         refine blockQ_ret hQ13 ?_
         refine thenQ_ret hQ11 ?_
         simp only [go_sem]
         obtain rfl := Option.some.inj h
         refine retW_pure rfl ?_
         simp only [go_sem, Le]
        ·
         replace h := if_f h hb_78
         simp only [bool_to_prop] at hb_78
         refine vc_skip_of ?_
         refine seqQ_normal hQ192 ?_
         obtain ⟨v_29, ev_29, h⟩ := bindO_some h
         simp only [go_sem]
         refine call0 (f_strconv_Itoa_ok v_19.2.C v_29 ev_29) (by rfl) (by rfl) ?_
         obtain ⟨g_52, h⟩ := guardO_some h
         obtain ⟨g_53, h⟩ := guardO_some h
         simp only [go_sem, g_52, g_53]
         refine And.intro (by first | (simp only [List.length_append, List.length_cons, List.length_nil, Nat.zero_add] <;> omega) | omega) ?_
         refine And.intro (by first | (simp only [List.length_append, List.length_cons, List.length_nil, Nat.zero_add] <;> omega) | omega) ?_
         refine blockQ_normal hQ165 ?_
         refine seqQ_normal hQ164 ?_
         simp only [go_sem]
         refine thenQ_normal hQ161 ?_
         refine rnd_gen ?_
         intro QQ195 hQ195
         refine sg fun QQ196 hQ196 => ?_
         simp only [go_sem]
         refine seqQ_normal hQ196 ?_
         refine sg fun QQ197 hQ197 => ?_
         refine vc_cond_t (by (simp only [go_sem]; done)) ?_
         refine vc_skip_of ?_
         refine seqQ_normal hQ197 ?_
         refine sg fun QQ198 hQ198 => ?_
         refine vc_block_gen ?_
         intro QQ199 hQ199
         refine sg fun QQ200 hQ200 => ?_
         simp only [go_sem]
         refine seqQ_normal hQ200 ?_
         refine sg fun QQ201 hQ201 => ?_
         refine sg fun QQ202 hQ202 => ?_
         simp only [go_sem]
         refine seqQ_normal hQ202 ?_
         refine vc_cond_of (b := (decide (xv_0.many ≤ 3))) (by (simp only [go_sem]; done)) (fun hb_79 => ?_) (fun hb_79 => ?_)
         ·
          replace h := if_t h hb_79
          simp only [bool_to_prop] at hb_79
          refine sg fun QQ203 hQ203 => ?_
          refine sg fun QQ204 hQ204 => ?_
          simp only [go_sem]
          refine seqQ_normal hQ204 ?_
          refine vc_cond_of (b := (!(v_19.2.D == 0))) (by (simp only [go_sem]; done)) (fun hb_80 => ?_) (fun hb_80 => ?_)
          ·
           replace h := if_t h hb_80
           simp only [bool_to_prop] at hb_80
           refine sg fun QQ205 hQ205 => ?_
           simp only [go_sem]
           refine seqQ_normal hQ205 ?_
           refine vc_ret_of ?_
           refine seqQ_ret hQ203 ?_
           refine seqQ_ret hQ201 ?_
           refine blockQ_ret hQ199 ?_
           refine seqQ_ret hQ198 ?_
           refine thenQ_ret hQ195 ?_
           refine blockQ_ret hQ13 ?_
           refine thenQ_ret hQ11 ?_
           simp only [go_sem]
           obtain rfl := Option.some.inj h
           refine retW_pure rfl ?_
           simp only [go_sem, Le]
          ·
           replace h := if_f h hb_80
           simp only [bool_to_prop] at hb_80
           refine vc_skip_of ?_
           refine seqQ_normal hQ203 ?_
           refine vc_exit_of ?_
           refine seqQ_exit hQ201 ?_
           refine blockQ_exit hQ199 ?_
           refine seqQ_normal hQ198 ?_
           simp only [go_sem]
           refine thenQ_normal hQ195 ?_
           refine rnd_gen ?_
           intro QQ206 hQ206
           refine sg fun QQ207 hQ207 => ?_
           simp only [go_sem]
           refine seqQ_normal hQ207 ?_
           refine sg fun QQ208 hQ208 => ?_
           refine vc_cond_f (by (simp only [go_sem]; done)) ?_
           refine vc_exit_of ?_
           refine seqQ_exit hQ208 ?_
           refine thenQ_exit hQ206 ?_
           refine blockQ_exit hQ13 ?_
           refine thenQ_normal hQ11 ?_
           refine ⟨(((xv_0.word.s ++ (([32] : List UInt8) ++ v_27)) ++ (([32] : List UInt8) ++ v_29)), v_19.2), [some 0, some 1], ?_, h⟩
           simp only [go_sem, Le] <;> (repeat' apply And.intro) <;> ((try with_reducible refine TL_eq ?_); omega)
         ·
          replace h := if_f h hb_79
          simp only [bool_to_prop] at hb_79
          refine vc_skip_of ?_
          refine seqQ_normal hQ201 ?_
          refine sg fun QQ209 hQ209 => ?_
          refine sg fun QQ210 hQ210 => ?_
          simp only [go_sem]
          refine seqQ_normal hQ210 ?_
          refine vc_cond_of (b := ((decide (v_19.2.D < 0)) || (decide (2147483647 < v_19.2.D)))) (by (simp only [go_sem]; done)) (fun hb_81 => ?_) (fun hb_81 => ?_)
          ·
           replace h := if_t h hb_81
           simp only [bool_to_prop] at hb_81
           refine sg fun QQ211 hQ211 => ?_
           simp only [go_sem]
           refine seqQ_normal hQ211 ?_
           refine vc_ret_of ?_
           refine seqQ_ret hQ209 ?_
           refine blockQ_ret hQ199 ?_
           refine seqQ_ret hQ198 ?_
           refine thenQ_ret hQ195 ?_
           refine blockQ_ret hQ13 ?_
           refine thenQ_ret hQ11 ?_
           simp only [go_sem]
           obtain rfl := Option.some.inj h
           refine retW_pure rfl ?_
           simp only [go_sem, Le]
          ·
           replace h := if_f h hb_81
           simp only [bool_to_prop] at hb_81
           refine vc_skip_of ?_
           refine seqQ_normal hQ209 ?_
           obtain ⟨v_30, ev_30, h⟩ := bindO_some h
           simp only [go_sem]
           refine call0 (f_strconv_Itoa_ok v_19.2.D v_30 ev_30) (by rfl) (by rfl) ?_
           obtain ⟨g_54, h⟩ := guardO_some h
           obtain ⟨g_55, h⟩ := guardO_some h
           simp only [go_sem, g_54, g_55]
           refine And.intro (by first | (simp only [List.length_append, List.length_cons, List.length_nil, Nat.zero_add] <;> omega) | omega) ?_
           refine And.intro (by first | (simp only [List.length_append, List.length_cons, List.length_nil, Nat.zero_add] <;> omega) | omega) ?_
           refine blockQ_normal hQ199 ?_
           refine seqQ_normal hQ198 ?_
           simp only [go_sem]
           refine thenQ_normal hQ195 ?_
           refine rnd_gen ?_
           intro QQ212 hQ212
           refine sg fun QQ213 hQ213 => ?_
           simp only [go_sem]
           refine seqQ_normal hQ213 ?_
           refine sg fun QQ214 hQ214 => ?_
           refine vc_cond_f (by (simp only [go_sem]; done)) ?_
           refine vc_exit_of ?_
           refine seqQ_exit hQ214 ?_
           refine thenQ_exit hQ212 ?_
           refine blockQ_exit hQ13 ?_
           refine thenQ_normal hQ11 ?_
           refine ⟨((((xv_0.word.s ++ (([32] : List UInt8) ++ v_27)) ++ (([32] : List UInt8) ++ v_29)) ++ (([32] : List UInt8) ++ v_30)), v_19.2), [some 0, some 1], ?_, h⟩
           simp only [go_sem, Le] <;> (repeat' apply And.intro) <;> ((try with_reducible refine TL_eq ?_); omega)
     ·
      replace h := if_f h hb_71
      simp only [bool_to_prop] at hb_71
      refine vc_skip_of ?_
      refine seqQ_normal hQ156 ?_
      refine sg fun QQ215 hQ215 => ?_
      refine sg fun QQ216 hQ216 => ?_
      simp only [go_sem]
      refine seqQ_normal hQ216 ?_
      refine vc_cond_of (b := ((decide (v_19.2.B < 0)) || (decide (2147483647 < v_19.2.B)))) (by (simp only [go_sem]; done)) (fun hb_82 => ?_) (fun hb_82 => ?_)
      ·
       replace h := if_t h hb_82
       simp only [bool_to_prop] at hb_82
       refine sg fun QQ217 hQ217 => ?_
       simp only [go_sem]
       refine seqQ_normal hQ217 ?_
       refine vc_ret_of ?_
       refine seqQ_ret hQ215 ?_
       refine blockQ_ret hQ154 ?_
       refine seqQ_ret hQ153 ?_
       refine thenQ_ret hQ150 ?_
       refine blockQ_ret hQ13 ?_
       refine thenQ_ret hQ11 ?_
       simp only [go_sem]
       obtain rfl := Option.some.inj h
       refine retW_pure rfl ?_
       simp only [go_sem, Le]
      ·
       replace h := if_f h hb_82
       simp only [bool_to_prop] at hb_82
       refine vc_skip_of ?_
       refine seqQ_normal hQ215 ?_
       obtain ⟨v_31, ev_31, h⟩ := bindO_some h
       simp only [go_sem]
       refine call0 (f_strconv_Itoa_ok v_19.2.B v_31 ev_31) (by rfl) (by rfl) ?_
       obtain ⟨g_56, h⟩ := guardO_some h
       obtain ⟨g_57, h⟩ := guardO_some h
       simp only [go_sem, g_56, g_57]
       refine And.intro (by first | omega | assumption) ?_
       refine And.intro (by first | omega | assumption) ?_
       refine blockQ_normal hQ154 ?_
       refine seqQ_normal hQ153 ?_
       simp only [go_sem]
       refine thenQ_normal hQ150 ?_
       refine rnd_gen ?_
       intro QQ218 hQ218
       refine sg fun QQ219 hQ219 => ?_
       simp only [go_sem]
       refine seqQ_normal hQ219 ?_
       refine sg fun QQ220 hQ220 => ?_
       refine vc_cond_t (by (simp only [go_sem]; done)) ?_
       refine vc_skip_of ?_
       refine seqQ_normal hQ220 ?_
       refine sg fun QQ221 hQ221 => ?_
       refine vc_block_gen ?_
       intro QQ222 hQ222
       refine sg fun QQ223 hQ223 => ?_
       simp only [go_sem]
       refine seqQ_normal hQ223 ?_
       refine sg fun QQ224 hQ224 => ?_
       refine sg fun QQ225 hQ225 => ?_
       simp only [go_sem]
       refine seqQ_normal hQ225 ?_
       refine vc_cond_of (b := (decide (xv_0.many ≤ 2))) (by (simp only [go_sem]; done)) (fun hb_83 => ?_) (fun hb_83 => ?_)
       ·
        replace h := if_t h hb_83
        simp only [bool_to_prop] at hb_83
        refine sg fun QQ226 hQ226 => ?_
        refine sg fun QQ227 hQ227 => ?_
        simp only [go_sem]
        refine seqQ_normal hQ227 ?_
        refine vc_cond_of (b := (!(v_19.2.C == 0))) (by (simp only [go_sem]; done)) (fun hb_84 => ?_) (fun hb_84 => ?_)
        ·
         replace h := if_t h hb_84
         simp only [bool_to_prop] at hb_84
         refine sg fun QQ228 hQ228 => ?_
         simp only [go_sem]
         refine seqQ_normal hQ228 ?_
         refine vc_ret_of ?_
         refine seqQ_ret hQ226 ?_
         refine seqQ_ret hQ224 ?_
         refine blockQ_ret hQ222 ?_
         refine seqQ_ret hQ221 ?_
         refine thenQ_ret hQ218 ?_
         refine blockQ_ret hQ13 ?_
         refine thenQ_ret hQ11 ?_
         simp only [go_sem]
         obtain rfl := Option.some.inj h
         refine retW_pure rfl ?_
         simp only [go_sem, Le]
        ·
         replace h := if_f h hb_84
         simp only [bool_to_prop] at hb_84
         refine vc_skip_of ?_
         refine seqQ_normal hQ226 ?_
         refine vc_exit_of ?_
         refine seqQ_exit hQ224 ?_
         refine blockQ_exit hQ222 ?_
         refine seqQ_normal hQ221 ?_
         simp only [go_sem]
         refine thenQ_normal hQ218 ?_
         refine rnd_gen ?_
         intro QQ229 hQ229
         refine sg fun QQ230 hQ230 => ?_
         simp only [go_sem]
         refine seqQ_normal hQ230 ?_
         refine sg fun QQ231 hQ231 => ?_
         refine vc_cond_t (by (simp only [go_sem]; done)) ?_
         refine vc_skip_of ?_
         refine seqQ_normal hQ231 ?_
         refine sg fun QQ232 hQ232 => ?_
         refine vc_block_gen ?_
         intro QQ233 hQ233
         refine sg fun QQ234 hQ234 => ?_
         simp only [go_sem]
         refine seqQ_normal hQ234 ?_
         refine sg fun QQ235 hQ235 => ?_
         refine sg fun QQ236 hQ236 => ?_
         simp only [go_sem]
         refine seqQ_normal hQ236 ?_
         refine vc_cond_of (b := (decide (xv_0.many ≤ 3))) (by (simp only [go_sem]; done)) (fun hb_85 => ?_) (fun hb_85 => ?_)
         ·
          replace h := if_t h hb_85
          simp only [bool_to_prop] at hb_85
          refine sg fun QQ237 hQ237 => ?_
          refine sg fun QQ238 hQ238 => ?_
          simp only [go_sem]
          refine seqQ_normal hQ238 ?_
          refine vc_cond_of (b := (!(v_19.2.D == 0))) (by (simp only [go_sem]; done)) (fun hb_86 => ?_) (fun hb_86 => ?_)
          ·
           replace h := if_t h hb_86
           simp only [bool_to_prop] at hb_86
           refine sg fun QQ239 hQ239 => ?_
           simp only [go_sem]
           refine seqQ_normal hQ239 ?_
           refine vc_ret_of ?_
           refine seqQ_ret hQ237 ?_
           refine seqQ_ret hQ235 ?_
           refine blockQ_ret hQ233 ?_
           refine seqQ_ret hQ232 ?_
           refine thenQ_ret hQ229 ?_
           refine blockQ_ret hQ13 ?_
           refine thenQ_ret hQ11 ?_
           simp only [go_sem]
           obtain rfl := Option.some.inj h
           refine retW_pure rfl ?_
           simp only [go_sem, Le]
          ·
           replace h := if_f h hb_86
           simp only [bool_to_prop] at hb_86
           refine vc_skip_of ?_
           refine seqQ_normal hQ237 ?_
           refine vc_exit_of ?_
           refine seqQ_exit hQ235 ?_
           refine blockQ_exit hQ233 ?_
           refine seqQ_normal hQ232 ?_
           simp only [go_sem]
           refine thenQ_normal hQ229 ?_
           refine rnd_gen ?_
           intro QQ240 hQ240
           refine sg fun QQ241 hQ241 => ?_
           simp only [go_sem]
           refine seqQ_normal hQ241 ?_
           refine sg fun QQ242 hQ242 => ?_
           refine vc_cond_f (by (simp only [go_sem]; done)) ?_
           refine vc_exit_of ?_
           refine seqQ_exit hQ242 ?_
           refine thenQ_exit hQ240 ?_
           refine blockQ_exit hQ13 ?_
           refine thenQ_normal hQ11 ?_
           refine ⟨(((xv_0.word.s ++ (([32] : List UInt8) ++ v_27)) ++ (([32] : List UInt8) ++ v_31)), v_19.2), [some 0, some 1], ?_, h⟩
           simp only [go_sem, Le] <;> (repeat' apply And.intro) <;> first | ((try with_reducible refine TL_eq ?_); omega) | ((try with_reducible refine TL_eq ?_); (simp [go_sem]; done))
         ·
          replace h := if_f h hb_85
          simp only [bool_to_prop] at hb_85
          refine vc_skip_of ?_
          refine seqQ_normal hQ235 ?_
          refine sg fun QQ243 hQ243 => ?_
          refine sg fun QQ244 hQ244 => ?_
          simp only [go_sem]
          refine seqQ_normal hQ244 ?_
          refine vc_cond_of (b := ((decide (v_19.2.D < 0)) || (decide (2147483647 < v_19.2.D)))) (by (simp only [go_sem]; done)) (fun hb_87 => ?_) (fun hb_87 => ?_)
          ·
           replace h := if_t h hb_87
           simp only [bool_to_prop] at hb_87
           refine sg fun QQ245 hQ245 => ?_
           simp only [go_sem]
           refine seqQ_normal hQ245 ?_
           refine vc_ret_of ?_
           refine seqQ_ret hQ243 ?_
           refine blockQ_ret hQ233 ?_
           refine seqQ_ret hQ232 ?_
           refine thenQ_ret hQ229 ?_
           refine blockQ_ret hQ13 ?_
           refine thenQ_ret hQ11 ?_
           simp only [go_sem]
           obtain rfl := Option.some.inj h
           refine retW_pure rfl ?_
           simp only [go_sem, Le]
          ·
           replace h := if_f h hb_87
           simp only [bool_to_prop] at hb_87
           refine vc_skip_of ?_
           refine seqQ_normal hQ243 ?_
           obtain ⟨v_32, ev_32, h⟩ := bindO_some h
           simp only [go_sem]
           refine call0 (f_strconv_Itoa_ok v_19.2.D v_32 ev_32) (by rfl) (by rfl) ?_
           obtain ⟨g_58, h⟩ := guardO_some h
           obtain ⟨g_59, h⟩ := guardO_some h
           simp only [go_sem, g_58, g_59]
           refine And.intro (by first | (simp only [List.length_append, List.length_cons, List.length_nil, Nat.zero_add] <;> omega) | omega) ?_
           refine And.intro (by first | (simp only [List.length_append, List.length_cons, List.length_nil, Nat.zero_add] <;> omega) | omega) ?_
           refine blockQ_normal hQ233 ?_
           refine seqQ_normal hQ232 ?_
           simp only [go_sem]
           refine thenQ_normal hQ229 ?_
           refine rnd_gen ?_
           intro QQ246 hQ246
           refine sg fun QQ247 hQ247 => ?_
           simp only [go_sem]
           refine seqQ_normal hQ247 ?_
           refine sg fun QQ248 hQ248 => ?_
           refine vc_cond_f (by (simp only [go_sem]; done)) ?_
           refine vc_exit_of ?_
           refine seqQ_exit hQ248 ?_
           refine thenQ_exit hQ246 ?_
           refine blockQ_exit hQ13 ?_
           refine thenQ_normal hQ11 ?_
           refine ⟨((((xv_0.word.s ++ (([32] : List UInt8) ++ v_27)) ++ (([32] : List UInt8) ++ v_31)) ++ (([32] : List UInt8) ++ v_32)), v_19.2), [some 0, some 1], ?_, h⟩
           simp only [go_sem, Le] <;> (repeat' apply And.intro) <;> ((try with_reducible refine TL_eq ?_); omega)
       ·
        replace h := if_f h hb_83
        simp only [bool_to_prop] at hb_83
        refine vc_skip_of ?_
        refine seqQ_normal hQ224 ?_
        refine sg fun QQ249 hQ249 => ?_
        refine sg fun QQ250 hQ250 => ?_
        simp only [go_sem]
        refine seqQ_normal hQ250 ?_
        refine vc_cond_of (b := ((decide (v_19.2.C < 0)) || (decide (2147483647 < v_19.2.C)))) (by (simp only [go_sem]; done)) (fun hb_88 => ?_) (fun hb_88 => ?_)
        ·
         replace h := if_t h hb_88
         simp only [bool_to_prop] at hb_88
         refine sg fun QQ251 hQ251 => ?_
         simp only [go_sem]
         refine seqQ_normal hQ251 ?_
         refine vc_ret_of ?_
         refine seqQ_ret hQ249 ?_
         refine blockQ_ret hQ222 ?_
         refine seqQ_ret hQ221 ?_
         refine thenQ_ret hQ218 ?_
         refine blockQ_ret hQ13 ?_
         refine thenQ_ret hQ11 ?_
         simp only [go_sem]
         obtain rfl := Option.some.inj h
         refine retW_pure rfl ?_
         simp only [go_sem, Le]
        ·
         replace h := if_f h hb_88
         simp only [bool_to_prop] at hb_88
         refine vc_skip_of ?_
         refine seqQ_normal hQ249 ?_
         obtain ⟨v_33, ev_33, h⟩ := bindO_some h
         simp only [go_sem]
         refine call0 (f_strconv_Itoa_ok v_19.2.C v_33 ev_33) (by rfl) (by rfl) ?_
         obtain ⟨g_60, h⟩ := guardO_some h
         obtain ⟨g_61, h⟩ := guardO_some h
         simp only [go_sem, g_60, g_61]
         refine And.intro (by first | omega | assumption) ?_
         refine And.intro (by first | omega | assumption) ?_
         refine blockQ_normal hQ222 ?_
         refine seqQ_normal hQ221 ?_
         simp only [go_sem]
         refine thenQ_normal hQ218 ?_
         refine rnd_gen ?_
         intro QQ252 hQ252
         refine sg fun QQ253 hQ253 => ?_
         simp only [go_sem]
         refine seqQ_normal hQ253 ?_
         refine sg fun QQ254 hQ254 => ?_
         refine vc_cond_t (by (simp only [go_sem]; done)) ?_
         refine vc_skip_of ?_
         refine seqQ_normal hQ254 ?_
         refine sg fun QQ255 hQ255 => ?_
         refine vc_block_gen ?_
         intro QQ256 hQ256
         refine sg fun QQ257 hQ257 => ?_
         simp only [go_sem]
         refine seqQ_normal hQ257 ?_
         refine sg fun QQ258 hQ258 => ?_
         refine sg fun QQ259 hQ259 => ?_
         simp only [go_sem]
         refine seqQ_normal hQ259 ?_
         refine vc_cond_of (b := (decide (xv_0.many ≤ 3))) (by (simp only [go_sem]; done)) (fun hb_89 => ?_) (fun hb_89 => ?_)
         ·
          replace h := if_t h hb_89
          simp only [bool_to_prop] at hb_89
          refine sg fun QQ260 hQ260 => ?_
          refine sg fun QQ261 hQ261 => ?_
          simp only [go_sem]
          refine seqQ_normal hQ261 ?_
          refine vc_cond_of (b := (!(v_19.2.D == 0))) (by (simp only [go_sem]; done)) (fun hb_90 => ?_) (fun hb_90 => ?_)
          ·
           replace h := if_t h hb_90
           simp only [bool_to_prop] at hb_90
           refine sg fun QQ262 hQ262 => ?_
           simp only [go_sem]
           refine seqQ_normal hQ262 ?_
           refine vc_ret_of ?_
           refine seqQ_ret hQ260 ?_
           refine seqQ_ret hQ258 ?_
           refine blockQ_ret hQ256 ?_
           refine seqQ_ret hQ255 ?_
           refine thenQ_ret hQ252 ?_
           refine blockQ_ret hQ13 ?_
           refine thenQ_ret hQ11 ?_
           simp only [go_sem]
           obtain rfl := Option.some.inj h
           refine retW_pure rfl ?_
           simp only [go_sem, Le]
          ·
           replace h := if_f h hb_90
           simp only [bool_to_prop] at hb_90
           refine vc_skip_of ?_
           refine seqQ_normal hQ260 ?_
           refine vc_exit_of ?_
           refine seqQ_exit hQ258 ?_
           refine blockQ_exit hQ256 ?_
           refine seqQ_normal hQ255 ?_
           simp only [go_sem]
           refine thenQ_normal hQ252 ?_
           refine rnd_gen ?_
           intro QQ263 hQ263
           refine sg fun QQ264 hQ264 => ?_
           simp only [go_sem]
           refine seqQ_normal hQ264 ?_
           refine sg fun QQ265 hQ265 => ?_
           refine vc_cond_f (by (simp only [go_sem]; done)) ?_
           refine vc_exit_of ?_
           refine seqQ_exit hQ265 ?_
           refine thenQ_exit hQ263 ?_
           refine blockQ_exit hQ13 ?_
           refine thenQ_normal hQ11 ?_
           refine ⟨((((xv_0.word.s ++ (([32] : List UInt8) ++ v_27)) ++ (([32] : List UInt8) ++ v_31)) ++ (([32] : List UInt8) ++ v_33)), v_19.2), [some 0, some 1], ?_, h⟩
           simp only [go_sem, Le] <;> (repeat' apply And.intro) <;> first | ((try with_reducible refine TL_eq ?_); omega) | ((try with_reducible refine TL_eq ?_); (simp [go_sem]; done))
         ·
          replace h := if_f h hb_89
          simp only [bool_to_prop] at hb_89
          refine vc_skip_of ?_
          refine seqQ_normal hQ258 ?_
          refine sg fun QQ266 hQ266 => ?_
          refine sg fun QQ267 hQ267 => ?_
          simp only [go_sem]
          refine seqQ_normal hQ267 ?_
          refine vc_cond_of (b := ((decide (v_19.2.D < 0)) || (decide (2147483647 < v_19.2.D)))) (by (simp only [go_sem]; done)) (fun hb_91 => ?_) (fun hb_91 => ?_)
          ·
           replace h := if_t h hb_91
           simp only [bool_to_prop] at hb_91
           refine sg fun QQ268 hQ268 => ?_
           simp only [go_sem]
           refine seqQ_normal hQ268 ?_
           refine vc_ret_of ?_
           refine seqQ_ret hQ266 ?_
           refine blockQ_ret hQ256 ?_
           refine seqQ_ret hQ255 ?_
           refine thenQ_ret hQ252 ?_
           refine blockQ_ret hQ13 ?_
           refine thenQ_ret hQ11 ?_
           simp only [go_sem]
           obtain rfl := Option.some.inj h
           refine retW_pure rfl ?_
           simp only [go_sem, Le]
          ·
           replace h := if_f h hb_91
           simp only [bool_to_prop] at hb_91
           refine vc_skip_of ?_
           refine seqQ_normal hQ266 ?_
           obtain ⟨v_34, ev_34, h⟩ := bindO_some h
           simp only [go_sem]
           refine call0 (f_strconv_Itoa_ok v_19.2.D v_34 ev_34) (by rfl) (by rfl) ?_
           obtain ⟨g_62, h⟩ := guardO_some h
           obtain ⟨g_63, h⟩ := guardO_some h
           simp only [go_sem, g_62, g_63]
           refine And.intro (by first | omega | assumption) ?_
           refine And.intro (by first | omega | assumption) ?_
           refine blockQ_normal hQ256 ?_
           refine seqQ_normal hQ255 ?_
           simp only [go_sem]
           refine thenQ_normal hQ252 ?_
           refine rnd_gen ?_
           intro QQ269 hQ269
           refine sg fun QQ270 hQ270 => ?_
           simp only [go_sem]
           refine seqQ_normal hQ270 ?_
           refine sg fun QQ271 hQ271 => ?_
           refine vc_cond_f (by (simp only [go_sem]; done)) ?_
           refine vc_exit_of ?_
           refine seqQ_exit hQ271 ?_
           refine thenQ_exit hQ269 ?_
           refine blockQ_exit hQ13 ?_
           refine thenQ_normal hQ11 ?_
           refine ⟨(((((xv_0.word.s ++ (([32] : List UInt8) ++ v_27)) ++ (([32] : List UInt8) ++ v_31)) ++ (([32] : List UInt8) ++ v_33)) ++ (([32] : List UInt8) ++ v_34)), v_19.2), [some 0, some 1], ?_, h⟩
           simp only [go_sem, Le] <;> (repeat' apply And.intro) <;> first | ((try with_reducible refine TL_eq ?_); omega) | ((try with_reducible refine TL_eq ?_); (simp [go_sem]; done))
  ·
   rintro ⟨out_0, b_0⟩ h
   try dsimp only at h
   rw [f_script_line_J1] at h
   refine sg fun QQ7 hQ7 => ?_
   refine sg fun QQ8 hQ8 => ?_
   simp only [go_sem]
   refine seqQ_normal hQ8 ?_
   refine vc_cond_of (b := xv_0.record) (by (simp only [go_sem]; done)) (fun hb_46 => ?_) (fun hb_46 => ?_)
   ·
    replace h := if_t h hb_46
    refine sg fun QQ9 hQ9 => ?_
    refine vc_draw ?_
    refine drawM_tail 12 [0, 1, 0, 4, 12, 28, 63, 127, 0, 256, 768, 1852, 4095, 8191, 16383] mixed (by kernel_rfl) (of_decide_eq_true (by kernel_rfl)) (by kernel_rfl) ?_
    obtain ⟨g_30, h⟩ := guardO_some h
    obtain ⟨v_17, ev_17, h⟩ := bindO_some h
    simp only [go_sem, g_30]
    refine And.intro (by (simp only [List.length_append, List.length_cons, List.length_nil, List.cons_append, List.nil_append] at *; omega)) ?_
    refine callq (fun _ => (f_strconv_FormatInt_ok b_0.Rec.K 10 v_17 ev_17)) (by rfl) (by rfl) ?_
    obtain ⟨g_31, h⟩ := guardO_some h
    obtain ⟨g_32, h⟩ := guardO_some h
    obtain ⟨v_18, ev_18, h⟩ := bindO_some h
    simp only [go_sem, g_31, g_32]
    refine And.intro (by (simp only [List.length_append, List.length_cons, List.length_nil, List.cons_append, List.nil_append] at *; omega)) ?_
    refine callq (fun _ => (f_strconv_FormatInt_ok b_0.Rec.V 10 v_18 ev_18)) (by rfl) (by rfl) ?_
    obtain ⟨g_33, h⟩ := guardO_some h
    simp only [go_sem, g_33]
    refine seqQ_normal hQ9 ?_
    refine vc_ret_of ?_
    refine seqQ_ret hQ7 ?_
    simp only [go_sem]
    obtain rfl := Option.some.inj h
    refine retW_pure rfl ?_
    simp only [go_sem, Le]
   ·
    replace h := if_f h hb_46
    refine vc_skip_of ?_
    refine seqQ_normal hQ7 ?_
    refine sg fun QQ10 hQ10 => ?_
    refine vc_draw ?_
    refine drawM_tail 6 [0, 0, 2, 0, 14, 1, 63] mixed (by kernel_rfl) (of_decide_eq_true (by kernel_rfl)) (by kernel_rfl) ?_
    simp only [go_sem]
    refine seqQ_normal hQ10 ?_
    refine vc_ret_of ?_
    simp only [go_sem]
    obtain rfl := Option.some.inj h
    refine retW_pure rfl ?_
    simp only [go_sem, Le]

theorem f_strings_Builder_WriteString_p0_ccf (b : Nat) (w : World) (h0 : w.cell? ⟨b, 0, none⟩ = some (.pointer none)) (hsh : w.shape? b = some (42, 2)) (hfz : w.frozen? ⟨b, 0, none⟩ = false) : Calls Tryd.prog 24 #[.pointer (some ⟨b, 0, none⟩)] w fun e w' => e = .returned (.tuple #[]) ∧ w' = w.setCell ⟨b, 0, none⟩ (.pointer (some ⟨b, 0, none⟩)) := by
 obtain ⟨j, hj, hjs⟩ := Option.map_eq_some_iff.1 (show (Tryd.prog.info? 42).map (·.size) = some 2 by kernel_rfl)
 go_enter Tryd.func24, Tryd.ntmps24
 go_wp2
 rw [Lib.run_to_unsafe w ⟨b, 0, none⟩ Tryd.underlying40 Tryd.underlying82 hj (by rw [hjs]; decide) hsh (Nat.zero_lt_succ 1)]
 simp only [Result.andThen]
 rw [Oper.upon_value]
 go_wp2
 rw [run_callFunc_extern Tryd.func30 (by kernel_rfl) (by kernel_rfl) (by kernel_rfl) (e := Extern.AbiNoEscape.same) (by kernel_rfl)]
 rw [Lib.run_noEscape]
 simp only [Result.andThen]
 rw [Oper.upon_value]
 go_wp2
 rw [Lib.run_from_unsafe w ⟨b, 0, none⟩ Tryd.underlying82 Tryd.underlying40 hj hsh (by kernel_rfl)]
 simp only [Result.andThen]
 rw [Oper.upon_value]
 go_wp2
 go_end0
 exact ⟨rfl, rfl⟩
theorem f_strings_Builder_WriteString_p0_ccu (b : Nat) (w : World) (h0 : w.cell? ⟨b, 0, none⟩ = some (.pointer (some ⟨b, 0, none⟩))) : Calls Tryd.prog 24 #[.pointer (some ⟨b, 0, none⟩)] w fun e w' => e = .returned (.tuple #[]) ∧ w' = w := by
 obtain ⟨j, hj, _⟩ := Option.map_eq_some_iff.1 (show (Tryd.prog.info? 42).map (·.size) = some 2 by kernel_rfl)
 go_enter Tryd.func24, Tryd.ntmps24
 go_wp2
 rw [Lib.run_neq_ptr_same w _ Tryd.underlying40 hj]
 go_wp2
 go_end0
 exact ⟨rfl, rfl⟩
theorem f_strings_Builder_WriteString_p0_wr (b : Nat) (v : Value) (ao : Option Addr) (n cap : Nat) (s : ByteArray) (w W w2 : World) (hcc : Calls Tryd.prog 24 #[.pointer (some ⟨b, 0, none⟩)] w fun e w' => e = .returned (.tuple #[]) ∧ w' = W) (hb : W.heap[b]? = some (.cells #[.pointer (some ⟨b, 0, none⟩), v] 42 (0, 0)))
  (happ : ∀ ty, (Builtin.append_ #[34, 9] ty #[v, .string s]).run Tryd.prog W = .ok (.slice ao n cap) w2) (hb2 : w2.heap[b]? = some (.cells #[.pointer (some ⟨b, 0, none⟩), v] 42 (0, 0))) :
  Calls Tryd.prog 12 #[.pointer (some ⟨b, 0, none⟩), .string s] w fun e w' => e = .returned (.tuple #[.int .i64 s.size, .nilIface]) ∧ w' = w2.setCell ⟨b, 1, none⟩ (.slice ao n cap) := by
 have c1 : W.cell? ⟨b, 1, none⟩ = some v := by rw [Lib.cell_of_heap hb]; rfl
 have d1 : w2.cell? ⟨b, 1, none⟩ = some v := by rw [Lib.cell_of_heap hb2]; rfl
 have f1 : w2.frozen? ⟨b, 1, none⟩ = false := Lib.frozen_of_heap hb2 1
 go_enter Tryd.func12, Tryd.ntmps12
 go_wp2_with (go_at_call 24; refine hcc.mono ?_)
 rintro e w1 ⟨rfl, rfl⟩
 go_wp2_with (at_builtin; refine wpList_app1 rfl _ _ 34 9 rfl rfl rfl (happ _) ?_)
 go_wp2
 go_ret2
 exact ⟨rfl, rfl⟩
def f_strings_Builder_WriteString_p0 (b_0 : List UInt8) (s_0 : List UInt8) : Option (Int × Bool × List UInt8) := bwriteF b_0 s_0
theorem f_strings_Builder_WriteString_p0_det (b_0 : List UInt8) (s_0 : List UInt8) (r : Int × Bool × List UInt8) (h : f_strings_Builder_WriteString_p0 b_0 s_0 = some r) : DetS Tryd.prog 12 [.ptr 0 0, .v (.string ⟨⟨s_0⟩⟩)] [(0, .con (bldK 42 5 b_0) [])] 1 (.tup [.v (.int .i64 r.1), .erb r.2.1]) [(0, .con (bldK 42 5 r.2.2) [])] 1 :=
 bwrite_det (by kernel_rfl) Tryd.underlying34 Tryd.underlying9 (by kernel_rfl) f_strings_Builder_WriteString_p0_ccf f_strings_Builder_WriteString_p0_ccu f_strings_Builder_WriteString_p0_wr h

def lay13_ren : Go.Shelf.Ren := ⟨fun | 169 => 13 | n => n, fun | 70 => 40 | 9 => 9 | 0 => 0 | 72 => 42 | 37 => 34 | 127 => 72 | 3 => 3 | 5 => 5 | n => n, fun | n => n⟩
theorem lay13 : Go.Proofs.Lays.n169 Tryd.prog lay13_ren := {
 mixed := by kernel_rfl
 f169 := Tryd.func13.trans (congrArg some (by kernel_rfl))
 t0 := Tryd.underlying0
 a0 := Tryd.isAgg0
 z0 := Tryd.sizeOf0
 v0 := Tryd.zeroValue0
 t3 := Tryd.underlying3
 a3 := Tryd.isAgg3
 z3 := Tryd.sizeOf3
 v3 := Tryd.zeroValue3
 t9 := Tryd.underlying9
 a9 := Tryd.isAgg9
 z9 := Tryd.sizeOf9
 v9 := Tryd.zeroValue9
 t37 := Tryd.underlying34
 a37 := Tryd.isAgg34
 z37 := Tryd.sizeOf34
 v37 := Tryd.zeroValue34
 t70 := Tryd.underlying40
 a70 := Tryd.isAgg40
 z70 := Tryd.sizeOf40
 v70 := Tryd.zeroValue40
 t72 := Tryd.underlying42
 a72 := Tryd.isAgg42
 z72 := Tryd.sizeOf42
 v72 := Tryd.zeroValue42
 t127 := Tryd.underlying72
 a127 := Tryd.isAgg72
 z127 := Tryd.sizeOf72
 v127 := Tryd.zeroValue72 }
theorem f_strings_Builder_String_p0_X : Go.Proofs.Builder.Extra Tryd.prog lay13_ren := { sizeBuilder := by kernel_rfl, liesBuilder := by kernel_rfl, t5 := by kernel_rfl, a5 := Tryd.isAgg5, z5 := Tryd.sizeOf5, v5 := Tryd.zeroValue5, infoByte := by kernel_rfl, cellsByte := by kernel_rfl, sizeByte := by kernel_rfl, neB5 := by decide }
def f_strings_Builder_String_p0 (b_0 : List UInt8) : Option (List UInt8) := bstringF b_0
theorem f_strings_Builder_String_p0_det (b_0 : List UInt8) (r : List UInt8) (h : f_strings_Builder_String_p0 b_0 = some r) : DetS Tryd.prog 13 [.ptr 0 0] [(0, .con (bldK 42 5 b_0) [])] 1 (.v (.string ⟨⟨r⟩⟩)) [] 1 :=
 bstring_det lay13 f_strings_Builder_String_p0_X (by kernel_rfl) h

def f_script_Show_J1 (l_0 : List GAct) (b_2 : List UInt8) : Option ((List UInt8) × Int) :=
 (if (decide (511 < (List.length l_0 : Int))) = true then some (([] : List UInt8), 11)
 else bindO (f_strings_Builder_String_p0 (b_2 : List UInt8)) (fun (v_6 : List UInt8) =>
 some (v_6, 0)))
def f_script_Show_B2 (l_0 : List GAct) (rec_2 : Int × (List UInt8) → Option ((List UInt8) × Int)) : Int × (List UInt8) → Option ((List UInt8) × Int) :=
 fun (t11_3, b_4) =>
 (if (decide (t11_3 < (List.length l_0 : Int))) = true then bindO (idx l_0 t11_3) (fun (xv_5 : GAct) =>
 bindO (f_script_line xv_5) (fun (v_11 : (List UInt8) × Bool) =>
 (if (!v_11.2) = true then some (([] : List UInt8), 1)
 else guardO (List.length v_11.1 + List.length ([10] : List UInt8) ≤ 9223372036854775807) (
 bindO (f_strings_Builder_WriteString_p0 (b_4 : List UInt8) (v_11.1 ++ ([10] : List UInt8))) (fun (v_12 : Int × Bool × List UInt8) =>
 rec_2 (IntKind.i64.wrap (t11_3 + 1), v_12.2.2))))))
 else f_script_Show_J1 l_0 b_4)
def f_script_Show (l_0 : List GAct) : Option ((List UInt8) × Int) :=
 loopK (f_script_Show_B2 l_0) rounds (0, [])
theorem f_script_Show_ok (l_0 : List GAct)  (r : (List UInt8) × Int) (h : f_script_Show l_0 = some r) : PureS Tryd.prog 7 [.sl 7 (enc l_0)] 0 (.tup [.v (.string ⟨⟨r.1⟩⟩), .v (.int .i64 r.2)]) := by
 unfold PureS
 refine Spec.of_vc Tryd.func7 rfl (by kernel_rfl) (by kernel_rfl) ?_
 rw [f_script_Show] at h
 refine sg fun QQ1 hQ1 => ?_
 simp only [go_sem]
 refine seqQ_normal hQ1 ?_
 refine sg fun QQ2 hQ2 => ?_
 simp only [go_sem]
 refine seqQ_normal hQ2 ?_
 refine vc_join (by kernel_rfl) ?_
 refine seq_cut_gen (ι := (List UInt8)) (fun (b_2 : (List UInt8)) => (⟨0, [(0, .sl 7 (enc l_0)), (4, .ptr 0 0)], [(0, .con (bldK 42 5 b_2) [])], 1, 30⟩ : St)) (fun (b_2 : (List UInt8)) => f_script_Show_J1 l_0 b_2 = some r) ?_ ?_ --K[0,4];[]
 ·
  intro QQ7 hQ7
  refine sg fun QQ8 hQ8 => ?_
  simp only [go_sem]
  refine seqQ_normal hQ8 ?_
  refine vc_block_gen ?_
  intro QQ9 hQ9
  refine vc_loop_of ?_
  refine loop_gen (ι := Nat × Int × (List UInt8)) (fun ((_, t11_3, b_4) : Nat × Int × (List UInt8)) => (⟨0, [(0, .sl 7 (enc l_0)), (4, .ptr 0 0), (9, .sl 7 (enc l_0)), (10, .v (.int .i64 (List.length l_0 : Int))), (11, .v (.int .i64 t11_3))], [(0, .con (bldK 42 5 b_4) [])], 1, 30⟩ : St)) (fun ((n_, t11_3, b_4) : Nat × Int × (List UInt8)) => loopK (f_script_Show_B2 l_0) n_ (t11_3, b_4) = some r) (fun p => p.1) (rounds, 0, []) [some 0] ?_ h ?_ --K[0,4,9,10];[]
  · simp only [go_sem, Le] <;> (repeat' apply And.intro) <;> ((try with_reducible refine TL_eq ?_); (exact .inr ⟨_, _, rfl, rfl⟩))
  ·
   rintro ⟨n_2, t11_3, b_4⟩ h QQ10 hQ10
   dsimp only at h
   replace h := loopK_some h
   obtain ⟨m_2, rfl, h⟩ := h
   rw [f_script_Show_B2] at h
   refine sg fun QQ11 hQ11 => ?_
   simp only [go_sem]
   refine seqQ_normal hQ11 ?_
   refine sg fun QQ12 hQ12 => ?_
   refine vc_cond_of (b := (decide (t11_3 < (List.length l_0 : Int)))) (by (simp only [go_sem]; done)) (fun hb_11 => ?_) (fun hb_11 => ?_)
   ·
    replace h := if_t h hb_11
    simp only [bool_to_prop] at hb_11
    refine vc_skip_of ?_
    refine seqQ_normal hQ12 ?_
    refine sg fun QQ13 hQ13 => ?_
    refine vc_block_gen ?_
    intro QQ14 hQ14
    refine sg fun QQ15 hQ15 => ?_
    obtain ⟨xv_5, exv_5, h⟩ := bindO_some h
    obtain ⟨fxv_5a, fxv_5b, fxv_5c⟩ := idx_spec exv_5
    simp only [go_sem, fxv_5a, fxv_5b, fxv_5c]
    refine And.intro (by omega) ?_
    refine seqQ_normal hQ15 ?_
    refine sg fun QQ16 hQ16 => ?_
    obtain ⟨v_11, ev_11, h⟩ := bindO_some h
    simp only [go_sem]
    refine call0 (f_script_line_ok xv_5 v_11 ev_11) (by rfl) (by rfl) ?_
    simp only [go_sem]
    refine seqQ_normal hQ16 ?_
    refine sg fun QQ17 hQ17 => ?_
    refine sg fun QQ18 hQ18 => ?_
    simp only [go_sem]
    refine seqQ_normal hQ18 ?_
    refine vc_cond_of (b := (!v_11.2)) (by (simp only [go_sem]; done)) (fun hb_12 => ?_) (fun hb_12 => ?_)
    ·
     replace h := if_t h hb_12
     simp only [bool_to_prop] at hb_12
     refine sg fun QQ19 hQ19 => ?_
     simp only [go_sem]
     refine seqQ_normal hQ19 ?_
     refine vc_ret_of ?_
     refine seqQ_ret hQ17 ?_
     refine blockQ_ret hQ14 ?_
     refine seqQ_ret hQ13 ?_
     refine thenQ_ret hQ10 ?_
     refine blockQ_ret hQ9 ?_
     refine thenQ_ret hQ7 ?_
     simp only [go_sem]
     obtain rfl := Option.some.inj h
     refine retW_pure rfl ?_
     simp only [go_sem, Le]
    ·
     replace h := if_f h hb_12
     simp only [bool_to_prop] at hb_12
     refine vc_skip_of ?_
     refine seqQ_normal hQ17 ?_
     obtain ⟨g_5, h⟩ := guardO_some h
     obtain ⟨v_12, ev_12, h⟩ := bindO_some h
     simp only [go_sem, g_5]
     refine And.intro (by (intros; simp_all; done)) ?_
     refine callD [0] (f_strings_Builder_WriteString_p0_det (b_4 : List UInt8) (v_11.1 ++ ([10] : List UInt8)) v_12 ev_12) (by simp) rfl ⟨rfl, trivial⟩ rfl rfl rfl rfl ?_
     simp only [go_sem]
     refine blockQ_normal hQ14 ?_
     refine seqQ_normal hQ13 ?_
     simp only [go_sem]
     refine thenQ_normal hQ10 ?_
     refine ⟨(m_2, IntKind.i64.wrap (t11_3 + 1), v_12.2.2), [some 0], ?_, h, Nat.lt_succ_self _⟩
     simp only [go_sem, Le]
   ·
    replace h := if_f h hb_11
    simp only [bool_to_prop] at hb_11
    refine vc_exit_of ?_
    refine seqQ_exit hQ12 ?_
    refine thenQ_exit hQ10 ?_
    refine blockQ_exit hQ9 ?_
    refine thenQ_normal hQ7 ?_
    refine ⟨b_4, [some 0], ?_, h⟩
    simp only [go_sem, Le]
 ·
  rintro b_2 h
  try dsimp only at h
  rw [f_script_Show_J1] at h
  refine sg fun QQ3 hQ3 => ?_
  refine sg fun QQ4 hQ4 => ?_
  simp only [go_sem]
  refine seqQ_normal hQ4 ?_
  refine vc_cond_of (b := (decide (511 < (List.length l_0 : Int)))) (by (simp only [go_sem]; done)) (fun hb_6 => ?_) (fun hb_6 => ?_)
  ·
   replace h := if_t h hb_6
   simp only [bool_to_prop] at hb_6
   refine sg fun QQ5 hQ5 => ?_
   simp only [go_sem]
   refine seqQ_normal hQ5 ?_
   refine vc_ret_of ?_
   refine seqQ_ret hQ3 ?_
   simp only [go_sem]
   obtain rfl := Option.some.inj h
   refine retW_pure rfl ?_
   simp only [go_sem, Le]
  ·
   replace h := if_f h hb_6
   simp only [bool_to_prop] at hb_6
   refine vc_skip_of ?_
   refine seqQ_normal hQ3 ?_
   refine sg fun QQ6 hQ6 => ?_
   obtain ⟨v_6, ev_6, h⟩ := bindO_some h
   simp only [go_sem]
   refine callD [0] (f_strings_Builder_String_p0_det (b_2 : List UInt8) v_6 ev_6) (by simp) rfl ⟨rfl, trivial⟩ rfl rfl rfl rfl ?_
   simp only [go_sem]
   refine seqQ_normal hQ6 ?_
   refine vc_ret_of ?_
   simp only [go_sem]
   obtain rfl := Option.some.inj h
   refine retW_pure rfl ?_
   simp only [go_sem, Le]

def f_script_numbers_B1 (words_0 : List GStr) (rec_1 : Int × (List Int) → Option ((List Int) × Bool)) : Int × (List Int) → Option ((List Int) × Bool) :=
 fun (t11_1, a_1) =>
 (if (decide (t11_1 < (List.length words_0 : Int))) = true then bindO (idx words_0 t11_1) (fun (xv_2 : GStr) =>
 bindO (f_script_number xv_2.s) (fun (v_2 : Int × Bool) =>
 (if (!v_2.2) = true then some (([] : List Int), false)
 else guardO ((List.length a_1 + List.length ([v_2.1] : List Int)) * 8 ≤ 140737488355328) (
 rec_1 (IntKind.i64.wrap (t11_1 + 1), (a_1 ++ ([v_2.1] : List Int)))))))
 else some (a_1, true))
def f_script_numbers (words_0 : List GStr) : Option ((List Int) × Bool) :=
 loopK (f_script_numbers_B1 words_0) rounds (0, [])
theorem f_script_numbers_det (words_0 : List GStr)  (r : (List Int) × Bool) (h : f_script_numbers words_0 = some r) : DetS Tryd.prog 27 [.sl 1 (enc words_0)] [] 0 (.tup [.osl 0 1 (0) (List.length r.1), .v (.bool r.2)]) [(0, .arr 1 (enc r.1))] 1 := by
 unfold DetS
 refine Spec.of_vc Tryd.func27 rfl (by kernel_rfl) (by kernel_rfl) ?_
 rw [f_script_numbers] at h
 refine sg fun QQ1 hQ1 => ?_
 simp only [go_sem]
 refine seqQ_normal hQ1 ?_
 refine sg fun QQ2 hQ2 => ?_
 simp only [go_sem]
 refine seqQ_normal hQ2 ?_
 refine vc_join (by kernel_rfl) ?_
 refine seq_go_gen ?_
 intro QQ3 hQ3
 refine sg fun QQ4 hQ4 => ?_
 simp only [go_sem]
 refine seqQ_normal hQ4 ?_
 refine vc_block_gen ?_
 intro QQ5 hQ5
 refine vc_loop_of ?_
 refine loop_gen (ι := Nat × Int × (List Int)) (fun ((_, t11_1, a_1) : Nat × Int × (List Int)) => (⟨0, [(4, .osl 0 1 (0) (List.length a_1)), (9, .sl 1 (enc words_0)), (10, .v (.int .i64 (List.length words_0 : Int))), (11, .v (.int .i64 t11_1))], [(0, .arr 1 (enc a_1))], 1, 28⟩ : St)) (fun ((n_, t11_1, a_1) : Nat × Int × (List Int)) => loopK (f_script_numbers_B1 words_0) n_ (t11_1, a_1) = some r) (fun p => p.1) (rounds, 0, []) [none] ?_ h ?_ --K[9,10];[]
 · simp only [go_sem, Le] <;> (repeat' apply And.intro) <;> ((try with_reducible refine TL_eq ?_); (simp [go_sem]; done))
 ·
  rintro ⟨n_1, t11_1, a_1⟩ h QQ6 hQ6
  dsimp only at h
  replace h := loopK_some h
  obtain ⟨m_1, rfl, h⟩ := h
  rw [f_script_numbers_B1] at h
  refine sg fun QQ7 hQ7 => ?_
  simp only [go_sem]
  refine seqQ_normal hQ7 ?_
  refine sg fun QQ8 hQ8 => ?_
  refine vc_cond_of (b := (decide (t11_1 < (List.length words_0 : Int)))) (by (simp only [go_sem]; done)) (fun hb_4 => ?_) (fun hb_4 => ?_)
  ·
   replace h := if_t h hb_4
   simp only [bool_to_prop] at hb_4
   refine vc_skip_of ?_
   refine seqQ_normal hQ8 ?_
   refine sg fun QQ9 hQ9 => ?_
   refine vc_block_gen ?_
   intro QQ10 hQ10
   refine sg fun QQ11 hQ11 => ?_
   obtain ⟨xv_2, exv_2, h⟩ := bindO_some h
   obtain ⟨fxv_2a, fxv_2b, fxv_2c⟩ := idx_spec exv_2
   simp only [go_sem, fxv_2a, fxv_2b, fxv_2c]
   refine And.intro (by omega) ?_
   refine seqQ_normal hQ11 ?_
   refine sg fun QQ12 hQ12 => ?_
   obtain ⟨v_2, ev_2, h⟩ := bindO_some h
   simp only [go_sem]
   refine call0 (f_script_number_ok xv_2.s v_2 ev_2) (by rfl) (by rfl) ?_
   simp only [go_sem]
   refine seqQ_normal hQ12 ?_
   refine sg fun QQ13 hQ13 => ?_
   refine sg fun QQ14 hQ14 => ?_
   simp only [go_sem]
   refine seqQ_normal hQ14 ?_
   refine vc_cond_of (b := (!v_2.2)) (by (simp only [go_sem]; done)) (fun hb_5 => ?_) (fun hb_5 => ?_)
   ·
    replace h := if_t h hb_5
    simp only [bool_to_prop] at hb_5
    refine sg fun QQ15 hQ15 => ?_
    simp only [go_sem]
    refine seqQ_normal hQ15 ?_
    refine vc_ret_of ?_
    refine seqQ_ret hQ13 ?_
    refine blockQ_ret hQ10 ?_
    refine seqQ_ret hQ9 ?_
    refine thenQ_ret hQ6 ?_
    refine blockQ_ret hQ5 ?_
    refine seqQ_ret hQ3 ?_
    simp only [go_sem]
    obtain rfl := Option.some.inj h
    refine retW_det [none] ?_
    simp only [go_sem, Le] <;> (repeat' apply And.intro) <;> ((try with_reducible refine TL_eq ?_); (simp [go_sem]; done))
   ·
    replace h := if_f h hb_5
    simp only [bool_to_prop] at hb_5
    refine vc_skip_of ?_
    refine seqQ_normal hQ13 ?_
    have rf_3 : [[.v (.int .i64 v_2.1)]] = enc ([v_2.1] : List Int) := by rfl
    obtain ⟨g_2, h⟩ := guardO_some h
    simp only [List.length_cons, List.length_nil, Nat.zero_add, List.length_append] at g_2
    have rf_4 : enc a_1 ++ [[.v (.int .i64 v_2.1)]] = enc (a_1 ++ ([v_2.1] : List Int)) := by exact (enc_app a_1 ([v_2.1] : List Int)).symm
    simp only [go_sem, g_2, rf_4]
    simp only [rf_3]
    refine blockQ_normal hQ10 ?_
    refine seqQ_normal hQ9 ?_
    simp only [go_sem]
    refine thenQ_normal hQ6 ?_
    refine ⟨(m_1, IntKind.i64.wrap (t11_1 + 1), (a_1 ++ ([v_2.1] : List Int))), [some 2], ?_, h, Nat.lt_succ_self _⟩
    simp only [go_sem, Le] <;> (repeat' apply And.intro) <;> ((try with_reducible refine TL_eq ?_); (simp [go_sem]; done))
  ·
   replace h := if_f h hb_4
   simp only [bool_to_prop] at hb_4
   refine vc_exit_of ?_
   refine seqQ_exit hQ8 ?_
   refine thenQ_exit hQ6 ?_
   refine blockQ_exit hQ5 ?_
   refine seqQ_normal hQ3 ?_
   refine sg fun QQ16 hQ16 => ?_
   simp only [go_sem]
   refine seqQ_normal hQ16 ?_
   refine vc_ret_of ?_
   simp only [go_sem]
   obtain rfl := Option.some.inj h
   refine retW_det [some 0] ?_
   simp only [go_sem, Le]
def f_script_act_J3 (v_0 : (List Int) × Bool) (xv_24 : GScript_shape) (b_2 : GAct) : Option (GAct × Int) :=
 (if xv_24.record = true then bindO (idx v_0.1 xv_24.many) (fun (xv_30 : Int) =>
 bindO (idx v_0.1 (IntKind.i64.wrap (xv_24.many + 1))) (fun (xv_31 : Int) =>
 some ((⟨b_2.Kind, b_2.A, b_2.B, b_2.C, b_2.D, (⟨xv_30, xv_31⟩ : GRec)⟩ : GAct), 0)))
 else some (b_2, 0))
def f_script_act_J2 (v_0 : (List Int) × Bool) (t20_1 : Int) (xv_24 : GScript_shape) (want_2 : Int) : Option (GAct × Int) :=
 (if ((!v_0.2) || (!((List.length v_0.1 : Int) == want_2))) = true then some ((⟨0, 0, 0, 0, 0, (⟨0, 0⟩ : GRec)⟩ : GAct), 4)
 else bindO (f_script_places_p0 (⟨IntKind.i64.wrap (1 + t20_1), 0, 0, 0, 0, (⟨0, 0⟩ : GRec)⟩ : GAct)) (fun (v_7 : Unit × GAct) =>
 guardO (0 ≤ xv_24.many ∧ xv_24.many ≤ 4) (
 (if (decide (0 < ((Int.toNat (xv_24.many) : Nat) : Int))) = true then guardO (0 < ((Int.toNat xv_24.many : Nat) : Int)) (
 bindO (idx v_0.1 0) (fun (xv_32 : Int) =>
 (if (decide (xv_32 < 0)) = true then some ((⟨0, 0, 0, 0, 0, (⟨0, 0⟩ : GRec)⟩ : GAct), 2)
 else (if (decide (2147483647 < xv_32)) = true then some ((⟨0, 0, 0, 0, 0, (⟨0, 0⟩ : GRec)⟩ : GAct), 2)
 else (if (decide (1 < ((Int.toNat (xv_24.many) : Nat) : Int))) = true then guardO (1 < ((Int.toNat xv_24.many : Nat) : Int)) (
 bindO (idx v_0.1 1) (fun (xv_33 : Int) =>
 (if (decide (xv_33 < 0)) = true then some ((⟨0, 0, 0, 0, 0, (⟨0, 0⟩ : GRec)⟩ : GAct), 2)
 else (if (decide (2147483647 < xv_33)) = true then some ((⟨0, 0, 0, 0, 0, (⟨0, 0⟩ : GRec)⟩ : GAct), 2)
 else (if (decide (2 < ((Int.toNat (xv_24.many) : Nat) : Int))) = true then guardO (2 < ((Int.toNat xv_24.many : Nat) : Int)) (
 bindO (idx v_0.1 2) (fun (xv_34 : Int) =>
 (if (decide (xv_34 < 0)) = true then some ((⟨0, 0, 0, 0, 0, (⟨0, 0⟩ : GRec)⟩ : GAct), 2)
 else (if (decide (2147483647 < xv_34)) = true then some ((⟨0, 0, 0, 0, 0, (⟨0, 0⟩ : GRec)⟩ : GAct), 2)
 else (if (decide (3 < ((Int.toNat (xv_24.many) : Nat) : Int))) = true then guardO (3 < ((Int.toNat xv_24.many : Nat) : Int)) (
 bindO (idx v_0.1 3) (fun (xv_35 : Int) =>
 (if (decide (xv_35 < 0)) = true then some ((⟨0, 0, 0, 0, 0, (⟨0, 0⟩ : GRec)⟩ : GAct), 2)
 else (if (decide (2147483647 < xv_35)) = true then some ((⟨0, 0, 0, 0, 0, (⟨0, 0⟩ : GRec)⟩ : GAct), 2)
 else (if (decide (4 < ((Int.toNat (xv_24.many) : Nat) : Int))) = true then none
 else f_script_act_J3 v_0 xv_24 (⟨v_7.2.Kind, xv_32, xv_33, xv_34, xv_35, v_7.2.Rec⟩ : GAct))))))
 else f_script_act_J3 v_0 xv_24 (⟨v_7.2.Kind, xv_32, xv_33, xv_34, v_7.2.D, v_7.2.Rec⟩ : GAct))))))
 else f_script_act_J3 v_0 xv_24 (⟨v_7.2.Kind, xv_32, xv_33, v_7.2.C, v_7.2.D, v_7.2.Rec⟩ : GAct))))))
 else f_script_act_J3 v_0 xv_24 (⟨v_7.2.Kind, xv_32, v_7.2.B, v_7.2.C, v_7.2.D, v_7.2.Rec⟩ : GAct))))))
 else f_script_act_J3 v_0 xv_24 v_7.2))))
def f_script_act_B1 (words_0 : List GStr) (v_0 : (List Int) × Bool) (v_1 : List GScript_shape) (rec_1 : Int → Option (GAct × Int)) : Int → Option (GAct × Int) :=
 fun t20_1 =>
 (if (decide (t20_1 < (List.length v_1 : Int))) = true then bindO (idx v_1 t20_1) (fun (xv_24 : GScript_shape) =>
 bindO (idx words_0 0) (fun (xv_25 : GStr) =>
 (if (!(xv_24.word.s == xv_25.s)) = true then rec_1 (IntKind.i64.wrap (t20_1 + 1))
 else (if xv_24.record = true then f_script_act_J2 v_0 t20_1 xv_24 (IntKind.i64.wrap (xv_24.many + 2))
 else f_script_act_J2 v_0 t20_1 xv_24 xv_24.many))))
 else some ((⟨0, 0, 0, 0, 0, (⟨0, 0⟩ : GRec)⟩ : GAct), 4))
def f_script_act (words_0 : List GStr) : Option (GAct × Int) :=
 guardO (0 ≤ 1 ∧ 1 ≤ (List.length words_0 : Int) ∧ (List.length words_0 : Int) ≤ (List.length words_0 : Int)) (
 bindO (f_script_numbers (List.drop (Int.toNat 1) (List.take (List.length words_0) words_0))) (fun (v_0 : (List Int) × Bool) =>
 bindO (f_script_shapes) (fun (v_1 : List GScript_shape) =>
 loopK (f_script_act_B1 words_0 v_0 v_1) rounds 0)))
theorem f_script_act_ok (words_0 : List GStr)  (r : GAct × Int) (h : f_script_act words_0 = some r) : PureS Tryd.prog 19 [.sl 1 (enc words_0)] 0 (.tup [.agg [.v (.int .i64 r.1.Kind), .v (.int .i64 r.1.A), .v (.int .i64 r.1.B), .v (.int .i64 r.1.C), .v (.int .i64 r.1.D), .v (.int .i64 r.1.Rec.K), .v (.int .i64 r.1.Rec.V)], .v (.int .i64 r.2)]) := by
 unfold PureS
 refine Spec.of_vc Tryd.func19 rfl (by kernel_rfl) (by kernel_rfl) ?_
 rw [f_script_act] at h
 refine sg fun QQ1 hQ1 => ?_
 simp only [go_sem]
 refine seqQ_normal hQ1 ?_
 refine sg fun QQ2 hQ2 => ?_
 obtain ⟨g_0, h⟩ := guardO_some h
 obtain ⟨v_0, ev_0, h⟩ := bindO_some h
 simp only [go_sem, g_0]
 refine callD [] (f_script_numbers_det (List.drop (Int.toNat 1) (List.take (List.length words_0) words_0)) v_0 ev_0) (by simp) rfl trivial rfl rfl rfl rfl ?_
 simp only [go_sem]
 refine seqQ_normal hQ2 ?_
 refine vc_join (by kernel_rfl) ?_
 refine seq_go_gen ?_
 intro QQ3 hQ3
 refine sg fun QQ4 hQ4 => ?_
 obtain ⟨v_1, ev_1, h⟩ := bindO_some h
 simp only [go_sem]
 refine callD [] (f_script_shapes_det v_1 ev_1) (by simp) rfl trivial rfl rfl rfl rfl ?_
 simp only [go_sem]
 refine seqQ_normal hQ4 ?_
 refine vc_block_gen ?_
 intro QQ5 hQ5
 refine vc_loop_of ?_
 refine loop_gen (ι := Nat × Int) (fun ((_, t20_1) : Nat × Int) => (⟨0, [(0, .sl 1 (enc words_0)), (2, .ptr 0 0), (4, .osl 1 1 (0) (List.length v_0.1)), (5, .v (.bool v_0.2)), (18, .osl 2 3 (0) (List.length v_1)), (19, .v (.int .i64 (List.length v_1 : Int))), (20, .v (.int .i64 t20_1))], [(0, .box [.v (.int .i64 0), .v (.int .i64 0), .v (.int .i64 0), .v (.int .i64 0), .v (.int .i64 0), .v (.int .i64 0), .v (.int .i64 0)]), (1, .arr 1 (enc v_0.1)), (2, .arr 3 (enc v_1))], 3, 97⟩ : St)) (fun ((n_, t20_1) : Nat × Int) => loopK (f_script_act_B1 words_0 v_0 v_1) n_ t20_1 = some r) (fun p => p.1) (rounds, 0) [some 0, some 1, some 2] ?_ h ?_ --K[0,2,4,5,18,19];[0,1,2]
 · simp only [go_sem, Le] <;> (repeat' apply And.intro) <;> first | ((try with_reducible refine TL_eq ?_); omega) | ((try with_reducible refine TL_eq ?_); (simp [go_sem]; done))
 ·
  rintro ⟨n_1, t20_1⟩ h QQ6 hQ6
  dsimp only at h
  replace h := loopK_some h
  obtain ⟨m_1, rfl, h⟩ := h
  rw [f_script_act_B1] at h
  refine sg fun QQ7 hQ7 => ?_
  simp only [go_sem]
  refine seqQ_normal hQ7 ?_
  refine sg fun QQ8 hQ8 => ?_
  refine vc_cond_of (b := (decide (t20_1 < (List.length v_1 : Int)))) (by (simp only [go_sem]; done)) (fun hb_64 => ?_) (fun hb_64 => ?_)
  ·
   replace h := if_t h hb_64
   simp only [bool_to_prop] at hb_64
   refine vc_skip_of ?_
   refine seqQ_normal hQ8 ?_
   refine vc_join (by kernel_rfl) ?_
   refine seq_go_gen ?_
   intro QQ9 hQ9
   refine vc_block_gen ?_
   intro QQ10 hQ10
   refine sg fun QQ11 hQ11 => ?_
   obtain ⟨xv_24, exv_24, h⟩ := bindO_some h
   obtain ⟨fxv_24a, fxv_24b, fxv_24c⟩ := idx_spec exv_24
   simp only [go_sem, fxv_24a, fxv_24b, fxv_24c]
   refine And.intro (by omega) ?_
   refine seqQ_normal hQ11 ?_
   refine sg fun QQ12 hQ12 => ?_
   refine sg fun QQ13 hQ13 => ?_
   refine vc_draw ?_
   refine drawM_tail 5 [0, 1, 0, 4, 12, 31] mixed (by kernel_rfl) (of_decide_eq_true (by kernel_rfl)) (by kernel_rfl) ?_
   obtain ⟨xv_25, exv_25, h⟩ := bindO_some h
   obtain ⟨fxv_25a, fxv_25b, fxv_25c⟩ := idx_spec exv_25
   simp only [Int.toNat_natCast, Int.reduceToNat] at fxv_25c
   simp only [go_sem, fxv_25a, fxv_25b, fxv_25c]
   refine And.intro (by omega) ?_
   refine seqQ_normal hQ13 ?_
   refine vc_cond_of (b := (!(xv_24.word.s == xv_25.s))) (by (simp only [go_sem]; done)) (fun hb_65 => ?_) (fun hb_65 => ?_)
   ·
    replace h := if_t h hb_65
    simp only [bool_to_prop] at hb_65
    refine vc_exit_of ?_
    refine seqQ_exit hQ12 ?_
    refine blockQ_exit hQ10 ?_
    refine seqQ_normal hQ9 ?_
    simp only [go_sem]
    refine thenQ_normal hQ6 ?_
    refine ⟨(m_1, IntKind.i64.wrap (t20_1 + 1)), [some 0, some 1, some 2], ?_, h, Nat.lt_succ_self _⟩
    simp only [go_sem, Le] <;> (repeat' apply And.intro) <;> first | ((try with_reducible refine TL_eq ?_); omega) | ((try with_reducible refine TL_eq ?_); (simp [go_sem]; done))
   ·
    replace h := if_f h hb_65
    simp only [bool_to_prop] at hb_65
    refine vc_skip_of ?_
    refine seqQ_normal hQ12 ?_
    refine sg fun QQ14 hQ14 => ?_
    simp only [go_sem]
    refine seqQ_normal hQ14 ?_
    refine vc_join (by kernel_rfl) ?_
    refine seq_cut_gen (ι := Int) (fun (want_2 : Int) => (⟨0, [(2, .ptr 0 0), (4, .osl 1 1 (0) (List.length v_0.1)), (5, .v (.bool v_0.2)), (6, .v (.int .i64 t20_1)), (7, .ptr 2 0), (8, .v (.int .i64 want_2))], [(0, .box [.v (.int .i64 0), .v (.int .i64 0), .v (.int .i64 0), .v (.int .i64 0), .v (.int .i64 0), .v (.int .i64 0), .v (.int .i64 0)]), (1, .arr 1 (enc v_0.1)), (2, .box [.v (.string ⟨⟨xv_24.word.s⟩⟩), .v (.int .i64 xv_24.many), .v (.bool xv_24.record)])], 3, 97⟩ : St)) (fun (want_2 : Int) => f_script_act_J2 v_0 t20_1 xv_24 want_2 = some r) ?_ ?_ --K[2,4,5,6];[0,1]
    ·
     intro QQ72 hQ72
     refine sg fun QQ73 hQ73 => ?_
     simp only [go_sem]
     refine seqQ_normal hQ73 ?_
     refine vc_cond_of (b := xv_24.record) (by (simp only [go_sem]; done)) (fun hb_95 => ?_) (fun hb_95 => ?_)
     ·
      replace h := if_t h hb_95
      simp only [go_sem]
      refine thenQ_normal hQ72 ?_
      refine ⟨IntKind.i64.wrap (xv_24.many + 2), [some 0, some 1, some 3], ?_, h⟩
      simp only [go_sem, Le] <;> (repeat' apply And.intro) <;> first | ((try with_reducible refine TL_eq ?_); omega) | ((try with_reducible refine TL_eq ?_); (simp [go_sem]; done))
     ·
      replace h := if_f h hb_95
      refine vc_skip_of ?_
      refine thenQ_normal hQ72 ?_
      refine ⟨xv_24.many, [some 0, some 1, some 3], ?_, h⟩
      simp only [go_sem, Le] <;> (repeat' apply And.intro) <;> first | ((try with_reducible refine TL_eq ?_); omega) | ((try with_reducible refine TL_eq ?_); (simp [go_sem]; done))
    ·
     rintro want_2 h
     try dsimp only at h
     rw [f_script_act_J2] at h
     refine sg fun QQ15 hQ15 => ?_
     refine sg fun QQ16 hQ16 => ?_
     simp only [go_sem]
     refine seqQ_normal hQ16 ?_
     refine vc_cond_of (b := ((!v_0.2) || (!((List.length v_0.1 : Int) == want_2)))) (by (simp only [go_sem]; done)) (fun hb_67 => ?_) (fun hb_67 => ?_)
     ·
      replace h := if_t h hb_67
      simp only [bool_to_prop] at hb_67
      refine sg fun QQ17 hQ17 => ?_
      simp only [go_sem]
      refine seqQ_normal hQ17 ?_
      refine vc_ret_of ?_
      refine seqQ_ret hQ15 ?_
      refine blockQ_ret hQ10 ?_
      refine seqQ_ret hQ9 ?_
      refine thenQ_ret hQ6 ?_
      refine blockQ_ret hQ5 ?_
      refine seqQ_ret hQ3 ?_
      simp only [go_sem]
      obtain rfl := Option.some.inj h
      refine retW_pure rfl ?_
      simp only [go_sem, Le]
     ·
      replace h := if_f h hb_67
      simp only [bool_to_prop] at hb_67
      refine vc_skip_of ?_
      refine seqQ_normal hQ15 ?_
      refine sg fun QQ18 hQ18 => ?_
      simp only [go_sem]
      refine seqQ_normal hQ18 ?_
      refine vc_join (by kernel_rfl) ?_
      refine seq_cut_gen (ι := GAct) (fun (b_2 : GAct) => (⟨0, [(2, .ptr 0 0), (4, .osl 1 1 (0) (List.length v_0.1)), (7, .ptr 2 0), (9, .ptr 3 0)], [(0, .box [.v (.int .i64 0), .v (.int .i64 0), .v (.int .i64 0), .v (.int .i64 0), .v (.int .i64 0), .v (.int .i64 0), .v (.int .i64 0)]), (1, .arr 1 (enc v_0.1)), (2, .box [.v (.string ⟨⟨xv_24.word.s⟩⟩), .v (.int .i64 xv_24.many), .v (.bool xv_24.record)]), (3, .box [.v (.int .i64 b_2.Kind), .v (.int .i64 b_2.A), .v (.int .i64 b_2.B), .v (.int .i64 b_2.C), .v (.int .i64 b_2.D), .v (.int .i64 b_2.Rec.K), .v (.int .i64 b_2.Rec.V)])], 4, 97⟩ : St)) (fun (b_2 : GAct) => f_script_act_J3 v_0 xv_24 b_2 = some r) ?_ ?_ --K[2,4,7,9];[0,1,2]
      ·
       intro QQ23 hQ23
       refine sg fun QQ24 hQ24 => ?_
       refine vc_draw ?_
       refine drawV_all 6 0 0 [0, 0, 2, 7, 15, 0] [3, 4] [1, 2, 5] [] [0] [] mixed (by kernel_rfl) (of_decide_eq_true (by kernel_rfl)) (by kernel_rfl) (by kernel_rfl) (by rfl) ?_
       obtain ⟨v_7, ev_7, h⟩ := bindO_some h
       simp only [go_sem]
       refine callE_det [3] (f_script_places_p0_det (⟨IntKind.i64.wrap (1 + t20_1), 0, 0, 0, 0, (⟨0, 0⟩ : GRec)⟩ : GAct) v_7 ev_7) rfl ⟨rfl, trivial⟩ rfl rfl rfl rfl ?_
       obtain ⟨g_26, h⟩ := guardO_some h
       simp only [go_sem, g_26]
       refine seqQ_normal hQ24 ?_
       refine vc_block_gen ?_
       intro QQ25 hQ25
       refine vc_loop_of ?_
       refine loop_n 5 ?_
       refine rnd_gen ?_
       intro QQ26 hQ26
       refine sg fun QQ27 hQ27 => ?_
       simp only [go_sem]
       refine seqQ_normal hQ27 ?_
       refine sg fun QQ28 hQ28 => ?_
       refine vc_cond_of (b := (decide (0 < ((Int.toNat (xv_24.many) : Nat) : Int)))) (by (simp only [go_sem]; done)) (fun hb_82 => ?_) (fun hb_82 => ?_)
       ·
        replace h := if_t h hb_82
        simp only [bool_to_prop] at hb_82
        refine vc_skip_of ?_
        refine seqQ_normal hQ28 ?_
        refine sg fun QQ29 hQ29 => ?_
        refine vc_block_gen ?_
        intro QQ30 hQ30
        refine sg fun QQ31 hQ31 => ?_
        obtain ⟨g_27, h⟩ := guardO_some h
        simp only [go_sem, g_27]
        refine seqQ_normal hQ31 ?_
        refine sg fun QQ32 hQ32 => ?_
        refine sg fun QQ33 hQ33 => ?_
        obtain ⟨xv_32, exv_32, h⟩ := bindO_some h
        obtain ⟨fxv_32a, fxv_32b, fxv_32c⟩ := idx_spec exv_32
        simp only [Int.toNat_natCast, Int.reduceToNat] at fxv_32c
        simp only [go_sem, fxv_32a, fxv_32b, fxv_32c]
        refine And.intro (by omega) ?_
        rcases hb_83 : (decide (xv_32 < 0)) with _ | _
        ·
         replace h := if_f h hb_83
         simp only [go_sem, hb_83, fxv_32a, fxv_32b, fxv_32c]
         refine And.intro (by omega) ?_
         refine seqQ_normal hQ33 ?_
         refine vc_cond_of (b := (decide (2147483647 < xv_32))) (by (simp only [go_sem]; done)) (fun hb_84 => ?_) (fun hb_84 => ?_)
         ·
          replace h := if_t h hb_84
          simp only [bool_to_prop] at hb_84
          refine sg fun QQ34 hQ34 => ?_
          simp only [go_sem]
          refine seqQ_normal hQ34 ?_
          refine vc_ret_of ?_
          refine seqQ_ret hQ32 ?_
          refine blockQ_ret hQ30 ?_
          refine seqQ_ret hQ29 ?_
          refine thenQ_ret hQ26 ?_
          refine blockQ_ret hQ25 ?_
          refine thenQ_ret hQ23 ?_
          refine blockQ_ret hQ10 ?_
          refine seqQ_ret hQ9 ?_
          refine thenQ_ret hQ6 ?_
          refine blockQ_ret hQ5 ?_
          refine seqQ_ret hQ3 ?_
          simp only [go_sem]
          obtain rfl := Option.some.inj h
          refine retW_pure rfl ?_
          simp only [go_sem, Le]
         ·
          replace h := if_f h hb_84
          simp only [bool_to_prop] at hb_84
          refine vc_skip_of ?_
          refine seqQ_normal hQ32 ?_
          simp only [go_sem, fxv_32a, fxv_32b, fxv_32c]
          refine And.intro (by omega) ?_
          refine blockQ_normal hQ30 ?_
          refine seqQ_normal hQ29 ?_
          simp only [go_sem]
          refine thenQ_normal hQ26 ?_
          refine rnd_gen ?_
          intro QQ35 hQ35
          refine sg fun QQ36 hQ36 => ?_
          simp only [go_sem]
          refine seqQ_normal hQ36 ?_
          refine sg fun QQ37 hQ37 => ?_
          refine vc_cond_of (b := (decide (1 < ((Int.toNat (xv_24.many) : Nat) : Int)))) (by (simp only [go_sem]; done)) (fun hb_85 => ?_) (fun hb_85 => ?_)
          ·
           replace h := if_t h hb_85
           simp only [bool_to_prop] at hb_85
           refine vc_skip_of ?_
           refine seqQ_normal hQ37 ?_
           refine sg fun QQ38 hQ38 => ?_
           refine vc_block_gen ?_
           intro QQ39 hQ39
           refine sg fun QQ40 hQ40 => ?_
           obtain ⟨g_28, h⟩ := guardO_some h
           simp only [go_sem, g_28]
           refine seqQ_normal hQ40 ?_
           refine sg fun QQ41 hQ41 => ?_
           refine sg fun QQ42 hQ42 => ?_
           obtain ⟨xv_33, exv_33, h⟩ := bindO_some h
           obtain ⟨fxv_33a, fxv_33b, fxv_33c⟩ := idx_spec exv_33
           simp only [Int.toNat_natCast, Int.reduceToNat] at fxv_33c
           simp only [go_sem, fxv_33a, fxv_33b, fxv_33c]
           refine And.intro (by omega) ?_
           rcases hb_86 : (decide (xv_33 < 0)) with _ | _
           ·
            replace h := if_f h hb_86
            simp only [go_sem, hb_86, fxv_33a, fxv_33b, fxv_33c]
            refine And.intro (by omega) ?_
            refine seqQ_normal hQ42 ?_
            refine vc_cond_of (b := (decide (2147483647 < xv_33))) (by (simp only [go_sem]; done)) (fun hb_87 => ?_) (fun hb_87 => ?_)
            ·
             replace h := if_t h hb_87
             simp only [bool_to_prop] at hb_87
             refine sg fun QQ43 hQ43 => ?_
             simp only [go_sem]
             refine seqQ_normal hQ43 ?_
             refine vc_ret_of ?_
             refine seqQ_ret hQ41 ?_
             refine blockQ_ret hQ39 ?_
             refine seqQ_ret hQ38 ?_
             refine thenQ_ret hQ35 ?_
             refine blockQ_ret hQ25 ?_
             refine thenQ_ret hQ23 ?_
             refine blockQ_ret hQ10 ?_
             refine seqQ_ret hQ9 ?_
             refine thenQ_ret hQ6 ?_
             refine blockQ_ret hQ5 ?_
             refine seqQ_ret hQ3 ?_
             simp only [go_sem]
             obtain rfl := Option.some.inj h
             refine retW_pure rfl ?_
             simp only [go_sem, Le]
            ·
             replace h := if_f h hb_87
             simp only [bool_to_prop] at hb_87
             refine vc_skip_of ?_
             refine seqQ_normal hQ41 ?_
             simp only [go_sem, fxv_33a, fxv_33b, fxv_33c]
             refine And.intro (by omega) ?_
             refine blockQ_normal hQ39 ?_
             refine seqQ_normal hQ38 ?_
             simp only [go_sem]
             refine thenQ_normal hQ35 ?_
             refine rnd_gen ?_
             intro QQ44 hQ44
             refine sg fun QQ45 hQ45 => ?_
             simp only [go_sem]
             refine seqQ_normal hQ45 ?_
             refine sg fun QQ46 hQ46 => ?_
             refine vc_cond_of (b := (decide (2 < ((Int.toNat (xv_24.many) : Nat) : Int)))) (by (simp only [go_sem]; done)) (fun hb_88 => ?_) (fun hb_88 => ?_)
             ·
              replace h := if_t h hb_88
              simp only [bool_to_prop] at hb_88
              refine vc_skip_of ?_
              refine seqQ_normal hQ46 ?_
              refine sg fun QQ47 hQ47 => ?_
              refine vc_block_gen ?_
              intro QQ48 hQ48
              refine sg fun QQ49 hQ49 => ?_
              obtain ⟨g_29, h⟩ := guardO_some h
              simp only [go_sem, g_29]
              refine seqQ_normal hQ49 ?_
              refine sg fun QQ50 hQ50 => ?_
              refine sg fun QQ51 hQ51 => ?_
              obtain ⟨xv_34, exv_34, h⟩ := bindO_some h
              obtain ⟨fxv_34a, fxv_34b, fxv_34c⟩ := idx_spec exv_34
              simp only [Int.toNat_natCast, Int.reduceToNat] at fxv_34c
              simp only [go_sem, fxv_34a, fxv_34b, fxv_34c]
              refine And.intro (by omega) ?_
              rcases hb_89 : (decide (xv_34 < 0)) with _ | _
              ·
               replace h := if_f h hb_89
               simp only [go_sem, hb_89, fxv_34a, fxv_34b, fxv_34c]
               refine And.intro (by omega) ?_
               refine seqQ_normal hQ51 ?_
               refine vc_cond_of (b := (decide (2147483647 < xv_34))) (by (simp only [go_sem]; done)) (fun hb_90 => ?_) (fun hb_90 => ?_)
               ·
                replace h := if_t h hb_90
                simp only [bool_to_prop] at hb_90
                refine sg fun QQ52 hQ52 => ?_
                simp only [go_sem]
                refine seqQ_normal hQ52 ?_
                refine vc_ret_of ?_
                refine seqQ_ret hQ50 ?_
                refine blockQ_ret hQ48 ?_
                refine seqQ_ret hQ47 ?_
                refine thenQ_ret hQ44 ?_
                refine blockQ_ret hQ25 ?_
                refine thenQ_ret hQ23 ?_
                refine blockQ_ret hQ10 ?_
                refine seqQ_ret hQ9 ?_
                refine thenQ_ret hQ6 ?_
                refine blockQ_ret hQ5 ?_
                refine seqQ_ret hQ3 ?_
                simp only [go_sem]
                obtain rfl := Option.some.inj h
                refine retW_pure rfl ?_
                simp only [go_sem, Le]
               ·
                replace h := if_f h hb_90
                simp only [bool_to_prop] at hb_90
                refine vc_skip_of ?_
                refine seqQ_normal hQ50 ?_
                simp only [go_sem, fxv_34a, fxv_34b, fxv_34c]
                refine And.intro (by omega) ?_
                refine blockQ_normal hQ48 ?_
                refine seqQ_normal hQ47 ?_
                simp only [go_sem]
                refine thenQ_normal hQ44 ?_
                refine rnd_gen ?_
                intro QQ53 hQ53
                refine sg fun QQ54 hQ54 => ?_
                simp only [go_sem]
                refine seqQ_normal hQ54 ?_
                refine sg fun QQ55 hQ55 => ?_
                refine vc_cond_of (b := (decide (3 < ((Int.toNat (xv_24.many) : Nat) : Int)))) (by (simp only [go_sem]; done)) (fun hb_91 => ?_) (fun hb_91 => ?_)
                ·
                 replace h := if_t h hb_91
                 simp only [bool_to_prop] at hb_91
                 refine vc_skip_of ?_
                 refine seqQ_normal hQ55 ?_
                 refine sg fun QQ56 hQ56 => ?_
                 refine vc_block_gen ?_
                 intro QQ57 hQ57
                 refine sg fun QQ58 hQ58 => ?_
                 obtain ⟨g_30, h⟩ := guardO_some h
                 simp only [go_sem, g_30]
                 refine seqQ_normal hQ58 ?_
                 refine sg fun QQ59 hQ59 => ?_
                 refine sg fun QQ60 hQ60 => ?_
                 obtain ⟨xv_35, exv_35, h⟩ := bindO_some h
                 obtain ⟨fxv_35a, fxv_35b, fxv_35c⟩ := idx_spec exv_35
                 simp only [Int.toNat_natCast, Int.reduceToNat] at fxv_35c
                 simp only [go_sem, fxv_35a, fxv_35b, fxv_35c]
                 refine And.intro (by omega) ?_
                 rcases hb_92 : (decide (xv_35 < 0)) with _ | _
                 ·
                  replace h := if_f h hb_92
                  simp only [go_sem, hb_92, fxv_35a, fxv_35b, fxv_35c]
                  refine And.intro (by omega) ?_
                  refine seqQ_normal hQ60 ?_
                  refine vc_cond_of (b := (decide (2147483647 < xv_35))) (by (simp only [go_sem]; done)) (fun hb_93 => ?_) (fun hb_93 => ?_)
                  ·
                   replace h := if_t h hb_93
                   simp only [bool_to_prop] at hb_93
                   refine sg fun QQ61 hQ61 => ?_
                   simp only [go_sem]
                   refine seqQ_normal hQ61 ?_
                   refine vc_ret_of ?_
                   refine seqQ_ret hQ59 ?_
                   refine blockQ_ret hQ57 ?_
                   refine seqQ_ret hQ56 ?_
                   refine thenQ_ret hQ53 ?_
                   refine blockQ_ret hQ25 ?_
                   refine thenQ_ret hQ23 ?_
                   refine blockQ_ret hQ10 ?_
                   refine seqQ_ret hQ9 ?_
                   refine thenQ_ret hQ6 ?_
                   refine blockQ_ret hQ5 ?_
                   refine seqQ_ret hQ3 ?_
                   simp only [go_sem]
                   obtain rfl := Option.some.inj h
                   refine retW_pure rfl ?_
                   simp only [go_sem, Le]
                  ·
                   replace h := if_f h hb_93
                   simp only [bool_to_prop] at hb_93
                   refine vc_skip_of ?_
                   refine seqQ_normal hQ59 ?_
                   simp only [go_sem, fxv_35a, fxv_35b, fxv_35c]
                   refine And.intro (by omega) ?_
                   refine blockQ_normal hQ57 ?_
                   refine seqQ_normal hQ56 ?_
                   simp only [go_sem]
                   refine thenQ_normal hQ53 ?_
                   refine rnd_gen ?_
                   intro QQ62 hQ62
                   refine sg fun QQ63 hQ63 => ?_
                   simp only [go_sem]
                   refine seqQ_normal hQ63 ?_
                   refine sg fun QQ64 hQ64 => ?_
                   refine vc_cond_of (b := (decide (4 < ((Int.toNat (xv_24.many) : Nat) : Int)))) (by (simp only [go_sem]; done)) (fun hb_94 => ?_) (fun hb_94 => ?_)
                   ·
                    replace h := if_t h hb_94
                    simp only [bool_to_prop] at hb_94
                    refine vc_skip_of ?_
                    refine seqQ_normal hQ64 ?_
                    refine sg fun QQ65 hQ65 => ?_
                    refine vc_block_gen ?_
                    intro QQ66 hQ66
                    refine sg fun QQ67 hQ67 => ?_
                    exact absurd h (by simp)
                   ·
                    replace h := if_f h hb_94
                    simp only [bool_to_prop] at hb_94
                    refine vc_exit_of ?_
                    refine seqQ_exit hQ64 ?_
                    refine thenQ_exit hQ62 ?_
                    refine blockQ_exit hQ25 ?_
                    refine thenQ_normal hQ23 ?_
                    refine ⟨(⟨v_7.2.Kind, xv_32, xv_33, xv_34, xv_35, v_7.2.Rec⟩ : GAct), [some 0, some 1, some 2, some 3], ?_, h⟩
                    simp only [go_sem, Le] <;> (repeat' apply And.intro) <;> first | ((try with_reducible refine TL_eq ?_); omega) | ((try with_reducible refine TL_eq ?_); (simp [go_sem]; done))
                 ·
                  replace h := if_t h hb_92
                  simp only [go_sem, hb_92]
                  refine seqQ_normal hQ60 ?_
                  refine vc_cond_t (by (simp only [go_sem]; done)) ?_
                  refine sg fun QQ68 hQ68 => ?_
                  simp only [go_sem]
                  refine seqQ_normal hQ68 ?_
                  refine vc_ret_of ?_
                  refine seqQ_ret hQ59 ?_
                  refine blockQ_ret hQ57 ?_
                  refine seqQ_ret hQ56 ?_
                  refine thenQ_ret hQ53 ?_
                  refine blockQ_ret hQ25 ?_
                  refine thenQ_ret hQ23 ?_
                  refine blockQ_ret hQ10 ?_
                  refine seqQ_ret hQ9 ?_
                  refine thenQ_ret hQ6 ?_
                  refine blockQ_ret hQ5 ?_
                  refine seqQ_ret hQ3 ?_
                  simp only [go_sem]
                  obtain rfl := Option.some.inj h
                  refine retW_pure rfl ?_
                  simp only [go_sem, Le]
                ·
                 replace h := if_f h hb_91
                 simp only [bool_to_prop] at hb_91
                 refine vc_exit_of ?_
                 refine seqQ_exit hQ55 ?_
                 refine thenQ_exit hQ53 ?_
                 refine blockQ_exit hQ25 ?_
                 refine thenQ_normal hQ23 ?_
                 refine ⟨(⟨v_7.2.Kind, xv_32, xv_33, xv_34, v_7.2.D, v_7.2.Rec⟩ : GAct), [some 0, some 1, some 2, some 3], ?_, h⟩
                 simp only [go_sem, Le] <;> (repeat' apply And.intro) <;> first | ((try with_reducible refine TL_eq ?_); omega) | ((try with_reducible refine TL_eq ?_); (simp [go_sem]; done))
              ·
               replace h := if_t h hb_89
               simp only [go_sem, hb_89]
               refine seqQ_normal hQ51 ?_
               refine vc_cond_t (by (simp only [go_sem]; done)) ?_
               refine sg fun QQ69 hQ69 => ?_
               simp only [go_sem]
               refine seqQ_normal hQ69 ?_
               refine vc_ret_of ?_
               refine seqQ_ret hQ50 ?_
               refine blockQ_ret hQ48 ?_
               refine seqQ_ret hQ47 ?_
               refine thenQ_ret hQ44 ?_
               refine blockQ_ret hQ25 ?_
               refine thenQ_ret hQ23 ?_
               refine blockQ_ret hQ10 ?_
               refine seqQ_ret hQ9 ?_
               refine thenQ_ret hQ6 ?_
               refine blockQ_ret hQ5 ?_
               refine seqQ_ret hQ3 ?_
               simp only [go_sem]
               obtain rfl := Option.some.inj h
               refine retW_pure rfl ?_
               simp only [go_sem, Le]
             ·
              replace h := if_f h hb_88
              simp only [bool_to_prop] at hb_88
              refine vc_exit_of ?_
              refine seqQ_exit hQ46 ?_
              refine thenQ_exit hQ44 ?_
              refine blockQ_exit hQ25 ?_
              refine thenQ_normal hQ23 ?_
              refine ⟨(⟨v_7.2.Kind, xv_32, xv_33, v_7.2.C, v_7.2.D, v_7.2.Rec⟩ : GAct), [some 0, some 1, some 2, some 3], ?_, h⟩
              simp only [go_sem, Le] <;> (repeat' apply And.intro) <;> first | ((try with_reducible refine TL_eq ?_); omega) | ((try with_reducible refine TL_eq ?_); (simp [go_sem]; done))
           ·
            replace h := if_t h hb_86
            simp only [go_sem, hb_86]
            refine seqQ_normal hQ42 ?_
            refine vc_cond_t (by (simp only [go_sem]; done)) ?_
            refine sg fun QQ70 hQ70 => ?_
            simp only [go_sem]
            refine seqQ_normal hQ70 ?_
            refine vc_ret_of ?_
            refine seqQ_ret hQ41 ?_
            refine blockQ_ret hQ39 ?_
            refine seqQ_ret hQ38 ?_
            refine thenQ_ret hQ35 ?_
            refine blockQ_ret hQ25 ?_
            refine thenQ_ret hQ23 ?_
            refine blockQ_ret hQ10 ?_
            refine seqQ_ret hQ9 ?_
            refine thenQ_ret hQ6 ?_
            refine blockQ_ret hQ5 ?_
            refine seqQ_ret hQ3 ?_
            simp only [go_sem]
            obtain rfl := Option.some.inj h
            refine retW_pure rfl ?_
            simp only [go_sem, Le]
          ·
           replace h := if_f h hb_85
           simp only [bool_to_prop] at hb_85
           refine vc_exit_of ?_
           refine seqQ_exit hQ37 ?_
           refine thenQ_exit hQ35 ?_
           refine blockQ_exit hQ25 ?_
           refine thenQ_normal hQ23 ?_
           refine ⟨(⟨v_7.2.Kind, xv_32, v_7.2.B, v_7.2.C, v_7.2.D, v_7.2.Rec⟩ : GAct), [some 0, some 1, some 2, some 3], ?_, h⟩
           simp only [go_sem, Le] <;> (repeat' apply And.intro) <;> first | ((try with_reducible refine TL_eq ?_); omega) | ((try with_reducible refine TL_eq ?_); (simp [go_sem]; done))
        ·
         replace h := if_t h hb_83
         simp only [go_sem, hb_83]
         refine seqQ_normal hQ33 ?_
         refine vc_cond_t (by (simp only [go_sem]; done)) ?_
         refine sg fun QQ71 hQ71 => ?_
         simp only [go_sem]
         refine seqQ_normal hQ71 ?_
         refine vc_ret_of ?_
         refine seqQ_ret hQ32 ?_
         refine blockQ_ret hQ30 ?_
         refine seqQ_ret hQ29 ?_
         refine thenQ_ret hQ26 ?_
         refine blockQ_ret hQ25 ?_
         refine thenQ_ret hQ23 ?_
         refine blockQ_ret hQ10 ?_
         refine seqQ_ret hQ9 ?_
         refine thenQ_ret hQ6 ?_
         refine blockQ_ret hQ5 ?_
         refine seqQ_ret hQ3 ?_
         simp only [go_sem]
         obtain rfl := Option.some.inj h
         refine retW_pure rfl ?_
         simp only [go_sem, Le]
       ·
        replace h := if_f h hb_82
        simp only [bool_to_prop] at hb_82
        refine vc_exit_of ?_
        refine seqQ_exit hQ28 ?_
        refine thenQ_exit hQ26 ?_
        refine blockQ_exit hQ25 ?_
        refine thenQ_normal hQ23 ?_
        refine ⟨v_7.2, [some 0, some 1, some 2, some 3], ?_, h⟩
        simp only [go_sem, Le] <;> (repeat' apply And.intro) <;> first | ((try with_reducible refine TL_eq ?_); omega) | ((try with_reducible refine TL_eq ?_); (simp [go_sem]; done))
      ·
       rintro b_2 h
       try dsimp only at h
       rw [f_script_act_J3] at h
       refine vc_join (by kernel_rfl) ?_
       refine seq_go_gen ?_
       intro QQ19 hQ19
       refine sg fun QQ20 hQ20 => ?_
       simp only [go_sem]
       refine seqQ_normal hQ20 ?_
       refine vc_cond_of (b := xv_24.record) (by (simp only [go_sem]; done)) (fun hb_81 => ?_) (fun hb_81 => ?_)
       ·
        replace h := if_t h hb_81
        refine vc_draw ?_
        refine drawM_tail 11 [0, 0, 2, 7, 15, 0, 0, 64, 192, 480, 992, 2047, 4095, 8191] mixed (by kernel_rfl) (of_decide_eq_true (by kernel_rfl)) (by kernel_rfl) ?_
        obtain ⟨xv_30, exv_30, h⟩ := bindO_some h
        obtain ⟨fxv_30a, fxv_30b, fxv_30c⟩ := idx_spec exv_30
        obtain ⟨xv_31, exv_31, h⟩ := bindO_some h
        obtain ⟨fxv_31a, fxv_31b, fxv_31c⟩ := idx_spec exv_31
        simp only [go_sem, fxv_30a, fxv_30b, fxv_30c, fxv_31a, fxv_31b, fxv_31c]
        refine And.intro (by omega) ?_
        refine And.intro (by omega) ?_
        refine seqQ_normal hQ19 ?_
        refine sg fun QQ21 hQ21 => ?_
        simp only [go_sem]
        refine seqQ_normal hQ21 ?_
        refine vc_ret_of ?_
        refine blockQ_ret hQ10 ?_
        refine seqQ_ret hQ9 ?_
        refine thenQ_ret hQ6 ?_
        refine blockQ_ret hQ5 ?_
        refine seqQ_ret hQ3 ?_
        simp only [go_sem]
        obtain rfl := Option.some.inj h
        refine retW_pure rfl ?_
        simp only [go_sem, Le]
       ·
        replace h := if_f h hb_81
        refine vc_skip_of ?_
        refine seqQ_normal hQ19 ?_
        refine sg fun QQ22 hQ22 => ?_
        simp only [go_sem]
        refine seqQ_normal hQ22 ?_
        refine vc_ret_of ?_
        refine blockQ_ret hQ10 ?_
        refine seqQ_ret hQ9 ?_
        refine thenQ_ret hQ6 ?_
        refine blockQ_ret hQ5 ?_
        refine seqQ_ret hQ3 ?_
        simp only [go_sem]
        obtain rfl := Option.some.inj h
        refine retW_pure rfl ?_
        simp only [go_sem, Le]
  ·
   replace h := if_f h hb_64
   simp only [bool_to_prop] at hb_64
   refine vc_exit_of ?_
   refine seqQ_exit hQ8 ?_
   refine thenQ_exit hQ6 ?_
   refine blockQ_exit hQ5 ?_
   refine seqQ_normal hQ3 ?_
   refine sg fun QQ74 hQ74 => ?_
   simp only [go_sem]
   refine seqQ_normal hQ74 ?_
   refine vc_ret_of ?_
   simp only [go_sem]
   obtain rfl := Option.some.inj h
   refine retW_pure rfl ?_
   simp only [go_sem, Le]

def f_backwashref21_Same_B1 (a_0 : List GAct) (b_0 : List GAct) (rec_1 : Int → Option Bool) : Int → Option Bool :=
 fun i_1 =>
 (if (decide (i_1 < (List.length a_0 : Int))) = true then bindO (idx a_0 i_1) (fun (xv_4 : GAct) =>
 bindO (idx b_0 i_1) (fun (xv_5 : GAct) =>
 (if (!((xv_4.Kind == xv_5.Kind) && ((xv_4.A == xv_5.A) && ((xv_4.B == xv_5.B) && ((xv_4.C == xv_5.C) && ((xv_4.D == xv_5.D) && ((xv_4.Rec.K == xv_5.Rec.K) && (xv_4.Rec.V == xv_5.Rec.V)))))))) = true then some false
 else rec_1 (IntKind.i64.wrap (i_1 + 1)))))
 else some true)
def f_backwashref21_Same (a_0 : List GAct) (b_0 : List GAct) : Option Bool :=
 (if (!((List.length a_0 : Int) == (List.length b_0 : Int))) = true then some false
 else loopK (f_backwashref21_Same_B1 a_0 b_0) rounds 0)
theorem f_backwashref21_Same_ok (a_0 : List GAct) (b_0 : List GAct)  (r : Bool) (h : f_backwashref21_Same a_0 b_0 = some r) : PureS Tryd.prog 10 [.sl 7 (enc a_0), .sl 7 (enc b_0)] 0 (.v (.bool r)) := by
 unfold PureS
 refine Spec.of_vc Tryd.func10 rfl (by kernel_rfl) (by kernel_rfl) ?_
 rw [f_backwashref21_Same] at h
 refine sg fun QQ1 hQ1 => ?_
 simp only [go_sem]
 refine seqQ_normal hQ1 ?_
 refine sg fun QQ2 hQ2 => ?_
 refine sg fun QQ3 hQ3 => ?_
 simp only [go_sem]
 refine seqQ_normal hQ3 ?_
 refine vc_cond_of (b := (!((List.length a_0 : Int) == (List.length b_0 : Int)))) (by (simp only [go_sem]; done)) (fun hb_0 => ?_) (fun hb_0 => ?_)
 ·
  replace h := if_t h hb_0
  simp only [bool_to_prop] at hb_0
  refine sg fun QQ4 hQ4 => ?_
  simp only [go_sem]
  refine seqQ_normal hQ4 ?_
  refine vc_ret_of ?_
  refine seqQ_ret hQ2 ?_
  simp only [go_sem]
  obtain rfl := Option.some.inj h
  refine retW_pure rfl ?_
  simp only [go_sem, Le]
 ·
  replace h := if_f h hb_0
  simp only [bool_to_prop] at hb_0
  refine vc_skip_of ?_
  refine seqQ_normal hQ2 ?_
  refine vc_join (by kernel_rfl) ?_
  refine seq_go_gen ?_
  intro QQ5 hQ5
  refine sg fun QQ6 hQ6 => ?_
  simp only [go_sem]
  refine seqQ_normal hQ6 ?_
  refine vc_block_gen ?_
  intro QQ7 hQ7
  refine vc_loop_of ?_
  refine loop_gen (ι := Nat × Int) (fun ((_, i_1) : Nat × Int) => (⟨0, [(0, .sl 7 (enc a_0)), (1, .sl 7 (enc b_0)), (5, .v (.int .i64 i_1))], [], 0, 26⟩ : St)) (fun ((n_, i_1) : Nat × Int) => loopK (f_backwashref21_Same_B1 a_0 b_0) n_ i_1 = some r) (fun p => p.1) (rounds, 0) [] ?_ h ?_ --K[0,1];[]
  · simp only [go_sem, Le]
  ·
   rintro ⟨n_1, i_1⟩ h QQ8 hQ8
   dsimp only at h
   replace h := loopK_some h
   obtain ⟨m_1, rfl, h⟩ := h
   rw [f_backwashref21_Same_B1] at h
   refine sg fun QQ9 hQ9 => ?_
   refine sg fun QQ10 hQ10 => ?_
   simp only [go_sem]
   refine seqQ_normal hQ10 ?_
   refine vc_cond_of (b := (decide (i_1 < (List.length a_0 : Int)))) (by (simp only [go_sem]; done)) (fun hb_5 => ?_) (fun hb_5 => ?_)
   ·
    replace h := if_t h hb_5
    simp only [bool_to_prop] at hb_5
    refine vc_skip_of ?_
    refine seqQ_normal hQ9 ?_
    refine sg fun QQ11 hQ11 => ?_
    refine vc_block_gen ?_
    intro QQ12 hQ12
    refine sg fun QQ13 hQ13 => ?_
    refine vc_draw ?_
    refine drawM_tail 8 [0, 0, 3, 7, 0, 0, 48, 112, 255] mixed (by kernel_rfl) (of_decide_eq_true (by kernel_rfl)) (by kernel_rfl) ?_
    obtain ⟨xv_4, exv_4, h⟩ := bindO_some h
    obtain ⟨fxv_4a, fxv_4b, fxv_4c⟩ := idx_spec exv_4
    obtain ⟨xv_5, exv_5, h⟩ := bindO_some h
    obtain ⟨fxv_5a, fxv_5b, fxv_5c⟩ := idx_spec exv_5
    simp only [go_sem, fxv_4a, fxv_4b, fxv_4c, fxv_5a, fxv_5b, fxv_5c]
    refine And.intro (by omega) ?_
    refine And.intro (by omega) ?_
    refine seqQ_normal hQ13 ?_
    refine vc_cond_of (b := (!((xv_4.Kind == xv_5.Kind) && ((xv_4.A == xv_5.A) && ((xv_4.B == xv_5.B) && ((xv_4.C == xv_5.C) && ((xv_4.D == xv_5.D) && ((xv_4.Rec.K == xv_5.Rec.K) && (xv_4.Rec.V == xv_5.Rec.V))))))))) (by (simp only [go_sem]; done)) (fun hb_6 => ?_) (fun hb_6 => ?_)
    ·
     replace h := if_t h hb_6
     simp only [bool_to_prop] at hb_6
     refine sg fun QQ14 hQ14 => ?_
     simp only [go_sem]
     refine seqQ_normal hQ14 ?_
     refine vc_ret_of ?_
     refine blockQ_ret hQ12 ?_
     refine seqQ_ret hQ11 ?_
     refine thenQ_ret hQ8 ?_
     refine blockQ_ret hQ7 ?_
     refine seqQ_ret hQ5 ?_
     simp only [go_sem]
     obtain rfl := Option.some.inj h
     refine retW_pure rfl ?_
     simp only [go_sem, Le]
    ·
     replace h := if_f h hb_6
     simp only [bool_to_prop] at hb_6
     refine vc_skip_of ?_
     refine blockQ_normal hQ12 ?_
     refine seqQ_normal hQ11 ?_
     simp only [go_sem]
     refine thenQ_normal hQ8 ?_
     refine ⟨(m_1, IntKind.i64.wrap (i_1 + 1)), [], ?_, h, Nat.lt_succ_self _⟩
     simp only [go_sem, Le]
   ·
    replace h := if_f h hb_5
    simp only [bool_to_prop] at hb_5
    refine vc_exit_of ?_
    refine seqQ_exit hQ9 ?_
    refine thenQ_exit hQ8 ?_
    refine blockQ_exit hQ7 ?_
    refine seqQ_normal hQ5 ?_
    refine sg fun QQ15 hQ15 => ?_
    simp only [go_sem]
    refine seqQ_normal hQ15 ?_
    refine vc_ret_of ?_
    simp only [go_sem]
    obtain rfl := Option.some.inj h
    refine retW_pure rfl ?_
    simp only [go_sem, Le]

end Go.Proofs.YtkjinognbjmccaaDoor
