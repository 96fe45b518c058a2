/-
  The law in plain words: what its plain function gives is true. No condition beyond those that each theorem names.
-/
import Derived.Test.YtkjinognbjmccaaDoorWalkSR1
import Derived.Test.YtkjinognbjmccaaDoorWalkSR0
import Derived.Test.YtkjinognbjmccaaDoorP21g
set_option linter.unusedSimpArgs false
set_option linter.unusedVariables false
set_option linter.unusedSectionVars false
namespace Go.Proofs.YtkjinognbjmccaaDoor
open Go Go.RowKit Go.Lib
set_option maxRecDepth 100000
/-! The statements of layer 21. -/
theorem itoa_one {n : Nat} (h : n < 10) : itoa (n : Int) = [UInt8.ofNat (48 + n)] := by
 unfold itoa
 rw [if_neg (by omega), Int.toNat_natCast, decDigits_one h]
theorem itoa_m5 : itoa (-5) = [45, 53] := by
 unfold itoa
 rw [if_pos (by decide), show Int.natAbs (-5) = 5 from rfl, decDigits_one (by decide)]
 rfl
def a1 : GAct := ⟨1, 0, 3, 0, 0, ⟨7, -5⟩⟩
def a2 : GAct := ⟨5, 2, 0, 1, 0, ⟨0, 0⟩⟩
def a3 : GAct := ⟨6, 0, 0, 0, 0, ⟨0, 0⟩⟩
theorem a_in : AIn a1 ∧ AIn a2 ∧ AIn a3 := by
 refine ⟨⟨?_, ?_, ?_, ?_, ?_, ?_⟩, ⟨?_, ?_, ?_, ?_, ?_, ?_⟩, ⟨?_, ?_, ?_, ?_, ?_, ?_⟩⟩
 all_goals constructor <;> simp [a1, a2, a3]
theorem a_ok : AOK a1 ∧ AOK a2 ∧ AOK a3 := by
 refine ⟨.inl ?_, .inr ⟨⟨rfl, rfl⟩, .inr (.inr (.inr (.inl ?_)))⟩, .inr ⟨⟨rfl, rfl⟩, .inr (.inr (.inr (.inr ?_)))⟩⟩
 all_goals simp [a1, a2, a3, R31]
theorem line1 : lineS a1 = [102, 101, 101, 100, 32, 48, 32, 51, 32, 55, 32, 45, 53] := by
 have e0 : itoa 0 = [48] := itoa_one (n := 0) (by decide)
 have e3 : itoa 3 = [51] := itoa_one (n := 3) (by decide)
 have e7 : itoa 7 = [55] := itoa_one (n := 7) (by decide)
 simp [lineS, wordsA, a1, joinW, wordK, e0, e3, e7, itoa_m5]
theorem line2 : lineS a2 = [109, 111, 118, 101, 32, 50, 32, 48, 32, 49, 32, 48] := by
 have e0 : itoa 0 = [48] := itoa_one (n := 0) (by decide)
 have e1 : itoa 1 = [49] := itoa_one (n := 1) (by decide)
 have e2 : itoa 2 = [50] := itoa_one (n := 2) (by decide)
 simp [lineS, wordsA, a2, joinW, wordK, e0, e1, e2]
theorem line3 : lineS a3 = [116, 111, 107, 101, 110] := by simp [lineS, wordsA, a3, joinW, wordK]
theorem rd_hash {ws : List (List UInt8)} (hw : ∀ w ∈ ws, Wd w ∧ w ≠ []) {r : List (List UInt8)} {x : List UInt8} (he : ws = (35 :: x) :: r) : rd (joinW ws) = none := by
 unfold rd
 rw [flds_join (by rw [he]; simp) hw, he]
 simp
theorem rd_x : rd [35, 32, 120] = none := rd_hash (ws := [[35], [120]]) (fun w hw => by
 simp only [List.mem_cons, List.not_mem_nil, or_false] at hw
 rcases hw with rfl | rfl
 all_goals exact ⟨by unfold Wd; decide, by decide⟩) rfl
theorem awake21 : f_backwashlaw21_awake = some true := by
 have hs : sp [102, 101, 101, 100, 32, 48, 32, 51, 32, 55, 32, 45, 53, 10, 35, 32, 120, 10, 116, 111, 107, 101, 110] = [lineS a1, [35, 32, 120], lineS a3] := by rw [line1, line3]; rfl
 unfold f_backwashlaw21_awake
 have h2 : f_script_Show [(⟨5, 2, 0, 1, 0, (⟨0, 0⟩ : GRec)⟩ : GAct)] = some (showR [a2]) := Show_eq (l := [a2]) (by simp [a_in.2.1]) (by simp)
 rw [Parse_eq (by simp), hs, h2]
 have hp : prs [lineS a1, [35, 32, 120], lineS a3] 0 [] = ([a1, a3], 0, 0) := by
  have l1 := lineS_len a_in.1
  have l3 := lineS_len a_in.2.2
  simp only [prs, rd_line a_ok.1 a_in.1, rd_line a_ok.2.2 a_in.2.2, rd_x]
  rw [if_neg (by omega), if_pos trivial, if_neg (by simp), if_neg (by omega), if_pos trivial]
  rfl
 rw [hp]
 have hsh : showR [a2] = ([109, 111, 118, 101, 32, 50, 32, 48, 32, 49, 32, 48, 10], 0) := by
  unfold showR
  rw [if_pos (by simp [a_ok.2.1]), if_neg (by simp)]
  simp [bodyS, line2]
 rw [hsh]
 rfl
end Go.Proofs.YtkjinognbjmccaaDoor
