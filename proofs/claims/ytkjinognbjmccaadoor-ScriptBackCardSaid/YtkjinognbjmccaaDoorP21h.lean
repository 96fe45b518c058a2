/-
  The law in plain words: what its plain function gives is true. No condition beyond those that each theorem names.
-/
import Derived.Test.YtkjinognbjmccaaDoorWalkSB1
import Derived.Test.YtkjinognbjmccaaDoorWalkSB0
import Derived.Test.YtkjinognbjmccaaDoorP21g
set_option linter.unusedSimpArgs false
set_option linter.unusedVariables false
set_option linter.unusedSectionVars false
namespace Go.Proofs.YtkjinognbjmccaaDoor
open Go Go.RowKit Go.Lib
set_option maxRecDepth 100000
/-! The statements of layer 21. -/
theorem itoa_one {n : Nat} (h : n < 10) : itoa (n : Int) = [UInt8.ofNat (48 + n)] := by
 unfold itoa
 rw [if_neg (by omega), Int.toNat_natCast, decDigits_one h]
theorem itoa_m5 : itoa (-5) = [45, 53] := by
 unfold itoa
 rw [if_pos (by decide), show Int.natAbs (-5) = 5 from rfl, decDigits_one (by decide)]
 rfl
def a1 : GAct := ⟨1, 0, 3, 0, 0, ⟨7, -5⟩⟩
def a2 : GAct := ⟨5, 2, 0, 1, 0, ⟨0, 0⟩⟩
def a3 : GAct := ⟨6, 0, 0, 0, 0, ⟨0, 0⟩⟩
theorem a_in : AIn a1 ∧ AIn a2 ∧ AIn a3 := by
 refine ⟨⟨?_, ?_, ?_, ?_, ?_, ?_⟩, ⟨?_, ?_, ?_, ?_, ?_, ?_⟩, ⟨?_, ?_, ?_, ?_, ?_, ?_⟩⟩
 all_goals constructor <;> simp [a1, a2, a3]
theorem a_ok : AOK a1 ∧ AOK a2 ∧ AOK a3 := by
 refine ⟨.inl ?_, .inr ⟨⟨rfl, rfl⟩, .inr (.inr (.inr (.inl ?_)))⟩, .inr ⟨⟨rfl, rfl⟩, .inr (.inr (.inr (.inr ?_)))⟩⟩
 all_goals simp [a1, a2, a3, R31]
theorem line1 : lineS a1 = [102, 101, 101, 100, 32, 48, 32, 51, 32, 55, 32, 45, 53] := by
 have e0 : itoa 0 = [48] := itoa_one (n := 0) (by decide)
 have e3 : itoa 3 = [51] := itoa_one (n := 3) (by decide)
 have e7 : itoa 7 = [55] := itoa_one (n := 7) (by decide)
 simp [lineS, wordsA, a1, joinW, wordK, e0, e3, e7, itoa_m5]
theorem line2 : lineS a2 = [109, 111, 118, 101, 32, 50, 32, 48, 32, 49, 32, 48] := by
 have e0 : itoa 0 = [48] := itoa_one (n := 0) (by decide)
 have e1 : itoa 1 = [49] := itoa_one (n := 1) (by decide)
 have e2 : itoa 2 = [50] := itoa_one (n := 2) (by decide)
 simp [lineS, wordsA, a2, joinW, wordK, e0, e1, e2]
theorem line3 : lineS a3 = [116, 111, 107, 101, 110] := by simp [lineS, wordsA, a3, joinW, wordK]
theorem rd_hash {ws : List (List UInt8)} (hw : ∀ w ∈ ws, Wd w ∧ w ≠ []) {r : List (List UInt8)} {x : List UInt8} (he : ws = (35 :: x) :: r) : rd (joinW ws) = none := by
 unfold rd
 rw [flds_join (by rw [he]; simp) hw, he]
 simp
theorem rd_x : rd [35, 32, 120] = none := rd_hash (ws := [[35], [120]]) (fun w hw => by
 simp only [List.mem_cons, List.not_mem_nil, or_false] at hw
 rcases hw with rfl | rfl
 all_goals exact ⟨by unfold Wd; decide, by decide⟩) rfl
theorem awake21 : f_backwashlaw21_awake = some true := by
 have hs : sp [102, 101, 101, 100, 32, 48, 32, 51, 32, 55, 32, 45, 53, 10, 35, 32, 120, 10, 116, 111, 107, 101, 110] = [lineS a1, [35, 32, 120], lineS a3] := by rw [line1, line3]; rfl
 unfold f_backwashlaw21_awake
 have h2 : f_script_Show [(⟨5, 2, 0, 1, 0, (⟨0, 0⟩ : GRec)⟩ : GAct)] = some (showR [a2]) := Show_eq (l := [a2]) (by simp [a_in.2.1]) (by simp)
 rw [Parse_eq (by simp), hs, h2]
 have hp : prs [lineS a1, [35, 32, 120], lineS a3] 0 [] = ([a1, a3], 0, 0) := by
  have l1 := lineS_len a_in.1
  have l3 := lineS_len a_in.2.2
  simp only [prs, rd_line a_ok.1 a_in.1, rd_line a_ok.2.2 a_in.2.2, rd_x]
  rw [if_neg (by omega), if_pos trivial, if_neg (by simp), if_neg (by omega), if_pos trivial]
  rfl
 rw [hp]
 have hsh : showR [a2] = ([109, 111, 118, 101, 32, 50, 32, 48, 32, 49, 32, 48, 10], 0) := by
  unfold showR
  rw [if_pos (by simp [a_ok.2.1]), if_neg (by simp)]
  simp [bodyS, line2]
 rw [hsh]
 rfl
theorem AIn_of {a : GAct} (h : Dat.ok a) : AIn a := by
 obtain ⟨_, h1, h2, h3, h4, h5, h6⟩ := h
 exact ⟨inI_i64 h1, inI_i64 h2, inI_i64 h3, inI_i64 h4, inI_i64 h5, inI_i64 h6⟩
theorem showR_cases (l : List GAct) : ((∀ a ∈ l, AOK a) ∧ showR l = if 511 < l.length then ([], 11) else (bodyS l, 0)) ∨ showR l = ([], 1) := by
 by_cases h : ∀ a ∈ l, AOK a
 · exact .inl ⟨h, by unfold showR; rw [if_pos h]⟩
 · exact .inr (by unfold showR; rw [if_neg h])
theorem Back_J1 (text : List UInt8) : f_backwashlaw21_ScriptBack_J1 text = some true := by
 unfold f_backwashlaw21_ScriptBack_J1
 generalize hu : (List.drop (Int.toNat 0) (List.take (Int.toNat (min (List.length text : Int) 4000)) text)) = u
 have hul : u.length < 4294967281 := by rw [← hu, List.length_drop, List.length_take]; omega
 obtain ⟨h1, h2, h3⟩ := prs_ok (sp u) 0 [] (by simp) (by simp) (by omega)
 refine Ok.eq (Ok.bind (Ok.of_eq (Parse_eq hul) ?_))
 generalize prs (sp u) 0 [] = m at h1 h2 h3
 obtain ⟨m, e, at_⟩ := m
 simp only at h1 h2 h3 ⊢
 refine Ok.iteB (fun hc => Ok.some ?_) (fun hc => ?_)
 · rw [h1 (by simpa using hc)]; rfl
 ·
  refine Ok.bind (Ok.of_eq (Show_eq (fun a ha => (h2 a ha).2) (by omega)) ?_)
  rcases showR_cases m with ⟨_, he⟩ | he
  ·
   rw [he]
   split
   ·
    rename_i hl
    refine Ok.bind (Ok.of_eq (Parse_eq (text := []) (by simp)) ?_)
    refine Ok.iteB (fun _ => Ok.some rfl) (fun hc => absurd hc (by simp; omega))
   ·
    rename_i hl
    refine Ok.bind (Ok.of_eq (Parse_back h2 (by omega)) ?_)
    refine Ok.iteB (fun hc => absurd hc (by simp)) (fun _ => Ok.iteB (fun _ => ?_) (fun hc => absurd hc (by simp)))
    exact Ok.bind (Ok.of_eq (Same_eq m m (by omega) rfl) (Ok.some rfl))
  ·
   exfalso
   unfold showR at he
   rw [if_pos fun a ha => (h2 a ha).1] at he
   split at he <;> simp at he
theorem ScriptBack_holds (l : List GAct) (text : List UInt8) (hl : Dat.ok l) : f_backwashlaw21_ScriptBack l text = some true := by
 unfold f_backwashlaw21_ScriptBack
 rw [awake21]
 refine Ok.eq (Ok.bind (Ok.some (Ok.iteB (fun hc => absurd hc (by simp)) (fun _ => Ok.guard (by omega) (Ok.iteB (fun _ => Ok.some rfl) (fun hc => ?_))))))
 simp only [decide_eq_false_iff_not] at hc
 have hi : ∀ a ∈ l, AIn a := fun a ha => AIn_of (hl.2 a ha)
 have hJ : Ok (f_backwashlaw21_ScriptBack_J1 text) (fun r => r = true) := Ok.of_eq (Back_J1 text) rfl
 refine Ok.bind (Ok.of_eq (Show_eq hi (by omega)) ?_)
 refine Ok.iteB (fun h0 => ?_) (fun _ => hJ)
 rcases showR_cases l with ⟨hok, he⟩ | he
 ·
  rw [he] at h0 ⊢
  split
  ·
   rename_i hgt
   rw [if_pos hgt] at h0; exact absurd h0 (by simp)
  ·
   rename_i hgt
   refine Ok.bind (Ok.of_eq (Parse_back (fun a ha => ⟨hok a ha, hi a ha⟩) (by omega)) ?_)
   refine Ok.iteB (fun hc => absurd hc (by simp)) (fun _ => Ok.bind (Ok.of_eq (Same_eq l l (by omega) rfl) ?_))
   exact Ok.iteB (fun hc => absurd hc (by simp)) (fun _ => hJ)
 · rw [he] at h0; exact absurd h0 (by simp)
end Go.Proofs.YtkjinognbjmccaaDoor
