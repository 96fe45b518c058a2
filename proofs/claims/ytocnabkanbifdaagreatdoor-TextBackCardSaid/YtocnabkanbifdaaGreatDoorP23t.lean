/-
  The law in plain words: what its plain function gives is true. No condition beyond those that each theorem names.
-/
import Derived.Test.YtocnabkanbifdaaGreatDoorWalkTB0
import Derived.Test.YtocnabkanbifdaaGreatDoorP23s
set_option linter.unusedSimpArgs false
set_option linter.unusedVariables false
set_option linter.unusedSectionVars false
namespace Go.Proofs.YtocnabkanbifdaaGreatDoor
open Go Go.RowKit Go.Lib
set_option maxRecDepth 100000
set_option linter.unusedVariables false
/-! Shown and read again. -/
theorem kindsL_21 : ∀ w ∈ kindsL, Wd w ∧ w ≠ [] ∧ w.length ≤ 21 := by unfold Wd; decide +kernel
theorem codesL_21 : ∀ w ∈ codesL, Wd w ∧ w ≠ [] ∧ w.length ≤ 21 := by unfold Wd; decide +kernel
theorem itoa_21 {n : Int} (h : In n) : Wd (itoa n) ∧ itoa n ≠ [] ∧ (itoa n).length ≤ 21 :=
 ⟨itoa_wd n, fun e => by have := (itoa_len h).1; rw [e] at this; simp at this, (itoa_len h).2⟩
theorem w21 {l : List UInt8} (h : l.all (fun c => decide (32 < c.toNat ∧ c.toNat < 128)) = true) (h1 : l ≠ []) (h2 : l.length ≤ 21) : Wd l ∧ l ≠ [] ∧ l.length ≤ 21 :=
 ⟨fun c hc => by simpa using List.all_eq_true.1 h c hc, h1, h2⟩
theorem okW_lines {g : GGraph} (h : goodP g) : ∀ ws ∈ linesG g, okW ws := by
 obtain ⟨⟨⟨⟨ps, bs, hP, hB, hl, hl7, hps, hbs⟩, hN, hE, hNl, hEl⟩, hK⟩, ha⟩ := h
 intro ws hws
 unfold linesG at hws
 rw [hP, hB] at hws
 simp only [List.tail_cons, List.mem_append, List.mem_map, List.mem_flatMap, List.mem_cons] at hws
 rcases hws with (⟨p, hp, rfl⟩ | ⟨x, hx, rfl | ⟨y, hy, rfl⟩⟩) | ⟨e, he, rfl⟩
 ·
  have i1 := itoa_21 (low_In (hps _ (List.of_mem_zip hp).1))
  have i2 := itoa_21 (low_In (hbs _ (List.of_mem_zip hp).2))
  refine ⟨by simp [scopeL], by simp [scopeL], ?_, 115, _, _, rfl, by decide⟩
  intro w hw
  simp only [scopeL, List.mem_cons, List.not_mem_nil, or_false] at hw
  rcases hw with rfl | rfl | rfl
  · exact w21 (by decide) (by decide) (by decide)
  · exact i1
  · exact i2
 ·
  have hk := (hK x hx).1
  have i1 := itoa_21 (low_In (hNl x hx).2.1)
  have i2 := itoa_21 (ha x hx).1
  have i3 := kindsL_21 _ (nmOf_mem (l := kindsL) hk.1 hk.2)
  refine ⟨by simp [nodeL], by simp [nodeL], ?_, 110, _, _, rfl, by decide⟩
  intro w hw
  simp only [nodeL, List.mem_cons, List.not_mem_nil, or_false] at hw
  rcases hw with rfl | rfl | rfl | rfl
  · exact w21 (by decide) (by decide) (by decide)
  · exact i3
  · exact i1
  · exact i2
 ·
  have hk := (hK x hx).2 y hy
  have i1 := itoa_21 ((ha x hx).2 y hy)
  have i3 := codesL_21 _ (nmOf_mem (l := codesL) hk.1 hk.2)
  refine ⟨by simp [insL], by simp [insL], ?_, 105, _, _, rfl, by decide⟩
  intro w hw
  simp only [insL, List.mem_cons, List.not_mem_nil, or_false] at hw
  rcases hw with rfl | rfl | rfl
  · exact w21 (by decide) (by decide) (by decide)
  · exact i3
  · exact i1
 ·
  have hl := hEl e he
  have i1 := itoa_21 (low_In hl.1)
  have i2 := itoa_21 (low_In hl.2.1)
  have i3 := itoa_21 (low_In hl.2.2)
  refine ⟨by simp [edgeL], by simp [edgeL], ?_, 101, _, _, rfl, by decide⟩
  intro w hw
  simp only [edgeL, List.mem_cons, List.not_mem_nil, or_false] at hw
  rcases hw with rfl | rfl | rfl | rfl | rfl
  · exact w21 (by decide) (by decide) (by decide)
  · exact i1
  · exact i2
  · exact i3
  ·
   split
   · exact w21 (by decide) (by decide) (by decide)
   · exact w21 (by decide) (by decide) (by decide)
end Go.Proofs.YtocnabkanbifdaaGreatDoor
