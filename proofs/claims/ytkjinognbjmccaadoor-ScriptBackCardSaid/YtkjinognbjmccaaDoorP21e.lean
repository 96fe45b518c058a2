/-
  The law in plain words: what its plain function gives is true. No condition beyond those that each theorem names.
-/
import Derived.Test.YtkjinognbjmccaaDoorWalkSB0
import Derived.Test.YtkjinognbjmccaaDoorP21d
set_option linter.unusedSimpArgs false
set_option linter.unusedVariables false
set_option linter.unusedSectionVars false
namespace Go.Proofs.YtkjinognbjmccaaDoor
open Go Go.RowKit Go.Lib
set_option maxRecDepth 100000
/-! Acts shown, one by one. -/
def bodyS (l : List GAct) : List UInt8 := l.flatMap fun a => lineS a ++ [10]
open Classical in
noncomputable def showR (l : List GAct) : List UInt8 × Int := if ∀ a ∈ l, AOK a then (if 511 < l.length then ([], 11) else (bodyS l, 0)) else ([], 1)
theorem bodyS_len : ∀ (l : List GAct), (∀ a ∈ l, AIn a) → (bodyS l).length ≤ 101 * l.length
 | [], _ => by simp [bodyS]
 | a :: l, h => by
  have h1 := lineS_len (h a (by simp))
  have h2 := bodyS_len l fun x hx => h x (by simp [hx])
  simp only [bodyS, List.flatMap_cons, List.length_append, List.length_cons, List.length_nil] at h2 ⊢
  omega
theorem bodyS_take {l : List GAct} {i : Nat} (h : i < l.length) : bodyS (l.take (i + 1)) = bodyS (l.take i) ++ (lineS l[i] ++ [10]) := flatMap_take h
theorem showR_bad {l : List GAct} {i : Nat} (h : i < l.length) (hb : ¬ AOK l[i]) : showR l = ([], 1) := by
 unfold showR
 rw [if_neg fun hall => hb (hall _ (List.getElem_mem h))]
theorem Show_eq {l : List GAct} (h : ∀ a ∈ l, AIn a) (hl : l.length ≤ 1000) : f_script_Show l = some (showR l) := by
 refine Ok.eq ?_
 unfold f_script_Show
 refine Ok.each (l := l) (by omega) (fun i s => s = bodyS (l.take i) ∧ ∀ a ∈ l.take i, AOK a) 0 ?_ ?_ ⟨by simp [bodyS], by simp⟩ (Nat.zero_le _)
 ·
  rintro rec i hi s _ ⟨rfl, hs⟩ hr
  unfold f_script_Show_B2
  simp only
  refine Ok.iteB (fun _ => Ok.bind (Ok.idxN hi ?_)) (fun hc => absurd hc (by simp; omega))
  have ha := h _ (List.getElem_mem hi)
  have hlen := lineS_len ha
  refine Ok.bind2 (line_ok ha) fun p hp => ?_
  refine Ok.iteB (fun hc => Ok.some ?_) (fun hc => ?_)
  ·
   have hb : p.2 = false := by simpa using hc
   refine (showR_bad hi fun hok => ?_).symm
   rw [(hp.2 hok).1] at hb; cases hb
  ·
   have hb : p.2 = true := by simpa using hc
   have hok := hp.1 hb
   have hbl := bodyS_len (l.take i) fun a ha => h a (List.mem_of_mem_take ha)
   rw [List.length_take] at hbl
   rw [(hp.2 hok).2]
   refine Ok.guard (by simp only [List.length_cons, List.length_nil]; omega) ?_
   unfold f_strings_Builder_WriteString_p0 bwriteF
   refine Ok.bind (Ok.guard (by simp only [List.length_append, List.length_cons, List.length_nil]; omega) (Ok.some ?_))
   rw [wrapS (by omega)]
   exact hr _ ⟨(bodyS_take hi).symm, (all_take_succ hi).2 ⟨hs, hok⟩⟩
 ·
  rintro rec s ⟨rfl, hs⟩
  unfold f_script_Show_B2
  simp only
  rw [List.take_length] at hs ⊢
  refine Ok.iteB (fun hc => absurd hc (by simp)) (fun _ => ?_)
  unfold f_script_Show_J1 f_strings_Builder_String_p0 bstringF
  unfold showR
  rw [if_pos hs]
  refine Ok.iteB (fun hc => Ok.some ?_) (fun hc => Ok.bind (Ok.some (Ok.some ?_)))
  · rw [if_pos (by simp only [decide_eq_true_eq] at hc; omega)]
  · rw [if_neg (by simp only [decide_eq_false_iff_not] at hc; omega)]
end Go.Proofs.YtkjinognbjmccaaDoor
