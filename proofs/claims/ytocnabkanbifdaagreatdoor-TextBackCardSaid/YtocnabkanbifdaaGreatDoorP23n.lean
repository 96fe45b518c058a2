/-
  The law in plain words: what its plain function gives is true. No condition beyond those that each theorem names.
-/
import Derived.Test.YtocnabkanbifdaaGreatDoorWalkTB1
import Derived.Test.YtocnabkanbifdaaGreatDoorP23m
set_option linter.unusedSimpArgs false
set_option linter.unusedVariables false
set_option linter.unusedSectionVars false
namespace Go.Proofs.YtocnabkanbifdaaGreatDoor
open Go Go.RowKit Go.Lib
set_option maxRecDepth 100000
set_option linter.unusedVariables false
/-! Any text read. -/
theorem line_good {rv : GText_reader} (hg : goodP rv.g) {w : List GStr} (h0 : w ≠ []) (hw : ∀ s ∈ w, s.s.length ≤ 1000000) (hl : w.length ≤ 1000000) : Ok (f_text_reader_line_p0_s0_0_s0_1_s0_2_s0_3 rv w) (fun r => r.e = 0 → goodP r.g) := by
 unfold f_text_reader_line_p0_s0_0_s0_1_s0_2_s0_3
 have hpos : 0 < w.length := List.length_pos_iff.2 h0
 have h3 : w.length = 3 → ∃ a b c, w = [a, b, c] := fun h => by
  match w, h with
  | [a, b, c], _ => exact ⟨a, b, c, rfl⟩
 have h4 : w.length = 4 → ∃ a b c d, w = [a, b, c, d] := fun h => by
  match w, h with
  | [a, b, c, d], _ => exact ⟨a, b, c, d, rfl⟩
 have h5 : w.length = 5 → ∃ a b c d e, w = [a, b, c, d, e] := fun h => by
  match w, h with
  | [a, b, c, d, e], _ => exact ⟨a, b, c, d, e, rfl⟩
 refine Ok.bind (Ok.idxN (i := 0) hpos ?_)
 refine Ok.iteB (fun hc => ?_) (fun _ => Ok.iteB (fun hc => ?_) (fun _ => Ok.iteB (fun hc => ?_) (fun _ => Ok.iteB (fun hc => ?_) (fun _ => ?_))))
 ·
  simp only [Bool.and_eq_true, beq_iff_eq] at hc
  obtain ⟨a, b, c, rfl⟩ := h3 (by omega)
  refine Ok.guard (by simp) ?_
  exact Ok.bind ((scope_good hg (hw b (by simp)) (hw c (by simp))).mono fun r hr => Ok.some hr)
 ·
  simp only [Bool.and_eq_true, beq_iff_eq] at hc
  obtain ⟨a, b, c, d, rfl⟩ := h4 (by omega)
  refine Ok.guard (by simp) ?_
  exact Ok.bind ((node_good hg (hw c (by simp)) (hw d (by simp))).mono fun r hr => Ok.some hr)
 ·
  simp only [Bool.and_eq_true, beq_iff_eq] at hc
  obtain ⟨a, b, c, rfl⟩ := h3 (by omega)
  refine Ok.guard (by simp) ?_
  exact Ok.bind ((ins_good hg (hw c (by simp))).mono fun r hr => Ok.some hr)
 ·
  simp only [Bool.and_eq_true, beq_iff_eq] at hc
  obtain ⟨a, b, c, d, e, rfl⟩ := h5 (by omega)
  refine Ok.guard (by simp) ?_
  exact Ok.bind ((edge_good hg (hw b (by simp)) (hw c (by simp)) (hw d (by simp))).mono fun r hr => Ok.some hr)
 ·
  rw [fail_eq]
  exact Ok.bind (Ok.some (Ok.some fun he => absurd he (failR_e (by decide))))
theorem good0 : goodP ⟨[-1], [0], [], []⟩ := ⟨⟨⟨⟨[], [], rfl, rfl, rfl, by simp, by simp, by simp⟩, by simp, by simp, by simp, by simp⟩, by simp⟩, fun x hx => by simp at hx⟩
theorem sp_len : ∀ (l : List UInt8), (sp l).length ≤ l.length + 1 := by
 intro l
 induction l with
 | nil => simp [sp]
 | cons c l ih =>
  by_cases hc : c = 10
  · subst hc; rw [sp_nl]; simp; omega
  ·
   have := sp_ne l
   unfold sp
   rw [if_neg hc]
   cases h : sp l with
   | nil => exact absurd h this
   | cons a r => rw [h] at ih; simp at ih ⊢; omega
theorem Parse_good {t : List UInt8} (ht : t.length ≤ 100000000) : Ok (f_text_Parse t) (fun r => (r.2.1 ≠ 0 → r.1.Parent = []) ∧ (r.2.1 = 0 → goodP r.1)) := by
 unfold f_text_Parse
 refine Ok.bind (Ok.of_eq (split_eq (by omega)) ?_)
 have hsl := sp_len t
 refine Ok.each (l := (sp t).map GStr.mk) (by rw [List.length_map]; omega) (fun i q => q.1 = 0 ∧ goodP ⟨q.2.1, q.2.2.1, q.2.2.2.1, q.2.2.2.2⟩) 0 (fun rec i hi q _ hI hr => ?_) (fun rec q hI => ?_) ⟨rfl, good0⟩ (by omega)
 ·
  obtain ⟨b, a4, a5, a6, a7⟩ := q
  obtain ⟨h1, h2⟩ := hI
  simp only at h1 h2
  subst h1
  rw [List.length_map] at hi
  unfold f_text_Parse_B1
  simp only [List.length_map]
  rw [if_pos (by simp only [decide_eq_true_eq]; omega)]
  refine Ok.bind (Ok.idxN (by simpa using hi) ?_)
  refine Ok.iteB (fun _ => Ok.some ⟨fun _ => rfl, fun h => by simp at h⟩) (fun hc => ?_)
  simp only [Bool.or_eq_false_iff, decide_eq_false_iff_not] at hc
  have hs : (((sp t).map GStr.mk)[i]'(by simpa using hi)).s.length ≤ 256 := by omega
  generalize ((sp t).map GStr.mk)[i]'(by simpa using hi) = x at hs ⊢
  have hfl := flds_ok x.s
  refine Ok.bind (Ok.of_eq (fieldsT_eq (by omega)) ?_)
  rw [wrap_succ (by omega)]
  refine Ok.iteB (fun _ => hr _ ⟨rfl, h2⟩) (fun hne => ?_)
  have hne' : flds x.s ≠ [] := fun e => by rw [e] at hne; simp at hne
  have hp0 : 0 < (flds x.s).length := List.length_pos_iff.2 hne'
  refine Ok.bind (Ok.idxN (i := 0) hp0 ?_)
  have hw0 := hfl.1 _ (List.getElem_mem hp0)
  refine Ok.bind (Ok.idxN (i := 0) (by omega) ?_)
  refine Ok.iteB (fun _ => hr _ ⟨rfl, h2⟩) (fun _ => ?_)
  refine Ok.bind2 (line_good (rv := ⟨⟨a4, a5, a6, a7⟩, 0⟩) h2 hne' (fun s hs' => by have := (hfl.1 s hs').2; omega) (by have := hfl.2; omega)) fun r hr' => ?_
  refine Ok.iteB (fun hx => Ok.some ⟨fun _ => rfl, fun h => ?_⟩) (fun hx => ?_)
  · simp only at h; rw [h] at hx; simp at hx
  ·
   have he : r.e = 0 := by simpa using hx
   exact hr (r.e, r.g.Parent, r.g.Bound, r.g.Nodes, r.g.Edges) ⟨he, hr' he⟩
 ·
  obtain ⟨b, a4, a5, a6, a7⟩ := q
  unfold f_text_Parse_B1
  simp only [List.length_map]
  rw [if_neg (by simp)]
  exact Ok.some ⟨fun h => absurd rfl h, fun _ => hI.2⟩
end Go.Proofs.YtocnabkanbifdaaGreatDoor
