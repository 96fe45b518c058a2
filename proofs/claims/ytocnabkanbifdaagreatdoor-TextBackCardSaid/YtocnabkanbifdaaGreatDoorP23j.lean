/-
  The law in plain words: what its plain function gives is true. No condition beyond those that each theorem names.
-/
import Derived.Test.YtocnabkanbifdaaGreatDoorWalkTB1
import Derived.Test.YtocnabkanbifdaaGreatDoorWalkTB0
import Derived.Test.YtocnabkanbifdaaGreatDoorP23i
set_option linter.unusedSimpArgs false
set_option linter.unusedVariables false
set_option linter.unusedSectionVars false
namespace Go.Proofs.YtocnabkanbifdaaGreatDoor
open Go Go.RowKit Go.Lib
set_option maxRecDepth 100000
set_option linter.unusedVariables false
/-! What the reader of lines does with its words. -/
def fitsR (l : List Int) (rv : GText_reader) : GText_reader := if l.any hi = true then failR rv 2 else rv
theorem fits_eq23 (rv : GText_reader) {l : List Int} (hl : l.length < 9223372036854775808) : f_text_reader_fits_p0_s0_0_s0_1_s0_2_s0_3 rv l = some (fitsR l rv) := by
 have h : f_slices_ContainsFunc_int l (fun x0_ => f_text_reader_fits_1 x0_) = some (l.any hi) := by
  show gContainsFunc _ _ = _
  exact gContainsFunc_eq hl (fun x _ => rfl)
 unfold f_text_reader_fits_p0_s0_0_s0_1_s0_2_s0_3 fitsR
 rw [h]
 refine Ok.eq (Ok.bind (Ok.some (Ok.iteB (fun hx => ?_) (fun hx => ?_))))
 · rw [fail_eq, if_pos hx]; exact Ok.bind (Ok.some (Ok.some rfl))
 · rw [if_neg (by simp [hx])]; exact Ok.some rfl
def roomR (many most : Int) (rv : GText_reader) : GText_reader := if most ≤ many then failR rv 11 else rv
theorem room_eq23 (rv : GText_reader) (many most : Int) : f_text_reader_room_p0_s0_0_s0_1_s0_2_s0_3 rv many most = some (roomR many most rv) := by
 unfold f_text_reader_room_p0_s0_0_s0_1_s0_2_s0_3 roomR
 refine Ok.eq (Ok.iteB (fun hx => ?_) (fun hx => ?_))
 · rw [fail_eq, if_pos (by simpa using hx)]; exact Ok.bind (Ok.some (Ok.some rfl))
 · rw [if_neg (by simpa using hx)]; exact Ok.some rfl
theorem name_spec (rv : GText_reader) {l : List (List UInt8)} {w : List UInt8} (hl : l.length ≤ 100) :
  Ok (f_text_reader_name_p0_s0_0_s0_1_s0_2_s0_3 rv (l.map GStr.mk) w) (fun r => (∃ k : Nat, l[k]? = some w ∧ r = (((k + 1 : Nat) : Int), rv)) ∨ (w ∉ l ∧ r = (0, failR rv 4))) := by
 have hix : Ok (f_slices_Index_string (l.map GStr.mk) w) (fun r => (∃ k : Nat, l[k]? = some w ∧ r = (k : Int)) ∨ (w ∉ l ∧ r = -1)) := by
  unfold f_slices_Index_string
  refine Ok.each1 (l := l) (by omega) (fun i => ∀ x ∈ l.take i, x ≠ w) 0 (fun rec i hi _ hI hr => ?_) (fun rec hI => ?_) (by simp) (by omega)
  ·
   unfold f_slices_Index_string_B1
   simp only [List.length_map]
   rw [if_pos (by simp only [decide_eq_true_eq]; omega)]
   refine Ok.bind (Ok.idxN (by simpa using hi) ?_)
   simp only [List.getElem_map]
   refine Ok.iteB (fun hx => Ok.some (.inl ⟨i, ?_, rfl⟩)) (fun hx => ?_)
   ·
    rw [List.getElem?_eq_getElem hi]
    simp only [beq_iff_eq] at hx
    rw [hx]
   ·
    rw [wrap_succ (by omega)]
    refine hr ((allT (P := fun x => x ≠ w) hi).2 ⟨hI, fun e => ?_⟩)
    rw [e] at hx; simp at hx
  ·
   rw [List.take_length] at hI
   unfold f_slices_Index_string_B1
   simp only [List.length_map]
   rw [if_neg (by simp)]
   exact Ok.some (.inr ⟨fun hm => hI w hm rfl, rfl⟩)
 unfold f_text_reader_name_p0_s0_0_s0_1_s0_2_s0_3
 refine Ok.bind2 hix fun v hv => ?_
 rcases hv with ⟨k, hk, rfl⟩ | ⟨hk, rfl⟩
 ·
  have hkl := (List.getElem?_eq_some_iff.1 hk).1
  refine Ok.iteB (fun hx => absurd hx (by simp)) (fun _ => Ok.some (.inl ⟨k, hk, ?_⟩))
  rw [wrap_succ (by omega)]
 ·
  refine Ok.iteB (fun _ => ?_) (fun hx => absurd hx (by simp))
  rw [fail_eq]
  exact Ok.bind (Ok.some (Ok.some (.inr ⟨hk, rfl⟩)))
end Go.Proofs.YtocnabkanbifdaaGreatDoor
