/-
  The law in plain words: what its plain function gives is true. No condition beyond those that each theorem names.
-/
import Derived.Test.YtbcbcdbkdljjlaaGreatWalkUT1
import Derived.Test.YtbcbcdbkdljjlaaGreatWalkUT0
import Derived.Test.YtbcbcdbkdljjlaaGreatP18b
set_option linter.unusedSimpArgs false
set_option linter.unusedVariables false
set_option linter.unusedSectionVars false
namespace Go.Proofs.YtbcbcdbkdljjlaaGreat
open Go Go.RowKit BG TS
namespace CE
theorem Short_ok {c : List GSlot} : Ok (q45 c) (fun r => r = true → Sz 40 c) := by
  unfold q45; refine Ok.iteB (fun _ => Ok.some fun h => by cases h) (fun hx => ?_); simp only [decide_eq_false_iff_not] at hx; refine Ok.each1 (l := c) (by omega) (fun i => ∀ s ∈ c.take i, lens 40 s) 0 (fun rec i hi _ hI hr => ?_) (fun rec hI => ?_) (by simp) (Nat.zero_le _)
  · unfold q30
    refine Ok.iteB (fun _ => Ok.bind (Ok.idxN hi (Ok.iteB (fun _ => Ok.some fun h => by cases h) (fun h1 => Ok.iteB (fun _ => Ok.some fun h => by cases h) (fun h2 => Ok.iteB (fun _ => Ok.some fun h => by cases h) (fun h3 => ?_)))))) (fun hx => by simp only [decide_eq_false_iff_not] at hx; omega); simp only [decide_eq_false_iff_not] at h1 h2 h3; rw [wrap_i64 ((i : Int) + 1) (by omega)]; exact hr ((q4s hi).2 ⟨hI, ⟨by omega, by omega, by omega⟩⟩)
  · unfold q30
    refine Ok.iteB (fun hx => by simp only [decide_eq_true_eq] at hx; omega) (fun _ => Ok.some fun _ => ⟨by omega, ?_⟩); rw [List.take_length] at hI; exact hI
theorem qs7 {a : List GItem} (ha : a.length < 1000000000) : q1u a a = some true := by
  obtain ⟨r, h1, h2⟩ := z09 ha ha; rw [h1, h2 rfl]
theorem Same_refl {a : List GSlot} (ha : a.length < 1000000000) (hs : ∀ s ∈ a, lens 100000000 s) : q4k a a = some true := by
  refine Ok.eq ?_; unfold q4k; refine Ok.iteB (fun hx => by simp at hx) (fun _ => ?_); refine Ok.each1 (l := a) (by omega) (fun _ => True) 0 (fun rec i hi _ _ hr => ?_) (fun rec _ => ?_) trivial (Nat.zero_le _)
  · unfold q3i
    obtain ⟨l0, l1, l2⟩ := hs _ (List.getElem_mem hi); refine Ok.iteB (fun _ => Ok.bind (Ok.idxN hi (Ok.bind (Ok.idxN hi (Ok.iteB (fun hx => by simp at hx) (fun _ => ?_)))))) (fun hx => by simp only [decide_eq_false_iff_not] at hx; omega); refine Ok.bind (Ok.of_eq (qs7 (by omega)) (Ok.iteB (fun _ => Ok.bind (Ok.of_eq (qs7 (by omega)) (Ok.iteB (fun _ => Ok.bind (Ok.of_eq (qs7 (by omega)) (Ok.iteB (fun hx => by simp at hx) (fun _ => ?_)))) (fun hx => by cases hx)))) (fun hx => by cases hx))); rw [wrap_i64 ((i : Int) + 1) (by omega)]; exact hr trivial
  · unfold q3i
    exact Ok.iteB (fun hx => by simp only [decide_eq_true_eq] at hx; omega) (fun _ => Ok.some rfl)
theorem tSame_refl {a : List GTime} (ha : a.length < 1000000000) : q2e a a = some true := by
  refine Ok.eq ?_; unfold q2e; refine Ok.iteB (fun hx => by simp at hx) (fun _ => ?_); refine Ok.each1 (l := a) (by omega) (fun _ => True) 0 (fun rec i hi _ _ hr => ?_) (fun rec _ => ?_) trivial (Nat.zero_le _)
  · unfold q3l
    refine Ok.iteB (fun _ => Ok.bind (Ok.idxN hi (Ok.bind (Ok.idxN hi (Ok.iteB (fun hx => by simp at hx) (fun _ => ?_)))))) (fun hx => by simp only [decide_eq_false_iff_not] at hx; omega); rw [wrap_i64 ((i : Int) + 1) (by omega)]; exact hr trivial
  · unfold q3l
    exact Ok.iteB (fun hx => by simp only [decide_eq_true_eq] at hx; omega) (fun _ => Ok.some rfl)
theorem Sp.len {c A B : List GSlot} {t : GTime} {own : GSlot} (h : Sp c t A own B) : A.length + B.length ≤ c.length ∧ c.length ≤ A.length + B.length + 1 := by
  rcases h.at_ with ⟨e, _⟩ | ⟨e, _⟩ <;> (rw [e]; simp; try omega)
theorem Sp.own {c A B : List GSlot} {t : GTime} {own : GSlot} (h : Sp c t A own B) : own = dflt t ∨ own ∈ c := by
  rcases h.at_ with ⟨_, e⟩ | ⟨e, _⟩
  · exact .inl e
  · exact .inr (by rw [e]; simp)
end CE
end Go.Proofs.YtbcbcdbkdljjlaaGreat
