/-
  The law in plain words: what its plain function gives is true. No condition beyond those that each theorem names.
-/
import Derived.Test.YtfjjpdjnpmajlaaP15h
import Derived.Test.YtfjjpdjnpmajlaaP14b
import Derived.Test.YtfjjpdjnpmajlaaWalkQF0
set_option linter.unusedSimpArgs false
set_option linter.unusedVariables false
namespace Go.Proofs.Ytfjjpdjnpmajlaa
open Go Go.RowKit Go.Sort
namespace QY
def meas (r : GRow) (k : Int) : Int := if k = 0 then r.Many else if k = 1 then r.Least else if k = 2 then r.Top else if r.Sure = true then r.Sum else -9223372036854775808
theorem measured_eq (r : GRow) (k : Int) : f_query_measured r k = some (meas r k) := by
  unfold f_query_measured meas
  simp only [beq_iff_eq]
  split
  · rfl
  split
  · rfl
  split
  · rfl
  cases r.Sure <;> rfl
theorem Measure_eq (r : GRow) (k : Int) : f_backwashref32_Measure r k = some (meas r k) := by
  unfold f_backwashref32_Measure meas
  simp only [beq_iff_eq]
  split
  · rfl
  split
  · rfl
  split
  · rfl
  cases r.Sure <;> rfl
def ltM (k : Int) (a b : GRow) : Bool := decide (meas b k < meas a k ∨ meas b k = meas a k ∧ a.K < b.K)
theorem ltM_iff {k : Int} {a b : GRow} : ltM k a b = true ↔ (meas b k < meas a k ∨ meas b k = meas a k ∧ a.K < b.K) := by simp [ltM]
theorem ltM_not {k : Int} {a b : GRow} : ltM k a b = false ↔ ¬ (meas b k < meas a k ∨ meas b k = meas a k ∧ a.K < b.K) := by simp [ltM]
theorem ltM_swo (k : Int) : SWO (ltM k) := ⟨fun x => by rw [ltM_not]; omega, fun x y z h1 h2 => by rw [ltM_iff] at *; omega, fun x y z h1 h2 => by rw [ltM_not] at *; omega⟩
theorem cmpM_eq (k : Int) (a b : GRow) : ∃ n, f_query_First_1 a b k = some n ∧ (n < 0 ↔ ltM k a b = true) := by
  rw [ltM_iff]
  simp only [f_query_First_1, measured_eq, compL, or2, bindO, Option.bind_some, cmpI]
  by_cases h1 : meas b k < meas a k
  · exact ⟨-1, by simp [h1], by simp [h1]⟩
  by_cases h2 : meas a k < meas b k
  · exact ⟨1, by simp [h1, h2], by simp; omega⟩
  have h3 : meas b k = meas a k := by omega
  by_cases h4 : a.K < b.K
  · exact ⟨-1, by simp [h3, h4], by simp [h3, h4]⟩
  by_cases h5 : b.K < a.K
  · exact ⟨1, by simp [h3, h4, h5], by simp; omega⟩
  · exact ⟨0, by simp [h3, h4, h5], by simp; omega⟩
def badM (measure many : Int) : Prop := measure < 0 ∨ 3 < measure ∨ many < 1
theorem First_ok {rows : List GRow} {measure many : Int} (hl : rows.length ≤ 100) :
    Ok (f_query_First rows measure many) (fun r => (badM measure many ∧ r = []) ∨ (¬ badM measure many ∧ ∃ T : TS, T.Perm rows.zipIdx ∧ Srt (ltM measure) T ∧ r = (T.map Prod.fst).take (min (rows.length : Int) many).toNat)) := by
  unfold f_query_First
  refine Ok.iteB (fun hx => Ok.some (.inl ⟨?_, rfl⟩)) (fun hx => ?_)
  · simp only [Bool.or_eq_true, decide_eq_true_eq] at hx
    unfold badM; omega
  simp only [Bool.or_eq_false_iff, decide_eq_false_iff_not] at hx
  refine Ok.bind (show Ok (f_slices_Clone_Row rows) _ from ?_)
  unfold f_slices_Clone_Row
  refine Ok.guard (by simp; omega) (Ok.some ?_)
  rw [List.nil_append]
  refine Ok.bind ((SortStable_ok (lt := ltM measure) (cmpM_eq measure) (ltM_swo measure) (data := rows) (by omega)).mono fun r hr => ?_)
  obtain ⟨⟨T, rfl, hp, hs⟩, hl'⟩ := hr
  refine Ok.guard hl' (Ok.guard (by rw [hl']; omega) (Ok.some (.inr ⟨by unfold badM; omega, T, hp, hs, ?_⟩)))
  rw [List.drop_zero, hl']
end QY
end Go.Proofs.Ytfjjpdjnpmajlaa

