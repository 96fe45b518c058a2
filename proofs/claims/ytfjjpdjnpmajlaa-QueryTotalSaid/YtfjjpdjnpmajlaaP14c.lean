/-
  The law in plain words: what its plain function gives is true. No condition beyond those that each theorem names.
-/
import Derived.Test.YtfjjpdjnpmajlaaP14b
import Derived.Test.YtfjjpdjnpmajlaaWalkQT0
set_option linter.unusedSimpArgs false
set_option linter.unusedVariables false
namespace Go.Proofs.Ytfjjpdjnpmajlaa
open Go Go.RowKit
namespace QY
theorem QueryTotal_holds (rows : List GRow) (_ : Dat.ok rows) : f_backwashlaw32_QueryTotal rows = some true := by
  refine Ok.eq ?_
  unfold f_backwashlaw32_QueryTotal
  refine Ok.bind (Ok.of_eq awake_ok (Ok.iteB (fun h => by cases h) (fun _ => Ok.guard (by omega) ?_)))
  generalize hL : List.take (Int.toNat (min (List.length rows : Int) 100)) rows = L
  have hLl : L.length ≤ 100 := by rw [← hL, List.length_take]; omega
  have hJ : ∀ n, 4611686018427387904 - n = tot L 0 → 0 ≤ n → n ≤ 4611686018427387904 → Ok (f_backwashlaw32_QueryTotal_J1 rows n) (fun r => r = true) := fun n h h0 h1 => by
    unfold f_backwashlaw32_QueryTotal_J1
    rw [hL]
    refine Ok.bind (Ok.of_eq (Total_eq L (by omega)) (Ok.some ?_))
    rw [wrap_i64 _ (by omega), h]; simp
  refine Ok.loop0 (fun s => ∃ i : Nat, s.2 = (i : Int) ∧ i ≤ L.length ∧ 0 ≤ s.1 ∧ s.1 ≤ 4611686018427387904 ∧ tot (L.drop i) (4611686018427387904 - s.1) = tot L 0) (fun s => L.length - s.2.toNat) ?_ ⟨0, rfl, Nat.zero_le _, by simp, by simp, by simp⟩ (by simp only [rounds]; omega)
  rintro rec ⟨n, t⟩ ⟨i, ht, hi, h0, h1, h2⟩ hr
  simp only at ht h0 h1 h2
  subst ht
  unfold f_backwashlaw32_QueryTotal_B2
  rw [hL]
  simp only
  refine Ok.iteB (fun hc => ?_) (fun hc => ?_)
  · simp only [decide_eq_true_eq] at hc
    have hlt : i < L.length := by omega
    rw [List.drop_eq_getElem_cons hlt, tot] at h2
    refine Ok.bind (Ok.idxN hlt (Ok.iteB (fun hx => ?_) (fun hx => ?_)))
    · simp only [decide_eq_true_eq] at hx
      rw [if_pos (by omega)] at h2
      exact hJ 0 (by omega) (by omega) (by omega)
    · simp only [decide_eq_false_iff_not] at hx
      rw [if_neg (by omega)] at h2
      rw [wrap_i64 (n - max L[i].Many 0) (by omega), wrap_i64 ((i : Int) + 1) (by omega)]
      refine hr _ ⟨i + 1, by simp, by omega, by simp only; omega, by simp only; omega, ?_⟩ (by simp only; omega)
      rw [← h2]
      congr 1
      simp only; omega
  · simp only [decide_eq_false_iff_not] at hc
    rw [List.drop_of_length_le (by omega), tot] at h2
    exact hJ n h2 h0 h1
end QY
end Go.Proofs.Ytfjjpdjnpmajlaa

