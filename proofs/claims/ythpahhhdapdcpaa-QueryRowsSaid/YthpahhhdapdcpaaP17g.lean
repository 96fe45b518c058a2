/-
  The law in plain words: what its plain function gives is true. No condition beyond those that each theorem names.
-/
import Derived.Test.YthpahhhdapdcpaaP17f
import Derived.Test.YthpahhhdapdcpaaP14b
set_option linter.unusedSimpArgs false
set_option linter.unusedVariables false
namespace Go.Proofs.Ythpahhhdapdcpaa
open Go Go.RowKit
namespace QY
theorem recs_fits {l : List GOut} (h : ∀ o ∈ l, fits o.Rec.V) {node a b : Int} : ∀ x ∈ recs l node a b, fits x.V := by
  intro x hx
  obtain ⟨o, ho, rfl⟩ := List.mem_map.1 hx
  exact h o (List.mem_filter.1 ho).1
theorem QueryRows_holds (l : List GOut) (node fromv tov : Int) (hd : Dat.ok l) (_ : inI .i64 node) (_ : inI .i64 fromv) (_ : inI .i64 tov) : f_backwashlaw32_QueryRows l node fromv tov = some true := by
  refine Ok.eq ?_
  unfold f_backwashlaw32_QueryRows
  refine Ok.bind (Ok.of_eq awake_ok (Ok.iteB (fun h => by cases h) (fun _ => Ok.guard (by omega) ?_)))
  have hfl : ∀ o ∈ l, fits o.Rec.V := fun o ho => by
    have h := hd.2 o ho
    have h2 := h.2.2.2
    simp only [Dat.ok, inI, Lit.wf, IntKind.min, IntKind.max, IntKind.bits, IntKind.signed] at h2
    unfold fits
    simp at h2; omega
  generalize hL : List.take (Int.toNat (min (List.length l : Int) 200)) l = L
  have hLl : L.length ≤ 200 := by rw [← hL, List.length_take]; omega
  have hfL : ∀ o ∈ L, fits o.Rec.V := fun o ho => hfl o (by rw [← hL] at ho; exact List.mem_of_mem_take ho)
  refine Ok.bind2 (Epochs_ok hLl) fun es he => Ok.bind2 (Epochs_ref hLl) fun es' he' => ?_
  obtain rfl := he.unique he'.1
  refine Ok.iteB (fun _ => ?_) (fun hx => by simp at hx)
  refine Ok.bind (Rows_ok hLl fun v h1 h2 => ?_)
  have hrl := recs_len L node fromv tov
  have hvl := h1.length_eq
  refine (rowsOf_right (v := v) (by omega) (fun x hx => recs_fits hfL x (h1.mem_iff.1 hx)) h2).mono fun rs hrs => Ok.bind2 (Rows_ref hLl hfL) fun rs' hrs' => ?_
  obtain rfl := (hrs.1.perm h1).unique hrs'.1
  refine Ok.bind (Ok.of_eq (same_refl rs (by omega)) (Ok.iteB (fun h => by cases h) (fun _ => ?_)))
  have hel := he'.2
  refine Ok.each1 (l := es) (by omega) (fun _ => True) 0 (fun rec i hi _ _ hr => ?_) (fun rec _ => ?_) trivial (Nat.zero_le _)
  · unfold f_backwashlaw32_QueryRows_B1
    refine Ok.iteB (fun _ => Ok.bind (Ok.idxN hi (Ok.bind (Ok.idxN hi (Ok.iteB (fun hx => by simp at hx) (fun _ => ?_)))))) (fun hx => by simp only [decide_eq_false_iff_not] at hx; omega)
    rw [wrap_i64 ((i : Int) + 1) (by omega)]
    exact hr trivial
  · unfold f_backwashlaw32_QueryRows_B1
    exact Ok.iteB (fun hx => by simp only [decide_eq_true_eq] at hx; omega) (fun _ => Ok.some rfl)
end QY
end Go.Proofs.Ythpahhhdapdcpaa

