/-
  The law in plain words: what its plain function gives is true. No condition beyond those that each theorem names.
-/
import Derived.Test.YthpahhhdapdcpaaP17e
set_option linter.unusedSimpArgs false
set_option linter.unusedVariables false
namespace Go.Proofs.Ythpahhhdapdcpaa
open Go Go.RowKit
namespace QY
/-! Epochs, and the whole. -/
theorem compact_once {v : List Int} (hs : v.Pairwise (· ≤ ·)) : Once v (Lib.compact v) := by
  have hs' := List.pairwise_iff_getElem.1 hs
  have hget : ∀ j, j < v.length → v.toArray[j]! = v.getD j 0 := fun j hj => by
    rw [getElem!_pos v.toArray j (by simpa using hj)]; simp [List.getD_eq_getElem?_getD, hj]
  have key : ∀ m, m ≤ v.length → (Lib.compactUpTo v.toArray m).Pairwise (· < ·) ∧ ∀ x, x ∈ Lib.compactUpTo v.toArray m ↔ x ∈ v.take m := by
    intro m
    induction m with
    | zero => intro _; simp [Lib.compactUpTo]
    | succ m ih =>
      intro hm
      obtain ⟨h1, h2⟩ := ih (by omega)
      have hlt : m < v.length := by omega
      have hdm : v.toArray[m]! = v[m] := by rw [getElem!_pos v.toArray m (by simpa using hlt)]; simp
      rw [Lib.compactUpTo_succ, List.take_succ_eq_append_getElem hlt]
      by_cases hk : Lib.keeps v.toArray m = true
      · rw [if_pos hk, hdm]
        refine ⟨?_, fun x => by simp only [List.mem_append, h2]⟩
        rw [List.pairwise_append]
        refine ⟨h1, by simp, fun x hx y hy => ?_⟩
        rw [List.mem_singleton] at hy
        subst hy
        obtain ⟨j, hj, rfl⟩ := List.mem_iff_getElem.1 ((h2 x).1 hx)
        rw [List.length_take] at hj
        rw [List.getElem_take]
        have hm0 : m ≠ 0 := by omega
        have hne : v[m] ≠ v[m - 1] := fun e => by
          have hd1 : v.toArray[m - 1]! = v[m - 1] := by rw [getElem!_pos v.toArray (m - 1) (by simp; omega)]; simp
          have := Lib.keeps_neg (d := v.toArray) (m := m) (by omega) (by rw [hdm, hd1, e])
          rw [this] at hk; cases hk
        have e1 := hs' (m - 1) m (by omega) hlt (by omega)
        rcases Nat.lt_or_ge j (m - 1) with h | h
        · have e2 := hs' j (m - 1) (by omega) (by omega) h
          omega
        · have : j = m - 1 := by omega
          subst this; omega
      · rw [if_neg hk, List.append_nil]
        refine ⟨h1, fun x => ?_⟩
        rw [h2, List.mem_append]
        refine ⟨.inl, fun h => h.elim id fun hx => ?_⟩
        rw [List.mem_singleton] at hx
        have hm0 : m ≠ 0 := fun e => by subst e; exact hk (Lib.keeps_lt_one _ 0 (by omega))
        have he : v[m] = v[m - 1] := by
          refine Decidable.byContradiction fun e => hk (Lib.keeps_pos ?_)
          rw [hdm, getElem!_pos v.toArray (m - 1) (by simp; omega)]; simpa using e
        rw [hx, he]
        exact List.mem_iff_getElem.2 ⟨m - 1, by rw [List.length_take]; omega, by simp⟩
  have := key v.length (Nat.le_refl _)
  rw [List.take_length] at this
  have e : Lib.compactUpTo v.toArray v.length = Lib.compact v := rfl
  rw [e] at this
  exact ⟨this.1, this.2⟩
def eps (l : List GOut) (node : Int) : List Int := (l.filter (fun o => o.Node == node)).map (·.Epoch)
theorem eps_len (l : List GOut) (node : Int) : (eps l node).length ≤ l.length := by
  simp only [eps, List.length_map]; exact List.length_filter_le _ _
theorem eps_take {l : List GOut} {i : Nat} (h : i < l.length) (node : Int) : eps (l.take (i + 1)) node = eps (l.take i) node ++ if (l[i].Node == node) = true then [l[i].Epoch] else [] := by
  rw [List.take_succ_eq_append_getElem h]
  unfold eps
  rw [List.filter_append, List.map_append, List.filter_cons]
  split <;> rfl
theorem Epochs_ok {l : List GOut} {node : Int} (hl : l.length ≤ 200) : Ok (f_query_Epochs l node) (fun es => Once (eps l node) es) := by
  unfold f_query_Epochs
  refine Ok.each (l := l) (by omega) (fun i s => s = eps (l.take i) node) 0 (fun rec i hi s _ hs hr => ?_) (fun rec s hs => ?_) (by simp [eps]) (Nat.zero_le _)
  · have hlen : s.length ≤ 200 := by
      have := eps_len (l.take i) node
      rw [← hs, List.length_take] at this; omega
    unfold f_query_Epochs_B2
    simp only
    refine Ok.iteB (fun _ => Ok.bind (Ok.idxN hi ?_)) (fun hx => by simp only [decide_eq_false_iff_not] at hx; omega)
    rw [wrap_i64 ((i : Int) + 1) (by omega)]
    refine Ok.iteB (fun hx => Ok.guard (by simp; omega) ?_) (fun hx => ?_)
    · exact hr _ (by rw [eps_take hi, if_pos hx, hs])
    · exact hr _ (by rw [eps_take hi, if_neg (by rw [hx]; simp), hs, List.append_nil])
  · rw [List.take_length] at hs
    subst hs
    unfold f_query_Epochs_B2
    simp only
    refine Ok.iteB (fun hx => by simp only [decide_eq_true_eq] at hx; omega) (fun _ => ?_)
    unfold f_query_Epochs_J1 f_slices_Sort_int_s0_0 f_slices_Compact_int_s0_0 sortI compactI
    have hlen := eps_len l node
    refine Ok.bind (Ok.guard (by omega) (Ok.some (Ok.guard (by simp) (Ok.bind (Ok.guard (by simp; omega) (Ok.some (Ok.some ?_)))))))
    have hp := List.mergeSort_perm (eps l node) (fun x y => decide (x ≤ y))
    have hso : ((eps l node).mergeSort (fun x y => decide (x ≤ y))).Pairwise (· ≤ ·) :=
      (List.pairwise_mergeSort (le := fun x y : Int => decide (x ≤ y)) (fun a b c => by simp only [decide_eq_true_eq]; omega) (fun a b => by simp only [Bool.or_eq_true, decide_eq_true_eq]; omega) (eps l node)).imp (by simp)
    have := compact_once hso
    exact ⟨this.inc, fun x => (this.mem x).trans hp.mem_iff⟩
theorem Epochs_ref {l : List GOut} {node : Int} (hl : l.length ≤ 200) : Ok (f_backwashref32_Epochs l node) (fun es => Once (eps l node) es ∧ es.length ≤ l.length) := by
  unfold f_backwashref32_Epochs
  refine Ok.each (l := l) (by omega) (fun i s => Once (eps (l.take i) node) s ∧ s.length ≤ i) 0 (fun rec i hi s _ hs hr => ?_) (fun rec s hs => ?_) ⟨⟨by simp, by simp [eps]⟩, by simp⟩ (Nat.zero_le _)
  · obtain ⟨h1, h4⟩ := hs
    unfold f_backwashref32_Epochs_B1
    simp only
    refine Ok.iteB (fun _ => Ok.bind (Ok.idxN hi ?_)) (fun hx => by simp only [decide_eq_false_iff_not] at hx; omega)
    rw [wrap_i64 ((i : Int) + 1) (by omega)]
    refine Ok.iteB (fun hx => hr _ ⟨?_, by omega⟩) (fun hx => ?_)
    · rw [eps_take hi, if_neg (by simpa using hx), List.append_nil]; exact h1
    · have hh : (l[i].Node == node) = true := by simpa using hx
      refine kn_ok (a := s) (p := fun x => x == l[i].Epoch) (fin := f_backwashref32_Epochs_J2 (i : Int) s rec l[i]) (by omega) ?_
      unfold f_backwashref32_Epochs_J2
      refine Ok.iteB (fun hk => ?_) (fun hk => ?_)
      · have hk0 : ∀ x ∈ s, ¬ x = l[i].Epoch := by simpa using hk
        have hk' : l[i].Epoch ∉ s := fun h => hk0 _ h rfl
        refine Ok.guard (by simp; omega) ?_
        rw [show IntKind.i64.wrap ((List.length (s ++ ([l[i].Epoch] : List Int)) : Int) - 1) = (s.length : Int) by rw [wrap_i64 _ (by simp; omega)]; simp]
        refine bub_ok (key := fun x : Int => x) (fin := fun x => rec (IntKind.i64.wrap ((i : Int) + 1), x)) (A := s) (x := l[i].Epoch) (by omega) h1.inc (fun p hp e => hk' (by rw [← e]; exact hp)) fun A' B' e hp => ?_
        rw [wrap_i64 ((i : Int) + 1) (by omega)]
        refine hr _ ⟨⟨hp, fun x => ?_⟩, ?_⟩
        · rw [eps_take hi, if_pos hh, mem_mid e, h1.mem, List.mem_append, List.mem_singleton]
          exact ⟨fun h => h.symm, fun h => h.symm⟩
        · have := congrArg List.length e
          simp only [List.length_append, List.length_cons] at this ⊢; omega
      · have hk' : l[i].Epoch ∈ s := by
          have : ∃ x ∈ s, x = l[i].Epoch := by simpa using hk
          obtain ⟨x, hx1, rfl⟩ := this; exact hx1
        rw [wrap_i64 ((i : Int) + 1) (by omega)]
        refine hr _ ⟨⟨h1.inc, fun x => ?_⟩, by omega⟩
        rw [eps_take hi, if_pos hh, List.mem_append, List.mem_singleton, h1.mem]
        exact ⟨.inl, fun h => h.elim id fun e => by rw [e]; exact (h1.mem _).1 hk'⟩
  · obtain ⟨h1, h4⟩ := hs
    unfold f_backwashref32_Epochs_B1
    simp only
    refine Ok.iteB (fun hx => by simp only [decide_eq_true_eq] at hx; omega) (fun _ => Ok.some ⟨?_, h4⟩)
    rw [List.take_length] at h1; exact h1
end QY
end Go.Proofs.Ythpahhhdapdcpaa

