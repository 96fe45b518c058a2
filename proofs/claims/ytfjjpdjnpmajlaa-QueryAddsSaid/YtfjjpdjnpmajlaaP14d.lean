/-
  The law in plain words: what its plain function gives is true. No condition beyond those that each theorem names.
-/
import Derived.Test.YtfjjpdjnpmajlaaP14b
import Derived.Test.YtfjjpdjnpmajlaaWalkQA0
set_option linter.unusedSimpArgs false
set_option linter.unusedVariables false
namespace Go.Proofs.Ytfjjpdjnpmajlaa
open Go Go.RowKit
namespace QY
theorem total_ok {l : List GOut} {node a b : Int} (hl : l.length ≤ 200) {Q : Int → Prop} (h : Q (recs l node a b).length) : Ok (f_query_Rows l node a b) (fun rs => Ok (f_query_Total rs) Q) := by
  refine Rows_ok hl fun v h1 h2 => ?_
  have hlen := recs_len l node a b
  have hv := h1.length_eq
  refine (rowsOf_ok (by omega)).mono fun rs ⟨e1, e2, e3⟩ => Ok.of_eq (Total_eq rs (by omega)) ?_
  rw [tot_sum rs 0 (by omega) e2 (by omega), e1, hv, Int.zero_add]
  exact h
theorem recs_split (l : List GOut) (node c : Int) (h0 : 0 ≤ c) (h1 : c ≤ 65535) : (recs l node 0 c).length + (recs l node (c + 1) 1048576).length = (recs l node 0 1048576).length := by
  simp only [recs, List.length_map]
  induction l with
  | nil => rfl
  | cons o l ih =>
    simp only [List.filter_cons]
    have e : ∀ a b : Int, hit node a b o = (o.Node == node && (decide (a ≤ o.Epoch) && decide (o.Epoch ≤ b))) := fun a b => by simp [hit, Bool.and_assoc]
    simp only [e]
    by_cases hn : o.Node = node
    · by_cases e1 : 0 ≤ o.Epoch
      · by_cases e2 : o.Epoch ≤ c
        · have : ¬ c + 1 ≤ o.Epoch := by omega
          have : o.Epoch ≤ 1048576 := by omega
          simp [*]; omega
        · by_cases e3 : o.Epoch ≤ 1048576
          · have : c + 1 ≤ o.Epoch := by omega
            simp [*]; omega
          · simp [*]
      · have : ¬ c + 1 ≤ o.Epoch := by omega
        simp [*]
    · simp [hn, ih]
theorem recs_perm {l l' : List GOut} (h : l.Perm l') (node a b : Int) : (recs l node a b).Perm (recs l' node a b) := (h.filter _).map _
theorem QueryAdds_holds (l : List GOut) (node cut : Int) (_ : Dat.ok l) (_ : inI .i64 node) (hcut : inI .u16 cut) : f_backwashlaw32_QueryAdds l node cut = some true := by
  have hc : 0 ≤ cut ∧ cut ≤ 65535 := by
    have h := hcut
    simp only [inI, Lit.wf, IntKind.min, IntKind.max, IntKind.bits, IntKind.signed] at h
    simp at h; omega
  refine Ok.eq ?_
  unfold f_backwashlaw32_QueryAdds
  refine Ok.bind (Ok.of_eq awake_ok (Ok.iteB (fun h => by cases h) (fun _ => Ok.guard (by omega) ?_)))
  generalize hL : List.take (Int.toNat (min (List.length l : Int) 200)) l = L
  have hLl : L.length ≤ 200 := by rw [← hL, List.length_take]; omega
  refine Ok.loop0 (fun s => ∃ i : Nat, s.2 = (i : Int) ∧ i ≤ L.length ∧ s.1 = ((recs (L.take i) node 0 1048576).length : Int)) (fun s => L.length - s.2.toNat) ?_ ⟨0, rfl, Nat.zero_le _, by simp [recs]⟩ (by simp only [rounds]; omega)
  rintro rec ⟨n, t⟩ ⟨i, ht, hi, hn⟩ hr
  simp only at ht hn
  subst ht
  unfold f_backwashlaw32_QueryAdds_B4
  rw [hL]
  simp only
  have hnl : n ≤ 200 := by
    have := recs_len (L.take i) node 0 1048576
    rw [List.length_take] at this; omega
  refine Ok.iteB (fun hx => ?_) (fun hx => ?_)
  · simp only [decide_eq_true_eq] at hx
    have hlt : i < L.length := by omega
    have hstep : ∀ d : Nat, ((if hit node 0 1048576 L[i] then 1 else 0) = d) → (((recs (L.take (i + 1)) node 0 1048576).length : Nat) : Int) = n + d := fun d hd => by
      rw [List.take_succ_eq_append_getElem hlt, hn]
      simp only [recs, List.filter_append, List.map_append, List.length_append, List.length_map, List.filter_cons, List.filter_nil]
      by_cases h : hit node 0 1048576 L[i] = true
      · rw [if_pos h] at hd ⊢; subst hd; simp
      · rw [if_neg h] at hd ⊢; subst hd; simp
    rw [wrap_i64 ((i : Int) + 1) (by omega), wrap_i64 (n + 1) (by omega)]
    have hno : hit node 0 1048576 L[i] = false → Ok (rec (n, (i : Int) + 1)) (fun r => r = true) := fun h =>
      hr _ ⟨i + 1, by simp, by omega, by rw [hstep 0 (by simp [h])]; simp⟩ (by simp only; omega)
    refine Ok.bind (Ok.idxN hlt (Ok.iteB (fun a1 => Ok.iteB (fun a2 => Ok.iteB (fun a3 => ?_) (fun a3 => hno ?_)) (fun a2 => hno ?_)) (fun a1 => hno ?_)))
    · exact hr _ ⟨i + 1, by simp, by omega, by rw [hstep 1 (by simp [hit, a1, a2, a3])]; simp⟩ (by simp only; omega)
    · simp [hit, a3]
    · simp [hit, a2]
    · simp [hit, a1]
  · simp only [decide_eq_false_iff_not] at hx
    have hi' : i = L.length := by omega
    rw [hi', List.take_length] at hn
    unfold f_backwashlaw32_QueryAdds_J1
    rw [hL]
    refine Ok.bind (Rows_ok hLl fun v h1 h2 => ?_)
    have hv := h1.length_eq
    have hrl := recs_len L node 0 1048576
    obtain ⟨rs, hrs, e1, e2, e3⟩ := rowsOf_ok (v := v) (by omega)
    refine Ok.of_eq hrs ?_
    rw [wrap_i64 ((L.length : Int) - 1) (by omega)]
    refine Ok.loop0 (fun s => ∃ k : Nat, s.1 = (k : Int) - 1 ∧ k ≤ L.length ∧ s.2 = (L.drop k).reverse) (fun s => (s.1 + 1).toNat) ?_ ⟨L.length, rfl, Nat.le_refl _, by simp⟩ (by simp only [rounds]; omega)
    rintro rec2 ⟨t, q⟩ ⟨k, ht, hk, hq⟩ hr2
    simp only at ht hq
    subst ht
    unfold f_backwashlaw32_QueryAdds_B3
    rw [hL]
    simp only
    have hql : q.length ≤ 200 := by rw [hq]; simp; omega
    refine Ok.iteB (fun hc2 => ?_) (fun hc2 => ?_)
    · simp only [decide_eq_true_eq] at hc2
      have hk1 : k - 1 < L.length := by omega
      rw [show (k : Int) - 1 = ((k - 1 : Nat) : Int) by omega]
      refine Ok.bind (Ok.idxN hk1 (Ok.guard (by simp; omega) ?_))
      rw [wrap_i64 _ (by omega)]
      refine hr2 _ ⟨k - 1, rfl, by omega, ?_⟩ (by simp only; omega)
      rw [hq, List.drop_eq_getElem_cons hk1, List.reverse_cons, show k - 1 + 1 = k by omega]
    · simp only [decide_eq_false_iff_not] at hc2
      have hk0 : k = 0 := by omega
      subst hk0
      rw [List.drop_zero] at hq
      subst hq
      unfold f_backwashlaw32_QueryAdds_J2
      rw [hL, wrap_i64 cut (by omega), wrap_i64 (cut + 1) (by omega)]
      have ht0 : tot rs 0 = n := by rw [tot_sum rs 0 (by omega) e2 (by omega), e1, hv, hn]; simp
      refine Ok.bind (Ok.of_eq (Total_eq rs (by omega)) (Ok.iteB (fun _ => ?_) (fun h => by rw [ht0] at h; simp at h)))
      have hsp := recs_split L node cut hc.1 hc.2
      refine Ok.bind ((total_ok hLl (Q := fun z => z = ((recs L node 0 cut).length : Int)) rfl).mono fun r1 hr1 => Ok.bind (hr1.mono fun n1 hn1 => ?_))
      refine Ok.bind ((total_ok hLl (Q := fun z => z = ((recs L node (cut + 1) 1048576).length : Int)) rfl).mono fun r2 hr2 => Ok.bind (hr2.mono fun n2 hn2 => ?_))
      rw [wrap_i64 (n1 + n2) (by omega)]
      refine Ok.iteB (fun _ => ?_) (fun h => by simp only [beq_eq_false_iff_ne, ne_eq] at h; omega)
      refine Ok.bind (Rows_ok (by simpa using hLl) fun v' h1' h2' => ?_)
      have hvv : v' = v := sorted_eq ltR_part (h1'.trans ((recs_perm (List.reverse_perm L) node 0 1048576).trans h1.symm)) h2' h2
      rw [hvv]
      exact Ok.of_eq hrs (Ok.bind (Ok.of_eq (same_refl rs (by omega)) (Ok.some rfl)))
end QY
end Go.Proofs.Ytfjjpdjnpmajlaa

