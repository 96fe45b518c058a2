/-
  The law in plain words: what its plain function gives is true. No condition beyond those that each theorem names.
-/
import Derived.Test.YthpahhhdapdcpaaP17b
set_option linter.unusedSimpArgs false
set_option linter.unusedVariables false
namespace Go.Proofs.Ythpahhhdapdcpaa
open Go Go.RowKit
namespace QY
/-! The rows that are made of a sorted list. -/
theorem vals_len (R : List GRec) (k : Int) : (vals R k).length ≤ R.length := by
  simp only [vals, List.length_map]; exact List.length_filter_le _ _
theorem vals_in {R : List GRec} {x : GRec} (h : x ∈ R) : x.V ∈ vals R x.K := by
  unfold vals
  exact List.mem_map.2 ⟨x, List.mem_filter.2 ⟨h, by simp⟩, rfl⟩
theorem vals_mem {R : List GRec} {k v : Int} (h : v ∈ vals R k) : ∃ x ∈ R, x.V = v := by
  unfold vals at h
  obtain ⟨x, hx, rfl⟩ := List.mem_map.1 h
  exact ⟨x, (List.mem_filter.1 hx).1, rfl⟩
theorem take_split {α : Type} (v : List α) {i k : Nat} (h : i ≤ k) : v.take k = v.take i ++ (v.take k).drop i := by
  conv => lhs; rw [← List.take_append_drop i (v.take k)]
  rw [List.take_take, Nat.min_eq_left h]
theorem rowsOf_right {v : List GRec} (hv : v.length ≤ 200) (hf : ∀ x ∈ v, fits x.V) (hs : v.Pairwise (fun x y => ltR y x = false)) : Ok (rowsOf v) (fun rs => Right v rs ∧ rs.length ≤ v.length) := by
  have hK : v.Pairwise (fun x y => x.K ≤ y.K) := hs.imp fun {x y} h => by rw [ltR_not] at h; omega
  rw [List.pairwise_iff_getElem] at hK
  unfold rowsOf
  refine Ok.loop0 (fun s => ∃ i : Nat, s.1 = (i : Int) ∧ i ≤ v.length ∧ Right (v.take i) s.2 ∧ (∀ r ∈ s.2, ∀ x ∈ v.drop i, r.K < x.K) ∧ s.2.length ≤ i) (fun s => v.length - s.1.toNat) ?_ ⟨0, rfl, Nat.zero_le _, ⟨by simp, by simp, by simp⟩, by simp, by simp⟩ (by simp only [rounds]; omega)
  rintro rec ⟨t, a⟩ ⟨i, ht, hi, hR, hsep, hlen⟩ hr
  simp only at ht hR hsep hlen
  subst ht
  unfold f_query_Rows_B2
  simp only
  refine Ok.iteB (fun hc => ?_) (fun hc => Ok.some ⟨?_, by omega⟩)
  rotate_left
  · simp only [decide_eq_false_iff_not] at hc
    have : i = v.length := by omega
    rw [this, List.take_length] at hR
    exact hR
  simp only [decide_eq_true_eq] at hc
  have hlt : i < v.length := by omega
  refine Ok.bind (Ok.idxN hlt ?_)
  have hmi : v[i] ∈ v.drop i := by rw [List.drop_eq_getElem_cons hlt]; exact List.mem_cons_self
  have hE : vals (v.take i) v[i].K = [] := vals_nil fun x hx e => by
    obtain ⟨r, hr, hk⟩ := hR.all x hx
    have := hsep r hr v[i] hmi
    omega
  refine Ok.loop0 (fun s => ∃ k : Nat, s.1 = (k : Int) ∧ i ≤ k ∧ k ≤ v.length ∧ s.2.Row.K = v[i].K ∧ GOf (vals (v.take k) v[i].K) s.2 ∧ ∀ x ∈ (v.take k).drop i, x.K = v[i].K) (fun s => v.length - s.1.toNat) ?_
    ⟨i, rfl, Nat.le_refl _, hi, rfl, by rw [hE]; exact ⟨rfl, by simp, by simp, by simp, by simp, rfl, by simp, by simp, by simp⟩, by rw [List.drop_of_length_le (by rw [List.length_take]; omega)]; simp⟩ (by simp only [rounds]; omega)
  rintro rec2 ⟨t, g⟩ ⟨k, ht, h1, h2, hk, hg, hall⟩ hr2
  simp only at ht hk hg hall
  subst ht
  have hend : i < k → (∀ _ : k < v.length, v[k].K ≠ v[i].K) → Ok (f_query_Rows_J3 a rec (k : Int) g) (fun rs => Right v rs ∧ rs.length ≤ v.length) := fun hik hne => by
    have hmk : v[i] ∈ v.take k := List.mem_iff_getElem.2 ⟨i, by rw [List.length_take]; omega, by simp⟩
    have hne0 : vals (v.take k) v[i].K ≠ [] := fun e => by
      have := vals_in hmk
      rw [e] at this; cases this
    have hvl := vals_len (v.take k) v[i].K
    rw [List.length_take] at hvl
    unfold f_query_Rows_J3
    refine Ok.bind2 (row_spec hg hne0 (by omega)) fun r ⟨hrk, hrow⟩ => Ok.guard (by simp; omega) (hr _ ⟨k, rfl, h2, ?_, ?_, ?_⟩ (by simp only [Int.toNat_natCast]; omega))
    · have hrK : r.1.K = v[i].K := hrk.trans hk
      refine ⟨?_, ?_, ?_⟩
      · rw [List.pairwise_append]
        refine ⟨hR.inc, by simp, fun x hx y hy => ?_⟩
        rw [List.mem_singleton] at hy
        rw [hy, hrK]
        exact hsep x hx _ hmi
      · intro q hq
        rcases List.mem_append.1 hq with hq | hq
        · have hq2 := hsep q hq _ hmi
          rw [take_split v h1, vals_append, vals_nil (R := (v.take k).drop i) fun x hx e => by have := hall x hx; omega, List.append_nil]
          exact hR.row q hq
        · rw [List.mem_singleton] at hq
          rw [hq, hrK]; exact hrow
      · intro x hx
        rw [take_split v h1] at hx
        rcases List.mem_append.1 hx with hx | hx
        · obtain ⟨q, hq, e⟩ := hR.all x hx
          exact ⟨q, List.mem_append_left _ hq, e⟩
        · exact ⟨r.1, by simp, by rw [hrK, hall x hx]⟩
    · intro q hq x hx
      rcases List.mem_append.1 hq with hq | hq
      · refine hsep q hq x ?_
        have : v.drop k = (v.drop i).drop (k - i) := by rw [List.drop_drop]; congr 1; omega
        rw [this] at hx
        exact List.mem_of_mem_drop hx
      · rw [List.mem_singleton] at hq
        rw [hq, hrk, hk]
        obtain ⟨j, hj, rfl⟩ := List.mem_iff_getElem.1 hx
        rw [List.length_drop] at hj
        rw [List.getElem_drop]
        have e1 := hne (by omega)
        have e2 := hK i k hlt (by omega) hik
        rcases Nat.eq_zero_or_pos j with h0 | h0
        · subst h0; simp only [Nat.add_zero]; omega
        · have e3 := hK k (k + j) (by omega) (by omega) (by omega)
          omega
    · simp; omega
  unfold f_query_Rows_B4
  simp only
  refine Ok.iteB (fun hc2 => ?_) (fun hc2 => hend ?_ fun hx => ?_)
  · simp only [decide_eq_true_eq] at hc2
    have hkl : k < v.length := by omega
    refine Ok.bind (Ok.idxN hkl (Ok.iteB (fun hx => ?_) (fun hx => hend ?_ fun _ => ?_)))
    · simp only [beq_iff_eq] at hx
      have hvk : v[k].K = v[i].K := by rw [hx, hk]
      have hvl := vals_len (v.take k) v[i].K
      rw [List.length_take] at hvl
      have he : vals (v.take (k + 1)) v[i].K = vals (v.take k) v[i].K ++ [v[k].V] := by
        rw [List.take_succ_eq_append_getElem hkl, vals_append, ← hvk, vals_one]
      refine Ok.bind2 (add_spec hg (hf _ (List.getElem_mem hkl)) (by omega)) fun g' hg' => hr2 _ ⟨k + 1, ?_, by omega, by omega, ?_, ?_, ?_⟩ ?_
      · rw [wrap_i64 _ (by omega)]; simp
      · rw [hg'.1, hk]
      · rw [he]; exact hg'.2
      · intro x hx
        rw [List.take_succ_eq_append_getElem hkl, List.drop_append_of_le_length (by rw [List.length_take]; omega)] at hx
        rcases List.mem_append.1 hx with hx | hx
        · exact hall x hx
        · rw [List.mem_singleton] at hx; rw [hx, hvk]
      · rw [wrap_i64 _ (by omega)]; omega
    · rcases Nat.lt_or_ge i k with h | h
      · exact h
      · obtain rfl : i = k := by omega
        rw [hk] at hx; simp at hx
    · intro e
      rw [hk, e] at hx; simp at hx
  · simp only [decide_eq_false_iff_not] at hc2
    omega
  · simp only [decide_eq_false_iff_not] at hc2
    omega
end QY
end Go.Proofs.Ythpahhhdapdcpaa

