/-
  The law in plain words: what its plain function gives is true. No condition beyond those that each theorem names.
-/
import Derived.Test.YthpahhhdapdcpaaLibE
import Derived.Test.YthpahhhdapdcpaaWalkQR1
set_option linter.unusedSimpArgs false
set_option linter.unusedVariables false
namespace Go.Proofs.Ythpahhhdapdcpaa
open Go Go.RowKit
namespace QY
def cmpI (a b : Int) : Int := if a < b then -1 else if b < a then 1 else 0
theorem compL (a b : Int) : f_cmp_Compare_int64 a b = some (cmpI a b) := by
  simp only [f_cmp_Compare_int64, f_cmp_isNaN_int64, bindO, Option.bind_some, beq_self_eq_true, Bool.not_true, Bool.false_eq_true, if_false, decide_eq_true_eq, cmpI]
  split <;> (try rfl)
  split <;> rfl
theorem or2 (a b : Int) : f_cmp_Or_int [a, b] = some (if a = 0 then b else a) := by
  refine Ok.eq ?_
  unfold f_cmp_Or_int
  refine Ok.each1 (l := [a, b]) (by simp) (fun i => ∀ x ∈ [a, b].take i, x = 0) 0 (fun rec i hi _ hI hr => ?_) (fun rec hI => ?_) (by simp) (Nat.zero_le _)
  · unfold f_cmp_Or_int_B1
    refine Ok.iteB (fun _ => Ok.bind (Ok.idxN hi (Ok.iteB (fun hx => Ok.some ?_) (fun hx => ?_)))) (fun hx => by simp only [decide_eq_false_iff_not] at hx; omega)
    · simp only [Bool.not_eq_true', beq_eq_false_iff_ne, ne_eq] at hx
      match i, hi with
      | 0, _ => simp only [List.getElem_cons_zero] at hx ⊢; rw [if_neg hx]
      | 1, _ =>
        have := hI a (by simp)
        simp only [List.getElem_cons_succ, List.getElem_cons_zero]; rw [if_pos this]
    · simp only [Bool.not_eq_false', beq_iff_eq] at hx
      rw [wrap_i64 ((i : Int) + 1) (by simp at hi; omega)]
      exact hr ((all_take_succ hi).2 ⟨hI, hx⟩)
  · unfold f_cmp_Or_int_B1
    refine Ok.iteB (fun hx => by simp only [decide_eq_true_eq] at hx; omega) (fun _ => Ok.some ?_)
    have h1 := hI a (by simp)
    have h2 := hI b (by simp)
    rw [h1, h2]; rfl
def ltR (x y : GRec) : Bool := decide (x.K < y.K ∨ x.K = y.K ∧ x.V < y.V)
theorem less_eq (x y : GRec) : f_bag_Less x y = some (ltR x y) := by
  simp only [f_bag_Less, f_bag_order, compL, or2, bindO, Option.bind_some, cmpI, ltR]
  congr 1
  by_cases h1 : x.K < y.K
  · simp [h1]
  · by_cases h2 : y.K < x.K
    · simp [h1, h2]; omega
    · have h3 : x.K = y.K := by omega
      by_cases h4 : x.V < y.V
      · simp [h3, h4]
      · by_cases h5 : y.V < x.V <;> simp [h3, h4, h5]
theorem ltR_not (x y : GRec) : ltR x y = false ↔ ¬ (x.K < y.K ∨ x.K = y.K ∧ x.V < y.V) := by simp [ltR]
theorem ltR_iff (x y : GRec) : ltR x y = true ↔ (x.K < y.K ∨ x.K = y.K ∧ x.V < y.V) := by simp [ltR]
theorem ltR_swo : Go.Sort.SWO ltR := ⟨fun x => by rw [ltR_not]; omega, fun x y z h1 h2 => by rw [ltR_iff] at *; omega, fun x y z h1 h2 => by rw [ltR_not] at *; omega⟩
theorem ltR_part (x y : GRec) (h1 : ltR x y = false) (h2 : ltR y x = false) : x = y := by
  rw [ltR_not] at h1 h2
  obtain ⟨a, b⟩ := x
  obtain ⟨a', b'⟩ := y
  simp only at h1 h2
  have e1 : a = a' := by omega
  have e2 : b = b' := by omega
  rw [e1, e2]
theorem order_eq (x y : GRec) : ∃ n, f_query_Rows_1 x y = some n ∧ (n < 0 ↔ ltR x y = true) := by
  simp only [f_query_Rows_1, less_eq, bindO, Option.bind_some]
  by_cases h1 : ltR x y = true
  · exact ⟨-1, by simp [h1], by simp [h1]⟩
  · by_cases h2 : ltR y x = true
    · exact ⟨1, by simp [h1, h2], by simp [h1]⟩
    · exact ⟨0, by simp [h1, h2], by simp [h1]⟩
def hit (node a b : Int) (o : GOut) : Bool := (o.Node == node && decide (a ≤ o.Epoch)) && decide (o.Epoch ≤ b)
def recs (l : List GOut) (node a b : Int) : List GRec := (l.filter (hit node a b)).map (·.Rec)
noncomputable def rowsOf (v : List GRec) : Option (List GRow) := loopK (f_query_Rows_B2 v) rounds (0, [])
theorem recs_len (l : List GOut) (node a b : Int) : (recs l node a b).length ≤ l.length := by
  simp only [recs, List.length_map]; exact List.length_filter_le _ _
theorem Rows_ok {l : List GOut} {node a b : Int} (hl : l.length ≤ 200) {Q : List GRow → Prop} (h : ∀ v, v.Perm (recs l node a b) → v.Pairwise (fun x y => ltR y x = false) → Ok (rowsOf v) Q) : Ok (f_query_Rows l node a b) Q := by
  unfold f_query_Rows
  refine Ok.each (l := l) (by omega) (fun i s => s = recs (l.take i) node a b) 0 (fun rec i hi s _ hs hr => ?_) (fun rec s hs => ?_) (by simp [recs]) (Nat.zero_le _)
  · have hlen : s.length ≤ 200 := by
      have := recs_len (l.take i) node a b
      rw [← hs, List.length_take] at this; omega
    unfold f_query_Rows_B5
    simp only
    refine Ok.iteB (fun _ => Ok.bind (Ok.idxN hi ?_)) (fun hx => by simp only [decide_eq_false_iff_not] at hx; omega)
    rw [wrap_i64 ((i : Int) + 1) (by omega)]
    refine Ok.iteB (fun hx => Ok.guard (by simp; omega) ?_) (fun hx => ?_)
    · refine hr _ ?_
      have hx' : hit node a b l[i] = true := hx
      rw [List.take_succ_eq_append_getElem hi, recs, List.filter_append, List.map_append, List.filter_cons_of_pos hx', hs]
      rfl
    · refine hr _ ?_
      have hx' : ¬ hit node a b l[i] = true := by rw [show hit node a b l[i] = false from hx]; simp
      rw [List.take_succ_eq_append_getElem hi, recs, List.filter_append, List.map_append, List.filter_cons_of_neg hx', hs]
      simp [recs]
  · rw [List.take_length] at hs
    subst hs
    unfold f_query_Rows_B5
    simp only
    refine Ok.iteB (fun hx => by simp only [decide_eq_true_eq] at hx; omega) (fun _ => ?_)
    unfold f_query_Rows_J1
    have hlen := recs_len l node a b
    obtain ⟨r, h1, h2, h3⟩ := sortF_spec (cf := fun x0_ x1_ => f_query_Rows_1 x0_ x1_) order_eq (xs := recs l node a b) (by omega) ltR_swo
    exact Ok.bind (Ok.of_eq h1 (Ok.guard h2.length_eq (h r h2 h3)))
theorem wrapU (v : Int) : 0 ≤ IntKind.u64.wrap v := by simp [IntKind.wrap, IntKind.bits, IntKind.signed]; omega
theorem plus_ok (w : GQuery_wide) (v : Int) (hw : 0 ≤ w.lo.n) : Ok (f_query_wide_plus w v) (fun r => 0 ≤ r.lo.n) := by
  unfold f_query_wide_plus f_math_bits_Add64 add64F
  refine Ok.bind (Ok.guard ⟨hw, wrapU v, by omega, by omega⟩ (Ok.some (Ok.some ?_)))
  simp only
  exact Int.emod_nonneg _ (by omega)
theorem add_ok (g : GQuery_group) (v : Int) (hw : 0 ≤ g.sum.lo.n) : Ok (f_query_group_add_p0 g v) (fun r => r.Row.K = g.Row.K ∧ r.Row.Many = IntKind.i64.wrap (g.Row.Many + 1) ∧ 0 ≤ r.sum.lo.n) := by
  unfold f_query_group_add_p0 f_query_group_add_p0_J1
  refine Ok.iteB (fun _ => ?_) (fun _ => ?_)
  · exact Ok.bind2 (plus_ok _ v hw) fun w' h => Ok.some ⟨rfl, rfl, h⟩
  · exact Ok.bind2 (plus_ok _ v hw) fun w' h => Ok.some ⟨rfl, rfl, h⟩
theorem row_ok (g : GQuery_group) : Ok (f_query_group_row_p0 g) (fun r => r.1.Many = g.Row.Many) := by
  unfold f_query_group_row_p0 f_query_wide_number
  refine Ok.bind (Ok.iteB (fun _ => Ok.some (Ok.some rfl)) (fun _ => Ok.some (Ok.some rfl)))
theorem rowsOf_ok {v : List GRec} (hv : v.length ≤ 200) : Ok (rowsOf v) (fun rs => (rs.map (·.Many)).sum = (v.length : Int) ∧ (∀ r ∈ rs, 0 ≤ r.Many) ∧ rs.length ≤ v.length) := by
  unfold rowsOf
  refine Ok.loop0 (fun s => ∃ i : Nat, s.1 = (i : Int) ∧ i ≤ v.length ∧ (s.2.map (·.Many)).sum = (i : Int) ∧ (∀ r ∈ s.2, 0 ≤ r.Many) ∧ s.2.length ≤ i) (fun s => v.length - s.1.toNat) ?_ ⟨0, rfl, Nat.zero_le _, rfl, by simp, by simp⟩ (by simp only [rounds]; omega)
  rintro rec ⟨t, a⟩ ⟨i, ht, hi, hsum, hall, hlen⟩ hr
  simp only at ht hsum hall hlen
  subst ht
  unfold f_query_Rows_B2
  simp only
  refine Ok.iteB (fun hc => ?_) (fun hc => Ok.some ⟨?_, hall, by omega⟩)
  rotate_left
  · simp only [decide_eq_false_iff_not] at hc
    rw [hsum]; omega
  simp only [decide_eq_true_eq] at hc
  have hlt : i < v.length := by omega
  refine Ok.bind (Ok.idxN hlt ?_)
  refine Ok.loop0 (fun s => ∃ k : Nat, s.1 = (k : Int) ∧ i ≤ k ∧ k ≤ v.length ∧ s.2.Row.Many = (k : Int) - i ∧ s.2.Row.K = v[i].K ∧ 0 ≤ s.2.sum.lo.n) (fun s => v.length - s.1.toNat) ?_ ⟨i, rfl, Nat.le_refl _, hi, by simp, rfl, by simp⟩ (by simp only [rounds]; omega)
  rintro rec2 ⟨t, g⟩ ⟨k, ht, h1, h2, hm, hk, hlo⟩ hr2
  simp only at ht hm hk hlo
  subst ht
  have hend : i < k → Ok (f_query_Rows_J3 a rec (k : Int) g) (fun rs => (rs.map (·.Many)).sum = (v.length : Int) ∧ (∀ r ∈ rs, 0 ≤ r.Many) ∧ rs.length ≤ v.length) := fun hik => by
    unfold f_query_Rows_J3
    refine Ok.bind2 (row_ok g) fun r hrm => Ok.guard (by simp; omega) (hr _ ⟨k, rfl, h2, ?_, ?_, ?_⟩ (by simp only [Int.toNat_natCast]; omega))
    · simp only [List.map_append, List.sum_append, hsum, List.map_cons, List.map_nil, List.sum_cons, List.sum_nil, hrm, hm]; omega
    · intro q hq
      rcases List.mem_append.1 hq with hq | hq
      · exact hall q hq
      · rw [List.mem_singleton] at hq; subst hq; rw [hrm, hm]; omega
    · simp; omega
  unfold f_query_Rows_B4
  simp only
  refine Ok.iteB (fun hc2 => ?_) (fun hc2 => hend ?_)
  · simp only [decide_eq_true_eq] at hc2
    have hkl : k < v.length := by omega
    refine Ok.bind (Ok.idxN hkl (Ok.iteB (fun _ => ?_) (fun hx => hend ?_)))
    · refine Ok.bind2 (add_ok g _ hlo) fun g' hg => hr2 _ ⟨k + 1, ?_, by omega, by omega, ?_, ?_, hg.2.2⟩ ?_
      · rw [wrap_i64 _ (by omega)]; simp
      · rw [hg.2.1, hm, wrap_i64 _ (by omega)]; omega
      · rw [hg.1, hk]
      · rw [wrap_i64 _ (by omega)]; omega
    · rcases Nat.lt_or_ge i k with h | h
      · exact h
      · obtain rfl : i = k := by omega
        rw [hk] at hx; simp at hx
  · simp only [decide_eq_false_iff_not] at hc2
    omega
def tot : List GRow → Int → Int
  | [], n => n
  | r :: rs, n => if 4611686018427387904 - n < r.Many then 4611686018427387904 else tot rs (n + max 0 r.Many)
theorem Total_eq (rs : List GRow) (hl : rs.length < 9223372036854775807) : f_query_Total rs = some (tot rs 0) := by
  refine Ok.eq ?_
  unfold f_query_Total
  refine Ok.loop0 (fun s => ∃ i : Nat, s.2 = (i : Int) ∧ i ≤ rs.length ∧ 0 ≤ s.1 ∧ s.1 ≤ 4611686018427387904 ∧ tot (rs.drop i) s.1 = tot rs 0) (fun s => rs.length - s.2.toNat) ?_ ⟨0, rfl, Nat.zero_le _, by simp, by simp, by simp⟩ (by simp only [rounds]; omega)
  rintro rec ⟨n, t⟩ ⟨i, ht, hi, h0, h1, h2⟩ hr
  simp only at ht h0 h1 h2
  subst ht
  unfold f_query_Total_B1
  simp only
  rw [wrap_i64 (4611686018427387904 - n) (by omega)]
  refine Ok.iteB (fun hc => ?_) (fun hc => Ok.some ?_)
  · simp only [decide_eq_true_eq] at hc
    have hlt : i < rs.length := by omega
    rw [List.drop_eq_getElem_cons hlt, tot] at h2
    refine Ok.bind (Ok.idxN hlt (Ok.iteB (fun hx => Ok.some ?_) (fun hx => ?_)))
    · simp only [decide_eq_true_eq] at hx
      rw [if_pos hx] at h2; exact h2
    · simp only [decide_eq_false_iff_not] at hx
      rw [if_neg hx] at h2
      rw [wrap_i64 (n + max 0 rs[i].Many) (by omega), wrap_i64 ((i : Int) + 1) (by omega)]
      refine hr _ ⟨i + 1, by simp, by omega, by simp only; omega, by simp only; omega, h2⟩ (by simp only; omega)
  · simp only [decide_eq_false_iff_not] at hc
    rw [List.drop_of_length_le (by omega), tot] at h2
    exact h2
theorem tot_sum : ∀ (rs : List GRow) (n : Int), 0 ≤ n → (∀ r ∈ rs, 0 ≤ r.Many) → n + (rs.map (·.Many)).sum ≤ 4611686018427387904 → tot rs n = n + (rs.map (·.Many)).sum
  | [], n, _, _, _ => by simp [tot]
  | r :: rs, n, h0, h1, h2 => by
    have hr := h1 r (by simp)
    have hs : 0 ≤ (rs.map (·.Many)).sum := by
      have : ∀ l : List GRow, (∀ r ∈ l, 0 ≤ r.Many) → 0 ≤ (l.map (·.Many)).sum := fun l => by
        induction l with
        | nil => intro _; simp
        | cons q l ih => intro h; have := h q (by simp); have := ih (fun x hx => h x (by simp [hx])); simp only [List.map_cons, List.sum_cons]; omega
      exact this rs fun x hx => h1 x (by simp [hx])
    simp only [List.map_cons, List.sum_cons] at h2 ⊢
    rw [tot, if_neg (by omega), tot_sum rs _ (by omega) (fun x hx => h1 x (by simp [hx])) (by omega)]
    omega
theorem same_refl (a : List GRow) (ha : a.length ≤ 65536) : f_backwashref32_Same a a = some true := by
  refine Ok.eq ?_
  unfold f_backwashref32_Same
  refine Ok.iteB (fun hx => by simp at hx) (fun _ => ?_)
  refine Ok.each1 (l := a) (by omega) (fun _ => True) 0 (fun rec i hi _ _ hr => ?_) (fun rec _ => ?_) trivial (Nat.zero_le _)
  · unfold f_backwashref32_Same_B1
    refine Ok.iteB (fun _ => Ok.bind (Ok.idxN hi (Ok.bind (Ok.idxN hi (Ok.iteB (fun hx => by simp at hx) (fun _ => ?_)))))) (fun hx => by simp only [decide_eq_false_iff_not] at hx; omega)
    rw [wrap_i64 ((i : Int) + 1) (by omega)]
    exact hr trivial
  · unfold f_backwashref32_Same_B1
    exact Ok.iteB (fun hx => by simp only [decide_eq_true_eq] at hx; omega) (fun _ => Ok.some rfl)
end QY
end Go.Proofs.Ythpahhhdapdcpaa

