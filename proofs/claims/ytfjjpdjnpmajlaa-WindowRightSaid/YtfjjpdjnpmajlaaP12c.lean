/-
  The law in plain words: what its plain function gives is true. No condition beyond those that each theorem names.
-/
import Derived.Test.YtfjjpdjnpmajlaaLibE
import Derived.Test.YtfjjpdjnpmajlaaP12b
import Derived.Test.YtfjjpdjnpmajlaaWalkWR0
set_option linter.unusedSimpArgs false
set_option linter.unusedVariables false
namespace Go.Proofs.Ytfjjpdjnpmajlaa
open Go Go.RowKit
namespace WH
def cmpI (a b : Int) : Int := if a < b then -1 else if b < a then 1 else 0
theorem compI (a b : Int) : f_cmp_Compare_int a b = some (cmpI a b) := by
  simp only [f_cmp_Compare_int, f_cmp_isNaN_int, bindO, Option.bind_some, beq_self_eq_true, Bool.not_true, Bool.false_eq_true, if_false, decide_eq_true_eq, cmpI]
  split <;> (try rfl)
  split <;> rfl
theorem compL (a b : Int) : f_cmp_Compare_int64 a b = some (cmpI a b) := by
  simp only [f_cmp_Compare_int64, f_cmp_isNaN_int64, bindO, Option.bind_some, beq_self_eq_true, Bool.not_true, Bool.false_eq_true, if_false, decide_eq_true_eq, cmpI]
  split <;> (try rfl)
  split <;> rfl
theorem or2 (a b : Int) : f_cmp_Or_int [a, b] = some (if a = 0 then b else a) := by
  refine Ok.eq ?_
  unfold f_cmp_Or_int
  refine Ok.each1 (l := [a, b]) (by simp) (fun i => ∀ x ∈ [a, b].take i, x = 0) 0 (fun rec i hi _ hI hr => ?_) (fun rec hI => ?_) (by simp) (Nat.zero_le _)
  · unfold f_cmp_Or_int_B1
    refine Ok.iteB (fun _ => Ok.bind (Ok.idxN hi (Ok.iteB (fun hx => Ok.some ?_) (fun hx => ?_)))) (fun hx => by simp only [decide_eq_false_iff_not] at hx; omega)
    · simp only [Bool.not_eq_true', beq_eq_false_iff_ne, ne_eq] at hx
      match i, hi with
      | 0, _ => simp only [List.getElem_cons_zero] at hx ⊢; rw [if_neg hx]
      | 1, _ =>
        have := hI a (by simp)
        simp only [List.getElem_cons_succ, List.getElem_cons_zero]; rw [if_pos this]
    · simp only [Bool.not_eq_false', beq_iff_eq] at hx
      rw [wrap_i64 ((i : Int) + 1) (by simp at hi; omega)]
      exact hr ((all_take_succ hi).2 ⟨hI, hx⟩)
  · unfold f_cmp_Or_int_B1
    refine Ok.iteB (fun hx => by simp only [decide_eq_true_eq] at hx; omega) (fun _ => Ok.some ?_)
    have h1 := hI a (by simp)
    have h2 := hI b (by simp)
    rw [h1, h2]; rfl
def ltB (x y : GOut) : Bool := decide (x.Node < y.Node) || x.Node == y.Node && (decide (x.Epoch < y.Epoch) || x.Epoch == y.Epoch && (decide (x.Rec.K < y.Rec.K) || x.Rec.K == y.Rec.K && decide (x.Rec.V < y.Rec.V)))
theorem ltB_iff (x y : GOut) : ltB x y = true ↔ (x.Node < y.Node ∨ x.Node = y.Node ∧ (x.Epoch < y.Epoch ∨ x.Epoch = y.Epoch ∧ (x.Rec.K < y.Rec.K ∨ x.Rec.K = y.Rec.K ∧ x.Rec.V < y.Rec.V))) := by
  simp [ltB]
theorem ltB_not (x y : GOut) : ltB x y = false ↔ ¬ (x.Node < y.Node ∨ x.Node = y.Node ∧ (x.Epoch < y.Epoch ∨ x.Epoch = y.Epoch ∧ (x.Rec.K < y.Rec.K ∨ x.Rec.K = y.Rec.K ∧ x.Rec.V < y.Rec.V))) := by
  rw [← ltB_iff]; simp
theorem ltB_swo : Go.Sort.SWO ltB := ⟨fun x => by rw [ltB_not]; omega, fun x y z h1 h2 => by rw [ltB_iff] at *; omega, fun x y z h1 h2 => by rw [ltB_not] at *; omega⟩
theorem ltB_as (x y : GOut) (h : ltB x y = true) : ltB y x = false := by rw [ltB_not]; rw [ltB_iff] at h; omega
theorem ltB_part (x y : GOut) (h1 : ltB x y = false) (h2 : ltB y x = false) : x = y := by
  rw [ltB_not] at h1 h2
  obtain ⟨a, b, c, d⟩ := x
  obtain ⟨a', b', c', d'⟩ := y
  simp only at h1 h2
  have e1 : a = a' := by omega
  have e2 : b = b' := by omega
  have e3 : c = c' := by omega
  have e4 : d = d' := by omega
  rw [e1, e2, e3, e4]
theorem ahead_eq (x y : GOut) : f_backwashref33_ahead x y = some (ltB x y) := by
  unfold f_backwashref33_ahead f_backwashref05_Less
  by_cases h1 : x.Node = y.Node
  · by_cases h2 : x.Epoch = y.Epoch
    · simp [h1, h2, bindO, ltB]
    · simp [h1, h2, ltB]
  · simp [h1, ltB]
theorem less_eq (x y : GRec) : f_bag_Less x y = some (decide (x.K < y.K ∨ x.K = y.K ∧ x.V < y.V)) := by
  simp only [f_bag_Less, f_bag_order, compL, or2, bindO, Option.bind_some, cmpI]
  congr 1
  by_cases h1 : x.K < y.K
  · simp [h1]
  · by_cases h2 : y.K < x.K
    · simp [h1, h2]; omega
    · have h3 : x.K = y.K := by omega
      by_cases h4 : x.V < y.V
      · simp [h3, h4]
      · by_cases h5 : y.V < x.V <;> simp [h3, h4, h5]
theorem order_eq (x y : GOut) : ∃ n, f_window_order x y = some n ∧ (n < 0 ↔ ltB x y = true) := by
  rw [ltB_iff]
  simp only [f_window_order, compI, or2, less_eq, bindO, Option.bind_some, cmpI]
  by_cases a1 : x.Node < y.Node
  · exact ⟨-1, by simp [a1], by simp [a1]⟩
  by_cases a2 : y.Node < x.Node
  · exact ⟨1, by simp [a1, a2], by simp; omega⟩
  have a3 : x.Node = y.Node := by omega
  by_cases b1 : x.Epoch < y.Epoch
  · exact ⟨-1, by simp [a3, b1], by simp [a3, b1]⟩
  by_cases b2 : y.Epoch < x.Epoch
  · exact ⟨1, by simp [a3, b1, b2], by simp; omega⟩
  have b3 : x.Epoch = y.Epoch := by omega
  by_cases c1 : x.Rec.K < y.Rec.K ∨ x.Rec.K = y.Rec.K ∧ x.Rec.V < y.Rec.V
  · exact ⟨-1, by simp [a3, b3, c1], by simp [a3, b3, c1]⟩
  by_cases c2 : y.Rec.K < x.Rec.K ∨ y.Rec.K = x.Rec.K ∧ y.Rec.V < x.Rec.V
  · exact ⟨1, by simp [a3, b3, c1, c2], by simp [a3, b3, c1]⟩
  · exact ⟨0, by simp [a3, b3, c1, c2], by simp [a3, b3, c1]⟩
def upd (size : Int) (o : GOut) : GOut := ⟨o.Node, o.Epoch / size, o.Rec⟩
def okG (l : List GOut) (size : Int) : Prop := (1 ≤ size ∧ size ≤ 1024) ∧ ∀ o ∈ l, 0 ≤ o.Epoch ∧ o.Epoch ≤ 1048576
def Gath (l : List GOut) (size : Int) (r : (List GOut) × Int) : Prop := (r = ([], 1) ∧ ¬ okG l size) ∨ (okG l size ∧ r.2 = 0 ∧ r.1.Perm (l.map (upd size)) ∧ r.1.Pairwise (fun a b => ltB b a = false))
theorem upd_eq {o : GOut} {size : Int} (h : 0 ≤ o.Epoch ∧ o.Epoch ≤ 1048576) (hs : 1 ≤ size ∧ size ≤ 1024) : (⟨o.Node, IntKind.i64.wrap (Int.tdiv o.Epoch size), o.Rec⟩ : GOut) = upd size o := by
  have h1 : 0 ≤ o.Epoch / size := Int.ediv_nonneg (by omega) (by omega)
  have h2 : o.Epoch / size ≤ o.Epoch := Int.ediv_le_self _ (by omega)
  rw [Int.tdiv_eq_ediv_of_nonneg h.1, wrap_i64 _ (by omega)]; rfl
theorem gath_same {l : List GOut} {size : Int} {r r' : (List GOut) × Int} (h : Gath l size r) (h' : Gath l size r') : r = r' ∧ r.1.length ≤ l.length := by
  rcases h with ⟨rfl, h⟩ | ⟨h, h2, h3, h4⟩
  · rcases h' with ⟨rfl, _⟩ | ⟨h5, _⟩
    · exact ⟨rfl, Nat.zero_le _⟩
    · exact absurd h5 h
  · rcases h' with ⟨_, h5⟩ | ⟨_, h5, h6, h7⟩
    · exact absurd h h5
    · refine ⟨Prod.ext (sorted_eq ltB_part (h3.trans h6.symm) h4 h7) (h2.trans h5.symm), ?_⟩
      have := h3.length_eq
      rw [List.length_map] at this; omega
theorem sizes1_eq (a : Int) : f_window_sizes [a] = some (decide (1 ≤ a ∧ a ≤ 1024)) := by
  have h : f_slices_ContainsFunc_int [a] (fun x0_ => f_window_sizes_1 x0_) = some ([a].any fun n => decide (n < 1) || decide (1024 < n)) := by
    show gContainsFunc _ _ = _
    exact gContainsFunc_eq (by simp) (fun x _ => by simp [f_window_sizes_1])
  unfold f_window_sizes
  rw [h]
  simp only [bindO, Option.bind_some]
  congr 1
  simp only [List.any_cons, List.any_nil, Bool.or_false]
  by_cases h1 : 1 ≤ a <;> by_cases h2 : a ≤ 1024 <;> simp [h1, h2] <;> omega
theorem containsOut_eq (l : List GOut) (hl : l.length < 9223372036854775808) : f_slices_ContainsFunc_Out l (fun x0_ => f_window_Gather_1 x0_) = some (l.any fun f => !(decide (0 ≤ f.Epoch) && decide (f.Epoch ≤ 1048576))) := by
  show gContainsFunc _ _ = _
  exact gContainsFunc_eq hl (fun x _ => by simp [f_window_Gather_1, f_window_epoch, bindO])
theorem Gather_ok (l : List GOut) (size : Int) (hl : l.length ≤ 100) : Ok (f_window_Gather l size) (Gath l size) := by
  unfold f_window_Gather
  refine Ok.bind (Ok.of_eq (sizes1_eq size) ?_)
  refine Ok.iteB (fun hc => ?_) (fun hc => Ok.some (.inl ⟨rfl, fun h => ?_⟩))
  rotate_left
  · simp only [decide_eq_false_iff_not] at hc; exact hc h.1
  simp only [decide_eq_true_eq] at hc
  refine Ok.bind (Ok.of_eq (containsOut_eq l (by omega)) ?_)
  refine Ok.iteB (fun hb => Ok.some (.inl ⟨rfl, fun h => ?_⟩)) (fun hb => ?_)
  · obtain ⟨f, hf, hx⟩ := List.any_eq_true.1 hb
    have := h.2 f hf
    simp [this.1, this.2] at hx
  have hall : ∀ f ∈ l, 0 ≤ f.Epoch ∧ f.Epoch ≤ 1048576 := fun f hf => by
    have := List.any_eq_false.1 hb f hf
    simpa using this
  refine Ok.iteB (fun hx => by simp only [decide_eq_true_eq] at hx; omega) (fun _ => ?_)
  refine Ok.bind (show Ok (f_slices_Clone_Out l) _ from ?_)
  unfold f_slices_Clone_Out
  refine Ok.guard (by simp; omega) (Ok.some ?_)
  rw [List.nil_append]
  refine Ok.each (l := l) (by omega) (fun i a => a = (l.take i).map (upd size) ++ l.drop i) 0 (fun rec i hi a _ ha hr => ?_) (fun rec a ha => ?_) (by simp) (Nat.zero_le _)
  · subst ha
    have hlen : ((l.take i).map (upd size) ++ l.drop i).length = l.length := by
      rw [List.length_append, List.length_map, List.length_take, List.length_drop]; omega
    have hget : ((l.take i).map (upd size) ++ l.drop i)[i]'(by omega) = l[i] := by
      rw [List.getElem_append_right (by simp; omega)]
      simp only [List.length_map, List.length_take, List.getElem_drop]
      congr 1; omega
    unfold f_window_Gather_B2
    simp only
    refine Ok.iteB (fun _ => Ok.bind (Ok.idxN (by omega) (Ok.guard (by omega) ?_))) (fun hx => by simp only [decide_eq_false_iff_not] at hx; omega)
    rw [hget, upd_eq (hall _ (List.getElem_mem hi)) hc, wrap_i64 ((i : Int) + 1) (by omega)]
    refine hr _ ?_
    rw [Int.toNat_natCast, List.set_append_right _ _ (by simp; omega), List.take_succ_eq_append_getElem hi, List.map_append, List.append_assoc]
    congr 1
    rw [List.length_map, List.length_take, show i - min i l.length = 0 by omega, List.drop_eq_getElem_cons hi, List.set_cons_zero]
    rfl
  · rw [List.take_length, List.drop_length, List.append_nil] at ha
    subst ha
    unfold f_window_Gather_B2
    simp only
    refine Ok.iteB (fun hx => by simp only [decide_eq_true_eq] at hx; omega) (fun _ => ?_)
    unfold f_window_Gather_J1
    obtain ⟨r, h1, h2, h3⟩ := sortF_spec (cf := fun x0_ x1_ => f_window_order x0_ x1_) order_eq (xs := l.map (upd size)) (by rw [List.length_map]; omega) ltB_swo
    refine Ok.bind (Ok.of_eq h1 (Ok.guard h2.length_eq (Ok.some (.inr ⟨⟨hc, hall⟩, rfl, h2, h3⟩))))
theorem refIns {R : (List GOut) × Int → Prop} {i : Int} {rec : Int × List GOut → Option (List GOut × Int)} {a : List GOut} {o : GOut} (hal : a.length ≤ 100) (hs : a.Pairwise (fun x y => ltB y x = false))
    (hnext : ∀ a', a'.Perm (a ++ [o]) → a'.Pairwise (fun x y => ltB y x = false) → Ok (rec (IntKind.i64.wrap (i + 1), a')) R) :
    Ok (loopK (f_backwashref33_Gather_B2 i rec) rounds (IntKind.i64.wrap (((a ++ [o]).length : Int) - 1), a ++ [o])) R := by
  rw [show IntKind.i64.wrap (((a ++ [o]).length : Int) - 1) = (a.length : Int) by rw [wrap_i64 _ (by simp; omega)]; simp]
  refine Ok.loop0 (fun s => ∃ A B : List GOut, a = A ++ B ∧ s.1 = (A.length : Int) ∧ s.2 = A ++ o :: B ∧ ∀ b ∈ B, ltB o b = true) (fun s => s.1.toNat) ?_ ⟨a, [], by simp, rfl, rfl, by simp⟩ (by simp only [rounds]; omega)
  rintro rec2 ⟨k, a7⟩ ⟨A, B, hab, hk, ha7, hB⟩ hr
  simp only at hk ha7
  subst hk ha7 hab
  rw [List.length_append] at hal
  have hperm : (A ++ o :: B).Perm (A ++ B ++ [o]) := by
    rw [List.append_assoc]
    exact List.Perm.append_left A (List.perm_append_comm (l₁ := [o]) (l₂ := B))
  unfold f_backwashref33_Gather_B2
  simp only
  refine Ok.iteB (fun hx => ?_) (fun hx => ?_)
  · simp only [decide_eq_true_eq] at hx
    obtain ⟨A', p, rfl⟩ : ∃ A' p, A = A' ++ [p] := by
      rcases List.eq_nil_or_concat A with h | ⟨A', p, h⟩
      · subst h; simp at hx
      · exact ⟨A', p, by rw [h, List.concat_eq_append]⟩
    rw [List.length_append, List.length_singleton] at hal
    have e1 : IntKind.i64.wrap (((A' ++ [p]).length : Int) - 1) = (A'.length : Int) := by rw [wrap_i64 _ (by simp; omega)]; simp
    rw [e1]
    have g1 : ∀ (h : (A' ++ [p]).length < ((A' ++ [p]) ++ o :: B).length), ((A' ++ [p]) ++ o :: B)[(A' ++ [p]).length] = o := fun h => by
      rw [List.getElem_append_right (Nat.le_refl _)]; simp
    have g2 : ∀ (h : A'.length < ((A' ++ [p]) ++ o :: B).length), ((A' ++ [p]) ++ o :: B)[A'.length] = p := fun h => by
      rw [List.getElem_append_left (by simp), List.getElem_append_right (Nat.le_refl _)]; simp
    refine Ok.bind (Ok.idxN (by simp) ?_)
    refine Ok.bind (Ok.idxN (by simp) ?_)
    rw [g1, g2]
    refine Ok.bind (Ok.of_eq (ahead_eq o p) (Ok.iteB (fun hlt => ?_) (fun hlt => ?_)))
    · refine Ok.bind (Ok.idxN (by simp) ?_)
      refine hr _ ⟨A', p :: B, by simp, rfl, ?_, fun b hb => ?_⟩ (by simp)
      · simp only [Int.toNat_natCast]
        rw [List.set_append_right _ _ (Nat.le_refl _), Nat.sub_self, List.set_cons_zero, List.set_append_left _ _ (by simp), List.set_append_right _ _ (Nat.le_refl _), Nat.sub_self, List.set_cons_zero]
        simp
      · rcases List.mem_cons.1 hb with rfl | hb
        · exact hlt
        · exact hB b hb
    · exact hnext _ hperm (insert_pairwise (ltB_swo).ntrans ltB_as hs hB (.inr ⟨A', p, rfl, hlt⟩))
  · simp only [decide_eq_false_iff_not] at hx
    have hA : A = [] := List.eq_nil_of_length_eq_zero (by omega)
    exact hnext _ hperm (insert_pairwise (ltB_swo).ntrans ltB_as hs hB (.inl hA))
theorem refGather_ok (l : List GOut) (size : Int) (hl : l.length ≤ 100) : Ok (f_backwashref33_Gather l size) (Gath l size) := by
  unfold f_backwashref33_Gather
  refine Ok.iteB (fun hc => Ok.some (.inl ⟨rfl, fun h => ?_⟩)) (fun hc => ?_)
  · have := h.1
    simp only [Bool.or_eq_true, decide_eq_true_eq] at hc
    omega
  simp only [Bool.or_eq_false_iff, decide_eq_false_iff_not] at hc
  have hs : 1 ≤ size ∧ size ≤ 1024 := by omega
  refine Ok.each (l := l) (by omega) (fun i a => (∀ o ∈ l.take i, 0 ≤ o.Epoch ∧ o.Epoch ≤ 1048576) ∧ a.Perm ((l.take i).map (upd size)) ∧ a.Pairwise (fun x y => ltB y x = false)) 0 (fun rec i hi a _ hI hr => ?_) (fun rec a hI => ?_) (by simp) (Nat.zero_le _)
  · obtain ⟨h1, h2, h3⟩ := hI
    have hal : a.length = i := by
      have := h2.length_eq
      rw [List.length_map, List.length_take] at this; omega
    unfold f_backwashref33_Gather_B1
    simp only
    refine Ok.iteB (fun _ => Ok.bind (Ok.idxN hi (Ok.iteB (fun hx => Ok.some (.inl ⟨rfl, fun h => ?_⟩)) (fun hx => Ok.guard (by omega) (Ok.guard (by simp; omega) ?_))))) (fun hx => by simp only [decide_eq_false_iff_not] at hx; omega)
    · have := h.2 _ (List.getElem_mem hi)
      simp only [Bool.or_eq_true, decide_eq_true_eq] at hx
      omega
    · simp only [Bool.or_eq_false_iff, decide_eq_false_iff_not] at hx
      have he : 0 ≤ l[i].Epoch ∧ l[i].Epoch ≤ 1048576 := by omega
      rw [upd_eq he hs]
      refine refIns (by omega) h3 fun a' hp hpw => ?_
      rw [wrap_i64 ((i : Int) + 1) (by omega)]
      refine hr _ ⟨(all_take_succ hi).2 ⟨h1, he⟩, ?_, hpw⟩
      rw [List.take_succ_eq_append_getElem hi, List.map_append]
      exact hp.trans (List.Perm.append_right _ h2)
  · rw [List.take_length] at hI
    unfold f_backwashref33_Gather_B1
    simp only
    exact Ok.iteB (fun hx => by simp only [decide_eq_true_eq] at hx; omega) (fun _ => Ok.some (.inr ⟨⟨hs, hI.1⟩, rfl, hI.2.1, hI.2.2⟩))
theorem same_refl (a : List GOut) (ha : a.length ≤ 65536) : f_backwashref12_Same a a = some true := by
  refine Ok.eq ?_
  unfold f_backwashref12_Same
  refine Ok.iteB (fun hx => by simp at hx) (fun _ => ?_)
  refine Ok.each1 (l := a) (by omega) (fun _ => True) 0 (fun rec i hi _ _ hr => ?_) (fun rec _ => ?_) trivial (Nat.zero_le _)
  · unfold f_backwashref12_Same_B1
    refine Ok.iteB (fun _ => Ok.bind (Ok.idxN hi (Ok.bind (Ok.idxN hi (Ok.iteB (fun hx => by simp at hx) (fun _ => ?_)))))) (fun hx => by simp only [decide_eq_false_iff_not] at hx; omega)
    rw [wrap_i64 ((i : Int) + 1) (by omega)]
    exact hr trivial
  · unfold f_backwashref12_Same_B1
    exact Ok.iteB (fun hx => by simp only [decide_eq_true_eq] at hx; omega) (fun _ => Ok.some rfl)
end WH
end Go.Proofs.Ytfjjpdjnpmajlaa

