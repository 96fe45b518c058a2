/-
  The law in plain words: what its plain function gives is true. No condition beyond those that each theorem names.
-/
import Derived.Test.YthpahhhdapdcpaaP17d
set_option linter.unusedSimpArgs false
set_option linter.unusedVariables false
namespace Go.Proofs.Ythpahhhdapdcpaa
open Go Go.RowKit
namespace QY
/-! What is new is put in its place, step by step. -/
section
variable {α R : Type}
def bub (key : α → Int) (fin : List α → Option R) (rec : Int × List α → Option R) : Int × List α → Option R :=
  fun (k, a) =>
  (if (decide (0 < k)) = true then bindO (idx a k) (fun (x : α) =>
  bindO (idx a (IntKind.i64.wrap (k - 1))) (fun (y : α) =>
  (if (decide (key x < key y)) = true then bindO (idx (List.set a (Int.toNat k) y) (IntKind.i64.wrap (k - 1))) (fun (_ : α) =>
  rec (IntKind.i64.wrap (k - 1), (List.set (List.set a (Int.toNat k) y) (Int.toNat (IntKind.i64.wrap (k - 1))) x)))
  else fin a)))
  else fin a)
theorem pair_mid {key : α → Int} {A B : List α} {x : α} (h : (A ++ B).Pairwise (fun p q => key p < key q)) (hA : ∀ p ∈ A, key p < key x) (hB : ∀ p ∈ B, key x < key p) : (A ++ x :: B).Pairwise (fun p q => key p < key q) := by
  rw [List.pairwise_append] at h ⊢
  refine ⟨h.1, List.pairwise_cons.2 ⟨hB, h.2.1⟩, fun a ha b hb => ?_⟩
  rcases List.mem_cons.1 hb with rfl | hb
  · exact hA a ha
  · exact h.2.2 a ha b hb
theorem bub_ok {key : α → Int} {fin : List α → Option R} {Q : R → Prop} {A : List α} {x : α} (hl : A.length < 1000000) (hs : A.Pairwise (fun p q => key p < key q)) (hne : ∀ p ∈ A, key p ≠ key x)
    (h : ∀ A' B', A' ++ B' = A → (A' ++ x :: B').Pairwise (fun p q => key p < key q) → Ok (fin (A' ++ x :: B')) Q) : Ok (loopK (bub key fin) rounds ((A.length : Int), A ++ [x])) Q := by
  refine Ok.loop0 (fun s => ∃ A' B', s = ((A'.length : Int), A' ++ x :: B') ∧ A' ++ B' = A ∧ ∀ b ∈ B', key x < key b) (fun s => s.1.toNat) ?_ ⟨A, [], rfl, by simp, by simp⟩ (by simp only [rounds]; omega)
  rintro rec s ⟨A', B', rfl, he, hb⟩ hr
  have hfin : (∀ p ∈ A', key p < key x) → Ok (fin (A' ++ x :: B')) Q := fun hA => h A' B' he (pair_mid (by rw [he]; exact hs) hA hb)
  unfold bub
  simp only
  rcases List.eq_nil_or_concat A' with rfl | ⟨C, p, rfl⟩
  · exact Ok.iteB (fun hx => by simp at hx) (fun _ => hfin (by simp))
  rw [List.concat_eq_append] at *
  have hlc : (C ++ [p]).length = C.length + 1 := by simp
  have hal : C.length + 1 + B'.length = A.length := by rw [← he]; simp; omega
  have hpA : p ∈ A := by rw [← he]; simp
  refine Ok.iteB (fun _ => ?_) (fun hx => by rw [hlc] at hx; simp at hx)
  rw [hlc, wrap_i64 (((C.length + 1 : Nat) : Int) - 1) (by omega), show ((C.length + 1 : Nat) : Int) - 1 = (C.length : Int) by omega]
  have e0 : C ++ [p] ++ x :: B' = C ++ p :: x :: B' := by simp
  have g1 : (C ++ [p] ++ x :: B')[C.length + 1]'(by simp) = x := by
    rw [List.getElem_append_right (by simp)]; simp
  have g2 : (C ++ [p] ++ x :: B')[C.length]'(by simp) = p := by simp
  refine Ok.bind (Ok.idxN (by simp) ?_)
  rw [g1]
  refine Ok.bind (Ok.idxN (by simp) ?_)
  rw [g2]
  have s1 : List.set (C ++ [p] ++ x :: B') (C.length + 1) p = C ++ p :: p :: B' := by
    rw [List.set_append_right _ _ (by simp)]; simp
  have s2 : List.set (C ++ p :: p :: B') C.length x = C ++ x :: p :: B' := by
    rw [List.set_append_right _ _ (Nat.le_refl _)]; simp
  refine Ok.iteB (fun hx => ?_) (fun hx => hfin ?_)
  · simp only [decide_eq_true_eq] at hx
    rw [Int.toNat_natCast, s1]
    refine Ok.bind (Ok.idxN (by simp) ?_)
    rw [Int.toNat_natCast, s2]
    refine hr _ ⟨C, p :: B', rfl, by rw [← he]; simp, fun b hb' => ?_⟩ (by simp only [hlc, Int.toNat_natCast]; omega)
    rcases List.mem_cons.1 hb' with rfl | hb'
    · exact hx
    · exact hb b hb'
  · simp only [decide_eq_false_iff_not] at hx
    have hpx : key p < key x := by have := hne p hpA; omega
    intro q hq
    rcases List.mem_append.1 hq with hq | hq
    · have h1 : ((C ++ [p]) ++ B').Pairwise (fun p q => key p < key q) := by rw [he]; exact hs
      have h2 := (List.pairwise_append.1 (List.pairwise_append.1 h1).1).2.2 q hq p (by simp)
      omega
    · rw [List.mem_singleton] at hq; rw [hq]; exact hpx
def kn (a : List α) (p : α → Bool) (fin : Bool → Option R) (rec : Bool × Int → Option R) : Bool × Int → Option R :=
  fun (known, k) =>
  (if (decide (k < (List.length a : Int))) = true then (if known = true then rec (true, IntKind.i64.wrap (k + 1))
  else bindO (idx a k) (fun (x : α) =>
  rec (p x, IntKind.i64.wrap (k + 1))))
  else fin known)
theorem kn_ok {a : List α} {p : α → Bool} {fin : Bool → Option R} {Q : R → Prop} (hl : a.length < 1000000) (h : Ok (fin (a.any p)) Q) : Ok (loopK (kn a p fin) rounds (false, 0)) Q := by
  refine Ok.loop0 (fun s => ∃ k : Nat, s = ((a.take k).any p, (k : Int)) ∧ k ≤ a.length) (fun s => a.length - s.2.toNat) ?_ ⟨0, by simp, Nat.zero_le _⟩ (by simp only [rounds]; omega)
  rintro rec s ⟨k, rfl, hk⟩ hr
  unfold kn
  simp only
  refine Ok.iteB (fun hc => ?_) (fun hc => ?_)
  · simp only [decide_eq_true_eq] at hc
    have hlt : k < a.length := by omega
    rw [wrap_i64 ((k : Int) + 1) (by omega)]
    have e : (a.take (k + 1)).any p = ((a.take k).any p || p a[k]) := by rw [List.take_succ_eq_append_getElem hlt, List.any_append]; simp only [List.any_cons, List.any_nil, Bool.or_false]
    refine Ok.iteB (fun hx => hr _ ⟨k + 1, by rw [e, hx]; simp, by omega⟩ (by simp only; omega)) (fun hx => Ok.bind (Ok.idxN hlt (hr _ ⟨k + 1, by rw [e, hx]; simp, by omega⟩ (by simp only; omega))))
  · simp only [decide_eq_false_iff_not] at hc
    have : k = a.length := by omega
    rw [this, List.take_length]; exact h
end
theorem mem_mid {α : Type} {A B C : List α} {x y : α} (h : A ++ B = C) : y ∈ A ++ x :: B ↔ y = x ∨ y ∈ C := by
  rw [← h]; simp only [List.mem_append, List.mem_cons]
  constructor
  · rintro (h | h | h)
    · exact .inr (.inl h)
    · exact .inl h
    · exact .inr (.inr h)
  · rintro (h | h | h)
    · exact .inr (.inl h)
    · exact .inl h
    · exact .inr (.inr h)
/-! The document's rows. -/
theorem Rows_ref {l : List GOut} {node a b : Int} (hl : l.length ≤ 200) (hf : ∀ o ∈ l, fits o.Rec.V) : Ok (f_backwashref32_Rows l node a b) (fun rs => Right (recs l node a b) rs ∧ rs.length ≤ l.length) := by
  unfold f_backwashref32_Rows
  refine Ok.each (l := l) (by omega) (fun i s => s.Pairwise (fun p q => p.K < q.K) ∧ (∀ r ∈ s, RowOf (vals (recs l node a b) r.K) r) ∧ (∀ x ∈ recs (l.take i) node a b, ∃ r ∈ s, r.K = x.K) ∧ s.length ≤ i) 0 (fun rec i hi s _ hs hr => ?_) (fun rec s hs => ?_) ⟨by simp, by simp, by simp [recs], by simp⟩ (Nat.zero_le _)
  · obtain ⟨h1, h2, h3, h4⟩ := hs
    have hin : f_backwashref32_in l[i] node a b = some (hit node a b l[i]) := rfl
    unfold f_backwashref32_Rows_B1
    simp only
    refine Ok.iteB (fun _ => Ok.bind (Ok.idxN hi (Ok.bind (Ok.of_eq hin ?_)))) (fun hx => by simp only [decide_eq_false_iff_not] at hx; omega)
    rw [wrap_i64 ((i : Int) + 1) (by omega)]
    refine Ok.iteB (fun hx => hr _ ⟨h1, h2, ?_, by omega⟩) (fun hx => ?_)
    · rw [recs_take hi, if_neg (by simpa using hx), List.append_nil]; exact h3
    · have hh : hit node a b l[i] = true := by simpa using hx
      have hin2 : l[i].Rec ∈ recs l node a b := List.mem_map.2 ⟨l[i], List.mem_filter.2 ⟨List.getElem_mem hi, hh⟩, rfl⟩
      refine kn_ok (a := s) (p := fun x => x.K == l[i].Rec.K) (fin := f_backwashref32_Rows_J2 l node a b (i : Int) s rec l[i]) (by omega) ?_
      unfold f_backwashref32_Rows_J2
      refine Ok.iteB (fun hk => ?_) (fun hk => ?_)
      · have hk' : ∀ r ∈ s, r.K ≠ l[i].Rec.K := by simpa using hk
        refine Ok.bind2 (row_ref hl hf (fun e => by have := vals_in hin2; rw [e] at this; cases this)) fun r ⟨r1, r2⟩ => Ok.guard (by simp; omega) ?_
        rw [show IntKind.i64.wrap ((List.length (s ++ ([r] : List GRow)) : Int) - 1) = (s.length : Int) by rw [wrap_i64 _ (by simp; omega)]; simp]
        refine bub_ok (key := fun x : GRow => x.K) (fin := fun x => rec (IntKind.i64.wrap ((i : Int) + 1), x)) (A := s) (x := r) (by omega) h1 (fun p hp => by rw [r1]; exact hk' p hp) fun A' B' e hp => ?_
        rw [wrap_i64 ((i : Int) + 1) (by omega)]
        refine hr _ ⟨hp, ?_, ?_, ?_⟩
        · intro q hq
          rcases (mem_mid e).1 hq with rfl | hq
          · rw [r1]; exact r2
          · exact h2 q hq
        · intro x hx2
          rw [recs_take hi, if_pos hh] at hx2
          rcases List.mem_append.1 hx2 with hx2 | hx2
          · obtain ⟨q, hq, hqe⟩ := h3 x hx2
            exact ⟨q, (mem_mid e).2 (.inr hq), hqe⟩
          · rw [List.mem_singleton] at hx2
            exact ⟨r, (mem_mid e).2 (.inl rfl), by rw [r1, hx2]⟩
        · have := congrArg List.length e
          simp only [List.length_append, List.length_cons] at this ⊢; omega
      · have hk' : ∃ r ∈ s, r.K = l[i].Rec.K := by simpa using hk
        rw [wrap_i64 ((i : Int) + 1) (by omega)]
        refine hr _ ⟨h1, h2, ?_, by omega⟩
        intro x hx2
        rw [recs_take hi, if_pos hh] at hx2
        rcases List.mem_append.1 hx2 with hx2 | hx2
        · exact h3 x hx2
        · rw [List.mem_singleton] at hx2
          obtain ⟨r, hr1, hr2⟩ := hk'
          exact ⟨r, hr1, by rw [hr2, hx2]⟩
  · obtain ⟨h1, h2, h3, h4⟩ := hs
    unfold f_backwashref32_Rows_B1
    simp only
    refine Ok.iteB (fun hx => by simp only [decide_eq_true_eq] at hx; omega) (fun _ => Ok.some ⟨⟨h1, h2, ?_⟩, h4⟩)
    rw [List.take_length] at h3; exact h3
end QY
end Go.Proofs.Ythpahhhdapdcpaa

