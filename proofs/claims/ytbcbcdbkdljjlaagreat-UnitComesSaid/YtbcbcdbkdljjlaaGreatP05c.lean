/-
  The law in plain words: what its plain function gives is true. No condition beyond those that each theorem names.
-/
import Derived.Test.YtbcbcdbkdljjlaaGreatWalkUC0
import Derived.Test.YtbcbcdbkdljjlaaGreatP05b
set_option linter.unusedSimpArgs false
set_option linter.unusedVariables false
set_option linter.unusedSectionVars false
namespace Go.Proofs.YtbcbcdbkdljjlaaGreat
open Go Go.RowKit
theorem Ok.eachG {α σ τ R : Type} {l : List α} (hl : l.length < 9223372036854775807) {body : (τ → Option R) → τ → Option R} (st : Int → σ → τ) (ix : τ → Int) (hix : ∀ i s, ix (st i s) = i) (I : Nat → σ → Prop) {Q : R → Prop} {s0 : σ} (i0 : Nat)
    (h : ∀ (rec : τ → Option R) (i : Nat) (_ : i < l.length) s, i0 ≤ i → I i s → (∀ s', I (i + 1) s' → Ok (rec (st ((i + 1 : Nat) : Int) s')) Q) → Ok (body rec (st (i : Int) s)) Q)
    (hK : ∀ (rec : τ → Option R) s, I l.length s → Ok (body rec (st (l.length : Int) s)) Q) (h0 : I i0 s0) (hi0 : i0 ≤ l.length) : Ok (p9 body rounds (st (i0 : Int) s0)) Q := by
  refine Ok.loop0 (fun t => ∃ (i : Nat) (s : σ), t = st (i : Int) s ∧ i0 ≤ i ∧ i ≤ l.length ∧ I i s) (fun t => l.length - (ix t).toNat) ?_ ⟨i0, s0, rfl, Nat.le_refl _, hi0, h0⟩ (by simp only [rounds]; omega); rintro rec _ ⟨i, s, rfl, h1, h2, h3⟩ hr; rcases Nat.lt_or_ge i l.length with hlt | hge
  · exact h rec i hlt s h1 h3 fun s' hs' => hr _ ⟨i + 1, s', rfl, by omega, by omega, hs'⟩ (by rw [hix, hix]; simp only [Int.toNat_natCast]; omega)
  · obtain rfl : i = l.length := by omega
    exact hK rec s h3
namespace BG
open Classical in
theorem Right_eq {b : List GItem} (hl : b.length < 1000000000) : q1f b = some (decide (Rt b)) := by
  obtain ⟨r, h1, h2⟩ := z8d hl; rw [h1]; congr 1; rw [Bool.eq_iff_iff, h2, decide_eq_true_eq]
theorem rless_eq (x y : GRec) : q48 x y = some (decide (lt x y)) := by
  simp only [q48]; congr 1; rw [Bool.eq_iff_iff, decide_eq_true_eq]; unfold lt; simp
theorem Rt.take {b : List GItem} (h : Rt b) (i : Nat) : Rt (b.take i) := ⟨h.inc.sublist (List.take_sublist _ _), fun x hx => h.num x (List.mem_of_mem_take hx)⟩
open Classical in
theorem qf8 {b : List GItem} (hl : b.length < 1000000000) : q1y b = some (decide (Rt b)) := by
  refine Ok.eq ?_; unfold q1y; refine Ok.each1 (l := b) (by omega) (fun i => Rt (b.take i)) 0 (fun rec i hi _ hI hr => ?_) (fun rec hI => ?_) (by simpa using Rt.nil) (Nat.zero_le _)
  · unfold q43
    have hmem : b[i] ∈ b := List.getElem_mem hi; have no : ¬ Rt b → Ok (some false) (fun r => r = decide (Rt b)) := fun h => Ok.some (decide_eq_false h).symm; have hext : b[i].N ≠ 0 → (-2147483648 ≤ b[i].N ∧ b[i].N ≤ 2147483648) → (∀ x ∈ b.take i, lt x.Rec b[i].Rec) → Rt (b.take (i + 1)) := fun h1 h2 h3 => by
      rw [List.take_succ_eq_append_getElem hi]; refine ⟨List.pairwise_append.2 ⟨hI.inc, by simp, fun x hx y hy => ?_⟩, fun x hx => ?_⟩
      · rw [List.mem_singleton] at hy; rw [hy]; exact h3 x hx
      · rcases List.mem_append.1 hx with hx | hx
        · exact hI.num x hx
        · rw [List.mem_singleton] at hx; rw [hx]; exact ⟨h1, h2⟩
    rw [wrap_i64 ((i : Int) + 1) (by omega)]; refine Ok.iteB (fun _ => Ok.bind (Ok.idxN hi (Ok.iteB (fun hx => no ?_) (fun hx => Ok.iteB (fun hy => no ?_) (fun hy => Ok.iteB (fun hz => no ?_) (fun hz => Ok.iteB (fun h0 => ?_) (fun h0 => ?_))))))) (fun hx => by simp only [decide_eq_false_iff_not] at hx; omega)
    · simp only [beq_iff_eq] at hx
      exact fun h => (h.num _ hmem).1 hx
    · simp only [decide_eq_true_eq] at hy
      exact fun h => by have := (h.num _ hmem).2; omega
    · simp only [decide_eq_true_eq] at hz
      exact fun h => by have := (h.num _ hmem).2; omega
    · simp only [decide_eq_true_eq] at h0
      simp only [beq_eq_false_iff_ne, ne_eq] at hx; simp only [decide_eq_false_iff_not] at hy hz; rw [wrap_i64 ((i : Int) - 1) (by omega), show (i : Int) - 1 = ((i - 1 : Nat) : Int) by omega]; refine Ok.bind (Ok.idxN (by omega) (Ok.bind (Ok.of_eq (rless_eq _ _) (Ok.iteB (fun hl => no fun h => ?_) (fun hl => hr (hext hx (by omega) fun x hx => ?_))))))
      · simp only [Bool.not_eq_true', decide_eq_false_iff_not] at hl
        exact absurd ((List.pairwise_iff_getElem.1 h.inc) (i - 1) i (by omega) hi (by omega)) hl
      · simp only [Bool.not_eq_false', decide_eq_true_eq] at hl
        obtain ⟨j, hj, rfl⟩ := List.mem_iff_getElem.1 hx; rw [List.length_take] at hj; rw [List.getElem_take]; rcases Nat.lt_or_ge j (i - 1) with h | h
        · have := (List.pairwise_iff_getElem.1 hI.inc) j (i - 1) (by rw [List.length_take]; omega) (by rw [List.length_take]; omega) h
          rw [List.getElem_take, List.getElem_take] at this; exact qt7 this hl
        · have : j = i - 1 := by omega
          subst this; exact hl
    · simp only [decide_eq_false_iff_not] at h0 hy hz
      simp only [beq_eq_false_iff_ne, ne_eq] at hx; have : i = 0 := by omega
      subst this; exact hr (hext hx (by omega) (by simp))
  · unfold q43
    refine Ok.iteB (fun hx => by simp only [decide_eq_true_eq] at hx; omega) (fun _ => Ok.some ?_); rw [List.take_length] at hI; exact (decide_eq_true hI).symm
def form (A B : List GItem) (r : GRec) (n : Int) : List GItem := match B with
  | [] => A ++ [⟨r, n⟩]
  | x :: B' => if x.Rec = r then (if -2147483648 ≤ x.N + n ∧ x.N + n ≤ 2147483648 then (if x.N + n = 0 then A ++ B' else A ++ ⟨r, x.N + n⟩ :: B') else A ++ x :: B') else A ++ ⟨r, n⟩ :: x :: B'
theorem split {b : List GItem} (r : GRec) (h : b.Pairwise (fun p q => lt p.Rec q.Rec)) (hl : b.length < 1000000000) : ∃ A B, b = A ++ B ∧ (∀ x ∈ A, lt x.Rec r) ∧ (∀ x ∈ B, ¬ lt x.Rec r) := by
  obtain ⟨v, _, A, B, h1, h2, h3, _⟩ := z0f (r := r) h hl; exact ⟨A, B, h1, h2, h3⟩
theorem zd6 {A B A' B' : List GItem} {r : GRec} (h : A ++ B = A' ++ B') (h1 : ∀ x ∈ A, lt x.Rec r) (h2 : ∀ x ∈ B, ¬ lt x.Rec r) (h3 : ∀ x ∈ A', lt x.Rec r) (h4 : ∀ x ∈ B', ¬ lt x.Rec r) : A = A' ∧ B = B' := by
  rcases List.append_eq_append_iff.1 h with ⟨C, e1, e2⟩ | ⟨C, e1, e2⟩
  · cases C with
    | nil => simp only [List.append_nil] at e1; simp only [List.nil_append] at e2; exact ⟨e1.symm, e2⟩
    | cons c C => exact absurd (h3 c (by rw [e1]; simp)) (h2 c (by rw [e2]; simp))
  · cases C with
    | nil => simp only [List.append_nil] at e1; simp only [List.nil_append] at e2; exact ⟨e1, e2.symm⟩
    | cons c C => exact absurd (h1 c (by rw [e1]; simp)) (h4 c (by rw [e2]; simp))
theorem zi8 {A B : List GItem} {r : GRec} {n : Int} (h : Rt (A ++ B)) (hA : ∀ x ∈ A, lt x.Rec r) (hB : ∀ x ∈ B, ¬ lt x.Rec r) (hl : (A ++ B).length < 100000000) (hn : -2147483648 ≤ n ∧ n ≤ 2147483648) (hn0 : n ≠ 0) :
    q46 (A ++ B) r n = some (form A B r n) := by
  refine Ok.eq ?_; unfold q46; refine Ok.bind2 (z0f h.inc (by omega)) fun v ⟨A', B', he, hA', hB', h1, h2⟩ => ?_; obtain ⟨rfl, rfl⟩ := zd6 he hA hB hA' hB'; refine Ok.iteB (fun h0 => by simp only [beq_iff_eq] at h0; exact absurd h0 hn0) (fun h0 => Ok.bind (Ok.of_eq (z0p n) (Ok.iteB (fun hx => by simp only [Bool.not_eq_true', decide_eq_false_iff_not] at hx; omega) (fun _ => ?_)))); have hlen : (A ++ B).length = A.length + B.length := by simp
  rw [h1, h2]; have hins : Ok (w9 (q1h (A ++ B) (A.length : Int) ([(⟨r, n⟩ : GItem)] : List GItem)) (fun (v_2 : List GItem) => some v_2)) (fun c => c = A ++ ⟨r, n⟩ :: B) := by
    unfold q1h qf9; refine Ok.bind (Ok.guard ⟨by omega, by omega, by simp, by simp; omega, by unfold maxLen; simp; omega⟩ (Ok.some (Ok.some ?_))); rw [Int.toNat_natCast, List.take_left, List.drop_left]; simp
  cases B with
  | nil => exact Ok.iteB (fun _ => hins) (fun hx => by simp at hx)
  | cons x B =>
    simp only; refine Ok.iteB (fun hx => ?_) (fun hx => ?_)
    · simp only [Bool.not_eq_true', decide_eq_false_iff_not] at hx
      simp only [form, if_neg hx]; exact hins
    · simp only [Bool.not_eq_false', decide_eq_true_eq] at hx
      simp only [form, if_pos hx]; have hg : (A ++ x :: B)[A.length]'(by simp) = x := by simp
      have hxn := h.num x (by simp); have hw : IntKind.i64.wrap (x.N + n) = x.N + n := wrap_i64 _ (by omega); refine Ok.bind (Ok.idxN (by simp) ?_); rw [hg, hw]; refine Ok.iteB (fun hz => ?_) (fun hz => Ok.bind (Ok.of_eq (z0p _) (Ok.iteB (fun hm => Ok.some ?_) (fun hm => Ok.some ?_))))
      · simp only [beq_iff_eq] at hz
        unfold q5d qp3; rw [wrap_i64 _ (by omega), if_pos (by omega), if_pos hz]; refine Ok.bind (Ok.guard ⟨by omega, by omega, by simp; omega⟩ (Ok.some (Ok.some ?_))); rw [Int.toNat_natCast, show ((A.length : Int) + 1).toNat = A.length + 1 by omega, List.take_left, List.drop_append]; simp
      · simp only [beq_eq_false_iff_ne, ne_eq] at hz
        simp only [decide_eq_true_eq] at hm; rw [if_pos hm, if_neg hz, Int.toNat_natCast, List.set_append_right _ _ (Nat.le_refl _)]; subst hx; simp
      · simp only [decide_eq_false_iff_not] at hm
        rw [if_neg hm]
theorem zl0 {A B : List GItem} {r : GRec} {n : Int} (h : Rt (A ++ B)) (hA : ∀ x ∈ A, lt x.Rec r) (hB : ∀ x ∈ B, ¬ lt x.Rec r) (hl : (A ++ B).length < 100000000) (hn : -2147483648 ≤ n ∧ n ≤ 2147483648) (hn0 : n ≠ 0) : q6n (A ++ B) r n = some (form A B r n) := by
  refine Ok.eq ?_; unfold q6n; refine Ok.bind (Ok.of_eq (z7x (by omega)) (Ok.bind (Ok.of_eq (z8c h (by omega)) (Ok.iteB (fun hx => by cases hx) (fun _ => ?_))))); exact Ok.bind (Ok.of_eq (zi8 h hA hB hl hn hn0) (Ok.some rfl))
theorem recq (x y : GRec) : ((x.K == y.K) && (x.V == y.V)) = decide (x = y) := by
  rw [Bool.eq_iff_iff]; simp only [Bool.and_eq_true, beq_iff_eq, decide_eq_true_eq]; exact ⟨fun h => z6u h.1 h.2, fun h => by rw [h]; exact ⟨rfl, rfl⟩⟩
theorem ze1 {A B : List GItem} {r : GRec} {n : Int} (h : Rt (A ++ B)) (hA : ∀ x ∈ A, lt x.Rec r) (hB : ∀ x ∈ B, ¬ lt x.Rec r) (hl : (A ++ B).length < 100000000) (hn : -2147483648 ≤ n ∧ n ≤ 2147483648) (hn0 : n ≠ 0) : q36 (A ++ B) r n = some (form A B r n) := by
  refine Ok.eq ?_; unfold q36; refine Ok.guard (by simp only [List.length_nil]; omega) (Ok.bind (Ok.of_eq (qf8 (by omega)) (Ok.iteB (fun hx => ?_) (fun _ => ?_))))
  · simp [h] at hx; omega
  have hn00 : (n == 0) = false := by simp [hn0]
  rw [hn00]
  cases B with
  | nil =>
    simp only [List.append_nil] at *; refine Ok.eachG (l := A) (by omega) (fun i (s : Bool × List GItem) => (s.1, i, s.2)) (fun t => t.2.1) (fun _ _ => rfl) (fun i s => s.1 = false ∧ s.2 = A.take i) 0 (fun rec i hi s _ hs hr => ?_) (fun rec s hs => ?_) (s0 := (false, [])) (by simp) (Nat.zero_le _)
    · obtain ⟨d, o⟩ := s
      obtain ⟨hd, ho⟩ := hs; simp only at hd ho; subst hd ho; unfold q1g; have hlt := hA _ (List.getElem_mem hi); have hne : A[i].Rec ≠ r := fun e => q8u r (by rw [e] at hlt; exact hlt); have hge : ¬ lt r A[i].Rec := fun e => q8u r (qt7 e hlt); refine Ok.iteB (fun _ => Ok.bind (Ok.idxN hi ?_)) (fun hx => by simp only [decide_eq_false_iff_not] at hx; omega); rw [recq]; refine Ok.iteB (fun hx => by simp [hne] at hx) (fun _ => Ok.iteB (fun hx => by cases hx) (fun _ => Ok.bind (Ok.of_eq (rless_eq _ _) (Ok.iteB (fun hx => by simp [hge] at hx) (fun _ => ?_))))); unfold q0y; have := (h.num _ (List.getElem_mem hi)).1; refine Ok.iteB (fun _ => Ok.guard (by simp; omega) ?_) (fun hx => by simp [this] at hx); rw [wrap_i64 ((i : Int) + 1) (by omega)]; exact hr (false, _) ⟨rfl, (List.take_succ_eq_append_getElem hi).symm⟩
    · obtain ⟨d, o⟩ := s
      obtain ⟨hd, ho⟩ := hs; simp only at hd ho; subst hd ho; unfold q1g; refine Ok.iteB (fun hx => by simp only [decide_eq_true_eq] at hx; omega) (fun _ => ?_); unfold q4y; refine Ok.iteB (fun _ => Ok.guard (by simp; omega) (Ok.some ?_)) (fun hx => by cases hx); rw [List.take_length]; rfl
  | cons x B =>
    have hlen : (A ++ x :: B).length = A.length + 1 + B.length := by simp; omega
    have hxn := h.num x (by simp); have hw : IntKind.i64.wrap (x.N + n) = x.N + n := wrap_i64 _ (by omega); have hpw := List.pairwise_append.1 h.inc; have hBx := (List.pairwise_cons.1 hpw.2.1).1; have hrx : x.Rec ≠ r → lt r x.Rec := fun hx => by
      rcases ze4 x.Rec r with h | h | h
      · exact absurd h (hB x (by simp))
      · exact absurd h hx
      · exact h
    have hB0 : ∀ y ∈ B, y.Rec ≠ r := fun y hy e => by
      have := hBx y hy; rw [e] at this; exact hB x (by simp) this
    by_cases hfit : x.Rec = r ∧ ¬ (-2147483648 ≤ x.N + n ∧ x.N + n ≤ 2147483648)
    · simp only [form, if_pos hfit.1, if_neg hfit.2]
      refine Ok.eachG (l := A ++ x :: B) (by omega) (fun i (s : Bool × List GItem) => (s.1, i, s.2)) (fun t => t.2.1) (fun _ _ => rfl) (fun i s => i ≤ A.length ∧ s.1 = false ∧ s.2 = A.take i) 0 (fun rec i hi s _ hs hr => ?_) (fun rec s hs => by have := hs.1; omega) (s0 := (false, [])) (by simp) (Nat.zero_le _); obtain ⟨d, o⟩ := s; obtain ⟨hle, hd, ho⟩ := hs; simp only at hd ho; subst hd ho; unfold q1g; refine Ok.iteB (fun _ => Ok.bind (Ok.idxN hi ?_)) (fun hx => by simp only [decide_eq_false_iff_not] at hx; omega); rw [recq]; rcases Nat.lt_or_ge i A.length with hi' | hi'
      · have hlt := hA _ (List.getElem_mem hi')
        rw [List.getElem_append_left hi']; have hne : A[i].Rec ≠ r := fun e => q8u r (by rw [e] at hlt; exact hlt); have hge : ¬ lt r A[i].Rec := fun e => q8u r (qt7 e hlt); refine Ok.iteB (fun hx => by simp [hne] at hx) (fun _ => Ok.iteB (fun hx => by cases hx) (fun _ => Ok.bind (Ok.of_eq (rless_eq _ _) (Ok.iteB (fun hx => by simp [hge] at hx) (fun _ => ?_))))); unfold q0y; have := (h.num _ (List.mem_append_left _ (List.getElem_mem hi'))).1; refine Ok.iteB (fun _ => Ok.guard (by simp; omega) ?_) (fun hx => by simp [this] at hx); rw [wrap_i64 ((i : Int) + 1) (by omega)]; exact hr (false, _) ⟨by omega, rfl, (List.take_succ_eq_append_getElem hi').symm⟩
      · obtain rfl : i = A.length := by omega
        have hg : (A ++ x :: B)[A.length]'(by simp) = x := by simp
        rw [hg, hw]; refine Ok.iteB (fun _ => Ok.iteB (fun _ => Ok.some rfl) (fun hx => ?_)) (fun hx => by simp [hfit.1] at hx); simp at hx; omega
    · obtain ⟨mid, hmid⟩ : ∃ m : List GItem, m = if x.Rec = r then (if x.N + n = 0 then [] else [⟨r, x.N + n⟩]) else [⟨r, n⟩, x] := ⟨_, rfl⟩
      have hform : form A (x :: B) r n = A ++ mid ++ B := by
        simp only [form, hmid]
        by_cases hx : x.Rec = r
        · rw [if_pos hx, if_pos hx, if_pos (Decidable.byContradiction fun hc => hfit ⟨hx, hc⟩)]
          split <;> simp
        · rw [if_neg hx, if_neg hx]; simp
      have hml : mid.length ≤ 2 := by rw [hmid]; split <;> (try split) <;> simp
      rw [hform]; refine Ok.eachG (l := A ++ x :: B) (by omega) (fun i (s : Bool × List GItem) => (s.1, i, s.2)) (fun t => t.2.1) (fun _ _ => rfl) (fun i s => (i ≤ A.length ∧ s.1 = false ∧ s.2 = A.take i) ∨ (A.length < i ∧ s.1 = true ∧ s.2 = A ++ mid ++ B.take (i - (A.length + 1)))) 0 (fun rec i hi s _ hs hr => ?_) (fun rec s hs => ?_) (s0 := (false, [])) (by simp) (Nat.zero_le _)
      · obtain ⟨d, o⟩ := s
        simp only at hs; unfold q1g; refine Ok.iteB (fun _ => Ok.bind (Ok.idxN hi ?_)) (fun hx => by simp only [decide_eq_false_iff_not] at hx; omega); rw [recq]; rcases hs with ⟨hle, rfl, rfl⟩ | ⟨hgt, rfl, rfl⟩
        · rcases Nat.lt_or_ge i A.length with hi' | hi'
          · have hlt := hA _ (List.getElem_mem hi')
            rw [List.getElem_append_left hi']; have hne : A[i].Rec ≠ r := fun e => q8u r (by rw [e] at hlt; exact hlt); have hge : ¬ lt r A[i].Rec := fun e => q8u r (qt7 e hlt); refine Ok.iteB (fun hx => by simp [hne] at hx) (fun _ => Ok.iteB (fun hx => by cases hx) (fun _ => Ok.bind (Ok.of_eq (rless_eq _ _) (Ok.iteB (fun hx => by simp [hge] at hx) (fun _ => ?_))))); unfold q0y; have := (h.num _ (List.mem_append_left _ (List.getElem_mem hi'))).1; refine Ok.iteB (fun _ => Ok.guard (by simp; omega) ?_) (fun hx => by simp [this] at hx); rw [wrap_i64 ((i : Int) + 1) (by omega)]; exact hr (false, _) (.inl ⟨by omega, rfl, (List.take_succ_eq_append_getElem hi').symm⟩)
          · obtain rfl : i = A.length := by omega
            have hg : (A ++ x :: B)[A.length]'(by simp) = x := by simp
            rw [hg, hw]; have hfin : ∀ o, o = A ++ mid → Ok (rec ((true, ((A.length + 1 : Nat) : Int), o))) (fun c => c = A ++ mid ++ B) := fun o ho => hr (true, o) (.inr ⟨by omega, rfl, by rw [ho]; simp⟩); refine Ok.iteB (fun hx => Ok.iteB (fun hy => ?_) (fun hy => ?_)) (fun hx => Ok.iteB (fun hx => by cases hx) (fun _ => Ok.bind (Ok.of_eq (rless_eq _ _) (Ok.iteB (fun _ => Ok.guard (by simp; omega) ?_) (fun hy => ?_)))))
            · simp only [decide_eq_true_eq] at hx
              simp only [Bool.or_eq_true, decide_eq_true_eq] at hy; exact absurd ⟨hx, by omega⟩ hfit
            · simp only [decide_eq_true_eq] at hx
              unfold q0y; rw [wrap_i64 _ (by omega)]; refine Ok.iteB (fun hz => Ok.guard (by simp; omega) (hfin _ ?_)) (fun hz => hfin _ ?_)
              · rw [hmid, if_pos hx, if_neg (by simpa using hz), List.take_length, hx]
              · rw [hmid, if_pos hx, if_pos (by simpa using hz), List.take_length]; simp
            · simp only [decide_eq_false_iff_not] at hx
              unfold q0y; rw [wrap_i64 _ (by omega)]; refine Ok.iteB (fun _ => Ok.guard (by simp; omega) (hfin _ ?_)) (fun hz => by simp [hxn.1] at hz); rw [hmid, if_neg hx, List.take_length]; simp
            · simp only [decide_eq_false_iff_not] at hx hy
              exact absurd (hrx hx) hy
        · have hj : i - (A.length + 1) < B.length := by omega
          have hg : (A ++ x :: B)[i] = B[i - (A.length + 1)] := by
            rw [List.getElem_append_right (by omega), List.getElem_cons]; rw [dif_neg (by omega)]; congr 1
          rw [hg]; have hmB : B[i - (A.length + 1)] ∈ B := List.getElem_mem hj; have := (h.num _ (List.mem_append_right _ (List.mem_cons_of_mem _ hmB))).1; refine Ok.iteB (fun hx => by simp [hB0 _ hmB] at hx) (fun _ => Ok.iteB (fun _ => ?_) (fun hx => by cases hx)); unfold q0y; rw [wrap_i64 ((i : Int) + 1) (by omega)]; refine Ok.iteB (fun _ => Ok.guard (by simp; omega) (hr (true, _) (.inr ⟨by omega, rfl, ?_⟩))) (fun hx => by simp [this] at hx); rw [show i + 1 - (A.length + 1) = (i - (A.length + 1)) + 1 by omega, List.take_succ_eq_append_getElem hj]; simp
      · obtain ⟨d, o⟩ := s
        simp only at hs; unfold q1g; refine Ok.iteB (fun hx => by simp only [decide_eq_true_eq] at hx; omega) (fun _ => ?_); rcases hs with ⟨hle, rfl, rfl⟩ | ⟨hgt, rfl, rfl⟩
        · omega
        unfold q4y; refine Ok.iteB (fun hx => by cases hx) (fun _ => Ok.some ?_); rw [List.take_of_length_le (by omega)]
def ad (b : List GItem) (r : GRec) (n : Int) : List GItem := (q6n b r n).getD b
theorem z1h {b : List GItem} {r : GRec} {n : Int} (h : Rt b) (hl : b.length < 100000000) (hn : -2147483648 ≤ n ∧ n ≤ 2147483648) (hn0 : n ≠ 0) :
    q6n b r n = some (ad b r n) ∧ q36 b r n = some (ad b r n) ∧ Rt (ad b r n) ∧ (ad b r n).length ≤ b.length + 1 ∧ (-2147483648 ≤ cnt b r + n ∧ cnt b r + n ≤ 2147483648 → Put b (ad b r n) r n) := by
  obtain ⟨A, B, rfl, hA, hB⟩ := split r h.inc (by omega); have e := zl0 h hA hB hl hn hn0; have ea : ad (A ++ B) r n = form A B r n := by unfold ad; rw [e]; rfl
  refine ⟨by rw [e, ea], by rw [ze1 h hA hB hl hn hn0, ea], ?_⟩
  by_cases hs : -2147483648 ≤ cnt (A ++ B) r + n ∧ cnt (A ++ B) r + n ≤ 2147483648
  · obtain ⟨c, hc, hp⟩ := zu8 h hl hn hs
    have : c = ad (A ++ B) r n := by unfold ad; rw [hc]; rfl
    rw [← this]; exact ⟨hp.rt, hp.len, fun _ => hp⟩
  · have : form A B r n = A ++ B := by
      cases B with
      | nil => exfalso; apply hs; rw [qz9 (by simpa using fun x hx e => q8u r (by have := hA x hx; rwa [e] at this))]; omega
      | cons x B =>
        simp only [form]
        by_cases hx : x.Rec = r
        · have hc := z3x h.inc (x := x) (by simp)
          rw [hx] at hc; rw [hc] at hs; rw [if_pos hx, if_neg hs]
        · exfalso
          apply hs; have hpw := List.pairwise_append.1 h.inc; have hBx := (List.pairwise_cons.1 hpw.2.1).1; rw [qz9]
          · omega
          · intro y hy e0
            rcases List.mem_append.1 hy with hy | hy
            · exact q8u r (by have := hA y hy; rwa [e0] at this)
            · rcases List.mem_cons.1 hy with rfl | hy
              · exact hx e0
              · have := hBx y hy
                rw [e0] at this; exact hB x (by simp) this
    rw [ea, this]; exact ⟨h, by omega, fun h => absurd h hs⟩
theorem z2e {a b : List GItem} (ha : a.length < 1000000000) (hb : b.length < 1000000000) : Ok (q2b a b) (fun r => (a = b → r = true)) := by
  unfold q2b; refine Ok.iteB (fun hx => Ok.some fun h => by simp [h] at hx) (fun hx => ?_); have hlen : a.length = b.length := by simp at hx; omega
  refine Ok.each1 (l := a) (by omega) (fun _ => True) 0 (fun rec i hi _ _ hr => ?_) (fun rec _ => ?_) trivial (Nat.zero_le _)
  · unfold q4h
    refine Ok.iteB (fun _ => Ok.bind (Ok.idxN hi (Ok.bind (Ok.idxN (by omega) (Ok.iteB (fun hx => Ok.some fun h => ?_) (fun _ => ?_)))))) (fun hx => by simp only [decide_eq_false_iff_not] at hx; omega)
    · subst h; simp at hx
    · rw [wrap_i64 ((i : Int) + 1) (by omega)]
      exact hr trivial
  · unfold q4h
    exact Ok.iteB (fun hx => by simp only [decide_eq_true_eq] at hx; omega) (fun _ => Ok.some fun _ => rfl)
end BG
end Go.Proofs.YtbcbcdbkdljjlaaGreat
