/-
  The law in plain words: what its plain function gives is true. No condition beyond those that each theorem names.
-/
import Derived.Test.YtgegekpefakacaaGreatWalkUS0
import Derived.Test.YtgegekpefakacaaGreatP05b
namespace Go.Proofs.YtgegekpefakacaaGreat
open Go Go.RowKit
theorem jg1 {α σ τ R : Type} {l : List α} (hl : l.length < 9223372036854775807) {body : (τ → Option R) → τ → Option R} (st : Int → σ → τ) (ix : τ → Int) (hix : ∀ i s, ix (st i s) = i) (I : Nat → σ → Prop) {Q : R → Prop} {s0 : σ} (i0 : Nat)
  (h : ∀ (rec : τ → Option R) (i : Nat) (_ : i < l.length) s, i0 ≤ i → I i s → (∀ s', I (i + 1) s' → Ok (rec (st ((i + 1 : Nat) : Int) s')) Q) → Ok (body rec (st (i : Int) s)) Q)
  (hK : ∀ (rec : τ → Option R) s, I l.length s → Ok (body rec (st (l.length : Int) s)) Q) (h0 : I i0 s0) (hi0 : i0 ≤ l.length) : Ok (x8 body rounds (st (i0 : Int) s0)) Q := by
 refine jf7 (fun t => ∃ (i : Nat) (s : σ), t = st (i : Int) s ∧ i0 ≤ i ∧ i ≤ l.length ∧ I i s) (fun t => l.length - (ix t).toNat) ?_ ⟨i0, s0, rfl, Nat.le_refl _, hi0, h0⟩ (by simp only [rounds]; omega); rintro rec _ ⟨i, s, rfl, h1, h2, h3⟩ hr; rcases Nat.lt_or_ge i l.length with hlt | hge
 · exact h rec i hlt s h1 h3 fun s' hs' => hr _ ⟨i + 1, s', rfl, by omega, by omega, hs'⟩ (by rw [hix, hix]; simp only [Int.toNat_natCast]; omega)
 ·
  obtain rfl : i = l.length := by omega
  exact hK rec s h3
namespace BG
open Classical in
theorem Right_eq {b : List GItem} (hl : b.length < 1000000000) : q1k b = some (decide (Rt b)) := by
 obtain ⟨r, h1, h2⟩ := q8r hl; rw [h1]; congr 1; rw [Bool.eq_iff_iff, h2, decide_eq_true_eq]
theorem Rt.take {b : List GItem} (h : Rt b) (i : Nat) : Rt (b.take i) := ⟨h.inc.sublist (List.take_sublist _ _), fun x hx => h.num x (List.mem_of_mem_take hx)⟩
def form (A B : List GItem) (r : GRec) (n : Int) : List GItem := match B with
 | [] => A ++ [⟨r, n⟩]
 | x :: B' => if x.Rec = r then (if -2147483648 ≤ x.N + n ∧ x.N + n ≤ 2147483648 then (if x.N + n = 0 then A ++ B' else A ++ ⟨r, x.N + n⟩ :: B') else A ++ x :: B') else A ++ ⟨r, n⟩ :: x :: B'
theorem split {b : List GItem} (r : GRec) (h : b.Pairwise (fun p q => lt p.Rec q.Rec)) (hl : b.length < 1000000000) : ∃ A B, b = A ++ B ∧ (∀ x ∈ A, lt x.Rec r) ∧ (∀ x ∈ B, ¬ lt x.Rec r) := by
 obtain ⟨v, _, A, B, h1, h2, h3, _⟩ := z5v (r := r) h hl; exact ⟨A, B, h1, h2, h3⟩
theorem j0h {A B A' B' : List GItem} {r : GRec} (h : A ++ B = A' ++ B') (h1 : ∀ x ∈ A, lt x.Rec r) (h2 : ∀ x ∈ B, ¬ lt x.Rec r) (h3 : ∀ x ∈ A', lt x.Rec r) (h4 : ∀ x ∈ B', ¬ lt x.Rec r) : A = A' ∧ B = B' := by
 rcases List.append_eq_append_iff.1 h with ⟨C, e1, e2⟩ | ⟨C, e1, e2⟩
 ·
  cases C with
  | nil => simp only [List.append_nil] at e1; simp only [List.nil_append] at e2; exact ⟨e1.symm, e2⟩
  | cons c C => exact absurd (h3 c (by rw [e1]; simp)) (h2 c (by rw [e2]; simp))
 ·
  cases C with
  | nil => simp only [List.append_nil] at e1; simp only [List.nil_append] at e2; exact ⟨e1, e2.symm⟩
  | cons c C => exact absurd (h1 c (by rw [e1]; simp)) (h4 c (by rw [e2]; simp))
theorem j2r {A B : List GItem} {r : GRec} {n : Int} (h : Rt (A ++ B)) (hA : ∀ x ∈ A, lt x.Rec r) (hB : ∀ x ∈ B, ¬ lt x.Rec r) (hl : (A ++ B).length < 100000000) (hn : -2147483648 ≤ n ∧ n ≤ 2147483648) (hn0 : n ≠ 0) :
  q45 (A ++ B) r n = some (form A B r n) := by
 refine jf8 ?_; unfold q45; refine jf4 (z5v h.inc (by omega)) fun v ⟨A', B', he, hA', hB', h1, h2⟩ => ?_; obtain ⟨rfl, rfl⟩ := j0h he hA hB hA' hB'; refine jf5 (fun h0 => by simp only [beq_iff_eq] at h0; exact absurd h0 hn0) (fun h0 => Ok.bind (jf9 (z6g n) (jf5 (fun hx => by simp only [Bool.not_eq_true', decide_eq_false_iff_not] at hx; omega) (fun _ => ?_)))); have hlen : (A ++ B).length = A.length + B.length := by simp
 rw [h1, h2]; have hins : Ok (q9 (q1q (A ++ B) (A.length : Int) ([(⟨r, n⟩ : GItem)] : List GItem)) (fun (v_2 : List GItem) => some v_2)) (fun c => c = A ++ ⟨r, n⟩ :: B) := by
  unfold q1q z00; refine Ok.bind (Ok.guard ⟨by omega, by omega, by simp, by simp; omega, by unfold maxLen; simp; omega⟩ (Ok.some (Ok.some ?_))); rw [Int.toNat_natCast, List.take_left, List.drop_left]; simp
 cases B with
 | nil => exact jf5 (fun _ => hins) (fun hx => by simp at hx)
 | cons x B =>
  simp only; refine jf5 (fun hx => ?_) (fun hx => ?_)
  · simp only [Bool.not_eq_true', decide_eq_false_iff_not] at hx; simp only [form, if_neg hx]; exact hins
  ·
   simp only [Bool.not_eq_false', decide_eq_true_eq] at hx; simp only [form, if_pos hx]; have hg : (A ++ x :: B)[A.length]'(by simp) = x := by simp
   have hxn := h.num x (by simp); have hw : IntKind.i64.wrap (x.N + n) = x.N + n := wrap_i64 _ (by omega); refine Ok.bind (jf6 (by simp) ?_); rw [hg, hw]; refine jf5 (fun hz => ?_) (fun hz => Ok.bind (jf9 (z6g _) (jf5 (fun hm => Ok.some ?_) (fun hm => Ok.some ?_))))
   · simp only [beq_iff_eq] at hz; unfold q6h z1k; rw [wrap_i64 _ (by omega), if_pos (by omega), if_pos hz]; refine Ok.bind (Ok.guard ⟨by omega, by omega, by simp; omega⟩ (Ok.some (Ok.some ?_))); rw [Int.toNat_natCast, show ((A.length : Int) + 1).toNat = A.length + 1 by omega, List.take_left, List.drop_append]; simp
   · simp only [beq_eq_false_iff_ne, ne_eq] at hz; simp only [decide_eq_true_eq] at hm; rw [if_pos hm, if_neg hz, Int.toNat_natCast, List.set_append_right _ _ (Nat.le_refl _)]; subst hx; simp
   · simp only [decide_eq_false_iff_not] at hm; rw [if_neg hm]
def ad (b : List GItem) (r : GRec) (n : Int) : List GItem := (qf2 b r n).getD b
theorem zj3 {a b : List GItem} (ha : a.length < 1000000000) (hb : b.length < 1000000000) : Ok (q2w a b) (fun r => (a = b → r = true)) := by
 unfold q2w; refine jf5 (fun hx => Ok.some fun h => by simp [h] at hx) (fun hx => ?_); have hlen : a.length = b.length := by simp at hx; omega
 refine jg0 (l := a) (by omega) (fun _ => True) 0 (fun rec i hi _ _ hr => ?_) (fun rec _ => ?_) trivial (Nat.zero_le _)
 ·
  unfold q7w; refine jf5 (fun _ => Ok.bind (jf6 hi (Ok.bind (jf6 (by omega) (jf5 (fun hx => Ok.some fun h => ?_) (fun _ => ?_)))))) (fun hx => by simp only [decide_eq_false_iff_not] at hx; omega)
  · subst h; simp at hx
  · rw [wrap_i64 ((i : Int) + 1) (by omega)]; exact hr trivial
 · unfold q7w; exact jf5 (fun hx => by simp only [decide_eq_true_eq] at hx; omega) (fun _ => Ok.some fun _ => rfl)
end BG
end Go.Proofs.YtgegekpefakacaaGreat
