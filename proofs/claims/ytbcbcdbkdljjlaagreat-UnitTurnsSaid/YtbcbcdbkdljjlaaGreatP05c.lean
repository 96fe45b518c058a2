/-
  The law in plain words: what its plain function gives is true. No condition beyond those that each theorem names.
-/
import Derived.Test.YtbcbcdbkdljjlaaGreatWalkUT0
import Derived.Test.YtbcbcdbkdljjlaaGreatP05b
set_option linter.unusedSimpArgs false
set_option linter.unusedVariables false
set_option linter.unusedSectionVars false
namespace Go.Proofs.YtbcbcdbkdljjlaaGreat
open Go Go.RowKit
theorem Ok.eachG {α σ τ R : Type} {l : List α} (hl : l.length < 9223372036854775807) {body : (τ → Option R) → τ → Option R} (st : Int → σ → τ) (ix : τ → Int) (hix : ∀ i s, ix (st i s) = i) (I : Nat → σ → Prop) {Q : R → Prop} {s0 : σ} (i0 : Nat)
    (h : ∀ (rec : τ → Option R) (i : Nat) (_ : i < l.length) s, i0 ≤ i → I i s → (∀ s', I (i + 1) s' → Ok (rec (st ((i + 1 : Nat) : Int) s')) Q) → Ok (body rec (st (i : Int) s)) Q)
    (hK : ∀ (rec : τ → Option R) s, I l.length s → Ok (body rec (st (l.length : Int) s)) Q) (h0 : I i0 s0) (hi0 : i0 ≤ l.length) : Ok (p9 body rounds (st (i0 : Int) s0)) Q := by
  refine Ok.loop0 (fun t => ∃ (i : Nat) (s : σ), t = st (i : Int) s ∧ i0 ≤ i ∧ i ≤ l.length ∧ I i s) (fun t => l.length - (ix t).toNat) ?_ ⟨i0, s0, rfl, Nat.le_refl _, hi0, h0⟩ (by simp only [rounds]; omega); rintro rec _ ⟨i, s, rfl, h1, h2, h3⟩ hr; rcases Nat.lt_or_ge i l.length with hlt | hge
  · exact h rec i hlt s h1 h3 fun s' hs' => hr _ ⟨i + 1, s', rfl, by omega, by omega, hs'⟩ (by rw [hix, hix]; simp only [Int.toNat_natCast]; omega)
  · obtain rfl : i = l.length := by omega
    exact hK rec s h3
namespace BG
open Classical in
theorem Right_eq {b : List GItem} (hl : b.length < 1000000000) : q1c b = some (decide (Rt b)) := by
  obtain ⟨r, h1, h2⟩ := zc2 hl; rw [h1]; congr 1; rw [Bool.eq_iff_iff, h2, decide_eq_true_eq]
theorem z06 (x y : GRec) : q7o x y = some (decide (lt x y)) := by
  simp only [q7o]; congr 1; rw [Bool.eq_iff_iff, decide_eq_true_eq]; unfold lt; simp
theorem Rt.take {b : List GItem} (h : Rt b) (i : Nat) : Rt (b.take i) := ⟨h.inc.sublist (List.take_sublist _ _), fun x hx => h.num x (List.mem_of_mem_take hx)⟩
open Classical in
theorem z2r {b : List GItem} (hl : b.length < 1000000000) : qa8 b = some (decide (Rt b)) := by
  refine Ok.eq ?_; unfold qa8; refine Ok.each1 (l := b) (by omega) (fun i => Rt (b.take i)) 0 (fun rec i hi _ hI hr => ?_) (fun rec hI => ?_) (by simpa using Rt.nil) (Nat.zero_le _)
  · unfold q5y
    have hmem : b[i] ∈ b := List.getElem_mem hi; have no : ¬ Rt b → Ok (some false) (fun r => r = decide (Rt b)) := fun h => Ok.some (decide_eq_false h).symm; have hext : b[i].N ≠ 0 → (-2147483648 ≤ b[i].N ∧ b[i].N ≤ 2147483648) → (∀ x ∈ b.take i, lt x.Rec b[i].Rec) → Rt (b.take (i + 1)) := fun h1 h2 h3 => by
      rw [List.take_succ_eq_append_getElem hi]; refine ⟨List.pairwise_append.2 ⟨hI.inc, by simp, fun x hx y hy => ?_⟩, fun x hx => ?_⟩
      · rw [List.mem_singleton] at hy; rw [hy]; exact h3 x hx
      · rcases List.mem_append.1 hx with hx | hx
        · exact hI.num x hx
        · rw [List.mem_singleton] at hx; rw [hx]; exact ⟨h1, h2⟩
    rw [wrap_i64 ((i : Int) + 1) (by omega)]; refine Ok.iteB (fun _ => Ok.bind (Ok.idxN hi (Ok.iteB (fun hx => no ?_) (fun hx => Ok.iteB (fun hy => no ?_) (fun hy => Ok.iteB (fun hz => no ?_) (fun hz => Ok.iteB (fun h0 => ?_) (fun h0 => ?_))))))) (fun hx => by simp only [decide_eq_false_iff_not] at hx; omega)
    · simp only [beq_iff_eq] at hx
      exact fun h => (h.num _ hmem).1 hx
    · simp only [decide_eq_true_eq] at hy
      exact fun h => by have := (h.num _ hmem).2; omega
    · simp only [decide_eq_true_eq] at hz
      exact fun h => by have := (h.num _ hmem).2; omega
    · simp only [decide_eq_true_eq] at h0
      simp only [beq_eq_false_iff_ne, ne_eq] at hx; simp only [decide_eq_false_iff_not] at hy hz; rw [wrap_i64 ((i : Int) - 1) (by omega), show (i : Int) - 1 = ((i - 1 : Nat) : Int) by omega]; refine Ok.bind (Ok.idxN (by omega) (Ok.bind (Ok.of_eq (z06 _ _) (Ok.iteB (fun hl => no fun h => ?_) (fun hl => hr (hext hx (by omega) fun x hx => ?_))))))
      · simp only [Bool.not_eq_true', decide_eq_false_iff_not] at hl
        exact absurd ((List.pairwise_iff_getElem.1 h.inc) (i - 1) i (by omega) hi (by omega)) hl
      · simp only [Bool.not_eq_false', decide_eq_true_eq] at hl
        obtain ⟨j, hj, rfl⟩ := List.mem_iff_getElem.1 hx; rw [List.length_take] at hj; rw [List.getElem_take]; rcases Nat.lt_or_ge j (i - 1) with h | h
        · have := (List.pairwise_iff_getElem.1 hI.inc) j (i - 1) (by rw [List.length_take]; omega) (by rw [List.length_take]; omega) h
          rw [List.getElem_take, List.getElem_take] at this; exact z0z this hl
        · have : j = i - 1 := by omega
          subst this; exact hl
    · simp only [decide_eq_false_iff_not] at h0 hy hz
      simp only [beq_eq_false_iff_ne, ne_eq] at hx; have : i = 0 := by omega
      subst this; exact hr (hext hx (by omega) (by simp))
  · unfold q5y
    refine Ok.iteB (fun hx => by simp only [decide_eq_true_eq] at hx; omega) (fun _ => Ok.some ?_); rw [List.take_length] at hI; exact (decide_eq_true hI).symm
def form (A B : List GItem) (r : GRec) (n : Int) : List GItem := match B with
  | [] => A ++ [⟨r, n⟩]
  | x :: B' => if x.Rec = r then (if -2147483648 ≤ x.N + n ∧ x.N + n ≤ 2147483648 then (if x.N + n = 0 then A ++ B' else A ++ ⟨r, x.N + n⟩ :: B') else A ++ x :: B') else A ++ ⟨r, n⟩ :: x :: B'
theorem split {b : List GItem} (r : GRec) (h : b.Pairwise (fun p q => lt p.Rec q.Rec)) (hl : b.length < 1000000000) : ∃ A B, b = A ++ B ∧ (∀ x ∈ A, lt x.Rec r) ∧ (∀ x ∈ B, ¬ lt x.Rec r) := by
  obtain ⟨v, _, A, B, h1, h2, h3, _⟩ := z2l (r := r) h hl; exact ⟨A, B, h1, h2, h3⟩
def ad (b : List GItem) (r : GRec) (n : Int) : List GItem := (qa7 b r n).getD b
theorem z09 {a b : List GItem} (ha : a.length < 1000000000) (hb : b.length < 1000000000) : Ok (q1u a b) (fun r => (a = b → r = true)) := by
  unfold q1u; refine Ok.iteB (fun hx => Ok.some fun h => by simp [h] at hx) (fun hx => ?_); have hlen : a.length = b.length := by simp at hx; omega
  refine Ok.each1 (l := a) (by omega) (fun _ => True) 0 (fun rec i hi _ _ hr => ?_) (fun rec _ => ?_) trivial (Nat.zero_le _)
  · unfold q3k
    refine Ok.iteB (fun _ => Ok.bind (Ok.idxN hi (Ok.bind (Ok.idxN (by omega) (Ok.iteB (fun hx => Ok.some fun h => ?_) (fun _ => ?_)))))) (fun hx => by simp only [decide_eq_false_iff_not] at hx; omega)
    · subst h; simp at hx
    · rw [wrap_i64 ((i : Int) + 1) (by omega)]
      exact hr trivial
  · unfold q3k
    exact Ok.iteB (fun hx => by simp only [decide_eq_true_eq] at hx; omega) (fun _ => Ok.some fun _ => rfl)
end BG
end Go.Proofs.YtbcbcdbkdljjlaaGreat
