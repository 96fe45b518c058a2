/-
  The law in plain words: what its plain function gives is true. No condition beyond those that each theorem names.
-/
import Derived.Test.YteibkihbdgphnaaGreatWalkMP0
import Derived.Test.YteibkihbdgphnaaGreatWalkMP1
import Derived.Test.YteibkihbdgphnaaGreatP11e
set_option linter.unusedSimpArgs false
set_option linter.unusedVariables false
set_option linter.unusedSectionVars false
open List renaming filter_cons -> Xa, map_cons -> Xb, length_cons -> Xc
namespace Go.Proofs.YteibkihbdgphnaaGreat
open Go Go.RowKit BG
namespace OP
def wsum (f : GRec -> Int) (b : List GItem) : Int := (b.map fun y => y.N * f y.Rec).sum
theorem wsum_cons (f : GRec -> Int) (x : GItem) (b : List GItem) : wsum f (x :: b) = x.N * f x.Rec + wsum f b := rfl
theorem wsum_append (f : GRec -> Int) (a b : List GItem) : wsum f (a ++ b) = wsum f a + wsum f b := by simp [wsum]
def but (r : GRec) (b : List GItem) : List GItem := b.filter fun y => decide (y.Rec ≠ r)
theorem z7o (f : GRec -> Int) (r : GRec) : ∀ b : List GItem, wsum f b = cnt b r * f r + wsum f (but r b)
 | [] => by simp [wsum, cnt, but]
 | x :: b => by
  have ih := z7o f r b; rw [wsum_cons, ih]; unfold but; rw [Xa]
  by_cases h : x.Rec = r
  .
   rw [if_neg (by simp [h])]; have e : cnt (x :: b) r = x.N + cnt b r := by simp only [cnt]; rw [if_pos h]
   rw [e, h, Int.add_mul]; unfold but at ih; omega
  . rw [if_pos (by simp [h]), wsum_cons]; simp only [cnt, if_neg h, Int.zero_add]; omega
theorem zv4 (r s : GRec) : ∀ b : List GItem, cnt (but r b) s = if s = r then 0 else cnt b s
 | [] => by simp [but, cnt]
 | x :: b => by
  have ih := zv4 r s b; unfold but at ih ⊢; rw [Xa]
  by_cases h : x.Rec = r
  .
   rw [if_neg (by simp [h]), ih]
   by_cases h2 : s = r
   . rw [if_pos h2, if_pos h2]
   . rw [if_neg h2, if_neg h2]; simp only [cnt]; rw [if_neg (fun e => h2 (by rw [<- e, h]))]; omega
  .
   rw [if_pos (by simp [h])]; simp only [cnt]; rw [ih]
   by_cases h2 : s = r
   . rw [if_pos h2, if_pos h2, if_neg (fun e => h (by rw [e, h2]))]; rfl
   . rw [if_neg h2, if_neg h2]
theorem zb1 (f : GRec -> Int) : ∀ (n : Nat) (l : List GItem), l.length <= n -> (∀ r, cnt l r = 0) -> wsum f l = 0
 | 0, l, hl, _ => by
  have : l = [] := List.eq_nil_of_length_eq_zero (by omega); rw [this]; rfl
 | n + 1, [], _, _ => rfl
 | n + 1, x :: l, hl, h => by
  rw [z7o f x.Rec, h, Int.zero_mul, Int.zero_add]; refine zb1 f n _ ?_ fun r => by rw [zv4]; split <;> simp [h]
  unfold but; rw [Xa, if_neg (by simp)]; have := List.length_filter_le (fun y : GItem => decide (y.Rec ≠ x.Rec)) l; simp only [Xc] at hl; omega
def neg (b : List GItem) : List GItem := b.map fun y => ⟨y.Rec, -y.N⟩
theorem z5t (r : GRec) : ∀ b : List GItem, cnt (neg b) r = -cnt b r
 | [] => rfl
 | x :: b => by
  have ih := z5t r b; simp only [neg, Xb, cnt] at *; rw [ih]; split <;> omega
theorem zh5 (f : GRec -> Int) : ∀ b : List GItem, wsum f (neg b) = -wsum f b
 | [] => rfl
 | x :: b => by
  have ih := zh5 f b; simp only [neg, Xb, wsum_cons] at *; rw [ih, Int.neg_mul]; omega
theorem wsum_eq (f : GRec -> Int) {a b : List GItem} (h : ∀ r, cnt a r = cnt b r) : wsum f a = wsum f b := by
 have := zb1 f _ (a ++ neg b) (Nat.le_refl _) (fun r => by rw [q7u, z5t, h]; omega); rw [wsum_append, zh5] at this; omega
theorem Puts.wsum {b c l : List GItem} (h : Puts b c l) (f : GRec -> Int) : OP.wsum f c = OP.wsum f b + OP.wsum f l := by
 rw [<- wsum_append]; exact wsum_eq f fun r => by rw [q7u, h.cnt]
def mult (x : GNode) (s r : GRec) : Int := (((sing x r).filter (fun q => decide (q = s))).length : Int)
theorem zv2 (n : Int) (s : GRec) : ∀ S : List GRec, cnt (S.map fun r => (⟨r, n⟩ : GItem)) s = n * ((S.filter (fun q => decide (q = s))).length : Int)
 | [] => by simp [cnt]
 | r :: S => by
  have ih := zv2 n s S; simp only [Xb, cnt, ih, Xa]
  by_cases h : r = s
  . rw [if_pos h, if_pos (by simpa using h), Xc]; rw [show (((List.filter (fun q => decide (q = s)) S).length + 1 : Nat) : Int) = ((List.filter (fun q => decide (q = s)) S).length : Int) + 1 by omega, Int.mul_add]; omega
  . rw [if_neg h, if_neg (by simpa using h)]; omega
theorem cnt_lin (x : GNode) (s : GRec) : ∀ b : List GItem, cnt (lin x b) s = wsum (mult x s) b
 | [] => rfl
 | y :: b => by
  have e : lin x (y :: b) = lin x [y] ++ lin x b := lin_append x [y] b; rw [e, q7u, lin_one, zv2, wsum_cons, cnt_lin x s b]; rfl
theorem tot_map (n : Int) : ∀ S : List GRec, tot (S.map fun r => (⟨r, n⟩ : GItem)) = n * (S.length : Int)
 | [] => by simp [tot]
 | r :: S => by
  have ih := tot_map n S; simp only [tot, Xb, List.sum_cons, Xc] at *; rw [ih, show ((S.length + 1 : Nat) : Int) = (S.length : Int) + 1 by omega, Int.mul_add]; omega
end OP
end Go.Proofs.YteibkihbdgphnaaGreat
