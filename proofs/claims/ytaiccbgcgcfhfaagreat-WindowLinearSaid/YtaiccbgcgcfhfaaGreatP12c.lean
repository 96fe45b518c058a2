/-
  The law in plain words: what its plain function gives is true. No condition beyond those that each theorem names.
-/
import Derived.Test.YtaiccbgcgcfhfaaGreatWalkWL1
import Derived.Test.YtaiccbgcgcfhfaaGreatWalkWL0
import Derived.Test.YtaiccbgcgcfhfaaGreatLibE
import Derived.Test.YtaiccbgcgcfhfaaGreatP12a
set_option linter.unusedSimpArgs false
set_option linter.unusedVariables false
set_option linter.unusedSectionVars false
open Option renaming bind_some -> Xa
open List renaming length_map -> Xb, length_take -> Xc, getElem_cons_zero -> Xd
open Bool renaming false_eq_true -> Xe
open Nat renaming zero_le -> Xf
namespace Go.Proofs.YtaiccbgcgcfhfaaGreat
open Go Go.RowKit
namespace WH
def qo9 (a b : Int) : Int := if a < b then -1 else if b < a then 1 else 0
theorem je3 (a b : Int) : q35 a b = some (qo9 a b) := by
 simp only [q35, q7a, q9, Xa, beq_self_eq_true, Bool.not_true, Xe, if_false, decide_eq_true_eq, qo9]
 split <;> (try rfl)
 split <;> rfl
theorem j0r (a b : Int) : q2y a b = some (qo9 a b) := by
 simp only [q2y, q67, q9, Xa, beq_self_eq_true, Bool.not_true, Xe, if_false, decide_eq_true_eq, qo9]
 split <;> (try rfl)
 split <;> rfl
theorem or2 (a b : Int) : q73 [a, b] = some (if a = 0 then b else a) := by
 refine Ok.eq ?_; unfold q73; refine jl5 (l := [a, b]) (by simp) (fun i => ∀ x ∈ [a, b].take i, x = 0) 0 (fun rec i hi _ hI hr => ?_) (fun rec hI => ?_) (by simp) (Xf _)
 .
  unfold q7b; refine jl0 (fun _ => Ok.bind (jl1 hi (jl0 (fun hx => Ok.some ?_) (fun hx => ?_)))) (fun hx => by simp only [decide_eq_false_iff_not] at hx; omega)
  .
   simp only [Bool.not_eq_true', beq_eq_false_iff_ne, ne_eq] at hx
   match i, hi with
   | 0, _ => simp only [Xd] at hx ⊢; rw [if_neg hx]
   | 1, _ =>
    have := hI a (by simp); simp only [List.getElem_cons_succ, Xd]; rw [if_pos this]
  . simp only [Bool.not_eq_false', beq_iff_eq] at hx; rw [wrap_i64 ((i : Int) + 1) (by simp at hi; omega)]; exact hr ((qf6 hi).2 ⟨hI, hx⟩)
 . unfold q7b; refine jl0 (fun hx => by simp only [decide_eq_true_eq] at hx; omega) (fun _ => Ok.some ?_); have h1 := hI a (by simp); have h2 := hI b (by simp); rw [h1, h2]; rfl
def ltB (x y : GOut) : Bool := decide (x.Node < y.Node) || x.Node == y.Node && (decide (x.Epoch < y.Epoch) || x.Epoch == y.Epoch && (decide (x.Rec.K < y.Rec.K) || x.Rec.K == y.Rec.K && decide (x.Rec.V < y.Rec.V)))
theorem z9o (x y : GOut) : ltB x y = true ↔ (x.Node < y.Node \/ x.Node = y.Node /\ (x.Epoch < y.Epoch \/ x.Epoch = y.Epoch /\ (x.Rec.K < y.Rec.K \/ x.Rec.K = y.Rec.K /\ x.Rec.V < y.Rec.V))) := by
 simp [ltB]
theorem ltB_not (x y : GOut) : ltB x y = false ↔ ¬ (x.Node < y.Node \/ x.Node = y.Node /\ (x.Epoch < y.Epoch \/ x.Epoch = y.Epoch /\ (x.Rec.K < y.Rec.K \/ x.Rec.K = y.Rec.K /\ x.Rec.V < y.Rec.V))) := by
 rw [<- z9o]; simp
theorem j7v : Go.Sort.SWO ltB := ⟨fun x => by rw [ltB_not]; omega, fun x y z h1 h2 => by rw [z9o] at *; omega, fun x y z h1 h2 => by rw [ltB_not] at *; omega⟩
theorem ltB_part (x y : GOut) (h1 : ltB x y = false) (h2 : ltB y x = false) : x = y := by
 rw [ltB_not] at h1 h2; obtain ⟨a, b, c, d⟩ := x; obtain ⟨a', b', c', d'⟩ := y; simp only at h1 h2; have e1 : a = a' := by omega
 have e2 : b = b' := by omega
 have e3 : c = c' := by omega
 have e4 : d = d' := by omega
 rw [e1, e2, e3, e4]
theorem z9p (x y : GRec) : q7m x y = some (decide (x.K < y.K \/ x.K = y.K /\ x.V < y.V)) := by
 simp only [q7m, q9l, j0r, or2, q9, Xa, qo9]
 congr 1
 by_cases h1 : x.K < y.K
 . simp [h1]
 .
  by_cases h2 : y.K < x.K
  . simp [h1, h2]; omega
  .
   have h3 : x.K = y.K := by omega
   by_cases h4 : x.V < y.V
   . simp [h3, h4]
   . by_cases h5 : y.V < x.V <;> simp [h3, h4, h5]
theorem z2u (x y : GOut) : ∃ n, q6k x y = some n /\ (n < 0 ↔ ltB x y = true) := by
 rw [z9o]; simp only [q6k, je3, or2, z9p, q9, Xa, qo9]
 by_cases a1 : x.Node < y.Node
 . exact ⟨-1, by simp [a1], by simp [a1]⟩
 by_cases a2 : y.Node < x.Node
 . exact ⟨1, by simp [a1, a2], by simp; omega⟩
 have a3 : x.Node = y.Node := by omega
 by_cases b1 : x.Epoch < y.Epoch
 . exact ⟨-1, by simp [a3, b1], by simp [a3, b1]⟩
 by_cases b2 : y.Epoch < x.Epoch
 . exact ⟨1, by simp [a3, b1, b2], by simp; omega⟩
 have b3 : x.Epoch = y.Epoch := by omega
 by_cases c1 : x.Rec.K < y.Rec.K \/ x.Rec.K = y.Rec.K /\ x.Rec.V < y.Rec.V
 . exact ⟨-1, by simp [a3, b3, c1], by simp [a3, b3, c1]⟩
 by_cases c2 : y.Rec.K < x.Rec.K \/ y.Rec.K = x.Rec.K /\ y.Rec.V < x.Rec.V
 . exact ⟨1, by simp [a3, b3, c1, c2], by simp [a3, b3, c1]⟩
 . exact ⟨0, by simp [a3, b3, c1, c2], by simp [a3, b3, c1]⟩
def upd (size : Int) (o : GOut) : GOut := ⟨o.Node, o.Epoch / size, o.Rec⟩
def okG (l : List GOut) (size : Int) : Prop := (1 <= size /\ size <= 1024) /\ ∀ o ∈ l, 0 <= o.Epoch /\ o.Epoch <= 1048576
def Gath (l : List GOut) (size : Int) (r : (List GOut) × Int) : Prop := (r = ([], 1) /\ ¬ okG l size) \/ (okG l size /\ r.2 = 0 /\ r.1.Perm (l.map (upd size)) /\ r.1.Pairwise (fun a b => ltB b a = false))
theorem q15 {o : GOut} {size : Int} (h : 0 <= o.Epoch /\ o.Epoch <= 1048576) (hs : 1 <= size /\ size <= 1024) : (⟨o.Node, IntKind.i64.wrap (Int.tdiv o.Epoch size), o.Rec⟩ : GOut) = upd size o := by
 have h1 : 0 <= o.Epoch / size := Int.ediv_nonneg (by omega) (by omega); have h2 : o.Epoch / size <= o.Epoch := Int.ediv_le_self _ (by omega); rw [Int.tdiv_eq_ediv_of_nonneg h.1, wrap_i64 _ (by omega)]; rfl
theorem j1t (a : Int) : q5k [a] = some (decide (1 <= a /\ a <= 1024)) := by
 have h : q3x [a] (fun x0_ => q4g x0_) = some ([a].any fun n => decide (n < 1) || decide (1024 < n)) := by
  show q7f _ _ = _
  exact q4f (by simp) (fun x _ => by simp [q4g])
 unfold q5k; rw [h]; simp only [q9, Xa]
 congr 1
 simp only [List.any_cons, List.any_nil, Bool.or_false]
 by_cases h1 : 1 <= a <;> by_cases h2 : a <= 1024 <;> simp [h1, h2] <;> omega
theorem za4 (l : List GOut) (hl : l.length < 9223372036854775808) : q5p l (fun x0_ => q66 x0_) = some (l.any fun f => !(decide (0 <= f.Epoch) && decide (f.Epoch <= 1048576))) := by
 show q7f _ _ = _
 exact q4f hl (fun x _ => by simp [q66, q7x, q9])
theorem Gather_ok (l : List GOut) (size : Int) (hl : l.length <= 60000) : Ok (q97 l size) (Gath l size) := by
 unfold q97; refine Ok.bind (jl3 (j1t size) ?_); refine jl0 (fun hc => ?_) (fun hc => Ok.some (.inl ⟨rfl, fun h => ?_⟩))
 rotate_left
 . simp only [decide_eq_false_iff_not] at hc; exact hc h.1
 simp only [decide_eq_true_eq] at hc; refine Ok.bind (jl3 (za4 l (by omega)) ?_); refine jl0 (fun hb => Ok.some (.inl ⟨rfl, fun h => ?_⟩)) (fun hb => ?_)
 . obtain ⟨f, hf, hx⟩ := List.any_eq_true.1 hb; have := h.2 f hf; simp [this.1, this.2] at hx
 have hall : ∀ f ∈ l, 0 <= f.Epoch /\ f.Epoch <= 1048576 := fun f hf => by
  have := List.any_eq_false.1 hb f hf
  simpa using this
 refine jl0 (fun hx => by simp only [decide_eq_true_eq] at hx; omega) (fun _ => ?_); refine Ok.bind (show Ok (q70 l) _ from ?_); unfold q70; refine Ok.guard (by simp; omega) (Ok.some ?_); rw [List.nil_append]; refine jl4 (l := l) (by omega) (fun i a => a = (l.take i).map (upd size) ++ l.drop i) 0 (fun rec i hi a _ ha hr => ?_) (fun rec a ha => ?_) (by simp) (Xf _)
 .
  subst ha; have hlen : ((l.take i).map (upd size) ++ l.drop i).length = l.length := by
   rw [List.length_append, Xb, Xc, List.length_drop]; omega
  have hget : ((l.take i).map (upd size) ++ l.drop i)[i]'(by omega) = l[i] := by
   rw [List.getElem_append_right (by simp; omega)]; simp only [Xb, Xc, List.getElem_drop]
   congr 1; omega
  unfold q96; simp only; refine jl0 (fun _ => Ok.bind (jl1 (by omega) (Ok.guard (by omega) ?_))) (fun hx => by simp only [decide_eq_false_iff_not] at hx; omega); rw [hget, q15 (hall _ (List.getElem_mem hi)) hc, wrap_i64 ((i : Int) + 1) (by omega)]; refine hr _ ?_; rw [Int.toNat_natCast, List.set_append_right _ _ (by simp; omega), List.take_succ_eq_append_getElem hi, List.map_append, List.append_assoc]
  congr 1
  rw [Xb, Xc, show i - min i l.length = 0 by omega, List.drop_eq_getElem_cons hi, List.set_cons_zero]; rfl
 . rw [List.take_length, List.drop_length, List.append_nil] at ha; subst ha; unfold q96; simp only; refine jl0 (fun hx => by simp only [decide_eq_true_eq] at hx; omega) (fun _ => ?_); unfold q95; obtain ⟨r, h1, h2, h3⟩ := zy4 (cf := fun x0_ x1_ => q6k x0_ x1_) z2u (xs := l.map (upd size)) (by rw [Xb]; omega) j7v; refine Ok.bind (jl3 h1 (Ok.guard h2.length_eq (Ok.some (.inr ⟨⟨hc, hall⟩, rfl, h2, h3⟩))))
theorem same_refl (a : List GOut) (ha : a.length <= 65536) : q62 a a = some true := by
 refine Ok.eq ?_; unfold q62; refine jl0 (fun hx => by simp at hx) (fun _ => ?_); refine jl5 (l := a) (by omega) (fun _ => True) 0 (fun rec i hi _ _ hr => ?_) (fun rec _ => ?_) trivial (Xf _)
 . unfold q6a; refine jl0 (fun _ => Ok.bind (jl1 hi (Ok.bind (jl1 hi (jl0 (fun hx => by simp at hx) (fun _ => ?_)))))) (fun hx => by simp only [decide_eq_false_iff_not] at hx; omega); rw [wrap_i64 ((i : Int) + 1) (by omega)]; exact hr trivial
 . unfold q6a; exact jl0 (fun hx => by simp only [decide_eq_true_eq] at hx; omega) (fun _ => Ok.some rfl)
end WH
end Go.Proofs.YtaiccbgcgcfhfaaGreat
