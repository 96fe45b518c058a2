/-
  The law in plain words: what its plain function gives is true. No condition beyond those that each theorem names.
-/
import Derived.Test.YteibkihbdgphnaaGreatWalkMP0
import Derived.Test.YteibkihbdgphnaaGreatLibD
set_option linter.unusedSimpArgs false
set_option linter.unusedVariables false
set_option linter.unusedSectionVars false
open List renaming length_take -> Xa, pairwise_iff_getElem -> Xb, getElem_take -> Xc, mem_iff_getElem -> Xe, getElem_cons_zero -> Xf, take_append_drop -> Xg, mem_singleton -> Xi, cons_append -> Xm
open Option renaming bind_some -> Xd
open Bool renaming not_eq_false' -> Xh, not_eq_true' -> Xk
open Nat renaming lt_or_ge -> Xj, zero_le -> Xl
namespace Go.Proofs.YteibkihbdgphnaaGreat
open Go Go.RowKit
namespace BG
def z4v (a b : Int) : Int := if a < b then -1 else if b < a then 1 else 0
theorem jb2 (a b : Int) : q5t a b = some (z4v a b) := by
 simp only [q5t, q7k, q9, Xd, beq_self_eq_true, Bool.not_true, Bool.false_eq_true, if_false, decide_eq_true_eq, z4v]
 split <;> (try rfl)
 split <;> rfl
theorem or2 (a b : Int) : qi7 [a, b] = some (if a = 0 then b else a) := by
 refine Ok.eq ?_; unfold qi7; refine ji0 (l := [a, b]) (by simp) (fun i => ∀ x ∈ [a, b].take i, x = 0) 0 (fun rec i hi _ hI hr => ?_) (fun rec hI => ?_) (by simp) (Xl _)
 .
  unfold qg2; refine jh5 (fun _ => Ok.bind (jh6 hi (jh5 (fun hx => Ok.some ?_) (fun hx => ?_)))) (fun hx => by simp only [decide_eq_false_iff_not] at hx; omega)
  .
   simp only [Xk, beq_eq_false_iff_ne, ne_eq] at hx
   match i, hi with
   | 0, _ => simp only [Xf] at hx ⊢; rw [if_neg hx]
   | 1, _ =>
    have := hI a (by simp); simp only [List.getElem_cons_succ, Xf]; rw [if_pos this]
  . simp only [Xh, beq_iff_eq] at hx; rw [wrap_i64 ((i : Int) + 1) (by simp at hi; omega)]; exact hr ((qn4 hi).2 ⟨hI, hx⟩)
 . unfold qg2; refine jh5 (fun hx => by simp only [decide_eq_true_eq] at hx; omega) (fun _ => Ok.some ?_); have h1 := hI a (by simp); have h2 := hI b (by simp); rw [h1, h2]; rfl
def lt (x y : GRec) : Prop := x.K < y.K \/ x.K = y.K /\ x.V < y.V
instance (x y : GRec) : Decidable (lt x y) := by unfold lt; infer_instance
instance : DecidableEq GRec := fun a b =>
 if h : a.K = b.K /\ a.V = b.V then isTrue (by cases a; cases b; simp only at h; rw [h.1, h.2]) else isFalse (fun e => h (by rw [e]; exact ⟨rfl, rfl⟩))
def ord (x y : GRec) : Int := if z4v x.K y.K = 0 then z4v x.V y.V else z4v x.K y.K
theorem zk4 (x y : GRec) : qf2 x y = some (ord x y) := by
 simp only [qf2, jb2, or2, q9, Xd, ord]
theorem z9q (x y : GRec) : ord x y < 0 ↔ lt x y := by
 unfold ord z4v lt
 split <;> split at * <;> (try split at *) <;> (try split) <;> (try split) <;> omega
theorem j1m {x y : GRec} (h1 : x.K = y.K) (h2 : x.V = y.V) : x = y := by
 cases x; cases y; simp only at h1 h2; rw [h1, h2]
theorem j44 (x y : GRec) : ord x y = 0 ↔ x = y := by
 constructor
 . intro h; unfold ord z4v at h; apply j1m <;> (split at h <;> split at * <;> (try split at *) <;> (try split at *) <;> omega)
 . rintro rfl; simp [ord, z4v]
theorem j75 (x y : GRec) : qr9 x y = some (decide (lt x y)) := by
 simp only [qr9, zk4, q9, Xd, z9q]
theorem z0i (x : GRec) : ¬ lt x x := by unfold lt; omega
theorem z8m {x y z : GRec} (h1 : lt x y) (h2 : lt y z) : lt x z := by unfold lt at *; omega
theorem j8x (x y : GRec) : lt x y \/ x = y \/ lt y x := by
 by_cases h1 : lt x y
 . exact .inl h1
 .
  by_cases h2 : lt y x
  . exact .inr (.inr h2)
  . unfold lt at h1 h2; exact .inr (.inl (j1m (by omega) (by omega)))
def cnt : List GItem -> GRec -> Int
 | [], _ => 0
 | x :: b, r => (if x.Rec = r then x.N else 0) + cnt b r
def tot (b : List GItem) : Int := (b.map (·.N)).sum
def big : List GItem -> Int
 | [] => 0
 | x :: b => (x.N.natAbs : Int) + big b
theorem q7u (a b : List GItem) (r : GRec) : cnt (a ++ b) r = cnt a r + cnt b r := by
 induction a with
 | nil => simp [cnt]
 | cons x a ih => simp only [Xm, cnt, ih]; omega
theorem q3a (a b : List GItem) : tot (a ++ b) = tot a + tot b := by simp [tot]
theorem qb7 (a b : List GItem) : big (a ++ b) = big a + big b := by
 induction a with
 | nil => simp [big]
 | cons x a ih => simp only [Xm, big, ih]; omega
theorem qz7 : ∀ b : List GItem, 0 <= big b
 | [] => by simp [big]
 | x :: b => by have := qz7 b; simp only [big]; omega
theorem z9a : ∀ (b : List GItem) (r : GRec), -big b <= cnt b r /\ cnt b r <= big b
 | [], _ => by simp [cnt, big]
 | x :: b, r => by
  have := z9a b r; simp only [cnt, big]
  split <;> omega
theorem zo4 {b : List GItem} {r : GRec} (h : ∀ x ∈ b, x.Rec ≠ r) : cnt b r = 0 := by
 induction b with
 | nil => rfl
 | cons x b ih =>
  simp only [cnt]; rw [if_neg (h x (by simp)), ih fun y hy => h y (by simp [hy])]; rfl
theorem z7m {b : List GItem} {r : GRec} (h : cnt b r ≠ 0) : ∃ x ∈ b, x.Rec = r := by
 refine Decidable.byContradiction fun hn => h (zo4 fun x hx e => hn ⟨x, hx, e⟩)
structure Rt (b : List GItem) : Prop where
 inc : b.Pairwise (fun p q => lt p.Rec q.Rec)
 num : ∀ x ∈ b, x.N ≠ 0 /\ -2147483648 <= x.N /\ x.N <= 2147483648
theorem Rt.nil : Rt [] := ⟨List.Pairwise.nil, by simp⟩
theorem z0t {b : List GItem} (h : b.Pairwise (fun p q => lt p.Rec q.Rec)) {x : GItem} (hx : x ∈ b) : cnt b x.Rec = x.N := by
 induction b with
 | nil => cases hx
 | cons y b ih =>
  rw [List.pairwise_cons] at h; simp only [cnt]; rcases List.mem_cons.1 hx with rfl | hx
  . rw [if_pos rfl, zo4 fun z hz e => z0i z.Rec (by have := h.1 z hz; rwa [<- e] at this)]; omega
  . rw [if_neg (fun e => z0i x.Rec (by have := h.1 x hx; rwa [e] at this)), ih h.2 hx]; omega
theorem j77 {x y : GItem} (h1 : x.Rec = y.Rec) (h2 : x.N = y.N) : x = y := by
 cases x; cases y; simp only at h1 h2; rw [h1, h2]
theorem Rt.sub {a b : List GItem} (ha : Rt a) (hb : Rt b) (h : ∀ r, cnt a r = cnt b r) : ∀ x ∈ a, x ∈ b := by
 intro x hx; have h1 := z0t ha.inc hx; have h2 := (ha.num x hx).1; obtain ⟨y, hy, e⟩ := z7m (b := b) (r := x.Rec) (by rw [<- h, h1]; exact h2); have h3 := z0t hb.inc hy; rw [e, <- h, h1] at h3; rw [j77 e.symm h3]; exact hy
theorem Rt.unique {a b : List GItem} (ha : Rt a) (hb : Rt b) (h : ∀ r, cnt a r = cnt b r) : a = b := by
 have nd : ∀ {l : List GItem}, l.Pairwise (fun p q => lt p.Rec q.Rec) -> l.Nodup := fun h => h.imp (fun {p q} (hab : lt p.Rec q.Rec) (e : p = q) => z0i q.Rec (by rw [e] at hab; exact hab)); have p : a.Perm b := (List.perm_ext_iff_of_nodup (nd ha.inc) (nd hb.inc)).2 fun r => ⟨ha.sub hb h r, hb.sub ha (fun r => (h r).symm) r⟩; exact List.Perm.eq_of_pairwise (le := fun (p q : GItem) => lt p.Rec q.Rec) (fun x y _ _ h1 h2 => absurd (z8m h1 h2) (z0i _)) ha.inc hb.inc p
theorem zl1 (n : Int) : qi8 n = some (decide (-2147483648 <= n /\ n <= 2147483648)) := by
 simp only [qi8]; congr 1; simp
theorem zp7 {b : List GItem} (hl : b.length < 1000000000) : Ok (q72 b) (fun r => r = true ↔ Rt b) := by
 unfold q72; refine ji0 (l := b) (by omega) (fun i => Rt (b.take i)) 0 (fun rec i hi _ hI hr => ?_) (fun rec hI => ?_) (by simpa using Rt.nil) (Xl _)
 .
  unfold qk8; have hsub : Rt b -> Rt (b.take (i + 1)) := fun h => ⟨h.inc.sublist (List.take_sublist _ _), fun x hx => h.num x (List.mem_of_mem_take hx)⟩; have hmem : b[i] ∈ b := List.getElem_mem hi; refine jh5 (fun _ => Ok.bind (jh6 hi ?_)) (fun hx => by simp only [decide_eq_false_iff_not] at hx; omega); have hext : b[i].N ≠ 0 -> (-2147483648 <= b[i].N /\ b[i].N <= 2147483648) -> (∀ x ∈ b.take i, lt x.Rec b[i].Rec) -> Rt (b.take (i + 1)) := fun h1 h2 h3 => by
   rw [List.take_succ_eq_append_getElem hi]; refine ⟨List.pairwise_append.2 ⟨hI.inc, by simp, fun x hx y hy => ?_⟩, fun x hx => ?_⟩
   . rw [Xi] at hy; rw [hy]; exact h3 x hx
   .
    rcases List.mem_append.1 hx with hx | hx
    . exact hI.num x hx
    . rw [Xi] at hx; rw [hx]; exact ⟨h1, h2⟩
  rw [zl1, wrap_i64 ((i : Int) + 1) (by omega)]; refine jh5 (fun hx => Ok.some ⟨fun h => (by cases h), fun h => ?_⟩) (fun hx => Ok.bind (Ok.some (jh5 (fun hm => jh5 (fun h0 => ?_) (fun h0 => ?_)) (fun hm => Ok.some ⟨fun h => (by cases h), fun h => ?_⟩))))
  . simp only [beq_iff_eq] at hx; exact absurd hx (h.num _ hmem).1
  .
   simp only [decide_eq_true_eq] at h0 hm; simp only [beq_eq_false_iff_ne, ne_eq] at hx; rw [wrap_i64 ((i : Int) - 1) (by omega), show (i : Int) - 1 = ((i - 1 : Nat) : Int) by omega]; refine Ok.bind (jh6 (by omega) (Ok.bind (jh8 (j75 _ _) (jh5 (fun hl => Ok.some ⟨fun h => (by cases h), fun h => ?_⟩) (fun hl => hr (hext hx hm fun x hx => ?_))))))
   . simp only [Xk, decide_eq_false_iff_not] at hl; exact absurd ((Xb.1 h.inc) (i - 1) i (by omega) hi (by omega)) hl
   .
    simp only [Xh, decide_eq_true_eq] at hl; obtain ⟨j, hj, rfl⟩ := Xe.1 hx; rw [Xa] at hj; rw [Xc]; rcases Xj j (i - 1) with h | h
    . have := (Xb.1 hI.inc) j (i - 1) (by rw [Xa]; omega) (by rw [Xa]; omega) h; rw [Xc, Xc] at this; exact z8m this hl
    .
     have : j = i - 1 := by omega
     subst this; exact hl
  .
   simp only [decide_eq_false_iff_not] at h0; simp only [decide_eq_true_eq] at hm; simp only [beq_eq_false_iff_ne, ne_eq] at hx; have : i = 0 := by omega
   subst this; exact hr (hext hx hm (by simp))
  . simp only [decide_eq_false_iff_not] at hm; exact absurd (h.num _ hmem).2 hm
 . unfold qk8; refine jh5 (fun hx => by simp only [decide_eq_true_eq] at hx; omega) (fun _ => Ok.some ?_); rw [List.take_length] at hI; exact ⟨fun _ => hI, fun _ => rfl⟩
theorem half (i j : Nat) (h : i + j < 4611686018427387904) : IntKind.i64.wrap (q29 .u64 (IntKind.u64.wrap (IntKind.i64.wrap ((i : Int) + (j : Int)))) 1) = (((i + j) / 2 : Nat) : Int) := by
 rw [wrap_i64 ((i : Int) + (j : Int)) (by omega)]; have h1 : IntKind.u64.wrap ((i : Int) + (j : Int)) = ((i + j : Nat) : Int) := by simp [IntKind.wrap, IntKind.bits, IntKind.signed]; omega
 rw [h1]; have h2 : q29 .u64 ((i + j : Nat) : Int) 1 = (((i + j) / 2 : Nat) : Int) := by
  show Int.fdiv _ 2 = _
  rw [Int.fdiv_eq_ediv_of_nonneg _ (by omega)]; omega
 rw [h2, wrap_i64 _ (by omega)]
theorem j1g {b : List GItem} {r : GRec} (h : b.Pairwise (fun p q => lt p.Rec q.Rec)) (hl : b.length < 1000000000) :
  Ok (q36 b r (fun x0_ x1_ => q9h x0_ x1_)) (fun v => ∃ A B, b = A ++ B /\ (∀ x ∈ A, lt x.Rec r) /\ (∀ x ∈ B, ¬ lt x.Rec r) /\ v.1 = (A.length : Int) /\ v.2 = (match B with | [] => false | x :: _ => decide (x.Rec = r))) := by
 have hp := Xb.1 h; have hc : ∀ x : GItem, q9h x r = some (ord x.Rec r) := fun x => by simp only [q9h, zk4, q9, Xd]
 unfold q36; refine jh7 (fun s => ∃ i j : Nat, s = ((i : Int), (j : Int)) /\ i <= j /\ j <= b.length /\ (∀ q (_ : q < b.length), q < i -> lt b[q].Rec r) /\ (∀ q (_ : q < b.length), j <= q -> ¬ lt b[q].Rec r)) (fun s => (s.2 - s.1).toNat) ?_ ⟨0, b.length, rfl, Xl _, Nat.le_refl _, fun q _ h => by omega, fun q _ h => by omega⟩ (by simp only [rounds]; omega); rintro rec _ ⟨i, j, rfl, h1, h2, h3, h4⟩ hr; unfold q61; simp only; refine jh5 (fun hx => ?_) (fun hx => ?_)
 .
  simp only [decide_eq_true_eq] at hx; have hij : i < j := by omega
  rw [half i j (by omega)]; have hm : (i + j) / 2 < b.length := by omega
  refine Ok.bind (jh6 hm (Ok.bind (jh8 (hc _) (jh5 (fun hn => ?_) (fun hn => ?_)))))
  .
   simp only [decide_eq_true_eq] at hn; rw [wrap_i64 _ (by omega)]; refine hr _ ⟨(i + j) / 2 + 1, j, rfl, by omega, h2, fun q hq hlt => ?_, h4⟩ (by simp only; omega); have hn' := (z9q _ _).1 hn; rcases Xj q ((i + j) / 2) with h | h
   . exact z8m (hp q _ hq hm h) hn'
   .
    have : q = (i + j) / 2 := by omega
    subst this; exact hn'
  .
   simp only [decide_eq_false_iff_not] at hn; refine hr _ ⟨i, (i + j) / 2, rfl, by omega, by omega, h3, fun q hq hle hlt => ?_⟩ (by simp only; omega); have hn' := mt (z9q _ _).2 hn; rcases Xj ((i + j) / 2) q with h | h
   . exact hn' (z8m (hp _ q hm hq h) hlt)
   .
    have : q = (i + j) / 2 := by omega
    subst this; exact hn' hlt
 .
  simp only [decide_eq_false_iff_not] at hx; have : i = j := by omega
  subst this; unfold q3y; have hA : ∀ x ∈ b.take i, lt x.Rec r := fun x hx => by
   obtain ⟨q, hq, rfl⟩ := Xe.1 hx; rw [Xa] at hq; rw [Xc]; exact h3 q (by omega) (by omega)
  have hB : ∀ x ∈ b.drop i, ¬ lt x.Rec r := fun x hx => by
   obtain ⟨q, hq, rfl⟩ := Xe.1 hx; rw [List.length_drop] at hq; rw [List.getElem_drop]; exact h4 _ (by omega) (by omega)
  have hlen : (b.take i).length = i := by rw [Xa]; omega
  refine jh5 (fun hc2 => ?_) (fun hc2 => Ok.some ⟨b.take i, b.drop i, (Xg _ _).symm, hA, hB, by rw [hlen], ?_⟩)
  .
   simp only [decide_eq_true_eq] at hc2; have hi : i < b.length := by omega
   refine Ok.bind (jh6 hi (Ok.bind (jh8 (hc _) (Ok.some ⟨b.take i, b.drop i, (Xg _ _).symm, hA, hB, by rw [hlen], ?_⟩)))); rw [List.drop_eq_getElem_cons hi]
   show (ord _ _ == 0) = decide _
   rw [Bool.eq_iff_iff, beq_iff_eq, decide_eq_true_eq]; exact j44 _ _
  . simp only [decide_eq_false_iff_not] at hc2; rw [List.drop_of_length_le (by omega)]
end BG
end Go.Proofs.YteibkihbdgphnaaGreat
