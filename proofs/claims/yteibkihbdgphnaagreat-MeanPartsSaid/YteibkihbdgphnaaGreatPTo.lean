/-
  The law in plain words: what its plain function gives is true. No condition beyond those that each theorem names.
-/
import Derived.Test.YteibkihbdgphnaaGreatWalkMP1
import Derived.Test.YteibkihbdgphnaaGreatPSo
import Derived.Test.YteibkihbdgphnaaGreatP05a
set_option linter.unusedSimpArgs false
set_option linter.unusedVariables false
set_option linter.unusedSectionVars false
open Int renaming toNat_natCast -> Xa
open List renaming getElem?_set_ne -> Xb, take_append_drop -> Xc, Perm.refl -> Xd, length_take -> Xe, length_set -> Xf, getElem?_append_right -> Xh, append_assoc -> Xi, drop_eq_getElem_cons -> Xj, getElem?_set_self -> Xl, Perm.append_left -> Xm, length_drop -> Xn
open Nat renaming le_refl -> Xg
open Bool renaming and_eq_true -> Xk
namespace Go.Proofs.YteibkihbdgphnaaGreat
open Go Go.RowKit
namespace SO
section
variable {cmp : GOut -> GOut -> Option Int} (hc : ∀ x y, ∃ n, cmp x y = some n)
theorem adj {l : List GOut} {k : Nat} (h : k + 1 < l.length) : (((l.set k l[k + 1]).set (k + 1) l[k])).Perm l := by
 have e : l = l.take k ++ l[k] :: l[k + 1] :: l.drop (k + 2) := by
  conv => lhs; rw [<- Xc k l]
  rw [Xj (by omega : k < l.length), Xj h]
 have hl : (l.take k).length = k := by rw [Xe]; omega
 have e2 : (l.set k l[k + 1]).set (k + 1) l[k] = l.take k ++ l[k + 1] :: l[k] :: l.drop (k + 2) := by
  refine List.ext_getElem? fun i => ?_; rcases Nat.lt_trichotomy i k with hi | rfl | hi
  . rw [Xb (by omega), Xb (by omega), List.getElem?_append_left (by omega), List.getElem?_take_of_lt hi]
  . rw [Xb (by omega), Xl (by omega), Xh (by omega), hl, Nat.sub_self]; rfl
  .
   rw [Xh (by omega), hl]; obtain ⟨d, rfl⟩ : ∃ d, i = k + 1 + d := ⟨i - k - 1, by omega⟩
   cases d with
   | zero =>
    rw [Xl (by rw [Xf]; omega), show k + 1 + 0 - k = 1 by omega]; rfl
   | succ d =>
    rw [Xb (by omega), Xb (by omega), show k + 1 + (d + 1) - k = d + 2 by omega]; simp only [List.getElem?_cons_succ, List.getElem?_drop]
    congr 1; omega
 rw [e2]
 conv => rhs; rw [e]
 exact Xm _ (List.Perm.swap _ _ _)
include hc
theorem z9x {data : List GOut} {a b : Nat} (hab : a <= b) (hb : b <= data.length) (hn : data.length < 1000000000) : Ok (q0w data (a : Int) (b : Int) cmp) (fun r => r.Perm data) := by
 unfold q0w; rw [wrap_i64 _ (by omega)]; refine jh7 (fun s => ∃ i : Nat, ∃ l : List GOut, s = ((i : Int), l) /\ a + 1 <= i /\ i <= b + 1 /\ l.Perm data) (fun s => b - s.1.toNat) ?_ ⟨a + 1, data, by simp, by omega, by omega, Xd _⟩ (by simp only [rounds]; omega); rintro rec _ ⟨i, l, rfl, h1, h2, hp⟩ hr; have hll := hp.length_eq; unfold q3q; dsimp only; refine jh5 (fun hx => ?_) (fun hx => Ok.some hp); simp only [decide_eq_true_eq] at hx; refine jh7 (fun s => ∃ j : Nat, ∃ l : List GOut, s = ((j : Int), l) /\ a <= j /\ j <= i /\ l.Perm data) (fun s => s.1.toNat) ?_ ⟨i, l, rfl, by omega, by omega, hp⟩ (by simp only [rounds]; omega); rintro rec2 _ ⟨j, q, rfl, g1, g2, hq⟩ hr2; have hql := hq.length_eq; have hgo : ∀ q : List GOut, q.Perm data -> Ok (rec (IntKind.i64.wrap ((i : Int) + 1), q)) (fun r => r.Perm data) := fun q hq => by
  rw [wrap_i64 _ (by omega)]; exact hr _ ⟨i + 1, q, by simp, by omega, by omega, hq⟩ (by dsimp only; omega)
 unfold q3p; dsimp only; refine jh5 (fun hy => ?_) (fun _ => hgo q hq); simp only [decide_eq_true_eq] at hy; obtain ⟨k, rfl⟩ : ∃ k, j = k + 1 := ⟨j - 1, by omega⟩; have hw : IntKind.i64.wrap (((k + 1 : Nat) : Int) - 1) = (k : Int) := by rw [wrap_i64 _ (by omega)]; omega
 rw [hw]; refine Ok.bind (jh6 (show k + 1 < q.length by omega) (Ok.bind (jh6 (show k < q.length by omega) ?_))); obtain ⟨n, hn'⟩ := hc q[k + 1] q[k]; rw [hn']; refine Ok.bind (Ok.some (jh5 (fun _ => ?_) (fun _ => hgo q hq))); refine Ok.bind (jh6 (by rw [Xf]; omega) ?_); rw [Xa, Xa]; refine hr2 _ ⟨k, _, rfl, by omega, by omega, ?_⟩ (by dsimp only; omega); have he : (q.set (k + 1) q[k]).set k q[k + 1] = (q.set k q[k + 1]).set (k + 1) q[k] := List.set_comm _ _ (by omega); rw [he]; exact (adj (by omega)).trans hq
theorem z3r : ∀ (n : Nat) {data : List GOut} {a m b : Nat}, a < m -> m < b -> b <= data.length -> data.length < 1000000000 -> b - a < n -> Ok (q09 n data (a : Int) (m : Int) (b : Int) cmp) (fun r => r.Perm data)
 | 0, _, _, _, _, _, _, _, _, h => absurd h (by omega)
 | n + 1, data, a, m, b, h1, h2, h3, h4, h5 => by
  show Ok (q23 (q09 n) data a m b cmp) _
  unfold q23; rw [wrap_i64 ((m : Int) - a) (by omega)]; refine jh5 (fun hm => ?_) (fun hm => ?_)
  .
   simp only [beq_iff_eq] at hm; refine jh7 (fun s => ∃ i j : Nat, s = ((i : Int), (j : Int)) /\ m <= i /\ i <= j /\ j <= b) (fun s => (s.2 - s.1).toNat) ?_ ⟨m, b, rfl, by omega, by omega, by omega⟩ (by simp only [rounds]; omega); rintro rec _ ⟨i, j, rfl, g1, g2, g3⟩ hr; unfold q4j; dsimp only; rw [BG.half i j (by omega)]; refine jh5 (fun hx => ?_) (fun hx => ?_)
   . simp only [decide_eq_true_eq] at hx; refine Ok.bind (jh6 (show (i + j) / 2 < data.length by omega) (Ok.bind (jh6 (show a < data.length by omega) ?_))); obtain ⟨c, hc'⟩ := hc (data[(i + j) / 2]'(by omega)) (data[a]'(by omega)); rw [hc', wrap_i64 _ (by omega)]; refine Ok.bind (Ok.some (jh5 (fun _ => hr _ ⟨(i + j) / 2 + 1, j, by simp, by omega, by omega, g3⟩ (by dsimp only; omega)) (fun _ => hr _ ⟨i, (i + j) / 2, rfl, g1, by omega, by omega⟩ (by dsimp only; omega))))
   .
    unfold q2v; refine jh7 (fun s => ∃ k : Nat, ∃ l : List GOut, s = ((k : Int), l) /\ l.Perm data) (fun s => (i : Nat) - s.1.toNat) ?_ ⟨a, data, rfl, Xd _⟩ (by simp only [rounds]; omega); rintro rec2 _ ⟨k, l, rfl, hp⟩ hr2; have hll := hp.length_eq; unfold q4k; dsimp only; refine jh5 (fun hy => ?_) (fun _ => Ok.some hp); rw [wrap_i64 ((i : Int) - 1) (by omega)] at hy; simp only [decide_eq_true_eq] at hy; have hw : IntKind.i64.wrap ((k : Int) + 1) = ((k + 1 : Nat) : Int) := by rw [wrap_i64 _ (by omega)]; omega
    rw [hw]; refine Ok.bind (jh6 (show k + 1 < l.length by omega) (Ok.bind (jh6 (show k < l.length by omega) (Ok.bind (jh6 (by rw [Xf]; omega) ?_))))); rw [Xa, Xa]; exact hr2 _ ⟨k + 1, _, rfl, (adj (by omega)).trans hp⟩ (by dsimp only; omega)
  .
   simp only [beq_eq_false_iff_ne, ne_eq] at hm; unfold q34; rw [wrap_i64 ((b : Int) - m) (by omega)]; refine jh5 (fun hm2 => ?_) (fun hm2 => ?_)
   .
    simp only [beq_iff_eq] at hm2; refine jh7 (fun s => ∃ i j : Nat, s = ((i : Int), (j : Int)) /\ a <= i /\ i <= j /\ j <= m) (fun s => (s.2 - s.1).toNat) ?_ ⟨a, m, rfl, by omega, by omega, by omega⟩ (by simp only [rounds]; omega); rintro rec _ ⟨i, j, rfl, g1, g2, g3⟩ hr; unfold q4l; dsimp only; rw [BG.half i j (by omega)]; refine jh5 (fun hx => ?_) (fun hx => ?_)
    . simp only [decide_eq_true_eq] at hx; refine Ok.bind (jh6 (show m < data.length by omega) (Ok.bind (jh6 (show (i + j) / 2 < data.length by omega) ?_))); obtain ⟨c, hc'⟩ := hc (data[m]'(by omega)) (data[(i + j) / 2]'(by omega)); rw [hc', wrap_i64 _ (by omega)]; refine Ok.bind (Ok.some (jh5 (fun _ => hr _ ⟨(i + j) / 2 + 1, j, by simp, by omega, by omega, g3⟩ (by dsimp only; omega)) (fun _ => hr _ ⟨i, (i + j) / 2, rfl, g1, by omega, by omega⟩ (by dsimp only; omega))))
    .
     unfold q31; refine jh7 (fun s => ∃ k : Nat, ∃ l : List GOut, s = ((k : Int), l) /\ k <= m /\ l.Perm data) (fun s => s.1.toNat) ?_ ⟨m, data, rfl, Xg _, Xd _⟩ (by simp only [rounds]; omega); rintro rec2 _ ⟨k, l, rfl, hkm, hp⟩ hr2; have hll := hp.length_eq; unfold q4x; dsimp only; refine jh5 (fun hy => ?_) (fun _ => Ok.some hp); simp only [decide_eq_true_eq] at hy; obtain ⟨k, rfl⟩ : ∃ k', k = k' + 1 := ⟨k - 1, by omega⟩; have hw : IntKind.i64.wrap (((k + 1 : Nat) : Int) - 1) = (k : Int) := by rw [wrap_i64 _ (by omega)]; omega
     rw [hw]; refine Ok.bind (jh6 (show k < l.length by omega) (Ok.bind (jh6 (show k + 1 < l.length by omega) (Ok.bind (jh6 (by rw [Xf]; omega) ?_))))); rw [Xa, Xa]; have he : (l.set (k + 1) l[k]).set k l[k + 1] = (l.set k l[k + 1]).set (k + 1) l[k] := List.set_comm _ _ (by omega); rw [he]; exact hr2 _ ⟨k, _, rfl, by omega, (adj (by omega)).trans hp⟩ (by dsimp only; omega)
   .
    simp only [beq_eq_false_iff_ne, ne_eq] at hm2; have hself : ∀ {q : List GOut} {x y z : Nat}, q.Perm data -> x < y -> y < z -> z <= data.length -> z - x < n -> Ok (q09 n q (x : Int) (y : Int) (z : Int) cmp) (fun r => r.Perm q) := fun hq e1 e2 e3 e4 =>
     z3r n e1 e2 (by rw [hq.length_eq]; exact e3) (by rw [hq.length_eq]; exact h4) e4
    obtain ⟨d, hd⟩ : ∃ d, d = (a + b) / 2 := ⟨_, rfl⟩; have hhalf : IntKind.i64.wrap (q29 .u64 (IntKind.u64.wrap (IntKind.i64.wrap ((a : Int) + (b : Int)))) 1) = (d : Int) := by rw [BG.half a b (by omega), hd]
    have had : a + 2 <= d /\ d + 2 <= b := by omega
    have hdm : IntKind.i64.wrap ((d : Int) + (m : Int)) = ((d + m : Nat) : Int) := by rw [wrap_i64 _ (by omega)]; omega
    have j6 : ∀ (q : List GOut) (s e : Nat), q.Perm data -> s <= d + m -> e = d + m - s -> Ok (q1c (a : Int) (m : Int) (b : Int) cmp (q09 n) (s : Int) q) (fun r => r.Perm data) := fun q s e hq hs he => by
     have hwe : IntKind.i64.wrap (((d + m : Nat) : Int) - (s : Int)) = (e : Int) := by rw [wrap_i64 _ (by omega)]; omega
     unfold q1c; rw [hhalf, hdm, hwe]; refine jh5 (fun hx => ?_) (fun _ => Ok.some hq); simp only [Xk, decide_eq_true_eq] at hx; refine jh4 (hself hq (x := d) (y := e) (z := b) (by omega) (by omega) h3 (by omega)) fun r hr => ?_; exact Ok.guard hr.length_eq (Ok.some (hr.trans hq))
    have j5 : ∀ (q : List GOut) (s : Nat), q.Perm data -> s <= d + m -> Ok (q1d (a : Int) (m : Int) (b : Int) cmp (q09 n) (s : Int) q) (fun r => r.Perm data) := fun q s hq hs => by
     unfold q1d; rw [hhalf]; refine jh5 (fun hx => ?_) (fun _ => j6 q s _ hq hs rfl); simp only [Xk, decide_eq_true_eq] at hx; refine jh4 (hself hq (x := a) (y := s) (z := d) (by omega) (by omega) (by omega) (by omega)) fun r hr => ?_; exact Ok.guard hr.length_eq (j6 r s _ (hr.trans hq) hs rfl)
    have j4 : ∀ (s : Nat), s <= d + m -> d + m - s <= b -> Ok (q1y data (a : Int) (m : Int) (b : Int) cmp (q09 n) (s : Int)) (fun r => r.Perm data) := fun s hs hse => by
     obtain ⟨e, he⟩ : ∃ e, e = d + m - s := ⟨_, rfl⟩; have hwe : IntKind.i64.wrap (((d + m : Nat) : Int) - (s : Int)) = (e : Int) := by rw [wrap_i64 _ (by omega)]; omega
     unfold q1y; rw [hhalf, hdm, hwe]; refine jh5 (fun hx => ?_) (fun _ => j5 data s (Xd _) hs); simp only [Xk, decide_eq_true_eq] at hx; have hsplit : data = data.take s ++ (data.drop s).take (m - s) ++ (data.drop m).take (e - m) ++ data.drop e := by
      have e1 : data.drop m = (data.drop m).take (e - m) ++ data.drop e := by
       conv => lhs; rw [<- Xc (e - m) (data.drop m)]
       rw [List.drop_drop, show m + (e - m) = e by omega]
      have e2 : data.drop s = (data.drop s).take (m - s) ++ data.drop m := by
       conv => lhs; rw [<- Xc (m - s) (data.drop s)]
       rw [List.drop_drop, show s + (m - s) = m by omega]
      conv => lhs; rw [<- Xc s data, e2, e1]
      simp only [Xi]
     have l1 : (data.take s).length = s := by rw [Xe]; omega
     have l2 : ((data.drop s).take (m - s)).length = m - s := by rw [Xe, Xn]; omega
     have l3 : ((data.drop m).take (e - m)).length = e - m := by rw [Xe, Xn]; omega
     have hrot := j1j (cmp := cmp) (A := data.take s) (X := (data.drop s).take (m - s)) (Y := (data.drop m).take (e - m)) (B := data.drop e) (fun h => by rw [h] at l2; simp at l2; omega) (fun h => by rw [h] at l3; simp at l3; omega) (by rw [<- hsplit]; omega); rw [<- hsplit] at hrot; simp only [List.length_append, l1, l2, l3] at hrot; rw [show s + (m - s) = m by omega, show m + (e - m) = e by omega] at hrot; refine jh4 hrot fun r hr => ?_; have hrp : r.Perm data := by
      rw [hr]
      conv => rhs; rw [hsplit]
      refine List.Perm.append_right _ ?_; rw [Xi, Xi]; exact Xm _ List.perm_append_comm
     exact Ok.guard hrp.length_eq (j5 r s hrp hs)
    have j3 : ∀ (lo hi : Nat), lo <= hi -> hi <= m -> hi <= d -> d + m - lo <= b -> Ok (q1e data (a : Int) (m : Int) (b : Int) cmp (q09 n) (lo : Int) (hi : Int)) (fun r => r.Perm data) := fun lo hi g1 g2 g2' g3 => by
     unfold q1e; refine jh7 (fun s => ∃ i j : Nat, s = ((i : Int), (j : Int)) /\ lo <= i /\ i <= j /\ j <= hi) (fun s => (s.2 - s.1).toNat) ?_ ⟨lo, hi, rfl, Xg _, g1, Xg _⟩ (by simp only [rounds]; omega); rintro rec _ ⟨i, j, rfl, f1, f2, f3⟩ hr; unfold q4y; dsimp only; rw [hhalf, hdm, BG.half i j (by omega)]; refine jh5 (fun hx => ?_) (fun hx => j4 i (by omega) (by omega)); simp only [decide_eq_true_eq] at hx; have hw1 : IntKind.i64.wrap (((d + m : Nat) : Int) - 1) = ((d + m - 1 : Nat) : Int) := by rw [wrap_i64 _ (by omega)]; omega
     have hw2 : IntKind.i64.wrap (((d + m - 1 : Nat) : Int) - (((i + j) / 2 : Nat) : Int)) = ((d + m - 1 - (i + j) / 2 : Nat) : Int) := by rw [wrap_i64 _ (by omega)]; omega
     rw [hw1, hw2]; refine Ok.bind (jh6 (show d + m - 1 - (i + j) / 2 < data.length by omega) (Ok.bind (jh6 (show (i + j) / 2 < data.length by omega) ?_))); obtain ⟨c, hc'⟩ := hc (data[d + m - 1 - (i + j) / 2]'(by omega)) (data[(i + j) / 2]'(by omega)); rw [hc', wrap_i64 _ (by omega)]; exact Ok.bind (Ok.some (jh5 (fun _ => hr _ ⟨(i + j) / 2 + 1, j, by simp, by omega, by omega, f3⟩ (by dsimp only; omega)) (fun _ => hr _ ⟨i, (i + j) / 2, rfl, f1, by omega, by omega⟩ (by dsimp only; omega))))
    unfold q33; rw [hhalf, hdm]; refine jh5 (fun hx => ?_) (fun hx => ?_)
    .
     simp only [decide_eq_true_eq] at hx; have hwb : IntKind.i64.wrap (((d + m : Nat) : Int) - (b : Int)) = ((d + m - b : Nat) : Int) := by rw [wrap_i64 _ (by omega)]; omega
     rw [hwb]; exact j3 (d + m - b) d (by omega) (by omega) (by omega) (by omega)
    . simp only [decide_eq_false_iff_not] at hx; exact j3 a m (by omega) (by omega) (by omega) (by omega)
theorem stable_perm {data : List GOut} (hn : data.length < 100000000) : Ok (q19 data cmp) (fun r => r.Perm data) := by
 obtain ⟨N, hN⟩ : ∃ N, N = data.length := ⟨_, rfl⟩; have hins : ∀ {q : List GOut} {x y : Nat}, q.Perm data -> x <= y -> y <= N -> Ok (q0w q (x : Int) (y : Int) cmp) (fun r => r.Perm q) := fun hq e1 e2 => z9x hc e1 (by rw [hq.length_eq]; omega) (by rw [hq.length_eq]; omega); have hsym : ∀ {q : List GOut} {x y z : Nat}, q.Perm data -> x < y -> y < z -> z <= N -> Ok (q3n q (x : Int) (y : Int) (z : Int) cmp) (fun r => r.Perm q) := fun hq e1 e2 e3 => z3r hc rounds e1 e2 (by rw [hq.length_eq]; omega) (by rw [hq.length_eq]; omega) (by simp only [rounds]; omega); unfold q19; refine jh4 (P := fun r => r.Perm data) ?_ fun r hr => Ok.guard hr.length_eq (Ok.some hr); unfold q45; rw [<- hN]; refine jh7 (fun s => ∃ a : Nat, ∃ l : List GOut, s = ((a : Int), ((a + 20 : Nat) : Int), l) /\ a <= N /\ l.Perm data) (fun s => N - s.1.toNat) ?_ ⟨0, data, rfl, Nat.zero_le _, Xd _⟩ (by simp only [rounds]; omega); rintro rec _ ⟨a, l, rfl, h1, hp⟩ hr; unfold q5i; dsimp only; refine jh5 (fun hx => ?_) (fun hx => ?_)
 .
  simp only [decide_eq_true_eq] at hx; refine jh4 (hins hp (by omega) (by omega)) fun v hv => Ok.guard hv.length_eq ?_; have hw : IntKind.i64.wrap (((a + 20 : Nat) : Int) + 20) = ((a + 20 + 20 : Nat) : Int) := by rw [wrap_i64 _ (by omega)]; omega
  rw [hw]; exact hr _ ⟨a + 20, v, rfl, by omega, hv.trans hp⟩ (by dsimp only; omega)
 .
  unfold q3c; refine jh4 (hins hp h1 (Xg _)) fun v hv => Ok.guard hv.length_eq ?_; refine jh7 (fun s => ∃ w : Nat, ∃ l : List GOut, s = ((w : Int), l) /\ 20 <= w /\ w <= 400000000 /\ l.Perm data) (fun s => N - s.1.toNat) ?_ ⟨20, v, rfl, by omega, by omega, hv.trans hp⟩ (by simp only [rounds]; omega); rintro rec2 _ ⟨w, l, rfl, g1, g2, hp⟩ hr2; unfold q3d; dsimp only; refine jh5 (fun hx => ?_) (fun hx => Ok.some hp); simp only [decide_eq_true_eq] at hx; have hw2 : IntKind.i64.wrap (2 * (w : Int)) = ((2 * w : Nat) : Int) := by rw [wrap_i64 _ (by omega)]; omega
  have hw3 : IntKind.i64.wrap ((w : Int) * 2) = ((2 * w : Nat) : Int) := by rw [wrap_i64 _ (by omega)]; omega
  rw [hw2]; refine jh7 (fun s => ∃ a : Nat, ∃ l : List GOut, s = ((a : Int), ((a + 2 * w : Nat) : Int), l) /\ a <= N /\ l.Perm data) (fun s => N - s.1.toNat) ?_ ⟨0, l, by simp, Nat.zero_le _, hp⟩ (by simp only [rounds]; omega); rintro rec4 _ ⟨a, l, rfl, f1, hp⟩ hr4; have haw : IntKind.i64.wrap ((a : Int) + (w : Int)) = ((a + w : Nat) : Int) := by rw [wrap_i64 _ (by omega)]; omega
  unfold q5j; dsimp only; refine jh5 (fun hy => ?_) (fun hy => ?_)
  .
   simp only [decide_eq_true_eq] at hy; rw [haw, hw2]; refine jh4 (hsym hp (by omega) (by omega) (by omega)) fun v hv => Ok.guard hv.length_eq ?_; have hw : IntKind.i64.wrap (((a + 2 * w : Nat) : Int) + ((2 * w : Nat) : Int)) = ((a + 2 * w + 2 * w : Nat) : Int) := by rw [wrap_i64 _ (by omega)]; omega
   rw [hw]; exact hr4 _ ⟨a + 2 * w, v, rfl, by omega, hv.trans hp⟩ (by dsimp only; omega)
  . unfold q3b; rw [haw, hw3]; refine jh5 (fun hz => ?_) (fun hz => hr2 _ ⟨2 * w, l, rfl, by omega, by omega, hp⟩ (by dsimp only; omega)); simp only [decide_eq_true_eq] at hz; refine jh4 (hsym hp (x := a) (y := a + w) (z := N) (by omega) (by omega) (Xg _)) fun v hv => Ok.guard hv.length_eq ?_; exact hr2 _ ⟨2 * w, v, rfl, by omega, by omega, hv.trans hp⟩ (by dsimp only; omega)
end
end SO
end Go.Proofs.YteibkihbdgphnaaGreat
