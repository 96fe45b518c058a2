/-
  The law in plain words: what its plain function gives is true. No condition beyond those that each theorem names.
-/
import Derived.Test.YteibkihbdgphnaaGreatWalkMO1
import Derived.Test.YteibkihbdgphnaaGreatPSo
import Derived.Test.YteibkihbdgphnaaGreatP05a
set_option linter.unusedSimpArgs false
set_option linter.unusedVariables false
set_option linter.unusedSectionVars false
namespace Go.Proofs.YteibkihbdgphnaaGreat
open Go Go.RowKit
namespace SO
section
variable {cmp : GOut → GOut → Option Int} (hc : ∀ x y, ∃ n, cmp x y = some n)
theorem adj {l : List GOut} {k : Nat} (h : k + 1 < l.length) : (((l.set k l[k + 1]).set (k + 1) l[k])).Perm l := by
 have e : l = l.take k ++ l[k] :: l[k + 1] :: l.drop (k + 2) := by
  conv => lhs; rw [← List.take_append_drop k l]
  rw [List.drop_eq_getElem_cons (by omega : k < l.length), List.drop_eq_getElem_cons h]
 have hl : (l.take k).length = k := by rw [List.length_take]; omega
 have e2 : (l.set k l[k + 1]).set (k + 1) l[k] = l.take k ++ l[k + 1] :: l[k] :: l.drop (k + 2) := by
  refine List.ext_getElem? fun i => ?_; rcases Nat.lt_trichotomy i k with hi | rfl | hi
  · rw [List.getElem?_set_ne (by omega), List.getElem?_set_ne (by omega), List.getElem?_append_left (by omega), List.getElem?_take_of_lt hi]
  · rw [List.getElem?_set_ne (by omega), List.getElem?_set_self (by omega), List.getElem?_append_right (by omega), hl, Nat.sub_self]; rfl
  ·
   rw [List.getElem?_append_right (by omega), hl]; obtain ⟨d, rfl⟩ : ∃ d, i = k + 1 + d := ⟨i - k - 1, by omega⟩
   cases d with
   | zero =>
    rw [List.getElem?_set_self (by rw [List.length_set]; omega), show k + 1 + 0 - k = 1 by omega]; rfl
   | succ d =>
    rw [List.getElem?_set_ne (by omega), List.getElem?_set_ne (by omega), show k + 1 + (d + 1) - k = d + 2 by omega]; simp only [List.getElem?_cons_succ, List.getElem?_drop]
    congr 1; omega
 rw [e2]
 conv => rhs; rw [e]
 exact List.Perm.append_left _ (List.Perm.swap _ _ _)
include hc
theorem z7p {data : List GOut} {a b : Nat} (hab : a ≤ b) (hb : b ≤ data.length) (hn : data.length < 1000000000) : Ok (q0o data (a : Int) (b : Int) cmp) (fun r => r.Perm data) := by
 unfold q0o; rw [wrap_i64 _ (by omega)]; refine j9d (fun s => ∃ i : Nat, ∃ l : List GOut, s = ((i : Int), l) ∧ a + 1 ≤ i ∧ i ≤ b + 1 ∧ l.Perm data) (fun s => b - s.1.toNat) ?_ ⟨a + 1, data, by simp, by omega, by omega, List.Perm.refl _⟩ (by simp only [rounds]; omega); rintro rec _ ⟨i, l, rfl, h1, h2, hp⟩ hr; have hll := hp.length_eq; unfold q3b; dsimp only; refine j9b (fun hx => ?_) (fun hx => Ok.some hp); simp only [decide_eq_true_eq] at hx; refine j9d (fun s => ∃ j : Nat, ∃ l : List GOut, s = ((j : Int), l) ∧ a ≤ j ∧ j ≤ i ∧ l.Perm data) (fun s => s.1.toNat) ?_ ⟨i, l, rfl, by omega, by omega, hp⟩ (by simp only [rounds]; omega); rintro rec2 _ ⟨j, q, rfl, g1, g2, hq⟩ hr2; have hql := hq.length_eq; have hgo : ∀ q : List GOut, q.Perm data → Ok (rec (IntKind.i64.wrap ((i : Int) + 1), q)) (fun r => r.Perm data) := fun q hq => by
  rw [wrap_i64 _ (by omega)]; exact hr _ ⟨i + 1, q, by simp, by omega, by omega, hq⟩ (by dsimp only; omega)
 unfold q3a; dsimp only; refine j9b (fun hy => ?_) (fun _ => hgo q hq); simp only [decide_eq_true_eq] at hy; obtain ⟨k, rfl⟩ : ∃ k, j = k + 1 := ⟨j - 1, by omega⟩; have hw : IntKind.i64.wrap (((k + 1 : Nat) : Int) - 1) = (k : Int) := by rw [wrap_i64 _ (by omega)]; omega
 rw [hw]; refine Ok.bind (j9c (show k + 1 < q.length by omega) (Ok.bind (j9c (show k < q.length by omega) ?_))); obtain ⟨n, hn'⟩ := hc q[k + 1] q[k]; rw [hn']; refine Ok.bind (Ok.some (j9b (fun _ => ?_) (fun _ => hgo q hq))); refine Ok.bind (j9c (by rw [List.length_set]; omega) ?_); rw [Int.toNat_natCast, Int.toNat_natCast]; refine hr2 _ ⟨k, _, rfl, by omega, by omega, ?_⟩ (by dsimp only; omega); have he : (q.set (k + 1) q[k]).set k q[k + 1] = (q.set k q[k + 1]).set (k + 1) q[k] := List.set_comm _ _ (by omega); rw [he]; exact (adj (by omega)).trans hq
theorem z1l : ∀ (n : Nat) {data : List GOut} {a m b : Nat}, a < m → m < b → b ≤ data.length → data.length < 1000000000 → b - a < n → Ok (q05 n data (a : Int) (m : Int) (b : Int) cmp) (fun r => r.Perm data)
 | 0, _, _, _, _, _, _, _, _, h => absurd h (by omega)
 | n + 1, data, a, m, b, h1, h2, h3, h4, h5 => by
  show Ok (q1v (q05 n) data a m b cmp) _
  unfold q1v; rw [wrap_i64 ((m : Int) - a) (by omega)]; refine j9b (fun hm => ?_) (fun hm => ?_)
  ·
   simp only [beq_iff_eq] at hm; refine j9d (fun s => ∃ i j : Nat, s = ((i : Int), (j : Int)) ∧ m ≤ i ∧ i ≤ j ∧ j ≤ b) (fun s => (s.2 - s.1).toNat) ?_ ⟨m, b, rfl, by omega, by omega, by omega⟩ (by simp only [rounds]; omega); rintro rec _ ⟨i, j, rfl, g1, g2, g3⟩ hr; unfold q44; dsimp only; rw [BG.half i j (by omega)]; refine j9b (fun hx => ?_) (fun hx => ?_)
   · simp only [decide_eq_true_eq] at hx; refine Ok.bind (j9c (show (i + j) / 2 < data.length by omega) (Ok.bind (j9c (show a < data.length by omega) ?_))); obtain ⟨c, hc'⟩ := hc (data[(i + j) / 2]'(by omega)) (data[a]'(by omega)); rw [hc', wrap_i64 _ (by omega)]; refine Ok.bind (Ok.some (j9b (fun _ => hr _ ⟨(i + j) / 2 + 1, j, by simp, by omega, by omega, g3⟩ (by dsimp only; omega)) (fun _ => hr _ ⟨i, (i + j) / 2, rfl, g1, by omega, by omega⟩ (by dsimp only; omega))))
   ·
    unfold q2j; refine j9d (fun s => ∃ k : Nat, ∃ l : List GOut, s = ((k : Int), l) ∧ l.Perm data) (fun s => (i : Nat) - s.1.toNat) ?_ ⟨a, data, rfl, List.Perm.refl _⟩ (by simp only [rounds]; omega); rintro rec2 _ ⟨k, l, rfl, hp⟩ hr2; have hll := hp.length_eq; unfold q45; dsimp only; refine j9b (fun hy => ?_) (fun _ => Ok.some hp); rw [wrap_i64 ((i : Int) - 1) (by omega)] at hy; simp only [decide_eq_true_eq] at hy; have hw : IntKind.i64.wrap ((k : Int) + 1) = ((k + 1 : Nat) : Int) := by rw [wrap_i64 _ (by omega)]; omega
    rw [hw]; refine Ok.bind (j9c (show k + 1 < l.length by omega) (Ok.bind (j9c (show k < l.length by omega) (Ok.bind (j9c (by rw [List.length_set]; omega) ?_))))); rw [Int.toNat_natCast, Int.toNat_natCast]; exact hr2 _ ⟨k + 1, _, rfl, (adj (by omega)).trans hp⟩ (by dsimp only; omega)
  ·
   simp only [beq_eq_false_iff_ne, ne_eq] at hm; unfold q2r; rw [wrap_i64 ((b : Int) - m) (by omega)]; refine j9b (fun hm2 => ?_) (fun hm2 => ?_)
   ·
    simp only [beq_iff_eq] at hm2; refine j9d (fun s => ∃ i j : Nat, s = ((i : Int), (j : Int)) ∧ a ≤ i ∧ i ≤ j ∧ j ≤ m) (fun s => (s.2 - s.1).toNat) ?_ ⟨a, m, rfl, by omega, by omega, by omega⟩ (by simp only [rounds]; omega); rintro rec _ ⟨i, j, rfl, g1, g2, g3⟩ hr; unfold q46; dsimp only; rw [BG.half i j (by omega)]; refine j9b (fun hx => ?_) (fun hx => ?_)
    · simp only [decide_eq_true_eq] at hx; refine Ok.bind (j9c (show m < data.length by omega) (Ok.bind (j9c (show (i + j) / 2 < data.length by omega) ?_))); obtain ⟨c, hc'⟩ := hc (data[m]'(by omega)) (data[(i + j) / 2]'(by omega)); rw [hc', wrap_i64 _ (by omega)]; refine Ok.bind (Ok.some (j9b (fun _ => hr _ ⟨(i + j) / 2 + 1, j, by simp, by omega, by omega, g3⟩ (by dsimp only; omega)) (fun _ => hr _ ⟨i, (i + j) / 2, rfl, g1, by omega, by omega⟩ (by dsimp only; omega))))
    ·
     unfold q2p; refine j9d (fun s => ∃ k : Nat, ∃ l : List GOut, s = ((k : Int), l) ∧ k ≤ m ∧ l.Perm data) (fun s => s.1.toNat) ?_ ⟨m, data, rfl, Nat.le_refl _, List.Perm.refl _⟩ (by simp only [rounds]; omega); rintro rec2 _ ⟨k, l, rfl, hkm, hp⟩ hr2; have hll := hp.length_eq; unfold q4h; dsimp only; refine j9b (fun hy => ?_) (fun _ => Ok.some hp); simp only [decide_eq_true_eq] at hy; obtain ⟨k, rfl⟩ : ∃ k', k = k' + 1 := ⟨k - 1, by omega⟩; have hw : IntKind.i64.wrap (((k + 1 : Nat) : Int) - 1) = (k : Int) := by rw [wrap_i64 _ (by omega)]; omega
     rw [hw]; refine Ok.bind (j9c (show k < l.length by omega) (Ok.bind (j9c (show k + 1 < l.length by omega) (Ok.bind (j9c (by rw [List.length_set]; omega) ?_))))); rw [Int.toNat_natCast, Int.toNat_natCast]; have he : (l.set (k + 1) l[k]).set k l[k + 1] = (l.set k l[k + 1]).set (k + 1) l[k] := List.set_comm _ _ (by omega); rw [he]; exact hr2 _ ⟨k, _, rfl, by omega, (adj (by omega)).trans hp⟩ (by dsimp only; omega)
   ·
    simp only [beq_eq_false_iff_ne, ne_eq] at hm2; have hself : ∀ {q : List GOut} {x y z : Nat}, q.Perm data → x < y → y < z → z ≤ data.length → z - x < n → Ok (q05 n q (x : Int) (y : Int) (z : Int) cmp) (fun r => r.Perm q) := fun hq e1 e2 e3 e4 =>
     z1l n e1 e2 (by rw [hq.length_eq]; exact e3) (by rw [hq.length_eq]; exact h4) e4
    obtain ⟨d, hd⟩ : ∃ d, d = (a + b) / 2 := ⟨_, rfl⟩; have hhalf : IntKind.i64.wrap (q23 .u64 (IntKind.u64.wrap (IntKind.i64.wrap ((a : Int) + (b : Int)))) 1) = (d : Int) := by rw [BG.half a b (by omega), hd]
    have had : a + 2 ≤ d ∧ d + 2 ≤ b := by omega
    have hdm : IntKind.i64.wrap ((d : Int) + (m : Int)) = ((d + m : Nat) : Int) := by rw [wrap_i64 _ (by omega)]; omega
    have j6 : ∀ (q : List GOut) (s e : Nat), q.Perm data → s ≤ d + m → e = d + m - s → Ok (q18 (a : Int) (m : Int) (b : Int) cmp (q05 n) (s : Int) q) (fun r => r.Perm data) := fun q s e hq hs he => by
     have hwe : IntKind.i64.wrap (((d + m : Nat) : Int) - (s : Int)) = (e : Int) := by rw [wrap_i64 _ (by omega)]; omega
     unfold q18; rw [hhalf, hdm, hwe]; refine j9b (fun hx => ?_) (fun _ => Ok.some hq); simp only [Bool.and_eq_true, decide_eq_true_eq] at hx; refine j9a (hself hq (x := d) (y := e) (z := b) (by omega) (by omega) h3 (by omega)) fun r hr => ?_; exact Ok.guard hr.length_eq (Ok.some (hr.trans hq))
    have j5 : ∀ (q : List GOut) (s : Nat), q.Perm data → s ≤ d + m → Ok (q19 (a : Int) (m : Int) (b : Int) cmp (q05 n) (s : Int) q) (fun r => r.Perm data) := fun q s hq hs => by
     unfold q19; rw [hhalf]; refine j9b (fun hx => ?_) (fun _ => j6 q s _ hq hs rfl); simp only [Bool.and_eq_true, decide_eq_true_eq] at hx; refine j9a (hself hq (x := a) (y := s) (z := d) (by omega) (by omega) (by omega) (by omega)) fun r hr => ?_; exact Ok.guard hr.length_eq (j6 r s _ (hr.trans hq) hs rfl)
    have j4 : ∀ (s : Nat), s ≤ d + m → d + m - s ≤ b → Ok (q1s data (a : Int) (m : Int) (b : Int) cmp (q05 n) (s : Int)) (fun r => r.Perm data) := fun s hs hse => by
     obtain ⟨e, he⟩ : ∃ e, e = d + m - s := ⟨_, rfl⟩; have hwe : IntKind.i64.wrap (((d + m : Nat) : Int) - (s : Int)) = (e : Int) := by rw [wrap_i64 _ (by omega)]; omega
     unfold q1s; rw [hhalf, hdm, hwe]; refine j9b (fun hx => ?_) (fun _ => j5 data s (List.Perm.refl _) hs); simp only [Bool.and_eq_true, decide_eq_true_eq] at hx; have hsplit : data = data.take s ++ (data.drop s).take (m - s) ++ (data.drop m).take (e - m) ++ data.drop e := by
      have e1 : data.drop m = (data.drop m).take (e - m) ++ data.drop e := by
       conv => lhs; rw [← List.take_append_drop (e - m) (data.drop m)]
       rw [List.drop_drop, show m + (e - m) = e by omega]
      have e2 : data.drop s = (data.drop s).take (m - s) ++ data.drop m := by
       conv => lhs; rw [← List.take_append_drop (m - s) (data.drop s)]
       rw [List.drop_drop, show s + (m - s) = m by omega]
      conv => lhs; rw [← List.take_append_drop s data, e2, e1]
      simp only [List.append_assoc]
     have l1 : (data.take s).length = s := by rw [List.length_take]; omega
     have l2 : ((data.drop s).take (m - s)).length = m - s := by rw [List.length_take, List.length_drop]; omega
     have l3 : ((data.drop m).take (e - m)).length = e - m := by rw [List.length_take, List.length_drop]; omega
     have hrot := zv6 (cmp := cmp) (A := data.take s) (X := (data.drop s).take (m - s)) (Y := (data.drop m).take (e - m)) (B := data.drop e) (fun h => by rw [h] at l2; simp at l2; omega) (fun h => by rw [h] at l3; simp at l3; omega) (by rw [← hsplit]; omega); rw [← hsplit] at hrot; simp only [List.length_append, l1, l2, l3] at hrot; rw [show s + (m - s) = m by omega, show m + (e - m) = e by omega] at hrot; refine j9a hrot fun r hr => ?_; have hrp : r.Perm data := by
      rw [hr]
      conv => rhs; rw [hsplit]
      refine List.Perm.append_right _ ?_; rw [List.append_assoc, List.append_assoc]; exact List.Perm.append_left _ List.perm_append_comm
     exact Ok.guard hrp.length_eq (j5 r s hrp hs)
    have j3 : ∀ (lo hi : Nat), lo ≤ hi → hi ≤ m → hi ≤ d → d + m - lo ≤ b → Ok (q1a data (a : Int) (m : Int) (b : Int) cmp (q05 n) (lo : Int) (hi : Int)) (fun r => r.Perm data) := fun lo hi g1 g2 g2' g3 => by
     unfold q1a; refine j9d (fun s => ∃ i j : Nat, s = ((i : Int), (j : Int)) ∧ lo ≤ i ∧ i ≤ j ∧ j ≤ hi) (fun s => (s.2 - s.1).toNat) ?_ ⟨lo, hi, rfl, Nat.le_refl _, g1, Nat.le_refl _⟩ (by simp only [rounds]; omega); rintro rec _ ⟨i, j, rfl, f1, f2, f3⟩ hr; unfold q4i; dsimp only; rw [hhalf, hdm, BG.half i j (by omega)]; refine j9b (fun hx => ?_) (fun hx => j4 i (by omega) (by omega)); simp only [decide_eq_true_eq] at hx; have hw1 : IntKind.i64.wrap (((d + m : Nat) : Int) - 1) = ((d + m - 1 : Nat) : Int) := by rw [wrap_i64 _ (by omega)]; omega
     have hw2 : IntKind.i64.wrap (((d + m - 1 : Nat) : Int) - (((i + j) / 2 : Nat) : Int)) = ((d + m - 1 - (i + j) / 2 : Nat) : Int) := by rw [wrap_i64 _ (by omega)]; omega
     rw [hw1, hw2]; refine Ok.bind (j9c (show d + m - 1 - (i + j) / 2 < data.length by omega) (Ok.bind (j9c (show (i + j) / 2 < data.length by omega) ?_))); obtain ⟨c, hc'⟩ := hc (data[d + m - 1 - (i + j) / 2]'(by omega)) (data[(i + j) / 2]'(by omega)); rw [hc', wrap_i64 _ (by omega)]; exact Ok.bind (Ok.some (j9b (fun _ => hr _ ⟨(i + j) / 2 + 1, j, by simp, by omega, by omega, f3⟩ (by dsimp only; omega)) (fun _ => hr _ ⟨i, (i + j) / 2, rfl, f1, by omega, by omega⟩ (by dsimp only; omega))))
    unfold q2q; rw [hhalf, hdm]; refine j9b (fun hx => ?_) (fun hx => ?_)
    ·
     simp only [decide_eq_true_eq] at hx; have hwb : IntKind.i64.wrap (((d + m : Nat) : Int) - (b : Int)) = ((d + m - b : Nat) : Int) := by rw [wrap_i64 _ (by omega)]; omega
     rw [hwb]; exact j3 (d + m - b) d (by omega) (by omega) (by omega) (by omega)
    · simp only [decide_eq_false_iff_not] at hx; exact j3 a m (by omega) (by omega) (by omega) (by omega)
theorem stable_perm {data : List GOut} (hn : data.length < 100000000) : Ok (q14 data cmp) (fun r => r.Perm data) := by
 obtain ⟨N, hN⟩ : ∃ N, N = data.length := ⟨_, rfl⟩; have hins : ∀ {q : List GOut} {x y : Nat}, q.Perm data → x ≤ y → y ≤ N → Ok (q0o q (x : Int) (y : Int) cmp) (fun r => r.Perm q) := fun hq e1 e2 => z7p hc e1 (by rw [hq.length_eq]; omega) (by rw [hq.length_eq]; omega); have hsym : ∀ {q : List GOut} {x y z : Nat}, q.Perm data → x < y → y < z → z ≤ N → Ok (q38 q (x : Int) (y : Int) (z : Int) cmp) (fun r => r.Perm q) := fun hq e1 e2 e3 => z1l hc rounds e1 e2 (by rw [hq.length_eq]; omega) (by rw [hq.length_eq]; omega) (by simp only [rounds]; omega); unfold q14; refine j9a (P := fun r => r.Perm data) ?_ fun r hr => Ok.guard hr.length_eq (Ok.some hr); unfold q3r; rw [← hN]; refine j9d (fun s => ∃ a : Nat, ∃ l : List GOut, s = ((a : Int), ((a + 20 : Nat) : Int), l) ∧ a ≤ N ∧ l.Perm data) (fun s => N - s.1.toNat) ?_ ⟨0, data, rfl, Nat.zero_le _, List.Perm.refl _⟩ (by simp only [rounds]; omega); rintro rec _ ⟨a, l, rfl, h1, hp⟩ hr; unfold q4y; dsimp only; refine j9b (fun hx => ?_) (fun hx => ?_)
 ·
  simp only [decide_eq_true_eq] at hx; refine j9a (hins hp (by omega) (by omega)) fun v hv => Ok.guard hv.length_eq ?_; have hw : IntKind.i64.wrap (((a + 20 : Nat) : Int) + 20) = ((a + 20 + 20 : Nat) : Int) := by rw [wrap_i64 _ (by omega)]; omega
  rw [hw]; exact hr _ ⟨a + 20, v, rfl, by omega, hv.trans hp⟩ (by dsimp only; omega)
 ·
  unfold q30; refine j9a (hins hp h1 (Nat.le_refl _)) fun v hv => Ok.guard hv.length_eq ?_; refine j9d (fun s => ∃ w : Nat, ∃ l : List GOut, s = ((w : Int), l) ∧ 20 ≤ w ∧ w ≤ 400000000 ∧ l.Perm data) (fun s => N - s.1.toNat) ?_ ⟨20, v, rfl, by omega, by omega, hv.trans hp⟩ (by simp only [rounds]; omega); rintro rec2 _ ⟨w, l, rfl, g1, g2, hp⟩ hr2; unfold q31; dsimp only; refine j9b (fun hx => ?_) (fun hx => Ok.some hp); simp only [decide_eq_true_eq] at hx; have hw2 : IntKind.i64.wrap (2 * (w : Int)) = ((2 * w : Nat) : Int) := by rw [wrap_i64 _ (by omega)]; omega
  have hw3 : IntKind.i64.wrap ((w : Int) * 2) = ((2 * w : Nat) : Int) := by rw [wrap_i64 _ (by omega)]; omega
  rw [hw2]; refine j9d (fun s => ∃ a : Nat, ∃ l : List GOut, s = ((a : Int), ((a + 2 * w : Nat) : Int), l) ∧ a ≤ N ∧ l.Perm data) (fun s => N - s.1.toNat) ?_ ⟨0, l, by simp, Nat.zero_le _, hp⟩ (by simp only [rounds]; omega); rintro rec4 _ ⟨a, l, rfl, f1, hp⟩ hr4; have haw : IntKind.i64.wrap ((a : Int) + (w : Int)) = ((a + w : Nat) : Int) := by rw [wrap_i64 _ (by omega)]; omega
  unfold q50; dsimp only; refine j9b (fun hy => ?_) (fun hy => ?_)
  ·
   simp only [decide_eq_true_eq] at hy; rw [haw, hw2]; refine j9a (hsym hp (by omega) (by omega) (by omega)) fun v hv => Ok.guard hv.length_eq ?_; have hw : IntKind.i64.wrap (((a + 2 * w : Nat) : Int) + ((2 * w : Nat) : Int)) = ((a + 2 * w + 2 * w : Nat) : Int) := by rw [wrap_i64 _ (by omega)]; omega
   rw [hw]; exact hr4 _ ⟨a + 2 * w, v, rfl, by omega, hv.trans hp⟩ (by dsimp only; omega)
  · unfold q2y; rw [haw, hw3]; refine j9b (fun hz => ?_) (fun hz => hr2 _ ⟨2 * w, l, rfl, by omega, by omega, hp⟩ (by dsimp only; omega)); simp only [decide_eq_true_eq] at hz; refine j9a (hsym hp (x := a) (y := a + w) (z := N) (by omega) (by omega) (Nat.le_refl _)) fun v hv => Ok.guard hv.length_eq ?_; exact hr2 _ ⟨2 * w, v, rfl, by omega, by omega, hv.trans hp⟩ (by dsimp only; omega)
end
end SO
end Go.Proofs.YteibkihbdgphnaaGreat
