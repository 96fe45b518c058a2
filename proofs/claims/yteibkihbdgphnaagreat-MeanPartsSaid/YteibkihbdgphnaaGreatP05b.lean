/-
  The law in plain words: what its plain function gives is true. No condition beyond those that each theorem names.
-/
import Derived.Test.YteibkihbdgphnaaGreatWalkMP0
import Derived.Test.YteibkihbdgphnaaGreatP05a
set_option linter.unusedSimpArgs false
set_option linter.unusedVariables false
set_option linter.unusedSectionVars false
open List renaming take_succ_eq_append_getElem -> Xa, pairwise_append -> Xb, pairwise_cons -> Xc, mem_cons -> Xd, mem_append_right -> Xf, length_filter_le -> Xg, mem_append_left -> Xh, filter_append -> Xi, getElem_mem -> Xk, length_take -> Xl, take_length -> Xm, filter_cons -> Xn
open Int renaming toNat_natCast -> Xe
open Bool renaming not_eq_true' -> Xj
namespace Go.Proofs.YteibkihbdgphnaaGreat
open Go Go.RowKit
namespace BG
structure Put (b c : List GItem) (r : GRec) (n : Int) : Prop where
 rt : Rt c
 cnt : ∀ s, cnt c s = cnt b s + if r = s then n else 0
 tot : tot c = tot b + n
 big : big c <= big b + (n.natAbs : Int)
 len : c.length <= b.length + 1
theorem Rt.mid {A B : List GItem} (h : Rt (A ++ B)) {x : GItem} (hA : ∀ y ∈ A, lt y.Rec x.Rec) (hB : ∀ y ∈ B, lt x.Rec y.Rec) (hn : x.N ≠ 0 /\ -2147483648 <= x.N /\ x.N <= 2147483648) : Rt (A ++ x :: B) := by
 have h0 := Xb.1 h.inc; refine ⟨Xb.2 ⟨h0.1, Xc.2 ⟨hB, h0.2.1⟩, fun a ha b hb => ?_⟩, fun y hy => ?_⟩
 .
  rcases Xd.1 hb with rfl | hb
  . exact hA a ha
  . exact h0.2.2 a ha b hb
 .
  rcases List.mem_append.1 hy with hy | hy
  . exact h.num y (Xh _ hy)
  .
   rcases Xd.1 hy with rfl | hy
   . exact hn
   . exact h.num y (Xf _ hy)
theorem j1n {b : List GItem} {r : GRec} {n : Int} (h : Rt b) (hl : b.length < 100000000) (hn : -2147483648 <= n /\ n <= 2147483648) (hs : -2147483648 <= cnt b r + n /\ cnt b r + n <= 2147483648) :
  Ok (q6r b r n) (fun c => Put b c r n) := by
 unfold q6r; refine jh4 (j1g h.inc (by omega)) fun v ⟨A, B, he, hA, hB, h1, h2⟩ => ?_; refine jh5 (fun h0 => Ok.some ?_) (fun h0 => Ok.bind (jh8 (zl1 n) (jh5 (fun hx => by simp only [Xj, decide_eq_false_iff_not] at hx; omega) (fun _ => ?_))))
 . simp only [beq_iff_eq] at h0; subst h0; exact ⟨h, fun s => by split <;> omega, by omega, by simp, by omega⟩
 simp only [beq_eq_false_iff_ne, ne_eq] at h0; subst he; have hlen : (A ++ B).length = A.length + B.length := by simp
 have hpw := Xb.1 h.inc; rw [h1, h2]; have hins : (∀ y ∈ B, lt r y.Rec) -> Ok (q9 (q4a (A ++ B) (A.length : Int) ([(⟨r, n⟩ : GItem)] : List GItem)) (fun (v_2 : List GItem) => some v_2)) (fun c => Put (A ++ B) c r n) := fun hB' => by
  unfold q4a z9y; refine Ok.bind (Ok.guard ⟨by omega, by omega, by simp, by simp; omega, by unfold maxLen; simp; omega⟩ (Ok.some (Ok.some ?_))); have e : List.take (A.length : Int).toNat (A ++ B) ++ [(⟨r, n⟩ : GItem)] ++ List.drop (A.length : Int).toNat (A ++ B) = A ++ ⟨r, n⟩ :: B := by
   rw [Xe, List.take_left, List.drop_left]; simp
  rw [e]; refine ⟨h.mid hA hB' ⟨h0, hn⟩, fun s => ?_, ?_, ?_, by simp; omega⟩
  . simp only [q7u, BG.cnt]; omega
  . simp only [q3a]; simp [BG.tot]; omega
  . simp only [qb7, BG.big]; omega
 cases B with
 | nil => exact jh5 (fun _ => hins (by simp)) (fun hx => by simp at hx)
 | cons x B =>
  simp only; refine jh5 (fun hx => hins ?_) (fun hx => ?_)
  .
   simp only [Xj, decide_eq_false_iff_not] at hx; have hrx : lt r x.Rec := by
    rcases j8x x.Rec r with h | h | h
    . exact absurd h (hB x (by simp))
    . exact absurd h hx
    . exact h
   intro y hy; rcases Xd.1 hy with rfl | hy
   . exact hrx
   . exact z8m hrx ((Xc.1 hpw.2.1).1 y hy)
  .
   simp only [Bool.not_eq_false', decide_eq_true_eq] at hx; subst hx; have hg : (A ++ x :: B)[A.length]'(by simp) = x := by simp
   have hcx : cnt (A ++ x :: B) x.Rec = x.N := z0t h.inc (by simp); rw [hcx] at hs; have hw : IntKind.i64.wrap (x.N + n) = x.N + n := wrap_i64 _ (by omega); have hxn := h.num x (by simp); have hA0 : ∀ y ∈ A, y.Rec ≠ x.Rec := fun y hy e => z0i x.Rec (by have := hA y hy; rwa [e] at this); have hBx := (Xc.1 hpw.2.1).1; have hB0 : ∀ y ∈ B, y.Rec ≠ x.Rec := fun y hy e => z0i x.Rec (by have := hBx y hy; rwa [e] at this); have hdel : Rt (A ++ B) := by
    refine ⟨h.inc.sublist (by simp), fun y hy => h.num y ?_⟩; rcases List.mem_append.1 hy with hy | hy
    . exact Xh _ hy
    . exact Xf _ (List.mem_cons_of_mem _ hy)
   refine Ok.bind (jh6 (by simp) ?_); rw [hg, hw]; refine jh5 (fun hz => ?_) (fun hz => Ok.bind (jh8 (zl1 _) (jh5 (fun _ => Ok.some ?_) (fun hm => by simp only [decide_eq_false_iff_not] at hm; omega))))
   .
    simp only [beq_iff_eq] at hz; unfold q7r za8; rw [wrap_i64 _ (by omega)]; refine Ok.bind (Ok.guard ⟨by omega, by omega, by simp; omega⟩ (Ok.some (Ok.some ?_))); have e : List.take (A.length : Int).toNat (A ++ x :: B) ++ List.drop ((A.length : Int) + 1).toNat (A ++ x :: B) = A ++ B := by
     rw [Xe, show ((A.length : Int) + 1).toNat = A.length + 1 by omega, List.take_left, List.drop_append]; simp
    rw [e]; refine ⟨hdel, fun s => ?_, ?_, ?_, by simp; omega⟩
    . simp only [q7u, BG.cnt]; split <;> omega
    . simp only [q3a]; simp [BG.tot]; omega
    . simp only [qb7, BG.big]; omega
   .
    simp only [beq_eq_false_iff_ne, ne_eq] at hz; rw [Xe]; have e : List.set (A ++ x :: B) A.length (⟨x.Rec, x.N + n⟩ : GItem) = A ++ ⟨x.Rec, x.N + n⟩ :: B := by
     rw [List.set_append_right _ _ (Nat.le_refl _)]; simp
    rw [e]; refine ⟨hdel.mid (x := ⟨x.Rec, x.N + n⟩) hA hBx ⟨hz, hs⟩, fun s => ?_, ?_, ?_, by simp⟩
    . simp only [q7u, BG.cnt]; split <;> omega
    . simp only [q3a]; simp [BG.tot]; omega
    . simp only [qb7, BG.big]; omega
structure Puts (b c l : List GItem) : Prop where
 rt : Rt c
 cnt : ∀ s, cnt c s = cnt b s + cnt l s
 tot : tot c = tot b + tot l
 big : big c <= big b + big l
 len : c.length <= b.length + l.length
theorem Puts.nil {b : List GItem} (h : Rt b) : Puts b b [] := ⟨h, fun s => by simp [BG.cnt], by simp [BG.tot], by simp [BG.big], by simp⟩
theorem Puts.snoc {b c d l : List GItem} {x : GItem} (h : Puts b c l) (hp : Put c d x.Rec x.N) : Puts b d (l ++ [x]) := by
 refine ⟨hp.rt, fun s => ?_, ?_, ?_, ?_⟩
 . rw [hp.cnt, h.cnt, q7u]; simp only [BG.cnt]; omega
 . rw [hp.tot, h.tot, q3a]; simp [BG.tot]; omega
 . have := h.big; have := hp.big; rw [qb7]; simp only [BG.big]; omega
 . have := h.len; have := hp.len; simp; omega
theorem zp0 {l : List GItem} (i : Nat) : big (l.take i) <= big l := by
 have h := qb7 (l.take i) (l.drop i); rw [List.take_append_drop] at h; have := qz7 (l.drop i); omega
theorem zv5 {l : List GItem} {x : GItem} (h : x ∈ l) : (x.N.natAbs : Int) <= big l := by
 induction l with
 | nil => cases h
 | cons y l ih =>
  have := qz7 l; simp only [big]; rcases Xd.1 h with rfl | h
  . omega
  . have := ih h; omega
theorem Puts.next {b c l : List GItem} {i : Nat} (hi : i < l.length) (hb : BG.big b + BG.big l <= 2147483648) (hlen : b.length + l.length < 100000000) (h : Puts b c (l.take i)) : Ok (q6r c l[i].Rec l[i].N) (fun d => Puts b d (l.take (i + 1))) := by
 have h1 := zv5 (Xk hi); have h2 := qz7 b; have h3 := z9a b l[i].Rec; have h5 := h.cnt l[i].Rec; have h6 := qb7 (l.take i) [l[i]]; rw [<- Xa hi] at h6; have h7 := zp0 (l := l) (i + 1); have h8 := z9a (l.take i) l[i].Rec; have h9 := h.len; simp only [BG.big] at h6; rw [Xl] at h9; refine (j1n h.rt (by omega) (by omega) (by rw [h5]; omega)).mono fun d hd => ?_; rw [Xa hi]; exact h.snoc hd
theorem z7n {b : List GItem} (h : Rt b) (hl : b.length < 1000000000) : q72 b = some true := by
 obtain ⟨r, h1, h2⟩ := zp7 hl; rw [h1, h2.2 h]
theorem zo5 {b : List GItem} (hl : b.length < 1000000000) : q5s b = some b := by
 refine Ok.eq ?_; unfold q5s; exact Ok.guard (by simp; omega) (Ok.some (by simp))
theorem j7t {a b : List GItem} (ha : Rt a) (hb : Rt b) (hs : big a + big b <= 2147483648) (hlen : a.length + b.length < 100000000) : Ok (q4g a b) (fun c => Puts a c b) := by
 unfold q4g qr7; refine Ok.bind (Ok.bind (jh8 (zo5 (by omega)) (Ok.bind (jh8 (z7n ha (by omega)) (jh5 (fun _ => ?_) (fun hx => by cases hx)))))); refine Ok.bind (jh8 (z7n hb (by omega)) (jh5 (fun hx => by cases hx) (fun _ => ?_))); refine jh9 (l := b) (by omega) (fun i s => Puts a s (b.take i)) 0 (fun rec i hi s _ hs' hr => ?_) (fun rec s hs' => ?_) (by simpa using Puts.nil ha) (Nat.zero_le _)
 . unfold qg3; simp only; refine jh5 (fun _ => Ok.bind (jh6 hi ?_)) (fun hx => by simp only [decide_eq_false_iff_not] at hx; omega); have hbn := (hb.num _ (Xk hi)).2; rw [Int.one_mul, wrap_i64 b[i].N (by omega), wrap_i64 ((i : Int) + 1) (by omega)]; exact jh4 (hs'.next hi hs hlen) fun d hd => hr _ hd
 . unfold qg3; simp only; refine jh5 (fun hx => by simp only [decide_eq_true_eq] at hx; omega) (fun _ => Ok.some (Ok.some ?_)); rw [Xm] at hs'; exact hs'
theorem j9r {b : List GItem} {r : GRec} {n : Int} (h : Rt b) (hl : b.length < 100000000) (hn : -2147483648 <= n /\ n <= 2147483648) (hs : -2147483648 <= cnt b r + n /\ cnt b r + n <= 2147483648) : Ok (qw6 b r n) (fun c => Put b c r n) := by
 unfold qw6; refine Ok.bind (jh8 (zo5 (by omega)) (Ok.bind (jh8 (z7n h (by omega)) (jh5 (fun hx => by cases hx) (fun _ => ?_))))); exact jh4 (j1n h hl hn hs) fun c hc => Ok.some hc
open Classical in
noncomputable def there (b : List GItem) : List GItem := if Rt b then b.filter (fun x => decide (0 < x.N)) else []
theorem zp5 {b : List GItem} (hl : b.length < 1000000) : qf3 b = some (there b) := by
 refine Ok.eq ?_; unfold qf3; refine jh9 (l := b) (by omega) (fun i s => s = (b.take i).filter (fun x => decide (0 < x.N))) 0 (fun rec i hi s _ hs hr => ?_) (fun rec s hs => ?_) (by simp) (Nat.zero_le _)
 .
  have hlen : s.length <= i := by
   rw [hs]; refine Nat.le_trans (Xg _ _) ?_; rw [Xl]; omega
  unfold qk7; simp only; refine jh5 (fun _ => Ok.bind (jh6 hi ?_)) (fun hx => by simp only [decide_eq_false_iff_not] at hx; omega); rw [wrap_i64 ((i : Int) + 1) (by omega)]; refine jh5 (fun hx => Ok.guard (by simp; omega) (hr _ ?_)) (fun hx => hr _ ?_)
  . rw [Xa hi, Xi, hs, Xn, if_pos hx]; rfl
  . rw [Xa hi, Xi, hs, Xn, if_neg (by rw [hx]; simp)]; simp
 .
  rw [Xm] at hs; unfold qk7; simp only; refine jh5 (fun hx => by simp only [decide_eq_true_eq] at hx; omega) (fun _ => ?_); unfold qk6; refine jh4 (zp7 (by omega)) fun v hv => jh5 (fun hx => Ok.some ?_) (fun hx => Ok.some ?_)
  .
   have : ¬ Rt b := fun h => by rw [hv.2 h] at hx; cases hx
   unfold there; rw [if_neg this]
  . have : Rt b := hv.1 (by simpa using hx); unfold there; rw [if_pos this, hs]
theorem z6p (b : List GItem) : Rt (there b) /\ ∀ x ∈ there b, 0 < x.N := by
 unfold there
 split
 .
  rename_i h
  exact ⟨⟨h.inc.sublist List.filter_sublist, fun x hx => h.num x (List.mem_filter.1 hx).1⟩, fun x hx => by simpa using (List.mem_filter.1 hx).2⟩
 . exact ⟨Rt.nil, by simp⟩
theorem zb7 (b : List GItem) : (there b).length <= b.length := by
 unfold there
 split
 . exact Xg _ _
 . simp
theorem qv5 {b : List GItem} (h : Rt b) (hp : ∀ x ∈ b, 0 < x.N) : there b = b := by
 unfold there; rw [if_pos h]; exact List.filter_eq_self.2 fun x hx => by simpa using hp x hx
end BG
end Go.Proofs.YteibkihbdgphnaaGreat
