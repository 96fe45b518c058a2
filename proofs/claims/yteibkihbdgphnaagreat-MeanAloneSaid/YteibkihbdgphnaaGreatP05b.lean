/-
  The law in plain words: what its plain function gives is true. No condition beyond those that each theorem names.
-/
import Derived.Test.YteibkihbdgphnaaGreatWalkMA0
import Derived.Test.YteibkihbdgphnaaGreatP05a
set_option linter.unusedSimpArgs false
set_option linter.unusedVariables false
set_option linter.unusedSectionVars false
namespace Go.Proofs.YteibkihbdgphnaaGreat
open Go Go.RowKit
namespace BG
structure Put (b c : List GItem) (r : GRec) (n : Int) : Prop where
 rt : Rt c
 cnt : ∀ s, cnt c s = cnt b s + if r = s then n else 0
 tot : tot c = tot b + n
 big : big c ≤ big b + (n.natAbs : Int)
 len : c.length ≤ b.length + 1
theorem Rt.mid {A B : List GItem} (h : Rt (A ++ B)) {x : GItem} (hA : ∀ y ∈ A, lt y.Rec x.Rec) (hB : ∀ y ∈ B, lt x.Rec y.Rec) (hn : x.N ≠ 0 ∧ -2147483648 ≤ x.N ∧ x.N ≤ 2147483648) : Rt (A ++ x :: B) := by
 have h0 := List.pairwise_append.1 h.inc; refine ⟨List.pairwise_append.2 ⟨h0.1, List.pairwise_cons.2 ⟨hB, h0.2.1⟩, fun a ha b hb => ?_⟩, fun y hy => ?_⟩
 ·
  rcases List.mem_cons.1 hb with rfl | hb
  · exact hA a ha
  · exact h0.2.2 a ha b hb
 ·
  rcases List.mem_append.1 hy with hy | hy
  · exact h.num y (List.mem_append_left _ hy)
  ·
   rcases List.mem_cons.1 hy with rfl | hy
   · exact hn
   · exact h.num y (List.mem_append_right _ hy)
theorem j01 {b : List GItem} {r : GRec} {n : Int} (h : Rt b) (hl : b.length < 100000000) (hn : -2147483648 ≤ n ∧ n ≤ 2147483648) (hs : -2147483648 ≤ cnt b r + n ∧ cnt b r + n ≤ 2147483648) :
  Ok (q6g b r n) (fun c => Put b c r n) := by
 unfold q6g; refine jb0 (zz3 h.inc (by omega)) fun v ⟨A, B, he, hA, hB, h1, h2⟩ => ?_; refine jb1 (fun h0 => Ok.some ?_) (fun h0 => Ok.bind (jb5 (zf4 n) (jb1 (fun hx => by simp only [Bool.not_eq_true', decide_eq_false_iff_not] at hx; omega) (fun _ => ?_))))
 · simp only [beq_iff_eq] at h0; subst h0; exact ⟨h, fun s => by split <;> omega, by omega, by simp, by omega⟩
 simp only [beq_eq_false_iff_ne, ne_eq] at h0; subst he; have hlen : (A ++ B).length = A.length + B.length := by simp
 have hpw := List.pairwise_append.1 h.inc; rw [h1, h2]; have hins : (∀ y ∈ B, lt r y.Rec) → Ok (q9 (q3v (A ++ B) (A.length : Int) ([(⟨r, n⟩ : GItem)] : List GItem)) (fun (v_2 : List GItem) => some v_2)) (fun c => Put (A ++ B) c r n) := fun hB' => by
  unfold q3v z8h; refine Ok.bind (Ok.guard ⟨by omega, by omega, by simp, by simp; omega, by unfold maxLen; simp; omega⟩ (Ok.some (Ok.some ?_))); have e : List.take (A.length : Int).toNat (A ++ B) ++ [(⟨r, n⟩ : GItem)] ++ List.drop (A.length : Int).toNat (A ++ B) = A ++ ⟨r, n⟩ :: B := by
   rw [Int.toNat_natCast, List.take_left, List.drop_left]; simp
  rw [e]; refine ⟨h.mid hA hB' ⟨h0, hn⟩, fun s => ?_, ?_, ?_, by simp; omega⟩
  · simp only [qw2, BG.cnt]; omega
  · simp only [q4p]; simp [BG.tot]; omega
  · simp only [q9z, BG.big]; omega
 cases B with
 | nil => exact jb1 (fun _ => hins (by simp)) (fun hx => by simp at hx)
 | cons x B =>
  simp only; refine jb1 (fun hx => hins ?_) (fun hx => ?_)
  ·
   simp only [Bool.not_eq_true', decide_eq_false_iff_not] at hx; have hrx : lt r x.Rec := by
    rcases j7a x.Rec r with h | h | h
    · exact absurd h (hB x (by simp))
    · exact absurd h hx
    · exact h
   intro y hy; rcases List.mem_cons.1 hy with rfl | hy
   · exact hrx
   · exact z6s hrx ((List.pairwise_cons.1 hpw.2.1).1 y hy)
  ·
   simp only [Bool.not_eq_false', decide_eq_true_eq] at hx; subst hx; have hg : (A ++ x :: B)[A.length]'(by simp) = x := by simp
   have hcx : cnt (A ++ x :: B) x.Rec = x.N := qz3 h.inc (by simp); rw [hcx] at hs; have hw : IntKind.i64.wrap (x.N + n) = x.N + n := wrap_i64 _ (by omega); have hxn := h.num x (by simp); have hA0 : ∀ y ∈ A, y.Rec ≠ x.Rec := fun y hy e => qy3 x.Rec (by have := hA y hy; rwa [e] at this); have hBx := (List.pairwise_cons.1 hpw.2.1).1; have hB0 : ∀ y ∈ B, y.Rec ≠ x.Rec := fun y hy e => qy3 x.Rec (by have := hBx y hy; rwa [e] at this); have hdel : Rt (A ++ B) := by
    refine ⟨h.inc.sublist (by simp), fun y hy => h.num y ?_⟩; rcases List.mem_append.1 hy with hy | hy
    · exact List.mem_append_left _ hy
    · exact List.mem_append_right _ (List.mem_cons_of_mem _ hy)
   refine Ok.bind (jb2 (by simp) ?_); rw [hg, hw]; refine jb1 (fun hz => ?_) (fun hz => Ok.bind (jb5 (zf4 _) (jb1 (fun _ => Ok.some ?_) (fun hm => by simp only [decide_eq_false_iff_not] at hm; omega))))
   ·
    simp only [beq_iff_eq] at hz; unfold q7g z8q; rw [wrap_i64 _ (by omega)]; refine Ok.bind (Ok.guard ⟨by omega, by omega, by simp; omega⟩ (Ok.some (Ok.some ?_))); have e : List.take (A.length : Int).toNat (A ++ x :: B) ++ List.drop ((A.length : Int) + 1).toNat (A ++ x :: B) = A ++ B := by
     rw [Int.toNat_natCast, show ((A.length : Int) + 1).toNat = A.length + 1 by omega, List.take_left, List.drop_append]; simp
    rw [e]; refine ⟨hdel, fun s => ?_, ?_, ?_, by simp; omega⟩
    · simp only [qw2, BG.cnt]; split <;> omega
    · simp only [q4p]; simp [BG.tot]; omega
    · simp only [q9z, BG.big]; omega
   ·
    simp only [beq_eq_false_iff_ne, ne_eq] at hz; rw [Int.toNat_natCast]; have e : List.set (A ++ x :: B) A.length (⟨x.Rec, x.N + n⟩ : GItem) = A ++ ⟨x.Rec, x.N + n⟩ :: B := by
     rw [List.set_append_right _ _ (Nat.le_refl _)]; simp
    rw [e]; refine ⟨hdel.mid (x := ⟨x.Rec, x.N + n⟩) hA hBx ⟨hz, hs⟩, fun s => ?_, ?_, ?_, by simp⟩
    · simp only [qw2, BG.cnt]; split <;> omega
    · simp only [q4p]; simp [BG.tot]; omega
    · simp only [q9z, BG.big]; omega
structure Puts (b c l : List GItem) : Prop where
 rt : Rt c
 cnt : ∀ s, cnt c s = cnt b s + cnt l s
 tot : tot c = tot b + tot l
 big : big c ≤ big b + big l
 len : c.length ≤ b.length + l.length
theorem Puts.nil {b : List GItem} (h : Rt b) : Puts b b [] := ⟨h, fun s => by simp [BG.cnt], by simp [BG.tot], by simp [BG.big], by simp⟩
theorem Puts.snoc {b c d l : List GItem} {x : GItem} (h : Puts b c l) (hp : Put c d x.Rec x.N) : Puts b d (l ++ [x]) := by
 refine ⟨hp.rt, fun s => ?_, ?_, ?_, ?_⟩
 · rw [hp.cnt, h.cnt, qw2]; simp only [BG.cnt]; omega
 · rw [hp.tot, h.tot, q4p]; simp [BG.tot]; omega
 · have := h.big; have := hp.big; rw [q9z]; simp only [BG.big]; omega
 · have := h.len; have := hp.len; simp; omega
theorem zj8 {l : List GItem} (i : Nat) : big (l.take i) ≤ big l := by
 have h := q9z (l.take i) (l.drop i); rw [List.take_append_drop] at h; have := qw3 (l.drop i); omega
theorem zq3 {l : List GItem} {x : GItem} (h : x ∈ l) : (x.N.natAbs : Int) ≤ big l := by
 induction l with
 | nil => cases h
 | cons y l ih =>
  have := qw3 l; simp only [big]; rcases List.mem_cons.1 h with rfl | h
  · omega
  · have := ih h; omega
theorem Puts.next {b c l : List GItem} {i : Nat} (hi : i < l.length) (hb : BG.big b + BG.big l ≤ 2147483648) (hlen : b.length + l.length < 100000000) (h : Puts b c (l.take i)) : Ok (q6g c l[i].Rec l[i].N) (fun d => Puts b d (l.take (i + 1))) := by
 have h1 := zq3 (List.getElem_mem hi); have h2 := qw3 b; have h3 := z7l b l[i].Rec; have h5 := h.cnt l[i].Rec; have h6 := q9z (l.take i) [l[i]]; rw [← List.take_succ_eq_append_getElem hi] at h6; have h7 := zj8 (l := l) (i + 1); have h8 := z7l (l.take i) l[i].Rec; have h9 := h.len; simp only [BG.big] at h6; rw [List.length_take] at h9; refine (j01 h.rt (by omega) (by omega) (by rw [h5]; omega)).mono fun d hd => ?_; rw [List.take_succ_eq_append_getElem hi]; exact h.snoc hd
theorem z5v {b : List GItem} (h : Rt b) (hl : b.length < 1000000000) : q6p b = some true := by
 obtain ⟨r, h1, h2⟩ := zk4 hl; rw [h1, h2.2 h]
theorem zj3 {b : List GItem} (hl : b.length < 1000000000) : q5c b = some b := by
 refine jb4 ?_; unfold q5c; exact Ok.guard (by simp; omega) (Ok.some (by simp))
theorem j68 {a b : List GItem} (ha : Rt a) (hb : Rt b) (hs : big a + big b ≤ 2147483648) (hlen : a.length + b.length < 100000000) : Ok (q42 a b) (fun c => Puts a c b) := by
 unfold q42 qp0; refine Ok.bind (Ok.bind (jb5 (zj3 (by omega)) (Ok.bind (jb5 (z5v ha (by omega)) (jb1 (fun _ => ?_) (fun hx => by cases hx)))))); refine Ok.bind (jb5 (z5v hb (by omega)) (jb1 (fun hx => by cases hx) (fun _ => ?_))); refine jb6 (l := b) (by omega) (fun i s => Puts a s (b.take i)) 0 (fun rec i hi s _ hs' hr => ?_) (fun rec s hs' => ?_) (by simpa using Puts.nil ha) (Nat.zero_le _)
 · unfold qe0; simp only; refine jb1 (fun _ => Ok.bind (jb2 hi ?_)) (fun hx => by simp only [decide_eq_false_iff_not] at hx; omega); have hbn := (hb.num _ (List.getElem_mem hi)).2; rw [Int.one_mul, wrap_i64 b[i].N (by omega), wrap_i64 ((i : Int) + 1) (by omega)]; exact jb0 (hs'.next hi hs hlen) fun d hd => hr _ hd
 · unfold qe0; simp only; refine jb1 (fun hx => by simp only [decide_eq_true_eq] at hx; omega) (fun _ => Ok.some (Ok.some ?_)); rw [List.take_length] at hs'; exact hs'
theorem j80 {b : List GItem} {r : GRec} {n : Int} (h : Rt b) (hl : b.length < 100000000) (hn : -2147483648 ≤ n ∧ n ≤ 2147483648) (hs : -2147483648 ≤ cnt b r + n ∧ cnt b r + n ≤ 2147483648) : Ok (qt4 b r n) (fun c => Put b c r n) := by
 unfold qt4; refine Ok.bind (jb5 (zj3 (by omega)) (Ok.bind (jb5 (z5v h (by omega)) (jb1 (fun hx => by cases hx) (fun _ => ?_))))); exact jb0 (j01 h hl hn hs) fun c hc => Ok.some hc
open Classical in
noncomputable def there (b : List GItem) : List GItem := if Rt b then b.filter (fun x => decide (0 < x.N)) else []
theorem zk2 {b : List GItem} (hl : b.length < 1000000) : qd3 b = some (there b) := by
 refine jb4 ?_; unfold qd3; refine jb6 (l := b) (by omega) (fun i s => s = (b.take i).filter (fun x => decide (0 < x.N))) 0 (fun rec i hi s _ hs hr => ?_) (fun rec s hs => ?_) (by simp) (Nat.zero_le _)
 ·
  have hlen : s.length ≤ i := by
   rw [hs]; refine Nat.le_trans (List.length_filter_le _ _) ?_; rw [List.length_take]; omega
  unfold qi4; simp only; refine jb1 (fun _ => Ok.bind (jb2 hi ?_)) (fun hx => by simp only [decide_eq_false_iff_not] at hx; omega); rw [wrap_i64 ((i : Int) + 1) (by omega)]; refine jb1 (fun hx => Ok.guard (by simp; omega) (hr _ ?_)) (fun hx => hr _ ?_)
  · rw [List.take_succ_eq_append_getElem hi, List.filter_append, hs, List.filter_cons, if_pos hx]; rfl
  · rw [List.take_succ_eq_append_getElem hi, List.filter_append, hs, List.filter_cons, if_neg (by rw [hx]; simp)]; simp
 ·
  rw [List.take_length] at hs; unfold qi4; simp only; refine jb1 (fun hx => by simp only [decide_eq_true_eq] at hx; omega) (fun _ => ?_); unfold qi3; refine jb0 (zk4 (by omega)) fun v hv => jb1 (fun hx => Ok.some ?_) (fun hx => Ok.some ?_)
  ·
   have : ¬ Rt b := fun h => by rw [hv.2 h] at hx; cases hx
   unfold there; rw [if_neg this]
  · have : Rt b := hv.1 (by simpa using hx); unfold there; rw [if_pos this, hs]
theorem z5a (b : List GItem) : Rt (there b) ∧ ∀ x ∈ there b, 0 < x.N := by
 unfold there
 split
 ·
  rename_i h
  exact ⟨⟨h.inc.sublist List.filter_sublist, fun x hx => h.num x (List.mem_filter.1 hx).1⟩, fun x hx => by simpa using (List.mem_filter.1 hx).2⟩
 · exact ⟨Rt.nil, by simp⟩
theorem z8x (b : List GItem) : (there b).length ≤ b.length := by
 unfold there
 split
 · exact List.length_filter_le _ _
 · simp
theorem z2i {b : List GItem} (h : Rt b) (hp : ∀ x ∈ b, 0 < x.N) : there b = b := by
 unfold there; rw [if_pos h]; exact List.filter_eq_self.2 fun x hx => by simpa using hp x hx
end BG
end Go.Proofs.YteibkihbdgphnaaGreat
