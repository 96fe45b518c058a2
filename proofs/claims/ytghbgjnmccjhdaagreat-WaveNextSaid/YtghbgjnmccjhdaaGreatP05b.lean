/-
  The law in plain words: what its plain function gives is true. No condition beyond those that each theorem names.
-/
import Derived.Test.YtghbgjnmccjhdaaGreatWalkWN0
import Derived.Test.YtghbgjnmccjhdaaGreatWalkWN1
import Derived.Test.YtghbgjnmccjhdaaGreatP05a
set_option linter.unusedSimpArgs false
set_option linter.unusedVariables false
set_option linter.unusedSectionVars false
namespace Go.Proofs.YtghbgjnmccjhdaaGreat
open Go Go.RowKit
namespace BG
structure Put (b c : List GItem) (r : GRec) (n : Int) : Prop where
 rt : Rt c
 cnt : ∀ s, cnt c s = cnt b s + if r = s then n else 0
 tot : tot c = tot b + n
 big : big c ≤ big b + (n.natAbs : Int)
 len : c.length ≤ b.length + 1
theorem Rt.mid {A B : List GItem} (h : Rt (A ++ B)) {x : GItem} (hA : ∀ y ∈ A, lt y.Rec x.Rec) (hB : ∀ y ∈ B, lt x.Rec y.Rec) (hn : x.N ≠ 0 ∧ -2147483648 ≤ x.N ∧ x.N ≤ 2147483648) : Rt (A ++ x :: B) := by
 have h0 := List.pairwise_append.1 h.inc; refine ⟨List.pairwise_append.2 ⟨h0.1, List.pairwise_cons.2 ⟨hB, h0.2.1⟩, fun a ha b hb => ?_⟩, fun y hy => ?_⟩
 ·
  rcases List.mem_cons.1 hb with rfl | hb
  · exact hA a ha
  · exact h0.2.2 a ha b hb
 ·
  rcases List.mem_append.1 hy with hy | hy
  · exact h.num y (List.mem_append_left _ hy)
  ·
   rcases List.mem_cons.1 hy with rfl | hy
   · exact hn
   · exact h.num y (List.mem_append_right _ hy)
theorem zn1 {b : List GItem} {r : GRec} {n : Int} (h : Rt b) (hl : b.length < 100000000) (hn : -2147483648 ≤ n ∧ n ≤ 2147483648) (hs : -2147483648 ≤ cnt b r + n ∧ cnt b r + n ≤ 2147483648) :
  Ok (q63 b r n) (fun c => Put b c r n) := by
 unfold q63; refine j6j (zm4 h.inc (by omega)) fun v ⟨A, B, he, hA, hB, h1, h2⟩ => ?_; refine j6k (fun h0 => Ok.some ?_) (fun h0 => Ok.bind (j6o (z92 n) (j6k (fun hx => by simp only [Bool.not_eq_true', decide_eq_false_iff_not] at hx; omega) (fun _ => ?_))))
 · simp only [beq_iff_eq] at h0; subst h0; exact ⟨h, fun s => by split <;> omega, by omega, by simp, by omega⟩
 simp only [beq_eq_false_iff_ne, ne_eq] at h0; subst he; have hlen : (A ++ B).length = A.length + B.length := by simp
 have hpw := List.pairwise_append.1 h.inc; rw [h1, h2]; have hins : (∀ y ∈ B, lt r y.Rec) → Ok (q9 (q3n (A ++ B) (A.length : Int) ([(⟨r, n⟩ : GItem)] : List GItem)) (fun (v_2 : List GItem) => some v_2)) (fun c => Put (A ++ B) c r n) := fun hB' => by
  unfold q3n z6b; refine Ok.bind (Ok.guard ⟨by omega, by omega, by simp, by simp; omega, by unfold maxLen; simp; omega⟩ (Ok.some (Ok.some ?_))); have e : List.take (A.length : Int).toNat (A ++ B) ++ [(⟨r, n⟩ : GItem)] ++ List.drop (A.length : Int).toNat (A ++ B) = A ++ ⟨r, n⟩ :: B := by
   rw [Int.toNat_natCast, List.take_left, List.drop_left]; simp
  rw [e]; refine ⟨h.mid hA hB' ⟨h0, hn⟩, fun s => ?_, ?_, ?_, by simp; omega⟩
  · simp only [qv0, BG.cnt]; omega
  · simp only [q4e]; simp [BG.tot]; omega
  · simp only [q9o, BG.big]; omega
 cases B with
 | nil => exact j6k (fun _ => hins (by simp)) (fun hx => by simp at hx)
 | cons x B =>
  simp only; refine j6k (fun hx => hins ?_) (fun hx => ?_)
  ·
   simp only [Bool.not_eq_true', decide_eq_false_iff_not] at hx; have hrx : lt r x.Rec := by
    rcases j3k x.Rec r with h | h | h
    · exact absurd h (hB x (by simp))
    · exact absurd h hx
    · exact h
   intro y hy; rcases List.mem_cons.1 hy with rfl | hy
   · exact hrx
   · exact z2q hrx ((List.pairwise_cons.1 hpw.2.1).1 y hy)
  ·
   simp only [Bool.not_eq_false', decide_eq_true_eq] at hx; subst hx; have hg : (A ++ x :: B)[A.length]'(by simp) = x := by simp
   have hcx : cnt (A ++ x :: B) x.Rec = x.N := z0f h.inc (by simp); rw [hcx] at hs; have hw : IntKind.i64.wrap (x.N + n) = x.N + n := wrap_i64 _ (by omega); have hxn := h.num x (by simp); have hA0 : ∀ y ∈ A, y.Rec ≠ x.Rec := fun y hy e => qw7 x.Rec (by have := hA y hy; rwa [e] at this); have hBx := (List.pairwise_cons.1 hpw.2.1).1; have hB0 : ∀ y ∈ B, y.Rec ≠ x.Rec := fun y hy e => qw7 x.Rec (by have := hBx y hy; rwa [e] at this); have hdel : Rt (A ++ B) := by
    refine ⟨h.inc.sublist (by simp), fun y hy => h.num y ?_⟩; rcases List.mem_append.1 hy with hy | hy
    · exact List.mem_append_left _ hy
    · exact List.mem_append_right _ (List.mem_cons_of_mem _ hy)
   refine Ok.bind (j6l (by simp) ?_); rw [hg, hw]; refine j6k (fun hz => ?_) (fun hz => Ok.bind (j6o (z92 _) (j6k (fun _ => Ok.some ?_) (fun hm => by simp only [decide_eq_false_iff_not] at hm; omega))))
   ·
    simp only [beq_iff_eq] at hz; unfold q6x qv5; rw [wrap_i64 _ (by omega)]; refine Ok.bind (Ok.guard ⟨by omega, by omega, by simp; omega⟩ (Ok.some (Ok.some ?_))); have e : List.take (A.length : Int).toNat (A ++ x :: B) ++ List.drop ((A.length : Int) + 1).toNat (A ++ x :: B) = A ++ B := by
     rw [Int.toNat_natCast, show ((A.length : Int) + 1).toNat = A.length + 1 by omega, List.take_left, List.drop_append]; simp
    rw [e]; refine ⟨hdel, fun s => ?_, ?_, ?_, by simp; omega⟩
    · simp only [qv0, BG.cnt]; split <;> omega
    · simp only [q4e]; simp [BG.tot]; omega
    · simp only [q9o, BG.big]; omega
   ·
    simp only [beq_eq_false_iff_ne, ne_eq] at hz; rw [Int.toNat_natCast]; have e : List.set (A ++ x :: B) A.length (⟨x.Rec, x.N + n⟩ : GItem) = A ++ ⟨x.Rec, x.N + n⟩ :: B := by
     rw [List.set_append_right _ _ (Nat.le_refl _)]; simp
    rw [e]; refine ⟨hdel.mid (x := ⟨x.Rec, x.N + n⟩) hA hBx ⟨hz, hs⟩, fun s => ?_, ?_, ?_, by simp⟩
    · simp only [qv0, BG.cnt]; split <;> omega
    · simp only [q4e]; simp [BG.tot]; omega
    · simp only [q9o, BG.big]; omega
structure Puts (b c l : List GItem) : Prop where
 rt : Rt c
 cnt : ∀ s, cnt c s = cnt b s + cnt l s
 tot : tot c = tot b + tot l
 big : big c ≤ big b + big l
 len : c.length ≤ b.length + l.length
theorem Puts.nil {b : List GItem} (h : Rt b) : Puts b b [] := ⟨h, fun s => by simp [BG.cnt], by simp [BG.tot], by simp [BG.big], by simp⟩
theorem Puts.snoc {b c d l : List GItem} {x : GItem} (h : Puts b c l) (hp : Put c d x.Rec x.N) : Puts b d (l ++ [x]) := by
 refine ⟨hp.rt, fun s => ?_, ?_, ?_, ?_⟩
 · rw [hp.cnt, h.cnt, qv0]; simp only [BG.cnt]; omega
 · rw [hp.tot, h.tot, q4e]; simp [BG.tot]; omega
 · have := h.big; have := hp.big; rw [q9o]; simp only [BG.big]; omega
 · have := h.len; have := hp.len; simp; omega
theorem z9z {l : List GItem} (i : Nat) : big (l.take i) ≤ big l := by
 have h := q9o (l.take i) (l.drop i); rw [List.take_append_drop] at h; have := qv1 (l.drop i); omega
theorem zg1 {l : List GItem} {x : GItem} (h : x ∈ l) : (x.N.natAbs : Int) ≤ big l := by
 induction l with
 | nil => cases h
 | cons y l ih =>
  have := qv1 l; simp only [big]; rcases List.mem_cons.1 h with rfl | h
  · omega
  · have := ih h; omega
theorem Puts.next {b c l : List GItem} {i : Nat} (hi : i < l.length) (hb : BG.big b + BG.big l ≤ 2147483648) (hlen : b.length + l.length < 100000000) (h : Puts b c (l.take i)) : Ok (q63 c l[i].Rec l[i].N) (fun d => Puts b d (l.take (i + 1))) := by
 have h1 := zg1 (List.getElem_mem hi); have h2 := qv1 b; have h3 := qo2 b l[i].Rec; have h5 := h.cnt l[i].Rec; have h6 := q9o (l.take i) [l[i]]; rw [← List.take_succ_eq_append_getElem hi] at h6; have h7 := z9z (l := l) (i + 1); have h8 := qo2 (l.take i) l[i].Rec; have h9 := h.len; simp only [BG.big] at h6; rw [List.length_take] at h9; refine (zn1 h.rt (by omega) (by omega) (by rw [h5]; omega)).mono fun d hd => ?_; rw [List.take_succ_eq_append_getElem hi]; exact h.snoc hd
theorem z4b {b : List GItem} (h : Rt b) (hl : b.length < 1000000000) : q69 b = some true := by
 obtain ⟨r, h1, h2⟩ := q7l hl; rw [h1, h2.2 h]
theorem z9v {b : List GItem} (hl : b.length < 1000000000) : q3m b = some b := by
 refine j6n ?_; unfold q3m; exact Ok.guard (by simp; omega) (Ok.some (by simp))
theorem j2g {a b : List GItem} (ha : Rt a) (hb : Rt b) (hs : big a + big b ≤ 2147483648) (hlen : a.length + b.length < 100000000) : Ok (q6a a b) (fun c => Puts a c b) := by
 unfold q6a qe8; refine Ok.bind (Ok.bind (j6o (z9v (by omega)) (Ok.bind (j6o (z4b ha (by omega)) (j6k (fun _ => ?_) (fun hx => by cases hx)))))); refine Ok.bind (j6o (z4b hb (by omega)) (j6k (fun hx => by cases hx) (fun _ => ?_))); refine Ok.each (l := b) (by omega) (fun i s => Puts a s (b.take i)) 0 (fun rec i hi s _ hs' hr => ?_) (fun rec s hs' => ?_) (by simpa using Puts.nil ha) (Nat.zero_le _)
 · unfold qb8; simp only; refine j6k (fun _ => Ok.bind (j6l hi ?_)) (fun hx => by simp only [decide_eq_false_iff_not] at hx; omega); have hbn := (hb.num _ (List.getElem_mem hi)).2; rw [Int.one_mul, wrap_i64 b[i].N (by omega), wrap_i64 ((i : Int) + 1) (by omega)]; exact j6j (hs'.next hi hs hlen) fun d hd => hr _ hd
 · unfold qb8; simp only; refine j6k (fun hx => by simp only [decide_eq_true_eq] at hx; omega) (fun _ => Ok.some (Ok.some ?_)); rw [List.take_length] at hs'; exact hs'
def ones (l : List GRec) : List GItem := l.map (⟨·, 1⟩)
theorem j4d {b : List GItem} {r : GRec} {n : Int} (h : Rt b) (hl : b.length < 100000000) (hn : -2147483648 ≤ n ∧ n ≤ 2147483648) (hs : -2147483648 ≤ cnt b r + n ∧ cnt b r + n ≤ 2147483648) : Ok (ql4 b r n) (fun c => Put b c r n) := by
 unfold ql4; refine Ok.bind (j6o (z9v (by omega)) (Ok.bind (j6o (z4b h (by omega)) (j6k (fun hx => by cases hx) (fun _ => ?_))))); exact j6j (zn1 h hl hn hs) fun c hc => Ok.some hc
open Classical in
noncomputable def there (b : List GItem) : List GItem := if Rt b then b.filter (fun x => decide (0 < x.N)) else []
theorem za2 {b : List GItem} (hl : b.length < 1000000) : q8d b = some (there b) := by
 refine j6n ?_; unfold q8d; refine Ok.each (l := b) (by omega) (fun i s => s = (b.take i).filter (fun x => decide (0 < x.N))) 0 (fun rec i hi s _ hs hr => ?_) (fun rec s hs => ?_) (by simp) (Nat.zero_le _)
 ·
  have hlen : s.length ≤ i := by
   rw [hs]; refine Nat.le_trans (List.length_filter_le _ _) ?_; rw [List.length_take]; omega
  unfold qg8; simp only; refine j6k (fun _ => Ok.bind (j6l hi ?_)) (fun hx => by simp only [decide_eq_false_iff_not] at hx; omega); rw [wrap_i64 ((i : Int) + 1) (by omega)]; refine j6k (fun hx => Ok.guard (by simp; omega) (hr _ ?_)) (fun hx => hr _ ?_)
  · rw [List.take_succ_eq_append_getElem hi, List.filter_append, hs, List.filter_cons, if_pos hx]; rfl
  · rw [List.take_succ_eq_append_getElem hi, List.filter_append, hs, List.filter_cons, if_neg (by rw [hx]; simp)]; simp
 ·
  rw [List.take_length] at hs; unfold qg8; simp only; refine j6k (fun hx => by simp only [decide_eq_true_eq] at hx; omega) (fun _ => ?_); unfold qg7; refine j6j (q7l (by omega)) fun v hv => j6k (fun hx => Ok.some ?_) (fun hx => Ok.some ?_)
  ·
   have : ¬ Rt b := fun h => by rw [hv.2 h] at hx; cases hx
   unfold there; rw [if_neg this]
  · have : Rt b := hv.1 (by simpa using hx); unfold there; rw [if_pos this, hs]
theorem z0k (b : List GItem) : Rt (there b) ∧ ∀ x ∈ there b, 0 < x.N := by
 unfold there
 split
 ·
  rename_i h
  exact ⟨⟨h.inc.sublist List.filter_sublist, fun x hx => h.num x (List.mem_filter.1 hx).1⟩, fun x hx => by simpa using (List.mem_filter.1 hx).2⟩
 · exact ⟨Rt.nil, by simp⟩
theorem z6p (b : List GItem) : (there b).length ≤ b.length := by
 unfold there
 split
 · exact List.length_filter_le _ _
 · simp
end BG
end Go.Proofs.YtghbgjnmccjhdaaGreat
