/-
  The law in plain words: what its plain function gives is true. No condition beyond those that each theorem names.
-/
import Derived.Test.YtghbgjnmccjhdaaGreatWalkWN0
import Derived.Test.YtghbgjnmccjhdaaGreatWalkWN1
import Derived.Test.YtghbgjnmccjhdaaGreatP05b
set_option linter.unusedSimpArgs false
set_option linter.unusedVariables false
set_option linter.unusedSectionVars false
namespace Go.Proofs.YtghbgjnmccjhdaaGreat
open Go Go.RowKit
namespace OP
theorem T1 {α : Type} (a : α) : Ok (some a) (fun _ => True) := Ok.some trivial
theorem z8v {p : List GIns} : Ok (q6e p) (fun r => r = true → p.length ≤ 64 ∧ ∀ x ∈ p, (x.Op = 14 ∨ x.Op = 15) → 0 ≤ x.N ∧ x.N ≤ p.length) := by
 unfold q6e; refine j6k (fun _ => Ok.some (fun h => by cases h)) (fun hl => ?_); simp only [decide_eq_false_iff_not] at hl; refine j6p (l := p) (by omega) (fun i => ∀ x ∈ p.take i, (x.Op = 14 ∨ x.Op = 15) → 0 ≤ x.N ∧ x.N ≤ p.length) 0 (fun rec i hi _ hI hr => ?_) (fun rec hI => ?_) (by simp) (Nat.zero_le _)
 ·
  unfold q6k qe5; refine j6k (fun _ => Ok.bind (j6l hi ?_)) (fun hx => by simp only [decide_eq_false_iff_not] at hx; omega); rw [wrap_i64 ((i : Int) + 1) (by omega)]; refine j6k (fun _ => Ok.some (fun h => by cases h)) (fun _ => Ok.bind (Ok.some (j6k (fun hj => j6k (fun _ => Ok.some (fun h => by cases h)) (fun hn => hr ?_)) (fun hj => j6k (fun _ => Ok.some (fun h => by cases h)) (fun _ => hr ?_)))))
  · simp only [Bool.or_eq_false_iff, decide_eq_false_iff_not] at hn; exact (qa2 hi).2 ⟨hI, fun _ => by omega⟩
  · simp only [Bool.or_eq_false_iff, beq_eq_false_iff_ne, ne_eq] at hj; exact (qa2 hi).2 ⟨hI, fun h => by omega⟩
 · unfold q6k; refine j6k (fun hx => by simp only [decide_eq_true_eq] at hx; omega) (fun _ => Ok.some (fun _ => ?_)); rw [List.take_length] at hI; exact ⟨by omega, hI⟩
theorem j31 (op a b : Int) : Ok (qn5 op a b) (fun _ => True) := by
 have hJ1 : ∀ n ok, Ok (q25 n ok) (fun _ => True) := fun n ok => by
  unfold q25; exact j6k (fun _ => T1 _) (fun _ => T1 _)
 have htr : ∀ b, Ok (q8s b) (fun _ => True) := fun b => by
  unfold q8s; exact j6k (fun _ => T1 _) (fun _ => T1 _)
 have ht : Ok (qe3 a b) (fun _ => True) := by
  have h1 : ∀ n, Ok (q72 n) (fun _ => True) := fun n => by
   unfold q72; exact j6k (fun _ => T1 _) (fun _ => T1 _)
  unfold qe3; refine j6j (h1 _) fun _ _ => j6j (h1 _) fun _ _ => ?_; unfold q30; exact Ok.bind (Ok.some (j6k (fun _ => T1 _) (fun _ => T1 _)))
 have hJ2 : ∀ t, Ok (q7y op a b t) (fun _ => True) := fun t => by
  unfold q7y; refine j6k (fun _ => j6k (fun _ => T1 _) (fun h0 => j6k (fun _ => hJ1 _ _) (fun _ => j6k (fun _ => hJ1 _ _) (fun _ => j6k (fun _ => Ok.guard ?_ (hJ1 _ _)) (fun _ => Ok.guard ?_ (hJ1 _ _)))))) (fun _ => j6k (fun _ => j6j (htr _) fun _ _ => hJ1 _ _) (fun _ => j6k (fun _ => j6j (htr _) fun _ _ => hJ1 _ _) (fun _ => hJ1 _ _)))
  all_goals simpa using h0
 unfold qn5; exact j6k (fun _ => hJ1 _ _) (fun _ => j6k (fun _ => hJ1 _ _) (fun _ => j6k (fun _ => j6j ht fun _ _ => hJ1 _ _) (fun _ => j6k (fun _ => hJ2 _) (fun _ => hJ2 _))))
theorem qv3 {m : GProg_machine} (n : Int) (h : m.stack.length ≤ 8) : Ok (q04 m n) (fun q => q.stack.length ≤ 8 ∧ q.out = m.out ∧ q.at_ = m.at_) := by
 unfold q04; refine j6k (fun _ => Ok.some ⟨h, rfl, rfl⟩) (fun hx => Ok.guard (by simp; omega) (Ok.some ⟨?_, rfl, rfl⟩)); simp only [beq_eq_false_iff_ne, ne_eq] at hx; simp; omega
theorem zv0 {m : GProg_machine} (x : GIns) (h : m.stack.length ≤ 8) : Ok (q20 m x) (fun q => q.2.stack.length ≤ 8 ∧ q.2.out = m.out ∧ q.2.at_ = m.at_) := by
 unfold q20; have e1 : IntKind.i64.wrap ((List.length m.stack : Int) - 1) = (List.length m.stack : Int) - 1 := wrap_i64 _ (by omega); have e2 : IntKind.i64.wrap ((List.length m.stack : Int) - 2) = (List.length m.stack : Int) - 2 := wrap_i64 _ (by omega); rw [e1, e2]; have hp : ∀ n, Ok (q9 (q04 m n) (fun (v_0 : GProg_machine) => some (true, v_0))) (fun q => q.2.stack.length ≤ 8 ∧ q.2.out = m.out ∧ q.2.at_ = m.at_) := fun n => j6j (qv3 n h) fun q hq => Ok.some hq; refine j6k (fun _ => hp _) (fun _ => j6k (fun _ => hp _) (fun _ => j6k (fun _ => hp _) (fun _ => j6k (fun _ => ?_) (fun _ => j6k (fun _ => ?_) (fun _ => j6k (fun _ => ?_) (fun _ => Ok.some ⟨h, rfl, rfl⟩))))))
 · refine j6k (fun _ => Ok.some ⟨h, rfl, rfl⟩) (fun hx => Ok.guard (by simp at hx; omega) (Ok.guard (by simp at hx; omega) (Ok.guard (by simp at hx; omega) (Ok.bind (Ok.idx' (by omega) (by simp at hx ⊢; omega) fun y _ => ?_))))); refine j6j (qv3 _ (by simp; omega)) fun q ⟨h1, h2, h3⟩ => j6j (qv3 _ h1) fun q' ⟨h4, h5, h6⟩ => Ok.some ⟨h4, h5.trans h2, h6.trans h3⟩
 · refine j6k (fun _ => Ok.some ⟨h, rfl, rfl⟩) (fun hx => Ok.guard (by simp at hx; omega) (Ok.guard (by simp at hx; omega) (Ok.guard (by simp at hx; omega) (Ok.bind (Ok.idx' (by omega) (by simp at hx ⊢; omega) fun y _ => Ok.bind (Ok.idx' (by omega) (by simp at hx ⊢; omega) fun z _ => ?_)))))); refine j6j (qv3 _ (by simp; omega)) fun q ⟨h1, h2, h3⟩ => j6j (qv3 _ h1) fun q' ⟨h4, h5, h6⟩ => Ok.some ⟨h4, h5.trans h2, h6.trans h3⟩
 · refine j6k (fun _ => Ok.some ⟨h, rfl, rfl⟩) (fun hx => Ok.guard (by simp at hx; omega) (Ok.guard (by simp at hx; omega) (Ok.some ⟨by simp; omega, rfl, rfl⟩)))
structure Ms (m : GProg_machine) : Prop where
 st : m.stack.length ≤ 8
 out : m.out.length ≤ 8
 at0 : 0 ≤ m.at_
theorem step_ok {m : GProg_machine} {x : GIns} (h : Ms m) (ha : m.at_ < 1000000) (hx : (x.Op = 14 ∨ x.Op = 15) → 0 ≤ x.N) : Ok (q28 m x) (fun q => Ms q) := by
 unfold q28; have ha0 := h.at0; have w1 : IntKind.i64.wrap (m.at_ + 1) = m.at_ + 1 := wrap_i64 _ (by omega); rw [w1]; refine j6j (zv0 x h.st) fun v ⟨h1, h2, h3⟩ => ?_; simp only at h2 h3; have ho := h.out; rw [← h2] at ho; have hv : Ms v.2 := ⟨h1, ho, by rw [h3]; omega⟩; have hv0 := hv.at0
 generalize v.2 = m2 at h1 ho hv hv0
 clear h2 h3; have e1 : IntKind.i64.wrap ((List.length m2.stack : Int) - 1) = (List.length m2.stack : Int) - 1 := wrap_i64 _ (by omega); have e2 : IntKind.i64.wrap ((List.length m2.stack : Int) - 2) = (List.length m2.stack : Int) - 2 := wrap_i64 _ (by omega); rw [e1, e2]; refine j6k (fun _ => Ok.some hv) (fun _ => j6k (fun hop => Ok.some ⟨h1, ho, hx (.inl (by simpa using hop))⟩) (fun _ => j6k (fun hop => ?_) (fun _ => j6k (fun _ => ?_) (fun _ => ?_))))
 · have hxn := hx (.inr (by simpa using hop)); refine j6k (fun _ => Ok.some ⟨h1, ho, hv0⟩) (fun hx => Ok.guard (by simp at hx; omega) (Ok.guard (by simp at hx; omega) (Ok.guard (by simp at hx; omega) (Ok.bind (Ok.idx' (by omega) (by simp at hx ⊢; omega) fun y _ => ?_))))); exact j6k (fun _ => Ok.some ⟨by simp; omega, ho, hxn⟩) (fun _ => Ok.some ⟨by simp; omega, ho, hv0⟩)
 · refine j6k (fun _ => Ok.some ⟨h1, ho, hv0⟩) (fun hx => Ok.guard (by simp at hx; omega) (Ok.guard (by simp at hx; omega) (Ok.guard (by simp at hx; omega) (j6k (fun _ => Ok.some ⟨by simp; omega, ho, hv0⟩) (fun h8 => Ok.bind (Ok.idx' (by omega) (by simp at hx ⊢; omega) fun y _ => Ok.bind (Ok.idx' (by omega) (by simp at hx ⊢; omega) fun z _ => Ok.guard (by simp; omega) (Ok.some ⟨by simp; omega, ?_, hv0⟩)))))))); simp only [beq_eq_false_iff_ne, ne_eq] at h8; simp; omega
 · refine j6k (fun _ => Ok.some ⟨h1, ho, hv0⟩) (fun hx => Ok.guard (by simp at hx; omega) (Ok.guard (by simp at hx; omega) (Ok.guard (by simp at hx; omega) (Ok.bind (Ok.idx' (by omega) (by simp at hx ⊢; omega) fun y _ => Ok.bind (Ok.idx' (by omega) (by simp at hx ⊢; omega) fun z _ => ?_)))))); refine j6j (j31 _ _ _) fun t _ => j6j (qv3 _ (by simp; omega)) fun q ⟨g1, g2, g3⟩ => Ok.some ⟨g1, by rw [g2]; exact ho, by rw [g3]; exact hv0⟩
theorem za4 (p : List GIns) (r : GRec) : Ok (qn6 p r) (fun v => v.1.length ≤ 8) := by
 unfold qn6; refine j6j z8v fun ok hok => j6k (fun _ => Ok.some (by simp)) (fun hb => ?_); obtain ⟨hl, hj⟩ := hok (by simpa using hb); have hJ : ∀ a b c d e (o : List GRec), o.length ≤ 8 → Ok (q7z r a b c d e o) (fun v => v.1.length ≤ 8) := fun a b c d e o ho => by
  unfold q7z; exact j6k (fun _ => Ok.some (by simp)) (fun _ => Ok.some ho)
 refine j6m (fun s => ∃ n : Nat, s.1 = (n : Int) ∧ n ≤ 256 ∧ Ms ⟨⟨s.2.1, s.2.2.1⟩, s.2.2.2.2.2.1, s.2.2.2.2.2.2, s.2.2.2.1, s.2.2.2.2.1⟩) (fun s => s.1.toNat) ?_ ⟨256, rfl, Nat.le_refl _, ⟨by simp, by simp, by simp⟩⟩ (by simp only [rounds]; omega); rintro rec ⟨_, a, b, c, d, e, o⟩ ⟨n, rfl, hn, hm⟩ hr; simp only at hm; unfold qt6; simp only; refine j6k (fun hc => j6k (fun _ => hJ _ _ _ _ _ _ hm.out) (fun h0 => ?_)) (fun _ => hJ _ _ _ _ _ _ hm.out); simp only [Bool.and_eq_true, decide_eq_true_eq, beq_iff_eq] at hc; simp only [beq_eq_false_iff_ne, ne_eq] at h0; have hc0 : 0 ≤ c := hm.at0; obtain ⟨k, rfl⟩ := Int.eq_ofNat_of_zero_le hc0; have hk : k < p.length := by omega
 refine Ok.bind (j6l hk (j6j (step_ok hm (by simp only; omega) fun h => (hj _ (List.getElem_mem hk) h).1) fun q hq => ?_)); rw [wrap_i64 _ (by omega)]; exact hr _ ⟨n - 1, by simp only; omega, by omega, hq⟩ (by simp only; omega)
theorem zf0 (k a b : Int) : Ok (q82 k a b) (fun r => r.K = k) := by
 unfold q82 qa8; exact j6k (fun _ => Ok.bind (Ok.some (Ok.some rfl))) (fun _ => Ok.some rfl)
theorem z6r (x : GNode) (r : GRec) : Ok (q7g x r) (fun l => l.length ≤ 8) := by
 unfold q7g; refine j6k (fun _ => j6j (za4 _ _) fun v hv => Ok.some hv) (fun _ => j6k (fun _ => j6j (zf0 _ _ _) fun v _ => Ok.some (by simp)) (fun _ => j6k (fun _ => j6k (fun _ => Ok.some (by simp)) (fun ha => Ok.guard ?_ (j6k (fun _ => Ok.some (by simp)) (fun _ => Ok.some (by simp))))) (fun _ => Ok.some (by simp)))); simp only [decide_eq_false_iff_not] at ha; omega
def sing (x : GNode) (r : GRec) : List GRec := (q7g x r).getD []
theorem j16 (x : GNode) (r : GRec) : q7g x r = some (sing x r) := by
 obtain ⟨l, h, _⟩ := z6r x r; rw [sing, h]; rfl
theorem zt5 (x : GNode) (r : GRec) : (sing x r).length ≤ 8 := by
 obtain ⟨l, h, hl⟩ := z6r x r; rw [sing, h]; exact hl
end OP
end Go.Proofs.YtghbgjnmccjhdaaGreat
