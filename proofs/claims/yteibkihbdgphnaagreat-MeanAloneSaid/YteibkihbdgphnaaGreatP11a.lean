/-
  The law in plain words: what its plain function gives is true. No condition beyond those that each theorem names.
-/
import Derived.Test.YteibkihbdgphnaaGreatWalkMA0
import Derived.Test.YteibkihbdgphnaaGreatP05b
set_option linter.unusedSimpArgs false
set_option linter.unusedVariables false
set_option linter.unusedSectionVars false
namespace Go.Proofs.YteibkihbdgphnaaGreat
open Go Go.RowKit
namespace OP
theorem T1 {α : Type} (a : α) : Ok (some a) (fun _ => True) := Ok.some trivial
theorem ze4 {p : List GIns} : Ok (q6w p) (fun r => r = true → p.length ≤ 64 ∧ ∀ x ∈ p, (x.Op = 14 ∨ x.Op = 15) → 0 ≤ x.N ∧ x.N ≤ p.length) := by
 unfold q6w; refine jb1 (fun _ => Ok.some (fun h => by cases h)) (fun hl => ?_); simp only [decide_eq_false_iff_not] at hl; refine jb7 (l := p) (by omega) (fun i => ∀ x ∈ p.take i, (x.Op = 14 ∨ x.Op = 15) → 0 ≤ x.N ∧ x.N ≤ p.length) 0 (fun rec i hi _ hI hr => ?_) (fun rec hI => ?_) (by simp) (Nat.zero_le _)
 ·
  unfold q73 qg3; refine jb1 (fun _ => Ok.bind (jb2 hi ?_)) (fun hx => by simp only [decide_eq_false_iff_not] at hx; omega); rw [wrap_i64 ((i : Int) + 1) (by omega)]; refine jb1 (fun _ => Ok.some (fun h => by cases h)) (fun _ => Ok.bind (Ok.some (jb1 (fun hj => jb1 (fun _ => Ok.some (fun h => by cases h)) (fun hn => hr ?_)) (fun hj => jb1 (fun _ => Ok.some (fun h => by cases h)) (fun _ => hr ?_)))))
  · simp only [Bool.or_eq_false_iff, decide_eq_false_iff_not] at hn; exact (ql1 hi).2 ⟨hI, fun _ => by omega⟩
  · simp only [Bool.or_eq_false_iff, beq_eq_false_iff_ne, ne_eq] at hj; exact (ql1 hi).2 ⟨hI, fun h => by omega⟩
 · unfold q73; refine jb1 (fun hx => by simp only [decide_eq_true_eq] at hx; omega) (fun _ => Ok.some (fun _ => ?_)); rw [List.take_length] at hI; exact ⟨by omega, hI⟩
theorem j6m (op a b : Int) : Ok (qo5 op a b) (fun _ => True) := by
 have hJ1 : ∀ n ok, Ok (q2b n ok) (fun _ => True) := fun n ok => by
  unfold q2b; exact jb1 (fun _ => T1 _) (fun _ => T1 _)
 have htr : ∀ b, Ok (q9d b) (fun _ => True) := fun b => by
  unfold q9d; exact jb1 (fun _ => T1 _) (fun _ => T1 _)
 have ht : Ok (qg1 a b) (fun _ => True) := by
  have h1 : ∀ n, Ok (q7o n) (fun _ => True) := fun n => by
   unfold q7o; exact jb1 (fun _ => T1 _) (fun _ => T1 _)
  unfold qg1; refine jb0 (h1 _) fun _ _ => jb0 (h1 _) fun _ _ => ?_; unfold q34; exact Ok.bind (Ok.some (jb1 (fun _ => T1 _) (fun _ => T1 _)))
 have hJ2 : ∀ t, Ok (q8h op a b t) (fun _ => True) := fun t => by
  unfold q8h; refine jb1 (fun _ => jb1 (fun _ => T1 _) (fun h0 => jb1 (fun _ => hJ1 _ _) (fun _ => jb1 (fun _ => hJ1 _ _) (fun _ => jb1 (fun _ => Ok.guard ?_ (hJ1 _ _)) (fun _ => Ok.guard ?_ (hJ1 _ _)))))) (fun _ => jb1 (fun _ => jb0 (htr _) fun _ _ => hJ1 _ _) (fun _ => jb1 (fun _ => jb0 (htr _) fun _ _ => hJ1 _ _) (fun _ => hJ1 _ _)))
  all_goals simpa using h0
 unfold qo5; exact jb1 (fun _ => hJ1 _ _) (fun _ => jb1 (fun _ => hJ1 _ _) (fun _ => jb1 (fun _ => jb0 ht fun _ _ => hJ1 _ _) (fun _ => jb1 (fun _ => hJ2 _) (fun _ => hJ2 _))))
theorem qw6 {m : GProg_machine} (n : Int) (h : m.stack.length ≤ 8) : Ok (q05 m n) (fun q => q.stack.length ≤ 8 ∧ q.out = m.out ∧ q.at_ = m.at_) := by
 unfold q05; refine jb1 (fun _ => Ok.some ⟨h, rfl, rfl⟩) (fun hx => Ok.guard (by simp; omega) (Ok.some ⟨?_, rfl, rfl⟩)); simp only [beq_eq_false_iff_ne, ne_eq] at hx; simp; omega
theorem j2t {m : GProg_machine} (x : GIns) (h : m.stack.length ≤ 8) : Ok (q28 m x) (fun q => q.2.stack.length ≤ 8 ∧ q.2.out = m.out ∧ q.2.at_ = m.at_) := by
 unfold q28; have e1 : IntKind.i64.wrap ((List.length m.stack : Int) - 1) = (List.length m.stack : Int) - 1 := wrap_i64 _ (by omega); have e2 : IntKind.i64.wrap ((List.length m.stack : Int) - 2) = (List.length m.stack : Int) - 2 := wrap_i64 _ (by omega); rw [e1, e2]; have hp : ∀ n, Ok (q9 (q05 m n) (fun (v_0 : GProg_machine) => some (true, v_0))) (fun q => q.2.stack.length ≤ 8 ∧ q.2.out = m.out ∧ q.2.at_ = m.at_) := fun n => jb0 (qw6 n h) fun q hq => Ok.some hq; refine jb1 (fun _ => hp _) (fun _ => jb1 (fun _ => hp _) (fun _ => jb1 (fun _ => hp _) (fun _ => jb1 (fun _ => ?_) (fun _ => jb1 (fun _ => ?_) (fun _ => jb1 (fun _ => ?_) (fun _ => Ok.some ⟨h, rfl, rfl⟩))))))
 · refine jb1 (fun _ => Ok.some ⟨h, rfl, rfl⟩) (fun hx => Ok.guard (by simp at hx; omega) (Ok.guard (by simp at hx; omega) (Ok.guard (by simp at hx; omega) (Ok.bind (Ok.idx' (by omega) (by simp at hx ⊢; omega) fun y _ => ?_))))); refine jb0 (qw6 _ (by simp; omega)) fun q ⟨h1, h2, h3⟩ => jb0 (qw6 _ h1) fun q' ⟨h4, h5, h6⟩ => Ok.some ⟨h4, h5.trans h2, h6.trans h3⟩
 · refine jb1 (fun _ => Ok.some ⟨h, rfl, rfl⟩) (fun hx => Ok.guard (by simp at hx; omega) (Ok.guard (by simp at hx; omega) (Ok.guard (by simp at hx; omega) (Ok.bind (Ok.idx' (by omega) (by simp at hx ⊢; omega) fun y _ => Ok.bind (Ok.idx' (by omega) (by simp at hx ⊢; omega) fun z _ => ?_)))))); refine jb0 (qw6 _ (by simp; omega)) fun q ⟨h1, h2, h3⟩ => jb0 (qw6 _ h1) fun q' ⟨h4, h5, h6⟩ => Ok.some ⟨h4, h5.trans h2, h6.trans h3⟩
 · refine jb1 (fun _ => Ok.some ⟨h, rfl, rfl⟩) (fun hx => Ok.guard (by simp at hx; omega) (Ok.guard (by simp at hx; omega) (Ok.some ⟨by simp; omega, rfl, rfl⟩)))
structure Ms (m : GProg_machine) : Prop where
 st : m.stack.length ≤ 8
 out : m.out.length ≤ 8
 at0 : 0 ≤ m.at_
theorem step_ok {m : GProg_machine} {x : GIns} (h : Ms m) (ha : m.at_ < 1000000) (hx : (x.Op = 14 ∨ x.Op = 15) → 0 ≤ x.N) : Ok (q2d m x) (fun q => Ms q) := by
 unfold q2d; have ha0 := h.at0; have w1 : IntKind.i64.wrap (m.at_ + 1) = m.at_ + 1 := wrap_i64 _ (by omega); rw [w1]; refine jb0 (j2t x h.st) fun v ⟨h1, h2, h3⟩ => ?_; simp only at h2 h3; have ho := h.out; rw [← h2] at ho; have hv : Ms v.2 := ⟨h1, ho, by rw [h3]; omega⟩; have hv0 := hv.at0
 generalize v.2 = m2 at h1 ho hv hv0
 clear h2 h3; have e1 : IntKind.i64.wrap ((List.length m2.stack : Int) - 1) = (List.length m2.stack : Int) - 1 := wrap_i64 _ (by omega); have e2 : IntKind.i64.wrap ((List.length m2.stack : Int) - 2) = (List.length m2.stack : Int) - 2 := wrap_i64 _ (by omega); rw [e1, e2]; refine jb1 (fun _ => Ok.some hv) (fun _ => jb1 (fun hop => Ok.some ⟨h1, ho, hx (.inl (by simpa using hop))⟩) (fun _ => jb1 (fun hop => ?_) (fun _ => jb1 (fun _ => ?_) (fun _ => ?_))))
 · have hxn := hx (.inr (by simpa using hop)); refine jb1 (fun _ => Ok.some ⟨h1, ho, hv0⟩) (fun hx => Ok.guard (by simp at hx; omega) (Ok.guard (by simp at hx; omega) (Ok.guard (by simp at hx; omega) (Ok.bind (Ok.idx' (by omega) (by simp at hx ⊢; omega) fun y _ => ?_))))); exact jb1 (fun _ => Ok.some ⟨by simp; omega, ho, hxn⟩) (fun _ => Ok.some ⟨by simp; omega, ho, hv0⟩)
 · refine jb1 (fun _ => Ok.some ⟨h1, ho, hv0⟩) (fun hx => Ok.guard (by simp at hx; omega) (Ok.guard (by simp at hx; omega) (Ok.guard (by simp at hx; omega) (jb1 (fun _ => Ok.some ⟨by simp; omega, ho, hv0⟩) (fun h8 => Ok.bind (Ok.idx' (by omega) (by simp at hx ⊢; omega) fun y _ => Ok.bind (Ok.idx' (by omega) (by simp at hx ⊢; omega) fun z _ => Ok.guard (by simp; omega) (Ok.some ⟨by simp; omega, ?_, hv0⟩)))))))); simp only [beq_eq_false_iff_ne, ne_eq] at h8; simp; omega
 · refine jb1 (fun _ => Ok.some ⟨h1, ho, hv0⟩) (fun hx => Ok.guard (by simp at hx; omega) (Ok.guard (by simp at hx; omega) (Ok.guard (by simp at hx; omega) (Ok.bind (Ok.idx' (by omega) (by simp at hx ⊢; omega) fun y _ => Ok.bind (Ok.idx' (by omega) (by simp at hx ⊢; omega) fun z _ => ?_)))))); refine jb0 (j6m _ _ _) fun t _ => jb0 (qw6 _ (by simp; omega)) fun q ⟨g1, g2, g3⟩ => Ok.some ⟨g1, by rw [g2]; exact ho, by rw [g3]; exact hv0⟩
theorem j7y (p : List GIns) (r : GRec) : Ok (qo6 p r) (fun v => v.1.length ≤ 8) := by
 unfold qo6; refine jb0 ze4 fun ok hok => jb1 (fun _ => Ok.some (by simp)) (fun hb => ?_); obtain ⟨hl, hj⟩ := hok (by simpa using hb); have hJ : ∀ a b c d e (o : List GRec), o.length ≤ 8 → Ok (q8i r a b c d e o) (fun v => v.1.length ≤ 8) := fun a b c d e o ho => by
  unfold q8i; exact jb1 (fun _ => Ok.some (by simp)) (fun _ => Ok.some ho)
 refine jb3 (fun s => ∃ n : Nat, s.1 = (n : Int) ∧ n ≤ 256 ∧ Ms ⟨⟨s.2.1, s.2.2.1⟩, s.2.2.2.2.2.1, s.2.2.2.2.2.2, s.2.2.2.1, s.2.2.2.2.1⟩) (fun s => s.1.toNat) ?_ ⟨256, rfl, Nat.le_refl _, ⟨by simp, by simp, by simp⟩⟩ (by simp only [rounds]; omega); rintro rec ⟨_, a, b, c, d, e, o⟩ ⟨n, rfl, hn, hm⟩ hr; simp only at hm; unfold qu5; simp only; refine jb1 (fun hc => jb1 (fun _ => hJ _ _ _ _ _ _ hm.out) (fun h0 => ?_)) (fun _ => hJ _ _ _ _ _ _ hm.out); simp only [Bool.and_eq_true, decide_eq_true_eq, beq_iff_eq] at hc; simp only [beq_eq_false_iff_ne, ne_eq] at h0; have hc0 : 0 ≤ c := hm.at0; obtain ⟨k, rfl⟩ := Int.eq_ofNat_of_zero_le hc0; have hk : k < p.length := by omega
 refine Ok.bind (jb2 hk (jb0 (step_ok hm (by simp only; omega) fun h => (hj _ (List.getElem_mem hk) h).1) fun q hq => ?_)); rw [wrap_i64 _ (by omega)]; exact hr _ ⟨n - 1, by simp only; omega, by omega, hq⟩ (by simp only; omega)
theorem zo9 (k a b : Int) : Ok (q8q k a b) (fun r => r.K = k) := by
 unfold q8q qd1; exact jb1 (fun _ => Ok.bind (Ok.some (Ok.some rfl))) (fun _ => Ok.some rfl)
theorem z90 (x : GNode) (r : GRec) : Ok (q6x x r) (fun l => l.length ≤ 8) := by
 unfold q6x; refine jb1 (fun _ => jb0 (j7y _ _) fun v hv => Ok.some hv) (fun _ => jb1 (fun _ => jb0 (zo9 _ _ _) fun v _ => Ok.some (by simp)) (fun _ => jb1 (fun _ => jb1 (fun _ => Ok.some (by simp)) (fun ha => Ok.guard ?_ (jb1 (fun _ => Ok.some (by simp)) (fun _ => Ok.some (by simp))))) (fun _ => Ok.some (by simp)))); simp only [decide_eq_false_iff_not] at ha; omega
def sing (x : GNode) (r : GRec) : List GRec := (q6x x r).getD []
theorem j53 (x : GNode) (r : GRec) : q6x x r = some (sing x r) := by
 obtain ⟨l, h, _⟩ := z90 x r; rw [sing, h]; rfl
theorem j2e (x : GNode) (r : GRec) : (sing x r).length ≤ 8 := by
 obtain ⟨l, h, hl⟩ := z90 x r; rw [sing, h]; exact hl
end OP
end Go.Proofs.YteibkihbdgphnaaGreat
