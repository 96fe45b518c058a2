/-
  The law in plain words: what its plain function gives is true. No condition beyond those that each theorem names.
-/
import Derived.Test.YteibkihbdgphnaaGreatWalkMP0
import Derived.Test.YteibkihbdgphnaaGreatP05b
set_option linter.unusedSimpArgs false
set_option linter.unusedVariables false
set_option linter.unusedSectionVars false
open List renaming length -> Xa
open Bool renaming or_eq_false_iff -> Xb
namespace Go.Proofs.YteibkihbdgphnaaGreat
open Go Go.RowKit
namespace OP
theorem T1 {α : Type} (a : α) : Ok (some a) (fun _ => True) := Ok.some trivial
theorem zk1 {p : List GIns} : Ok (q77 p) (fun r => r = true -> p.length <= 64 /\ ∀ x ∈ p, (x.Op = 14 \/ x.Op = 15) -> 0 <= x.N /\ x.N <= p.length) := by
 unfold q77; refine jh5 (fun _ => Ok.some (fun h => by cases h)) (fun hl => ?_); simp only [decide_eq_false_iff_not] at hl; refine ji0 (l := p) (by omega) (fun i => ∀ x ∈ p.take i, (x.Op = 14 \/ x.Op = 15) -> 0 <= x.N /\ x.N <= p.length) 0 (fun rec i hi _ hI hr => ?_) (fun rec hI => ?_) (by simp) (Nat.zero_le _)
 .
  unfold q7f qi5; refine jh5 (fun _ => Ok.bind (jh6 hi ?_)) (fun hx => by simp only [decide_eq_false_iff_not] at hx; omega); rw [wrap_i64 ((i : Int) + 1) (by omega)]; refine jh5 (fun _ => Ok.some (fun h => by cases h)) (fun _ => Ok.bind (Ok.some (jh5 (fun hj => jh5 (fun _ => Ok.some (fun h => by cases h)) (fun hn => hr ?_)) (fun hj => jh5 (fun _ => Ok.some (fun h => by cases h)) (fun _ => hr ?_)))))
  . simp only [Xb, decide_eq_false_iff_not] at hn; exact (qn4 hi).2 ⟨hI, fun _ => by omega⟩
  . simp only [Xb, beq_eq_false_iff_ne, ne_eq] at hj; exact (qn4 hi).2 ⟨hI, fun h => by omega⟩
 . unfold q7f; refine jh5 (fun hx => by simp only [decide_eq_true_eq] at hx; omega) (fun _ => Ok.some (fun _ => ?_)); rw [List.take_length] at hI; exact ⟨by omega, hI⟩
theorem j87 (op a b : Int) : Ok (qr2 op a b) (fun _ => True) := by
 have hJ1 : ∀ n ok, Ok (q2i n ok) (fun _ => True) := fun n ok => by
  unfold q2i; exact jh5 (fun _ => T1 _) (fun _ => T1 _)
 have htr : ∀ b, Ok (q9t b) (fun _ => True) := fun b => by
  unfold q9t; exact jh5 (fun _ => T1 _) (fun _ => T1 _)
 have ht : Ok (qi3 a b) (fun _ => True) := by
  have h1 : ∀ n, Ok (q83 n) (fun _ => True) := fun n => by
   unfold q83; exact jh5 (fun _ => T1 _) (fun _ => T1 _)
  unfold qi3; refine jh4 (h1 _) fun _ _ => jh4 (h1 _) fun _ _ => ?_; unfold q3f; exact Ok.bind (Ok.some (jh5 (fun _ => T1 _) (fun _ => T1 _)))
 have hJ2 : ∀ t, Ok (q8w op a b t) (fun _ => True) := fun t => by
  unfold q8w; refine jh5 (fun _ => jh5 (fun _ => T1 _) (fun h0 => jh5 (fun _ => hJ1 _ _) (fun _ => jh5 (fun _ => hJ1 _ _) (fun _ => jh5 (fun _ => Ok.guard ?_ (hJ1 _ _)) (fun _ => Ok.guard ?_ (hJ1 _ _)))))) (fun _ => jh5 (fun _ => jh4 (htr _) fun _ _ => hJ1 _ _) (fun _ => jh5 (fun _ => jh4 (htr _) fun _ _ => hJ1 _ _) (fun _ => hJ1 _ _)))
  all_goals simpa using h0
 unfold qr2; exact jh5 (fun _ => hJ1 _ _) (fun _ => jh5 (fun _ => hJ1 _ _) (fun _ => jh5 (fun _ => jh4 ht fun _ _ => hJ1 _ _) (fun _ => jh5 (fun _ => hJ2 _) (fun _ => hJ2 _))))
theorem z01 {m : GProg_machine} (n : Int) (h : m.stack.length <= 8) : Ok (q0b m n) (fun q => q.stack.length <= 8 /\ q.out = m.out /\ q.at_ = m.at_) := by
 unfold q0b; refine jh5 (fun _ => Ok.some ⟨h, rfl, rfl⟩) (fun hx => Ok.guard (by simp; omega) (Ok.some ⟨?_, rfl, rfl⟩)); simp only [beq_eq_false_iff_ne, ne_eq] at hx; simp; omega
theorem j4a {m : GProg_machine} (x : GIns) (h : m.stack.length <= 8) : Ok (q2f m x) (fun q => q.2.stack.length <= 8 /\ q.2.out = m.out /\ q.2.at_ = m.at_) := by
 unfold q2f; have e1 : IntKind.i64.wrap ((Xa m.stack : Int) - 1) = (Xa m.stack : Int) - 1 := wrap_i64 _ (by omega); have e2 : IntKind.i64.wrap ((Xa m.stack : Int) - 2) = (Xa m.stack : Int) - 2 := wrap_i64 _ (by omega); rw [e1, e2]; have hp : ∀ n, Ok (q9 (q0b m n) (fun (v_0 : GProg_machine) => some (true, v_0))) (fun q => q.2.stack.length <= 8 /\ q.2.out = m.out /\ q.2.at_ = m.at_) := fun n => jh4 (z01 n h) fun q hq => Ok.some hq; refine jh5 (fun _ => hp _) (fun _ => jh5 (fun _ => hp _) (fun _ => jh5 (fun _ => hp _) (fun _ => jh5 (fun _ => ?_) (fun _ => jh5 (fun _ => ?_) (fun _ => jh5 (fun _ => ?_) (fun _ => Ok.some ⟨h, rfl, rfl⟩))))))
 . refine jh5 (fun _ => Ok.some ⟨h, rfl, rfl⟩) (fun hx => Ok.guard (by simp at hx; omega) (Ok.guard (by simp at hx; omega) (Ok.guard (by simp at hx; omega) (Ok.bind (Ok.idx' (by omega) (by simp at hx ⊢; omega) fun y _ => ?_))))); refine jh4 (z01 _ (by simp; omega)) fun q ⟨h1, h2, h3⟩ => jh4 (z01 _ h1) fun q' ⟨h4, h5, h6⟩ => Ok.some ⟨h4, h5.trans h2, h6.trans h3⟩
 . refine jh5 (fun _ => Ok.some ⟨h, rfl, rfl⟩) (fun hx => Ok.guard (by simp at hx; omega) (Ok.guard (by simp at hx; omega) (Ok.guard (by simp at hx; omega) (Ok.bind (Ok.idx' (by omega) (by simp at hx ⊢; omega) fun y _ => Ok.bind (Ok.idx' (by omega) (by simp at hx ⊢; omega) fun z _ => ?_)))))); refine jh4 (z01 _ (by simp; omega)) fun q ⟨h1, h2, h3⟩ => jh4 (z01 _ h1) fun q' ⟨h4, h5, h6⟩ => Ok.some ⟨h4, h5.trans h2, h6.trans h3⟩
 . refine jh5 (fun _ => Ok.some ⟨h, rfl, rfl⟩) (fun hx => Ok.guard (by simp at hx; omega) (Ok.guard (by simp at hx; omega) (Ok.some ⟨by simp; omega, rfl, rfl⟩)))
structure Ms (m : GProg_machine) : Prop where
 st : m.stack.length <= 8
 out : m.out.length <= 8
 at0 : 0 <= m.at_
theorem step_ok {m : GProg_machine} {x : GIns} (h : Ms m) (ha : m.at_ < 1000000) (hx : (x.Op = 14 \/ x.Op = 15) -> 0 <= x.N) : Ok (q2m m x) (fun q => Ms q) := by
 unfold q2m; have ha0 := h.at0; have w1 : IntKind.i64.wrap (m.at_ + 1) = m.at_ + 1 := wrap_i64 _ (by omega); rw [w1]; refine jh4 (j4a x h.st) fun v ⟨h1, h2, h3⟩ => ?_; simp only at h2 h3; have ho := h.out; rw [<- h2] at ho; have hv : Ms v.2 := ⟨h1, ho, by rw [h3]; omega⟩; have hv0 := hv.at0
 generalize v.2 = m2 at h1 ho hv hv0
 clear h2 h3; have e1 : IntKind.i64.wrap ((Xa m2.stack : Int) - 1) = (Xa m2.stack : Int) - 1 := wrap_i64 _ (by omega); have e2 : IntKind.i64.wrap ((Xa m2.stack : Int) - 2) = (Xa m2.stack : Int) - 2 := wrap_i64 _ (by omega); rw [e1, e2]; refine jh5 (fun _ => Ok.some hv) (fun _ => jh5 (fun hop => Ok.some ⟨h1, ho, hx (.inl (by simpa using hop))⟩) (fun _ => jh5 (fun hop => ?_) (fun _ => jh5 (fun _ => ?_) (fun _ => ?_))))
 . have hxn := hx (.inr (by simpa using hop)); refine jh5 (fun _ => Ok.some ⟨h1, ho, hv0⟩) (fun hx => Ok.guard (by simp at hx; omega) (Ok.guard (by simp at hx; omega) (Ok.guard (by simp at hx; omega) (Ok.bind (Ok.idx' (by omega) (by simp at hx ⊢; omega) fun y _ => ?_))))); exact jh5 (fun _ => Ok.some ⟨by simp; omega, ho, hxn⟩) (fun _ => Ok.some ⟨by simp; omega, ho, hv0⟩)
 . refine jh5 (fun _ => Ok.some ⟨h1, ho, hv0⟩) (fun hx => Ok.guard (by simp at hx; omega) (Ok.guard (by simp at hx; omega) (Ok.guard (by simp at hx; omega) (jh5 (fun _ => Ok.some ⟨by simp; omega, ho, hv0⟩) (fun h8 => Ok.bind (Ok.idx' (by omega) (by simp at hx ⊢; omega) fun y _ => Ok.bind (Ok.idx' (by omega) (by simp at hx ⊢; omega) fun z _ => Ok.guard (by simp; omega) (Ok.some ⟨by simp; omega, ?_, hv0⟩)))))))); simp only [beq_eq_false_iff_ne, ne_eq] at h8; simp; omega
 . refine jh5 (fun _ => Ok.some ⟨h1, ho, hv0⟩) (fun hx => Ok.guard (by simp at hx; omega) (Ok.guard (by simp at hx; omega) (Ok.guard (by simp at hx; omega) (Ok.bind (Ok.idx' (by omega) (by simp at hx ⊢; omega) fun y _ => Ok.bind (Ok.idx' (by omega) (by simp at hx ⊢; omega) fun z _ => ?_)))))); refine jh4 (j87 _ _ _) fun t _ => jh4 (z01 _ (by simp; omega)) fun q ⟨g1, g2, g3⟩ => Ok.some ⟨g1, by rw [g2]; exact ho, by rw [g3]; exact hv0⟩
theorem j9p (p : List GIns) (r : GRec) : Ok (qr3 p r) (fun v => v.1.length <= 8) := by
 unfold qr3; refine jh4 zk1 fun ok hok => jh5 (fun _ => Ok.some (by simp)) (fun hb => ?_); obtain ⟨hl, hj⟩ := hok (by simpa using hb); have hJ : ∀ a b c d e (o : List GRec), o.length <= 8 -> Ok (q8x r a b c d e o) (fun v => v.1.length <= 8) := fun a b c d e o ho => by
  unfold q8x; exact jh5 (fun _ => Ok.some (by simp)) (fun _ => Ok.some ho)
 refine jh7 (fun s => ∃ n : Nat, s.1 = (n : Int) /\ n <= 256 /\ Ms ⟨⟨s.2.1, s.2.2.1⟩, s.2.2.2.2.2.1, s.2.2.2.2.2.2, s.2.2.2.1, s.2.2.2.2.1⟩) (fun s => s.1.toNat) ?_ ⟨256, rfl, Nat.le_refl _, ⟨by simp, by simp, by simp⟩⟩ (by simp only [rounds]; omega); rintro rec ⟨_, a, b, c, d, e, o⟩ ⟨n, rfl, hn, hm⟩ hr; simp only at hm; unfold qx5; simp only; refine jh5 (fun hc => jh5 (fun _ => hJ _ _ _ _ _ _ hm.out) (fun h0 => ?_)) (fun _ => hJ _ _ _ _ _ _ hm.out); simp only [Bool.and_eq_true, decide_eq_true_eq, beq_iff_eq] at hc; simp only [beq_eq_false_iff_ne, ne_eq] at h0; have hc0 : 0 <= c := hm.at0; obtain ⟨k, rfl⟩ := Int.eq_ofNat_of_zero_le hc0; have hk : k < p.length := by omega
 refine Ok.bind (jh6 hk (jh4 (step_ok hm (by simp only; omega) fun h => (hj _ (List.getElem_mem hk) h).1) fun q hq => ?_)); rw [wrap_i64 _ (by omega)]; exact hr _ ⟨n - 1, by simp only; omega, by omega, hq⟩ (by simp only; omega)
theorem zt9 (k a b : Int) : Ok (q97 k a b) (fun r => r.K = k) := by
 unfold q97 qf1; exact jh5 (fun _ => Ok.bind (Ok.some (Ok.some rfl))) (fun _ => Ok.some rfl)
theorem zc0 (x : GNode) (r : GRec) : Ok (q78 x r) (fun l => l.length <= 8) := by
 unfold q78; refine jh5 (fun _ => jh4 (j9p _ _) fun v hv => Ok.some hv) (fun _ => jh5 (fun _ => jh4 (zt9 _ _ _) fun v _ => Ok.some (by simp)) (fun _ => jh5 (fun _ => jh5 (fun _ => Ok.some (by simp)) (fun ha => Ok.guard ?_ (jh5 (fun _ => Ok.some (by simp)) (fun _ => Ok.some (by simp))))) (fun _ => Ok.some (by simp)))); simp only [decide_eq_false_iff_not] at ha; omega
def sing (x : GNode) (r : GRec) : List GRec := (q78 x r).getD []
theorem j6r (x : GNode) (r : GRec) : q78 x r = some (sing x r) := by
 obtain ⟨l, h, _⟩ := zc0 x r; rw [sing, h]; rfl
theorem j3u (x : GNode) (r : GRec) : (sing x r).length <= 8 := by
 obtain ⟨l, h, hl⟩ := zc0 x r; rw [sing, h]; exact hl
end OP
end Go.Proofs.YteibkihbdgphnaaGreat
