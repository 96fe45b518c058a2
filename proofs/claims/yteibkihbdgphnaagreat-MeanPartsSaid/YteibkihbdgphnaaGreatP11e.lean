/-
  The law in plain words: what its plain function gives is true. No condition beyond those that each theorem names.
-/
import Derived.Test.YteibkihbdgphnaaGreatWalkMP1
import Derived.Test.YteibkihbdgphnaaGreatP11d
set_option linter.unusedSimpArgs false
set_option linter.unusedVariables false
set_option linter.unusedSectionVars false
namespace Go.Proofs.YteibkihbdgphnaaGreat
open Go Go.RowKit BG
namespace OP
def linS (k : Int) : Bool := (q79 k).getD false
theorem linS_eq (k : Int) : q79 k = some (linS k) := by
 have h : Ok (q79 k) (fun _ => True) := by
  have hJ : ∀ b, Ok (q1s b) (fun _ => True) := fun b => by
   unfold q1s; exact jh5 (fun _ => T1 _) (fun _ => T1 _)
  unfold q79
  repeat' (first | exact hJ _ | refine jh5 (fun _ => ?_) (fun _ => ?_))
 obtain ⟨b, hb, _⟩ := h; rw [linS, hb]; rfl
noncomputable def zx3 (n : Nat) (ports : List (List GItem)) : List GItem := match ports[n]? with
 | some l => there l
 | none => []
theorem port_ok {ports : List (List GItem)} (n : Nat) (hl : ∀ l ∈ ports, l.length < 1000000) : q53 (n : Int) ports = some (zx3 n ports) := by
 refine Ok.eq ?_; unfold q53; refine jh5 (fun hx => Ok.some ?_) (fun hx => ?_)
 . simp only [decide_eq_true_eq] at hx; unfold zx3; rw [List.getElem?_eq_none (by omega)]
 .
  simp only [decide_eq_false_iff_not] at hx; have h : n < ports.length := by omega
  refine Ok.bind (jh6 h (Ok.bind (jh8 (zp5 (hl _ (List.getElem_mem h))) (Ok.some ?_)))); unfold zx3; rw [List.getElem?_eq_getElem h]
def z3a (l : List GItem) : List GItem := l.map fun y => ⟨y.Rec, 1⟩
def Out (x : GNode) (A B O : List GItem) : Prop :=
 if x.Kind = 5 then O = lin x A ++ lin x B
 else if linS x.Kind = true then O = lin x A
 else if x.Kind = 8 then O = z3a A
 else if x.Kind = 9 then O = jn A B
 else if x.Kind = 7 \/ x.Kind = 6 \/ x.Kind = 14 then Gr x.Kind A B O
 else O = []
def Fin (O : List GItem) (v : List GItem × Bool) : Prop := (v.2 = true /\ Puts [] v.1 O /\ tot O <= 65536) \/ (v.2 = false /\ v.1 = [] /\ 65536 < tot O)
theorem z04 {m : GOps_maker} (h : Mk m) : Ok (q2h true m.many m.out) (fun v => Fin m.out v) := by
 unfold q2h; refine jh5 (fun hx => by cases hx) (fun _ => jh4 (j7h h) fun v hv => Ok.some (.inl ⟨rfl, hv, ?_⟩)); have := h.many; have := h.le; omega
theorem z3q {O : List GItem} (b : Int) (a : List GItem) (h : 65536 < tot O) : Ok (q2h false b a) (fun v => Fin O v) := by
 unfold q2h; exact jh5 (fun _ => Ok.some (.inr ⟨rfl, rfl, h⟩)) (fun hx => by cases hx)
theorem zr0 (a b : List GItem) : z3a (a ++ b) = z3a a ++ z3a b := by simp [z3a]
theorem j46 (a : List GItem) : Pos (z3a a) := fun x hx => by
 obtain ⟨y, _, rfl⟩ := List.mem_map.1 hx; exact Int.one_pos
theorem Mk0 : Mk ⟨[], 0⟩ := ⟨rfl, by simp [Pos], by simp⟩
theorem Gr.pos {k : Int} {A B O : List GItem} (h : Gr k A B O) : Pos O := fun x hx => by have := (h.row x hx).1; omega
structure Good (A : List GItem) : Prop where
 rt : Rt A
 pos : Pos A
 len : A.length <= 60000
theorem Good.big {A : List GItem} (h : Good A) : ∀ y ∈ A, y.N <= 1099511627776 := fun y hy => by have := (h.rt.num y hy).2; omega
theorem Apply_ok {x : GNode} {ports : List (List GItem)} {A B : List GItem} (hA : q53 0 ports = some A) (hB : q53 1 ports = some B) (gA : Good A) (gB : Good B) :
  Ok (q7z x ports) (fun v => ∃ O, Out x A B O /\ Pos O /\ Fin O v) := by
 unfold q7z; refine Ok.bind (jh8 hA (Ok.bind (jh8 hB ?_))); have lA := gA.len; have lB := gB.len; refine jh5 (fun h5 => ?_) (fun h5 => Ok.bind (jh8 (linS_eq _) (jh5 (fun hl => ?_) (fun hl => jh5 (fun h8 => ?_) (fun h8 => jh5 (fun h9 => ?_) (fun h9 => jh5 (fun hg => ?_) (fun hg => ?_)))))))
 .
  simp only [beq_iff_eq] at h5; have hO : Out x A B (lin x A ++ lin x B) := by unfold Out; rw [if_pos h5]
  have pO : Pos (lin x A ++ lin x B) := (lin_pos gA.pos).append (lin_pos gB.pos); have t2 := (lin_pos (x := x) gB.pos).tot_nonneg; refine jh4 (z4k (x := x) Mk0 gA.pos gA.big (by omega)) fun v hv => ?_; rcases hv with ⟨v1, v2, v3⟩ | ⟨v1, v2⟩
  .
   rw [v1]; refine jh5 (fun _ => jh4 (z4k (x := x) v3 gB.pos gB.big (by omega)) fun w hw => ?_) (fun hx => by cases hx); rcases hw with ⟨w1, w2, w3⟩ | ⟨w1, w2⟩
   . rw [w1]; refine (z04 w3).mono fun u hu => ⟨_, hO, pO, ?_⟩; rw [v2] at w2; rw [w2] at hu; exact hu
   . rw [w1]; refine (z3q (O := lin x A ++ lin x B) _ _ ?_).mono fun u hu => ⟨_, hO, pO, hu⟩; rw [v2] at w2; simp only [List.nil_append] at w2; rw [q3a]; exact w2
  . rw [v1]; refine jh5 (fun hx => by cases hx) (fun _ => (z3q (O := lin x A ++ lin x B) _ _ ?_).mono fun u hu => ⟨_, hO, pO, hu⟩); simp only [q3a] at *; have : tot ([] : List GItem) = 0 := rfl; omega
 .
  simp only [beq_eq_false_iff_ne, ne_eq] at h5; have hO : Out x A B (lin x A) := by unfold Out; rw [if_neg h5, if_pos hl]
  have pO := lin_pos (x := x) gA.pos; refine jh4 (z4k (x := x) Mk0 gA.pos gA.big (by omega)) fun v hv => ?_; rcases hv with ⟨v1, v2, v3⟩ | ⟨v1, v2⟩
  . rw [v1]; refine (z04 v3).mono fun u hu => ⟨_, hO, pO, ?_⟩; rw [v2] at hu; exact hu
  . rw [v1]; refine (z3q (O := lin x A) _ _ ?_).mono fun u hu => ⟨_, hO, pO, hu⟩; have : tot ([] : List GItem) = 0 := rfl; simp only at v2; omega
 .
  simp only [beq_eq_false_iff_ne, ne_eq] at h5; simp only [beq_iff_eq] at h8; have hO : Out x A B (z3a A) := by unfold Out; rw [if_neg h5, if_neg (by rw [hl]; simp), if_pos h8]
  refine jh7 (fun s => ∃ i : Nat, s.2.1 = (i : Int) /\ i <= A.length /\ s.1 = true /\ s.2.2.2 = z3a (A.take i) /\ Mk ⟨s.2.2.2, s.2.2.1⟩ /\ s.2.2.1 = (i : Int)) (fun s => A.length - s.2.1.toNat) ?_ ⟨0, rfl, Nat.zero_le _, rfl, by simp [z3a], Mk0, rfl⟩ (by simp only [rounds]; omega); rintro rec ⟨ok, _, many, out⟩ ⟨i, rfl, hi, h1, h2, h3, h4⟩ hr; simp only at h1 h2 h3 h4; unfold qu1; simp only; refine jh5 (fun hc => ?_) (fun hc => ?_)
  .
   simp only [decide_eq_true_eq] at hc; have hlt : i < A.length := by omega
   refine Ok.bind (jh6 hlt (jh5 (fun _ => jh4 (z9c (r := A[i].Rec) (n := 1) h3 (by omega) (by omega)) fun v hv => ?_) (fun hx => by rw [h1] at hx; cases hx))); rw [wrap_i64 ((i : Int) + 1) (by omega)]; have e1 : tot [(⟨A[i].Rec, 1⟩ : GItem)] = 1 := rfl; have hm := h3.many; simp only at hm; rcases hv with ⟨v1, v2, v3⟩ | ⟨v1, v2⟩
   . have hvm := v3.many; simp only at v2; rw [v2, q3a, <- hm, e1] at hvm; refine hr _ ⟨i + 1, rfl, by omega, v1, ?_, v3, by simp only; omega⟩ (by simp only; omega); simp only; rw [v2, h2, List.take_succ_eq_append_getElem hlt, zr0]; rfl
   . simp only at v2; omega
  .
   simp only [decide_eq_false_iff_not] at hc; have : i = A.length := by omega
   rw [this, List.take_length] at h2; rw [h1]; refine (z04 h3).mono fun u hu => ⟨_, hO, j46 A, ?_⟩; simp only at hu; rw [h2] at hu; exact hu
 .
  simp only [beq_eq_false_iff_ne, ne_eq] at h5 h8; simp only [beq_iff_eq] at h9; have hO : Out x A B (jn A B) := by unfold Out; rw [if_neg h5, if_neg (by rw [hl]; simp), if_neg h8, if_pos h9]
  refine jh4 (j76 gA.rt.inc gA.pos gB.pos lA lB) fun v hv => ?_; rcases hv with ⟨v1, v2, v3⟩ | ⟨v1, v2⟩
  . rw [v1]; refine (z04 v3).mono fun u hu => ⟨_, hO, zl9 gA.pos gB.pos, ?_⟩; rw [v2] at hu; exact hu
  . rw [v1]; exact (z3q (O := jn A B) _ _ v2).mono fun u hu => ⟨_, hO, zl9 gA.pos gB.pos, hu⟩
 .
  simp only [beq_eq_false_iff_ne, ne_eq] at h5 h8 h9; have hg' : x.Kind = 7 \/ x.Kind = 6 \/ x.Kind = 14 := by simpa [or_assoc] using hg
  refine jh4 (j03 (kind := x.Kind) (b := B) gA.rt.inc lA lB) fun v ⟨v1, v2, v3⟩ => ?_; rw [v1]; exact (z04 v3).mono fun u hu => ⟨_, by unfold Out; rw [if_neg h5, if_neg (by rw [hl]; simp), if_neg h8, if_neg h9, if_pos hg']; exact v2, v2.pos, hu⟩
 .
  simp only [beq_eq_false_iff_ne, ne_eq] at h5 h8 h9; have hg' : ¬ (x.Kind = 7 \/ x.Kind = 6 \/ x.Kind = 14) := by
   intro h; have : ((x.Kind == 7 || x.Kind == 6) || x.Kind == 14) = true := by simpa [or_assoc] using h
   rw [this] at hg; cases hg
  exact (z04 Mk0).mono fun u hu => ⟨_, by unfold Out; rw [if_neg h5, if_neg (by rw [hl]; simp), if_neg h8, if_neg h9, if_neg hg'], by simp [Pos], hu⟩
theorem Puts.pos {c O : List GItem} (h : Puts [] c O) (hp : Pos O) : Pos c := fun x hx => by
 have h1 := z0t h.rt.inc hx; have h2 := h.cnt x.Rec; have h3 := (h.rt.num x hx).1; have h4 : 0 <= cnt O x.Rec := by
  have : ∀ l : List GItem, Pos l -> 0 <= cnt l x.Rec := fun l => by
   induction l with
   | nil => intro _; simp [cnt]
   | cons y l ih =>
    intro hp; have := hp y (by simp); have := ih fun z hz => hp z (by simp [hz]); simp only [cnt]; split <;> omega
  exact this O hp
 simp only [cnt] at h2; omega
end OP
end Go.Proofs.YteibkihbdgphnaaGreat
