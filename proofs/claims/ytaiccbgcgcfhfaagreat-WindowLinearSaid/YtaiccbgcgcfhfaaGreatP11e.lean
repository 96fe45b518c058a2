/-
  The law in plain words: what its plain function gives is true. No condition beyond those that each theorem names.
-/
import Derived.Test.YtaiccbgcgcfhfaaGreatWalkWL0
import Derived.Test.YtaiccbgcgcfhfaaGreatP11b
set_option linter.unusedSimpArgs false
set_option linter.unusedVariables false
set_option linter.unusedSectionVars false
namespace Go.Proofs.YtaiccbgcgcfhfaaGreat
open Go Go.RowKit BG
namespace OP
def linS (k : Int) : Bool := (q5b k).getD false
theorem linS_eq (k : Int) : q5b k = some (linS k) := by
 have h : Ok (q5b k) (fun _ => True) := by
  have hJ : ∀ b, Ok (q1h b) (fun _ => True) := fun b => by
   unfold q1h; exact jl0 (fun _ => T1 _) (fun _ => T1 _)
  unfold q5b
  repeat' (first | exact hJ _ | refine jl0 (fun _ => ?_) (fun _ => ?_))
 obtain ⟨b, hb, _⟩ := h; rw [linS, hb]; rfl
noncomputable def zy9 (n : Nat) (ports : List (List GItem)) : List GItem := match ports[n]? with
 | some l => there l
 | none => []
theorem port_ok {ports : List (List GItem)} (n : Nat) (hl : ∀ l ∈ ports, l.length < 1000000) : q4k (n : Int) ports = some (zy9 n ports) := by
 refine Ok.eq ?_; unfold q4k; refine jl0 (fun hx => Ok.some ?_) (fun hx => ?_)
 . simp only [decide_eq_true_eq] at hx; unfold zy9; rw [List.getElem?_eq_none (by omega)]
 .
  simp only [decide_eq_false_iff_not] at hx; have h : n < ports.length := by omega
  refine Ok.bind (jl1 h (Ok.bind (jl3 (zq2 (hl _ (List.getElem_mem h))) (Ok.some ?_)))); unfold zy9; rw [List.getElem?_eq_getElem h]
def Out (x : GNode) (A B O : List GItem) : Prop := if x.Kind = 5 then O = lin x A ++ lin x B else O = lin x A
def Fin (O : List GItem) (v : List GItem × Bool) : Prop := (v.2 = true /\ Puts [] v.1 O /\ tot O <= 65536) \/ (v.2 = false /\ v.1 = [] /\ 65536 < tot O)
theorem zx9 {m : GOps_maker} (h : Mk m) : Ok (q37 true m.many m.out) (fun v => Fin m.out v) := by
 unfold q37; refine jl0 (fun hx => by cases hx) (fun _ => jk9 (j8c h) fun v hv => Ok.some (.inl ⟨rfl, hv, ?_⟩)); have := h.many; have := h.le; omega
theorem z7k {O : List GItem} (b : Int) (a : List GItem) (h : 65536 < tot O) : Ok (q37 false b a) (fun v => Fin O v) := by
 unfold q37; exact jl0 (fun _ => Ok.some (.inr ⟨rfl, rfl, h⟩)) (fun hx => by cases hx)
theorem Mk0 : Mk ⟨[], 0⟩ := ⟨rfl, by simp [Pos], by simp⟩
structure Good (A : List GItem) : Prop where
 rt : Rt A
 pos : Pos A
 len : A.length <= 60000
theorem Good.big {A : List GItem} (h : Good A) : ∀ y ∈ A, y.N <= 1099511627776 := fun y hy => by have := (h.rt.num y hy).2; omega
theorem Apply_ok {x : GNode} {ports : List (List GItem)} {A B : List GItem} (hl : linS x.Kind = true) (hA : q4k 0 ports = some A) (hB : q4k 1 ports = some B) (gA : Good A) (gB : Good B) :
  Ok (q7s x ports) (fun v => ∃ O, Out x A B O /\ Pos O /\ Fin O v) := by
 unfold q7s; refine Ok.bind (jl3 hA (Ok.bind (jl3 hB ?_))); have lA := gA.len; have lB := gB.len; refine jl0 (fun h5 => ?_) (fun h5 => Ok.bind (jl3 (linS_eq _) (jl0 (fun _ => ?_) (fun hl' => by rw [hl] at hl'; cases hl'))))
 .
  simp only [beq_iff_eq] at h5; have hO : Out x A B (lin x A ++ lin x B) := by unfold Out; rw [if_pos h5]
  have pO : Pos (lin x A ++ lin x B) := (lin_pos gA.pos).append (lin_pos gB.pos); have t2 := (lin_pos (x := x) gB.pos).tot_nonneg; refine jk9 (z4l (x := x) Mk0 gA.pos gA.big (by omega)) fun v hv => ?_; rcases hv with ⟨v1, v2, v3⟩ | ⟨v1, v2⟩
  .
   rw [v1]; refine jl0 (fun _ => jk9 (z4l (x := x) v3 gB.pos gB.big (by omega)) fun w hw => ?_) (fun hx => by cases hx); rcases hw with ⟨w1, w2, w3⟩ | ⟨w1, w2⟩
   . rw [w1]; refine (zx9 w3).mono fun u hu => ⟨_, hO, pO, ?_⟩; rw [v2] at w2; rw [w2] at hu; exact hu
   . rw [w1]; refine (z7k (O := lin x A ++ lin x B) _ _ ?_).mono fun u hu => ⟨_, hO, pO, hu⟩; rw [v2] at w2; simp only [List.nil_append] at w2; rw [q3k]; exact w2
  . rw [v1]; refine jl0 (fun hx => by cases hx) (fun _ => (z7k (O := lin x A ++ lin x B) _ _ ?_).mono fun u hu => ⟨_, hO, pO, hu⟩); simp only [q3k] at *; have : tot ([] : List GItem) = 0 := rfl; omega
 .
  simp only [beq_eq_false_iff_ne, ne_eq] at h5; have hO : Out x A B (lin x A) := by unfold Out; rw [if_neg h5]
  have pO := lin_pos (x := x) gA.pos; refine jk9 (z4l (x := x) Mk0 gA.pos gA.big (by omega)) fun v hv => ?_; rcases hv with ⟨v1, v2, v3⟩ | ⟨v1, v2⟩
  . rw [v1]; refine (zx9 v3).mono fun u hu => ⟨_, hO, pO, ?_⟩; rw [v2] at hu; exact hu
  . rw [v1]; refine (z7k (O := lin x A) _ _ ?_).mono fun u hu => ⟨_, hO, pO, hu⟩; have : tot ([] : List GItem) = 0 := rfl; simp only at v2; omega
end OP
end Go.Proofs.YtaiccbgcgcfhfaaGreat
