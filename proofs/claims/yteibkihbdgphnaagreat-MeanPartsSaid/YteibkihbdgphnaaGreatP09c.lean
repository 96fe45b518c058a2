/-
  The law in plain words: what its plain function gives is true. No condition beyond those that each theorem names.
-/
import Derived.Test.YteibkihbdgphnaaGreatWalkMP0
import Derived.Test.YteibkihbdgphnaaGreatP09b
set_option linter.unusedSimpArgs false
set_option linter.unusedVariables false
set_option linter.unusedSectionVars false
open Bool renaming and_eq_false_iff -> Xa, and_eq_true -> Xb, not_eq_true' -> Xc, not_eq_false' -> Xd, or_eq_false_iff -> Xe, or_eq_true -> Xf
namespace Go.Proofs.YteibkihbdgphnaaGreat
open Go Go.RowKit
namespace VA
instance (g : GGraph) (x : GNode) : Decidable (inN g x) := inferInstanceAs (Decidable (_ /\ _))
def q82 (g : GGraph) (n : Nat) : Int :=
 if (nd g n).Kind < 1 \/ 15 < (nd g n).Kind then 1
 else if ¬ inN g (nd g n) \/ ((nd g n).Kind = 10 \/ (nd g n).Kind = 11 \/ (nd g n).Kind = 12) /\ (nd g n).Scope = 0 \/ ((nd g n).Kind = 1 \/ (nd g n).Kind = 15) /\ (nd g n).Scope ≠ 0 then 6
 else if fits g n = false then 6
 else if (nd g n).Kind = 4 /\ (nd g n).Arg < 1 \/ (nd g n).Kind ≠ 4 /\ (nd g n).Kind ≠ 3 /\ (nd g n).Arg ≠ 0 then 1
 else if pOk (nd g n).Prog = false \/ (nd g n).Kind ≠ 2 /\ 0 < (nd g n).Prog.length then 13 else 0
section
variable {g : GGraph} (hw : WP g.Parent g.Parent.length) (h8 : g.Parent.length <= 8) (hl : g.Nodes.length < 1000000)
include hw h8 hl
theorem j6z {n : Nat} (hn : n < g.Nodes.length) (hb : 0 < n -> inN g (nd g (n - 1))) : qh9 g n = some (q82 g n) := by
 unfold qh9 q82; refine Ok.eq (Ok.bind (jh6 hn ?_)); rw [qc0 hn]; simp only [qk0, q2w, q9, Option.bind_some]; refine jh5 (fun h1 => Ok.some ?_) (fun h1 => ?_)
 . simp only [Xf, decide_eq_true_eq] at h1; rw [if_pos h1]
 simp only [Xe, decide_eq_false_iff_not] at h1; have n1 : ¬ ((nd g n).Kind < 1 \/ 15 < (nd g n).Kind) := by omega
 refine jh5 (fun h2 => Ok.some ?_) (fun h2 => ?_)
 . simp only [Xf, Xb, Xc, Xa, decide_eq_false_iff_not, beq_iff_eq, beq_eq_false_iff_ne, ne_eq] at h2; rw [if_neg n1, if_pos (by unfold inN; omega)]
 simp only [Xe, Xa, Xd, Xb, decide_eq_true_eq, beq_iff_eq, beq_eq_false_iff_ne, ne_eq] at h2; have hin : inN g (nd g n) := h2.1.1; have n2 : ¬ (¬ inN g (nd g n) \/ ((nd g n).Kind = 10 \/ (nd g n).Kind = 11 \/ (nd g n).Kind = 12) /\ (nd g n).Scope = 0 \/ ((nd g n).Kind = 1 \/ (nd g n).Kind = 15) /\ (nd g n).Scope ≠ 0) := by
  intro hh; rcases hh with hh | hh | hh
  . exact hh hin
  all_goals omega
 rw [j2u hw h8 hl hn hin hb]; refine Ok.bind (Ok.some ?_); refine jh5 (fun h3 => Ok.some ?_) (fun h3 => ?_)
 . rw [Xc] at h3; rw [if_neg n1, if_neg n2, if_pos h3]
 rw [Xd] at h3; have n3 : ¬ (fits g n = false) := by simp [h3]
 refine jh5 (fun h4 => Ok.some ?_) (fun h4 => ?_)
 . simp only [Xf, Xb, Xc, decide_eq_true_eq, beq_iff_eq, beq_eq_false_iff_ne, ne_eq] at h4; rw [if_neg n1, if_neg n2, if_neg n3, if_pos (by omega)]
 simp only [Xe, Xa, Xd, decide_eq_false_iff_not, beq_iff_eq, beq_eq_false_iff_ne, ne_eq] at h4; have n4 : ¬ ((nd g n).Kind = 4 /\ (nd g n).Arg < 1 \/ (nd g n).Kind ≠ 4 /\ (nd g n).Kind ≠ 3 /\ (nd g n).Arg ≠ 0) := by omega
 rw [j1o]; refine Ok.bind (Ok.some ?_); refine jh5 (fun h5 => Ok.some ?_) (fun h5 => Ok.some ?_)
 . simp only [Xf, Xb, Xc, decide_eq_true_eq, beq_eq_false_iff_ne, ne_eq] at h5; rw [if_neg n1, if_neg n2, if_neg n3, if_neg n4, if_pos (h5.elim .inl fun h => .inr ⟨h.1, by have := h.2; omega⟩)]
 . simp only [Xe, Xa, Xd, decide_eq_false_iff_not, beq_iff_eq] at h5; rw [if_neg n1, if_neg n2, if_neg n3, if_neg n4, if_neg (fun hh => hh.elim (fun a => by rw [h5.1] at a; cases a) fun a => by omega)]
end
theorem q91 {g : GGraph} {n : Nat} (h : q82 g n = 0) : (1 <= (nd g n).Kind /\ (nd g n).Kind <= 15) /\ inN g (nd g n) /\ (((nd g n).Kind = 10 \/ (nd g n).Kind = 11 \/ (nd g n).Kind = 12) -> (nd g n).Scope ≠ 0) /\ (((nd g n).Kind = 1 \/ (nd g n).Kind = 15) -> (nd g n).Scope = 0) /\ fits g n = true /\
  ((nd g n).Kind = 4 -> 1 <= (nd g n).Arg) /\ ((nd g n).Kind ≠ 4 -> (nd g n).Kind ≠ 3 -> (nd g n).Arg = 0) /\ pOk (nd g n).Prog = true /\ ((nd g n).Kind ≠ 2 -> (nd g n).Prog = []) := by
 unfold q82 at h
 split at h
 . cases h
 split at h
 . cases h
 split at h
 . cases h
 split at h
 . cases h
 split at h
 . cases h
 rename_i h1 h2 h3 h4 h5
 rw [not_or] at h2 h5; have hin : inN g (nd g n) := Decidable.byContradiction h2.1; rw [not_or] at h2; refine ⟨by omega, hin, fun hk hs => h2.2.1 ⟨hk, hs⟩, fun hk => Decidable.byContradiction fun hs => h2.2.2 ⟨hk, hs⟩, by simpa using h3, by omega, by omega, by simpa using h5.1, fun hk => List.eq_nil_of_length_eq_zero (by omega)⟩
def ports (k : Int) : Int := if k = 5 \/ k = 9 then 2 else if 1 < k /\ k <= 15 then 1 else 0
theorem zq0 (k : Int) : q8u k = some (ports k) := by
 unfold q8u ports; simp only [Xf, Xb, beq_iff_eq, decide_eq_true_eq]
 split
 . rfl
 . split <;> rfl
def ed (g : GGraph) (n : Nat) : GEdge := g.Edges.getD n ⟨0, 0, 0, false⟩
theorem zn6 {g : GGraph} {n : Nat} (h : n < g.Edges.length) : g.Edges[n] = ed g n := by unfold ed; rw [List.getD_eq_getElem?_getD, List.getElem?_eq_getElem h]; rfl
def ndI (g : GGraph) (i : Int) : GNode := nd g i.toNat
def qf7 (g : GGraph) (x : GNode) : Int := if x.Kind = 10 then g.Parent.getD x.Scope.toNat 0 else x.Scope
def q95 (g : GGraph) (x : GNode) : Int := if x.Kind = 11 then g.Parent.getD x.Scope.toNat 0 else x.Scope
def z2h (k : Int) : Bool := decide (6 <= k /\ k <= 9 \/ k = 14)
def inG (g : GGraph) (i : Int) : Prop := 0 <= i /\ i < g.Nodes.length
instance (g : GGraph) (i : Int) : Decidable (inG g i) := inferInstanceAs (Decidable (_ /\ _))
def qk9 (g : GGraph) (n : Nat) : Int :=
 if ¬ (inG g (ed g n).From /\ inG g (ed g n).To) then 7
 else if (ndI g (ed g n).From).Kind = 15 \/ ¬ (0 <= (ed g n).Port /\ (ed g n).Port < ports (ndI g (ed g n).To).Kind) then 7
 else if q95 g (ndI g (ed g n).From) ≠ qf7 g (ndI g (ed g n).To) then 6
 else if (ed g n).To <= (ed g n).From /\ (ndI g (ed g n).From).Kind ≠ 12 then 8
 else if z2h (ndI g (ed g n).To).Kind = true /\ (ed g n).Exchange = false then 1
 else if (g.Edges.take n).any (fun e => e.To == (ed g n).To && e.Port == (ed g n).Port) = true then 7 else 0
theorem zq5 {s : List GEdge} {f : GEdge -> Option Bool} {p : GEdge -> Bool} (hl : s.length < 9223372036854775808) (hf : ∀ x ∈ s, f x = some (p x)) : q5y s f = some (s.any p) := qn9 hl hf
theorem j2g {l : List GEdge} (a b : Int) (hl : l.length < 1000000) : qf0 l a b = some (l.any fun e => e.To == a && e.Port == b) := by
 unfold qf0; rw [zq5 (f := fun x0_ => qd5 x0_ a b) (p := fun e => e.To == a && e.Port == b) (by omega) (fun x _ => rfl)]; rfl
section
variable {g : GGraph} (hN : ∀ n < g.Nodes.length, q82 g n = 0) (hl : g.Nodes.length < 1000000) (hE : g.Edges.length < 1000000)
include hN
theorem j20 {i : Int} (h : inG g i) : inN g (ndI g i) /\ 1 <= (ndI g i).Kind /\ (ndI g i).Kind <= 15 := by
 have := q91 (hN i.toNat (by have := h.1; have := h.2; omega)); exact ⟨this.2.1, this.1⟩
omit hN in
theorem zm4 {i : Int} (h : inG g i) : idx g.Nodes i = some (ndI g i) := qh6 _ h.1 h.2
theorem z7d {i : Int} (h : inG g i) : qd4 g (ndI g i) = some (q95 g (ndI g i)) := by
 have hs := (j20 hN h).1; unfold qd4 q95; simp only [beq_iff_eq]
 split
 . rw [qh6 0 hs.1 hs.2]; rfl
 . rfl
theorem j3j {i : Int} (h : inG g i) : qd1 g (ndI g i) = some (qf7 g (ndI g i)) := by
 have hs := (j20 hN h).1; unfold qd1 qf7; simp only [beq_iff_eq]
 split
 . rw [qh6 0 hs.1 hs.2]; rfl
 . rfl
include hE
theorem j7g {n : Nat} (hn : n < g.Edges.length) : qi1 g n = some (qk9 g n) := by
 unfold qi1 qk9; refine Ok.eq (Ok.bind (jh6 hn ?_)); rw [zn6 hn]; simp only [q2w]; refine Ok.bind (Ok.some ?_); refine jh5 (fun h1 => ?_) (fun h1 => Ok.some ?_)
 rotate_left
 . rw [if_pos]; simp only [Xa, decide_eq_false_iff_not] at h1; unfold inG; omega
 simp only [Xb, decide_eq_true_eq] at h1; refine Ok.bind (Ok.some ?_); refine jh5 (fun h2 => Ok.some ?_) (fun h2 => ?_)
 . rw [if_pos]; simp only [Xc, Xa, decide_eq_false_iff_not] at h2; unfold inG; omega
 simp only [Xd, Xb, decide_eq_true_eq] at h2; have n1 : ¬ ¬ (inG g (ed g n).From /\ inG g (ed g n).To) := by simp only [inG]; omega
 rw [zm4 h1, zm4 h2]; refine Ok.bind (Ok.some (Ok.bind (Ok.some ?_))); refine jh5 (fun h3 => Ok.some ?_) (fun h3 => ?_)
 . rw [beq_iff_eq] at h3; rw [if_neg n1, if_pos (.inl h3)]
 rw [beq_eq_false_iff_ne] at h3; rw [zq0]; refine Ok.bind (Ok.some (Ok.bind (Ok.some ?_))); refine jh5 (fun h4 => Ok.some ?_) (fun h4 => ?_)
 . simp only [Xc, Xa, decide_eq_false_iff_not] at h4; rw [if_neg n1, if_pos (by omega)]
 simp only [Xd, Xb, decide_eq_true_eq] at h4; have n2 : ¬ ((ndI g (ed g n).From).Kind = 15 \/ ¬ (0 <= (ed g n).Port /\ (ed g n).Port < ports (ndI g (ed g n).To).Kind)) := by omega
 rw [z7d hN h1, j3j hN h2]; refine Ok.bind (Ok.some (Ok.bind (Ok.some ?_))); refine jh5 (fun h5 => Ok.some ?_) (fun h5 => ?_)
 . rw [Xc, beq_eq_false_iff_ne] at h5; rw [if_neg n1, if_neg n2, if_pos h5]
 rw [Xd, beq_iff_eq] at h5; have n3 : ¬ (q95 g (ndI g (ed g n).From) ≠ qf7 g (ndI g (ed g n).To)) := by omega
 refine jh5 (fun h6 => Ok.some ?_) (fun h6 => ?_)
 . simp only [Xb, decide_eq_true_eq, Xc, beq_eq_false_iff_ne, ne_eq] at h6; rw [if_neg n1, if_neg n2, if_neg n3, if_pos h6]
 simp only [Xa, decide_eq_false_iff_not, Xd, beq_iff_eq] at h6; have n4 : ¬ ((ed g n).To <= (ed g n).From /\ (ndI g (ed g n).From).Kind ≠ 12) := by omega
 have hk : qd3 (ndI g (ed g n).To).Kind = some (z2h (ndI g (ed g n).To).Kind) := by
  unfold qd3 z2h
  congr 1
  rw [Bool.eq_iff_iff]; simp
 rw [hk]; refine Ok.bind (Ok.some ?_); refine jh5 (fun h7 => Ok.some ?_) (fun h7 => ?_)
 . simp only [Xb, Xc] at h7; rw [if_neg n1, if_neg n2, if_neg n3, if_neg n4, if_pos h7]
 have n5 : ¬ (z2h (ndI g (ed g n).To).Kind = true /\ (ed g n).Exchange = false) := by rintro ⟨a, b⟩; rw [a, b] at h7; cases h7
 refine Ok.guard (by omega) ?_; rw [Int.toNat_natCast, j2g _ _ (by rw [List.length_take]; omega)]; refine Ok.bind (Ok.some ?_); refine jh5 (fun h8 => Ok.some ?_) (fun h8 => Ok.some ?_)
 . rw [if_neg n1, if_neg n2, if_neg n3, if_neg n4, if_neg n5, if_pos h8]
 . rw [if_neg n1, if_neg n2, if_neg n3, if_neg n4, if_neg n5, if_neg (by simp [h8])]
end
end VA
end Go.Proofs.YteibkihbdgphnaaGreat
