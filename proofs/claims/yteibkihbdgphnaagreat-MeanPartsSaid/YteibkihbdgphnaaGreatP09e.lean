/-
  The law in plain words: what its plain function gives is true. No condition beyond those that each theorem names.
-/
import Derived.Test.YteibkihbdgphnaaGreatWalkMP0
import Derived.Test.YteibkihbdgphnaaGreatP09d
set_option linter.unusedSimpArgs false
set_option linter.unusedVariables false
set_option linter.unusedSectionVars false
open Nat renaming lt_or_eq_of_le -> Xa, lt_succ_iff -> Xd, zero_le -> Xe
open Bool renaming not_eq_false' -> Xb, not_eq_true' -> Xc, or_eq_false_iff -> Xg
open List renaming mem_range -> Xf, find?_eq_none -> Xh, range -> Xi
namespace Go.Proofs.YteibkihbdgphnaaGreat
open Go Go.RowKit
namespace VA
def phase (err : Nat -> Int) (N : Nat) (K : Int × Int) : Int × Int := match (Xi N).find? fun i => err i != 0 with
 | some i => (err i, (i : Int))
 | none => K
theorem z0g {err : Nat -> Int} {N i : Nat} {K : Int × Int} (h : ∀ j < i, err j = 0) (hi : i < N) (he : err i ≠ 0) : phase err N K = (err i, (i : Int)) := by
 unfold phase; have : (Xi N).find? (fun i => err i != 0) = some i := by
  rw [List.find?_range_eq_some]; exact ⟨by simpa using he, Xf.2 hi, fun j hj => by simp [h j hj]⟩
 rw [this]
theorem phase_end {err : Nat -> Int} {N : Nat} {K : Int × Int} (h : ∀ j < N, err j = 0) : phase err N K = K := by
 unfold phase; have : (Xi N).find? (fun i => err i != 0) = none := by
  rw [Xh]; intro x hx; simp [h x (Xf.1 hx)]
 rw [this]
theorem qq6 {err : Nat -> Int} {N : Nat} {K : Int × Int} (h : (phase err N K).1 = 0) : (∀ j < N, err j = 0) /\ K.1 = 0 := by
 unfold phase at h
 split at h
 .
  rename_i i hf
  have := List.find?_some hf; simp at this; exact absurd h this
 .
  rename_i hf
  rw [Xh] at hf; exact ⟨fun j hj => by simpa using hf j (Xf.2 hj), h⟩
def qg6 (g : GGraph) (s : Nat) : Int := if sOk g s = true then 0 else 6
def qe9 (g : GGraph) (n : Nat) : Int := if ports (nd g n).Kind <= z9b g n then 0 else 7
open Classical in
noncomputable def q8i (g : GGraph) (n : Nat) : Int := if (nd g n).Kind = 10 /\ Rch g (nd g n).Scope n then 8 else 0
noncomputable def chk (g : GGraph) : Int × Int :=
 if g.Parent.length < 1 \/ 8 < g.Parent.length \/ g.Bound.length ≠ g.Parent.length then (6, 0)
 else phase (qg6 g) g.Parent.length (if g.Nodes.length < 1 \/ 32 < g.Nodes.length \/ 64 < g.Edges.length then (11, 0)
  else phase (q82 g) g.Nodes.length (phase (qk9 g) g.Edges.length (phase (qe9 g) g.Nodes.length (phase (q8i g) g.Nodes.length (0, 0)))))
theorem zj2 {g : GGraph} {s : Nat} (h : qg6 g s = 0) : sOk g s = true := by
 unfold qg6 at h
 split at h
 . assumption
 . cases h
structure Good (g : GGraph) : Prop where
 pl : 1 <= g.Parent.length /\ g.Parent.length <= 8
 bl : g.Bound.length = g.Parent.length
 sc : ∀ s < g.Parent.length, sOk g s = true
 nl : 1 <= g.Nodes.length /\ g.Nodes.length <= 32
 el : g.Edges.length <= 64
 no : ∀ n < g.Nodes.length, q82 g n = 0
 ed : AllE g
 fu : ∀ n < g.Nodes.length, ports (nd g n).Kind <= z9b g n
 ag : ∀ n < g.Nodes.length, ¬ ((nd g n).Kind = 10 /\ Rch g (nd g n).Scope n)
theorem Good.wp {g : GGraph} (h : Good g) : WP g.Parent g.Parent.length := WP.of (Nat.le_refl _) h.sc
theorem zo6 {g : GGraph} : (chk g).1 = 0 ↔ Good g := by
 constructor
 .
  intro h; unfold chk at h
  split at h
  . cases h
  rename_i h1
  obtain ⟨h2, h3⟩ := qq6 h
  split at h3
  . cases h3
  rename_i h4
  obtain ⟨h5, h6⟩ := qq6 h3; obtain ⟨h7, h8⟩ := qq6 h6; obtain ⟨h9, h10⟩ := qq6 h8; obtain ⟨h11, _⟩ := qq6 h10; refine ⟨by omega, by omega, fun s hs => zj2 (h2 s hs), by omega, by omega, h5, h7, fun n hn => ?_, fun n hn => ?_⟩
  .
   have := h9 n hn; unfold qe9 at this
   split at this
   . assumption
   . cases this
  .
   have := h11 n hn; unfold q8i at this
   split at this
   . cases this
   . assumption
 . intro h; have hp := h.pl; have hb := h.bl; have hn := h.nl; have he := h.el; unfold chk; rw [if_neg (by omega), phase_end (fun j hj => by unfold qg6; rw [if_pos (h.sc j hj)]), if_neg (by omega), phase_end h.no, phase_end h.ed, phase_end (fun j hj => by unfold qe9; rw [if_pos (h.fu j hj)]), phase_end (fun j hj => by unfold q8i; rw [if_neg (h.ag j hj)])]
section
variable {g : GGraph} (hw : WP g.Parent g.Parent.length) (h8 : g.Parent.length <= 8) (hl : g.Nodes.length <= 32) (hEl : g.Edges.length <= 64)
include hw h8 hl hEl
open Classical in
theorem j0n (hN : ∀ n < g.Nodes.length, q82 g n = 0) (hE : AllE g) : q89 g = some (phase (q8i g) g.Nodes.length (0, 0)) := by
 unfold q89; refine Ok.eq (ji0 (l := g.Nodes) (by omega) (fun i => ∀ j < i, q8i g j = 0) 0 (fun rec i hi _ hI hr => ?_) (fun rec hI => ?_) (by intro j hj; omega) (Xe _))
 .
  unfold qb5; rw [if_pos (by simpa using hi)]; have hin := (q91 (hN i hi)).2.1; rw [j5c hw h8 hN hE (by omega) (by omega) hin.1 hin.2 hi rfl]; refine Ok.bind (Ok.some ?_); refine jh5 (fun h1 => Ok.some ?_) (fun h1 => ?_)
  .
   rw [decide_eq_true_eq] at h1; have : q8i g i = 8 := by unfold q8i; rw [if_pos h1]
   rw [z0g hI hi (by rw [this]; decide), this]
  .
   rw [decide_eq_false_iff_not] at h1; rw [iw hi (by omega)]; refine hr fun j hj => ?_; rcases Xa (Xd.1 hj) with h2 | rfl
   . exact hI j h2
   . unfold q8i; rw [if_neg h1]
 . unfold qb5; rw [if_neg (by simp)]; exact Ok.some (phase_end hI).symm
theorem j2e (hN : ∀ n < g.Nodes.length, q82 g n = 0) (hE : AllE g) : q8a g = some (phase (qe9 g) g.Nodes.length (phase (q8i g) g.Nodes.length (0, 0))) := by
 unfold q8a; refine Ok.eq (ji0 (l := g.Nodes) (by omega) (fun i => ∀ j < i, qe9 g j = 0) 0 (fun rec i hi _ hI hr => ?_) (fun rec hI => ?_) (by intro j hj; omega) (Xe _))
 .
  unfold qb4; rw [if_pos (by simpa using hi), j78 hE (by omega) hi]; refine Ok.bind (Ok.some ?_); refine jh5 (fun h1 => Ok.some ?_) (fun h1 => ?_)
  .
   simp only [Xc, decide_eq_false_iff_not] at h1; have : qe9 g i = 7 := by unfold qe9; rw [if_neg h1]
   rw [z0g hI hi (by rw [this]; decide), this]
  .
   simp only [Xb, decide_eq_true_eq] at h1; rw [iw hi (by omega)]; refine hr fun j hj => ?_; rcases Xa (Xd.1 hj) with h2 | rfl
   . exact hI j h2
   . unfold qe9; rw [if_pos h1]
 . unfold qb4; rw [if_neg (by simp), j0n hw h8 hl hEl hN hE]; exact Ok.some (phase_end hI).symm
theorem j2n (hN : ∀ n < g.Nodes.length, q82 g n = 0) : q8b g = some (phase (qk9 g) g.Edges.length (phase (qe9 g) g.Nodes.length (phase (q8i g) g.Nodes.length (0, 0)))) := by
 unfold q8b; refine Ok.eq (ji0 (l := g.Edges) (by omega) (fun i => ∀ j < i, qk9 g j = 0) 0 (fun rec i hi _ hI hr => ?_) (fun rec hI => ?_) (by intro j hj; omega) (Xe _))
 .
  unfold qb3; rw [if_pos (by simpa using hi), j7g hN (by omega) hi]; refine Ok.bind (Ok.some ?_); refine jh5 (fun h1 => Ok.some ?_) (fun h1 => ?_)
  . simp only [Xc, beq_eq_false_iff_ne, ne_eq] at h1; rw [z0g hI hi h1]
  .
   simp only [Xb, beq_iff_eq] at h1; rw [iw hi (by omega)]; refine hr fun j hj => ?_; rcases Xa (Xd.1 hj) with h2 | rfl
   . exact hI j h2
   . exact h1
 . unfold qb3; rw [if_neg (by simp), j2e hw h8 hl hEl hN hI]; exact Ok.some (phase_end hI).symm
end
section
variable {g : GGraph} (hw : WP g.Parent g.Parent.length) (h8 : g.Parent.length <= 8)
include hw h8
theorem j1v : q8c g = some (if g.Nodes.length < 1 \/ 32 < g.Nodes.length \/ 64 < g.Edges.length then (11, 0)
  else phase (q82 g) g.Nodes.length (phase (qk9 g) g.Edges.length (phase (qe9 g) g.Nodes.length (phase (q8i g) g.Nodes.length (0, 0))))) := by
 unfold q8c; refine Ok.eq (jh5 (fun h => Ok.some ?_) (fun h => ?_))
 . simp only [Bool.or_eq_true, decide_eq_true_eq] at h; rw [if_pos (by omega)]
 simp only [Xg, decide_eq_false_iff_not] at h; rw [if_neg (by omega)]; refine ji0 (l := g.Nodes) (by omega) (fun i => ∀ j < i, q82 g j = 0) 0 (fun rec i hi _ hI hr => ?_) (fun rec hI => ?_) (by intro j hj; omega) (Xe _)
 .
  unfold qb2; rw [if_pos (by simpa using hi), j6z hw h8 (by omega) hi (fun h0 => (q91 (hI (i - 1) (by omega))).2.1)]; refine Ok.bind (Ok.some ?_); refine jh5 (fun h1 => Ok.some ?_) (fun h1 => ?_)
  . simp only [Xc, beq_eq_false_iff_ne, ne_eq] at h1; rw [z0g hI hi h1]
  .
   simp only [Xb, beq_iff_eq] at h1; rw [iw hi (by omega)]; refine hr fun j hj => ?_; rcases Xa (Xd.1 hj) with h2 | rfl
   . exact hI j h2
   . exact h1
 . unfold qb2; rw [if_neg (by simp), j2n hw h8 (by omega) (by omega) hI]; exact Ok.some (phase_end hI).symm
end
theorem j5g (g : GGraph) : qd7 g = some (chk g) := by
 unfold qd7 chk; refine Ok.eq (jh5 (fun h => Ok.some ?_) (fun h => ?_))
 . simp only [Bool.or_eq_true, decide_eq_true_eq, Xc, beq_eq_false_iff_ne, ne_eq] at h; rw [if_pos (by omega)]
 simp only [Xg, decide_eq_false_iff_not, Xb, beq_iff_eq] at h; rw [if_neg (by omega)]; refine ji0 (l := g.Parent) (by omega) (fun i => ∀ j < i, qg6 g j = 0) 0 (fun rec i hi _ hI hr => ?_) (fun rec hI => ?_) (by intro j hj; omega) (Xe _)
 .
  unfold qb1; rw [if_pos (by simpa using hi), j3w (by omega) (by omega) hi (fun t ht => zj2 (hI t ht))]; refine Ok.bind (Ok.some ?_); refine jh5 (fun h1 => Ok.some ?_) (fun h1 => ?_)
  .
   rw [Xc] at h1; have : qg6 g i = 6 := by unfold qg6; rw [h1]; rfl
   rw [z0g hI hi (by rw [this]; decide), this]
  .
   rw [Xb] at h1; rw [iw hi (by omega)]; refine hr fun j hj => ?_; rcases Xa (Xd.1 hj) with h2 | rfl
   . exact hI j h2
   . unfold qg6; rw [if_pos h1]
 . unfold qb1; rw [if_neg (by simp), j1v (WP.of (Nat.le_refl _) fun t ht => zj2 (hI t ht)) (by omega)]; exact Ok.some (phase_end hI).symm
end VA
end Go.Proofs.YteibkihbdgphnaaGreat
