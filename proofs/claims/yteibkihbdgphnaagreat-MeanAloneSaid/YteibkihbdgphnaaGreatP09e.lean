/-
  The law in plain words: what its plain function gives is true. No condition beyond those that each theorem names.
-/
import Derived.Test.YteibkihbdgphnaaGreatWalkMA0
import Derived.Test.YteibkihbdgphnaaGreatP09d
set_option linter.unusedSimpArgs false
set_option linter.unusedVariables false
set_option linter.unusedSectionVars false
namespace Go.Proofs.YteibkihbdgphnaaGreat
open Go Go.RowKit
namespace VA
def phase (err : Nat → Int) (N : Nat) (K : Int × Int) : Int × Int := match (List.range N).find? fun i => err i != 0 with
 | some i => (err i, (i : Int))
 | none => K
theorem qy1 {err : Nat → Int} {N i : Nat} {K : Int × Int} (h : ∀ j < i, err j = 0) (hi : i < N) (he : err i ≠ 0) : phase err N K = (err i, (i : Int)) := by
 unfold phase; have : (List.range N).find? (fun i => err i != 0) = some i := by
  rw [List.find?_range_eq_some]; exact ⟨by simpa using he, List.mem_range.2 hi, fun j hj => by simp [h j hj]⟩
 rw [this]
theorem phase_end {err : Nat → Int} {N : Nat} {K : Int × Int} (h : ∀ j < N, err j = 0) : phase err N K = K := by
 unfold phase; have : (List.range N).find? (fun i => err i != 0) = none := by
  rw [List.find?_eq_none]; intro x hx; simp [h x (List.mem_range.1 hx)]
 rw [this]
theorem qn9 {err : Nat → Int} {N : Nat} {K : Int × Int} (h : (phase err N K).1 = 0) : (∀ j < N, err j = 0) ∧ K.1 = 0 := by
 unfold phase at h
 split at h
 ·
  rename_i i hf
  have := List.find?_some hf; simp at this; exact absurd h this
 ·
  rename_i hf
  rw [List.find?_eq_none] at hf; exact ⟨fun j hj => by simpa using hf j (List.mem_range.2 hj), h⟩
def qe3 (g : GGraph) (s : Nat) : Int := if sOk g s = true then 0 else 6
def qc9 (g : GGraph) (n : Nat) : Int := if ports (nd g n).Kind ≤ z7m g n then 0 else 7
open Classical in
noncomputable def q84 (g : GGraph) (n : Nat) : Int := if (nd g n).Kind = 10 ∧ Rch g (nd g n).Scope n then 8 else 0
noncomputable def chk (g : GGraph) : Int × Int :=
 if g.Parent.length < 1 ∨ 8 < g.Parent.length ∨ g.Bound.length ≠ g.Parent.length then (6, 0)
 else phase (qe3 g) g.Parent.length (if g.Nodes.length < 1 ∨ 32 < g.Nodes.length ∨ 64 < g.Edges.length then (11, 0)
  else phase (q7n g) g.Nodes.length (phase (qi6 g) g.Edges.length (phase (qc9 g) g.Nodes.length (phase (q84 g) g.Nodes.length (0, 0)))))
theorem zd5 {g : GGraph} {s : Nat} (h : qe3 g s = 0) : sOk g s = true := by
 unfold qe3 at h
 split at h
 · assumption
 · cases h
structure Good (g : GGraph) : Prop where
 pl : 1 ≤ g.Parent.length ∧ g.Parent.length ≤ 8
 bl : g.Bound.length = g.Parent.length
 sc : ∀ s < g.Parent.length, sOk g s = true
 nl : 1 ≤ g.Nodes.length ∧ g.Nodes.length ≤ 32
 el : g.Edges.length ≤ 64
 no : ∀ n < g.Nodes.length, q7n g n = 0
 ed : AllE g
 fu : ∀ n < g.Nodes.length, ports (nd g n).Kind ≤ z7m g n
 ag : ∀ n < g.Nodes.length, ¬ ((nd g n).Kind = 10 ∧ Rch g (nd g n).Scope n)
theorem Good.wp {g : GGraph} (h : Good g) : WP g.Parent g.Parent.length := WP.of (Nat.le_refl _) h.sc
theorem zj4 {g : GGraph} : (chk g).1 = 0 ↔ Good g := by
 constructor
 ·
  intro h; unfold chk at h
  split at h
  · cases h
  rename_i h1
  obtain ⟨h2, h3⟩ := qn9 h
  split at h3
  · cases h3
  rename_i h4
  obtain ⟨h5, h6⟩ := qn9 h3; obtain ⟨h7, h8⟩ := qn9 h6; obtain ⟨h9, h10⟩ := qn9 h8; obtain ⟨h11, _⟩ := qn9 h10; refine ⟨by omega, by omega, fun s hs => zd5 (h2 s hs), by omega, by omega, h5, h7, fun n hn => ?_, fun n hn => ?_⟩
  ·
   have := h9 n hn; unfold qc9 at this
   split at this
   · assumption
   · cases this
  ·
   have := h11 n hn; unfold q84 at this
   split at this
   · cases this
   · assumption
 · intro h; have hp := h.pl; have hb := h.bl; have hn := h.nl; have he := h.el; unfold chk; rw [if_neg (by omega), phase_end (fun j hj => by unfold qe3; rw [if_pos (h.sc j hj)]), if_neg (by omega), phase_end h.no, phase_end h.ed, phase_end (fun j hj => by unfold qc9; rw [if_pos (h.fu j hj)]), phase_end (fun j hj => by unfold q84; rw [if_neg (h.ag j hj)])]
section
variable {g : GGraph} (hw : WP g.Parent g.Parent.length) (h8 : g.Parent.length ≤ 8) (hl : g.Nodes.length ≤ 32) (hEl : g.Edges.length ≤ 64)
include hw h8 hl hEl
open Classical in
theorem zx0 (hN : ∀ n < g.Nodes.length, q7n g n = 0) (hE : AllE g) : q7t g = some (phase (q84 g) g.Nodes.length (0, 0)) := by
 unfold q7t; refine jb4 (jb7 (l := g.Nodes) (by omega) (fun i => ∀ j < i, q84 g j = 0) 0 (fun rec i hi _ hI hr => ?_) (fun rec hI => ?_) (by intro j hj; omega) (Nat.zero_le _))
 ·
  unfold q9x; rw [if_pos (by simpa using hi)]; have hin := (qo0 (hN i hi)).2.1; rw [j3q hw h8 hN hE (by omega) (by omega) hin.1 hin.2 hi rfl]; refine Ok.bind (Ok.some ?_); refine jb1 (fun h1 => Ok.some ?_) (fun h1 => ?_)
  ·
   rw [decide_eq_true_eq] at h1; have : q84 g i = 8 := by unfold q84; rw [if_pos h1]
   rw [qy1 hI hi (by rw [this]; decide), this]
  ·
   rw [decide_eq_false_iff_not] at h1; rw [iw hi (by omega)]; refine hr fun j hj => ?_; rcases Nat.lt_or_eq_of_le (Nat.lt_succ_iff.1 hj) with h2 | rfl
   · exact hI j h2
   · unfold q84; rw [if_neg h1]
 · unfold q9x; rw [if_neg (by simp)]; exact Ok.some (phase_end hI).symm
theorem j0t (hN : ∀ n < g.Nodes.length, q7n g n = 0) (hE : AllE g) : q7u g = some (phase (qc9 g) g.Nodes.length (phase (q84 g) g.Nodes.length (0, 0))) := by
 unfold q7u; refine jb4 (jb7 (l := g.Nodes) (by omega) (fun i => ∀ j < i, qc9 g j = 0) 0 (fun rec i hi _ hI hr => ?_) (fun rec hI => ?_) (by intro j hj; omega) (Nat.zero_le _))
 ·
  unfold q9w; rw [if_pos (by simpa using hi), j5m hE (by omega) hi]; refine Ok.bind (Ok.some ?_); refine jb1 (fun h1 => Ok.some ?_) (fun h1 => ?_)
  ·
   simp only [Bool.not_eq_true', decide_eq_false_iff_not] at h1; have : qc9 g i = 7 := by unfold qc9; rw [if_neg h1]
   rw [qy1 hI hi (by rw [this]; decide), this]
  ·
   simp only [Bool.not_eq_false', decide_eq_true_eq] at h1; rw [iw hi (by omega)]; refine hr fun j hj => ?_; rcases Nat.lt_or_eq_of_le (Nat.lt_succ_iff.1 hj) with h2 | rfl
   · exact hI j h2
   · unfold qc9; rw [if_pos h1]
 · unfold q9w; rw [if_neg (by simp), zx0 hw h8 hl hEl hN hE]; exact Ok.some (phase_end hI).symm
theorem j17 (hN : ∀ n < g.Nodes.length, q7n g n = 0) : q7v g = some (phase (qi6 g) g.Edges.length (phase (qc9 g) g.Nodes.length (phase (q84 g) g.Nodes.length (0, 0)))) := by
 unfold q7v; refine jb4 (jb7 (l := g.Edges) (by omega) (fun i => ∀ j < i, qi6 g j = 0) 0 (fun rec i hi _ hI hr => ?_) (fun rec hI => ?_) (by intro j hj; omega) (Nat.zero_le _))
 ·
  unfold q9v; rw [if_pos (by simpa using hi), j5v hN (by omega) hi]; refine Ok.bind (Ok.some ?_); refine jb1 (fun h1 => Ok.some ?_) (fun h1 => ?_)
  · simp only [Bool.not_eq_true', beq_eq_false_iff_ne, ne_eq] at h1; rw [qy1 hI hi h1]
  ·
   simp only [Bool.not_eq_false', beq_iff_eq] at h1; rw [iw hi (by omega)]; refine hr fun j hj => ?_; rcases Nat.lt_or_eq_of_le (Nat.lt_succ_iff.1 hj) with h2 | rfl
   · exact hI j h2
   · exact h1
 · unfold q9v; rw [if_neg (by simp), j0t hw h8 hl hEl hN hI]; exact Ok.some (phase_end hI).symm
end
section
variable {g : GGraph} (hw : WP g.Parent g.Parent.length) (h8 : g.Parent.length ≤ 8)
include hw h8
theorem j0a : q7w g = some (if g.Nodes.length < 1 ∨ 32 < g.Nodes.length ∨ 64 < g.Edges.length then (11, 0)
  else phase (q7n g) g.Nodes.length (phase (qi6 g) g.Edges.length (phase (qc9 g) g.Nodes.length (phase (q84 g) g.Nodes.length (0, 0))))) := by
 unfold q7w; refine jb4 (jb1 (fun h => Ok.some ?_) (fun h => ?_))
 · simp only [Bool.or_eq_true, decide_eq_true_eq] at h; rw [if_pos (by omega)]
 simp only [Bool.or_eq_false_iff, decide_eq_false_iff_not] at h; rw [if_neg (by omega)]; refine jb7 (l := g.Nodes) (by omega) (fun i => ∀ j < i, q7n g j = 0) 0 (fun rec i hi _ hI hr => ?_) (fun rec hI => ?_) (by intro j hj; omega) (Nat.zero_le _)
 ·
  unfold q9u; rw [if_pos (by simpa using hi), j5b hw h8 (by omega) hi (fun h0 => (qo0 (hI (i - 1) (by omega))).2.1)]; refine Ok.bind (Ok.some ?_); refine jb1 (fun h1 => Ok.some ?_) (fun h1 => ?_)
  · simp only [Bool.not_eq_true', beq_eq_false_iff_ne, ne_eq] at h1; rw [qy1 hI hi h1]
  ·
   simp only [Bool.not_eq_false', beq_iff_eq] at h1; rw [iw hi (by omega)]; refine hr fun j hj => ?_; rcases Nat.lt_or_eq_of_le (Nat.lt_succ_iff.1 hj) with h2 | rfl
   · exact hI j h2
   · exact h1
 · unfold q9u; rw [if_neg (by simp), j17 hw h8 (by omega) (by omega) hI]; exact Ok.some (phase_end hI).symm
end
theorem j3s (g : GGraph) : qb1 g = some (chk g) := by
 unfold qb1 chk; refine jb4 (jb1 (fun h => Ok.some ?_) (fun h => ?_))
 · simp only [Bool.or_eq_true, decide_eq_true_eq, Bool.not_eq_true', beq_eq_false_iff_ne, ne_eq] at h; rw [if_pos (by omega)]
 simp only [Bool.or_eq_false_iff, decide_eq_false_iff_not, Bool.not_eq_false', beq_iff_eq] at h; rw [if_neg (by omega)]; refine jb7 (l := g.Parent) (by omega) (fun i => ∀ j < i, qe3 g j = 0) 0 (fun rec i hi _ hI hr => ?_) (fun rec hI => ?_) (by intro j hj; omega) (Nat.zero_le _)
 ·
  unfold q9t; rw [if_pos (by simpa using hi), j2g (by omega) (by omega) hi (fun t ht => zd5 (hI t ht))]; refine Ok.bind (Ok.some ?_); refine jb1 (fun h1 => Ok.some ?_) (fun h1 => ?_)
  ·
   rw [Bool.not_eq_true'] at h1; have : qe3 g i = 6 := by unfold qe3; rw [h1]; rfl
   rw [qy1 hI hi (by rw [this]; decide), this]
  ·
   rw [Bool.not_eq_false'] at h1; rw [iw hi (by omega)]; refine hr fun j hj => ?_; rcases Nat.lt_or_eq_of_le (Nat.lt_succ_iff.1 hj) with h2 | rfl
   · exact hI j h2
   · unfold qe3; rw [if_pos h1]
 · unfold q9t; rw [if_neg (by simp), j0a (WP.of (Nat.le_refl _) fun t ht => zd5 (hI t ht)) (by omega)]; exact Ok.some (phase_end hI).symm
end VA
end Go.Proofs.YteibkihbdgphnaaGreat
