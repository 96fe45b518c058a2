/-
  The law in plain words: what its plain function gives is true. No condition beyond those that each theorem names.
-/
import Derived.Test.YteibkihbdgphnaaGreatWalkMO0
import Derived.Test.YteibkihbdgphnaaGreatP09d
set_option linter.unusedSimpArgs false
set_option linter.unusedVariables false
set_option linter.unusedSectionVars false
namespace Go.Proofs.YteibkihbdgphnaaGreat
open Go Go.RowKit
namespace VA
def phase (err : Nat → Int) (N : Nat) (K : Int × Int) : Int × Int := match (List.range N).find? fun i => err i != 0 with
 | some i => (err i, (i : Int))
 | none => K
theorem qw5 {err : Nat → Int} {N i : Nat} {K : Int × Int} (h : ∀ j < i, err j = 0) (hi : i < N) (he : err i ≠ 0) : phase err N K = (err i, (i : Int)) := by
 unfold phase; have : (List.range N).find? (fun i => err i != 0) = some i := by
  rw [List.find?_range_eq_some]; exact ⟨by simpa using he, List.mem_range.2 hi, fun j hj => by simp [h j hj]⟩
 rw [this]
theorem phase_end {err : Nat → Int} {N : Nat} {K : Int × Int} (h : ∀ j < N, err j = 0) : phase err N K = K := by
 unfold phase; have : (List.range N).find? (fun i => err i != 0) = none := by
  rw [List.find?_eq_none]; intro x hx; simp [h x (List.mem_range.1 hx)]
 rw [this]
theorem qn2 {err : Nat → Int} {N : Nat} {K : Int × Int} (h : (phase err N K).1 = 0) : (∀ j < N, err j = 0) ∧ K.1 = 0 := by
 unfold phase at h
 split at h
 ·
  rename_i i hf
  have := List.find?_some hf; simp at this; exact absurd h this
 ·
  rename_i hf
  rw [List.find?_eq_none] at hf; exact ⟨fun j hj => by simpa using hf j (List.mem_range.2 hj), h⟩
def qd2 (g : GGraph) (s : Nat) : Int := if sOk g s = true then 0 else 6
def qb1 (g : GGraph) (n : Nat) : Int := if ports (nd g n).Kind ≤ z6y g n then 0 else 7
open Classical in
noncomputable def q7q (g : GGraph) (n : Nat) : Int := if (nd g n).Kind = 10 ∧ Rch g (nd g n).Scope n then 8 else 0
noncomputable def chk (g : GGraph) : Int × Int :=
 if g.Parent.length < 1 ∨ 8 < g.Parent.length ∨ g.Bound.length ≠ g.Parent.length then (6, 0)
 else phase (qd2 g) g.Parent.length (if g.Nodes.length < 1 ∨ 32 < g.Nodes.length ∨ 64 < g.Edges.length then (11, 0)
  else phase (q79 g) g.Nodes.length (phase (qh7 g) g.Edges.length (phase (qb1 g) g.Nodes.length (phase (q7q g) g.Nodes.length (0, 0)))))
theorem zb4 {g : GGraph} {s : Nat} (h : qd2 g s = 0) : sOk g s = true := by
 unfold qd2 at h
 split at h
 · assumption
 · cases h
structure Good (g : GGraph) : Prop where
 pl : 1 ≤ g.Parent.length ∧ g.Parent.length ≤ 8
 bl : g.Bound.length = g.Parent.length
 sc : ∀ s < g.Parent.length, sOk g s = true
 nl : 1 ≤ g.Nodes.length ∧ g.Nodes.length ≤ 32
 el : g.Edges.length ≤ 64
 no : ∀ n < g.Nodes.length, q79 g n = 0
 ed : AllE g
 fu : ∀ n < g.Nodes.length, ports (nd g n).Kind ≤ z6y g n
 ag : ∀ n < g.Nodes.length, ¬ ((nd g n).Kind = 10 ∧ Rch g (nd g n).Scope n)
theorem Good.wp {g : GGraph} (h : Good g) : WP g.Parent g.Parent.length := WP.of (Nat.le_refl _) h.sc
theorem zg7 {g : GGraph} : (chk g).1 = 0 ↔ Good g := by
 constructor
 ·
  intro h; unfold chk at h
  split at h
  · cases h
  rename_i h1
  obtain ⟨h2, h3⟩ := qn2 h
  split at h3
  · cases h3
  rename_i h4
  obtain ⟨h5, h6⟩ := qn2 h3; obtain ⟨h7, h8⟩ := qn2 h6; obtain ⟨h9, h10⟩ := qn2 h8; obtain ⟨h11, _⟩ := qn2 h10; refine ⟨by omega, by omega, fun s hs => zb4 (h2 s hs), by omega, by omega, h5, h7, fun n hn => ?_, fun n hn => ?_⟩
  ·
   have := h9 n hn; unfold qb1 at this
   split at this
   · assumption
   · cases this
  ·
   have := h11 n hn; unfold q7q at this
   split at this
   · cases this
   · assumption
 · intro h; have hp := h.pl; have hb := h.bl; have hn := h.nl; have he := h.el; unfold chk; rw [if_neg (by omega), phase_end (fun j hj => by unfold qd2; rw [if_pos (h.sc j hj)]), if_neg (by omega), phase_end h.no, phase_end h.ed, phase_end (fun j hj => by unfold qb1; rw [if_pos (h.fu j hj)]), phase_end (fun j hj => by unfold q7q; rw [if_neg (h.ag j hj)])]
section
variable {g : GGraph} (hw : WP g.Parent g.Parent.length) (h8 : g.Parent.length ≤ 8) (hl : g.Nodes.length ≤ 32) (hEl : g.Edges.length ≤ 64)
include hw h8 hl hEl
open Classical in
theorem zt7 (hN : ∀ n < g.Nodes.length, q79 g n = 0) (hE : AllE g) : q7f g = some (phase (q7q g) g.Nodes.length (0, 0)) := by
 unfold q7f; refine j9o (j9r (l := g.Nodes) (by omega) (fun i => ∀ j < i, q7q g j = 0) 0 (fun rec i hi _ hI hr => ?_) (fun rec hI => ?_) (by intro j hj; omega) (Nat.zero_le _))
 ·
  unfold q9k; rw [if_pos (by simpa using hi)]; have hin := (qn3 (hN i hi)).2.1; rw [j2u hw h8 hN hE (by omega) (by omega) hin.1 hin.2 hi rfl]; refine Ok.bind (Ok.some ?_); refine j9l (fun h1 => Ok.some ?_) (fun h1 => ?_)
  ·
   rw [decide_eq_true_eq] at h1; have : q7q g i = 8 := by unfold q7q; rw [if_pos h1]
   rw [qw5 hI hi (by rw [this]; decide), this]
  ·
   rw [decide_eq_false_iff_not] at h1; rw [iw hi (by omega)]; refine hr fun j hj => ?_; rcases Nat.lt_or_eq_of_le (Nat.lt_succ_iff.1 hj) with h2 | rfl
   · exact hI j h2
   · unfold q7q; rw [if_neg h1]
 · unfold q9k; rw [if_neg (by simp)]; exact Ok.some (phase_end hI).symm
theorem zz3 (hN : ∀ n < g.Nodes.length, q79 g n = 0) (hE : AllE g) : q7g g = some (phase (qb1 g) g.Nodes.length (phase (q7q g) g.Nodes.length (0, 0))) := by
 unfold q7g; refine j9o (j9r (l := g.Nodes) (by omega) (fun i => ∀ j < i, qb1 g j = 0) 0 (fun rec i hi _ hI hr => ?_) (fun rec hI => ?_) (by intro j hj; omega) (Nat.zero_le _))
 ·
  unfold q9j; rw [if_pos (by simpa using hi), j4r hE (by omega) hi]; refine Ok.bind (Ok.some ?_); refine j9l (fun h1 => Ok.some ?_) (fun h1 => ?_)
  ·
   simp only [Bool.not_eq_true', decide_eq_false_iff_not] at h1; have : qb1 g i = 7 := by unfold qb1; rw [if_neg h1]
   rw [qw5 hI hi (by rw [this]; decide), this]
  ·
   simp only [Bool.not_eq_false', decide_eq_true_eq] at h1; rw [iw hi (by omega)]; refine hr fun j hj => ?_; rcases Nat.lt_or_eq_of_le (Nat.lt_succ_iff.1 hj) with h2 | rfl
   · exact hI j h2
   · unfold qb1; rw [if_pos h1]
 · unfold q9j; rw [if_neg (by simp), zt7 hw h8 hl hEl hN hE]; exact Ok.some (phase_end hI).symm
theorem j03 (hN : ∀ n < g.Nodes.length, q79 g n = 0) : q7h g = some (phase (qh7 g) g.Edges.length (phase (qb1 g) g.Nodes.length (phase (q7q g) g.Nodes.length (0, 0)))) := by
 unfold q7h; refine j9o (j9r (l := g.Edges) (by omega) (fun i => ∀ j < i, qh7 g j = 0) 0 (fun rec i hi _ hI hr => ?_) (fun rec hI => ?_) (by intro j hj; omega) (Nat.zero_le _))
 ·
  unfold q9i; rw [if_pos (by simpa using hi), j53 hN (by omega) hi]; refine Ok.bind (Ok.some ?_); refine j9l (fun h1 => Ok.some ?_) (fun h1 => ?_)
  · simp only [Bool.not_eq_true', beq_eq_false_iff_ne, ne_eq] at h1; rw [qw5 hI hi h1]
  ·
   simp only [Bool.not_eq_false', beq_iff_eq] at h1; rw [iw hi (by omega)]; refine hr fun j hj => ?_; rcases Nat.lt_or_eq_of_le (Nat.lt_succ_iff.1 hj) with h2 | rfl
   · exact hI j h2
   · exact h1
 · unfold q9i; rw [if_neg (by simp), zz3 hw h8 hl hEl hN hI]; exact Ok.some (phase_end hI).symm
end
section
variable {g : GGraph} (hw : WP g.Parent g.Parent.length) (h8 : g.Parent.length ≤ 8)
include hw h8
theorem zx5 : q7i g = some (if g.Nodes.length < 1 ∨ 32 < g.Nodes.length ∨ 64 < g.Edges.length then (11, 0)
  else phase (q79 g) g.Nodes.length (phase (qh7 g) g.Edges.length (phase (qb1 g) g.Nodes.length (phase (q7q g) g.Nodes.length (0, 0))))) := by
 unfold q7i; refine j9o (j9l (fun h => Ok.some ?_) (fun h => ?_))
 · simp only [Bool.or_eq_true, decide_eq_true_eq] at h; rw [if_pos (by omega)]
 simp only [Bool.or_eq_false_iff, decide_eq_false_iff_not] at h; rw [if_neg (by omega)]; refine j9r (l := g.Nodes) (by omega) (fun i => ∀ j < i, q79 g j = 0) 0 (fun rec i hi _ hI hr => ?_) (fun rec hI => ?_) (by intro j hj; omega) (Nat.zero_le _)
 ·
  unfold q9h; rw [if_pos (by simpa using hi), j4h hw h8 (by omega) hi (fun h0 => (qn3 (hI (i - 1) (by omega))).2.1)]; refine Ok.bind (Ok.some ?_); refine j9l (fun h1 => Ok.some ?_) (fun h1 => ?_)
  · simp only [Bool.not_eq_true', beq_eq_false_iff_ne, ne_eq] at h1; rw [qw5 hI hi h1]
  ·
   simp only [Bool.not_eq_false', beq_iff_eq] at h1; rw [iw hi (by omega)]; refine hr fun j hj => ?_; rcases Nat.lt_or_eq_of_le (Nat.lt_succ_iff.1 hj) with h2 | rfl
   · exact hI j h2
   · exact h1
 · unfold q9h; rw [if_neg (by simp), j03 hw h8 (by omega) (by omega) hI]; exact Ok.some (phase_end hI).symm
end
theorem j2x (g : GGraph) : q9z g = some (chk g) := by
 unfold q9z chk; refine j9o (j9l (fun h => Ok.some ?_) (fun h => ?_))
 · simp only [Bool.or_eq_true, decide_eq_true_eq, Bool.not_eq_true', beq_eq_false_iff_ne, ne_eq] at h; rw [if_pos (by omega)]
 simp only [Bool.or_eq_false_iff, decide_eq_false_iff_not, Bool.not_eq_false', beq_iff_eq] at h; rw [if_neg (by omega)]; refine j9r (l := g.Parent) (by omega) (fun i => ∀ j < i, qd2 g j = 0) 0 (fun rec i hi _ hI hr => ?_) (fun rec hI => ?_) (by intro j hj; omega) (Nat.zero_le _)
 ·
  unfold q9g; rw [if_pos (by simpa using hi), j1h (by omega) (by omega) hi (fun t ht => zb4 (hI t ht))]; refine Ok.bind (Ok.some ?_); refine j9l (fun h1 => Ok.some ?_) (fun h1 => ?_)
  ·
   rw [Bool.not_eq_true'] at h1; have : qd2 g i = 6 := by unfold qd2; rw [h1]; rfl
   rw [qw5 hI hi (by rw [this]; decide), this]
  ·
   rw [Bool.not_eq_false'] at h1; rw [iw hi (by omega)]; refine hr fun j hj => ?_; rcases Nat.lt_or_eq_of_le (Nat.lt_succ_iff.1 hj) with h2 | rfl
   · exact hI j h2
   · unfold qd2; rw [if_pos h1]
 · unfold q9g; rw [if_neg (by simp), zx5 (WP.of (Nat.le_refl _) fun t ht => zb4 (hI t ht)) (by omega)]; exact Ok.some (phase_end hI).symm
end VA
end Go.Proofs.YteibkihbdgphnaaGreat
