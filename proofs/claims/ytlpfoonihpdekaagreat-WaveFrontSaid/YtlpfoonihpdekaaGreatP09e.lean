/-
  The law in plain words: what its plain function gives is true. No condition beyond those that each theorem names.
-/
import Derived.Test.YtlpfoonihpdekaaGreatWalkWF0
import Derived.Test.YtlpfoonihpdekaaGreatP09d
set_option linter.unusedSimpArgs false
set_option linter.unusedVariables false
set_option linter.unusedSectionVars false
namespace Go.Proofs.YtlpfoonihpdekaaGreat
open Go Go.RowKit
namespace VA
def phase (err : Nat → Int) (N : Nat) (K : Int × Int) : Int × Int := match (List.range N).find? fun i => err i != 0 with
 | some i => (err i, (i : Int))
 | none => K
theorem qb0 {err : Nat → Int} {N i : Nat} {K : Int × Int} (h : ∀ j < i, err j = 0) (hi : i < N) (he : err i ≠ 0) : phase err N K = (err i, (i : Int)) := by
 unfold phase; have : (List.range N).find? (fun i => err i != 0) = some i := by
  rw [List.find?_range_eq_some]; exact ⟨by simpa using he, List.mem_range.2 hi, fun j hj => by simp [h j hj]⟩
 rw [this]
theorem phase_end {err : Nat → Int} {N : Nat} {K : Int × Int} (h : ∀ j < N, err j = 0) : phase err N K = K := by
 unfold phase; have : (List.range N).find? (fun i => err i != 0) = none := by
  rw [List.find?_eq_none]; intro x hx; simp [h x (List.mem_range.1 hx)]
 rw [this]
theorem qt4 {err : Nat → Int} {N : Nat} {K : Int × Int} (h : (phase err N K).1 = 0) : (∀ j < N, err j = 0) ∧ K.1 = 0 := by
 unfold phase at h
 split at h
 ·
  rename_i i hf
  have := List.find?_some hf; simp at this; exact absurd h this
 ·
  rename_i hf
  rw [List.find?_eq_none] at hf; exact ⟨fun j hj => by simpa using hf j (List.mem_range.2 hj), h⟩
def q7e (g : GGraph) (s : Nat) : Int := if sOk g s = true then 0 else 6
def q55 (g : GGraph) (n : Nat) : Int := if ports (nd g n).Kind ≤ z7b g n then 0 else 7
open Classical in
noncomputable def q2s (g : GGraph) (n : Nat) : Int := if (nd g n).Kind = 10 ∧ Rch g (nd g n).Scope n then 8 else 0
noncomputable def chk (g : GGraph) : Int × Int :=
 if g.Parent.length < 1 ∨ 8 < g.Parent.length ∨ g.Bound.length ≠ g.Parent.length then (6, 0)
 else phase (q7e g) g.Parent.length (if g.Nodes.length < 1 ∨ 32 < g.Nodes.length ∨ 64 < g.Edges.length then (11, 0)
  else phase (q2h g) g.Nodes.length (phase (q7h g) g.Edges.length (phase (q55 g) g.Nodes.length (phase (q2s g) g.Nodes.length (0, 0)))))
theorem z5r {g : GGraph} {s : Nat} (h : q7e g s = 0) : sOk g s = true := by
 unfold q7e at h
 split at h
 · assumption
 · cases h
structure Good (g : GGraph) : Prop where
 pl : 1 ≤ g.Parent.length ∧ g.Parent.length ≤ 8
 bl : g.Bound.length = g.Parent.length
 sc : ∀ s < g.Parent.length, sOk g s = true
 nl : 1 ≤ g.Nodes.length ∧ g.Nodes.length ≤ 32
 el : g.Edges.length ≤ 64
 no : ∀ n < g.Nodes.length, q2h g n = 0
 ed : AllE g
 fu : ∀ n < g.Nodes.length, ports (nd g n).Kind ≤ z7b g n
 ag : ∀ n < g.Nodes.length, ¬ ((nd g n).Kind = 10 ∧ Rch g (nd g n).Scope n)
theorem Good.wp {g : GGraph} (h : Good g) : WP g.Parent g.Parent.length := WP.of (Nat.le_refl _) h.sc
theorem z1p {g : GGraph} : (chk g).1 = 0 ↔ Good g := by
 constructor
 ·
  intro h; unfold chk at h
  split at h
  · cases h
  rename_i h1
  obtain ⟨h2, h3⟩ := qt4 h
  split at h3
  · cases h3
  rename_i h4
  obtain ⟨h5, h6⟩ := qt4 h3; obtain ⟨h7, h8⟩ := qt4 h6; obtain ⟨h9, h10⟩ := qt4 h8; obtain ⟨h11, _⟩ := qt4 h10; refine ⟨by omega, by omega, fun s hs => z5r (h2 s hs), by omega, by omega, h5, h7, fun n hn => ?_, fun n hn => ?_⟩
  ·
   have := h9 n hn; unfold q55 at this
   split at this
   · assumption
   · cases this
  ·
   have := h11 n hn; unfold q2s at this
   split at this
   · cases this
   · assumption
 · intro h; have hp := h.pl; have hb := h.bl; have hn := h.nl; have he := h.el; unfold chk; rw [if_neg (by omega), phase_end (fun j hj => by unfold q7e; rw [if_pos (h.sc j hj)]), if_neg (by omega), phase_end h.no, phase_end h.ed, phase_end (fun j hj => by unfold q55; rw [if_pos (h.fu j hj)]), phase_end (fun j hj => by unfold q2s; rw [if_neg (h.ag j hj)])]
section
variable {g : GGraph} (hw : WP g.Parent g.Parent.length) (h8 : g.Parent.length ≤ 8) (hl : g.Nodes.length ≤ 32) (hEl : g.Edges.length ≤ 64)
include hw h8 hl hEl
open Classical in
theorem zx0 (hN : ∀ n < g.Nodes.length, q2h g n = 0) (hE : AllE g) : q94 g = some (phase (q2s g) g.Nodes.length (0, 0)) := by
 unfold q94; refine ja2 (ja5 (l := g.Nodes) (by omega) (fun i => ∀ j < i, q2s g j = 0) 0 (fun rec i hi _ hI hr => ?_) (fun rec hI => ?_) (by intro j hj; omega) (Nat.zero_le _))
 ·
  unfold qg2; rw [if_pos (by simpa using hi)]; have hin := (qn1 (hN i hi)).2.1; rw [j2z hw h8 hN hE (by omega) (by omega) hin.1 hin.2 hi rfl]; refine Ok.bind (Ok.some ?_); refine j9z (fun h1 => Ok.some ?_) (fun h1 => ?_)
  ·
   rw [decide_eq_true_eq] at h1; have : q2s g i = 8 := by unfold q2s; rw [if_pos h1]
   rw [qb0 hI hi (by rw [this]; decide), this]
  ·
   rw [decide_eq_false_iff_not] at h1; rw [iw hi (by omega)]; refine hr fun j hj => ?_; rcases Nat.lt_or_eq_of_le (Nat.lt_succ_iff.1 hj) with h2 | rfl
   · exact hI j h2
   · unfold q2s; rw [if_neg h1]
 · unfold qg2; rw [if_neg (by simp)]; exact Ok.some (phase_end hI).symm
open Classical in
theorem zo1 (hN : ∀ n < g.Nodes.length, q2h g n = 0) (hE : AllE g) : q4a g = some (phase (q2s g) g.Nodes.length (0, 0)) := by
 unfold q4a; refine ja2 (ja5 (l := g.Nodes) (by omega) (fun i => ∀ j < i, q2s g j = 0) 0 (fun rec i hi _ hI hr => ?_) (fun rec hI => ?_) (by intro j hj; omega) (Nat.zero_le _))
 ·
  unfold q6p; rw [if_pos (by simpa using hi)]; refine Ok.bind (ja0 hi ?_); rw [qe1 hi]; have hin := (qn1 (hN i hi)).2.1; rw [iw hi (by omega)]; have hno : ¬ ((nd g i).Kind = 10 ∧ Rch g (nd g i).Scope i) → Ok (rec ((i + 1 : Nat) : Int)) (fun r => r = phase (q2s g) g.Nodes.length (0, 0)) := fun h1 => by
   refine hr fun j hj => ?_; rcases Nat.lt_or_eq_of_le (Nat.lt_succ_iff.1 hj) with h2 | rfl
   · exact hI j h2
   · unfold q2s; rw [if_neg h1]
  refine j9z (fun h1 => ?_) (fun h1 => ?_)
  ·
   rw [beq_iff_eq] at h1; refine j9y (j34 hw h8 hN hE (by omega) (by omega) hin.1 hin.2) fun b hb => ?_; refine j9y (Ok.idx' (i := (i : Int)) (l := b) (by omega) (by omega) (Q := fun x => x = atB b i) fun x hx => getD_some hx) ?_; rintro x rfl; refine j9z (fun h2 => Ok.some ?_) (fun h2 => hno fun hh => ?_)
   ·
    have hc := (hb.2 i (by omega)).1 h2; have : q2s g i = 8 := by unfold q2s; rw [if_pos ⟨h1, hc⟩]
    rw [qb0 hI hi (by rw [this]; decide), this]
   · rw [(hb.2 i (by omega)).2 hh.2] at h2; cases h2
  · rw [beq_eq_false_iff_ne] at h1; exact hno fun hh => h1 hh.1
 · unfold q6p; rw [if_neg (by simp)]; exact Ok.some (phase_end hI).symm
theorem j05 (hN : ∀ n < g.Nodes.length, q2h g n = 0) (hE : AllE g) : q95 g = some (phase (q55 g) g.Nodes.length (phase (q2s g) g.Nodes.length (0, 0))) := by
 unfold q95; refine ja2 (ja5 (l := g.Nodes) (by omega) (fun i => ∀ j < i, q55 g j = 0) 0 (fun rec i hi _ hI hr => ?_) (fun rec hI => ?_) (by intro j hj; omega) (Nat.zero_le _))
 ·
  unfold qg1; rw [if_pos (by simpa using hi), j50 hE (by omega) hi]; refine Ok.bind (Ok.some ?_); refine j9z (fun h1 => Ok.some ?_) (fun h1 => ?_)
  ·
   simp only [Bool.not_eq_true', decide_eq_false_iff_not] at h1; have : q55 g i = 7 := by unfold q55; rw [if_neg h1]
   rw [qb0 hI hi (by rw [this]; decide), this]
  ·
   simp only [Bool.not_eq_false', decide_eq_true_eq] at h1; rw [iw hi (by omega)]; refine hr fun j hj => ?_; rcases Nat.lt_or_eq_of_le (Nat.lt_succ_iff.1 hj) with h2 | rfl
   · exact hI j h2
   · unfold q55; rw [if_pos h1]
 · unfold qg1; rw [if_neg (by simp), zx0 hw h8 hl hEl hN hE]; exact Ok.some (phase_end hI).symm
theorem zt6 (hN : ∀ n < g.Nodes.length, q2h g n = 0) (hE : AllE g) : q4b g = some (phase (q55 g) g.Nodes.length (phase (q2s g) g.Nodes.length (0, 0))) := by
 unfold q4b; refine ja2 (ja5 (l := g.Nodes) (by omega) (fun i => ∀ j < i, q55 g j = 0) 0 (fun rec i hi _ hI hr => ?_) (fun rec hI => ?_) (by intro j hj; omega) (Nat.zero_le _))
 ·
  unfold q4e; rw [if_pos (by simpa using hi)]; refine q3k (l := g.Edges) (by omega) (fun j (c : Int) => (c, j)) (fun p => p.2) (fun _ _ => rfl) (fun j c => c = (((g.Edges.take j).filter fun e => e.To == (i : Int)).length : Int)) 0 (fun rec' j hj c _ hc hr' => ?_) (fun rec' c hc => ?_) (by simp) (Nat.zero_le _)
  ·
   unfold q6o; dsimp only; rw [if_pos (by simpa using hj)]; refine Ok.bind (ja0 hj ?_); have hle : ((g.Edges.take j).filter fun e => e.To == (i : Int)).length ≤ (g.Edges.take j).length := List.length_filter_le _ _; rw [List.length_take] at hle; have hs : (g.Edges.take (j + 1)).filter (fun e => e.To == (i : Int)) = (g.Edges.take j).filter (fun e => e.To == (i : Int)) ++ if (g.Edges[j].To == (i : Int)) = true then [g.Edges[j]] else [] := by
    rw [List.take_succ_eq_append_getElem hj, List.filter_append, List.filter_cons, List.filter_nil]
   rw [iw hj (by omega)]; refine j9z (fun h1 => ?_) (fun h1 => ?_)
   · rw [wrap_i64 _ (by omega)]; refine hr' _ ?_; rw [hs, if_pos h1, hc]; simp
   · refine hr' _ ?_; rw [hs, if_neg (by simp [h1]), hc]; simp
  ·
   unfold q6o; dsimp only; rw [if_neg (by simp)]; rw [List.take_length] at hc; unfold q6m; refine Ok.bind (ja0 hi ?_); rw [qe1 hi, zc7]; refine Ok.bind (Ok.some ?_); have hcc : c = (z7b g i : Int) := hc; rw [hcc]; refine j9z (fun h1 => Ok.some ?_) (fun h1 => ?_)
   ·
    simp only [decide_eq_true_eq] at h1; have : q55 g i = 7 := by unfold q55; rw [if_neg (by omega)]
    rw [qb0 hI hi (by rw [this]; decide), this]
   ·
    simp only [decide_eq_false_iff_not] at h1; rw [iw hi (by omega)]; refine hr fun j hj => ?_; rcases Nat.lt_or_eq_of_le (Nat.lt_succ_iff.1 hj) with h2 | rfl
    · exact hI j h2
    · unfold q55; rw [if_pos (by omega)]
 · unfold q4e; rw [if_neg (by simp), zo1 hw h8 hl hEl hN hE]; exact Ok.some (phase_end hI).symm
theorem j0e (hN : ∀ n < g.Nodes.length, q2h g n = 0) : q96 g = some (phase (q7h g) g.Edges.length (phase (q55 g) g.Nodes.length (phase (q2s g) g.Nodes.length (0, 0)))) := by
 unfold q96; refine ja2 (ja5 (l := g.Edges) (by omega) (fun i => ∀ j < i, q7h g j = 0) 0 (fun rec i hi _ hI hr => ?_) (fun rec hI => ?_) (by intro j hj; omega) (Nat.zero_le _))
 ·
  unfold qg0; rw [if_pos (by simpa using hi), j5b hN (by omega) hi]; refine Ok.bind (Ok.some ?_); refine j9z (fun h1 => Ok.some ?_) (fun h1 => ?_)
  · simp only [Bool.not_eq_true', beq_eq_false_iff_ne, ne_eq] at h1; rw [qb0 hI hi h1]
  ·
   simp only [Bool.not_eq_false', beq_iff_eq] at h1; rw [iw hi (by omega)]; refine hr fun j hj => ?_; rcases Nat.lt_or_eq_of_le (Nat.lt_succ_iff.1 hj) with h2 | rfl
   · exact hI j h2
   · exact h1
 · unfold qg0; rw [if_neg (by simp), j05 hw h8 hl hEl hN hI]; exact Ok.some (phase_end hI).symm
theorem zt7 (hN : ∀ n < g.Nodes.length, q2h g n = 0) : q4c g = some (phase (q7h g) g.Edges.length (phase (q55 g) g.Nodes.length (phase (q2s g) g.Nodes.length (0, 0)))) := by
 unfold q4c; refine ja2 (ja5 (l := g.Edges) (by omega) (fun i => ∀ j < i, q7h g j = 0) 0 (fun rec i hi _ hI hr => ?_) (fun rec hI => ?_) (by intro j hj; omega) (Nat.zero_le _))
 ·
  unfold q6n; rw [if_pos (by simpa using hi), j1y hN (by omega) hi]; refine Ok.bind (Ok.some ?_); refine j9z (fun h1 => Ok.some ?_) (fun h1 => ?_)
  · simp only [Bool.not_eq_true', beq_eq_false_iff_ne, ne_eq] at h1; rw [qb0 hI hi h1]
  ·
   simp only [Bool.not_eq_false', beq_iff_eq] at h1; rw [iw hi (by omega)]; refine hr fun j hj => ?_; rcases Nat.lt_or_eq_of_le (Nat.lt_succ_iff.1 hj) with h2 | rfl
   · exact hI j h2
   · exact h1
 · unfold q6n; rw [if_neg (by simp), zt6 hw h8 hl hEl hN hI]; exact Ok.some (phase_end hI).symm
end
section
variable {g : GGraph} (hw : WP g.Parent g.Parent.length) (h8 : g.Parent.length ≤ 8)
include hw h8
theorem zz7 : q97 g = some (if g.Nodes.length < 1 ∨ 32 < g.Nodes.length ∨ 64 < g.Edges.length then (11, 0)
  else phase (q2h g) g.Nodes.length (phase (q7h g) g.Edges.length (phase (q55 g) g.Nodes.length (phase (q2s g) g.Nodes.length (0, 0))))) := by
 unfold q97; refine ja2 (j9z (fun h => Ok.some ?_) (fun h => ?_))
 · simp only [Bool.or_eq_true, decide_eq_true_eq] at h; rw [if_pos (by omega)]
 simp only [Bool.or_eq_false_iff, decide_eq_false_iff_not] at h; rw [if_neg (by omega)]; refine ja5 (l := g.Nodes) (by omega) (fun i => ∀ j < i, q2h g j = 0) 0 (fun rec i hi _ hI hr => ?_) (fun rec hI => ?_) (by intro j hj; omega) (Nat.zero_le _)
 ·
  unfold qf9; rw [if_pos (by simpa using hi), j4t hw h8 (by omega) hi (fun h0 => (qn1 (hI (i - 1) (by omega))).2.1)]; refine Ok.bind (Ok.some ?_); refine j9z (fun h1 => Ok.some ?_) (fun h1 => ?_)
  · simp only [Bool.not_eq_true', beq_eq_false_iff_ne, ne_eq] at h1; rw [qb0 hI hi h1]
  ·
   simp only [Bool.not_eq_false', beq_iff_eq] at h1; rw [iw hi (by omega)]; refine hr fun j hj => ?_; rcases Nat.lt_or_eq_of_le (Nat.lt_succ_iff.1 hj) with h2 | rfl
   · exact hI j h2
   · exact h1
 · unfold qf9; rw [if_neg (by simp), j0e hw h8 (by omega) (by omega) hI]; exact Ok.some (phase_end hI).symm
theorem zt5 (hp : ∀ x ∈ g.Nodes, x.Prog.length < 1000000000) : q4d g = some (if g.Nodes.length < 1 ∨ 32 < g.Nodes.length ∨ 64 < g.Edges.length then (11, 0)
  else phase (q2h g) g.Nodes.length (phase (q7h g) g.Edges.length (phase (q55 g) g.Nodes.length (phase (q2s g) g.Nodes.length (0, 0))))) := by
 unfold q4d; refine ja2 (j9z (fun h => Ok.some ?_) (fun h => ?_))
 · simp only [Bool.or_eq_true, decide_eq_true_eq, beq_iff_eq] at h; rw [if_pos (by omega)]
 simp only [Bool.or_eq_false_iff, decide_eq_false_iff_not, beq_eq_false_iff_ne, ne_eq] at h; rw [if_neg (by omega)]; refine ja5 (l := g.Nodes) (by omega) (fun i => ∀ j < i, q2h g j = 0) 0 (fun rec i hi _ hI hr => ?_) (fun rec hI => ?_) (by intro j hj; omega) (Nat.zero_le _)
 ·
  unfold q63; rw [if_pos (by simpa using hi), j1v hw h8 (by omega) hi (fun h0 => (qn1 (hI (i - 1) (by omega))).2.1) (by rw [← qe1 hi]; exact hp _ (List.getElem_mem hi))]; refine Ok.bind (Ok.some ?_); refine j9z (fun h1 => Ok.some ?_) (fun h1 => ?_)
  · simp only [Bool.not_eq_true', beq_eq_false_iff_ne, ne_eq] at h1; rw [qb0 hI hi h1]
  ·
   simp only [Bool.not_eq_false', beq_iff_eq] at h1; rw [iw hi (by omega)]; refine hr fun j hj => ?_; rcases Nat.lt_or_eq_of_le (Nat.lt_succ_iff.1 hj) with h2 | rfl
   · exact hI j h2
   · exact h1
 · unfold q63; rw [if_neg (by simp), zt7 hw h8 (by omega) (by omega) hI]; exact Ok.some (phase_end hI).symm
end
theorem z8d (g : GGraph) : q8i g = some (chk g) := by
 unfold q8i chk; refine ja2 (j9z (fun h => Ok.some ?_) (fun h => ?_))
 · simp only [Bool.or_eq_true, decide_eq_true_eq, Bool.not_eq_true', beq_eq_false_iff_ne, ne_eq] at h; rw [if_pos (by omega)]
 simp only [Bool.or_eq_false_iff, decide_eq_false_iff_not, Bool.not_eq_false', beq_iff_eq] at h; rw [if_neg (by omega)]; refine ja5 (l := g.Parent) (by omega) (fun i => ∀ j < i, q7e g j = 0) 0 (fun rec i hi _ hI hr => ?_) (fun rec hI => ?_) (by intro j hj; omega) (Nat.zero_le _)
 ·
  unfold qf8; rw [if_pos (by simpa using hi), j1t (by omega) (by omega) hi (fun t ht => z5r (hI t ht))]; refine Ok.bind (Ok.some ?_); refine j9z (fun h1 => Ok.some ?_) (fun h1 => ?_)
  ·
   rw [Bool.not_eq_true'] at h1; have : q7e g i = 6 := by unfold q7e; rw [h1]; rfl
   rw [qb0 hI hi (by rw [this]; decide), this]
  ·
   rw [Bool.not_eq_false'] at h1; rw [iw hi (by omega)]; refine hr fun j hj => ?_; rcases Nat.lt_or_eq_of_le (Nat.lt_succ_iff.1 hj) with h2 | rfl
   · exact hI j h2
   · unfold q7e; rw [if_pos h1]
 · unfold qf8; rw [if_neg (by simp), zz7 (WP.of (Nat.le_refl _) fun t ht => z5r (hI t ht)) (by omega)]; exact Ok.some (phase_end hI).symm
theorem zz4 (g : GGraph) (hp : ∀ x ∈ g.Nodes, x.Prog.length < 1000000000) : q3y g = some (chk g) := by
 unfold q3y chk; refine ja2 (j9z (fun h => Ok.some ?_) (fun h => ?_))
 · simp only [Bool.or_eq_true, decide_eq_true_eq, beq_iff_eq, Bool.not_eq_true', beq_eq_false_iff_ne, ne_eq] at h; rw [if_pos (by omega)]
 simp only [Bool.or_eq_false_iff, decide_eq_false_iff_not, Bool.not_eq_false', beq_iff_eq, beq_eq_false_iff_ne, ne_eq] at h; rw [if_neg (by omega)]; refine ja5 (l := g.Parent) (by omega) (fun i => ∀ j < i, q7e g j = 0) 0 (fun rec i hi _ hI hr => ?_) (fun rec hI => ?_) (by intro j hj; omega) (Nat.zero_le _)
 ·
  have hw := WP.of (m := i) (by omega) fun t ht => z5r (hI t ht); unfold q2t; rw [if_pos (by simpa using hi)]; have hJ : ∀ b : Bool, b = sOk g i → Ok (if (!b) = true then some (6, (i : Int)) else rec (IntKind.i64.wrap ((i : Int) + 1))) (fun r => r = phase (q7e g) g.Parent.length (if g.Nodes.length < 1 ∨ 32 < g.Nodes.length ∨ 64 < g.Edges.length then (11, 0)
    else phase (q2h g) g.Nodes.length (phase (q7h g) g.Edges.length (phase (q55 g) g.Nodes.length (phase (q2s g) g.Nodes.length (0, 0)))))) := fun b hb => by
   subst hb; refine j9z (fun h1 => Ok.some ?_) (fun h1 => ?_)
   ·
    rw [Bool.not_eq_true'] at h1; have : q7e g i = 6 := by unfold q7e; rw [h1]; rfl
    rw [qb0 hI hi (by rw [this]; decide), this]
   ·
    rw [Bool.not_eq_false'] at h1; rw [iw hi (by omega)]; refine hr fun j hj => ?_; rcases Nat.lt_or_eq_of_le (Nat.lt_succ_iff.1 hj) with h2 | rfl
    · exact hI j h2
    · unfold q7e; rw [if_pos h1]
  refine j9y (Ok.idx' (i := (i : Int)) (by omega) (by omega) (Q := fun x => x = g.Parent.getD i 0) fun x hx => getD_some hx) ?_; rintro x rfl; have hbd : ∀ {Q : Int → Prop}, Q (g.Bound.getD i 0) → Ok (idx g.Bound (i : Int)) Q := fun {Q} hq => Ok.idx' (by omega) (by omega) fun x hx => by rw [show x = g.Bound.getD i 0 from getD_some hx]; exact hq
  by_cases hz : i = 0
  ·
   subst hz; have hs0 : sOk g 0 = (g.Parent.getD 0 0 == -1 && g.Bound.getD 0 0 == 0) := rfl; refine j9z (fun h1 => ?_) (fun h1 => ?_)
   · refine Ok.bind (hbd ?_); rw [if_neg (by simp)]; exact hJ _ (by rw [hs0, h1]; rfl)
   · rw [if_neg (by simp)]; exact hJ _ (by rw [hs0, h1]; rfl)
  ·
   have hsi : sOk g i = (decide (0 ≤ g.Parent.getD i 0 ∧ g.Parent.getD i 0 < i ∧ 1 ≤ g.Bound.getD i 0 ∧ g.Bound.getD i 0 ≤ 64) && decide ((anc g.Parent i).length ≤ 4)) := by unfold sOk; rw [if_neg hz]
   have hpos : decide (0 < (i : Int)) = true := by rw [decide_eq_true_eq]; omega
   refine j9z (fun h1 => ?_) (fun h1 => ?_)
   · rw [beq_iff_eq] at h1; refine Ok.bind (hbd ?_); rw [if_pos hpos, if_neg (by rw [h1]; simp)]; exact hJ _ (by rw [hsi, decide_eq_false (by omega)]; rfl)
   ·
    rw [if_pos hpos]; refine j9z (fun h2 => ?_) (fun h2 => ?_)
    ·
     rw [decide_eq_true_eq] at h2; refine j9z (fun h3 => ?_) (fun h3 => ?_)
     ·
      rw [decide_eq_true_eq] at h3; refine Ok.bind (hbd ?_); refine j9z (fun h4 => ?_) (fun h4 => ?_)
      ·
       rw [decide_eq_true_eq] at h4; refine j9z (fun h5 => ?_) (fun h5 => ?_)
       ·
        rw [decide_eq_true_eq] at h5; have hn := hw.next hi (by omega) h2 h3; rw [z5b hn (by omega) (.inr ⟨by omega, by omega⟩)]; refine Ok.bind (Ok.some ?_); refine hJ _ ?_; rw [hsi, decide_eq_true (show 0 ≤ g.Parent.getD i 0 ∧ g.Parent.getD i 0 < i ∧ 1 ≤ g.Bound.getD i 0 ∧ g.Bound.getD i 0 ≤ 64 from ⟨h2, h3, h4, h5⟩), List.length_reverse, Bool.true_and]
        congr 1; apply propext; omega
       · rw [decide_eq_false_iff_not] at h5; exact hJ _ (by rw [hsi, decide_eq_false (by omega)]; rfl)
      · rw [decide_eq_false_iff_not] at h4; exact hJ _ (by rw [hsi, decide_eq_false (by omega)]; rfl)
     · rw [decide_eq_false_iff_not] at h3; exact hJ _ (by rw [hsi, decide_eq_false (by omega)]; rfl)
    · rw [decide_eq_false_iff_not] at h2; exact hJ _ (by rw [hsi, decide_eq_false (by omega)]; rfl)
 · unfold q2t; rw [if_neg (by simp), zt5 (WP.of (Nat.le_refl _) fun t ht => z5r (hI t ht)) (by omega) hp]; exact Ok.some (phase_end hI).symm
end VA
end Go.Proofs.YtlpfoonihpdekaaGreat
