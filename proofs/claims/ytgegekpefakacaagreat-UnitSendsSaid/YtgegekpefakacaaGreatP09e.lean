/-
  The law in plain words: what its plain function gives is true. No condition beyond those that each theorem names.
-/
import Derived.Test.YtgegekpefakacaaGreatWalkUS1
import Derived.Test.YtgegekpefakacaaGreatP09d
namespace Go.Proofs.YtgegekpefakacaaGreat
open Go Go.RowKit
namespace VA
def phase (err : Nat → Int) (N : Nat) (K : Int × Int) : Int × Int := match (List.range N).find? fun i => err i != 0 with
 | some i => (err i, (i : Int))
 | none => K
theorem qb6 {err : Nat → Int} {N i : Nat} {K : Int × Int} (h : ∀ j < i, err j = 0) (hi : i < N) (he : err i ≠ 0) : phase err N K = (err i, (i : Int)) := by
 unfold phase; have : (List.range N).find? (fun i => err i != 0) = some i := by
  rw [List.find?_range_eq_some]; exact ⟨by simpa using he, List.mem_range.2 hi, fun j hj => by simp [h j hj]⟩
 rw [this]
theorem phase_end {err : Nat → Int} {N : Nat} {K : Int × Int} (h : ∀ j < N, err j = 0) : phase err N K = K := by
 unfold phase; have : (List.range N).find? (fun i => err i != 0) = none := by
  rw [List.find?_eq_none]; intro x hx; simp [h x (List.mem_range.1 hx)]
 rw [this]
theorem qv5 {err : Nat → Int} {N : Nat} {K : Int × Int} (h : (phase err N K).1 = 0) : (∀ j < N, err j = 0) ∧ K.1 = 0 := by
 unfold phase at h
 split at h
 ·
  rename_i i hf
  have := List.find?_some hf; simp at this; exact absurd h this
 ·
  rename_i hf
  rw [List.find?_eq_none] at hf; exact ⟨fun j hj => by simpa using hf j (List.mem_range.2 hj), h⟩
def q82 (g : GGraph) (s : Nat) : Int := if sOk g s = true then 0 else 6
def q5r (g : GGraph) (n : Nat) : Int := if ports (nd g n).Kind ≤ z7i g n then 0 else 7
open Classical in
noncomputable def q31 (g : GGraph) (n : Nat) : Int := if (nd g n).Kind = 10 ∧ Rch g (nd g n).Scope n then 8 else 0
noncomputable def chk (g : GGraph) : Int × Int :=
 if g.Parent.length < 1 ∨ 8 < g.Parent.length ∨ g.Bound.length ≠ g.Parent.length then (6, 0)
 else phase (q82 g) g.Parent.length (if g.Nodes.length < 1 ∨ 32 < g.Nodes.length ∨ 64 < g.Edges.length then (11, 0)
  else phase (q2k g) g.Nodes.length (phase (q86 g) g.Edges.length (phase (q5r g) g.Nodes.length (phase (q31 g) g.Nodes.length (0, 0)))))
theorem z5w {g : GGraph} {s : Nat} (h : q82 g s = 0) : sOk g s = true := by
 unfold q82 at h
 split at h
 · assumption
 · cases h
structure Good (g : GGraph) : Prop where
 pl : 1 ≤ g.Parent.length ∧ g.Parent.length ≤ 8
 bl : g.Bound.length = g.Parent.length
 sc : ∀ s < g.Parent.length, sOk g s = true
 nl : 1 ≤ g.Nodes.length ∧ g.Nodes.length ≤ 32
 el : g.Edges.length ≤ 64
 no : ∀ n < g.Nodes.length, q2k g n = 0
 ed : AllE g
 fu : ∀ n < g.Nodes.length, ports (nd g n).Kind ≤ z7i g n
 ag : ∀ n < g.Nodes.length, ¬ ((nd g n).Kind = 10 ∧ Rch g (nd g n).Scope n)
theorem Good.wp {g : GGraph} (h : Good g) : WP g.Parent g.Parent.length := WP.of (Nat.le_refl _) h.sc
theorem zn5 {g : GGraph} : (chk g).1 = 0 ↔ Good g := by
 constructor
 ·
  intro h; unfold chk at h
  split at h
  · cases h
  rename_i h1
  obtain ⟨h2, h3⟩ := qv5 h
  split at h3
  · cases h3
  rename_i h4
  obtain ⟨h5, h6⟩ := qv5 h3; obtain ⟨h7, h8⟩ := qv5 h6; obtain ⟨h9, h10⟩ := qv5 h8; obtain ⟨h11, _⟩ := qv5 h10; refine ⟨by omega, by omega, fun s hs => z5w (h2 s hs), by omega, by omega, h5, h7, fun n hn => ?_, fun n hn => ?_⟩
  ·
   have := h9 n hn; unfold q5r at this
   split at this
   · assumption
   · cases this
  ·
   have := h11 n hn; unfold q31 at this
   split at this
   · cases this
   · assumption
 · intro h; have hp := h.pl; have hb := h.bl; have hn := h.nl; have he := h.el; unfold chk; rw [if_neg (by omega), phase_end (fun j hj => by unfold q82; rw [if_pos (h.sc j hj)]), if_neg (by omega), phase_end h.no, phase_end h.ed, phase_end (fun j hj => by unfold q5r; rw [if_pos (h.fu j hj)]), phase_end (fun j hj => by unfold q31; rw [if_neg (h.ag j hj)])]
section
variable {g : GGraph} (hw : WP g.Parent g.Parent.length) (h8 : g.Parent.length ≤ 8) (hl : g.Nodes.length ≤ 32) (hEl : g.Edges.length ≤ 64)
include hw h8 hl hEl
open Classical in
theorem j00 (hN : ∀ n < g.Nodes.length, q2k g n = 0) (hE : AllE g) : q9g g = some (phase (q31 g) g.Nodes.length (0, 0)) := by
 unfold q9g; refine jf8 (jg0 (l := g.Nodes) (by omega) (fun i => ∀ j < i, q31 g j = 0) 0 (fun rec i hi _ hI hr => ?_) (fun rec hI => ?_) (by intro j hj; omega) (Nat.zero_le _))
 ·
  unfold qg5; rw [if_pos (by simpa using hi)]; have hin := (qo6 (hN i hi)).2.1; rw [j3y hw h8 hN hE (by omega) (by omega) hin.1 hin.2 hi rfl]; refine Ok.bind (Ok.some ?_); refine jf5 (fun h1 => Ok.some ?_) (fun h1 => ?_)
  ·
   rw [decide_eq_true_eq] at h1; have : q31 g i = 8 := by unfold q31; rw [if_pos h1]
   rw [qb6 hI hi (by rw [this]; decide), this]
  ·
   rw [decide_eq_false_iff_not] at h1; rw [iw hi (by omega)]; refine hr fun j hj => ?_; rcases Nat.lt_or_eq_of_le (Nat.lt_succ_iff.1 hj) with h2 | rfl
   · exact hI j h2
   · unfold q31; rw [if_neg h1]
 · unfold qg5; rw [if_neg (by simp)]; exact Ok.some (phase_end hI).symm
open Classical in
theorem zq4 (hN : ∀ n < g.Nodes.length, q2k g n = 0) (hE : AllE g) : q51 g = some (phase (q31 g) g.Nodes.length (0, 0)) := by
 unfold q51; refine jf8 (jg0 (l := g.Nodes) (by omega) (fun i => ∀ j < i, q31 g j = 0) 0 (fun rec i hi _ hI hr => ?_) (fun rec hI => ?_) (by intro j hj; omega) (Nat.zero_le _))
 ·
  unfold q79; rw [if_pos (by simpa using hi)]; refine Ok.bind (jf6 hi ?_); rw [q9d hi]; have hin := (qo6 (hN i hi)).2.1; rw [iw hi (by omega)]; have hno : ¬ ((nd g i).Kind = 10 ∧ Rch g (nd g i).Scope i) → Ok (rec ((i + 1 : Nat) : Int)) (fun r => r = phase (q31 g) g.Nodes.length (0, 0)) := fun h1 => by
   refine hr fun j hj => ?_; rcases Nat.lt_or_eq_of_le (Nat.lt_succ_iff.1 hj) with h2 | rfl
   · exact hI j h2
   · unfold q31; rw [if_neg h1]
  refine jf5 (fun h1 => ?_) (fun h1 => ?_)
  ·
   rw [beq_iff_eq] at h1; refine jf4 (j47 hw h8 hN hE (by omega) (by omega) hin.1 hin.2) fun b hb => ?_; refine jf4 (Ok.idx' (i := (i : Int)) (l := b) (by omega) (by omega) (Q := fun x => x = atB b i) fun x hx => getD_some hx) ?_; rintro x rfl; refine jf5 (fun h2 => Ok.some ?_) (fun h2 => hno fun hh => ?_)
   ·
    have hc := (hb.2 i (by omega)).1 h2; have : q31 g i = 8 := by unfold q31; rw [if_pos ⟨h1, hc⟩]
    rw [qb6 hI hi (by rw [this]; decide), this]
   · rw [(hb.2 i (by omega)).2 hh.2] at h2; cases h2
  · rw [beq_eq_false_iff_ne] at h1; exact hno fun hh => h1 hh.1
 · unfold q79; rw [if_neg (by simp)]; exact Ok.some (phase_end hI).symm
theorem j0x (hN : ∀ n < g.Nodes.length, q2k g n = 0) (hE : AllE g) : q9h g = some (phase (q5r g) g.Nodes.length (phase (q31 g) g.Nodes.length (0, 0))) := by
 unfold q9h; refine jf8 (jg0 (l := g.Nodes) (by omega) (fun i => ∀ j < i, q5r g j = 0) 0 (fun rec i hi _ hI hr => ?_) (fun rec hI => ?_) (by intro j hj; omega) (Nat.zero_le _))
 ·
  unfold qg4; rw [if_pos (by simpa using hi), j6a hE (by omega) hi]; refine Ok.bind (Ok.some ?_); refine jf5 (fun h1 => Ok.some ?_) (fun h1 => ?_)
  ·
   simp only [Bool.not_eq_true', decide_eq_false_iff_not] at h1; have : q5r g i = 7 := by unfold q5r; rw [if_neg h1]
   rw [qb6 hI hi (by rw [this]; decide), this]
  ·
   simp only [Bool.not_eq_false', decide_eq_true_eq] at h1; rw [iw hi (by omega)]; refine hr fun j hj => ?_; rcases Nat.lt_or_eq_of_le (Nat.lt_succ_iff.1 hj) with h2 | rfl
   · exact hI j h2
   · unfold q5r; rw [if_pos h1]
 · unfold qg4; rw [if_neg (by simp), j00 hw h8 hl hEl hN hE]; exact Ok.some (phase_end hI).symm
theorem zw5 (hN : ∀ n < g.Nodes.length, q2k g n = 0) (hE : AllE g) : q52 g = some (phase (q5r g) g.Nodes.length (phase (q31 g) g.Nodes.length (0, 0))) := by
 unfold q52; refine jf8 (jg0 (l := g.Nodes) (by omega) (fun i => ∀ j < i, q5r g j = 0) 0 (fun rec i hi _ hI hr => ?_) (fun rec hI => ?_) (by intro j hj; omega) (Nat.zero_le _))
 ·
  unfold q55; rw [if_pos (by simpa using hi)]; refine eachG (l := g.Edges) (by omega) (fun j (c : Int) => (c, j)) (fun p => p.2) (fun _ _ => rfl) (fun j c => c = (((g.Edges.take j).filter fun e => e.To == (i : Int)).length : Int)) 0 (fun rec' j hj c _ hc hr' => ?_) (fun rec' c hc => ?_) (by simp) (Nat.zero_le _)
  ·
   unfold q78; dsimp only; rw [if_pos (by simpa using hj)]; refine Ok.bind (jf6 hj ?_); have hle : ((g.Edges.take j).filter fun e => e.To == (i : Int)).length ≤ (g.Edges.take j).length := List.length_filter_le _ _; rw [List.length_take] at hle; have hs : (g.Edges.take (j + 1)).filter (fun e => e.To == (i : Int)) = (g.Edges.take j).filter (fun e => e.To == (i : Int)) ++ if (g.Edges[j].To == (i : Int)) = true then [g.Edges[j]] else [] := by
    rw [List.take_succ_eq_append_getElem hj, List.filter_append, List.filter_cons, List.filter_nil]
   rw [iw hj (by omega)]; refine jf5 (fun h1 => ?_) (fun h1 => ?_)
   · rw [wrap_i64 _ (by omega)]; refine hr' _ ?_; rw [hs, if_pos h1, hc]; simp
   · refine hr' _ ?_; rw [hs, if_neg (by simp [h1]), hc]; simp
  ·
   unfold q78; dsimp only; rw [if_neg (by simp)]; rw [List.take_length] at hc; unfold q76; refine Ok.bind (jf6 hi ?_); rw [q9d hi, zd5]; refine Ok.bind (Ok.some ?_); have hcc : c = (z7i g i : Int) := hc; rw [hcc]; refine jf5 (fun h1 => Ok.some ?_) (fun h1 => ?_)
   ·
    simp only [decide_eq_true_eq] at h1; have : q5r g i = 7 := by unfold q5r; rw [if_neg (by omega)]
    rw [qb6 hI hi (by rw [this]; decide), this]
   ·
    simp only [decide_eq_false_iff_not] at h1; rw [iw hi (by omega)]; refine hr fun j hj => ?_; rcases Nat.lt_or_eq_of_le (Nat.lt_succ_iff.1 hj) with h2 | rfl
    · exact hI j h2
    · unfold q5r; rw [if_pos (by omega)]
 · unfold q55; rw [if_neg (by simp), zq4 hw h8 hl hEl hN hE]; exact Ok.some (phase_end hI).symm
theorem j18 (hN : ∀ n < g.Nodes.length, q2k g n = 0) : q9i g = some (phase (q86 g) g.Edges.length (phase (q5r g) g.Nodes.length (phase (q31 g) g.Nodes.length (0, 0)))) := by
 unfold q9i; refine jf8 (jg0 (l := g.Edges) (by omega) (fun i => ∀ j < i, q86 g j = 0) 0 (fun rec i hi _ hI hr => ?_) (fun rec hI => ?_) (by intro j hj; omega) (Nat.zero_le _))
 ·
  unfold qg3; rw [if_pos (by simpa using hi), j6q hN (by omega) hi]; refine Ok.bind (Ok.some ?_); refine jf5 (fun h1 => Ok.some ?_) (fun h1 => ?_)
  · simp only [Bool.not_eq_true', beq_eq_false_iff_ne, ne_eq] at h1; rw [qb6 hI hi h1]
  ·
   simp only [Bool.not_eq_false', beq_iff_eq] at h1; rw [iw hi (by omega)]; refine hr fun j hj => ?_; rcases Nat.lt_or_eq_of_le (Nat.lt_succ_iff.1 hj) with h2 | rfl
   · exact hI j h2
   · exact h1
 · unfold qg3; rw [if_neg (by simp), j0x hw h8 hl hEl hN hI]; exact Ok.some (phase_end hI).symm
theorem zw7 (hN : ∀ n < g.Nodes.length, q2k g n = 0) : q53 g = some (phase (q86 g) g.Edges.length (phase (q5r g) g.Nodes.length (phase (q31 g) g.Nodes.length (0, 0)))) := by
 unfold q53; refine jf8 (jg0 (l := g.Edges) (by omega) (fun i => ∀ j < i, q86 g j = 0) 0 (fun rec i hi _ hI hr => ?_) (fun rec hI => ?_) (by intro j hj; omega) (Nat.zero_le _))
 ·
  unfold q77; rw [if_pos (by simpa using hi), j2p hN (by omega) hi]; refine Ok.bind (Ok.some ?_); refine jf5 (fun h1 => Ok.some ?_) (fun h1 => ?_)
  · simp only [Bool.not_eq_true', beq_eq_false_iff_ne, ne_eq] at h1; rw [qb6 hI hi h1]
  ·
   simp only [Bool.not_eq_false', beq_iff_eq] at h1; rw [iw hi (by omega)]; refine hr fun j hj => ?_; rcases Nat.lt_or_eq_of_le (Nat.lt_succ_iff.1 hj) with h2 | rfl
   · exact hI j h2
   · exact h1
 · unfold q77; rw [if_neg (by simp), zw5 hw h8 hl hEl hN hI]; exact Ok.some (phase_end hI).symm
end
section
variable {g : GGraph} (hw : WP g.Parent g.Parent.length) (h8 : g.Parent.length ≤ 8)
include hw h8
theorem j0r : q9j g = some (if g.Nodes.length < 1 ∨ 32 < g.Nodes.length ∨ 64 < g.Edges.length then (11, 0)
  else phase (q2k g) g.Nodes.length (phase (q86 g) g.Edges.length (phase (q5r g) g.Nodes.length (phase (q31 g) g.Nodes.length (0, 0))))) := by
 unfold q9j; refine jf8 (jf5 (fun h => Ok.some ?_) (fun h => ?_))
 · simp only [Bool.or_eq_true, decide_eq_true_eq] at h; rw [if_pos (by omega)]
 simp only [Bool.or_eq_false_iff, decide_eq_false_iff_not] at h; rw [if_neg (by omega)]; refine jg0 (l := g.Nodes) (by omega) (fun i => ∀ j < i, q2k g j = 0) 0 (fun rec i hi _ hI hr => ?_) (fun rec hI => ?_) (by intro j hj; omega) (Nat.zero_le _)
 ·
  unfold qg2; rw [if_pos (by simpa using hi), j60 hw h8 (by omega) hi (fun h0 => (qo6 (hI (i - 1) (by omega))).2.1)]; refine Ok.bind (Ok.some ?_); refine jf5 (fun h1 => Ok.some ?_) (fun h1 => ?_)
  · simp only [Bool.not_eq_true', beq_eq_false_iff_ne, ne_eq] at h1; rw [qb6 hI hi h1]
  ·
   simp only [Bool.not_eq_false', beq_iff_eq] at h1; rw [iw hi (by omega)]; refine hr fun j hj => ?_; rcases Nat.lt_or_eq_of_le (Nat.lt_succ_iff.1 hj) with h2 | rfl
   · exact hI j h2
   · exact h1
 · unfold qg2; rw [if_neg (by simp), j18 hw h8 (by omega) (by omega) hI]; exact Ok.some (phase_end hI).symm
theorem zw4 (hp : ∀ x ∈ g.Nodes, x.Prog.length < 1000000000) : q54 g = some (if g.Nodes.length < 1 ∨ 32 < g.Nodes.length ∨ 64 < g.Edges.length then (11, 0)
  else phase (q2k g) g.Nodes.length (phase (q86 g) g.Edges.length (phase (q5r g) g.Nodes.length (phase (q31 g) g.Nodes.length (0, 0))))) := by
 unfold q54; refine jf8 (jf5 (fun h => Ok.some ?_) (fun h => ?_))
 · simp only [Bool.or_eq_true, decide_eq_true_eq, beq_iff_eq] at h; rw [if_pos (by omega)]
 simp only [Bool.or_eq_false_iff, decide_eq_false_iff_not, beq_eq_false_iff_ne, ne_eq] at h; rw [if_neg (by omega)]; refine jg0 (l := g.Nodes) (by omega) (fun i => ∀ j < i, q2k g j = 0) 0 (fun rec i hi _ hI hr => ?_) (fun rec hI => ?_) (by intro j hj; omega) (Nat.zero_le _)
 ·
  unfold q6j; rw [if_pos (by simpa using hi), j2m hw h8 (by omega) hi (fun h0 => (qo6 (hI (i - 1) (by omega))).2.1) (by rw [← q9d hi]; exact hp _ (List.getElem_mem hi))]; refine Ok.bind (Ok.some ?_); refine jf5 (fun h1 => Ok.some ?_) (fun h1 => ?_)
  · simp only [Bool.not_eq_true', beq_eq_false_iff_ne, ne_eq] at h1; rw [qb6 hI hi h1]
  ·
   simp only [Bool.not_eq_false', beq_iff_eq] at h1; rw [iw hi (by omega)]; refine hr fun j hj => ?_; rcases Nat.lt_or_eq_of_le (Nat.lt_succ_iff.1 hj) with h2 | rfl
   · exact hI j h2
   · exact h1
 · unfold q6j; rw [if_neg (by simp), zw7 hw h8 (by omega) (by omega) hI]; exact Ok.some (phase_end hI).symm
end
theorem j45 (g : GGraph) : qi6 g = some (chk g) := by
 unfold qi6 chk; refine jf8 (jf5 (fun h => Ok.some ?_) (fun h => ?_))
 · simp only [Bool.or_eq_true, decide_eq_true_eq, Bool.not_eq_true', beq_eq_false_iff_ne, ne_eq] at h; rw [if_pos (by omega)]
 simp only [Bool.or_eq_false_iff, decide_eq_false_iff_not, Bool.not_eq_false', beq_iff_eq] at h; rw [if_neg (by omega)]; refine jg0 (l := g.Parent) (by omega) (fun i => ∀ j < i, q82 g j = 0) 0 (fun rec i hi _ hI hr => ?_) (fun rec hI => ?_) (by intro j hj; omega) (Nat.zero_le _)
 ·
  unfold qg1; rw [if_pos (by simpa using hi), j2k (by omega) (by omega) hi (fun t ht => z5w (hI t ht))]; refine Ok.bind (Ok.some ?_); refine jf5 (fun h1 => Ok.some ?_) (fun h1 => ?_)
  ·
   rw [Bool.not_eq_true'] at h1; have : q82 g i = 6 := by unfold q82; rw [h1]; rfl
   rw [qb6 hI hi (by rw [this]; decide), this]
  ·
   rw [Bool.not_eq_false'] at h1; rw [iw hi (by omega)]; refine hr fun j hj => ?_; rcases Nat.lt_or_eq_of_le (Nat.lt_succ_iff.1 hj) with h2 | rfl
   · exact hI j h2
   · unfold q82; rw [if_pos h1]
 · unfold qg1; rw [if_neg (by simp), j0r (WP.of (Nat.le_refl _) fun t ht => z5w (hI t ht)) (by omega)]; exact Ok.some (phase_end hI).symm
theorem j0o (g : GGraph) (hp : ∀ x ∈ g.Nodes, x.Prog.length < 1000000000) : q6c g = some (chk g) := by
 unfold q6c chk; refine jf8 (jf5 (fun h => Ok.some ?_) (fun h => ?_))
 · simp only [Bool.or_eq_true, decide_eq_true_eq, beq_iff_eq, Bool.not_eq_true', beq_eq_false_iff_ne, ne_eq] at h; rw [if_pos (by omega)]
 simp only [Bool.or_eq_false_iff, decide_eq_false_iff_not, Bool.not_eq_false', beq_iff_eq, beq_eq_false_iff_ne, ne_eq] at h; rw [if_neg (by omega)]; refine jg0 (l := g.Parent) (by omega) (fun i => ∀ j < i, q82 g j = 0) 0 (fun rec i hi _ hI hr => ?_) (fun rec hI => ?_) (by intro j hj; omega) (Nat.zero_le _)
 ·
  have hw := WP.of (m := i) (by omega) fun t ht => z5w (hI t ht); unfold q36; rw [if_pos (by simpa using hi)]; have hJ : ∀ b : Bool, b = sOk g i → Ok (if (!b) = true then some (6, (i : Int)) else rec (IntKind.i64.wrap ((i : Int) + 1))) (fun r => r = phase (q82 g) g.Parent.length (if g.Nodes.length < 1 ∨ 32 < g.Nodes.length ∨ 64 < g.Edges.length then (11, 0)
    else phase (q2k g) g.Nodes.length (phase (q86 g) g.Edges.length (phase (q5r g) g.Nodes.length (phase (q31 g) g.Nodes.length (0, 0)))))) := fun b hb => by
   subst hb; refine jf5 (fun h1 => Ok.some ?_) (fun h1 => ?_)
   ·
    rw [Bool.not_eq_true'] at h1; have : q82 g i = 6 := by unfold q82; rw [h1]; rfl
    rw [qb6 hI hi (by rw [this]; decide), this]
   ·
    rw [Bool.not_eq_false'] at h1; rw [iw hi (by omega)]; refine hr fun j hj => ?_; rcases Nat.lt_or_eq_of_le (Nat.lt_succ_iff.1 hj) with h2 | rfl
    · exact hI j h2
    · unfold q82; rw [if_pos h1]
  refine jf4 (Ok.idx' (i := (i : Int)) (by omega) (by omega) (Q := fun x => x = g.Parent.getD i 0) fun x hx => getD_some hx) ?_; rintro x rfl; have hbd : ∀ {Q : Int → Prop}, Q (g.Bound.getD i 0) → Ok (idx g.Bound (i : Int)) Q := fun {Q} hq => Ok.idx' (by omega) (by omega) fun x hx => by rw [show x = g.Bound.getD i 0 from getD_some hx]; exact hq
  by_cases hz : i = 0
  ·
   subst hz; have hs0 : sOk g 0 = (g.Parent.getD 0 0 == -1 && g.Bound.getD 0 0 == 0) := rfl; refine jf5 (fun h1 => ?_) (fun h1 => ?_)
   · refine Ok.bind (hbd ?_); rw [if_neg (by simp)]; exact hJ _ (by rw [hs0, h1]; rfl)
   · rw [if_neg (by simp)]; exact hJ _ (by rw [hs0, h1]; rfl)
  ·
   have hsi : sOk g i = (decide (0 ≤ g.Parent.getD i 0 ∧ g.Parent.getD i 0 < i ∧ 1 ≤ g.Bound.getD i 0 ∧ g.Bound.getD i 0 ≤ 64) && decide ((anc g.Parent i).length ≤ 4)) := by unfold sOk; rw [if_neg hz]
   have hpos : decide (0 < (i : Int)) = true := by rw [decide_eq_true_eq]; omega
   refine jf5 (fun h1 => ?_) (fun h1 => ?_)
   · rw [beq_iff_eq] at h1; refine Ok.bind (hbd ?_); rw [if_pos hpos, if_neg (by rw [h1]; simp)]; exact hJ _ (by rw [hsi, decide_eq_false (by omega)]; rfl)
   ·
    rw [if_pos hpos]; refine jf5 (fun h2 => ?_) (fun h2 => ?_)
    ·
     rw [decide_eq_true_eq] at h2; refine jf5 (fun h3 => ?_) (fun h3 => ?_)
     ·
      rw [decide_eq_true_eq] at h3; refine Ok.bind (hbd ?_); refine jf5 (fun h4 => ?_) (fun h4 => ?_)
      ·
       rw [decide_eq_true_eq] at h4; refine jf5 (fun h5 => ?_) (fun h5 => ?_)
       ·
        rw [decide_eq_true_eq] at h5; have hn := hw.next hi (by omega) h2 h3; rw [z8g hn (by omega) (.inr ⟨by omega, by omega⟩)]; refine Ok.bind (Ok.some ?_); refine hJ _ ?_; rw [hsi, decide_eq_true (show 0 ≤ g.Parent.getD i 0 ∧ g.Parent.getD i 0 < i ∧ 1 ≤ g.Bound.getD i 0 ∧ g.Bound.getD i 0 ≤ 64 from ⟨h2, h3, h4, h5⟩), List.length_reverse, Bool.true_and]
        congr 1; apply propext; omega
       · rw [decide_eq_false_iff_not] at h5; exact hJ _ (by rw [hsi, decide_eq_false (by omega)]; rfl)
      · rw [decide_eq_false_iff_not] at h4; exact hJ _ (by rw [hsi, decide_eq_false (by omega)]; rfl)
     · rw [decide_eq_false_iff_not] at h3; exact hJ _ (by rw [hsi, decide_eq_false (by omega)]; rfl)
    · rw [decide_eq_false_iff_not] at h2; exact hJ _ (by rw [hsi, decide_eq_false (by omega)]; rfl)
 · unfold q36; rw [if_neg (by simp), zw4 (WP.of (Nat.le_refl _) fun t ht => z5w (hI t ht)) (by omega) hp]; exact Ok.some (phase_end hI).symm
end VA
end Go.Proofs.YtgegekpefakacaaGreat
