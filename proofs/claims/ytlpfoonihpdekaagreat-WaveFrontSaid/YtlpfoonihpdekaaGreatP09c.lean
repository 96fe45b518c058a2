/-
  The law in plain words: what its plain function gives is true. No condition beyond those that each theorem names.
-/
import Derived.Test.YtlpfoonihpdekaaGreatWalkWF0
import Derived.Test.YtlpfoonihpdekaaGreatP09b
set_option linter.unusedSimpArgs false
set_option linter.unusedVariables false
set_option linter.unusedSectionVars false
namespace Go.Proofs.YtlpfoonihpdekaaGreat
open Go Go.RowKit
namespace VA
instance (g : GGraph) (x : GNode) : Decidable (inN g x) := inferInstanceAs (Decidable (_ ∧ _))
def q2h (g : GGraph) (n : Nat) : Int :=
 if (nd g n).Kind < 1 ∨ 15 < (nd g n).Kind then 1
 else if ¬ inN g (nd g n) ∨ ((nd g n).Kind = 10 ∨ (nd g n).Kind = 11 ∨ (nd g n).Kind = 12) ∧ (nd g n).Scope = 0 ∨ ((nd g n).Kind = 1 ∨ (nd g n).Kind = 15) ∧ (nd g n).Scope ≠ 0 then 6
 else if fits g n = false then 6
 else if (nd g n).Kind = 4 ∧ (nd g n).Arg < 1 ∨ (nd g n).Kind ≠ 4 ∧ (nd g n).Kind ≠ 3 ∧ (nd g n).Arg ≠ 0 then 1
 else if pOk (nd g n).Prog = false ∨ (nd g n).Kind ≠ 2 ∧ 0 < (nd g n).Prog.length then 13 else 0
theorem j4r : pOk [] = true := rfl
section
variable {g : GGraph} (hw : WP g.Parent g.Parent.length) (h8 : g.Parent.length ≤ 8) (hl : g.Nodes.length < 1000000)
include hw h8 hl
theorem j4t {n : Nat} (hn : n < g.Nodes.length) (hb : 0 < n → inN g (nd g (n - 1))) : ql8 g n = some (q2h g n) := by
 unfold ql8 q2h; refine ja2 (Ok.bind (ja0 hn ?_)); rw [qe1 hn]; simp only [qn5, q1v, q9, Option.bind_some]; refine j9z (fun h1 => Ok.some ?_) (fun h1 => ?_)
 · simp only [Bool.or_eq_true, decide_eq_true_eq] at h1; rw [if_pos h1]
 simp only [Bool.or_eq_false_iff, decide_eq_false_iff_not] at h1; have n1 : ¬ ((nd g n).Kind < 1 ∨ 15 < (nd g n).Kind) := by omega
 refine j9z (fun h2 => Ok.some ?_) (fun h2 => ?_)
 · simp only [Bool.or_eq_true, Bool.and_eq_true, Bool.not_eq_true', Bool.and_eq_false_iff, decide_eq_false_iff_not, beq_iff_eq, beq_eq_false_iff_ne, ne_eq] at h2; rw [if_neg n1, if_pos (by unfold inN; omega)]
 simp only [Bool.or_eq_false_iff, Bool.and_eq_false_iff, Bool.not_eq_false', Bool.and_eq_true, decide_eq_true_eq, beq_iff_eq, beq_eq_false_iff_ne, ne_eq] at h2; have hin : inN g (nd g n) := h2.1.1; have n2 : ¬ (¬ inN g (nd g n) ∨ ((nd g n).Kind = 10 ∨ (nd g n).Kind = 11 ∨ (nd g n).Kind = 12) ∧ (nd g n).Scope = 0 ∨ ((nd g n).Kind = 1 ∨ (nd g n).Kind = 15) ∧ (nd g n).Scope ≠ 0) := by
  intro hh; rcases hh with hh | hh | hh
  · exact hh hin
  all_goals omega
 rw [j0k hw h8 hl hn hin hb]; refine Ok.bind (Ok.some ?_); refine j9z (fun h3 => Ok.some ?_) (fun h3 => ?_)
 · rw [Bool.not_eq_true'] at h3; rw [if_neg n1, if_neg n2, if_pos h3]
 rw [Bool.not_eq_false'] at h3; have n3 : ¬ (fits g n = false) := by simp [h3]
 refine j9z (fun h4 => Ok.some ?_) (fun h4 => ?_)
 · simp only [Bool.or_eq_true, Bool.and_eq_true, Bool.not_eq_true', decide_eq_true_eq, beq_iff_eq, beq_eq_false_iff_ne, ne_eq] at h4; rw [if_neg n1, if_neg n2, if_neg n3, if_pos (by omega)]
 simp only [Bool.or_eq_false_iff, Bool.and_eq_false_iff, Bool.not_eq_false', decide_eq_false_iff_not, beq_iff_eq, beq_eq_false_iff_ne, ne_eq] at h4; have n4 : ¬ ((nd g n).Kind = 4 ∧ (nd g n).Arg < 1 ∨ (nd g n).Kind ≠ 4 ∧ (nd g n).Kind ≠ 3 ∧ (nd g n).Arg ≠ 0) := by omega
 rw [zz5]; refine Ok.bind (Ok.some ?_); refine j9z (fun h5 => Ok.some ?_) (fun h5 => Ok.some ?_)
 · simp only [Bool.or_eq_true, Bool.and_eq_true, Bool.not_eq_true', decide_eq_true_eq, beq_eq_false_iff_ne, ne_eq] at h5; rw [if_neg n1, if_neg n2, if_neg n3, if_neg n4, if_pos (h5.elim .inl fun h => .inr ⟨h.1, by have := h.2; omega⟩)]
 · simp only [Bool.or_eq_false_iff, Bool.and_eq_false_iff, Bool.not_eq_false', decide_eq_false_iff_not, beq_iff_eq] at h5; rw [if_neg n1, if_neg n2, if_neg n3, if_neg n4, if_neg (fun hh => hh.elim (fun a => by rw [h5.1] at a; cases a) fun a => by omega)]
theorem j1v {n : Nat} (hn : n < g.Nodes.length) (hb : 0 < n → inN g (nd g (n - 1))) (hp : (nd g n).Prog.length < 1000000000) : q6k g n = some (q2h g n) := by
 unfold q6k q2h; refine ja2 (Ok.bind (ja0 hn ?_)); rw [qe1 hn]; refine j9z (fun h1 => Ok.some ?_) (fun h1 => ?_)
 · simp only [Bool.or_eq_true, decide_eq_true_eq] at h1; rw [if_pos h1]
 simp only [Bool.or_eq_false_iff, decide_eq_false_iff_not] at h1; have n1 : ¬ ((nd g n).Kind < 1 ∨ 15 < (nd g n).Kind) := by omega
 refine j9z (fun h2 => Ok.some ?_) (fun h2 => ?_)
 · simp only [Bool.or_eq_true, decide_eq_true_eq] at h2; rw [if_neg n1, if_pos (.inl (by unfold inN; omega))]
 simp only [Bool.or_eq_false_iff, decide_eq_false_iff_not] at h2; have hin : inN g (nd g n) := by unfold inN; omega
 have h2a := hin.1; refine j9z (fun h3 => Ok.some ?_) (fun h3 => ?_)
 · simp only [Bool.or_eq_true, Bool.and_eq_true, decide_eq_true_eq, beq_iff_eq] at h3; rw [if_neg n1, if_pos (.inr (by omega))]
 simp only [Bool.or_eq_false_iff, Bool.and_eq_false_iff, decide_eq_false_iff_not, beq_eq_false_iff_ne, ne_eq] at h3; have n2 : ¬ (¬ inN g (nd g n) ∨ ((nd g n).Kind = 10 ∨ (nd g n).Kind = 11 ∨ (nd g n).Kind = 12) ∧ (nd g n).Scope = 0 ∨ ((nd g n).Kind = 1 ∨ (nd g n).Kind = 15) ∧ (nd g n).Scope ≠ 0) := by
  intro hh; rcases hh with hh | hh | hh
  · exact hh hin
  all_goals omega
 rw [zw0 hw h8 hl hn hin hb]; refine Ok.bind (Ok.some ?_); refine j9z (fun h3 => Ok.some ?_) (fun h3 => ?_)
 · rw [Bool.not_eq_true'] at h3; rw [if_neg n1, if_neg n2, if_pos h3]
 rw [Bool.not_eq_false'] at h3; have n3 : ¬ (fits g n = false) := by simp [h3]
 have hJ : Ok (q26 (nd g n)) (fun r => r = if pOk (nd g n).Prog = false ∨ (nd g n).Kind ≠ 2 ∧ 0 < (nd g n).Prog.length then 13 else 0) := by
  unfold q26; refine j9z (fun h5 => ?_) (fun h5 => ?_)
  ·
   rw [zz2 hp]; refine Ok.bind (Ok.some ?_); rw [h5]; simp only [beq_iff_eq] at h5; refine j9z (fun h6 => Ok.some ?_) (fun h6 => Ok.some ?_)
   · rw [if_pos (.inl (by simpa using h6))]
   · simp only [Bool.not_true, Bool.false_and, Bool.or_false, Bool.not_eq_false'] at h6; rw [if_neg (fun hh => hh.elim (fun a => by rw [h6] at a; cases a) fun a => a.1 h5)]
  ·
   rw [h5]; rw [beq_eq_false_iff_ne] at h5; refine j9z (fun h6 => Ok.some ?_) (fun h6 => Ok.some ?_)
   · rw [if_pos (.inr ⟨h5, by simpa using h6⟩)]
   ·
    have hz : (nd g n).Prog = [] := by simpa [h5] using h6
    rw [if_neg (by rw [hz, j4r]; simp)]
 have hJ' : ¬ ((nd g n).Kind = 4 ∧ (nd g n).Arg < 1 ∨ (nd g n).Kind ≠ 4 ∧ (nd g n).Kind ≠ 3 ∧ (nd g n).Arg ≠ 0) → Ok (q26 (nd g n)) (fun r => r = q2h g n) := fun n4 => Ok.mono hJ fun r hr => by
  unfold q2h; rw [hr, if_neg n1, if_neg n2, if_neg n3, if_neg n4]
 have hY : ((nd g n).Kind = 4 ∧ (nd g n).Arg < 1 ∨ (nd g n).Kind ≠ 4 ∧ (nd g n).Kind ≠ 3 ∧ (nd g n).Arg ≠ 0) → 1 = q2h g n := fun n4 => by
  unfold q2h; rw [if_neg n1, if_neg n2, if_neg n3, if_pos n4]
 refine j9z (fun h4 => ?_) (fun h4 => ?_)
 ·
  rw [beq_iff_eq] at h4; refine j9z (fun h5 => Ok.some ?_) (fun h5 => ?_)
  · rw [decide_eq_true_eq] at h5; exact hY (by omega)
  · rw [decide_eq_false_iff_not] at h5; exact hJ' (by omega)
 ·
  rw [beq_eq_false_iff_ne] at h4; refine j9z (fun h5 => ?_) (fun h5 => ?_)
  · rw [beq_iff_eq] at h5; exact hJ' (by omega)
  ·
   rw [beq_eq_false_iff_ne] at h5; refine j9z (fun h6 => Ok.some ?_) (fun h6 => ?_)
   · rw [Bool.not_eq_true', beq_eq_false_iff_ne] at h6; exact hY (.inr ⟨h4, h5, h6⟩)
   · rw [Bool.not_eq_false', beq_iff_eq] at h6; exact hJ' (by omega)
end
theorem qn1 {g : GGraph} {n : Nat} (h : q2h g n = 0) : (1 ≤ (nd g n).Kind ∧ (nd g n).Kind ≤ 15) ∧ inN g (nd g n) ∧ (((nd g n).Kind = 10 ∨ (nd g n).Kind = 11 ∨ (nd g n).Kind = 12) → (nd g n).Scope ≠ 0) ∧ (((nd g n).Kind = 1 ∨ (nd g n).Kind = 15) → (nd g n).Scope = 0) ∧ fits g n = true ∧
  ((nd g n).Kind = 4 → 1 ≤ (nd g n).Arg) ∧ ((nd g n).Kind ≠ 4 → (nd g n).Kind ≠ 3 → (nd g n).Arg = 0) ∧ pOk (nd g n).Prog = true ∧ ((nd g n).Kind ≠ 2 → (nd g n).Prog = []) := by
 unfold q2h at h
 split at h
 · cases h
 split at h
 · cases h
 split at h
 · cases h
 split at h
 · cases h
 split at h
 · cases h
 rename_i h1 h2 h3 h4 h5
 rw [not_or] at h2 h5; have hin : inN g (nd g n) := Decidable.byContradiction h2.1; rw [not_or] at h2; refine ⟨by omega, hin, fun hk hs => h2.2.1 ⟨hk, hs⟩, fun hk => Decidable.byContradiction fun hs => h2.2.2 ⟨hk, hs⟩, by simpa using h3, by omega, by omega, by simpa using h5.1, fun hk => List.eq_nil_of_length_eq_zero (by omega)⟩
def ports (k : Int) : Int := if k = 5 ∨ k = 9 then 2 else if 1 < k ∧ k ≤ 15 then 1 else 0
theorem zm8 (k : Int) : q9x k = some (ports k) := by
 unfold q9x ports; simp only [Bool.or_eq_true, Bool.and_eq_true, beq_iff_eq, decide_eq_true_eq]
 split
 · rfl
 · split <;> rfl
theorem zc7 (k : Int) : q3x k = some (ports k) := by
 unfold q3x; simp only [Bool.or_eq_true, decide_eq_true_eq]
 split
 ·
  rename_i h
  unfold ports; rw [if_neg (by omega), if_neg (by omega)]
 ·
  rename_i h
  have : k = 1 ∨ k = 2 ∨ k = 3 ∨ k = 4 ∨ k = 5 ∨ k = 6 ∨ k = 7 ∨ k = 8 ∨ k = 9 ∨ k = 10 ∨ k = 11 ∨ k = 12 ∨ k = 13 ∨ k = 14 ∨ k = 15 := by omega
  rcases this with rfl | rfl | rfl | rfl | rfl | rfl | rfl | rfl | rfl | rfl | rfl | rfl | rfl | rfl | rfl <;> rfl
def ed (g : GGraph) (n : Nat) : GEdge := g.Edges.getD n ⟨0, 0, 0, false⟩
theorem z9l {g : GGraph} {n : Nat} (h : n < g.Edges.length) : g.Edges[n] = ed g n := by unfold ed; rw [List.getD_eq_getElem?_getD, List.getElem?_eq_getElem h]; rfl
def ndI (g : GGraph) (i : Int) : GNode := nd g i.toNat
def q8s (g : GGraph) (x : GNode) : Int := if x.Kind = 10 then g.Parent.getD x.Scope.toNat 0 else x.Scope
def qq7 (g : GGraph) (x : GNode) : Int := if x.Kind = 11 then g.Parent.getD x.Scope.toNat 0 else x.Scope
def qt6 (k : Int) : Bool := decide (6 ≤ k ∧ k ≤ 9 ∨ k = 14)
def inG (g : GGraph) (i : Int) : Prop := 0 ≤ i ∧ i < g.Nodes.length
instance (g : GGraph) (i : Int) : Decidable (inG g i) := inferInstanceAs (Decidable (_ ∧ _))
def q7h (g : GGraph) (n : Nat) : Int :=
 if ¬ (inG g (ed g n).From ∧ inG g (ed g n).To) then 7
 else if (ndI g (ed g n).From).Kind = 15 ∨ ¬ (0 ≤ (ed g n).Port ∧ (ed g n).Port < ports (ndI g (ed g n).To).Kind) then 7
 else if qq7 g (ndI g (ed g n).From) ≠ q8s g (ndI g (ed g n).To) then 6
 else if (ed g n).To ≤ (ed g n).From ∧ (ndI g (ed g n).From).Kind ≠ 12 then 8
 else if qt6 (ndI g (ed g n).To).Kind = true ∧ (ed g n).Exchange = false then 1
 else if (g.Edges.take n).any (fun e => e.To == (ed g n).To && e.Port == (ed g n).Port) = true then 7 else 0
theorem zn2 {s : List GEdge} {f : GEdge → Option Bool} {p : GEdge → Bool} (hl : s.length < 9223372036854775808) (hf : ∀ x ∈ s, f x = some (p x)) : q5k s f = some (s.any p) := qs0 hl hf
theorem j06 {l : List GEdge} (a b : Int) (hl : l.length < 1000000) : qj3 l a b = some (l.any fun e => e.To == a && e.Port == b) := by
 unfold qj3; rw [zn2 (f := fun x0_ => qh9 x0_ a b) (p := fun e => e.To == a && e.Port == b) (by omega) (fun x _ => rfl)]; rfl
section
variable {g : GGraph} (hN : ∀ n < g.Nodes.length, q2h g n = 0) (hl : g.Nodes.length < 1000000) (hE : g.Edges.length < 1000000)
include hN
theorem zj3 {i : Int} (h : inG g i) : inN g (ndI g i) ∧ 1 ≤ (ndI g i).Kind ∧ (ndI g i).Kind ≤ 15 := by
 have := qn1 (hN i.toNat (by have := h.1; have := h.2; omega)); exact ⟨this.2.1, this.1⟩
omit hN in
theorem z19 {i : Int} (h : inG g i) : idx g.Nodes i = some (ndI g i) := qw9 _ h.1 h.2
theorem j2b {i : Int} (h : inG g i) : qh8 g (ndI g i) = some (qq7 g (ndI g i)) := by
 have hs := (zj3 hN h).1; unfold qh8 qq7; simp only [beq_iff_eq]
 split
 · rw [qw9 0 hs.1 hs.2]; rfl
 · rfl
theorem j1h {i : Int} (h : inG g i) : q70 g (ndI g i) = some (q8s g (ndI g i)) := by
 have hs := (zj3 hN h).1; unfold q70 q8s; simp only [beq_iff_eq]
 split
 · rw [qw9 0 hs.1 hs.2]; rfl
 · rfl
theorem z8c {i : Int} (h : inG g i) (b : Bool) : q35 g i b = some (if b then qq7 g (ndI g i) else q8s g (ndI g i)) := by
 have hs := (zj3 hN h).1; unfold q35 qq7 q8s; rw [z19 h]; simp only [q9, Option.bind_some]; rw [qw9 0 hs.1 hs.2]
 cases b <;> simp <;> split <;> simp_all
include hE
theorem j5b {n : Nat} (hn : n < g.Edges.length) : qm0 g n = some (q7h g n) := by
 unfold qm0 q7h; refine ja2 (Ok.bind (ja0 hn ?_)); rw [z9l hn]; simp only [q1v]; refine Ok.bind (Ok.some ?_); refine j9z (fun h1 => ?_) (fun h1 => Ok.some ?_)
 rotate_left
 · rw [if_pos]; simp only [Bool.and_eq_false_iff, decide_eq_false_iff_not] at h1; unfold inG; omega
 simp only [Bool.and_eq_true, decide_eq_true_eq] at h1; refine Ok.bind (Ok.some ?_); refine j9z (fun h2 => Ok.some ?_) (fun h2 => ?_)
 · rw [if_pos]; simp only [Bool.not_eq_true', Bool.and_eq_false_iff, decide_eq_false_iff_not] at h2; unfold inG; omega
 simp only [Bool.not_eq_false', Bool.and_eq_true, decide_eq_true_eq] at h2; have n1 : ¬ ¬ (inG g (ed g n).From ∧ inG g (ed g n).To) := by simp only [inG]; omega
 rw [z19 h1, z19 h2]; refine Ok.bind (Ok.some (Ok.bind (Ok.some ?_))); refine j9z (fun h3 => Ok.some ?_) (fun h3 => ?_)
 · rw [beq_iff_eq] at h3; rw [if_neg n1, if_pos (.inl h3)]
 rw [beq_eq_false_iff_ne] at h3; rw [zm8]; refine Ok.bind (Ok.some (Ok.bind (Ok.some ?_))); refine j9z (fun h4 => Ok.some ?_) (fun h4 => ?_)
 · simp only [Bool.not_eq_true', Bool.and_eq_false_iff, decide_eq_false_iff_not] at h4; rw [if_neg n1, if_pos (by omega)]
 simp only [Bool.not_eq_false', Bool.and_eq_true, decide_eq_true_eq] at h4; have n2 : ¬ ((ndI g (ed g n).From).Kind = 15 ∨ ¬ (0 ≤ (ed g n).Port ∧ (ed g n).Port < ports (ndI g (ed g n).To).Kind)) := by omega
 rw [j2b hN h1, j1h hN h2]; refine Ok.bind (Ok.some (Ok.bind (Ok.some ?_))); refine j9z (fun h5 => Ok.some ?_) (fun h5 => ?_)
 · rw [Bool.not_eq_true', beq_eq_false_iff_ne] at h5; rw [if_neg n1, if_neg n2, if_pos h5]
 rw [Bool.not_eq_false', beq_iff_eq] at h5; have n3 : ¬ (qq7 g (ndI g (ed g n).From) ≠ q8s g (ndI g (ed g n).To)) := by omega
 refine j9z (fun h6 => Ok.some ?_) (fun h6 => ?_)
 · simp only [Bool.and_eq_true, decide_eq_true_eq, Bool.not_eq_true', beq_eq_false_iff_ne, ne_eq] at h6; rw [if_neg n1, if_neg n2, if_neg n3, if_pos h6]
 simp only [Bool.and_eq_false_iff, decide_eq_false_iff_not, Bool.not_eq_false', beq_iff_eq] at h6; have n4 : ¬ ((ed g n).To ≤ (ed g n).From ∧ (ndI g (ed g n).From).Kind ≠ 12) := by omega
 have hk : qh7 (ndI g (ed g n).To).Kind = some (qt6 (ndI g (ed g n).To).Kind) := by
  unfold qh7 qt6
  congr 1
  rw [Bool.eq_iff_iff]; simp
 rw [hk]; refine Ok.bind (Ok.some ?_); refine j9z (fun h7 => Ok.some ?_) (fun h7 => ?_)
 · simp only [Bool.and_eq_true, Bool.not_eq_true'] at h7; rw [if_neg n1, if_neg n2, if_neg n3, if_neg n4, if_pos h7]
 have n5 : ¬ (qt6 (ndI g (ed g n).To).Kind = true ∧ (ed g n).Exchange = false) := by rintro ⟨a, b⟩; rw [a, b] at h7; cases h7
 refine Ok.guard (by omega) ?_; rw [Int.toNat_natCast, j06 _ _ (by rw [List.length_take]; omega)]; refine Ok.bind (Ok.some ?_); refine j9z (fun h8 => Ok.some ?_) (fun h8 => Ok.some ?_)
 · rw [if_neg n1, if_neg n2, if_neg n3, if_neg n4, if_neg n5, if_pos h8]
 · rw [if_neg n1, if_neg n2, if_neg n3, if_neg n4, if_neg n5, if_neg (by simp [h8])]
theorem j1y {n : Nat} (hn : n < g.Edges.length) : q6l g n = some (q7h g n) := by
 unfold q6l q7h; refine ja2 (Ok.bind (ja0 hn ?_)); rw [z9l hn]; refine j9z (fun h1 => Ok.some ?_) (fun h1 => ?_)
 · simp only [Bool.or_eq_true, decide_eq_true_eq] at h1; rw [if_pos (by unfold inG; omega)]
 simp only [Bool.or_eq_false_iff, decide_eq_false_iff_not] at h1; have g1 : inG g (ed g n).From := by unfold inG; omega
 have g2 : inG g (ed g n).To := by unfold inG; omega
 have n1 : ¬ ¬ (inG g (ed g n).From ∧ inG g (ed g n).To) := fun hh => hh ⟨g1, g2⟩; rw [z19 g1]; refine Ok.bind (Ok.some ?_); refine j9z (fun h3 => Ok.some ?_) (fun h3 => ?_)
 · simp only [Bool.or_eq_true, beq_iff_eq, decide_eq_true_eq] at h3; rw [if_neg n1, if_pos (by omega)]
 simp only [Bool.or_eq_false_iff, beq_eq_false_iff_ne, ne_eq, decide_eq_false_iff_not] at h3; rw [z19 g2]; refine Ok.bind (Ok.some ?_); rw [zc7]; refine Ok.bind (Ok.some ?_); refine j9z (fun h4 => Ok.some ?_) (fun h4 => ?_)
 · rw [decide_eq_true_eq] at h4; rw [if_neg n1, if_pos (by omega)]
 rw [decide_eq_false_iff_not] at h4; have n2 : ¬ ((ndI g (ed g n).From).Kind = 15 ∨ ¬ (0 ≤ (ed g n).Port ∧ (ed g n).Port < ports (ndI g (ed g n).To).Kind)) := by omega
 rw [z8c hN g1, z8c hN g2]; simp only [if_true, Bool.false_eq_true, if_false]; refine Ok.bind (Ok.some (Ok.bind (Ok.some ?_))); refine j9z (fun h5 => Ok.some ?_) (fun h5 => ?_)
 · rw [Bool.not_eq_true', beq_eq_false_iff_ne] at h5; rw [if_neg n1, if_neg n2, if_pos h5]
 rw [Bool.not_eq_false', beq_iff_eq] at h5; have n3 : ¬ (qq7 g (ndI g (ed g n).From) ≠ q8s g (ndI g (ed g n).To)) := by omega
 refine j9z (fun h6 => Ok.some ?_) (fun h6 => ?_)
 · simp only [Bool.and_eq_true, decide_eq_true_eq, Bool.not_eq_true', beq_eq_false_iff_ne, ne_eq] at h6; rw [if_neg n1, if_neg n2, if_neg n3, if_pos ⟨h6.2, h6.1⟩]
 simp only [Bool.and_eq_false_iff, decide_eq_false_iff_not, Bool.not_eq_false', beq_iff_eq] at h6; have n4 : ¬ ((ed g n).To ≤ (ed g n).From ∧ (ndI g (ed g n).From).Kind ≠ 12) := by omega
 have hk : (((((ndI g (ed g n).To).Kind == 6) || ((ndI g (ed g n).To).Kind == 7)) || ((ndI g (ed g n).To).Kind == 8)) || ((ndI g (ed g n).To).Kind == 9) || ((ndI g (ed g n).To).Kind == 14)) = qt6 (ndI g (ed g n).To).Kind := by
  unfold qt6; rw [Bool.eq_iff_iff]; simp; omega
 rw [hk]; refine j9z (fun h7 => Ok.some ?_) (fun h7 => ?_)
 · simp only [Bool.and_eq_true, Bool.not_eq_true'] at h7; rw [if_neg n1, if_neg n2, if_neg n3, if_neg n4, if_pos ⟨h7.2, h7.1⟩]
 have n5 : ¬ (qt6 (ndI g (ed g n).To).Kind = true ∧ (ed g n).Exchange = false) := by rintro ⟨a, b⟩; rw [a, b] at h7; cases h7
 have hlen : (g.Edges.take n).length = n := by rw [List.length_take]; omega
 have := ja5 (l := g.Edges.take n) (body := q4r g n (ed g n)) (Q := fun r => r = if (g.Edges.take n).any (fun e => e.To == (ed g n).To && e.Port == (ed g n).Port) = true then 7 else 0) (by omega) (fun i => ∀ x ∈ (g.Edges.take n).take i, (x.To == (ed g n).To && x.Port == (ed g n).Port) = false) 0 (fun rec i hi _ hI hr => ?_) (fun rec hI => ?_) (by simp) (Nat.zero_le _)
 · exact Ok.mono this fun r hr => by rw [hr, if_neg n1, if_neg n2, if_neg n3, if_neg n4, if_neg n5]
 ·
  have hin : i < n := by omega
  unfold q4r; rw [if_pos (by simpa using hin)]; refine Ok.bind (ja0 (show i < g.Edges.length by omega) ?_); have hge : (g.Edges.take n)[i] = g.Edges[i]'(by omega) := by simp
  rw [iw hi (by omega)]; have hno : (g.Edges[i].To == (ed g n).To && g.Edges[i].Port == (ed g n).Port) = false → Ok (rec ((i + 1 : Nat) : Int)) (fun r => r = if (g.Edges.take n).any (fun e => e.To == (ed g n).To && e.Port == (ed g n).Port) = true then 7 else 0) := fun hf => hr ((qr6 hi).2 ⟨hI, by rw [hge]; exact hf⟩); refine j9z (fun h8 => ?_) (fun h8 => hno (by rw [h8]; rfl)); refine j9z (fun h9 => Ok.some ?_) (fun h9 => hno (by rw [h9]; simp)); have : (g.Edges.take n).any (fun e => e.To == (ed g n).To && e.Port == (ed g n).Port) = true := List.any_eq_true.2 ⟨_, List.getElem_mem hi, by rw [hge, h8, h9]; rfl⟩; rw [if_pos this]
 ·
  unfold q4r; rw [if_neg (by simp; omega)]; refine Ok.some ?_; rw [List.take_length] at hI; have : (g.Edges.take n).any (fun e => e.To == (ed g n).To && e.Port == (ed g n).Port) = false := List.any_eq_false.2 fun x hx => by simp only [hI x hx]; simp
  rw [this]; rfl
end
end VA
end Go.Proofs.YtlpfoonihpdekaaGreat
