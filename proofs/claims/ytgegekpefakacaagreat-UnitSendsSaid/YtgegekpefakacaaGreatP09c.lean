/-
  The law in plain words: what its plain function gives is true. No condition beyond those that each theorem names.
-/
import Derived.Test.YtgegekpefakacaaGreatWalkUS1
import Derived.Test.YtgegekpefakacaaGreatP09b
namespace Go.Proofs.YtgegekpefakacaaGreat
open Go Go.RowKit
namespace VA
instance (g : GGraph) (x : GNode) : Decidable (inN g x) := inferInstanceAs (Decidable (_ ∧ _))
def q2k (g : GGraph) (n : Nat) : Int :=
 if (nd g n).Kind < 1 ∨ 15 < (nd g n).Kind then 1
 else if ¬ inN g (nd g n) ∨ ((nd g n).Kind = 10 ∨ (nd g n).Kind = 11 ∨ (nd g n).Kind = 12) ∧ (nd g n).Scope = 0 ∨ ((nd g n).Kind = 1 ∨ (nd g n).Kind = 15) ∧ (nd g n).Scope ≠ 0 then 6
 else if fits g n = false then 6
 else if (nd g n).Kind = 4 ∧ (nd g n).Arg < 1 ∨ (nd g n).Kind ≠ 4 ∧ (nd g n).Kind ≠ 3 ∧ (nd g n).Arg ≠ 0 then 1
 else if pOk (nd g n).Prog = false ∨ (nd g n).Kind ≠ 2 ∧ 0 < (nd g n).Prog.length then 13 else 0
theorem j5z : pOk [] = true := rfl
section
variable {g : GGraph} (hw : WP g.Parent g.Parent.length) (h8 : g.Parent.length ≤ 8) (hl : g.Nodes.length < 1000000)
include hw h8 hl
theorem j60 {n : Nat} (hn : n < g.Nodes.length) (hb : 0 < n → inN g (nd g (n - 1))) : qm4 g n = some (q2k g n) := by
 unfold qm4 q2k; refine jf8 (Ok.bind (jf6 hn ?_)); rw [q9d hn]; simp only [qo7, q1p, q9, Option.bind_some]; refine jf5 (fun h1 => Ok.some ?_) (fun h1 => ?_)
 · simp only [Bool.or_eq_true, decide_eq_true_eq] at h1; rw [if_pos h1]
 simp only [Bool.or_eq_false_iff, decide_eq_false_iff_not] at h1; have n1 : ¬ ((nd g n).Kind < 1 ∨ 15 < (nd g n).Kind) := by omega
 refine jf5 (fun h2 => Ok.some ?_) (fun h2 => ?_)
 · simp only [Bool.or_eq_true, Bool.and_eq_true, Bool.not_eq_true', Bool.and_eq_false_iff, decide_eq_false_iff_not, beq_iff_eq, beq_eq_false_iff_ne, ne_eq] at h2; rw [if_neg n1, if_pos (by unfold inN; omega)]
 simp only [Bool.or_eq_false_iff, Bool.and_eq_false_iff, Bool.not_eq_false', Bool.and_eq_true, decide_eq_true_eq, beq_iff_eq, beq_eq_false_iff_ne, ne_eq] at h2; have hin : inN g (nd g n) := h2.1.1; have n2 : ¬ (¬ inN g (nd g n) ∨ ((nd g n).Kind = 10 ∨ (nd g n).Kind = 11 ∨ (nd g n).Kind = 12) ∧ (nd g n).Scope = 0 ∨ ((nd g n).Kind = 1 ∨ (nd g n).Kind = 15) ∧ (nd g n).Scope ≠ 0) := by
  intro hh; rcases hh with hh | hh | hh
  · exact hh hin
  all_goals omega
 rw [j1f hw h8 hl hn hin hb]; refine Ok.bind (Ok.some ?_); refine jf5 (fun h3 => Ok.some ?_) (fun h3 => ?_)
 · rw [Bool.not_eq_true'] at h3; rw [if_neg n1, if_neg n2, if_pos h3]
 rw [Bool.not_eq_false'] at h3; have n3 : ¬ (fits g n = false) := by simp [h3]
 refine jf5 (fun h4 => Ok.some ?_) (fun h4 => ?_)
 · simp only [Bool.or_eq_true, Bool.and_eq_true, Bool.not_eq_true', decide_eq_true_eq, beq_iff_eq, beq_eq_false_iff_ne, ne_eq] at h4; rw [if_neg n1, if_neg n2, if_neg n3, if_pos (by omega)]
 simp only [Bool.or_eq_false_iff, Bool.and_eq_false_iff, Bool.not_eq_false', decide_eq_false_iff_not, beq_iff_eq, beq_eq_false_iff_ne, ne_eq] at h4; have n4 : ¬ ((nd g n).Kind = 4 ∧ (nd g n).Arg < 1 ∨ (nd g n).Kind ≠ 4 ∧ (nd g n).Kind ≠ 3 ∧ (nd g n).Arg ≠ 0) := by omega
 rw [j0p]; refine Ok.bind (Ok.some ?_); refine jf5 (fun h5 => Ok.some ?_) (fun h5 => Ok.some ?_)
 · simp only [Bool.or_eq_true, Bool.and_eq_true, Bool.not_eq_true', decide_eq_true_eq, beq_eq_false_iff_ne, ne_eq] at h5; rw [if_neg n1, if_neg n2, if_neg n3, if_neg n4, if_pos (h5.elim .inl fun h => .inr ⟨h.1, by have := h.2; omega⟩)]
 · simp only [Bool.or_eq_false_iff, Bool.and_eq_false_iff, Bool.not_eq_false', decide_eq_false_iff_not, beq_iff_eq] at h5; rw [if_neg n1, if_neg n2, if_neg n3, if_neg n4, if_neg (fun hh => hh.elim (fun a => by rw [h5.1] at a; cases a) fun a => by omega)]
theorem j2m {n : Nat} (hn : n < g.Nodes.length) (hb : 0 < n → inN g (nd g (n - 1))) (hp : (nd g n).Prog.length < 1000000000) : q74 g n = some (q2k g n) := by
 unfold q74 q2k; refine jf8 (Ok.bind (jf6 hn ?_)); rw [q9d hn]; refine jf5 (fun h1 => Ok.some ?_) (fun h1 => ?_)
 · simp only [Bool.or_eq_true, decide_eq_true_eq] at h1; rw [if_pos h1]
 simp only [Bool.or_eq_false_iff, decide_eq_false_iff_not] at h1; have n1 : ¬ ((nd g n).Kind < 1 ∨ 15 < (nd g n).Kind) := by omega
 refine jf5 (fun h2 => Ok.some ?_) (fun h2 => ?_)
 · simp only [Bool.or_eq_true, decide_eq_true_eq] at h2; rw [if_neg n1, if_pos (.inl (by unfold inN; omega))]
 simp only [Bool.or_eq_false_iff, decide_eq_false_iff_not] at h2; have hin : inN g (nd g n) := by unfold inN; omega
 have h2a := hin.1; refine jf5 (fun h3 => Ok.some ?_) (fun h3 => ?_)
 · simp only [Bool.or_eq_true, Bool.and_eq_true, decide_eq_true_eq, beq_iff_eq] at h3; rw [if_neg n1, if_pos (.inr (by omega))]
 simp only [Bool.or_eq_false_iff, Bool.and_eq_false_iff, decide_eq_false_iff_not, beq_eq_false_iff_ne, ne_eq] at h3; have n2 : ¬ (¬ inN g (nd g n) ∨ ((nd g n).Kind = 10 ∨ (nd g n).Kind = 11 ∨ (nd g n).Kind = 12) ∧ (nd g n).Scope = 0 ∨ ((nd g n).Kind = 1 ∨ (nd g n).Kind = 15) ∧ (nd g n).Scope ≠ 0) := by
  intro hh; rcases hh with hh | hh | hh
  · exact hh hin
  all_goals omega
 rw [zz0 hw h8 hl hn hin hb]; refine Ok.bind (Ok.some ?_); refine jf5 (fun h3 => Ok.some ?_) (fun h3 => ?_)
 · rw [Bool.not_eq_true'] at h3; rw [if_neg n1, if_neg n2, if_pos h3]
 rw [Bool.not_eq_false'] at h3; have n3 : ¬ (fits g n = false) := by simp [h3]
 have hJ : Ok (q1v (nd g n)) (fun r => r = if pOk (nd g n).Prog = false ∨ (nd g n).Kind ≠ 2 ∧ 0 < (nd g n).Prog.length then 13 else 0) := by
  unfold q1v; refine jf5 (fun h5 => ?_) (fun h5 => ?_)
  ·
   rw [j0n hp]; refine Ok.bind (Ok.some ?_); rw [h5]; simp only [beq_iff_eq] at h5; refine jf5 (fun h6 => Ok.some ?_) (fun h6 => Ok.some ?_)
   · rw [if_pos (.inl (by simpa using h6))]
   · simp only [Bool.not_true, Bool.false_and, Bool.or_false, Bool.not_eq_false'] at h6; rw [if_neg (fun hh => hh.elim (fun a => by rw [h6] at a; cases a) fun a => a.1 h5)]
  ·
   rw [h5]; rw [beq_eq_false_iff_ne] at h5; refine jf5 (fun h6 => Ok.some ?_) (fun h6 => Ok.some ?_)
   · rw [if_pos (.inr ⟨h5, by simpa using h6⟩)]
   ·
    have hz : (nd g n).Prog = [] := by simpa [h5] using h6
    rw [if_neg (by rw [hz, j5z]; simp)]
 have hJ' : ¬ ((nd g n).Kind = 4 ∧ (nd g n).Arg < 1 ∨ (nd g n).Kind ≠ 4 ∧ (nd g n).Kind ≠ 3 ∧ (nd g n).Arg ≠ 0) → Ok (q1v (nd g n)) (fun r => r = q2k g n) := fun n4 => Ok.mono hJ fun r hr => by
  unfold q2k; rw [hr, if_neg n1, if_neg n2, if_neg n3, if_neg n4]
 have hY : ((nd g n).Kind = 4 ∧ (nd g n).Arg < 1 ∨ (nd g n).Kind ≠ 4 ∧ (nd g n).Kind ≠ 3 ∧ (nd g n).Arg ≠ 0) → 1 = q2k g n := fun n4 => by
  unfold q2k; rw [if_neg n1, if_neg n2, if_neg n3, if_pos n4]
 refine jf5 (fun h4 => ?_) (fun h4 => ?_)
 ·
  rw [beq_iff_eq] at h4; refine jf5 (fun h5 => Ok.some ?_) (fun h5 => ?_)
  · rw [decide_eq_true_eq] at h5; exact hY (by omega)
  · rw [decide_eq_false_iff_not] at h5; exact hJ' (by omega)
 ·
  rw [beq_eq_false_iff_ne] at h4; refine jf5 (fun h5 => ?_) (fun h5 => ?_)
  · rw [beq_iff_eq] at h5; exact hJ' (by omega)
  ·
   rw [beq_eq_false_iff_ne] at h5; refine jf5 (fun h6 => Ok.some ?_) (fun h6 => ?_)
   · rw [Bool.not_eq_true', beq_eq_false_iff_ne] at h6; exact hY (.inr ⟨h4, h5, h6⟩)
   · rw [Bool.not_eq_false', beq_iff_eq] at h6; exact hJ' (by omega)
end
theorem qo6 {g : GGraph} {n : Nat} (h : q2k g n = 0) : (1 ≤ (nd g n).Kind ∧ (nd g n).Kind ≤ 15) ∧ inN g (nd g n) ∧ (((nd g n).Kind = 10 ∨ (nd g n).Kind = 11 ∨ (nd g n).Kind = 12) → (nd g n).Scope ≠ 0) ∧ (((nd g n).Kind = 1 ∨ (nd g n).Kind = 15) → (nd g n).Scope = 0) ∧ fits g n = true ∧
  ((nd g n).Kind = 4 → 1 ≤ (nd g n).Arg) ∧ ((nd g n).Kind ≠ 4 → (nd g n).Kind ≠ 3 → (nd g n).Arg = 0) ∧ pOk (nd g n).Prog = true ∧ ((nd g n).Kind ≠ 2 → (nd g n).Prog = []) := by
 unfold q2k at h
 split at h
 · cases h
 split at h
 · cases h
 split at h
 · cases h
 split at h
 · cases h
 split at h
 · cases h
 rename_i h1 h2 h3 h4 h5
 rw [not_or] at h2 h5; have hin : inN g (nd g n) := Decidable.byContradiction h2.1; rw [not_or] at h2; refine ⟨by omega, hin, fun hk hs => h2.2.1 ⟨hk, hs⟩, fun hk => Decidable.byContradiction fun hs => h2.2.2 ⟨hk, hs⟩, by simpa using h3, by omega, by omega, by simpa using h5.1, fun hk => List.eq_nil_of_length_eq_zero (by omega)⟩
def ports (k : Int) : Int := if k = 5 ∨ k = 9 then 2 else if 1 < k ∧ k ≤ 15 then 1 else 0
theorem zo5 (k : Int) : q9z k = some (ports k) := by
 unfold q9z ports; simp only [Bool.or_eq_true, Bool.and_eq_true, beq_iff_eq, decide_eq_true_eq]
 split
 · rfl
 · split <;> rfl
theorem zd5 (k : Int) : q4l k = some (ports k) := by
 unfold q4l; simp only [Bool.or_eq_true, decide_eq_true_eq]
 split
 ·
  rename_i h
  unfold ports; rw [if_neg (by omega), if_neg (by omega)]
 ·
  rename_i h
  have : k = 1 ∨ k = 2 ∨ k = 3 ∨ k = 4 ∨ k = 5 ∨ k = 6 ∨ k = 7 ∨ k = 8 ∨ k = 9 ∨ k = 10 ∨ k = 11 ∨ k = 12 ∨ k = 13 ∨ k = 14 ∨ k = 15 := by omega
  rcases this with rfl | rfl | rfl | rfl | rfl | rfl | rfl | rfl | rfl | rfl | rfl | rfl | rfl | rfl | rfl <;> rfl
def ed (g : GGraph) (n : Nat) : GEdge := g.Edges.getD n ⟨0, 0, 0, false⟩
theorem z9i {g : GGraph} {n : Nat} (h : n < g.Edges.length) : g.Edges[n] = ed g n := by unfold ed; rw [List.getD_eq_getElem?_getD, List.getElem?_eq_getElem h]; rfl
def ndI (g : GGraph) (i : Int) : GNode := nd g i.toNat
def qa5 (g : GGraph) (x : GNode) : Int := if x.Kind = 10 then g.Parent.getD x.Scope.toNat 0 else x.Scope
def qs9 (g : GGraph) (x : GNode) : Int := if x.Kind = 11 then g.Parent.getD x.Scope.toNat 0 else x.Scope
def qw0 (k : Int) : Bool := decide (6 ≤ k ∧ k ≤ 9 ∨ k = 14)
def inG (g : GGraph) (i : Int) : Prop := 0 ≤ i ∧ i < g.Nodes.length
instance (g : GGraph) (i : Int) : Decidable (inG g i) := inferInstanceAs (Decidable (_ ∧ _))
def q86 (g : GGraph) (n : Nat) : Int :=
 if ¬ (inG g (ed g n).From ∧ inG g (ed g n).To) then 7
 else if (ndI g (ed g n).From).Kind = 15 ∨ ¬ (0 ≤ (ed g n).Port ∧ (ed g n).Port < ports (ndI g (ed g n).To).Kind) then 7
 else if qs9 g (ndI g (ed g n).From) ≠ qa5 g (ndI g (ed g n).To) then 6
 else if (ed g n).To ≤ (ed g n).From ∧ (ndI g (ed g n).From).Kind ≠ 12 then 8
 else if qw0 (ndI g (ed g n).To).Kind = true ∧ (ed g n).Exchange = false then 1
 else if (g.Edges.take n).any (fun e => e.To == (ed g n).To && e.Port == (ed g n).Port) = true then 7 else 0
theorem zp1 {s : List GEdge} {f : GEdge → Option Bool} {p : GEdge → Bool} (hl : s.length < 9223372036854775808) (hf : ∀ x ∈ s, f x = some (p x)) : q62 s f = some (s.any p) := q9e hl hf
theorem j0z {l : List GEdge} (a b : Int) (hl : l.length < 1000000) : qj9 l a b = some (l.any fun e => e.To == a && e.Port == b) := by
 unfold qj9; rw [zp1 (f := fun x0_ => qi3 x0_ a b) (p := fun e => e.To == a && e.Port == b) (by omega) (fun x _ => rfl)]; rfl
section
variable {g : GGraph} (hN : ∀ n < g.Nodes.length, q2k g n = 0) (hl : g.Nodes.length < 1000000) (hE : g.Edges.length < 1000000)
include hN
theorem zj9 {i : Int} (h : inG g i) : inN g (ndI g i) ∧ 1 ≤ (ndI g i).Kind ∧ (ndI g i).Kind ≤ 15 := by
 have := qo6 (hN i.toNat (by have := h.1; have := h.2; omega)); exact ⟨this.2.1, this.1⟩
omit hN in
theorem z1u {i : Int} (h : inG g i) : idx g.Nodes i = some (ndI g i) := z01 _ h.1 h.2
theorem j37 {i : Int} (h : inG g i) : qi2 g (ndI g i) = some (qs9 g (ndI g i)) := by
 have hs := (zj9 hN h).1; unfold qi2 qs9; simp only [beq_iff_eq]
 split
 · rw [z01 0 hs.1 hs.2]; rfl
 · rfl
theorem j29 {i : Int} (h : inG g i) : q7j g (ndI g i) = some (qa5 g (ndI g i)) := by
 have hs := (zj9 hN h).1; unfold q7j qa5; simp only [beq_iff_eq]
 split
 · rw [z01 0 hs.1 hs.2]; rfl
 · rfl
theorem zo6 {i : Int} (h : inG g i) (b : Bool) : q4m g i b = some (if b then qs9 g (ndI g i) else qa5 g (ndI g i)) := by
 have hs := (zj9 hN h).1; unfold q4m qs9 qa5; rw [z1u h]; simp only [q9, Option.bind_some]; rw [z01 0 hs.1 hs.2]
 cases b <;> simp <;> split <;> simp_all
include hE
theorem j6q {n : Nat} (hn : n < g.Edges.length) : qm6 g n = some (q86 g n) := by
 unfold qm6 q86; refine jf8 (Ok.bind (jf6 hn ?_)); rw [z9i hn]; simp only [q1p]; refine Ok.bind (Ok.some ?_); refine jf5 (fun h1 => ?_) (fun h1 => Ok.some ?_)
 rotate_left
 · rw [if_pos]; simp only [Bool.and_eq_false_iff, decide_eq_false_iff_not] at h1; unfold inG; omega
 simp only [Bool.and_eq_true, decide_eq_true_eq] at h1; refine Ok.bind (Ok.some ?_); refine jf5 (fun h2 => Ok.some ?_) (fun h2 => ?_)
 · rw [if_pos]; simp only [Bool.not_eq_true', Bool.and_eq_false_iff, decide_eq_false_iff_not] at h2; unfold inG; omega
 simp only [Bool.not_eq_false', Bool.and_eq_true, decide_eq_true_eq] at h2; have n1 : ¬ ¬ (inG g (ed g n).From ∧ inG g (ed g n).To) := by simp only [inG]; omega
 rw [z1u h1, z1u h2]; refine Ok.bind (Ok.some (Ok.bind (Ok.some ?_))); refine jf5 (fun h3 => Ok.some ?_) (fun h3 => ?_)
 · rw [beq_iff_eq] at h3; rw [if_neg n1, if_pos (.inl h3)]
 rw [beq_eq_false_iff_ne] at h3; rw [zo5]; refine Ok.bind (Ok.some (Ok.bind (Ok.some ?_))); refine jf5 (fun h4 => Ok.some ?_) (fun h4 => ?_)
 · simp only [Bool.not_eq_true', Bool.and_eq_false_iff, decide_eq_false_iff_not] at h4; rw [if_neg n1, if_pos (by omega)]
 simp only [Bool.not_eq_false', Bool.and_eq_true, decide_eq_true_eq] at h4; have n2 : ¬ ((ndI g (ed g n).From).Kind = 15 ∨ ¬ (0 ≤ (ed g n).Port ∧ (ed g n).Port < ports (ndI g (ed g n).To).Kind)) := by omega
 rw [j37 hN h1, j29 hN h2]; refine Ok.bind (Ok.some (Ok.bind (Ok.some ?_))); refine jf5 (fun h5 => Ok.some ?_) (fun h5 => ?_)
 · rw [Bool.not_eq_true', beq_eq_false_iff_ne] at h5; rw [if_neg n1, if_neg n2, if_pos h5]
 rw [Bool.not_eq_false', beq_iff_eq] at h5; have n3 : ¬ (qs9 g (ndI g (ed g n).From) ≠ qa5 g (ndI g (ed g n).To)) := by omega
 refine jf5 (fun h6 => Ok.some ?_) (fun h6 => ?_)
 · simp only [Bool.and_eq_true, decide_eq_true_eq, Bool.not_eq_true', beq_eq_false_iff_ne, ne_eq] at h6; rw [if_neg n1, if_neg n2, if_neg n3, if_pos h6]
 simp only [Bool.and_eq_false_iff, decide_eq_false_iff_not, Bool.not_eq_false', beq_iff_eq] at h6; have n4 : ¬ ((ed g n).To ≤ (ed g n).From ∧ (ndI g (ed g n).From).Kind ≠ 12) := by omega
 have hk : qi1 (ndI g (ed g n).To).Kind = some (qw0 (ndI g (ed g n).To).Kind) := by
  unfold qi1 qw0
  congr 1
  rw [Bool.eq_iff_iff]; simp
 rw [hk]; refine Ok.bind (Ok.some ?_); refine jf5 (fun h7 => Ok.some ?_) (fun h7 => ?_)
 · simp only [Bool.and_eq_true, Bool.not_eq_true'] at h7; rw [if_neg n1, if_neg n2, if_neg n3, if_neg n4, if_pos h7]
 have n5 : ¬ (qw0 (ndI g (ed g n).To).Kind = true ∧ (ed g n).Exchange = false) := by rintro ⟨a, b⟩; rw [a, b] at h7; cases h7
 refine Ok.guard (by omega) ?_; rw [Int.toNat_natCast, j0z _ _ (by rw [List.length_take]; omega)]; refine Ok.bind (Ok.some ?_); refine jf5 (fun h8 => Ok.some ?_) (fun h8 => Ok.some ?_)
 · rw [if_neg n1, if_neg n2, if_neg n3, if_neg n4, if_neg n5, if_pos h8]
 · rw [if_neg n1, if_neg n2, if_neg n3, if_neg n4, if_neg n5, if_neg (by simp [h8])]
theorem j2p {n : Nat} (hn : n < g.Edges.length) : q75 g n = some (q86 g n) := by
 unfold q75 q86; refine jf8 (Ok.bind (jf6 hn ?_)); rw [z9i hn]; refine jf5 (fun h1 => Ok.some ?_) (fun h1 => ?_)
 · simp only [Bool.or_eq_true, decide_eq_true_eq] at h1; rw [if_pos (by unfold inG; omega)]
 simp only [Bool.or_eq_false_iff, decide_eq_false_iff_not] at h1; have g1 : inG g (ed g n).From := by unfold inG; omega
 have g2 : inG g (ed g n).To := by unfold inG; omega
 have n1 : ¬ ¬ (inG g (ed g n).From ∧ inG g (ed g n).To) := fun hh => hh ⟨g1, g2⟩; rw [z1u g1]; refine Ok.bind (Ok.some ?_); refine jf5 (fun h3 => Ok.some ?_) (fun h3 => ?_)
 · simp only [Bool.or_eq_true, beq_iff_eq, decide_eq_true_eq] at h3; rw [if_neg n1, if_pos (by omega)]
 simp only [Bool.or_eq_false_iff, beq_eq_false_iff_ne, ne_eq, decide_eq_false_iff_not] at h3; rw [z1u g2]; refine Ok.bind (Ok.some ?_); rw [zd5]; refine Ok.bind (Ok.some ?_); refine jf5 (fun h4 => Ok.some ?_) (fun h4 => ?_)
 · rw [decide_eq_true_eq] at h4; rw [if_neg n1, if_pos (by omega)]
 rw [decide_eq_false_iff_not] at h4; have n2 : ¬ ((ndI g (ed g n).From).Kind = 15 ∨ ¬ (0 ≤ (ed g n).Port ∧ (ed g n).Port < ports (ndI g (ed g n).To).Kind)) := by omega
 rw [zo6 hN g1, zo6 hN g2]; simp only [if_true, Bool.false_eq_true, if_false]; refine Ok.bind (Ok.some (Ok.bind (Ok.some ?_))); refine jf5 (fun h5 => Ok.some ?_) (fun h5 => ?_)
 · rw [Bool.not_eq_true', beq_eq_false_iff_ne] at h5; rw [if_neg n1, if_neg n2, if_pos h5]
 rw [Bool.not_eq_false', beq_iff_eq] at h5; have n3 : ¬ (qs9 g (ndI g (ed g n).From) ≠ qa5 g (ndI g (ed g n).To)) := by omega
 refine jf5 (fun h6 => Ok.some ?_) (fun h6 => ?_)
 · simp only [Bool.and_eq_true, decide_eq_true_eq, Bool.not_eq_true', beq_eq_false_iff_ne, ne_eq] at h6; rw [if_neg n1, if_neg n2, if_neg n3, if_pos ⟨h6.2, h6.1⟩]
 simp only [Bool.and_eq_false_iff, decide_eq_false_iff_not, Bool.not_eq_false', beq_iff_eq] at h6; have n4 : ¬ ((ed g n).To ≤ (ed g n).From ∧ (ndI g (ed g n).From).Kind ≠ 12) := by omega
 have hk : (((((ndI g (ed g n).To).Kind == 6) || ((ndI g (ed g n).To).Kind == 7)) || ((ndI g (ed g n).To).Kind == 8)) || ((ndI g (ed g n).To).Kind == 9) || ((ndI g (ed g n).To).Kind == 14)) = qw0 (ndI g (ed g n).To).Kind := by
  unfold qw0; rw [Bool.eq_iff_iff]; simp; omega
 rw [hk]; refine jf5 (fun h7 => Ok.some ?_) (fun h7 => ?_)
 · simp only [Bool.and_eq_true, Bool.not_eq_true'] at h7; rw [if_neg n1, if_neg n2, if_neg n3, if_neg n4, if_pos ⟨h7.2, h7.1⟩]
 have n5 : ¬ (qw0 (ndI g (ed g n).To).Kind = true ∧ (ed g n).Exchange = false) := by rintro ⟨a, b⟩; rw [a, b] at h7; cases h7
 have hlen : (g.Edges.take n).length = n := by rw [List.length_take]; omega
 have := jg0 (l := g.Edges.take n) (body := q5h g n (ed g n)) (Q := fun r => r = if (g.Edges.take n).any (fun e => e.To == (ed g n).To && e.Port == (ed g n).Port) = true then 7 else 0) (by omega) (fun i => ∀ x ∈ (g.Edges.take n).take i, (x.To == (ed g n).To && x.Port == (ed g n).Port) = false) 0 (fun rec i hi _ hI hr => ?_) (fun rec hI => ?_) (by simp) (Nat.zero_le _)
 · exact Ok.mono this fun r hr => by rw [hr, if_neg n1, if_neg n2, if_neg n3, if_neg n4, if_neg n5]
 ·
  have hin : i < n := by omega
  unfold q5h; rw [if_pos (by simpa using hin)]; refine Ok.bind (jf6 (show i < g.Edges.length by omega) ?_); have hge : (g.Edges.take n)[i] = g.Edges[i]'(by omega) := by simp
  rw [iw hi (by omega)]; have hno : (g.Edges[i].To == (ed g n).To && g.Edges[i].Port == (ed g n).Port) = false → Ok (rec ((i + 1 : Nat) : Int)) (fun r => r = if (g.Edges.take n).any (fun e => e.To == (ed g n).To && e.Port == (ed g n).Port) = true then 7 else 0) := fun hf => hr ((q42 hi).2 ⟨hI, by rw [hge]; exact hf⟩); refine jf5 (fun h8 => ?_) (fun h8 => hno (by rw [h8]; rfl)); refine jf5 (fun h9 => Ok.some ?_) (fun h9 => hno (by rw [h9]; simp)); have : (g.Edges.take n).any (fun e => e.To == (ed g n).To && e.Port == (ed g n).Port) = true := List.any_eq_true.2 ⟨_, List.getElem_mem hi, by rw [hge, h8, h9]; rfl⟩; rw [if_pos this]
 ·
  unfold q5h; rw [if_neg (by simp; omega)]; refine Ok.some ?_; rw [List.take_length] at hI; have : (g.Edges.take n).any (fun e => e.To == (ed g n).To && e.Port == (ed g n).Port) = false := List.any_eq_false.2 fun x hx => by simp only [hI x hx]; simp
  rw [this]; rfl
end
end VA
end Go.Proofs.YtgegekpefakacaaGreat
