/-
  The law in plain words: what its plain function gives is true. No condition beyond those that each theorem names.
-/
import Derived.Test.YtbcbcdbkdljjlaaGreatWalkUT1
import Derived.Test.YtbcbcdbkdljjlaaGreatP09b
set_option linter.unusedSimpArgs false
set_option linter.unusedVariables false
set_option linter.unusedSectionVars false
namespace Go.Proofs.YtbcbcdbkdljjlaaGreat
open Go Go.RowKit
namespace VA
instance (g : GGraph) (x : GNode) : Decidable (inN g x) := inferInstanceAs (Decidable (_ ∧ _))
def q3q (g : GGraph) (n : Nat) : Int :=
  if (nd g n).Kind < 1 ∨ 15 < (nd g n).Kind then 1
  else if ¬ inN g (nd g n) ∨ ((nd g n).Kind = 10 ∨ (nd g n).Kind = 11 ∨ (nd g n).Kind = 12) ∧ (nd g n).Scope = 0 ∨ ((nd g n).Kind = 1 ∨ (nd g n).Kind = 15) ∧ (nd g n).Scope ≠ 0 then 6
  else if fits g n = false then 6
  else if (nd g n).Kind = 4 ∧ (nd g n).Arg < 1 ∨ (nd g n).Kind ≠ 4 ∧ (nd g n).Kind ≠ 3 ∧ (nd g n).Arg ≠ 0 then 1
  else if pOk (nd g n).Prog = false ∨ (nd g n).Kind ≠ 2 ∧ 0 < (nd g n).Prog.length then 13 else 0
theorem zg1 : pOk [] = true := rfl
section
variable {g : GGraph} (hw : WP g.Parent g.Parent.length) (h8 : g.Parent.length ≤ 8) (hl : g.Nodes.length < 1000000)
include hw h8 hl
theorem za0 {n : Nat} (hn : n < g.Nodes.length) (hb : 0 < n → inN g (nd g (n - 1))) (hp : (nd g n).Prog.length < 1000000000) : q4l g n = some (q3q g n) := by
  unfold q4l q3q; refine Ok.eq (Ok.bind (Ok.idxN hn ?_)); rw [qr7 hn]; refine Ok.iteB (fun h1 => Ok.some ?_) (fun h1 => ?_)
  · simp only [Bool.or_eq_true, decide_eq_true_eq] at h1
    rw [if_pos h1]
  simp only [Bool.or_eq_false_iff, decide_eq_false_iff_not] at h1; have n1 : ¬ ((nd g n).Kind < 1 ∨ 15 < (nd g n).Kind) := by omega
  refine Ok.iteB (fun h2 => Ok.some ?_) (fun h2 => ?_)
  · simp only [Bool.or_eq_true, decide_eq_true_eq] at h2
    rw [if_neg n1, if_pos (.inl (by unfold inN; omega))]
  simp only [Bool.or_eq_false_iff, decide_eq_false_iff_not] at h2; have hin : inN g (nd g n) := by unfold inN; omega
  have h2a := hin.1; refine Ok.iteB (fun h3 => Ok.some ?_) (fun h3 => ?_)
  · simp only [Bool.or_eq_true, Bool.and_eq_true, decide_eq_true_eq, beq_iff_eq] at h3
    rw [if_neg n1, if_pos (.inr (by omega))]
  simp only [Bool.or_eq_false_iff, Bool.and_eq_false_iff, decide_eq_false_iff_not, beq_eq_false_iff_ne, ne_eq] at h3; have n2 : ¬ (¬ inN g (nd g n) ∨ ((nd g n).Kind = 10 ∨ (nd g n).Kind = 11 ∨ (nd g n).Kind = 12) ∧ (nd g n).Scope = 0 ∨ ((nd g n).Kind = 1 ∨ (nd g n).Kind = 15) ∧ (nd g n).Scope ≠ 0) := by
    intro hh; rcases hh with hh | hh | hh
    · exact hh hin
    all_goals omega
  rw [z8d hw h8 hl hn hin hb]; refine Ok.bind (Ok.some ?_); refine Ok.iteB (fun h3 => Ok.some ?_) (fun h3 => ?_)
  · rw [Bool.not_eq_true'] at h3; rw [if_neg n1, if_neg n2, if_pos h3]
  rw [Bool.not_eq_false'] at h3; have n3 : ¬ (fits g n = false) := by simp [h3]
  have hJ : Ok (q1d (nd g n)) (fun r => r = if pOk (nd g n).Prog = false ∨ (nd g n).Kind ≠ 2 ∧ 0 < (nd g n).Prog.length then 13 else 0) := by
    unfold q1d; refine Ok.iteB (fun h5 => ?_) (fun h5 => ?_)
    · rw [z2r hp]
      refine Ok.bind (Ok.some ?_); rw [h5]; simp only [beq_iff_eq] at h5; refine Ok.iteB (fun h6 => Ok.some ?_) (fun h6 => Ok.some ?_)
      · rw [if_pos (.inl (by simpa using h6))]
      · simp only [Bool.not_true, Bool.false_and, Bool.or_false, Bool.not_eq_false'] at h6
        rw [if_neg (fun hh => hh.elim (fun a => by rw [h6] at a; cases a) fun a => a.1 h5)]
    · rw [h5]
      rw [beq_eq_false_iff_ne] at h5; refine Ok.iteB (fun h6 => Ok.some ?_) (fun h6 => Ok.some ?_)
      · rw [if_pos (.inr ⟨h5, by simpa using h6⟩)]
      · have hz : (nd g n).Prog = [] := by simpa [h5] using h6
        rw [if_neg (by rw [hz, zg1]; simp)]
  have hJ' : ¬ ((nd g n).Kind = 4 ∧ (nd g n).Arg < 1 ∨ (nd g n).Kind ≠ 4 ∧ (nd g n).Kind ≠ 3 ∧ (nd g n).Arg ≠ 0) → Ok (q1d (nd g n)) (fun r => r = q3q g n) := fun n4 => Ok.mono hJ fun r hr => by
    unfold q3q; rw [hr, if_neg n1, if_neg n2, if_neg n3, if_neg n4]
  have hY : ((nd g n).Kind = 4 ∧ (nd g n).Arg < 1 ∨ (nd g n).Kind ≠ 4 ∧ (nd g n).Kind ≠ 3 ∧ (nd g n).Arg ≠ 0) → 1 = q3q g n := fun n4 => by
    unfold q3q; rw [if_neg n1, if_neg n2, if_neg n3, if_pos n4]
  refine Ok.iteB (fun h4 => ?_) (fun h4 => ?_)
  · rw [beq_iff_eq] at h4
    refine Ok.iteB (fun h5 => Ok.some ?_) (fun h5 => ?_)
    · rw [decide_eq_true_eq] at h5; exact hY (by omega)
    · rw [decide_eq_false_iff_not] at h5; exact hJ' (by omega)
  · rw [beq_eq_false_iff_ne] at h4
    refine Ok.iteB (fun h5 => ?_) (fun h5 => ?_)
    · rw [beq_iff_eq] at h5; exact hJ' (by omega)
    · rw [beq_eq_false_iff_ne] at h5
      refine Ok.iteB (fun h6 => Ok.some ?_) (fun h6 => ?_)
      · rw [Bool.not_eq_true', beq_eq_false_iff_ne] at h6; exact hY (.inr ⟨h4, h5, h6⟩)
      · rw [Bool.not_eq_false', beq_iff_eq] at h6; exact hJ' (by omega)
end
theorem qt0 {g : GGraph} {n : Nat} (h : q3q g n = 0) : (1 ≤ (nd g n).Kind ∧ (nd g n).Kind ≤ 15) ∧ inN g (nd g n) ∧ (((nd g n).Kind = 10 ∨ (nd g n).Kind = 11 ∨ (nd g n).Kind = 12) → (nd g n).Scope ≠ 0) ∧ (((nd g n).Kind = 1 ∨ (nd g n).Kind = 15) → (nd g n).Scope = 0) ∧ fits g n = true ∧
    ((nd g n).Kind = 4 → 1 ≤ (nd g n).Arg) ∧ ((nd g n).Kind ≠ 4 → (nd g n).Kind ≠ 3 → (nd g n).Arg = 0) ∧ pOk (nd g n).Prog = true ∧ ((nd g n).Kind ≠ 2 → (nd g n).Prog = []) := by
  unfold q3q at h
  split at h
  · cases h
  split at h
  · cases h
  split at h
  · cases h
  split at h
  · cases h
  split at h
  · cases h
  rename_i h1 h2 h3 h4 h5
  rw [not_or] at h2 h5; have hin : inN g (nd g n) := Decidable.byContradiction h2.1; rw [not_or] at h2; refine ⟨by omega, hin, fun hk hs => h2.2.1 ⟨hk, hs⟩, fun hk => Decidable.byContradiction fun hs => h2.2.2 ⟨hk, hs⟩, by simpa using h3, by omega, by omega, by simpa using h5.1, fun hk => List.eq_nil_of_length_eq_zero (by omega)⟩
def ports (k : Int) : Int := if k = 5 ∨ k = 9 then 2 else if 1 < k ∧ k ≤ 15 then 1 else 0
theorem z2s (k : Int) : q2r k = some (ports k) := by
  unfold q2r; simp only [Bool.or_eq_true, decide_eq_true_eq]
  split
  · rename_i h
    unfold ports; rw [if_neg (by omega), if_neg (by omega)]
  · rename_i h
    have : k = 1 ∨ k = 2 ∨ k = 3 ∨ k = 4 ∨ k = 5 ∨ k = 6 ∨ k = 7 ∨ k = 8 ∨ k = 9 ∨ k = 10 ∨ k = 11 ∨ k = 12 ∨ k = 13 ∨ k = 14 ∨ k = 15 := by omega
    rcases this with rfl | rfl | rfl | rfl | rfl | rfl | rfl | rfl | rfl | rfl | rfl | rfl | rfl | rfl | rfl <;> rfl
def ed (g : GGraph) (n : Nat) : GEdge := g.Edges.getD n ⟨0, 0, 0, false⟩
theorem z97 {g : GGraph} {n : Nat} (h : n < g.Edges.length) : g.Edges[n] = ed g n := by unfold ed; rw [List.getD_eq_getElem?_getD, List.getElem?_eq_getElem h]; rfl
def ndI (g : GGraph) (i : Int) : GNode := nd g i.toNat
def qx8 (g : GGraph) (x : GNode) : Int := if x.Kind = 10 then g.Parent.getD x.Scope.toNat 0 else x.Scope
def qy3 (g : GGraph) (x : GNode) : Int := if x.Kind = 11 then g.Parent.getD x.Scope.toNat 0 else x.Scope
def qr8 (k : Int) : Bool := decide (6 ≤ k ∧ k ≤ 9 ∨ k = 14)
def inG (g : GGraph) (i : Int) : Prop := 0 ≤ i ∧ i < g.Nodes.length
instance (g : GGraph) (i : Int) : Decidable (inG g i) := inferInstanceAs (Decidable (_ ∧ _))
def q82 (g : GGraph) (n : Nat) : Int :=
  if ¬ (inG g (ed g n).From ∧ inG g (ed g n).To) then 7
  else if (ndI g (ed g n).From).Kind = 15 ∨ ¬ (0 ≤ (ed g n).Port ∧ (ed g n).Port < ports (ndI g (ed g n).To).Kind) then 7
  else if qy3 g (ndI g (ed g n).From) ≠ qx8 g (ndI g (ed g n).To) then 6
  else if (ed g n).To ≤ (ed g n).From ∧ (ndI g (ed g n).From).Kind ≠ 12 then 8
  else if qr8 (ndI g (ed g n).To).Kind = true ∧ (ed g n).Exchange = false then 1
  else if (g.Edges.take n).any (fun e => e.To == (ed g n).To && e.Port == (ed g n).Port) = true then 7 else 0
section
variable {g : GGraph} (hN : ∀ n < g.Nodes.length, q3q g n = 0) (hl : g.Nodes.length < 1000000) (hE : g.Edges.length < 1000000)
include hN
theorem zj8 {i : Int} (h : inG g i) : inN g (ndI g i) ∧ 1 ≤ (ndI g i).Kind ∧ (ndI g i).Kind ≤ 15 := by
  have := qt0 (hN i.toNat (by have := h.1; have := h.2; omega)); exact ⟨this.2.1, this.1⟩
omit hN in
theorem z13 {i : Int} (h : inG g i) : idx g.Nodes i = some (ndI g i) := z4w _ h.1 h.2
theorem z5t {i : Int} (h : inG g i) (b : Bool) : q2s g i b = some (if b then qy3 g (ndI g i) else qx8 g (ndI g i)) := by
  have hs := (zj8 hN h).1; unfold q2s qy3 qx8; rw [z13 h]; simp only [j6, Option.bind_some]; rw [z4w 0 hs.1 hs.2]
  cases b <;> simp <;> split <;> simp_all
include hE
theorem za3 {n : Nat} (hn : n < g.Edges.length) : q4m g n = some (q82 g n) := by
  unfold q4m q82; refine Ok.eq (Ok.bind (Ok.idxN hn ?_)); rw [z97 hn]; refine Ok.iteB (fun h1 => Ok.some ?_) (fun h1 => ?_)
  · simp only [Bool.or_eq_true, decide_eq_true_eq] at h1
    rw [if_pos (by unfold inG; omega)]
  simp only [Bool.or_eq_false_iff, decide_eq_false_iff_not] at h1; have g1 : inG g (ed g n).From := by unfold inG; omega
  have g2 : inG g (ed g n).To := by unfold inG; omega
  have n1 : ¬ ¬ (inG g (ed g n).From ∧ inG g (ed g n).To) := fun hh => hh ⟨g1, g2⟩; rw [z13 g1]; refine Ok.bind (Ok.some ?_); refine Ok.iteB (fun h3 => Ok.some ?_) (fun h3 => ?_)
  · simp only [Bool.or_eq_true, beq_iff_eq, decide_eq_true_eq] at h3
    rw [if_neg n1, if_pos (by omega)]
  simp only [Bool.or_eq_false_iff, beq_eq_false_iff_ne, ne_eq, decide_eq_false_iff_not] at h3; rw [z13 g2]; refine Ok.bind (Ok.some ?_); rw [z2s]; refine Ok.bind (Ok.some ?_); refine Ok.iteB (fun h4 => Ok.some ?_) (fun h4 => ?_)
  · rw [decide_eq_true_eq] at h4; rw [if_neg n1, if_pos (by omega)]
  rw [decide_eq_false_iff_not] at h4; have n2 : ¬ ((ndI g (ed g n).From).Kind = 15 ∨ ¬ (0 ≤ (ed g n).Port ∧ (ed g n).Port < ports (ndI g (ed g n).To).Kind)) := by omega
  rw [z5t hN g1, z5t hN g2]; simp only [if_true, Bool.false_eq_true, if_false]; refine Ok.bind (Ok.some (Ok.bind (Ok.some ?_))); refine Ok.iteB (fun h5 => Ok.some ?_) (fun h5 => ?_)
  · rw [Bool.not_eq_true', beq_eq_false_iff_ne] at h5; rw [if_neg n1, if_neg n2, if_pos h5]
  rw [Bool.not_eq_false', beq_iff_eq] at h5; have n3 : ¬ (qy3 g (ndI g (ed g n).From) ≠ qx8 g (ndI g (ed g n).To)) := by omega
  refine Ok.iteB (fun h6 => Ok.some ?_) (fun h6 => ?_)
  · simp only [Bool.and_eq_true, decide_eq_true_eq, Bool.not_eq_true', beq_eq_false_iff_ne, ne_eq] at h6; rw [if_neg n1, if_neg n2, if_neg n3, if_pos ⟨h6.2, h6.1⟩]
  simp only [Bool.and_eq_false_iff, decide_eq_false_iff_not, Bool.not_eq_false', beq_iff_eq] at h6; have n4 : ¬ ((ed g n).To ≤ (ed g n).From ∧ (ndI g (ed g n).From).Kind ≠ 12) := by omega
  have hk : (((((ndI g (ed g n).To).Kind == 6) || ((ndI g (ed g n).To).Kind == 7)) || ((ndI g (ed g n).To).Kind == 8)) || ((ndI g (ed g n).To).Kind == 9) || ((ndI g (ed g n).To).Kind == 14)) = qr8 (ndI g (ed g n).To).Kind := by
    unfold qr8; rw [Bool.eq_iff_iff]; simp; omega
  rw [hk]; refine Ok.iteB (fun h7 => Ok.some ?_) (fun h7 => ?_)
  · simp only [Bool.and_eq_true, Bool.not_eq_true'] at h7; rw [if_neg n1, if_neg n2, if_neg n3, if_neg n4, if_pos ⟨h7.2, h7.1⟩]
  have n5 : ¬ (qr8 (ndI g (ed g n).To).Kind = true ∧ (ed g n).Exchange = false) := by rintro ⟨a, b⟩; rw [a, b] at h7; cases h7
  have hlen : (g.Edges.take n).length = n := by rw [List.length_take]; omega
  have := Ok.each1 (l := g.Edges.take n) (body := q2b g n (ed g n)) (Q := fun r => r = if (g.Edges.take n).any (fun e => e.To == (ed g n).To && e.Port == (ed g n).Port) = true then 7 else 0) (by omega) (fun i => ∀ x ∈ (g.Edges.take n).take i, (x.To == (ed g n).To && x.Port == (ed g n).Port) = false) 0 (fun rec i hi _ hI hr => ?_) (fun rec hI => ?_) (by simp) (Nat.zero_le _)
  · exact Ok.mono this fun r hr => by rw [hr, if_neg n1, if_neg n2, if_neg n3, if_neg n4, if_neg n5]
  · have hin : i < n := by omega
    unfold q2b; rw [if_pos (by simpa using hin)]; refine Ok.bind (Ok.idxN (show i < g.Edges.length by omega) ?_); have hge : (g.Edges.take n)[i] = g.Edges[i]'(by omega) := by simp
    rw [iw hi (by omega)]; have hno : (g.Edges[i].To == (ed g n).To && g.Edges[i].Port == (ed g n).Port) = false → Ok (rec ((i + 1 : Nat) : Int)) (fun r => r = if (g.Edges.take n).any (fun e => e.To == (ed g n).To && e.Port == (ed g n).Port) = true then 7 else 0) := fun hf => hr ((q4s hi).2 ⟨hI, by rw [hge]; exact hf⟩); refine Ok.iteB (fun h8 => ?_) (fun h8 => hno (by rw [h8]; rfl)); refine Ok.iteB (fun h9 => Ok.some ?_) (fun h9 => hno (by rw [h9]; simp)); have : (g.Edges.take n).any (fun e => e.To == (ed g n).To && e.Port == (ed g n).Port) = true := List.any_eq_true.2 ⟨_, List.getElem_mem hi, by rw [hge, h8, h9]; rfl⟩; rw [if_pos this]
  · unfold q2b
    rw [if_neg (by simp; omega)]; refine Ok.some ?_; rw [List.take_length] at hI; have : (g.Edges.take n).any (fun e => e.To == (ed g n).To && e.Port == (ed g n).Port) = false := List.any_eq_false.2 fun x hx => by simp only [hI x hx]; simp
    rw [this]; rfl
end
end VA
end Go.Proofs.YtbcbcdbkdljjlaaGreat
