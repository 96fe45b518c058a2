/-
  The law in plain words: what its plain function gives is true. No condition beyond those that each theorem names.
-/
import Derived.Test.YtbcbcdbkdljjlaaGreatWalkUT2
import Derived.Test.YtbcbcdbkdljjlaaGreatWalkUT3
import Derived.Test.YtbcbcdbkdljjlaaGreatWalkUT1
import Derived.Test.YtbcbcdbkdljjlaaGreatP03b
import Derived.Test.YtbcbcdbkdljjlaaGreatP09e
import Derived.Test.YtbcbcdbkdljjlaaGreatP18d
set_option linter.unusedSimpArgs false
set_option linter.unusedVariables false
set_option linter.unusedSectionVars false
namespace Go.Proofs.YtbcbcdbkdljjlaaGreat
open Go Go.RowKit TS VA
namespace UN
open CE (Cl Sz lens)
theorem zc0 : q5e = some true := by kernel_rfl
theorem z94 (g : GGraph) : Ok (q47 g) fun r => r = true → (g.Parent.length ≤ 20 ∧ g.Bound.length ≤ 20 ∧ g.Nodes.length ≤ 60 ∧ g.Edges.length ≤ 100) ∧ ∀ x ∈ g.Nodes, x.Prog.length ≤ 100 := by
  unfold q47; refine Ok.iteB (fun _ => Ok.some fun h => by cases h) (fun hx => ?_); simp only [Bool.or_eq_false_iff, decide_eq_false_iff_not] at hx; refine Ok.each1 (l := g.Nodes) (by omega) (fun i => ∀ x ∈ g.Nodes.take i, x.Prog.length ≤ 100) 0 (fun rec i hi _ hI hr => ?_) (fun rec hI => ?_) (by simp) (Nat.zero_le _)
  · unfold q3a
    rw [if_pos (by simpa using hi)]; refine Ok.bind (Ok.idxN hi ?_); refine Ok.iteB (fun _ => Ok.some fun h => by cases h) (fun h1 => ?_); rw [iw hi (by omega)]; exact hr ((q4s hi).2 ⟨hI, by simp at h1; omega⟩)
  · unfold q3a
    rw [if_neg (by simp)]; rw [List.take_length] at hI; exact Ok.some fun _ => ⟨by omega, hI⟩
theorem zf8 (g : GGraph) : Ok (q4p g) fun r => r = true → VA.Good g ∧ ∀ x ∈ g.Nodes, x.Prog.length ≤ 100 := by
  unfold q4p; refine Ok.bind2 (z94 g) fun b hb => ?_; refine Ok.iteB (fun _ => Ok.some fun h => by cases h) (fun h1 => ?_); obtain ⟨_, hp⟩ := hb (by simpa using h1); rw [z8z g (fun x hx => by have := hp x hx; omega)]; exact Ok.bind (Ok.some (Ok.some fun h => ⟨zb4.1 (by simpa using h), hp⟩))
structure USz (N : Nat) (u : GUnit) : Prop where
  cl : u.Cells.length ≤ 60
  rl : u.Red.length ≤ 60
  cells : ∀ c ∈ u.Cells, Sz N c
  red : ∀ c ∈ u.Red, c.length ≤ 40
theorem z8u (u : GUnit) : Ok (q44 u) fun r => r = true → USz 40 u := by
  unfold q44; refine Ok.iteB (fun _ => Ok.some fun h => by cases h) (fun hx => ?_); simp only [Bool.or_eq_false_iff, decide_eq_false_iff_not] at hx; refine Ok.each1 (l := u.Cells) (by omega) (fun i => ∀ c ∈ u.Cells.take i, Sz 40 c) 0 (fun rec i hi _ hI hr => ?_) (fun rec hI => ?_) (by simp) (Nat.zero_le _)
  · unfold q2x
    rw [if_pos (by simpa using hi)]; refine Ok.bind (Ok.idxN hi (Ok.bind2 CE.Short_ok fun b hb => ?_)); refine Ok.iteB (fun _ => Ok.some fun h => by cases h) (fun h1 => ?_); rw [iw hi (by omega)]; exact hr ((q4s hi).2 ⟨hI, hb (by simpa using h1)⟩)
  · unfold q2x
    rw [if_neg (by simp)]; rw [List.take_length] at hI; unfold q4i; refine Ok.each1 (l := u.Red) (by omega) (fun i => ∀ c ∈ u.Red.take i, c.length ≤ 40) 0 (fun rec i hi _ hJ hr => ?_) (fun rec hJ => ?_) (by simp) (Nat.zero_le _)
    · unfold q2y
      rw [if_pos (by simpa using hi)]; refine Ok.bind (Ok.idxN hi ?_); refine Ok.iteB (fun _ => Ok.some fun h => by cases h) (fun h1 => ?_); rw [iw hi (by omega)]; exact hr ((q4s hi).2 ⟨hJ, by simp at h1; omega⟩)
    · unfold q2y
      rw [if_neg (by simp)]; rw [List.take_length] at hJ; exact Ok.some fun _ => ⟨by omega, by omega, hI, hJ⟩
structure UR (g : GGraph) (u : GUnit) : Prop where
  cl : u.Cells.length = g.Nodes.length
  rl : u.Red.length = g.Nodes.length
  col : u.Colour = 0 ∨ u.Colour = 1
  cells : ∀ c ∈ u.Cells, Cl c
  red : ∀ c ∈ u.Red, CH.Rt c
theorem z5x {s : List (List GSlot)} {f : List GSlot → Option Bool} {p : List GSlot → Bool} (hl : s.length < 9223372036854775808) (hf : ∀ x ∈ s, f x = some (p x)) : q3p s f = some (s.any p) := q9y hl hf
theorem z5w {s : List (List GTime)} {f : List GTime → Option Bool} {p : List GTime → Bool} (hl : s.length < 9223372036854775808) (hf : ∀ x ∈ s, f x = some (p x)) : q3o s f = some (s.any p) := q9y hl hf
section
variable {g : GGraph} {u : GUnit} {N : Nat} (hs : USz N u) (hN : N ≤ 1000)
include hs hN
theorem zd4 {c : List GSlot} (hc : c ∈ u.Cells) : c.length < 1000000000 ∧ ∀ s ∈ c, lens 1000000 s := by
  have h := hs.cells c hc; have := h.len; exact ⟨by omega, fun s hx => by obtain ⟨a, b, d⟩ := h.each s hx; exact ⟨by omega, by omega, by omega⟩⟩
open Classical in
theorem Right_eq : q4f g u = some (decide (UR g u)) := by
  have h1 := hs.cl; have h2 := hs.rl; unfold q4f; refine Ok.eq (Ok.iteB (fun h => Ok.some ?_) (fun h => ?_))
  · symm; rw [decide_eq_false_iff_not]
    rintro ⟨a, b, c, _, _⟩; simp at h; omega
  · rw [z5x (f := fun x0_ => q5q x0_) (p := fun c => !decide (Cl c)) (by omega) (fun c hc => by unfold q5q; rw [CE.cRight_eq (zd4 hs hN hc).1 (zd4 hs hN hc).2]; rfl)]
    have hcol : u.Colour = 0 ∨ u.Colour = 1 := by simp at h; omega
    have hcl : u.Cells.length = g.Nodes.length := by simp at h; omega
    have hrl : u.Red.length = g.Nodes.length := by simp at h; omega
    refine Ok.bind (Ok.some (Ok.iteB (fun h3 => Ok.some ?_) (fun h3 => ?_)))
    · symm; rw [decide_eq_false_iff_not]
      rintro ⟨_, _, _, k, _⟩; obtain ⟨c, hc, hn⟩ := List.any_eq_true.1 h3; simp [k c hc] at hn
    · rw [z5w (f := fun x0_ => q5p x0_) (p := fun c => !decide (CH.Rt c)) (by omega) (fun c hc => by unfold q5p; rw [(CH.Right_eq' (by have := hs.red c hc; omega)).1]; rfl)]
      refine Ok.bind (Ok.some (Ok.some ?_)); rw [Bool.eq_iff_iff, decide_eq_true_eq, Bool.not_eq_true', List.any_eq_false]; rw [List.any_eq_false] at h3
      constructor
      · intro h4
        exact ⟨hcl, hrl, hcol, fun c hc => by simpa using h3 c hc, fun c hc => by simpa using h4 c hc⟩
      · rintro ⟨_, _, _, _, k⟩ c hc
        simp [k c hc]
theorem z7f : q4j u u = some true := by
  have h1 := hs.cl; have h2 := hs.rl; unfold q4j; rw [if_neg (by simp)]; refine Ok.eq (Ok.each1 (l := u.Cells) (by omega) (fun _ => True) 0 (fun rec i hi _ _ hr => ?_) (fun rec _ => ?_) trivial (Nat.zero_le _))
  · unfold q3g
    rw [if_pos (by simpa using hi)]; refine Ok.bind (Ok.idxN hi (Ok.bind (Ok.idxN hi ?_))); have hc := hs.cells _ (List.getElem_mem hi); have hcl := hc.len; rw [CE.Same_refl (by omega) (fun s hx => by obtain ⟨a, b, d⟩ := hc.each s hx; exact ⟨by omega, by omega, by omega⟩)]; refine Ok.bind (Ok.some ?_); rw [if_neg (by simp), iw hi (by omega)]; exact hr trivial
  · unfold q3g
    rw [if_neg (by simp)]; unfold q4w; refine Ok.each1 (l := u.Red) (by omega) (fun _ => True) 0 (fun rec i hi _ _ hr => ?_) (fun rec _ => ?_) trivial (Nat.zero_le _)
    · unfold q3h
      rw [if_pos (by simpa using hi)]; refine Ok.bind (Ok.idxN hi (Ok.bind (Ok.idxN hi ?_))); have hc := hs.red _ (List.getElem_mem hi); rw [CE.tSame_refl (by omega)]; refine Ok.bind (Ok.some ?_); rw [if_neg (by simp), iw hi (by omega)]; exact hr trivial
    · unfold q3h
      rw [if_neg (by simp)]; exact Ok.some rfl
end
def za7 (n : Nat) (id : Int) : GUnit := ⟨id, List.replicate n [], 0, ⟨0, 0⟩, ⟨0, 0⟩, List.replicate n [], 0, 0⟩
theorem zg2 {n : Nat} (hn : n ≤ 60) (id : Int) : USz 0 (za7 n id) := by
  refine ⟨by simpa [za7] using hn, by simpa [za7] using hn, fun c hc => ?_, fun c hc => ?_⟩
  · obtain ⟨_, rfl⟩ := List.mem_replicate.1 (show c ∈ List.replicate n [] from hc)
    exact ⟨Nat.le_refl _, by simp⟩
  · obtain ⟨_, rfl⟩ := List.mem_replicate.1 (show c ∈ List.replicate n [] from hc)
    simp
section
variable {g : GGraph} {u : GUnit} (hG : VA.Good g) (hs : USz 40 u)
include hG hs
open Classical in
noncomputable def q49 (g : GGraph) (u : GUnit) : GUnit := if UR g u then ⟨u.ID, u.Cells, 1 - u.Colour, u.Sent, u.Got, List.replicate g.Nodes.length [], u.Late, u.Backs⟩ else u
omit hG hs in
theorem z2i (hu : UR g u) : q49 g u = ⟨u.ID, u.Cells, 1 - u.Colour, u.Sent, u.Got, List.replicate g.Nodes.length [], u.Late, u.Backs⟩ := by unfold q49; rw [if_pos hu]
theorem z7c : q80 g u = some (q49 g u) := by
  have hn := hG.nl; unfold q80 q49; rw [Right_eq hs (by omega)]; refine Ok.eq (Ok.bind (Ok.some ?_))
  by_cases hu : UR g u
  · rw [if_neg (by simp [hu]), if_pos hu]
    refine Ok.guard (by omega) (Ok.some ?_); rw [wrap_i64 _ (by have := hu.col; omega)]
  · rw [if_pos (by simp [hu]), if_neg hu]
    exact Ok.some rfl
theorem z9q : USz 40 (q49 g u) := by
  have hn := hG.nl; unfold q49
  split
  · have h := zg2 (n := g.Nodes.length) (by omega) 0
    exact ⟨hs.cl, h.rl, hs.cells, h.red⟩
  · exact hs
end
theorem zl3 : CH.Rt [] := ⟨List.Pairwise.nil, fun x => ⟨fun h => by simp at h, fun h => by have := h.1; simp at this⟩⟩
theorem UnitTurns_holds (g : GGraph) (u : GUnit) (_ : Dat.ok g) (_ : Dat.ok u) : q2p g u = some true := by
  unfold q2p; rw [zc0]; refine Ok.eq (Ok.bind (Ok.some ?_)); rw [if_neg (by simp)]; refine Ok.bind2 (zf8 g) fun b hb => Ok.iteB (fun h => ?_) (fun _ => Ok.some rfl); obtain ⟨hG, hpr⟩ := hb h; refine Ok.bind2 (z8u u) fun b hb => Ok.iteB (fun h => ?_) (fun _ => Ok.some rfl); have hs := hb h; have hn := hG.nl; rw [Right_eq hs (by omega)]; refine Ok.bind (Ok.some (Ok.iteB (fun _ => Ok.some rfl) (fun h => ?_))); have hu : UR g u := by simpa using h
  have hs1 := z9q hG hs; have e1 : q49 g u = ⟨u.ID, u.Cells, 1 - u.Colour, u.Sent, u.Got, List.replicate g.Nodes.length [], u.Late, u.Backs⟩ := z2i hu; have hu1 : UR g (q49 g u) := by
    rw [e1]; refine ⟨hu.cl, List.length_replicate, ?_, hu.cells, fun c hc => ?_⟩
    · show 1 - u.Colour = 0 ∨ 1 - u.Colour = 1
      have := hu.col; omega
    · obtain ⟨_, rfl⟩ := List.mem_replicate.1 hc
      exact zl3
  have e2 : q49 g (q49 g u) = ⟨u.ID, u.Cells, u.Colour, u.Sent, u.Got, List.replicate g.Nodes.length [], u.Late, u.Backs⟩ := by
    rw [z2i hu1, e1]; have : 1 - (1 - u.Colour) = u.Colour := by omega
    simp only [this]
  rw [z7c hG hs]; refine Ok.bind (Ok.some ?_); rw [z7c hG hs1]; refine Ok.bind (Ok.some ?_); refine Ok.each1 (l := g.Nodes) (by omega) (fun _ => True) 0 (fun rec i hi _ _ hr => ?_) (fun rec _ => ?_) trivial (Nat.zero_le _)
  · unfold q28
    rw [if_pos (by simpa using hi), e2, e1]; have hir : i < (List.replicate g.Nodes.length ([] : List GTime)).length := by simpa using hi
    refine Ok.bind (Ok.idxN hir ?_); rw [if_pos (by simp)]; refine Ok.bind (Ok.idxN hir ?_); rw [if_neg (by simp), iw hi (by omega)]; exact hr trivial
  · unfold q28
    rw [if_neg (by simp)]; unfold q3d; rw [if_pos (by rw [e1, wrap_i64 _ (by have := hu.col; omega)]; simp)]; have : (⟨(q49 g (q49 g u)).ID, (q49 g (q49 g u)).Cells, (q49 g (q49 g u)).Colour, (q49 g (q49 g u)).Sent, (q49 g (q49 g u)).Got, u.Red, (q49 g (q49 g u)).Late, (q49 g (q49 g u)).Backs⟩ : GUnit) = u := by rw [e2]
    rw [this, z7f hs (by omega)]; refine Ok.bind (Ok.some ?_); rw [if_pos rfl, Right_eq hs1 (by omega)]; exact Ok.bind (Ok.some (Ok.some (by simpa using hu1)))
end UN
end Go.Proofs.YtbcbcdbkdljjlaaGreat
