/-
  The law in plain words: what its plain function gives is true. No condition beyond those that each theorem names.
-/
import Derived.Test.YtgegekpefakacaaGreatWalkUS1
import Derived.Test.YtgegekpefakacaaGreatWalkUS2
import Derived.Test.YtgegekpefakacaaGreatP03b
import Derived.Test.YtgegekpefakacaaGreatP09e
import Derived.Test.YtgegekpefakacaaGreatP18d
namespace Go.Proofs.YtgegekpefakacaaGreat
open Go Go.RowKit TS VA
namespace UN
open CE (Cl Sz lens)
theorem j3w : q8m = some true := by kernel_rfl
theorem j0w (g : GGraph) : Ok (q6d g) fun r => r = true → (g.Parent.length ≤ 20 ∧ g.Bound.length ≤ 20 ∧ g.Nodes.length ≤ 60 ∧ g.Edges.length ≤ 100) ∧ ∀ x ∈ g.Nodes, x.Prog.length ≤ 100 := by
 unfold q6d; refine jf5 (fun _ => Ok.some fun h => by cases h) (fun hx => ?_); simp only [Bool.or_eq_false_iff, decide_eq_false_iff_not] at hx; refine jg0 (l := g.Nodes) (by omega) (fun i => ∀ x ∈ g.Nodes.take i, x.Prog.length ≤ 100) 0 (fun rec i hi _ hI hr => ?_) (fun rec hI => ?_) (by simp) (Nat.zero_le _)
 · unfold q7c; rw [if_pos (by simpa using hi)]; refine Ok.bind (jf6 hi ?_); refine jf5 (fun _ => Ok.some fun h => by cases h) (fun h1 => ?_); rw [iw hi (by omega)]; exact hr ((q42 hi).2 ⟨hI, by simp at h1; omega⟩)
 · unfold q7c; rw [if_neg (by simp)]; rw [List.take_length] at hI; exact Ok.some fun _ => ⟨by omega, hI⟩
theorem j5t (g : GGraph) : Ok (q7e g) fun r => r = true → VA.Good g ∧ ∀ x ∈ g.Nodes, x.Prog.length ≤ 100 := by
 unfold q7e; refine jf4 (j0w g) fun b hb => ?_; refine jf5 (fun _ => Ok.some fun h => by cases h) (fun h1 => ?_); obtain ⟨_, hp⟩ := hb (by simpa using h1); rw [j0o g (fun x hx => by have := hp x hx; omega)]; exact Ok.bind (Ok.some (Ok.some fun h => ⟨zn5.1 (by simpa using h), hp⟩))
structure USz (N : Nat) (u : GUnit) : Prop where
 cl : u.Cells.length ≤ 60
 rl : u.Red.length ≤ 60
 cells : ∀ c ∈ u.Cells, Sz N c
 red : ∀ c ∈ u.Red, c.length ≤ 40
theorem j0d (u : GUnit) : Ok (q6a u) fun r => r = true → USz 40 u := by
 unfold q6a; refine jf5 (fun _ => Ok.some fun h => by cases h) (fun hx => ?_); simp only [Bool.or_eq_false_iff, decide_eq_false_iff_not] at hx; refine jg0 (l := u.Cells) (by omega) (fun i => ∀ c ∈ u.Cells.take i, Sz 40 c) 0 (fun rec i hi _ hI hr => ?_) (fun rec hI => ?_) (by simp) (Nat.zero_le _)
 · unfold q6y; rw [if_pos (by simpa using hi)]; refine Ok.bind (jf6 hi (jf4 CE.Short_ok fun b hb => ?_)); refine jf5 (fun _ => Ok.some fun h => by cases h) (fun h1 => ?_); rw [iw hi (by omega)]; exact hr ((q42 hi).2 ⟨hI, hb (by simpa using h1)⟩)
 ·
  unfold q6y; rw [if_neg (by simp)]; rw [List.take_length] at hI; unfold q6x; refine jg0 (l := u.Red) (by omega) (fun i => ∀ c ∈ u.Red.take i, c.length ≤ 40) 0 (fun rec i hi _ hJ hr => ?_) (fun rec hJ => ?_) (by simp) (Nat.zero_le _)
  · unfold q70; rw [if_pos (by simpa using hi)]; refine Ok.bind (jf6 hi ?_); refine jf5 (fun _ => Ok.some fun h => by cases h) (fun h1 => ?_); rw [iw hi (by omega)]; exact hr ((q42 hi).2 ⟨hJ, by simp at h1; omega⟩)
  · unfold q70; rw [if_neg (by simp)]; rw [List.take_length] at hJ; exact Ok.some fun _ => ⟨by omega, by omega, hI, hJ⟩
structure UR (g : GGraph) (u : GUnit) : Prop where
 cl : u.Cells.length = g.Nodes.length
 rl : u.Red.length = g.Nodes.length
 col : u.Colour = 0 ∨ u.Colour = 1
 cells : ∀ c ∈ u.Cells, Cl c
 red : ∀ c ∈ u.Red, CH.Rt c
theorem z6y {s : List (List GSlot)} {f : List GSlot → Option Bool} {p : List GSlot → Bool} (hl : s.length < 9223372036854775808) (hf : ∀ x ∈ s, f x = some (p x)) : q5m s f = some (s.any p) := q9e hl hf
theorem z6x {s : List (List GTime)} {f : List GTime → Option Bool} {p : List GTime → Bool} (hl : s.length < 9223372036854775808) (hf : ∀ x ∈ s, f x = some (p x)) : q5l s f = some (s.any p) := q9e hl hf
section
variable {g : GGraph} {u : GUnit} {N : Nat} (hs : USz N u) (hN : N ≤ 1000)
include hs hN
theorem j4z {c : List GSlot} (hc : c ∈ u.Cells) : c.length < 1000000000 ∧ ∀ s ∈ c, lens 1000000 s := by
 have h := hs.cells c hc; have := h.len; exact ⟨by omega, fun s hx => by obtain ⟨a, b, d⟩ := h.each s hx; exact ⟨by omega, by omega, by omega⟩⟩
open Classical in
theorem Right_eq : q6q g u = some (decide (UR g u)) := by
 have h1 := hs.cl; have h2 := hs.rl; unfold q6q; refine jf8 (jf5 (fun h => Ok.some ?_) (fun h => ?_))
 ·
  symm; rw [decide_eq_false_iff_not]
  rintro ⟨a, b, c, _, _⟩; simp at h; omega
 ·
  rw [z6y (f := fun x0_ => q69 x0_) (p := fun c => !decide (Cl c)) (by omega) (fun c hc => by unfold q69; rw [CE.cRight_eq (j4z hs hN hc).1 (j4z hs hN hc).2]; rfl)]; have hcol : u.Colour = 0 ∨ u.Colour = 1 := by simp at h; omega
  have hcl : u.Cells.length = g.Nodes.length := by simp at h; omega
  have hrl : u.Red.length = g.Nodes.length := by simp at h; omega
  refine Ok.bind (Ok.some (jf5 (fun h3 => Ok.some ?_) (fun h3 => ?_)))
  ·
   symm; rw [decide_eq_false_iff_not]
   rintro ⟨_, _, _, k, _⟩; obtain ⟨c, hc, hn⟩ := List.any_eq_true.1 h3; simp [k c hc] at hn
  ·
   rw [z6x (f := fun x0_ => q68 x0_) (p := fun c => !decide (CH.Rt c)) (by omega) (fun c hc => by unfold q68; rw [CH.Right1 (by have := hs.red c hc; omega)]; rfl)]; refine Ok.bind (Ok.some (Ok.some ?_)); rw [Bool.eq_iff_iff, decide_eq_true_eq, Bool.not_eq_true', List.any_eq_false]; rw [List.any_eq_false] at h3
   constructor
   · intro h4; exact ⟨hcl, hrl, hcol, fun c hc => by simpa using h3 c hc, fun c hc => by simpa using h4 c hc⟩
   · rintro ⟨_, _, _, _, k⟩ c hc; simp [k c hc]
theorem zw0 : q71 u u = some true := by
 have h1 := hs.cl; have h2 := hs.rl; unfold q71; rw [if_neg (by simp)]; refine jf8 (jg0 (l := u.Cells) (by omega) (fun _ => True) 0 (fun rec i hi _ _ hr => ?_) (fun rec _ => ?_) trivial (Nat.zero_le _))
 · unfold q7t; rw [if_pos (by simpa using hi)]; refine Ok.bind (jf6 hi (Ok.bind (jf6 hi ?_))); have hc := hs.cells _ (List.getElem_mem hi); have hcl := hc.len; rw [CE.Same_refl (by omega) (fun s hx => by obtain ⟨a, b, d⟩ := hc.each s hx; exact ⟨by omega, by omega, by omega⟩)]; refine Ok.bind (Ok.some ?_); rw [if_neg (by simp), iw hi (by omega)]; exact hr trivial
 ·
  unfold q7t; rw [if_neg (by simp)]; unfold q7s; refine jg0 (l := u.Red) (by omega) (fun _ => True) 0 (fun rec i hi _ _ hr => ?_) (fun rec _ => ?_) trivial (Nat.zero_le _)
  · unfold q7u; rw [if_pos (by simpa using hi)]; refine Ok.bind (jf6 hi (Ok.bind (jf6 hi ?_))); have hc := hs.red _ (List.getElem_mem hi); rw [CE.tSame_refl (by omega)]; refine Ok.bind (Ok.some ?_); rw [if_neg (by simp), iw hi (by omega)]; exact hr trivial
  · unfold q7u; rw [if_neg (by simp)]; exact Ok.some rfl
end
theorem j19 {u : GUnit} (h1 : u.Cells.length ≤ 60) (h2 : u.Red.length ≤ 60) : q8q u = some u := by
 unfold q8q q6u q6t; exact jf8 (Ok.bind (Ok.guard (by simp; omega) (Ok.some (Ok.bind (Ok.guard (by simp; omega) (Ok.some (Ok.some (by simp))))))))
section
variable {g : GGraph} {u : GUnit} (hG : VA.Good g) (hs : USz 40 u)
include hG hs
end
end UN
end Go.Proofs.YtgegekpefakacaaGreat
