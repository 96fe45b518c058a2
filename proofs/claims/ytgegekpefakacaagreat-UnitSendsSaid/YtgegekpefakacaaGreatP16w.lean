/-
  The law in plain words: what its plain function gives is true. No condition beyond those that each theorem names.
-/
import Derived.Test.YtgegekpefakacaaGreatWalkUS1
import Derived.Test.YtgegekpefakacaaGreatP16v
import Derived.Test.YtgegekpefakacaaGreatPTa
import Derived.Test.YtgegekpefakacaaGreatP10h
namespace Go.Proofs.YtgegekpefakacaaGreat
open Go Go.RowKit TS VA
namespace UN
open CE (Cl Sz lens q5c)
open Classical
theorem j6w (x y : GPoint) : ∃ n, q6r x y = some n := by
 unfold q6r; rw [TS.less_eq, TS.less_eq]; simp only [q9, Option.bind_some]
 split
 · exact ⟨_, rfl⟩
 · split <;> exact ⟨_, rfl⟩
def j34 (g : GGraph) (u : GUnit) (p : GPoint) : Prop := ∃ n : Nat, n < g.Nodes.length ∧ p.Node = (n : Int) ∧ (nd g n).Kind ≠ 15 ∧ p.Time ∈ q5c (u.Cells.getD n [])
structure Big (u : GUnit) : Prop where
 cl : u.Cells.length ≤ 60
 rl : u.Red.length ≤ 60
 cells : ∀ c ∈ u.Cells, c.length ≤ 1000 ∧ ∀ s ∈ c, lens 100000 s
 red : ∀ c ∈ u.Red, c.length ≤ 1000
theorem USz.big {u : GUnit} (h : USz 40 u) : Big u := ⟨h.cl, h.rl, fun c hc => ⟨by have := (h.cells c hc).len; omega, fun s hs => CE.lens_le (by omega) ((h.cells c hc).each s hs)⟩, fun c hc => by have := h.red c hc; omega⟩
theorem ze7 {g : GGraph} {u : GUnit} (hb : Big u) : q6q g u = some (decide (UR g u)) := by
 have h1 := hb.cl; have h2 := hb.rl; unfold q6q; refine jf8 (jf5 (fun h => Ok.some ?_) (fun h => ?_))
 ·
  symm; rw [decide_eq_false_iff_not]
  rintro ⟨a, b, c, _, _⟩; simp at h; omega
 ·
  rw [z6y (f := fun x0_ => q69 x0_) (p := fun c => !decide (Cl c)) (by omega) (fun c hc => by unfold q69; rw [CE.cRight_eq (by have := (hb.cells c hc).1; omega) (fun s hs => CE.lens_le (by omega) ((hb.cells c hc).2 s hs))]; rfl)]; have hcol : u.Colour = 0 ∨ u.Colour = 1 := by simp at h; omega
  have hcl : u.Cells.length = g.Nodes.length := by simp at h; omega
  have hrl : u.Red.length = g.Nodes.length := by simp at h; omega
  refine Ok.bind (Ok.some (jf5 (fun h3 => Ok.some ?_) (fun h3 => ?_)))
  ·
   symm; rw [decide_eq_false_iff_not]
   rintro ⟨_, _, _, k, _⟩; obtain ⟨c, hc, hn⟩ := List.any_eq_true.1 h3; simp [k c hc] at hn
  ·
   rw [z6x (f := fun x0_ => q68 x0_) (p := fun c => !decide (CH.Rt c)) (by omega) (fun c hc => by unfold q68; rw [CH.Right1 (by have := hb.red c hc; omega)]; rfl)]; refine Ok.bind (Ok.some (Ok.some ?_)); rw [Bool.eq_iff_iff, decide_eq_true_eq, Bool.not_eq_true', List.any_eq_false]; rw [List.any_eq_false] at h3
   constructor
   · intro h4; exact ⟨hcl, hrl, hcol, fun c hc => by simpa using h3 c hc, fun c hc => by simpa using h4 c hc⟩
   · rintro ⟨_, _, _, _, k⟩ c hc; simp [k c hc]
theorem zc5 (c : List GSlot) : (q5c c).length ≤ c.length := by
 unfold q5c
 split
 · rw [List.length_map]; exact List.length_filter_le _ _
 · exact Nat.zero_le _
theorem ze8 {g : GGraph} {u : GUnit} (hb : Big u) (hn : g.Nodes.length ≤ 32) : Ok (q7l g u) fun r => (UR g u → ∀ p, p ∈ r ↔ j34 g u p) ∧ (¬ UR g u → r = []) ∧ r.length < 100000 := by
 unfold q7l; rw [ze7 hb]; refine Ok.bind (Ok.some (jf5 (fun h => Ok.some ?_) (fun h => ?_)))
 ·
  have hu : ¬ UR g u := by simpa using h
  exact ⟨fun x => absurd x hu, fun _ => rfl, by simp⟩
 have hu : UR g u := by simpa using h
 have hcl := hu.cl; refine (eachG (l := u.Cells) (by omega) (fun i (a : List GPoint) => (i, a)) (fun p => p.1) (fun _ _ => rfl) (fun i a => a.length ≤ 1000 * i ∧ ∀ p, p ∈ a ↔ ∃ n : Nat, n < i ∧ p.Node = (n : Int) ∧ (nd g n).Kind ≠ 15 ∧ p.Time ∈ q5c (u.Cells.getD n [])) (Q := fun r => r.length < 100000 ∧ ∀ p, p ∈ r ↔ j34 g u p) 0 (fun rec i hi a _ hI hr => ?_) (fun rec a hI => ?_) ⟨by simp, by simp⟩ (Nat.zero_le _)).mono fun r hr => ⟨fun _ => hr.2, fun x => absurd hu x, hr.1⟩
 ·
  obtain ⟨I1, I2⟩ := hI; have hin : i < g.Nodes.length := by omega
  obtain ⟨c1, c2⟩ := hb.cells _ (List.getElem_mem hi); have hgd : u.Cells.getD i [] = u.Cells[i] := by rw [List.getD_eq_getElem?_getD, List.getElem?_eq_getElem hi]; rfl
  have hsucc : ∀ p : GPoint, (∃ n : Nat, n < i + 1 ∧ p.Node = (n : Int) ∧ (nd g n).Kind ≠ 15 ∧ p.Time ∈ q5c (u.Cells.getD n [])) ↔ (∃ n : Nat, n < i ∧ p.Node = (n : Int) ∧ (nd g n).Kind ≠ 15 ∧ p.Time ∈ q5c (u.Cells.getD n [])) ∨ (p.Node = (i : Int) ∧ (nd g i).Kind ≠ 15 ∧ p.Time ∈ q5c u.Cells[i]) := fun p => by
   constructor
   ·
    rintro ⟨n, a1, a2, a3, a4⟩; rcases Nat.lt_or_ge n i with h | h
    · exact .inl ⟨n, h, a2, a3, a4⟩
    ·
     obtain rfl : n = i := by omega
     rw [hgd] at a4; exact .inr ⟨a2, a3, a4⟩
   ·
    rintro (⟨n, a1, a2, a3, a4⟩ | ⟨a2, a3, a4⟩)
    · exact ⟨n, by omega, a2, a3, a4⟩
    · exact ⟨i, by omega, a2, a3, by rw [hgd]; exact a4⟩
  unfold qg8; dsimp only; rw [if_pos (by simpa using hi), iw hi (by omega)]; refine Ok.bind (jf6 hi (Ok.bind (jf6 hin ?_))); rw [q9d hin]; refine jf5 (fun hk => ?_) (fun hk => ?_)
  ·
   have hk15 : (nd g i).Kind = 15 := by simpa using hk
   refine hr a ⟨by omega, fun p => ?_⟩; rw [I2, hsucc]; exact ⟨.inl, fun h => h.elim id fun h => absurd hk15 h.2.1⟩
  ·
   have hk15 : (nd g i).Kind ≠ 15 := by simpa using hk
   rw [CE.Stale_eq (by omega) (fun s hs => CE.lens_le (by omega) (c2 s hs))]; have hsl := zc5 u.Cells[i]; refine Ok.bind (Ok.some ?_); refine eachG (l := q5c u.Cells[i]) (by omega) (fun k (b : List GPoint) => (k, b)) (fun p => p.1) (fun _ _ => rfl) (fun k b => b = a ++ ((q5c u.Cells[i]).take k).map (fun t => (⟨(i : Int), t⟩ : GPoint))) 0 (fun rec' k hk b _ hb' hr' => ?_) (fun rec' b hb' => ?_) (by simp) (Nat.zero_le _)
   · subst hb'; unfold qg7; dsimp only; rw [if_pos (by simpa using hk), iw hk (by omega)]; refine Ok.bind (jf6 hk (Ok.guard (by simp; omega) (hr' _ ?_))); rw [List.take_succ_eq_append_getElem hk, List.map_append, List.append_assoc]; rfl
   ·
    subst hb'; unfold qg7; dsimp only; rw [if_neg (by simp), List.take_length, iw hi (by omega)]; refine hr _ ⟨by simp; omega, fun p => ?_⟩; rw [List.mem_append, I2, hsucc, List.mem_map]
    constructor
    ·
     rintro (h | ⟨t, h, rfl⟩)
     · exact .inl h
     · exact .inr ⟨rfl, hk15, h⟩
    ·
     rintro (h | ⟨h1, _, h3⟩)
     · exact .inl h
     · exact .inr ⟨p.Time, h3, by rw [← h1]⟩
 · obtain ⟨I1, I2⟩ := hI; unfold qg8; dsimp only; rw [if_neg (by simp)]; unfold qg6; have hcl60 := hb.cl; refine jf4 (SP.stable_perm (cmp := fun x0_ x1_ => q6r x0_ x1_) j6w (by omega)) fun r hr => Ok.guard hr.length_eq (Ok.some ⟨by rw [hr.length_eq]; omega, fun p => ?_⟩); rw [hr.mem_iff, I2]; unfold j34; rw [hcl]
end UN
end Go.Proofs.YtgegekpefakacaaGreat
