/-
  The law in plain words: what its plain function gives is true. No condition beyond those that each theorem names.
-/
import Derived.Test.YtbcbcdbkdljjlaaGreatWalkUC2
import Derived.Test.YtbcbcdbkdljjlaaGreatWalkUC3
import Derived.Test.YtbcbcdbkdljjlaaGreatWalkUC1
import Derived.Test.YtbcbcdbkdljjlaaGreatP03b
import Derived.Test.YtbcbcdbkdljjlaaGreatP09e
import Derived.Test.YtbcbcdbkdljjlaaGreatP18d
set_option linter.unusedSimpArgs false
set_option linter.unusedVariables false
set_option linter.unusedSectionVars false
namespace Go.Proofs.YtbcbcdbkdljjlaaGreat
open Go Go.RowKit TS VA
namespace UN
open CE (Cl Sz lens)
theorem zk6 : q6r = some true := by kernel_rfl
theorem ze6 (g : GGraph) : Ok (q57 g) fun r => r = true → (g.Parent.length ≤ 20 ∧ g.Bound.length ≤ 20 ∧ g.Nodes.length ≤ 60 ∧ g.Edges.length ≤ 100) ∧ ∀ x ∈ g.Nodes, x.Prog.length ≤ 100 := by
  unfold q57; refine Ok.iteB (fun _ => Ok.some fun h => by cases h) (fun hx => ?_); simp only [Bool.or_eq_false_iff, decide_eq_false_iff_not] at hx; refine Ok.each1 (l := g.Nodes) (by omega) (fun i => ∀ x ∈ g.Nodes.take i, x.Prog.length ≤ 100) 0 (fun rec i hi _ hI hr => ?_) (fun rec hI => ?_) (by simp) (Nat.zero_le _)
  · unfold q41
    rw [if_pos (by simpa using hi)]; refine Ok.bind (Ok.idxN hi ?_); refine Ok.iteB (fun _ => Ok.some fun h => by cases h) (fun h1 => ?_); rw [iw hi (by omega)]; exact hr ((q44 hi).2 ⟨hI, by simp at h1; omega⟩)
  · unfold q41
    rw [if_neg (by simp)]; rw [List.take_length] at hI; exact Ok.some fun _ => ⟨by omega, hI⟩
theorem zo3 (g : GGraph) : Ok (q5x g) fun r => r = true → VA.Good g ∧ ∀ x ∈ g.Nodes, x.Prog.length ≤ 100 := by
  unfold q5x; refine Ok.bind2 (ze6 g) fun b hb => ?_; refine Ok.iteB (fun _ => Ok.some fun h => by cases h) (fun h1 => ?_); obtain ⟨_, hp⟩ := hb (by simpa using h1); rw [ze0 g (fun x hx => by have := hp x hx; omega)]; exact Ok.bind (Ok.some (Ok.some fun h => ⟨zk0.1 (by simpa using h), hp⟩))
structure USz (N : Nat) (u : GUnit) : Prop where
  cl : u.Cells.length ≤ 60
  rl : u.Red.length ≤ 60
  cells : ∀ c ∈ u.Cells, Sz N c
  red : ∀ c ∈ u.Red, c.length ≤ 40
theorem zd4 (u : GUnit) : Ok (q54 u) fun r => r = true → USz 40 u := by
  unfold q54; refine Ok.iteB (fun _ => Ok.some fun h => by cases h) (fun hx => ?_); simp only [Bool.or_eq_false_iff, decide_eq_false_iff_not] at hx; refine Ok.each1 (l := u.Cells) (by omega) (fun i => ∀ c ∈ u.Cells.take i, Sz 40 c) 0 (fun rec i hi _ hI hr => ?_) (fun rec hI => ?_) (by simp) (Nat.zero_le _)
  · unfold q3n
    rw [if_pos (by simpa using hi)]; refine Ok.bind (Ok.idxN hi (Ok.bind2 CE.Short_ok fun b hb => ?_)); refine Ok.iteB (fun _ => Ok.some fun h => by cases h) (fun h1 => ?_); rw [iw hi (by omega)]; exact hr ((q44 hi).2 ⟨hI, hb (by simpa using h1)⟩)
  · unfold q3n
    rw [if_neg (by simp)]; rw [List.take_length] at hI; unfold q5n; refine Ok.each1 (l := u.Red) (by omega) (fun i => ∀ c ∈ u.Red.take i, c.length ≤ 40) 0 (fun rec i hi _ hJ hr => ?_) (fun rec hJ => ?_) (by simp) (Nat.zero_le _)
    · unfold q3o
      rw [if_pos (by simpa using hi)]; refine Ok.bind (Ok.idxN hi ?_); refine Ok.iteB (fun _ => Ok.some fun h => by cases h) (fun h1 => ?_); rw [iw hi (by omega)]; exact hr ((q44 hi).2 ⟨hJ, by simp at h1; omega⟩)
    · unfold q3o
      rw [if_neg (by simp)]; rw [List.take_length] at hJ; exact Ok.some fun _ => ⟨by omega, by omega, hI, hJ⟩
structure UR (g : GGraph) (u : GUnit) : Prop where
  cl : u.Cells.length = g.Nodes.length
  rl : u.Red.length = g.Nodes.length
  col : u.Colour = 0 ∨ u.Colour = 1
  cells : ∀ c ∈ u.Cells, Cl c
  red : ∀ c ∈ u.Red, CH.Rt c
theorem z8k {s : List (List GSlot)} {f : List GSlot → Option Bool} {p : List GSlot → Bool} (hl : s.length < 9223372036854775808) (hf : ∀ x ∈ s, f x = some (p x)) : q4o s f = some (s.any p) := qf2 hl hf
theorem z8j {s : List (List GTime)} {f : List GTime → Option Bool} {p : List GTime → Bool} (hl : s.length < 9223372036854775808) (hf : ∀ x ∈ s, f x = some (p x)) : q4n s f = some (s.any p) := qf2 hl hf
section
variable {g : GGraph} {u : GUnit} {N : Nat} (hs : USz N u) (hN : N ≤ 1000)
include hs hN
theorem zc1 {c : List GSlot} (hc : c ∈ u.Cells) : c.length < 1000000000 ∧ ∀ s ∈ c, lens 1000000 s := by
  have h := hs.cells c hc; have := h.len; exact ⟨by omega, fun s hx => by obtain ⟨a, b, d⟩ := h.each s hx; exact ⟨by omega, by omega, by omega⟩⟩
open Classical in
theorem Right_eq : q5k g u = some (decide (UR g u)) := by
  have h1 := hs.cl; have h2 := hs.rl; unfold q5k; refine Ok.eq (Ok.iteB (fun h => Ok.some ?_) (fun h => ?_))
  · symm; rw [decide_eq_false_iff_not]
    rintro ⟨a, b, c, _, _⟩; simp at h; omega
  · rw [z8k (f := fun x0_ => q78 x0_) (p := fun c => !decide (Cl c)) (by omega) (fun c hc => by unfold q78; rw [CE.cRight_eq (zc1 hs hN hc).1 (zc1 hs hN hc).2]; rfl)]
    have hcol : u.Colour = 0 ∨ u.Colour = 1 := by simp at h; omega
    have hcl : u.Cells.length = g.Nodes.length := by simp at h; omega
    have hrl : u.Red.length = g.Nodes.length := by simp at h; omega
    refine Ok.bind (Ok.some (Ok.iteB (fun h3 => Ok.some ?_) (fun h3 => ?_)))
    · symm; rw [decide_eq_false_iff_not]
      rintro ⟨_, _, _, k, _⟩; obtain ⟨c, hc, hn⟩ := List.any_eq_true.1 h3; simp [k c hc] at hn
    · rw [z8j (f := fun x0_ => q77 x0_) (p := fun c => !decide (CH.Rt c)) (by omega) (fun c hc => by unfold q77; rw [(CH.Right_eq' (by have := hs.red c hc; omega)).1]; rfl)]
      refine Ok.bind (Ok.some (Ok.some ?_)); rw [Bool.eq_iff_iff, decide_eq_true_eq, Bool.not_eq_true', List.any_eq_false]; rw [List.any_eq_false] at h3
      constructor
      · intro h4
        exact ⟨hcl, hrl, hcol, fun c hc => by simpa using h3 c hc, fun c hc => by simpa using h4 c hc⟩
      · rintro ⟨_, _, _, _, k⟩ c hc
        simp [k c hc]
open Classical in
theorem qo3 : q1x g u = some (decide (UR g u)) := by
  have h1 := hs.cl; have h2 := hs.rl; unfold q1x; refine Ok.eq (Ok.iteB (fun h => Ok.some ?_) (fun h => ?_))
  · symm; rw [decide_eq_false_iff_not]
    rintro ⟨a, b, c, _, _⟩; simp at h; omega
  · have hcol : u.Colour = 0 ∨ u.Colour = 1 := by simp at h; omega
    have hcl : u.Cells.length = g.Nodes.length := by simp at h; omega
    have hrl : u.Red.length = g.Nodes.length := by simp at h; omega
    refine Ok.each1 (l := g.Nodes) (by omega) (fun i => (∀ c ∈ u.Cells.take i, Cl c) ∧ ∀ c ∈ u.Red.take i, CH.Rt c) 0 (fun rec i hi _ hI hr => ?_) (fun rec hI => ?_) (by simp) (Nat.zero_le _)
    · unfold q3p
      rw [if_pos (by simpa using hi)]; have hic : i < u.Cells.length := by omega
      have hir : i < u.Red.length := by omega
      refine Ok.bind (Ok.idxN hic ?_); obtain ⟨k1, k2⟩ := zc1 hs hN (List.getElem_mem hic); rw [CE.rcRight_eq k1 k2]; refine Ok.bind (Ok.some (Ok.iteB (fun h3 => ?_) (fun h3 => Ok.some ?_)))
      · simp only [decide_eq_true_eq] at h3
        refine Ok.bind (Ok.idxN hir ?_); obtain ⟨_, a, h4, h5⟩ := CH.Right_eq' (c := u.Red[i]) (by have := hs.red _ (List.getElem_mem hir); omega); rw [h4]; refine Ok.bind (Ok.some ?_); rw [h5]; refine Ok.bind (Ok.some (Ok.iteB (fun h6 => Ok.some ?_) (fun h6 => ?_)))
        · symm; rw [decide_eq_false_iff_not]
          intro hu; have := hu.red _ (List.getElem_mem hir); simp [this] at h6
        · rw [iw hi (by omega)]
          refine hr ⟨(q44 hic).2 ⟨hI.1, h3⟩, (q44 hir).2 ⟨hI.2, by simpa using h6⟩⟩
      · symm; rw [decide_eq_false_iff_not]
        intro hu; have := hu.cells _ (List.getElem_mem hic); simp [this] at h3
    · unfold q3p
      rw [if_neg (by simp)]; rw [← hcl, List.take_length] at hI; rw [hcl, ← hrl, List.take_length] at hI; exact Ok.some (by symm; rw [decide_eq_true_eq]; exact ⟨hcl, hrl, hcol, hI.1, hI.2⟩)
theorem qx9 : q1p u u = some true := by
  have h1 := hs.cl; have h2 := hs.rl; unfold q1p; rw [if_neg (by simp)]; refine Ok.eq (Ok.each1 (l := u.Cells) (by omega) (fun _ => True) 0 (fun rec i hi _ _ hr => ?_) (fun rec _ => ?_) trivial (Nat.zero_le _))
  · unfold q4b
    rw [if_pos (by simpa using hi)]; refine Ok.bind (Ok.idxN hi (Ok.bind (Ok.idxN hi ?_))); have hc := hs.cells _ (List.getElem_mem hi); have hcl := hc.len; rw [CE.Same_refl (by omega) (fun s hx => by obtain ⟨a, b, d⟩ := hc.each s hx; exact ⟨by omega, by omega, by omega⟩)]; refine Ok.bind (Ok.some ?_); rw [if_neg (by simp), iw hi (by omega)]; exact hr trivial
  · unfold q4b
    rw [if_neg (by simp)]; unfold q65; refine Ok.each1 (l := u.Red) (by omega) (fun _ => True) 0 (fun rec i hi _ _ hr => ?_) (fun rec _ => ?_) trivial (Nat.zero_le _)
    · unfold q4c
      rw [if_pos (by simpa using hi)]; refine Ok.bind (Ok.idxN hi (Ok.bind (Ok.idxN hi ?_))); have hc := hs.red _ (List.getElem_mem hi); rw [CE.tSame_refl (by omega)]; refine Ok.bind (Ok.some ?_); rw [if_neg (by simp), iw hi (by omega)]; exact hr trivial
    · unfold q4c
      rw [if_neg (by simp)]; exact Ok.some rfl
end
def z6y (n : Nat) (id : Int) : GUnit := ⟨id, List.replicate n [], 0, ⟨0, 0⟩, ⟨0, 0⟩, List.replicate n [], 0, 0⟩
theorem zu5 {g : GGraph} (hn : g.Nodes.length < 1000000) (id : Int) : qa9 g id = some (z6y g.Nodes.length id) := by
  unfold qa9; exact Ok.eq (Ok.guard (by omega) (Ok.guard (by omega) (Ok.some rfl)))
theorem z6r {α : Type} (n : Nat) (x : α) : List.replicate n x ++ [x] = List.replicate (n + 1) x := by rw [List.replicate_succ']
theorem z99 {g : GGraph} (hn : g.Nodes.length < 1000000) (id : Int) : q35 g id = some (z6y g.Nodes.length id) := by
  unfold q35; refine Ok.eq (eachG (l := g.Nodes) (by omega) (fun i (p : List (List GSlot) × List (List GTime)) => (i, p.1, p.2)) (fun p => p.1) (fun _ _ => rfl) (fun i p => p.1 = List.replicate i [] ∧ p.2 = List.replicate i []) (s0 := ([], [])) 0 (fun rec i hi p _ hI hr => ?_) (fun rec p hI => ?_) ⟨rfl, rfl⟩ (Nat.zero_le _))
  · obtain ⟨a, b⟩ := p
    obtain ⟨rfl, rfl⟩ := hI; unfold q4w; dsimp only; rw [if_pos (by simpa using hi)]; refine Ok.guard (by simp; omega) (Ok.guard (by simp; omega) ?_); rw [iw hi (by omega)]; exact hr (_, _) ⟨z6r _ _, z6r _ _⟩
  · obtain ⟨a, b⟩ := p
    obtain ⟨rfl, rfl⟩ := hI; unfold q4w; dsimp only; rw [if_neg (by simp)]; exact Ok.some rfl
theorem z9e {n : Nat} (hn : n ≤ 60) (id : Int) : USz 0 (z6y n id) := by
  refine ⟨by simpa [z6y] using hn, by simpa [z6y] using hn, fun c hc => ?_, fun c hc => ?_⟩
  · obtain ⟨_, rfl⟩ := List.mem_replicate.1 (show c ∈ List.replicate n [] from hc)
    exact ⟨Nat.le_refl _, by simp⟩
  · obtain ⟨_, rfl⟩ := List.mem_replicate.1 (show c ∈ List.replicate n [] from hc)
    simp
def qb2 (u : GUnit) (node : Int) (v : List GSlot × Bool × Bool) : GUnit × Bool :=
  if v.2.2 = true then (⟨u.ID, u.Cells.set node.toNat v.1, u.Colour, u.Sent, u.Got, u.Red, if v.2.1 = true then IntKind.i64.wrap (u.Late + 1) else u.Late, u.Backs⟩, true) else (u, false)
theorem zf0 {u : GUnit} (h1 : u.Cells.length ≤ 60) (h2 : u.Red.length ≤ 60) : q7m u = some u := by
  unfold q7m q73 q72; exact Ok.eq (Ok.bind (Ok.guard (by simp; omega) (Ok.some (Ok.bind (Ok.guard (by simp; omega) (Ok.some (Ok.some (by simp))))))))
section
variable {g : GGraph} {u : GUnit} (hG : VA.Good g) (hs : USz 40 u)
include hG hs
theorem z9j {node port : Int} {t : GTime} {r : GRec} {n : Int} (hu : UR g u) (hn : inG g node) : ∃ v, q94 g u node port t r n = some (qb2 u node v) ∧ (∃ c, idx u.Cells node = some c ∧ q17 c (ndI g node).Kind port t r n = some v) ∧ Sz 41 v.1 := by
  have hnl := hG.nl; have hcl := hu.cl; obtain ⟨k, hk, rfl⟩ : ∃ k : Nat, k < g.Nodes.length ∧ node = (k : Int) := ⟨node.toNat, by have := hn.2; have := hn.1; omega, by have := hn.1; omega⟩; have hkc : k < u.Cells.length := by omega
  obtain ⟨v, h1, h2, h3⟩ := CE.both (kind := (nd g k).Kind) (port := port) (t := t) (r := r) (n := n) (hs.cells _ (List.getElem_mem hkc)) (by omega); have hi : idx u.Cells (k : Int) = some u.Cells[k] := Ok.eq (Ok.idxN hkc rfl); have hnd : ndI g (k : Int) = nd g k := by unfold ndI; rw [Int.toNat_natCast]
  refine ⟨v, ?_, ⟨_, hi, by rw [hnd]; exact h2⟩, h3⟩; unfold q94 qb2; refine Ok.eq (Ok.bind (Ok.idxN hkc (Ok.bind (Ok.idxN hk ?_)))); rw [qq1 hk, h1]; refine Ok.bind (Ok.some (Ok.iteB (fun h => ?_) (fun h => ?_)))
  · rw [Bool.not_eq_true'] at h
    rw [if_neg (by simp [h])]; exact Ok.some rfl
  · rw [Bool.not_eq_false'] at h
    rw [zf0 hs.cl hs.rl, if_pos h]; refine Ok.bind (Ok.some (Ok.bind (Ok.idxN hkc (Ok.iteB (fun h4 => Ok.some ?_) (fun h4 => Ok.some ?_)))))
    · rw [if_pos h4]
    · rw [if_neg (by simp [h4])]
theorem z8w {node : Int} {c : List GSlot} (hn : inG g node) (hcl : u.Cells.length = g.Nodes.length) : q47 u node c = some ⟨u.ID, u.Cells.set node.toNat c, u.Colour, u.Sent, u.Got, u.Red, u.Late, u.Backs⟩ := by
  have h1 := hs.cl; unfold q47; refine Ok.eq (Ok.guard (by simp; omega) ?_); rw [List.nil_append]; exact Ok.bind (Ok.idx' hn.1 (by rw [hcl]; exact hn.2) fun x _ => Ok.some rfl)
theorem z7z {node : Int} {v : List GSlot × Bool × Bool} (hv : Sz 41 v.1) : USz 41 (qb2 u node v).1 := by
  have hup : ∀ c, Sz 40 c → Sz 41 c := fun c h => ⟨by have := h.len; omega, fun s hx => CE.lens_le (by omega) (h.each s hx)⟩; unfold qb2
  split
  · refine ⟨by simpa using hs.cl, hs.rl, fun c hc => ?_, hs.red⟩
    rcases List.mem_or_eq_of_mem_set hc with h | rfl
    · exact hup c (hs.cells c h)
    · exact hv
  · exact ⟨hs.cl, hs.rl, fun c hc => hup c (hs.cells c hc), hs.red⟩
def z4g (w : GUnit × Bool) (col : Int) : GUnit × Bool :=
  if w.2 = true then (⟨w.1.ID, w.1.Cells, w.1.Colour, w.1.Sent, (if col = 0 then ⟨IntKind.i64.wrap (w.1.Got.a0 + 1), w.1.Got.a1⟩ else ⟨w.1.Got.a0, IntKind.i64.wrap (w.1.Got.a1 + 1)⟩), w.1.Red, w.1.Late, w.1.Backs⟩, true) else w
theorem zf9 (m : GMsg) : ∃ w, qd8 g u m = some w ∧ q5q g u m = some w ∧ USz 41 w.1 := by
  have hup : USz 41 u := ⟨hs.cl, hs.rl, fun c hc => ⟨by have := (hs.cells c hc).len; omega, fun s hx => CE.lens_le (by omega) ((hs.cells c hc).each s hx)⟩, hs.red⟩; unfold qd8 q5q; rw [Right_eq hs (by omega), qo3 hs (by omega)]; simp only [w9, Option.bind_some]
  by_cases hc : UR g u ∧ 0 ≤ m.Edge ∧ m.Edge < g.Edges.length ∧ (m.Colour = 0 ∨ m.Colour = 1)
  · obtain ⟨hu, h0, h1, h2⟩ := hc
    rw [if_neg (by simp [hu]; omega), if_neg (by simp [hu]; omega)]; obtain ⟨k, hk, hke⟩ : ∃ k : Nat, k < g.Edges.length ∧ m.Edge = (k : Int) := ⟨m.Edge.toNat, by omega, by omega⟩; have hi : idx g.Edges m.Edge = some g.Edges[k] := by rw [hke]; exact Ok.eq (Ok.idxN hk rfl)
    have hin := (hG.ed.at (List.getElem_mem hk)).2.1; obtain ⟨v, e1, ⟨c, e2, e3⟩, e4⟩ := z9j (port := g.Edges[k].Port) (t := m.Time) (r := m.Rec) (n := m.N) hG hs hu hin; have hnI : idx g.Nodes g.Edges[k].To = some (ndI g g.Edges[k].To) := Ok.eq (Ok.idx' hin.1 hin.2 fun x hx => getD_some hx); simp only [hi, Option.bind_some, e1, e2, hnI, e3]; refine ⟨z4g (qb2 u g.Edges[k].To v) m.Colour, ?_, ?_, ?_⟩
    · unfold z4g
      have hs2 : (qb2 u g.Edges[k].To v).2 = v.2.2 := by unfold qb2; split <;> simp_all
      rw [hs2]; refine Ok.eq (Ok.iteB (fun h3 => ?_) (fun h3 => ?_))
      · rw [if_pos h3]
        rcases h2 with h2 | h2 <;> rw [h2]
        · exact Ok.guard (by omega) (Ok.bind (x := idx _ 0) (Ok.of_eq rfl (Ok.guard (by omega) (Ok.bind (Ok.some (Ok.bind (Ok.some (Ok.some (by rw [h3]; rfl)))))))))
        · exact Ok.guard (by omega) (Ok.bind (x := idx _ 1) (Ok.of_eq rfl (Ok.guard (by omega) (Ok.bind (Ok.some (Ok.bind (Ok.some (Ok.some (by rw [h3]; rfl)))))))))
      · rw [if_neg (by simp [h3])]
        exact Ok.some (Prod.ext rfl (by rw [hs2]))
    · refine Ok.eq (Ok.iteB (fun h3 => ?_) (fun h3 => ?_))
      · rw [Bool.not_eq_true'] at h3
        unfold z4g qb2; rw [if_neg (by simp [h3]), if_neg (by simp [h3])]; exact Ok.some rfl
      · rw [Bool.not_eq_false'] at h3
        rw [z8w hG hs hin hu.cl]; simp only [Option.bind_some]; have hg : z4g (qb2 u g.Edges[k].To v) m.Colour = (⟨u.ID, u.Cells.set g.Edges[k].To.toNat v.1, u.Colour, u.Sent, (if m.Colour = 0 then ⟨IntKind.i64.wrap (u.Got.a0 + 1), u.Got.a1⟩ else ⟨u.Got.a0, IntKind.i64.wrap (u.Got.a1 + 1)⟩), u.Red, if v.2.1 = true then IntKind.i64.wrap (u.Late + 1) else u.Late, u.Backs⟩, true) := by
          unfold z4g qb2; rw [if_pos h3, if_pos rfl]
        rw [hg]; rcases h2 with h2 | h2 <;> rw [h2]
        · refine Ok.guard (by omega) (Ok.bind (x := idx _ 0) (Ok.of_eq rfl (Ok.guard (by omega) (Ok.iteB (fun h4 => Ok.some ?_) (fun h4 => Ok.some ?_)))))
          · rw [h4]; rfl
          · rw [h4]; rfl
        · refine Ok.guard (by omega) (Ok.bind (x := idx _ 1) (Ok.of_eq rfl (Ok.guard (by omega) (Ok.iteB (fun h4 => Ok.some ?_) (fun h4 => Ok.some ?_)))))
          · rw [h4]; rfl
          · rw [h4]; rfl
    · have := z7z hG hs (node := g.Edges[k].To) e4
      unfold z4g
      split
      · exact ⟨this.cl, this.rl, this.cells, this.red⟩
      · exact this
  · refine ⟨(u, false), ?_, ?_, hup⟩
    · by_cases hu : UR g u
      · rw [if_pos (by simp [hu] at hc ⊢; omega)]
      · rw [if_pos (by simp [hu])]
    · by_cases hu : UR g u
      · rw [if_pos (by simp [hu] at hc ⊢; omega)]
      · rw [if_pos (by simp [hu])]
theorem zf6 (f : GFeed) : ∃ w, q95 g u f = some w ∧ q5p g u f = some w ∧ USz 41 w.1 := by
  have hup : USz 41 u := ⟨hs.cl, hs.rl, fun c hc => ⟨by have := (hs.cells c hc).len; omega, fun s hx => CE.lens_le (by omega) ((hs.cells c hc).each s hx)⟩, hs.red⟩; unfold q95 q5p; rw [Right_eq hs (by omega), qo3 hs (by omega)]; simp only [w9, Option.bind_some]
  by_cases hc : UR g u ∧ inG g f.Node
  · obtain ⟨hu, hin⟩ := hc
    have h0 := hin.1; have h1 := hin.2; rw [if_neg (by simp [hu]; omega), if_neg (by simp [hu]; omega)]; have hnI : idx g.Nodes f.Node = some (ndI g f.Node) := Ok.eq (Ok.idx' hin.1 hin.2 fun x hx => getD_some hx); simp only [hnI, Option.bind_some]
    by_cases hk : (ndI g f.Node).Kind = 1
    · rw [if_neg (by simp [hk]), if_neg (by simp [hk])]
      obtain ⟨v, e1, ⟨c, e2, e3⟩, e4⟩ := z9j (port := 0) (t := ⟨1, ⟨f.Epoch, 0, 0, 0⟩⟩) (r := f.Rec) (n := 1) hG hs hu hin; rw [hk] at e3; simp only [e1, e2, e3, Option.bind_some]; refine ⟨qb2 u f.Node v, rfl, ?_, z7z hG hs e4⟩; refine Ok.eq (Ok.iteB (fun h3 => ?_) (fun h3 => ?_))
      · rw [Bool.not_eq_true'] at h3
        unfold qb2; rw [if_neg (by simp [h3])]; exact Ok.some rfl
      · rw [Bool.not_eq_false'] at h3
        rw [z8w hG hs hin hu.cl]; simp only [Option.bind_some]; unfold qb2; rw [if_pos h3]; refine Ok.iteB (fun h4 => Ok.some ?_) (fun h4 => Ok.some ?_)
        · rw [if_pos h4]
        · rw [if_neg (by simp [h4])]
    · rw [if_pos (by simp [hk]), if_pos (by simp [hk])]
      exact ⟨(u, false), rfl, rfl, hup⟩
  · refine ⟨(u, false), ?_, ?_, hup⟩
    · by_cases hu : UR g u
      · rw [if_pos (by simp [hu, inG] at hc ⊢; omega)]
      · rw [if_pos (by simp [hu])]
    · by_cases hu : UR g u
      · rw [if_pos (by simp [hu, inG] at hc ⊢; omega)]
      · rw [if_pos (by simp [hu])]
open Classical in
noncomputable def z16 (g : GGraph) (u : GUnit) : GUnit := if UR g u then ⟨u.ID, u.Cells, 1 - u.Colour, u.Sent, u.Got, List.replicate g.Nodes.length [], u.Late, u.Backs⟩ else u
theorem zq0 : qd7 g u = some (z16 g u) := by
  have hn := hG.nl; unfold qd7 z16; rw [Right_eq hs (by omega)]; refine Ok.eq (Ok.bind (Ok.some ?_))
  by_cases hu : UR g u
  · rw [if_neg (by simp [hu]), if_pos hu]
    refine Ok.guard (by omega) (Ok.some ?_); rw [wrap_i64 _ (by have := hu.col; omega)]
  · rw [if_pos (by simp [hu]), if_neg hu]
    exact Ok.some rfl
theorem zi5 : q5m g u = some (z16 g u) := by
  have hn := hG.nl; unfold q5m z16; rw [qo3 hs (by omega)]; refine Ok.eq (Ok.bind (Ok.some ?_))
  by_cases hu : UR g u
  · rw [if_neg (by simp [hu]), if_pos hu, z99 (by omega)]
    refine Ok.bind (Ok.some (Ok.iteB (fun h => Ok.some ?_) (fun h => Ok.some ?_)))
    · have : u.Colour = 0 := by simpa using h
      rw [this]; rfl
    · have : u.Colour = 1 := by have := hu.col; simp at h; omega
      rw [this]; rfl
  · rw [if_pos (by simp [hu]), if_neg hu]
    exact Ok.some rfl
theorem zh1 : USz 40 (z16 g u) := by
  have hn := hG.nl; unfold z16
  split
  · have h := z9e (n := g.Nodes.length) (by omega) 0
    exact ⟨hs.cl, h.rl, hs.cells, h.red⟩
  · exact hs
end
theorem UnitComes_holds (g : GGraph) (u : GUnit) (m : GMsg) (f : GFeed) (id : Int) (_ : Dat.ok g) (_ : Dat.ok u) (_ : Dat.ok m) (_ : Dat.ok f) (_ : inI .i64 id) : q3c g u m f id = some true := by
  unfold q3c; rw [zk6]; refine Ok.eq (Ok.bind (Ok.some ?_)); rw [if_neg (by simp)]; refine Ok.bind2 (zo3 g) fun b hb => Ok.iteB (fun h => ?_) (fun _ => Ok.some rfl); obtain ⟨hG, hpr⟩ := hb h; refine Ok.bind2 (zd4 u) fun b hb => Ok.iteB (fun _ => Ok.some rfl) (fun h => ?_); have hs := hb (by simpa using h); have hn := hG.nl; have hup : ∀ {w : GUnit}, USz 41 w → q1p w w = some true := fun h => qx9 h (by omega); rw [zu5 (by omega), z99 (by omega)]; refine Ok.bind (Ok.some (Ok.bind (Ok.some ?_))); rw [qx9 (z9e (by omega) id) (by omega)]; refine Ok.bind (Ok.some ?_); rw [if_pos rfl, Right_eq hs (by omega), qo3 hs (by omega)]; refine Ok.bind (Ok.some (Ok.bind (Ok.some ?_))); rw [if_neg (by simp)]; obtain ⟨w, h1, h2, h3⟩ := zf9 hG hs m; rw [h1, h2]; refine Ok.bind (Ok.some (Ok.bind (Ok.some ?_))); rw [if_pos (by simp), hup h3]; refine Ok.bind (Ok.some ?_); rw [if_neg (by simp)]; obtain ⟨w, h1, h2, h3⟩ := zf6 hG hs f; rw [h1, h2]; refine Ok.bind (Ok.some (Ok.bind (Ok.some ?_))); rw [if_pos (by simp), hup h3]; refine Ok.bind (Ok.some ?_); rw [if_pos rfl, zq0 hG hs, zi5 hG hs]; refine Ok.bind (Ok.some (Ok.bind (Ok.some ?_))); rw [qx9 (zh1 hG hs) (by omega)]; exact Ok.bind (Ok.some (Ok.some rfl))
end UN
end Go.Proofs.YtbcbcdbkdljjlaaGreat
