/-
  The law in plain words: what its plain function gives is true. No condition beyond those that each theorem names.
-/
import Derived.Test.YtlpfoonihpdekaaGreatWalkWF0
import Derived.Test.YtlpfoonihpdekaaGreatP10c
import Derived.Test.YtlpfoonihpdekaaGreatP09e
set_option linter.unusedSimpArgs false
set_option linter.unusedVariables false
set_option linter.unusedSectionVars false
namespace Go.Proofs.YtlpfoonihpdekaaGreat
open Go Go.RowKit VA
namespace HP
open Classical
def dep (g : GGraph) (s : Int) : Nat := (anc g.Parent s).length
def lev (g : GGraph) (v : Nat) : Nat := if v < g.Nodes.length then dep g (q8s g (nd g v)) else 1
section
variable {g : GGraph} (hG : VA.Good g)
include hG
theorem wpG : WP g.Parent g.Parent.length := hG.wp
theorem z3w {s : Int} (h0 : 0 ≤ s) (h1 : s < g.Parent.length) : 1 ≤ dep g s ∧ dep g s ≤ 4 ∧ (s ≠ 0 → 0 ≤ g.Parent.getD s.toNat 0 ∧ g.Parent.getD s.toNat 0 < g.Parent.length ∧ dep g s = dep g (g.Parent.getD s.toNat 0) + 1 ∧ 2 ≤ dep g s) := by
 have hw := wpG hG; have hst : dep g s = dep g (g.Parent.getD s.toNat 0) + 1 := by unfold dep; rw [qg9 hw h0 h1]; rfl
 have hsc := hG.sc s.toNat (by omega); unfold sOk at hsc
 by_cases hz : s = 0
 ·
  subst hz; rw [if_pos (by rfl)] at hsc; have hp : g.Parent.getD (0 : Int).toNat 0 = -1 := by simp at hsc; exact hsc.1
  have hd : dep g 0 = 1 := by rw [hst, hp]; unfold dep; rw [qm6]; rfl
  rw [hd]; exact ⟨by omega, by omega, fun h => absurd rfl h⟩
 ·
  rw [if_neg (by omega)] at hsc; simp only [Bool.and_eq_true, decide_eq_true_eq] at hsc; have h4 : dep g s ≤ 4 := by
   have := hsc.2; unfold dep; rw [show s = ((s.toNat : Nat) : Int) by omega]; exact this
  have hp1 : 1 ≤ dep g (g.Parent.getD s.toNat 0) := by
   unfold dep; rw [qg9 hw hsc.1.1 (by omega)]; simp
  exact ⟨by omega, h4, fun _ => ⟨hsc.1.1, by omega, hst, by omega⟩⟩
theorem z6v {v : Nat} (hv : v < g.Nodes.length) : 0 ≤ (nd g v).Scope ∧ (nd g v).Scope < g.Parent.length ∧ (((nd g v).Kind = 10 ∨ (nd g v).Kind = 11 ∨ (nd g v).Kind = 12) → (nd g v).Scope ≠ 0) := by
 have := qn1 (hG.no v hv); exact ⟨this.2.1.1, this.2.1.2, this.2.2.1⟩
theorem qw8 (v : Nat) : 1 ≤ lev g v ∧ lev g v ≤ 4 := by
 unfold lev
 split
 ·
  rename_i hv
  obtain ⟨h0, h1, h2⟩ := z6v hG hv; unfold q8s
  split
  ·
   rename_i hk
   obtain ⟨p0, p1, _, _⟩ := (z3w hG h0 h1).2.2 (h2 (.inl hk)); have := z3w hG p0 p1; exact ⟨this.1, this.2.1⟩
  · have := z3w hG h0 h1; exact ⟨this.1, this.2.1⟩
 · omega
theorem z4g {v : Nat} (hv : v < g.Nodes.length) : ((nd g v).Kind = 10 → lev g v ≤ 3) ∧ ((nd g v).Kind = 11 → 2 ≤ lev g v) ∧ ((nd g v).Kind = 12 → 2 ≤ lev g v) ∧ (qm8 (lev g v) (nd g v).Kind).2.length = dep g (qq7 g (nd g v)) := by
 obtain ⟨h0, h1, h2⟩ := z6v hG hv; have hd := z3w hG h0 h1; unfold lev; rw [if_pos hv]; unfold q8s qq7 qm8
 by_cases h10 : (nd g v).Kind = 10
 · rw [if_pos h10, if_pos h10, if_neg (by omega)]; obtain ⟨p0, p1, p2, p3⟩ := hd.2.2 (h2 (.inl h10)); refine ⟨fun _ => by omega, fun h => by omega, fun h => by omega, ?_⟩; rw [List.length_replicate]; omega
 ·
  rw [if_neg h10, if_neg h10]; refine ⟨fun h => absurd h h10, fun h => (hd.2.2 (h2 (.inr (.inl h)))).2.2.2, fun h => (hd.2.2 (h2 (.inr (.inr h)))).2.2.2, ?_⟩
  by_cases h11 : (nd g v).Kind = 11
  · rw [if_pos h11, if_pos h11]; obtain ⟨p0, p1, p2, p3⟩ := hd.2.2 (h2 (.inr (.inl h11))); rw [List.length_replicate]; omega
  ·
   rw [if_neg h11, if_neg h11]
   by_cases h12 : (nd g v).Kind = 12
   · rw [if_pos h12, List.length_append, List.length_replicate, List.length_singleton]; omega
   · rw [if_neg h12, List.length_replicate]
theorem zm4 {v : Nat} (hv : v < g.Nodes.length) : q71 g (v : Int) = some (lev g v : Int) := by
 obtain ⟨h0, h1, h2⟩ := z6v hG hv; have hn := hG.nl; have hp := hG.pl; unfold q71 q1v; refine ja2 (Ok.bind (Ok.some ?_)); rw [if_neg (by simp; omega)]; refine Ok.bind (ja0 hv ?_); rw [qe1 hv]; have ht : q70 g (nd g v) = some (q8s g (nd g v)) := by
  unfold q70 q8s
  by_cases hk : (nd g v).Kind = 10
  · rw [if_pos (by simpa using hk), if_pos hk]; exact ja2 (Ok.bind (Ok.idx' h0 h1 fun x hx => Ok.some (getD_some hx)))
  · rw [if_neg (by simpa using hk), if_neg hk]
 rw [ht]; refine Ok.bind (Ok.some ?_); have hin : inS g.Parent.length (q8s g (nd g v)) := by
  unfold q8s
  split
  ·
   rename_i hk
   obtain ⟨p0, p1, _, _⟩ := (z3w hG h0 h1).2.2 (h2 (.inl hk)); exact .inr ⟨p0, p1⟩
  · exact .inr ⟨h0, h1⟩
 rw [zn1 (wpG hG) (by omega) (by omega) hin]; refine Ok.bind (Ok.some (Ok.some ?_)); unfold lev; rw [if_pos hv]; rfl
end
theorem zr2 (n : Nat) : pad (List.replicate n 0) = ⟨0, 0, 0, 0⟩ := by
 have : ∀ i, (List.replicate n (0 : Int)).getD i 0 = 0 := fun i => by
  rw [List.getD_eq_getElem?_getD, List.getElem?_replicate]; split <;> rfl
 unfold pad; rw [this, this, this, this]
theorem qz6 (F : Int) (k n : Nat) : mk F k (List.replicate n 0) = ⟨F, k, ((n - k : Nat) : Int), ⟨0, 0, 0, 0⟩, ⟨0, 0, 0, 0⟩⟩ := by
 unfold mk; rw [List.take_replicate, List.drop_replicate, zr2, zr2, List.length_replicate]
theorem z8i (n : Nat) : ∀ x ∈ List.replicate n (0 : Int), Sm x := fun x hx => by
 obtain ⟨_, rfl⟩ := List.mem_replicate.1 hx; exact ⟨by decide, by decide⟩
theorem za1 {F : Int} {k : Nat} {xs : List Int} (h : Rh F k xs) : qg7 (mk F k xs) = some (mk F k xs, true) := by
 unfold qg7; rw [qb6 h]; rfl
theorem z7d {d : Nat} (h1 : 1 ≤ d) (h4 : d ≤ 4) : Rh (d : Int) d (List.replicate d 0) ∧ qo2 (d : Int) = some (mk d d (List.replicate d 0), true) := by
 have hr : Rh (d : Int) d (List.replicate d 0) := ⟨by omega, by omega, by omega, by simp, by simpa using h1, by simpa using h4, z8i d⟩; refine ⟨hr, ?_⟩; unfold qo2; have : (⟨(d : Int), (d : Int), 0, ⟨0, 0, 0, 0⟩, ⟨0, 0, 0, 0⟩⟩ : GHop) = mk d d (List.replicate d 0) := by rw [qz6]; simp
 rw [this, za1 hr]; rfl
theorem j32 {d : Nat} (h1 : 1 ≤ d) (h3 : d ≤ 3) : Rh (d : Int) d (List.replicate (d + 1) 0) ∧ qq1 (d : Int) = some (mk d d (List.replicate (d + 1) 0), true) := by
 have hr : Rh (d : Int) d (List.replicate (d + 1) 0) := ⟨by omega, by omega, by omega, by simp, by simp, by simp; omega, z8i _⟩; refine ⟨hr, ?_⟩; unfold qq1; have : (⟨(d : Int), (d : Int), 1, ⟨0, 0, 0, 0⟩, ⟨0, 0, 0, 0⟩⟩ : GHop) = mk d d (List.replicate (d + 1) 0) := by rw [qz6]; simp
 rw [this, za1 hr]; rfl
theorem j31 {d : Nat} (h2 : 2 ≤ d) (h4 : d ≤ 4) : Rh (d : Int) (d - 1) (List.replicate (d - 1) 0) ∧ qq0 (d : Int) = some (mk d (d - 1) (List.replicate (d - 1) 0), true) := by
 have hr : Rh (d : Int) (d - 1) (List.replicate (d - 1) 0) := ⟨by omega, by omega, by omega, by simp, by simp; omega, by simp; omega, z8i _⟩; refine ⟨hr, ?_⟩; unfold qq0; rw [if_neg (by simp; omega)]; have hw : IntKind.i64.wrap ((d : Int) - 1) = ((d - 1 : Nat) : Int) := by rw [wrap_i64 _ (by omega)]; omega
 have : (⟨(d : Int), ((d - 1 : Nat) : Int), 0, ⟨0, 0, 0, 0⟩, ⟨0, 0, 0, 0⟩⟩ : GHop) = mk d (d - 1) (List.replicate (d - 1) 0) := by rw [qz6]; simp
 rw [hw, this, za1 hr]; rfl
theorem j5n {d : Nat} (h2 : 2 ≤ d) (h4 : d ≤ 4) : Rh (d : Int) d (List.replicate (d - 1) 0 ++ [1]) ∧ qu9 (d : Int) = some (mk d d (List.replicate (d - 1) 0 ++ [1]), true) := by
 have hr : Rh (d : Int) d (List.replicate (d - 1) 0 ++ [1]) := ⟨by omega, by omega, by omega, by simp; omega, by simp, by simp; omega, fun x hx => by
  rcases List.mem_append.1 hx with hx | hx
  · exact z8i _ x hx
  · rw [List.mem_singleton] at hx; subst hx; exact ⟨by decide, by decide⟩⟩
 refine ⟨hr, ?_⟩; obtain ⟨hs, _⟩ := z7d (d := d) (by omega) h4; have he : (⟨(d : Int), (d : Int), 0, ⟨0, 0, 0, 0⟩, ⟨0, 0, 0, 0⟩⟩ : GHop) = mk d d (List.replicate d 0) := by rw [qz6]; simp
 unfold qu9; rw [he, qb6 hs]; refine ja2 (Ok.bind (Ok.some ?_)); rw [if_neg (by simp)]; have hw : IntKind.i64.wrap ((d : Int) - 1) = ((d - 1 : Nat) : Int) := by rw [wrap_i64 _ (by omega)]; omega
 rw [hw]; refine Ok.guard (by omega) (Ok.bind (Ok.some (Ok.bind (Ok.some (Ok.bind (Ok.some (Ok.bind (Ok.some (Ok.some ?_))))))))); rw [Int.toNat_natCast]; rcases (by omega : d = 2 ∨ d = 3 ∨ d = 4) with rfl | rfl | rfl <;> rfl
theorem z6t {g : GGraph} (hG : VA.Good g) {e : GEdge} (he : e ∈ g.Edges) : Rp (lev g e.From.toNat : Int) (lev g e.To.toNat) (qm8 (lev g e.From.toNat) (nd g e.From.toNat).Kind) ∧
  qm3 g e = some (mkp (lev g e.From.toNat) (qm8 (lev g e.From.toNat) (nd g e.From.toNat).Kind)) := by
 obtain ⟨hf, ht, _, _, hgt, _, _⟩ := hG.ed.at he; have hfn : e.From.toNat < g.Nodes.length := by have := hf.1; have := hf.2; omega
 have htn : e.To.toNat < g.Nodes.length := by have := ht.1; have := ht.2; omega
 obtain ⟨k10, k11, k12, hlen⟩ := z4g hG hfn; obtain ⟨l1, l4⟩ := qw8 hG e.From.toNat; have hlen' : (qm8 (lev g e.From.toNat) (nd g e.From.toNat).Kind).2.length = lev g e.To.toNat := by
  rw [hlen]; have : qq7 g (nd g e.From.toNat) = q8s g (nd g e.To.toNat) := hgt; rw [this]; unfold lev; rw [if_pos htn]
 have hcast : e.From = ((e.From.toNat : Nat) : Int) := by have := hf.1; omega
 have hi : idx g.Nodes e.From = some (nd g e.From.toNat) := ja2 (Ok.idx' hf.1 hf.2 fun x hx => getD_some hx); unfold qm3; rw [hi]; have hT : q71 g e.From = some (lev g e.From.toNat : Int) := by have h := zm4 hG hfn; rw [← hcast] at h; exact h
 rw [hT]; simp only [q9, Option.bind_some]; unfold qm8 at hlen' ⊢
 by_cases h10 : (nd g e.From.toNat).Kind = 10
 · rw [if_pos h10] at hlen' ⊢; rw [if_pos (show ((nd g e.From.toNat).Kind == 10) = true by simpa using h10)]; obtain ⟨a, b⟩ := j32 l1 (k10 h10); rw [b]; exact ⟨⟨a, hlen'⟩, rfl⟩
 rw [if_neg h10] at hlen' ⊢; rw [if_neg (show ¬ ((nd g e.From.toNat).Kind == 10) = true by simpa using h10)]
 by_cases h11 : (nd g e.From.toNat).Kind = 11
 · rw [if_pos h11] at hlen' ⊢; rw [if_pos (show ((nd g e.From.toNat).Kind == 11) = true by simpa using h11)]; obtain ⟨a, b⟩ := j31 (k11 h11) l4; rw [b]; exact ⟨⟨a, hlen'⟩, rfl⟩
 rw [if_neg h11] at hlen' ⊢; rw [if_neg (show ¬ ((nd g e.From.toNat).Kind == 11) = true by simpa using h11)]
 by_cases h12 : (nd g e.From.toNat).Kind = 12
 · rw [if_pos h12] at hlen' ⊢; rw [if_pos (show ((nd g e.From.toNat).Kind == 12) = true by simpa using h12)]; obtain ⟨a, b⟩ := j5n (k12 h12) l4; rw [b]; exact ⟨⟨a, hlen'⟩, rfl⟩
 · rw [if_neg h12] at hlen' ⊢; rw [if_neg (show ¬ ((nd g e.From.toNat).Kind == 12) = true by simpa using h12)]; obtain ⟨a, b⟩ := z7d l1 l4; rw [b]; exact ⟨⟨a, hlen'⟩, rfl⟩
end HP
end Go.Proofs.YtlpfoonihpdekaaGreat
