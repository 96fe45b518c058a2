/-
  The law in plain words: what its plain function gives is true. No condition beyond those that each theorem names.
-/
import Derived.Test.YteibkihbdgphnaaGreatWalkMP0
import Derived.Test.YteibkihbdgphnaaGreatP12x
set_option linter.unusedSimpArgs false
set_option linter.unusedVariables false
set_option linter.unusedSectionVars false
open Classical renaming byContradiction -> Xa
open Int renaming toNat_natCast -> Xb
namespace Go.Proofs.YteibkihbdgphnaaGreat
open Go Go.RowKit TS VA BG
namespace MN
open Classical
structure J (g : GGraph) (a to : Nat) (sc : Int) (t : GTime) (n : Nat) (ar : Bool) (s : MS) : Prop where
 j1 : ∀ m, n <= m -> m < to -> ∀ v, under t v -> t.D < v.D -> s.ins ⟨(m : Nat), v⟩ = no2
 j2 : 2 <= t.D -> ∀ m, a <= m -> m < to -> ∀ v, later t v -> s.ins ⟨(m : Nat), v⟩ ≠ no2 -> ar = true /\ v = nxT t
 j3 : 2 <= t.D -> ∀ m, a <= m -> m < to -> (nd g m).Kind = 10 -> (nd g m).Scope = sc -> (m < n \/ lastT t ≠ 0) -> s.ins ⟨(m : Nat), leT t⟩ = no2
theorem z2x {g : GGraph} {m : Nat} {v : GTime} (h : PtM g ⟨m, v⟩) : m < g.Nodes.length /\ ok v /\ v.D = (lev g m : Int) := by
 obtain ⟨k, h1, h2, h3, h4⟩ := h; obtain rfl : m = k := by have : (m : Int) = k := h2; omega
 exact ⟨h1, h3, h4⟩
section
variable {g : GGraph} (hG : VA.Good g) {most : Int}
include hG
theorem zr7 {n : Nat} (hn : n < g.Nodes.length) {v : GTime} (hv : ok v) (hu : (q0n g n v).2 = true) {t : GTime} (ht : ok t) (hun : under t v) (h : t.D < v.D \/ (nd g n).Kind = 10) : under t (q0n g n v).1 := by
 by_cases c10 : (nd g n).Kind = 10
 .
  rw [qw4 c10] at hu ⊢
  split
  . exact z1i hun (zi3 v).1
  . rename_i c; rw [if_neg c] at hu; cases hu
 have h := h.resolve_right c10
 by_cases c11 : (nd g n).Kind = 11
 .
  rw [qw3 c11] at hu ⊢
  split
  . exact (qq1 ht hv hun h).1
  . rename_i c; rw [if_neg c] at hu; cases hu
 by_cases c12 : (nd g n).Kind = 12
 .
  rw [qw2 c12] at hu ⊢
  split
  . exact (qq1 ht hv hun h).2
  . rename_i c; rw [if_neg c] at hu; cases hu
 . rw [z0k c10 c11 c12]; exact hun
theorem j56 {a to n E : Nat} {sc : Int} {t : GTime} {ar : Bool} (hB : Blk g a to sc) (ht : ok t) (hD : t.D = (dep g sc : Int)) (hp : g.Parent.getD (nd g n).Scope.toNat 0 = sc) (hd : dep g (nd g n).Scope = dep g sc + 1) (hnE : n < E) (hE : E <= to)
  (h1 : ∀ m, n <= m -> m < E -> (nd g n).Scope ∈ anc g.Parent (nd g m).Scope) (h2 : E < to -> (nd g n).Scope ∉ anc g.Parent (nd g E).Scope) {m0 : Nat} {v0 : GTime} (hm : n <= m0) (hmE : m0 < E) (hv : ok v0 -> under t v0) {s : MS} (hW : W g s) (hJ : s.e = 0 -> J g a to sc t E ar s) :
  W g (q1m g most s m0 v0).2 /\ ((q1m g most s m0 v0).2.e = 0 -> J g a to sc t E ar (q1m g most s m0 v0).2) := by
 have hmN : m0 < g.Nodes.length := by have := hB.le; omega
 obtain ⟨hW', hK⟩ := z1c hG most hmN (t := v0) (e := v0.C.a0) (fun _ => rfl) hW; refine ⟨hW', fun hz => ?_⟩; have hJ := hJ (Xa fun hx => hK.dead hx hz); have hnN : n < g.Nodes.length := by omega
 obtain ⟨n0, n1, _⟩ := q58 hG hnN; obtain ⟨q0, q1, _⟩ := q58 hG hmN; have hc := h1 m0 hm hmE
 -- what is new
 have new : ∀ p, (q1m g most s m0 v0).2.ins p ≠ no2 -> s.ins p ≠ no2 \/ (under t p.time /\ ∃ e ∈ g.Edges, e.From = m0 /\ p.node = e.To /\ p.time.D = (lev g e.To.toNat : Int)) := fun p hx => by
  rcases z94 hz hx with h | ⟨k1, _, k3, e, k4, k5, rfl⟩
  . exact .inl h.1
  have hpt := hW _ k1; obtain ⟨_, hv0, hvD⟩ := z2x hpt; refine .inr ⟨zr7 hG hmN hv0 k3 ht (hv hv0) ?_, e, k4, k5, rfl, ?_⟩
  .
   by_cases c10 : (nd g m0).Kind = 10
   . exact .inr c10
   .
    have : lev g m0 = dep g (nd g m0).Scope := by unfold lev qf7; rw [if_neg c10]
    have := j9b hG q0 q1 hc; exact .inl (by omega)
  . obtain ⟨w, _, w1, w2, w3⟩ := (za7 hG hmN hpt k3 k4 k5).1; dsimp only at w1 w3 ⊢; rw [w1, Xb]; exact w3
 refine ⟨fun m hm1 hm2 v hu hl => Xa fun hx => ?_, fun h2D m hm1 hm2 v hl hx => ?_, fun h2D m hm1 hm2 k1 k2 k3 => Xa fun hx => ?_⟩
 .
  rcases new _ hx with h | ⟨_, e, he, hf, ht', hl'⟩
  . exact h (hJ.j1 m hm1 hm2 v hu hl)
  .
   dsimp only at ht' hl'; obtain ⟨_, _, _, _, e5, _⟩ := hG.ed.at he; have ef : ndI g e.From = nd g m0 := by rw [hf]; unfold ndI; rw [Xb]
   have et : ndI g e.To = nd g m := by rw [<- ht']; unfold ndI; rw [Xb]
   rw [ef, et] at e5; rw [<- ht', Xb] at hl'; have hmN2 : m < g.Nodes.length := by have := hB.le; omega
   obtain ⟨r0, r1, r2⟩ := q58 hG hmN2; have hgv : (nd g n).Scope ∈ anc g.Parent (q95 g (nd g m0)) := by
    unfold q95
    split
    .
     rename_i c11
     by_cases hcs : (nd g m0).Scope = (nd g n).Scope
     .
      exfalso
      have : lev g m = dep g sc := by
       unfold lev; rw [<- e5]; unfold q95; rw [if_pos c11, hcs, hp]
      omega
     . exact (z8e hG q0 q1 hc (fun e => hcs e.symm)).2
    . exact hc
   rw [e5] at hgv; have : (nd g n).Scope ∈ anc g.Parent (nd g m).Scope := by
    unfold qf7 at hgv
    split at hgv
    . rw [q63 hG.wp r0 r1]; exact List.mem_cons_of_mem _ hgv
    . exact hgv
   exact beyond hG hB.le hnE (z0u hG n0 n1) h2 hm1 hm2 this
 .
  rcases new _ hx with h | ⟨h, _⟩
  . exact hJ.j2 h2D m hm1 hm2 v hl h
  . exact absurd hl (z4j ht h)
 .
  rcases new _ hx with h | ⟨h, _⟩
  . exact h (hJ.j3 h2D m hm1 hm2 k1 k2 k3)
  . have h3 := zz8 ht (by omega); have := h.1; dsimp only at this; omega
theorem j42 {a to n : Nat} {sc : Int} {t : GTime} {ar : Bool} (hB : Blk g a to sc) (ht : ok t) (han : a <= n) (hn : n < to) (hs : (nd g n).Scope = sc) {s : MS} (hW : W g s) (hJ : s.e = 0 -> J g a to sc t n ar s) :
  W g (q1m g most s n (atA g n t)).2 /\ ((q1m g most s n (atA g n t)).2.e = 0 -> J g a to sc t (n + 1) (ar || ((q1m g most s n (atA g n t)).1 && (nd g n).Kind == 12)) (q1m g most s n (atA g n t)).2) := by
 have hnN : n < g.Nodes.length := by have := hB.le; omega
 obtain ⟨hW', hK⟩ := z1c hG most hnN (t := atA g n t) (e := (atA g n t).C.a0) (fun _ => rfl) hW; refine ⟨hW', fun hz => ?_⟩; have hJ := hJ (Xa fun hx => hK.dead hx hz); have hle : t.D ≠ 1 -> (leT t).D = t.D - 1 := zz8 ht; have hnD : (nxT t).D = t.D := zg6 ht
 -- what is new
 have new : ∀ p, (q1m g most s n (atA g n t)).2.ins p ≠ no2 -> (s.ins p ≠ no2 /\ p ≠ ⟨(n : Nat), atA g n t⟩) \/ (p.time = t \/ (t.D ≠ 1 /\ p.time = leT t /\ (nd g n).Kind = 11 /\ ∃ e ∈ g.Edges, e.From = n /\ p.node = e.To) \/ (2 <= t.D /\ p.time = nxT t /\ (q1m g most s n (atA g n t)).1 = true /\ (nd g n).Kind = 12)) := fun p hx => by
  rcases z94 hz hx with h | ⟨k1, k2, k3, e, k4, k5, rfl⟩
  . exact .inl h
  obtain ⟨_, hv0, hvD⟩ := z2x (hW _ k1); refine .inr ?_; dsimp only
  by_cases c10 : (nd g n).Kind = 10
  .
   have hat : atA g n t = qc9 t := by unfold atA; rw [if_pos c10]
   rw [hat] at k1 k3 hv0 ⊢; obtain ⟨_, h1, h2⟩ := qp1 hv0; rw [h2] at k1 k3 ⊢; have h2D : 2 <= t.D := by have := ht.1; omega
   have h0 : lastT t = 0 := Xa fun h0 => k1 (hJ.j3 h2D n han hn c10 hs (.inr h0)); rw [qw4 c10] at k3 ⊢
   split
   . exact .inl (jb0 ht h2D h0)
   . rename_i c; rw [if_neg c] at k3; cases k3
  have hat : atA g n t = t := by unfold atA; rw [if_neg c10]
  rw [hat] at k1 k2 k3 ⊢
  by_cases c11 : (nd g n).Kind = 11
  .
   rw [qw3 c11] at k3 ⊢
   split
   . rename_i c; exact .inr (.inl ⟨c.2, rfl, c11, e, k4, k5, rfl⟩)
   . rename_i c; rw [if_neg c] at k3; cases k3
  by_cases c12 : (nd g n).Kind = 12
  .
   rw [qw2 c12] at k3 ⊢
   split
   .
    obtain ⟨r0, r1, r2⟩ := q58 hG hnN; have hl : lev g n = dep g (nd g n).Scope := by unfold lev qf7; rw [if_neg c10]
    have h3 := ((z2m hG r0 r1).2.2 (r2 (by omega))).2.2.2; rw [hat] at hvD; exact .inr (.inr ⟨by omega, rfl, k2, c12⟩)
   . rename_i c; rw [if_neg c] at k3; cases k3
  . rw [z0k c10 c11 c12]; exact .inl rfl
 refine ⟨fun m hm1 hm2 v hu hl => Xa fun hx => ?_, fun h2D m hm1 hm2 v hl hx => ?_, fun h2D m hm1 hm2 k1 k2 k3 => Xa fun hx => ?_⟩
 .
  rcases new _ hx with h | h | ⟨h, h', _⟩ | ⟨h, h', _⟩
  . exact h.1 (hJ.j1 m (by omega) hm2 v hu hl)
  . dsimp only at h; subst h; omega
  . dsimp only at h'; subst h'; have := hle h; omega
  . dsimp only at h'; subst h'; omega
 .
  rcases new _ hx with h | h | ⟨h, h', _⟩ | ⟨h, h', h1, h2⟩
  . obtain ⟨r1, r2⟩ := hJ.j2 h2D m hm1 hm2 v hl h.1; exact ⟨by rw [r1]; rfl, r2⟩
  . dsimp only at h; subst h; exact absurd hl (z4j ht (qy0 _))
  . dsimp only at h'; subst h'; have := hle h; have := hl.1; omega
  . dsimp only at h'; exact ⟨by rw [h1, h2]; simp, h'⟩
 .
  have hlD := hle (by omega); rcases new _ hx with h | h | ⟨h, h', c11, e, he, hf, hto⟩ | ⟨h, h', _⟩
  .
   by_cases hmn : m = n
   .
    subst hmn; refine h.2 ?_; have : atA g m t = leT t := by
     unfold atA qc9; rw [if_pos k1, if_pos ⟨ht, by omega⟩]
    rw [this]
   . exact h.1 (hJ.j3 h2D m hm1 hm2 k1 k2 (by omega))
  . dsimp only at h; rw [h] at hlD; omega
  .
   dsimp only at hto; have hmN : m < g.Nodes.length := by have := hB.le; omega
   refine hG.ag m hmN ⟨k1, ?_⟩; have hlv : leaves g (nd g m).Scope e.From = true := by
    unfold leaves; rw [hf]; unfold ndI; rw [Xb, c11, hs, k2]; simp
   rw [hto]; exact .seed e he hlv
  . dsimp only at h'; rw [h', hnD] at hlD; omega
end
end MN
end Go.Proofs.YteibkihbdgphnaaGreat
