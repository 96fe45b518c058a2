/-
  The law in plain words: what its plain function gives is true. No condition beyond those that each theorem names.
-/
import Derived.Test.YtaiccbgcgcfhfaaGreatWalkWL0
import Derived.Test.YtaiccbgcgcfhfaaGreatP12C
set_option linter.unusedSimpArgs false
set_option linter.unusedVariables false
set_option linter.unusedSectionVars false
open List renaming length_cons -> Xa, mem_append_right -> Xb, mem_append_left -> Xc
namespace Go.Proofs.YtaiccbgcgcfhfaaGreat
open Go Go.RowKit TS VA BG
namespace MN
open Classical
theorem j2i {x : GNode} {a b : List GItem} (ha : Fn a) (hb : Fn b) : tot (qg4 x a b) <= 8 * (tot a + tot b) := by
 have h1 := OP.tot_lin (x := x) ha.pos; have h2 := OP.tot_lin (x := x) hb.pos; have l1 := ha.len; have l2 := hb.len; unfold qg4
 split
 . rw [q3k]; omega
 . omega
theorem ja1 {g : GGraph} (hG : VA.Good g) {most C : Int} (hC : 0 <= C) (hCm : C + most <= 4000) {n : Nat} (hl : OP.linS (nd g n).Kind = true) (h14 : (nd g n).Kind ≠ 14) {t : GTime} {s s1 s2 : MS} (h : L3 (C + s.work) s s1 s2) (hw : s.work <= most)
  (hz1 : (q0t g most s1 n t).2.e = 0) (hz2 : (q0t g most s2 n t).2.e = 0) (hww : (q0t g most s1 n t).2.work + (q0t g most s2 n t).2.work <= most) : (q0t g most s n t).2.e = 0 := by
 obtain ⟨e0, e1, e2⟩ := h.e; obtain ⟨w0, w1, w2⟩ := h.wk; rw [ql5 hl h14 e0]; rw [ql5 hl h14 e1] at hz1 hww; rw [ql5 hl h14 e2] at hz2 hww; obtain ⟨⟨a1, b1⟩, ⟨a2, b2⟩⟩ := h.fn ⟨n, t⟩; obtain ⟨k0, k1⟩ := h.bd ⟨n, t⟩; have ht := take3 (t := t) h14 (by omega) h; have hwt : (takeA g n t s).work = s.work := by unfold takeA; split <;> rfl
 rw [<- hwt] at ht hw; rw [h.eq]; dsimp only
 generalize takeA g n t s = x at *
 generalize takeA g n t s1 = x1 at *
 generalize takeA g n t s2 = x2 at *
 generalize (s1.ins ⟨n, t⟩).a0 = A1 at *
 generalize (s1.ins ⟨n, t⟩).a1 = B1 at *
 generalize (s2.ins ⟨n, t⟩).a0 = A2 at *
 generalize (s2.ins ⟨n, t⟩).a1 = B2 at *
 have la1 := a1.len; have lb1 := b1.len; have la2 := a2.len; have lb2 := b2.len; obtain ⟨_, pf, pt, _⟩ := q1p a1 a2 (by omega); obtain ⟨_, qf, qt, _⟩ := q1p b1 b2 (by omega); have lp := pf.len; have lq := qf.len; unfold qf7 at hz1 hz2 hww ⊢; have hbd := j2i (x := nd g n) pf qf; obtain ⟨o, ha⟩ := (qs8 hl pf qf (by omega) (by omega)).2 (by omega); obtain ⟨o1, o2, h1, h2, rfl⟩ := ze9 hl a1 a2 b1 b2 (by omega) (by omega) ha; obtain ⟨z1, z2⟩ := q7v h1; obtain ⟨y1, y2⟩ := q7v h2; rw [h1] at hz1 hww; rw [h2] at hz2 hww; rw [ha]; dsimp only at hz1 hz2 hww ⊢
 by_cases h15 : (nd g n).Kind = 15
 . rw [if_pos h15]; exact ht.e.1
 rw [if_neg h15] at hz1 hz2 ⊢; rw [if_neg h15, if_neg h15] at hww
 by_cases hu : (q07 g n t).2 = false
 . rw [if_pos (.inl hu)]; exact ht.e.1
 have hel := hG.el; have hs := zg4 (n := n) (u := (q07 g n t).1) z1 y1 (by omega) (C := C) g.Edges x x1 x2 ht (by omega); have each : ∀ (o : List GItem) (x : MS), ((if (q07 g n t).2 = false \/ o = [] then ((false, x) : Bool × MS) else (true, if most < (q2b n (q07 g n t).1 o g.Edges x).work then { q2b n (q07 g n t).1 o g.Edges x with e := 9 } else q2b n (q07 g n t).1 o g.Edges x))).2.e = 0 ->
   ((if (q07 g n t).2 = false \/ o = [] then ((false, x) : Bool × MS) else (true, if most < (q2b n (q07 g n t).1 o g.Edges x).work then { q2b n (q07 g n t).1 o g.Edges x with e := 9 } else q2b n (q07 g n t).1 o g.Edges x))).2 = q2b n (q07 g n t).1 o g.Edges x := fun o x hz => by
  by_cases ho : o = []
  . subst ho; rw [if_pos (.inr rfl), z2m]
  .
   rw [if_neg (fun h => h.elim hu ho)] at hz ⊢; dsimp only at hz ⊢
   split at hz
   . exact absurd hz (by show ¬ (9 : Int) = 0; decide)
   . rename_i hc; rw [if_neg hc]
 rw [each _ _ hz1, each _ _ hz2] at hww; have hwk := hs.wk.1
 by_cases ho : q06 o1 o2 = []
 . rw [if_pos (.inr ho)]; exact ht.e.1
 . rw [if_neg (fun h => h.elim hu ho)]; dsimp only; rw [if_neg (by omega)]; exact hs.e.1
section
variable {g : GGraph} (hG : VA.Good g) {most : Int}
include hG
theorem ze5 {L : List (Nat × GTime)} (hL : ∀ p ∈ L, p.1 < g.Nodes.length) {s : MS} (hW : W g s) : s.work <= (q1x g most L s).work :=
 (qb5 (P := fun x => W g x /\ s.work <= x.work) (fun p hp x hx => by
  obtain ⟨k1, k2⟩ := q7u hG most (hL p hp) (t := p.2) (e := p.2.C.a0) (fun _ => rfl) hx.1; exact ⟨k1, Int.le_trans hx.2 k2.work⟩) ⟨hW, Int.le_refl _⟩).2
theorem j2s {C : Int} (hC : 0 <= C) (hCm : C + most <= 4000) (hlin : ∀ n, n < g.Nodes.length -> OP.linS (nd g n).Kind = true /\ (nd g n).Kind ≠ 14) : ∀ (L : List (Nat × GTime)) (s s1 s2 : MS), (∀ p ∈ L, p.1 < g.Nodes.length) -> W g s1 -> W g s2 ->
  L3 (C + s.work) s s1 s2 -> s.work <= most -> (q1x g most L s1).e = 0 -> (q1x g most L s2).e = 0 -> (q1x g most L s1).work + (q1x g most L s2).work <= most -> (q1x g most L s).e = 0
 | [], _, _, _, _, _, _, h, _, _, _, _ => h.e.1
 | p :: L, s, s1, s2, hp, hW1, hW2, h, hw, hz1, hz2, hww => by
  rw [q5d] at hz1 hz2 hww ⊢; rw [q5d] at hww; obtain ⟨l1, l2⟩ := hlin p.1 (hp p (by simp)); have hL : ∀ q ∈ L, q.1 < g.Nodes.length := fun q hq => hp q (by simp [hq]); have hW1' := (q7u hG most (hp p (by simp)) (t := p.2) (e := p.2.C.a0) (fun _ => rfl) hW1).1; have hW2' := (q7u hG most (hp p (by simp)) (t := p.2) (e := p.2.C.a0) (fun _ => rfl) hW2).1; have m1 := ze5 hG (most := most) hL hW1'; have m2 := ze5 hG (most := most) hL hW2'; have hz := ja1 hG hC hCm l1 l2 h hw (z3b hz1) (z3b hz2) (by omega); obtain ⟨h1, h2⟩ := j6n hG hC (by omega) l1 l2 h hw hz; exact j2s hC hCm hlin L _ _ _ hL hW1' hW2' h1 h2 hz1 hz2 hww
end
theorem j7z {g : GGraph} {es : List Int} : ∀ p ∈ es.flatMap (q8w g), p.1 < g.Nodes.length := fun p hp => by
 obtain ⟨e, _, hx⟩ := List.mem_flatMap.1 hp; exact z3w p hx
theorem j1y {g : GGraph} {A B : List GFeed} {most : Int} (ha : Ask g (A ++ B) most) (hl : A.length + B.length <= 1000) (hm : most <= 3000) (hlin : ∀ n, n < g.Nodes.length -> OP.linS (nd g n).Kind = true /\ (nd g n).Kind ≠ 14)
  (zA : (q18 g most A).e = 0) (zB : (q18 g most B).e = 0) (hw : (q18 g most A).work + (q18 g most B).work <= most) : (q18 g most (A ++ B)).e = 0 := by
 obtain ⟨hG, hm0, hm1, hF⟩ := ha; have hAB : (A ++ B).length <= 1000 := by rw [List.length_append]; exact hl
 have hsA : ∀ f ∈ A, f ∈ A ++ B := fun f hf => Xc _ hf; have hsB : ∀ f ∈ B, f ∈ A ++ B := fun f hf => Xb _ hf; rw [qb1 hG hF (X := A) (by omega) hsA] at zA hw; rw [qb1 hG hF (X := B) (by omega) hsB] at zB hw; rw [qb1 hG hF hAB fun f hf => hf]; have hw0 := (z02 (A ++ B) hAB).2.2.2.1; unfold qn1 at *; exact j2s hG (most := most) (C := ((A ++ B).length : Int)) (by omega) (by omega) hlin _ _ _ _ j7z (z0i hG A fun f hf => hF f (hsA f hf)) (z0i hG B fun f hf => hF f (hsB f hf)) ((j6b A B hl).mono (by omega)) (by omega) zA zB hw
theorem j4g {g : GGraph} {X : List GFeed} {most : Int} (ha : Ask g X most) (hl : X.length <= 1000) : 0 <= (q18 g most X).work := by
 have h1 := (z4r ha.1 (most := most) (qg5 X) _ (z0i ha.1 X ha.2.2.2)).2.work; rw [(z02 X hl).2.2.2.1] at h1; exact h1
theorem zu8 (g : GGraph) (most : Int) : (q18 g most []).e = 0 /\ (q18 g most []).outs = [] /\ (q18 g most []).work = 0 := by
 have he : qg5 [] = [] := by
  have := qo8 []; refine List.eq_nil_iff_forall_not_mem.2 fun x hx => ?_; have := (this.mem x).1 hx
  cases this
 unfold q18; rw [he]; exact ⟨rfl, rfl, rfl⟩
theorem z5w {g : GGraph} {A B : List GFeed} {most : Int} (h : Ask g B most) (hs : ∀ f ∈ A, f ∈ B) : Ask g A most := ⟨h.1, h.2.1, h.2.2.1, fun f hf => h.2.2.2 f (hs f hf)⟩
theorem z2n {g : GGraph} {most : Int} (hm : most <= 3000) (hlin : ∀ n, n < g.Nodes.length -> OP.linS (nd g n).Kind = true /\ (nd g n).Kind ≠ 14) : ∀ {l : List GFeed}, Ask g l most -> l.length <= 1000 -> (q18 g most l).e = 0 ->
  (∀ f ∈ l, (q18 g most [f]).e = 0) /\ (q18 g most l).outs.Perm (l.flatMap fun f => (q18 g most [f]).outs) /\ (q18 g most l).work = (l.map fun f => (q18 g most [f]).work).sum
 | [], _, _, _ => by
  obtain ⟨h1, h2, h3⟩ := zu8 g most; refine ⟨by simp, by rw [h2]; exact List.Perm.refl _, by rw [h3]; rfl⟩
 | f :: l, ha, hl, he => by
  have hc : f :: l = [f] ++ l := rfl; simp only [Xa] at hl; rw [hc] at ha he; obtain ⟨z1, z2, hp, hw⟩ := j7h ha (by simp only [Xa, List.length_nil]; omega) (by omega) hlin he; obtain ⟨k1, k2, k3⟩ := z2n hm hlin (z5w ha fun x hx => Xb _ hx) (by omega) z2; rw [hc]; refine ⟨fun x hx => ?_, ?_, ?_⟩
  .
   rcases List.mem_append.1 hx with h | h
   . rw [List.mem_singleton.1 h]; exact z1
   . exact k1 x h
  . refine hp.trans ?_; rw [List.flatMap_append, List.flatMap_singleton]; exact List.Perm.append_left _ k2
  . rw [hw, k3, List.map_append, List.sum_append]; simp
theorem z7u {g : GGraph} {most : Int} (hm : most <= 3000) (hlin : ∀ n, n < g.Nodes.length -> OP.linS (nd g n).Kind = true /\ (nd g n).Kind ≠ 14) : ∀ {l : List GFeed}, Ask g l most -> l.length <= 1000 -> (∀ f ∈ l, (q18 g most [f]).e = 0) ->
  (l.map fun f => (q18 g most [f]).work).sum <= most -> (q18 g most l).e = 0
 | [], _, _, _, _ => (zu8 g most).1
 | f :: l, ha, hl, he, hw => by
  have hc : f :: l = [f] ++ l := rfl; simp only [Xa] at hl; simp only [List.map_cons, List.sum_cons] at hw; rw [hc] at ha ⊢; have ha1 := z5w (A := [f]) ha fun x hx => Xc _ hx; have ha2 := z5w (A := l) ha fun x hx => Xb _ hx; have h0 := j4g ha1 (by simp); have z2 := z7u hm hlin ha2 (by omega) (fun x hx => he x (by simp [hx])) (by omega); have hw2 := (z2n hm hlin ha2 (by omega) z2).2.2; exact j1y ha (by simp only [Xa, List.length_nil]; omega) hm hlin (he f (by simp)) z2 (by rw [hw2]; exact hw)
end MN
end Go.Proofs.YtaiccbgcgcfhfaaGreat
