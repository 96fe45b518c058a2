/-
  The law in plain words: what its plain function gives is true. No condition beyond those that each theorem names.
-/
import Derived.Test.YteibkihbdgphnaaGreatWalkMP0
import Derived.Test.YteibkihbdgphnaaGreatP12z
set_option linter.unusedSimpArgs false
set_option linter.unusedVariables false
set_option linter.unusedSectionVars false
open Classical renaming byContradiction -> Xa
open List renaming mem_map -> Xb, pairwise_cons -> Xc
namespace Go.Proofs.YteibkihbdgphnaaGreat
open Go Go.RowKit TS VA BG
namespace MN
open Classical
theorem z0f {a : List GItem} (h : Fn a) (ht : tot a <= 50000000) : q08 a [] = a := by
 obtain ⟨_, h2, _, h4⟩ := q1x h Fn.nil (by simp [tot] at ht ⊢; omega); exact Rt.unique h2.rt h.rt fun x => by rw [h4]; simp [cnt]
theorem j49 {a : List GItem} (h : Fn a) (ht : tot a <= 50000000) : q08 [] a = a := by
 obtain ⟨_, h2, _, h4⟩ := q1x Fn.nil h (by simp [tot] at ht ⊢; omega); exact Rt.unique h2.rt h.rt fun x => by rw [h4]; simp [cnt]
theorem zd2 {a b c d : List GItem} (ha : Fn a) (hb : Fn b) (hc : Fn c) (hd : Fn d) (ht : tot a + tot b + tot c + tot d <= 50000000) : q08 (q08 a b) (q08 c d) = q08 (q08 a c) (q08 b d) := by
 have la := ha.len; have lb := hb.len; have lc := hc.len; have ld := hd.len; obtain ⟨_, p1, p2, p3⟩ := q1x ha hb (by omega); obtain ⟨_, q1, q2, q3⟩ := q1x hc hd (by omega); obtain ⟨_, r1, r2, r3⟩ := q1x ha hc (by omega); obtain ⟨_, s1, s2, s3⟩ := q1x hb hd (by omega); obtain ⟨_, u1, _, u3⟩ := q1x p1 q1 (by omega); obtain ⟨_, v1, _, v3⟩ := q1x r1 s1 (by omega); exact Rt.unique u1.rt v1.rt fun x => by rw [u3, v3, p3, q3, r3, s3]; omega
noncomputable def qv8 (g : GGraph) (e : Int) : List (Nat × GTime) := sched g 8 0 g.Nodes.length 0 (ep e)
noncomputable def qz3 (g : GGraph) (most : Int) (es : List Int) (s : MS) : MS := q5v g most (es.flatMap (qv8 g)) s
theorem z3f (g : GGraph) (most : Int) (e : Int) (es : List Int) (s : MS) : qz3 g most (e :: es) s = qz3 g most es (q5v g most (qv8 g e) s) := by
 unfold qz3; rw [List.flatMap_cons, z4q]
theorem zc2 {g : GGraph} {e : Int} : ∀ p ∈ qv8 g e, p.1 < g.Nodes.length := fun p hp => (qo7 8 0 _ 0 (ep e) p hp).2.1
theorem zc3 {g : GGraph} {e : Int} : ∀ p ∈ qv8 g e, ok p.2 -> p.2.C.a0 = e := fun p hp hk => by
 obtain ⟨_, h | ⟨_, _, h⟩⟩ := (qo7 8 0 _ 0 (ep e) p hp).2.2 hk
 . exact h.2.1.symm
 . rw [h] at hk; exact absurd rfl (qp1 hk).2.1
section
variable {g : GGraph} (hG : VA.Good g) {most : Int}
include hG
theorem j6i : Blk g 0 g.Nodes.length 0 := by
 have h1 := hG.nl; have h2 := hG.pl; have hf := (q91 (hG.no 0 (by omega))).2.2.2.2.1; unfold fits at hf; rw [if_pos rfl, beq_iff_eq] at hf; refine ⟨by omega, Nat.le_refl _, by omega, by omega, hf, fun m _ hm => ?_⟩; obtain ⟨k0, k1, _⟩ := q58 hG hm; exact z9m hG ((nd g m).Scope.toNat + 1) _ k0 k1 (by omega)
theorem j0b {e : Int} (he : 0 <= e /\ e <= 1048576) {s : MS} (hW : W g s) (hp : ∀ p, s.ins p ≠ no2 -> p.time.C.a0 = e -> p.time.D = 1) : z95 g most s e = q5v g most (qv8 g e) s := by
 have h2 := hG.pl; refine (z7x hG (most := most) 8 (j6i hG) (by omega) (zy3 he) (by rw [j9c hG]; rfl) hW fun _ => ⟨fun m _ _ v hu hl => Xa fun hx => ?_, fun h => absurd h (by show ¬ (2 : Int) <= 1; decide), fun h => absurd h (by show ¬ (2 : Int) <= 1; decide)⟩).1; have h1 : v.D = 1 := hp ⟨(m : Int), v⟩ hx hu.2.1.symm; rw [h1] at hl; exact absurd hl (by show ¬ (1 : Int) < 1; decide)
theorem z5z {e : Int} {s : MS} (hW : W g s) : W g (q5v g most (qv8 g e) s) /\ Keep g e s (q5v g most (qv8 g e) s) :=
 qr0 (P := fun x => W g x /\ Keep g e s x) (fun p hp x hx => by
  obtain ⟨k1, k2⟩ := z1c hG most (zc2 p hp) (zc3 p hp) hx.1; exact ⟨k1, hx.2.trans k2⟩) ⟨hW, Keep.refl _ _ _⟩
theorem ze6 : ∀ (es : List Int) (s : MS), es.Pairwise (· < ·) -> (∀ e ∈ es, 0 <= e /\ e <= 1048576) -> W g s -> (∀ p, s.ins p ≠ no2 -> p.time.C.a0 ∈ es -> p.time.D = 1) -> es.foldl (z95 g most) s = qz3 g most es s
 | [], _, _, _, _, _ => rfl
 | e :: es, s, hs, hr, hW, hp => by
  obtain ⟨h1, h2⟩ := Xc.1 hs; rw [List.foldl_cons, z3f, j0b hG (hr e (by simp)) hW fun p hx hy => hp p hx (by rw [hy]; simp)]; obtain ⟨k1, k2⟩ := z5z hG (most := most) (e := e) hW; refine ze6 es _ h2 (fun x hx => hr x (by simp [hx])) k1 fun p hx hy => ?_; have hne : p.time.C.a0 ≠ e := fun h => by have := h1 _ hy; omega
  rw [k2.ins p hne] at hx; exact hp p hx (by simp [hy])
theorem z4p (q : Int -> Bool) : ∀ (es : List Int) (s : MS), es.Pairwise (· < ·) -> W g s -> (∀ p, s.ins p ≠ no2 -> p.time.C.a0 ∈ es -> q p.time.C.a0 = true) -> qz3 g most (es.filter q) s = qz3 g most es s
 | [], _, _, _, _ => rfl
 | e :: es, s, hs, hW, hp => by
  obtain ⟨h1, h2⟩ := Xc.1 hs; rw [z3f]
  by_cases he : q e = true
  .
   rw [List.filter_cons_of_pos he, z3f]; obtain ⟨k1, k2⟩ := z5z hG (most := most) (e := e) hW; refine z4p q es _ h2 k1 fun p hx hy => ?_; have hne : p.time.C.a0 ≠ e := fun h => by have := h1 _ hy; omega
   rw [k2.ins p hne] at hx; exact hp p hx (by simp [hy])
  .
   rw [List.filter_cons_of_neg he]; have hid : q5v g most (qv8 g e) s = s := z7e (.inr fun p hpm => Xa fun hx => by
    have hok := (z2x (hW _ hx)).2.1; have h3 := zc3 p hpm hok; have h4 := hp _ hx (by dsimp only; rw [h3]; simp); dsimp only at h4; rw [h3] at h4; exact he h4)
   rw [hid]; exact z4p q es s h2 hW fun p hx hy => hp p hx (by simp [hy])
end
theorem zu3 {feeds : List GFeed} (hl : feeds.length <= 1000) {p : GMean_point} (h : (q5n feeds).ins p ≠ no2) : p.time.D = 1 /\ p.time.C.a0 ∈ feeds.map (·.Epoch) := by
 obtain ⟨h1, h2, h3⟩ := (z5o feeds hl).1 p; refine Xa fun hc => h (zp1 (Rt.unique h1.rt Rt.nil fun x => ?_) h2); rw [h3]
 show cntF feeds p x = 0
 unfold cntF; rw [List.filter_eq_nil_iff.2]
 . rfl
 intro f hf hx; simp only [decide_eq_true_eq] at hx; refine hc ?_; rw [<- hx.1]; exact ⟨rfl, Xb.2 ⟨f, hf, rfl⟩⟩
theorem z6r {g : GGraph} (hG : VA.Good g) {most : Int} {F : List GFeed} (hF : ∀ f ∈ F, z0w g f) {X : List GFeed} (hX : X.length <= 1000) (hs : ∀ f ∈ X, f ∈ F) : q4i g most X = qz3 g most (qi9 F) (q5n X) := by
 have hE := qu5 F; have hr : ∀ e ∈ qi9 F, 0 <= e /\ e <= 1048576 := fun e h => by
  obtain ⟨f, hf, rfl⟩ := Xb.1 ((hE.mem e).1 h); exact (hF f hf).2.2.2
 have hWX := j91 hG X fun f hf => hF f (hs f hf); have hEX := qu5 X; have hfil : qi9 X = (qi9 F).filter fun e => decide (e ∈ X.map (·.Epoch)) := Once.unique hEX ⟨hE.inc.sublist List.filter_sublist, fun x => by
  rw [List.mem_filter, hE.mem, decide_eq_true_eq]; refine ⟨fun h => h.2, fun h => ⟨?_, h⟩⟩; obtain ⟨f, hf, rfl⟩ := Xb.1 h; exact Xb.2 ⟨f, hs f hf, rfl⟩⟩
 have h1 : q4i g most X = qz3 g most (qi9 X) (q5n X) := ze6 hG (qi9 X) (q5n X) hEX.inc (fun e h => hr e (by rw [hfil] at h; exact (List.mem_filter.1 h).1)) hWX fun p hp _ => (zu3 hX hp).1; rw [h1, hfil]; exact z4p hG (fun e => decide (e ∈ X.map (·.Epoch))) _ _ hE.inc hWX fun p hp _ => decide_eq_true (zu3 hX hp).2
end MN
end Go.Proofs.YteibkihbdgphnaaGreat
