/-
  The law in plain words: what its plain function gives is true. No condition beyond those that each theorem names.
-/
import Derived.Test.YtaiccbgcgcfhfaaGreatWalkWL0
import Derived.Test.YtaiccbgcgcfhfaaGreatP12B
set_option linter.unusedSimpArgs false
set_option linter.unusedVariables false
set_option linter.unusedSectionVars false
open Classical renaming byContradiction -> Xa
open List renaming foldl_cons -> Xb, length_cons -> Xc, mem_map -> Xd, pairwise_cons -> Xe, length_append -> Xf
namespace Go.Proofs.YtaiccbgcgcfhfaaGreat
open Go Go.RowKit TS VA BG
namespace MN
open Classical
noncomputable def q8w (g : GGraph) (e : Int) : List (Nat × GTime) := sched g 8 0 g.Nodes.length 0 (ep e)
noncomputable def qn1 (g : GGraph) (most : Int) (es : List Int) (s : MS) : MS := q1x g most (es.flatMap (q8w g)) s
theorem qz1 (g : GGraph) (most : Int) (e : Int) (es : List Int) (s : MS) : qn1 g most (e :: es) s = qn1 g most es (q1x g most (q8w g e) s) := by
 unfold qn1; rw [List.flatMap_cons, qa5]
theorem z3w {g : GGraph} {e : Int} : ∀ p ∈ q8w g e, p.1 < g.Nodes.length := fun p hp => (qh5 8 0 _ 0 (ep e) p hp).2.1
theorem zc0 {g : GGraph} {e : Int} : ∀ p ∈ q8w g e, ok p.2 -> p.2.C.a0 = e := fun p hp hk => by
 obtain ⟨_, h | ⟨_, _, h⟩⟩ := (qh5 8 0 _ 0 (ep e) p hp).2.2 hk
 . exact h.2.1.symm
 . rw [h] at hk; exact absurd rfl (qa4 hk).2.1
section
variable {g : GGraph} (hG : VA.Good g) {most : Int}
include hG
theorem j75 : Blk g 0 g.Nodes.length 0 := by
 have h1 := hG.nl; have h2 := hG.pl; have hf := (q7j (hG.no 0 (by omega))).2.2.2.2.1; unfold fits at hf; rw [if_pos rfl, beq_iff_eq] at hf; refine ⟨by omega, Nat.le_refl _, by omega, by omega, hf, fun m _ hm => ?_⟩; obtain ⟨k0, k1, _⟩ := q44 hG hm; exact z9h hG ((nd g m).Scope.toNat + 1) _ k0 k1 (by omega)
theorem j0n {e : Int} (he : 0 <= e /\ e <= 1048576) {s : MS} (hW : W g s) (hp : ∀ p, s.ins p ≠ no2 -> p.time.C.a0 = e -> p.time.D = 1) : qw8 g most s e = q1x g most (q8w g e) s := by
 have h2 := hG.pl; refine (z7w hG (most := most) 8 (j75 hG) (by omega) (zg7 he) (by rw [ja6 hG]; rfl) hW fun _ => ⟨fun m _ _ v hu hl => Xa fun hx => ?_, fun h => absurd h (by show ¬ (2 : Int) <= 1; decide), fun h => absurd h (by show ¬ (2 : Int) <= 1; decide)⟩).1; have h1 : v.D = 1 := hp ⟨(m : Int), v⟩ hx hu.2.1.symm; rw [h1] at hl; exact absurd hl (by show ¬ (1 : Int) < 1; decide)
theorem z6e {e : Int} {s : MS} (hW : W g s) : W g (q1x g most (q8w g e) s) /\ Keep g e s (q1x g most (q8w g e) s) :=
 qb5 (P := fun x => W g x /\ Keep g e s x) (fun p hp x hx => by
  obtain ⟨k1, k2⟩ := q7u hG most (z3w p hp) (zc0 p hp) hx.1; exact ⟨k1, hx.2.trans k2⟩) ⟨hW, Keep.refl _ _ _⟩
theorem ze6 : ∀ (es : List Int) (s : MS), es.Pairwise (· < ·) -> (∀ e ∈ es, 0 <= e /\ e <= 1048576) -> W g s -> (∀ p, s.ins p ≠ no2 -> p.time.C.a0 ∈ es -> p.time.D = 1) -> es.foldl (qw8 g most) s = qn1 g most es s
 | [], _, _, _, _, _ => rfl
 | e :: es, s, hs, hr, hW, hp => by
  obtain ⟨h1, h2⟩ := Xe.1 hs; rw [Xb, qz1, j0n hG (hr e (by simp)) hW fun p hx hy => hp p hx (by rw [hy]; simp)]; obtain ⟨k1, k2⟩ := z6e hG (most := most) (e := e) hW; refine ze6 es _ h2 (fun x hx => hr x (by simp [hx])) k1 fun p hx hy => ?_; have hne : p.time.C.a0 ≠ e := fun h => by have := h1 _ hy; omega
  rw [k2.ins p hne] at hx; exact hp p hx (by simp [hy])
theorem z4q (q : Int -> Bool) : ∀ (es : List Int) (s : MS), es.Pairwise (· < ·) -> W g s -> (∀ p, s.ins p ≠ no2 -> p.time.C.a0 ∈ es -> q p.time.C.a0 = true) -> qn1 g most (es.filter q) s = qn1 g most es s
 | [], _, _, _, _ => rfl
 | e :: es, s, hs, hW, hp => by
  obtain ⟨h1, h2⟩ := Xe.1 hs; rw [qz1]
  by_cases he : q e = true
  .
   rw [List.filter_cons_of_pos he, qz1]; obtain ⟨k1, k2⟩ := z6e hG (most := most) (e := e) hW; refine z4q q es _ h2 k1 fun p hx hy => ?_; have hne : p.time.C.a0 ≠ e := fun h => by have := h1 _ hy; omega
   rw [k2.ins p hne] at hx; exact hp p hx (by simp [hy])
  .
   rw [List.filter_cons_of_neg he]; have hid : q1x g most (q8w g e) s = s := z7a (.inr fun p hpm => Xa fun hx => by
    have hok := (qo1 (hW _ hx)).2.1; have h3 := zc0 p hpm hok; have h4 := hp _ hx (by dsimp only; rw [h3]; simp); dsimp only at h4; rw [h3] at h4; exact he h4)
   rw [hid]; exact z4q q es s h2 hW fun p hx hy => hp p hx (by simp [hy])
end
theorem zv6 {feeds : List GFeed} (hl : feeds.length <= 1000) {p : GMean_point} (h : (q3m feeds).ins p ≠ no2) : p.time.D = 1 /\ p.time.C.a0 ∈ feeds.map (·.Epoch) := by
 obtain ⟨h1, h2, h3⟩ := (z02 feeds hl).1 p; refine Xa fun hc => h (j5v (Rt.unique h1.rt Rt.nil fun x => ?_) h2); rw [h3]
 show cntF feeds p x = 0
 unfold cntF; rw [List.filter_eq_nil_iff.2]
 . rfl
 intro f hf hx; simp only [decide_eq_true_eq] at hx; refine hc ?_; rw [<- hx.1]; exact ⟨rfl, Xd.2 ⟨f, hf, rfl⟩⟩
theorem zp2 (s : MS) (q : GMean_point) (port : Int) : q3r s q port [] = s := by unfold q3r; rw [if_pos rfl]
theorem ze0 : ∀ (l : List GFeed) (K : Int) (s s1 s2 : MS), L3 K s s1 s2 -> 0 <= K -> K + l.length <= 40000000 -> L3 (K + l.length) (l.foldl q5o s) (l.foldl q5o s1) s2
 | [], K, _, _, _, h, _, _ => h.mono (by simp)
 | f :: l, K, s, s1, s2, h, h0, hK => by
  obtain ⟨o1, o2⟩ := z8r f.Rec; have hz : tot ([] : List GItem) = 0 := by simp [tot]
  simp only [Xc] at hK; have := j0s h o1 Fn.nil (by omega) ⟨f.Node, ep f.Epoch⟩ 0; rw [z0e o1 (by omega), zp2, o2, hz] at this; rw [Xb, Xb]; exact (ze0 l (K + 1) _ _ _ (this.mono (by omega)) (by omega) (by push_cast at hK; omega)).mono (by simp only [Xc]; push_cast; omega)
theorem z8m : ∀ (l : List GFeed) (K : Int) (s s1 s2 : MS), L3 K s s1 s2 -> 0 <= K -> K + l.length <= 40000000 -> L3 (K + l.length) (l.foldl q5o s) s1 (l.foldl q5o s2)
 | [], K, _, _, _, h, _, _ => h.mono (by simp)
 | f :: l, K, s, s1, s2, h, h0, hK => by
  obtain ⟨o1, o2⟩ := z8r f.Rec; have hz : tot ([] : List GItem) = 0 := by simp [tot]
  simp only [Xc] at hK; have := j0s h Fn.nil o1 (by omega) ⟨f.Node, ep f.Epoch⟩ 0; rw [j4t o1 (by omega), zp2, o2, hz] at this; rw [Xb, Xb]; exact (z8m l (K + 1) _ _ _ (this.mono (by omega)) (by omega) (by push_cast at hK; omega)).mono (by simp only [Xc]; push_cast; omega)
theorem j6b (A B : List GFeed) (h : A.length + B.length <= 1000) : L3 ((A ++ B).length : Int) (q3m (A ++ B)) (q3m A) (q3m B) := by
 have hz : tot ([] : List GItem) = 0 := by simp [tot]
 have h0 : L3 0 s0 s0 s0 := ⟨fun p => ⟨⟨Fn.nil, Fn.nil⟩, ⟨Fn.nil, Fn.nil⟩⟩, fun p => by
  show no2 = ⟨q06 [] [], q06 [] []⟩
  rw [z0e Fn.nil (by omega)]; rfl, fun p => ⟨by show tot [] + tot [] <= 0; omega, by show tot [] + tot [] <= 0; omega⟩, ⟨rfl, by decide, by decide⟩, List.Perm.refl _, ⟨rfl, rfl, rfl⟩⟩
 have h1 := ze0 A 0 _ _ _ h0 (by omega) (by omega); have h2 := z8m B _ _ _ _ h1 (by omega) (by omega); unfold q3m; rw [List.foldl_append]; exact h2.mono (by rw [Xf]; push_cast; omega)
theorem qb1 {g : GGraph} (hG : VA.Good g) {most : Int} {F : List GFeed} (hF : ∀ f ∈ F, qw9 g f) {X : List GFeed} (hX : X.length <= 1000) (hs : ∀ f ∈ X, f ∈ F) : q18 g most X = qn1 g most (qg5 F) (q3m X) := by
 have hE := qo8 F; have hr : ∀ e ∈ qg5 F, 0 <= e /\ e <= 1048576 := fun e h => by
  obtain ⟨f, hf, rfl⟩ := Xd.1 ((hE.mem e).1 h); exact (hF f hf).2.2.2
 have hWX := z0i hG X fun f hf => hF f (hs f hf); have hEX := qo8 X; have hfil : qg5 X = (qg5 F).filter fun e => decide (e ∈ X.map (·.Epoch)) := Once.unique hEX ⟨hE.inc.sublist List.filter_sublist, fun x => by
  rw [List.mem_filter, hE.mem, decide_eq_true_eq]; refine ⟨fun h => h.2, fun h => ⟨?_, h⟩⟩; obtain ⟨f, hf, rfl⟩ := Xd.1 h; exact Xd.2 ⟨f, hs f hf, rfl⟩⟩
 have h1 : q18 g most X = qn1 g most (qg5 X) (q3m X) := ze6 hG (qg5 X) (q3m X) hEX.inc (fun e h => hr e (by rw [hfil] at h; exact (List.mem_filter.1 h).1)) hWX fun p hp _ => (zv6 hX hp).1; rw [h1, hfil]; exact z4q hG (fun e => decide (e ∈ X.map (·.Epoch))) _ _ hE.inc hWX fun p hp _ => decide_eq_true (zv6 hX hp).2
theorem j7h {g : GGraph} {A B : List GFeed} {most : Int} (ha : Ask g (A ++ B) most) (hl : A.length + B.length <= 1000) (hm : most <= 5000) (hlin : ∀ n, n < g.Nodes.length -> OP.linS (nd g n).Kind = true /\ (nd g n).Kind ≠ 14) (he : (q18 g most (A ++ B)).e = 0) :
  (q18 g most A).e = 0 /\ (q18 g most B).e = 0 /\ (q18 g most (A ++ B)).outs.Perm ((q18 g most A).outs ++ (q18 g most B).outs) /\ (q18 g most (A ++ B)).work = (q18 g most A).work + (q18 g most B).work := by
 obtain ⟨hG, hm0, hm1, hF⟩ := ha; have hAB : (A ++ B).length <= 1000 := by rw [Xf]; exact hl
 rw [qb1 hG hF hAB fun f hf => hf] at he ⊢; rw [qb1 hG hF (X := A) (by omega) fun f hf => List.mem_append_left _ hf, qb1 hG hF (X := B) (by omega) fun f hf => List.mem_append_right _ hf]; have h3 := j6b A B hl; have hw0 := (z02 (A ++ B) hAB).2.2.2.1; unfold qn1 at he ⊢; have hC : ((A ++ B).length : Int) <= 1000 := by omega
 obtain ⟨h4, _⟩ := j6c hG (most := most) (C := ((A ++ B).length : Int)) (by omega) (by omega) hlin _ (q3m (A ++ B)) (q3m A) (q3m B) (fun p hp => by
  obtain ⟨e, _, hx⟩ := List.mem_flatMap.1 hp; exact z3w p hx) (h3.mono (by omega)) (by omega) he
 exact ⟨h4.e.2.1, h4.e.2.2, h4.ou, h4.wk.1⟩
end MN
end Go.Proofs.YtaiccbgcgcfhfaaGreat
