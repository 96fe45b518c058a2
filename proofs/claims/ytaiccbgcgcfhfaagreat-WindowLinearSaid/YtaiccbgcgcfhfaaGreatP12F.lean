/-
  The law in plain words: what its plain function gives is true. No condition beyond those that each theorem names.
-/
import Derived.Test.YtaiccbgcgcfhfaaGreatWalkWL0
import Derived.Test.YtaiccbgcgcfhfaaGreatP12E
set_option linter.unusedSimpArgs false
set_option linter.unusedVariables false
set_option linter.unusedSectionVars false
open Classical renaming byContradiction -> Xa
namespace Go.Proofs.YtaiccbgcgcfhfaaGreat
open Go Go.RowKit TS VA BG
namespace MN
open Classical
def q5s (w : Int) (v : GTime) : GTime := ⟨v.D, ⟨w, v.C.a1, v.C.a2, v.C.a3⟩⟩
theorem z5k {w : Int} (hw : 0 <= w /\ w <= 1048576) {v : GTime} (h : ok v) : ok (q5s w v) := by
 unfold ok q5s at *; dsimp only; exact ⟨h.1, h.2.1, hw, h.2.2.2⟩
theorem zm2 (w : Int) (v : GTime) : leT (q5s w v) = q5s w (leT v) := by
 obtain ⟨D, ⟨a0, a1, a2, a3⟩⟩ := v; unfold leT q5s; dsimp only
 split
 . rfl
 . split <;> rfl
theorem zk5 (w : Int) {v : GTime} (h : v.D ≠ 1) : nxT (q5s w v) = q5s w (nxT v) := by
 obtain ⟨D, ⟨a0, a1, a2, a3⟩⟩ := v; unfold nxT q5s; dsimp only at h ⊢; rw [if_neg h, if_neg h]
 split
 . rfl
 . split <;> rfl
theorem z2y (w : Int) {v : GTime} (h : v.D ≠ 1) : lastT (q5s w v) = lastT v := by
 obtain ⟨D, ⟨a0, a1, a2, a3⟩⟩ := v; unfold lastT q5s; dsimp only at h ⊢; rw [if_neg h, if_neg h]
theorem zd6 (w : Int) (v : GTime) : q85 (q5s w v) = q85 v := rfl
theorem j4e {e w : Int} {u v : GTime} (hu : u.C.a0 = e) (hv : v.C.a0 = e) (h : q5s w u = q5s w v) : u = v := by
 obtain ⟨D, ⟨a0, a1, a2, a3⟩⟩ := u; obtain ⟨D', ⟨b0, b1, b2, b3⟩⟩ := v; unfold q5s at h; dsimp only at h hu hv; simp only [GTime.mk.injEq, Arr4.mk.injEq] at h ⊢; omega
def T2 (e w : Int) (t t' : GTime) : Prop := (ok t /\ t.C.a0 = e /\ t' = q5s w t) \/ (¬ ok t /\ ¬ ok t')
section
variable {e w : Int} (hw : 0 <= w /\ w <= 1048576)
include hw
theorem j61 {t t' : GTime} (h : T2 e w t t') : T2 e w (q3h t) (q3h t') /\ (ok (q3h t) -> 2 <= (q3h t).D) := by
 refine ⟨?_, fun hk => ?_⟩
 .
  rcases h with ⟨h1, h2, rfl⟩ | ⟨h1, h2⟩
  .
   unfold q3h
   by_cases h4 : t.D ≠ 4
   . rw [if_pos ⟨h1, h4⟩, if_pos ⟨z5k hw h1, h4⟩]; exact .inl ⟨z4h h1 h4, h2, rfl⟩
   . rw [if_neg (fun h => h4 h.2), if_neg (fun h => h4 h.2)]; exact .inr ⟨fun h => absurd h.1 (by decide), fun h => absurd h.1 (by decide)⟩
  . exact .inr ⟨fun h => h1 (z0w h).1, fun h => h2 (z0w h).1⟩
 . obtain ⟨h1, _, h3⟩ := z0w hk; rw [h3]; show 2 <= t.D + 1; have := h1.1; omega
theorem j60 {t t' : GTime} (h : T2 e w t t') : T2 e w (q6e t) (q6e t') := by
 rcases h with ⟨h1, h2, rfl⟩ | ⟨h1, h2⟩
 .
  unfold q6e
  by_cases h4 : t.D ≠ 1
  . rw [if_pos ⟨h1, h4⟩, if_pos ⟨z5k hw h1, h4⟩]; exact .inl ⟨z8e h1 h4, by rw [zm3]; exact h2, zm2 w t⟩
  . rw [if_neg (fun h => h4 h.2), if_neg (fun h => h4 h.2)]; exact .inr ⟨fun h => absurd h.1 (by decide), fun h => absurd h.1 (by decide)⟩
 . exact .inr ⟨fun h => h1 (qa4 h).1, fun h => h2 (qa4 h).1⟩
theorem j8m {t t' : GTime} (h : T2 e w t t') (hd : ok t -> 2 <= t.D) : T2 e w (q5w t) (q5w t') /\ (ok (q5w t) -> 2 <= (q5w t).D) := by
 refine ⟨?_, fun hk => ?_⟩
 .
  rcases h with ⟨h1, h2, rfl⟩ | ⟨h1, h2⟩
  .
   have hd := hd h1; have hn : t.D ≠ 1 := by omega
   unfold q5w; rw [z2y w hn, zd6]
   by_cases h4 : lastT t ≠ q85 t
   . rw [if_pos ⟨h1, h4⟩, if_pos ⟨z5k hw h1, h4⟩]; exact .inl ⟨z1x h1 h4, by rw [zk6 hn]; exact h2, zk5 w hn⟩
   . rw [if_neg (fun h => h4 h.2), if_neg (fun h => h4 h.2)]; exact .inr ⟨fun h => absurd h.1 (by decide), fun h => absurd h.1 (by decide)⟩
  . exact .inr ⟨fun h => h1 (qu1 h).1, fun h => h2 (qu1 h).1⟩
 . obtain ⟨h1, _, h3⟩ := qu1 hk; rw [h3, z2w h1]; exact hd h1
theorem zb9 {g : GGraph} {most : Int} {R : MS -> MS -> Prop} (hev : ∀ n v v' s s', n < g.Nodes.length -> T2 e w v v' -> R s s' -> R (q0t g most s n v).2 (q0t g most s' n v').2) :
  ∀ (d a b : Nat) (sc : Int) (t t' : GTime) (s s' : MS), b <= g.Nodes.length -> T2 e w t t' -> R s s' -> R (q1x g most (sched g d a b sc t) s) (q1x g most (sched g d a b sc t') s')
 | 0, _, _, _, _, _, _, _, _, _, h => h
 | d + 1, a, b, sc, t, t', s, s', hb, ht, h => by
  unfold sched; have loop : ∀ (n E : Nat) (c : Int), E <= g.Nodes.length -> ∀ (k : Nat) (u u' : GTime) (s s' : MS), T2 e w u u' -> (ok u -> 2 <= u.D) -> R s s' -> R (q1x g most (qd4 (sched g d n E c) k u) s) (q1x g most (qd4 (sched g d n E c) k u') s') := by
   intro n E c hE k
   induction k with
   | zero => intro _ _ _ _ _ _ h; exact h
   | succ k ih =>
    intro u u' s s' hu hd h; unfold qd4; rw [qa5, qa5]; obtain ⟨n1, n2⟩ := j8m hw hu hd; exact ih _ _ _ _ n1 n2 (zb9 hev d n E c u u' s s' hE hu h)
  have key : ∀ (f n : Nat) (s s' : MS), R s s' -> R (q1x g most (qd3 g (sched g d) b sc t f n) s) (q1x g most (qd3 g (sched g d) b sc t' f n) s') := by
   intro f
   induction f with
   | zero => intro _ _ _ h; exact h
   | succ f ih =>
    intro n s s' h; unfold qd3
    split
    .
     rename_i hn
     split
     . rw [qa5, qa5]; obtain ⟨_, e2, _⟩ := qa7 g (nd g n).Scope b (b - n) n (by omega); obtain ⟨n1, n2⟩ := j61 hw ht; exact ih _ _ _ (loop _ _ _ (by omega) _ _ _ _ _ n1 n2 h)
     .
      rw [q5d, q5d]; refine ih _ _ _ (hev n _ _ s s' (by omega) ?_ h); unfold atA
      split
      . exact j60 hw ht
      . exact ht
    . exact h
  exact key _ _ _ _ h
end
structure Rn (e w : Int) (s s' : MS) : Prop where
 ins : ∀ n v, ok v -> v.C.a0 = e -> s.ins ⟨n, v⟩ = s'.ins ⟨n, q5s w v⟩
 work : s.work = s'.work
 outs : s'.outs = s.outs.map fun o => ⟨o.Node, w, o.Rec⟩
 er : s.e = s'.e
section
variable {e w : Int} (hw : 0 <= w /\ w <= 1048576) {g : GGraph} (hG : VA.Good g) {most : Int}
theorem zy8 {n m : Int} {u v : GTime} (hu : u.C.a0 = e) (hv : v.C.a0 = e) : ((⟨n, u⟩ : GMean_point) = ⟨m, v⟩) ↔ ((⟨n, q5s w u⟩ : GMean_point) = ⟨m, q5s w v⟩) := by
 simp only [GMean_point.mk.injEq]; exact ⟨fun h => ⟨h.1, by rw [h.2]⟩, fun h => ⟨h.1, j4e hu hv h.2⟩⟩
theorem z6d {n : Nat} {u : GTime} (hu : u.C.a0 = e) {out : List GItem} (hok : ok u) : ∀ (es : List GEdge) (s s' : MS), Rn e w s s' -> Rn e w (q2b n u out es s) (q2b n (q5s w u) out es s')
 | [], _, _, h => h
 | x :: es, s, s', h => by
  refine z6d hu hok es (q1o n u out s x) (q1o n (q5s w u) out s' x) ?_; unfold q1o
  split
  .
   obtain ⟨_, _, r3, r4, r5⟩ := qd0 s ⟨x.To, u⟩ x.Port out; obtain ⟨_, _, q3, q4, q5⟩ := qd0 s' ⟨x.To, q5s w u⟩ x.Port out; refine ⟨fun m v hv hve => ?_, by dsimp only; rw [h.work], by dsimp only; rw [r4, q4]; exact h.outs, by dsimp only; rw [r5, q5]; exact h.er⟩; dsimp only; rw [q9a, q9a]; have hp := zy8 (w := w) (n := m) (m := x.To) hve hu
   by_cases hc : out ≠ [] /\ (⟨m, v⟩ : GMean_point) = ⟨x.To, u⟩
   . rw [if_pos hc, if_pos ⟨hc.1, hp.1 hc.2⟩, h.ins x.To u hok hu]
   . rw [if_neg hc, if_neg (fun hx => hc ⟨hx.1, hp.2 hx.2⟩)]; exact h.ins m v hv hve
  . exact h
include hw hG
theorem j57 {n : Nat} (hn : n < g.Nodes.length) {v : GTime} (hpt : PtM g ⟨n, v⟩) : (q07 g n (q5s w v)).2 = (q07 g n v).2 /\ ((q07 g n v).2 = true -> (q07 g n (q5s w v)).1 = q5s w (q07 g n v).1 /\ ok (q07 g n v).1) := by
 obtain ⟨_, hv, hvD⟩ := qo1 hpt; have hv' := z5k hw hv
 by_cases c10 : (nd g n).Kind = 10
 .
  rw [qi8 c10, qi8 c10]
  by_cases h4 : v.D ≠ 4
  . rw [if_pos ⟨hv', h4⟩, if_pos ⟨hv, h4⟩]; exact ⟨rfl, fun _ => ⟨rfl, z4h hv h4⟩⟩
  . rw [if_neg (fun h => h4 h.2), if_neg (fun h => h4 h.2)]; exact ⟨rfl, fun h => by cases h⟩
 by_cases c11 : (nd g n).Kind = 11
 .
  rw [qi7 c11, qi7 c11]
  by_cases h4 : v.D ≠ 1
  . rw [if_pos ⟨hv', h4⟩, if_pos ⟨hv, h4⟩]; exact ⟨rfl, fun _ => ⟨zm2 w v, z8e hv h4⟩⟩
  . rw [if_neg (fun h => h4 h.2), if_neg (fun h => h4 h.2)]; exact ⟨rfl, fun h => by cases h⟩
 by_cases c12 : (nd g n).Kind = 12
 .
  obtain ⟨r0, r1, r2⟩ := q44 hG hn; have hl : lev g n = dep g (nd g n).Scope := by unfold lev qb0; rw [if_neg c10]
  have h3 := ((z0o hG r0 r1).2.2 (r2 (by omega))).2.2.2; have hn1 : v.D ≠ 1 := by omega
  have hs1 : (q5s w v).D ≠ 1 := hn1; rw [qi6 c12, qi6 c12, z2y w hn1, zd6]
  by_cases h4 : lastT v ≠ q85 v
  .
   rw [if_pos ⟨hv', h4⟩, if_pos ⟨hv, h4⟩]; dsimp only; have hD : (nxT v).D ≠ 1 := by rw [z2w hv]; exact hn1
   rw [zk5 w hn1, z2y w hD]; exact ⟨rfl, fun _ => ⟨rfl, z1x hv h4⟩⟩
  . rw [if_neg (fun h => h4 h.2), if_neg (fun h => h4 h.2)]; exact ⟨rfl, fun h => by cases h⟩
 . rw [qo3 c10 c11 c12, qo3 c10 c11 c12]; exact ⟨rfl, fun _ => ⟨rfl, hv⟩⟩
theorem j86 {n : Nat} (hn : n < g.Nodes.length) (h14 : (nd g n).Kind ≠ 14) {v v' : GTime} (ht : T2 e w v v') {s s' : MS} (hW : W g s) (hW' : W g s') (h : Rn e w s s') : Rn e w (q0t g most s n v).2 (q0t g most s' n v').2 := by
 rcases ht with ⟨hv, hve, rfl⟩ | ⟨h1, h2⟩
 .
  have hi := h.ins n v hv hve
  by_cases hno : s.ins ⟨n, v⟩ = no2 \/ s.e ≠ 0
  . rw [qu8 hno, qu8 (by rw [<- hi, <- h.er]; exact hno)]; exact h
  have hne : s.ins ⟨n, v⟩ ≠ no2 := fun e => hno (.inl e); obtain ⟨g1, g2⟩ := j57 hw hG hn (hW _ hne); have hep := zn1 hG hn (hW _ hne); have hno' : ¬ (s'.ins ⟨n, q5s w v⟩ = no2 \/ s'.e ≠ 0) := by rw [<- hi, <- h.er]; exact hno
  unfold q0t; rw [if_neg hno, if_neg hno', <- hi, if_neg h14, if_neg h14]; have hk : Rn e w (takeA g n v s) (takeA g n (q5s w v) s') := by
   unfold takeA; rw [if_neg h14, if_neg h14]; refine ⟨fun m u hu hue => ?_, h.work, h.outs, h.er⟩; dsimp only; unfold upd; have hp := zy8 (w := w) (n := m) (m := n) hue hve
   by_cases hc : (⟨m, u⟩ : GMean_point) = ⟨n, v⟩
   . rw [if_pos hc, if_pos (hp.1 hc)]
   . rw [if_neg hc, if_neg (fun hx => hc (hp.2 hx))]; exact h.ins m u hu hue
  generalize takeA g n v s = x at *
  generalize takeA g n (q5s w v) s' = x' at *
  unfold qf7
  cases q6i (nd g n) (s.ins ⟨n, v⟩).a0 (s.ins ⟨n, v⟩).a1 with
  | none => exact ⟨hk.ins, hk.work, hk.outs, rfl⟩
  | some out =>
   dsimp only
   by_cases h15 : (nd g n).Kind = 15
   . rw [if_pos h15, if_pos h15]; refine ⟨hk.ins, hk.work, ?_, hk.er⟩; dsimp only; rw [hk.outs, List.map_append, List.map_map]; rfl
   rw [if_neg h15, if_neg h15, g1]
   by_cases hx : (q07 g n v).2 = false \/ out = []
   . rw [if_pos hx, if_pos hx]; exact hk
   rw [if_neg hx, if_neg hx]; have hu : (q07 g n v).2 = true := by simpa using fun e => hx (.inl e)
   obtain ⟨g3, g4⟩ := g2 hu; rw [g3]; have hs := z6d (n := n) (w := w) (out := out) ((hep hu).trans hve) g4 g.Edges x x' hk; dsimp only; rw [hs.work]
   split
   . exact ⟨hs.ins, rfl, hs.outs, rfl⟩
   . exact hs
 . have e1 : s.ins ⟨n, v⟩ = no2 := Xa fun hx => h1 (qo1 (hW _ hx)).2.1; have e2 : s'.ins ⟨n, v'⟩ = no2 := Xa fun hx => h2 (qo1 (hW' _ hx)).2.1; rw [qu8 (.inl e1), qu8 (.inl e2)]; exact h
end
theorem j88 (f : GFeed) : qg5 [f] = [f.Epoch] := Once.unique (qo8 [f]) ⟨List.pairwise_singleton _ _, fun x => by simp⟩
theorem j20 {g : GGraph} {most : Int} {f : GFeed} {w : Int} (ha : Ask g [f] most) (hw : 0 <= w /\ w <= 1048576) (h14 : ∀ n, n < g.Nodes.length -> (nd g n).Kind ≠ 14) :
  Ask g [⟨f.Node, w, f.Rec⟩] most /\ (q18 g most [⟨f.Node, w, f.Rec⟩]).e = (q18 g most [f]).e /\ (q18 g most [⟨f.Node, w, f.Rec⟩]).work = (q18 g most [f]).work /\ (q18 g most [⟨f.Node, w, f.Rec⟩]).outs = (q18 g most [f]).outs.map fun o => ⟨o.Node, w, o.Rec⟩ := by
 obtain ⟨hG, hm0, hm1, hF⟩ := ha; have hf := hF f (by simp); obtain ⟨f0, f1, f2, f3⟩ := hf; have hF' : ∀ x ∈ [(⟨f.Node, w, f.Rec⟩ : GFeed)], qw9 g x := fun x hx => by
  rw [List.mem_singleton.1 hx]; exact ⟨f0, f1, f2, hw⟩
 have ha' : Ask g [⟨f.Node, w, f.Rec⟩] most := ⟨hG, hm0, hm1, hF'⟩; have e1 := qb1 hG (most := most) hF (X := [f]) (by simp) fun x hx => hx; have e2 := qb1 hG (most := most) hF' (X := [⟨f.Node, w, f.Rec⟩]) (by simp) fun x hx => hx; rw [j88] at e1 e2; unfold qn1 at e1 e2; rw [List.flatMap_singleton] at e1 e2; have h0 : Rn f.Epoch w (q3m [f]) (q3m [⟨f.Node, w, f.Rec⟩]) := by
  refine ⟨fun n v hv hve => ?_, rfl, rfl, rfl⟩
  show (q3r s0 ⟨f.Node, ep f.Epoch⟩ 0 [⟨f.Rec, 1⟩]).ins ⟨n, v⟩ = (q3r s0 ⟨f.Node, ep w⟩ 0 [⟨f.Rec, 1⟩]).ins ⟨n, q5s w v⟩
  rw [q9a, q9a]; have hp := zy8 (w := w) (n := n) (m := f.Node) (v := ep f.Epoch) hve rfl
  by_cases hc : (⟨n, v⟩ : GMean_point) = ⟨f.Node, ep f.Epoch⟩
  . rw [if_pos ⟨by simp, hc⟩, if_pos ⟨by simp, hp.1 hc⟩]; rfl
  . rw [if_neg (fun h => hc h.2), if_neg (fun h => hc (hp.2 h.2))]; rfl
 have hT : T2 f.Epoch w (ep f.Epoch) (ep w) := .inl ⟨zg7 f3, rfl, rfl⟩; obtain ⟨_, _, h⟩ := zb9 (e := f.Epoch) hw (g := g) (most := most) (R := fun s s' => W g s /\ W g s' /\ Rn f.Epoch w s s') (fun n v v' s s' hn ht h =>
  ⟨(q7u hG most hn (t := v) (e := v.C.a0) (fun _ => rfl) h.1).1, (q7u hG most hn (t := v') (e := v'.C.a0) (fun _ => rfl) h.2.1).1, j86 hw hG hn (h14 n hn) ht h.1 h.2.1 h.2.2⟩)
  8 0 g.Nodes.length 0 (ep f.Epoch) (ep w) (q3m [f]) (q3m [⟨f.Node, w, f.Rec⟩]) (Nat.le_refl _) hT ⟨z0i hG _ hF, z0i hG _ hF', h0⟩
 have r1 : q1x g most (q8w g f.Epoch) (q3m [f]) = q18 g most [f] := e1.symm; have r2 : q1x g most (q8w g w) (q3m [⟨f.Node, w, f.Rec⟩]) = q18 g most [⟨f.Node, w, f.Rec⟩] := e2.symm; unfold q8w at r1 r2; rw [r1, r2] at h; exact ⟨ha', h.er.symm, h.work.symm, h.outs⟩
end MN
end Go.Proofs.YtaiccbgcgcfhfaaGreat
