/-
  The law in plain words: what its plain function gives is true. No condition beyond those that each theorem names.
-/
import Derived.Test.YtaiccbgcgcfhfaaGreatWalkWL0
import Derived.Test.YtaiccbgcgcfhfaaGreatP12F
set_option linter.unusedSimpArgs false
set_option linter.unusedVariables false
set_option linter.unusedSectionVars false
open List renaming pairwise_iff_forall_sublist -> Xa, eq_of_mem_replicate -> Xb, filter_cons_of_pos -> Xc, pairwise_append -> Xd, pairwise_cons -> Xe, Pairwise.nil -> Xf
namespace Go.Proofs.YtaiccbgcgcfhfaaGreat
open Go Go.RowKit TS VA BG
namespace MN
open Classical
def Ord (outs : List GOut) : Prop := outs.Pairwise fun x y => x.Node = y.Node -> x.Epoch < y.Epoch \/ x.Epoch = y.Epoch /\ ¬ BG.lt y.Rec x.Rec
def Upto (e : Int) (n : Nat) (outs : List GOut) : Prop := Ord outs /\ ∀ o ∈ outs, o.Epoch < e \/ (o.Epoch = e /\ o.Node < n)
theorem Upto.mono {e : Int} {n m : Nat} {outs : List GOut} (h : Upto e n outs) (hnm : n <= m) : Upto e m outs := ⟨h.1, fun o ho => by
 rcases h.2 o ho with h | ⟨h1, h2⟩
 . exact .inl h
 . exact .inr ⟨h1, by omega⟩⟩
theorem zx6 {r : GRec} : ∀ {b : List GItem}, r ∈ all b -> ∃ y ∈ b, y.Rec = r
 | [], h => by cases h
 | y :: b, h => by
  rw [all_cons] at h; rcases List.mem_append.1 h with h | h
  . exact ⟨y, by simp, (Xb h).symm⟩
  . obtain ⟨z, hz, he⟩ := zx6 h; exact ⟨z, by simp [hz], he⟩
theorem zx7 : ∀ {b : List GItem}, b.Pairwise (fun p q => BG.lt p.Rec q.Rec) -> (all b).Pairwise fun x y => ¬ BG.lt y x
 | [], _ => Xf
 | y :: b, h => by
  obtain ⟨h1, h2⟩ := Xe.1 h; rw [all_cons]; refine Xd.2 ⟨?_, zx7 h2, fun x hx z hz hl => ?_⟩
  . exact List.pairwise_replicate.2 (.inr (qw2 y.Rec))
  . rw [Xb hx] at hl; obtain ⟨q, hq, rfl⟩ := zx6 hz; exact qw2 _ (z5l (h1 q hq) hl)
theorem zb7 {n : Nat} {u : GTime} {out : List GItem} : ∀ (es : List GEdge) (s : MS), (q2b n u out es s).outs = s.outs
 | [], _ => rfl
 | x :: es, s => by
  refine (zb7 es (q1o n u out s x)).trans ?_; unfold q1o
  split
  . exact (qd0 s ⟨x.To, u⟩ x.Port out).2.2.2.1
  . rfl
theorem j1n (g : GGraph) (n : Nat) (t : GTime) (s : MS) : (takeA g n t s).outs = s.outs := by unfold takeA; split <;> rfl
theorem ze8 {g : GGraph} {most : Int} {s : MS} {n : Nat} {t : GTime} : (q0t g most s n t).2.outs = s.outs \/ ((nd g n).Kind = 15 /\ ∃ o, Fn o /\ (q0t g most s n t).2.outs = s.outs ++ (all o).map fun r => ⟨n, t.C.a0, r⟩) := by
 unfold q0t
 split
 . exact .inl rfl
 generalize (if (nd g n).Kind = 14 then j00 (takeA g n t s) n t else (s.ins ⟨n, t⟩).a1) = b
 have ht := j1n g n t s
 generalize takeA g n t s = x at *
 unfold qf7
 cases ha : q6i (nd g n) (s.ins ⟨n, t⟩).a0 b with
 | none => exact .inl ht
 | some out =>
  dsimp only
  by_cases h15 : (nd g n).Kind = 15
  . rw [if_pos h15]; exact .inr ⟨h15, out, (q7v ha).1, by dsimp only; rw [ht]⟩
  rw [if_neg h15]
  split
  . exact .inl ht
  .
   left
   dsimp only
   split <;> exact (zb7 g.Edges x).trans ht
section
variable {g : GGraph} (hG : VA.Good g) {most : Int}
include hG
theorem j4b {n : Nat} (hn : n < g.Nodes.length) (h : (nd g n).Kind = 15) : (nd g n).Scope = 0 := (q7j (hG.no n hn)).2.2.2.1 (.inr h)
theorem ji6 : anc g.Parent 0 = [0] := by
 have hp := hG.pl; rw [q4y hG.wp (by omega) (by omega), (hG.wp.2 0 (by omega) (by omega)).2.2 rfl, q64]
theorem z4w {d : Nat} {e : Int} : ∀ (f n : Nat) (s : MS), n <= g.Nodes.length -> Upto e n s.outs -> Upto e g.Nodes.length (q1x g most (qd3 g (sched g d) g.Nodes.length 0 (ep e) f n) s).outs
 | 0, _, _, hn, h => h.mono hn
 | f + 1, n, s, hn, h => by
  unfold qd3
  split
  .
   rename_i hlt
   split
   .
    rename_i hs
    rw [qa5]; obtain ⟨e1, e2, e3, _⟩ := qa7 g (nd g n).Scope g.Nodes.length (g.Nodes.length - n) n hn; refine z4w f _ _ e2 (Upto.mono ?_ e1); refine qb5 (P := fun x => Upto e n x.outs) (fun p hp x hx => ?_) h; have hm : n <= p.1 /\ p.1 < q9m g (nd g n).Scope g.Nodes.length (g.Nodes.length - n) n := by
     refine qr2 (H := fun _ => True) (Q := fun p => n <= p.1 /\ p.1 < q9m g (nd g n).Scope g.Nodes.length (g.Nodes.length - n) n) (fun _ _ => trivial) (fun u _ q hq => ?_) _ _ trivial p hp; obtain ⟨m1, m2, _⟩ := qh5 d _ _ _ u q hq; exact ⟨m1, m2⟩
    rcases ze8 (g := g) (most := most) (s := x) (n := p.1) (t := p.2) with h1 | ⟨h1, _⟩
    . rw [h1]; exact hx
    .
     exfalso
     have h2 := e3 p.1 hm.1 hm.2; rw [j4b hG (by omega) h1, ji6 hG, List.mem_singleton] at h2; exact hs h2
   .
    rename_i hs
    rw [q5d]; refine z4w f _ _ hlt ?_; rcases ze8 (g := g) (most := most) (s := s) (n := n) (t := atA g n (ep e)) with h1 | ⟨h1, o, ho, h2⟩
    . dsimp only; rw [h1]; exact h.mono (by omega)
    .
     have hat : atA g n (ep e) = ep e := by unfold atA; rw [if_neg (by omega)]
     dsimp only; rw [h2, hat]; refine ⟨Xd.2 ⟨h.1, ?_, fun x hx y hy hxy => ?_⟩, fun x hx => ?_⟩
     . rw [List.pairwise_map]; exact (zx7 ho.rt.inc).imp fun {x y} hl _ => .inr ⟨rfl, hl⟩
     .
      obtain ⟨r, _, rfl⟩ := List.mem_map.1 hy; dsimp only at hxy ⊢; rcases h.2 x hx with h3 | ⟨_, h4⟩
      . exact .inl h3
      . omega
     .
      rcases List.mem_append.1 hx with hx | hx
      .
       rcases h.2 x hx with h3 | ⟨h3, h4⟩
       . exact .inl h3
       . exact .inr ⟨h3, by omega⟩
      . obtain ⟨r, _, rfl⟩ := List.mem_map.1 hx; exact .inr ⟨rfl, by dsimp only; omega⟩
  . exact h.mono hn
theorem zn2 : ∀ (es : List Int) (s : MS), es.Pairwise (· < ·) -> Ord s.outs -> (∀ o ∈ s.outs, ∀ e ∈ es, o.Epoch < e) -> Ord (qn1 g most es s).outs
 | [], _, _, h, _ => h
 | e :: es, s, hs, h, hb => by
  obtain ⟨h1, h2⟩ := Xe.1 hs; rw [qz1]; have h3 : Upto e g.Nodes.length (q1x g most (q8w g e) s).outs := by
   unfold q8w sched; exact z4w hG _ _ _ (Nat.zero_le _) ⟨h, fun o ho => .inl (hb o ho e (by simp))⟩
  refine zn2 es _ h2 h3.1 fun o ho x hx => ?_; have := h1 x hx; rcases h3.2 o ho with h4 | ⟨h4, _⟩ <;> omega
end
theorem j7i {g : GGraph} {feeds : List GFeed} {most : Int} (ha : Ask g feeds most) (hl : feeds.length <= 1000) : Ord (q18 g most feeds).outs := by
 rw [qb1 ha.1 ha.2.2.2 hl fun f hf => hf]; have h0 := (z02 feeds hl).2.2.2.2.1; exact zn2 ha.1 _ _ (qo8 feeds).inc (by rw [h0]; exact Xf) (by rw [h0]; simp)
theorem zy2 {S Z : List GOut} (h : SO.Srt (fun o => o.Node) S Z) (ho : Ord S) : Z.Pairwise fun x y => x.Node < y.Node \/ x.Node = y.Node /\ (x.Epoch < y.Epoch \/ x.Epoch = y.Epoch /\ ¬ BG.lt y.Rec x.Rec) := by
 refine Xa.2 fun {x y} hsub => ?_; have h1 := Xa.1 h.inc hsub; rcases (by omega : x.Node < y.Node \/ x.Node = y.Node) with h2 | h2
 . exact .inl h2
 . refine .inr ⟨h2, ?_⟩; have h3 := hsub.filter (fun o => decide (o.Node = y.Node)); rw [Xc (by simpa using h2), Xc (by simp), List.filter_nil] at h3; have h4 := h.fil y.Node; rw [h4] at h3; exact Xa.1 (ho.sublist List.filter_sublist) h3 h2
end MN
end Go.Proofs.YtaiccbgcgcfhfaaGreat
