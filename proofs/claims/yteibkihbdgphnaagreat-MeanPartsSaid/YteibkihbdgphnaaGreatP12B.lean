/-
  The law in plain words: what its plain function gives is true. No condition beyond those that each theorem names.
-/
import Derived.Test.YteibkihbdgphnaaGreatWalkMP0
import Derived.Test.YteibkihbdgphnaaGreatP12I
import Derived.Test.YteibkihbdgphnaaGreatP11g
set_option linter.unusedSimpArgs false
set_option linter.unusedVariables false
set_option linter.unusedSectionVars false
open List renaming count_append -> Xa, perm_iff_count -> Xb
namespace Go.Proofs.YteibkihbdgphnaaGreat
open Go Go.RowKit TS VA BG
namespace MN
open Classical
def ql6 (x : GNode) (a b : List GItem) : List GItem := if x.Kind = 5 then OP.lin x a ++ OP.lin x b else OP.lin x a
theorem qo5 (f : GRec -> Int) {a b : List GItem} (ha : Fn a) (hb : Fn b) (ht : tot a + tot b <= 50000000) : OP.wsum f (q08 a b) = OP.wsum f a + OP.wsum f b := by
 obtain ⟨_, _, _, h⟩ := q1x ha hb ht; rw [<- OP.wsum_append]; exact OP.wsum_eq f fun r => by rw [h, q7u]
theorem z6n (x : GNode) : ∀ b : List GItem, tot (OP.lin x b) = OP.wsum (fun r => ((OP.sing x r).length : Int)) b
 | [] => rfl
 | y :: b => by
  have h := z6n x b; rw [OP.wsum_cons, <- h, <- OP.tot_map, <- OP.lin_one, <- q3a, <- OP.lin_append]; rfl
theorem j50 {x : GNode} {a a' b b' : List GItem} (ha : Fn a) (ha' : Fn a') (hb : Fn b) (hb' : Fn b') (hta : tot a + tot a' <= 50000000) (htb : tot b + tot b' <= 50000000) :
  (∀ r, cnt (ql6 x (q08 a a') (q08 b b')) r = cnt (ql6 x a b) r + cnt (ql6 x a' b') r) /\ tot (ql6 x (q08 a a') (q08 b b')) = tot (ql6 x a b) + tot (ql6 x a' b') := by
 unfold ql6
 split
 .
  refine ⟨fun r => ?_, ?_⟩
  . simp only [q7u, OP.cnt_lin, qo5 _ ha ha' hta, qo5 _ hb hb' htb]; omega
  . simp only [q3a, z6n, qo5 _ ha ha' hta, qo5 _ hb hb' htb]; omega
 .
  refine ⟨fun r => ?_, ?_⟩
  . simp only [OP.cnt_lin, qo5 _ ha ha' hta]
  . simp only [z6n, qo5 _ ha ha' hta]
theorem zl7 {x : GNode} {a b : List GItem} (ha : Fn a) (hb : Fn b) : 0 <= tot (ql6 x a b) := by
 have h1 := (OP.lin_pos (x := x) ha.pos).tot_nonneg; have h2 := (OP.lin_pos (x := x) hb.pos).tot_nonneg; unfold ql6
 split
 . rw [q3a]; omega
 . omega
theorem qz8 {x : GNode} (hl : OP.linS x.Kind = true) {a b : List GItem} (ha : Fn a) (hb : Fn b) (la : a.length <= 60000) (lb : b.length <= 60000) :
  (∀ o, q7n x a b = some o -> tot (ql6 x a b) <= 65536 /\ ∀ r, cnt o r = cnt (ql6 x a b) r) /\ (tot (ql6 x a b) <= 65536 -> ∃ o, q7n x a b = some o) := by
 obtain ⟨h1, h2⟩ := CE.ports la lb; obtain ⟨v, hv, O, hO, pO, hF⟩ := OP.Apply_ok (x := x) h1 h2 (CE.there_good a la) (CE.there_good b lb); have hOa : O = ql6 x a b := by
  unfold OP.Out at hO; unfold ql6; rw [qv5 ha.rt ha.pos, qv5 hb.rt hb.pos] at hO
  split at hO
  . rename_i h5; rw [if_pos h5]; exact hO
  . rename_i h5; rw [if_neg h5]; first | exact hO | (rw [if_pos hl] at hO; exact hO)
 obtain ⟨o, k, e1, e2, e3, e4⟩ := z6l (x := x) la lb; rw [hv] at e1
 cases e1
 rw [<- hOa]; rcases hF with ⟨rfl, hp, ht⟩ | ⟨rfl, _, ht⟩
 .
  rw [if_pos rfl] at e4; refine ⟨fun o' ho => ?_, fun _ => ⟨_, e4⟩⟩; rw [e4] at ho
  cases ho
  exact ⟨ht, fun r => by rw [hp.cnt]; simp [cnt]⟩
 .
  rw [if_neg (by simp)] at e4; refine ⟨fun o' ho => ?_, fun h => ?_⟩
  . rw [e4] at ho; cases ho
  . omega
theorem j2x {x : GNode} (hl : OP.linS x.Kind = true) {a a' b b' : List GItem} (ha : Fn a) (ha' : Fn a') (hb : Fn b) (hb' : Fn b') (hta : tot a + tot a' <= 50000) (htb : tot b + tot b' <= 50000) {o : List GItem}
  (h : q7n x (q08 a a') (q08 b b') = some o) : ∃ o1 o2, q7n x a b = some o1 /\ q7n x a' b' = some o2 /\ o = q08 o1 o2 := by
 have la := ha.len; have la' := ha'.len; have lb := hb.len; have lb' := hb'.len; obtain ⟨_, p1, p2, _⟩ := q1x ha ha' (by omega); obtain ⟨_, q1, q2, _⟩ := q1x hb hb' (by omega); have lp := p1.len; have lq := q1.len; obtain ⟨c1, c2⟩ := j50 (x := x) ha ha' hb hb' (by omega) (by omega); obtain ⟨h1, h2⟩ := (qz8 hl p1 q1 (by omega) (by omega)).1 o h; have n1 := zl7 (x := x) ha hb; have n2 := zl7 (x := x) ha' hb'; obtain ⟨f1, f2⟩ := qz8 hl ha hb (by omega) (by omega); obtain ⟨g1, g2⟩ := qz8 hl ha' hb' (by omega) (by omega); obtain ⟨o1, ho1⟩ := f2 (by omega); obtain ⟨o2, ho2⟩ := g2 (by omega); obtain ⟨z1, z2⟩ := qj2 ho1; obtain ⟨y1, y2⟩ := qj2 ho2; obtain ⟨_, w1, _, w3⟩ := q1x z1 y1 (by omega); refine ⟨o1, o2, ho1, ho2, Rt.unique (qj2 h).1.rt w1.rt fun r => ?_⟩; rw [h2, c1, w3, (f1 o1 ho1).2, (g1 o2 ho2).2]
theorem j2y {x : GNode} (hl : OP.linS x.Kind = true) : q7n x [] [] = some [] := by
 have hz : ql6 x [] [] = [] := by unfold ql6; split <;> rfl
 obtain ⟨f1, f2⟩ := qz8 hl Fn.nil Fn.nil (by simp) (by simp); rw [hz] at f1 f2; obtain ⟨o, ho⟩ := f2 (by simp [tot]); rw [ho]
 congr 1
 exact Rt.unique (qj2 ho).1.rt Rt.nil fun r => (f1 o ho).2 r
theorem all_cons (y : GItem) (b : List GItem) : all (y :: b) = List.replicate y.N.toNat y.Rec ++ all b := rfl
theorem z1h (r : GRec) : ∀ {b : List GItem}, OP.Pos b -> ((all b).count r : Int) = cnt b r
 | [], _ => rfl
 | y :: b, h => by
  have h1 := z1h r (b := b) fun z hz => h z (by simp [hz]); have h2 := h y (by simp); rw [all_cons, Xa, List.count_replicate, Int.natCast_add, h1]
  by_cases hy : y.Rec = r
  . rw [if_pos (by simpa using hy)]; simp only [cnt]; rw [if_pos hy]; omega
  . rw [if_neg (by simpa using hy)]; simp only [cnt]; rw [if_neg hy]; omega
theorem j5b {a b : List GItem} (ha : Fn a) (hb : Fn b) (ht : tot a + tot b <= 50000000) : (all (q08 a b)).Perm (all a ++ all b) := by
 obtain ⟨_, h1, _, h3⟩ := q1x ha hb ht; refine Xb.2 fun r => ?_; have e1 := z1h r h1.pos; have e2 := z1h r ha.pos; have e3 := z1h r hb.pos; rw [Xa]; have := h3 r; omega
structure L3 (K : Int) (s s1 s2 : MS) : Prop where
 fn : ∀ p, (Fn (s1.ins p).a0 /\ Fn (s1.ins p).a1) /\ (Fn (s2.ins p).a0 /\ Fn (s2.ins p).a1)
 eq : ∀ p, s.ins p = ⟨q08 (s1.ins p).a0 (s2.ins p).a0, q08 (s1.ins p).a1 (s2.ins p).a1⟩
 bd : ∀ p, tot (s1.ins p).a0 + tot (s2.ins p).a0 <= K /\ tot (s1.ins p).a1 + tot (s2.ins p).a1 <= K
 wk : s.work = s1.work + s2.work /\ 0 <= s1.work /\ 0 <= s2.work
 ou : s.outs.Perm (s1.outs ++ s2.outs)
 e : s.e = 0 /\ s1.e = 0 /\ s2.e = 0
theorem za9 {s : MS} {q : GMean_point} (h0 : Fn (s.ins q).a0) (h1 : Fn (s.ins q).a1) (ht : tot (s.ins q).a0 <= 50000000 /\ tot (s.ins q).a1 <= 50000000) (port : Int) (b : List GItem) (p : GMean_point) :
  (q4h s q port b).ins p = if p = q then q7o (s.ins q) port b else s.ins p := by
 rw [qw8]
 by_cases hp : p = q
 .
  subst hp
  by_cases hb : b = []
  .
   subst hb; rw [if_neg (fun h => h.1 rfl), if_pos rfl]; unfold q7o
   split
   . rw [z0f h0 ht.1]
   . rw [z0f h1 ht.2]
  . rw [if_pos ⟨hb, rfl⟩, if_pos rfl]
 . rw [if_neg (fun h => hp h.2), if_neg hp]
theorem j0g {K : Int} {s s1 s2 : MS} (h : L3 K s s1 s2) {o1 o2 : List GItem} (f1 : Fn o1) (f2 : Fn o2) (hK : K + tot o1 + tot o2 <= 50000000) (q : GMean_point) (port : Int) :
  L3 (K + tot o1 + tot o2) (q4h s q port (q08 o1 o2)) (q4h s1 q port o1) (q4h s2 q port o2) := by
 have l1 := f1.len; have l2 := f2.len; obtain ⟨⟨a1, b1⟩, ⟨a2, b2⟩⟩ := h.fn q; obtain ⟨k0, k1⟩ := h.bd q; have la1 := a1.len; have lb1 := b1.len; have la2 := a2.len; have lb2 := b2.len; obtain ⟨_, p1, p2, _⟩ := q1x a1 a2 (by omega); obtain ⟨_, q1, q2, _⟩ := q1x b1 b2 (by omega); have es := h.eq q; have c0 := fun p => za9 (s := s) (q := q) (by rw [es]; exact p1) (by rw [es]; exact q1) (by rw [es]; exact ⟨by dsimp only; omega, by dsimp only; omega⟩) port (q08 o1 o2) p; have c1 := fun p => za9 (s := s1) (q := q) a1 b1 ⟨by omega, by omega⟩ port o1 p; have c2 := fun p => za9 (s := s2) (q := q) a2 b2 ⟨by omega, by omega⟩ port o2 p; obtain ⟨_, _, w0, u0, x0⟩ := qz6 s q port (q08 o1 o2); obtain ⟨_, _, w1, u1, x1⟩ := qz6 s1 q port o1; obtain ⟨_, _, w2, u2, x2⟩ := qz6 s2 q port o2; obtain ⟨_, y1, y2, _⟩ := q1x a1 f1 (by omega); obtain ⟨_, y3, y4, _⟩ := q1x a2 f2 (by omega); obtain ⟨_, y5, y6, _⟩ := q1x b1 f1 (by omega); obtain ⟨_, y7, y8, _⟩ := q1x b2 f2 (by omega); refine ⟨fun p => ?_, fun p => ?_, fun p => ?_, by rw [w0, w1, w2]; exact h.wk, by rw [u0, u1, u2]; exact h.ou, by rw [x0, x1, x2]; exact h.e⟩
 .
  rw [c1, c2]
  by_cases hp : p = q
  .
   rw [if_pos hp, if_pos hp]; unfold q7o
   split
   . exact ⟨⟨y1, b1⟩, ⟨y3, b2⟩⟩
   . exact ⟨⟨a1, y5⟩, ⟨a2, y7⟩⟩
  . rw [if_neg hp, if_neg hp]; exact h.fn p
 .
  rw [c0, c1, c2]
  by_cases hp : p = q
  .
   rw [if_pos hp, if_pos hp, if_pos hp, es]; unfold q7o
   split
   . dsimp only; rw [zd2 a1 a2 f1 f2 (by omega)]
   . dsimp only; rw [zd2 b1 b2 f1 f2 (by omega)]
  . rw [if_neg hp, if_neg hp, if_neg hp]; exact h.eq p
 .
  rw [c1, c2]
  by_cases hp : p = q
  .
   rw [if_pos hp, if_pos hp]; unfold q7o
   split
   . exact ⟨by dsimp only; omega, by dsimp only; omega⟩
   . exact ⟨by dsimp only; omega, by dsimp only; omega⟩
  . rw [if_neg hp, if_neg hp]; have := h.bd p; exact ⟨by omega, by omega⟩
theorem L3.work {K : Int} {s s1 s2 : MS} (h : L3 K s s1 s2) {x y z : Int} (hw : x = y + z /\ 0 <= y /\ 0 <= z) : L3 K { s with work := x } { s1 with work := y } { s2 with work := z } := ⟨h.fn, h.eq, h.bd, hw, h.ou, h.e⟩
theorem L3.mono {K K' : Int} {s s1 s2 : MS} (h : L3 K s s1 s2) (hK : K <= K') : L3 K' s s1 s2 := ⟨h.fn, h.eq, fun p => ⟨Int.le_trans (h.bd p).1 hK, Int.le_trans (h.bd p).2 hK⟩, h.wk, h.ou, h.e⟩
theorem z6q {n : Nat} {u : GTime} : ∀ (es : List GEdge) (s : MS), q4o n u [] es s = s
 | [], _ => rfl
 | e :: es, s => by
  have : q2d n u [] s e = s := by
   unfold q2d
   split
   .
    unfold q4h; rw [if_pos rfl]
    show ({ s with work := s.work + tot [] } : MS) = s
    simp [tot]
   . rfl
  show q4o n u [] es (q2d n u [] s e) = s
  rw [this]; exact z6q es s
theorem zw7 {n : Nat} {u : GTime} {o1 o2 : List GItem} (f1 : Fn o1) (f2 : Fn o2) (ht : tot o1 + tot o2 <= 200000) {C : Int} : ∀ (es : List GEdge) (s s1 s2 : MS), L3 (C + s.work) s s1 s2 -> C + s.work + 200000 * (es.length : Int) <= 50000000 ->
  L3 (C + (q4o n u (q08 o1 o2) es s).work) (q4o n u (q08 o1 o2) es s) (q4o n u o1 es s1) (q4o n u o2 es s2)
 | [], _, _, _, h, _ => h
 | e :: es, s, s1, s2, h, hb => by
  have l1 := f1.len; have l2 := f2.len; obtain ⟨_, _, p2, _⟩ := q1x f1 f2 (by omega); simp only [List.length_cons] at hb
  show L3 (C + (q4o n u (q08 o1 o2) es (q2d n u (q08 o1 o2) s e)).work) (q4o n u (q08 o1 o2) es (q2d n u (q08 o1 o2) s e)) (q4o n u o1 es (q2d n u o1 s1 e)) (q4o n u o2 es (q2d n u o2 s2 e))
  by_cases hf : e.From = n
  .
   have e0 : ∀ (o : List GItem) (s : MS), q2d n u o s e = { q4h s ⟨e.To, u⟩ e.Port o with work := s.work + tot o } := fun o s => by unfold q2d; rw [if_pos hf]
   refine zw7 f1 f2 ht es _ _ _ ?_ ?_
   . rw [e0, e0, e0]; have := j0g h f1 f2 (by omega) ⟨e.To, u⟩ e.Port; obtain ⟨w1, w2, w3⟩ := h.wk; refine L3.mono (L3.work this ?_) (by dsimp only; omega); exact ⟨by omega, by omega, by omega⟩
   . rw [e0]; dsimp only; omega
  .
   have e0 : ∀ (o : List GItem) (s : MS), q2d n u o s e = s := fun o s => by unfold q2d; rw [if_neg hf]
   rw [e0, e0, e0]; exact zw7 f1 f2 ht es _ _ _ h (by omega)
theorem take3 {g : GGraph} {n : Nat} {t : GTime} (h14 : (nd g n).Kind ≠ 14) {K : Int} (hK : 0 <= K) {s s1 s2 : MS} (h : L3 K s s1 s2) : L3 K (takeA g n t s) (takeA g n t s1) (takeA g n t s2) := by
 have e0 : ∀ s, takeA g n t s = { s with ins := upd s.ins ⟨n, t⟩ no2 } := fun s => by unfold takeA; rw [if_neg h14]
 rw [e0, e0, e0]; have hz : tot ([] : List GItem) = 0 := by simp [tot]
 refine ⟨fun p => ?_, fun p => ?_, fun p => ?_, h.wk, h.ou, h.e⟩
 .
  dsimp only; unfold upd
  split
  . exact ⟨⟨Fn.nil, Fn.nil⟩, ⟨Fn.nil, Fn.nil⟩⟩
  . exact h.fn p
 .
  dsimp only; unfold upd
  split
  . unfold no2; dsimp only; rw [z0f Fn.nil (by omega)]
  . exact h.eq p
 .
  dsimp only; unfold upd
  split
  . unfold no2; dsimp only; omega
  . exact h.bd p
theorem z3l {g : GGraph} {most : Int} {n : Nat} (hl : OP.linS (nd g n).Kind = true) (h14 : (nd g n).Kind ≠ 14) {s : MS} {t : GTime} (he : s.e = 0) : (q1m g most s n t).2 = (qj3 g most n t (s.ins ⟨n, t⟩).a0 (s.ins ⟨n, t⟩).a1 (takeA g n t s)).2 := by
 by_cases h : s.ins ⟨n, t⟩ = no2
 .
  rw [za5 (.inl h), h]; have ht : takeA g n t s = s := by
   unfold takeA; rw [if_neg h14]; refine j21 (funext fun p => ?_) rfl rfl rfl rfl rfl
   show upd s.ins _ _ p = _
   unfold upd
   split
   . rename_i hp; rw [hp, h]
   . rfl
  rw [ht]; unfold qj3 no2; dsimp only; rw [j2y hl]; dsimp only
  split
  .
   show s = { s with outs := s.outs ++ _ }
   have : (all ([] : List GItem)) = [] := rfl; rw [this, List.map_nil, List.append_nil]
  . rw [if_pos (.inr rfl)]
 . unfold q1m; rw [if_neg (fun h' => h'.elim h (fun h' => h' he)), if_neg h14]
theorem ja9 {g : GGraph} (hG : VA.Good g) {most C : Int} (hC : 0 <= C) (hCm : C + most <= 7000) {n : Nat} (hl : OP.linS (nd g n).Kind = true) (h14 : (nd g n).Kind ≠ 14) {t : GTime} {s s1 s2 : MS} (h : L3 (C + s.work) s s1 s2) (hw : s.work <= most) (hz : (q1m g most s n t).2.e = 0) :
  L3 (C + (q1m g most s n t).2.work) (q1m g most s n t).2 (q1m g most s1 n t).2 (q1m g most s2 n t).2 /\ (q1m g most s n t).2.work <= most := by
 obtain ⟨e0, e1, e2⟩ := h.e; obtain ⟨w0, w1, w2⟩ := h.wk; rw [z3l hl h14 e0] at hz ⊢; rw [z3l hl h14 e1, z3l hl h14 e2]; obtain ⟨⟨a1, b1⟩, ⟨a2, b2⟩⟩ := h.fn ⟨n, t⟩; obtain ⟨k0, k1⟩ := h.bd ⟨n, t⟩; have ht := take3 (t := t) h14 (by omega) h; have hwt : (takeA g n t s).work = s.work := by unfold takeA; split <;> rfl
 rw [<- hwt] at ht hw; rw [h.eq] at hz ⊢; dsimp only at hz ⊢
 generalize takeA g n t s = x at *
 generalize takeA g n t s1 = x1 at *
 generalize takeA g n t s2 = x2 at *
 generalize (s1.ins ⟨n, t⟩).a0 = A1 at *
 generalize (s1.ins ⟨n, t⟩).a1 = B1 at *
 generalize (s2.ins ⟨n, t⟩).a0 = A2 at *
 generalize (s2.ins ⟨n, t⟩).a1 = B2 at *
 unfold qj3 at hz ⊢
 cases ha : q7n (nd g n) (q08 A1 A2) (q08 B1 B2) with
 | none => rw [ha] at hz; exact absurd hz (by show ¬ (9 : Int) = 0; decide)
 | some o =>
  obtain ⟨o1, o2, h1, h2, rfl⟩ := j2x hl a1 a2 b1 b2 (by omega) (by omega) ha; obtain ⟨z1, z2⟩ := qj2 h1; obtain ⟨y1, y2⟩ := qj2 h2; rw [ha] at hz; rw [h1, h2]; dsimp only at hz ⊢
  by_cases h15 : (nd g n).Kind = 15
  .
   rw [if_pos h15, if_pos h15, if_pos h15]; refine ⟨⟨ht.fn, ht.eq, ht.bd, ht.wk, ?_, ht.e⟩, hw⟩; dsimp only; have := (j5b z1 y1 (by omega)).map fun r => (⟨(n : Int), t.C.a0, r⟩ : GOut); rw [List.map_append] at this; refine (ht.ou.append this).trans ?_
   generalize (all o1).map (fun r => (⟨(n : Int), t.C.a0, r⟩ : GOut)) = m1
   generalize (all o2).map (fun r => (⟨(n : Int), t.C.a0, r⟩ : GOut)) = m2
   refine Xb.2 fun r => ?_; simp only [Xa]; omega
  rw [if_neg h15] at hz; rw [if_neg h15, if_neg h15, if_neg h15]
  by_cases hu : (q0n g n t).2 = false
  . rw [if_pos (.inl hu), if_pos (.inl hu), if_pos (.inl hu)]; exact ⟨ht, hw⟩
  have hel := hG.el; have hs := zw7 (n := n) (u := (q0n g n t).1) z1 y1 (by omega) (C := C) g.Edges x x1 x2 ht (by omega); have l1 := z1.len; have l2 := y1.len; obtain ⟨_, _, p2, _⟩ := q1x z1 y1 (by omega)
  -- what each does
  have each : ∀ (o : List GItem) (x : MS), (q4o n (q0n g n t).1 o g.Edges x).work <= most -> ((if (q0n g n t).2 = false \/ o = [] then ((false, x) : Bool × MS) else (true, if most < (q4o n (q0n g n t).1 o g.Edges x).work then { q4o n (q0n g n t).1 o g.Edges x with e := 9 } else q4o n (q0n g n t).1 o g.Edges x))).2 = q4o n (q0n g n t).1 o g.Edges x := fun o x hle => by
   by_cases ho : o = []
   . subst ho; rw [if_pos (.inr rfl), z6q]
   . rw [if_neg (fun h => h.elim hu ho), if_neg (by omega)]
  have hle : (q4o n (q0n g n t).1 (q08 o1 o2) g.Edges x).work <= most := by
   by_cases ho : q08 o1 o2 = []
   . rw [ho, z6q]; exact hw
   . rw [if_neg (fun h => h.elim hu ho)] at hz; refine Classical.byContradiction fun hx => ?_; dsimp only at hz; rw [if_pos (by omega)] at hz; exact absurd hz (by show ¬ (9 : Int) = 0; decide)
  obtain ⟨v0, v1, v2⟩ := hs.wk; rw [each _ _ hle, each o1 x1 (by omega), each o2 x2 (by omega)]; exact ⟨hs, hle⟩
theorem j5o {g : GGraph} (hG : VA.Good g) {most C : Int} (hC : 0 <= C) (hCm : C + most <= 7000) (hlin : ∀ n, n < g.Nodes.length -> OP.linS (nd g n).Kind = true /\ (nd g n).Kind ≠ 14) : ∀ (L : List (Nat × GTime)) (s s1 s2 : MS), (∀ p ∈ L, p.1 < g.Nodes.length) ->
  L3 (C + s.work) s s1 s2 -> s.work <= most -> (q5v g most L s).e = 0 -> L3 (C + (q5v g most L s).work) (q5v g most L s) (q5v g most L s1) (q5v g most L s2) /\ (q5v g most L s).work <= most
 | [], _, _, _, _, h, hw, _ => ⟨h, hw⟩
 | p :: L, s, s1, s2, hp, h, hw, hz => by
  rw [qa7] at hz; rw [qa7, qa7, qa7]; obtain ⟨l1, l2⟩ := hlin p.1 (hp p (by simp)); obtain ⟨h1, h2⟩ := ja9 hG hC hCm l1 l2 h hw (j06 hz); exact j5o hG hC hCm hlin L _ _ _ (fun q hq => hp q (by simp [hq])) h1 h2 hz
end MN
end Go.Proofs.YteibkihbdgphnaaGreat
