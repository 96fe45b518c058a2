/-
  The law in plain words: what its plain function gives is true. No condition beyond those that each theorem names.
-/
import Derived.Test.YteibkihbdgphnaaGreatWalkMP0
import Derived.Test.YteibkihbdgphnaaGreatWalkMP1
import Derived.Test.YteibkihbdgphnaaGreatP12n
set_option linter.unusedSimpArgs false
set_option linter.unusedVariables false
set_option linter.unusedSectionVars false
open List renaming take_succ_eq_append_getElem -> Xa, length_append -> Xc, take_length -> Xd
open Int renaming le_trans -> Xb
namespace Go.Proofs.YteibkihbdgphnaaGreat
open Go Go.RowKit TS VA BG
namespace MN
open Classical
def bnd (g : GGraph) (s : Int) : Int := g.Bound.getD s.toNat 0
noncomputable def q0n (g : GGraph) (n : Nat) (t : GTime) : GTime × Bool :=
 if (nd g n).Kind = 10 then (if ok t /\ t.D ≠ 4 then (enT t, true) else (z0, false))
 else if (nd g n).Kind = 11 then (if ok t /\ t.D ≠ 1 then (leT t, true) else (z0, false))
 else if (nd g n).Kind = 12 then (if ok t /\ lastT t ≠ qa5 t then (nxT t, decide (lastT (nxT t) < bnd g (nd g n).Scope)) else (z0, false))
 else (t, true)
section
variable {g : GGraph} {n : Nat} {t : GTime}
theorem qw4 (h : (nd g n).Kind = 10) : q0n g n t = if ok t /\ t.D ≠ 4 then (enT t, true) else (z0, false) := by unfold q0n; rw [if_pos h]
theorem qw3 (h : (nd g n).Kind = 11) : q0n g n t = if ok t /\ t.D ≠ 1 then (leT t, true) else (z0, false) := by unfold q0n; rw [if_neg (by omega), if_pos h]
theorem qw2 (h : (nd g n).Kind = 12) : q0n g n t = if ok t /\ lastT t ≠ qa5 t then (nxT t, decide (lastT (nxT t) < bnd g (nd g n).Scope)) else (z0, false) := by unfold q0n; rw [if_neg (by omega), if_neg (by omega), if_pos h]
theorem z0k (h : (nd g n).Kind ≠ 10) (h1 : (nd g n).Kind ≠ 11) (h2 : (nd g n).Kind ≠ 12) : q0n g n t = (t, true) := by unfold q0n; rw [if_neg h, if_neg h1, if_neg h2]
end
theorem zg6 {t : GTime} (h : ok t) : (nxT t).D = t.D := by
 have hD := q9q h; obtain ⟨D, ⟨a0, a1, a2, a3⟩⟩ := t; dsimp only at hD; rcases hD with rfl | rfl | rfl | rfl <;> rfl
theorem zz8 {t : GTime} (h : ok t) (h1 : t.D ≠ 1) : (leT t).D = t.D - 1 := by
 have hD := q9q h; obtain ⟨D, ⟨a0, a1, a2, a3⟩⟩ := t; dsimp only at hD h1; rcases hD with rfl | rfl | rfl | rfl
 . exact absurd rfl h1
 all_goals rfl
theorem j4m {t : GTime} (h : ok t) : (0 <= IntKind.i64.wrap (t.D - 1) /\ IntKind.i64.wrap (t.D - 1) < 4) /\ idx ([t.C.a0, t.C.a1, t.C.a2, t.C.a3] : List Int) (IntKind.i64.wrap (t.D - 1)) = some (lastT t) := by
 have hD := q9q h; obtain ⟨D, ⟨a0, a1, a2, a3⟩⟩ := t; dsimp only at hD ⊢; rcases hD with rfl | rfl | rfl | rfl <;> exact ⟨by decide, rfl⟩
section
variable {g : GGraph} (hG : VA.Good g)
include hG
theorem z2m {s : Int} (h0 : 0 <= s) (h1 : s < g.Parent.length) : 1 <= dep g s /\ dep g s <= 4 /\ (s ≠ 0 -> 0 <= g.Parent.getD s.toNat 0 /\ g.Parent.getD s.toNat 0 < g.Parent.length /\ dep g s = dep g (g.Parent.getD s.toNat 0) + 1 /\ 2 <= dep g s) := by
 have hw := hG.wp; have hst : dep g s = dep g (g.Parent.getD s.toNat 0) + 1 := by unfold dep; rw [q63 hw h0 h1]; rfl
 have hsc := hG.sc s.toNat (by omega); unfold sOk at hsc
 by_cases hz : s = 0
 .
  subst hz; rw [if_pos (by rfl)] at hsc; have hp : g.Parent.getD (0 : Int).toNat 0 = -1 := by simp at hsc; exact hsc.1
  have hd : dep g 0 = 1 := by rw [hst, hp]; unfold dep; rw [q6t]; rfl
  rw [hd]; exact ⟨by omega, by omega, fun h => absurd rfl h⟩
 .
  rw [if_neg (by omega)] at hsc; simp only [Bool.and_eq_true, decide_eq_true_eq] at hsc; have h4 : dep g s <= 4 := by
   have := hsc.2; unfold dep; rw [show s = ((s.toNat : Nat) : Int) by omega]; exact this
  have hp1 : 1 <= dep g (g.Parent.getD s.toNat 0) := by
   unfold dep; rw [q63 hw hsc.1.1 (by omega)]; simp
  exact ⟨by omega, h4, fun _ => ⟨hsc.1.1, by omega, hst, by omega⟩⟩
theorem q58 {v : Nat} (hv : v < g.Nodes.length) : 0 <= (nd g v).Scope /\ (nd g v).Scope < g.Parent.length /\ (((nd g v).Kind = 10 \/ (nd g v).Kind = 11 \/ (nd g v).Kind = 12) -> (nd g v).Scope ≠ 0) := by
 have := q91 (hG.no v hv); exact ⟨this.2.1.1, this.2.1.2, this.2.2.1⟩
theorem za7 {n : Nat} (hn : n < g.Nodes.length) {t : GTime} (ht : PtM g ⟨n, t⟩) (hu : (q0n g n t).2 = true) {e : GEdge} (he : e ∈ g.Edges) (hf : e.From = n) : PtM g ⟨e.To, (q0n g n t).1⟩ /\ (e.Port = 0 \/ e.Port = 1) := by
 obtain ⟨m, hm, h1, h2, h3⟩ := ht; obtain rfl : n = m := by have : (n : Int) = m := h1; omega
 obtain ⟨e1, e2, _, e4, e5, _⟩ := hG.ed.at he; have hto : e.To.toNat < g.Nodes.length := by have := e2.1; have := e2.2; omega
 have hnd : ndI g e.From = nd g n := by rw [hf]; unfold ndI; rw [Int.toNat_natCast]
 rw [hnd] at e5; obtain ⟨k1, k2, k3⟩ := q58 hG hn; obtain ⟨d1, d2, d3⟩ := z2m hG k1 k2; have hlt : lev g e.To.toNat = dep g (q95 g (nd g n)) := by unfold lev; rw [e5]; rfl
 dsimp only at h2 h3; have hgood : ok (q0n g n t).1 /\ (q0n g n t).1.D = (dep g (q95 g (nd g n)) : Int) := by
  by_cases c10 : (nd g n).Kind = 10
  .
   rw [qw4 c10] at hu ⊢; have e1 : q95 g (nd g n) = (nd g n).Scope := by unfold q95; rw [if_neg (by omega)]
   have e2 : lev g n = dep g (g.Parent.getD (nd g n).Scope.toNat 0) := by unfold lev qf7; rw [if_pos c10]
   by_cases c : ok t /\ t.D ≠ 4
   . rw [if_pos c, e1]; have := d3 (k3 (by omega)); exact ⟨zk6 c.1 c.2, by show t.D + 1 = _; omega⟩
   . rw [if_neg c] at hu; cases hu
  have e2 : lev g n = dep g (nd g n).Scope := by unfold lev qf7; rw [if_neg c10]
  by_cases c11 : (nd g n).Kind = 11
  .
   rw [qw3 c11] at hu ⊢; have e1 : q95 g (nd g n) = g.Parent.getD (nd g n).Scope.toNat 0 := by unfold q95; rw [if_pos c11]
   by_cases c : ok t /\ t.D ≠ 1
   . rw [if_pos c, e1]; have := d3 (k3 (by omega)); exact ⟨j1s c.1 c.2, by rw [zz8 c.1 c.2]; omega⟩
   . rw [if_neg c] at hu; cases hu
  have e1 : q95 g (nd g n) = (nd g n).Scope := by unfold q95; rw [if_neg c11]
  by_cases c12 : (nd g n).Kind = 12
  .
   rw [qw2 c12] at hu ⊢
   by_cases c : ok t /\ lastT t ≠ qa5 t
   . rw [if_pos c, e1]; exact ⟨z8g c.1 c.2, by rw [zg6 c.1, h3, e2]⟩
   . rw [if_neg c] at hu; cases hu
  . rw [z0k c10 c11 c12, e1, <- e2]; exact ⟨h2, h3⟩
 refine ⟨⟨e.To.toNat, hto, by have := e2.1; show e.To = _; omega, hgood.1, by rw [hlt]; exact hgood.2⟩, ?_⟩; have : ports (ndI g e.To).Kind <= 2 := by unfold ports; repeat' split <;> try omega
 omega
theorem z7d {r : GMean_runner} (hr : r.g = g) {n : Nat} (hn : n < g.Nodes.length) (t : GTime) : q3u r n t = some ((q0n g n t).1, (q0n g n t).2, r) := by
 obtain ⟨k1, k2, _⟩ := q58 hG hn; have hbl := hG.bl; unfold q3u; rw [hr]; refine Ok.eq (Ok.bind (jh6 hn ?_)); rw [qc0 hn]; refine jh5 (fun h => ?_) (fun h => ?_)
 . rw [zq2, qw4 (by simpa using h)]; exact Ok.bind (Ok.some (Ok.some rfl))
 have c1 : ¬ (nd g n).Kind = 10 := by simpa using h
 refine jh5 (fun h => ?_) (fun h => ?_)
 . rw [zq1, qw3 (by simpa using h)]; exact Ok.bind (Ok.some (Ok.some rfl))
 have c2 : ¬ (nd g n).Kind = 11 := by simpa using h
 refine jh5 (fun h => ?_) (fun h => ?_)
 .
  have c3 : (nd g n).Kind = 12 := by simpa using h
  rw [zw1, qw2 c3]; refine Ok.bind (Ok.some ?_)
  by_cases c : ok t /\ lastT t ≠ qa5 t
  . rw [if_pos c]; obtain ⟨i1, i2⟩ := j4m (z8g c.1 c.2); refine jh5 (fun _ => ?_) (fun h => by cases h); refine Ok.guard i1 ?_; rw [show idx _ _ = _ from i2]; refine Ok.bind (Ok.some ?_); rw [qh6 0 k1 (by omega)]; exact Ok.bind (Ok.some (Ok.some (by rw [if_pos c]; rfl)))
  . rw [if_neg c]; exact jh5 (fun h => by cases h) (fun _ => Ok.some (by rw [if_neg c]))
 .
  have c3 : ¬ (nd g n).Kind = 12 := by simpa using h
  rw [z0k c1 c2 c3]; exact Ok.some rfl
end
noncomputable def q7n (x : GNode) (a b : List GItem) : Option (List GItem) := match q7z x [a, b] with
 | some (o, true) => if Fn o /\ tot o <= 65536 then some o else none
 | _ => none
theorem qj2 {x : GNode} {a b o : List GItem} (h : q7n x a b = some o) : Fn o /\ tot o <= 65536 := by
 unfold q7n at h
 split at h
 .
  split at h
  . cases h; assumption
  . cases h
 . cases h
theorem z6l {x : GNode} {a b : List GItem} (la : a.length <= 60000) (lb : b.length <= 60000) : ∃ o k, q7z x [a, b] = some (o, k) /\ Fn o /\ tot o <= 65536 /\ q7n x a b = if k = true then some o else none := by
 obtain ⟨⟨o, k⟩, h1, h2⟩ := CE.Apply_fact (x := x) la lb; obtain ⟨h3, h4⟩ := Fn.of h2; refine ⟨o, k, h1, h3, h4, ?_⟩; unfold q7n; rw [h1]
 cases k
 . rfl
 . exact if_pos ⟨h3, h4⟩
theorem j1d {x : GNode} (hx : x.Kind = 15) (r : GRec) : OP.sing x r = [r] := by
 unfold OP.sing q78; rw [if_neg (by rw [hx]; decide), if_neg (by rw [hx]; decide), if_neg (by rw [hx]; decide)]; rfl
theorem zl6 {x : GNode} (hx : x.Kind = 15) : ∀ b : List GItem, OP.lin x b = b
 | [] => rfl
 | y :: b => by
  have := zl6 hx b; unfold OP.lin at this ⊢; rw [List.flatMap_cons, this, j1d hx]; rfl
theorem j0m {x : GNode} (hx : x.Kind = 15) {a b : List GItem} (ha : Fn a) (la : a.length <= 60000) (lb : b.length <= 60000) : q7n x a b = if tot a <= 65536 then some a else none := by
 obtain ⟨h1, h2⟩ := CE.ports la lb; obtain ⟨v, hv, O, hO, _, hF⟩ := OP.Apply_ok (x := x) h1 h2 (CE.there_good a la) (CE.there_good b lb); have hOa : O = a := by
  unfold OP.Out at hO; rw [if_neg (by omega), if_pos (by rw [hx]; decide), zl6 hx, qv5 ha.rt ha.pos] at hO; exact hO
 subst hOa; unfold q7n; rw [hv]; obtain ⟨o, k⟩ := v; rcases hF with ⟨rfl, hp, ht⟩ | ⟨rfl, _, ht⟩
 .
  rw [if_pos ht]; have : o = O := Rt.unique hp.rt ha.rt fun r => by rw [hp.cnt]; simp [cnt]
  rw [this]; exact if_pos ⟨ha, ht⟩
 . rw [if_neg (by omega)]
noncomputable def q2d (n : Nat) (u : GTime) (out : List GItem) (s : MS) (e : GEdge) : MS := if e.From = n then { q4h s ⟨e.To, u⟩ e.Port out with work := s.work + tot out } else s
noncomputable def q4o (n : Nat) (u : GTime) (out : List GItem) (es : List GEdge) (s : MS) : MS := es.foldl (q2d n u out) s
noncomputable def qj3 (g : GGraph) (most : Int) (n : Nat) (t : GTime) (a b : List GItem) (s : MS) : Bool × MS :=
 match q7n (nd g n) a b with
 | none => (false, { s with e := 9 })
 | some out =>
  if (nd g n).Kind = 15 then (false, { s with outs := s.outs ++ (all out).map fun r => ⟨n, t.C.a0, r⟩ })
  else if (q0n g n t).2 = false \/ out = [] then (false, s)
  else (true, if most < (q4o n (q0n g n t).1 out g.Edges s).work then { q4o n (q0n g n t).1 out g.Edges s with e := 9 } else q4o n (q0n g n t).1 out g.Edges s)
noncomputable def takeA (g : GGraph) (n : Nat) (t : GTime) (s : MS) : MS :=
 if (nd g n).Kind = 14 then { s with ins := upd s.ins ⟨n, t⟩ no2, past := upd s.past n (s.past n ++ [⟨t, 1⟩]), bags := upd s.bags ⟨n, t⟩ (s.ins ⟨n, t⟩).a0 } else { s with ins := upd s.ins ⟨n, t⟩ no2 }
noncomputable def q1m (g : GGraph) (most : Int) (s : MS) (n : Nat) (t : GTime) : Bool × MS :=
 if s.ins ⟨n, t⟩ = no2 \/ s.e ≠ 0 then (false, s)
 else qj3 g most n t (s.ins ⟨n, t⟩).a0 (if (nd g n).Kind = 14 then z3b (takeA g n t s) n t else (s.ins ⟨n, t⟩).a1) (takeA g n t s)
structure St (g : GGraph) (C most : Int) (r : GMean_runner) : Prop where
 inv : Inv g (C + r.work) r
 mo : r.most = most
 w0 : 0 <= r.work
 wm : r.e = 0 -> r.work <= most
 wx : r.work <= most + 6553600
theorem Inv.we {g : GGraph} {T : Int} {r : GMean_runner} (h : Inv g T r) (w e : Int) : Inv g T ⟨r.g, r.ins, r.past, r.bags, w, r.most, r.outs, e⟩ := ⟨h.gr, h.il, h.ind, h.ipt, h.ibag, h.pl, h.pnd, h.bl, h.bnd, h.bbag, h.pot, h.ptm, h.pot3⟩
theorem Inv.mono {g : GGraph} {T T' : Int} {r : GMean_runner} (h : Inv g T r) (k : T <= T') : Inv g T' r := ⟨h.gr, h.il, h.ind, h.ipt, h.ibag, h.pl, h.pnd, h.bl, h.bnd, fun b hb => ⟨(h.bbag b hb).1, Xb (h.bbag b hb).2 k⟩, Xb h.pot k, h.ptm, Xb h.pot3 k⟩
theorem zp2 {g : GGraph} (hG : VA.Good g) {C most : Int} (hC : 0 <= C) (hmo : 0 <= most) (hCm : C + most <= 7000) {r : GMean_runner} (hS : St g C most r) (he : r.e = 0) {n : Nat} (hn : n < g.Nodes.length) {t : GTime} (ht : PtM g ⟨n, t⟩) {a b : List GItem}
  (ha : Fn a) (la : a.length <= 60000) (lb : b.length <= 60000) (hsl : (r.ins.2.map bt).sum + (r.past.2.map fun l => (l.length : Int)).sum + r.outs.length + tot a <= C + r.work \/ (nd g n).Kind ≠ 15) :
  Ok (q0t n t (nd g n) [a, b] r) fun v => v.1 = (qj3 g most n t a b (ab r)).1 /\ St g C most v.2 /\ ab v.2 = (qj3 g most n t a b (ab r)).2 := by
 have hwm := hS.wm he; have hw0 := hS.w0; have hI := hS.inv; have hsum := hI.sums; have hpot := hI.pot; obtain ⟨o, k, h1, h2, h3, h4⟩ := z6l (x := nd g n) la lb; have hol := h2.len; unfold q0t qj3; rw [h1, h4]; refine Ok.bind (Ok.some (jh5 (fun hk => ?_) (fun hk => ?_)))
 .
  have hk : k = false := by simpa using hk
  rw [hk, if_neg (by simp)]; refine Ok.some ⟨rfl, ⟨hI.we _ _, hS.mo, hS.w0, fun h => ?_, hS.wx⟩, rfl⟩; exact absurd h (by show ¬ (9 : Int) = 0; decide)
 have hk : k = true := by simpa using hk
 subst hk; rw [if_pos rfl]; dsimp only; refine jh5 (fun h15 => ?_) (fun h15 => ?_)
 .
  -- a sink
  have h15 : (nd g n).Kind = 15 := by simpa using h15
  rw [if_pos h15]; have hoa : o = a := by
   have := j0m h15 ha la lb; rw [h4, if_pos rfl] at this
   split at this
   . exact Option.some.inj this
   . cases this
  subst hoa; have hsl := hsl.resolve_right (by simp [h15]); have hal := z03 (b := o) h2.pos; refine jh4 (j7v (by omega)) fun v hv => ?_; have hv := hv.1 (by rw [qv5 h2.rt h2.pos]; exact h3); rw [qv5 h2.rt h2.pos] at hv; subst hv; refine jh9 (l := all o) (by omega) (fun i (b : GMean_runner) => b = ⟨r.g, r.ins, r.past, r.bags, r.work, r.most, r.outs ++ ((all o).take i).map (fun q => ⟨n, t.C.a0, q⟩), r.e⟩) 0 (fun rec i hi s _ hs hrec => ?_) (fun rec s hs => ?_) (by simp) (Nat.zero_le _)
  .
   subst hs; unfold q38; dsimp only; rw [if_pos (by simpa using hi), iw hi (by omega)]; refine Ok.bind (jh6 hi (Ok.guard ?_ (hrec _ ?_)))
   . simp only [Xc, List.length_map, List.length_take, List.length_cons, List.length_nil]; omega
   . rw [Xa hi, List.map_append, List.append_assoc]; rfl
  .
   subst hs; unfold q38; dsimp only; rw [if_neg (by simp), Xd]; refine Ok.some ⟨rfl, ⟨⟨hI.gr, hI.il, hI.ind, hI.ipt, hI.ibag, hI.pl, hI.pnd, hI.bl, hI.bnd, hI.bbag, ?_, hI.ptm, hI.pot3⟩, hS.mo, hS.w0, hS.wm, hS.wx⟩, rfl⟩; dsimp only; rw [Xc, List.length_map]
   push_cast
   omega
 have h15 : ¬ (nd g n).Kind = 15 := by simpa using h15
 rw [if_neg h15]; unfold q4s; rw [z7d hG hI.gr hn]; refine Ok.bind (Ok.some (jh5 (fun hx => ?_) (fun hx => ?_)))
 . rw [if_pos (by simpa using hx)]; exact Ok.some ⟨rfl, hS, rfl⟩
 have hx : ¬ ((q0n g n t).2 = false \/ o = []) := by simpa using hx
 rw [if_neg hx]; have hgv : (q0n g n t).2 = true := by simpa using fun e => hx (.inl e)
 have ho : o ≠ [] := fun e => hx (.inr e); have ho1 := zs9 h2 ho; have hel := hG.el; have helr : r.g.Edges.length <= 64 := by rw [hI.gr]; exact hel
 refine VA.eachG (l := r.g.Edges) (by rw [hI.gr]; omega) (fun i (s : GMean_runner) => (o, i, s)) (fun q => q.2.1) (fun _ _ => rfl)
  (fun i s => Inv g (C + s.work) s /\ s.most = most /\ s.e = 0 /\ r.work <= s.work /\ s.work <= r.work + 65536 * i /\ ab s = q4o n (q0n g n t).1 o (g.Edges.take i) (ab r)) 0 (fun rec i hi s _ hs hrec => ?_) (fun rec s hs => ?_) ⟨hI, hS.mo, he, Int.le_refl _, by simp, rfl⟩ (Nat.zero_le _)
 .
  obtain ⟨s1, s2, s3, s4, s5, s6⟩ := hs; have hi2 : i < g.Edges.length := by rw [<- hI.gr]; exact hi
  have hgi : r.g.Edges[i] = g.Edges[i] := by simp only [hI.gr]
  have hfold : ∀ S, q4o n (q0n g n t).1 o (g.Edges.take (i + 1)) S = q2d n (q0n g n t).1 o (q4o n (q0n g n t).1 o (g.Edges.take i) S) g.Edges[i] := fun S => by
   unfold q4o; rw [Xa hi2, List.foldl_append]; rfl
  unfold q39; dsimp only; rw [if_pos (by simpa using hi), iw hi (by omega)]; refine Ok.bind (jh6 hi ?_); rw [hgi]; refine jh5 (fun hf => ?_) (fun hf => ?_)
  .
   have hf : g.Edges[i].From = n := by simpa using hf
   obtain ⟨q1, q2⟩ := za7 hG hn ht hgv (List.getElem_mem hi2) hf; refine jh4 (zv1 hG s1 q1 q2 h2 (by omega) h3) fun v hv => ?_; obtain ⟨v1, v2, v3, v4⟩ := hv; rw [j71 h2 (by omega)]; refine Ok.bind (Ok.some (hrec _ ?_)); rw [v4, wrap_i64 _ (by omega)]; refine ⟨?_, by rw [<- s2]; exact v3, ?_, by dsimp only; omega, by dsimp only; push_cast; omega, ?_⟩
   . have := v1.we (s.work + tot o) v.e; exact this.mono (by dsimp only; omega)
   .
    have : (ab v).e = (q4h (ab s) ⟨g.Edges[i].To, (q0n g n t).1⟩ g.Edges[i].Port o).e := by rw [v2]
    have h9 : (q4h (ab s) ⟨g.Edges[i].To, (q0n g n t).1⟩ g.Edges[i].Port o).e = (ab s).e := by unfold q4h; split <;> rfl
    rw [h9] at this; exact this.trans s3
   . rw [hfold, <- s6]; unfold q2d; rw [if_pos hf, <- v2]; rfl
  .
   have hf : ¬ g.Edges[i].From = n := by simpa using hf
   refine hrec _ ⟨s1, s2, s3, s4, by push_cast; omega, ?_⟩; rw [hfold, <- s6]; unfold q2d; rw [if_neg hf]
 .
  obtain ⟨s1, s2, s3, s4, s5, s6⟩ := hs; rw [hI.gr] at s5 s6; rw [Xd] at s6; unfold q39; dsimp only; rw [if_neg (by simp), <- s6]; unfold q4r; refine jh5 (fun hm => Ok.some ⟨rfl, ?_, ?_⟩) (fun hm => Ok.some ⟨rfl, ?_, ?_⟩)
  . exact ⟨s1.we _ _, s2, by dsimp only; omega, fun h => absurd h (by show ¬ (9 : Int) = 0; decide), by dsimp only; omega⟩
  .
   have hm : most < s.work := by rw [<- s2]; simpa using hm
   rw [if_pos (show most < (ab s).work from hm)]; rfl
  .
   have hm : s.work <= most := by rw [<- s2]; simpa using hm
   exact ⟨s1, s2, by dsimp only; omega, fun _ => hm, by dsimp only; omega⟩
  .
   have hm : ¬ most < s.work := by
    have : s.work <= most := by rw [<- s2]; simpa using hm
    omega
   rw [if_neg (show ¬ most < (ab s).work from hm)]
end MN
end Go.Proofs.YteibkihbdgphnaaGreat
