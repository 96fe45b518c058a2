/-
  The law in plain words: what its plain function gives is true. No condition beyond those that each theorem names.
-/
import Derived.Test.YteibkihbdgphnaaGreatWalkMA0
import Derived.Test.YteibkihbdgphnaaGreatWalkMA1
import Derived.Test.YteibkihbdgphnaaGreatP12n
set_option linter.unusedSimpArgs false
set_option linter.unusedVariables false
set_option linter.unusedSectionVars false
namespace Go.Proofs.YteibkihbdgphnaaGreat
open Go Go.RowKit TS VA BG
namespace MN
open Classical
def bnd (g : GGraph) (s : Int) : Int := g.Bound.getD s.toNat 0
noncomputable def q13 (g : GGraph) (n : Nat) (t : GTime) : GTime × Bool :=
 if (nd g n).Kind = 10 then (if ok t ∧ t.D ≠ 4 then (enT t, true) else (z0, false))
 else if (nd g n).Kind = 11 then (if ok t ∧ t.D ≠ 1 then (leT t, true) else (z0, false))
 else if (nd g n).Kind = 12 then (if ok t ∧ lastT t ≠ qj3 t then (nxT t, decide (lastT (nxT t) < bnd g (nd g n).Scope)) else (z0, false))
 else (t, true)
section
variable {g : GGraph} {n : Nat} {t : GTime}
theorem z3d (h : (nd g n).Kind = 10) : q13 g n t = if ok t ∧ t.D ≠ 4 then (enT t, true) else (z0, false) := by unfold q13; rw [if_pos h]
theorem z3c (h : (nd g n).Kind = 11) : q13 g n t = if ok t ∧ t.D ≠ 1 then (leT t, true) else (z0, false) := by unfold q13; rw [if_neg (by omega), if_pos h]
theorem z3b (h : (nd g n).Kind = 12) : q13 g n t = if ok t ∧ lastT t ≠ qj3 t then (nxT t, decide (lastT (nxT t) < bnd g (nd g n).Scope)) else (z0, false) := by unfold q13; rw [if_neg (by omega), if_neg (by omega), if_pos h]
theorem z5k (h : (nd g n).Kind ≠ 10) (h1 : (nd g n).Kind ≠ 11) (h2 : (nd g n).Kind ≠ 12) : q13 g n t = (t, true) := by unfold q13; rw [if_neg h, if_neg h1, if_neg h2]
end
theorem j3y {t : GTime} (h : ok t) : (nxT t).D = t.D := by
 have hD := z2v h; obtain ⟨D, ⟨a0, a1, a2, a3⟩⟩ := t; dsimp only at hD; rcases hD with rfl | rfl | rfl | rfl <;> rfl
theorem j88 {t : GTime} (h : ok t) (h1 : t.D ≠ 1) : (leT t).D = t.D - 1 := by
 have hD := z2v h; obtain ⟨D, ⟨a0, a1, a2, a3⟩⟩ := t; dsimp only at hD h1; rcases hD with rfl | rfl | rfl | rfl
 · exact absurd rfl h1
 all_goals rfl
theorem j32 {t : GTime} (h : ok t) : (0 ≤ IntKind.i64.wrap (t.D - 1) ∧ IntKind.i64.wrap (t.D - 1) < 4) ∧ idx ([t.C.a0, t.C.a1, t.C.a2, t.C.a3] : List Int) (IntKind.i64.wrap (t.D - 1)) = some (lastT t) := by
 have hD := z2v h; obtain ⟨D, ⟨a0, a1, a2, a3⟩⟩ := t; dsimp only at hD ⊢; rcases hD with rfl | rfl | rfl | rfl <;> exact ⟨by decide, rfl⟩
section
variable {g : GGraph} (hG : VA.Good g)
include hG
theorem zi6 {s : Int} (h0 : 0 ≤ s) (h1 : s < g.Parent.length) : 1 ≤ dep g s ∧ dep g s ≤ 4 ∧ (s ≠ 0 → 0 ≤ g.Parent.getD s.toNat 0 ∧ g.Parent.getD s.toNat 0 < g.Parent.length ∧ dep g s = dep g (g.Parent.getD s.toNat 0) + 1 ∧ 2 ≤ dep g s) := by
 have hw := hG.wp; have hst : dep g s = dep g (g.Parent.getD s.toNat 0) + 1 := by unfold dep; rw [q82 hw h0 h1]; rfl
 have hsc := hG.sc s.toNat (by omega); unfold sOk at hsc
 by_cases hz : s = 0
 ·
  subst hz; rw [if_pos (by rfl)] at hsc; have hp : g.Parent.getD (0 : Int).toNat 0 = -1 := by simp at hsc; exact hsc.1
  have hd : dep g 0 = 1 := by rw [hst, hp]; unfold dep; rw [q83]; rfl
  rw [hd]; exact ⟨by omega, by omega, fun h => absurd rfl h⟩
 ·
  rw [if_neg (by omega)] at hsc; simp only [Bool.and_eq_true, decide_eq_true_eq] at hsc; have h4 : dep g s ≤ 4 := by
   have := hsc.2; unfold dep; rw [show s = ((s.toNat : Nat) : Int) by omega]; exact this
  have hp1 : 1 ≤ dep g (g.Parent.getD s.toNat 0) := by
   unfold dep; rw [q82 hw hsc.1.1 (by omega)]; simp
  exact ⟨by omega, h4, fun _ => ⟨hsc.1.1, by omega, hst, by omega⟩⟩
theorem qw8 {v : Nat} (hv : v < g.Nodes.length) : 0 ≤ (nd g v).Scope ∧ (nd g v).Scope < g.Parent.length ∧ (((nd g v).Kind = 10 ∨ (nd g v).Kind = 11 ∨ (nd g v).Kind = 12) → (nd g v).Scope ≠ 0) := by
 have := qo0 (hG.no v hv); exact ⟨this.2.1.1, this.2.1.2, this.2.2.1⟩
theorem zp9 {n : Nat} (hn : n < g.Nodes.length) {t : GTime} (ht : PtM g ⟨n, t⟩) (hu : (q13 g n t).2 = true) {e : GEdge} (he : e ∈ g.Edges) (hf : e.From = n) : PtM g ⟨e.To, (q13 g n t).1⟩ ∧ (e.Port = 0 ∨ e.Port = 1) := by
 obtain ⟨m, hm, h1, h2, h3⟩ := ht; obtain rfl : n = m := by have : (n : Int) = m := h1; omega
 obtain ⟨e1, e2, _, e4, e5, _⟩ := hG.ed.at he; have hto : e.To.toNat < g.Nodes.length := by have := e2.1; have := e2.2; omega
 have hnd : ndI g e.From = nd g n := by rw [hf]; unfold ndI; rw [Int.toNat_natCast]
 rw [hnd] at e5; obtain ⟨k1, k2, k3⟩ := qw8 hG hn; obtain ⟨d1, d2, d3⟩ := zi6 hG k1 k2; have hlt : lev g e.To.toNat = dep g (qd6 g (nd g n)) := by unfold lev; rw [e5]; rfl
 dsimp only at h2 h3; have hgood : ok (q13 g n t).1 ∧ (q13 g n t).1.D = (dep g (qd6 g (nd g n)) : Int) := by
  by_cases c10 : (nd g n).Kind = 10
  ·
   rw [z3d c10] at hu ⊢; have e1 : qd6 g (nd g n) = (nd g n).Scope := by unfold qd6; rw [if_neg (by omega)]
   have e2 : lev g n = dep g (g.Parent.getD (nd g n).Scope.toNat 0) := by unfold lev qn5; rw [if_pos c10]
   by_cases c : ok t ∧ t.D ≠ 4
   · rw [if_pos c, e1]; have := d3 (k3 (by omega)); exact ⟨j07 c.1 c.2, by show t.D + 1 = _; omega⟩
   · rw [if_neg c] at hu; cases hu
  have e2 : lev g n = dep g (nd g n).Scope := by unfold lev qn5; rw [if_neg c10]
  by_cases c11 : (nd g n).Kind = 11
  ·
   rw [z3c c11] at hu ⊢; have e1 : qd6 g (nd g n) = g.Parent.getD (nd g n).Scope.toNat 0 := by unfold qd6; rw [if_pos c11]
   by_cases c : ok t ∧ t.D ≠ 1
   · rw [if_pos c, e1]; have := d3 (k3 (by omega)); exact ⟨j06 c.1 c.2, by rw [j88 c.1 c.2]; omega⟩
   · rw [if_neg c] at hu; cases hu
  have e1 : qd6 g (nd g n) = (nd g n).Scope := by unfold qd6; rw [if_neg c11]
  by_cases c12 : (nd g n).Kind = 12
  ·
   rw [z3b c12] at hu ⊢
   by_cases c : ok t ∧ lastT t ≠ qj3 t
   · rw [if_pos c, e1]; exact ⟨ze9 c.1 c.2, by rw [j3y c.1, h3, e2]⟩
   · rw [if_neg c] at hu; cases hu
  · rw [z5k c10 c11 c12, e1, ← e2]; exact ⟨h2, h3⟩
 refine ⟨⟨e.To.toNat, hto, by have := e2.1; show e.To = _; omega, hgood.1, by rw [hlt]; exact hgood.2⟩, ?_⟩; have : ports (ndI g e.To).Kind ≤ 2 := by unfold ports; repeat' split <;> try omega
 omega
theorem z5j {r : GMean_runner} (hr : r.g = g) {n : Nat} (hn : n < g.Nodes.length) (t : GTime) : q3f r n t = some ((q13 g n t).1, (q13 g n t).2, r) := by
 obtain ⟨k1, k2, _⟩ := qw8 hG hn; have hbl := hG.bl; unfold q3f; rw [hr]; refine jb4 (Ok.bind (jb2 hn ?_)); rw [qf1 hn]; refine jb1 (fun h => ?_) (fun h => ?_)
 · rw [zk9, z3d (by simpa using h)]; exact Ok.bind (Ok.some (Ok.some rfl))
 have c1 : ¬ (nd g n).Kind = 10 := by simpa using h
 refine jb1 (fun h => ?_) (fun h => ?_)
 · rw [zk8, z3c (by simpa using h)]; exact Ok.bind (Ok.some (Ok.some rfl))
 have c2 : ¬ (nd g n).Kind = 11 := by simpa using h
 refine jb1 (fun h => ?_) (fun h => ?_)
 ·
  have c3 : (nd g n).Kind = 12 := by simpa using h
  rw [zr0, z3b c3]; refine Ok.bind (Ok.some ?_)
  by_cases c : ok t ∧ lastT t ≠ qj3 t
  · rw [if_pos c]; obtain ⟨i1, i2⟩ := j32 (ze9 c.1 c.2); refine jb1 (fun _ => ?_) (fun h => by cases h); refine Ok.guard i1 ?_; rw [show idx _ _ = _ from i2]; refine Ok.bind (Ok.some ?_); rw [qf4 0 k1 (by omega)]; exact Ok.bind (Ok.some (Ok.some (by rw [if_pos c]; rfl)))
  · rw [if_neg c]; exact jb1 (fun h => by cases h) (fun _ => Ok.some (by rw [if_neg c]))
 ·
  have c3 : ¬ (nd g n).Kind = 12 := by simpa using h
  rw [z5k c1 c2 c3]; exact Ok.some rfl
end
noncomputable def qp5 (x : GNode) (a b : List GItem) : Option (List GItem) := match q7k x [a, b] with
 | some (o, true) => if Fn o ∧ tot o ≤ 65536 then some o else none
 | _ => none
theorem j1g {x : GNode} {a b o : List GItem} (h : qp5 x a b = some o) : Fn o ∧ tot o ≤ 65536 := by
 unfold qp5 at h
 split at h
 ·
  split at h
  · cases h; assumption
  · cases h
 · cases h
theorem zn0 {x : GNode} {a b : List GItem} (la : a.length ≤ 60000) (lb : b.length ≤ 60000) : ∃ o k, q7k x [a, b] = some (o, k) ∧ Fn o ∧ tot o ≤ 65536 ∧ qp5 x a b = if k = true then some o else none := by
 obtain ⟨⟨o, k⟩, h1, h2⟩ := CE.Apply_fact (x := x) la lb; obtain ⟨h3, h4⟩ := Fn.of h2; refine ⟨o, k, h1, h3, h4, ?_⟩; unfold qp5; rw [h1]
 cases k
 · rfl
 · exact if_pos ⟨h3, h4⟩
theorem zz0 {x : GNode} (hx : x.Kind = 15) (r : GRec) : OP.sing x r = [r] := by
 unfold OP.sing q6x; rw [if_neg (by rw [hx]; decide), if_neg (by rw [hx]; decide), if_neg (by rw [hx]; decide)]; rfl
theorem zg1 {x : GNode} (hx : x.Kind = 15) : ∀ b : List GItem, OP.lin x b = b
 | [] => rfl
 | y :: b => by
  have := zg1 hx b; unfold OP.lin at this ⊢; rw [List.flatMap_cons, this, zz0 hx]; rfl
theorem zw9 {x : GNode} (hx : x.Kind = 15) {a b : List GItem} (ha : Fn a) (la : a.length ≤ 60000) (lb : b.length ≤ 60000) : qp5 x a b = if tot a ≤ 65536 then some a else none := by
 obtain ⟨h1, h2⟩ := CE.ports la lb; obtain ⟨v, hv, O, hO, _, hF⟩ := OP.Apply_ok (x := x) h1 h2 (CE.there_good a la) (CE.there_good b lb); have hOa : O = a := by
  unfold OP.Out at hO; rw [if_neg (by omega), if_pos (by rw [hx]; decide), zg1 hx, z2i ha.rt ha.pos] at hO; exact hO
 subst hOa; unfold qp5; rw [hv]; obtain ⟨o, k⟩ := v; rcases hF with ⟨rfl, hp, ht⟩ | ⟨rfl, _, ht⟩
 ·
  rw [if_pos ht]; have : o = O := Rt.unique hp.rt ha.rt fun r => by rw [hp.cnt]; simp [cnt]
  rw [this]; exact if_pos ⟨ha, ht⟩
 · rw [if_neg (by omega)]
noncomputable def q3u (n : Nat) (u : GTime) (out : List GItem) (s : MS) (e : GEdge) : MS := if e.From = n then { q6q s ⟨e.To, u⟩ e.Port out with work := s.work + tot out } else s
noncomputable def qh2 (n : Nat) (u : GTime) (out : List GItem) (es : List GEdge) (s : MS) : MS := es.foldl (q3u n u out) s
noncomputable def qt7 (g : GGraph) (most : Int) (n : Nat) (t : GTime) (a b : List GItem) (s : MS) : Bool × MS :=
 match qp5 (nd g n) a b with
 | none => (false, { s with e := 9 })
 | some out =>
  if (nd g n).Kind = 15 then (false, { s with outs := s.outs ++ (all out).map fun r => ⟨n, t.C.a0, r⟩ })
  else if (q13 g n t).2 = false ∨ out = [] then (false, s)
  else (true, if most < (qh2 n (q13 g n t).1 out g.Edges s).work then { qh2 n (q13 g n t).1 out g.Edges s with e := 9 } else qh2 n (q13 g n t).1 out g.Edges s)
noncomputable def takeA (g : GGraph) (n : Nat) (t : GTime) (s : MS) : MS :=
 if (nd g n).Kind = 14 then { s with ins := upd s.ins ⟨n, t⟩ no2, past := upd s.past n (s.past n ++ [⟨t, 1⟩]), bags := upd s.bags ⟨n, t⟩ (s.ins ⟨n, t⟩).a0 } else { s with ins := upd s.ins ⟨n, t⟩ no2 }
noncomputable def q3a (g : GGraph) (most : Int) (s : MS) (n : Nat) (t : GTime) : Bool × MS :=
 if s.ins ⟨n, t⟩ = no2 ∨ s.e ≠ 0 then (false, s)
 else qt7 g most n t (s.ins ⟨n, t⟩).a0 (if (nd g n).Kind = 14 then qu0 (takeA g n t s) n t else (s.ins ⟨n, t⟩).a1) (takeA g n t s)
structure St (g : GGraph) (C most : Int) (r : GMean_runner) : Prop where
 inv : Inv g (C + r.work) r
 mo : r.most = most
 w0 : 0 ≤ r.work
 wm : r.e = 0 → r.work ≤ most
 wx : r.work ≤ most + 6553600
theorem Inv.we {g : GGraph} {T : Int} {r : GMean_runner} (h : Inv g T r) (w e : Int) : Inv g T ⟨r.g, r.ins, r.past, r.bags, w, r.most, r.outs, e⟩ := ⟨h.gr, h.il, h.ind, h.ipt, h.ibag, h.pl, h.pnd, h.bl, h.bnd, h.bbag, h.pot, h.ptm, h.pot3⟩
theorem Inv.mono {g : GGraph} {T T' : Int} {r : GMean_runner} (h : Inv g T r) (k : T ≤ T') : Inv g T' r := ⟨h.gr, h.il, h.ind, h.ipt, h.ibag, h.pl, h.pnd, h.bl, h.bnd, fun b hb => ⟨(h.bbag b hb).1, Int.le_trans (h.bbag b hb).2 k⟩, Int.le_trans h.pot k, h.ptm, Int.le_trans h.pot3 k⟩
theorem zj9 {g : GGraph} (hG : VA.Good g) {C most : Int} (hC : 0 ≤ C) (hmo : 0 ≤ most) (hCm : C + most ≤ 7000) {r : GMean_runner} (hS : St g C most r) (he : r.e = 0) {n : Nat} (hn : n < g.Nodes.length) {t : GTime} (ht : PtM g ⟨n, t⟩) {a b : List GItem}
  (ha : Fn a) (la : a.length ≤ 60000) (lb : b.length ≤ 60000) (hsl : (r.ins.2.map bt).sum + (r.past.2.map fun l => (l.length : Int)).sum + r.outs.length + tot a ≤ C + r.work ∨ (nd g n).Kind ≠ 15) :
  Ok (q0j n t (nd g n) [a, b] r) fun v => v.1 = (qt7 g most n t a b (ab r)).1 ∧ St g C most v.2 ∧ ab v.2 = (qt7 g most n t a b (ab r)).2 := by
 have hwm := hS.wm he; have hw0 := hS.w0; have hI := hS.inv; have hsum := hI.sums; have hpot := hI.pot; obtain ⟨o, k, h1, h2, h3, h4⟩ := zn0 (x := nd g n) la lb; have hol := h2.len; unfold q0j qt7; rw [h1, h4]; refine Ok.bind (Ok.some (jb1 (fun hk => ?_) (fun hk => ?_)))
 ·
  have hk : k = false := by simpa using hk
  rw [hk, if_neg (by simp)]; refine Ok.some ⟨rfl, ⟨hI.we _ _, hS.mo, hS.w0, fun h => ?_, hS.wx⟩, rfl⟩; exact absurd h (by show ¬ (9 : Int) = 0; decide)
 have hk : k = true := by simpa using hk
 subst hk; rw [if_pos rfl]; dsimp only; refine jb1 (fun h15 => ?_) (fun h15 => ?_)
 ·
  -- a sink
  have h15 : (nd g n).Kind = 15 := by simpa using h15
  rw [if_pos h15]; have hoa : o = a := by
   have := zw9 h15 ha la lb; rw [h4, if_pos rfl] at this
   split at this
   · exact Option.some.inj this
   · cases this
  subst hoa; have hsl := hsl.resolve_right (by simp [h15]); have hal := qw9 (b := o) h2.pos; refine jb0 (j6a (by omega)) fun v hv => ?_; have hv := hv.1 (by rw [z2i h2.rt h2.pos]; exact h3); rw [z2i h2.rt h2.pos] at hv; subst hv; refine jb6 (l := all o) (by omega) (fun i (b : GMean_runner) => b = ⟨r.g, r.ins, r.past, r.bags, r.work, r.most, r.outs ++ ((all o).take i).map (fun q => ⟨n, t.C.a0, q⟩), r.e⟩) 0 (fun rec i hi s _ hs hrec => ?_) (fun rec s hs => ?_) (by simp) (Nat.zero_le _)
  ·
   subst hs; unfold q2w; dsimp only; rw [if_pos (by simpa using hi), iw hi (by omega)]; refine Ok.bind (jb2 hi (Ok.guard ?_ (hrec _ ?_)))
   · simp only [List.length_append, List.length_map, List.length_take, List.length_cons, List.length_nil]; omega
   · rw [List.take_succ_eq_append_getElem hi, List.map_append, List.append_assoc]; rfl
  ·
   subst hs; unfold q2w; dsimp only; rw [if_neg (by simp), List.take_length]; refine Ok.some ⟨rfl, ⟨⟨hI.gr, hI.il, hI.ind, hI.ipt, hI.ibag, hI.pl, hI.pnd, hI.bl, hI.bnd, hI.bbag, ?_, hI.ptm, hI.pot3⟩, hS.mo, hS.w0, hS.wm, hS.wx⟩, rfl⟩; dsimp only; rw [List.length_append, List.length_map]
   push_cast
   omega
 have h15 : ¬ (nd g n).Kind = 15 := by simpa using h15
 rw [if_neg h15]; unfold q4e; rw [z5j hG hI.gr hn]; refine Ok.bind (Ok.some (jb1 (fun hx => ?_) (fun hx => ?_)))
 · rw [if_pos (by simpa using hx)]; exact Ok.some ⟨rfl, hS, rfl⟩
 have hx : ¬ ((q13 g n t).2 = false ∨ o = []) := by simpa using hx
 rw [if_neg hx]; have hgv : (q13 g n t).2 = true := by simpa using fun e => hx (.inl e)
 have ho : o ≠ [] := fun e => hx (.inr e); have ho1 := zn8 h2 ho; have hel := hG.el; have helr : r.g.Edges.length ≤ 64 := by rw [hI.gr]; exact hel
 refine VA.eachG (l := r.g.Edges) (by rw [hI.gr]; omega) (fun i (s : GMean_runner) => (o, i, s)) (fun q => q.2.1) (fun _ _ => rfl)
  (fun i s => Inv g (C + s.work) s ∧ s.most = most ∧ s.e = 0 ∧ r.work ≤ s.work ∧ s.work ≤ r.work + 65536 * i ∧ ab s = qh2 n (q13 g n t).1 o (g.Edges.take i) (ab r)) 0 (fun rec i hi s _ hs hrec => ?_) (fun rec s hs => ?_) ⟨hI, hS.mo, he, Int.le_refl _, by simp, rfl⟩ (Nat.zero_le _)
 ·
  obtain ⟨s1, s2, s3, s4, s5, s6⟩ := hs; have hi2 : i < g.Edges.length := by rw [← hI.gr]; exact hi
  have hgi : r.g.Edges[i] = g.Edges[i] := by simp only [hI.gr]
  have hfold : ∀ S, qh2 n (q13 g n t).1 o (g.Edges.take (i + 1)) S = q3u n (q13 g n t).1 o (qh2 n (q13 g n t).1 o (g.Edges.take i) S) g.Edges[i] := fun S => by
   unfold qh2; rw [List.take_succ_eq_append_getElem hi2, List.foldl_append]; rfl
  unfold q2x; dsimp only; rw [if_pos (by simpa using hi), iw hi (by omega)]; refine Ok.bind (jb2 hi ?_); rw [hgi]; refine jb1 (fun hf => ?_) (fun hf => ?_)
  ·
   have hf : g.Edges[i].From = n := by simpa using hf
   obtain ⟨q1, q2⟩ := zp9 hG hn ht hgv (List.getElem_mem hi2) hf; refine jb0 (zq1 hG s1 q1 q2 h2 (by omega) h3) fun v hv => ?_; obtain ⟨v1, v2, v3, v4⟩ := hv; rw [j5d h2 (by omega)]; refine Ok.bind (Ok.some (hrec _ ?_)); rw [v4, wrap_i64 _ (by omega)]; refine ⟨?_, by rw [← s2]; exact v3, ?_, by dsimp only; omega, by dsimp only; push_cast; omega, ?_⟩
   · have := v1.we (s.work + tot o) v.e; exact this.mono (by dsimp only; omega)
   ·
    have : (ab v).e = (q6q (ab s) ⟨g.Edges[i].To, (q13 g n t).1⟩ g.Edges[i].Port o).e := by rw [v2]
    have h9 : (q6q (ab s) ⟨g.Edges[i].To, (q13 g n t).1⟩ g.Edges[i].Port o).e = (ab s).e := by unfold q6q; split <;> rfl
    rw [h9] at this; exact this.trans s3
   · rw [hfold, ← s6]; unfold q3u; rw [if_pos hf, ← v2]; rfl
  ·
   have hf : ¬ g.Edges[i].From = n := by simpa using hf
   refine hrec _ ⟨s1, s2, s3, s4, by push_cast; omega, ?_⟩; rw [hfold, ← s6]; unfold q3u; rw [if_neg hf]
 ·
  obtain ⟨s1, s2, s3, s4, s5, s6⟩ := hs; rw [hI.gr] at s5 s6; rw [List.take_length] at s6; unfold q2x; dsimp only; rw [if_neg (by simp), ← s6]; unfold q4d; refine jb1 (fun hm => Ok.some ⟨rfl, ?_, ?_⟩) (fun hm => Ok.some ⟨rfl, ?_, ?_⟩)
  · exact ⟨s1.we _ _, s2, by dsimp only; omega, fun h => absurd h (by show ¬ (9 : Int) = 0; decide), by dsimp only; omega⟩
  ·
   have hm : most < s.work := by rw [← s2]; simpa using hm
   rw [if_pos (show most < (ab s).work from hm)]; rfl
  ·
   have hm : s.work ≤ most := by rw [← s2]; simpa using hm
   exact ⟨s1, s2, by dsimp only; omega, fun _ => hm, by dsimp only; omega⟩
  ·
   have hm : ¬ most < s.work := by
    have : s.work ≤ most := by rw [← s2]; simpa using hm
    omega
   rw [if_neg (show ¬ most < (ab s).work from hm)]
end MN
end Go.Proofs.YteibkihbdgphnaaGreat
