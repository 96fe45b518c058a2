/-
  The law in plain words: what its plain function gives is true. No condition beyond those that each theorem names.
-/
import Derived.Test.YteibkihbdgphnaaGreatWalkMP1
import Derived.Test.YteibkihbdgphnaaGreatWalkMP2
import Derived.Test.YteibkihbdgphnaaGreatP12C
set_option linter.unusedSimpArgs false
set_option linter.unusedVariables false
set_option linter.unusedSectionVars false
open List renaming length_append -> Xa, count_append -> Xb, take_succ_eq_append_getElem -> Xc, count_le_length -> Xd, length -> Xf, perm_iff_count -> Xg, length_take -> Xh, take_length -> Xi, length_cons -> Xj
open Nat renaming zero_le -> Xe
namespace Go.Proofs.YteibkihbdgphnaaGreat
open Go Go.RowKit TS VA BG
namespace MN
open Classical
theorem j8o (x o : GOut) : ((x.Node == o.Node) && ((x.Epoch == o.Epoch) && ((x.Rec.K == o.Rec.K) && (x.Rec.V == o.Rec.V)))) = decide (x = o) := by
 obtain ⟨a, b, c, d⟩ := x; obtain ⟨a', b', c', d'⟩ := o; rw [Bool.eq_iff_iff]; simp
theorem z6y {l : List GOut} (hl : l.length <= 10000000) (o : GOut) : q3i l o = some ((l.count o : Nat) : Int) := by
 unfold q3i; refine Ok.eq ?_; refine eachG (l := l) (by omega) (fun i (s : Int) => (s, i)) (fun p => p.2) (fun _ _ => rfl) (fun i s => s = (((l.take i).count o : Nat) : Int)) 0 (fun rec i hi s _ hs hrec => ?_) (fun rec s hs => ?_) (by simp) (Xe _)
 .
  unfold q6h; dsimp only; rw [if_pos (by simpa using hi)]; refine Ok.bind (jh6 hi ?_); rw [j8o]; have ht : (l.take (i + 1)).count o = (l.take i).count o + if l[i] = o then 1 else 0 := by
   rw [Xc hi, Xb, List.count_singleton]
   congr 1
   by_cases h : l[i] = o
   . rw [if_pos (by simpa using h), if_pos h]
   . rw [if_neg (by simpa using h), if_neg h]
  have hle : (l.take i).count o <= i := Nat.le_trans Xd (by rw [Xh]; omega); refine jh5 (fun h => ?_) (fun h => ?_)
  .
   have h : l[i] = o := by simpa using h
   rw [iw hi (by omega), hs, wrap_i64 _ (by omega)]; refine hrec _ ?_; rw [ht, if_pos h]; omega
  .
   have h : l[i] ≠ o := by simpa using h
   rw [iw hi (by omega)]; refine hrec _ ?_; rw [ht, if_neg h]; exact hs
 . unfold q6h; dsimp only; rw [if_neg (by simp)]; rw [Xi] at hs; exact Ok.some hs
theorem j1c (g : GGraph) (feeds : List GFeed) : Ok (q66 g feeds) fun b => b = true -> feeds.length <= 40 /\ g.Nodes.length <= 60 := by
 unfold q66 q3h
 by_cases hc : ((((decide (20 < (Xf g.Parent : Int))) || (decide (20 < (Xf g.Bound : Int)))) || (decide (60 < (Xf g.Nodes : Int)))) || (decide (100 < (Xf g.Edges : Int)))) = true
 . rw [if_pos hc]; exact Ok.bind (Ok.some (Ok.some fun h => by simp at h))
 . rw [if_neg hc]; have hgs := j2d g; unfold q3h at hgs; rw [if_neg hc] at hgs; refine jh4 hgs fun b _ => Ok.some fun h => ?_; simp at h hc; omega
theorem z2r {g : GGraph} {feeds : List GFeed} {most : Int} (hm : 0 <= most /\ most <= 5000) (hl : feeds.length <= 500) (ha : Ask g feeds most) : (q4i g most feeds).outs.length <= 10000000 := by
 obtain ⟨v, _, _, h⟩ := z0v g feeds hm.2 hl; obtain ⟨r, hS, hr⟩ := h ha; have h1 := hS.inv.pot; have h2 := hS.inv.sums; have h3 := hS.wx; have : (q4i g most feeds).outs = r.outs := by rw [<- hr]; rfl
 rw [this]; omega
theorem j5e (g : GGraph) (most : Int) : (qf5 g [] most).1 = [] := by
 unfold qf5
 split
 .
  split
  . rfl
  .
   have : (q4i g most []).outs = [] := by
    have he : qi9 [] = [] := by
     have := qu5 []; refine List.eq_nil_iff_forall_not_mem.2 fun x hx => ?_; have := (this.mem x).1 hx
     cases this
    unfold q4i; rw [he]; rfl
   rw [this]; exact List.eq_nil_of_length_eq_zero (qv7 (outs := []) (by simp)).2.length_eq
 . rfl
theorem MeanParts_holds (g : GGraph) (feeds : List GFeed) (mask : Int) (_ : Dat.ok g) (_ : Dat.ok feeds) (_ : inI .u64 mask) : q35 g feeds mask = some true := by
 unfold q35; rw [j7l]; refine Ok.eq (Ok.bind (Ok.some ?_)); rw [if_neg (by simp)]; refine jh4 (j1c g feeds) fun b hb => jh5 (fun _ => Ok.some rfl) (fun hs => ?_); obtain ⟨hl, hN⟩ := hb (by simpa using hs); obtain ⟨v0, hv0, rfl, _⟩ := z0v g [] (most := 2000) (by omega) (by simp); refine Ok.bind (jh8 hv0 ?_); rw [j5e, if_neg (by simp)]; refine ji0 (l := g.Nodes) (by omega) (fun i => ∀ j, j < i -> OP.linS (nd g j).Kind = true) 0 (fun rec i hi _ h14 hrec => ?_) (fun rec h14 => ?_) (fun j hj => absurd hj (Nat.not_lt_zero _)) (Xe _)
 .
  unfold q3j; rw [if_pos (by simpa using hi), iw hi (by omega)]; refine Ok.bind (jh6 hi ?_); rw [qc0 hi, OP.linS_eq]; refine Ok.bind (Ok.some (jh5 (fun _ => Ok.some rfl) (fun h => hrec fun j hj => ?_))); rcases Nat.lt_succ_iff_lt_or_eq.1 hj with hj | rfl
  . exact h14 j hj
  . simpa using h
 unfold q3j; rw [if_neg (by simp)]; have hlin : ∀ n, n < g.Nodes.length -> OP.linS (nd g n).Kind = true /\ (nd g n).Kind ≠ 14 := fun n hn => ⟨h14 n hn, fun h => by
  have := h14 n hn; rw [h] at this; exact absurd this (by decide)⟩
 unfold q5a; refine eachG (l := feeds) (by omega) (fun i (s : List GFeed × List GFeed) => (i, s.1, s.2)) (fun p => p.1) (fun _ _ => rfl) (fun i s => (s.1 ++ s.2).Perm (feeds.take i)) 0 (fun rec i hi s _ hs hrec => ?_) (fun rec s hs => ?_) (s0 := ([], [])) (by simp) (Xe _)
 .
  have hsl := hs.length_eq; rw [Xa, Xh] at hsl; unfold q3k; dsimp only; rw [if_pos (by simpa using hi)]; refine Ok.guard ?_ ?_
  . have := zw4 (n := (i : Int)) (by omega) (by omega); rw [this]; omega
  rw [iw hi (by omega)]; have ht : feeds.take (i + 1) = feeds.take i ++ [feeds[i]] := Xc hi; refine jh5 (fun _ => Ok.bind (jh6 hi (Ok.guard (by simp only [Xj, List.length_nil]; omega) (hrec (s.1 ++ [feeds[i]], s.2) ?_)))) (fun _ => Ok.bind (jh6 hi (Ok.guard (by simp only [Xj, List.length_nil]; omega) (hrec (s.1, s.2 ++ [feeds[i]]) ?_))))
  . rw [ht]; refine Xg.2 fun x => ?_; have := hs.count_eq x; simp only [Xb] at this ⊢; omega
  . rw [ht]; refine Xg.2 fun x => ?_; have := hs.count_eq x; simp only [Xb] at this ⊢; omega
 obtain ⟨A, B⟩ := s; rw [Xi] at hs; dsimp only at hs; unfold q3k; dsimp only; rw [if_neg (by simp)]; unfold q59; have hlen := hs.length_eq; rw [Xa] at hlen; obtain ⟨v, hv, rfl, _⟩ := z0v g feeds (most := 2000) (by omega) (by omega); obtain ⟨w, hw, rfl, _⟩ := z0v g A (most := 2000) (by omega) (by omega); obtain ⟨y, hy, rfl, _⟩ := z0v g B (most := 2000) (by omega) (by omega); refine Ok.bind (jh8 hv (jh5 (fun _ => Ok.some rfl) (fun he => ?_))); rw [j5d hs.symm (by omega)] at he ⊢; have he : (qf5 g (A ++ B) 2000).2 = 0 := by simpa using he
 have hask : Ask g (A ++ B) 2000 := Classical.byContradiction fun h => by unfold qf5 at he; rw [if_neg h] at he; exact absurd he (by decide)
 have hz : (q4i g 2000 (A ++ B)).e = 0 := by
  unfold qf5 at he; rw [if_pos hask] at he
  split at he
  . rename_i h; exact absurd he h
  . rename_i h; exact Classical.not_not.1 h
 have haA : Ask g A 2000 := ⟨hask.1, hask.2.1, hask.2.2.1, fun f hf => hask.2.2.2 f (List.mem_append_left _ hf)⟩; have haB : Ask g B 2000 := ⟨hask.1, hask.2.1, hask.2.2.1, fun f hf => hask.2.2.2 f (List.mem_append_right _ hf)⟩; obtain ⟨zA, zB, hp, _⟩ := j6u hask (by omega) (by omega) hlin hz; have l0 := z2r (g := g) (feeds := A ++ B) (most := 2000) (by omega) (by rw [Xa]; omega) hask; have l1 := z2r (g := g) (feeds := A) (most := 2000) (by omega) (by omega) haA; have l2 := z2r (g := g) (feeds := B) (most := 2000) (by omega) (by omega) haB; have e0 : qf5 g (A ++ B) 2000 = (q7d (q4i g 2000 (A ++ B)).outs, 0) := by unfold qf5; rw [if_pos hask, if_neg (fun h => h hz)]
 have e1 : qf5 g A 2000 = (q7d (q4i g 2000 A).outs, 0) := by unfold qf5; rw [if_pos haA, if_neg (fun h => h zA)]
 have e2 : qf5 g B 2000 = (q7d (q4i g 2000 B).outs, 0) := by unfold qf5; rw [if_pos haB, if_neg (fun h => h zB)]
 refine Ok.bind (jh8 hw (Ok.bind (jh8 hy ?_))); rw [e0, e1, e2]; have p0 := (qv7 (outs := (q4i g 2000 (A ++ B)).outs) (by omega)).2; have p1 := (qv7 (outs := (q4i g 2000 A).outs) (by omega)).2; have p2 := (qv7 (outs := (q4i g 2000 B).outs) (by omega)).2; have hP : (q7d (q4i g 2000 (A ++ B)).outs).Perm (q7d (q4i g 2000 A).outs ++ q7d (q4i g 2000 B).outs) := p0.trans (hp.trans (p1.symm.append p2.symm)); have q0 := p0.length_eq; have q1 := p1.length_eq; have q2 := p2.length_eq
 generalize q7d (q4i g 2000 (A ++ B)).outs = L at *
 generalize q7d (q4i g 2000 A).outs = M at *
 generalize q7d (q4i g 2000 B).outs = N at *
 have hPl := hP.length_eq; rw [Xa] at hPl; dsimp only; refine jh5 (fun h => ?_) (fun _ => ?_)
 .
  exfalso
  rw [wrap_i64 _ (by omega)] at h; simp at h; omega
 refine eachG (l := L) (by omega) (fun i (_ : Unit) => (L, M, i)) (fun p => p.2.2) (fun _ _ => rfl) (fun _ _ => True) 0 (fun rec i hi s _ _ hrec => ?_) (fun rec s _ => ?_) (s0 := ()) trivial (Xe _)
 .
  unfold q3l; dsimp only; rw [if_pos (by simpa using hi)]; refine Ok.bind (jh6 hi ?_); rw [z6y (by omega), z6y (by omega), z6y (by omega)]; refine Ok.bind (Ok.some (Ok.bind (Ok.some (Ok.bind (Ok.some (jh5 (fun h => ?_) (fun _ => ?_)))))))
  .
   exfalso
   have hc := hP.count_eq L[i]; rw [Xb] at hc; have c1 : M.count L[i] <= M.length := Xd; have c2 : N.count L[i] <= N.length := Xd; rw [wrap_i64 _ (by omega)] at h; simp at h; omega
  . rw [iw hi (by omega)]; exact hrec () trivial
 . unfold q3l; dsimp only; rw [if_neg (by simp)]; exact Ok.some rfl
end MN
end Go.Proofs.YteibkihbdgphnaaGreat
