/-
  The law in plain words: what its plain function gives is true. No condition beyond those that each theorem names.
-/
import Derived.Test.YteibkihbdgphnaaGreatWalkMA1
import Derived.Test.YteibkihbdgphnaaGreatWalkMA2
import Derived.Test.YteibkihbdgphnaaGreatP12u
set_option linter.unusedSimpArgs false
set_option linter.unusedVariables false
set_option linter.unusedSectionVars false
namespace Go.Proofs.YteibkihbdgphnaaGreat
open Go Go.RowKit TS VA BG
namespace MN
open Classical
theorem z9w {A B : List GOut} (q : GOut → Bool) (hA : A.length < 100000000) (hB : B.length < 100000000) (h : A.filter q = B) : (q6e A).filter q = q6e B := by
 obtain ⟨_, sA⟩ := qv0 hA; obtain ⟨_, sB⟩ := qv0 hB; refine SO.Srt.unique (key := fun o => o.Node) (sA.inc.sublist List.filter_sublist) sB.inc fun k => ?_; rw [sB.fil k, ← h, List.filter_filter, List.filter_filter]; have := sA.fil k
 calc _ = ((q6e A).filter fun x => decide (x.Node = k)).filter q := by rw [List.filter_filter]; exact List.filter_congr fun x _ => Bool.and_comm _ _
  _ = (A.filter fun x => decide (x.Node = k)).filter q := by rw [this]
  _ = _ := by rw [List.filter_filter]; exact List.filter_congr fun x _ => Bool.and_comm _ _
theorem qs5 {α : Type} {l : List α} {i : Nat} (hi : i < l.length) (q : α → Bool) : (l.take (i + 1)).filter q = (l.take i).filter q ++ if q l[i] = true then [l[i]] else [] := by
 rw [List.take_succ_eq_append_getElem hi, List.filter_append]
 congr 1
 by_cases h : q l[i] = true
 · rw [if_pos h, List.filter_cons_of_pos h]; rfl
 · rw [if_neg h, List.filter_cons_of_neg h]; rfl
theorem z95 {g : GGraph} {feeds : List GFeed} {most : Int} (hm : 0 ≤ most ∧ most ≤ 5000) (hl : feeds.length ≤ 500) (ha : Ask g feeds most) : (q78 g most feeds).outs.length ≤ 10000000 := by
 obtain ⟨v, _, _, h⟩ := z5u g feeds hm.2 hl; obtain ⟨r, hS, hr⟩ := h ha; have h1 := hS.inv.pot; have h2 := hS.inv.sums; have h3 := hS.wx; have ho : (q78 g most feeds).outs = r.outs := by rw [← hr]; rfl
 rw [ho]; omega
theorem MeanAlone_holds (g : GGraph) (feeds : List GFeed) (epoch : Int) (_ : Dat.ok g) (_ : Dat.ok feeds) (_ : inI .i64 epoch) : q43 g feeds epoch = some true := by
 unfold q43; rw [j60]; refine jb4 (Ok.bind (Ok.some ?_)); rw [if_neg (by simp)]; refine jb0 (P := fun b => b = true → feeds.length ≤ 40 ∧ g.Nodes.length ≤ 60) ?_ fun b hb => jb1 (fun _ => Ok.some rfl) (fun hs => ?_)
 ·
  unfold q74 q36
  by_cases hc : ((((decide (20 < (List.length g.Parent : Int))) || (decide (20 < (List.length g.Bound : Int)))) || (decide (60 < (List.length g.Nodes : Int)))) || (decide (100 < (List.length g.Edges : Int)))) = true
  · rw [if_pos hc]; exact Ok.bind (Ok.some (Ok.some fun h => by simp at h))
  · rw [if_neg hc]; have hgs := j0s g; unfold q36 at hgs; rw [if_neg hc] at hgs; refine jb0 hgs fun b _ => Ok.some fun h => ?_; simp at h hc; omega
 obtain ⟨hl, hN⟩ := hb (by simpa using hs); refine jb7 (l := g.Nodes) (by omega) (fun i => ∀ j, j < i → (nd g j).Kind ≠ 14) 0 (fun rec i hi _ h14 hrec => ?_) (fun rec h14 => ?_) (fun j hj => absurd hj (Nat.not_lt_zero _)) (Nat.zero_le _)
 ·
  unfold q4u; rw [if_pos (by simpa using hi), iw hi (by omega)]; refine Ok.bind (jb2 hi ?_); rw [qf1 hi]; refine jb1 (fun _ => Ok.some rfl) (fun h => hrec fun j hj => ?_); rcases Nat.lt_succ_iff_lt_or_eq.1 hj with hj | rfl
  · exact h14 j hj
  · simpa using h
 unfold q4u; rw [if_neg (by simp)]; unfold q4t; refine jb6 (l := feeds) (by omega) (fun i (a : List GFeed) => a = (feeds.take i).filter fun f => decide (f.Epoch = epoch)) 0 (fun rec i hi a _ ha hrec => ?_) (fun rec a ha => ?_) (by simp) (Nat.zero_le _)
 ·
  have hal : a.length ≤ i := by rw [ha]; exact Nat.le_trans (List.length_filter_le _ _) (by rw [List.length_take]; omega)
  unfold q4v; dsimp only; rw [if_pos (by simpa using hi), iw hi (by omega)]; refine Ok.bind (jb2 hi (jb1 (fun h => Ok.guard (by simp only [List.length_cons, List.length_nil]; omega) (hrec _ ?_)) (fun h => hrec _ ?_)))
  · rw [qs5 hi, if_pos (by simpa using h), ha]
  · rw [qs5 hi, if_neg (by simpa using h), ha, List.append_nil]
 ·
  rw [List.take_length] at ha; subst ha; unfold q4v; dsimp only; rw [if_neg (by simp)]; unfold q4s; have hfl : (feeds.filter fun f => decide (f.Epoch = epoch)).length ≤ 40 := Nat.le_trans (List.length_filter_le _ _) hl; obtain ⟨v, hv, rfl, _⟩ := z5u g feeds (most := 2000) (by omega) (by omega); obtain ⟨w, hw, rfl, _⟩ := z5u g (feeds.filter fun f => decide (f.Epoch = epoch)) (most := 2000) (by omega) (by omega); refine Ok.bind (jb5 hv (jb1 (fun _ => Ok.some rfl) (fun he => ?_))); have he : (qz4 g feeds 2000).2 = 0 := by simpa using he
  have hask : Ask g feeds 2000 := Classical.byContradiction fun h => by unfold qz4 at he; rw [if_neg h] at he; exact absurd he (by decide)
  have hask' := zw8 hask fun f => decide (f.Epoch = epoch); have hz : (q78 g 2000 feeds).e = 0 := by
   unfold qz4 at he; rw [if_pos hask] at he
   split at he
   · rename_i h; exact absurd he h
   · rename_i h; exact Classical.not_not.1 h
  obtain ⟨hz', pre, more, ho, h1, h2, h3⟩ := zz5 hask (by omega) epoch hz h14; have l1 := z95 (g := g) (feeds := feeds) (most := 2000) (by omega) (by omega) hask; have l2 := z95 (g := g) (most := 2000) (by omega) (Nat.le_trans hfl (by omega)) hask'; have e1 : qz4 g feeds 2000 = (q6e (q78 g 2000 feeds).outs, 0) := by unfold qz4; rw [if_pos hask, if_neg (fun h => h hz)]
  have e2 : qz4 g (feeds.filter fun f => decide (f.Epoch = epoch)) 2000 = (q6e (q78 g 2000 (feeds.filter fun f => decide (f.Epoch = epoch))).outs, 0) := by unfold qz4; rw [if_pos hask', if_neg (fun h => h hz')]
  refine Ok.bind (jb5 hw ?_); rw [e1, e2]; have hsl := (z2l (outs := (q78 g 2000 feeds).outs) (by omega)).2.length_eq; have hsl2 := (z2l (outs := (q78 g 2000 (feeds.filter fun f => decide (f.Epoch = epoch))).outs) (by omega)).2.length_eq; have hf : (q78 g 2000 feeds).outs.filter (fun o => decide (o.Epoch = epoch)) = (q78 g 2000 (feeds.filter fun f => decide (f.Epoch = epoch))).outs := by
   have g1 : (q78 g 2000 (feeds.filter fun f => decide (f.Epoch = epoch))).outs.filter (fun o => decide (o.Epoch = epoch)) = (q78 g 2000 (feeds.filter fun f => decide (f.Epoch = epoch))).outs := List.filter_eq_self.2 fun o ho => by simpa using h1 o ho
   have g2 : pre.filter (fun o => decide (o.Epoch = epoch)) = [] := List.filter_eq_nil_iff.2 fun o ho => by simpa using h2 o ho
   have g3 : more.filter (fun o => decide (o.Epoch = epoch)) = [] := List.filter_eq_nil_iff.2 fun o ho => by simpa using h3 o ho
   rw [ho, List.filter_append, List.filter_append, g1, g2, g3, List.append_nil, List.nil_append]
  have hfin := z9w (fun o => decide (o.Epoch = epoch)) (by omega) (by omega) hf; refine jb6 (l := q6e (q78 g 2000 feeds).outs) (by omega) (fun i (a : List GOut) => a = ((q6e (q78 g 2000 feeds).outs).take i).filter fun o => decide (o.Epoch = epoch)) 0 (fun rec i hi a _ ha hrec => ?_) (fun rec a ha => ?_) (by simp) (Nat.zero_le _)
  ·
   have hal : a.length ≤ i := by rw [ha]; exact Nat.le_trans (List.length_filter_le _ _) (by rw [List.length_take]; omega)
   unfold q4w; dsimp only; rw [if_pos (by simpa using hi), iw hi (by omega)]; refine Ok.bind (jb2 hi (jb1 (fun h => Ok.guard (by simp only [List.length_cons, List.length_nil]; omega) (hrec _ ?_)) (fun h => hrec _ ?_)))
   · rw [qs5 hi, if_pos (by simpa using h), ha]
   · rw [qs5 hi, if_neg (by simpa using h), ha, List.append_nil]
  · rw [List.take_length, hfin] at ha; subst ha; unfold q4w; dsimp only; rw [if_neg (by simp)]; unfold q4r; refine jb1 (fun _ => ?_) (fun h => by simp at h); rw [j1i (l := q6e (q78 g 2000 (feeds.filter fun f => decide (f.Epoch = epoch))).outs) (by omega)]; exact Ok.bind (Ok.some (Ok.some rfl))
end MN
end Go.Proofs.YteibkihbdgphnaaGreat
