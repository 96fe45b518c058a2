/-
  The law in plain words: what its plain function gives is true. No condition beyond those that each theorem names.
-/
import Derived.Test.YteibkihbdgphnaaGreatWalkMP1
import Derived.Test.YteibkihbdgphnaaGreatP12q
import Derived.Test.YteibkihbdgphnaaGreatPTo
set_option linter.unusedSimpArgs false
set_option linter.unusedVariables false
set_option linter.unusedSectionVars false
open List renaming take_succ_eq_append_getElem -> Xa, length_take -> Xb, take_length -> Xc, length_map -> Xd, mem_iff_getElem -> Xe, mem_singleton -> Xh, foldl_append -> Xj, getElem_mem -> Xl
open Bool renaming or_eq_false_iff -> Xf, not_eq_true' -> Xi
open Int renaming toNat_of_nonneg -> Xg
open Nat renaming zero_le -> Xk
namespace Go.Proofs.YteibkihbdgphnaaGreat
open Go Go.RowKit TS VA BG
namespace MN
open Classical
structure Once (L : List Int) (es : List Int) : Prop where
 inc : es.Pairwise (· < ·)
 mem : ∀ x, x ∈ es ↔ x ∈ L
theorem Once.unique {L es es' : List Int} (h : Once L es) (h' : Once L es') : es = es' := by
 have nd : ∀ {l : List Int}, l.Pairwise (· < ·) -> l.Nodup := fun h => h.imp fun hab e => by omega
 have p : es.Perm es' := (List.perm_ext_iff_of_nodup (nd h.inc) (nd h'.inc)).2 fun r => (h.mem r).trans (h'.mem r).symm; exact List.Perm.eq_of_pairwise (le := (· < ·)) (fun x y _ _ h1 h2 => by omega) h.inc h'.inc p
theorem zo2 {v : List Int} (hs : v.Pairwise (· <= ·)) : Once v (Lib.compact v) := by
 have hs' := List.pairwise_iff_getElem.1 hs; have hget : ∀ j, j < v.length -> v.toArray[j]! = v.getD j 0 := fun j hj => by
  rw [getElem!_pos v.toArray j (by simpa using hj)]; simp [List.getD_eq_getElem?_getD, hj]
 have key : ∀ m, m <= v.length -> (Lib.compactUpTo v.toArray m).Pairwise (· < ·) /\ ∀ x, x ∈ Lib.compactUpTo v.toArray m ↔ x ∈ v.take m := by
  intro m
  induction m with
  | zero => intro _; simp [Lib.compactUpTo]
  | succ m ih =>
   intro hm; obtain ⟨h1, h2⟩ := ih (by omega); have hlt : m < v.length := by omega
   have hdm : v.toArray[m]! = v[m] := by rw [getElem!_pos v.toArray m (by simpa using hlt)]; simp
   rw [Lib.compactUpTo_succ, Xa hlt]
   by_cases hk : Lib.keeps v.toArray m = true
   .
    rw [if_pos hk, hdm]; refine ⟨?_, fun x => by simp only [List.mem_append, h2]⟩; rw [List.pairwise_append]; refine ⟨h1, by simp, fun x hx y hy => ?_⟩; rw [Xh] at hy; subst hy; obtain ⟨j, hj, rfl⟩ := Xe.1 ((h2 x).1 hx); rw [Xb] at hj; rw [List.getElem_take]; have hm0 : m ≠ 0 := by omega
    have hne : v[m] ≠ v[m - 1] := fun e => by
     have hd1 : v.toArray[m - 1]! = v[m - 1] := by rw [getElem!_pos v.toArray (m - 1) (by simp; omega)]; simp
     have := Lib.keeps_neg (d := v.toArray) (m := m) (by omega) (by rw [hdm, hd1, e]); rw [this] at hk; cases hk
    have e1 := hs' (m - 1) m (by omega) hlt (by omega); rcases Nat.lt_or_ge j (m - 1) with h | h
    . have e2 := hs' j (m - 1) (by omega) (by omega) h; omega
    .
     have : j = m - 1 := by omega
     subst this; omega
   .
    rw [if_neg hk, List.append_nil]; refine ⟨h1, fun x => ?_⟩; rw [h2, List.mem_append]; refine ⟨.inl, fun h => h.elim id fun hx => ?_⟩; rw [Xh] at hx; have hm0 : m ≠ 0 := fun e => by subst e; exact hk (Lib.keeps_lt_one _ 0 (by omega))
    have he : v[m] = v[m - 1] := by
     refine Decidable.byContradiction fun e => hk (Lib.keeps_pos ?_); rw [hdm, getElem!_pos v.toArray (m - 1) (by simp; omega)]; simpa using e
    rw [hx, he]; exact Xe.2 ⟨m - 1, by rw [Xb]; omega, by simp⟩
 have := key v.length (Nat.le_refl _); rw [Xc] at this; have e : Lib.compactUpTo v.toArray v.length = Lib.compact v := rfl; rw [e] at this; exact ⟨this.1, this.2⟩
theorem zq4 {s : List GFeed} {f : GFeed -> Option Bool} {p : GFeed -> Bool} (hl : s.length < 9223372036854775808) (hf : ∀ x ∈ s, f x = some (p x)) : q5x s f = some (s.any p) := qn9 hl hf
def z0w (g : GGraph) (f : GFeed) : Prop := 0 <= f.Node /\ f.Node < g.Nodes.length /\ (nd g f.Node.toNat).Kind = 1 /\ 0 <= f.Epoch /\ f.Epoch <= 1048576
theorem j59 (g : GGraph) (feeds : List GFeed) (most : Int) (hl : feeds.length < 1000000000) : qi6 g feeds most = some (decide (VA.Good g /\ 0 <= most /\ most <= 1048576 /\ ∀ f ∈ feeds, z0w g f)) := by
 unfold qi6; rw [j5g]; refine Ok.eq (Ok.bind (Ok.some (jh5 (fun h => Ok.some ?_) (fun h => ?_))))
 .
  symm
  rw [decide_eq_false_iff_not]; rintro ⟨h1, h2, h3, _⟩; have := zo6.2 h1; simp [this] at h; omega
 .
  simp only [Xf, Bool.not_eq_false', beq_iff_eq, decide_eq_false_iff_not] at h; have hG := zo6.1 h.1.1; rw [zq4 (p := fun f => decide (¬ z0w g f)) (by omega) (fun f _ => by
   unfold q9v; refine Ok.eq (jh5 (fun hx => Ok.some ?_) (fun hx => ?_))
   .
    symm; simp only [decide_eq_true_eq]
    intro hh; simp only [Bool.or_eq_true, decide_eq_true_eq] at hx; have := hh.1; have := hh.2.1; omega
   .
    simp only [Xf, decide_eq_false_iff_not] at hx; refine Ok.bind (Ok.idx' (by omega) (by omega) fun x hx2 => Ok.some ?_); have hnd : nd g f.Node.toNat = x := by unfold nd; rw [List.getD_eq_getElem?_getD, hx2]; rfl
    rw [Bool.eq_iff_iff]; simp only [Bool.or_eq_true, Bool.not_eq_true', beq_eq_false_iff_ne, decide_eq_true_eq, z0w, hnd]
    constructor
    .
     rintro h1 ⟨_, _, h3, h4, h5⟩; rcases h1 with (h1 | h1) | h1
     . exact h1 h3
     . omega
     . omega
    .
     intro h1
     by_cases h3 : x.Kind = 1
     .
      by_cases h4 : 0 <= f.Epoch
      . exact .inr (Int.not_le.1 fun h5 => h1 ⟨by omega, by omega, h3, h4, h5⟩)
      . exact .inl (.inr (by omega))
     . exact .inl (.inl h3))]
  refine Ok.bind (Ok.some (Ok.some ?_)); rw [Bool.eq_iff_iff]; simp only [Xi, List.any_eq_false, decide_eq_true_eq, Classical.not_not]; exact ⟨fun hh => ⟨hG, by omega, by omega, hh⟩, fun hh => hh.2.2.2⟩
def Ask (g : GGraph) (feeds : List GFeed) (most : Int) : Prop := VA.Good g /\ 0 <= most /\ most <= 1048576 /\ ∀ f ∈ feeds, z0w g f
theorem z9m {g : GGraph} (hG : VA.Good g) : ∀ (k : Nat) (s : Int), 0 <= s -> s < g.Parent.length -> s < k -> (0 : Int) ∈ anc g.Parent s
 | 0, s, _, _, h => by omega
 | k + 1, s, h0, h1, h => by
  rw [q63 hG.wp h0 h1]
  by_cases hz : s = 0
  . rw [hz]; simp
  . have hd := (z2m hG h0 h1).2.2 hz; have := (hG.wp.2 s h0 h1).1; exact List.mem_cons_of_mem _ (z9m hG k _ hd.1 hd.2.1 (by omega))
theorem j9c {g : GGraph} (hG : VA.Good g) : dep g 0 = 1 := by
 have hw := hG.wp; have hp := hG.pl; have h1 := (hw.2 0 (by omega) (by omega)).2.2 rfl; unfold dep; rw [q63 hw (by omega) (by omega), h1, q6t]; rfl
def ep (e : Int) : GTime := ⟨1, ⟨e, 0, 0, 0⟩⟩
theorem zy3 {e : Int} (h : 0 <= e /\ e <= 1048576) : ok (ep e) := by unfold ok ep; dsimp only; simp; omega
theorem zm1 {g : GGraph} (hG : VA.Good g) {n : Nat} (hn : n < g.Nodes.length) (hk : (nd g n).Kind = 1) {e : Int} (he : 0 <= e /\ e <= 1048576) : PtM g ⟨(n : Int), ep e⟩ := by
 have hs := (q91 (hG.no n hn)).2.2.2.1 (.inl hk); refine ⟨n, hn, rfl, zy3 he, ?_⟩
 show (1 : Int) = _
 unfold lev qf7; rw [if_neg (by omega), hs, j9c hG]; rfl
def s0 : MS := ⟨fun _ => no2, fun _ => [], fun _ => [], 0, [], 0⟩
noncomputable def q67 (s : MS) (f : GFeed) : MS := q4h s ⟨f.Node, ep f.Epoch⟩ 0 [⟨f.Rec, 1⟩]
noncomputable def q5n (feeds : List GFeed) : MS := feeds.foldl q67 s0
def qi9 (feeds : List GFeed) : List Int := Lib.compact ((feeds.map (·.Epoch)).mergeSort fun x y => decide (x <= y))
noncomputable def z95 (g : GGraph) (most : Int) (s : MS) (e : Int) : MS := (q43 g most 8 0 g.Nodes.length 0 (ep e) s).2
noncomputable def q4i (g : GGraph) (most : Int) (feeds : List GFeed) : MS := (qi9 feeds).foldl (z95 g most) (q5n feeds)
def q7d (outs : List GOut) : List GOut := (q19 outs fun x y => q6f x y).getD []
noncomputable def qf5 (g : GGraph) (feeds : List GFeed) (most : Int) : List GOut × Int := if Ask g feeds most then (if (q4i g most feeds).e ≠ 0 then ([], (q4i g most feeds).e) else (q7d (q4i g most feeds).outs, 0)) else ([], 1)
theorem qu5 (feeds : List GFeed) : Once (feeds.map (·.Epoch)) (qi9 feeds) := by
 have hp := List.mergeSort_perm (feeds.map (·.Epoch)) (fun x y => decide (x <= y)); have hso : ((feeds.map (·.Epoch)).mergeSort (fun x y => decide (x <= y))).Pairwise (· <= ·) :=
  (List.pairwise_mergeSort (le := fun x y : Int => decide (x <= y)) (fun a b c => by simp only [decide_eq_true_eq]; omega) (fun a b => by simp only [Bool.or_eq_true, decide_eq_true_eq]; omega) (feeds.map (·.Epoch))).imp (by simp)
 have := zo2 hso; exact ⟨this.inc, fun x => (this.mem x).trans hp.mem_iff⟩
theorem cmp_eq (a b : Int) : q7l a b = some (if a < b then -1 else if b < a then 1 else 0) := by
 simp only [q7l, q9a, q9, Option.bind_some, beq_self_eq_true, Bool.not_true, Bool.false_eq_true, if_false, decide_eq_true_eq]
 split <;> (try rfl)
 split <;> rfl
theorem j7k (x y : GOut) : ∃ n, q6f x y = some n := by
 unfold q6f; rw [cmp_eq]; exact ⟨_, rfl⟩
theorem qv7 {outs : List GOut} (h : outs.length < 100000000) : q19 outs (fun x y => q6f x y) = some (q7d outs) /\ (q7d outs).Perm outs := by
 obtain ⟨r, h1, h2⟩ := SO.stable_perm (cmp := fun x y => q6f x y) j7k h; have : q7d outs = r := by unfold q7d; rw [h1]; rfl
 rw [this]; exact ⟨h1, h2⟩
theorem z8u (r : GRec) : Fn [⟨r, 1⟩] /\ tot [(⟨r, 1⟩ : GItem)] = 1 := ⟨⟨⟨by simp, by simp⟩, by simp [OP.Pos]⟩, by simp [tot]⟩
theorem jb3 {g : GGraph} {C most : Int} (hCm : C + most <= 7000) {feeds : List GFeed} (ha : Ask g feeds most) {r : GMean_runner} (hS : St g C most r) (hr : ab r = q4i g most feeds) : qe2 r = some (qf5 g feeds most) := by
 unfold qe2 qf5; rw [if_pos ha, <- hr]; refine Ok.eq (jh5 (fun h => Ok.some ?_) (fun h => ?_))
 .
  have h : (ab r).e ≠ 0 := by simpa [ab] using h
  rw [if_pos h]; rfl
 .
  have h : r.e = 0 := by simpa using h
  rw [if_neg (fun h' => h' h)]; have h1 := hS.inv.pot; have h2 := hS.inv.sums; have h3 := hS.wx; obtain ⟨q1, q2⟩ := qv7 (outs := r.outs) (by omega); refine Ok.bind (jh8 q1 ?_); exact Ok.guard q2.length_eq (Ok.some rfl)
theorem z0v (g : GGraph) (feeds : List GFeed) {most : Int} (hm : most <= 5000) (hl : feeds.length <= 500) : Ok (q7t g feeds most) fun v => v = qf5 g feeds most /\ (Ask g feeds most -> ∃ r, St g feeds.length most r /\ ab r = q4i g most feeds) := by
 unfold q7t; rw [j59 g feeds most (by omega)]
 by_cases ha : Ask g feeds most
 case neg =>
  unfold qf5; rw [if_neg ha]; refine Ok.bind (Ok.some (jh5 (fun _ => Ok.some ⟨rfl, fun h => absurd h ha⟩) (fun h => ?_))); exact absurd (by simpa [Ask] using h) ha
 have ha' := ha; obtain ⟨hG, hm0, _, hF⟩ := ha; have hnl := hG.nl; have hpl := hG.pl; refine Ok.bind (Ok.some (jh5 (fun h => by simp only [Xi, decide_eq_false_iff_not] at h; exact absurd ha' h) (fun _ => ?_))); have hz : ab ⟨g, (Prod.mk ([] : List GMean_point) ([] : List (Arr2 (List GItem)))), (Prod.mk ([] : List Int) ([] : List (List GCount))), (Prod.mk ([] : List GMean_point) ([] : List (List GItem))), 0, most, ([] : List GOut), 0⟩ = s0 := rfl; refine jh9 (l := feeds) (by omega) (fun i (s : GMean_runner × List Int) => Inv g i s.1 /\ s.1.most = most /\ s.1.work = 0 /\ s.1.e = 0 /\ ab s.1 = (feeds.take i).foldl q67 s0 /\ s.2 = (feeds.take i).map (·.Epoch)) 0 (fun rec i hi s _ hI hrec => ?_) (fun rec s hI => ?_)
  ⟨⟨rfl, rfl, by simp, by simp, by simp, rfl, by simp, rfl, by simp, by simp, by simp, by simp, by simp⟩, rfl, rfl, rfl, hz, rfl⟩ (Xk _)
 .
  obtain ⟨b, es⟩ := s; obtain ⟨h1, h2, h3, h4, h5, h6⟩ := hI; dsimp only at h1 h2 h3 h4 h5 h6; unfold qe3; dsimp only; rw [if_pos (by simpa using hi), iw hi (by omega)]; refine Ok.bind (jh6 hi (Ok.guard ?_ ?_))
  . rw [h6]; simp only [Xd, Xb, List.length_cons, List.length_nil]; omega
  obtain ⟨f0, f1, f2, f3, f4⟩ := hF _ (Xl hi); have hpt : PtM g ⟨feeds[i].Node, ep feeds[i].Epoch⟩ := by
   have := zm1 hG (n := feeds[i].Node.toNat) (by omega) f2 ⟨f3, f4⟩; rw [Xg f0] at this; exact this
  obtain ⟨o1, o2⟩ := z8u feeds[i].Rec; refine jh4 (zv1 hG h1 (t := ep feeds[i].Epoch) hpt (.inl rfl) o1 (by omega) (by omega)) fun v hv => ?_; obtain ⟨v1, v2, v3, v4⟩ := hv; refine hrec _ ⟨?_, v3.trans h2, v4.trans h3, ?_, ?_, ?_⟩
  . rw [o2] at v1; exact_mod_cast v1
  .
   have : (ab v).e = (q4h (ab b) ⟨feeds[i].Node, ep feeds[i].Epoch⟩ 0 [⟨feeds[i].Rec, 1⟩]).e := by rw [v2]
   have h9 : (q4h (ab b) ⟨feeds[i].Node, ep feeds[i].Epoch⟩ 0 [⟨feeds[i].Rec, 1⟩]).e = (ab b).e := by unfold q4h; split <;> rfl
   rw [h9] at this; exact this.trans h4
  . dsimp only; rw [Xa hi, Xj, <- h5, v2]; rfl
  . dsimp only; rw [Xa hi, List.map_append, h6]; rfl
 .
  obtain ⟨b, es⟩ := s; obtain ⟨h1, h2, h3, h4, h5, h6⟩ := hI; dsimp only at h1 h2 h3 h4 h5 h6; rw [Xc] at h5 h6; unfold qe3; dsimp only; rw [if_neg (by simp)]; unfold qn0 q9f q7s zw6 z7l; have hlen : es.length = feeds.length := by rw [h6, Xd]
  refine Ok.bind (Ok.guard (by omega) (Ok.some (Ok.guard (by simp) (Ok.bind (Ok.guard (by simp; omega) (Ok.some ?_)))))); have heps : Lib.compact (es.mergeSort fun x y => decide (x <= y)) = qi9 feeds := by rw [h6]; rfl
  rw [heps]; have hon := qu5 feeds; have hepl : (qi9 feeds).length <= 500 := by
   have := Lib.compact_length_le ((feeds.map (·.Epoch)).mergeSort fun x y => decide (x <= y)); rw [List.length_mergeSort, Xd] at this; exact Nat.le_trans this hl
  refine jh9 (l := qi9 feeds) (by omega) (fun i (s : GMean_runner) => St g feeds.length most s /\ ab s = ((qi9 feeds).take i).foldl (z95 g most) (q5n feeds)) 0 (fun rec i hi s _ hI hrec => ?_) (fun rec s hI => ?_)
   ⟨⟨h1.mono (by omega), h2, by omega, fun _ => by omega, by omega⟩, h5⟩ (Xk _)
  .
   obtain ⟨hS, hs⟩ := hI; unfold qe4; dsimp only; rw [if_pos (by simpa using hi), iw hi (by omega)]; refine Ok.bind (jh6 hi ?_); have hok : okz (ep (qi9 feeds)[i]) := by
    obtain ⟨f, hf, he⟩ := List.mem_map.1 ((hon.mem _).1 (Xl hi)); rw [<- he]; have := (hF f hf).2.2.2; exact .inl (zy3 this)
   have := zj5 hG (C := feeds.length) (most := most) (by omega) hm0 (by omega) 8 rounds (from_ := 0) (to := g.Nodes.length) (sc := 0) (t := ep (qi9 feeds)[i]) (r := s) (Xk _) (Nat.le_refl _) hok (Int.le_refl _) (by omega) (fun m _ hm => by
    obtain ⟨k1, k2, _⟩ := q58 hG hm; exact z9m hG _ _ k1 k2 (by have := Xg k1; show (nd g m).Scope < (((nd g m).Scope.toNat + 1 : Nat) : Int); omega)) (by simp; omega) (by simp only [rounds]; omega) hS
   refine jh4 this fun v hv => ?_; obtain ⟨v1, v2, v3⟩ := hv; refine hrec _ ⟨v2, ?_⟩; rw [Xa hi, Xj, <- hs, v3]; rfl
  . obtain ⟨hS, hs⟩ := hI; rw [Xc] at hs; unfold qe4; dsimp only; rw [if_neg (by simp)]; exact jh8 (jb3 (by omega) ha' hS hs) ⟨rfl, fun _ => ⟨s, hS, hs⟩⟩
end MN
end Go.Proofs.YteibkihbdgphnaaGreat
