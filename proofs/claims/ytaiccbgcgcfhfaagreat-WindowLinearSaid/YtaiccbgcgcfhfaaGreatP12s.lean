/-
  The law in plain words: what its plain function gives is true. No condition beyond those that each theorem names.
-/
import Derived.Test.YtaiccbgcgcfhfaaGreatWalkWL1
import Derived.Test.YtaiccbgcgcfhfaaGreatWalkWL0
import Derived.Test.YtaiccbgcgcfhfaaGreatP12r
set_option linter.unusedSimpArgs false
set_option linter.unusedVariables false
set_option linter.unusedSectionVars false
open List renaming length_cons -> Xa
namespace Go.Proofs.YtaiccbgcgcfhfaaGreat
open Go Go.RowKit TS VA BG
namespace MN
open Classical
noncomputable def cntF (feeds : List GFeed) (p : GMean_point) (x : GRec) : Int := ((feeds.filter fun f => decide ((⟨f.Node, ep f.Epoch⟩ : GMean_point) = p /\ f.Rec = x)).length : Int)
theorem j33 (f : GFeed) (l : List GFeed) (p : GMean_point) (x : GRec) : cntF (f :: l) p x = (if (⟨f.Node, ep f.Epoch⟩ : GMean_point) = p /\ f.Rec = x then 1 else 0) + cntF l p x := by
 unfold cntF
 by_cases h : (⟨f.Node, ep f.Epoch⟩ : GMean_point) = p /\ f.Rec = x
 . rw [List.filter_cons_of_pos (by simpa using h), if_pos h]; simp only [Xa]; push_cast; omega
 . rw [List.filter_cons_of_neg (by simpa using h), if_neg h]; omega
theorem j0t (r x : GRec) : cnt [⟨r, 1⟩] x = if r = x then 1 else 0 := by simp [cnt]
theorem zd9 : ∀ (feeds : List GFeed) (s : MS) (K : Int), (∀ p, Fn (s.ins p).a0 /\ tot (s.ins p).a0 <= K /\ (s.ins p).a1 = []) -> K + feeds.length <= 1000000 ->
  (∀ p, Fn ((feeds.foldl q5o s).ins p).a0 /\ ((feeds.foldl q5o s).ins p).a1 = [] /\ ∀ x, cnt ((feeds.foldl q5o s).ins p).a0 x = cnt (s.ins p).a0 x + cntF feeds p x) /\
  (feeds.foldl q5o s).past = s.past /\ (feeds.foldl q5o s).bags = s.bags /\ (feeds.foldl q5o s).work = s.work /\ (feeds.foldl q5o s).outs = s.outs /\ (feeds.foldl q5o s).e = s.e
 | [], s, K, h, _ => ⟨fun p => ⟨(h p).1, (h p).2.2, fun x => by simp [cntF]⟩, rfl, rfl, rfl, rfl, rfl⟩
 | f :: l, s, K, h, hK => by
  simp only [Xa] at hK; rw [List.foldl_cons]; obtain ⟨o1, o2⟩ := z8r f.Rec; have hq : ∀ p, (q5o s f).ins p = if p = ⟨f.Node, ep f.Epoch⟩ then ⟨q06 (s.ins p).a0 [⟨f.Rec, 1⟩], (s.ins p).a1⟩ else s.ins p := fun p => by
   unfold q5o q3r; rw [if_neg (by simp)]
   show upd s.ins _ _ p = _
   unfold upd q7h
   by_cases hp : p = ⟨f.Node, ep f.Epoch⟩
   . subst hp; rw [if_pos rfl, if_pos rfl, if_pos rfl]
   . rw [if_neg hp, if_neg hp]
  have hpl : ∀ p, q61 (s.ins p).a0 [⟨f.Rec, 1⟩] = some (q06 (s.ins p).a0 [⟨f.Rec, 1⟩]) /\ Fn (q06 (s.ins p).a0 [⟨f.Rec, 1⟩]) /\ tot (q06 (s.ins p).a0 [⟨f.Rec, 1⟩]) = tot (s.ins p).a0 + tot [⟨f.Rec, 1⟩] /\ ∀ x, cnt (q06 (s.ins p).a0 [⟨f.Rec, 1⟩]) x = cnt (s.ins p).a0 x + cnt [⟨f.Rec, 1⟩] x := fun p =>
   q1p (h p).1 o1 (by have := (h p).2.1; omega)
  obtain ⟨h1, h2⟩ := zd9 l (q5o s f) (K + 1) (fun p => by
   rw [hq]
   by_cases hp : p = ⟨f.Node, ep f.Epoch⟩
   . rw [if_pos hp]; obtain ⟨_, p2, p3, _⟩ := hpl p; exact ⟨p2, by dsimp only; have := (h p).2.1; omega, (h p).2.2⟩
   . rw [if_neg hp]; exact ⟨(h p).1, by have := (h p).2.1; omega, (h p).2.2⟩) (by push_cast at hK; omega)
  refine ⟨fun p => ⟨(h1 p).1, (h1 p).2.1, fun x => ?_⟩, ?_⟩
  .
   rw [(h1 p).2.2 x, hq, j33]
   by_cases hp : p = ⟨f.Node, ep f.Epoch⟩
   .
    rw [if_pos hp]; dsimp only; rw [(hpl p).2.2.2 x, j0t]
    by_cases hx : f.Rec = x
    . rw [if_pos hx, if_pos ⟨hp.symm, hx⟩]; omega
    . rw [if_neg hx, if_neg (fun h => hx h.2)]; omega
   . rw [if_neg hp, if_neg (fun h => hp h.1.symm)]; omega
  .
   have hc : (q5o s f).past = s.past /\ (q5o s f).bags = s.bags /\ (q5o s f).work = s.work /\ (q5o s f).outs = s.outs /\ (q5o s f).e = s.e := by
    unfold q5o q3r; rw [if_neg (by simp)]; exact ⟨rfl, rfl, rfl, rfl, rfl⟩
   exact ⟨h2.1.trans hc.1, h2.2.1.trans hc.2.1, h2.2.2.1.trans hc.2.2.1, h2.2.2.2.1.trans hc.2.2.2.1, h2.2.2.2.2.trans hc.2.2.2.2⟩
theorem j5v {x y : Arr2 (List GItem)} (h0 : x.a0 = y.a0) (h1 : x.a1 = y.a1) : x = y := by
 cases x; cases y; simp_all
theorem z02 (feeds : List GFeed) (hl : feeds.length <= 1000) : (∀ p, Fn ((q3m feeds).ins p).a0 /\ ((q3m feeds).ins p).a1 = [] /\ ∀ x, cnt ((q3m feeds).ins p).a0 x = cntF feeds p x) /\
  (q3m feeds).past = s0.past /\ (q3m feeds).bags = s0.bags /\ (q3m feeds).work = 0 /\ (q3m feeds).outs = [] /\ (q3m feeds).e = 0 := by
 obtain ⟨h1, h2⟩ := zd9 feeds s0 0 (fun p => ⟨Fn.nil, by simp [s0, no2, tot], rfl⟩) (by omega); exact ⟨fun p => ⟨(h1 p).1, (h1 p).2.1, fun x => by have := (h1 p).2.2 x; rw [show cnt (s0.ins p).a0 x = 0 by simp [s0, no2, cnt]] at this; unfold q3m; omega⟩, h2⟩
theorem j9k {s s' : MS} (h1 : s.ins = s'.ins) (h2 : s.past = s'.past) (h3 : s.bags = s'.bags) (h4 : s.work = s'.work) (h5 : s.outs = s'.outs) (h6 : s.e = s'.e) : s = s' := by
 cases s; cases s'; simp_all
end MN
end Go.Proofs.YtaiccbgcgcfhfaaGreat
