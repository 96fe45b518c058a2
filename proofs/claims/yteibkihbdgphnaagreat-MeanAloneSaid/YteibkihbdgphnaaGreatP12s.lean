/-
  The law in plain words: what its plain function gives is true. No condition beyond those that each theorem names.
-/
import Derived.Test.YteibkihbdgphnaaGreatWalkMA1
import Derived.Test.YteibkihbdgphnaaGreatWalkMA0
import Derived.Test.YteibkihbdgphnaaGreatP12r
set_option linter.unusedSimpArgs false
set_option linter.unusedVariables false
set_option linter.unusedSectionVars false
namespace Go.Proofs.YteibkihbdgphnaaGreat
open Go Go.RowKit TS VA BG
namespace MN
open Classical
theorem j60 : q75 = some true := by kernel_rfl
theorem j0s (g : GGraph) : Ok (q36 g) fun _ => True := by
 unfold q36; refine jb1 (fun _ => Ok.some trivial) (fun h => ?_); simp only [Bool.or_eq_false_iff, decide_eq_false_iff_not] at h; refine jb7 (l := g.Nodes) (by omega) (fun _ => True) 0 (fun rec i hi _ _ hrec => ?_) (fun rec _ => ?_) trivial (Nat.zero_le _)
 · unfold q65; rw [if_pos (by simpa using hi), iw hi (by omega)]; exact Ok.bind (jb2 hi (jb1 (fun _ => Ok.some trivial) (fun _ => hrec trivial)))
 · unfold q65; rw [if_neg (by simp)]; exact Ok.some trivial
theorem j1i {l : List GOut} (hl : l.length < 9223372036854775807) : q64 l l = some true := by
 unfold q64; rw [if_neg (by simp)]; refine jb4 (jb7 (l := l) hl (fun _ => True) 0 (fun rec i hi _ _ hrec => ?_) (fun rec _ => ?_) trivial (Nat.zero_le _))
 · unfold q6a; rw [if_pos (by simpa using hi), iw hi hl]; refine Ok.bind (jb2 hi (Ok.bind (jb2 hi ?_))); rw [if_neg (by simp)]; exact hrec trivial
 · unfold q6a; rw [if_neg (by simp)]; exact Ok.some rfl
noncomputable def cntF (feeds : List GFeed) (p : GMean_point) (x : GRec) : Int := ((feeds.filter fun f => decide ((⟨f.Node, ep f.Epoch⟩ : GMean_point) = p ∧ f.Rec = x)).length : Int)
theorem j18 (f : GFeed) (l : List GFeed) (p : GMean_point) (x : GRec) : cntF (f :: l) p x = (if (⟨f.Node, ep f.Epoch⟩ : GMean_point) = p ∧ f.Rec = x then 1 else 0) + cntF l p x := by
 unfold cntF
 by_cases h : (⟨f.Node, ep f.Epoch⟩ : GMean_point) = p ∧ f.Rec = x
 · rw [List.filter_cons_of_pos (by simpa using h), if_pos h]; simp only [List.length_cons]; push_cast; omega
 · rw [List.filter_cons_of_neg (by simpa using h), if_neg h]; omega
theorem zw3 (r x : GRec) : cnt [⟨r, 1⟩] x = if r = x then 1 else 0 := by simp [cnt]
theorem z9l : ∀ (feeds : List GFeed) (s : MS) (K : Int), (∀ p, Fn (s.ins p).a0 ∧ tot (s.ins p).a0 ≤ K ∧ (s.ins p).a1 = []) → K + feeds.length ≤ 1000000 →
  (∀ p, Fn ((feeds.foldl q71 s).ins p).a0 ∧ ((feeds.foldl q71 s).ins p).a1 = [] ∧ ∀ x, cnt ((feeds.foldl q71 s).ins p).a0 x = cnt (s.ins p).a0 x + cntF feeds p x) ∧
  (feeds.foldl q71 s).past = s.past ∧ (feeds.foldl q71 s).bags = s.bags ∧ (feeds.foldl q71 s).work = s.work ∧ (feeds.foldl q71 s).outs = s.outs ∧ (feeds.foldl q71 s).e = s.e
 | [], s, K, h, _ => ⟨fun p => ⟨(h p).1, (h p).2.2, fun x => by simp [cntF]⟩, rfl, rfl, rfl, rfl, rfl⟩
 | f :: l, s, K, h, hK => by
  simp only [List.length_cons] at hK; rw [List.foldl_cons]; obtain ⟨o1, o2⟩ := j0u f.Rec; have hq : ∀ p, (q71 s f).ins p = if p = ⟨f.Node, ep f.Epoch⟩ then ⟨q0q (s.ins p).a0 [⟨f.Rec, 1⟩], (s.ins p).a1⟩ else s.ins p := fun p => by
   unfold q71 q6q; rw [if_neg (by simp)]
   show upd s.ins _ _ p = _
   unfold upd q9n
   by_cases hp : p = ⟨f.Node, ep f.Epoch⟩
   · subst hp; rw [if_pos rfl, if_pos rfl, if_pos rfl]
   · rw [if_neg hp, if_neg hp]
  have hpl : ∀ p, q42 (s.ins p).a0 [⟨f.Rec, 1⟩] = some (q0q (s.ins p).a0 [⟨f.Rec, 1⟩]) ∧ Fn (q0q (s.ins p).a0 [⟨f.Rec, 1⟩]) ∧ tot (q0q (s.ins p).a0 [⟨f.Rec, 1⟩]) = tot (s.ins p).a0 + tot [⟨f.Rec, 1⟩] ∧ ∀ x, cnt (q0q (s.ins p).a0 [⟨f.Rec, 1⟩]) x = cnt (s.ins p).a0 x + cnt [⟨f.Rec, 1⟩] x := fun p =>
   qy0 (h p).1 o1 (by have := (h p).2.1; omega)
  obtain ⟨h1, h2⟩ := z9l l (q71 s f) (K + 1) (fun p => by
   rw [hq]
   by_cases hp : p = ⟨f.Node, ep f.Epoch⟩
   · rw [if_pos hp]; obtain ⟨_, p2, p3, _⟩ := hpl p; exact ⟨p2, by dsimp only; have := (h p).2.1; omega, (h p).2.2⟩
   · rw [if_neg hp]; exact ⟨(h p).1, by have := (h p).2.1; omega, (h p).2.2⟩) (by push_cast at hK; omega)
  refine ⟨fun p => ⟨(h1 p).1, (h1 p).2.1, fun x => ?_⟩, ?_⟩
  ·
   rw [(h1 p).2.2 x, hq, j18]
   by_cases hp : p = ⟨f.Node, ep f.Epoch⟩
   ·
    rw [if_pos hp]; dsimp only; rw [(hpl p).2.2.2 x, zw3]
    by_cases hx : f.Rec = x
    · rw [if_pos hx, if_pos ⟨hp.symm, hx⟩]; omega
    · rw [if_neg hx, if_neg (fun h => hx h.2)]; omega
   · rw [if_neg hp, if_neg (fun h => hp h.1.symm)]; omega
  ·
   have hc : (q71 s f).past = s.past ∧ (q71 s f).bags = s.bags ∧ (q71 s f).work = s.work ∧ (q71 s f).outs = s.outs ∧ (q71 s f).e = s.e := by
    unfold q71 q6q; rw [if_neg (by simp)]; exact ⟨rfl, rfl, rfl, rfl, rfl⟩
   exact ⟨h2.1.trans hc.1, h2.2.1.trans hc.2.1, h2.2.2.1.trans hc.2.2.1, h2.2.2.2.1.trans hc.2.2.2.1, h2.2.2.2.2.trans hc.2.2.2.2⟩
theorem j3n {x y : Arr2 (List GItem)} (h0 : x.a0 = y.a0) (h1 : x.a1 = y.a1) : x = y := by
 cases x; cases y; simp_all
theorem z4c (feeds : List GFeed) (hl : feeds.length ≤ 1000) : (∀ p, Fn ((q5s feeds).ins p).a0 ∧ ((q5s feeds).ins p).a1 = [] ∧ ∀ x, cnt ((q5s feeds).ins p).a0 x = cntF feeds p x) ∧
  (q5s feeds).past = s0.past ∧ (q5s feeds).bags = s0.bags ∧ (q5s feeds).work = 0 ∧ (q5s feeds).outs = [] ∧ (q5s feeds).e = 0 := by
 obtain ⟨h1, h2⟩ := z9l feeds s0 0 (fun p => ⟨Fn.nil, by simp [s0, no2, tot], rfl⟩) (by omega); exact ⟨fun p => ⟨(h1 p).1, (h1 p).2.1, fun x => by have := (h1 p).2.2 x; rw [show cnt (s0.ins p).a0 x = 0 by simp [s0, no2, cnt]] at this; unfold q5s; omega⟩, h2⟩
end MN
end Go.Proofs.YteibkihbdgphnaaGreat
