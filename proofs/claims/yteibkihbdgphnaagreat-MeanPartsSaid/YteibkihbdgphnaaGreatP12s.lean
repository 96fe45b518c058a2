/-
  The law in plain words: what its plain function gives is true. No condition beyond those that each theorem names.
-/
import Derived.Test.YteibkihbdgphnaaGreatWalkMP1
import Derived.Test.YteibkihbdgphnaaGreatWalkMP0
import Derived.Test.YteibkihbdgphnaaGreatP12r
set_option linter.unusedSimpArgs false
set_option linter.unusedVariables false
set_option linter.unusedSectionVars false
open List renaming length_cons -> Xa
namespace Go.Proofs.YteibkihbdgphnaaGreat
open Go Go.RowKit TS VA BG
namespace MN
open Classical
theorem j7l : q7g = some true := by kernel_rfl
theorem j2d (g : GGraph) : Ok (q3h g) fun _ => True := by
 unfold q3h; refine jh5 (fun _ => Ok.some trivial) (fun h => ?_); simp only [Bool.or_eq_false_iff, decide_eq_false_iff_not] at h; refine ji0 (l := g.Nodes) (by omega) (fun _ => True) 0 (fun rec i hi _ _ hrec => ?_) (fun rec _ => ?_) trivial (Nat.zero_le _)
 . unfold q6g; rw [if_pos (by simpa using hi), iw hi (by omega)]; exact Ok.bind (jh6 hi (jh5 (fun _ => Ok.some trivial) (fun _ => hrec trivial)))
 . unfold q6g; rw [if_neg (by simp)]; exact Ok.some trivial
noncomputable def cntF (feeds : List GFeed) (p : GMean_point) (x : GRec) : Int := ((feeds.filter fun f => decide ((⟨f.Node, ep f.Epoch⟩ : GMean_point) = p /\ f.Rec = x)).length : Int)
theorem j2o (f : GFeed) (l : List GFeed) (p : GMean_point) (x : GRec) : cntF (f :: l) p x = (if (⟨f.Node, ep f.Epoch⟩ : GMean_point) = p /\ f.Rec = x then 1 else 0) + cntF l p x := by
 unfold cntF
 by_cases h : (⟨f.Node, ep f.Epoch⟩ : GMean_point) = p /\ f.Rec = x
 . rw [List.filter_cons_of_pos (by simpa using h), if_pos h]; simp only [Xa]; push_cast; omega
 . rw [List.filter_cons_of_neg (by simpa using h), if_neg h]; omega
theorem j0h (r x : GRec) : cnt [⟨r, 1⟩] x = if r = x then 1 else 0 := by simp [cnt]
theorem ze0 : ∀ (feeds : List GFeed) (s : MS) (K : Int), (∀ p, Fn (s.ins p).a0 /\ tot (s.ins p).a0 <= K /\ (s.ins p).a1 = []) -> K + feeds.length <= 1000000 ->
  (∀ p, Fn ((feeds.foldl q67 s).ins p).a0 /\ ((feeds.foldl q67 s).ins p).a1 = [] /\ ∀ x, cnt ((feeds.foldl q67 s).ins p).a0 x = cnt (s.ins p).a0 x + cntF feeds p x) /\
  (feeds.foldl q67 s).past = s.past /\ (feeds.foldl q67 s).bags = s.bags /\ (feeds.foldl q67 s).work = s.work /\ (feeds.foldl q67 s).outs = s.outs /\ (feeds.foldl q67 s).e = s.e
 | [], s, K, h, _ => ⟨fun p => ⟨(h p).1, (h p).2.2, fun x => by simp [cntF]⟩, rfl, rfl, rfl, rfl, rfl⟩
 | f :: l, s, K, h, hK => by
  simp only [Xa] at hK; rw [List.foldl_cons]; obtain ⟨o1, o2⟩ := z8u f.Rec; have hq : ∀ p, (q67 s f).ins p = if p = ⟨f.Node, ep f.Epoch⟩ then ⟨q08 (s.ins p).a0 [⟨f.Rec, 1⟩], (s.ins p).a1⟩ else s.ins p := fun p => by
   unfold q67 q4h; rw [if_neg (by simp)]
   show upd s.ins _ _ p = _
   unfold upd q7o
   by_cases hp : p = ⟨f.Node, ep f.Epoch⟩
   . subst hp; rw [if_pos rfl, if_pos rfl, if_pos rfl]
   . rw [if_neg hp, if_neg hp]
  have hpl : ∀ p, q4g (s.ins p).a0 [⟨f.Rec, 1⟩] = some (q08 (s.ins p).a0 [⟨f.Rec, 1⟩]) /\ Fn (q08 (s.ins p).a0 [⟨f.Rec, 1⟩]) /\ tot (q08 (s.ins p).a0 [⟨f.Rec, 1⟩]) = tot (s.ins p).a0 + tot [⟨f.Rec, 1⟩] /\ ∀ x, cnt (q08 (s.ins p).a0 [⟨f.Rec, 1⟩]) x = cnt (s.ins p).a0 x + cnt [⟨f.Rec, 1⟩] x := fun p =>
   q1x (h p).1 o1 (by have := (h p).2.1; omega)
  obtain ⟨h1, h2⟩ := ze0 l (q67 s f) (K + 1) (fun p => by
   rw [hq]
   by_cases hp : p = ⟨f.Node, ep f.Epoch⟩
   . rw [if_pos hp]; obtain ⟨_, p2, p3, _⟩ := hpl p; exact ⟨p2, by dsimp only; have := (h p).2.1; omega, (h p).2.2⟩
   . rw [if_neg hp]; exact ⟨(h p).1, by have := (h p).2.1; omega, (h p).2.2⟩) (by push_cast at hK; omega)
  refine ⟨fun p => ⟨(h1 p).1, (h1 p).2.1, fun x => ?_⟩, ?_⟩
  .
   rw [(h1 p).2.2 x, hq, j2o]
   by_cases hp : p = ⟨f.Node, ep f.Epoch⟩
   .
    rw [if_pos hp]; dsimp only; rw [(hpl p).2.2.2 x, j0h]
    by_cases hx : f.Rec = x
    . rw [if_pos hx, if_pos ⟨hp.symm, hx⟩]; omega
    . rw [if_neg hx, if_neg (fun h => hx h.2)]; omega
   . rw [if_neg hp, if_neg (fun h => hp h.1.symm)]; omega
  .
   have hc : (q67 s f).past = s.past /\ (q67 s f).bags = s.bags /\ (q67 s f).work = s.work /\ (q67 s f).outs = s.outs /\ (q67 s f).e = s.e := by
    unfold q67 q4h; rw [if_neg (by simp)]; exact ⟨rfl, rfl, rfl, rfl, rfl⟩
   exact ⟨h2.1.trans hc.1, h2.2.1.trans hc.2.1, h2.2.2.1.trans hc.2.2.1, h2.2.2.2.1.trans hc.2.2.2.1, h2.2.2.2.2.trans hc.2.2.2.2⟩
theorem zp1 {x y : Arr2 (List GItem)} (h0 : x.a0 = y.a0) (h1 : x.a1 = y.a1) : x = y := by
 cases x; cases y; simp_all
theorem z5o (feeds : List GFeed) (hl : feeds.length <= 1000) : (∀ p, Fn ((q5n feeds).ins p).a0 /\ ((q5n feeds).ins p).a1 = [] /\ ∀ x, cnt ((q5n feeds).ins p).a0 x = cntF feeds p x) /\
  (q5n feeds).past = s0.past /\ (q5n feeds).bags = s0.bags /\ (q5n feeds).work = 0 /\ (q5n feeds).outs = [] /\ (q5n feeds).e = 0 := by
 obtain ⟨h1, h2⟩ := ze0 feeds s0 0 (fun p => ⟨Fn.nil, by simp [s0, no2, tot], rfl⟩) (by omega); exact ⟨fun p => ⟨(h1 p).1, (h1 p).2.1, fun x => by have := (h1 p).2.2 x; rw [show cnt (s0.ins p).a0 x = 0 by simp [s0, no2, cnt]] at this; unfold q5n; omega⟩, h2⟩
theorem j21 {s s' : MS} (h1 : s.ins = s'.ins) (h2 : s.past = s'.past) (h3 : s.bags = s'.bags) (h4 : s.work = s'.work) (h5 : s.outs = s'.outs) (h6 : s.e = s'.e) : s = s' := by
 cases s; cases s'; simp_all
theorem j2a {l l' : List GFeed} (h : l.Perm l') (hl : l.length <= 1000) : q5n l = q5n l' := by
 have hl' : l'.length <= 1000 := by rw [<- h.length_eq]; exact hl
 obtain ⟨a1, a2, a3, a4, a5, a6⟩ := z5o l hl; obtain ⟨b1, b2, b3, b4, b5, b6⟩ := z5o l' hl'; refine j21 (funext fun p => zp1 (Rt.unique (a1 p).1.rt (b1 p).1.rt fun x => ?_) (by rw [(a1 p).2.1, (b1 p).2.1])) (by rw [a2, b2]) (by rw [a3, b3]) (by rw [a4, b4]) (by rw [a5, b5]) (by rw [a6, b6]); rw [(a1 p).2.2, (b1 p).2.2]; unfold cntF; rw [(h.filter _).length_eq]
theorem j4x {l l' : List GFeed} (h : l.Perm l') : qi9 l = qi9 l' := by
 have h1 := qu5 l; have h2 := qu5 l'; exact Once.unique h1 ⟨h2.inc, fun x => (h2.mem x).trans (h.map _).mem_iff.symm⟩
theorem j5d {g : GGraph} {l l' : List GFeed} {most : Int} (h : l.Perm l') (hl : l.length <= 1000) : qf5 g l most = qf5 g l' most := by
 have e : q4i g most l = q4i g most l' := by unfold q4i; rw [j4x h, j2a h hl]
 have ea : Ask g l most ↔ Ask g l' most := by
  unfold Ask
  constructor
  . rintro ⟨a, b, c, d⟩; exact ⟨a, b, c, fun f hf => d f (h.mem_iff.2 hf)⟩
  . rintro ⟨a, b, c, d⟩; exact ⟨a, b, c, fun f hf => d f (h.mem_iff.1 hf)⟩
 unfold qf5; rw [e]
 by_cases ha : Ask g l most
 . rw [if_pos ha, if_pos (ea.1 ha)]
 . rw [if_neg ha, if_neg (fun h => ha (ea.2 h))]
end MN
end Go.Proofs.YteibkihbdgphnaaGreat
