/-
  The law in plain words: what its plain function gives is true. No condition beyond those that each theorem names.
-/
import Derived.Test.YteibkihbdgphnaaGreatWalkMO1
import Derived.Test.YteibkihbdgphnaaGreatWalkMO0
import Derived.Test.YteibkihbdgphnaaGreatP12r
set_option linter.unusedSimpArgs false
set_option linter.unusedVariables false
set_option linter.unusedSectionVars false
namespace Go.Proofs.YteibkihbdgphnaaGreat
open Go Go.RowKit TS VA BG
namespace MN
open Classical
theorem j57 : q6s = some true := by kernel_rfl
theorem zz2 (g : GGraph) : Ok (q5n g) fun _ => True := by
 unfold q5n; refine j9l (fun _ => Ok.some trivial) (fun h => ?_); simp only [Bool.or_eq_false_iff, decide_eq_false_iff_not] at h; refine j9r (l := g.Nodes) (by omega) (fun _ => True) 0 (fun rec i hi _ _ hrec => ?_) (fun rec _ => ?_) trivial (Nat.zero_le _)
 · unfold q5w; rw [if_pos (by simpa using hi), iw hi (by omega)]; exact Ok.bind (j9m hi (j9l (fun _ => Ok.some trivial) (fun _ => hrec trivial)))
 · unfold q5w; rw [if_neg (by simp)]; exact Ok.some trivial
theorem j1e (g : GGraph) (feeds : List GFeed) : Ok (q5o g feeds) fun b => b = true → feeds.length ≤ 40 := by
 unfold q5o; refine j9k (zz2 g) fun b _ => Ok.some fun h => ?_; simp at h; omega
theorem j0f {l : List GOut} (hl : l.length < 9223372036854775807) : q5v l l = some true := by
 unfold q5v; rw [if_neg (by simp)]; refine j9o (j9r (l := l) hl (fun _ => True) 0 (fun rec i hi _ _ hrec => ?_) (fun rec _ => ?_) trivial (Nat.zero_le _))
 · unfold q61; rw [if_pos (by simpa using hi), iw hi hl]; refine Ok.bind (j9m hi (Ok.bind (j9m hi ?_))); rw [if_neg (by simp)]; exact hrec trivial
 · unfold q61; rw [if_neg (by simp)]; exact Ok.some rfl
noncomputable def cntF (feeds : List GFeed) (p : GMean_point) (x : GRec) : Int := ((feeds.filter fun f => decide ((⟨f.Node, ep f.Epoch⟩ : GMean_point) = p ∧ f.Rec = x)).length : Int)
theorem j05 (f : GFeed) (l : List GFeed) (p : GMean_point) (x : GRec) : cntF (f :: l) p x = (if (⟨f.Node, ep f.Epoch⟩ : GMean_point) = p ∧ f.Rec = x then 1 else 0) + cntF l p x := by
 unfold cntF
 by_cases h : (⟨f.Node, ep f.Epoch⟩ : GMean_point) = p ∧ f.Rec = x
 · rw [List.filter_cons_of_pos (by simpa using h), if_pos h]; simp only [List.length_cons]; push_cast; omega
 · rw [List.filter_cons_of_neg (by simpa using h), if_neg h]; omega
theorem zt1 (r x : GRec) : cnt [⟨r, 1⟩] x = if r = x then 1 else 0 := by simp [cnt]
theorem z92 : ∀ (feeds : List GFeed) (s : MS) (K : Int), (∀ p, Fn (s.ins p).a0 ∧ tot (s.ins p).a0 ≤ K ∧ (s.ins p).a1 = []) → K + feeds.length ≤ 1000000 →
  (∀ p, Fn ((feeds.foldl q72 s).ins p).a0 ∧ ((feeds.foldl q72 s).ins p).a1 = [] ∧ ∀ x, cnt ((feeds.foldl q72 s).ins p).a0 x = cnt (s.ins p).a0 x + cntF feeds p x) ∧
  (feeds.foldl q72 s).past = s.past ∧ (feeds.foldl q72 s).bags = s.bags ∧ (feeds.foldl q72 s).work = s.work ∧ (feeds.foldl q72 s).outs = s.outs ∧ (feeds.foldl q72 s).e = s.e
 | [], s, K, h, _ => ⟨fun p => ⟨(h p).1, (h p).2.2, fun x => by simp [cntF]⟩, rfl, rfl, rfl, rfl, rfl⟩
 | f :: l, s, K, h, hK => by
  simp only [List.length_cons] at hK; rw [List.foldl_cons]; obtain ⟨o1, o2⟩ := zz4 f.Rec; have hq : ∀ p, (q72 s f).ins p = if p = ⟨f.Node, ep f.Epoch⟩ then ⟨q0s (s.ins p).a0 [⟨f.Rec, 1⟩], (s.ins p).a1⟩ else s.ins p := fun p => by
   unfold q72 qk4; rw [if_neg (by simp)]
   show upd s.ins _ _ p = _
   unfold upd qb6
   by_cases hp : p = ⟨f.Node, ep f.Epoch⟩
   · subst hp; rw [if_pos rfl, if_pos rfl, if_pos rfl]
   · rw [if_neg hp, if_neg hp]
  have hpl : ∀ p, q43 (s.ins p).a0 [⟨f.Rec, 1⟩] = some (q0s (s.ins p).a0 [⟨f.Rec, 1⟩]) ∧ Fn (q0s (s.ins p).a0 [⟨f.Rec, 1⟩]) ∧ tot (q0s (s.ins p).a0 [⟨f.Rec, 1⟩]) = tot (s.ins p).a0 + tot [⟨f.Rec, 1⟩] ∧ ∀ x, cnt (q0s (s.ins p).a0 [⟨f.Rec, 1⟩]) x = cnt (s.ins p).a0 x + cnt [⟨f.Rec, 1⟩] x := fun p =>
   qw4 (h p).1 o1 (by have := (h p).2.1; omega)
  obtain ⟨h1, h2⟩ := z92 l (q72 s f) (K + 1) (fun p => by
   rw [hq]
   by_cases hp : p = ⟨f.Node, ep f.Epoch⟩
   · rw [if_pos hp]; obtain ⟨_, p2, p3, _⟩ := hpl p; exact ⟨p2, by dsimp only; have := (h p).2.1; omega, (h p).2.2⟩
   · rw [if_neg hp]; exact ⟨(h p).1, by have := (h p).2.1; omega, (h p).2.2⟩) (by push_cast at hK; omega)
  refine ⟨fun p => ⟨(h1 p).1, (h1 p).2.1, fun x => ?_⟩, ?_⟩
  ·
   rw [(h1 p).2.2 x, hq, j05]
   by_cases hp : p = ⟨f.Node, ep f.Epoch⟩
   ·
    rw [if_pos hp]; dsimp only; rw [(hpl p).2.2.2 x, zt1]
    by_cases hx : f.Rec = x
    · rw [if_pos hx, if_pos ⟨hp.symm, hx⟩]; omega
    · rw [if_neg hx, if_neg (fun h => hx h.2)]; omega
   · rw [if_neg hp, if_neg (fun h => hp h.1.symm)]; omega
  ·
   have hc : (q72 s f).past = s.past ∧ (q72 s f).bags = s.bags ∧ (q72 s f).work = s.work ∧ (q72 s f).outs = s.outs ∧ (q72 s f).e = s.e := by
    unfold q72 qk4; rw [if_neg (by simp)]; exact ⟨rfl, rfl, rfl, rfl, rfl⟩
   exact ⟨h2.1.trans hc.1, h2.2.1.trans hc.2.1, h2.2.2.1.trans hc.2.2.1, h2.2.2.2.1.trans hc.2.2.2.1, h2.2.2.2.2.trans hc.2.2.2.2⟩
theorem j2r {x y : Arr2 (List GItem)} (h0 : x.a0 = y.a0) (h1 : x.a1 = y.a1) : x = y := by
 cases x; cases y; simp_all
theorem zm4 (feeds : List GFeed) (hl : feeds.length ≤ 1000) : (∀ p, Fn ((qg5 feeds).ins p).a0 ∧ ((qg5 feeds).ins p).a1 = [] ∧ ∀ x, cnt ((qg5 feeds).ins p).a0 x = cntF feeds p x) ∧
  (qg5 feeds).past = s0.past ∧ (qg5 feeds).bags = s0.bags ∧ (qg5 feeds).work = 0 ∧ (qg5 feeds).outs = [] ∧ (qg5 feeds).e = 0 := by
 obtain ⟨h1, h2⟩ := z92 feeds s0 0 (fun p => ⟨Fn.nil, by simp [s0, no2, tot], rfl⟩) (by omega); exact ⟨fun p => ⟨(h1 p).1, (h1 p).2.1, fun x => by have := (h1 p).2.2 x; rw [show cnt (s0.ins p).a0 x = 0 by simp [s0, no2, cnt]] at this; unfold qg5; omega⟩, h2⟩
theorem j6e {s s' : MS} (h1 : s.ins = s'.ins) (h2 : s.past = s'.past) (h3 : s.bags = s'.bags) (h4 : s.work = s'.work) (h5 : s.outs = s'.outs) (h6 : s.e = s'.e) : s = s' := by
 cases s; cases s'; simp_all
theorem zy8 {l l' : List GFeed} (h : l.Perm l') (hl : l.length ≤ 1000) : qg5 l = qg5 l' := by
 have hl' : l'.length ≤ 1000 := by rw [← h.length_eq]; exact hl
 obtain ⟨a1, a2, a3, a4, a5, a6⟩ := zm4 l hl; obtain ⟨b1, b2, b3, b4, b5, b6⟩ := zm4 l' hl'; refine j6e (funext fun p => j2r (Rt.unique (a1 p).1.rt (b1 p).1.rt fun x => ?_) (by rw [(a1 p).2.1, (b1 p).2.1])) (by rw [a2, b2]) (by rw [a3, b3]) (by rw [a4, b4]) (by rw [a5, b5]) (by rw [a6, b6]); rw [(a1 p).2.2, (b1 p).2.2]; unfold cntF; rw [(h.filter _).length_eq]
theorem j2g {l l' : List GFeed} (h : l.Perm l') : z07 l = z07 l' := by
 have h1 := z4y l; have h2 := z4y l'; exact Once.unique h1 ⟨h2.inc, fun x => (h2.mem x).trans (h.map _).mem_iff.symm⟩
theorem j2v {g : GGraph} {l l' : List GFeed} {most : Int} (h : l.Perm l') (hl : l.length ≤ 1000) : z1k g l most = z1k g l' most := by
 have e : z0w g most l = z0w g most l' := by unfold z0w; rw [j2g h, zy8 h hl]
 have ea : Ask g l most ↔ Ask g l' most := by
  unfold Ask
  constructor
  · rintro ⟨a, b, c, d⟩; exact ⟨a, b, c, fun f hf => d f (h.mem_iff.2 hf)⟩
  · rintro ⟨a, b, c, d⟩; exact ⟨a, b, c, fun f hf => d f (h.mem_iff.1 hf)⟩
 unfold z1k; rw [e]
 by_cases ha : Ask g l most
 · rw [if_pos ha, if_pos (ea.1 ha)]
 · rw [if_neg ha, if_neg (fun h => ha (ea.2 h))]
theorem j5e {g : GGraph} {feeds : List GFeed} {most : Int} (hm : 0 ≤ most ∧ most ≤ 5000) (hl : feeds.length ≤ 500) : (z1k g feeds most).1.length ≤ 10000000 := by
 obtain ⟨v, _, rfl, h⟩ := z5d g feeds hm.2 hl; unfold z1k
 by_cases ha : Ask g feeds most
 ·
  rw [if_pos ha]; obtain ⟨r, hS, hr⟩ := h ha; have h1 := hS.inv.pot; have h2 := hS.inv.sums; have h3 := hS.wx; have ho : (z0w g most feeds).outs = r.outs := by rw [← hr]; rfl
  split
  · simp
  · dsimp only; rw [ho, (z8k (outs := r.outs) (by omega)).2.length_eq]; omega
 · rw [if_neg ha]; simp
theorem MeanOrder_holds (g : GGraph) (feeds : List GFeed) (byv : Int) (_ : Dat.ok g) (_ : Dat.ok feeds) (hby : inI .u8 byv) : q2t g feeds byv = some true := by
 have hby0 := zy9 hby; unfold q2t; rw [j57]; refine j9o (Ok.bind (Ok.some ?_)); rw [if_neg (by simp)]; refine j9k (j1e g feeds) fun b hb => j9l (fun _ => Ok.some rfl) (fun hs => ?_); have hl := hb (by simpa using hs); refine j9q (l := feeds) (by omega) (fun i (a : List GFeed) => a.Perm (feeds.take i)) 0 (fun rec i hi a _ ha hrec => ?_) (fun rec a ha => ?_) (by simp) (Nat.zero_le _)
 ·
  have hal : a.length = i := by rw [ha.length_eq, List.length_take]; omega
  unfold q37; dsimp only; have w1 : IntKind.i64.wrap ((List.length a : Int) + 1) = (i : Int) + 1 := by rw [hal, wrap_i64 _ (by omega)]
  have w2 : IntKind.i64.wrap byv = byv := wrap_i64 _ (by omega); have hm : Int.tmod byv ((i : Int) + 1) = byv % ((i : Int) + 1) := Int.tmod_eq_emod_of_nonneg hby0.1; have hm0 := Int.emod_nonneg byv (show (i : Int) + 1 ≠ 0 by omega); have hm1 := Int.emod_lt_of_pos byv (show 0 < (i : Int) + 1 by omega); rw [if_pos (by simpa using hi), iw hi (by omega), w1, w2, hm, hal]
  generalize byv % ((i : Int) + 1) = at_ at hm0 hm1
  refine Ok.guard (by omega) (Ok.guard (by omega) (Ok.guard (by rw [List.length_take]; omega) (Ok.bind (j9m hi ?_)))); refine Ok.guard (by simp only [List.length_take, List.length_cons, List.length_nil]; omega) (Ok.guard (by omega) (Ok.guard ?_ (hrec _ ?_)))
  · simp only [List.length_append, List.length_take, List.length_drop, List.length_cons, List.length_nil]; omega
  · rw [List.take_of_length_le (l := List.drop at_.toNat a) (i := i - at_.toNat) (by rw [List.length_drop]; omega), List.take_succ_eq_append_getElem hi]; refine List.Perm.trans ?_ (List.Perm.append_right _ ha); rw [List.append_assoc]; refine List.Perm.trans (List.Perm.append_left _ List.perm_append_comm) ?_; rw [← List.append_assoc, List.take_append_drop]
 · rw [List.take_length] at ha; unfold q37; dsimp only; rw [if_neg (by simp)]; unfold q4q; obtain ⟨v, hv, rfl, _⟩ := z5d g feeds (most := 2000) (by omega) (by omega); obtain ⟨w, hw, rfl, _⟩ := z5d g a (most := 2000) (by omega) (by rw [ha.length_eq]; omega); refine Ok.bind (j9p hv (Ok.bind (j9p hw ?_))); rw [j2v ha (by rw [ha.length_eq]; omega)]; have := j5e (g := g) (feeds := feeds) (most := 2000) (by omega) (by omega); rw [j0f (by omega)]; exact Ok.bind (Ok.some (Ok.some (by simp)))
end MN
end Go.Proofs.YteibkihbdgphnaaGreat
