/-
  The law in plain words: what its plain function gives is true. No condition beyond those that each theorem names.
-/
import Derived.Test.YteibkihbdgphnaaGreatWalkME0
import Derived.Test.YteibkihbdgphnaaGreatP12t
set_option linter.unusedSimpArgs false
set_option linter.unusedVariables false
set_option linter.unusedSectionVars false
namespace Go.Proofs.YteibkihbdgphnaaGreat
open Go Go.RowKit TS VA BG
namespace MN
open Classical
structure R2 (V : Int → Prop) (d : Int) (pre : List GOut) (s s' : MS) : Prop where
 ins : ∀ p : GMean_point, V p.time.C.a0 → s.ins p = s'.ins p
 past : s.past = s'.past
 bags : s.bags = s'.bags
 work : s.work = s'.work + d
 outs : s.outs = pre ++ s'.outs
 e : s.e = 0
 e' : s'.e = 0
section
variable {g : GGraph} (hG : VA.Good g) {most : Int} {V : Int → Prop} {d : Int} (hd : 0 ≤ d) {pre : List GOut}
theorem zd3 {n : Nat} {u : GTime} (hu : V u.C.a0) {out : List GItem} : ∀ (es : List GEdge) (s s' : MS), R2 V d pre s s' → R2 V d pre (qg9 n u out es s) (qg9 n u out es s')
 | [], _, _, h => h
 | e :: es, s, s', h => by
  refine zd3 hu es (q3u n u out s e) (q3u n u out s' e) ?_; unfold q3u
  by_cases hf : e.From = n
  · rw [if_pos hf, if_pos hf]; obtain ⟨r1, r2, r3, r4, r5⟩ := z1v s ⟨e.To, u⟩ e.Port out; obtain ⟨q1, q2, q3, q4, q5⟩ := z1v s' ⟨e.To, u⟩ e.Port out; refine ⟨fun p hp => ?_, by dsimp only; rw [r1, q1, h.past], by dsimp only; rw [r2, q2, h.bags], by dsimp only; rw [h.work]; omega, by dsimp only; rw [r4, q4, h.outs], by dsimp only; rw [r5, h.e], by dsimp only; rw [q5, h.e']⟩; dsimp only; rw [qt4, qt4, h.ins ⟨e.To, u⟩ hu, h.ins p hp]
  · rw [if_neg hf, if_neg hf]; exact h
theorem j22 {n : Nat} {t : GTime} (ht : V t.C.a0) {s s' : MS} (h : R2 V d pre s s') : R2 V d pre (takeA g n t s) (takeA g n t s') := by
 have hi : ∀ p : GMean_point, V p.time.C.a0 → upd s.ins ⟨n, t⟩ no2 p = upd s'.ins ⟨n, t⟩ no2 p := fun p hp => by
  unfold upd; rw [h.ins p hp]
 unfold takeA
 by_cases h14 : (nd g n).Kind = 14
 · rw [if_pos h14, if_pos h14]; exact ⟨hi, by dsimp only; rw [h.past], by dsimp only; rw [h.bags, h.ins ⟨n, t⟩ ht], h.work, h.outs, h.e, h.e'⟩
 · rw [if_neg h14, if_neg h14]; exact ⟨hi, h.past, h.bags, h.work, h.outs, h.e, h.e'⟩
include hG hd
theorem j3b (s s' : MS) (n : Nat) (t : GTime) (hn : n < g.Nodes.length) (ht : ok t → V t.C.a0) (h : W g s ∧ W g s' ∧ R2 V d pre s s') (he : (q39 g most s n t).2.e = 0) :
  (W g (q39 g most s n t).2 ∧ W g (q39 g most s' n t).2 ∧ R2 V d pre (q39 g most s n t).2 (q39 g most s' n t).2) ∧ (q39 g most s n t).1 = (q39 g most s' n t).1 := by
 obtain ⟨hW, hW', hR⟩ := h; have k1 := (z3h hG most hn (t := t) (e := t.C.a0) (fun _ => rfl) hW).1; have k2 := (z3h hG most hn (t := t) (e := t.C.a0) (fun _ => rfl) hW').1
 suffices hs : R2 V d pre (q39 g most s n t).2 (q39 g most s' n t).2 ∧ (q39 g most s n t).1 = (q39 g most s' n t).1 from ⟨⟨k1, k2, hs.1⟩, hs.2⟩
 clear k1 k2
 by_cases hok : ok t
 case neg =>
  have h1 : s.ins ⟨n, t⟩ = no2 := Classical.byContradiction fun hne => by obtain ⟨_, _, _, h2, _⟩ := hW _ hne; exact hok h2
  have h2 : s'.ins ⟨n, t⟩ = no2 := Classical.byContradiction fun hne => by obtain ⟨_, _, _, h2, _⟩ := hW' _ hne; exact hok h2
  unfold q39; rw [if_pos (.inl h1), if_pos (.inl h2)]; exact ⟨hR, rfl⟩
 have hv := ht hok; have hin := hR.ins ⟨n, t⟩ hv; unfold q39 at he ⊢
 by_cases hne : s.ins ⟨n, t⟩ = no2
 · rw [if_pos (.inl hne), if_pos (.inl (hin ▸ hne))]; exact ⟨hR, rfl⟩
 have c1 : ¬ (s.ins ⟨n, t⟩ = no2 ∨ s.e ≠ 0) := fun h => h.elim hne (fun h => h hR.e); have c2 : ¬ (s'.ins ⟨n, t⟩ = no2 ∨ s'.e ≠ 0) := fun h => h.elim (fun h => hne (hin.trans h)) (fun h => h hR.e'); rw [if_neg c1] at he ⊢; rw [if_neg c2]; have hT := j22 (g := g) (n := n) hv hR; have hnow : qt8 (takeA g n t s) n t = qt8 (takeA g n t s') n t := by unfold qt8; rw [hT.past, hT.bags]
 rw [hnow, hin] at he ⊢; have hpt := hW _ hne
 generalize takeA g n t s = a at *
 generalize takeA g n t s' = a' at *
 generalize (if (nd g n).Kind = 14 then qt8 a' n t else (s'.ins ⟨n, t⟩).a1) = b at *
 unfold qt5 at he ⊢
 cases ha : qp3 (nd g n) (s'.ins ⟨n, t⟩).a0 b with
 | none => rw [ha] at he; exact absurd he (by show ¬ (9 : Int) = 0; decide)
 | some out =>
  rw [ha] at he; dsimp only at he ⊢
  by_cases h15 : (nd g n).Kind = 15
  · rw [if_pos h15, if_pos h15]; exact ⟨⟨hT.ins, hT.past, hT.bags, hT.work, by dsimp only; rw [hT.outs, List.append_assoc], hT.e, hT.e'⟩, rfl⟩
  rw [if_neg h15] at he ⊢; rw [if_neg h15]
  by_cases hx : (q13 g n t).2 = false ∨ out = []
  · rw [if_pos hx, if_pos hx]; exact ⟨hT, rfl⟩
  rw [if_neg hx] at he ⊢; rw [if_neg hx]; have hu : (q13 g n t).2 = true := by simpa using fun e => hx (.inl e)
  have hep := zg9 hG hn hpt hu; have hS := zd3 (n := n) (u := (q13 g n t).1) (out := out) (by rw [hep]; exact hv) g.Edges _ _ hT; dsimp only at he ⊢; have hm : ¬ most < (qg9 n (q13 g n t).1 out g.Edges a).work := fun hm => by
   rw [if_pos hm] at he; exact absurd he (by show ¬ (9 : Int) = 0; decide)
  rw [if_neg hm, if_neg (by have := hS.work; omega)]; exact ⟨hS, rfl⟩
theorem j0y {s s' : MS} {e : Int} (he : V e) (h : W g s ∧ W g s' ∧ R2 V d pre s s') (hz : (q6a g most s e).e = 0) : W g (q6a g most s e) ∧ W g (q6a g most s' e) ∧ R2 V d pre (q6a g most s e) (q6a g most s' e) :=
 (z97 (g := g) (most := most) (T := V) (G := fun s s' => W g s ∧ W g s' ∧ R2 V d pre s s') (fun s s' n t hn ht h hz => j3b hG hd s s' n t hn ht h hz) 8 0 g.Nodes.length 0 (ep e) s s' (Nat.le_refl _) (fun _ => he) h hz).1
omit hd
theorem z7f {s : MS} (e : Int) (h : W g s) : W g (q6a g most s e) ∧ Keep g e s (q6a g most s e) :=
 z2o (g := g) (most := most) (T := fun x => x = e) (P := fun x => W g x ∧ Keep g e s x) (fun x n t hn ht hx => by
  obtain ⟨k1, k2⟩ := z3h hG most hn ht hx.1; exact ⟨k1, hx.2.trans k2⟩) 8 0 g.Nodes.length 0 (ep e) s (Nat.le_refl _) (fun _ => rfl) ⟨h, Keep.refl _ _ _⟩
structure KeepL (g : GGraph) (es : List Int) (s s' : MS) : Prop where
 ins : ∀ p : GMean_point, p.time.C.a0 ∉ es → s'.ins p = s.ins p
 work : s.work ≤ s'.work
 outs : ∃ more, s'.outs = s.outs ++ more ∧ ∀ o ∈ more, o.Epoch ∈ es
 dead : s.e ≠ 0 → s'.e ≠ 0
 past : (∀ n, n < g.Nodes.length → (nd g n).Kind ≠ 14) → s'.past = s.past ∧ s'.bags = s.bags
theorem qm6 : ∀ (es : List Int) (s : MS), W g s → W g (es.foldl (q6a g most) s) ∧ KeepL g es s (es.foldl (q6a g most) s)
 | [], s, h => ⟨h, fun _ _ => rfl, Int.le_refl _, ⟨[], by simp, by simp⟩, fun h => h, fun _ => ⟨rfl, rfl⟩⟩
 | e :: es, s, h => by
  obtain ⟨k1, k2⟩ := z7f hG (most := most) e h; obtain ⟨k3, k4⟩ := qm6 es _ k1; rw [List.foldl_cons]; obtain ⟨m1, a1, a2⟩ := k2.outs; obtain ⟨m2, b1, b2⟩ := k4.outs; refine ⟨k3, fun p hp => ?_, Int.le_trans k2.work k4.work, ⟨m1 ++ m2, by rw [b1, a1, List.append_assoc], fun o ho => ?_⟩, fun hx => k4.dead (k2.dead hx), fun hn => ⟨(k4.past hn).1.trans (k2.past hn).1, (k4.past hn).2.trans (k2.past hn).2⟩⟩
  · simp only [List.mem_cons, not_or] at hp; exact (k4.ins p hp.2).trans (k2.ins p hp.1)
  ·
   rcases List.mem_append.1 ho with h | h
   · rw [a2 o h]; simp
   · exact List.mem_cons_of_mem _ (b2 o h)
include hd
theorem zh0 : ∀ (es : List Int) (s s' : MS), (∀ e ∈ es, V e) → (W g s ∧ W g s' ∧ R2 V d pre s s') → (es.foldl (q6a g most) s).e = 0 →
  W g (es.foldl (q6a g most) s) ∧ W g (es.foldl (q6a g most) s') ∧ R2 V d pre (es.foldl (q6a g most) s) (es.foldl (q6a g most) s')
 | [], _, _, _, h, _ => h
 | e :: es, s, s', hv, h, hz => by
  rw [List.foldl_cons] at hz; rw [List.foldl_cons, List.foldl_cons]; have k := z7f hG (most := most) e h.1; have hz1 : (q6a g most s e).e = 0 := Classical.byContradiction fun hx => (qm6 hG (most := most) es _ k.1).2.dead hx hz; exact zh0 es _ _ (fun x hx => hv x (by simp [hx])) (j0y hG hd (hv e (by simp)) h hz1) hz
end
theorem zv6 (q : Int → Bool) (feeds : List GFeed) : q9w (feeds.filter fun f => q f.Epoch) = (q9w feeds).filter q := by
 have h1 := z1s (feeds.filter fun f => q f.Epoch); have h2 := z1s feeds; refine Once.unique h1 ⟨h2.inc.sublist List.filter_sublist, fun x => ?_⟩; rw [List.mem_filter, h2.mem]; simp only [List.mem_map, List.mem_filter]
 constructor
 · rintro ⟨⟨f, hf, rfl⟩, hq⟩; exact ⟨f, ⟨hf, hq⟩, rfl⟩
 · rintro ⟨f, ⟨hf, hq⟩, rfl⟩; exact ⟨⟨f, hf, rfl⟩, hq⟩
theorem zm7 (q : Int → Bool) (feeds : List GFeed) {p : GMean_point} (hp : q p.time.C.a0 = true) (x : GRec) : cntF (feeds.filter fun f => q f.Epoch) p x = cntF feeds p x := by
 unfold cntF; rw [List.filter_filter]
 congr 2
 refine List.filter_congr fun f _ => ?_; rw [Bool.eq_iff_iff]; simp only [Bool.and_eq_true, decide_eq_true_eq]
 constructor
 · exact fun h => h.1
 · rintro ⟨h1, h2⟩; refine ⟨⟨h1, h2⟩, ?_⟩; rw [← h1] at hp; exact hp
theorem zm2 (q : Int → Bool) (feeds : List GFeed) (hl : feeds.length ≤ 1000) : R2 (fun e => q e = true) 0 [] (q96 feeds) (q96 (feeds.filter fun f => q f.Epoch)) := by
 have hl' : (feeds.filter fun f => q f.Epoch).length ≤ 1000 := Nat.le_trans (List.length_filter_le _ _) hl; obtain ⟨a1, a2, a3, a4, a5, a6⟩ := z8h feeds hl; obtain ⟨b1, b2, b3, b4, b5, b6⟩ := z8h _ hl'; refine ⟨fun p hp => j3m (Rt.unique (a1 p).1.rt (b1 p).1.rt fun x => ?_) (by rw [(a1 p).2.1, (b1 p).2.1]), by rw [a2, b2], by rw [a3, b3], by rw [a4, b4]; rfl, by rw [a5, b5]; rfl, a6, b6⟩; rw [(a1 p).2.2, (b1 p).2.2, zm7 q feeds hp]
theorem j5y {g : GGraph} {s : MS} {q : GMean_point} {port : Int} {b : List GItem} (h : W g s) (hq : PtM g q) : W g (q6m s q port b) := fun p hp => by
 rw [qt4] at hp
 split at hp
 · rename_i hc; rw [hc.2]; exact hq
 · exact h p hp
theorem j0n {g : GGraph} (hG : VA.Good g) (feeds : List GFeed) (hF : ∀ f ∈ feeds, z16 g f) : W g (q96 feeds) := by
 unfold q96; have : ∀ (l : List GFeed) (s : MS), (∀ f ∈ l, z16 g f) → W g s → W g (l.foldl q6x s) := by
  intro l
  induction l with
  | nil => intro s _ h; exact h
  | cons f l ih =>
   intro s hf h; rw [List.foldl_cons]; refine ih _ (fun x hx => hf x (by simp [hx])) ?_; obtain ⟨f0, f1, f2, f3, f4⟩ := hf f (by simp); refine j5y h ?_; have := zg5 hG (n := f.Node.toNat) (by omega) f2 ⟨f3, f4⟩; rw [Int.toNat_of_nonneg f0] at this; exact this
 exact this feeds s0 hF (fun p hp => absurd rfl hp)
theorem zc9 (e : Int) : ∀ {l : List Int}, l.Pairwise (· < ·) → l = l.filter (fun x => decide (x ≤ e)) ++ l.filter (fun x => decide (e < x))
 | [], _ => rfl
 | a :: l, h => by
  obtain ⟨h1, h2⟩ := List.pairwise_cons.1 h
  by_cases ha : a ≤ e
  · rw [List.filter_cons_of_pos (by simpa using ha), List.filter_cons_of_neg (by simpa using ha), List.cons_append, ← zc9 e h2]
  ·
   have hn : ∀ x ∈ a :: l, ¬ x ≤ e := fun x hx => by
    rcases List.mem_cons.1 hx with rfl | hx
    · exact ha
    · have := h1 x hx; omega
   rw [List.filter_eq_nil_iff.2 (fun x hx => by simpa using hn x hx), List.nil_append, List.filter_eq_self.2 (fun x hx => by have := hn x hx; simp; omega)]
theorem zw6 {g : GGraph} {feeds : List GFeed} {most : Int} (h : Ask g feeds most) (q : GFeed → Bool) : Ask g (feeds.filter q) most := ⟨h.1, h.2.1, h.2.2.1, fun f hf => h.2.2.2 f (List.mem_filter.1 hf).1⟩
theorem zz2 {g : GGraph} {feeds : List GFeed} {most : Int} (ha : Ask g feeds most) (hl : feeds.length ≤ 1000) (epoch : Int) (he : (q79 g most feeds).e = 0) :
  (q79 g most (feeds.filter fun f => decide (f.Epoch ≤ epoch))).e = 0 ∧ ∃ more, (q79 g most feeds).outs = (q79 g most (feeds.filter fun f => decide (f.Epoch ≤ epoch))).outs ++ more ∧ (∀ o ∈ (q79 g most (feeds.filter fun f => decide (f.Epoch ≤ epoch))).outs, o.Epoch ≤ epoch) ∧ ∀ o ∈ more, epoch < o.Epoch := by
 obtain ⟨hG, hm0, hm1, hF⟩ := ha; have h0 := zm2 (fun e => decide (e ≤ epoch)) feeds hl; have hW := j0n hG feeds hF; have hW' := j0n hG (feeds.filter fun f => decide (f.Epoch ≤ epoch)) fun f hf => hF f (List.mem_filter.1 hf).1; have hE : q9w feeds = (q9w feeds).filter (fun x => decide (x ≤ epoch)) ++ (q9w feeds).filter (fun x => decide (epoch < x)) := zc9 epoch (z1s feeds).inc; have hE' : q9w (feeds.filter fun f => decide (f.Epoch ≤ epoch)) = (q9w feeds).filter (fun x => decide (x ≤ epoch)) := zv6 (fun e => decide (e ≤ epoch)) feeds; have h1 : ∀ x ∈ (q9w feeds).filter (fun x => decide (x ≤ epoch)), x ≤ epoch := fun x hx => by simpa using (List.mem_filter.1 hx).2
 have h2 : ∀ x ∈ (q9w feeds).filter (fun x => decide (epoch < x)), epoch < x := fun x hx => by simpa using (List.mem_filter.1 hx).2
 generalize (q9w feeds).filter (fun x => decide (x ≤ epoch)) = A at *
 generalize (q9w feeds).filter (fun x => decide (epoch < x)) = B at *
 unfold q79 at he ⊢; rw [hE', hE]; rw [hE] at he; rw [List.foldl_append] at he ⊢; have hz : (A.foldl (q6a g most) (q96 feeds)).e = 0 := Classical.byContradiction fun hx => (qm6 hG (most := most) B _ (qm6 hG (most := most) A _ hW).1).2.dead hx he; obtain ⟨w1, w2, hR⟩ := zh0 hG (most := most) (Int.le_refl 0) A _ _ (fun e hx => by simpa using h1 e hx) ⟨hW, hW', h0⟩ hz; have hk := (qm6 hG (most := most) A _ hW').2; obtain ⟨m1, a1, a2⟩ := hk.outs; obtain ⟨m2, b1, b2⟩ := (qm6 hG (most := most) B _ w1).2.outs; refine ⟨hR.e', m2, by rw [b1, hR.outs]; rfl, fun o ho => ?_, fun o ho => h2 _ (b2 o ho)⟩; rw [a1, (z8h _ (Nat.le_trans (List.length_filter_le _ _) hl)).2.2.2.2.1] at ho; exact h1 _ (a2 o (by simpa using ho))
end MN
end Go.Proofs.YteibkihbdgphnaaGreat
