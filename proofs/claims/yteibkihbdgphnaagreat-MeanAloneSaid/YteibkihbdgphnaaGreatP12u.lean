/-
  The law in plain words: what its plain function gives is true. No condition beyond those that each theorem names.
-/
import Derived.Test.YteibkihbdgphnaaGreatWalkMA0
import Derived.Test.YteibkihbdgphnaaGreatP12t
set_option linter.unusedSimpArgs false
set_option linter.unusedVariables false
set_option linter.unusedSectionVars false
namespace Go.Proofs.YteibkihbdgphnaaGreat
open Go Go.RowKit TS VA BG
namespace MN
open Classical
structure R2 (V : Int → Prop) (d : Int) (pre : List GOut) (s s' : MS) : Prop where
 ins : ∀ p : GMean_point, V p.time.C.a0 → s.ins p = s'.ins p
 past : s.past = s'.past
 bags : s.bags = s'.bags
 work : s.work = s'.work + d
 outs : s.outs = pre ++ s'.outs
 e : s.e = 0
 e' : s'.e = 0
section
variable {g : GGraph} (hG : VA.Good g) {most : Int} {V : Int → Prop} {d : Int} (hd : 0 ≤ d) {pre : List GOut}
theorem zd4 {n : Nat} {u : GTime} (hu : V u.C.a0) {out : List GItem} : ∀ (es : List GEdge) (s s' : MS), R2 V d pre s s' → R2 V d pre (qh2 n u out es s) (qh2 n u out es s')
 | [], _, _, h => h
 | e :: es, s, s', h => by
  refine zd4 hu es (q3u n u out s e) (q3u n u out s' e) ?_; unfold q3u
  by_cases hf : e.From = n
  · rw [if_pos hf, if_pos hf]; obtain ⟨r1, r2, r3, r4, r5⟩ := z1v s ⟨e.To, u⟩ e.Port out; obtain ⟨q1, q2, q3, q4, q5⟩ := z1v s' ⟨e.To, u⟩ e.Port out; refine ⟨fun p hp => ?_, by dsimp only; rw [r1, q1, h.past], by dsimp only; rw [r2, q2, h.bags], by dsimp only; rw [h.work]; omega, by dsimp only; rw [r4, q4, h.outs], by dsimp only; rw [r5, h.e], by dsimp only; rw [q5, h.e']⟩; dsimp only; rw [qt6, qt6, h.ins ⟨e.To, u⟩ hu, h.ins p hp]
  · rw [if_neg hf, if_neg hf]; exact h
theorem j24 {n : Nat} {t : GTime} (ht : V t.C.a0) {s s' : MS} (h : R2 V d pre s s') : R2 V d pre (takeA g n t s) (takeA g n t s') := by
 have hi : ∀ p : GMean_point, V p.time.C.a0 → upd s.ins ⟨n, t⟩ no2 p = upd s'.ins ⟨n, t⟩ no2 p := fun p hp => by
  unfold upd; rw [h.ins p hp]
 unfold takeA
 by_cases h14 : (nd g n).Kind = 14
 · rw [if_pos h14, if_pos h14]; exact ⟨hi, by dsimp only; rw [h.past], by dsimp only; rw [h.bags, h.ins ⟨n, t⟩ ht], h.work, h.outs, h.e, h.e'⟩
 · rw [if_neg h14, if_neg h14]; exact ⟨hi, h.past, h.bags, h.work, h.outs, h.e, h.e'⟩
include hG hd
theorem j3c (s s' : MS) (n : Nat) (t : GTime) (hn : n < g.Nodes.length) (ht : ok t → V t.C.a0) (h : W g s ∧ W g s' ∧ R2 V d pre s s') (he : (q3a g most s n t).2.e = 0) :
  (W g (q3a g most s n t).2 ∧ W g (q3a g most s' n t).2 ∧ R2 V d pre (q3a g most s n t).2 (q3a g most s' n t).2) ∧ (q3a g most s n t).1 = (q3a g most s' n t).1 := by
 obtain ⟨hW, hW', hR⟩ := h; have k1 := (z3h hG most hn (t := t) (e := t.C.a0) (fun _ => rfl) hW).1; have k2 := (z3h hG most hn (t := t) (e := t.C.a0) (fun _ => rfl) hW').1
 suffices hs : R2 V d pre (q3a g most s n t).2 (q3a g most s' n t).2 ∧ (q3a g most s n t).1 = (q3a g most s' n t).1 from ⟨⟨k1, k2, hs.1⟩, hs.2⟩
 clear k1 k2
 by_cases hok : ok t
 case neg =>
  have h1 : s.ins ⟨n, t⟩ = no2 := Classical.byContradiction fun hne => by obtain ⟨_, _, _, h2, _⟩ := hW _ hne; exact hok h2
  have h2 : s'.ins ⟨n, t⟩ = no2 := Classical.byContradiction fun hne => by obtain ⟨_, _, _, h2, _⟩ := hW' _ hne; exact hok h2
  unfold q3a; rw [if_pos (.inl h1), if_pos (.inl h2)]; exact ⟨hR, rfl⟩
 have hv := ht hok; have hin := hR.ins ⟨n, t⟩ hv; unfold q3a at he ⊢
 by_cases hne : s.ins ⟨n, t⟩ = no2
 · rw [if_pos (.inl hne), if_pos (.inl (hin ▸ hne))]; exact ⟨hR, rfl⟩
 have c1 : ¬ (s.ins ⟨n, t⟩ = no2 ∨ s.e ≠ 0) := fun h => h.elim hne (fun h => h hR.e); have c2 : ¬ (s'.ins ⟨n, t⟩ = no2 ∨ s'.e ≠ 0) := fun h => h.elim (fun h => hne (hin.trans h)) (fun h => h hR.e'); rw [if_neg c1] at he ⊢; rw [if_neg c2]; have hT := j24 (g := g) (n := n) hv hR; have hnow : qu0 (takeA g n t s) n t = qu0 (takeA g n t s') n t := by unfold qu0; rw [hT.past, hT.bags]
 rw [hnow, hin] at he ⊢; have hpt := hW _ hne
 generalize takeA g n t s = a at *
 generalize takeA g n t s' = a' at *
 generalize (if (nd g n).Kind = 14 then qu0 a' n t else (s'.ins ⟨n, t⟩).a1) = b at *
 unfold qt7 at he ⊢
 cases ha : qp5 (nd g n) (s'.ins ⟨n, t⟩).a0 b with
 | none => rw [ha] at he; exact absurd he (by show ¬ (9 : Int) = 0; decide)
 | some out =>
  rw [ha] at he; dsimp only at he ⊢
  by_cases h15 : (nd g n).Kind = 15
  · rw [if_pos h15, if_pos h15]; exact ⟨⟨hT.ins, hT.past, hT.bags, hT.work, by dsimp only; rw [hT.outs, List.append_assoc], hT.e, hT.e'⟩, rfl⟩
  rw [if_neg h15] at he ⊢; rw [if_neg h15]
  by_cases hx : (q13 g n t).2 = false ∨ out = []
  · rw [if_pos hx, if_pos hx]; exact ⟨hT, rfl⟩
  rw [if_neg hx] at he ⊢; rw [if_neg hx]; have hu : (q13 g n t).2 = true := by simpa using fun e => hx (.inl e)
  have hep := zh0 hG hn hpt hu; have hS := zd4 (n := n) (u := (q13 g n t).1) (out := out) (by rw [hep]; exact hv) g.Edges _ _ hT; dsimp only at he ⊢; have hm : ¬ most < (qh2 n (q13 g n t).1 out g.Edges a).work := fun hm => by
   rw [if_pos hm] at he; exact absurd he (by show ¬ (9 : Int) = 0; decide)
  rw [if_neg hm, if_neg (by have := hS.work; omega)]; exact ⟨hS, rfl⟩
theorem j14 {s s' : MS} {e : Int} (he : V e) (h : W g s ∧ W g s' ∧ R2 V d pre s s') (hz : (q3o g most s e).e = 0) : W g (q3o g most s e) ∧ W g (q3o g most s' e) ∧ R2 V d pre (q3o g most s e) (q3o g most s' e) :=
 (z97 (g := g) (most := most) (T := V) (G := fun s s' => W g s ∧ W g s' ∧ R2 V d pre s s') (fun s s' n t hn ht h hz => j3c hG hd s s' n t hn ht h hz) 8 0 g.Nodes.length 0 (ep e) s s' (Nat.le_refl _) (fun _ => he) h hz).1
omit hd
theorem z7g {s : MS} (e : Int) (h : W g s) : W g (q3o g most s e) ∧ Keep g e s (q3o g most s e) :=
 z2o (g := g) (most := most) (T := fun x => x = e) (P := fun x => W g x ∧ Keep g e s x) (fun x n t hn ht hx => by
  obtain ⟨k1, k2⟩ := z3h hG most hn ht hx.1; exact ⟨k1, hx.2.trans k2⟩) 8 0 g.Nodes.length 0 (ep e) s (Nat.le_refl _) (fun _ => rfl) ⟨h, Keep.refl _ _ _⟩
structure KeepL (g : GGraph) (es : List Int) (s s' : MS) : Prop where
 ins : ∀ p : GMean_point, p.time.C.a0 ∉ es → s'.ins p = s.ins p
 work : s.work ≤ s'.work
 outs : ∃ more, s'.outs = s.outs ++ more ∧ ∀ o ∈ more, o.Epoch ∈ es
 dead : s.e ≠ 0 → s'.e ≠ 0
 past : (∀ n, n < g.Nodes.length → (nd g n).Kind ≠ 14) → s'.past = s.past ∧ s'.bags = s.bags
theorem qm8 : ∀ (es : List Int) (s : MS), W g s → W g (es.foldl (q3o g most) s) ∧ KeepL g es s (es.foldl (q3o g most) s)
 | [], s, h => ⟨h, fun _ _ => rfl, Int.le_refl _, ⟨[], by simp, by simp⟩, fun h => h, fun _ => ⟨rfl, rfl⟩⟩
 | e :: es, s, h => by
  obtain ⟨k1, k2⟩ := z7g hG (most := most) e h; obtain ⟨k3, k4⟩ := qm8 es _ k1; rw [List.foldl_cons]; obtain ⟨m1, a1, a2⟩ := k2.outs; obtain ⟨m2, b1, b2⟩ := k4.outs; refine ⟨k3, fun p hp => ?_, Int.le_trans k2.work k4.work, ⟨m1 ++ m2, by rw [b1, a1, List.append_assoc], fun o ho => ?_⟩, fun hx => k4.dead (k2.dead hx), fun hn => ⟨(k4.past hn).1.trans (k2.past hn).1, (k4.past hn).2.trans (k2.past hn).2⟩⟩
  · simp only [List.mem_cons, not_or] at hp; exact (k4.ins p hp.2).trans (k2.ins p hp.1)
  ·
   rcases List.mem_append.1 ho with h | h
   · rw [a2 o h]; simp
   · exact List.mem_cons_of_mem _ (b2 o h)
include hd
theorem zh1 : ∀ (es : List Int) (s s' : MS), (∀ e ∈ es, V e) → (W g s ∧ W g s' ∧ R2 V d pre s s') → (es.foldl (q3o g most) s).e = 0 →
  W g (es.foldl (q3o g most) s) ∧ W g (es.foldl (q3o g most) s') ∧ R2 V d pre (es.foldl (q3o g most) s) (es.foldl (q3o g most) s')
 | [], _, _, _, h, _ => h
 | e :: es, s, s', hv, h, hz => by
  rw [List.foldl_cons] at hz; rw [List.foldl_cons, List.foldl_cons]; have k := z7g hG (most := most) e h.1; have hz1 : (q3o g most s e).e = 0 := Classical.byContradiction fun hx => (qm8 hG (most := most) es _ k.1).2.dead hx hz; exact zh1 es _ _ (fun x hx => hv x (by simp [hx])) (j14 hG hd (hv e (by simp)) h hz1) hz
end
theorem zv8 (q : Int → Bool) (feeds : List GFeed) : q6h (feeds.filter fun f => q f.Epoch) = (q6h feeds).filter q := by
 have h1 := qy9 (feeds.filter fun f => q f.Epoch); have h2 := qy9 feeds; refine Once.unique h1 ⟨h2.inc.sublist List.filter_sublist, fun x => ?_⟩; rw [List.mem_filter, h2.mem]; simp only [List.mem_map, List.mem_filter]
 constructor
 · rintro ⟨⟨f, hf, rfl⟩, hq⟩; exact ⟨f, ⟨hf, hq⟩, rfl⟩
 · rintro ⟨f, ⟨hf, hq⟩, rfl⟩; exact ⟨⟨f, hf, rfl⟩, hq⟩
theorem zm9 (q : Int → Bool) (feeds : List GFeed) {p : GMean_point} (hp : q p.time.C.a0 = true) (x : GRec) : cntF (feeds.filter fun f => q f.Epoch) p x = cntF feeds p x := by
 unfold cntF; rw [List.filter_filter]
 congr 2
 refine List.filter_congr fun f _ => ?_; rw [Bool.eq_iff_iff]; simp only [Bool.and_eq_true, decide_eq_true_eq]
 constructor
 · exact fun h => h.1
 · rintro ⟨h1, h2⟩; refine ⟨⟨h1, h2⟩, ?_⟩; rw [← h1] at hp; exact hp
theorem zm4 (q : Int → Bool) (feeds : List GFeed) (hl : feeds.length ≤ 1000) : R2 (fun e => q e = true) 0 [] (q5s feeds) (q5s (feeds.filter fun f => q f.Epoch)) := by
 have hl' : (feeds.filter fun f => q f.Epoch).length ≤ 1000 := Nat.le_trans (List.length_filter_le _ _) hl; obtain ⟨a1, a2, a3, a4, a5, a6⟩ := z4c feeds hl; obtain ⟨b1, b2, b3, b4, b5, b6⟩ := z4c _ hl'; refine ⟨fun p hp => j3n (Rt.unique (a1 p).1.rt (b1 p).1.rt fun x => ?_) (by rw [(a1 p).2.1, (b1 p).2.1]), by rw [a2, b2], by rw [a3, b3], by rw [a4, b4]; rfl, by rw [a5, b5]; rfl, a6, b6⟩; rw [(a1 p).2.2, (b1 p).2.2, zm9 q feeds hp]
theorem j5y {g : GGraph} {s : MS} {q : GMean_point} {port : Int} {b : List GItem} (h : W g s) (hq : PtM g q) : W g (q6q s q port b) := fun p hp => by
 rw [qt6] at hp
 split at hp
 · rename_i hc; rw [hc.2]; exact hq
 · exact h p hp
theorem j0p {g : GGraph} (hG : VA.Good g) (feeds : List GFeed) (hF : ∀ f ∈ feeds, z18 g f) : W g (q5s feeds) := by
 unfold q5s; have : ∀ (l : List GFeed) (s : MS), (∀ f ∈ l, z18 g f) → W g s → W g (l.foldl q71 s) := by
  intro l
  induction l with
  | nil => intro s _ h; exact h
  | cons f l ih =>
   intro s hf h; rw [List.foldl_cons]; refine ih _ (fun x hx => hf x (by simp [hx])) ?_; obtain ⟨f0, f1, f2, f3, f4⟩ := hf f (by simp); refine j5y h ?_; have := zg6 hG (n := f.Node.toNat) (by omega) f2 ⟨f3, f4⟩; rw [Int.toNat_of_nonneg f0] at this; exact this
 exact this feeds s0 hF (fun p hp => absurd rfl hp)
theorem zd0 (e : Int) : ∀ {l : List Int}, l.Pairwise (· < ·) → l = l.filter (fun x => decide (x ≤ e)) ++ l.filter (fun x => decide (e < x))
 | [], _ => rfl
 | a :: l, h => by
  obtain ⟨h1, h2⟩ := List.pairwise_cons.1 h
  by_cases ha : a ≤ e
  · rw [List.filter_cons_of_pos (by simpa using ha), List.filter_cons_of_neg (by simpa using ha), List.cons_append, ← zd0 e h2]
  ·
   have hn : ∀ x ∈ a :: l, ¬ x ≤ e := fun x hx => by
    rcases List.mem_cons.1 hx with rfl | hx
    · exact ha
    · have := h1 x hx; omega
   rw [List.filter_eq_nil_iff.2 (fun x hx => by simpa using hn x hx), List.nil_append, List.filter_eq_self.2 (fun x hx => by have := hn x hx; simp; omega)]
theorem zc9 (e : Int) : ∀ {l : List Int}, l.Pairwise (· < ·) → l = l.filter (fun x => decide (x < e)) ++ l.filter (fun x => decide (e ≤ x))
 | [], _ => rfl
 | a :: l, h => by
  obtain ⟨h1, h2⟩ := List.pairwise_cons.1 h
  by_cases ha : a < e
  · rw [List.filter_cons_of_pos (by simpa using ha), List.filter_cons_of_neg (by simpa using ha), List.cons_append, ← zc9 e h2]
  ·
   have hn : ∀ x ∈ a :: l, ¬ x < e := fun x hx => by
    rcases List.mem_cons.1 hx with rfl | hx
    · exact ha
    · have := h1 x hx; omega
   rw [List.filter_eq_nil_iff.2 (fun x hx => by simpa using hn x hx), List.nil_append, List.filter_eq_self.2 (fun x hx => by have := hn x hx; simp; omega)]
theorem zw8 {g : GGraph} {feeds : List GFeed} {most : Int} (h : Ask g feeds most) (q : GFeed → Bool) : Ask g (feeds.filter q) most := ⟨h.1, h.2.1, h.2.2.1, fun f hf => h.2.2.2 f (List.mem_filter.1 hf).1⟩
theorem zz5 {g : GGraph} {feeds : List GFeed} {most : Int} (ha : Ask g feeds most) (hl : feeds.length ≤ 1000) (epoch : Int) (he : (q78 g most feeds).e = 0) (h14 : ∀ n, n < g.Nodes.length → (nd g n).Kind ≠ 14) :
  (q78 g most (feeds.filter fun f => decide (f.Epoch = epoch))).e = 0 ∧ ∃ pre more, (q78 g most feeds).outs = pre ++ (q78 g most (feeds.filter fun f => decide (f.Epoch = epoch))).outs ++ more ∧ (∀ o ∈ (q78 g most (feeds.filter fun f => decide (f.Epoch = epoch))).outs, o.Epoch = epoch) ∧ (∀ o ∈ pre, o.Epoch ≠ epoch) ∧ ∀ o ∈ more, o.Epoch ≠ epoch := by
 obtain ⟨hG, hm0, hm1, hF⟩ := ha; have h0 := zm4 (fun e => decide (e = epoch)) feeds hl; have hW := j0p hG feeds hF; have hW' := j0p hG (feeds.filter fun f => decide (f.Epoch = epoch)) fun f hf => hF f (List.mem_filter.1 hf).1; have hE : q6h feeds = (q6h feeds).filter (fun x => decide (x < epoch)) ++ ((q6h feeds).filter (fun x => decide (x = epoch)) ++ (q6h feeds).filter (fun x => decide (epoch < x))) := by
  have e1 := zc9 epoch (qy9 feeds).inc; have e2 := zd0 epoch (l := (q6h feeds).filter (fun x => decide (epoch ≤ x))) ((qy9 feeds).inc.sublist List.filter_sublist); rw [List.filter_filter, List.filter_filter] at e2; have e3 : (q6h feeds).filter (fun x => decide (x ≤ epoch) && decide (epoch ≤ x)) = (q6h feeds).filter (fun x => decide (x = epoch)) := List.filter_congr fun x _ => by rw [Bool.eq_iff_iff]; simp; omega
  have e4 : (q6h feeds).filter (fun x => decide (epoch < x) && decide (epoch ≤ x)) = (q6h feeds).filter (fun x => decide (epoch < x)) := List.filter_congr fun x _ => by rw [Bool.eq_iff_iff]; simp; omega
  rw [e3, e4] at e2; rw [← e2]; exact e1
 have hE' : q6h (feeds.filter fun f => decide (f.Epoch = epoch)) = (q6h feeds).filter (fun x => decide (x = epoch)) := zv8 (fun e => decide (e = epoch)) feeds; have h1 : ∀ x ∈ (q6h feeds).filter (fun x => decide (x < epoch)), x < epoch := fun x hx => by simpa using (List.mem_filter.1 hx).2
 have h2 : ∀ x ∈ (q6h feeds).filter (fun x => decide (x = epoch)), x = epoch := fun x hx => by simpa using (List.mem_filter.1 hx).2
 have h3 : ∀ x ∈ (q6h feeds).filter (fun x => decide (epoch < x)), epoch < x := fun x hx => by simpa using (List.mem_filter.1 hx).2
 generalize (q6h feeds).filter (fun x => decide (x < epoch)) = A at *
 generalize (q6h feeds).filter (fun x => decide (x = epoch)) = M at *
 generalize (q6h feeds).filter (fun x => decide (epoch < x)) = B at *
 unfold q78 at he ⊢; rw [hE', hE]; rw [hE] at he; rw [List.foldl_append, List.foldl_append] at he ⊢; obtain ⟨wA, kA⟩ := qm8 hG (most := most) A _ hW; obtain ⟨wM, kM⟩ := qm8 hG (most := most) M _ wA; obtain ⟨wB, kB⟩ := qm8 hG (most := most) B _ wM; have hzM : (M.foldl (q3o g most) (A.foldl (q3o g most) (q5s feeds))).e = 0 := Classical.byContradiction fun hx => kB.dead hx he; have hzA : (A.foldl (q3o g most) (q5s feeds)).e = 0 := Classical.byContradiction fun hx => kM.dead hx hzM; obtain ⟨i1, i2, i3, i4, i5, i6⟩ := z4c feeds hl; have hRA : R2 (fun e => decide (e = epoch) = true) (A.foldl (q3o g most) (q5s feeds)).work (A.foldl (q3o g most) (q5s feeds)).outs (A.foldl (q3o g most) (q5s feeds)) (q5s (feeds.filter fun f => decide (f.Epoch = epoch))) := by
  refine ⟨fun p hp => ?_, (kA.past h14).1.trans h0.past, (kA.past h14).2.trans h0.bags, ?_, ?_, hzA, h0.e'⟩
  ·
   have hp' : p.time.C.a0 = epoch := by simpa using hp
   rw [kA.ins p (fun hx => by have := h1 _ hx; omega)]; exact h0.ins p hp
  · have := h0.work; omega
  · have := h0.outs; rw [i5] at this; rw [show (q5s (feeds.filter fun f => decide (f.Epoch = epoch))).outs = [] by simpa using this.symm, List.append_nil]
 have hd : 0 ≤ (A.foldl (q3o g most) (q5s feeds)).work := by have := kA.work; omega
 obtain ⟨_, w2, hR⟩ := zh1 hG (most := most) hd M _ _ (fun e hx => by simpa using h2 e hx) ⟨wA, hW', hRA⟩ hzM; obtain ⟨m1, a1, a2⟩ := kA.outs; obtain ⟨m2, b1, b2⟩ := kB.outs; obtain ⟨m3, c1, c2⟩ := (qm8 hG (most := most) M _ hW').2.outs; refine ⟨hR.e', (A.foldl (q3o g most) (q5s feeds)).outs, m2, by rw [b1, hR.outs], fun o ho => ?_, fun o ho => ?_, fun o ho => by have := h3 _ (b2 o ho); omega⟩
 · rw [c1, (z4c _ (Nat.le_trans (List.length_filter_le _ _) hl)).2.2.2.2.1] at ho; exact h2 _ (c2 o (by simpa using ho))
 · rw [a1, i5] at ho; have := h1 _ (a2 o (by simpa using ho)); omega
end MN
end Go.Proofs.YteibkihbdgphnaaGreat
