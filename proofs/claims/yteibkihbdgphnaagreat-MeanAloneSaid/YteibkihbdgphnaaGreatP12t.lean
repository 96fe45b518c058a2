/-
  The law in plain words: what its plain function gives is true. No condition beyond those that each theorem names.
-/
import Derived.Test.YteibkihbdgphnaaGreatWalkMA0
import Derived.Test.YteibkihbdgphnaaGreatP12s
set_option linter.unusedSimpArgs false
set_option linter.unusedVariables false
set_option linter.unusedSectionVars false
namespace Go.Proofs.YteibkihbdgphnaaGreat
open Go Go.RowKit TS VA BG
namespace MN
open Classical
def W (g : GGraph) (s : MS) : Prop := ∀ p, s.ins p ≠ no2 → PtM g p
theorem qt6 (s : MS) (q : GMean_point) (port : Int) (b : List GItem) (p : GMean_point) : (q6q s q port b).ins p = if b ≠ [] ∧ p = q then q9n (s.ins q) port b else s.ins p := by
 unfold q6q
 by_cases hb : b = []
 · rw [if_pos hb, if_neg (fun h => h.1 hb)]
 ·
  rw [if_neg hb]
  show upd s.ins q _ p = _
  unfold upd
  by_cases hp : p = q
  · rw [if_pos hp, if_pos ⟨hb, hp⟩]
  · rw [if_neg hp, if_neg (fun h => hp h.2)]
theorem z1v (s : MS) (q : GMean_point) (port : Int) (b : List GItem) : (q6q s q port b).past = s.past ∧ (q6q s q port b).bags = s.bags ∧ (q6q s q port b).work = s.work ∧ (q6q s q port b).outs = s.outs ∧ (q6q s q port b).e = s.e := by
 unfold q6q; split <;> exact ⟨rfl, rfl, rfl, rfl, rfl⟩
theorem j0j (t : GTime) : (leT t).C.a0 = t.C.a0 := by
 unfold leT
 split
 · rfl
 · split <;> rfl
theorem j08 {t : GTime} (h : t.D ≠ 1) : (nxT t).C.a0 = t.C.a0 := by
 unfold nxT; rw [if_neg h]
 split
 · rfl
 · split <;> rfl
theorem zh0 {g : GGraph} (hG : VA.Good g) {n : Nat} (hn : n < g.Nodes.length) {t : GTime} (ht : PtM g ⟨n, t⟩) (hu : (q13 g n t).2 = true) : (q13 g n t).1.C.a0 = t.C.a0 := by
 obtain ⟨m, hm, h1, h2, h3⟩ := ht; obtain rfl : n = m := by have : (n : Int) = m := h1; omega
 dsimp only at h2 h3
 by_cases c10 : (nd g n).Kind = 10
 ·
  rw [z3d c10] at hu ⊢
  split
  · rfl
  · rename_i c; rw [if_neg c] at hu; cases hu
 by_cases c11 : (nd g n).Kind = 11
 ·
  rw [z3c c11] at hu ⊢
  split
  · exact j0j t
  · rename_i c; rw [if_neg c] at hu; cases hu
 by_cases c12 : (nd g n).Kind = 12
 ·
  rw [z3b c12] at hu ⊢
  split
  ·
   show (nxT t).C.a0 = _
   obtain ⟨k1, k2, k3⟩ := qw8 hG hn; have hd := (zi6 hG k1 k2).2.2 (k3 (by omega)); have : lev g n = dep g (nd g n).Scope := by unfold lev qn5; rw [if_neg c10]
   exact j08 (by omega)
  · rename_i c; rw [if_neg c] at hu; cases hu
 · rw [z5k c10 c11 c12]
structure Keep (g : GGraph) (e : Int) (s s' : MS) : Prop where
 ins : ∀ p : GMean_point, p.time.C.a0 ≠ e → s'.ins p = s.ins p
 work : s.work ≤ s'.work
 outs : ∃ more, s'.outs = s.outs ++ more ∧ ∀ o ∈ more, o.Epoch = e
 dead : s.e ≠ 0 → s'.e ≠ 0
 past : (∀ n, n < g.Nodes.length → (nd g n).Kind ≠ 14) → s'.past = s.past ∧ s'.bags = s.bags
theorem Keep.refl (g : GGraph) (e : Int) (s : MS) : Keep g e s s := ⟨fun _ _ => rfl, Int.le_refl _, ⟨[], by simp, by simp⟩, fun h => h, fun _ => ⟨rfl, rfl⟩⟩
theorem Keep.trans {g : GGraph} {e : Int} {a b c : MS} (h : Keep g e a b) (k : Keep g e b c) : Keep g e a c := by
 obtain ⟨m1, h1, h2⟩ := h.outs; obtain ⟨m2, k1, k2⟩ := k.outs; refine ⟨fun p hp => (k.ins p hp).trans (h.ins p hp), Int.le_trans h.work k.work, ⟨m1 ++ m2, by rw [k1, h1, List.append_assoc], fun o ho => ?_⟩, fun hd => k.dead (h.dead hd), fun hn => ⟨(k.past hn).1.trans (h.past hn).1, (k.past hn).2.trans (h.past hn).2⟩⟩; rcases List.mem_append.1 ho with h | h
 · exact h2 o h
 · exact k2 o h
section
variable {g : GGraph} (hG : VA.Good g)
include hG
theorem z92 {n : Nat} (hn : n < g.Nodes.length) {t : GTime} (ht : PtM g ⟨n, t⟩) (hu : (q13 g n t).2 = true) {out : List GItem} (ho : Fn out) : ∀ (es : List GEdge) (s : MS), (∀ e ∈ es, e ∈ g.Edges) → W g s →
  W g (qh2 n (q13 g n t).1 out es s) ∧ Keep g t.C.a0 s (qh2 n (q13 g n t).1 out es s) ∧ (qh2 n (q13 g n t).1 out es s).e = s.e
 | [], s, _, hW => ⟨hW, Keep.refl _ _ _, rfl⟩
 | e :: es, s, he, hW => by
  have h1 : W g (q3u n (q13 g n t).1 out s e) ∧ Keep g t.C.a0 s (q3u n (q13 g n t).1 out s e) ∧ (q3u n (q13 g n t).1 out s e).e = s.e := by
   unfold q3u
   by_cases hf : e.From = n
   ·
    rw [if_pos hf]; obtain ⟨r1, r2, r3, r4, r5⟩ := z1v s ⟨e.To, (q13 g n t).1⟩ e.Port out; obtain ⟨q1, _⟩ := zp9 hG hn ht hu (he e (by simp)) hf; have hep := zh0 hG hn ht hu; have := ho.len; refine ⟨fun p hp => ?_, ⟨fun p hp => ?_, by dsimp only; omega, ⟨[], by dsimp only; rw [r4]; simp, by simp⟩, by dsimp only; rw [r5]; exact fun h => h, fun _ => ⟨r1, r2⟩⟩, r5⟩
    ·
     dsimp only at hp; rw [qt6] at hp
     split at hp
     · rename_i hc; rw [hc.2]; exact q1
     · exact hW p hp
    · dsimp only; rw [qt6, if_neg]; rintro ⟨_, rfl⟩; exact hp hep
   · rw [if_neg hf]; exact ⟨hW, Keep.refl _ _ _, rfl⟩
  obtain ⟨h2, h3, h4⟩ := z92 hn ht hu ho es (q3u n (q13 g n t).1 out s e) (fun x hx => he x (by simp [hx])) h1.1; exact ⟨h2, h1.2.1.trans h3, h4.trans h1.2.2⟩
omit hG in
theorem zy7 {n : Nat} (hn : n < g.Nodes.length) {t : GTime} (s : MS) (hW : W g s) : W g (takeA g n t s) ∧ Keep g t.C.a0 s (takeA g n t s) ∧ (takeA g n t s).e = s.e := by
 have hu : ∀ p, upd s.ins ⟨n, t⟩ no2 p ≠ no2 → PtM g p := fun p hp => by
  unfold upd at hp
  split at hp
  · exact absurd rfl hp
  · exact hW p hp
 have hk : ∀ p : GMean_point, p.time.C.a0 ≠ t.C.a0 → upd s.ins ⟨n, t⟩ no2 p = s.ins p := fun p hp => by
  unfold upd; rw [if_neg]; rintro rfl; exact hp rfl
 unfold takeA
 by_cases h14 : (nd g n).Kind = 14
 · rw [if_pos h14]; exact ⟨hu, ⟨hk, Int.le_refl _, ⟨[], by simp, by simp⟩, fun h => h, fun h => absurd h14 (h n hn)⟩, rfl⟩
 · rw [if_neg h14]; exact ⟨hu, ⟨hk, Int.le_refl _, ⟨[], by simp, by simp⟩, fun h => h, fun _ => ⟨rfl, rfl⟩⟩, rfl⟩
theorem z3h (most : Int) {n : Nat} (hn : n < g.Nodes.length) {t : GTime} {e : Int} (ht : ok t → t.C.a0 = e) {s : MS} (hW : W g s) : W g (q3a g most s n t).2 ∧ Keep g e s (q3a g most s n t).2 := by
 unfold q3a
 by_cases h : s.ins ⟨n, t⟩ = no2 ∨ s.e ≠ 0
 · rw [if_pos h]; exact ⟨hW, Keep.refl _ _ _⟩
 rw [if_neg h]; have hne : s.ins ⟨n, t⟩ ≠ no2 := fun e => h (.inl e); have hpt := hW _ hne; have hte : t.C.a0 = e := ht (by obtain ⟨_, _, _, h2, _⟩ := hpt; exact h2); subst hte; obtain ⟨w1, k1, e1⟩ := zy7 hn (t := t) s hW
 generalize takeA g n t s = s2 at *
 generalize (if (nd g n).Kind = 14 then qu0 s2 n t else (s.ins ⟨n, t⟩).a1) = b
 unfold qt7
 cases ha : qp5 (nd g n) (s.ins ⟨n, t⟩).a0 b with
 | none =>
  dsimp only; exact ⟨w1, k1.trans ⟨fun _ _ => rfl, Int.le_refl _, ⟨[], by simp, by simp⟩, fun _ => by dsimp only; decide, fun _ => ⟨rfl, rfl⟩⟩⟩
 | some out =>
  dsimp only; obtain ⟨ho, _⟩ := j1g ha
  by_cases h15 : (nd g n).Kind = 15
  · rw [if_pos h15]; refine ⟨w1, k1.trans ⟨fun _ _ => rfl, Int.le_refl _, ⟨_, rfl, fun o ho => ?_⟩, fun h => h, fun _ => ⟨rfl, rfl⟩⟩⟩; obtain ⟨r, _, rfl⟩ := List.mem_map.1 ho; rfl
  rw [if_neg h15]
  by_cases hx : (q13 g n t).2 = false ∨ out = []
  · rw [if_pos hx]; exact ⟨w1, k1⟩
  rw [if_neg hx]; have hu : (q13 g n t).2 = true := by simpa using fun e => hx (.inl e)
  obtain ⟨w2, k2, e2⟩ := z92 hG hn hpt hu ho g.Edges s2 (fun _ h => h) w1; dsimp only
  split
  · exact ⟨w2, k1.trans (k2.trans ⟨fun _ _ => rfl, Int.le_refl _, ⟨[], by simp, by simp⟩, fun _ => by dsimp only; decide, fun _ => ⟨rfl, rfl⟩⟩)⟩
  · exact ⟨w2, k1.trans k2⟩
end
theorem zp7 {T : Int → Prop} {t : GTime} (h : ok t → T t.C.a0) : ok (qp3 t) → T (qp3 t).C.a0 ∧ 2 ≤ (qp3 t).D := by
 unfold qp3
 split
 · rename_i c; intro _; have := c.1.1; exact ⟨h c.1, by show 2 ≤ t.D + 1; omega⟩
 · intro h; exact absurd h.1 (by decide)
theorem j5j {T : Int → Prop} {t : GTime} (h : ok t → T t.C.a0) : ok (qy4 t) → T (qy4 t).C.a0 := by
 unfold qy4
 split
 ·
  rename_i c; intro _
  rw [j0j]; exact h c.1
 · intro h; exact absurd h.1 (by decide)
theorem j0f {T : Int → Prop} {t : GTime} (h : ok t → T t.C.a0 ∧ 2 ≤ t.D) : ok (z1j t) → T (z1j t).C.a0 ∧ 2 ≤ (z1j t).D := by
 unfold z1j
 split
 ·
  rename_i c; intro _
  have h2 := h c.1; rw [j08 (by omega), j3y c.1]; exact h2
 · intro h; exact absurd h.1 (by decide)
theorem j7t {T : Int → Prop} {g : GGraph} {n : Nat} {t : GTime} (h : ok t → T t.C.a0) : ok (atA g n t) → T (atA g n t).C.a0 := by
 unfold atA
 split
 · exact j5j h
 · exact h
section
variable {g : GGraph} {most : Int} {T : Int → Prop} {P : MS → Prop} (hev : ∀ s n t, n < g.Nodes.length → (ok t → T t.C.a0) → P s → P (q3a g most s n t).2)
include hev
omit hev in
theorem zf9 {rnd : GTime → MS → Bool × MS} (hr : ∀ u s, (ok u → T u.C.a0) → P s → P (rnd u s).2) : ∀ (k : Nat) (u : GTime) (s : MS), (ok u → T u.C.a0 ∧ 2 ≤ u.D) → P s → P (q98 rnd k u s)
 | 0, _, _, _, h => h
 | k + 1, u, s, hu, h => by
  unfold q98; have h1 := hr u s (fun k => (hu k).1) h
  split
  · exact zf9 hr k _ _ (j0f hu) h1
  · exact h1
theorem z01 {self : Nat → Nat → Int → GTime → MS → Bool × MS} (hs : ∀ a b sc u s, b ≤ g.Nodes.length → (ok u → T u.C.a0) → P s → P (self a b sc u s).2) {to : Nat} (hto : to ≤ g.Nodes.length) {sc : Int} {t : GTime} (ht : ok t → T t.C.a0) :
  ∀ (f : Nat) (ar : Bool) (n : Nat) (s : MS), P s → P (q6u g most self to sc t f ar n s).2
 | 0, _, _, _, h => h
 | f + 1, ar, n, s, h => by
  unfold q6u
  split
  ·
   rename_i hn
   split
   · have he := (qt5 g (nd g n).Scope to (to - n) n (by omega)).2.1; exact z01 hs hto ht f _ _ _ (zf9 (fun u s hu hp => hs _ _ _ u s (by omega) hu hp) _ _ _ (zp7 ht) h)
   · exact z01 hs hto ht f _ _ _ (hev s n _ (by omega) (j7t ht) h)
  · exact h
theorem z2o : ∀ (d : Nat) (a b : Nat) (sc : Int) (t : GTime) (s : MS), b ≤ g.Nodes.length → (ok t → T t.C.a0) → P s → P (q5x g most d a b sc t s).2
 | 0, _, _, _, _, _, _, _, h => h
 | d + 1, a, b, sc, t, s, hb, ht, h => by
  unfold q5x; exact z01 hev (fun a b sc u s hb hu hp => z2o d a b sc u s hb hu hp) hb ht _ _ _ _ h
end
theorem z9r {g : GGraph} {most : Int} {s : MS} (h : s.e ≠ 0) (n : Nat) (t : GTime) : (q3a g most s n t).2.e ≠ 0 := by
 unfold q3a; rw [if_pos (.inr h)]; exact h
theorem zr9 {g : GGraph} {most : Int} (d a b : Nat) (sc : Int) (t : GTime) {s : MS} (hb : b ≤ g.Nodes.length) (h : s.e ≠ 0) : (q5x g most d a b sc t s).2.e ≠ 0 :=
 z2o (T := fun _ => True) (P := fun s => s.e ≠ 0) (fun _ n t _ _ h => z9r h n t) d a b sc t s hb (fun _ => trivial) h
section
variable {g : GGraph} {most : Int} {T : Int → Prop} {G : MS → MS → Prop}
 (hev : ∀ s s' n t, n < g.Nodes.length → (ok t → T t.C.a0) → G s s' → (q3a g most s n t).2.e = 0 → G (q3a g most s n t).2 (q3a g most s' n t).2 ∧ (q3a g most s n t).1 = (q3a g most s' n t).1)
include hev
omit hev in
theorem zf8 {rnd : GTime → MS → Bool × MS} (hr : ∀ u s s', (ok u → T u.C.a0) → G s s' → (rnd u s).2.e = 0 → G (rnd u s).2 (rnd u s').2 ∧ (rnd u s).1 = (rnd u s').1) (hd : ∀ u s, s.e ≠ 0 → (rnd u s).2.e ≠ 0) :
  ∀ (k : Nat) (u : GTime) (s s' : MS), (ok u → T u.C.a0 ∧ 2 ≤ u.D) → G s s' → (q98 rnd k u s).e = 0 → G (q98 rnd k u s) (q98 rnd k u s')
 | 0, _, _, _, _, h, _ => h
 | k + 1, u, s, s', hu, h, he => by
  have hdl : ∀ (k : Nat) (u : GTime) (s : MS), s.e ≠ 0 → (q98 rnd k u s).e ≠ 0 := by
   intro k
   induction k with
   | zero => intro _ _ h; exact h
   | succ k ih => intro u s h; unfold q98; split; exact ih _ _ (hd u s h); exact hd u s h
  unfold q98 at he ⊢; have hz : (rnd u s).2.e = 0 := by
   by_cases hz : (rnd u s).2.e = 0
   · exact hz
   ·
    split at he
    · exact absurd he (hdl _ _ _ hz)
    · exact he
  obtain ⟨h1, h2⟩ := hr u s s' (fun k => (hu k).1) h hz; rw [← h2]
  split
  ·
   rename_i hb
   rw [if_pos hb] at he; exact zf8 hr hd k _ _ _ (j0f hu) h1 he
  · exact h1
theorem z2w {self : Nat → Nat → Int → GTime → MS → Bool × MS} (hs : ∀ a b sc u s s', b ≤ g.Nodes.length → (ok u → T u.C.a0) → G s s' → (self a b sc u s).2.e = 0 → G (self a b sc u s).2 (self a b sc u s').2 ∧ (self a b sc u s).1 = (self a b sc u s').1)
  (hd : ∀ a b sc u s, b ≤ g.Nodes.length → s.e ≠ 0 → (self a b sc u s).2.e ≠ 0) {to : Nat} (hto : to ≤ g.Nodes.length) {sc : Int} {t : GTime} (ht : ok t → T t.C.a0) :
  ∀ (f : Nat) (ar : Bool) (n : Nat) (s s' : MS), G s s' → (q6u g most self to sc t f ar n s).2.e = 0 → G (q6u g most self to sc t f ar n s).2 (q6u g most self to sc t f ar n s').2 ∧ (q6u g most self to sc t f ar n s).1 = (q6u g most self to sc t f ar n s').1
 | 0, _, _, _, _, h, _ => ⟨h, rfl⟩
 | f + 1, ar, n, s, s', h, he => by
  have hdl : ∀ (rnd : GTime → MS → Bool × MS) (_ : ∀ u s, s.e ≠ 0 → (rnd u s).2.e ≠ 0) (k : Nat) (u : GTime) (s : MS), s.e ≠ 0 → (q98 rnd k u s).e ≠ 0 := by
   intro rnd hr k
   induction k with
   | zero => intro _ _ h; exact h
   | succ k ih => intro u s h; unfold q98; split; exact ih _ _ (hr u s h); exact hr u s h
  have hdn : ∀ (f : Nat) (ar : Bool) (n : Nat) (s : MS), s.e ≠ 0 → (q6u g most self to sc t f ar n s).2.e ≠ 0 := fun f ar n s h =>
   z01 (g := g) (most := most) (T := fun _ => True) (P := fun s => s.e ≠ 0) (fun _ n t _ _ h => z9r h n t) (fun a b sc u s hb _ h => hd a b sc u s hb h) hto (fun _ => trivial) f ar n s h
  unfold q6u at he ⊢
  split
  ·
   rename_i hn
   rw [if_pos hn] at he
   split
   ·
    rename_i hsc
    rw [if_pos hsc] at he; have hE := (qt5 g (nd g n).Scope to (to - n) n (by omega)).2.1; have hz : (q98 (self n (qg7 g (nd g n).Scope to (to - n) n) (nd g n).Scope) (bnd g (nd g n).Scope).toNat (qp3 t) s).e = 0 := Classical.byContradiction fun hz => hdn _ _ _ _ hz he; exact z2w hs hd hto ht f _ _ _ _ (zf8 (fun u s s' hu hg hz => hs _ _ _ u s s' (by omega) hu hg hz) (fun u s hx => hd _ _ _ u s (by omega) hx) _ _ _ _ (zp7 ht) h hz) he
   ·
    rename_i hsc
    rw [if_neg hsc] at he; have hz : (q3a g most s n (atA g n t)).2.e = 0 := Classical.byContradiction fun hz => hdn _ _ _ _ hz he; obtain ⟨h1, h2⟩ := hev s s' n _ (by omega) (j7t ht) h hz; rw [← h2]; exact z2w hs hd hto ht f _ _ _ _ h1 he
  · exact ⟨h, rfl⟩
theorem z97 : ∀ (d : Nat) (a b : Nat) (sc : Int) (t : GTime) (s s' : MS), b ≤ g.Nodes.length → (ok t → T t.C.a0) → G s s' → (q5x g most d a b sc t s).2.e = 0 → G (q5x g most d a b sc t s).2 (q5x g most d a b sc t s').2 ∧ (q5x g most d a b sc t s).1 = (q5x g most d a b sc t s').1
 | 0, _, _, _, _, _, _, _, _, h, _ => ⟨h, rfl⟩
 | d + 1, a, b, sc, t, s, s', hb, ht, h, he => by
  unfold q5x at he ⊢; exact z2w hev (fun a b sc u s s' hb hu hg hz => z97 d a b sc u s s' hb hu hg hz) (fun a b sc u s hb h => zr9 d a b sc u hb h) hb ht _ _ _ _ _ h he
end
end MN
end Go.Proofs.YteibkihbdgphnaaGreat
