/-
  The law in plain words: what its plain function gives is true. No condition beyond those that each theorem names.
-/
import Derived.Test.YtaiccbgcgcfhfaaGreatWalkWL0
import Derived.Test.YtaiccbgcgcfhfaaGreatP12s
set_option linter.unusedSimpArgs false
set_option linter.unusedVariables false
set_option linter.unusedSectionVars false
open Int renaming le_refl -> Xa
namespace Go.Proofs.YtaiccbgcgcfhfaaGreat
open Go Go.RowKit TS VA BG
namespace MN
open Classical
def W (g : GGraph) (s : MS) : Prop := ∀ p, s.ins p ≠ no2 -> PtM g p
theorem q9a (s : MS) (q : GMean_point) (port : Int) (b : List GItem) (p : GMean_point) : (q3r s q port b).ins p = if b ≠ [] /\ p = q then q7h (s.ins q) port b else s.ins p := by
 unfold q3r
 by_cases hb : b = []
 . rw [if_pos hb, if_neg (fun h => h.1 hb)]
 .
  rw [if_neg hb]
  show upd s.ins q _ p = _
  unfold upd
  by_cases hp : p = q
  . rw [if_pos hp, if_pos ⟨hb, hp⟩]
  . rw [if_neg hp, if_neg (fun h => hp h.2)]
theorem qd0 (s : MS) (q : GMean_point) (port : Int) (b : List GItem) : (q3r s q port b).past = s.past /\ (q3r s q port b).bags = s.bags /\ (q3r s q port b).work = s.work /\ (q3r s q port b).outs = s.outs /\ (q3r s q port b).e = s.e := by
 unfold q3r; split <;> exact ⟨rfl, rfl, rfl, rfl, rfl⟩
theorem zm3 (t : GTime) : (leT t).C.a0 = t.C.a0 := by
 unfold leT
 split
 . rfl
 . split <;> rfl
theorem zk6 {t : GTime} (h : t.D ≠ 1) : (nxT t).C.a0 = t.C.a0 := by
 unfold nxT; rw [if_neg h]
 split
 . rfl
 . split <;> rfl
theorem zn1 {g : GGraph} (hG : VA.Good g) {n : Nat} (hn : n < g.Nodes.length) {t : GTime} (ht : PtM g ⟨n, t⟩) (hu : (q07 g n t).2 = true) : (q07 g n t).1.C.a0 = t.C.a0 := by
 obtain ⟨m, hm, h1, h2, h3⟩ := ht; obtain rfl : n = m := by have : (n : Int) = m := h1; omega
 dsimp only at h2 h3
 by_cases c10 : (nd g n).Kind = 10
 .
  rw [qi8 c10] at hu ⊢
  split
  . rfl
  . rename_i c; rw [if_neg c] at hu; cases hu
 by_cases c11 : (nd g n).Kind = 11
 .
  rw [qi7 c11] at hu ⊢
  split
  . exact zm3 t
  . rename_i c; rw [if_neg c] at hu; cases hu
 by_cases c12 : (nd g n).Kind = 12
 .
  rw [qi6 c12] at hu ⊢
  split
  .
   show (nxT t).C.a0 = _
   obtain ⟨k1, k2, k3⟩ := q44 hG hn; have hd := (z0o hG k1 k2).2.2 (k3 (by omega)); have : lev g n = dep g (nd g n).Scope := by unfold lev qb0; rw [if_neg c10]
   exact zk6 (by omega)
  . rename_i c; rw [if_neg c] at hu; cases hu
 . rw [qo3 c10 c11 c12]
structure Keep (g : GGraph) (e : Int) (s s' : MS) : Prop where
 ins : ∀ p : GMean_point, p.time.C.a0 ≠ e -> s'.ins p = s.ins p
 work : s.work <= s'.work
 outs : ∃ more, s'.outs = s.outs ++ more /\ ∀ o ∈ more, o.Epoch = e
 dead : s.e ≠ 0 -> s'.e ≠ 0
 past : (∀ n, n < g.Nodes.length -> (nd g n).Kind ≠ 14) -> s'.past = s.past /\ s'.bags = s.bags
theorem Keep.refl (g : GGraph) (e : Int) (s : MS) : Keep g e s s := ⟨fun _ _ => rfl, Xa _, ⟨[], by simp, by simp⟩, fun h => h, fun _ => ⟨rfl, rfl⟩⟩
theorem Keep.trans {g : GGraph} {e : Int} {a b c : MS} (h : Keep g e a b) (k : Keep g e b c) : Keep g e a c := by
 obtain ⟨m1, h1, h2⟩ := h.outs; obtain ⟨m2, k1, k2⟩ := k.outs; refine ⟨fun p hp => (k.ins p hp).trans (h.ins p hp), Int.le_trans h.work k.work, ⟨m1 ++ m2, by rw [k1, h1, List.append_assoc], fun o ho => ?_⟩, fun hd => k.dead (h.dead hd), fun hn => ⟨(k.past hn).1.trans (h.past hn).1, (k.past hn).2.trans (h.past hn).2⟩⟩; rcases List.mem_append.1 ho with h | h
 . exact h2 o h
 . exact k2 o h
section
variable {g : GGraph} (hG : VA.Good g)
include hG
theorem zb8 {n : Nat} (hn : n < g.Nodes.length) {t : GTime} (ht : PtM g ⟨n, t⟩) (hu : (q07 g n t).2 = true) {out : List GItem} (ho : Fn out) : ∀ (es : List GEdge) (s : MS), (∀ e ∈ es, e ∈ g.Edges) -> W g s ->
  W g (q2b n (q07 g n t).1 out es s) /\ Keep g t.C.a0 s (q2b n (q07 g n t).1 out es s) /\ (q2b n (q07 g n t).1 out es s).e = s.e
 | [], s, _, hW => ⟨hW, Keep.refl _ _ _, rfl⟩
 | e :: es, s, he, hW => by
  have h1 : W g (q1o n (q07 g n t).1 out s e) /\ Keep g t.C.a0 s (q1o n (q07 g n t).1 out s e) /\ (q1o n (q07 g n t).1 out s e).e = s.e := by
   unfold q1o
   by_cases hf : e.From = n
   .
    rw [if_pos hf]; obtain ⟨r1, r2, r3, r4, r5⟩ := qd0 s ⟨e.To, (q07 g n t).1⟩ e.Port out; obtain ⟨q1, _⟩ := za2 hG hn ht hu (he e (by simp)) hf; have hep := zn1 hG hn ht hu; have := ho.len; refine ⟨fun p hp => ?_, ⟨fun p hp => ?_, by dsimp only; omega, ⟨[], by dsimp only; rw [r4]; simp, by simp⟩, by dsimp only; rw [r5]; exact fun h => h, fun _ => ⟨r1, r2⟩⟩, r5⟩
    .
     dsimp only at hp; rw [q9a] at hp
     split at hp
     . rename_i hc; rw [hc.2]; exact q1
     . exact hW p hp
    . dsimp only; rw [q9a, if_neg]; rintro ⟨_, rfl⟩; exact hp hep
   . rw [if_neg hf]; exact ⟨hW, Keep.refl _ _ _, rfl⟩
  obtain ⟨h2, h3, h4⟩ := zb8 hn ht hu ho es (q1o n (q07 g n t).1 out s e) (fun x hx => he x (by simp [hx])) h1.1; exact ⟨h2, h1.2.1.trans h3, h4.trans h1.2.2⟩
omit hG in
theorem j1o {n : Nat} (hn : n < g.Nodes.length) {t : GTime} (s : MS) (hW : W g s) : W g (takeA g n t s) /\ Keep g t.C.a0 s (takeA g n t s) /\ (takeA g n t s).e = s.e := by
 have hu : ∀ p, upd s.ins ⟨n, t⟩ no2 p ≠ no2 -> PtM g p := fun p hp => by
  unfold upd at hp
  split at hp
  . exact absurd rfl hp
  . exact hW p hp
 have hk : ∀ p : GMean_point, p.time.C.a0 ≠ t.C.a0 -> upd s.ins ⟨n, t⟩ no2 p = s.ins p := fun p hp => by
  unfold upd; rw [if_neg]; rintro rfl; exact hp rfl
 unfold takeA
 by_cases h14 : (nd g n).Kind = 14
 . rw [if_pos h14]; exact ⟨hu, ⟨hk, Xa _, ⟨[], by simp, by simp⟩, fun h => h, fun h => absurd h14 (h n hn)⟩, rfl⟩
 . rw [if_neg h14]; exact ⟨hu, ⟨hk, Xa _, ⟨[], by simp, by simp⟩, fun h => h, fun _ => ⟨rfl, rfl⟩⟩, rfl⟩
theorem q7u (most : Int) {n : Nat} (hn : n < g.Nodes.length) {t : GTime} {e : Int} (ht : ok t -> t.C.a0 = e) {s : MS} (hW : W g s) : W g (q0t g most s n t).2 /\ Keep g e s (q0t g most s n t).2 := by
 unfold q0t
 by_cases h : s.ins ⟨n, t⟩ = no2 \/ s.e ≠ 0
 . rw [if_pos h]; exact ⟨hW, Keep.refl _ _ _⟩
 rw [if_neg h]; have hne : s.ins ⟨n, t⟩ ≠ no2 := fun e => h (.inl e); have hpt := hW _ hne; have hte : t.C.a0 = e := ht (by obtain ⟨_, _, _, h2, _⟩ := hpt; exact h2); subst hte; obtain ⟨w1, k1, e1⟩ := j1o hn (t := t) s hW
 generalize takeA g n t s = s2 at *
 generalize (if (nd g n).Kind = 14 then j00 s2 n t else (s.ins ⟨n, t⟩).a1) = b
 unfold qf7
 cases ha : q6i (nd g n) (s.ins ⟨n, t⟩).a0 b with
 | none =>
  dsimp only; exact ⟨w1, k1.trans ⟨fun _ _ => rfl, Xa _, ⟨[], by simp, by simp⟩, fun _ => by dsimp only; decide, fun _ => ⟨rfl, rfl⟩⟩⟩
 | some out =>
  dsimp only; obtain ⟨ho, _⟩ := q7v ha
  by_cases h15 : (nd g n).Kind = 15
  . rw [if_pos h15]; refine ⟨w1, k1.trans ⟨fun _ _ => rfl, Xa _, ⟨_, rfl, fun o ho => ?_⟩, fun h => h, fun _ => ⟨rfl, rfl⟩⟩⟩; obtain ⟨r, _, rfl⟩ := List.mem_map.1 ho; rfl
  rw [if_neg h15]
  by_cases hx : (q07 g n t).2 = false \/ out = []
  . rw [if_pos hx]; exact ⟨w1, k1⟩
  rw [if_neg hx]; have hu : (q07 g n t).2 = true := by simpa using fun e => hx (.inl e)
  obtain ⟨w2, k2, e2⟩ := zb8 hG hn hpt hu ho g.Edges s2 (fun _ h => h) w1; dsimp only
  split
  . exact ⟨w2, k1.trans (k2.trans ⟨fun _ _ => rfl, Xa _, ⟨[], by simp, by simp⟩, fun _ => by dsimp only; decide, fun _ => ⟨rfl, rfl⟩⟩)⟩
  . exact ⟨w2, k1.trans k2⟩
end
theorem j89 {T : Int -> Prop} {t : GTime} (h : ok t -> T t.C.a0) : ok (q3h t) -> T (q3h t).C.a0 /\ 2 <= (q3h t).D := by
 unfold q3h
 split
 . rename_i c; intro _; have := c.1.1; exact ⟨h c.1, by show 2 <= t.D + 1; omega⟩
 . intro h; exact absurd h.1 (by decide)
theorem j7w {T : Int -> Prop} {t : GTime} (h : ok t -> T t.C.a0) : ok (q6e t) -> T (q6e t).C.a0 := by
 unfold q6e
 split
 .
  rename_i c; intro _
  rw [zm3]; exact h c.1
 . intro h; exact absurd h.1 (by decide)
theorem j9j {T : Int -> Prop} {t : GTime} (h : ok t -> T t.C.a0 /\ 2 <= t.D) : ok (q5w t) -> T (q5w t).C.a0 /\ 2 <= (q5w t).D := by
 unfold q5w
 split
 .
  rename_i c; intro _
  have h2 := h c.1; rw [zk6 (by omega), z2w c.1]; exact h2
 . intro h; exact absurd h.1 (by decide)
theorem ji5 {T : Int -> Prop} {g : GGraph} {n : Nat} {t : GTime} (h : ok t -> T t.C.a0) : ok (atA g n t) -> T (atA g n t).C.a0 := by
 unfold atA
 split
 . exact j7w h
 . exact h
section
variable {g : GGraph} {most : Int} {T : Int -> Prop} {P : MS -> Prop} (hev : ∀ s n t, n < g.Nodes.length -> (ok t -> T t.C.a0) -> P s -> P (q0t g most s n t).2)
include hev
omit hev in
theorem zl6 {rnd : GTime -> MS -> Bool × MS} (hr : ∀ u s, (ok u -> T u.C.a0) -> P s -> P (rnd u s).2) : ∀ (k : Nat) (u : GTime) (s : MS), (ok u -> T u.C.a0 /\ 2 <= u.D) -> P s -> P (qv6 rnd k u s)
 | 0, _, _, _, h => h
 | k + 1, u, s, hu, h => by
  unfold qv6; have h1 := hr u s (fun k => (hu k).1) h
  split
  . exact zl6 hr k _ _ (j9j hu) h1
  . exact h1
theorem z4j {self : Nat -> Nat -> Int -> GTime -> MS -> Bool × MS} (hs : ∀ a b sc u s, b <= g.Nodes.length -> (ok u -> T u.C.a0) -> P s -> P (self a b sc u s).2) {to : Nat} (hto : to <= g.Nodes.length) {sc : Int} {t : GTime} (ht : ok t -> T t.C.a0) :
  ∀ (f : Nat) (ar : Bool) (n : Nat) (s : MS), P s -> P (q84 g most self to sc t f ar n s).2
 | 0, _, _, _, h => h
 | f + 1, ar, n, s, h => by
  unfold q84
  split
  .
   rename_i hn
   split
   . have he := (qa7 g (nd g n).Scope to (to - n) n (by omega)).2.1; exact z4j hs hto ht f _ _ _ (zl6 (fun u s hu hp => hs _ _ _ u s (by omega) hu hp) _ _ _ (j89 ht) h)
   . exact z4j hs hto ht f _ _ _ (hev s n _ (by omega) (ji5 ht) h)
  . exact h
theorem zc2 : ∀ (d : Nat) (a b : Nat) (sc : Int) (t : GTime) (s : MS), b <= g.Nodes.length -> (ok t -> T t.C.a0) -> P s -> P (q36 g most d a b sc t s).2
 | 0, _, _, _, _, _, _, _, h => h
 | d + 1, a, b, sc, t, s, hb, ht, h => by
  unfold q36; exact z4j hev (fun a b sc u s hb hu hp => zc2 d a b sc u s hb hu hp) hb ht _ _ _ _ h
end
theorem j2y {g : GGraph} {most : Int} {s : MS} (h : s.e ≠ 0) (n : Nat) (t : GTime) : (q0t g most s n t).2.e ≠ 0 := by
 unfold q0t; rw [if_pos (.inr h)]; exact h
section
variable {g : GGraph} {most : Int} {T : Int -> Prop} {G : MS -> MS -> Prop}
 (hev : ∀ s s' n t, n < g.Nodes.length -> (ok t -> T t.C.a0) -> G s s' -> (q0t g most s n t).2.e = 0 -> G (q0t g most s n t).2 (q0t g most s' n t).2 /\ (q0t g most s n t).1 = (q0t g most s' n t).1)
include hev
end
end MN
end Go.Proofs.YtaiccbgcgcfhfaaGreat
