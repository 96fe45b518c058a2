/-
  The law in plain words: what its plain function gives is true. No condition beyond those that each theorem names.
-/
import Derived.Test.YteibkihbdgphnaaGreatWalkMP0
import Derived.Test.YteibkihbdgphnaaGreatP12s
set_option linter.unusedSimpArgs false
set_option linter.unusedVariables false
set_option linter.unusedSectionVars false
open Int renaming le_refl -> Xa
namespace Go.Proofs.YteibkihbdgphnaaGreat
open Go Go.RowKit TS VA BG
namespace MN
open Classical
def W (g : GGraph) (s : MS) : Prop := ∀ p, s.ins p ≠ no2 -> PtM g p
theorem qw8 (s : MS) (q : GMean_point) (port : Int) (b : List GItem) (p : GMean_point) : (q4h s q port b).ins p = if b ≠ [] /\ p = q then q7o (s.ins q) port b else s.ins p := by
 unfold q4h
 by_cases hb : b = []
 . rw [if_pos hb, if_neg (fun h => h.1 hb)]
 .
  rw [if_neg hb]
  show upd s.ins q _ p = _
  unfold upd
  by_cases hp : p = q
  . rw [if_pos hp, if_pos ⟨hb, hp⟩]
  . rw [if_neg hp, if_neg (fun h => hp h.2)]
theorem qz6 (s : MS) (q : GMean_point) (port : Int) (b : List GItem) : (q4h s q port b).past = s.past /\ (q4h s q port b).bags = s.bags /\ (q4h s q port b).work = s.work /\ (q4h s q port b).outs = s.outs /\ (q4h s q port b).e = s.e := by
 unfold q4h; split <;> exact ⟨rfl, rfl, rfl, rfl, rfl⟩
theorem j8z (t : GTime) : (leT t).C.a0 = t.C.a0 := by
 unfold leT
 split
 . rfl
 . split <;> rfl
theorem j8p {t : GTime} (h : t.D ≠ 1) : (nxT t).C.a0 = t.C.a0 := by
 unfold nxT; rw [if_neg h]
 split
 . rfl
 . split <;> rfl
theorem j4n {g : GGraph} (hG : VA.Good g) {n : Nat} (hn : n < g.Nodes.length) {t : GTime} (ht : PtM g ⟨n, t⟩) (hu : (q0n g n t).2 = true) : (q0n g n t).1.C.a0 = t.C.a0 := by
 obtain ⟨m, hm, h1, h2, h3⟩ := ht; obtain rfl : n = m := by have : (n : Int) = m := h1; omega
 dsimp only at h2 h3
 by_cases c10 : (nd g n).Kind = 10
 .
  rw [qw4 c10] at hu ⊢
  split
  . rfl
  . rename_i c; rw [if_neg c] at hu; cases hu
 by_cases c11 : (nd g n).Kind = 11
 .
  rw [qw3 c11] at hu ⊢
  split
  . exact j8z t
  . rename_i c; rw [if_neg c] at hu; cases hu
 by_cases c12 : (nd g n).Kind = 12
 .
  rw [qw2 c12] at hu ⊢
  split
  .
   show (nxT t).C.a0 = _
   obtain ⟨k1, k2, k3⟩ := q58 hG hn; have hd := (z2m hG k1 k2).2.2 (k3 (by omega)); have : lev g n = dep g (nd g n).Scope := by unfold lev qf7; rw [if_neg c10]
   exact j8p (by omega)
  . rename_i c; rw [if_neg c] at hu; cases hu
 . rw [z0k c10 c11 c12]
structure Keep (g : GGraph) (e : Int) (s s' : MS) : Prop where
 ins : ∀ p : GMean_point, p.time.C.a0 ≠ e -> s'.ins p = s.ins p
 work : s.work <= s'.work
 outs : ∃ more, s'.outs = s.outs ++ more /\ ∀ o ∈ more, o.Epoch = e
 dead : s.e ≠ 0 -> s'.e ≠ 0
 past : (∀ n, n < g.Nodes.length -> (nd g n).Kind ≠ 14) -> s'.past = s.past /\ s'.bags = s.bags
theorem Keep.refl (g : GGraph) (e : Int) (s : MS) : Keep g e s s := ⟨fun _ _ => rfl, Xa _, ⟨[], by simp, by simp⟩, fun h => h, fun _ => ⟨rfl, rfl⟩⟩
theorem Keep.trans {g : GGraph} {e : Int} {a b c : MS} (h : Keep g e a b) (k : Keep g e b c) : Keep g e a c := by
 obtain ⟨m1, h1, h2⟩ := h.outs; obtain ⟨m2, k1, k2⟩ := k.outs; refine ⟨fun p hp => (k.ins p hp).trans (h.ins p hp), Int.le_trans h.work k.work, ⟨m1 ++ m2, by rw [k1, h1, List.append_assoc], fun o ho => ?_⟩, fun hd => k.dead (h.dead hd), fun hn => ⟨(k.past hn).1.trans (h.past hn).1, (k.past hn).2.trans (h.past hn).2⟩⟩; rcases List.mem_append.1 ho with h | h
 . exact h2 o h
 . exact k2 o h
section
variable {g : GGraph} (hG : VA.Good g)
include hG
theorem zc1 {n : Nat} (hn : n < g.Nodes.length) {t : GTime} (ht : PtM g ⟨n, t⟩) (hu : (q0n g n t).2 = true) {out : List GItem} (ho : Fn out) : ∀ (es : List GEdge) (s : MS), (∀ e ∈ es, e ∈ g.Edges) -> W g s ->
  W g (q4o n (q0n g n t).1 out es s) /\ Keep g t.C.a0 s (q4o n (q0n g n t).1 out es s) /\ (q4o n (q0n g n t).1 out es s).e = s.e
 | [], s, _, hW => ⟨hW, Keep.refl _ _ _, rfl⟩
 | e :: es, s, he, hW => by
  have h1 : W g (q2d n (q0n g n t).1 out s e) /\ Keep g t.C.a0 s (q2d n (q0n g n t).1 out s e) /\ (q2d n (q0n g n t).1 out s e).e = s.e := by
   unfold q2d
   by_cases hf : e.From = n
   .
    rw [if_pos hf]; obtain ⟨r1, r2, r3, r4, r5⟩ := qz6 s ⟨e.To, (q0n g n t).1⟩ e.Port out; obtain ⟨q1, _⟩ := za7 hG hn ht hu (he e (by simp)) hf; have hep := j4n hG hn ht hu; have := ho.len; refine ⟨fun p hp => ?_, ⟨fun p hp => ?_, by dsimp only; omega, ⟨[], by dsimp only; rw [r4]; simp, by simp⟩, by dsimp only; rw [r5]; exact fun h => h, fun _ => ⟨r1, r2⟩⟩, r5⟩
    .
     dsimp only at hp; rw [qw8] at hp
     split at hp
     . rename_i hc; rw [hc.2]; exact q1
     . exact hW p hp
    . dsimp only; rw [qw8, if_neg]; rintro ⟨_, rfl⟩; exact hp hep
   . rw [if_neg hf]; exact ⟨hW, Keep.refl _ _ _, rfl⟩
  obtain ⟨h2, h3, h4⟩ := zc1 hn ht hu ho es (q2d n (q0n g n t).1 out s e) (fun x hx => he x (by simp [hx])) h1.1; exact ⟨h2, h1.2.1.trans h3, h4.trans h1.2.2⟩
omit hG in
theorem j19 {n : Nat} (hn : n < g.Nodes.length) {t : GTime} (s : MS) (hW : W g s) : W g (takeA g n t s) /\ Keep g t.C.a0 s (takeA g n t s) /\ (takeA g n t s).e = s.e := by
 have hu : ∀ p, upd s.ins ⟨n, t⟩ no2 p ≠ no2 -> PtM g p := fun p hp => by
  unfold upd at hp
  split at hp
  . exact absurd rfl hp
  . exact hW p hp
 have hk : ∀ p : GMean_point, p.time.C.a0 ≠ t.C.a0 -> upd s.ins ⟨n, t⟩ no2 p = s.ins p := fun p hp => by
  unfold upd; rw [if_neg]; rintro rfl; exact hp rfl
 unfold takeA
 by_cases h14 : (nd g n).Kind = 14
 . rw [if_pos h14]; exact ⟨hu, ⟨hk, Xa _, ⟨[], by simp, by simp⟩, fun h => h, fun h => absurd h14 (h n hn)⟩, rfl⟩
 . rw [if_neg h14]; exact ⟨hu, ⟨hk, Xa _, ⟨[], by simp, by simp⟩, fun h => h, fun _ => ⟨rfl, rfl⟩⟩, rfl⟩
theorem z1c (most : Int) {n : Nat} (hn : n < g.Nodes.length) {t : GTime} {e : Int} (ht : ok t -> t.C.a0 = e) {s : MS} (hW : W g s) : W g (q1m g most s n t).2 /\ Keep g e s (q1m g most s n t).2 := by
 unfold q1m
 by_cases h : s.ins ⟨n, t⟩ = no2 \/ s.e ≠ 0
 . rw [if_pos h]; exact ⟨hW, Keep.refl _ _ _⟩
 rw [if_neg h]; have hne : s.ins ⟨n, t⟩ ≠ no2 := fun e => h (.inl e); have hpt := hW _ hne; have hte : t.C.a0 = e := ht (by obtain ⟨_, _, _, h2, _⟩ := hpt; exact h2); subst hte; obtain ⟨w1, k1, e1⟩ := j19 hn (t := t) s hW
 generalize takeA g n t s = s2 at *
 generalize (if (nd g n).Kind = 14 then z3b s2 n t else (s.ins ⟨n, t⟩).a1) = b
 unfold qj3
 cases ha : q7n (nd g n) (s.ins ⟨n, t⟩).a0 b with
 | none =>
  dsimp only; exact ⟨w1, k1.trans ⟨fun _ _ => rfl, Xa _, ⟨[], by simp, by simp⟩, fun _ => by dsimp only; decide, fun _ => ⟨rfl, rfl⟩⟩⟩
 | some out =>
  dsimp only; obtain ⟨ho, _⟩ := qj2 ha
  by_cases h15 : (nd g n).Kind = 15
  . rw [if_pos h15]; refine ⟨w1, k1.trans ⟨fun _ _ => rfl, Xa _, ⟨_, rfl, fun o ho => ?_⟩, fun h => h, fun _ => ⟨rfl, rfl⟩⟩⟩; obtain ⟨r, _, rfl⟩ := List.mem_map.1 ho; rfl
  rw [if_neg h15]
  by_cases hx : (q0n g n t).2 = false \/ out = []
  . rw [if_pos hx]; exact ⟨w1, k1⟩
  rw [if_neg hx]; have hu : (q0n g n t).2 = true := by simpa using fun e => hx (.inl e)
  obtain ⟨w2, k2, e2⟩ := zc1 hG hn hpt hu ho g.Edges s2 (fun _ h => h) w1; dsimp only
  split
  . exact ⟨w2, k1.trans (k2.trans ⟨fun _ _ => rfl, Xa _, ⟨[], by simp, by simp⟩, fun _ => by dsimp only; decide, fun _ => ⟨rfl, rfl⟩⟩)⟩
  . exact ⟨w2, k1.trans k2⟩
end
section
variable {g : GGraph} {most : Int} {T : Int -> Prop} {P : MS -> Prop} (hev : ∀ s n t, n < g.Nodes.length -> (ok t -> T t.C.a0) -> P s -> P (q1m g most s n t).2)
include hev
end
theorem j2j {g : GGraph} {most : Int} {s : MS} (h : s.e ≠ 0) (n : Nat) (t : GTime) : (q1m g most s n t).2.e ≠ 0 := by
 unfold q1m; rw [if_pos (.inr h)]; exact h
section
variable {g : GGraph} {most : Int} {T : Int -> Prop} {G : MS -> MS -> Prop}
 (hev : ∀ s s' n t, n < g.Nodes.length -> (ok t -> T t.C.a0) -> G s s' -> (q1m g most s n t).2.e = 0 -> G (q1m g most s n t).2 (q1m g most s' n t).2 /\ (q1m g most s n t).1 = (q1m g most s' n t).1)
include hev
end
end MN
end Go.Proofs.YteibkihbdgphnaaGreat
