/-
  The law in plain words: what its plain function gives is true. No condition beyond those that each theorem names.
-/
import Derived.Test.YteibkihbdgphnaaGreatWalkMP0
import Derived.Test.YteibkihbdgphnaaGreatP12w
set_option linter.unusedSimpArgs false
set_option linter.unusedVariables false
set_option linter.unusedSectionVars false
namespace Go.Proofs.YteibkihbdgphnaaGreat
open Go Go.RowKit TS VA BG
namespace MN
open Classical
noncomputable def qq3 (f : GTime -> List (Nat × GTime)) : Nat -> GTime -> List (Nat × GTime)
 | 0, _ => []
 | k + 1, u => f u ++ qq3 f k (qf8 u)
noncomputable def z09 (g : GGraph) (self : Nat -> Nat -> Int -> GTime -> List (Nat × GTime)) (to : Nat) (sc : Int) (t : GTime) : Nat -> Nat -> List (Nat × GTime)
 | 0, _ => []
 | f + 1, n =>
  if n < to then
   if (nd g n).Scope ≠ sc then qq3 (self n (qb6 g (nd g n).Scope to (to - n) n) (nd g n).Scope) (bnd g (nd g n).Scope).toNat (q7a t) ++ z09 g self to sc t f (qb6 g (nd g n).Scope to (to - n) n)
   else (n, atA g n t) :: z09 g self to sc t f (n + 1)
  else []
noncomputable def sched (g : GGraph) : Nat -> Nat -> Nat -> Int -> GTime -> List (Nat × GTime)
 | 0, _, _, _, _ => []
 | d + 1, a, b, sc, t => z09 g (sched g d) b sc t (b - a) a
noncomputable def q5v (g : GGraph) (most : Int) (L : List (Nat × GTime)) (s : MS) : MS := L.foldl (fun s p => (q1m g most s p.1 p.2).2) s
theorem z4q (g : GGraph) (most : Int) (A B : List (Nat × GTime)) (s : MS) : q5v g most (A ++ B) s = q5v g most B (q5v g most A s) := List.foldl_append
theorem qa7 (g : GGraph) (most : Int) (p : Nat × GTime) (B : List (Nat × GTime)) (s : MS) : q5v g most (p :: B) s = q5v g most B (q1m g most s p.1 p.2).2 := rfl
theorem za5 {g : GGraph} {most : Int} {s : MS} {n : Nat} {t : GTime} (h : s.ins ⟨n, t⟩ = no2 \/ s.e ≠ 0) : q1m g most s n t = (false, s) := by unfold q1m; rw [if_pos h]
theorem z7e {g : GGraph} {most : Int} : ∀ {L : List (Nat × GTime)} {s : MS}, (s.e ≠ 0 \/ ∀ p ∈ L, s.ins ⟨p.1, p.2⟩ = no2) -> q5v g most L s = s
 | [], _, _ => rfl
 | p :: L, s, h => by
  have : q1m g most s p.1 p.2 = (false, s) := za5 (h.elim .inr fun h => .inl (h p (by simp))); rw [qa7, this]; exact z7e (h.elim .inl fun h => .inr fun q hq => h q (by simp [hq]))
theorem qr0 {g : GGraph} {most : Int} {P : MS -> Prop} : ∀ {L : List (Nat × GTime)} {s : MS}, (∀ p ∈ L, ∀ s, P s -> P (q1m g most s p.1 p.2).2) -> P s -> P (q5v g most L s)
 | [], _, _, h => h
 | p :: L, s, hp, h => by
  rw [qa7]; exact qr0 (fun q hq => hp q (by simp [hq])) (hp p (by simp) s h)
theorem j06 {g : GGraph} {most : Int} {L : List (Nat × GTime)} {s : MS} (h : (q5v g most L s).e = 0) : s.e = 0 :=
 Classical.byContradiction fun hx => (qr0 (g := g) (most := most) (P := fun s => s.e ≠ 0) (fun p _ _ hs => j2j hs p.1 p.2) hx) h
theorem j1t {t : GTime} (h : ok (q7a t)) : ok t /\ t.D ≠ 4 /\ q7a t = enT t := by
 unfold q7a at *
 split at h
 . rename_i c; exact ⟨c.1, c.2, if_pos c⟩
 . exact absurd h.1 (by decide)
theorem qp1 {t : GTime} (h : ok (qc9 t)) : ok t /\ t.D ≠ 1 /\ qc9 t = leT t := by
 unfold qc9 at *
 split at h
 . rename_i c; exact ⟨c.1, c.2, if_pos c⟩
 . exact absurd h.1 (by decide)
theorem z6x {t : GTime} (h : ok (qf8 t)) : ok t /\ lastT t ≠ qa5 t /\ qf8 t = nxT t := by
 unfold qf8 at *
 split at h
 . rename_i c; exact ⟨c.1, c.2, if_pos c⟩
 . exact absurd h.1 (by decide)
theorem qy4 {f : GTime -> List (Nat × GTime)} {H : GTime -> Prop} {Q : Nat × GTime -> Prop} (hn : ∀ u, H u -> H (qf8 u)) (hf : ∀ u, H u -> ∀ p ∈ f u, Q p) : ∀ (k : Nat) (u : GTime), H u -> ∀ p ∈ qq3 f k u, Q p
 | 0, _, _, p, hp => by cases hp
 | k + 1, u, hu, p, hp => by
  unfold qq3 at hp; rcases List.mem_append.1 hp with h | h
  . exact hf u hu p h
  . exact qy4 hn hf k _ (hn u hu) p h
theorem zu5 {t : GTime} {u : GTime} (h : ok u -> ok t /\ under t u /\ t.D < u.D) : ok (qf8 u) -> ok t /\ under t (qf8 u) /\ t.D < (qf8 u).D := fun hk => by
 obtain ⟨h1, _, h3⟩ := z6x hk; obtain ⟨a, b, c⟩ := h h1; rw [h3]; exact ⟨a, (qq1 a h1 b c).2, by rw [zg6 h1]; exact c⟩
theorem zm3 (t : GTime) : ok (q7a t) -> ok t /\ under t (q7a t) /\ t.D < (q7a t).D := fun hk => by
 obtain ⟨h1, _, h3⟩ := j1t hk; rw [h3]; exact ⟨h1, zi3 t⟩
theorem qo7 {g : GGraph} : ∀ (d a b : Nat) (sc : Int) (t : GTime), ∀ p ∈ sched g d a b sc t, a <= p.1 /\ p.1 < b /\ (ok p.2 -> ok t /\ (under t p.2 \/ ((nd g p.1).Kind = 10 /\ (nd g p.1).Scope = sc /\ p.2 = qc9 t)))
 | 0, _, _, _, _, p, hp => by cases hp
 | d + 1, a, b, sc, t, p, hp => by
  unfold sched at hp; have key : ∀ (f n : Nat), ∀ p ∈ z09 g (sched g d) b sc t f n, n <= p.1 /\ p.1 < b /\ (ok p.2 -> ok t /\ (under t p.2 \/ ((nd g p.1).Kind = 10 /\ (nd g p.1).Scope = sc /\ p.2 = qc9 t))) := by
   intro f
   induction f with
   | zero => intro n p hp; cases hp
   | succ f ih =>
    intro n p hp; unfold z09 at hp
    split at hp
    .
     rename_i hn
     split at hp
     .
      obtain ⟨e1, e2, _⟩ := qw7 g (nd g n).Scope b (b - n) n (by omega); rcases List.mem_append.1 hp with h | h
      .
       refine qy4 (H := fun u => ok u -> ok t /\ under t u /\ t.D < u.D) (Q := fun p => n <= p.1 /\ p.1 < b /\ (ok p.2 -> ok t /\ (under t p.2 \/ ((nd g p.1).Kind = 10 /\ (nd g p.1).Scope = sc /\ p.2 = qc9 t)))) (fun u hu => zu5 hu) (fun u hu q hq => ?_) _ _ (zm3 t) p h; obtain ⟨m1, m2, m3⟩ := qo7 d _ _ _ u q hq; refine ⟨m1, by omega, fun hk => ?_⟩; obtain ⟨k1, k2⟩ := m3 hk; obtain ⟨u1, u2, u3⟩ := hu k1; refine ⟨u1, .inl ?_⟩; rcases k2 with k2 | ⟨_, _, k2⟩
       . exact z1i u2 k2
       . rw [k2] at hk ⊢; obtain ⟨_, _, k3⟩ := qp1 hk; rw [k3]; exact (qq1 u1 k1 u2 u3).1
      . obtain ⟨m1, m2, m3⟩ := ih _ p h; exact ⟨by omega, m2, m3⟩
     .
      rename_i hs
      have hs : (nd g n).Scope = sc := by simpa using hs
      rcases List.mem_cons.1 hp with rfl | h
      .
       refine ⟨Nat.le_refl _, hn, fun hk => ?_⟩; dsimp only at hk ⊢; unfold atA at hk ⊢
       split at hk
       .
        rename_i c
        rw [if_pos c]; exact ⟨(qp1 hk).1, .inr ⟨c, hs, rfl⟩⟩
       .
        rename_i c
        rw [if_neg c]; exact ⟨hk, .inl (qy0 t)⟩
      . obtain ⟨m1, m2, m3⟩ := ih _ p h; exact ⟨by omega, m2, m3⟩
    . cases hp
  exact key _ _ p hp
theorem z7u {n : Nat} {u : GTime} {out : List GItem} : ∀ (es : List GEdge) (s : MS) (p : GMean_point), (q4o n u out es s).ins p ≠ no2 -> s.ins p ≠ no2 \/ ∃ e ∈ es, e.From = n /\ p = ⟨e.To, u⟩
 | [], _, _, h => .inl h
 | e :: es, s, p, h => by
  rcases z7u es (q2d n u out s e) p h with h | ⟨x, hx, h1, h2⟩
  .
   unfold q2d at h
   split at h
   .
    rename_i hf
    dsimp only at h; rw [qw8] at h
    split at h
    . rename_i hc; exact .inr ⟨e, by simp, hf, hc.2⟩
    . exact .inl h
   . exact .inl h
  . exact .inr ⟨x, by simp [hx], h1, h2⟩
theorem j3k (g : GGraph) (n : Nat) (t : GTime) (s : MS) (p : GMean_point) : (takeA g n t s).ins p = if p = ⟨n, t⟩ then no2 else s.ins p := by
 unfold takeA; split <;> rfl
theorem z94 {g : GGraph} {most : Int} {s : MS} {n : Nat} {t : GTime} (hz : (q1m g most s n t).2.e = 0) {p : GMean_point} (hp : (q1m g most s n t).2.ins p ≠ no2) :
  (s.ins p ≠ no2 /\ p ≠ ⟨n, t⟩) \/ (s.ins ⟨n, t⟩ ≠ no2 /\ (q1m g most s n t).1 = true /\ (q0n g n t).2 = true /\ ∃ e ∈ g.Edges, e.From = n /\ p = ⟨e.To, (q0n g n t).1⟩) := by
 by_cases h : s.ins ⟨n, t⟩ = no2 \/ s.e ≠ 0
 .
  rw [za5 h] at hz hp; rcases h with h | h
  . exact .inl ⟨hp, fun e => hp (by rw [e]; exact h)⟩
  . exact absurd hz h
 have hne : s.ins ⟨n, t⟩ ≠ no2 := fun e => h (.inl e); have ht : (takeA g n t s).ins p ≠ no2 -> s.ins p ≠ no2 /\ p ≠ ⟨n, t⟩ := fun hx => by
  rw [j3k] at hx
  split at hx
  . exact absurd rfl hx
  . rename_i hc; exact ⟨hx, hc⟩
 unfold q1m at hz hp ⊢; rw [if_neg h] at hz hp ⊢
 generalize takeA g n t s = s2 at *
 generalize (if (nd g n).Kind = 14 then z3b s2 n t else (s.ins ⟨n, t⟩).a1) = b at *
 unfold qj3 at hz hp ⊢
 cases ha : q7n (nd g n) (s.ins ⟨n, t⟩).a0 b with
 | none => rw [ha] at hp; exact .inl (ht hp)
 | some out =>
  rw [ha] at hz hp; dsimp only at hz hp ⊢
  by_cases h15 : (nd g n).Kind = 15
  . rw [if_pos h15] at hp; exact .inl (ht hp)
  rw [if_neg h15] at hz hp ⊢
  by_cases hx : (q0n g n t).2 = false \/ out = []
  . rw [if_pos hx] at hp; exact .inl (ht hp)
  rw [if_neg hx] at hz hp ⊢; have hu : (q0n g n t).2 = true := by simpa using fun e => hx (.inl e)
  have hp' : (q4o n (q0n g n t).1 out g.Edges s2).ins p ≠ no2 := by
   dsimp only at hp
   split at hp <;> exact hp
  rcases z7u _ _ _ hp' with h1 | h1
  . exact .inl (ht h1)
  . exact .inr ⟨hne, rfl, hu, h1⟩
end MN
end Go.Proofs.YteibkihbdgphnaaGreat
