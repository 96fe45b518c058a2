/-
  The law in plain words: what its plain function gives is true. No condition beyond those that each theorem names.
-/
import Derived.Test.YteibkihbdgphnaaGreatWalkMP0
import Derived.Test.YteibkihbdgphnaaGreatP12y
set_option linter.unusedSimpArgs false
set_option linter.unusedVariables false
set_option linter.unusedSectionVars false
open Classical renaming byContradiction -> Xa
open Nat renaming le_refl -> Xb
namespace Go.Proofs.YteibkihbdgphnaaGreat
open Go Go.RowKit TS VA BG
namespace MN
open Classical
section
variable {g : GGraph} (hG : VA.Good g) {most : Int}
include hG
theorem j93 {L : List (Nat × GTime)} (hL : ∀ p ∈ L, p.1 < g.Nodes.length) {s : MS} (hW : W g s) : W g (q5v g most L s) :=
 qr0 (P := fun s => W g s) (fun p hp s hs => (z1c hG most (hL p hp) (t := p.2) (e := p.2.C.a0) (fun _ => rfl) hs).1) hW
def z5b (g : GGraph) (most : Int) (d : Nat) : Prop := ∀ {a to : Nat} {sc : Int} {t : GTime} {s : MS}, Blk g a to sc -> g.Parent.length - sc.toNat <= d -> ok t -> t.D = (dep g sc : Int) -> W g s -> (s.e = 0 -> J g a to sc t a false s) ->
  (q43 g most d a to sc t s).2 = q5v g most (sched g d a to sc t) s /\ ((q43 g most d a to sc t s).2.e = 0 -> J g a to sc t to (q43 g most d a to sc t s).1 (q43 g most d a to sc t s).2)
theorem zd8 {d : Nat} (hr : z5b g most d) {a to : Nat} {sc : Int} (hB : Blk g a to sc) (hd : g.Parent.length - sc.toNat <= d) :
  ∀ (k : Nat) (u : GTime) (s : MS), ok u -> u.D = (dep g sc : Int) -> 2 <= u.D -> lastT u + k <= 64 -> W g s -> (s.e = 0 -> J g a to sc u a false s) -> z15 (q43 g most d a to sc) k u s = q5v g most (qq3 (sched g d a to sc) k u) s
 | 0, _, _, _, _, _, _, _, _ => rfl
 | k + 1, u, s, hu, hD, h2, hl, hW, hJ => by
  obtain ⟨h3, h4⟩ := hr hB hd hu hD hW hJ; have hbl := hB.le; have hL : ∀ (v : GTime), ∀ p ∈ sched g d a to sc v, a <= p.1 /\ p.1 < to := fun v p hp => by
   obtain ⟨m1, m2, _⟩ := qo7 d a to sc v p hp; exact ⟨m1, m2⟩
  unfold z15 qq3; rw [z4q, <- h3]; have hW' : W g (q43 g most d a to sc u s).2 := by rw [h3]; exact j93 hG (fun p hp => by have := hL u p hp; omega) hW
  have h0 := j4i hu; have hmx : qa5 u = 64 := by unfold qa5; rw [if_neg (by omega)]
  have hon := z8g hu (by rw [hmx]; omega); have hnd := zg6 hu; obtain ⟨hnl, hnt⟩ := j9z hu h2
  generalize (q43 g most d a to sc u s).2 = s' at *
  by_cases hb : (q43 g most d a to sc u s).1 = true
  .
   rw [if_pos hb]; rw [hb] at h4
   cases k with
   | zero => rfl
   | succ k =>
    have hnx : qf8 u = nxT u := by unfold qf8; rw [if_pos ⟨hu, by rw [hmx]; omega⟩]
    rw [hnx]; refine zd8 hr hB hd (k + 1) (nxT u) s' hon (by rw [hnd]; exact hD) (by omega) (by omega) hW' fun hz => ?_; have hJ' := h4 hz; refine ⟨fun m hm1 hm2 v hv hl => Xa fun hx => ?_, fun _ m hm1 hm2 v hv hx => ?_, fun _ m hm1 hm2 k1 k2 _ => ?_⟩
    . have := (hJ'.j2 h2 m hm1 hm2 v (zi2 hu h2 hv) hx).2; rw [this] at hl; omega
    . have := (hJ'.j2 h2 m hm1 hm2 v (j4f hu h2 hv) hx).2; rw [this] at hv; exact absurd hv (z4j hon (qy0 _))
    . rw [hnl]; exact hJ'.j3 h2 m hm1 hm2 k1 k2 (.inl hm2)
  .
   rw [if_neg hb]; have hb : (q43 g most d a to sc u s).1 = false := by simpa using hb
   rw [hb] at h4
   symm
   refine z7e ?_
   by_cases hz : s'.e = 0
   .
    have hJ' := h4 hz; refine .inr fun p hp => Xa fun hx => ?_; refine qy4 (H := fun u' => ok u' -> later u u' /\ u'.D = u.D) (Q := fun p => s'.ins ⟨(p.1 : Nat), p.2⟩ = no2) (fun u' hu' hk => ?_) (fun u' hu' q hq => ?_) k (qf8 u) (fun hk => ?_) p hp |> hx
    . obtain ⟨k1, k2, k3⟩ := z6x hk; obtain ⟨c1, c2⟩ := hu' k1; rw [k3]; exact j26 hu h2 c1 c2
    .
     refine Xa fun hx => ?_; obtain ⟨m1, m2, m3⟩ := qo7 d a to sc u' q hq; have hpt := hW' _ hx; have hok := (z2x hpt).2.1; obtain ⟨k1, k2⟩ := m3 hok; obtain ⟨c1, c2⟩ := hu' k1; rcases k2 with k2 | ⟨k2, k3, k4⟩
     .
      have := (hJ'.j2 h2 q.1 m1 m2 q.2 (zr4 hu c1 c2 k2) hx).1
      cases this
     . rw [k4] at hok hx; obtain ⟨_, _, k5⟩ := qp1 hok; rw [k5, j4g hu k1 h2 c1 c2] at hx; exact hx (hJ'.j3 h2 q.1 m1 m2 k2 k3 (.inl m2))
    . obtain ⟨k1, k2, k3⟩ := z6x hk; rw [k3]; exact ⟨zi2 hu h2 (qy0 _), hnd⟩
   . exact .inl hz
theorem z3c {d : Nat} (hr : z5b g most d) {a to : Nat} {sc : Int} (hB : Blk g a to sc) (hd : g.Parent.length - sc.toNat <= d + 1) {t : GTime} (ht : ok t) (hD : t.D = (dep g sc : Int)) :
  ∀ (f n : Nat) (ar : Bool) (s : MS), to - n <= f -> a <= n -> n <= to -> (n < to -> At g a n sc) -> W g s -> (s.e = 0 -> J g a to sc t n ar s) ->
   (q9r g most (q43 g most d) to sc t f ar n s).2 = q5v g most (z09 g (sched g d) to sc t f n) s /\ ((q9r g most (q43 g most d) to sc t f ar n s).2.e = 0 -> J g a to sc t to (q9r g most (q43 g most d) to sc t f ar n s).1 (q9r g most (q43 g most d) to sc t f ar n s).2)
 | 0, n, ar, s, hf, han, hnt, _, _, hJ => by
  obtain rfl : n = to := by omega
  exact ⟨rfl, hJ⟩
 | f + 1, n, ar, s, hf, han, hnt, hA, hW, hJ => by
  have hbl := hB.le; unfold q9r z09
  by_cases hn : n < to
  .
   rw [if_pos hn, if_pos hn]; have hnN : n < g.Nodes.length := by omega
   obtain ⟨k0, k1, _⟩ := q58 hG hnN
   by_cases hs : (nd g n).Scope ≠ sc
   .
    rw [if_pos hs, if_pos hs, z4q]; obtain ⟨hp, hz, hdc⟩ := child hG hB han hn (hA hn) hs; have hself := z0u hG k0 k1; have hgt := zu9 (g := g) hn hself; obtain ⟨_, hE2, hE3, hE4⟩ := qw7 g (nd g n).Scope to (to - n) n hnt; have hE4 := hE4 (Xb _); obtain ⟨b1, b2⟩ := j2s hG k0 k1
    generalize qb6 g (nd g n).Scope to (to - n) n = E at *
    have hBc : Blk g n E (nd g n).Scope := ⟨hgt, by omega, k0, k1, rfl, hE3⟩; have hrng := qu6 hG k0 k1 (hB.inn n han hn); have hcd : g.Parent.length - (nd g n).Scope.toNat <= d := by omega
    have h4 := (z2m hG k0 k1).2.1; have hD4 : t.D ≠ 4 := by omega
    have hen : q7a t = enT t := by unfold q7a; rw [if_pos ⟨ht, hD4⟩]
    obtain ⟨l1, l2⟩ := ja0 ht hD4; have hl : z15 (q43 g most d n E (nd g n).Scope) (bnd g (nd g n).Scope).toNat (q7a t) s = q5v g most (qq3 (sched g d n E (nd g n).Scope) (bnd g (nd g n).Scope).toNat (q7a t)) s := by
     rw [hen]; refine zd8 hG hr hBc hcd _ _ _ (zk6 ht hD4) (by show t.D + 1 = _; omega) (by show 2 <= t.D + 1; have := ht.1; omega) (by omega) hW fun hz => ?_; have hJ := hJ hz; refine ⟨fun m hm1 hm2 v hv hl => ?_, fun _ m hm1 hm2 v hv hx => ?_, fun _ m hm1 hm2 _ _ hx => ?_⟩
     . obtain ⟨q1, q2⟩ := j16 hv; exact hJ.j1 m hm1 (by omega) v q1 q2
     . obtain ⟨q1, q2⟩ := j4h ht hD4 hv; exact absurd (hJ.j1 m hm1 (by omega) v q1 q2) hx
     .
      rcases hx with hx | hx
      . omega
      . exact absurd l2 hx
    rw [hl]; have hmem : ∀ p ∈ qq3 (sched g d n E (nd g n).Scope) (bnd g (nd g n).Scope).toNat (q7a t), n <= p.1 /\ p.1 < E /\ (ok p.2 -> under t p.2) := by
     refine qy4 (H := fun u => ok u -> ok t /\ under t u /\ t.D < u.D) (fun u hu => zu5 hu) (fun u hu q hq => ?_) _ _ (zm3 t); obtain ⟨m1, m2, m3⟩ := qo7 d _ _ _ u q hq; refine ⟨m1, m2, fun hk => ?_⟩; obtain ⟨k1, k2⟩ := m3 hk; obtain ⟨u1, u2, u3⟩ := hu k1; rcases k2 with k2 | ⟨_, _, k2⟩
     . exact z1i u2 k2
     . rw [k2] at hk ⊢; obtain ⟨_, _, k3⟩ := qp1 hk; rw [k3]; exact (qq1 u1 k1 u2 u3).1
    have hJE : s.e = 0 -> J g a to sc t E ar s := fun hz => by
     have hJ := hJ hz; refine ⟨fun m hm1 hm2 => hJ.j1 m (by omega) hm2, hJ.j2, fun h2 m hm1 hm2 k1 k2 k3 => ?_⟩
     by_cases hmn : m < n
     . exact hJ.j3 h2 m hm1 hm2 k1 k2 (.inl hmn)
     .
      by_cases hmE : m < E
      . have h5 := hE3 m (by omega) hmE; rw [k2] at h5; have := qu6 hG hB.s0 hB.s1 h5; exact absurd (by omega) hs
      . exact hJ.j3 h2 m hm1 hm2 k1 k2 (.inr (k3.resolve_left hmE))
    obtain ⟨hW2, hJ2⟩ := qr0 (g := g) (most := most) (P := fun s => W g s /\ (s.e = 0 -> J g a to sc t E ar s)) (L := qq3 (sched g d n E (nd g n).Scope) (bnd g (nd g n).Scope).toNat (q7a t)) (fun p hp' x hx => by
     obtain ⟨m1, m2, m3⟩ := hmem p hp'; exact j56 hG hB ht hD hp hdc hgt hE2 hE3 hE4 m1 m2 m3 hx.1 hx.2) ⟨hW, hJE⟩
    exact z3c hr hB hd ht hD f E ar _ (by omega) (by omega) hE2 (fun h => j9k hG hB han hn hs (hA hn) h hgt hE3 (hE4 h)) hW2 hJ2
   .
    rw [if_neg hs, if_neg hs, qa7]; have hs : (nd g n).Scope = sc := by simpa using hs
    obtain ⟨hW2, hJ2⟩ := j42 hG (most := most) hB ht han hn hs hW hJ; exact z3c hr hB hd ht hD f (n + 1) _ _ (by omega) (by omega) hn (fun h => at_one hG hB han h hs (hA hn)) hW2 hJ2
  .
   rw [if_neg hn, if_neg hn]; obtain rfl : n = to := by omega
   exact ⟨rfl, hJ⟩
theorem z7x : ∀ d : Nat, z5b g most d
 | 0, a, to, sc, t, s, hB, hd, _, _, _, _ => by have := hB.s0; have := hB.s1; omega
 | d + 1, a, to, sc, t, s, hB, hd, ht, hD, hW, hJ => by
  unfold q43 sched; exact z3c hG (z7x d) hB hd ht hD (to - a) a false s (Xb _) (Xb _) (Nat.le_of_lt hB.lt) (fun _ m h1 h2 => by omega) hW hJ
end
end MN
end Go.Proofs.YteibkihbdgphnaaGreat
