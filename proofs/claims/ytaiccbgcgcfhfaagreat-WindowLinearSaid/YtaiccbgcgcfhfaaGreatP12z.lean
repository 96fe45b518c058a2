/-
  The law in plain words: what its plain function gives is true. No condition beyond those that each theorem names.
-/
import Derived.Test.YtaiccbgcgcfhfaaGreatWalkWL0
import Derived.Test.YtaiccbgcgcfhfaaGreatP12y
set_option linter.unusedSimpArgs false
set_option linter.unusedVariables false
set_option linter.unusedSectionVars false
open Classical renaming byContradiction -> Xa
open Nat renaming le_refl -> Xb
namespace Go.Proofs.YtaiccbgcgcfhfaaGreat
open Go Go.RowKit TS VA BG
namespace MN
open Classical
section
variable {g : GGraph} (hG : VA.Good g) {most : Int}
include hG
theorem j9w {L : List (Nat × GTime)} (hL : ∀ p ∈ L, p.1 < g.Nodes.length) {s : MS} (hW : W g s) : W g (q1x g most L s) :=
 qb5 (P := fun s => W g s) (fun p hp s hs => (q7u hG most (hL p hp) (t := p.2) (e := p.2.C.a0) (fun _ => rfl) hs).1) hW
def z5d (g : GGraph) (most : Int) (d : Nat) : Prop := ∀ {a to : Nat} {sc : Int} {t : GTime} {s : MS}, Blk g a to sc -> g.Parent.length - sc.toNat <= d -> ok t -> t.D = (dep g sc : Int) -> W g s -> (s.e = 0 -> J g a to sc t a false s) ->
  (q36 g most d a to sc t s).2 = q1x g most (sched g d a to sc t) s /\ ((q36 g most d a to sc t s).2.e = 0 -> J g a to sc t to (q36 g most d a to sc t s).1 (q36 g most d a to sc t s).2)
theorem zd7 {d : Nat} (hr : z5d g most d) {a to : Nat} {sc : Int} (hB : Blk g a to sc) (hd : g.Parent.length - sc.toNat <= d) :
  ∀ (k : Nat) (u : GTime) (s : MS), ok u -> u.D = (dep g sc : Int) -> 2 <= u.D -> lastT u + k <= 64 -> W g s -> (s.e = 0 -> J g a to sc u a false s) -> qv6 (q36 g most d a to sc) k u s = q1x g most (qd4 (sched g d a to sc) k u) s
 | 0, _, _, _, _, _, _, _, _ => rfl
 | k + 1, u, s, hu, hD, h2, hl, hW, hJ => by
  obtain ⟨h3, h4⟩ := hr hB hd hu hD hW hJ; have hbl := hB.le; have hL : ∀ (v : GTime), ∀ p ∈ sched g d a to sc v, a <= p.1 /\ p.1 < to := fun v p hp => by
   obtain ⟨m1, m2, _⟩ := qh5 d a to sc v p hp; exact ⟨m1, m2⟩
  unfold qv6 qd4; rw [qa5, <- h3]; have hW' : W g (q36 g most d a to sc u s).2 := by rw [h3]; exact j9w hG (fun p hp => by have := hL u p hp; omega) hW
  have h0 := j52 hu; have hmx : q85 u = 64 := by unfold q85; rw [if_neg (by omega)]
  have hon := z1x hu (by rw [hmx]; omega); have hnd := z2w hu; obtain ⟨hnl, hnt⟩ := jd1 hu h2
  generalize (q36 g most d a to sc u s).2 = s' at *
  by_cases hb : (q36 g most d a to sc u s).1 = true
  .
   rw [if_pos hb]; rw [hb] at h4
   cases k with
   | zero => rfl
   | succ k =>
    have hnx : q5w u = nxT u := by unfold q5w; rw [if_pos ⟨hu, by rw [hmx]; omega⟩]
    rw [hnx]; refine zd7 hr hB hd (k + 1) (nxT u) s' hon (by rw [hnd]; exact hD) (by omega) (by omega) hW' fun hz => ?_; have hJ' := h4 hz; refine ⟨fun m hm1 hm2 v hv hl => Xa fun hx => ?_, fun _ m hm1 hm2 v hv hx => ?_, fun _ m hm1 hm2 k1 k2 _ => ?_⟩
    . have := (hJ'.j2 h2 m hm1 hm2 v (zi3 hu h2 hv) hx).2; rw [this] at hl; omega
    . have := (hJ'.j2 h2 m hm1 hm2 v (j4z hu h2 hv) hx).2; rw [this] at hv; exact absurd hv (z4i hon (qy1 _))
    . rw [hnl]; exact hJ'.j3 h2 m hm1 hm2 k1 k2 (.inl hm2)
  .
   rw [if_neg hb]; have hb : (q36 g most d a to sc u s).1 = false := by simpa using hb
   rw [hb] at h4
   symm
   refine z7a ?_
   by_cases hz : s'.e = 0
   .
    have hJ' := h4 hz; refine .inr fun p hp => Xa fun hx => ?_; refine qr2 (H := fun u' => ok u' -> later u u' /\ u'.D = u.D) (Q := fun p => s'.ins ⟨(p.1 : Nat), p.2⟩ = no2) (fun u' hu' hk => ?_) (fun u' hu' q hq => ?_) k (q5w u) (fun hk => ?_) p hp |> hx
    . obtain ⟨k1, k2, k3⟩ := qu1 hk; obtain ⟨c1, c2⟩ := hu' k1; rw [k3]; exact j2m hu h2 c1 c2
    .
     refine Xa fun hx => ?_; obtain ⟨m1, m2, m3⟩ := qh5 d a to sc u' q hq; have hpt := hW' _ hx; have hok := (qo1 hpt).2.1; obtain ⟨k1, k2⟩ := m3 hok; obtain ⟨c1, c2⟩ := hu' k1; rcases k2 with k2 | ⟨k2, k3, k4⟩
     .
      have := (hJ'.j2 h2 q.1 m1 m2 q.2 (zs4 hu c1 c2 k2) hx).1
      cases this
     . rw [k4] at hok hx; obtain ⟨_, _, k5⟩ := qa4 hok; rw [k5, j50 hu k1 h2 c1 c2] at hx; exact hx (hJ'.j3 h2 q.1 m1 m2 k2 k3 (.inl m2))
    . obtain ⟨k1, k2, k3⟩ := qu1 hk; rw [k3]; exact ⟨zi3 hu h2 (qy1 _), hnd⟩
   . exact .inl hz
theorem z2x {d : Nat} (hr : z5d g most d) {a to : Nat} {sc : Int} (hB : Blk g a to sc) (hd : g.Parent.length - sc.toNat <= d + 1) {t : GTime} (ht : ok t) (hD : t.D = (dep g sc : Int)) :
  ∀ (f n : Nat) (ar : Bool) (s : MS), to - n <= f -> a <= n -> n <= to -> (n < to -> At g a n sc) -> W g s -> (s.e = 0 -> J g a to sc t n ar s) ->
   (q84 g most (q36 g most d) to sc t f ar n s).2 = q1x g most (qd3 g (sched g d) to sc t f n) s /\ ((q84 g most (q36 g most d) to sc t f ar n s).2.e = 0 -> J g a to sc t to (q84 g most (q36 g most d) to sc t f ar n s).1 (q84 g most (q36 g most d) to sc t f ar n s).2)
 | 0, n, ar, s, hf, han, hnt, _, _, hJ => by
  obtain rfl : n = to := by omega
  exact ⟨rfl, hJ⟩
 | f + 1, n, ar, s, hf, han, hnt, hA, hW, hJ => by
  have hbl := hB.le; unfold q84 qd3
  by_cases hn : n < to
  .
   rw [if_pos hn, if_pos hn]; have hnN : n < g.Nodes.length := by omega
   obtain ⟨k0, k1, _⟩ := q44 hG hnN
   by_cases hs : (nd g n).Scope ≠ sc
   .
    rw [if_pos hs, if_pos hs, qa5]; obtain ⟨hp, hz, hdc⟩ := child hG hB han hn (hA hn) hs; have hself := z0p hG k0 k1; have hgt := zw3 (g := g) hn hself; obtain ⟨_, hE2, hE3, hE4⟩ := qa7 g (nd g n).Scope to (to - n) n hnt; have hE4 := hE4 (Xb _); obtain ⟨b1, b2⟩ := j37 hG k0 k1
    generalize q9m g (nd g n).Scope to (to - n) n = E at *
    have hBc : Blk g n E (nd g n).Scope := ⟨hgt, by omega, k0, k1, rfl, hE3⟩; have hrng := qv0 hG k0 k1 (hB.inn n han hn); have hcd : g.Parent.length - (nd g n).Scope.toNat <= d := by omega
    have h4 := (z0o hG k0 k1).2.1; have hD4 : t.D ≠ 4 := by omega
    have hen : q3h t = enT t := by unfold q3h; rw [if_pos ⟨ht, hD4⟩]
    obtain ⟨l1, l2⟩ := jd2 ht hD4; have hl : qv6 (q36 g most d n E (nd g n).Scope) (bnd g (nd g n).Scope).toNat (q3h t) s = q1x g most (qd4 (sched g d n E (nd g n).Scope) (bnd g (nd g n).Scope).toNat (q3h t)) s := by
     rw [hen]; refine zd7 hG hr hBc hcd _ _ _ (z4h ht hD4) (by show t.D + 1 = _; omega) (by show 2 <= t.D + 1; have := ht.1; omega) (by omega) hW fun hz => ?_; have hJ := hJ hz; refine ⟨fun m hm1 hm2 v hv hl => ?_, fun _ m hm1 hm2 v hv hx => ?_, fun _ m hm1 hm2 _ _ hx => ?_⟩
     . obtain ⟨q1, q2⟩ := j1k hv; exact hJ.j1 m hm1 (by omega) v q1 q2
     . obtain ⟨q1, q2⟩ := j51 ht hD4 hv; exact absurd (hJ.j1 m hm1 (by omega) v q1 q2) hx
     .
      rcases hx with hx | hx
      . omega
      . exact absurd l2 hx
    rw [hl]; have hmem : ∀ p ∈ qd4 (sched g d n E (nd g n).Scope) (bnd g (nd g n).Scope).toNat (q3h t), n <= p.1 /\ p.1 < E /\ (ok p.2 -> under t p.2) := by
     refine qr2 (H := fun u => ok u -> ok t /\ under t u /\ t.D < u.D) (fun u hu => zv8 hu) (fun u hu q hq => ?_) _ _ (zm8 t); obtain ⟨m1, m2, m3⟩ := qh5 d _ _ _ u q hq; refine ⟨m1, m2, fun hk => ?_⟩; obtain ⟨k1, k2⟩ := m3 hk; obtain ⟨u1, u2, u3⟩ := hu k1; rcases k2 with k2 | ⟨_, _, k2⟩
     . exact z1b u2 k2
     . rw [k2] at hk ⊢; obtain ⟨_, _, k3⟩ := qa4 hk; rw [k3]; exact (qr0 u1 k1 u2 u3).1
    have hJE : s.e = 0 -> J g a to sc t E ar s := fun hz => by
     have hJ := hJ hz; refine ⟨fun m hm1 hm2 => hJ.j1 m (by omega) hm2, hJ.j2, fun h2 m hm1 hm2 k1 k2 k3 => ?_⟩
     by_cases hmn : m < n
     . exact hJ.j3 h2 m hm1 hm2 k1 k2 (.inl hmn)
     .
      by_cases hmE : m < E
      . have h5 := hE3 m (by omega) hmE; rw [k2] at h5; have := qv0 hG hB.s0 hB.s1 h5; exact absurd (by omega) hs
      . exact hJ.j3 h2 m hm1 hm2 k1 k2 (.inr (k3.resolve_left hmE))
    obtain ⟨hW2, hJ2⟩ := qb5 (g := g) (most := most) (P := fun s => W g s /\ (s.e = 0 -> J g a to sc t E ar s)) (L := qd4 (sched g d n E (nd g n).Scope) (bnd g (nd g n).Scope).toNat (q3h t)) (fun p hp' x hx => by
     obtain ⟨m1, m2, m3⟩ := hmem p hp'; exact j5r hG hB ht hD hp hdc hgt hE2 hE3 hE4 m1 m2 m3 hx.1 hx.2) ⟨hW, hJE⟩
    exact z2x hr hB hd ht hD f E ar _ (by omega) (by omega) hE2 (fun h => jb4 hG hB han hn hs (hA hn) h hgt hE3 (hE4 h)) hW2 hJ2
   .
    rw [if_neg hs, if_neg hs, q5d]; have hs : (nd g n).Scope = sc := by simpa using hs
    obtain ⟨hW2, hJ2⟩ := j4n hG (most := most) hB ht han hn hs hW hJ; exact z2x hr hB hd ht hD f (n + 1) _ _ (by omega) (by omega) hn (fun h => at_one hG hB han h hs (hA hn)) hW2 hJ2
  .
   rw [if_neg hn, if_neg hn]; obtain rfl : n = to := by omega
   exact ⟨rfl, hJ⟩
theorem z7w : ∀ d : Nat, z5d g most d
 | 0, a, to, sc, t, s, hB, hd, _, _, _, _ => by have := hB.s0; have := hB.s1; omega
 | d + 1, a, to, sc, t, s, hB, hd, ht, hD, hW, hJ => by
  unfold q36 sched; exact z2x hG (z7w d) hB hd ht hD (to - a) a false s (Xb _) (Xb _) (Nat.le_of_lt hB.lt) (fun _ m h1 h2 => by omega) hW hJ
end
end MN
end Go.Proofs.YtaiccbgcgcfhfaaGreat
