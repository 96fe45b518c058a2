/-
  The law in plain words: what its plain function gives is true. No condition beyond those that each theorem names.
-/
import Derived.Test.YteibkihbdgphnaaGreatWalkMP1
import Derived.Test.YteibkihbdgphnaaGreatP12p
set_option linter.unusedSimpArgs false
set_option linter.unusedVariables false
set_option linter.unusedSectionVars false
open Nat renaming le_refl -> Xa
namespace Go.Proofs.YteibkihbdgphnaaGreat
open Go Go.RowKit TS VA BG
namespace MN
open Classical
noncomputable def q7a (t : GTime) : GTime := if ok t /\ t.D ≠ 4 then enT t else z0
noncomputable def qc9 (t : GTime) : GTime := if ok t /\ t.D ≠ 1 then leT t else z0
noncomputable def qf8 (t : GTime) : GTime := if ok t /\ lastT t ≠ qa5 t then nxT t else z0
theorem j1r (t : GTime) : okz (q7a t) := by unfold q7a; split; exact .inl (zk6 (by rename_i h; exact h.1) (by rename_i h; exact h.2)); exact zy2
theorem j1q (t : GTime) : okz (qc9 t) := by unfold qc9; split; exact .inl (j1s (by rename_i h; exact h.1) (by rename_i h; exact h.2)); exact zy2
theorem j47 (t : GTime) : okz (qf8 t) := by unfold qf8; split; exact .inl (z8g (by rename_i h; exact h.1) (by rename_i h; exact h.2)); exact zy2
theorem z9z {α β : Type} (c : Prop) [Decidable c] (a b : α) (x y : β) : (if c then (a, x) else (b, y)).1 = if c then a else b := by split <;> rfl
noncomputable def qb6 (g : GGraph) (s1 : Int) (to : Nat) : Nat -> Nat -> Nat
 | 0, e => e
 | f + 1, e => if e < to /\ s1 ∈ anc g.Parent (nd g e).Scope then qb6 g s1 to f (e + 1) else e
noncomputable def z15 (rnd : GTime -> MS -> Bool × MS) : Nat -> GTime -> MS -> MS
 | 0, _, s => s
 | k + 1, u, s => if (rnd u s).1 = true then z15 rnd k (qf8 u) (rnd u s).2 else (rnd u s).2
noncomputable def atA (g : GGraph) (n : Nat) (t : GTime) : GTime := if (nd g n).Kind = 10 then qc9 t else t
noncomputable def q9r (g : GGraph) (most : Int) (self : Nat -> Nat -> Int -> GTime -> MS -> Bool × MS) (to : Nat) (sc : Int) (t : GTime) : Nat -> Bool -> Nat -> MS -> Bool × MS
 | 0, ar, _, s => (ar, s)
 | f + 1, ar, n, s =>
  if n < to then
   if (nd g n).Scope ≠ sc then q9r g most self to sc t f ar (qb6 g (nd g n).Scope to (to - n) n) (z15 (self n (qb6 g (nd g n).Scope to (to - n) n) (nd g n).Scope) (bnd g (nd g n).Scope).toNat (q7a t) s)
   else q9r g most self to sc t f (ar || ((q1m g most s n (atA g n t)).1 && (nd g n).Kind == 12)) (n + 1) (q1m g most s n (atA g n t)).2
  else (ar, s)
noncomputable def q43 (g : GGraph) (most : Int) : Nat -> Nat -> Nat -> Int -> GTime -> MS -> Bool × MS
 | 0, _, _, _, _, s => (false, s)
 | d + 1, from_, to, sc, t, s => q9r g most (q43 g most d) to sc t (to - from_) false from_ s
theorem j0s {g : GGraph} (hG : VA.Good g) {r : GMean_runner} (hr : r.g = g) {s o : Int} (h0 : 0 <= s) (h1 : s < g.Parent.length) : q3g r s o = some (decide (o ∈ anc g.Parent s), r) := by
 have hw := hG.wp; have h8 := hG.pl; unfold q3g; refine Ok.eq (jh7 (fun p : Int => inS g.Parent.length p /\ ∃ pre, anc g.Parent s = pre ++ anc g.Parent p /\ o ∉ pre) (fun p => (p + 1).toNat) ?_ ⟨.inr ⟨h0, h1⟩, [], by simp, by simp⟩ (by simp only [rounds]; omega)); rintro rec p ⟨hi, pre, he, hnp⟩ hrec; unfold q68; rcases hi with rfl | hi
 . rw [if_neg (by simp)]; rw [q6t, List.append_nil] at he; exact Ok.some (by rw [he, decide_eq_false hnp])
 .
  rw [if_pos (by simpa using hi.1)]; have hst := q63 hw hi.1 hi.2; refine jh5 (fun h2 => Ok.some ?_) (fun h2 => ?_)
  . rw [beq_iff_eq] at h2; rw [decide_eq_true (by rw [he, hst, h2]; simp)]
  . rw [beq_eq_false_iff_ne] at h2; rw [hr, qh6 0 hi.1 hi.2]; refine Ok.bind (Ok.some ?_); have hdn := (hw.2 p hi.1 hi.2).1; exact hrec _ ⟨hw.down hi.1 hi.2, pre ++ [p], by rw [he, hst]; simp, by rw [List.mem_append, not_or, List.mem_singleton]; exact ⟨hnp, Ne.symm h2⟩⟩ (by first | omega | (simp only; omega))
theorem qw7 (g : GGraph) (s1 : Int) (to : Nat) : ∀ (f e : Nat), e <= to -> e <= qb6 g s1 to f e /\ qb6 g s1 to f e <= to /\ (∀ m, e <= m -> m < qb6 g s1 to f e -> s1 ∈ anc g.Parent (nd g m).Scope) /\ (to - e <= f -> qb6 g s1 to f e < to -> s1 ∉ anc g.Parent (nd g (qb6 g s1 to f e)).Scope)
 | 0, e, h => by
  unfold qb6; exact ⟨Xa _, h, fun m h1 h2 => by omega, fun h1 h2 => by omega⟩
 | f + 1, e, h => by
  unfold qb6
  split
  .
   rename_i hc
   obtain ⟨h1, h2, h3, h4⟩ := qw7 g s1 to f (e + 1) hc.1; refine ⟨by omega, h2, fun m m1 m2 => ?_, fun k1 k2 => h4 (by omega) k2⟩; rcases Nat.eq_or_lt_of_le m1 with rfl | m1
   . exact hc.2
   . exact h3 m m1 m2
  .
   rename_i hc
   exact ⟨Xa _, h, fun m h1 h2 => by omega, fun _ h2 h3 => hc ⟨h2, h3⟩⟩
theorem zu9 {g : GGraph} {s1 : Int} {to n : Nat} (h : n < to) (hs : s1 ∈ anc g.Parent (nd g n).Scope) : n < qb6 g s1 to (to - n) n := by
 obtain ⟨f, hf⟩ : ∃ f, to - n = f + 1 := ⟨to - n - 1, by omega⟩; rw [hf]; unfold qb6; rw [if_pos ⟨h, hs⟩]; have := (qw7 g s1 to f (n + 1) h).1; omega
theorem z0u {g : GGraph} (hG : VA.Good g) {s : Int} (h0 : 0 <= s) (h1 : s < g.Parent.length) : s ∈ anc g.Parent s := by rw [q63 hG.wp h0 h1]; simp
theorem j2s {g : GGraph} (hG : VA.Good g) {s : Int} (h0 : 0 <= s) (h1 : s < g.Parent.length) : 0 <= bnd g s /\ bnd g s <= 64 := by
 have hsc := hG.sc s.toNat (by omega); unfold sOk at hsc; unfold bnd
 by_cases hz : s.toNat = 0
 . rw [if_pos hz] at hsc; rw [hz]; simp at hsc; have := hsc.2; simp; omega
 . rw [if_neg hz] at hsc; simp only [Bool.and_eq_true, decide_eq_true_eq] at hsc; have := hsc.1.2; omega
section
variable {g : GGraph} (hG : VA.Good g) {C most : Int} (hC : 0 <= C) (hmo : 0 <= most) (hCm : C + most <= 7000)
include hG hC hmo hCm
theorem zj5 : ∀ (d k : Nat) {from_ to : Nat} {sc : Int} {t : GTime} {r : GMean_runner}, from_ <= to -> to <= g.Nodes.length -> okz t -> 0 <= sc -> sc < g.Parent.length -> (∀ m, from_ <= m -> m < to -> sc ∈ anc g.Parent (nd g m).Scope) ->
  g.Parent.length - sc.toNat <= d -> g.Parent.length - sc.toNat <= k -> St g C most r ->
  Ok (q18 k r from_ to sc t) fun v => v.1 = (q43 g most d from_ to sc t (ab r)).1 /\ St g C most v.2 /\ ab v.2 = (q43 g most d from_ to sc t (ab r)).2
 | 0, _, _, _, sc, _, _, _, _, _, h0, h1, _, hd, _, _ => by omega
 | _ + 1, 0, _, _, sc, _, _, _, _, _, h0, h1, _, _, hk, _ => by omega
 | d + 1, k + 1, from_, to, sc, t, r, hft, hto, ht, h0, h1, hin, hd, hk, hS => by
  have hnl := hG.nl
  show Ok (q37 (q18 k) r from_ to sc t) _
  unfold q37; have htar : q43 g most (d + 1) from_ to sc t (ab r) = q9r g most (q43 g most d) to sc t (to - from_) false from_ (ab r) := rfl; rw [htar]
  generalize hT : q9r g most (q43 g most d) to sc t (to - from_) false from_ (ab r) = target
  refine jh7 (fun q => ∃ (n f : Nat), q.2.1 = (n : Int) /\ from_ <= n /\ n <= to /\ to - n <= f /\ St g C most q.2.2 /\ q9r g most (q43 g most d) to sc t f q.1 n (ab q.2.2) = target) (fun q => to - q.2.1.toNat) ?_ ⟨from_, to - from_, rfl, Xa _, hft, Xa _, hS, hT⟩ (by simp only [rounds]; omega); rintro rec ⟨ar, nv, b⟩ ⟨n, f, hn, hn1, hn2, hf, hSb, htg⟩ hrec; dsimp only at hn hSb htg hrec; subst hn; have hbg := hSb.inv.gr; unfold q28; dsimp only; refine jh5 (fun hlt => ?_) (fun hlt => ?_)
  .
   have hlt : n < to := by simpa using hlt
   have hnN : n < g.Nodes.length := by omega
   obtain ⟨f', rfl⟩ : ∃ f', f = f' + 1 := ⟨f - 1, by omega⟩; obtain ⟨k1, k2, _⟩ := q58 hG hnN; unfold q9r at htg; rw [if_pos hlt] at htg; rw [hbg]; refine Ok.bind (jh6 hnN ?_); rw [qc0 hnN]; refine jh5 (fun hs => ?_) (fun hs => ?_)
   .
    -- a scope within
    have hs : (nd g n).Scope ≠ sc := by simpa using hs
    rw [if_pos hs] at htg; have hsin := hin n hn1 hlt; have hscl : sc < (nd g n).Scope := by
     have := z5u hG.wp ((nd g n).Scope.toNat + 1) (nd g n).Scope (.inr ⟨k1, k2⟩) (by omega) sc hsin; omega
    have hself := z0u hG k1 k2; have hgt := zu9 (g := g) hlt hself; obtain ⟨_, hE2, hE3, _⟩ := qw7 g (nd g n).Scope to (to - n) n hn2; obtain ⟨b1, b2⟩ := j2s hG k1 k2; have hbl := hG.bl
    generalize hE : qb6 g (nd g n).Scope to (to - n) n = E at *
    -- the end is looked for
    refine jh7 (fun q : Int × GMean_runner => q.2 = b /\ ∃ e f2 : Nat, q.1 = (e : Int) /\ n <= e /\ e <= to /\ to - e <= f2 /\ qb6 g (nd g n).Scope to f2 e = E) (fun q => to - q.1.toNat) ?_ ⟨rfl, n, to - n, rfl, Xa _, hn2, Xa _, hE⟩ (by simp only [rounds]; omega); rintro rec6 ⟨ev, b6⟩ ⟨hb6, e, f2, he, he1, he2, hf2, heE⟩ hrec6; dsimp only at hb6 he hrec6; subst hb6 he
    -- behind the end
    have hJ4 : e = E -> Ok (q26 t (q18 k) ar (n : Int) rec (nd g n) (e : Int) b6) fun v => v.1 = target.1 /\ St g C most v.2 /\ ab v.2 = target.2 := by
     rintro rfl; unfold q26; rw [zq2]; refine Ok.bind (Ok.some ?_); rw [z9z, hbg, qh6 0 k1 (by omega)]; refine Ok.bind (Ok.some ?_)
     generalize hS2 : z15 (q43 g most d n e (nd g n).Scope) (bnd g (nd g n).Scope).toNat (q7a t) (ab b6) = S2 at htg
     refine jh7 (fun q : Int × GMean_runner × GTime => ∃ i : Nat, q.1 = (i : Int) /\ (i : Int) <= bnd g (nd g n).Scope /\ okz q.2.2 /\ St g C most q.2.1 /\ z15 (q43 g most d n e (nd g n).Scope) ((bnd g (nd g n).Scope).toNat - i) q.2.2 (ab q.2.1) = S2) (fun q => 64 - q.1.toNat) ?_ ⟨0, rfl, b1, j1r t, hSb, hS2⟩ (by simp only [rounds]; omega); rintro rec5 ⟨iv, b5, u⟩ ⟨i, hi, hi2, hu, hS5, hl5⟩ hrec5; dsimp only at hi hu hS5 hl5 hrec5; subst hi; have hgo : ∀ (v : GMean_runner), St g C most v -> ab v = S2 -> Ok (rec (ar, (e : Int), v)) fun v => v.1 = target.1 /\ St g C most v.2 /\ ab v.2 = target.2 := fun v hv hv2 => by
      refine hrec _ ⟨e, f', rfl, by omega, he2, by omega, hv, ?_⟩ (by dsimp only; omega); dsimp only; rw [hv2]; exact htg
     unfold q6e; dsimp only; refine jh5 (fun hx => ?_) (fun hx => ?_)
     .
      have hx : (i : Int) < bnd g (nd g n).Scope := by simpa [bnd] using hx
      obtain ⟨j, hj⟩ : ∃ j, (bnd g (nd g n).Scope).toNat - i = j + 1 := ⟨(bnd g (nd g n).Scope).toNat - i - 1, by omega⟩; rw [hj] at hl5; unfold z15 at hl5; refine jh4 (zj5 d k (by omega) (by omega) hu k1 k2 hE3 (by omega) (by omega) hS5) fun v hv => ?_; obtain ⟨v1, v2, v3⟩ := hv; refine jh5 (fun hb => ?_) (fun hb => ?_)
      .
       have hb : v.1 = false := by simpa using hb
       rw [<- v1, hb, if_neg (by simp)] at hl5; exact hgo _ v2 (v3.trans hl5)
      .
       have hb : v.1 = true := by simpa using hb
       rw [<- v1, hb, if_pos rfl] at hl5; rw [zw1]; refine Ok.bind (Ok.some ?_); rw [z9z, iw (N := 64) (by omega) (by omega)]; refine hrec5 _ ⟨i + 1, rfl, by omega, j47 u, v2, ?_⟩ (by dsimp only; omega); dsimp only; rw [v3, show (bnd g (nd g n).Scope).toNat - (i + 1) = j by omega]; exact hl5
     .
      have hx : ¬ (i : Int) < bnd g (nd g n).Scope := by simpa [bnd] using hx
      rw [show (bnd g (nd g n).Scope).toNat - i = 0 by omega] at hl5; exact hgo _ hS5 hl5
    unfold q6d; dsimp only; refine jh5 (fun hx => ?_) (fun hx => ?_)
    .
     have hx : e < to := by simpa using hx
     have heN : e < g.Nodes.length := by omega
     obtain ⟨f3, rfl⟩ : ∃ f3, f2 = f3 + 1 := ⟨f2 - 1, by omega⟩; obtain ⟨e1, e2, _⟩ := q58 hG heN; rw [hbg]; refine Ok.bind (jh6 heN ?_); rw [qc0 heN, j0s hG hbg e1 e2]; refine Ok.bind (Ok.some ?_); unfold qb6 at heE; refine jh5 (fun hw => ?_) (fun hw => ?_)
     .
      have hw : (nd g n).Scope ∈ anc g.Parent (nd g e).Scope := by simpa using hw
      rw [if_pos ⟨hx, hw⟩] at heE; rw [iw heN (by omega)]; exact hrec6 _ ⟨rfl, e + 1, f3, rfl, by omega, hx, by omega, heE⟩ (by dsimp only; omega)
     .
      have hw : (nd g n).Scope ∉ anc g.Parent (nd g e).Scope := by simpa using hw
      rw [if_neg (fun h => hw h.2)] at heE; exact hJ4 heE
    .
     have hx : e = to := by
      have : ¬ e < to := by simpa using hx
      omega
     refine hJ4 ?_; rw [<- heE]
     cases f2 with
     | zero => rfl
     | succ f3 => unfold qb6; rw [if_neg (fun h => by omega)]
   .
    -- an operator of this scope
    have hs : (nd g n).Scope = sc := by simpa using hs
    rw [if_neg (fun h => h hs)] at htg; have hJ3 : ∀ u, u = atA g n t -> okz u -> Ok (q27 ar (n : Int) b rec (nd g n) u) fun v => v.1 = target.1 /\ St g C most v.2 /\ ab v.2 = target.2 := by
     rintro u rfl hu; unfold q27; refine jh4 (j7e hG hC hmo hCm hSb hnN hu) fun v hv => ?_; obtain ⟨v1, v2, v3⟩ := hv; rw [iw hnN (by omega)]; refine hrec _ ⟨n + 1, f', rfl, by omega, hlt, by omega, v2, ?_⟩ (by dsimp only; omega); dsimp only; rw [v1, v3]; exact htg
    unfold q4f; refine jh5 (fun hk => ?_) (fun hk => ?_)
    .
     have hk : (nd g n).Kind = 10 := by simpa using hk
     rw [zq1]; refine Ok.bind (Ok.some ?_); rw [z9z]; exact hJ3 _ (by unfold atA qc9; rw [if_pos hk]) (j1q t)
    .
     have hk : ¬ (nd g n).Kind = 10 := by simpa using hk
     exact hJ3 _ (by unfold atA; rw [if_neg hk]) ht
  .
   have hge : ¬ n < to := by simpa using hlt
   have : target = (ar, ab b) := by
    rw [<- htg]
    cases f with
    | zero => rfl
    | succ f' => unfold q9r; rw [if_neg hge]
   rw [this]; exact Ok.some ⟨rfl, hSb, rfl⟩
end
end MN
end Go.Proofs.YteibkihbdgphnaaGreat
