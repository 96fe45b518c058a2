/-
  The law in plain words: what its plain function gives is true. No condition beyond those that each theorem names.
-/
import Derived.Test.YteibkihbdgphnaaGreatWalkMA1
import Derived.Test.YteibkihbdgphnaaGreatP12p
set_option linter.unusedSimpArgs false
set_option linter.unusedVariables false
set_option linter.unusedSectionVars false
namespace Go.Proofs.YteibkihbdgphnaaGreat
open Go Go.RowKit TS VA BG
namespace MN
open Classical
noncomputable def qp3 (t : GTime) : GTime := if ok t ∧ t.D ≠ 4 then enT t else z0
noncomputable def qy4 (t : GTime) : GTime := if ok t ∧ t.D ≠ 1 then leT t else z0
noncomputable def z1j (t : GTime) : GTime := if ok t ∧ lastT t ≠ qj3 t then nxT t else z0
theorem j05 (t : GTime) : okz (qp3 t) := by unfold qp3; split; exact .inl (j07 (by rename_i h; exact h.1) (by rename_i h; exact h.2)); exact zt2
theorem j04 (t : GTime) : okz (qy4 t) := by unfold qy4; split; exact .inl (j06 (by rename_i h; exact h.1) (by rename_i h; exact h.2)); exact zt2
theorem j2r (t : GTime) : okz (z1j t) := by unfold z1j; split; exact .inl (ze9 (by rename_i h; exact h.1) (by rename_i h; exact h.2)); exact zt2
theorem z8j {α β : Type} (c : Prop) [Decidable c] (a b : α) (x y : β) : (if c then (a, x) else (b, y)).1 = if c then a else b := by split <;> rfl
noncomputable def qg7 (g : GGraph) (s1 : Int) (to : Nat) : Nat → Nat → Nat
 | 0, e => e
 | f + 1, e => if e < to ∧ s1 ∈ anc g.Parent (nd g e).Scope then qg7 g s1 to f (e + 1) else e
noncomputable def q98 (rnd : GTime → MS → Bool × MS) : Nat → GTime → MS → MS
 | 0, _, s => s
 | k + 1, u, s => if (rnd u s).1 = true then q98 rnd k (z1j u) (rnd u s).2 else (rnd u s).2
noncomputable def atA (g : GGraph) (n : Nat) (t : GTime) : GTime := if (nd g n).Kind = 10 then qy4 t else t
noncomputable def q6u (g : GGraph) (most : Int) (self : Nat → Nat → Int → GTime → MS → Bool × MS) (to : Nat) (sc : Int) (t : GTime) : Nat → Bool → Nat → MS → Bool × MS
 | 0, ar, _, s => (ar, s)
 | f + 1, ar, n, s =>
  if n < to then
   if (nd g n).Scope ≠ sc then q6u g most self to sc t f ar (qg7 g (nd g n).Scope to (to - n) n) (q98 (self n (qg7 g (nd g n).Scope to (to - n) n) (nd g n).Scope) (bnd g (nd g n).Scope).toNat (qp3 t) s)
   else q6u g most self to sc t f (ar || ((q3a g most s n (atA g n t)).1 && (nd g n).Kind == 12)) (n + 1) (q3a g most s n (atA g n t)).2
  else (ar, s)
noncomputable def q5x (g : GGraph) (most : Int) : Nat → Nat → Nat → Int → GTime → MS → Bool × MS
 | 0, _, _, _, _, s => (false, s)
 | d + 1, from_, to, sc, t, s => q6u g most (q5x g most d) to sc t (to - from_) false from_ s
theorem zx5 {g : GGraph} (hG : VA.Good g) {r : GMean_runner} (hr : r.g = g) {s o : Int} (h0 : 0 ≤ s) (h1 : s < g.Parent.length) : q35 r s o = some (decide (o ∈ anc g.Parent s), r) := by
 have hw := hG.wp; have h8 := hG.pl; unfold q35; refine jb4 (jb3 (fun p : Int => inS g.Parent.length p ∧ ∃ pre, anc g.Parent s = pre ++ anc g.Parent p ∧ o ∉ pre) (fun p => (p + 1).toNat) ?_ ⟨.inr ⟨h0, h1⟩, [], by simp, by simp⟩ (by simp only [rounds]; omega)); rintro rec p ⟨hi, pre, he, hnp⟩ hrec; unfold q5v; rcases hi with rfl | hi
 · rw [if_neg (by simp)]; rw [q83, List.append_nil] at he; exact Ok.some (by rw [he, decide_eq_false hnp])
 ·
  rw [if_pos (by simpa using hi.1)]; have hst := q82 hw hi.1 hi.2; refine jb1 (fun h2 => Ok.some ?_) (fun h2 => ?_)
  · rw [beq_iff_eq] at h2; rw [decide_eq_true (by rw [he, hst, h2]; simp)]
  · rw [beq_eq_false_iff_ne] at h2; rw [hr, qf4 0 hi.1 hi.2]; refine Ok.bind (Ok.some ?_); have hdn := (hw.2 p hi.1 hi.2).1; exact hrec _ ⟨hw.down hi.1 hi.2, pre ++ [p], by rw [he, hst]; simp, by rw [List.mem_append, not_or, List.mem_singleton]; exact ⟨hnp, Ne.symm h2⟩⟩ (by first | omega | (simp only; omega))
theorem qt5 (g : GGraph) (s1 : Int) (to : Nat) : ∀ (f e : Nat), e ≤ to → e ≤ qg7 g s1 to f e ∧ qg7 g s1 to f e ≤ to ∧ (∀ m, e ≤ m → m < qg7 g s1 to f e → s1 ∈ anc g.Parent (nd g m).Scope) ∧ (to - e ≤ f → qg7 g s1 to f e < to → s1 ∉ anc g.Parent (nd g (qg7 g s1 to f e)).Scope)
 | 0, e, h => by
  unfold qg7; exact ⟨Nat.le_refl _, h, fun m h1 h2 => by omega, fun h1 h2 => by omega⟩
 | f + 1, e, h => by
  unfold qg7
  split
  ·
   rename_i hc
   obtain ⟨h1, h2, h3, h4⟩ := qt5 g s1 to f (e + 1) hc.1; refine ⟨by omega, h2, fun m m1 m2 => ?_, fun k1 k2 => h4 (by omega) k2⟩; rcases Nat.eq_or_lt_of_le m1 with rfl | m1
   · exact hc.2
   · exact h3 m m1 m2
  ·
   rename_i hc
   exact ⟨Nat.le_refl _, h, fun m h1 h2 => by omega, fun _ h2 h3 => hc ⟨h2, h3⟩⟩
theorem j5t {g : GGraph} {s1 : Int} {to n : Nat} (h : n < to) (hs : s1 ∈ anc g.Parent (nd g n).Scope) : n < qg7 g s1 to (to - n) n := by
 obtain ⟨f, hf⟩ : ∃ f, to - n = f + 1 := ⟨to - n - 1, by omega⟩; rw [hf]; unfold qg7; rw [if_pos ⟨h, hs⟩]; have := (qt5 g s1 to f (n + 1) h).1; omega
theorem j3p {g : GGraph} (hG : VA.Good g) {s : Int} (h0 : 0 ≤ s) (h1 : s < g.Parent.length) : s ∈ anc g.Parent s := by rw [q82 hG.wp h0 h1]; simp
theorem j7q {g : GGraph} (hG : VA.Good g) {s : Int} (h0 : 0 ≤ s) (h1 : s < g.Parent.length) : 0 ≤ bnd g s ∧ bnd g s ≤ 64 := by
 have hsc := hG.sc s.toNat (by omega); unfold sOk at hsc; unfold bnd
 by_cases hz : s.toNat = 0
 · rw [if_pos hz] at hsc; rw [hz]; simp at hsc; have := hsc.2; simp; omega
 · rw [if_neg hz] at hsc; simp only [Bool.and_eq_true, decide_eq_true_eq] at hsc; have := hsc.1.2; omega
section
variable {g : GGraph} (hG : VA.Good g) {C most : Int} (hC : 0 ≤ C) (hmo : 0 ≤ most) (hCm : C + most ≤ 7000)
include hG hC hmo hCm
theorem zd8 : ∀ (d k : Nat) {from_ to : Nat} {sc : Int} {t : GTime} {r : GMean_runner}, from_ ≤ to → to ≤ g.Nodes.length → okz t → 0 ≤ sc → sc < g.Parent.length → (∀ m, from_ ≤ m → m < to → sc ∈ anc g.Parent (nd g m).Scope) →
  g.Parent.length - sc.toNat ≤ d → g.Parent.length - sc.toNat ≤ k → St g C most r →
  Ok (q14 k r from_ to sc t) fun v => v.1 = (q5x g most d from_ to sc t (ab r)).1 ∧ St g C most v.2 ∧ ab v.2 = (q5x g most d from_ to sc t (ab r)).2
 | 0, _, _, _, sc, _, _, _, _, _, h0, h1, _, hd, _, _ => by omega
 | _ + 1, 0, _, _, sc, _, _, _, _, _, h0, h1, _, _, hk, _ => by omega
 | d + 1, k + 1, from_, to, sc, t, r, hft, hto, ht, h0, h1, hin, hd, hk, hS => by
  have hnl := hG.nl
  show Ok (q2v (q14 k) r from_ to sc t) _
  unfold q2v; have htar : q5x g most (d + 1) from_ to sc t (ab r) = q6u g most (q5x g most d) to sc t (to - from_) false from_ (ab r) := rfl; rw [htar]
  generalize hT : q6u g most (q5x g most d) to sc t (to - from_) false from_ (ab r) = target
  refine jb3 (fun q => ∃ (n f : Nat), q.2.1 = (n : Int) ∧ from_ ≤ n ∧ n ≤ to ∧ to - n ≤ f ∧ St g C most q.2.2 ∧ q6u g most (q5x g most d) to sc t f q.1 n (ab q.2.2) = target) (fun q => to - q.2.1.toNat) ?_ ⟨from_, to - from_, rfl, Nat.le_refl _, hft, Nat.le_refl _, hS, hT⟩ (by simp only [rounds]; omega); rintro rec ⟨ar, nv, b⟩ ⟨n, f, hn, hn1, hn2, hf, hSb, htg⟩ hrec; dsimp only at hn hSb htg hrec; subst hn; have hbg := hSb.inv.gr; unfold q20; dsimp only; refine jb1 (fun hlt => ?_) (fun hlt => ?_)
  ·
   have hlt : n < to := by simpa using hlt
   have hnN : n < g.Nodes.length := by omega
   obtain ⟨f', rfl⟩ : ∃ f', f = f' + 1 := ⟨f - 1, by omega⟩; obtain ⟨k1, k2, _⟩ := qw8 hG hnN; unfold q6u at htg; rw [if_pos hlt] at htg; rw [hbg]; refine Ok.bind (jb2 hnN ?_); rw [qf1 hnN]; refine jb1 (fun hs => ?_) (fun hs => ?_)
   ·
    -- a scope within
    have hs : (nd g n).Scope ≠ sc := by simpa using hs
    rw [if_pos hs] at htg; have hsin := hin n hn1 hlt; have hscl : sc < (nd g n).Scope := by
     have := zq8 hG.wp ((nd g n).Scope.toNat + 1) (nd g n).Scope (.inr ⟨k1, k2⟩) (by omega) sc hsin; omega
    have hself := j3p hG k1 k2; have hgt := j5t (g := g) hlt hself; obtain ⟨_, hE2, hE3, _⟩ := qt5 g (nd g n).Scope to (to - n) n hn2; obtain ⟨b1, b2⟩ := j7q hG k1 k2; have hbl := hG.bl
    generalize hE : qg7 g (nd g n).Scope to (to - n) n = E at *
    -- the end is looked for
    refine jb3 (fun q : Int × GMean_runner => q.2 = b ∧ ∃ e f2 : Nat, q.1 = (e : Int) ∧ n ≤ e ∧ e ≤ to ∧ to - e ≤ f2 ∧ qg7 g (nd g n).Scope to f2 e = E) (fun q => to - q.1.toNat) ?_ ⟨rfl, n, to - n, rfl, Nat.le_refl _, hn2, Nat.le_refl _, hE⟩ (by simp only [rounds]; omega); rintro rec6 ⟨ev, b6⟩ ⟨hb6, e, f2, he, he1, he2, hf2, heE⟩ hrec6; dsimp only at hb6 he hrec6; subst hb6 he
    -- behind the end
    have hJ4 : e = E → Ok (q1x t (q14 k) ar (n : Int) rec (nd g n) (e : Int) b6) fun v => v.1 = target.1 ∧ St g C most v.2 ∧ ab v.2 = target.2 := by
     rintro rfl; unfold q1x; rw [zk9]; refine Ok.bind (Ok.some ?_); rw [z8j, hbg, qf4 0 k1 (by omega)]; refine Ok.bind (Ok.some ?_)
     generalize hS2 : q98 (q5x g most d n e (nd g n).Scope) (bnd g (nd g n).Scope).toNat (qp3 t) (ab b6) = S2 at htg
     refine jb3 (fun q : Int × GMean_runner × GTime => ∃ i : Nat, q.1 = (i : Int) ∧ (i : Int) ≤ bnd g (nd g n).Scope ∧ okz q.2.2 ∧ St g C most q.2.1 ∧ q98 (q5x g most d n e (nd g n).Scope) ((bnd g (nd g n).Scope).toNat - i) q.2.2 (ab q.2.1) = S2) (fun q => 64 - q.1.toNat) ?_ ⟨0, rfl, b1, j05 t, hSb, hS2⟩ (by simp only [rounds]; omega); rintro rec5 ⟨iv, b5, u⟩ ⟨i, hi, hi2, hu, hS5, hl5⟩ hrec5; dsimp only at hi hu hS5 hl5 hrec5; subst hi; have hgo : ∀ (v : GMean_runner), St g C most v → ab v = S2 → Ok (rec (ar, (e : Int), v)) fun v => v.1 = target.1 ∧ St g C most v.2 ∧ ab v.2 = target.2 := fun v hv hv2 => by
      refine hrec _ ⟨e, f', rfl, by omega, he2, by omega, hv, ?_⟩ (by dsimp only; omega); dsimp only; rw [hv2]; exact htg
     unfold q63; dsimp only; refine jb1 (fun hx => ?_) (fun hx => ?_)
     ·
      have hx : (i : Int) < bnd g (nd g n).Scope := by simpa [bnd] using hx
      obtain ⟨j, hj⟩ : ∃ j, (bnd g (nd g n).Scope).toNat - i = j + 1 := ⟨(bnd g (nd g n).Scope).toNat - i - 1, by omega⟩; rw [hj] at hl5; unfold q98 at hl5; refine jb0 (zd8 d k (by omega) (by omega) hu k1 k2 hE3 (by omega) (by omega) hS5) fun v hv => ?_; obtain ⟨v1, v2, v3⟩ := hv; refine jb1 (fun hb => ?_) (fun hb => ?_)
      ·
       have hb : v.1 = false := by simpa using hb
       rw [← v1, hb, if_neg (by simp)] at hl5; exact hgo _ v2 (v3.trans hl5)
      ·
       have hb : v.1 = true := by simpa using hb
       rw [← v1, hb, if_pos rfl] at hl5; rw [zr0]; refine Ok.bind (Ok.some ?_); rw [z8j, iw (N := 64) (by omega) (by omega)]; refine hrec5 _ ⟨i + 1, rfl, by omega, j2r u, v2, ?_⟩ (by dsimp only; omega); dsimp only; rw [v3, show (bnd g (nd g n).Scope).toNat - (i + 1) = j by omega]; exact hl5
     ·
      have hx : ¬ (i : Int) < bnd g (nd g n).Scope := by simpa [bnd] using hx
      rw [show (bnd g (nd g n).Scope).toNat - i = 0 by omega] at hl5; exact hgo _ hS5 hl5
    unfold q62; dsimp only; refine jb1 (fun hx => ?_) (fun hx => ?_)
    ·
     have hx : e < to := by simpa using hx
     have heN : e < g.Nodes.length := by omega
     obtain ⟨f3, rfl⟩ : ∃ f3, f2 = f3 + 1 := ⟨f2 - 1, by omega⟩; obtain ⟨e1, e2, _⟩ := qw8 hG heN; rw [hbg]; refine Ok.bind (jb2 heN ?_); rw [qf1 heN, zx5 hG hbg e1 e2]; refine Ok.bind (Ok.some ?_); unfold qg7 at heE; refine jb1 (fun hw => ?_) (fun hw => ?_)
     ·
      have hw : (nd g n).Scope ∈ anc g.Parent (nd g e).Scope := by simpa using hw
      rw [if_pos ⟨hx, hw⟩] at heE; rw [iw heN (by omega)]; exact hrec6 _ ⟨rfl, e + 1, f3, rfl, by omega, hx, by omega, heE⟩ (by dsimp only; omega)
     ·
      have hw : (nd g n).Scope ∉ anc g.Parent (nd g e).Scope := by simpa using hw
      rw [if_neg (fun h => hw h.2)] at heE; exact hJ4 heE
    ·
     have hx : e = to := by
      have : ¬ e < to := by simpa using hx
      omega
     refine hJ4 ?_; rw [← heE]
     cases f2 with
     | zero => rfl
     | succ f3 => unfold qg7; rw [if_neg (fun h => by omega)]
   ·
    -- an operator of this scope
    have hs : (nd g n).Scope = sc := by simpa using hs
    rw [if_neg (fun h => h hs)] at htg; have hJ3 : ∀ u, u = atA g n t → okz u → Ok (q1y ar (n : Int) b rec (nd g n) u) fun v => v.1 = target.1 ∧ St g C most v.2 ∧ ab v.2 = target.2 := by
     rintro u rfl hu; unfold q1y; refine jb0 (j5s hG hC hmo hCm hSb hnN hu) fun v hv => ?_; obtain ⟨v1, v2, v3⟩ := hv; rw [iw hnN (by omega)]; refine hrec _ ⟨n + 1, f', rfl, by omega, hlt, by omega, v2, ?_⟩ (by dsimp only; omega); dsimp only; rw [v1, v3]; exact htg
    unfold q41; refine jb1 (fun hk => ?_) (fun hk => ?_)
    ·
     have hk : (nd g n).Kind = 10 := by simpa using hk
     rw [zk8]; refine Ok.bind (Ok.some ?_); rw [z8j]; exact hJ3 _ (by unfold atA qy4; rw [if_pos hk]) (j04 t)
    ·
     have hk : ¬ (nd g n).Kind = 10 := by simpa using hk
     exact hJ3 _ (by unfold atA; rw [if_neg hk]) ht
  ·
   have hge : ¬ n < to := by simpa using hlt
   have : target = (ar, ab b) := by
    rw [← htg]
    cases f with
    | zero => rfl
    | succ f' => unfold q6u; rw [if_neg hge]
   rw [this]; exact Ok.some ⟨rfl, hSb, rfl⟩
end
end MN
end Go.Proofs.YteibkihbdgphnaaGreat
