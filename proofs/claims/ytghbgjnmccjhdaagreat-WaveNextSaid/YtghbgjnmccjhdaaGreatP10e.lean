/-
  The law in plain words: what its plain function gives is true. No condition beyond those that each theorem names.
-/
import Derived.Test.YtghbgjnmccjhdaaGreatWalkWN0
import Derived.Test.YtghbgjnmccjhdaaGreatP10d
set_option linter.unusedSimpArgs false
set_option linter.unusedVariables false
set_option linter.unusedSectionVars false
namespace Go.Proofs.YtghbgjnmccjhdaaGreat
open Go Go.RowKit VA
namespace HP
open Classical
theorem z7x {σ τ R : Type} {body : (σ → Option R) → σ → Option R} (st : τ → σ) (I : τ → Prop) (μ : τ → Nat) {Q : R → Prop}
  (h : ∀ (rec : σ → Option R) t, I t → (∀ t', I t' → μ t' < μ t → Ok (rec (st t')) Q) → Ok (body rec (st t)) Q) : ∀ (n : Nat) (t : τ), I t → μ t < n → Ok (u7 body n (st t)) Q
 | 0, t, _, hm => absurd hm (by omega)
 | n + 1, t, hi, hm => h (u7 body n) t hi fun t' hi' hm' => z7x st I μ h n t' hi' (by omega)
def gh (F : Int) (row : List (List Hp)) : List (List GHop) := row.map fun L => L.map (mkp F)
theorem gh_get {F : Int} {row : List (List Hp)} {v : Nat} (hv : v < row.length) {Q : List GHop → Prop} (h : Q ((rw_ row v).map (mkp F))) : Ok (idx (gh F row) (v : Int)) Q := by
 refine j6l (by unfold gh; simpa using hv) ?_; unfold gh; rw [List.getElem_map]; have : rw_ row v = row[v] := by unfold rw_; rw [List.getD_eq_getElem?_getD, List.getElem?_eq_getElem hv]; rfl
 rw [← this]; exact h
theorem j3o {F : Int} {row : List (List Hp)} {v : Nat} {L : List Hp} : List.set (gh F row) v (L.map (mkp F)) = gh F (row.set v L) := by unfold gh; rw [List.map_set]
theorem z8o {row : List (List Hp)} {v : Nat} : row.set v (rw_ row v) = row := by
 refine List.ext_getElem? fun i => ?_
 by_cases h : i = v
 ·
  subst h
  by_cases hi : i < row.length
  · rw [List.getElem?_set_self hi]; unfold rw_; rw [List.getD_eq_getElem?_getD, List.getElem?_eq_getElem hi]; rfl
  · rw [List.getElem?_eq_none (by rw [List.length_set]; omega), List.getElem?_eq_none (by omega)]
 · rw [List.getElem?_set_ne (fun e => h e.symm)]
def stepE (g : GGraph) (e : GEdge) : Hp := stepP (lev g e.From.toNat) (nd g e.From.toNat).Kind
def ClE (g : GGraph) (F : Int) (row : List (List Hp)) (e : GEdge) : Prop := ∀ h ∈ rw_ row e.From.toNat, Rh F (thp h (stepE g e)).1 (thp h (stepE g e)).2 → cov (rw_ row e.To.toNat) (thp h (stepE g e))
def q8k (g : GGraph) : List GHop := g.Edges.map fun e => mkp (lev g e.From.toNat) (stepE g e)
structure J (g : GGraph) (F : Int) (start : List (List Hp)) (more : Bool) (row : List (List Hp)) : Prop where
 R : Row F g.Nodes.length (lev g) row
 c : covRow start row
 t : more = true → Phi g.Nodes.length (lev g) start < Phi g.Nodes.length (lev g) row
 f : more = false → row = start
section
variable {g : GGraph} (hG : VA.Good g) {F : Int}
include hG
theorem j1o {start row0 : List (List Hp)} {more0 : Bool} (j0 : J g F start more0 row0) {i : Nat} (hi : i < g.Edges.length) {rec_4 : Bool × Int × (List (List GHop)) → Option (List (List (List GHop)))} {Q : List (List (List GHop)) → Prop}
  (hr : ∀ more row, J g F start more row → (more = false → more0 = false ∧ ClE g F start g.Edges[i]) → Ok (rec_4 (more, ((i + 1 : Nat) : Int), gh F row)) Q) :
  Ok (u7 (q7e (q8k g) (i : Int) rec_4 g.Edges[i] ((rw_ row0 g.Edges[i].From.toNat).map (mkp F))) rounds (more0, 0, gh F row0)) Q := by
 have hn := hG.nl; have hel := hG.el; have hm := List.getElem_mem hi; obtain ⟨hf, ht, _⟩ := hG.ed.at hm; have hfn : g.Edges[i].From.toNat < g.Nodes.length := by have := hf.1; have := hf.2; omega
 have htn : g.Edges[i].To.toNat < g.Nodes.length := by have := ht.1; have := ht.2; omega
 have htc : g.Edges[i].To = ((g.Edges[i].To.toNat : Nat) : Int) := by have := ht.1; omega
 have hst : Rp (lev g g.Edges[i].From.toNat : Int) (lev g g.Edges[i].To.toNat) (stepE g g.Edges[i]) := (step_eq hG hm).1; obtain ⟨k10, k11, k12, _⟩ := z97 hG hfn; have h14 := lev4 hG; have hsh := j0.R.short (by omega) (fun v => (h14 v).2) g.Edges[i].From.toNat; refine qr4 (l := rw_ row0 g.Edges[i].From.toNat) (by omega) (fun k (p : Bool × List (List Hp)) => (p.1, k, gh F p.2)) (fun p => p.2.1) (fun _ _ => rfl)
  (fun k p => J g F start p.1 p.2 ∧ covRow row0 p.2 ∧ (p.1 = false → more0 = false ∧ ∀ h ∈ (rw_ row0 g.Edges[i].From.toNat).take k, Rh F (thp h (stepE g g.Edges[i])).1 (thp h (stepE g g.Edges[i])).2 → cov (rw_ start g.Edges[i].To.toNat) (thp h (stepE g g.Edges[i])))) (s0 := (more0, row0)) 0 (fun rec k hk p _ hI hr' => ?_) (fun rec p hI => ?_) ⟨j0, covRow.refl _, fun h => ⟨h, by simp⟩⟩ (Nat.zero_le _)
 ·
  obtain ⟨more, row⟩ := p; obtain ⟨I1, I2, I3⟩ := hI; dsimp only at I1 I2 I3; have hh := List.getElem_mem hk; obtain ⟨hrh, hln⟩ := j0.R.rp _ _ hh; unfold q7e; dsimp only; rw [if_pos (by simp; omega), iw hk (by omega)]; refine Ok.bind (j6l (by simpa using hk) ?_); rw [List.getElem_map]; have hsi : idx (q8k g) (i : Int) = some (mkp (lev g g.Edges[i].From.toNat) (stepE g g.Edges[i])) := j6n (j6l (by unfold q8k; simpa using hi) (by unfold q8k; rw [List.getElem_map])); rw [hsi]; refine Ok.bind (Ok.some ?_); have hThen := j2a (F := F) (n := (lev g g.Edges[i].From.toNat : Int)) hrh hst.1 (by omega); obtain ⟨x, hx⟩ : ∃ x : Hp, x = thp (rw_ row0 g.Edges[i].From.toNat)[k] (stepE g g.Edges[i]) := ⟨_, rfl⟩; have hThen' : qg2 (mkp F (rw_ row0 g.Edges[i].From.toNat)[k]) (mkp (lev g g.Edges[i].From.toNat) (stepE g g.Edges[i])) = some (if Rh F x.1 x.2 then (mkp F x, true) else (none, false)) := by rw [hx]; exact hThen
  rw [hThen']; clear hThen hThen'; refine Ok.bind (Ok.some ?_); have hlast : ∀ more : Bool, (more = false → more0 = false ∧ ∀ h ∈ (rw_ row0 g.Edges[i].From.toNat).take k, Rh F (thp h (stepE g g.Edges[i])).1 (thp h (stepE g g.Edges[i])).2 → cov (rw_ start g.Edges[i].To.toNat) (thp h (stepE g g.Edges[i]))) →
    more = false → (Rh F x.1 x.2 → cov (rw_ start g.Edges[i].To.toNat) x) → more0 = false ∧ ∀ h ∈ (rw_ row0 g.Edges[i].From.toNat).take (k + 1), Rh F (thp h (stepE g g.Edges[i])).1 (thp h (stepE g g.Edges[i])).2 → cov (rw_ start g.Edges[i].To.toNat) (thp h (stepE g g.Edges[i])) := fun more I3 hmo hxc => by
   obtain ⟨b1, b2⟩ := I3 hmo; refine ⟨b1, fun h hhm hhr => ?_⟩; rw [snoc hk, List.mem_append, List.mem_singleton] at hhm; rcases hhm with hhm | rfl
   · exact b2 h hhm hhr
   · rw [← hx] at hhr ⊢; exact hxc hhr
  by_cases hR : Rh F x.1 x.2
  ·
   rw [if_pos hR]; dsimp only; rw [if_pos rfl]; have hrl := I1.R.len; rw [htc]; refine Ok.bind (gh_get (by omega) ?_); have hkl := hst.1.kl; have hkf := hst.1.kf; have hxl : x.2.length = lev g g.Edges[i].To.toNat := by
    rw [← hst.2, hx]
    show (th _ _ _).length = _
    unfold th; rw [List.length_append, ql7 (by omega) hkl, List.length_drop]; omega
   have hxp : Rp F (lev g g.Edges[i].To.toNat) x := ⟨hR, hxl⟩; have hx0 : x.2.getD 0 0 = 0 := by rw [hx]; exact j3u j0.R hh k11 k12 (h14 _).1
   have hxw : lev g g.Edges[i].To.toNat = 4 → ∀ row', covRow row row' → Wit g.Nodes.length (lev g) row' x := fun h4 row' hc => by
    rw [hx]; exact j1z j0.R hfn hh k11 k12 (fun v => (h14 v).2) (h14 _).1 (covRow.trans I2 hc) (by
     have := hst.2; unfold stepE at this; rw [this]; exact h4)
   have hsh2 := I1.R.short (by omega) (fun v => (h14 v).2) g.Edges[i].To.toNat; rw [put_eq (I1.R.rp _) hxp (by omega)]; refine Ok.bind (Ok.some ?_); dsimp only; rw [Int.toNat_natCast, j3o]; obtain ⟨R', c'⟩ := I1.R.put htn hxp hx0 hxw; have hself := zu3 (rw_ row g.Edges[i].To.toNat) x; have hcs : cov (rw_ (row.set g.Edges[i].To.toNat (q6v (rw_ row g.Edges[i].To.toNat) x).1) g.Edges[i].To.toNat) x := by
    rw [qw1 (by omega), if_pos rfl]; exact hself
   have hx3 : x.2.getD 3 0 < 33 := by
    by_cases h4 : lev g g.Edges[i].To.toNat = 4
    · have := (hxw h4 row (covRow.refl _)).small (by omega); omega
    · have := (h14 g.Edges[i].To.toNat).2; rw [getD_none (by omega)]; decide
   refine hr' (more || (q6v (rw_ row g.Edges[i].To.toNat) x).2, row.set g.Edges[i].To.toNat (q6v (rw_ row g.Edges[i].To.toNat) x).1) ⟨⟨R', covRow.trans I1.c c', fun hmo => ?_, fun hmo => ?_⟩, covRow.trans I2 c', fun hmo => ?_⟩
   ·
    dsimp only at hmo ⊢
    cases hfr : (q6v (rw_ row g.Edges[i].To.toNat) x).2 with
    | true => exact Nat.lt_of_le_of_lt (j49 I1.c) (j48 c' htn hxp hx0 hx3 (j1c hfr) hcs)
    | false =>
     rw [hfr, Bool.or_false] at hmo; rw [z5u hfr, z8o]; exact I1.t hmo
   · dsimp only at hmo ⊢; simp only [Bool.or_eq_false_iff] at hmo; rw [z5u hmo.2, z8o]; exact I1.f hmo.1
   · dsimp only at hmo; simp only [Bool.or_eq_false_iff] at hmo; refine hlast more I3 hmo.1 fun _ => ?_; rw [z5u hmo.2, I1.f hmo.1] at hself; exact hself
  · rw [if_neg hR]; dsimp only; rw [if_neg (by simp)]; exact hr' (more, row) ⟨I1, I2, fun hmo => hlast more I3 hmo fun h => absurd h hR⟩
 · obtain ⟨more, row⟩ := p; obtain ⟨I1, I2, I3⟩ := hI; dsimp only at I1 I2 I3; unfold q7e; dsimp only; rw [if_neg (by simp), iw hi (by omega)]; refine hr more row I1 fun hmo => ?_; obtain ⟨b1, b2⟩ := I3 hmo; rw [List.take_length] at b2; refine ⟨b1, ?_⟩; rw [j0.f b1] at b2; exact b2
end
end HP
end Go.Proofs.YtghbgjnmccjhdaaGreat
