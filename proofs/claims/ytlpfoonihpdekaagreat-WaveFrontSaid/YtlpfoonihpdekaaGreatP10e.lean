/-
  The law in plain words: what its plain function gives is true. No condition beyond those that each theorem names.
-/
import Derived.Test.YtlpfoonihpdekaaGreatWalkWF0
import Derived.Test.YtlpfoonihpdekaaGreatP10d
set_option linter.unusedSimpArgs false
set_option linter.unusedVariables false
set_option linter.unusedSectionVars false
namespace Go.Proofs.YtlpfoonihpdekaaGreat
open Go Go.RowKit VA
namespace HP
open Classical
theorem z96 {σ τ R : Type} {body : (σ → Option R) → σ → Option R} (st : τ → σ) (I : τ → Prop) (μ : τ → Nat) {Q : R → Prop}
  (h : ∀ (rec : σ → Option R) t, I t → (∀ t', I t' → μ t' < μ t → Ok (rec (st t')) Q) → Ok (body rec (st t)) Q) : ∀ (n : Nat) (t : τ), I t → μ t < n → Ok (w9 body n (st t)) Q
 | 0, t, _, hm => absurd hm (by omega)
 | n + 1, t, hi, hm => h (w9 body n) t hi fun t' hi' hm' => z96 st I μ h n t' hi' (by omega)
def gh (F : Int) (row : List (List Hp)) : List (List GHop) := row.map fun L => L.map (mkp F)
theorem qe3 {F : Int} {row : List (List Hp)} {v : Nat} (hv : v < row.length) {Q : List GHop → Prop} (h : Q ((p9 row v).map (mkp F))) : Ok (idx (gh F row) (v : Int)) Q := by
 refine ja0 (by unfold gh; simpa using hv) ?_; unfold gh; rw [List.getElem_map]; have : p9 row v = row[v] := by unfold p9; rw [List.getD_eq_getElem?_getD, List.getElem?_eq_getElem hv]; rfl
 rw [← this]; exact h
theorem z9c {F : Int} {row : List (List Hp)} {v : Nat} {L : List Hp} : List.set (gh F row) v (L.map (mkp F)) = gh F (row.set v L) := by unfold gh; rw [List.map_set]
theorem zi1 {row : List (List Hp)} {v : Nat} : row.set v (p9 row v) = row := by
 refine List.ext_getElem? fun i => ?_
 by_cases h : i = v
 ·
  subst h
  by_cases hi : i < row.length
  · rw [List.getElem?_set_self hi]; unfold p9; rw [List.getD_eq_getElem?_getD, List.getElem?_eq_getElem hi]; rfl
  · rw [List.getElem?_eq_none (by rw [List.length_set]; omega), List.getElem?_eq_none (by omega)]
 · rw [List.getElem?_set_ne (fun e => h e.symm)]
theorem qd6 {ts xs : List Int} {k : Nat} (h1 : k ≤ ts.length) (h2 : k ≤ xs.length) : (th ts xs k).length = xs.length := by
 unfold th; rw [List.length_append, qt2 h1 h2, List.length_drop]; omega
theorem qz2 {ts xs : List Int} {k i : Nat} (h1 : k ≤ ts.length) (h2 : k ≤ xs.length) (hi : i < xs.length) : (th ts xs k).getD i 0 = if i < k then ts.getD i 0 + xs.getD i 0 else xs.getD i 0 := by
 unfold th; rw [List.getD_eq_getElem?_getD]
 by_cases h : i < k
 · rw [if_pos h, List.getElem?_append_left (by rw [qt2 h1 h2]; exact h), List.getElem?_eq_getElem (by rw [qt2 h1 h2]; exact h), zh9 h1 h2 h, q1g (by omega), q1g hi]; rfl
 · rw [if_neg h, List.getElem?_append_right (by rw [qt2 h1 h2]; omega), qt2 h1 h2, List.getElem?_drop, List.getD_eq_getElem?_getD, show k + (i - k) = i by omega]
theorem zh3 {F n : Int} {m : Nat} {z h s : Hp} (hz : Rp F m z) (hh : Rp F m h) (hn : n = (m : Int)) (hs : Rh n s.1 s.2) (hzh : hle z h) (hR : Rh F (thp h s).1 (thp h s).2) : Rh F (thp z s).1 (thp z s).2 ∧ hle (thp z s) (thp h s) := by
 obtain ⟨hzr, hzl⟩ := hz; obtain ⟨hhr, hhl⟩ := hh; have hkf := hs.kf; have hkl := hs.kl; have l1 : (th z.2 s.2 s.1).length = s.2.length := qd6 (by omega) hkl; have l2 : (th h.2 s.2 s.1).length = s.2.length := qd6 (by omega) hkl; have hle1 : ∀ i (h1 : i < (th z.2 s.2 s.1).length) (h2 : i < (th h.2 s.2 s.1).length), (th z.2 s.2 s.1)[i] ≤ (th h.2 s.2 s.1)[i] := fun i h1 h2 => by
  rw [← q1g h1, ← q1g h2, qz2 (by omega) hkl (by omega), qz2 (by omega) hkl (by omega)]
  split
  · have := hzh.2 i (by omega) (by omega); rw [q1g (show i < z.2.length by omega), q1g (show i < h.2.length by omega)]; omega
  · exact Int.le_refl _
 have hz1 := hzr.kf; refine ⟨⟨hR.f0, hR.f1, ?_, ?_, by show 1 ≤ (th z.2 s.2 s.1).length; rw [l1]; exact hs.l0, by show (th z.2 s.2 s.1).length ≤ 4; rw [l1]; exact hs.l1, fun x hx => ?_⟩, ?_, hle1⟩
 · show ((min z.1 s.1 : Nat) : Int) ≤ F; omega
 · show min z.1 s.1 ≤ (th z.2 s.2 s.1).length; omega
 ·
  obtain ⟨i, hi, rfl⟩ := List.mem_iff_getElem.1 hx; have hi1 : i < (th z.2 s.2 s.1).length := hi; have hup := hle1 i hi1 (by omega); have hsm := hR.sm _ (List.getElem_mem (show i < (th h.2 s.2 s.1).length by omega)); have hlo : 0 ≤ (th z.2 s.2 s.1)[i] := by
   rw [← q1g hi1, qz2 (by omega) hkl (by omega)]; have a := qx1 hzr.sm i; have b := qx1 hs.sm i; unfold Sm at a b
   split <;> omega
  show Sm ((th z.2 s.2 s.1)[i])
  unfold Sm at hsm ⊢; exact ⟨hlo, Int.le_trans hup hsm.2⟩
 ·
  show min z.1 s.1 ≤ min h.1 s.1
  have := hzh.1; omega
def q0n (g : GGraph) (e : GEdge) : Hp := qm8 (lev g e.From.toNat) (nd g e.From.toNat).Kind
def ClE (g : GGraph) (F : Int) (row : List (List Hp)) (e : GEdge) : Prop := ∀ h ∈ p9 row e.From.toNat, Rh F (thp h (q0n g e)).1 (thp h (q0n g e)).2 → cov (p9 row e.To.toNat) (thp h (q0n g e))
structure ClT (g : GGraph) (F : Int) (row : List (List Hp)) : Prop where
 rp : ∀ w, ∀ p ∈ p9 row w, Rp F (lev g w) p
 cl : ∀ e ∈ g.Edges, ClE g F row e
def qd7 (g : GGraph) : List GHop := g.Edges.map fun e => mkp (lev g e.From.toNat) (q0n g e)
structure J (g : GGraph) (F : Int) (start : List (List Hp)) (more : Bool) (row : List (List Hp)) : Prop where
 R : Row F g.Nodes.length (lev g) row
 c : covRow start row
 t : more = true → Phi g.Nodes.length (lev g) start < Phi g.Nodes.length (lev g) row
 f : more = false → row = start
 s : ∀ T, ClT g F T → covRow start T → covRow row T
section
variable {g : GGraph} (hG : VA.Good g) {F : Int}
include hG
theorem j4y {start row0 : List (List Hp)} {more0 : Bool} (j0 : J g F start more0 row0) {i : Nat} (hi : i < g.Edges.length) {rec_4 : Bool × Int × (List (List GHop)) → Option (List (List (List GHop)))} {Q : List (List (List GHop)) → Prop}
  (hr : ∀ more row, J g F start more row → (more = false → more0 = false ∧ ClE g F start g.Edges[i]) → Ok (rec_4 (more, ((i + 1 : Nat) : Int), gh F row)) Q) :
  Ok (w9 (q9a (qd7 g) (i : Int) rec_4 g.Edges[i] ((p9 row0 g.Edges[i].From.toNat).map (mkp F))) rounds (more0, 0, gh F row0)) Q := by
 have hn := hG.nl; have hel := hG.el; have hm := List.getElem_mem hi; obtain ⟨hf, ht, _⟩ := hG.ed.at hm; have hfn : g.Edges[i].From.toNat < g.Nodes.length := by have := hf.1; have := hf.2; omega
 have htn : g.Edges[i].To.toNat < g.Nodes.length := by have := ht.1; have := ht.2; omega
 have htc : g.Edges[i].To = ((g.Edges[i].To.toNat : Nat) : Int) := by have := ht.1; omega
 have hst : Rp (lev g g.Edges[i].From.toNat : Int) (lev g g.Edges[i].To.toNat) (q0n g g.Edges[i]) := (z6t hG hm).1; obtain ⟨k10, k11, k12, _⟩ := z4g hG hfn; have h14 := qw8 hG; have hsh := j0.R.short (by omega) (fun v => (h14 v).2) g.Edges[i].From.toNat; refine q3k (l := p9 row0 g.Edges[i].From.toNat) (by omega) (fun k (p : Bool × List (List Hp)) => (p.1, k, gh F p.2)) (fun p => p.2.1) (fun _ _ => rfl)
  (fun k p => J g F start p.1 p.2 ∧ covRow row0 p.2 ∧ (p.1 = false → more0 = false ∧ ∀ h ∈ (p9 row0 g.Edges[i].From.toNat).take k, Rh F (thp h (q0n g g.Edges[i])).1 (thp h (q0n g g.Edges[i])).2 → cov (p9 start g.Edges[i].To.toNat) (thp h (q0n g g.Edges[i])))) (s0 := (more0, row0)) 0 (fun rec k hk p _ hI hr' => ?_) (fun rec p hI => ?_) ⟨j0, covRow.refl _, fun h => ⟨h, by simp⟩⟩ (Nat.zero_le _)
 ·
  obtain ⟨more, row⟩ := p; obtain ⟨I1, I2, I3⟩ := hI; dsimp only at I1 I2 I3; have hh := List.getElem_mem hk; obtain ⟨hrh, hln⟩ := j0.R.rp _ _ hh; unfold q9a; dsimp only; rw [if_pos (by simp; omega), iw hk (by omega)]; refine Ok.bind (ja0 (by simpa using hk) ?_); rw [List.getElem_map]; have hsi : idx (qd7 g) (i : Int) = some (mkp (lev g g.Edges[i].From.toNat) (q0n g g.Edges[i])) := ja2 (ja0 (by unfold qd7; simpa using hi) (by unfold qd7; rw [List.getElem_map])); rw [hsi]; refine Ok.bind (Ok.some ?_); have hThen := j5h (F := F) (n := (lev g g.Edges[i].From.toNat : Int)) hrh hst.1 (by omega); obtain ⟨x, hx⟩ : ∃ x : Hp, x = thp (p9 row0 g.Edges[i].From.toNat)[k] (q0n g g.Edges[i]) := ⟨_, rfl⟩; have hThen' : qo1 (mkp F (p9 row0 g.Edges[i].From.toNat)[k]) (mkp (lev g g.Edges[i].From.toNat) (q0n g g.Edges[i])) = some (if Rh F x.1 x.2 then (mkp F x, true) else (none, false)) := by rw [hx]; exact hThen
  rw [hThen']; clear hThen hThen'; refine Ok.bind (Ok.some ?_); have hlast : ∀ more : Bool, (more = false → more0 = false ∧ ∀ h ∈ (p9 row0 g.Edges[i].From.toNat).take k, Rh F (thp h (q0n g g.Edges[i])).1 (thp h (q0n g g.Edges[i])).2 → cov (p9 start g.Edges[i].To.toNat) (thp h (q0n g g.Edges[i]))) →
    more = false → (Rh F x.1 x.2 → cov (p9 start g.Edges[i].To.toNat) x) → more0 = false ∧ ∀ h ∈ (p9 row0 g.Edges[i].From.toNat).take (k + 1), Rh F (thp h (q0n g g.Edges[i])).1 (thp h (q0n g g.Edges[i])).2 → cov (p9 start g.Edges[i].To.toNat) (thp h (q0n g g.Edges[i])) := fun more I3 hmo hxc => by
   obtain ⟨b1, b2⟩ := I3 hmo; refine ⟨b1, fun h hhm hhr => ?_⟩; rw [snoc hk, List.mem_append, List.mem_singleton] at hhm; rcases hhm with hhm | rfl
   · exact b2 h hhm hhr
   · rw [← hx] at hhr ⊢; exact hxc hhr
  by_cases hR : Rh F x.1 x.2
  ·
   rw [if_pos hR]; dsimp only; rw [if_pos rfl]; have hrl := I1.R.len; rw [htc]; refine Ok.bind (qe3 (by omega) ?_); have hkl := hst.1.kl; have hkf := hst.1.kf; have hxl : x.2.length = lev g g.Edges[i].To.toNat := by
    rw [← hst.2, hx]
    show (th _ _ _).length = _
    unfold th; rw [List.length_append, qt2 (by omega) hkl, List.length_drop]; omega
   have hxp : Rp F (lev g g.Edges[i].To.toNat) x := ⟨hR, hxl⟩; have hx0 : x.2.getD 0 0 = 0 := by rw [hx]; exact j0b j0.R hh k11 k12 (h14 _).1
   have hxw : lev g g.Edges[i].To.toNat = 4 → ∀ row', covRow row row' → Wit g.Nodes.length (lev g) row' x := fun h4 row' hc => by
    rw [hx]; exact zs2 j0.R hfn hh k11 k12 (fun v => (h14 v).2) (h14 _).1 (covRow.trans I2 hc) (by
     have := hst.2; unfold q0n at this; rw [this]; exact h4)
   have hsh2 := I1.R.short (by omega) (fun v => (h14 v).2) g.Edges[i].To.toNat; rw [put_eq (I1.R.rp _) hxp (by omega)]; refine Ok.bind (Ok.some ?_); dsimp only; rw [Int.toNat_natCast, z9c]; obtain ⟨R', c'⟩ := I1.R.put htn hxp hx0 hxw; have hself := j21 (p9 row g.Edges[i].To.toNat) x; have hcs : cov (p9 (row.set g.Edges[i].To.toNat (q8g (p9 row g.Edges[i].To.toNat) x).1) g.Edges[i].To.toNat) x := by
    rw [q9z (by omega), if_pos rfl]; exact hself
   have hx3 : x.2.getD 3 0 < 33 := by
    by_cases h4 : lev g g.Edges[i].To.toNat = 4
    · have := (hxw h4 row (covRow.refl _)).small (by omega); omega
    · have := (h14 g.Edges[i].To.toNat).2; rw [getD_none (by omega)]; decide
   have hsnd : ∀ T, ClT g F T → covRow start T → covRow (row.set g.Edges[i].To.toNat (q8g (p9 row g.Edges[i].To.toNat) x).1) T := fun T hT hst' => by
    have hxT : cov (p9 T g.Edges[i].To.toNat) x := by
     obtain ⟨z, hz, hzh⟩ := j0.s T hT hst' g.Edges[i].From.toNat _ ⟨_, hh, q92 _⟩; obtain ⟨m1, m2⟩ := zh3 (hT.rp _ _ hz) (j0.R.rp _ _ hh) rfl hst.1 hzh (by rw [← hx]; exact hR); obtain ⟨y, hy, hyl⟩ := hT.cl _ hm z hz m1; rw [hx]; refine ⟨y, hy, q8w (n := lev g g.Edges[i].To.toNat) (hT.rp _ _ hy).2 ?_ hyl m2⟩; have h5 := (hT.rp _ _ hz).2
     show (th _ _ _).length = _
     rw [qd6 (by omega) hkl]; exact hst.2
    intro w z ⟨y, hy, hyz⟩; rw [q9z (by omega)] at hy
    by_cases hw : w = g.Edges[i].To.toNat
    ·
     subst hw; rw [if_pos rfl] at hy; rcases put_mem hy with hy | rfl
     · exact I1.s T hT hst' _ z ⟨y, hy, hyz⟩
     · obtain ⟨t, ht', htl⟩ := hxT; exact ⟨t, ht', q8w (n := lev g g.Edges[i].To.toNat) (hT.rp _ _ ht').2 hxl htl hyz⟩
    · rw [if_neg hw] at hy; exact I1.s T hT hst' w z ⟨y, hy, hyz⟩
   refine hr' (more || (q8g (p9 row g.Edges[i].To.toNat) x).2, row.set g.Edges[i].To.toNat (q8g (p9 row g.Edges[i].To.toNat) x).1) ⟨⟨R', covRow.trans I1.c c', fun hmo => ?_, fun hmo => ?_, hsnd⟩, covRow.trans I2 c', fun hmo => ?_⟩
   ·
    dsimp only at hmo ⊢
    cases hfr : (q8g (p9 row g.Edges[i].To.toNat) x).2 with
    | true => exact Nat.lt_of_le_of_lt (j7i I1.c) (j0s c' htn hxp hx0 hx3 (j4o hfr) hcs)
    | false =>
     rw [hfr, Bool.or_false] at hmo; rw [z9x hfr, zi1]; exact I1.t hmo
   · dsimp only at hmo ⊢; simp only [Bool.or_eq_false_iff] at hmo; rw [z9x hmo.2, zi1]; exact I1.f hmo.1
   · dsimp only at hmo; simp only [Bool.or_eq_false_iff] at hmo; refine hlast more I3 hmo.1 fun _ => ?_; rw [z9x hmo.2, I1.f hmo.1] at hself; exact hself
  · rw [if_neg hR]; dsimp only; rw [if_neg (by simp)]; exact hr' (more, row) ⟨I1, I2, fun hmo => hlast more I3 hmo fun h => absurd h hR⟩
 · obtain ⟨more, row⟩ := p; obtain ⟨I1, I2, I3⟩ := hI; dsimp only at I1 I2 I3; unfold q9a; dsimp only; rw [if_neg (by simp), iw hi (by omega)]; refine hr more row I1 fun hmo => ?_; obtain ⟨b1, b2⟩ := I3 hmo; rw [List.take_length] at b2; refine ⟨b1, ?_⟩; rw [j0.f b1] at b2; exact b2
end
end HP
end Go.Proofs.YtlpfoonihpdekaaGreat
