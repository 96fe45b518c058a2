/-
  The law in plain words: what its plain function gives is true. No condition beyond those that each theorem names.
-/
import Derived.Test.YteibkihbdgphnaaGreatWalkMP0
import Derived.Test.YteibkihbdgphnaaGreatP12u
set_option linter.unusedSimpArgs false
set_option linter.unusedVariables false
set_option linter.unusedSectionVars false
open Classical renaming byContradiction -> Xa
open List renaming mem_cons -> Xb
namespace Go.Proofs.YteibkihbdgphnaaGreat
open Go Go.RowKit TS VA BG
namespace MN
open Classical
def under (t v : GTime) : Prop := t.D <= v.D /\ t.C.a0 = v.C.a0 /\ (1 < t.D -> v.C.a1 = t.C.a1) /\ (2 < t.D -> v.C.a2 = t.C.a2) /\ (3 < t.D -> v.C.a3 = t.C.a3)
def later (t v : GTime) : Prop := t.D <= v.D /\ (1 < t.D -> v.C.a0 = t.C.a0) /\ (2 < t.D -> v.C.a1 = t.C.a1) /\ (3 < t.D -> v.C.a2 = t.C.a2) /\ (t.D = 1 -> t.C.a0 < v.C.a0) /\ (t.D = 2 -> t.C.a1 < v.C.a1) /\ (t.D = 3 -> t.C.a2 < v.C.a2) /\ (t.D = 4 -> t.C.a3 < v.C.a3)
theorem qy0 (t : GTime) : under t t := by unfold under; omega
theorem z1i {t u v : GTime} (h : under t u) (k : under u v) : under t v := by unfold under at *; omega
theorem zi3 (t : GTime) : under t (enT t) /\ t.D < (enT t).D := by unfold under enT; dsimp only; omega
theorem qq1 {t v : GTime} (ht : ok t) (hv : ok v) (h : under t v) (hd : t.D < v.D) : under t (leT v) /\ under t (nxT v) := by
 have hD := q9q hv; have h1 := ht.1; obtain ⟨E, ⟨b0, b1, b2, b3⟩⟩ := v; unfold under leT nxT at *; dsimp only at *; rcases hD with rfl | rfl | rfl | rfl <;> simp <;> omega
theorem j4h {t v : GTime} (ht : ok t) (h4 : t.D ≠ 4) (h : later (enT t) v) : under t v /\ t.D < v.D := by
 have hD := q9q ht; unfold under later enT at *; dsimp only at *; omega
theorem j16 {t v : GTime} (h : under (enT t) v) : under t v /\ t.D < v.D := by
 unfold under enT at *; dsimp only at *; omega
theorem z4j {t v : GTime} (ht : ok t) (h : under t v) : ¬ later t v := by
 have hD := q9q ht; unfold under later at *; omega
theorem zi2 {t v : GTime} (ht : ok t) (h2 : 2 <= t.D) (h : under (nxT t) v) : later t v := by
 have hD := q9q ht; obtain ⟨D, ⟨a0, a1, a2, a3⟩⟩ := t; unfold under later nxT at *; dsimp only at *; rcases hD with rfl | rfl | rfl | rfl <;> simp at * <;> omega
theorem j4f {t v : GTime} (ht : ok t) (h2 : 2 <= t.D) (h : later (nxT t) v) : later t v := by
 have hD := q9q ht; obtain ⟨D, ⟨a0, a1, a2, a3⟩⟩ := t; unfold later nxT at *; dsimp only at *; rcases hD with rfl | rfl | rfl | rfl <;> simp at * <;> omega
theorem jb0 {t : GTime} (ht : ok t) (h2 : 2 <= t.D) (h : lastT t = 0) : enT (leT t) = t := by
 have hD := q9q ht; obtain ⟨D, ⟨a0, a1, a2, a3⟩⟩ := t; unfold enT leT lastT ok at *; dsimp only at *; rcases hD with rfl | rfl | rfl | rfl <;> simp at * <;> omega
theorem ja0 {t : GTime} (ht : ok t) (h4 : t.D ≠ 4) : leT (enT t) = t /\ lastT (enT t) = 0 := by
 have hD := q9q ht; obtain ⟨D, ⟨a0, a1, a2, a3⟩⟩ := t; unfold enT leT lastT ok at *; dsimp only at *; rcases hD with rfl | rfl | rfl | rfl <;> simp at * <;> omega
theorem j9z {t : GTime} (ht : ok t) (h2 : 2 <= t.D) : leT (nxT t) = leT t /\ lastT (nxT t) = lastT t + 1 := by
 have hD := q9q ht; obtain ⟨D, ⟨a0, a1, a2, a3⟩⟩ := t; unfold nxT leT lastT at *; dsimp only at *; rcases hD with rfl | rfl | rfl | rfl <;> simp at *
theorem j4i {t : GTime} (ht : ok t) : 0 <= lastT t := by
 have hD := q9q ht; unfold ok at ht; unfold lastT; rcases hD with h | h | h | h <;> simp [h] <;> omega
theorem zr4 {u u' v : GTime} (hu : ok u) (h : later u u') (hd : u'.D = u.D) (hv : under u' v) : later u v := by
 have hD := q9q hu; unfold later under at *; omega
theorem j26 {u u' : GTime} (hu : ok u) (h2 : 2 <= u.D) (h : later u u') (hd : u'.D = u.D) : later u (nxT u') /\ (nxT u').D = u.D := by
 have hD := q9q hu; obtain ⟨D, ⟨a0, a1, a2, a3⟩⟩ := u; obtain ⟨E, ⟨b0, b1, b2, b3⟩⟩ := u'; unfold later nxT at *; dsimp only at *; subst hd; rcases hD with rfl | rfl | rfl | rfl <;> simp at * <;> omega
theorem j4g {u u' : GTime} (hu : ok u) (hu' : ok u') (h2 : 2 <= u.D) (h : later u u') (hd : u'.D = u.D) : leT u' = leT u := by
 have hD := q9q hu; obtain ⟨D, ⟨a0, a1, a2, a3⟩⟩ := u; obtain ⟨E, ⟨b0, b1, b2, b3⟩⟩ := u'; unfold later leT at *; dsimp only at *; subst hd; rcases hD with rfl | rfl | rfl | rfl <;> simp at * <;> omega
section
variable {g : GGraph} (hG : VA.Good g)
include hG
theorem z1g : ∀ (k : Nat) (s x : Int), 0 <= s -> s < g.Parent.length -> s < k -> x ∈ anc g.Parent s -> ∃ pre, anc g.Parent s = pre ++ anc g.Parent x /\ ∀ y ∈ pre, x < y
 | 0, s, _, h0, _, hk, _ => by omega
 | k + 1, s, x, h0, h1, hk, hx => by
  have hw := hG.wp; have hst := q63 hw h0 h1; rw [hst] at hx; rcases Xb.1 hx with rfl | hx'
  . exact ⟨[], rfl, by simp⟩
  .
   have hp := hw.2 s h0 h1
   by_cases hz : s = 0
   . rw [hp.2.2 hz, q6t] at hx'; cases hx'
   .
    have hp0 := hp.2.1 (by omega); obtain ⟨pre, e1, e2⟩ := z1g k _ x hp0 (by omega) (by omega) hx'; have hxs : x < s := by
     have := z5u hw k _ (.inr ⟨hp0, by omega⟩) (by omega) x hx'; omega
    refine ⟨s :: pre, by rw [hst, e1]; rfl, fun y hy => ?_⟩; rcases Xb.1 hy with rfl | hy
    . exact hxs
    . exact e2 y hy
theorem qu6 {s x : Int} (h0 : 0 <= s) (h1 : s < g.Parent.length) (hx : x ∈ anc g.Parent s) : 0 <= x /\ x <= s := z5u hG.wp (s.toNat + 1) s (.inr ⟨h0, h1⟩) (by omega) x hx
theorem z4x {s x y : Int} (h0 : 0 <= s) (h1 : s < g.Parent.length) (hx : x ∈ anc g.Parent s) (hy : y ∈ anc g.Parent x) : y ∈ anc g.Parent s := by
 obtain ⟨pre, e, _⟩ := z1g hG (s.toNat + 1) s x h0 h1 (by omega) hx; rw [e]; exact List.mem_append_right _ hy
theorem ze9 {s x y : Int} (h0 : 0 <= s) (h1 : s < g.Parent.length) (hx : x ∈ anc g.Parent s) (hy : y ∈ anc g.Parent s) (h : x <= y) : x ∈ anc g.Parent y := by
 obtain ⟨pre, e, hp⟩ := z1g hG (s.toNat + 1) s y h0 h1 (by omega) hy; rw [e] at hx; rcases List.mem_append.1 hx with hx | hx
 . have := hp x hx; omega
 . exact hx
theorem z8e {s x : Int} (h0 : 0 <= s) (h1 : s < g.Parent.length) (hx : x ∈ anc g.Parent s) (hne : x ≠ s) : s ≠ 0 /\ x ∈ anc g.Parent (g.Parent.getD s.toNat 0) := by
 have hw := hG.wp; rw [q63 hw h0 h1] at hx; rcases Xb.1 hx with rfl | hx
 . exact absurd rfl hne
 . refine ⟨?_, hx⟩; rintro rfl; rw [(hw.2 0 h0 h1).2.2 rfl, q6t] at hx; cases hx
theorem j9b {s x : Int} (h0 : 0 <= s) (h1 : s < g.Parent.length) (hx : x ∈ anc g.Parent s) : dep g x <= dep g s := by
 obtain ⟨pre, e, _⟩ := z1g hG (s.toNat + 1) s x h0 h1 (by omega) hx; unfold dep; rw [e, List.length_append]; omega
theorem fit {k : Nat} (hk : k < g.Nodes.length) (h0 : 0 < k) {c : Int} (h : c ∈ anc g.Parent (nd g k).Scope) (hn : c ∉ anc g.Parent (nd g (k - 1)).Scope) :
  (nd g k).Scope = c /\ g.Parent.getD c.toNat 0 ∈ anc g.Parent (nd g (k - 1)).Scope /\ ∀ i < k, (nd g i).Scope ≠ c := by
 have hf := (q91 (hG.no k hk)).2.2.2.2.1; obtain ⟨k0, k1, _⟩ := q58 hG hk; obtain ⟨q0, q1, _⟩ := q58 hG (show k - 1 < g.Nodes.length by omega); unfold fits at hf; rw [if_neg (by omega)] at hf; simp only [Bool.or_eq_true, Bool.and_eq_true, decide_eq_true_eq, Bool.not_eq_true', List.any_eq_false, beq_iff_eq] at hf; rcases hf with h1 | ⟨h1, h2⟩
 . exact absurd (z4x hG q0 q1 h1 h) hn
 .
  have hc : (nd g k).Scope = c := Xa fun hne => hn (z4x hG q0 q1 h1 (z8e hG k0 k1 h (fun e => hne e.symm)).2); refine ⟨hc, by rw [<- hc]; exact h1, fun i hi e => ?_⟩; have hiN : i < g.Nodes.length := by omega
  refine h2 (nd g i) ?_ (by rw [e, hc]); rw [<- qc0 hiN]; exact List.mem_take_iff_getElem.2 ⟨i, by omega, rfl⟩
theorem first {k : Nat} (hk : k < g.Nodes.length) (h0 : 0 < k) {c : Int} (h : c ∈ anc g.Parent (nd g k).Scope) (hn : c ∉ anc g.Parent (nd g (k - 1)).Scope) : ∀ i < k, c ∉ anc g.Parent (nd g i).Scope := by
 obtain ⟨_, _, hs⟩ := fit hG hk h0 h hn; intro i
 induction i with
 | zero =>
  intro _ hi; have hf := (q91 (hG.no 0 (by omega))).2.2.2.2.1; unfold fits at hf; rw [if_pos rfl, beq_iff_eq] at hf; obtain ⟨q0, q1, _⟩ := q58 hG (show 0 < g.Nodes.length by omega); have := qu6 hG q0 q1 hi; exact hs 0 h0 (by omega)
 | succ i ih =>
  intro hi hc; exact hs (i + 1) hi (fit hG (by omega) (by omega) hc (ih (by omega))).1
theorem convex {i j : Nat} (hij : i < j) {c : Int} (hi : c ∈ anc g.Parent (nd g i).Scope) (hj : c ∉ anc g.Parent (nd g j).Scope) : ∀ k, j <= k -> k < g.Nodes.length -> c ∉ anc g.Parent (nd g k).Scope := by
 intro k hk; obtain ⟨d, rfl⟩ : ∃ d, k = j + d := ⟨k - j, by omega⟩
 induction d with
 | zero => intro _; exact hj
 | succ d ih =>
  intro hN hc; exact first hG hN (by omega) hc (ih (by omega) (by omega)) i (by omega) hi
def At (g : GGraph) (a n : Nat) (sc : Int) : Prop := ∀ m, a <= m -> m < n -> ∀ x, x ∈ anc g.Parent (nd g m).Scope -> x ∈ anc g.Parent (nd g n).Scope -> x ∈ anc g.Parent sc
structure Blk (g : GGraph) (a to : Nat) (sc : Int) : Prop where
 lt : a < to
 le : to <= g.Nodes.length
 s0 : 0 <= sc
 s1 : sc < g.Parent.length
 hd : (nd g a).Scope = sc
 inn : ∀ m, a <= m -> m < to -> sc ∈ anc g.Parent (nd g m).Scope
theorem child {a n to : Nat} {sc : Int} (hB : Blk g a to sc) (han : a <= n) (hn : n < to) (hA : At g a n sc) (hne : (nd g n).Scope ≠ sc) : g.Parent.getD (nd g n).Scope.toNat 0 = sc /\ (nd g n).Scope ≠ 0 /\ dep g (nd g n).Scope = dep g sc + 1 := by
 have hnN : n < g.Nodes.length := by have := hB.le; omega
 have hlt : a < n := by
  rcases Nat.eq_or_lt_of_le han with rfl | h
  . exact absurd hB.hd hne
  . exact h
 obtain ⟨k0, k1, _⟩ := q58 hG hnN; have hsc := hB.inn n han hn; have h2 := qu6 hG k0 k1 hsc; have hself : (nd g n).Scope ∈ anc g.Parent (nd g n).Scope := z0u hG k0 k1; have hno : (nd g n).Scope ∉ anc g.Parent (nd g (n - 1)).Scope := fun h => by
  have := qu6 hG hB.s0 hB.s1 (hA (n - 1) (by omega) (by omega) _ h hself); exact hne (by omega)
 obtain ⟨_, hp, _⟩ := fit hG hnN (by omega) hself hno; obtain ⟨hz, hq⟩ := z8e hG k0 k1 hsc (fun e => hne e.symm); obtain ⟨p0, p1, p2, _⟩ := (z2m hG k0 k1).2.2 hz; have hps : g.Parent.getD (nd g n).Scope.toNat 0 ∈ anc g.Parent (nd g n).Scope := by
  rw [q63 hG.wp k0 k1]; exact List.mem_cons_of_mem _ (z0u hG p0 p1)
 have h3 := qu6 hG hB.s0 hB.s1 (hA (n - 1) (by omega) (by omega) _ hp hps); have h4 := qu6 hG p0 p1 hq; have he : g.Parent.getD (nd g n).Scope.toNat 0 = sc := by omega
 exact ⟨he, hz, by rw [p2, he]⟩
theorem at_one {a n to : Nat} {sc : Int} (hB : Blk g a to sc) (han : a <= n) (hn : n + 1 < to) (hs : (nd g n).Scope = sc) (hA : At g a n sc) : At g a (n + 1) sc := by
 intro m hm hm1 x hx hx2; rcases Nat.lt_or_ge m n with h | h
 . refine Xa fun hc => ?_; exact convex hG h hx (by rw [hs]; exact hc) (n + 1) (by omega) (by have := hB.le; omega) hx2
 .
  obtain rfl : m = n := by omega
  rw [<- hs]; exact hx
theorem j9k {a n to : Nat} {sc : Int} (hB : Blk g a to sc) (han : a <= n) (hn : n < to) (hne : (nd g n).Scope ≠ sc) (hA : At g a n sc) {E : Nat} (hE : E < to) (hnE : n < E)
  (h1 : ∀ m, n <= m -> m < E -> (nd g n).Scope ∈ anc g.Parent (nd g m).Scope) (h2 : (nd g n).Scope ∉ anc g.Parent (nd g E).Scope) : At g a E sc := by
 have hEN : E < g.Nodes.length := by have := hB.le; omega
 obtain ⟨hp, hz, _⟩ := child hG hB han hn hA hne; obtain ⟨e0, e1, _⟩ := q58 hG hEN; intro m hm hm1 x hx hx2; rcases Nat.lt_or_ge m n with h | h
 . refine hA m hm h x hx (Xa fun hc => ?_); exact convex hG h hx hc E (by omega) hEN hx2
 .
  have hmc := h1 m h hm1; obtain ⟨m0, m1, _⟩ := q58 hG (show m < g.Nodes.length by omega); obtain ⟨k0, k1, _⟩ := q58 hG (show n < g.Nodes.length by omega); rcases (by omega : x < (nd g n).Scope \/ (nd g n).Scope <= x) with hlt | hge
  . have := ze9 hG m0 m1 hx hmc (by omega); have := (z8e hG k0 k1 this (by omega)).2; rw [hp] at this; exact this
  . have h3 := ze9 hG m0 m1 hmc hx hge; exact absurd (z4x hG e0 e1 hx2 h3) h2
theorem beyond {n to : Nat} (hto : to <= g.Nodes.length) {c : Int} {E : Nat} (hnE : n < E) (hn : c ∈ anc g.Parent (nd g n).Scope) (h2 : E < to -> c ∉ anc g.Parent (nd g E).Scope) {m : Nat} (hm : E <= m) (hmt : m < to) : c ∉ anc g.Parent (nd g m).Scope :=
 convex hG hnE hn (h2 (by omega)) m hm (by omega)
end
end MN
end Go.Proofs.YteibkihbdgphnaaGreat
