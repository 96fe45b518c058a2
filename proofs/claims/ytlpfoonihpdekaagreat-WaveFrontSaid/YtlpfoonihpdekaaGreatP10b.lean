/-
  The law in plain words: what its plain function gives is true. No condition beyond those that each theorem names.
-/
import Derived.Test.YtlpfoonihpdekaaGreatWalkWF0
import Derived.Test.YtlpfoonihpdekaaGreatP10a
set_option linter.unusedSimpArgs false
set_option linter.unusedVariables false
set_option linter.unusedSectionVars false
namespace Go.Proofs.YtlpfoonihpdekaaGreat
open Go Go.RowKit VA
namespace HP
open Classical
def p9 (row : List (List Hp)) (v : Nat) : List Hp := row.getD v []
def Wit (N : Nat) (lev : Nat → Nat) (row : List (List Hp)) (p : Hp) : Prop :=
 ∃ us : List Nat, us.Nodup ∧ (us.length : Int) = p.2.getD 3 0 ∧ ∀ j (h : j < us.length), us[j] < N ∧ lev us[j] = 4 ∧ cov (p9 row us[j]) (p.1, p.2.set 3 (j : Int))
structure Row (F : Int) (N : Nat) (lev : Nat → Nat) (row : List (List Hp)) : Prop where
 len : row.length = N
 rp : ∀ v, ∀ p ∈ p9 row v, Rp F (lev v) p
 c0 : ∀ v, ∀ p ∈ p9 row v, p.2.getD 0 0 = 0
 an : ∀ v, anti (p9 row v)
 wi : ∀ v, lev v = 4 → ∀ p ∈ p9 row v, Wit N lev row p
def M : Nat := 1048577
theorem j7j : M = 1048577 := rfl
theorem qx0 {l : List Int} (h : ∀ x ∈ l, Sm x) (i : Nat) : 0 ≤ l.getD i 0 ∧ l.getD i 0 < 1048577 := by
 have := qx1 h i; unfold Sm at this; omega
theorem getD_none {l : List Int} {i : Nat} (h : l.length ≤ i) : l.getD i 0 = 0 := by rw [List.getD_eq_getElem?_getD, List.getElem?_eq_none h]; rfl
theorem Wit.small {N : Nat} {lev : Nat → Nat} {row : List (List Hp)} {p : Hp} (h : Wit N lev row p) (hN : N ≤ 32) : p.2.getD 3 0 ≤ 32 := by
 obtain ⟨us, h1, h2, h3⟩ := h; have := z5z N us h1 (fun x hx => by
  obtain ⟨j, hj, rfl⟩ := List.mem_iff_getElem.1 hx; exact (h3 j hj).1)
 omega
section
variable {F : Int} {N : Nat} {lev : Nat → Nat} {row : List (List Hp)} (R : Row F N lev row) (hN : N ≤ 32) (hl4 : ∀ v, lev v ≤ 4)
include R hN hl4
theorem Row.c3 {v : Nat} {p : Hp} (hp : p ∈ p9 row v) : p.2.getD 3 0 < 33 := by
 by_cases h : lev v = 4
 · have := (R.wi v h p hp).small hN; omega
 · have h1 := (R.rp v p hp).2; have := hl4 v; rw [getD_none (by omega)]; decide
def key (p : Hp) : Nat := (p.1 * M + (p.2.getD 1 0).toNat) * 33 + (p.2.getD 3 0).toNat
theorem Row.short (v : Nat) : (p9 row v).length ≤ 5 * 1048577 * 33 := by
 have hkey : ∀ p ∈ p9 row v, p.1 ≤ 4 ∧ (p.2.getD 1 0).toNat < 1048577 ∧ (p.2.getD 3 0).toNat < 33 := fun p hp => by
  have h1 := (R.rp v p hp).1; have h2 := qx0 h1.sm 1; have h3 := R.c3 hN hl4 hp; have := h1.kf; have := h1.f1; exact ⟨by omega, by omega, by omega⟩
 have hnd : ((p9 row v).map key).Nodup := by
  rw [List.nodup_iff_pairwise_ne, List.pairwise_map]; have ha := List.pairwise_iff_getElem.1 (R.an v); refine List.pairwise_iff_getElem.2 fun i j hi hj hij he => ?_; have hpi := List.getElem_mem hi; have hpj := List.getElem_mem hj; obtain ⟨a1, a2, a3⟩ := hkey _ hpi; obtain ⟨b1, b2, b3⟩ := hkey _ hpj; unfold key at he; rw [j7j] at he; have e3 : ((p9 row v)[i].2.getD 3 0).toNat = ((p9 row v)[j].2.getD 3 0).toNat := by omega
  have e12 : (p9 row v)[i].1 * 1048577 + ((p9 row v)[i].2.getD 1 0).toNat = (p9 row v)[j].1 * 1048577 + ((p9 row v)[j].2.getD 1 0).toNat := by omega
  have e1 : (p9 row v)[i].1 = (p9 row v)[j].1 := by omega
  have e2 : ((p9 row v)[i].2.getD 1 0).toNat = ((p9 row v)[j].2.getD 1 0).toNat := by omega
  obtain ⟨ri, li⟩ := R.rp v _ hpi; obtain ⟨rj, lj⟩ := R.rp v _ hpj; have hle1 : ∀ a b : Hp, a.1 = b.1 → a.2.length = b.2.length → a.2.length ≤ 4 → (∀ i, i ≠ 2 → a.2.getD i 0 = b.2.getD i 0) → a.2.getD 2 0 ≤ b.2.getD 2 0 → hle a b := fun a b h1 h2 _ h3 h4 => ⟨by omega, fun q hq hq' => by
   rw [← q1g hq, ← q1g hq']
   by_cases hq2 : q = 2
   · subst hq2; exact h4
   · rw [h3 q hq2]; exact Int.le_refl _⟩
  have hco : ∀ q, q ≠ 2 → (p9 row v)[i].2.getD q 0 = (p9 row v)[j].2.getD q 0 := fun q hq => by
   have s1 := qx0 ri.sm q; have s2 := qx0 rj.sm q; rcases (by omega : q = 0 ∨ q = 1 ∨ q = 3 ∨ 4 ≤ q) with rfl | rfl | rfl | hq4
   · rw [R.c0 v _ hpi, R.c0 v _ hpj]
   · omega
   · omega
   · rw [getD_none (by have := ri.l1; omega), getD_none (by have := rj.l1; omega)]
  have hn := ha i j hi hj hij; rcases Int.le_total ((p9 row v)[i].2.getD 2 0) ((p9 row v)[j].2.getD 2 0) with h | h
  · exact hn.1 (hle1 _ _ e1 (by omega) ri.l1 hco h)
  · exact hn.2 (hle1 _ _ e1.symm (by omega) rj.l1 (fun q hq => (hco q hq).symm) h)
 have := z5z (5 * 1048577 * 33) _ hnd (fun x hx => by
  obtain ⟨p, hp, rfl⟩ := List.mem_map.1 hx; obtain ⟨a1, a2, a3⟩ := hkey p hp; unfold key; rw [j7j]; omega)
 simpa using this
end
def U : Nat := 5 * 1048577 * 1048577 * 33
def dec (n c : Nat) : Hp := (c / (1048577 * 1048577 * 33), [0, ((c / (1048577 * 33) % 1048577 : Nat) : Int), ((c / 33 % 1048577 : Nat) : Int), ((c % 33 : Nat) : Int)].take n)
def z0c (p : Hp) : Nat := ((p.1 * 1048577 + (p.2.getD 1 0).toNat) * 1048577 + (p.2.getD 2 0).toNat) * 33 + (p.2.getD 3 0).toNat
theorem j5c {F : Int} {n : Nat} {p : Hp} (h : Rp F n p) (h0 : p.2.getD 0 0 = 0) (h3 : p.2.getD 3 0 < 33) : z0c p < U ∧ dec n (z0c p) = p := by
 obtain ⟨hr, hn⟩ := h; have s1 := qx0 hr.sm 1; have s2 := qx0 hr.sm 2; have s3 := qx0 hr.sm 3; have hk := hr.kf; have hf := hr.f1; have hl := hr.l1; have hl0 := hr.l0; have b1 : (p.2.getD 1 0).toNat < 1048577 := by omega
 have b2 : (p.2.getD 2 0).toNat < 1048577 := by omega
 have b3 : (p.2.getD 3 0).toNat < 33 := by omega
 have bk : p.1 ≤ 4 := by omega
 refine ⟨by unfold z0c U; omega, ?_⟩; have d0 : z0c p / (1048577 * 1048577 * 33) = p.1 := by unfold z0c; omega
 have d1 : z0c p / (1048577 * 33) % 1048577 = (p.2.getD 1 0).toNat := by unfold z0c; omega
 have d2 : z0c p / 33 % 1048577 = (p.2.getD 2 0).toNat := by unfold z0c; omega
 have d3 : z0c p % 33 = (p.2.getD 3 0).toNat := by unfold z0c; omega
 unfold dec; rw [d0, d1, d2, d3]; refine Prod.ext rfl ?_
 show List.take n [0, _, _, _] = p.2
 rw [Int.toNat_of_nonneg s1.1, Int.toNat_of_nonneg s2.1, Int.toNat_of_nonneg s3.1]; subst hn
 match hp : p.2, hl, hl0 with
 | [a], _, _ => rw [hp] at h0; simp at h0; simp [h0]
 | [a, b], _, _ => rw [hp] at h0; simp at h0; simp [h0]
 | [a, b, c], _, _ => rw [hp] at h0; simp at h0; simp [h0]
 | [a, b, c, d], _, _ => rw [hp] at h0; simp at h0; simp [h0]
theorem z9n {p q : Nat → Bool} : ∀ (l : List Nat), (∀ x ∈ l, p x = true → q x = true) → (l.filter p).length ≤ (l.filter q).length
 | [], _ => Nat.le_refl _
 | x :: l, h => by
  have ih := z9n l fun y hy => h y (by simp [hy]); have hx := h x (by simp); rw [List.filter_cons, List.filter_cons]
  cases hp : p x <;> cases hq : q x
  · exact ih
  · simp only [Bool.false_eq_true, if_false, if_true, List.length_cons]; omega
  · rw [hp, hq] at hx; exact absurd (hx rfl) (by simp)
  · simp only [if_true, List.length_cons]; omega
theorem cnt_lt {p q : Nat → Bool} : ∀ (l : List Nat), (∀ x ∈ l, p x = true → q x = true) → (∃ x ∈ l, p x = false ∧ q x = true) → (l.filter p).length < (l.filter q).length
 | [], _, h => by obtain ⟨x, hx, _⟩ := h; cases hx
 | x :: l, h, ⟨y, hy, h1, h2⟩ => by
  have hx := h x (by simp); have h' : ∀ y ∈ l, p y = true → q y = true := fun y hy => h y (by simp [hy]); rw [List.filter_cons, List.filter_cons]; rcases List.mem_cons.1 hy with rfl | hy
  · have := z9n l h'; rw [h1, h2]; simp only [Bool.false_eq_true, if_false, if_true, List.length_cons]; omega
  ·
   have := cnt_lt l h' ⟨y, hy, h1, h2⟩
   cases hp : p x <;> cases hq : q x
   · exact this
   · simp only [Bool.false_eq_true, if_false, if_true, List.length_cons]; omega
   · rw [hp, hq] at hx; exact absurd (hx rfl) (by simp)
   · simp only [if_true, List.length_cons]; omega
noncomputable def cnt (n : Nat) (L : List Hp) : Nat := ((List.range U).filter fun c => decide (cov L (dec n c))).length
theorem j84 (n : Nat) (L : List Hp) : cnt n L ≤ U := by
 unfold cnt; refine Nat.le_trans (List.length_filter_le _ _) ?_; rw [List.length_range]; exact Nat.le_refl _
noncomputable def Phi (N : Nat) (lev : Nat → Nat) (row : List (List Hp)) : Nat := ((List.range N).map fun v => cnt (lev v) (p9 row v)).sum
theorem zh7 {f g : Nat → Nat} : ∀ (l : List Nat), (∀ x ∈ l, f x ≤ g x) → (l.map f).sum ≤ (l.map g).sum
 | [], _ => Nat.le_refl _
 | x :: l, h => by
  have := zh7 l fun y hy => h y (by simp [hy]); have := h x (by simp); simp only [List.map_cons, List.sum_cons]; omega
theorem sum_lt {f g : Nat → Nat} : ∀ (l : List Nat), (∀ x ∈ l, f x ≤ g x) → (∃ x ∈ l, f x < g x) → (l.map f).sum < (l.map g).sum
 | [], _, h => by obtain ⟨x, hx, _⟩ := h; cases hx
 | x :: l, h, ⟨y, hy, hlt⟩ => by
  have h' : ∀ y ∈ l, f y ≤ g y := fun y hy => h y (by simp [hy]); have h1 := zh7 l h'; have h2 := h x (by simp); simp only [List.map_cons, List.sum_cons]; rcases List.mem_cons.1 hy with rfl | hy
  · omega
  · have := sum_lt l h' ⟨y, hy, hlt⟩; omega
theorem zb9 {f : Nat → Nat} {B : Nat} : ∀ (l : List Nat), (∀ x ∈ l, f x ≤ B) → (l.map f).sum ≤ l.length * B
 | [], _ => by simp
 | x :: l, h => by
  have := zb9 l fun y hy => h y (by simp [hy]); have := h x (by simp); simp only [List.map_cons, List.sum_cons, List.length_cons, Nat.add_mul]; omega
theorem z6p (N : Nat) (lev : Nat → Nat) (row : List (List Hp)) : Phi N lev row ≤ N * U := by
 have := zb9 (f := fun v => cnt (lev v) (p9 row v)) (B := U) (List.range N) fun v _ => j84 _ _; rw [List.length_range] at this; exact this
def covRow (row row' : List (List Hp)) : Prop := ∀ u z, cov (p9 row u) z → cov (p9 row' u) z
theorem covRow.refl (row : List (List Hp)) : covRow row row := fun _ _ h => h
theorem covRow.trans {a b c : List (List Hp)} (h : covRow a b) (k : covRow b c) : covRow a c := fun u z hz => k u z (h u z hz)
theorem j7i {N : Nat} {lev : Nat → Nat} {row row' : List (List Hp)} (h : covRow row row') : Phi N lev row ≤ Phi N lev row' :=
 zh7 _ fun v _ => z9n _ fun c _ hc => by simp only [decide_eq_true_eq] at hc ⊢; exact h v _ hc
theorem j0s {N : Nat} {lev : Nat → Nat} {row row' : List (List Hp)} (h : covRow row row') {v : Nat} (hv : v < N) {x : Hp} {F : Int} (hx : Rp F (lev v) x) (h0 : x.2.getD 0 0 = 0) (h3 : x.2.getD 3 0 < 33) (hn : ¬ cov (p9 row v) x) (hy : cov (p9 row' v) x) : Phi N lev row < Phi N lev row' := by
 obtain ⟨e1, e2⟩ := j5c hx h0 h3; refine sum_lt _ (fun v _ => z9n _ fun c _ hc => by simp only [decide_eq_true_eq] at hc ⊢; exact h v _ hc) ⟨v, List.mem_range.2 hv, cnt_lt _ (fun c _ hc => by simp only [decide_eq_true_eq] at hc ⊢; exact h v _ hc) ⟨z0c x, List.mem_range.2 e1, ?_, ?_⟩⟩
 · rw [e2, decide_eq_false_iff_not]; exact hn
 · rw [e2, decide_eq_true_eq]; exact hy
end HP
end Go.Proofs.YtlpfoonihpdekaaGreat
