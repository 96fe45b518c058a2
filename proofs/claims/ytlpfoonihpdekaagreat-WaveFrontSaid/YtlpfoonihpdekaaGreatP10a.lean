/-
  The law in plain words: what its plain function gives is true. No condition beyond those that each theorem names.
-/
import Derived.Test.YtlpfoonihpdekaaGreatWalkWF0
import Derived.Test.YtlpfoonihpdekaaGreatP02b
set_option linter.unusedSimpArgs false
set_option linter.unusedVariables false
set_option linter.unusedSectionVars false
namespace Go.Proofs.YtlpfoonihpdekaaGreat
open Go Go.RowKit VA
namespace HP
abbrev Hp := Nat × List Int
def hle (p q : Hp) : Prop := le p.1 p.2 q.1 q.2
def mkp (F : Int) (p : Hp) : GHop := mk F p.1 p.2
def Rp (F : Int) (n : Nat) (p : Hp) : Prop := Rh F p.1 p.2 ∧ p.2.length = n
theorem q92 (p : Hp) : hle p p := le_refl _ _
theorem q8w {n : Nat} {a b c : Hp} (ha : a.2.length = n) (hb : b.2.length = n) (h : hle a b) (k : hle b c) : hle a c := le_trans (by omega) h k
open Classical in
noncomputable def q8g (L : List Hp) (x : Hp) : List Hp × Bool := if ∃ y ∈ L, hle y x then (L, false) else (L.filter (fun y => !decide (hle x y)) ++ [x], true)
open Classical in
theorem put_eq {F : Int} {n : Nat} {L : List Hp} {x : Hp} (hL : ∀ p ∈ L, Rp F n p) (hx : Rp F n x) (hl : L.length < 1000000000) : qp9 (L.map (mkp F)) (mkp F x) = some ((q8g L x).1.map (mkp F), (q8g L x).2) := by
 unfold qp9; rw [show mkp F x = mk F x.1 x.2 from rfl, qb6 hx.1]; refine ja2 (Ok.bind (Ok.some ?_)); rw [if_neg (by simp)]; refine q3k (l := L) (by omega) (fun i (a : List GHop) => (i, a)) (fun p => p.1) (fun _ _ => rfl) (fun i a => (∀ y ∈ L.take i, ¬ hle y x) ∧ a = ((L.take i).filter (fun y => !decide (hle x y))).map (mkp F)) 0 (fun rec i hi a _ hI hr => ?_) (fun rec a hI => ?_) ⟨by simp, by simp⟩ (Nat.zero_le _)
 ·
  obtain ⟨I1, rfl⟩ := hI; have hq := hL _ (List.getElem_mem hi); have hfl : ((L.take i).filter (fun y => !decide (hle x y))).length ≤ i := by
   refine Nat.le_trans (List.length_filter_le _ _) ?_; rw [List.length_take]; omega
  unfold qo0; dsimp only; rw [if_pos (by simp; omega), iw hi (by omega)]; refine Ok.bind (ja0 (by simpa using hi) ?_); rw [List.getElem_map, show mkp F L[i] = mk F L[i].1 L[i].2 from rfl, j3z hq.1 hx.1 (by rw [hq.2, hx.2])]; refine Ok.bind (Ok.some (j9z (fun h1 => Ok.some ?_) (fun h1 => ?_)))
  · simp only [decide_eq_true_eq] at h1; unfold q8g; rw [if_pos ⟨_, List.getElem_mem hi, h1⟩]
  ·
   simp only [decide_eq_false_iff_not] at h1; have I1' : ∀ y ∈ L.take (i + 1), ¬ hle y x := by
    intro y hy; rw [snoc hi, List.mem_append, List.mem_singleton] at hy; rcases hy with hy | rfl
    · exact I1 y hy
    · exact h1
   rw [j3z hx.1 hq.1 (by rw [hq.2, hx.2])]; refine Ok.bind (Ok.some (j9z (fun h2 => ?_) (fun h2 => ?_)))
   ·
    refine Ok.guard (by rw [List.length_map]; simp; omega) (hr _ ⟨I1', ?_⟩); have h2' : ¬ hle x L[i] := by simpa [hle] using h2
    rw [snoc hi, List.filter_append, List.map_append, List.filter_cons, List.filter_nil, if_pos (by simpa using h2')]; rfl
   ·
    refine hr _ ⟨I1', ?_⟩; have h2' : hle x L[i] := by simpa [hle] using h2
    rw [snoc hi, List.filter_append, List.map_append, List.filter_cons, List.filter_nil, if_neg (by simpa using h2')]; simp
 · obtain ⟨I1, rfl⟩ := hI; rw [List.take_length] at I1; have hfl : (L.filter (fun y => !decide (hle x y))).length ≤ L.length := List.length_filter_le _ _; unfold qo0; dsimp only; rw [if_neg (by simp), List.take_length]; refine Ok.guard (by rw [List.length_map]; simp; omega) (Ok.some ?_); unfold q8g; rw [if_neg (fun ⟨y, hy, h⟩ => I1 y hy h)]; simp [mkp]
def anti (L : List Hp) : Prop := L.Pairwise fun a b => ¬ hle a b ∧ ¬ hle b a
theorem put_mem {L : List Hp} {x y : Hp} (h : y ∈ (q8g L x).1) : y ∈ L ∨ y = x := by
 unfold q8g at h
 split at h
 · exact .inl h
 ·
  rcases List.mem_append.1 h with h | h
  · exact .inl (List.mem_filter.1 h).1
  · exact .inr (by simpa using h)
theorem j22 {L : List Hp} {x : Hp} (h : anti L) : anti (q8g L x).1 := by
 unfold q8g
 split
 · exact h
 ·
  rename_i hn
  refine List.pairwise_append.2 ⟨h.filter _, by simp, fun a ha b hb => ?_⟩; rw [List.mem_singleton] at hb; subst hb; obtain ⟨h1, h2⟩ := List.mem_filter.1 ha; exact ⟨fun h3 => hn ⟨a, h1, h3⟩, by simpa using h2⟩
def cov (L : List Hp) (z : Hp) : Prop := ∃ y ∈ L, hle y z
theorem j4p {F : Int} {n : Nat} {L : List Hp} {x z : Hp} (hL : ∀ p ∈ L, Rp F n p) (hx : Rp F n x) (h : cov L z) : cov (q8g L x).1 z := by
 unfold q8g
 split
 · exact h
 ·
  obtain ⟨y, hy, hyz⟩ := h
  by_cases hxy : hle x y
  · exact ⟨x, by simp, q8w hx.2 (hL y hy).2 hxy hyz⟩
  · exact ⟨y, List.mem_append_left _ (List.mem_filter.2 ⟨hy, by simpa using hxy⟩), hyz⟩
theorem j21 (L : List Hp) (x : Hp) : cov (q8g L x).1 x := by
 unfold q8g
 split
 · assumption
 · exact ⟨x, by simp, q92 x⟩
theorem j4o {L : List Hp} {x : Hp} (h : (q8g L x).2 = true) : ¬ cov L x := by
 unfold q8g at h
 split at h
 · cases h
 · assumption
theorem z9x {L : List Hp} {x : Hp} (h : (q8g L x).2 = false) : (q8g L x).1 = L := by
 unfold q8g at h ⊢
 split
 · rfl
 · rename_i hn; rw [if_neg hn] at h; cases h
theorem zb1 {L : List Hp} (h : anti L) {a b : Hp} (ha : a ∈ L) (hb : b ∈ L) (hle' : hle a b) : a = b := by
 obtain ⟨i, hi, rfl⟩ := List.mem_iff_getElem.1 ha; obtain ⟨j, hj, rfl⟩ := List.mem_iff_getElem.1 hb; have hp := List.pairwise_iff_getElem.1 h; rcases Nat.lt_trichotomy i j with h1 | rfl | h1
 · exact absurd hle' (hp i j hi hj h1).1
 · rfl
 · exact absurd hle' (hp j i hj hi h1).2
theorem z5z : ∀ (n : Nat) (l : List Nat), l.Nodup → (∀ x ∈ l, x < n) → l.length ≤ n
 | 0, [], _, _ => Nat.le_refl _
 | 0, x :: l, _, h => absurd (h x (by simp)) (by omega)
 | n + 1, l, hd, h => by
  have h1 := z5z n (l.filter (fun x => !(x == n))) (hd.filter _) (fun x hx => by
   obtain ⟨h2, h3⟩ := List.mem_filter.1 hx; have := h x h2; simp at h3; omega)
  have h2 : l.length ≤ (l.filter (fun x => !(x == n))).length + 1 := by
   clear h1 h
   induction l with
   | nil => simp
   | cons y l ih =>
    rw [List.nodup_cons] at hd; rw [List.filter_cons]
    split
    · simp only [List.length_cons]; have := ih hd.2; omega
    ·
     rename_i hy
     have hyn : y = n := by simpa using hy
     subst hyn; have : l.filter (fun x => !(x == y)) = l := List.filter_eq_self.2 fun x hx => by
      have : x ≠ y := fun e => hd.1 (e ▸ hx)
      simpa using this
     rw [this]; simp
  omega
end HP
end Go.Proofs.YtlpfoonihpdekaaGreat
