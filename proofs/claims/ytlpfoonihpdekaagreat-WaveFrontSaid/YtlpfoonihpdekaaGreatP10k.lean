/-
  The law in plain words: what its plain function gives is true. No condition beyond those that each theorem names.
-/
import Derived.Test.YtlpfoonihpdekaaGreatWalkWF1
import Derived.Test.YtlpfoonihpdekaaGreatP10j
import Derived.Test.YtlpfoonihpdekaaGreatP09c
set_option linter.unusedSimpArgs false
set_option linter.unusedVariables false
set_option linter.unusedSectionVars false
namespace Go.Proofs.YtlpfoonihpdekaaGreat
open Go Go.RowKit VA
namespace HP
open Classical
theorem zm9 {g : GGraph} (hG : VA.Good g) {v : Nat} (hv : v < g.Nodes.length) : q36 g (v : Int) false = some (lev g v : Int) := by
 obtain ⟨h0, h1, h2⟩ := z6v hG hv; have hn := hG.nl; have hp := hG.pl; unfold q36; rw [if_neg (by simp only [Bool.or_eq_true, decide_eq_true_eq]; omega)]; have hin : inS g.Parent.length (q8s g (nd g v)) := by
  unfold q8s
  split
  ·
   rename_i hk
   obtain ⟨p0, p1, _, _⟩ := (z3w hG h0 h1).2.2 (h2 (.inl hk)); exact .inr ⟨p0, p1⟩
  · exact .inr ⟨h0, h1⟩
 have hnd : ndI g (v : Int) = nd g v := by unfold ndI; rw [Int.toNat_natCast]
 rw [z8c hG.no (show inG g (v : Int) from ⟨by omega, by omega⟩) false, hnd]; refine ja2 (Ok.bind (Ok.some ?_)); rw [if_neg (by simp), z5b (wpG hG) (by omega) hin]; refine Ok.bind (Ok.some (Ok.some ?_)); unfold lev dep; rw [if_pos hv, List.length_reverse]
theorem j20 {g : GGraph} (hG : VA.Good g) {e : GEdge} (he : e ∈ g.Edges) : q6g g e = some (mkp (lev g e.From.toNat) (q0n g e)) := by
 obtain ⟨hf, ht, _, _, hgt, _, _⟩ := hG.ed.at he; have hfn : e.From.toNat < g.Nodes.length := by have := hf.1; have := hf.2; omega
 obtain ⟨k10, k11, k12, hlen⟩ := z4g hG hfn; obtain ⟨l1, l4⟩ := qw8 hG e.From.toNat; have hcast : e.From = ((e.From.toNat : Nat) : Int) := by have := hf.1; omega
 have hi : idx g.Nodes e.From = some (nd g e.From.toNat) := ja2 (Ok.idx' hf.1 hf.2 fun x hx => getD_some hx); have hL : q36 g e.From false = some (lev g e.From.toNat : Int) := by have h := zm9 hG hfn; rw [← hcast] at h; exact h
 unfold q6g; rw [hL]; refine ja2 (Ok.bind (Ok.some ?_)); rw [hi]; refine Ok.bind (Ok.some ?_); unfold q0n qm8 mkp
 by_cases h10 : (nd g e.From.toNat).Kind = 10
 · rw [if_pos (by simpa using h10), if_pos h10]; refine Ok.some ?_; rw [qz6]; simp
 rw [if_neg (by simpa using h10), if_neg h10]
 by_cases h11 : (nd g e.From.toNat).Kind = 11
 ·
  rw [if_pos (by simpa using h11), if_pos h11]; refine Ok.some ?_; have := k11 h11; rw [qz6, wrap_i64 _ (by omega)]
  congr 1
  · omega
  · omega
 rw [if_neg (by simpa using h11), if_neg h11]
 by_cases h12 : (nd g e.From.toNat).Kind = 12
 ·
  rw [if_pos (by simpa using h12), if_pos h12]; have := k12 h12; rw [wrap_i64 _ (by omega)]; refine Ok.guard (by omega) (Ok.bind (Ok.some (Ok.bind (Ok.some (Ok.bind (Ok.some (Ok.bind (Ok.some (Ok.some ?_)))))))))
  generalize lev g e.From.toNat = d at *
  rcases (by omega : d = 2 ∨ d = 3 ∨ d = 4) with rfl | rfl | rfl <;> rfl
 · rw [if_neg (by simpa using h12), if_neg h12]; refine Ok.some ?_; rw [qz6]; simp
theorem z4h {n : Nat} {p q : Hp} (hp : p.2.length = n) (hq : q.2.length = n) (h : hle p q) (k : hle q p) : p = q := by
 obtain ⟨a, xs⟩ := p; obtain ⟨b, ys⟩ := q; have h1 := h.1; have h2 := k.1; dsimp only at hp hq h1 h2; obtain rfl : a = b := by omega
 congr 1
 exact List.ext_getElem (by omega) fun i i1 i2 => Int.le_antisymm (h.2 i i1 i2) (k.2 i i2 i1)
theorem j3a : ∀ (xs ys : List Int), xs.length = ys.length → (∀ i (h : i < xs.length) (h' : i < ys.length), xs[i] ≤ ys[i]) → (∀ x ∈ xs, 0 ≤ x) → (xs.map Int.toNat).sum ≤ (ys.map Int.toNat).sum ∧ ((xs.map Int.toNat).sum = (ys.map Int.toNat).sum → ∀ i (h : i < xs.length) (h' : i < ys.length), ys[i] ≤ xs[i])
 | [], [], _, _, _ => ⟨Nat.le_refl _, fun _ i h => absurd h (by simp)⟩
 | [], _ :: _, h, _, _ => absurd h (by simp)
 | _ :: _, [], h, _, _ => absurd h (by simp)
 | x :: xs, y :: ys, hl, hp, h0 => by
  have ih := j3a xs ys (by simpa using hl) (fun i h h' => hp (i + 1) (by simpa using h) (by simpa using h')) (fun z hz => h0 z (by simp [hz])); have hxy : x ≤ y := hp 0 (by simp) (by simp); have hx := h0 x (by simp); simp only [List.map_cons, List.sum_cons]; refine ⟨by omega, fun he i h h' => ?_⟩
  cases i with
  | zero => simp only [List.getElem_cons_zero]; omega
  | succ i => simp only [List.getElem_cons_succ]; exact ih.2 (by omega) i _ _
def ms (p : Hp) : Nat := p.1 + (p.2.map Int.toNat).sum
theorem j7v {F : Int} {n : Nat} {p q : Hp} (hp : Rp F n p) (hq : Rp F n q) (h : hle p q) (k : ¬ hle q p) : ms p < ms q := by
 obtain ⟨a, b⟩ := j3a p.2 q.2 (by rw [hp.2, hq.2]) h.2 (fun x hx => (hp.1.sm x hx).1); have h1 := h.1; unfold ms
 by_cases he : p.1 = q.1
 ·
  by_cases hs : (p.2.map Int.toNat).sum = (q.2.map Int.toNat).sum
  · exact absurd ⟨by omega, fun i i1 i2 => b hs i i2 i1⟩ k
  · omega
 · omega
def z4f (L : List Hp) (i : Nat) (hi : i < L.length) : Prop := ∀ k (hk : k < L.length), k ≠ i → hle L[k] L[i] → hle L[i] L[k] ∧ ¬ k < i
theorem j02 {F : Int} {n : Nat} {L : List Hp} (hL : ∀ p ∈ L, Rp F n p) : ∀ (m i : Nat) (hi : i < L.length), ms L[i] * (L.length + 1) + i < m → ∃ j, ∃ hj : j < L.length, z4f L j hj ∧ hle L[j] L[i]
 | 0, _, _, hm => absurd hm (by omega)
 | m + 1, i, hi, hm => by
  by_cases hlow : z4f L i hi
  · exact ⟨i, hi, hlow, q92 _⟩
  ·
   unfold z4f at hlow; simp only [Classical.not_forall] at hlow; obtain ⟨k, hk, hki, hle', hn⟩ := hlow; have rk := hL _ (List.getElem_mem hk); have ri := hL _ (List.getElem_mem hi); have hlt : ms L[k] * (L.length + 1) + k < ms L[i] * (L.length + 1) + i := by
    by_cases hb : hle L[i] L[k]
    ·
     have he := z4h rk.2 ri.2 hle' hb; have hlt : k < i := by
      by_cases hki' : k < i
      · exact hki'
      · exact absurd ⟨hb, hki'⟩ hn
     rw [he]; omega
    · have h1 := j7v rk ri hle' hb; have h2 : (ms L[k] + 1) * (L.length + 1) ≤ ms L[i] * (L.length + 1) := Nat.mul_le_mul_right _ h1; rw [Nat.add_mul, Nat.one_mul] at h2; omega
   obtain ⟨j, hj, j1, j2⟩ := j02 hL m k hk (by omega); exact ⟨j, hj, j1, q8w (hL _ (List.getElem_mem hj)).2 rk.2 j2 hle'⟩
theorem zz3 {F : Int} {n : Nat} {L : List Hp} (hL : ∀ p ∈ L, Rp F n p) (hl : L.length < 1000000000000) :
  Ok (q3w (L.map (mkp F))) fun r => ∃ A, r = A.map (mkp F) ∧ (∀ p ∈ A, p ∈ L) ∧ anti A ∧ ∀ z, cov L z → cov A z := by
 unfold q3w; refine q3k (l := L) (by omega) (fun i (a : List GHop) => (i, a)) (fun p => p.1) (fun _ _ => rfl) (fun i a => ∃ A : List Hp, a = A.map (mkp F) ∧ A.length ≤ i ∧ (∀ p ∈ A, ∃ j, ∃ hj : j < L.length, j < i ∧ z4f L j hj ∧ p = L[j]) ∧ anti A ∧ ∀ j (hj : j < L.length), j < i → z4f L j hj → L[j] ∈ A) 0 (fun rec i hi a _ hI hr => ?_) (fun rec a hI => ?_) ⟨[], rfl, Nat.le_refl _, by simp, List.Pairwise.nil, fun _ _ h => absurd h (by omega)⟩ (Nat.zero_le _)
 ·
  obtain ⟨A, rfl, I1, I2, I3, I4⟩ := hI; have ri := hL _ (List.getElem_mem hi); unfold q49; dsimp only; rw [if_pos (by simp; omega)]; refine Ok.bind (ja0 (by simpa using hi) ?_); rw [List.getElem_map, show mkp F L[i] = mk F L[i].1 L[i].2 from rfl, qs7 ri.1]; refine Ok.bind (Ok.some ?_); dsimp only; refine q3k (l := L) (by omega) (fun k (b : Bool) => (b, k)) (fun p => p.2) (fun _ _ => rfl) (fun k b => b = true ↔ ∀ j (hj : j < L.length), j < k → j ≠ i → hle L[j] L[i] → hle L[i] L[j] ∧ ¬ j < i) 0 (fun rec' k hk b _ hJ hr' => ?_) (fun rec' b hJ => ?_) (by simp) (Nat.zero_le _)
  ·
   have rk := hL _ (List.getElem_mem hk); unfold q6j; dsimp only; rw [if_pos (by simp; omega), iw hk (by omega)]; have hstep : ∀ (b' : Bool), ((b' = true) ↔ (b = true ∧ (k ≠ i → hle L[k] L[i] → hle L[i] L[k] ∧ ¬ k < i))) → Ok (rec' (b', ((k + 1 : Nat) : Int))) _ := fun b' hb' => hr' b' (by
    rw [hb', hJ]
    constructor
    ·
     rintro ⟨a1, a2⟩ j hj hjk
     by_cases hjk' : j = k
     · subst hjk'; exact a2
     · exact a1 j hj (by omega)
    · intro a; exact ⟨fun j hj hjk => a j hj (by omega), a k hk (by omega)⟩)
   refine j9z (fun h1 => ?_) (fun h1 => ?_)
   ·
    have h1' : (k : Int) = i := by simpa using h1
    have : k = i := by omega
    exact hstep b (by simp [this])
   have h1' : ¬ (k : Int) = i := by simpa using h1
   have hki : k ≠ i := by omega
   refine Ok.bind (ja0 (by simpa using hk) ?_); rw [List.getElem_map, show mkp F L[k] = mk F L[k].1 L[k].2 from rfl, z8q rk.1 ri.1 (by rw [rk.2, ri.2]), z8q ri.1 rk.1 (by rw [rk.2, ri.2])]; refine Ok.bind (Ok.some (j9z (fun h2 => ?_) (fun h2 => ?_)))
   ·
    have h2' : ¬ hle L[k] L[i] := by simpa [hle] using h2
    exact hstep b (by simp [h2'])
   ·
    have h2' : hle L[k] L[i] := by simpa [hle] using h2
    refine Ok.bind (Ok.some (j9z (fun h3 => ?_) (fun h3 => ?_)))
    ·
     have h3' : ¬ (hle L[i] L[k] ∧ ¬ k < i) := by
      simp only [Bool.or_eq_true, Bool.not_eq_true', decide_eq_false_iff_not, decide_eq_true_eq] at h3; rintro ⟨a, b⟩; rcases h3 with h3 | h3
      · exact h3 a
      · omega
     exact hstep false (by
      constructor
      · intro h; cases h
      · rintro ⟨_, a⟩; exact absurd (a hki h2') h3')
    ·
     have h3' : hle L[i] L[k] ∧ ¬ k < i := by
      simp only [Bool.or_eq_false_iff, Bool.not_eq_false', decide_eq_true_eq, decide_eq_false_iff_not] at h3; exact ⟨h3.1, by omega⟩
     exact hstep b (by simp [h3'])
  ·
   unfold q6j; dsimp only; rw [if_neg (by simp)]; unfold q6i; rw [iw hi (by omega)]; have hlow : b = true ↔ z4f L i hi := by
    rw [hJ]; exact ⟨fun h j hj => h j hj hj, fun h j hj _ => h j hj⟩
   refine j9z (fun hb => ?_) (fun hb => ?_)
   ·
    have hli := hlow.1 hb; refine Ok.guard (by rw [List.length_map]; simp; omega) (hr _ ⟨A ++ [L[i]], by simp [mkp], by simp; omega, fun p hp => ?_, ?_, fun j hj hji hlj => ?_⟩)
    ·
     rw [List.mem_append, List.mem_singleton] at hp; rcases hp with hp | rfl
     · obtain ⟨j, hj, a1, a2, a3⟩ := I2 p hp; exact ⟨j, hj, by omega, a2, a3⟩
     · exact ⟨i, hi, by omega, hli, rfl⟩
    · refine List.pairwise_append.2 ⟨I3, by simp, fun p hp q hq => ?_⟩; rw [List.mem_singleton] at hq; subst hq; obtain ⟨j, hj, a1, a2, rfl⟩ := I2 p hp; have n1 : ¬ hle L[j] L[i] := fun h => (hli j hj (by omega) h).2 a1; exact ⟨n1, fun h => n1 (a2 i hi (by omega) h).1⟩
    ·
     by_cases hji' : j = i
     · subst hji'; simp
     · exact List.mem_append_left _ (I4 j hj (by omega) hlj)
   ·
    have hli : ¬ z4f L i hi := fun h => by rw [hlow.2 h] at hb; cases hb
    refine hr _ ⟨A, rfl, by omega, fun p hp => ?_, I3, fun j hj hji hlj => ?_⟩
    · obtain ⟨j, hj, a1, a2, a3⟩ := I2 p hp; exact ⟨j, hj, by omega, a2, a3⟩
    ·
     by_cases hji' : j = i
     · subst hji'; exact absurd hlj hli
     · exact I4 j hj (by omega) hlj
 ·
  obtain ⟨A, rfl, I1, I2, I3, I4⟩ := hI; unfold q49; dsimp only; rw [if_neg (by simp)]; refine Ok.some ⟨A, rfl, fun p hp => ?_, I3, fun z ⟨y, hy, hyz⟩ => ?_⟩
  · obtain ⟨j, hj, _, _, rfl⟩ := I2 p hp; exact List.getElem_mem hj
  · obtain ⟨i, hi, rfl⟩ := List.mem_iff_getElem.1 hy; obtain ⟨j, hj, a1, a2⟩ := j02 hL _ i hi (Nat.lt_succ_self _); exact ⟨L[j], I4 j hj hj a1, q8w (hL _ (List.getElem_mem hj)).2 (hL _ (List.getElem_mem hi)).2 a2 hyz⟩
theorem has_eq {F : Int} {n : Nat} {L : List Hp} (hL : ∀ p ∈ L, Rp F n p) (hl : L.length < 1000000000000) {x : Hp} (hx : Rp F n x) : q56 (L.map (mkp F)) (mkp F x) = some (decide (x ∈ L)) := by
 refine ja2 ?_; unfold q56; refine ja5 (l := L) (by omega) (fun i => x ∉ L.take i) 0 (fun rec i hi _ hI hr => ?_) (fun rec hI => ?_) (by simp) (Nat.zero_le _)
 ·
  have ri := hL _ (List.getElem_mem hi); unfold q7p; rw [if_pos (by simp; omega), iw hi (by omega)]; refine Ok.bind (ja0 (by simpa using hi) ?_); rw [List.getElem_map, show mkp F L[i] = mk F L[i].1 L[i].2 from rfl, show mkp F x = mk F x.1 x.2 from rfl, z8q ri.1 hx.1 (by rw [ri.2, hx.2]), z8q hx.1 ri.1 (by rw [ri.2, hx.2])]; have hno : x ≠ L[i] → Ok (rec ((i + 1 : Nat) : Int)) (fun r => r = decide (x ∈ L)) := fun hne => hr (by
   rw [snoc hi, List.mem_append, List.mem_singleton]; rintro (h | h)
   · exact hI h
   · exact hne h)
  refine Ok.bind (Ok.some (j9z (fun h1 => Ok.bind (Ok.some (j9z (fun h2 => Ok.some ?_) (fun h2 => hno ?_)))) (fun h1 => hno ?_)))
  · have he : L[i] = x := z4h ri.2 hx.2 (by simpa [hle] using h1) (by simpa [hle] using h2); rw [← he]; simp
  · rintro rfl; simp [le_refl] at h2
  · rintro rfl; simp [le_refl] at h1
 · unfold q7p; rw [if_neg (by simp)]; rw [List.take_length] at hI; exact Ok.some (by simp [hI])
theorem j5o {F : Int} {n : Nat} {A B : List Hp} (hA : ∀ p ∈ A, Rp F n p) (hB : ∀ p ∈ B, Rp F n p) (hl : A.length < 1000000000000) (hl' : B.length < 1000000000000) :
  Ok (q6h (A.map (mkp F)) (B.map (mkp F))) fun b => (b = true → (∀ x ∈ A, x ∈ B) ∧ ∀ x ∈ B, x ∈ A) ∧ (A.length = B.length → (∀ x ∈ A, x ∈ B) → (∀ x ∈ B, x ∈ A) → b = true) := by
 unfold q6h
 by_cases hll : A.length = B.length
 ·
  rw [if_neg (by simp [hll])]; refine ja5 (l := A) (by omega) (fun i => (∀ x ∈ A.take i, x ∈ B) ∧ ∀ x ∈ B.take i, x ∈ A) 0 (fun rec i hi _ hI hr => ?_) (fun rec hI => ?_) (by simp) (Nat.zero_le _)
  ·
   obtain ⟨I1, I2⟩ := hI; have hib : i < B.length := by omega
   unfold q75; rw [if_pos (by simp; omega), iw hi (by omega)]; refine Ok.bind (ja0 (by simpa using hi) ?_); rw [List.getElem_map, has_eq hB hl' (hA _ (List.getElem_mem hi))]; refine Ok.bind (Ok.some (j9z (fun h1 => ?_) (fun h1 => Ok.some ⟨fun h => (by cases h), fun _ h => ?_⟩)))
   ·
    refine Ok.bind (ja0 (by simpa using hib) ?_); rw [List.getElem_map, has_eq hA hl (hB _ (List.getElem_mem hib))]; refine Ok.bind (Ok.some (j9z (fun h2 => Ok.some ⟨fun h => (by cases h), fun _ _ h => ?_⟩) (fun h2 => hr ?_)))
    · have := h _ (List.getElem_mem hib); simp [this] at h2
    ·
     simp only [decide_eq_true_eq] at h1; have h2' : B[i] ∈ A := by simpa using h2
     rw [snoc hi, snoc hib]; refine ⟨fun x hx => ?_, fun x hx => ?_⟩
     ·
      rw [List.mem_append, List.mem_singleton] at hx; rcases hx with hx | rfl
      · exact I1 x hx
      · exact h1
     ·
      rw [List.mem_append, List.mem_singleton] at hx; rcases hx with hx | rfl
      · exact I2 x hx
      · exact h2'
   · have := h _ (List.getElem_mem hi); simp [this] at h1
  · obtain ⟨I1, I2⟩ := hI; rw [List.take_length] at I1; rw [hll, List.take_length] at I2; unfold q75; rw [if_neg (by simp)]; exact Ok.some ⟨fun _ => ⟨I1, I2⟩, fun _ _ _ => rfl⟩
 · rw [if_pos (by simp only [Bool.not_eq_true', beq_eq_false_iff_ne, ne_eq, List.length_map]; omega)]; exact Ok.some ⟨fun h => (by cases h), fun h => absurd h hll⟩
end HP
end Go.Proofs.YtlpfoonihpdekaaGreat
