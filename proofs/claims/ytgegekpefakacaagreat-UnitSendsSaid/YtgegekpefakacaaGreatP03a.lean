/-
  The law in plain words: what its plain function gives is true. No condition beyond those that each theorem names.
-/
import Derived.Test.YtgegekpefakacaaGreatWalkUS1
import Derived.Test.YtgegekpefakacaaGreatP01a
import Derived.Test.YtgegekpefakacaaGreatP05a
import Derived.Test.YtgegekpefakacaaGreatP09b
import Derived.Test.YtgegekpefakacaaGreatLibD
import Derived.Shelf.SlSortCmp.NoneTotal
import Derived.Shelf.Sort.Plain
import Derived.Shelf.Slices.CompactI
import Derived.Lib.RowBridge
import Derived.Shelf.Slices.In.SortNone
namespace Go.Proofs.YtgegekpefakacaaGreat
open Go Go.RowKit TS VA
namespace CH
theorem le_refl {a : GTime} (h : ok a) : le a a := ⟨h, h, rfl, Int.le_refl _, Int.le_refl _, Int.le_refl _, Int.le_refl _⟩
theorem j4d {a b c : GTime} (h : le a b) (k : le b c) : le a c := by
 obtain ⟨h1, h2, h3, h4, h5, h6, h7⟩ := h; obtain ⟨k1, k2, k3, k4, k5, k6, k7⟩ := k; exact ⟨h1, k2, by omega, by omega, by omega, by omega, by omega⟩
theorem j67 {a b : GTime} (h : le a b) (k : le b a) : a = b := key_inj h.1 h.2.1 (Int.le_antisymm (j0t h) (j0t k))
def Mn (l : List GTime) (x : GTime) : Prop := x ∈ l ∧ ok x ∧ ∀ s ∈ l, le s x → s = x
def kl (x y : GTime) : Prop := key x < key y
structure Ch (l a : List GTime) : Prop where
 inc : a.Pairwise kl
 mem : ∀ x, x ∈ a ↔ Mn l x
theorem zc7 : ∀ {a b : List GTime}, a.Pairwise kl → b.Pairwise kl → (∀ x, x ∈ a ↔ x ∈ b) → a = b
 | [], [], _, _, _ => rfl
 | [], y :: b, _, _, h => by have := (h y).2 (by simp); cases this
 | x :: a, [], _, _, h => by have := (h x).1 (by simp); cases this
 | x :: a, y :: b, ha, hb, h => by
  rw [List.pairwise_cons] at ha hb; have hxy : x = y := by
   rcases List.mem_cons.1 ((h x).1 (by simp)) with h1 | h1
   · exact h1
   rcases List.mem_cons.1 ((h y).2 (by simp)) with h2 | h2
   · exact h2.symm
   have := hb.1 x h1; have := ha.1 y h2; unfold kl at *; omega
  subst hxy; rw [zc7 ha.2 hb.2 fun z => ?_]; have hz := h z; simp only [List.mem_cons] at hz
  constructor
  ·
   intro hm; rcases hz.1 (.inr hm) with rfl | h2
   · have := ha.1 z hm; unfold kl at this; omega
   · exact h2
  ·
   intro hm; rcases hz.2 (.inr hm) with rfl | h2
   · have := hb.1 z hm; unfold kl at this; omega
   · exact h2
theorem Ch.uniq {l a b : List GTime} (ha : Ch l a) (hb : Ch l b) : a = b := zc7 ha.inc hb.inc fun x => (ha.mem x).trans (hb.mem x).symm
theorem snoc {α : Type} {l : List α} {i : Nat} (h : i < l.length) : l.take (i + 1) = l.take i ++ [l[i]] := List.take_succ_eq_append_getElem h
theorem j38 {l : List GTime} (p : GTime → Bool) : (∃ i, ∃ h : i < l.length, qw2 p l = (i : Int) ∧ p l[i] = true ∧ ∀ x ∈ l.take i, p x = false) ∨ qw2 p l = -1 ∧ ∀ x ∈ l, p x = false := by
 unfold qw2
 cases h : l.findIdx? p with
 | none =>
  right
  exact ⟨rfl, fun x hx => by simpa using List.findIdx?_eq_none_iff.1 h x hx⟩
 | some i =>
  left
  obtain ⟨hi, hp, hlt⟩ := List.findIdx?_eq_some_iff_getElem.1 h; refine ⟨i, hi, rfl, hp, fun x hx => ?_⟩; obtain ⟨j, hj, rfl⟩ := List.mem_iff_getElem.1 hx; rw [List.length_take] at hj; rw [List.getElem_take]
  simpa using hlt j (by omega)
theorem j41 {s : List GTime} {f : GTime → Option Bool} {p : GTime → Bool} (hl : s.length < 9223372036854775808) (hf : ∀ x ∈ s, f x = some (p x)) : q5e s f = some (qw2 p s) := z5k hl hf
theorem z3m {s : List GTime} {f : GTime → Option Bool} {p : GTime → Bool} (hl : s.length < 9223372036854775808) (hf : ∀ x ∈ s, f x = some (p x)) : q60 s f = some (s.any p) := q9e hl hf
theorem j1m {c : List GTime} {t : GTime} (hl : c.length < 9223372036854775808) : qe1 c t = some (c.any fun x => decide (le x t)) := by
 unfold qe1; rw [z3m (f := fun x0_ => q85 x0_ t) (p := fun x => decide (le x t)) hl (fun x _ => by unfold q85; rw [le_eq]; rfl)]; rfl
theorem j1l {s : List GTime} {f : GTime → Option Bool} {p : GTime → Bool} (hl : s.length < 1000000000) (hf : ∀ x ∈ s, f x = some (p x)) : q38 s f = some (s.filter fun x => !p x) := by
 unfold q38; rw [j41 (by omega) hf]; refine jf8 (Ok.bind (Ok.some ?_)); rcases j38 (l := s) p with ⟨i0, hi0, he, hp0, hlt⟩ | ⟨he, hno⟩
 ·
  rw [he, if_neg (by simp), iw hi0 (by omega)]; have hf0 : (s.take i0).filter (fun x => !p x) = s.take i0 := List.filter_eq_self.2 fun x hx => by rw [hlt x hx]; rfl
  refine eachG (l := s) (by omega) (fun j (q : Nat × List GTime) => ((q.1 : Int), j, q.2)) (fun q => q.2.1) (fun _ _ => rfl) (fun j q => q.1 < j ∧ q.2.length = s.length ∧ q.2.take q.1 = (s.take j).filter (fun x => !p x) ∧ q.2.drop j = s.drop j) (s0 := (i0, s)) (i0 + 1) (fun rec j hj q _ hI hr => ?_) (fun rec q hI => ?_) ⟨by dsimp only; omega, rfl, ?_, rfl⟩ hi0
  ·
   obtain ⟨i, a⟩ := q; obtain ⟨I1, I2, I3, I4⟩ := hI; dsimp only at I1 I2 I3 I4; have hja : j < a.length := by omega
   have haj : a[j] = s[j] := by
    have h1 := List.drop_eq_getElem_cons hja; have h2 := List.drop_eq_getElem_cons hj; rw [I4, h2] at h1; exact (List.cons.inj h1).1.symm
   have hdr : a.drop (j + 1) = s.drop (j + 1) := by rw [← List.drop_drop, ← List.drop_drop, I4]
   unfold q3o; dsimp only; rw [if_pos (by simpa using hja)]; refine Ok.bind (jf6 hja ?_); rw [haj, hf _ (List.getElem_mem hj), iw hj (by omega)]; refine Ok.bind (Ok.some ?_); have hft : (s.take (j + 1)).filter (fun x => !p x) = (s.take j).filter (fun x => !p x) ++ if (!p s[j]) = true then [s[j]] else [] := by rw [snoc hj, List.filter_append, List.filter_cons, List.filter_nil]
   refine jf5 (fun h1 => ?_) (fun h1 => ?_)
   ·
    refine Ok.bind (jf6 (show i < a.length by omega) ?_); have hwi : IntKind.i64.wrap ((i : Int) + 1) = ((i + 1 : Nat) : Int) := iw (show i < a.length by omega) (by omega); rw [hwi, Int.toNat_natCast]; refine hr (i + 1, a.set i s[j]) ⟨by dsimp only; omega, by simpa using I2, ?_, ?_⟩
    · dsimp only; rw [hft, if_pos h1, snoc (show i < (a.set i s[j]).length by simp; omega), List.getElem_set_self, List.take_set_of_le (Nat.le_refl i), I3]
    · dsimp only; rw [List.drop_set_of_lt (by omega)]; exact hdr
   · exact hr (i, a) ⟨by dsimp only; omega, I2, by rw [hft, if_neg (by rw [h1]; simp), List.append_nil]; exact I3, hdr⟩
  · obtain ⟨i, a⟩ := q; obtain ⟨I1, I2, I3, I4⟩ := hI; dsimp only at I1 I2 I3 I4; rw [List.take_length] at I3; unfold q3o; dsimp only; rw [if_neg (by simp; omega)]; refine Ok.guard (by omega) (Ok.guard (by simp; omega) (Ok.guard (by omega) (Ok.some ?_))); rw [Int.toNat_natCast, List.append_assoc, List.take_append_of_le_length (by rw [List.length_take]; omega), List.take_take, Nat.min_self, I3]
  · dsimp only; rw [snoc hi0, List.filter_append, hf0, List.filter_cons, List.filter_nil, if_neg (by simp [hp0]), List.append_nil]
 · rw [he, if_pos (by simp)]; exact Ok.some (List.filter_eq_self.2 fun x hx => by rw [hno x hx]; rfl).symm
theorem j1j {b : List GTime} {t : GTime} (h : b.Pairwise kl) (hg : ∀ x ∈ b, ok x) (ht : ok t) (hl : b.length < 1000000000) :
  Ok (q25 b t (fun x0_ x1_ => q9q x0_ x1_)) (fun v => ∃ A B, b = A ++ B ∧ (∀ x ∈ A, key x < key t) ∧ (∀ x ∈ B, key t ≤ key x) ∧ v.1 = (A.length : Int)) := by
 have hp := List.pairwise_iff_getElem.1 h; have hc : ∀ q (hq : q < b.length), q9q b[q] t = some (if key b[q] < key t then -1 else 1) := fun q hq => by
  unfold q9q; rw [TS.less_eq]; simp only [q9, Option.bind_some, decide_eq_true_eq]
  by_cases h2 : key b[q] < key t
  · rw [if_pos ⟨hg _ (List.getElem_mem hq), ht, h2⟩, if_pos h2]
  · rw [if_neg (fun h => h2 h.2.2), if_neg h2]
 have neg : ∀ q (_ : q < b.length), (if key b[q] < key t then (-1 : Int) else 1) < 0 ↔ key b[q] < key t := fun q hq => by split <;> omega
 unfold q25; refine jf7 (fun s => ∃ i j : Nat, s = ((i : Int), (j : Int)) ∧ i ≤ j ∧ j ≤ b.length ∧ (∀ q (_ : q < b.length), q < i → key b[q] < key t) ∧ (∀ q (_ : q < b.length), j ≤ q → ¬ key b[q] < key t)) (fun s => (s.2 - s.1).toNat) ?_ ⟨0, b.length, rfl, Nat.zero_le _, Nat.le_refl _, fun q _ h => by omega, fun q _ h => by omega⟩ (by simp only [rounds]; omega); rintro rec _ ⟨i, j, rfl, h1, h2, h3, h4⟩ hr; unfold q4x; simp only; refine jf5 (fun hx => ?_) (fun hx => ?_)
 ·
  simp only [decide_eq_true_eq] at hx; have hij : i < j := by omega
  rw [BG.half i j (by omega)]; have hm : (i + j) / 2 < b.length := by omega
  refine Ok.bind (jf6 hm (Ok.bind (jf9 (hc _ hm) (jf5 (fun hn => ?_) (fun hn => ?_)))))
  ·
   simp only [decide_eq_true_eq] at hn; rw [wrap_i64 _ (by omega)]; refine hr _ ⟨(i + j) / 2 + 1, j, rfl, by omega, h2, fun q hq hlt => ?_, h4⟩ (by simp only; omega); have hn' := (neg _ hm).1 hn; rcases Nat.lt_or_ge q ((i + j) / 2) with h | h
   · have : key b[q] < key b[(i + j) / 2] := hp q _ hq hm h; omega
   ·
    have : q = (i + j) / 2 := by omega
    subst this; exact hn'
  ·
   simp only [decide_eq_false_iff_not] at hn; refine hr _ ⟨i, (i + j) / 2, rfl, by omega, by omega, h3, fun q hq hle hlt => ?_⟩ (by simp only; omega); have hn' := mt (neg _ hm).2 hn; rcases Nat.lt_or_ge ((i + j) / 2) q with h | h
   · have : key b[(i + j) / 2] < key b[q] := hp _ q hm hq h; omega
   ·
    have : q = (i + j) / 2 := by omega
    subst this; exact hn' hlt
 ·
  simp only [decide_eq_false_iff_not] at hx; have : i = j := by omega
  subst this; unfold q2u; have hA : ∀ x ∈ b.take i, key x < key t := fun x hx => by
   obtain ⟨q, hq, rfl⟩ := List.mem_iff_getElem.1 hx; rw [List.length_take] at hq; rw [List.getElem_take]; exact h3 q (by omega) (by omega)
  have hB : ∀ x ∈ b.drop i, key t ≤ key x := fun x hx => by
   obtain ⟨q, hq, rfl⟩ := List.mem_iff_getElem.1 hx; rw [List.length_drop] at hq; rw [List.getElem_drop]; have := h4 (i + q) (by omega) (by omega); omega
  have hlen : (b.take i).length = i := by rw [List.length_take]; omega
  refine jf5 (fun hc2 => ?_) (fun hc2 => Ok.some ⟨b.take i, b.drop i, (List.take_append_drop _ _).symm, hA, hB, by rw [hlen]⟩); simp only [decide_eq_true_eq] at hc2; have hi : i < b.length := by omega
  exact Ok.bind (jf6 hi (Ok.bind (jf9 (hc _ hi) (Ok.some ⟨b.take i, b.drop i, (List.take_append_drop _ _).symm, hA, hB, by rw [hlen]⟩))))
structure Inv (l a : List GTime) : Prop where
 inc : a.Pairwise kl
 sub : ∀ x ∈ a, x ∈ l ∧ ok x
 anti : ∀ x ∈ a, ∀ y ∈ a, le x y → x = y
 cov : ∀ s ∈ l, ok s → ∃ y ∈ a, le y s
 len : a.length ≤ l.length
theorem Inv.ch {l a : List GTime} (h : Inv l a) : Ch l a := ⟨h.inc, fun x => by
 constructor
 · intro hx; refine ⟨(h.sub x hx).1, (h.sub x hx).2, fun s hs hle => ?_⟩; obtain ⟨y, hy, hys⟩ := h.cov s hs hle.1; have := h.anti y hy x hx (j4d hys hle); subst this; exact j67 hle hys
 · rintro ⟨h1, h2, h3⟩; obtain ⟨y, hy, hys⟩ := h.cov x h1 h2; rw [← h3 y (h.sub y hy).1 hys]; exact hy⟩
theorem Inv.pass {l a : List GTime} {t : GTime} (h : Inv l a) (ht : ¬ ok t ∨ ∃ x ∈ a, le x t) : Inv (l ++ [t]) a := ⟨h.inc, fun x hx => ⟨List.mem_append_left _ (h.sub x hx).1, (h.sub x hx).2⟩, h.anti, fun s hs hok => by
 rcases List.mem_append.1 hs with hs | hs
 · exact h.cov s hs hok
 ·
  rw [List.mem_singleton] at hs; subst hs; rcases ht with h1 | h1
  · exact absurd hok h1
  · exact h1, by have := h.len; simp; omega⟩
theorem Inv.put {l a A B : List GTime} {t : GTime} (h : Inv l a) (ht : ok t) (hc : ¬ ∃ x ∈ a, le x t) (hAB : a.filter (fun x => !decide (le t x)) = A ++ B) (hA : ∀ x ∈ A, key x < key t) (hB : ∀ x ∈ B, key t ≤ key x) : Inv (l ++ [t]) (A ++ t :: B) := by
 have hm : ∀ x, x ∈ A ∨ x ∈ B ↔ x ∈ a ∧ ¬ le t x := fun x => by
  rw [← List.mem_append, ← hAB, List.mem_filter]; simp
 have hmem : ∀ x, x ∈ A ++ t :: B ↔ x = t ∨ (x ∈ a ∧ ¬ le t x) := fun x => by
  rw [List.mem_append, List.mem_cons, ← hm]
  constructor
  ·
   rintro (h | h | h)
   · exact .inr (.inl h)
   · exact .inl h
   · exact .inr (.inr h)
  ·
   rintro (h | h | h)
   · exact .inr (.inl h)
   · exact .inl h
   · exact .inr (.inr h)
 have hs : (A ++ B).Pairwise kl := by rw [← hAB]; exact h.inc.filter _
 obtain ⟨s1, s2, s3⟩ := List.pairwise_append.1 hs; have hB' : ∀ x ∈ B, key t < key x := fun x hx => by
  have h1 := hB x hx; have h2 := ((hm x).1 (.inr hx)).1; rcases Int.lt_or_eq_of_le h1 with h3 | h3
  · exact h3
  · have := key_inj ht (h.sub x h2).2 h3; subst this; exact absurd ⟨t, h2, le_refl ht⟩ hc
 refine ⟨List.pairwise_append.2 ⟨s1, List.pairwise_cons.2 ⟨hB', s2⟩, fun x hx y hy => ?_⟩, fun x hx => ?_, fun x hx y hy hle => ?_, fun s hs hok => ?_, ?_⟩
 ·
  rcases List.mem_cons.1 hy with rfl | hy
  · exact hA x hx
  · exact s3 x hx y hy
 ·
  rcases (hmem x).1 hx with rfl | ⟨h1, _⟩
  · exact ⟨by simp, ht⟩
  · exact ⟨List.mem_append_left _ (h.sub x h1).1, (h.sub x h1).2⟩
 ·
  rcases (hmem x).1 hx with rfl | ⟨x1, x2⟩ <;> rcases (hmem y).1 hy with rfl | ⟨y1, y2⟩
  · rfl
  · exact absurd hle y2
  · exact absurd ⟨x, x1, hle⟩ hc
  · exact h.anti x x1 y y1 hle
 ·
  rcases List.mem_append.1 hs with hs | hs
  ·
   obtain ⟨y, hy, hys⟩ := h.cov s hs hok
   by_cases h1 : le t y
   · exact ⟨t, (hmem t).2 (.inl rfl), j4d h1 hys⟩
   · exact ⟨y, (hmem y).2 (.inr ⟨hy, h1⟩), hys⟩
  · rw [List.mem_singleton] at hs; subst hs; exact ⟨s, (hmem s).2 (.inl rfl), le_refl hok⟩
 ·
  have h1 : (A ++ B).length ≤ a.length := by rw [← hAB]; exact List.length_filter_le _ _
  have := h.len; simp only [List.length_append, List.length_cons, List.length_nil] at h1 ⊢; omega
theorem Of_ok {l : List GTime} (hl : l.length < 1000000) : Ok (qb2 l) fun a => Ch l a ∧ a.length ≤ l.length := by
 unfold qb2; refine eachG (l := l) (by omega) (fun i (a : List GTime) => (i, a)) (fun q => q.1) (fun _ _ => rfl) (fun i a => Inv (l.take i) a) 0 (fun rec i hi a _ hI hr => ?_) (fun rec a hI => ?_) ⟨List.Pairwise.nil, by simp, by simp, by simp, by simp⟩ (Nat.zero_le _)
 ·
  have hal : a.length ≤ i := by have := hI.len; rw [List.length_take] at this; omega
  unfold qt5; dsimp only; rw [if_pos (by simpa using hi), iw hi (by omega)]; refine Ok.bind (jf6 hi ?_); rw [TS.Right_eq]; refine Ok.bind (Ok.some (jf5 (fun h1 => ?_) (fun h1 => ?_)))
  ·
   simp only [decide_eq_true_eq] at h1; rw [j1m (by omega)]; refine Ok.bind (Ok.some (jf5 (fun h2 => ?_) (fun h2 => ?_)))
   · rw [List.any_eq_true] at h2; obtain ⟨x, hx, hle⟩ := h2; exact hr a (by rw [snoc hi]; exact hI.pass (.inr ⟨x, hx, by simpa using hle⟩))
   ·
    have hno : ¬ ∃ x ∈ a, le x l[i] := fun ⟨x, hx, hle⟩ => by
     rw [List.any_eq_false] at h2; have := h2 x hx; simp [hle] at this
    rw [j1l (f := fun x0_ => qe0 x0_ l[i]) (p := fun x => decide (le l[i] x)) (by omega) (fun x _ => by unfold qe0; rw [le_eq]; rfl)]; have hfl : (a.filter fun x => !decide (le l[i] x)).length ≤ a.length := List.length_filter_le _ _; refine Ok.bind (Ok.some (jf4 (j1j (hI.inc.filter _) (fun x hx => (hI.sub x (List.mem_filter.1 hx).1).2) h1 (by omega)) fun v ⟨A, B, hAB, hA, hB, hv⟩ => ?_)); unfold q6s z00; rw [hv, hAB]; rw [hAB] at hfl; have hlen : (A ++ B).length = A.length + B.length := List.length_append; refine Ok.bind (Ok.guard ⟨by omega, by omega, by simp, by simp; omega, by unfold maxLen; simp; omega⟩ (Ok.some ?_)); have e : List.take (A.length : Int).toNat (A ++ B) ++ [l[i]] ++ List.drop (A.length : Int).toNat (A ++ B) = A ++ l[i] :: B := by
     rw [Int.toNat_natCast, List.take_left, List.drop_left]; simp
    rw [e]; exact hr _ (by rw [snoc hi]; exact hI.put h1 hno hAB hA hB)
  · simp only [decide_eq_false_iff_not] at h1; exact hr a (by rw [snoc hi]; exact hI.pass (.inl h1))
 · unfold qt5; dsimp only; rw [if_neg (by simp)]; rw [List.take_length] at hI; exact Ok.some ⟨hI.ch, hI.len⟩
theorem zo7 {a b : List GTime} (ha : a.length < 1000000000) : q7y a b = some (decide (a = b)) := by
 unfold q7y; refine jf8 (jf5 (fun h => Ok.some ?_) (fun h => ?_))
 · symm; rw [decide_eq_false_iff_not]; rintro rfl; simp at h
 ·
  have hlen : a.length = b.length := by simp at h; omega
  refine jg0 (l := a) (by omega) (fun i => a.take i = b.take i) 0 (fun rec i hi _ hI hr => ?_) (fun rec hI => ?_) (by simp) (Nat.zero_le _)
  ·
   unfold q88; rw [if_pos (by simpa using hi)]; refine Ok.bind (jf6 hi (Ok.bind (jf6 (by omega) ?_))); rw [teq, iw hi (by omega)]; refine jf5 (fun h1 => Ok.some ?_) (fun h1 => hr ?_)
   · symm; rw [decide_eq_false_iff_not]; rintro rfl; simp at h1
   · rw [snoc hi, snoc (show i < b.length by omega), hI]; simp at h1; rw [h1]
  · unfold q88; rw [if_neg (by simp)]; rw [List.take_length, hlen, List.take_length] at hI; exact Ok.some (by rw [hI]; simp)
def Rt (c : List GTime) : Prop := Ch c c
open Classical in
theorem Right1 {c : List GTime} (hl : c.length < 1000000) : qj1 c = some (decide (Rt c)) := by
 obtain ⟨a, h1, h2, _⟩ := Of_ok hl; have he : decide (c = a) = decide (Rt c) := by
  rw [decide_eq_decide]
  constructor
  · rintro rfl; exact h2
  · intro h; exact h.uniq h2
 unfold qj1; rw [h1]; simp only [q9, Option.bind_some]; rw [zo7 (by omega), he]; rfl
end CH
end Go.Proofs.YtgegekpefakacaaGreat
