/-
  The law in plain words: what its plain function gives is true. No condition beyond those that each theorem names.
-/
import Derived.Test.YtbcbcdbkdljjlaaGreatWalkUT2
import Derived.Test.YtbcbcdbkdljjlaaGreatWalkUT1
import Derived.Test.YtbcbcdbkdljjlaaGreatP03a
set_option linter.unusedSimpArgs false
set_option linter.unusedVariables false
set_option linter.unusedSectionVars false
namespace Go.Proofs.YtbcbcdbkdljjlaaGreat
open Go Go.RowKit TS VA
namespace CH
def Lw (l : List GTime) (x : GTime) (i k : Nat) : Prop := ok x ∧ ∀ j (h : j < l.length), j < k → ¬ (l[j] ≠ x ∧ le l[j] x) ∧ ¬ (j < i ∧ l[j] = x)
theorem Lw.iff {l : List GTime} {i : Nat} (hi : i < l.length) : Lw l l[i] i l.length ↔ Mn l l[i] ∧ l[i] ∉ l.take i := by
  constructor
  · rintro ⟨h1, h2⟩
    refine ⟨⟨List.getElem_mem hi, h1, fun s hs hle => ?_⟩, fun hm => ?_⟩
    · obtain ⟨j, hj, rfl⟩ := List.mem_iff_getElem.1 hs
      by_cases hne : l[j] = l[i]
      · exact hne
      · exact absurd ⟨hne, hle⟩ (h2 j hj hj).1
    · obtain ⟨j, hj, he⟩ := List.mem_iff_getElem.1 hm
      rw [List.length_take] at hj; rw [List.getElem_take] at he; exact (h2 j (by omega) (by omega)).2 ⟨by omega, he⟩
  · rintro ⟨⟨_, h1, h2⟩, h3⟩
    refine ⟨h1, fun j hj _ => ⟨fun ⟨a, b⟩ => a (h2 _ (List.getElem_mem hj) b), fun ⟨a, b⟩ => h3 ?_⟩⟩; rw [← b]; exact List.mem_iff_getElem.2 ⟨j, by rw [List.length_take]; omega, by rw [List.getElem_take]⟩
theorem Lw.succ {l : List GTime} {x : GTime} {i k : Nat} (hk : k < l.length) : Lw l x i (k + 1) ↔ Lw l x i k ∧ ¬ (l[k] ≠ x ∧ le l[k] x) ∧ ¬ (k < i ∧ l[k] = x) := by
  constructor
  · rintro ⟨h1, h2⟩
    exact ⟨⟨h1, fun j hj hlt => h2 j hj (by omega)⟩, h2 k hk (by omega)⟩
  · rintro ⟨⟨h1, h2⟩, h3⟩
    refine ⟨h1, fun j hj hlt => ?_⟩; rcases Nat.lt_or_ge j k with h | h
    · exact h2 j hj h
    · obtain rfl : j = k := by omega
      exact h3
theorem z1s {A B : List GTime} {x : GTime} {Q : GTime → Prop} (h : Q x) : Ok (idx (A ++ x :: B) (A.length : Int)) Q := by
  refine Ok.idxN (by simp) ?_; rw [List.getElem_append_right (Nat.le_refl _)]
  simpa using h
theorem za4 {l o : List GTime} {i : Nat} {x : GTime} {rec_1 : Int × (List GTime) → Option (List GTime)} {Q : List GTime → Prop} (ho : o.Pairwise kl) (hok : ∀ y ∈ o, ok y) (hx : ok x) (hno : x ∉ o) (hl : o.length < 1000000) (hi : i < 1000000)
    (hr : ∀ a : List GTime, a.Pairwise kl → (∀ y, y ∈ a ↔ y = x ∨ y ∈ o) → a.length = o.length + 1 → Ok (rec_1 (((i + 1 : Nat) : Int), a)) Q) : Ok (p9 (q76 (i : Int) rec_1) rounds (IntKind.i64.wrap (((o ++ [x]).length : Int) - 1), o ++ [x])) Q := by
  have h0 : IntKind.i64.wrap (((o ++ [x]).length : Int) - 1) = (o.length : Int) := by
    rw [List.length_append, List.length_singleton, wrap_i64 _ (by omega)]; omega
  rw [h0]; refine Ok.loop0 (fun p => ∃ A B, p = ((A.length : Int), A ++ x :: B) ∧ o = A ++ B ∧ ∀ y ∈ B, key x < key y) (fun p => p.1.toNat) ?_ ⟨o, [], rfl, by simp, by simp⟩ (by simp only [rounds]; omega); rintro rec _ ⟨A, B, rfl, rfl, hB⟩ hr'; have hmem : ∀ y, y ∈ A ++ x :: B ↔ y = x ∨ y ∈ A ++ B := fun y => by
    simp only [List.mem_append, List.mem_cons]
    constructor
    · rintro (h | h | h)
      · exact .inr (.inl h)
      · exact .inl h
      · exact .inr (.inr h)
    · rintro (h | h | h)
      · exact .inr (.inl h)
      · exact .inl h
      · exact .inr (.inr h)
  obtain ⟨s1, s2, s3⟩ := List.pairwise_append.1 ho; unfold q76; dsimp only; have hend : (∀ y ∈ A, key y < key x) → Ok (rec_1 (((i + 1 : Nat) : Int), A ++ x :: B)) Q := fun hA => by
    refine hr _ (List.pairwise_append.2 ⟨s1, List.pairwise_cons.2 ⟨hB, s2⟩, fun y hy z hz => ?_⟩) hmem (by simp; omega); rcases List.mem_cons.1 hz with rfl | hz
    · exact hA y hy
    · exact s3 y hy z hz
  have hwi : IntKind.i64.wrap ((i : Int) + 1) = ((i + 1 : Nat) : Int) := by rw [wrap_i64 _ (by omega)]; omega
  rw [hwi]; rcases List.eq_nil_or_concat A with rfl | ⟨A', p, rfl⟩
  · rw [if_neg (by simp)]
    exact hend (by simp)
  · rw [List.concat_eq_append] at *
    have hlen : (A' ++ [p]).length = A'.length + 1 := by simp
    rw [hlen, if_pos (by simp <;> omega)]; have hs : (A' ++ [p]) ++ x :: B = A' ++ p :: x :: B := by simp
    have hs2 : A' ++ p :: x :: B = (A' ++ [p]) ++ x :: B := by simp
    refine Ok.bind ?_; rw [← hlen]; refine z1s ?_; have hw1 : IntKind.i64.wrap (((A' ++ [p]).length : Int) - 1) = (A'.length : Int) := by rw [hlen, wrap_i64 _ (by simp at hl; omega)]; omega
    rw [hw1]; refine Ok.bind ?_; rw [hs]; refine z1s ?_; have hp : ok p := hok p (by simp); rw [z06]; refine Ok.bind (Ok.some (Ok.iteB (fun h1 => ?_) (fun h1 => ?_)))
    · simp only [decide_eq_true_eq] at h1
      have e1 : List.set (A' ++ p :: x :: B) ((A' ++ [p]).length : Int).toNat p = A' ++ p :: p :: B := by
        rw [Int.toNat_natCast, hs2, List.set_append_right _ _ (Nat.le_refl _), Nat.sub_self]; simp
      have e2 : List.set (A' ++ p :: p :: B) (A'.length : Int).toNat x = A' ++ x :: p :: B := by
        rw [Int.toNat_natCast, List.set_append_right _ _ (Nat.le_refl _), Nat.sub_self]; rfl
      rw [e1]; refine Ok.bind (z1s ?_); rw [e2]; refine hr' _ ⟨A', p :: B, rfl, by simp, fun y hy => ?_⟩ (by simp only [hlen]; omega); rcases List.mem_cons.1 hy with rfl | hy
      · exact h1.2.2
      · exact hB y hy
    · simp only [decide_eq_false_iff_not] at h1
      rw [hs2]; have hpx : key p < key x := by
        have h2 : ¬ key x < key p := fun h => h1 ⟨hx, hp, h⟩; have h3 : key p ≠ key x := fun h => hno (by rw [← key_inj hp hx h]; simp); omega
      refine hend fun y hy => ?_; rcases List.mem_append.1 hy with hy | hy
      · have : key y < key p := (List.pairwise_append.1 s1).2.2 y hy p (by simp)
        omega
      · rw [List.mem_singleton] at hy; subst hy; exact hpx
theorem zj4 {l : List GTime} (hl : l.length < 1000000) : Ok (q6l l) fun a => Ch l a := by
  unfold q6l; refine eachG (l := l) (by omega) (fun i (a : List GTime) => (i, a)) (fun q => q.1) (fun _ _ => rfl) (fun i a => a.Pairwise kl ∧ (∀ x, x ∈ a ↔ Mn l x ∧ x ∈ l.take i) ∧ a.length ≤ i) 0 (fun rec i hi a _ hI hr => ?_) (fun rec a hI => ?_) ⟨List.Pairwise.nil, by simp, by simp⟩ (Nat.zero_le _)
  · obtain ⟨I1, I2, I3⟩ := hI
    unfold q77; dsimp only; rw [if_pos (by simpa using hi)]; refine Ok.bind (Ok.idxN hi ?_); rw [qs3]; refine Ok.bind (Ok.some ?_); refine eachG (l := l) (by omega) (fun k (b : Bool) => (b, k)) (fun q => q.2) (fun _ _ => rfl) (fun k b => b = true ↔ Lw l l[i] i k) (s0 := (if ok l[i] then (lst l[i], true) else ([], false)).2) 0 (fun rec' k hk b _ hb hr' => ?_) (fun rec' b hb => ?_) (by
      unfold Lw
      by_cases h : ok l[i]
      · rw [if_pos h]; simp [h]
      · rw [if_neg h]; simp [h]) (Nat.zero_le _)
    · unfold q75
      dsimp only; rw [if_pos (by simpa using hk), iw hk (by omega)]; refine Ok.bind (Ok.idxN hk ?_); rw [teq]; have hsu := Lw.succ (x := l[i]) (i := i) hk; have hkeep : (¬ (l[k] ≠ l[i] ∧ le l[k] l[i]) ∧ ¬ (k < i ∧ l[k] = l[i])) → Ok (rec' (b, ((k + 1 : Nat) : Int))) fun a => Ch l a := fun h => hr' b (by rw [hsu, ← hb]; exact ⟨fun x => ⟨x, h⟩, fun x => x.1⟩); have hdrop : ¬ (¬ (l[k] ≠ l[i] ∧ le l[k] l[i]) ∧ ¬ (k < i ∧ l[k] = l[i])) → Ok (rec' (false, ((k + 1 : Nat) : Int))) fun a => Ch l a := fun h => hr' false (by rw [hsu]; exact ⟨(fun x => by cases x), (fun x => absurd x.2 h)⟩)
      by_cases he : l[k] = l[i]
      · rw [if_pos (by simpa using he)]
        refine Ok.iteB (fun h1 => ?_) (fun h1 => ?_)
        · simp only [decide_eq_true_eq] at h1
          rw [if_pos (by simpa using he)]; exact hdrop fun h => h.2 ⟨by omega, he⟩
        · simp only [decide_eq_false_iff_not] at h1
          exact hkeep ⟨fun h => h.1 he, fun h => h1 (by omega)⟩
      · rw [if_neg (by simpa using he), zj1]
        refine Ok.bind (Ok.some (Ok.iteB (fun h1 => ?_) (fun h1 => ?_)))
        · simp only [decide_eq_true_eq] at h1
          exact hdrop fun h => h.1 ⟨he, h1⟩
        · simp only [decide_eq_false_iff_not] at h1
          have := hkeep ⟨fun h => h1 h.2, fun h => he h.2⟩; refine Ok.iteB (fun _ => ?_) (fun _ => this); rw [if_neg (by simpa using he)]; exact this
    · unfold q75
      dsimp only; rw [if_neg (by simp)]; unfold qa9; rw [Lw.iff hi] at hb; have hnew : ∀ x, Mn l x ∧ x ∈ l.take (i + 1) ↔ (Mn l x ∧ x ∈ l.take i) ∨ (x = l[i] ∧ Mn l l[i]) := fun x => by
        rw [snoc hi, List.mem_append, List.mem_singleton]
        constructor
        · rintro ⟨h1, h2 | rfl⟩
          · exact .inl ⟨h1, h2⟩
          · exact .inr ⟨rfl, h1⟩
        · rintro (h | ⟨rfl, h⟩)
          · exact ⟨h.1, .inl h.2⟩
          · exact ⟨h, .inr rfl⟩
      refine Ok.iteB (fun h1 => ?_) (fun h1 => ?_)
      · rw [Bool.not_eq_true'] at h1
        rw [h1] at hb; rw [iw hi (by omega)]; refine hr a ⟨I1, fun x => ?_, by omega⟩; rw [I2, hnew]
        constructor
        · exact .inl
        · rintro (h | ⟨rfl, h⟩)
          · exact h
          · refine ⟨h, ?_⟩
            by_cases hm : l[i] ∈ l.take i
            · exact hm
            · exact absurd (hb.2 ⟨h, hm⟩) (by simp)
      · rw [Bool.not_eq_false'] at h1
        obtain ⟨hm, hn⟩ := hb.1 h1; refine Ok.guard (by simp; omega) ?_; refine za4 (l := l) I1 (fun y hy => ((I2 y).1 hy).1.2.1) hm.2.1 (fun h => hn ((I2 _).1 h).2) (by omega) (by omega) fun b' b1 b2 b3 => hr b' ⟨b1, fun x => ?_, by omega⟩; rw [b2, I2, hnew]
        constructor
        · rintro (rfl | h)
          · exact .inr ⟨rfl, hm⟩
          · exact .inl h
        · rintro (h | ⟨rfl, _⟩)
          · exact .inr h
          · exact .inl rfl
  · unfold q77
    dsimp only; rw [if_neg (by simp)]; obtain ⟨I1, I2, _⟩ := hI; exact Ok.some ⟨I1, fun x => by rw [I2, List.take_length]; exact ⟨fun h => h.1, fun h => ⟨h, h.1⟩⟩⟩
theorem zh6 {l : List GTime} (hl : l.length < 1000000) : ∃ a, q6j l = some a ∧ q6l l = some a ∧ Ch l a ∧ a.length ≤ l.length := by
  obtain ⟨a, h1, h2, h3⟩ := zm7 hl; obtain ⟨b, h4, h5⟩ := zj4 hl; obtain rfl := h2.uniq h5; exact ⟨a, h1, h4, h2, h3⟩
theorem z5u {a b : List GTime} (ha : a.length < 1000000000) : q4x a b = some (decide (a = b)) := by
  unfold q4x; refine Ok.eq (Ok.iteB (fun h => Ok.some ?_) (fun h => ?_))
  · symm; rw [decide_eq_false_iff_not]; rintro rfl; simp at h
  · have hlen : a.length = b.length := by simp at h; omega
    refine Ok.each1 (l := a) (by omega) (fun i => a.take i = b.take i) 0 (fun rec i hi _ hI hr => ?_) (fun rec hI => ?_) (by simp) (Nat.zero_le _)
    · unfold q3u
      rw [if_pos (by simpa using hi)]; refine Ok.bind (Ok.idxN hi (Ok.bind (Ok.idxN (by omega) ?_))); rw [teq, iw hi (by omega)]; refine Ok.iteB (fun h1 => Ok.some ?_) (fun h1 => hr ?_)
      · symm; rw [decide_eq_false_iff_not]; rintro rfl; simp at h1
      · rw [snoc hi, snoc (show i < b.length by omega), hI]
        simp at h1; rw [h1]
    · unfold q3u
      rw [if_neg (by simp)]; rw [List.take_length, hlen, List.take_length] at hI; exact Ok.some (by rw [hI]; simp)
theorem z09 {a b : List GTime} (ha : a.length < 1000000000) : q2e a b = some (decide (a = b)) := z5u ha
def Rt (c : List GTime) : Prop := Ch c c
open Classical in
theorem Right_eq' {c : List GTime} (hl : c.length < 1000000) : q7u c = some (decide (Rt c)) ∧ ∃ a, q6l c = some a ∧ q2e c a = some (decide (Rt c)) := by
  obtain ⟨a, h1, h2, h3, _⟩ := zh6 hl; have he : decide (c = a) = decide (Rt c) := by
    rw [decide_eq_decide]
    constructor
    · rintro rfl; exact h3
    · intro h; exact h.uniq h3
  refine ⟨?_, a, h2, by rw [z09 (by omega), he]⟩; unfold q7u; rw [h1]; simp only [j6, Option.bind_some]; rw [z5u (by omega), he]; rfl
end CH
end Go.Proofs.YtbcbcdbkdljjlaaGreat
