/-
  The law in plain words: what its plain function gives is true. No condition beyond those that each theorem names.
-/
import Derived.Test.YtgegekpefakacaaGreatWalkUS0
import Derived.Test.YtgegekpefakacaaGreatP01a
import Derived.Test.YtgegekpefakacaaGreatP05c
namespace Go.Proofs.YtgegekpefakacaaGreat
open Go Go.RowKit BG TS
namespace CE
def emp (s : GSlot) : Bool := s.In.a0.isEmpty && (s.In.a1.isEmpty && s.Sent.isEmpty)
def lens (n : Nat) (s : GSlot) : Prop := s.In.a0.length ≤ n ∧ s.In.a1.length ≤ n ∧ s.Sent.length ≤ n
theorem isE {α : Type} (l : List α) : ((l.length : Int) == 0) = l.isEmpty := by cases l <;> simp; omega
theorem zm9 {s : GSlot} (h : lens 1000000 s) : qe2 s = some (emp s) := by
 obtain ⟨h1, h2, h3⟩ := h; unfold qe2 emp; rw [wrap_i64 ((s.In.a0.length : Int) + s.In.a1.length) (by omega), wrap_i64 _ (by omega), ← isE, ← isE, ← isE]; refine congrArg some (Bool.eq_iff_iff.2 ?_); simp only [beq_iff_eq, Bool.and_eq_true]; omega
structure Good (s : GSlot) : Prop where
 time : ok s.Time
 some : emp s = false
 a0 : Rt s.In.a0
 a1 : Rt s.In.a1
 sent : Rt s.Sent
def klt (a b : GSlot) : Prop := key a.Time < key b.Time
structure Cl (c : List GSlot) : Prop where
 inc : c.Pairwise klt
 good : ∀ s ∈ c, Good s
theorem Cl.nil : Cl [] := ⟨List.Pairwise.nil, by simp⟩
theorem Cl.succ {c : List GSlot} {i : Nat} (hi : i < c.length) (hI : Cl (c.take i)) (hg : Good c[i]) (hk : ∀ (_ : 0 < i), key (c[i - 1]'(by omega)).Time < key c[i].Time) : Cl (c.take (i + 1)) := by
 rw [List.take_succ_eq_append_getElem hi]; refine ⟨List.pairwise_append.2 ⟨hI.inc, by simp, fun x hx y hy => ?_⟩, fun x hx => ?_⟩
 ·
  rw [List.mem_singleton] at hy; subst hy; obtain ⟨j, hj, rfl⟩ := List.mem_iff_getElem.1 hx; rw [List.length_take] at hj; have h1 := hk (by omega); rw [List.getElem_take]; rcases Nat.lt_or_ge j (i - 1) with h | h
  · have := (List.pairwise_iff_getElem.1 hI.inc) j (i - 1) (by rw [List.length_take]; omega) (by rw [List.length_take]; omega) h; rw [List.getElem_take, List.getElem_take] at this; unfold klt at *; omega
  ·
   have : j = i - 1 := by omega
   subst this; exact h1
 ·
  rcases List.mem_append.1 hx with hx | hx
  · exact hI.good x hx
  · rw [List.mem_singleton] at hx; rw [hx]; exact hg
open Classical in
theorem cRight_eq {c : List GSlot} (hl : c.length < 1000000000) (hs : ∀ s ∈ c, lens 1000000 s) : q8f c = some (decide (Cl c)) := by
 refine jf8 ?_; unfold q8f; refine jg0 (l := c) (by omega) (fun i => Cl (c.take i)) 0 (fun rec i hi _ hI hr => ?_) (fun rec hI => ?_) (by simpa using Cl.nil) (Nat.zero_le _)
 ·
  unfold ql1; have hmem : c[i] ∈ c := List.getElem_mem hi; have no : ¬ Cl c → Ok (some false) (fun r => r = decide (Cl c)) := fun h => Ok.some (decide_eq_false h).symm; obtain ⟨l0, l1, l2⟩ := hs _ hmem; have last : ok c[i].Time → emp c[i] = false → (∀ (_ : 0 < i), key (c[i - 1]'(by omega)).Time < key c[i].Time) → Ok (q9 (q1k c[i].In.a0) (fun (v_20 : Bool) => (if v_20 = true then q9 (q1k c[i].In.a1) (fun (v_21 : Bool) => (if v_21 = true then q9 (q1k c[i].Sent) (fun (v_22 : Bool) => (if (!v_22) = true then some false else rec (IntKind.i64.wrap (i + 1)))) else some false)) else some false))) (fun r => r = decide (Cl c)) := fun h1 h2 h3 => by
   refine Ok.bind (jf9 (BG.Right_eq (by omega)) (jf5 (fun h4 => ?_) (fun h4 => no fun h => by simp [(h.good _ hmem).a0] at h4))); refine Ok.bind (jf9 (BG.Right_eq (by omega)) (jf5 (fun h5 => ?_) (fun h5 => no fun h => by simp [(h.good _ hmem).a1] at h5))); refine Ok.bind (jf9 (BG.Right_eq (by omega)) (jf5 (fun h6 => no fun h => by simp [(h.good _ hmem).sent] at h6) (fun h6 => ?_))); rw [wrap_i64 ((i : Int) + 1) (by omega)]; exact hr (hI.succ hi ⟨h1, h2, of_decide_eq_true h4, of_decide_eq_true h5, of_decide_eq_true (by simpa using h6)⟩ h3)
  refine jf5 (fun _ => Ok.bind (jf6 hi (Ok.bind (jf9 (TS.Right_eq _) (jf5 (fun h1 => Ok.bind (jf9 (zm9 ⟨l0, l1, l2⟩) (jf5 (fun h2 => no fun h => ?_) (fun h2 => jf5 (fun h0 => ?_) (fun h0 => ?_))))) (fun h1 => no fun h => ?_)))))) (fun hx => by simp only [decide_eq_false_iff_not] at hx; omega)
  · rw [(h.good _ hmem).some] at h2; cases h2
  ·
   simp only [decide_eq_true_eq] at h0 h1; rw [wrap_i64 ((i : Int) - 1) (by omega), show (i : Int) - 1 = ((i - 1 : Nat) : Int) by omega]; refine Ok.bind (jf6 (by omega) (Ok.bind (jf9 (TS.less_eq _ _) (jf5 (fun h3 => no fun h => ?_) (fun h3 => last h1 h2 fun _ => ?_)))))
   · have h4 : klt (c[i - 1]'(by omega)) c[i] := (List.pairwise_iff_getElem.1 h.inc) (i - 1) i (by omega) hi (by omega); have h5 := (h.good _ (List.getElem_mem (show i - 1 < c.length by omega))).time; unfold klt at h4; simp [h1, h5] at h3; omega
   · simp only [Bool.not_eq_false', decide_eq_true_eq] at h3; exact h3.2.2
  · simp only [decide_eq_false_iff_not] at h0; simp only [decide_eq_true_eq] at h1; exact last h1 h2 fun h => by omega
  · simp [(h.good _ hmem).time] at h1
 · unfold ql1; refine jf5 (fun hx => by simp only [decide_eq_true_eq] at hx; omega) (fun _ => Ok.some ?_); rw [List.take_length] at hI; exact (decide_eq_true hI).symm
theorem find_ok {b : List GSlot} {t : GTime} (h : b.Pairwise klt) (hg : ∀ s ∈ b, ok s.Time) (ht : ok t) (hl : b.length < 1000000000) :
  Ok (q89 b t) (fun v => ∃ A B, b = A ++ B ∧ (∀ x ∈ A, key x.Time < key t) ∧ (∀ x ∈ B, key t ≤ key x.Time) ∧ v.1 = (A.length : Int) ∧ v.2 = (match B with | [] => false | x :: _ => decide (x.Time = t))) := by
 have hp := List.pairwise_iff_getElem.1 h; have hc : ∀ q (_ : q < b.length), q7n b[q] t = some (if b[q].Time = t then 0 else if key b[q].Time < key t then -1 else 1) := fun q hq => by
  unfold q7n; rw [teq, TS.less_eq]
  by_cases h1 : b[q].Time = t
  · rw [if_pos (by simpa using h1), if_pos h1]
  ·
   rw [if_neg (by simpa using h1), if_neg h1]; simp only [q9, Option.bind_some, decide_eq_true_eq]
   by_cases h2 : key b[q].Time < key t
   · rw [if_pos ⟨hg _ (List.getElem_mem hq), ht, h2⟩, if_pos h2]
   · rw [if_neg (fun h => h2 h.2.2), if_neg h2]
 have neg : ∀ q (_ : q < b.length), (if b[q].Time = t then (0 : Int) else if key b[q].Time < key t then -1 else 1) < 0 ↔ key b[q].Time < key t := fun q hq => by
  by_cases h1 : b[q].Time = t
  · rw [if_pos h1, h1]; omega
  · rw [if_neg h1]; split <;> omega
 unfold q89 q2v; refine Ok.bind (jf7 (fun s => ∃ i j : Nat, s = ((i : Int), (j : Int)) ∧ i ≤ j ∧ j ≤ b.length ∧ (∀ q (_ : q < b.length), q < i → key b[q].Time < key t) ∧ (∀ q (_ : q < b.length), j ≤ q → ¬ key b[q].Time < key t)) (fun s => (s.2 - s.1).toNat) ?_ ⟨0, b.length, rfl, Nat.zero_le _, Nat.le_refl _, fun q _ h => by omega, fun q _ h => by omega⟩ (by simp only [rounds]; omega)); rintro rec _ ⟨i, j, rfl, h1, h2, h3, h4⟩ hr; unfold q3h; simp only; refine jf5 (fun hx => ?_) (fun hx => ?_)
 ·
  simp only [decide_eq_true_eq] at hx; have hij : i < j := by omega
  rw [half i j (by omega)]; have hm : (i + j) / 2 < b.length := by omega
  refine Ok.bind (jf6 hm (Ok.bind (jf9 (hc _ hm) (jf5 (fun hn => ?_) (fun hn => ?_)))))
  ·
   simp only [decide_eq_true_eq] at hn; rw [wrap_i64 _ (by omega)]; refine hr _ ⟨(i + j) / 2 + 1, j, rfl, by omega, h2, fun q hq hlt => ?_, h4⟩ (by simp only; omega); have hn' := (neg _ hm).1 hn; rcases Nat.lt_or_ge q ((i + j) / 2) with h | h
   · have : key b[q].Time < key b[(i + j) / 2].Time := hp q _ hq hm h; omega
   ·
    have : q = (i + j) / 2 := by omega
    subst this; exact hn'
  ·
   simp only [decide_eq_false_iff_not] at hn; refine hr _ ⟨i, (i + j) / 2, rfl, by omega, by omega, h3, fun q hq hle hlt => ?_⟩ (by simp only; omega); have hn' := mt (neg _ hm).2 hn; rcases Nat.lt_or_ge ((i + j) / 2) q with h | h
   · have : key b[(i + j) / 2].Time < key b[q].Time := hp _ q hm hq h; omega
   ·
    have : q = (i + j) / 2 := by omega
    subst this; exact hn' hlt
 ·
  simp only [decide_eq_false_iff_not] at hx; have : i = j := by omega
  subst this; unfold q26; have hA : ∀ x ∈ b.take i, key x.Time < key t := fun x hx => by
   obtain ⟨q, hq, rfl⟩ := List.mem_iff_getElem.1 hx; rw [List.length_take] at hq; rw [List.getElem_take]; exact h3 q (by omega) (by omega)
  have hB : ∀ x ∈ b.drop i, key t ≤ key x.Time := fun x hx => by
   obtain ⟨q, hq, rfl⟩ := List.mem_iff_getElem.1 hx; rw [List.length_drop] at hq; rw [List.getElem_drop]; have := h4 (i + q) (by omega) (by omega); omega
  have hlen : (b.take i).length = i := by rw [List.length_take]; omega
  refine jf5 (fun hc2 => ?_) (fun hc2 => Ok.some (Ok.some ⟨b.take i, b.drop i, (List.take_append_drop _ _).symm, hA, hB, by rw [hlen], ?_⟩))
  ·
   simp only [decide_eq_true_eq] at hc2; have hi : i < b.length := by omega
   refine Ok.bind (jf6 hi (Ok.bind (jf9 (hc _ hi) (Ok.some (Ok.some ⟨b.take i, b.drop i, (List.take_append_drop _ _).symm, hA, hB, by rw [hlen], ?_⟩))))); rw [List.drop_eq_getElem_cons hi]; simp only
   by_cases h1 : b[i].Time = t
   · rw [if_pos h1, decide_eq_true h1]; rfl
   · rw [if_neg h1, decide_eq_false h1]; split <;> rfl
  · simp only [decide_eq_false_iff_not] at hc2; rw [List.drop_of_length_le (by omega)]
end CE
end Go.Proofs.YtgegekpefakacaaGreat
