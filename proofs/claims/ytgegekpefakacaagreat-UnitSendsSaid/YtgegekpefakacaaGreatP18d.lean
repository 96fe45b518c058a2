/-
  The law in plain words: what its plain function gives is true. No condition beyond those that each theorem names.
-/
import Derived.Test.YtgegekpefakacaaGreatWalkUS0
import Derived.Test.YtgegekpefakacaaGreatP18c
namespace Go.Proofs.YtgegekpefakacaaGreat
open Go Go.RowKit BG TS
namespace CE
theorem Short_ok {c : List GSlot} : Ok (q6b c) (fun r => r = true → Sz 40 c) := by
 unfold q6b; refine jf5 (fun _ => Ok.some fun h => by cases h) (fun hx => ?_); simp only [decide_eq_false_iff_not] at hx; refine jg0 (l := c) (by omega) (fun i => ∀ s ∈ c.take i, lens 40 s) 0 (fun rec i hi _ hI hr => ?_) (fun rec hI => ?_) (by simp) (Nat.zero_le _)
 · unfold q72; refine jf5 (fun _ => Ok.bind (jf6 hi (jf5 (fun _ => Ok.some fun h => by cases h) (fun h1 => jf5 (fun _ => Ok.some fun h => by cases h) (fun h2 => jf5 (fun _ => Ok.some fun h => by cases h) (fun h3 => ?_)))))) (fun hx => by simp only [decide_eq_false_iff_not] at hx; omega); simp only [decide_eq_false_iff_not] at h1 h2 h3; rw [wrap_i64 ((i : Int) + 1) (by omega)]; exact hr ((q42 hi).2 ⟨hI, ⟨by omega, by omega, by omega⟩⟩)
 · unfold q72; refine jf5 (fun hx => by simp only [decide_eq_true_eq] at hx; omega) (fun _ => Ok.some fun _ => ⟨by omega, ?_⟩); rw [List.take_length] at hI; exact hI
theorem z4m {a : List GItem} (ha : a.length < 1000000000) : q2w a a = some true := by
 obtain ⟨r, h1, h2⟩ := zj3 ha ha; rw [h1, h2 rfl]
theorem Same_refl {a : List GSlot} (ha : a.length < 1000000000) (hs : ∀ s ∈ a, lens 100000000 s) : q73 a a = some true := by
 refine jf8 ?_; unfold q73; refine jf5 (fun hx => by simp at hx) (fun _ => ?_); refine jg0 (l := a) (by omega) (fun _ => True) 0 (fun rec i hi _ _ hr => ?_) (fun rec _ => ?_) trivial (Nat.zero_le _)
 · unfold q7v; obtain ⟨l0, l1, l2⟩ := hs _ (List.getElem_mem hi); refine jf5 (fun _ => Ok.bind (jf6 hi (Ok.bind (jf6 hi (jf5 (fun hx => by simp at hx) (fun _ => ?_)))))) (fun hx => by simp only [decide_eq_false_iff_not] at hx; omega); refine Ok.bind (jf9 (z4m (by omega)) (jf5 (fun _ => Ok.bind (jf9 (z4m (by omega)) (jf5 (fun _ => Ok.bind (jf9 (z4m (by omega)) (jf5 (fun hx => by simp at hx) (fun _ => ?_)))) (fun hx => by cases hx)))) (fun hx => by cases hx))); rw [wrap_i64 ((i : Int) + 1) (by omega)]; exact hr trivial
 · unfold q7v; exact jf5 (fun hx => by simp only [decide_eq_true_eq] at hx; omega) (fun _ => Ok.some rfl)
theorem tSame_refl {a : List GTime} (ha : a.length < 1000000000) : q58 a a = some true := by
 refine jf8 ?_; unfold q58; refine jf5 (fun hx => by simp at hx) (fun _ => ?_); refine jg0 (l := a) (by omega) (fun _ => True) 0 (fun rec i hi _ _ hr => ?_) (fun rec _ => ?_) trivial (Nat.zero_le _)
 · unfold q7x; refine jf5 (fun _ => Ok.bind (jf6 hi (Ok.bind (jf6 hi (jf5 (fun hx => by simp at hx) (fun _ => ?_)))))) (fun hx => by simp only [decide_eq_false_iff_not] at hx; omega); rw [wrap_i64 ((i : Int) + 1) (by omega)]; exact hr trivial
 · unfold q7x; exact jf5 (fun hx => by simp only [decide_eq_true_eq] at hx; omega) (fun _ => Ok.some rfl)
open Classical in
noncomputable def q5c (c : List GSlot) : List GTime := if Cl c then (c.filter (·.Dirty)).map (·.Time) else []
theorem zc5 (c : List GSlot) : (q5c c).length ≤ c.length := by
 unfold q5c
 split
 · rw [List.length_map]; exact List.length_filter_le _ _
 · simp
theorem Stale_eq {c : List GSlot} (hl : c.length < 1000000) (hs : ∀ s ∈ c, lens 1000000 s) : qe3 c = some (q5c c) := by
 refine jf8 ?_; unfold qe3; refine Ok.bind (jf9 (cRight_eq (by omega) hs) (jf5 (fun hx => ?_) (fun hx => ?_)))
 · simp only [Bool.not_eq_true', decide_eq_false_iff_not] at hx; exact Ok.some (by unfold q5c; rw [if_neg hx])
 ·
  simp only [Bool.not_eq_false', decide_eq_true_eq] at hx; unfold q5c; rw [if_pos hx]; refine Ok.each (l := c) (by omega) (fun i s => s = ((c.take i).filter (·.Dirty)).map (·.Time)) 0 (fun rec i hi s _ hI hr => ?_) (fun rec s hI => ?_) (by simp) (Nat.zero_le _)
  ·
   have hlen : s.length ≤ i := by
    rw [hI, List.length_map]; refine Nat.le_trans (List.length_filter_le _ _) ?_; rw [List.length_take]; omega
   unfold ql0; simp only; refine jf5 (fun _ => Ok.bind (jf6 hi ?_)) (fun hx => by simp only [decide_eq_false_iff_not] at hx; omega); rw [wrap_i64 ((i : Int) + 1) (by omega)]; refine jf5 (fun hx => Ok.guard (by simp; omega) (hr _ ?_)) (fun hx => hr _ ?_)
   · rw [hI, ze3 hi, if_pos hx]; simp
   · rw [hI, ze3 hi, if_neg (by rw [hx]; simp)]; simp
  · rw [List.take_length] at hI; unfold ql0; simp only; exact jf5 (fun hx => by simp only [decide_eq_true_eq] at hx; omega) (fun _ => Ok.some hI)
open Classical in
noncomputable def atS (c : List GSlot) (t : GTime) : GSlot × Bool := if Cl c then (match c.find? (fun s => decide (s.Time = t)) with | some s => (s, true) | none => (dflt ⟨0, ⟨0, 0, 0, 0⟩⟩, false)) else (dflt ⟨0, ⟨0, 0, 0, 0⟩⟩, false)
theorem j39 {b : List GSlot} {t : GTime} (hg : ∀ s ∈ b, ok s.Time) (ht : ¬ ok t) (hl : b.length < 1000000000) : Ok (q89 b t) (fun v => v.2 = false) := by
 have hc : ∀ q (_ : q < b.length), q7n b[q] t = some 1 := fun q hq => by
  unfold q7n; have := hg _ (List.getElem_mem hq); rw [teq, TS.less_eq, decide_eq_false (fun e => ht (by rw [← e]; exact this)), decide_eq_false (fun e => ht e.2.1)]; rfl
 unfold q89 q2v; refine Ok.bind (jf7 (fun s => ∃ i j : Nat, s = ((i : Int), (j : Int)) ∧ i ≤ j ∧ j ≤ b.length) (fun s => (s.2 - s.1).toNat) ?_ ⟨0, b.length, rfl, Nat.zero_le _, Nat.le_refl _⟩ (by simp only [rounds]; omega)); rintro rec _ ⟨i, j, rfl, h1, h2⟩ hr; unfold q3h; simp only; refine jf5 (fun hx => ?_) (fun hx => ?_)
 ·
  simp only [decide_eq_true_eq] at hx; have hij : i < j := by omega
  rw [half i j (by omega)]; have hm : (i + j) / 2 < b.length := by omega
  refine Ok.bind (jf6 hm (Ok.bind (jf9 (hc _ hm) (jf5 (fun hn => by simp at hn) (fun hn => ?_))))); exact hr _ ⟨i, (i + j) / 2, rfl, by omega, by omega⟩ (by simp only; omega)
 ·
  unfold q26; refine jf5 (fun hc2 => ?_) (fun hc2 => Ok.some (Ok.some rfl)); simp only [decide_eq_true_eq] at hc2; have hi : i < b.length := by omega
  exact Ok.bind (jf6 hi (Ok.bind (jf9 (hc _ hi) (Ok.some (Ok.some rfl)))))
theorem j57 {c : List GSlot} {t : GTime} (hl : c.length < 1000000) (hs : ∀ s ∈ c, lens 1000000 s) : z0r c t = some (atS c t) := by
 refine jf8 ?_; unfold z0r; refine Ok.bind (jf9 (cRight_eq (by omega) hs) (jf5 (fun hx => ?_) (fun hx => ?_)))
 · simp only [Bool.not_eq_true', decide_eq_false_iff_not] at hx; exact Ok.some (by unfold atS; rw [if_neg hx]; rfl)
 ·
  simp only [Bool.not_eq_false', decide_eq_true_eq] at hx; unfold atS; rw [if_pos hx]
  by_cases ht : ok t
  ·
   refine jf4 (find_ok hx.inc (fun s h => (hx.good s h).time) ht (by omega)) fun v ⟨A, B, he, hA, hB, h1, h2⟩ => ?_; have hfA : A.find? (fun s => decide (s.Time = t)) = none := List.find?_eq_none.2 fun x hx => by
    have := hA x hx; simp only [decide_eq_true_eq]; intro e; rw [e] at this; omega
   rw [h2, he, List.find?_append, hfA]
   cases B with
   | nil => exact jf5 (fun _ => Ok.some rfl) (fun h => by simp at h)
   | cons x B =>
    simp only; refine jf5 (fun h => Ok.some ?_) (fun h => ?_)
    ·
     simp only [Bool.not_eq_true', decide_eq_false_iff_not] at h; have hpw := List.pairwise_append.1 (he ▸ hx.inc); have hBx := (List.pairwise_cons.1 hpw.2.1).1; have hfB : (x :: B).find? (fun s => decide (s.Time = t)) = none := List.find?_eq_none.2 fun y hy => by
      simp only [decide_eq_true_eq]; rcases List.mem_cons.1 hy with rfl | hy
      · exact h
      · intro e; have h3 : key x.Time < key y.Time := hBx y hy; have h4 := hB x (by simp); rw [e] at h3; omega
     rw [hfB]; rfl
    · simp only [Bool.not_eq_false', decide_eq_true_eq] at h; rw [h1]; refine Ok.bind (jf6 (by simp) (Ok.some ?_)); rw [List.find?_cons, decide_eq_true h]; simp
  ·
   refine jf4 (j39 (fun s h => (hx.good s h).time) ht (by omega)) fun v hv => ?_; rw [hv]; refine jf5 (fun _ => Ok.some ?_) (fun h => by cases h); have : c.find? (fun s => decide (s.Time = t)) = none := List.find?_eq_none.2 fun y hy => by
    simp only [decide_eq_true_eq]; intro e; exact ht (by rw [← e]; exact (hx.good y hy).time)
   rw [this]; rfl
theorem Sp.len {c A B : List GSlot} {t : GTime} {own : GSlot} (h : Sp c t A own B) : A.length + B.length ≤ c.length ∧ c.length ≤ A.length + B.length + 1 := by
 rcases h.at_ with ⟨e, _⟩ | ⟨e, _⟩ <;> (rw [e]; simp; try omega)
theorem Sp.own {c A B : List GSlot} {t : GTime} {own : GSlot} (h : Sp c t A own B) : own = dflt t ∨ own ∈ c := by
 rcases h.at_ with ⟨_, e⟩ | ⟨e, _⟩
 · exact .inl e
 · exact .inr (by rw [e]; simp)
theorem lens_le {N M : Nat} (h : N ≤ M) {s : GSlot} (hs : lens N s) : lens M s := by unfold lens at *; omega
end CE
end Go.Proofs.YtgegekpefakacaaGreat
