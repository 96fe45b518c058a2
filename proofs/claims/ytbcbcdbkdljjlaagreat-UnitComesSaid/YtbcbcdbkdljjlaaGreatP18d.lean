/-
  The law in plain words: what its plain function gives is true. No condition beyond those that each theorem names.
-/
import Derived.Test.YtbcbcdbkdljjlaaGreatWalkUC1
import Derived.Test.YtbcbcdbkdljjlaaGreatWalkUC0
import Derived.Test.YtbcbcdbkdljjlaaGreatP18c
set_option linter.unusedSimpArgs false
set_option linter.unusedVariables false
set_option linter.unusedSectionVars false
namespace Go.Proofs.YtbcbcdbkdljjlaaGreat
open Go Go.RowKit BG TS
namespace CE
theorem Short_ok {c : List GSlot} : Ok (q55 c) (fun r => r = true → Sz 40 c) := by
  unfold q55; refine Ok.iteB (fun _ => Ok.some fun h => by cases h) (fun hx => ?_); simp only [decide_eq_false_iff_not] at hx; refine Ok.each1 (l := c) (by omega) (fun i => ∀ s ∈ c.take i, lens 40 s) 0 (fun rec i hi _ hI hr => ?_) (fun rec hI => ?_) (by simp) (Nat.zero_le _)
  · unfold q3q
    refine Ok.iteB (fun _ => Ok.bind (Ok.idxN hi (Ok.iteB (fun _ => Ok.some fun h => by cases h) (fun h1 => Ok.iteB (fun _ => Ok.some fun h => by cases h) (fun h2 => Ok.iteB (fun _ => Ok.some fun h => by cases h) (fun h3 => ?_)))))) (fun hx => by simp only [decide_eq_false_iff_not] at hx; omega); simp only [decide_eq_false_iff_not] at h1 h2 h3; rw [wrap_i64 ((i : Int) + 1) (by omega)]; exact hr ((q44 hi).2 ⟨hI, ⟨by omega, by omega, by omega⟩⟩)
  · unfold q3q
    refine Ok.iteB (fun hx => by simp only [decide_eq_true_eq] at hx; omega) (fun _ => Ok.some fun _ => ⟨by omega, ?_⟩); rw [List.take_length] at hI; exact hI
theorem qy3 {a : List GItem} (ha : a.length < 1000000000) : q2b a a = some true := by
  obtain ⟨r, h1, h2⟩ := z2e ha ha; rw [h1, h2 rfl]
theorem Same_refl {a : List GSlot} (ha : a.length < 1000000000) (hs : ∀ s ∈ a, lens 100000000 s) : q5r a a = some true := by
  refine Ok.eq ?_; unfold q5r; refine Ok.iteB (fun hx => by simp at hx) (fun _ => ?_); refine Ok.each1 (l := a) (by omega) (fun _ => True) 0 (fun rec i hi _ _ hr => ?_) (fun rec _ => ?_) trivial (Nat.zero_le _)
  · unfold q4d
    obtain ⟨l0, l1, l2⟩ := hs _ (List.getElem_mem hi); refine Ok.iteB (fun _ => Ok.bind (Ok.idxN hi (Ok.bind (Ok.idxN hi (Ok.iteB (fun hx => by simp at hx) (fun _ => ?_)))))) (fun hx => by simp only [decide_eq_false_iff_not] at hx; omega); refine Ok.bind (Ok.of_eq (qy3 (by omega)) (Ok.iteB (fun _ => Ok.bind (Ok.of_eq (qy3 (by omega)) (Ok.iteB (fun _ => Ok.bind (Ok.of_eq (qy3 (by omega)) (Ok.iteB (fun hx => by simp at hx) (fun _ => ?_)))) (fun hx => by cases hx)))) (fun hx => by cases hx))); rw [wrap_i64 ((i : Int) + 1) (by omega)]; exact hr trivial
  · unfold q4d
    exact Ok.iteB (fun hx => by simp only [decide_eq_true_eq] at hx; omega) (fun _ => Ok.some rfl)
theorem tSame_refl {a : List GTime} (ha : a.length < 1000000000) : q2c a a = some true := by
  refine Ok.eq ?_; unfold q2c; refine Ok.iteB (fun hx => by simp at hx) (fun _ => ?_); refine Ok.each1 (l := a) (by omega) (fun _ => True) 0 (fun rec i hi _ _ hr => ?_) (fun rec _ => ?_) trivial (Nat.zero_le _)
  · unfold q4i
    refine Ok.iteB (fun _ => Ok.bind (Ok.idxN hi (Ok.bind (Ok.idxN hi (Ok.iteB (fun hx => by simp at hx) (fun _ => ?_)))))) (fun hx => by simp only [decide_eq_false_iff_not] at hx; omega); rw [wrap_i64 ((i : Int) + 1) (by omega)]; exact hr trivial
  · unfold q4i
    exact Ok.iteB (fun hx => by simp only [decide_eq_true_eq] at hx; omega) (fun _ => Ok.some rfl)
theorem zo7 (s : GSlot) : (one s).length ≤ 1 := by unfold one; split <;> simp
theorem Sp.len {c A B : List GSlot} {t : GTime} {own : GSlot} (h : Sp c t A own B) : A.length + B.length ≤ c.length ∧ c.length ≤ A.length + B.length + 1 := by
  rcases h.at_ with ⟨e, _⟩ | ⟨e, _⟩ <;> (rw [e]; simp; try omega)
theorem Sp.memA {c A B : List GSlot} {t : GTime} {own : GSlot} (h : Sp c t A own B) : (∀ x ∈ A, x ∈ c) ∧ (∀ x ∈ B, x ∈ c) := by
  rcases h.at_ with ⟨e, _⟩ | ⟨e, _⟩ <;> (rw [e]; exact ⟨fun x hx => by simp [hx], fun x hx => by simp [hx]⟩)
theorem Sp.own {c A B : List GSlot} {t : GTime} {own : GSlot} (h : Sp c t A own B) : own = dflt t ∨ own ∈ c := by
  rcases h.at_ with ⟨_, e⟩ | ⟨e, _⟩
  · exact .inl e
  · exact .inr (by rw [e]; simp)
theorem z9f {kind : Int} {t : GTime} {s : GSlot} {N : Nat} (h : lens N s) : lens N (mk kind t s) := by unfold mk; split <;> exact h
theorem Sp.own_rt {c A B : List GSlot} {t : GTime} {own : GSlot} {N : Nat} (h : Sp c t A own B) (hc : Cl c) (hs : Sz N c) : Rt own.In.a0 ∧ Rt own.In.a1 ∧ Rt own.Sent ∧ lens N own := by
  rcases h.own with e | e
  · rw [e]; exact ⟨Rt.nil, Rt.nil, Rt.nil, Nat.zero_le _, Nat.zero_le _, Nat.zero_le _⟩
  · exact ⟨(hc.good _ e).a0, (hc.good _ e).a1, (hc.good _ e).sent, hs.each _ e⟩
theorem zj8 {c A B : List GSlot} {own : GSlot} {kind port : Int} {t : GTime} {r : GRec} {n : Int} {N : Nat} (h : Sp c t A own B) (hc : Cl c) (hs : Sz N c) (hN : N < 1000000) (hn : -2147483648 ≤ n ∧ n ≤ 2147483648) (hn0 : n ≠ 0) : Sz (N + 1) (q9f kind port t r n A own B) := by
  have hl := h.len; have hlc := hs.len; obtain ⟨r0, r1, r2, lo⟩ := h.own_rt hc hs; have up : ∀ s, lens N s → lens (N + 1) s := fun s hs => by unfold lens at *; omega
  refine ⟨?_, fun s hx => ?_⟩
  · unfold q9f
    have := zo7 (dirty (upd port r n own)); simp only [List.length_append, List.length_map]; omega
  · unfold q9f at hx
    rcases List.mem_append.1 hx with hx | hx
    · obtain ⟨y, hy, rfl⟩ := List.mem_map.1 hx
      exact z9f (up _ (hs.each _ (h.memA.1 y hy)))
    · rcases List.mem_append.1 hx with hx | hx
      · unfold one at hx
        split at hx
        · cases hx
        · rw [List.mem_singleton] at hx; rw [hx]
          exact z6k lo r0 r1 hN hn hn0
      · obtain ⟨y, hy, rfl⟩ := List.mem_map.1 hx
        exact z9f (up _ (hs.each _ (h.memA.2 y hy)))
theorem lens_le {N M : Nat} (h : N ≤ M) {s : GSlot} (hs : lens N s) : lens M s := by unfold lens at *; omega
theorem both {c : List GSlot} {kind port : Int} {t : GTime} {r : GRec} {n : Int} {N : Nat} (hs : Sz N c) (hN : N < 900000) : ∃ v, q6g c kind port t r n = some v ∧ q17 c kind port t r n = some v ∧ Sz (N + 1) v.1 := by
  by_cases h : Cl c ∧ ok t ∧ (port = 0 ∨ port = 1) ∧ n ≠ 0 ∧ -2147483648 ≤ n ∧ n ≤ 2147483648
  · obtain ⟨h1, h2, h3, h4, h5⟩ := h
    obtain ⟨v, hv, A, own, B, hsp, e⟩ := zq6 (kind := kind) (r := r) h1 hs hN h2 h5 h4 h3; refine ⟨v, hv, ?_, ?_⟩
    · rw [e]; exact zi6 h1 hs hN h2 hsp h5 h4 h3
    · rw [e]; exact zj8 hsp h1 hs (by omega) h5 h4
  · exact ⟨_, zq7 hs hN h, zi7 hs hN h, ⟨by have := hs.len; show c.length ≤ _; omega, fun s hx => lens_le (by omega) (hs.each s hx)⟩⟩
end CE
end Go.Proofs.YtbcbcdbkdljjlaaGreat
