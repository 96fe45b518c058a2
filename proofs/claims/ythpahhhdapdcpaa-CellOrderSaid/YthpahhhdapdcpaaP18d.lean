/-
  The law in plain words: what its plain function gives is true. No condition beyond those that each theorem names.
-/
import Derived.Test.YthpahhhdapdcpaaP18c
import Derived.Test.YthpahhhdapdcpaaWalkCO2
set_option linter.unusedSimpArgs false
set_option linter.unusedVariables false
namespace Go.Proofs.Ythpahhhdapdcpaa
open Go Go.RowKit BG TS
namespace CE
/-! The statement CellComes. -/
theorem awake_ok : f_backwashlaw15_awake = some true := by kernel_rfl
theorem Short_ok {c : List GSlot} : Ok (f_backwashref15_Short c) (fun r => r = true → Sz 40 c) := by
  unfold f_backwashref15_Short
  refine Ok.iteB (fun _ => Ok.some fun h => by cases h) (fun hx => ?_)
  simp only [decide_eq_false_iff_not] at hx
  refine Ok.each1 (l := c) (by omega) (fun i => ∀ s ∈ c.take i, lens 40 s) 0 (fun rec i hi _ hI hr => ?_) (fun rec hI => ?_) (by simp) (Nat.zero_le _)
  · unfold f_backwashref15_Short_B1
    refine Ok.iteB (fun _ => Ok.bind (Ok.idxN hi (Ok.iteB (fun _ => Ok.some fun h => by cases h) (fun h1 => Ok.iteB (fun _ => Ok.some fun h => by cases h) (fun h2 => Ok.iteB (fun _ => Ok.some fun h => by cases h) (fun h3 => ?_)))))) (fun hx => by simp only [decide_eq_false_iff_not] at hx; omega)
    simp only [decide_eq_false_iff_not] at h1 h2 h3
    rw [wrap_i64 ((i : Int) + 1) (by omega)]
    exact hr ((all_take_succ hi).2 ⟨hI, ⟨by omega, by omega, by omega⟩⟩)
  · unfold f_backwashref15_Short_B1
    refine Ok.iteB (fun hx => by simp only [decide_eq_true_eq] at hx; omega) (fun _ => Ok.some fun _ => ⟨by omega, ?_⟩)
    rw [List.take_length] at hI; exact hI
theorem rSame_refl {a : List GItem} (ha : a.length < 1000000000) : f_backwashref05_Same a a = some true := by
  obtain ⟨r, h1, h2⟩ := rSame_eq ha ha
  rw [h1, h2 rfl]
theorem tSame_refl {a : List GTime} (ha : a.length < 1000000000) : f_backwashref03_Same a a = some true := by
  refine Ok.eq ?_
  unfold f_backwashref03_Same
  refine Ok.iteB (fun hx => by simp at hx) (fun _ => ?_)
  refine Ok.each1 (l := a) (by omega) (fun _ => True) 0 (fun rec i hi _ _ hr => ?_) (fun rec _ => ?_) trivial (Nat.zero_le _)
  · unfold f_backwashref03_Same_B1
    refine Ok.iteB (fun _ => Ok.bind (Ok.idxN hi (Ok.bind (Ok.idxN hi (Ok.iteB (fun hx => by simp at hx) (fun _ => ?_)))))) (fun hx => by simp only [decide_eq_false_iff_not] at hx; omega)
    rw [wrap_i64 ((i : Int) + 1) (by omega)]
    exact hr trivial
  · unfold f_backwashref03_Same_B1
    exact Ok.iteB (fun hx => by simp only [decide_eq_true_eq] at hx; omega) (fun _ => Ok.some rfl)
open Classical in
noncomputable def staleS (c : List GSlot) : List GTime := if Cl c then (c.filter (·.Dirty)).map (·.Time) else []
theorem stale_len (c : List GSlot) : (staleS c).length ≤ c.length := by
  unfold staleS
  split
  · rw [List.length_map]; exact List.length_filter_le _ _
  · simp
theorem Stale_eq {c : List GSlot} (hl : c.length < 1000000) (hs : ∀ s ∈ c, lens 1000000 s) : f_cell_Stale c = some (staleS c) := by
  refine Ok.eq ?_
  unfold f_cell_Stale
  refine Ok.bind (Ok.of_eq (cRight_eq (by omega) hs) (Ok.iteB (fun hx => ?_) (fun hx => ?_)))
  · simp only [Bool.not_eq_true', decide_eq_false_iff_not] at hx
    exact Ok.some (by unfold staleS; rw [if_neg hx])
  · simp only [Bool.not_eq_false', decide_eq_true_eq] at hx
    unfold staleS; rw [if_pos hx]
    refine Ok.each (l := c) (by omega) (fun i s => s = ((c.take i).filter (·.Dirty)).map (·.Time)) 0 (fun rec i hi s _ hI hr => ?_) (fun rec s hI => ?_) (by simp) (Nat.zero_le _)
    · have hlen : s.length ≤ i := by
        rw [hI, List.length_map]
        refine Nat.le_trans (List.length_filter_le _ _) ?_
        rw [List.length_take]; omega
      unfold f_cell_Stale_B1
      simp only
      refine Ok.iteB (fun _ => Ok.bind (Ok.idxN hi ?_)) (fun hx => by simp only [decide_eq_false_iff_not] at hx; omega)
      rw [wrap_i64 ((i : Int) + 1) (by omega)]
      refine Ok.iteB (fun hx => Ok.guard (by simp; omega) (hr _ ?_)) (fun hx => hr _ ?_)
      · rw [hI, filt_take hi, if_pos hx]; simp
      · rw [hI, filt_take hi, if_neg (by rw [hx]; simp)]; simp
    · rw [List.take_length] at hI
      unfold f_cell_Stale_B1
      simp only
      exact Ok.iteB (fun hx => by simp only [decide_eq_true_eq] at hx; omega) (fun _ => Ok.some hI)
theorem one_len (s : GSlot) : (one s).length ≤ 1 := by unfold one; split <;> simp
theorem Sp.len {c A B : List GSlot} {t : GTime} {own : GSlot} (h : Sp c t A own B) : A.length + B.length ≤ c.length ∧ c.length ≤ A.length + B.length + 1 := by
  rcases h.at_ with ⟨e, _⟩ | ⟨e, _⟩ <;> (rw [e]; simp; try omega)
theorem Sp.memA {c A B : List GSlot} {t : GTime} {own : GSlot} (h : Sp c t A own B) : (∀ x ∈ A, x ∈ c) ∧ (∀ x ∈ B, x ∈ c) := by
  rcases h.at_ with ⟨e, _⟩ | ⟨e, _⟩ <;> (rw [e]; exact ⟨fun x hx => by simp [hx], fun x hx => by simp [hx]⟩)
theorem Sp.own {c A B : List GSlot} {t : GTime} {own : GSlot} (h : Sp c t A own B) : own = dflt t ∨ own ∈ c := by
  rcases h.at_ with ⟨_, e⟩ | ⟨e, _⟩
  · exact .inl e
  · exact .inr (by rw [e]; simp)
theorem mk_lens {kind : Int} {t : GTime} {s : GSlot} {N : Nat} (h : lens N s) : lens N (mk kind t s) := by unfold mk; split <;> exact h
theorem Sp.own_rt {c A B : List GSlot} {t : GTime} {own : GSlot} {N : Nat} (h : Sp c t A own B) (hc : Cl c) (hs : Sz N c) : Rt own.In.a0 ∧ Rt own.In.a1 ∧ Rt own.Sent ∧ lens N own := by
  rcases h.own with e | e
  · rw [e]; exact ⟨Rt.nil, Rt.nil, Rt.nil, Nat.zero_le _, Nat.zero_le _, Nat.zero_le _⟩
  · exact ⟨(hc.good _ e).a0, (hc.good _ e).a1, (hc.good _ e).sent, hs.each _ e⟩
theorem comeL_sz {c A B : List GSlot} {own : GSlot} {kind port : Int} {t : GTime} {r : GRec} {n : Int} {N : Nat} (h : Sp c t A own B) (hc : Cl c) (hs : Sz N c) (hN : N < 1000000) (hn : -2147483648 ≤ n ∧ n ≤ 2147483648) (hn0 : n ≠ 0) : Sz (N + 1) (comeL kind port t r n A own B) := by
  have hl := h.len
  have hlc := hs.len
  obtain ⟨r0, r1, r2, lo⟩ := h.own_rt hc hs
  have up : ∀ s, lens N s → lens (N + 1) s := fun s hs => by unfold lens at *; omega
  refine ⟨?_, fun s hx => ?_⟩
  · unfold comeL
    have := one_len (dirty (upd port r n own))
    simp only [List.length_append, List.length_map]; omega
  · unfold comeL at hx
    rcases List.mem_append.1 hx with hx | hx
    · obtain ⟨y, hy, rfl⟩ := List.mem_map.1 hx
      exact mk_lens (up _ (hs.each _ (h.memA.1 y hy)))
    · rcases List.mem_append.1 hx with hx | hx
      · unfold one at hx
        split at hx
        · cases hx
        · rw [List.mem_singleton] at hx; rw [hx]
          exact upd_lens lo r0 r1 hN hn hn0
      · obtain ⟨y, hy, rfl⟩ := List.mem_map.1 hx
        exact mk_lens (up _ (hs.each _ (h.memA.2 y hy)))
theorem lens_le {N M : Nat} (h : N ≤ M) {s : GSlot} (hs : lens N s) : lens M s := by unfold lens at *; omega
end CE
end Go.Proofs.Ythpahhhdapdcpaa
