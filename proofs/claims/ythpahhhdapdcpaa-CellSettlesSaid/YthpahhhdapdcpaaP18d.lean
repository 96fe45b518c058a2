/-
  The law in plain words: what its plain function gives is true. No condition beyond those that each theorem names.
-/
import Derived.Test.YthpahhhdapdcpaaP18c
import Derived.Test.YthpahhhdapdcpaaWalkCS2
set_option linter.unusedSimpArgs false
set_option linter.unusedVariables false
namespace Go.Proofs.Ythpahhhdapdcpaa
open Go Go.RowKit BG TS
namespace CE
/-! The statement CellComes. -/
theorem awake_ok : f_backwashlaw15_awake = some true := by kernel_rfl
theorem rSame_refl {a : List GItem} (ha : a.length < 1000000000) : f_backwashref05_Same a a = some true := by
  obtain ⟨r, h1, h2⟩ := rSame_eq ha ha
  rw [h1, h2 rfl]
theorem Same_refl {a : List GSlot} (ha : a.length < 1000000000) (hs : ∀ s ∈ a, lens 100000000 s) : f_backwashref15_Same a a = some true := by
  refine Ok.eq ?_
  unfold f_backwashref15_Same
  refine Ok.iteB (fun hx => by simp at hx) (fun _ => ?_)
  refine Ok.each1 (l := a) (by omega) (fun _ => True) 0 (fun rec i hi _ _ hr => ?_) (fun rec _ => ?_) trivial (Nat.zero_le _)
  · unfold f_backwashref15_Same_B1
    obtain ⟨l0, l1, l2⟩ := hs _ (List.getElem_mem hi)
    refine Ok.iteB (fun _ => Ok.bind (Ok.idxN hi (Ok.bind (Ok.idxN hi (Ok.iteB (fun hx => by simp at hx) (fun _ => ?_)))))) (fun hx => by simp only [decide_eq_false_iff_not] at hx; omega)
    refine Ok.bind (Ok.of_eq (rSame_refl (by omega)) (Ok.iteB (fun _ => Ok.bind (Ok.of_eq (rSame_refl (by omega)) (Ok.iteB (fun _ => Ok.bind (Ok.of_eq (rSame_refl (by omega)) (Ok.iteB (fun hx => by simp at hx) (fun _ => ?_)))) (fun hx => by cases hx)))) (fun hx => by cases hx)))
    rw [wrap_i64 ((i : Int) + 1) (by omega)]
    exact hr trivial
  · unfold f_backwashref15_Same_B1
    exact Ok.iteB (fun hx => by simp only [decide_eq_true_eq] at hx; omega) (fun _ => Ok.some rfl)
open Classical in
noncomputable def staleS (c : List GSlot) : List GTime := if Cl c then (c.filter (·.Dirty)).map (·.Time) else []
theorem Stale_eq {c : List GSlot} (hl : c.length < 1000000) (hs : ∀ s ∈ c, lens 1000000 s) : f_cell_Stale c = some (staleS c) := by
  refine Ok.eq ?_
  unfold f_cell_Stale
  refine Ok.bind (Ok.of_eq (cRight_eq (by omega) hs) (Ok.iteB (fun hx => ?_) (fun hx => ?_)))
  · simp only [Bool.not_eq_true', decide_eq_false_iff_not] at hx
    exact Ok.some (by unfold staleS; rw [if_neg hx])
  · simp only [Bool.not_eq_false', decide_eq_true_eq] at hx
    unfold staleS; rw [if_pos hx]
    refine Ok.each (l := c) (by omega) (fun i s => s = ((c.take i).filter (·.Dirty)).map (·.Time)) 0 (fun rec i hi s _ hI hr => ?_) (fun rec s hI => ?_) (by simp) (Nat.zero_le _)
    · have hlen : s.length ≤ i := by
        rw [hI, List.length_map]
        refine Nat.le_trans (List.length_filter_le _ _) ?_
        rw [List.length_take]; omega
      unfold f_cell_Stale_B1
      simp only
      refine Ok.iteB (fun _ => Ok.bind (Ok.idxN hi ?_)) (fun hx => by simp only [decide_eq_false_iff_not] at hx; omega)
      rw [wrap_i64 ((i : Int) + 1) (by omega)]
      refine Ok.iteB (fun hx => Ok.guard (by simp; omega) (hr _ ?_)) (fun hx => hr _ ?_)
      · rw [hI, filt_take hi, if_pos hx]; simp
      · rw [hI, filt_take hi, if_neg (by rw [hx]; simp)]; simp
    · rw [List.take_length] at hI
      unfold f_cell_Stale_B1
      simp only
      exact Ok.iteB (fun hx => by simp only [decide_eq_true_eq] at hx; omega) (fun _ => Ok.some hI)
open Classical in
noncomputable def atS (c : List GSlot) (t : GTime) : GSlot × Bool := if Cl c then (match c.find? (fun s => decide (s.Time = t)) with | some s => (s, true) | none => (dflt ⟨0, ⟨0, 0, 0, 0⟩⟩, false)) else (dflt ⟨0, ⟨0, 0, 0, 0⟩⟩, false)
theorem find_bad {b : List GSlot} {t : GTime} (hg : ∀ s ∈ b, ok s.Time) (ht : ¬ ok t) (hl : b.length < 1000000000) : Ok (f_cell_find b t) (fun v => v.2 = false) := by
  have hc : ∀ q (_ : q < b.length), f_cell_find_1 b[q] t = some 1 := fun q hq => by
    unfold f_cell_find_1
    have := hg _ (List.getElem_mem hq)
    rw [teq, TS.less_eq, decide_eq_false (fun e => ht (by rw [← e]; exact this)), decide_eq_false (fun e => ht e.2.1)]
    rfl
  unfold f_cell_find f_slices_BinarySearchFunc_Time
  refine Ok.bind (Ok.loop0 (fun s => ∃ i j : Nat, s = ((i : Int), (j : Int)) ∧ i ≤ j ∧ j ≤ b.length) (fun s => (s.2 - s.1).toNat) ?_ ⟨0, b.length, rfl, Nat.zero_le _, Nat.le_refl _⟩ (by simp only [rounds]; omega))
  rintro rec _ ⟨i, j, rfl, h1, h2⟩ hr
  unfold f_slices_BinarySearchFunc_Time_B2
  simp only
  refine Ok.iteB (fun hx => ?_) (fun hx => ?_)
  · simp only [decide_eq_true_eq] at hx
    have hij : i < j := by omega
    rw [half i j (by omega)]
    have hm : (i + j) / 2 < b.length := by omega
    refine Ok.bind (Ok.idxN hm (Ok.bind (Ok.of_eq (hc _ hm) (Ok.iteB (fun hn => by simp at hn) (fun hn => ?_)))))
    exact hr _ ⟨i, (i + j) / 2, rfl, by omega, by omega⟩ (by simp only; omega)
  · unfold f_slices_BinarySearchFunc_Time_J1
    refine Ok.iteB (fun hc2 => ?_) (fun hc2 => Ok.some (Ok.some rfl))
    simp only [decide_eq_true_eq] at hc2
    have hi : i < b.length := by omega
    exact Ok.bind (Ok.idxN hi (Ok.bind (Ok.of_eq (hc _ hi) (Ok.some (Ok.some rfl)))))
theorem At_eq {c : List GSlot} {t : GTime} (hl : c.length < 1000000) (hs : ∀ s ∈ c, lens 1000000 s) : f_cell_At c t = some (atS c t) := by
  refine Ok.eq ?_
  unfold f_cell_At
  refine Ok.bind (Ok.of_eq (cRight_eq (by omega) hs) (Ok.iteB (fun hx => ?_) (fun hx => ?_)))
  · simp only [Bool.not_eq_true', decide_eq_false_iff_not] at hx
    exact Ok.some (by unfold atS; rw [if_neg hx]; rfl)
  · simp only [Bool.not_eq_false', decide_eq_true_eq] at hx
    unfold atS; rw [if_pos hx]
    by_cases ht : ok t
    · refine Ok.bind2 (find_ok hx.inc (fun s h => (hx.good s h).time) ht (by omega)) fun v ⟨A, B, he, hA, hB, h1, h2⟩ => ?_
      have hfA : A.find? (fun s => decide (s.Time = t)) = none := List.find?_eq_none.2 fun x hx => by
        have := hA x hx
        simp only [decide_eq_true_eq]
        intro e; rw [e] at this; omega
      rw [h2, he, List.find?_append, hfA]
      cases B with
      | nil => exact Ok.iteB (fun _ => Ok.some rfl) (fun h => by simp at h)
      | cons x B =>
        simp only
        refine Ok.iteB (fun h => Ok.some ?_) (fun h => ?_)
        · simp only [Bool.not_eq_true', decide_eq_false_iff_not] at h
          have hpw := List.pairwise_append.1 (he ▸ hx.inc)
          have hBx := (List.pairwise_cons.1 hpw.2.1).1
          have hfB : (x :: B).find? (fun s => decide (s.Time = t)) = none := List.find?_eq_none.2 fun y hy => by
            simp only [decide_eq_true_eq]
            rcases List.mem_cons.1 hy with rfl | hy
            · exact h
            · intro e
              have h3 : key x.Time < key y.Time := hBx y hy
              have h4 := hB x (by simp)
              rw [e] at h3; omega
          rw [hfB]; rfl
        · simp only [Bool.not_eq_false', decide_eq_true_eq] at h
          rw [h1]
          refine Ok.bind (Ok.idxN (by simp) (Ok.some ?_))
          rw [List.find?_cons, decide_eq_true h]; simp
    · refine Ok.bind2 (find_bad (fun s h => (hx.good s h).time) ht (by omega)) fun v hv => ?_
      rw [hv]
      refine Ok.iteB (fun _ => Ok.some ?_) (fun h => by cases h)
      have : c.find? (fun s => decide (s.Time = t)) = none := List.find?_eq_none.2 fun y hy => by
        simp only [decide_eq_true_eq]
        intro e; exact ht (by rw [← e]; exact (hx.good y hy).time)
      rw [this]; rfl
theorem one_len (s : GSlot) : (one s).length ≤ 1 := by unfold one; split <;> simp
theorem Sp.len {c A B : List GSlot} {t : GTime} {own : GSlot} (h : Sp c t A own B) : A.length + B.length ≤ c.length ∧ c.length ≤ A.length + B.length + 1 := by
  rcases h.at_ with ⟨e, _⟩ | ⟨e, _⟩ <;> (rw [e]; simp; try omega)
theorem Sp.memA {c A B : List GSlot} {t : GTime} {own : GSlot} (h : Sp c t A own B) : (∀ x ∈ A, x ∈ c) ∧ (∀ x ∈ B, x ∈ c) := by
  rcases h.at_ with ⟨e, _⟩ | ⟨e, _⟩ <;> (rw [e]; exact ⟨fun x hx => by simp [hx], fun x hx => by simp [hx]⟩)
theorem Sp.own {c A B : List GSlot} {t : GTime} {own : GSlot} (h : Sp c t A own B) : own = dflt t ∨ own ∈ c := by
  rcases h.at_ with ⟨_, e⟩ | ⟨e, _⟩
  · exact .inl e
  · exact .inr (by rw [e]; simp)
theorem mk_lens {kind : Int} {t : GTime} {s : GSlot} {N : Nat} (h : lens N s) : lens N (mk kind t s) := by unfold mk; split <;> exact h
theorem Sp.own_rt {c A B : List GSlot} {t : GTime} {own : GSlot} {N : Nat} (h : Sp c t A own B) (hc : Cl c) (hs : Sz N c) : Rt own.In.a0 ∧ Rt own.In.a1 ∧ Rt own.Sent ∧ lens N own := by
  rcases h.own with e | e
  · rw [e]; exact ⟨Rt.nil, Rt.nil, Rt.nil, Nat.zero_le _, Nat.zero_le _, Nat.zero_le _⟩
  · exact ⟨(hc.good _ e).a0, (hc.good _ e).a1, (hc.good _ e).sent, hs.each _ e⟩
theorem comeL_sz {c A B : List GSlot} {own : GSlot} {kind port : Int} {t : GTime} {r : GRec} {n : Int} {N : Nat} (h : Sp c t A own B) (hc : Cl c) (hs : Sz N c) (hN : N < 1000000) (hn : -2147483648 ≤ n ∧ n ≤ 2147483648) (hn0 : n ≠ 0) : Sz (N + 1) (comeL kind port t r n A own B) := by
  have hl := h.len
  have hlc := hs.len
  obtain ⟨r0, r1, r2, lo⟩ := h.own_rt hc hs
  have up : ∀ s, lens N s → lens (N + 1) s := fun s hs => by unfold lens at *; omega
  refine ⟨?_, fun s hx => ?_⟩
  · unfold comeL
    have := one_len (dirty (upd port r n own))
    simp only [List.length_append, List.length_map]; omega
  · unfold comeL at hx
    rcases List.mem_append.1 hx with hx | hx
    · obtain ⟨y, hy, rfl⟩ := List.mem_map.1 hx
      exact mk_lens (up _ (hs.each _ (h.memA.1 y hy)))
    · rcases List.mem_append.1 hx with hx | hx
      · unfold one at hx
        split at hx
        · cases hx
        · rw [List.mem_singleton] at hx; rw [hx]
          exact upd_lens lo r0 r1 hN hn hn0
      · obtain ⟨y, hy, rfl⟩ := List.mem_map.1 hx
        exact mk_lens (up _ (hs.each _ (h.memA.2 y hy)))
theorem lens_le {N M : Nat} (h : N ≤ M) {s : GSlot} (hs : lens N s) : lens M s := by unfold lens at *; omega
theorem both {c : List GSlot} {kind port : Int} {t : GTime} {r : GRec} {n : Int} {N : Nat} (hs : Sz N c) (hN : N < 900000) : ∃ v, f_cell_Come c kind port t r n = some v ∧ f_backwashref15_Come c kind port t r n = some v ∧ Sz (N + 1) v.1 := by
  by_cases h : Cl c ∧ ok t ∧ (port = 0 ∨ port = 1) ∧ n ≠ 0 ∧ -2147483648 ≤ n ∧ n ≤ 2147483648
  · obtain ⟨h1, h2, h3, h4, h5⟩ := h
    obtain ⟨v, hv, A, own, B, hsp, e⟩ := Come_ok (kind := kind) (r := r) h1 hs hN h2 h5 h4 h3
    refine ⟨v, hv, ?_, ?_⟩
    · rw [e]; exact rCome_ok h1 hs hN h2 hsp h5 h4 h3
    · rw [e]; exact comeL_sz hsp h1 hs (by omega) h5 h4
  · exact ⟨_, Come_no hs hN h, rCome_no hs hN h, ⟨by have := hs.len; show c.length ≤ _; omega, fun s hx => lens_le (by omega) (hs.each s hx)⟩⟩
end CE
end Go.Proofs.Ythpahhhdapdcpaa
