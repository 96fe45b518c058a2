/-
  The law in plain words: what its plain function gives is true. No condition beyond those that each theorem names.
-/
import Derived.Test.YtfjjpdjnpmajlaaP15e
set_option linter.unusedSimpArgs false
set_option linter.unusedVariables false
namespace Go.Proofs.Ytfjjpdjnpmajlaa
open Go Go.RowKit Go.Sort
namespace QY
variable {lt : GRow → GRow → Bool} {cmp : GRow → GRow → Option Int}
theorem symMerge_ok (hc : ∀ x y, ∃ n, cmp x y = some n ∧ (n < 0 ↔ lt x y = true)) (hO : SWO lt) : ∀ (N : Nat) {A X Y B : TS}, X ≠ [] → Y ≠ [] → X.length + Y.length < N → A.length + X.length + Y.length + B.length < 1000000 → Srt lt X → Srt lt Y → (∀ x ∈ X, ∀ y ∈ Y, x.2 < y.2) →
      Ok (f_slices_symMergeCmpFunc_Row_s0_0_D N ((A ++ X ++ Y ++ B).map Prod.fst) (A.length : Int) ((A.length + X.length : Nat) : Int) ((A.length + X.length + Y.length : Nat) : Int) cmp) (SymPost lt A X Y B)
  | 0, A, X, Y, B, _, _, h, _, _, _, _ => by omega
  | N + 1, A, X, Y, B, hx0, hy0, hN, hlen, hX, hY, ht => by
    have ih := @symMerge_ok hc hO N
    have hxl : 0 < X.length := List.length_pos_iff.2 hx0
    have hyl : 0 < Y.length := List.length_pos_iff.2 hy0
    show Ok (f_slices_symMergeCmpFunc_Row_s0_0_R (f_slices_symMergeCmpFunc_Row_s0_0_D N) _ _ _ _ _) _
    unfold f_slices_symMergeCmpFunc_Row_s0_0_R
    rw [wrap_i64 (((A.length + X.length : Nat) : Int) - (A.length : Int)) (by omega)]
    refine Ok.iteB (fun h1 => ?_) (fun h1 => ?_)
    · have : X.length = 1 := by simp at h1; omega
      match X, this with
      | [x], _ => exact oneX hc hO (by simp only [List.length_singleton] at hlen; omega) hY (fun y hy => ht x (by simp) y hy)
    have h1' : X.length ≠ 1 := by intro h; simp [h] at h1; omega
    unfold f_slices_symMergeCmpFunc_Row_s0_0_J1
    rw [wrap_i64 (((A.length + X.length + Y.length : Nat) : Int) - ((A.length + X.length : Nat) : Int)) (by omega)]
    refine Ok.iteB (fun h2 => ?_) (fun h2 => ?_)
    · have : Y.length = 1 := by simp at h2; omega
      match Y, this with
      | [y], _ => exact oneY hc hO (by simp only [List.length_singleton] at hlen; omega) hX (fun x hx => ht x hx y (by simp))
    have h2' : Y.length ≠ 1 := by intro h; simp [h] at h2; omega
    unfold f_slices_symMergeCmpFunc_Row_s0_0_J2
    generalize hm : A.length + X.length = m at *
    generalize hb : m + Y.length = b at *
    rw [half A.length b (by omega)]
    generalize hhalf : (A.length + b) / 2 = mid at *
    have hdl : ((A ++ X ++ Y ++ B).map Prod.fst).length = b + B.length := by simp; omega
    have key : ∀ lo hi : Nat, (mid < m ∧ lo = mid + m - b ∧ hi = mid) ∨ (m ≤ mid ∧ lo = A.length ∧ hi = m) →
        Ok (f_slices_symMergeCmpFunc_Row_s0_0_J3 ((A ++ X ++ Y ++ B).map Prod.fst) (A.length : Int) (m : Int) (b : Int) cmp (f_slices_symMergeCmpFunc_Row_s0_0_D N) (lo : Int) (hi : Int)) (SymPost lt A X Y B) := fun lo hi hlh => by
      unfold f_slices_symMergeCmpFunc_Row_s0_0_J3
      have rng : ∀ c, lo ≤ c → c < hi → A.length ≤ c ∧ c < m ∧ m ≤ mid + m - 1 - c ∧ mid + m - 1 - c < b := fun c h1 h2 => by omega
      refine bsearch lo hi (by omega) (by omega) (fun c => match X[c - A.length]?, Y[mid + m - 1 - c - m]? with | some x, some y => !lt y.1 x.1 | _, _ => false) (fun i j hi' hij hj => ?_) (fun rec i j hi' hij hj hr => ?_) (fun rec s hs1 hs2 hp1 hp2 => ?_)
      · have ri := rng i hi' (by omega)
        have rj := rng j (by omega) hj
        rw [List.getElem?_eq_getElem (show j - A.length < X.length by omega), List.getElem?_eq_getElem (show i - A.length < X.length by omega), List.getElem?_eq_getElem (show mid + m - 1 - j - m < Y.length by omega), List.getElem?_eq_getElem (show mid + m - 1 - i - m < Y.length by omega)]
        simp only [Bool.not_eq_true']
        intro h
        exact hO.ntrans _ _ _ (srt_lt hY (mid + m - 1 - j - m) (mid + m - 1 - i - m) (by omega) (by omega) hO) (hO.ntrans _ _ _ h (srt_lt hX (i - A.length) (j - A.length) (by omega) (by omega) hO))
      · unfold f_slices_symMergeCmpFunc_Row_s0_0_B7
        simp only at hr ⊢
        rw [half i j (by omega), half A.length b (by omega), hhalf]
        generalize hh : (i + j) / 2 = c at *
        have rc := rng c (by omega) (by omega)
        rw [List.getElem?_eq_getElem (show c - A.length < X.length by omega), List.getElem?_eq_getElem (show mid + m - 1 - c - m < Y.length by omega)] at hr
        simp only at hr
        rw [wrap_i64 ((mid : Int) + (m : Int)) (by omega), wrap_i64 ((mid : Int) + (m : Int) - 1) (by omega), wrap_i64 ((mid : Int) + (m : Int) - 1 - (c : Int)) (by omega), show (mid : Int) + (m : Int) - 1 - (c : Int) = ((mid + m - 1 - c : Nat) : Int) by omega]
        refine Ok.iteB (fun _ => Ok.bind (Ok.idxN (by rw [hdl]; omega) (Ok.bind (Ok.idxN (by rw [hdl]; omega) ?_)))) (fun hx => by simp only [decide_eq_false_iff_not] at hx; omega)
        rw [idxX A X Y B c (by omega) (by omega), idxY A X Y B (mid + m - 1 - c) (by omega) (by omega)]
        have hmm : mid + m - 1 - c - (A.length + X.length) = mid + m - 1 - c - m := by omega
        simp only [hmm]
        obtain ⟨n, hn, hi''⟩ := hc (Y[mid + m - 1 - c - m]'(by omega)).1 (X[c - A.length]'(by omega)).1
        refine Ok.bind (Ok.of_eq hn ?_)
        rw [wrap_i64 ((c : Int) + 1) (by omega)]
        refine Ok.iteB (fun hx => ?_) (fun hx => ?_)
        · simp only [Bool.not_eq_true', decide_eq_false_iff_not] at hx
          rw [if_pos (by cases h' : lt (Y[mid + m - 1 - c - m]'(by omega)).1 (X[c - A.length]'(by omega)).1
                         · rfl
                         · exact absurd (hi''.2 h') hx)] at hr
          exact hr
        · simp only [Bool.not_eq_false', decide_eq_true_eq] at hx
          rw [if_neg (by rw [hi''.1 hx]; simp)] at hr
          exact hr
      · unfold f_slices_symMergeCmpFunc_Row_s0_0_B7
        simp only
        refine Ok.iteB (fun hx => by simp at hx) (fun _ => ?_)
        have hs : A.length ≤ s ∧ s ≤ m ∧ m ≤ mid + m - s ∧ mid + m - s ≤ b := by omega
        have hL1 : ∀ x ∈ X.take (s - A.length), ∀ y ∈ Y.drop (mid + m - s - m), lt y.1 x.1 = false := fun x hx y hy => by
          obtain ⟨i, hi1, rfl⟩ := List.mem_iff_getElem.1 hx
          obtain ⟨j, hj1, rfl⟩ := List.mem_iff_getElem.1 hy
          rw [List.length_take] at hi1
          rw [List.length_drop] at hj1
          rw [List.getElem_take, List.getElem_drop]
          have hlos : lo < s := by omega
          have r := rng (s - 1) (by omega) (by omega)
          have := hp1 (s - 1) (by omega) (by omega)
          rw [List.getElem?_eq_getElem (show s - 1 - A.length < X.length by omega), List.getElem?_eq_getElem (show mid + m - 1 - (s - 1) - m < Y.length by omega)] at this
          simp only [Bool.not_eq_true'] at this
          exact hO.ntrans _ _ _ (srt_lt hY (mid + m - 1 - (s - 1) - m) (mid + m - s - m + j) (by omega) (by omega) hO) (hO.ntrans _ _ _ this (srt_lt hX i (s - 1 - A.length) (by omega) (by omega) hO))
        have hL2 : ∀ y ∈ Y.take (mid + m - s - m), ∀ x ∈ X.drop (s - A.length), lt y.1 x.1 = true := fun y hy x hx => by
          obtain ⟨i, hi1, rfl⟩ := List.mem_iff_getElem.1 hx
          obtain ⟨j, hj1, rfl⟩ := List.mem_iff_getElem.1 hy
          rw [List.length_take] at hj1
          rw [List.length_drop] at hi1
          rw [List.getElem_take, List.getElem_drop]
          have hshi : s < hi := by omega
          have r := rng s (by omega) (by omega)
          have := hp2 s (by omega) (by omega)
          rw [List.getElem?_eq_getElem (show s - A.length < X.length by omega), List.getElem?_eq_getElem (show mid + m - 1 - s - m < Y.length by omega)] at this
          simp only [Bool.not_eq_false'] at this
          cases hh : lt (Y[j]'(by omega)).1 (X[s - A.length + i]'(by omega)).1
          · have h3 := hO.ntrans _ _ _ (srt_lt hY j (mid + m - 1 - s - m) (by omega) (by omega) hO) (hO.ntrans _ _ _ hh (srt_lt hX (s - A.length) (s - A.length + i) (by omega) (by omega) hO))
            rw [h3] at this; cases this
          · rfl
        have hXs : X = X.take (s - A.length) ++ X.drop (s - A.length) := (List.take_append_drop _ _).symm
        have hYs : Y = Y.take (mid + m - s - m) ++ Y.drop (mid + m - s - m) := (List.take_append_drop _ _).symm
        have hl1 : (X.take (s - A.length)).length = s - A.length := by rw [List.length_take]; omega
        have hl2 : (Y.take (mid + m - s - m)).length = mid + m - s - m := by rw [List.length_take]; omega
        have hl3 : (X.drop (s - A.length)).length = m - s := by rw [List.length_drop]; omega
        have hl4 : (Y.drop (mid + m - s - m)).length = b - (mid + m - s) := by rw [List.length_drop]; omega
        clear hp1 hp2
        generalize X.take (s - A.length) = X1 at *
        generalize X.drop (s - A.length) = X2 at *
        generalize Y.take (mid + m - s - m) = Y1 at *
        generalize Y.drop (mid + m - s - m) = Y2 at *
        subst hXs hYs
        have h5 := halves (cmp := cmp) hO (N := N) (A := A) (X1 := X1) (X2 := X2) (Y1 := Y1) (Y2 := Y2) (B := B) (m := m) (b := b) (mid := mid) (s := s) (e := mid + m - s) (by omega) ih (by omega) (by omega) hm.symm (by rw [hm, hb]) (by omega) (by omega) rfl hhalf hX hY ht hL1 hL2
        unfold f_slices_symMergeCmpFunc_Row_s0_0_J4
        rw [half A.length b (by omega), hhalf, wrap_i64 ((mid : Int) + (m : Int)) (by omega), wrap_i64 ((mid : Int) + (m : Int) - (s : Int)) (by omega), show (mid : Int) + (m : Int) - (s : Int) = ((mid + m - s : Nat) : Int) by omega]
        refine Ok.iteB (fun hx => ?_) (fun hx => ?_)
        · simp only [Bool.and_eq_true, decide_eq_true_eq] at hx
          have hne1 : X2 ≠ [] := by rintro rfl; simp at hl3; omega
          have hne2 : Y1 ≠ [] := by rintro rfl; simp at hl2; omega
          have hrot := rotate_ok (cmp := cmp) (A := (A ++ X1).map Prod.fst) (X := X2.map Prod.fst) (Y := Y1.map Prod.fst) (B := (Y2 ++ B).map Prod.fst) (by simpa using hne1) (by simpa using hne2) (by simp only [List.length_append, List.length_map]; omega)
          simp only [List.length_append, List.length_map] at hrot
          rw [show A.length + X1.length = s by omega, show s + X2.length = m by omega, show m + Y1.length = mid + m - s by omega] at hrot
          have e1 : (A ++ (X1 ++ X2) ++ (Y1 ++ Y2) ++ B).map Prod.fst = (A ++ X1).map Prod.fst ++ X2.map Prod.fst ++ Y1.map Prod.fst ++ (Y2 ++ B).map Prod.fst := by simp
          rw [e1]
          refine Ok.bind (hrot.mono fun r hr => ?_)
          subst hr
          refine Ok.guard (by simp only [List.length_append, List.length_map]; omega) ?_
          have e2 : (A ++ X1).map Prod.fst ++ Y1.map Prod.fst ++ X2.map Prod.fst ++ (Y2 ++ B).map Prod.fst = (A ++ X1 ++ Y1 ++ X2 ++ Y2 ++ B).map Prod.fst := by simp
          rw [e2]
          exact h5
        · simp only [Bool.and_eq_false_iff, decide_eq_false_iff_not] at hx
          have e1 : A ++ (X1 ++ X2) ++ (Y1 ++ Y2) ++ B = A ++ X1 ++ Y1 ++ X2 ++ Y2 ++ B := by
            rcases hx with hx | hx
            · have : X2 = [] := List.eq_nil_of_length_eq_zero (by omega)
              subst this; simp
            · have : Y1 = [] := List.eq_nil_of_length_eq_zero (by omega)
              subst this; simp
          rw [e1]
          exact h5
    refine Ok.iteB (fun hx => ?_) (fun hx => ?_)
    · simp only [decide_eq_true_eq] at hx
      rw [wrap_i64 ((mid : Int) + (m : Int)) (by omega), wrap_i64 ((mid : Int) + (m : Int) - (b : Int)) (by omega), show (mid : Int) + (m : Int) - (b : Int) = ((mid + m - b : Nat) : Int) by omega]
      exact key _ _ (.inl ⟨by omega, rfl, rfl⟩)
    · simp only [decide_eq_false_iff_not] at hx
      exact key _ _ (.inr ⟨by omega, rfl, rfl⟩)
end QY
end Go.Proofs.Ytfjjpdjnpmajlaa

