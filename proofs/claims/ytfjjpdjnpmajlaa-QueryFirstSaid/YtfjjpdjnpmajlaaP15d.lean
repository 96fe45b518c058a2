/-
  The law in plain words: what its plain function gives is true. No condition beyond those that each theorem names.
-/
import Derived.Test.YtfjjpdjnpmajlaaP15c
set_option linter.unusedSimpArgs false
set_option linter.unusedVariables false
namespace Go.Proofs.Ytfjjpdjnpmajlaa
open Go Go.RowKit Go.Sort
namespace QY
variable {lt : GRow → GRow → Bool} {cmp : GRow → GRow → Option Int}
theorem srt_lt {T : TS} (h : Srt lt T) (i j : Nat) (hij : i ≤ j) (hj : j < T.length) (hO : SWO lt) : lt T[j].1 (T[i]'(by omega)).1 = false := by
  rcases Nat.eq_or_lt_of_le hij with rfl | hlt
  · exact hO.irrefl _
  · exact (tl_false.1 (List.pairwise_iff_getElem.1 h i j (by omega) hj hlt)).1
theorem idxX (A X Y B : TS) (c : Nat) (h1 : A.length ≤ c) (h2 : c < A.length + X.length) (h : c < ((A ++ X ++ Y ++ B).map Prod.fst).length) : ((A ++ X ++ Y ++ B).map Prod.fst)[c]'h = (X[c - A.length]'(by omega)).1 := by
  have e : A ++ X ++ Y ++ B = A ++ X ++ (Y ++ B) := by simp
  have := get_seg A X (Y ++ B) (c - A.length) (by omega) (by simp; omega)
  simp only [← e, show A.length + (c - A.length) = c by omega] at this
  exact this
theorem idxY (A X Y B : TS) (c : Nat) (h1 : A.length + X.length ≤ c) (h2 : c < A.length + X.length + Y.length) (h : c < ((A ++ X ++ Y ++ B).map Prod.fst).length) : ((A ++ X ++ Y ++ B).map Prod.fst)[c]'h = (Y[c - (A.length + X.length)]'(by omega)).1 := by
  have := get_seg (A ++ X) Y B (c - (A.length + X.length)) (by omega) (by simp; omega)
  simp only [List.length_append, show A.length + X.length + (c - (A.length + X.length)) = c by omega] at this
  exact this
def SymPost (lt : GRow → GRow → Bool) (A X Y B : TS) (r : List GRow) : Prop := ∃ Z : TS, r = (A ++ Z ++ B).map Prod.fst ∧ Z.Perm (X ++ Y) ∧ Srt lt Z
theorem oneX (hc : ∀ x y, ∃ n, cmp x y = some n ∧ (n < 0 ↔ lt x y = true)) (hO : SWO lt) {A Y B : TS} {x : GRow × Nat} (hlen : A.length + 1 + Y.length + B.length < 1000000) (hY : Srt lt Y) (hxy : ∀ y ∈ Y, x.2 < y.2) :
    Ok (loopK (f_slices_symMergeCmpFunc_Row_s0_0_B13 ((A ++ [x] ++ Y ++ B).map Prod.fst) (A.length : Int) cmp) rounds (((A.length + 1 : Nat) : Int), ((A.length + 1 + Y.length : Nat) : Int))) (SymPost lt A [x] Y B) := by
  have hdl : ((A ++ [x] ++ Y ++ B).map Prod.fst).length = A.length + 1 + Y.length + B.length := by simp; omega
  refine bsearch (A.length + 1) (A.length + 1 + Y.length) (by omega) (by omega) (fun q => match Y[q - (A.length + 1)]? with | some y => lt y.1 x.1 | none => false) (fun i j hi hij hj => ?_) (fun rec i j hi hij hj hr => ?_) (fun rec s h1 h2 hp1 hp2 => ?_)
  · rw [List.getElem?_eq_getElem (show j - (A.length + 1) < Y.length by omega), List.getElem?_eq_getElem (show i - (A.length + 1) < Y.length by omega)]
    simp only
    intro h
    cases hh : lt (Y[i - (A.length + 1)]'(by omega)).1 x.1
    · have := hO.ntrans _ _ _ (srt_lt hY (i - (A.length + 1)) (j - (A.length + 1)) (by omega) (by omega) hO) hh
      rw [this] at h; cases h
    · rfl
  · unfold f_slices_symMergeCmpFunc_Row_s0_0_B13
    simp only at hr ⊢
    rw [half i j (by omega)]
    generalize hh : (i + j) / 2 = c at *
    rw [List.getElem?_eq_getElem (show c - (A.length + 1) < Y.length by omega)] at hr
    simp only at hr
    refine Ok.iteB (fun _ => Ok.bind (Ok.idxN (by rw [hdl]; omega) (Ok.bind (Ok.idxN (by rw [hdl]; omega) ?_)))) (fun hx => by simp only [decide_eq_false_iff_not] at hx; omega)
    rw [idxY A [x] Y B c (by simp; omega) (by simp; omega), idxX A [x] Y B A.length (Nat.le_refl _) (by simp)]
    simp only [List.length_singleton, Nat.sub_self, List.getElem_cons_zero]
    obtain ⟨n, hn, hi'⟩ := hc (Y[c - (A.length + 1)]'(by omega)).1 x.1
    refine Ok.bind (Ok.of_eq hn ?_)
    rw [wrap_i64 _ (by omega)]
    refine Ok.iteB (fun hx => ?_) (fun hx => ?_)
    · simp only [decide_eq_true_eq] at hx
      rw [if_pos (hi'.1 hx)] at hr
      exact hr
    · simp only [decide_eq_false_iff_not] at hx
      rw [if_neg (fun h => hx (hi'.2 h))] at hr
      exact hr
  · unfold f_slices_symMergeCmpFunc_Row_s0_0_B13
    simp only
    refine Ok.iteB (fun hx => by simp at hx) (fun _ => ?_)
    unfold f_slices_symMergeCmpFunc_Row_s0_0_J11
    have hYs : Y = Y.take (s - (A.length + 1)) ++ Y.drop (s - (A.length + 1)) := (List.take_append_drop _ _).symm
    have hl1 : (Y.take (s - (A.length + 1))).length = s - (A.length + 1) := by rw [List.length_take]; omega
    have hq1 : ∀ y ∈ Y.take (s - (A.length + 1)), lt y.1 x.1 = true := fun y hy => by
      obtain ⟨k, hk, rfl⟩ := List.mem_iff_getElem.1 hy
      rw [List.getElem_take]
      have := hp1 (A.length + 1 + k) (by omega) (by omega)
      rw [show A.length + 1 + k - (A.length + 1) = k by omega, List.getElem?_eq_getElem (show k < Y.length by omega)] at this
      exact this
    have hq2 : ∀ y ∈ Y.drop (s - (A.length + 1)), lt y.1 x.1 = false := fun y hy => by
      obtain ⟨k, hk, rfl⟩ := List.mem_iff_getElem.1 hy
      rw [List.length_drop] at hk
      rw [List.getElem_drop]
      have := hp2 (s + k) (by omega) (by omega)
      rw [show s + k - (A.length + 1) = s - (A.length + 1) + k by omega, List.getElem?_eq_getElem (show s - (A.length + 1) + k < Y.length by omega)] at this
      exact this
    generalize Y.take (s - (A.length + 1)) = Y1 at *
    generalize Y.drop (s - (A.length + 1)) = Y2 at *
    subst hYs
    have hm := moveR (A := A.map Prod.fst) (Y1 := Y1.map Prod.fst) (B := (Y2 ++ B).map Prod.fst) (x := x.1) (by simp only [List.length_map]; simp only [List.length_append] at hlen; omega)
    simp only [List.length_map] at hm
    rw [show A.length + 1 + Y1.length = s by omega] at hm
    rw [show (A ++ [x] ++ (Y1 ++ Y2) ++ B).map Prod.fst = A.map Prod.fst ++ x.1 :: (Y1.map Prod.fst ++ (Y2 ++ B).map Prod.fst) by simp]
    refine hm.mono fun r hr => ⟨Y1 ++ x :: Y2, ?_, ?_, ?_⟩
    · rw [hr]; simp
    · exact List.perm_middle
    · have h12 := List.pairwise_append.1 hY
      refine List.pairwise_append.2 ⟨h12.1, List.pairwise_cons.2 ⟨fun y hy => ?_, h12.2.1⟩, fun y hy z hz => ?_⟩
      · rw [tl_low (hxy y (by simp [hy]))]; exact hq2 y hy
      · rcases List.mem_cons.1 hz with rfl | hz
        · rw [tl_false]; exact ⟨swo_as hO (hq1 y hy), .inl (hq1 y hy)⟩
        · exact h12.2.2 y hy z hz
theorem oneY (hc : ∀ x y, ∃ n, cmp x y = some n ∧ (n < 0 ↔ lt x y = true)) (hO : SWO lt) {A X B : TS} {y : GRow × Nat} (hlen : A.length + X.length + 1 + B.length < 1000000) (hX : Srt lt X) (hxy : ∀ x ∈ X, x.2 < y.2) :
    Ok (loopK (f_slices_symMergeCmpFunc_Row_s0_0_B10 ((A ++ X ++ [y] ++ B).map Prod.fst) ((A.length + X.length : Nat) : Int) cmp) rounds ((A.length : Int), ((A.length + X.length : Nat) : Int))) (SymPost lt A X [y] B) := by
  have hdl : ((A ++ X ++ [y] ++ B).map Prod.fst).length = A.length + X.length + 1 + B.length := by simp; omega
  refine bsearch A.length (A.length + X.length) (by omega) (by omega) (fun q => match X[q - A.length]? with | some x => !lt y.1 x.1 | none => false) (fun i j hi hij hj => ?_) (fun rec i j hi hij hj hr => ?_) (fun rec s h1 h2 hp1 hp2 => ?_)
  · rw [List.getElem?_eq_getElem (show j - A.length < X.length by omega), List.getElem?_eq_getElem (show i - A.length < X.length by omega)]
    simp only [Bool.not_eq_true']
    intro h
    exact hO.ntrans _ _ _ h (srt_lt hX (i - A.length) (j - A.length) (by omega) (by omega) hO)
  · unfold f_slices_symMergeCmpFunc_Row_s0_0_B10
    simp only at hr ⊢
    rw [half i j (by omega)]
    generalize hh : (i + j) / 2 = c at *
    rw [List.getElem?_eq_getElem (show c - A.length < X.length by omega)] at hr
    simp only at hr
    refine Ok.iteB (fun _ => Ok.bind (Ok.idxN (by rw [hdl]; omega) (Ok.bind (Ok.idxN (by rw [hdl]; omega) ?_)))) (fun hx => by simp only [decide_eq_false_iff_not] at hx; omega)
    rw [idxX A X [y] B c (by omega) (by omega), idxY A X [y] B (A.length + X.length) (Nat.le_refl _) (by simp)]
    simp only [Nat.sub_self, List.getElem_cons_zero]
    obtain ⟨n, hn, hi'⟩ := hc y.1 (X[c - A.length]'(by omega)).1
    refine Ok.bind (Ok.of_eq hn ?_)
    rw [wrap_i64 _ (by omega)]
    refine Ok.iteB (fun hx => ?_) (fun hx => ?_)
    · simp only [Bool.not_eq_true', decide_eq_false_iff_not] at hx
      rw [if_pos (by cases h' : lt y.1 (X[c - A.length]'(by omega)).1
                     · rfl
                     · exact absurd (hi'.2 h') hx)] at hr
      exact hr
    · simp only [Bool.not_eq_false', decide_eq_true_eq] at hx
      rw [if_neg (by rw [hi'.1 hx]; simp)] at hr
      exact hr
  · unfold f_slices_symMergeCmpFunc_Row_s0_0_B10
    simp only
    refine Ok.iteB (fun hx => by simp at hx) (fun _ => ?_)
    unfold f_slices_symMergeCmpFunc_Row_s0_0_J8
    have hXs : X = X.take (s - A.length) ++ X.drop (s - A.length) := (List.take_append_drop _ _).symm
    have hl1 : (X.take (s - A.length)).length = s - A.length := by rw [List.length_take]; omega
    have hq1 : ∀ x ∈ X.take (s - A.length), lt y.1 x.1 = false := fun x hx => by
      obtain ⟨k, hk, rfl⟩ := List.mem_iff_getElem.1 hx
      rw [List.getElem_take]
      have := hp1 (A.length + k) (by omega) (by omega)
      rw [show A.length + k - A.length = k by omega, List.getElem?_eq_getElem (show k < X.length by omega)] at this
      simpa using this
    have hq2 : ∀ x ∈ X.drop (s - A.length), lt y.1 x.1 = true := fun x hx => by
      obtain ⟨k, hk, rfl⟩ := List.mem_iff_getElem.1 hx
      rw [List.length_drop] at hk
      rw [List.getElem_drop]
      have := hp2 (s + k) (by omega) (by omega)
      rw [show s + k - A.length = s - A.length + k by omega, List.getElem?_eq_getElem (show s - A.length + k < X.length by omega)] at this
      simpa using this
    generalize X.take (s - A.length) = X1 at *
    generalize X.drop (s - A.length) = X2 at *
    subst hXs
    have hm := moveL (A := (A ++ X1).map Prod.fst) (X2 := X2.map Prod.fst) (B := B.map Prod.fst) (y := y.1) (by simp only [List.length_map, List.length_append] at hlen ⊢; omega)
    simp only [List.length_map, List.length_append] at hm
    rw [show A.length + X1.length = s by omega] at hm
    rw [show (A ++ (X1 ++ X2) ++ [y] ++ B).map Prod.fst = (A ++ X1).map Prod.fst ++ X2.map Prod.fst ++ y.1 :: B.map Prod.fst by simp, show A.length + (X1 ++ X2).length = s + X2.length by rw [List.length_append]; omega]
    refine hm.mono fun r hr => ⟨X1 ++ y :: X2, ?_, ?_, ?_⟩
    · rw [hr]; simp
    · rw [List.append_assoc]
      exact List.Perm.append_left X1 (List.perm_append_comm (l₁ := [y]) (l₂ := X2))
    · have h12 := List.pairwise_append.1 hX
      refine List.pairwise_append.2 ⟨h12.1, List.pairwise_cons.2 ⟨fun x hx => ?_, h12.2.1⟩, fun x hx z hz => ?_⟩
      · rw [tl_false]; exact ⟨swo_as hO (hq2 x hx), .inl (hq2 x hx)⟩
      · rcases List.mem_cons.1 hz with rfl | hz
        · rw [tl_low (hxy x (by simp [hx]))]; exact hq1 x hx
        · exact h12.2.2 x hx z hz
end QY
end Go.Proofs.Ytfjjpdjnpmajlaa

