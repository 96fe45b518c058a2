/-
  The law in plain words: what its plain function gives is true. No condition beyond those that each theorem names.
-/
import Derived.Test.YtfjjpdjnpmajlaaP15a
import Derived.Test.YtfjjpdjnpmajlaaLibE
import Derived.Test.YtfjjpdjnpmajlaaWalkQF0
set_option linter.unusedSimpArgs false
set_option linter.unusedVariables false
namespace Go.Proofs.Ytfjjpdjnpmajlaa
open Go Go.RowKit Go.Sort
namespace QY
abbrev TS := List (GRow × Nat)
/-- Less; or alike, and earlier. -/
def tl (lt : GRow → GRow → Bool) (p q : GRow × Nat) : Bool := lt p.1 q.1 || (!lt q.1 p.1 && decide (p.2 < q.2))
def Srt (lt : GRow → GRow → Bool) (T : TS) : Prop := T.Pairwise (fun p q => tl lt q p = false)
variable {lt : GRow → GRow → Bool} {cmp : GRow → GRow → Option Int}
theorem tl_false {p q : GRow × Nat} : tl lt p q = false ↔ lt p.1 q.1 = false ∧ (lt q.1 p.1 = true ∨ ¬ p.2 < q.2) := by
  simp only [tl, Bool.or_eq_false_iff, Bool.and_eq_false_iff, Bool.not_eq_false', decide_eq_false_iff_not]
theorem tl_low {p q : GRow × Nat} (h : p.2 < q.2) : tl lt q p = lt q.1 p.1 := by
  have : decide (q.2 < p.2) = false := decide_eq_false (by omega)
  simp [tl, this]
theorem swo_as (hO : SWO lt) {x y : GRow} (h : lt x y = true) : lt y x = false := by
  cases hh : lt y x
  · rfl
  · have := hO.trans x y x h hh; rw [hO.irrefl] at this; cases this
theorem tl_ntrans (hO : SWO lt) (x y z : GRow × Nat) (h1 : tl lt x y = false) (h2 : tl lt y z = false) : tl lt x z = false := by
  rw [tl_false] at *
  refine ⟨hO.ntrans _ _ _ h1.1 h2.1, ?_⟩
  cases hzx : lt z.1 x.1
  · right
    rcases h1.2 with h | h
    · have := hO.ntrans _ _ _ h2.1 hzx
      rw [this] at h; cases h
    · rcases h2.2 with h' | h'
      · have := hO.ntrans _ _ _ hzx h1.1
        rw [this] at h'; cases h'
      · omega
  · exact .inl rfl
theorem tl_as (hO : SWO lt) (x y : GRow × Nat) (h : tl lt x y = true) : tl lt y x = false := by
  rw [tl_false]
  simp only [tl, Bool.or_eq_true, Bool.and_eq_true, Bool.not_eq_true', decide_eq_true_eq] at h
  rcases h with h | h
  · exact ⟨swo_as hO h, .inl h⟩
  · exact ⟨h.1, .inr (by omega)⟩
theorem ins_ok (hc : ∀ x y, ∃ n, cmp x y = some n ∧ (n < 0 ↔ lt x y = true)) (hO : SWO lt) {R : List GRow → Prop} {A D E : TS} {o : GRow × Nat} {rec : Int × List GRow → Option (List GRow)} (hs : Srt lt D) (ht : ∀ d ∈ D, d.2 < o.2) (hlen : A.length + D.length < 1000000)
    (hnext : ∀ D', D'.Perm (D ++ [o]) → Srt lt D' → Ok (rec (((A.length + D.length + 1 : Nat) : Int), (A ++ D' ++ E).map Prod.fst)) R) :
    Ok (loopK (f_slices_insertionSortCmpFunc_Row_s0_0_B2 (A.length : Int) cmp ((A.length + D.length : Nat) : Int) rec) rounds (((A.length + D.length : Nat) : Int), (A ++ D ++ o :: E).map Prod.fst)) R := by
  refine Ok.loop0 (fun s => ∃ D1 D2 : TS, D = D1 ++ D2 ∧ s.1 = ((A.length + D1.length : Nat) : Int) ∧ s.2 = (A ++ D1 ++ o :: D2 ++ E).map Prod.fst ∧ ∀ d ∈ D2, tl lt o d = true) (fun s => s.1.toNat) ?_ ⟨D, [], by simp, rfl, by simp, by simp⟩ (by simp only [rounds]; omega)
  rintro rec2 ⟨k, q⟩ ⟨D1, D2, hd, hk, hq, hD2⟩ hr
  simp only at hk hq
  subst hk hq hd
  rw [List.length_append] at hlen
  have hperm : (D1 ++ o :: D2).Perm (D1 ++ D2 ++ [o]) := by
    rw [List.append_assoc]
    exact List.Perm.append_left D1 (List.perm_append_comm (l₁ := [o]) (l₂ := D2))
  have hend : (D1 = [] ∨ ∃ A' p, D1 = A' ++ [p] ∧ tl lt o p = false) → Ok (rec (IntKind.i64.wrap (((A.length + (D1 ++ D2).length : Nat) : Int) + 1), (A ++ D1 ++ o :: D2 ++ E).map Prod.fst)) R := fun h => by
    rw [wrap_i64 _ (by simp only [List.length_append]; omega)]
    have := hnext (D1 ++ o :: D2) hperm (insert_pairwise (tl_ntrans hO) (tl_as hO) hs hD2 h)
    rw [show A ++ D1 ++ o :: D2 ++ E = A ++ (D1 ++ o :: D2) ++ E by simp]
    exact this
  unfold f_slices_insertionSortCmpFunc_Row_s0_0_B2
  simp only
  refine Ok.iteB (fun hx => ?_) (fun hx => hend (.inl ?_))
  · simp only [decide_eq_true_eq] at hx
    obtain ⟨D', p, rfl⟩ : ∃ D' p, D1 = D' ++ [p] := by
      rcases List.eq_nil_or_concat D1 with h | ⟨A', p, h⟩
      · subst h; simp at hx
      · exact ⟨A', p, by rw [h, List.concat_eq_append]⟩
    rw [List.length_append, List.length_singleton] at hlen
    have hp : p.2 < o.2 := ht p (by simp)
    have e1 : IntKind.i64.wrap (((A.length + (D' ++ [p]).length : Nat) : Int) - 1) = (((A ++ D').length : Nat) : Int) := by
      rw [wrap_i64 _ (by simp only [List.length_append, List.length_singleton]; omega)]
      simp only [List.length_append, List.length_singleton]; omega
    have e2 : ((A.length + (D' ++ [p]).length : Nat) : Int) = (((A ++ D' ++ [p]).length : Nat) : Int) := by
      simp only [List.length_append, List.length_singleton]; omega
    rw [e1, e2]
    let P := (A ++ D').map Prod.fst
    let S := (D2 ++ E).map Prod.fst
    have hPl : P.length = (A ++ D').length := by simp [P]
    have hdat : (A ++ (D' ++ [p]) ++ o :: D2 ++ E).map Prod.fst = P ++ p.1 :: (o.1 :: S) := by simp [P, S]
    have hdat2 : P ++ p.1 :: (o.1 :: S) = (P ++ [p.1]) ++ o.1 :: S := by simp
    have hl2 : (A ++ D' ++ [p]).length = (P ++ [p.1]).length := by simp [P]
    rw [hdat, hl2, ← hPl]
    have g1 : ∀ h : (P ++ [p.1]).length < (P ++ p.1 :: (o.1 :: S)).length, (P ++ p.1 :: (o.1 :: S))[(P ++ [p.1]).length]'h = o.1 := fun h => by
      have := get_mid (P ++ [p.1]) S o.1 (by rw [← hdat2]; exact h)
      simp only [← hdat2] at this
      exact this
    refine Ok.bind (Ok.idxN (by simp) ?_)
    refine Ok.bind (Ok.idxN (by simp) ?_)
    rw [g1, get_mid]
    obtain ⟨n, hn, hi⟩ := hc o.1 p.1
    refine Ok.bind (Ok.of_eq hn (Ok.iteB (fun hlt => ?_) (fun hlt => ?_)))
    · simp only [decide_eq_true_eq] at hlt
      refine Ok.bind (Ok.idxN (by simp) ?_)
      refine hr _ ⟨D', p :: D2, by simp, ?_, ?_, fun d hd => ?_⟩ ?_
      · simp only; rw [hPl, List.length_append]
      · simp only [Int.toNat_natCast]
        rw [hdat2, set_mid, List.append_assoc, List.singleton_append, set_mid]
        simp [P, S]
      · rcases List.mem_cons.1 hd with rfl | hd
        · rw [tl_low hp]; exact hi.1 hlt
        · exact hD2 d hd
      · simp only [List.length_append, List.length_singleton, hPl]; omega
    · simp only [decide_eq_false_iff_not] at hlt
      have hf : tl lt o p = false := by
        rw [tl_low hp]
        cases hh : lt o.1 p.1
        · rfl
        · exact absurd (hi.2 hh) hlt
      have := hend (.inr ⟨D', p, rfl, hf⟩)
      rw [hdat] at this
      exact this
  · simp only [decide_eq_false_iff_not] at hx
    exact List.eq_nil_of_length_eq_zero (by omega)
theorem insertion_ok (hc : ∀ x y, ∃ n, cmp x y = some n ∧ (n < 0 ↔ lt x y = true)) (hO : SWO lt) {A S E : TS} (ht : S.Pairwise (fun p q => p.2 < q.2)) (hlen : A.length + S.length < 1000000) :
    Ok (f_slices_insertionSortCmpFunc_Row_s0_0 ((A ++ S ++ E).map Prod.fst) (A.length : Int) ((A.length + S.length : Nat) : Int) cmp) (fun r => ∃ Z : TS, r = (A ++ Z ++ E).map Prod.fst ∧ Z.Perm S ∧ Srt lt Z) := by
  unfold f_slices_insertionSortCmpFunc_Row_s0_0
  rw [wrap_i64 _ (by omega)]
  rcases S with _ | ⟨s, S⟩
  · refine Ok.loop0 (fun t => t = ((A.length : Int) + 1, (A ++ [] ++ E).map Prod.fst)) (fun _ => 0) ?_ rfl (by simp [rounds])
    rintro rec _ rfl _
    unfold f_slices_insertionSortCmpFunc_Row_s0_0_B1
    refine Ok.iteB (fun hx => by simp at hx; omega) (fun _ => Ok.some ⟨[], rfl, List.Perm.refl _, List.Pairwise.nil⟩)
  · generalize hS : s :: S = S' at *
    have h1 : 1 ≤ S'.length := by rw [← hS]; simp
    refine Ok.loop0 (fun t => ∃ (k : Nat) (D : TS), t.1 = ((A.length + k : Nat) : Int) ∧ 1 ≤ k ∧ k ≤ S'.length ∧ D.Perm (S'.take k) ∧ Srt lt D ∧ t.2 = (A ++ D ++ (S'.drop k ++ E)).map Prod.fst) (fun t => (A.length + S'.length) - t.1.toNat) ?_ ⟨1, [s], by simp, Nat.le_refl _, h1, by rw [← hS]; simp, List.pairwise_singleton _ _, by rw [← hS]; simp⟩ (by simp only [rounds]; omega)
    rintro rec ⟨t, q⟩ ⟨k, D, hk, hk1, hk2, hp, hsd, hq⟩ hr
    simp only at hk hq
    subst hk hq
    have hDl : D.length = k := by rw [hp.length_eq, List.length_take]; omega
    unfold f_slices_insertionSortCmpFunc_Row_s0_0_B1
    simp only
    refine Ok.iteB (fun hx => ?_) (fun hx => Ok.some ?_)
    · simp only [decide_eq_true_eq] at hx
      subst hDl
      have hlt' : D.length < S'.length := by omega
      rw [List.drop_eq_getElem_cons hlt', List.cons_append]
      refine ins_ok hc hO hsd (fun d hd => ?_) (by omega) (fun D' hp' hs' => ?_)
      · have hm := hp.mem_iff.1 hd
        obtain ⟨j, hj, rfl⟩ := List.mem_iff_getElem.1 hm
        rw [List.length_take] at hj
        rw [List.getElem_take]
        exact List.pairwise_iff_getElem.1 ht j D.length (by omega) hlt' (by omega)
      · refine hr _ ⟨D.length + 1, D', by simp only; omega, by omega, by omega, ?_, hs', rfl⟩ ?_
        · rw [List.take_succ_eq_append_getElem hlt']
          exact hp'.trans (List.Perm.append_right _ hp)
        · simp only [Int.toNat_natCast]; omega
    · simp only [decide_eq_false_iff_not] at hx
      have : k = S'.length := by omega
      subst this
      rw [List.take_length] at hp
      exact ⟨D, by simp, hp, hsd⟩
end QY
end Go.Proofs.Ytfjjpdjnpmajlaa

