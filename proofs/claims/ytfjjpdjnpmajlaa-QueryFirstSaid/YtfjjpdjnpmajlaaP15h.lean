/-
  The law in plain words: what its plain function gives is true. No condition beyond those that each theorem names.
-/
import Derived.Test.YtfjjpdjnpmajlaaP15g
set_option linter.unusedSimpArgs false
set_option linter.unusedVariables false
namespace Go.Proofs.Ytfjjpdjnpmajlaa
open Go Go.RowKit Go.Sort
namespace QY
variable {lt : GRow → GRow → Bool} {cmp : GRow → GRow → Option Int}
theorem bl_done {T0 : TS} {w : Nat} (hw : 20 ≤ w) {Ds : List TS} {L : TS} (h : BL lt w T0 Ds L) (hn : T0.length ≤ w) : Done lt T0 ((Ds.flatten ++ L).map Prod.fst) := by
  refine ⟨_, rfl, h.perm, ?_⟩
  have hl := h.perm.length_eq
  rw [List.length_append, flat_len h.full] at hl
  match Ds, h, hl with
  | [], h, _ => exact h.srt
  | [X], h, hl =>
    simp at hl
    have : L = [] := List.eq_nil_of_length_eq_zero (by omega)
    subst this
    simpa using (h.full X (by simp)).2
  | X :: Y :: Ds', h, hl =>
    simp only [List.length_cons] at hl
    have : (Ds'.length + 1 + 1) * w = Ds'.length * w + w + w := by rw [Nat.add_mul, Nat.add_mul]; omega
    omega
theorem outer (hc : ∀ x y, ∃ n, cmp x y = some n ∧ (n < 0 ↔ lt x y = true)) (hO : SWO lt) {T0 : TS} (hn : T0.length < 100000) {Ds : List TS} {L : TS} (h : BL lt 20 T0 Ds L) :
    Ok (loopK (f_slices_stableCmpFunc_Row_s0_0_B2 (T0.length : Int) cmp) rounds (20, (Ds.flatten ++ L).map Prod.fst)) (Done lt T0) := by
  refine Ok.loop0 (fun s => ∃ (w : Nat) (Ds : List TS) (L : TS), s.1 = (w : Int) ∧ 20 ≤ w ∧ BL lt w T0 Ds L ∧ s.2 = (Ds.flatten ++ L).map Prod.fst) (fun s => T0.length - s.1.toNat) ?_ ⟨20, Ds, L, rfl, Nat.le_refl _, h, rfl⟩ (by simp only [rounds]; omega)
  rintro rec ⟨t, q⟩ ⟨w, Ds, L, ht, hw, hbl, hq⟩ hr
  simp only at ht hq
  subst ht hq
  unfold f_slices_stableCmpFunc_Row_s0_0_B2
  simp only
  refine Ok.iteB (fun hx => ?_) (fun hx => Ok.some (bl_done hw hbl ?_))
  · simp only [decide_eq_true_eq] at hx
    exact stage hc hO hn hw (by omega) hbl fun Ds' L' h' => hr _ ⟨w * 2, Ds', L', rfl, by omega, h', rfl⟩ (by simp only [Int.toNat_natCast]; omega)
  · simp only [decide_eq_false_iff_not] at hx
    omega
theorem stable_ok (hc : ∀ x y, ∃ n, cmp x y = some n ∧ (n < 0 ↔ lt x y = true)) (hO : SWO lt) {T0 : TS} (hn : T0.length < 100000) (hT : T0.Pairwise (fun p q => p.2 < q.2)) :
    Ok (f_slices_stableCmpFunc_Row_s0_0 (T0.map Prod.fst) (T0.length : Int) cmp) (Done lt T0) := by
  unfold f_slices_stableCmpFunc_Row_s0_0
  refine Ok.loop0 (fun s => ∃ (Ds : List TS) (U : TS), s.1 = ((Ds.length * 20 : Nat) : Int) ∧ s.2.1 = ((Ds.length * 20 + 20 : Nat) : Int) ∧ s.2.2 = (Ds.flatten ++ U).map Prod.fst ∧ (∀ X ∈ Ds, X.length = 20 ∧ Srt lt X) ∧ U.Pairwise (fun p q => p.2 < q.2) ∧ (Ds ++ [U]).Pairwise Low ∧ (Ds.flatten ++ U).Perm T0)
    (fun s => T0.length - s.1.toNat) ?_ ⟨[], T0, rfl, rfl, by simp, by simp, hT, by simp, by simp⟩ (by simp only [rounds]; omega)
  rintro rec ⟨a, b, q⟩ ⟨Ds, U, ha, hb, hq, hD, hU, hlow, hperm⟩ hr
  simp only at ha hb hq
  subst ha hb hq
  have hDl : Ds.flatten.length = Ds.length * 20 := flat_len hD
  have htot := hperm.length_eq
  simp only [List.length_append, hDl] at htot
  generalize hea : Ds.length * 20 = ea at *
  unfold f_slices_stableCmpFunc_Row_s0_0_B5
  simp only
  refine Ok.iteB (fun hx => ?_) (fun hx => ?_)
  · simp only [decide_eq_true_eq] at hx
    obtain ⟨S, U', rfl, hS⟩ : ∃ S U', U = S ++ U' ∧ S.length = 20 := ⟨U.take 20, U.drop 20, (List.take_append_drop _ _).symm, by rw [List.length_take]; omega⟩
    rw [List.length_append] at htot
    have hU' := List.pairwise_append.1 hU
    have hins := insertion_ok hc hO (A := Ds.flatten) (S := S) (E := U') hU'.1 (by omega)
    rw [hDl, hS] at hins
    rw [← List.append_assoc]
    refine Ok.bind (hins.mono fun r hr' => ?_)
    obtain ⟨Z, rfl, pZ, sZ⟩ := hr'
    have hZl := pZ.length_eq
    refine Ok.guard (by simp only [List.length_map, List.length_append]; omega) ?_
    rw [wrap_i64 _ (by omega)]
    refine hr _ ⟨Ds ++ [Z], U', ?_, ?_, ?_, ?_, hU'.2.1, ?_, ?_⟩ ?_
    · simp only [List.length_append, List.length_singleton, Nat.add_mul, hea]
    · simp only [List.length_append, List.length_singleton, Nat.add_mul, hea]; omega
    · simp
    · intro W hW
      rcases List.mem_append.1 hW with hW | hW
      · exact hD W hW
      · rw [List.mem_singleton] at hW; subst hW; exact ⟨by omega, sZ⟩
    · rw [List.pairwise_append] at hlow
      rw [List.append_assoc, List.singleton_append, List.pairwise_append]
      refine ⟨hlow.1, List.pairwise_cons.2 ⟨fun q hq => ?_, List.pairwise_singleton _ _⟩, fun e he q hq => ?_⟩
      · rw [List.mem_singleton] at hq; subst hq
        exact fun x hx y hy => hU'.2.2 x (pZ.mem_iff.1 hx) y hy
      · have := hlow.2.2 e he _ (List.mem_singleton.2 rfl)
        simp only [List.mem_cons, List.not_mem_nil, or_false] at hq
        rcases hq with rfl | rfl
        · exact fun x hx y hy => this x hx y (by simp [pZ.mem_iff.1 hy])
        · exact fun x hx y hy => this x hx y (by simp [hy])
    · refine List.Perm.trans ?_ hperm
      simp only [List.flatten_append, List.flatten_cons, List.flatten_nil, List.append_nil, List.append_assoc]
      exact List.Perm.append_left _ (List.Perm.append_right _ pZ)
    · simp only [Int.toNat_natCast]; omega
  · simp only [decide_eq_false_iff_not] at hx
    unfold f_slices_stableCmpFunc_Row_s0_0_J1
    have hins := insertion_ok hc hO (A := Ds.flatten) (S := U) (E := []) hU (by omega)
    rw [hDl, List.append_nil] at hins
    rw [show (T0.length : Int) = ((ea + U.length : Nat) : Int) by omega]
    refine Ok.bind (hins.mono fun r hr' => ?_)
    obtain ⟨Z, rfl, pZ, sZ⟩ := hr'
    have hZl := pZ.length_eq
    refine Ok.guard (by simp only [List.length_map, List.length_append, List.length_nil]; omega) ?_
    rw [List.append_nil, show ((ea + U.length : Nat) : Int) = (T0.length : Int) by omega]
    refine outer hc hO hn ⟨hD, sZ, by omega, ?_, (List.Perm.append_left _ pZ).trans hperm⟩
    rw [List.pairwise_append] at hlow ⊢
    refine ⟨hlow.1, List.pairwise_singleton _ _, fun e he q hq => ?_⟩
    rw [List.mem_singleton] at hq; subst hq
    exact fun x hx y hy => hlow.2.2 e he U (by simp) x hx y (pZ.mem_iff.1 hy)
theorem SortStable_ok (hc : ∀ x y, ∃ n, cmp x y = some n ∧ (n < 0 ↔ lt x y = true)) (hO : SWO lt) {data : List GRow} (hn : data.length < 100000) :
    Ok (f_slices_SortStableFunc_Row_s0_0 data cmp) (fun r => Done lt data.zipIdx r ∧ r.length = data.length) := by
  have h := stable_ok (cmp := cmp) hc hO (T0 := data.zipIdx) (by simpa using hn) (by
    refine List.pairwise_iff_getElem.2 fun i j hi hj hij => ?_
    simp only [List.getElem_zipIdx]; omega)
  rw [show data.zipIdx.map Prod.fst = data by simp, List.length_zipIdx] at h
  unfold f_slices_SortStableFunc_Row_s0_0
  refine Ok.bind (h.mono fun r hr => ?_)
  have hl : r.length = data.length := by
    obtain ⟨T, rfl, hp, _⟩ := hr
    have := hp.length_eq
    rw [List.length_zipIdx] at this
    rw [List.length_map, this]
  exact Ok.guard hl (Ok.some ⟨hr, hl⟩)
end QY
end Go.Proofs.Ytfjjpdjnpmajlaa

