/-
  The law in plain words: what its plain function gives is true. No condition beyond those that each theorem names.
-/
import Derived.Test.YtfjjpdjnpmajlaaP15b
import Derived.Test.YtfjjpdjnpmajlaaWalkQF0
set_option linter.unusedSimpArgs false
set_option linter.unusedVariables false
namespace Go.Proofs.Ytfjjpdjnpmajlaa
open Go Go.RowKit Go.Sort
namespace QY
theorem half (i j : Nat) (h : i + j < 4611686018427387904) : IntKind.i64.wrap (shrI .u64 (IntKind.u64.wrap (IntKind.i64.wrap ((i : Int) + (j : Int)))) 1) = (((i + j) / 2 : Nat) : Int) := by
  rw [wrap_i64 ((i : Int) + (j : Int)) (by omega)]
  have h1 : IntKind.u64.wrap ((i : Int) + (j : Int)) = ((i + j : Nat) : Int) := by simp [IntKind.wrap, IntKind.bits, IntKind.signed]; omega
  rw [h1]
  have h2 : shrI .u64 ((i + j : Nat) : Int) 1 = (((i + j) / 2 : Nat) : Int) := by
    show Int.fdiv _ 2 = _
    rw [Int.fdiv_eq_ediv_of_nonneg _ (by omega)]
    omega
  rw [h2, wrap_i64 _ (by omega)]
theorem bsearch {Q : List GRow → Prop} {body : (Int × Int → Option (List GRow)) → Int × Int → Option (List GRow)} (lo hi : Nat) (hlh : lo ≤ hi) (hhi : hi < 1000000) (p : Nat → Bool) (hmono : ∀ i j, lo ≤ i → i ≤ j → j < hi → p j = true → p i = true)
    (hstep : ∀ (rec : Int × Int → Option (List GRow)) (i j : Nat), lo ≤ i → i < j → j ≤ hi → Ok (if p ((i + j) / 2) = true then rec ((((i + j) / 2 + 1 : Nat) : Int), (j : Int)) else rec ((i : Int), (((i + j) / 2 : Nat) : Int))) Q → Ok (body rec ((i : Int), (j : Int))) Q)
    (hend : ∀ (rec : Int × Int → Option (List GRow)) (s : Nat), lo ≤ s → s ≤ hi → (∀ q, lo ≤ q → q < s → p q = true) → (∀ q, s ≤ q → q < hi → p q = false) → Ok (body rec ((s : Int), (s : Int))) Q) :
    Ok (loopK body rounds ((lo : Int), (hi : Int))) Q := by
  refine Ok.loop0 (fun t => ∃ i j : Nat, t = ((i : Int), (j : Int)) ∧ lo ≤ i ∧ i ≤ j ∧ j ≤ hi ∧ (∀ q, lo ≤ q → q < i → p q = true) ∧ (∀ q, j ≤ q → q < hi → p q = false)) (fun t => (t.2 - t.1).toNat) ?_ ⟨lo, hi, rfl, Nat.le_refl _, hlh, Nat.le_refl _, fun q h1 h2 => by omega, fun q h1 h2 => by omega⟩ (by simp only [rounds]; omega)
  rintro rec _ ⟨i, j, rfl, h1, h2, h3, h4, h5⟩ hr
  rcases Nat.lt_or_ge i j with hij | hij
  · refine hstep rec i j h1 hij h3 ?_
    refine Ok.ite (fun hp => hr _ ⟨(i + j) / 2 + 1, j, rfl, by omega, by omega, h3, fun q hq1 hq2 => ?_, h5⟩ (by simp only; omega)) (fun hp => hr _ ⟨i, (i + j) / 2, rfl, h1, by omega, by omega, h4, fun q hq1 hq2 => ?_⟩ (by simp only; omega))
    · exact hmono q _ hq1 (by omega) (by omega) hp
    · cases hh : p q
      · rfl
      · exact absurd (hmono ((i + j) / 2) q (by omega) hq1 hq2 hh) hp
  · obtain rfl : i = j := by omega
    exact hend rec i h1 h3 h4 h5
theorem get_seg (A Y B : TS) (k : Nat) (hk : k < Y.length) (h : A.length + k < ((A ++ Y ++ B).map Prod.fst).length) : ((A ++ Y ++ B).map Prod.fst)[A.length + k]'h = Y[k].1 := by
  rw [List.getElem_map, List.getElem_append_left (by simp; omega), List.getElem_append_right (by omega)]
  simp
theorem moveR {A Y1 B : List GRow} {x : GRow} (hlen : A.length + Y1.length < 1000000) : Ok (loopK (f_slices_symMergeCmpFunc_Row_s0_0_B12 ((A.length + 1 + Y1.length : Nat) : Int)) rounds ((A.length : Int), A ++ x :: (Y1 ++ B))) (fun r => r = A ++ Y1 ++ x :: B) := by
  refine Ok.loop0 (fun s => ∃ d : Nat, d ≤ Y1.length ∧ s.1 = ((A.length + d : Nat) : Int) ∧ s.2 = (A ++ Y1.take d) ++ x :: (Y1.drop d ++ B)) (fun s => (A.length + Y1.length) - s.1.toNat) ?_ ⟨0, Nat.zero_le _, rfl, by simp⟩ (by simp only [rounds]; omega)
  rintro rec ⟨t, q⟩ ⟨d, hd, ht, hq⟩ hr
  simp only at ht hq
  subst ht hq
  unfold f_slices_symMergeCmpFunc_Row_s0_0_B12
  simp only
  rw [wrap_i64 (((A.length + 1 + Y1.length : Nat) : Int) - 1) (by omega)]
  refine Ok.iteB (fun hx => ?_) (fun hx => Ok.some ?_)
  · simp only [decide_eq_true_eq] at hx
    have hlt : d < Y1.length := by omega
    have hP : (A ++ Y1.take d).length = A.length + d := by simp only [List.length_append, List.length_take]; omega
    have hdat : (A ++ Y1.take d) ++ x :: (Y1.drop d ++ B) = (A ++ Y1.take d) ++ x :: (Y1[d] :: (Y1.drop (d + 1) ++ B)) := by rw [List.drop_eq_getElem_cons hlt, List.cons_append]
    rw [hdat]
    generalize hPe : A ++ Y1.take d = P at *
    have e1 : IntKind.i64.wrap (((A.length + d : Nat) : Int) + 1) = (((P ++ [x]).length : Nat) : Int) := by
      rw [wrap_i64 _ (by omega)]; simp only [List.length_append, List.length_singleton]; omega
    rw [e1, show ((A.length + d : Nat) : Int) = ((P.length : Nat) : Int) by omega]
    have hdat2 : ∀ y, P ++ x :: (y :: (Y1.drop (d + 1) ++ B)) = (P ++ [x]) ++ y :: (Y1.drop (d + 1) ++ B) := fun y => by simp only [List.append_assoc, List.singleton_append]
    have g1 : ∀ h : (P ++ [x]).length < (P ++ x :: (Y1[d] :: (Y1.drop (d + 1) ++ B))).length, (P ++ x :: (Y1[d] :: (Y1.drop (d + 1) ++ B)))[(P ++ [x]).length]'h = Y1[d] := fun h => by
      have := get_mid (P ++ [x]) (Y1.drop (d + 1) ++ B) Y1[d] (by rw [← hdat2]; exact h)
      simp only [← hdat2] at this
      exact this
    refine Ok.bind (Ok.idxN (by simp) ?_)
    refine Ok.bind (Ok.idxN (by simp) ?_)
    rw [g1, get_mid]
    refine Ok.bind (Ok.idxN (by simp) ?_)
    refine hr _ ⟨d + 1, by omega, ?_, ?_⟩ ?_
    · simp only [List.length_append, List.length_singleton]; omega
    · simp only [Int.toNat_natCast]
      rw [set_mid, show P ++ Y1[d] :: (Y1[d] :: (Y1.drop (d + 1) ++ B)) = (P ++ [Y1[d]]) ++ Y1[d] :: (Y1.drop (d + 1) ++ B) by simp only [List.append_assoc, List.singleton_append], show (P ++ [x]).length = (P ++ [Y1[d]]).length by simp, set_mid, List.take_succ_eq_append_getElem hlt, ← List.append_assoc, hPe]
    · simp only [List.length_append, List.length_singleton]; omega
  · simp only [decide_eq_false_iff_not] at hx
    have : d = Y1.length := by omega
    subst this
    simp
theorem moveL {A X2 B : List GRow} {y : GRow} (hlen : A.length + X2.length < 1000000) : Ok (loopK (f_slices_symMergeCmpFunc_Row_s0_0_B9 (A.length : Int)) rounds (((A.length + X2.length : Nat) : Int), A ++ X2 ++ y :: B)) (fun r => r = A ++ y :: (X2 ++ B)) := by
  refine Ok.loop0 (fun s => ∃ d : Nat, d ≤ X2.length ∧ s.1 = ((A.length + d : Nat) : Int) ∧ s.2 = (A ++ X2.take d) ++ y :: (X2.drop d ++ B)) (fun s => s.1.toNat) ?_ ⟨X2.length, Nat.le_refl _, rfl, by simp⟩ (by simp only [rounds]; omega)
  rintro rec ⟨t, q⟩ ⟨d, hd, ht, hq⟩ hr
  simp only at ht hq
  subst ht hq
  unfold f_slices_symMergeCmpFunc_Row_s0_0_B9
  simp only
  refine Ok.iteB (fun hx => ?_) (fun hx => Ok.some ?_)
  · simp only [decide_eq_true_eq] at hx
    obtain ⟨e, rfl⟩ : ∃ e, d = e + 1 := ⟨d - 1, by omega⟩
    have hlt : e < X2.length := by omega
    have hP : (A ++ X2.take e).length = A.length + e := by simp only [List.length_append, List.length_take]; omega
    rw [List.take_succ_eq_append_getElem hlt, ← List.append_assoc]
    generalize hPe : A ++ X2.take e = P at *
    generalize hSe : X2.drop (e + 1) ++ B = S at *
    have e1 : IntKind.i64.wrap (((A.length + (e + 1) : Nat) : Int) - 1) = ((P.length : Nat) : Int) := by
      rw [wrap_i64 _ (by omega)]; omega
    rw [e1, show ((A.length + (e + 1) : Nat) : Int) = (((P ++ [X2[e]]).length : Nat) : Int) by simp only [List.length_append, List.length_singleton]; omega]
    have hdat2 : ∀ z w, P ++ [z] ++ w :: S = P ++ z :: (w :: S) := fun z w => by simp only [List.append_assoc, List.singleton_append]
    have g1 : ∀ h : P.length < (P ++ [X2[e]] ++ y :: S).length, (P ++ [X2[e]] ++ y :: S)[P.length]'h = X2[e] := fun h => by
      have := get_mid P (y :: S) X2[e] (by rw [← hdat2]; exact h)
      simp only [← hdat2] at this
      exact this
    refine Ok.bind (Ok.idxN (by simp) ?_)
    refine Ok.bind (Ok.idxN (by simp) ?_)
    rw [g1, get_mid]
    refine Ok.bind (Ok.idxN (by simp) ?_)
    refine hr _ ⟨e, by omega, ?_, ?_⟩ ?_
    · simp only; omega
    · simp only [Int.toNat_natCast]
      rw [set_mid, hdat2, set_mid, List.drop_eq_getElem_cons hlt, List.cons_append, hSe, hPe]
    · simp only [List.length_append, List.length_singleton]; omega
  · simp only [decide_eq_false_iff_not] at hx
    have : d = 0 := by omega
    subst this
    simp
end QY
end Go.Proofs.Ytfjjpdjnpmajlaa

