/-
  The law in plain words: what its plain function gives is true. No condition beyond those that each theorem names.
-/
import Derived.Test.YtfjjpdjnpmajlaaP15d
set_option linter.unusedSimpArgs false
set_option linter.unusedVariables false
namespace Go.Proofs.Ytfjjpdjnpmajlaa
open Go Go.RowKit Go.Sort
namespace QY
variable {lt : GRow → GRow → Bool} {cmp : GRow → GRow → Option Int}
theorem cast_len1 {x : GRow × Nat} (A : TS) : ((A.length + [x].length : Nat) : Int) = ((A.length + 1 : Nat) : Int) := by simp
/-- What stands when both halves are told: they are merged, each by itself. -/
theorem halves (hO : SWO lt) {N : Nat} {A X1 X2 Y1 Y2 B : TS} (hlen : A.length + X1.length + Y1.length + X2.length + Y2.length + B.length < 1000000)
    (ih : ∀ {A X Y B : TS}, X ≠ [] → Y ≠ [] → X.length + Y.length < N → A.length + X.length + Y.length + B.length < 1000000 → Srt lt X → Srt lt Y → (∀ x ∈ X, ∀ y ∈ Y, x.2 < y.2) →
      Ok (f_slices_symMergeCmpFunc_Row_s0_0_D N ((A ++ X ++ Y ++ B).map Prod.fst) (A.length : Int) ((A.length + X.length : Nat) : Int) ((A.length + X.length + Y.length : Nat) : Int) cmp) (SymPost lt A X Y B))
    (hN1 : X1.length + Y1.length < N) (hN2 : X2.length + Y2.length < N) {m b mid s e : Nat} (hm : m = A.length + (X1 ++ X2).length) (hb : b = A.length + (X1 ++ X2).length + (Y1 ++ Y2).length) (hmid : mid = A.length + X1.length + Y1.length) (hs : s = A.length + X1.length) (he : e = mid + m - s)
    (hhalf : (A.length + b) / 2 = mid) (hX : Srt lt (X1 ++ X2)) (hY : Srt lt (Y1 ++ Y2)) (ht : ∀ x ∈ X1 ++ X2, ∀ y ∈ Y1 ++ Y2, x.2 < y.2) (hL1 : ∀ x ∈ X1, ∀ y ∈ Y2, lt y.1 x.1 = false) (hL2 : ∀ y ∈ Y1, ∀ x ∈ X2, lt y.1 x.1 = true) :
    Ok (f_slices_symMergeCmpFunc_Row_s0_0_J5 (A.length : Int) (m : Int) (b : Int) cmp (f_slices_symMergeCmpFunc_Row_s0_0_D N) (s : Int) ((A ++ X1 ++ Y1 ++ X2 ++ Y2 ++ B).map Prod.fst)) (SymPost lt A (X1 ++ X2) (Y1 ++ Y2) B) := by
  have hX' := List.pairwise_append.1 hX
  have hY' := List.pairwise_append.1 hY
  rw [List.length_append] at hm
  simp only [List.length_append] at hb
  have he' : e = mid + X2.length := by omega
  have fin : ∀ Z1 Z2 : TS, Z1.Perm (X1 ++ Y1) → Srt lt Z1 → Z2.Perm (X2 ++ Y2) → Srt lt Z2 → SymPost lt A (X1 ++ X2) (Y1 ++ Y2) B ((A ++ Z1 ++ Z2 ++ B).map Prod.fst) := fun Z1 Z2 p1 s1 p2 s2 => by
    refine ⟨Z1 ++ Z2, by simp, ?_, List.pairwise_append.2 ⟨s1, s2, fun p hp q hq => ?_⟩⟩
    · refine (p1.append p2).trans ?_
      have : (X1 ++ Y1 ++ (X2 ++ Y2)).Perm (X1 ++ (X2 ++ Y1) ++ Y2) := by
        rw [show X1 ++ Y1 ++ (X2 ++ Y2) = X1 ++ (Y1 ++ X2) ++ Y2 by simp]
        exact ((List.perm_append_comm (l₁ := Y1) (l₂ := X2)).append_left X1).append_right Y2
      refine this.trans (List.Perm.of_eq ?_)
      simp
    · rcases List.mem_append.1 (p1.mem_iff.1 hp) with hp | hp <;> rcases List.mem_append.1 (p2.mem_iff.1 hq) with hq | hq
      · exact hX'.2.2 p hp q hq
      · rw [tl_low (ht p (by simp [hp]) q (by simp [hq]))]; exact hL1 p hp q hq
      · rw [tl_false]; exact ⟨swo_as hO (hL2 p hp q hq), .inl (hL2 p hp q hq)⟩
      · exact hY'.2.2 p hp q hq
  have hj6 : ∀ Z1 : TS, Z1.Perm (X1 ++ Y1) → Srt lt Z1 → Ok (f_slices_symMergeCmpFunc_Row_s0_0_J6 (A.length : Int) (m : Int) (b : Int) cmp (f_slices_symMergeCmpFunc_Row_s0_0_D N) (s : Int) ((A ++ Z1 ++ X2 ++ Y2 ++ B).map Prod.fst)) (SymPost lt A (X1 ++ X2) (Y1 ++ Y2) B) := fun Z1 p1 s1 => by
    have hz := p1.length_eq
    rw [List.length_append] at hz
    unfold f_slices_symMergeCmpFunc_Row_s0_0_J6
    rw [half A.length b (by omega), hhalf, wrap_i64 ((mid : Int) + (m : Int)) (by omega), wrap_i64 ((mid : Int) + (m : Int) - (s : Int)) (by omega), show (mid : Int) + (m : Int) - (s : Int) = (e : Int) by omega]
    refine Ok.iteB (fun hx => ?_) (fun hx => Ok.some ?_)
    · simp only [Bool.and_eq_true, decide_eq_true_eq] at hx
      have hx2 : X2 ≠ [] := by rintro rfl; simp at he'; omega
      have hy2 : Y2 ≠ [] := by rintro rfl; simp at hb; omega
      have := ih (A := A ++ Z1) (X := X2) (Y := Y2) (B := B) hx2 hy2 hN2 (by rw [List.length_append]; omega) hX'.2.1 hY'.2.1 (fun x hx y hy => ht x (by simp [hx]) y (by simp [hy]))
      rw [List.length_append, show A.length + Z1.length = mid by omega, show mid + X2.length = e by omega, show e + Y2.length = b by omega] at this
      refine Ok.bind (this.mono fun r hr => ?_)
      obtain ⟨Z2, rfl, p2, s2⟩ := hr
      have hz2 := p2.length_eq
      rw [List.length_append] at hz2
      refine Ok.guard (by simp only [List.length_map, List.length_append]; omega) (Ok.some (fin Z1 Z2 p1 s1 p2 s2))
    · simp only [Bool.and_eq_false_iff, decide_eq_false_iff_not] at hx
      have := fin Z1 (X2 ++ Y2) p1 s1 (List.Perm.refl _) (by
        rcases hx with hx | hx
        · have : X2 = [] := List.eq_nil_of_length_eq_zero (by omega)
          subst this; exact hY'.2.1
        · have : Y2 = [] := List.eq_nil_of_length_eq_zero (by omega)
          subst this; rw [List.append_nil]; exact hX'.2.1)
      rw [show A ++ Z1 ++ X2 ++ Y2 ++ B = A ++ Z1 ++ (X2 ++ Y2) ++ B by simp]
      exact this
  unfold f_slices_symMergeCmpFunc_Row_s0_0_J5
  rw [half A.length b (by omega), hhalf]
  refine Ok.iteB (fun hx => ?_) (fun hx => ?_)
  · simp only [Bool.and_eq_true, decide_eq_true_eq] at hx
    have hx1 : X1 ≠ [] := by rintro rfl; simp at hs; omega
    have hy1 : Y1 ≠ [] := by rintro rfl; simp at hmid; omega
    have := ih (A := A) (X := X1) (Y := Y1) (B := X2 ++ Y2 ++ B) hx1 hy1 hN1 (by simp only [List.length_append]; omega) hX'.1 hY'.1 (fun x hx y hy => ht x (by simp [hx]) y (by simp [hy]))
    rw [show A.length + X1.length = s by omega, show s + Y1.length = mid by omega, show A ++ X1 ++ Y1 ++ (X2 ++ Y2 ++ B) = A ++ X1 ++ Y1 ++ X2 ++ Y2 ++ B by simp] at this
    refine Ok.bind (this.mono fun r hr => ?_)
    obtain ⟨Z1, rfl, p1, s1⟩ := hr
    have hz1 := p1.length_eq
    rw [List.length_append] at hz1
    refine Ok.guard (by simp only [List.length_map, List.length_append]; omega) ?_
    rw [show A ++ Z1 ++ (X2 ++ Y2 ++ B) = A ++ Z1 ++ X2 ++ Y2 ++ B by simp]
    exact hj6 Z1 p1 s1
  · simp only [Bool.and_eq_false_iff, decide_eq_false_iff_not] at hx
    have := hj6 (X1 ++ Y1) (List.Perm.refl _) (by
      rcases hx with hx | hx
      · have : X1 = [] := List.eq_nil_of_length_eq_zero (by omega)
        subst this; exact hY'.1
      · have : Y1 = [] := List.eq_nil_of_length_eq_zero (by omega)
        subst this; rw [List.append_nil]; exact hX'.1)
    rw [show A ++ (X1 ++ Y1) ++ X2 ++ Y2 ++ B = A ++ X1 ++ Y1 ++ X2 ++ Y2 ++ B by simp] at this
    exact this
end QY
end Go.Proofs.Ytfjjpdjnpmajlaa

