/-
  The law in plain words: what its plain function gives is true. No condition beyond those that each theorem names.
-/
import Derived.Test.YtlpfoonihpdekaaGreatWalkWF1
import Derived.Test.YtlpfoonihpdekaaGreatP10h
set_option linter.unusedSimpArgs false
set_option linter.unusedVariables false
set_option linter.unusedSectionVars false
namespace Go.Proofs.YtlpfoonihpdekaaGreat
open Go Go.RowKit VA
namespace HP
open Classical
def pt (k : Nat) (xs : List Int) : List GBackwashref02_Part := xs.mapIdx fun i x => ⟨if i < k then (i : Int) else -1, x⟩
theorem q59 (k : Nat) (xs : List Int) : (pt k xs).length = xs.length := by unfold pt; simp
theorem z8s {k : Nat} {xs : List Int} {i : Nat} (hi : i < (pt k xs).length) : (pt k xs)[i] = ⟨if i < k then (i : Int) else -1, xs[i]'(by rw [q59] at hi; exact hi)⟩ := List.getElem_mapIdx
theorem z3i {k : Nat} {xs : List Int} {i : Nat} (hi : i < xs.length) : idx (pt k xs) (i : Int) = some ⟨if i < k then (i : Int) else -1, xs[i]⟩ := ja2 (ja0 (by rw [q59]; exact hi) (z8s _))
theorem zc8 {F : Int} {k : Nat} {xs : List Int} (h0 : 1 ≤ F) (h1 : F ≤ 4) (hkf : (k : Int) ≤ F) (hkl : k ≤ xs.length) (l0 : 1 ≤ xs.length) (l4 : xs.length ≤ 4) :
  q0m (mk F k xs) = some (if ∀ x ∈ xs, Sm x then (pt k xs, true) else ([], false)) := by
 refine ja2 ?_; unfold q0m; have hw : IntKind.i64.wrap ((k : Int) + ((xs.length - k : Nat) : Int)) = (xs.length : Int) := by rw [wrap_i64 _ (by omega)]; omega
 rw [ql3, z2t, z03, hw, if_neg (by simp only [Bool.or_eq_true, decide_eq_true_eq]; omega)]; refine q3k (l := List.range 4) (by simp) (fun i (a : List GBackwashref02_Part) => (i, a)) (fun p => p.1) (fun _ _ => rfl) (fun i a => a = (pt k xs).take (min i k) ∧ ∀ x ∈ xs.take (min i k), Sm x) 0 (fun rec i hi a _ hI hr => ?_) (fun rec a hI => ?_) (by simp) (Nat.zero_le _)
 ·
  obtain ⟨rfl, hs⟩ := hI; have hi4 : i < 4 := by simpa using hi
  unfold q6v; dsimp only; rw [if_pos (by simp only [decide_eq_true_eq]; omega), iw hi4 (by omega)]; refine Ok.guard (by omega) ?_; have hx : idx [(mk F k xs).Add.a0, (mk F k xs).Add.a1, (mk F k xs).Add.a2, (mk F k xs).Add.a3] (i : Int) = some ((xs.take k).getD i 0) := qe0 hi4; rw [hx]; refine Ok.bind (Ok.some ?_); rw [ql3]
  by_cases hk : i < k
  ·
   have hil : i < xs.length := by omega
   have hget : (xs.take k).getD i 0 = xs[i] := by rw [q1g (by rw [List.length_take]; omega), List.getElem_take]
   rw [hget]
   by_cases hsm : Sm xs[i]
   ·
    rw [if_neg (by unfold Sm at hsm; simp only [Bool.or_eq_true, Bool.and_eq_true, decide_eq_true_eq]; omega), if_pos (by simp only [decide_eq_true_eq]; omega)]; have hmin : min i k = i := by omega
    have hmin' : min (i + 1) k = i + 1 := by omega
    rw [hmin] at hs ⊢; refine Ok.guard (by rw [List.length_take, q59]; simp; omega) (hr _ ⟨?_, ?_⟩)
    · rw [hmin', snoc (by rw [q59]; exact hil), z8s, if_pos hk]
    ·
     rw [hmin', snoc hil]; intro x hx; rw [List.mem_append, List.mem_singleton] at hx; rcases hx with hx | rfl
     · exact hs x hx
     · exact hsm
   · rw [if_pos (by unfold Sm at hsm; simp only [Bool.or_eq_true, decide_eq_true_eq]; left; omega)]; refine Ok.some ?_; rw [if_neg (fun h => hsm (h _ (List.getElem_mem hil)))]
  ·
   have hget : (xs.take k).getD i 0 = 0 := getD_none (by rw [List.length_take]; omega); rw [hget, if_neg (by simp), if_neg (by simp only [decide_eq_true_eq]; omega)]; have hmin : min i k = k := by omega
   have hmin' : min (i + 1) k = k := by omega
   rw [hmin] at hs ⊢; exact hr _ (by rw [hmin']; exact ⟨rfl, hs⟩)
 ·
  obtain ⟨rfl, hs⟩ := hI; have hm4 : min (List.range 4).length k = k := by simp; omega
  rw [hm4] at hs ⊢; unfold q6v; dsimp only; rw [if_neg (by simp)]; unfold q6u; refine q3k (l := List.range 4) (by simp) (fun i (a : List GBackwashref02_Part) => (i, a)) (fun p => p.1) (fun _ _ => rfl) (fun i a => a = (pt k xs).take (k + min i (xs.length - k)) ∧ ∀ x ∈ xs.take (k + min i (xs.length - k)), Sm x) 0 (fun rec' i hi a _ hI' hr => ?_) (fun rec' a hI' => ?_) (by simpa using hs) (Nat.zero_le _)
  ·
   obtain ⟨rfl, hs'⟩ := hI'; have hi4 : i < 4 := by simpa using hi
   unfold q6w; dsimp only; rw [if_pos (by simp only [decide_eq_true_eq]; omega), iw hi4 (by omega)]; refine Ok.guard (by omega) ?_; have hx : idx [(mk F k xs).T.a0, (mk F k xs).T.a1, (mk F k xs).T.a2, (mk F k xs).T.a3] (i : Int) = some ((xs.drop k).getD i 0) := qe0 hi4; rw [hx]; refine Ok.bind (Ok.some ?_); rw [z2t]
   by_cases hk : i < xs.length - k
   ·
    have hil : k + i < xs.length := by omega
    have hget : (xs.drop k).getD i 0 = xs[k + i] := by rw [q1g (by rw [List.length_drop]; omega), List.getElem_drop]
    rw [hget]
    by_cases hsm : Sm xs[k + i]
    ·
     rw [if_neg (by unfold Sm at hsm; simp only [Bool.or_eq_true, Bool.and_eq_true, decide_eq_true_eq]; omega), if_pos (by simp only [decide_eq_true_eq]; omega)]; have hmin : min i (xs.length - k) = i := by omega
     have hmin' : min (i + 1) (xs.length - k) = i + 1 := by omega
     rw [hmin] at hs' ⊢; refine Ok.guard (by rw [List.length_take, q59]; simp; omega) (hr _ ⟨?_, ?_⟩)
     · rw [hmin', ← Nat.add_assoc, snoc (by rw [q59]; exact hil), z8s, if_neg (by omega)]
     ·
      rw [hmin', ← Nat.add_assoc, snoc hil]; intro x hx; rw [List.mem_append, List.mem_singleton] at hx; rcases hx with hx | rfl
      · exact hs' x hx
      · exact hsm
    · rw [if_pos (by unfold Sm at hsm; simp only [Bool.or_eq_true, decide_eq_true_eq]; left; omega)]; refine Ok.some ?_; rw [if_neg (fun h => hsm (h _ (List.getElem_mem hil)))]
   ·
    have hget : (xs.drop k).getD i 0 = 0 := getD_none (by rw [List.length_drop]; omega); rw [hget, if_neg (by simp), if_neg (by simp only [decide_eq_true_eq]; omega)]; have hmin : min i (xs.length - k) = xs.length - k := by omega
    have hmin' : min (i + 1) (xs.length - k) = xs.length - k := by omega
    rw [hmin] at hs' ⊢; exact hr _ (by rw [hmin']; exact ⟨rfl, hs'⟩)
  ·
   obtain ⟨rfl, hs'⟩ := hI'; have hm5 : k + min (List.range 4).length (xs.length - k) = xs.length := by simp; omega
   rw [hm5] at hs' ⊢; unfold q6w; dsimp only; rw [if_neg (by simp)]; rw [List.take_of_length_le (Nat.le_refl _)] at hs'; rw [List.take_of_length_le (by rw [q59]; exact Nat.le_refl _)]; exact Ok.some (by rw [if_pos hs'])
theorem qs7 {F : Int} {k : Nat} {xs : List Int} (h : Rh F k xs) : q0m (mk F k xs) = some (pt k xs, true) := by
 rw [zc8 h.f0 h.f1 h.kf h.kl h.l0 h.l1, if_pos h.sm]
theorem z8q {F : Int} {k k' : Nat} {xs ys : List Int} (h : Rh F k xs) (h' : Rh F k' ys) (hl : xs.length = ys.length) : q3d (mk F k xs) (mk F k' ys) = some (decide (le k xs k' ys)) := by
 have := h.kl; have := h.l1; have := h'.kl; refine ja2 ?_; unfold q3d; rw [qs7 h, qs7 h']; refine Ok.bind (Ok.some (Ok.bind (Ok.some ?_))); dsimp only; rw [if_neg (by simp [z03, q59, hl])]; refine ja5 (l := pt k xs) (by rw [q59]; omega) (fun i => (∀ j < i, j < k → j < k') ∧ ∀ j (h1 : j < xs.length) (h2 : j < ys.length), j < i → xs[j] ≤ ys[j]) 0 (fun rec i hi _ hI hr => ?_) (fun rec hI => ?_) ⟨fun _ h => absurd h (by omega), fun _ _ _ h => absurd h (by omega)⟩ (Nat.zero_le _)
 ·
  obtain ⟨I1, I2⟩ := hI; rw [q59] at hi; unfold q88; dsimp only; rw [if_pos (by rw [q59]; simp only [decide_eq_true_eq]; omega), iw hi (by omega), z3i hi, z3i (show i < ys.length by omega)]; refine Ok.bind (Ok.some ?_); have hfalse : ¬ le k xs k' ys → Ok (Option.some false) (fun r => r = decide (le k xs k' ys)) := fun hn => Ok.some (by simp [hn]); have hstep : (i < k → i < k') → xs[i] ≤ ys[i] → Ok (rec ((i + 1 : Nat) : Int)) (fun r => r = decide (le k xs k' ys)) := fun a b => by
   refine hr ⟨fun j hj hjk => ?_, fun j h1 h2 hj => ?_⟩
   ·
    by_cases hji : j = i
    · subst hji; exact a hjk
    · exact I1 j (by omega) hjk
   ·
    by_cases hji : j = i
    · subst hji; exact b
    · exact I2 j h1 h2 (by omega)
  by_cases hk : i < k
  ·
   rw [if_pos hk, if_pos (by simp)]; refine Ok.bind (Ok.some ?_)
   by_cases hk' : i < k'
   ·
    rw [if_pos hk', if_neg (by simp)]; refine j9z (fun hb => ?_) (fun hb => ?_)
    · simp only [decide_eq_true_eq] at hb; exact hfalse fun hle => absurd (hle.2 i hi (by omega)) (by omega)
    · simp only [decide_eq_false_iff_not] at hb; exact hstep (fun _ => hk') (by omega)
   · rw [if_neg hk', if_pos (by simp)]; exact hfalse fun hle => absurd hle.1 (by omega)
  ·
   rw [if_neg hk, if_neg (by simp)]; refine Ok.bind (Ok.some ?_); refine j9z (fun hb => ?_) (fun hb => ?_)
   · simp only [decide_eq_true_eq] at hb; exact hfalse fun hle => absurd (hle.2 i hi (by omega)) (by omega)
   · simp only [decide_eq_false_iff_not] at hb; exact hstep (fun h => absurd h hk) (by omega)
 ·
  obtain ⟨I1, I2⟩ := hI; rw [q59] at I1 I2; unfold q88; dsimp only; rw [if_neg (by simp)]; refine Ok.some ?_; have : le k xs k' ys := ⟨by
   by_cases hk : k ≤ k'
   · exact hk
   · have := I1 k' (by omega) (by omega); omega, fun i h1 h2 => I2 i h1 h2 h1⟩
  simp [this]
end HP
end Go.Proofs.YtlpfoonihpdekaaGreat
