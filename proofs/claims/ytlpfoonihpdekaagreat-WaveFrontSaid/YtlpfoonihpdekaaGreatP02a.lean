/-
  The law in plain words: what its plain function gives is true. No condition beyond those that each theorem names.
-/
import Derived.Test.YtlpfoonihpdekaaGreatWalkWF0
import Derived.Test.YtlpfoonihpdekaaGreatP01a
import Derived.Test.YtlpfoonihpdekaaGreatP09b
set_option linter.unusedSimpArgs false
set_option linter.unusedVariables false
set_option linter.unusedSectionVars false
namespace Go.Proofs.YtlpfoonihpdekaaGreat
open Go Go.RowKit VA
namespace HP
def pad (l : List Int) : Arr4 Int := ⟨l.getD 0 0, l.getD 1 0, l.getD 2 0, l.getD 3 0⟩
def mk (F : Int) (k : Nat) (xs : List Int) : GHop := ⟨F, k, ((xs.length - k : Nat) : Int), pad (xs.take k), pad (xs.drop k)⟩
theorem z03 (F : Int) (k : Nat) (xs : List Int) : (mk F k xs).From = F := rfl
theorem ql3 (F : Int) (k : Nat) (xs : List Int) : (mk F k xs).Keep = (k : Int) := rfl
theorem z2t (F : Int) (k : Nat) (xs : List Int) : (mk F k xs).Tail = ((xs.length - k : Nat) : Int) := rfl
def Sm (x : Int) : Prop := 0 ≤ x ∧ x ≤ 1048576
instance (x : Int) : Decidable (Sm x) := inferInstanceAs (Decidable (_ ∧ _))
structure Rh (F : Int) (k : Nat) (xs : List Int) : Prop where
 f0 : 1 ≤ F
 f1 : F ≤ 4
 kf : (k : Int) ≤ F
 kl : k ≤ xs.length
 l0 : 1 ≤ xs.length
 l1 : xs.length ≤ 4
 sm : ∀ x ∈ xs, Sm x
theorem qe0 {l : List Int} {i : Nat} (hi : i < 4) : idx [(pad l).a0, (pad l).a1, (pad l).a2, (pad l).a3] (i : Int) = some (l.getD i 0) := by
 rcases (by omega : i = 0 ∨ i = 1 ∨ i = 2 ∨ i = 3) with rfl | rfl | rfl | rfl <;> rfl
theorem z3j {l : List Int} {x : Int} (hl : l.length < 4) : (⟨if l.length = 0 then x else (pad l).a0, if l.length = 1 then x else (pad l).a1, if l.length = 2 then x else (pad l).a2, if l.length = 3 then x else (pad l).a3⟩ : Arr4 Int) = pad (l ++ [x]) := by
 match l, hl with
 | [], _ => rfl
 | [_], _ => rfl
 | [_, _], _ => rfl
 | [_, _, _], _ => rfl
theorem qx1 {l : List Int} (h : ∀ x ∈ l, Sm x) (i : Nat) : Sm (l.getD i 0) := by
 rw [List.getD_eq_getElem?_getD]
 by_cases hi : i < l.length
 · rw [List.getElem?_eq_getElem hi]; exact h _ (List.getElem_mem hi)
 · rw [List.getElem?_eq_none (by omega)]; exact ⟨by decide, by decide⟩
theorem q1g {l : List Int} {i : Nat} (hi : i < l.length) : l.getD i 0 = l[i] := by rw [List.getD_eq_getElem?_getD, List.getElem?_eq_getElem hi]; rfl
theorem zb3 {l : List Int} (hl : l.length ≤ 4) : q80 (pad l) (l.length : Int) = some (decide (∀ x ∈ l, Sm x)) := by
 unfold q80; refine ja2 (ja5 (l := [(0 : Int), 0, 0, 0]) (by decide) (fun i => ∀ j < i, Sm (l.getD j 0)) 0 (fun rec i hi _ hI hr => ?_) (fun rec hI => ?_) (fun j hj => by omega) (Nat.zero_le _))
 ·
  have hi : i < 4 := hi; unfold qk2; rw [if_pos (by simp; omega)]; refine Ok.bind (ja3 (qe0 hi) ?_); refine j9z (fun h => Ok.some ?_) (fun h => ?_)
  ·
   symm; rw [decide_eq_false_iff_not]
   intro hs; have h1 := qx1 hs i; unfold Sm at h1; have h2 : (l.length : Int) ≤ i → l.getD i 0 = 0 := fun h => by rw [List.getD_eq_getElem?_getD, List.getElem?_eq_none (by omega)]; rfl
   simp only [Bool.or_eq_true, Bool.and_eq_true, decide_eq_true_eq, Bool.not_eq_true', beq_eq_false_iff_ne, ne_eq] at h; rcases h with (h | h) | ⟨h, h3⟩
   · omega
   · omega
   · exact h3 (h2 h)
  ·
   simp only [Bool.or_eq_false_iff, decide_eq_false_iff_not] at h; have hw : IntKind.i64.wrap ((i : Int) + 1) = ((i + 1 : Nat) : Int) := iw hi (by omega); rw [hw]; refine hr fun j hj => ?_; rcases Nat.lt_or_ge j i with h1 | h1
   · exact hI j h1
   ·
    obtain rfl : j = i := by omega
    unfold Sm; omega
 ·
  unfold qk2; rw [if_neg (by simp)]; refine Ok.some ?_
  symm; rw [decide_eq_true_eq]
  intro x hx; obtain ⟨j, hj, rfl⟩ := List.mem_iff_getElem.1 hx; have := hI j (by simp; omega)
  rwa [q1g hj] at this
theorem z1a {F : Int} {k : Nat} {xs : List Int} (hk : k ≤ xs.length) (hl : xs.length ≤ 4) : q5c (mk F k xs) = some (xs.length : Int) := by
 unfold q5c mk; dsimp only; rw [wrap_i64 _ (by omega)]
 congr 1; omega
open Classical in
theorem Right_eq {F : Int} {k : Nat} {xs : List Int} (hk : k ≤ xs.length) (hl : xs.length ≤ 4) : q38 (mk F k xs) = some (decide (Rh F k xs)) := by
 unfold q38; refine ja2 ?_
 show Ok (if (((((decide (F < 1) || decide (4 < F)) || decide ((k : Int) < 0)) || decide (F < (k : Int))) || decide (((xs.length - k : Nat) : Int) < 0)) || decide (4 < ((xs.length - k : Nat) : Int))) = true then some false else _) _
 refine j9z (fun h => Ok.some ?_) (fun h => ?_)
 ·
  symm; rw [decide_eq_false_iff_not]
  rintro ⟨a, b, c, d, e, f, _⟩; simp only [z03, ql3, z2t, Bool.or_eq_true, decide_eq_true_eq] at h; omega
 ·
  simp only [z03, ql3, z2t, Bool.or_eq_false_iff, decide_eq_false_iff_not] at h; rw [z1a hk hl]; refine Ok.bind (Ok.some (j9z (fun h1 => Ok.bind (Ok.some (j9z (fun h2 => ?_) (fun h2 => ?_)))) (fun h1 => Ok.some ?_)))
  ·
   have e1 : q80 (mk F k xs).Add (mk F k xs).Keep = some (decide (∀ x ∈ xs.take k, Sm x)) := by
    have := zb3 (l := xs.take k) (by rw [List.length_take]; omega); rw [List.length_take, Nat.min_eq_left hk] at this; exact this
   have e2 : q80 (mk F k xs).T (mk F k xs).Tail = some (decide (∀ x ∈ xs.drop k, Sm x)) := by
    have := zb3 (l := xs.drop k) (by rw [List.length_drop]; omega); rw [List.length_drop] at this; exact this
   rw [e1, e2]; simp only [decide_eq_true_eq] at h1 h2; have hall : (∀ x ∈ xs, Sm x) ↔ (∀ x ∈ xs.take k, Sm x) ∧ ∀ x ∈ xs.drop k, Sm x := by
    constructor
    · intro h; exact ⟨fun x hx => h x (List.mem_of_mem_take hx), fun x hx => h x (List.mem_of_mem_drop hx)⟩
    ·
     rintro ⟨ha, hb⟩ x hx; rw [← List.take_append_drop k xs] at hx; rcases List.mem_append.1 hx with hx | hx
     · exact ha x hx
     · exact hb x hx
   refine Ok.bind (Ok.some (j9z (fun h3 => Ok.bind (Ok.some (Ok.some ?_))) (fun h3 => Ok.some ?_)))
   ·
    rw [decide_eq_decide]; simp only [decide_eq_true_eq] at h3
    constructor
    · intro h4; exact ⟨by omega, by omega, by omega, hk, by omega, hl, hall.2 ⟨h3, h4⟩⟩
    · intro h4; exact (hall.1 h4.sm).2
   ·
    symm; rw [decide_eq_false_iff_not]
    simp only [decide_eq_false_iff_not] at h3; exact fun h4 => h3 (hall.1 h4.sm).1
  · simp only [decide_eq_false_iff_not] at h2; omega
  ·
   symm; rw [decide_eq_false_iff_not]
   simp only [decide_eq_false_iff_not] at h1; intro h4; have := h4.l0; omega
theorem qb6 {F : Int} {k : Nat} {xs : List Int} (h : Rh F k xs) : q38 (mk F k xs) = some true := by
 rw [Right_eq h.kl h.l1]; simp [h]
theorem at_eq {F : Int} {k : Nat} {xs : List Int} (h : Rh F k xs) {i : Nat} (hi : i < xs.length) : qx5 (mk F k xs) (i : Int) = some (xs[i], decide (i < k)) := by
 have hl := h.l1; have hk := h.kl; unfold qx5; refine ja2 ?_
 show Ok (if decide ((i : Int) < (k : Int)) = true then _ else _) _
 refine j9z (fun hc => ?_) (fun hc => ?_)
 · simp only [ql3, decide_eq_true_eq] at hc; refine Ok.guard (by omega) (Ok.bind (ja3 (qe0 (l := xs.take k) (i := i) (by omega)) (Ok.some ?_))); rw [q1g (by rw [List.length_take]; omega), List.getElem_take]; rw [decide_eq_true (show i < k by omega)]
 ·
  simp only [ql3, decide_eq_false_iff_not] at hc; have hw : IntKind.i64.wrap ((i : Int) - (mk F k xs).Keep) = ((i - k : Nat) : Int) := by
   show IntKind.i64.wrap ((i : Int) - k) = _
   rw [wrap_i64 _ (by omega)]; omega
  rw [hw]; refine Ok.guard (by omega) (Ok.bind (ja3 (qe0 (l := xs.drop k) (i := i - k) (by omega)) (Ok.some ?_))); rw [q1g (by rw [List.length_drop]; omega), List.getElem_drop]; rw [decide_eq_false (show ¬ i < k by omega)]; simp only [Nat.add_sub_cancel' (show k ≤ i by omega)]
def le (k : Nat) (xs : List Int) (k' : Nat) (ys : List Int) : Prop := k ≤ k' ∧ ∀ i (h : i < xs.length) (h' : i < ys.length), xs[i] ≤ ys[i]
open Classical in
theorem j3z {F : Int} {k k' : Nat} {xs ys : List Int} (h : Rh F k xs) (h' : Rh F k' ys) (hl : xs.length = ys.length) : qx6 (mk F k xs) (mk F k' ys) = some (decide (le k xs k' ys)) := by
 have hl4 := h.l1; unfold qx6; rw [qb6 h, qb6 h']; refine ja2 (Ok.bind (Ok.some ?_)); rw [if_pos rfl]; refine Ok.bind (Ok.some ?_); rw [if_neg (by simp [mk]), z1a h.kl h.l1, z1a h'.kl h'.l1]; refine Ok.bind (Ok.some (Ok.bind (Ok.some ?_))); rw [if_neg (by simp [hl])]; refine Ok.bind (Ok.some ?_); refine ja5 (l := xs) (by omega) (fun i => ∀ j (h : j < xs.length) (h' : j < ys.length), j < i → (j < k → j < k') ∧ xs[j] ≤ ys[j]) 0 (fun rec i hi _ hI hr => ?_) (fun rec hI => ?_) (fun j _ _ hj => by omega) (Nat.zero_le _)
 ·
  unfold qy7; rw [if_pos (by simp; omega)]; have hi' : i < ys.length := by omega
  rw [at_eq h hi, at_eq h' hi', iw hi (by omega)]; refine Ok.bind (Ok.some (Ok.bind (Ok.some (j9z (fun hc => Ok.some ?_) (fun hc => hr fun j h1 h2 hj => ?_)))))
  ·
   symm; rw [decide_eq_false_iff_not]
   rintro ⟨a, b⟩; have := b i hi hi'; simp only [Bool.or_eq_true, Bool.and_eq_true, decide_eq_true_eq, Bool.not_eq_true', decide_eq_false_iff_not] at hc; omega
  ·
   rcases Nat.lt_or_ge j i with h3 | h3
   · exact hI j h1 h2 h3
   ·
    obtain rfl : j = i := by omega
    simp only [Bool.or_eq_false_iff, Bool.and_eq_false_iff, decide_eq_false_iff_not, Bool.not_eq_false', decide_eq_true_eq] at hc; exact ⟨fun h4 => by omega, by omega⟩
 ·
  unfold qy7; rw [if_neg (by simp)]; refine Ok.some ?_
  symm; rw [decide_eq_true_eq]
  refine ⟨?_, fun i h1 h2 => (hI i h1 h2 h1).2⟩
  by_cases hk : k ≤ k'
  · exact hk
  · have hk1 := h.kl; have hk2 := h'.kl; have := (hI k' (by omega) (by omega) (by omega)).1 (by omega); omega
theorem le_refl (k : Nat) (xs : List Int) : le k xs k xs := ⟨Nat.le_refl _, fun _ _ _ => Int.le_refl _⟩
theorem le_trans {k1 k2 k3 : Nat} {x1 x2 x3 : List Int} (hl : x1.length = x2.length) (a : le k1 x1 k2 x2) (b : le k2 x2 k3 x3) : le k1 x1 k3 x3 := ⟨Nat.le_trans a.1 b.1, fun i h h' => Int.le_trans (a.2 i h (by omega)) (b.2 i (by omega) h')⟩
end HP
end Go.Proofs.YtlpfoonihpdekaaGreat
