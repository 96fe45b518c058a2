/-
  The law in plain words: what its plain function gives is true. No condition beyond those that each theorem names.
-/
import Derived.Test.YtkjinognbjmccaaDoorWalkSB0
import Derived.Test.YtkjinognbjmccaaDoorP21c
set_option linter.unusedSimpArgs false
set_option linter.unusedVariables false
set_option linter.unusedSectionVars false
namespace Go.Proofs.YtkjinognbjmccaaDoor
open Go Go.RowKit Go.Lib
set_option maxRecDepth 100000
/-! Acts shown. -/
def R31 (n : Int) : Prop := 0 ≤ n ∧ n ≤ 2147483647
structure AIn (a : GAct) : Prop where
 A : In a.A
 B : In a.B
 C : In a.C
 D : In a.D
 K : In a.Rec.K
 V : In a.Rec.V
/-- The word of a kind. -/
def wordK (k : Int) : List UInt8 :=
 if k = 1 then [102, 101, 101, 100] else if k = 2 then [99, 108, 111, 115, 101] else if k = 3 then [102, 105, 110, 105, 115, 104] else if k = 4 then [109, 97, 107, 101] else if k = 5 then [109, 111, 118, 101] else [116, 111, 107, 101, 110]
/-- May the act be shown? -/
def AOK (a : GAct) : Prop :=
 (a.Kind = 1 ∧ R31 a.A ∧ R31 a.B ∧ a.C = 0 ∧ a.D = 0) ∨
 ((a.Rec.K = 0 ∧ a.Rec.V = 0) ∧ ((a.Kind = 2 ∧ R31 a.A ∧ a.B = 0 ∧ a.C = 0 ∧ a.D = 0) ∨ (a.Kind = 3 ∧ a.A = 0 ∧ a.B = 0 ∧ a.C = 0 ∧ a.D = 0) ∨ (a.Kind = 4 ∧ R31 a.A ∧ a.B = 0 ∧ a.C = 0 ∧ a.D = 0) ∨
  (a.Kind = 5 ∧ R31 a.A ∧ R31 a.B ∧ R31 a.C ∧ R31 a.D) ∨ (a.Kind = 6 ∧ a.A = 0 ∧ a.B = 0 ∧ a.C = 0 ∧ a.D = 0)))
def wordsA (a : GAct) : List (List UInt8) :=
 if a.Kind = 1 then [wordK 1, itoa a.A, itoa a.B, itoa a.Rec.K, itoa a.Rec.V] else if a.Kind = 2 then [wordK 2, itoa a.A] else if a.Kind = 3 then [wordK 3] else if a.Kind = 4 then [wordK 4, itoa a.A] else
 if a.Kind = 5 then [wordK 5, itoa a.A, itoa a.B, itoa a.C, itoa a.D] else [wordK 6]
def lineS (a : GAct) : List UInt8 := joinW (wordsA a)
theorem R31.in {n : Int} (h : R31 n) : In n := ⟨by have := h.1; omega, by have := h.2; omega⟩
theorem lineS_len {a : GAct} (h : AIn a) : (lineS a).length ≤ 100 := by
 have hA := itoa_len h.A; have hB := itoa_len h.B; have hC := itoa_len h.C; have hD := itoa_len h.D; have hK := itoa_len h.K; have hV := itoa_len h.V
 unfold lineS wordsA
 repeat' split
 all_goals simp only [joinW, wordK, List.length_append, List.length_cons, List.length_nil, if_true]
 all_goals (try simp only [show ¬ (2 : Int) = 1 by decide, show ¬ (3 : Int) = 1 by decide, show ¬ (3 : Int) = 2 by decide, show ¬ (4 : Int) = 1 by decide, show ¬ (4 : Int) = 2 by decide, show ¬ (4 : Int) = 3 by decide, show ¬ (5 : Int) = 1 by decide, show ¬ (5 : Int) = 2 by decide, show ¬ (5 : Int) = 3 by decide, show ¬ (5 : Int) = 4 by decide, show ¬ (6 : Int) = 1 by decide, show ¬ (6 : Int) = 2 by decide, show ¬ (6 : Int) = 3 by decide, show ¬ (6 : Int) = 4 by decide, show ¬ (6 : Int) = 5 by decide, if_false, List.length_cons, List.length_nil])
 all_goals omega
set_option maxHeartbeats 4000000 in
theorem line_ok {a : GAct} (h : AIn a) : Ok (f_script_line a) fun p => (p.2 = true → AOK a) ∧ (AOK a → p.2 = true ∧ p.1 = lineS a) := by
 have hA := itoa_len h.A; have hB := itoa_len h.B; have hC := itoa_len h.C; have hD := itoa_len h.D; have hK := itoa_len h.K; have hV := itoa_len h.V
 obtain ⟨k, A, B, C, D, K, V⟩ := a
 have fA := itoaF_eq h.A; have fB := itoaF_eq h.B; have fC := itoaF_eq h.C; have fD := itoaF_eq h.D; have fK := fmtF_eq h.K; have fV := fmtF_eq h.V
 simp only at hA hB hC hD hK hV fA fB fC fD fK fV
 by_cases hk : k < 1 ∨ 6 < k
 ·
  unfold f_script_line
  rw [if_pos (by simp only [Bool.or_eq_true, decide_eq_true_eq]; exact hk)]
  refine Ok.some ⟨fun hb => (by cases hb), fun hok => ?_⟩
  exfalso
  rcases hok with ⟨e, _⟩ | ⟨_, ⟨e, _⟩ | ⟨e, _⟩ | ⟨e, _⟩ | ⟨e, _⟩ | ⟨e, _⟩⟩ <;> simp only at e <;> omega
 ·
  have hk' : k = 1 ∨ k = 2 ∨ k = 3 ∨ k = 4 ∨ k = 5 ∨ k = 6 := by omega
  rcases hk' with rfl | rfl | rfl | rfl | rfl | rfl
  all_goals
   unfold f_script_line f_script_shapes f_script_places_p0
   simp [bindO, idx, f_script_line_J1, AOK, lineS, wordsA, wordK, joinW, R31, fA, fB, fC, fD, fK, fV, guardO, IntKind.wrap, IntKind.signed, IntKind.bits]
   clear fA fB fC fD fK fV h hk
   repeat' (refine Ok.ite (fun _ => ?_) (fun _ => ?_))
   all_goals first
    | (exfalso; omega)
    | (refine Ok.some ?_; simp; omega)
    | (refine Ok.some ?_; simp; done)
    | (refine Ok.some ?_; simp; refine ⟨fun h1 h2 => ?_, fun h1 h2 => ?_⟩ <;> omega)
end Go.Proofs.YtkjinognbjmccaaDoor
