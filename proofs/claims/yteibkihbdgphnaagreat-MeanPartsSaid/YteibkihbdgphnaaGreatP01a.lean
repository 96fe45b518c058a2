/-
  The law in plain words: what its plain function gives is true. No condition beyond those that each theorem names.
-/
import Derived.Test.YteibkihbdgphnaaGreatWalkMP0
import Derived.Test.YteibkihbdgphnaaGreatLibD
set_option linter.unusedSimpArgs false
set_option linter.unusedVariables false
set_option linter.unusedSectionVars false
open Option renaming bind_some -> Xa
open Bool renaming false_eq_true -> Xb
namespace Go.Proofs.YteibkihbdgphnaaGreat
open Go Go.RowKit
namespace TS
theorem j5l {σ R : Type} (body : (σ -> Option R) -> σ -> Option R) (s : σ) : ∃ rec : σ -> Option R, q05 body rounds s = body (body (body (body (body rec)))) s := ⟨q05 body 18446744073709551611, rfl⟩
def ok (t : GTime) : Prop := 1 <= t.D /\ t.D <= 4 /\ (0 <= t.C.a0 /\ t.C.a0 <= 1048576) /\ (0 <= t.C.a1 /\ t.C.a1 <= if 1 < t.D then 64 else 0) /\ (0 <= t.C.a2 /\ t.C.a2 <= if 2 < t.D then 64 else 0) /\ (0 <= t.C.a3 /\ t.C.a3 <= if 3 < t.D then 64 else 0)
instance (t : GTime) : Decidable (ok t) := by unfold ok; infer_instance
theorem w0 : IntKind.i64.wrap (0 + 1) = 1 := by decide
theorem w1 : IntKind.i64.wrap (1 + 1) = 2 := by decide
theorem w2 : IntKind.i64.wrap (2 + 1) = 3 := by decide
theorem w3 : IntKind.i64.wrap (3 + 1) = 4 := by decide
theorem v1 : IntKind.i64.wrap 1 = 1 := by decide
theorem v2 : IntKind.i64.wrap 2 = 2 := by decide
theorem v3 : IntKind.i64.wrap 3 = 3 := by decide
theorem v4 : IntKind.i64.wrap 4 = 4 := by decide
theorem i0 {α : Type} (a b c d : α) : idx [a, b, c, d] 0 = some a := rfl
theorem i1 {α : Type} (a b c d : α) : idx [a, b, c, d] 1 = some b := rfl
theorem i2 {α : Type} (a b c d : α) : idx [a, b, c, d] 2 = some c := rfl
theorem i3 {α : Type} (a b c d : α) : idx [a, b, c, d] 3 = some d := rfl
theorem ja2 (c : Prop) [Decidable c] (a b : Bool) : (if c then some a else some b) = some (if c then a else b) := by split <;> rfl
theorem D4 {D : Int} (h : 1 <= D /\ D <= 4) : D = 1 \/ D = 2 \/ D = 3 \/ D = 4 := by omega
theorem Right_eq (t : GTime) : q6y t = some (decide (ok t)) := by
 obtain ⟨D, ⟨a0, a1, a2, a3⟩⟩ := t
 by_cases h : 1 <= D /\ D <= 4
 .
  unfold q6y; obtain ⟨rec, hr⟩ := j5l (qm9 ⟨D, ⟨a0, a1, a2, a3⟩⟩) 0; rw [hr]; rcases D4 h with rfl | rfl | rfl | rfl <;>
  .
   simp only [qm9, q8v, i0, i1, i2, i3, w0, w1, w2, w3, q9, Xa, ja2]; simp [ok]
   repeat' split
   all_goals
    refine congrArg some (Bool.eq_iff_iff.2 ?_); simp only [Bool.and_eq_true, decide_eq_true_eq, Xb, false_iff, eq_self, true_iff]; omega
 .
  unfold q6y; rw [if_pos (by simp; omega)]
  congr 1
  rw [eq_comm, decide_eq_false_iff_not]; unfold ok; simp only; omega
def co (D i a : Int) : Int := if i < D then a + 1 else 0
def key (t : GTime) : Int := ((t.C.a0 * 70 + co t.D 1 t.C.a1) * 70 + co t.D 2 t.C.a2) * 70 + co t.D 3 t.C.a3
theorem g0 {α : Type} (k : Option α) : q03 (0 <= (0 : Int) /\ (0 : Int) < 4) k = k := if_pos (by decide)
theorem g1 {α : Type} (k : Option α) : q03 (0 <= (1 : Int) /\ (1 : Int) < 4) k = k := if_pos (by decide)
theorem g2 {α : Type} (k : Option α) : q03 (0 <= (2 : Int) /\ (2 : Int) < 4) k = k := if_pos (by decide)
theorem g3 {α : Type} (k : Option α) : q03 (0 <= (3 : Int) /\ (3 : Int) < 4) k = k := if_pos (by decide)
theorem q9q {t : GTime} (h : ok t) : t.D = 1 \/ t.D = 2 \/ t.D = 3 \/ t.D = 4 := D4 ⟨h.1, h.2.1⟩
def le (a b : GTime) : Prop := ok a /\ ok b /\ a.D = b.D /\ a.C.a0 <= b.C.a0 /\ a.C.a1 <= b.C.a1 /\ a.C.a2 <= b.C.a2 /\ a.C.a3 <= b.C.a3
instance (a b : GTime) : Decidable (le a b) := by unfold le; infer_instance
theorem le_eq (a b : GTime) : z2j a b = some (decide (le a b)) := by
 unfold z2j z19; rw [Right_eq a, Right_eq b]; simp only [q9, Xa, decide_eq_true_eq, Bool.not_eq_true']
 by_cases ha : ok a
 .
  rw [if_pos ha]
  by_cases hb : ok b /\ a.D = b.D
  .
   simp only [Xa, decide_eq_true hb.1, beq_iff_eq.2 hb.2, Bool.and_self, Bool.true_eq_false, if_false]; obtain ⟨rec, hr⟩ := j5l (qz5 a b) 0; rw [hr]; simp only [qz5, i0, i1, i2, i3, g0, g1, g2, g3, w0, w1, w2, w3, q9, Xa, Int.reduceLT, if_true, if_false, decide_true, decide_false, Xb, decide_eq_true_eq]
   repeat' split
   all_goals
    refine congrArg some (Bool.eq_iff_iff.2 ?_); simp only [decide_eq_true_eq, Xb, false_iff, eq_self, true_iff]; unfold le; have := hb.1; have := hb.2
    first | (refine ⟨ha, hb.1, hb.2, ?_⟩; omega) | (rintro ⟨-, -, -, h⟩; omega)
  .
   have : (decide (ok b) && (a.D == b.D)) = false := by
    rw [Bool.eq_false_iff]; simpa using hb
   simp only [Xa, this, if_true]; exact congrArg some (decide_eq_false fun h => hb ⟨h.2.1, h.2.2.1⟩).symm
 . rw [if_neg ha]; simp only [Xa, if_true]; exact congrArg some (decide_eq_false fun h => ha h.1).symm
instance : DecidableEq GTime := fun a b =>
 if h : a.D = b.D /\ a.C.a0 = b.C.a0 /\ a.C.a1 = b.C.a1 /\ a.C.a2 = b.C.a2 /\ a.C.a3 = b.C.a3 then isTrue (by
  obtain ⟨D, ⟨a0, a1, a2, a3⟩⟩ := a; obtain ⟨E, ⟨b0, b1, b2, b3⟩⟩ := b; simp only at h; obtain ⟨rfl, rfl, rfl, rfl, rfl⟩ := h; rfl) else isFalse (fun e => h (by rw [e]; exact ⟨rfl, rfl, rfl, rfl, rfl⟩))
end TS
end Go.Proofs.YteibkihbdgphnaaGreat
