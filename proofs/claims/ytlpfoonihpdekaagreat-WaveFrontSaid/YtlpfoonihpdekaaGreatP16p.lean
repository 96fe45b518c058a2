/-
  The law in plain words: what its plain function gives is true. No condition beyond those that each theorem names.
-/
import Derived.Test.YtlpfoonihpdekaaGreatWalkWF0
import Derived.Test.YtlpfoonihpdekaaGreatP01a
import Derived.Test.YtlpfoonihpdekaaGreatP09b
set_option linter.unusedSimpArgs false
set_option linter.unusedVariables false
set_option linter.unusedSectionVars false
namespace Go.Proofs.YtlpfoonihpdekaaGreat
open Go Go.RowKit TS VA
namespace UN
open Classical
theorem pt_eq (a b : GPoint) : ((a.Node == b.Node) && ((a.Time.D == b.Time.D) && ((a.Time.C.a0 == b.Time.C.a0) && ((a.Time.C.a1 == b.Time.C.a1) && ((a.Time.C.a2 == b.Time.C.a2) && (a.Time.C.a3 == b.Time.C.a3)))))) = decide (a = b) := by
 rw [teq, Bool.eq_iff_iff]; simp only [Bool.and_eq_true, beq_iff_eq, decide_eq_true_eq]
 constructor
 · rintro ⟨h1, h2⟩; obtain ⟨n, t⟩ := a; obtain ⟨m, q⟩ := b; simp only at h1 h2; subst h1 h2; rfl
 · rintro rfl; exact ⟨rfl, rfl⟩
end UN
end Go.Proofs.YtlpfoonihpdekaaGreat
