/-
  The law in plain words: what its plain function gives is true. No condition beyond those that each theorem names.
-/
import Derived.Test.YthpahhhdapdcpaaP14a
set_option linter.unusedSimpArgs false
set_option linter.unusedVariables false

namespace Go.Proofs.Ythpahhhdapdcpaa
open Go Go.RowKit
namespace QY
theorem rowsA : rowsOf [⟨1, 3⟩, ⟨1, 5⟩, ⟨2, 9⟩] = some [⟨1, 2, 3, 5, 8, true⟩, ⟨2, 1, 9, 9, 9, true⟩] := by unfold rowsOf; kernel_rfl
theorem firstA : f_query_First [⟨1, 2, 3, 5, 8, true⟩, ⟨2, 1, 9, 9, 9, true⟩] 3 1 = some [⟨2, 1, 9, 9, 9, true⟩] := by kernel_rfl
theorem awake_ok : f_backwashlaw32_awake = some true := by
  refine Ok.eq ?_
  unfold f_backwashlaw32_awake
  refine Ok.bind (Rows_ok (by simp) fun v h1 h2 => ?_)
  have hv : v = [⟨1, 3⟩, ⟨1, 5⟩, ⟨2, 9⟩] := by
    refine sorted_eq ltR_part (h1.trans ?_) h2 ?_
    · have : recs [(⟨0, 0, (⟨2, 9⟩ : GRec)⟩ : GOut), (⟨0, 0, (⟨1, 3⟩ : GRec)⟩ : GOut), (⟨0, 0, (⟨1, 5⟩ : GRec)⟩ : GOut)] 0 0 0 = [⟨2, 9⟩, ⟨1, 3⟩, ⟨1, 5⟩] := by rfl
      rw [this]
      exact (List.perm_append_comm (l₁ := [(⟨2, 9⟩ : GRec)]) (l₂ := [⟨1, 3⟩, ⟨1, 5⟩]))
    · simp [ltR]
  rw [hv]
  refine Ok.of_eq rowsA (Ok.bind (Ok.of_eq firstA ?_))
  refine Ok.of_eq (a := true) ?_ rfl
  kernel_rfl
end QY
end Go.Proofs.Ythpahhhdapdcpaa

