/-
  The law in plain words: what its plain function gives is true. No condition beyond those that each theorem names.
-/
import Derived.Test.YtocnabkanbifdaaGreatDoorWalkTB0
import Derived.Test.YtocnabkanbifdaaGreatDoorP6n
import Derived.Test.YtocnabkanbifdaaGreatDoorLibD
set_option linter.unusedSimpArgs false
set_option linter.unusedVariables false
set_option linter.unusedSectionVars false
namespace Go.Proofs.YtocnabkanbifdaaGreatDoor
open Go Go.RowKit
/-! Loops along a row. -/
theorem flatMap_len {α : Type} {f : α → List UInt8} {M : Nat} : ∀ {l : List α}, (∀ x ∈ l, (f x).length ≤ M) → (l.flatMap f).length ≤ l.length * M
 | [], _ => by simp
 | x :: l, h => by
  rw [List.flatMap_cons, List.length_append, List.length_cons, Nat.add_mul]
  have := h x (by simp)
  have := flatMap_len (l := l) fun y hy => h y (by simp [hy])
  omega
theorem flatMap_take_len {α : Type} {f : α → List UInt8} {M : Nat} {l : List α} (i : Nat) (hi : i ≤ l.length) (h : ∀ x ∈ l, (f x).length ≤ M) : ((l.take i).flatMap f).length ≤ i * M := by
 have := flatMap_len (l := l.take i) fun x hx => h x (List.mem_of_mem_take hx)
 rw [List.length_take, Nat.min_eq_left hi] at this
 exact this
end Go.Proofs.YtocnabkanbifdaaGreatDoor
