/-
  The law in plain words: what its plain function gives is true. No condition beyond those that each theorem names.
-/
import Derived.Test.YtbcbcdbkdljjlaaGreatWalkUT1
import Derived.Test.YtbcbcdbkdljjlaaGreatP18a
set_option linter.unusedSimpArgs false
set_option linter.unusedVariables false
set_option linter.unusedSectionVars false
namespace Go.Proofs.YtbcbcdbkdljjlaaGreat
open Go Go.RowKit BG TS
namespace CE
def dirty (s : GSlot) : GSlot := ⟨s.Time, s.In, s.Sent, true, s.Fired⟩
def st (s : GSlot) : Bool := s.Fired && !s.Dirty
def zl7 (kind : Int) (t : GTime) (s : GSlot) : Bool := (kind == 14) && decide (le t s.Time)
def mk (kind : Int) (t : GTime) (s : GSlot) : GSlot := if zl7 kind t s = true then dirty s else s
def dflt (t : GTime) : GSlot := ⟨t, ⟨[], []⟩, [], false, false⟩
def upd (port : Int) (r : GRec) (n : Int) (s : GSlot) : GSlot := ⟨s.Time, ⟨if port = 0 then ad s.In.a0 r n else s.In.a0, if port = 0 then s.In.a1 else ad s.In.a1 r n⟩, s.Sent, s.Dirty, s.Fired⟩
def one (s : GSlot) : List GSlot := if emp s = true then [] else [s]
structure Sp (c : List GSlot) (t : GTime) (A : List GSlot) (own : GSlot) (B : List GSlot) : Prop where
  at_ : (c = A ++ B ∧ own = dflt t) ∨ (c = A ++ own :: B ∧ own.Time = t)
  lo : ∀ x ∈ A, key x.Time < key t
  hi : ∀ x ∈ B, key t < key x.Time
theorem Sp.time {c A B : List GSlot} {t : GTime} {own : GSlot} (h : Sp c t A own B) : own.Time = t := by
  rcases h.at_ with ⟨_, h⟩ | ⟨_, h⟩
  · rw [h]; rfl
  · exact h
structure Sz (N : Nat) (c : List GSlot) : Prop where
  len : c.length ≤ N
  each : ∀ s ∈ c, lens N s
end CE
end Go.Proofs.YtbcbcdbkdljjlaaGreat
