/-
  The law in plain words: what its plain function gives is true. No condition beyond those that each theorem names.
-/
import Derived.Test.YteibkihbdgphnaaGreatWalkMP0
import Derived.Test.YteibkihbdgphnaaGreatP12t
set_option linter.unusedSimpArgs false
set_option linter.unusedVariables false
set_option linter.unusedSectionVars false
namespace Go.Proofs.YteibkihbdgphnaaGreat
open Go Go.RowKit TS VA BG
namespace MN
open Classical
section
variable {g : GGraph} (hG : VA.Good g) {most : Int} {V : Int -> Prop} {d : Int} (hd : 0 <= d) {pre : List GOut}
include hG hd
omit hd
include hd
end
theorem j7j {g : GGraph} {s : MS} {q : GMean_point} {port : Int} {b : List GItem} (h : W g s) (hq : PtM g q) : W g (q4h s q port b) := fun p hp => by
 rw [qw8] at hp
 split at hp
 . rename_i hc; rw [hc.2]; exact hq
 . exact h p hp
theorem j91 {g : GGraph} (hG : VA.Good g) (feeds : List GFeed) (hF : ∀ f ∈ feeds, z0w g f) : W g (q5n feeds) := by
 unfold q5n; have : ∀ (l : List GFeed) (s : MS), (∀ f ∈ l, z0w g f) -> W g s -> W g (l.foldl q67 s) := by
  intro l
  induction l with
  | nil => intro s _ h; exact h
  | cons f l ih =>
   intro s hf h; rw [List.foldl_cons]; refine ih _ (fun x hx => hf x (by simp [hx])) ?_; obtain ⟨f0, f1, f2, f3, f4⟩ := hf f (by simp); refine j7j h ?_; have := zm1 hG (n := f.Node.toNat) (by omega) f2 ⟨f3, f4⟩; rw [Int.toNat_of_nonneg f0] at this; exact this
 exact this feeds s0 hF (fun p hp => absurd rfl hp)
end MN
end Go.Proofs.YteibkihbdgphnaaGreat
