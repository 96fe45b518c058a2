/-
  The law in plain words: what its plain function gives is true. No condition beyond those that each theorem names.
-/
import Derived.Test.YtlpfoonihpdekaaGreatWalkWF1
import Derived.Test.YtlpfoonihpdekaaGreatP10g
set_option linter.unusedSimpArgs false
set_option linter.unusedVariables false
set_option linter.unusedSectionVars false
namespace Go.Proofs.YtlpfoonihpdekaaGreat
open Go Go.RowKit VA
namespace HP
open Classical
theorem j7o {ts xs ys : List Int} {k k' : Nat} (hts : ∀ x ∈ ts, Sm x) (h1 : k ≤ ts.length) (h2 : k ≤ xs.length) (h1' : k' ≤ ts.length) (h2' : k' ≤ ys.length) (hl : xs.length = ys.length) (h : le k xs k' ys) (i : Nat) : (th ts xs k).getD i 0 ≤ (th ts ys k').getD i 0 := by
 by_cases hi : i < xs.length
 ·
  rw [qz2 h1 h2 hi, qz2 h1' h2' (by omega)]; have hp : xs.getD i 0 ≤ ys.getD i 0 := by rw [q1g hi, q1g (show i < ys.length by omega)]; exact h.2 i hi (by omega)
  have ht := qx1 hts i; have hkk := h.1; unfold Sm at ht
  split <;> split <;> omega
 · rw [getD_none (by rw [qd6 h1 h2]; omega), getD_none (by rw [qd6 h1' h2']; omega)]; exact Int.le_refl _
theorem zy6 {ts xs : List Int} {k : Nat} (hts : ∀ x ∈ ts, Sm x) (hxs : ∀ x ∈ xs, Sm x) (h1 : k ≤ ts.length) (h2 : k ≤ xs.length) (i : Nat) : 0 ≤ (th ts xs k).getD i 0 := by
 by_cases hi : i < xs.length
 ·
  rw [qz2 h1 h2 hi]; have ht := qx1 hts i; have hx := qx1 hxs i; unfold Sm at ht hx
  split <;> omega
 · rw [getD_none (by rw [qd6 h1 h2]; omega)]; exact Int.le_refl _
theorem j7n {a b : List Int} (hl : a.length = b.length) (h0 : ∀ i, 0 ≤ a.getD i 0) (hle' : ∀ i, a.getD i 0 ≤ b.getD i 0) (hb : TS.ok (tm b)) : TS.ok (tm a) ∧ TS.le (tm a) (tm b) := by
 have hok : TS.ok (tm a) := by
  unfold TS.ok tm at hb ⊢; unfold pad at hb ⊢; dsimp only at hb ⊢; rw [hl]; obtain ⟨h1, h2, h3, h4, h5, h6⟩ := hb; have a0 := h0 0; have a1 := h0 1; have a2 := h0 2; have a3 := h0 3; have b0 := hle' 0; have b1 := hle' 1; have b2 := hle' 2; have b3 := hle' 3; refine ⟨h1, h2, ⟨a0, by omega⟩, ⟨a1, Int.le_trans b1 h4.2⟩, ⟨a2, Int.le_trans b2 h5.2⟩, ⟨a3, Int.le_trans b3 h6.2⟩⟩
 exact ⟨hok, hok, hb, by unfold tm; dsimp only; rw [hl], hle' 0, hle' 1, hle' 2, hle' 3⟩
end HP
end Go.Proofs.YtlpfoonihpdekaaGreat
