/-
  The law in plain words: what its plain function gives is true. No condition beyond those that each theorem names.
-/
import Derived.Test.YtgegekpefakacaaGreatWalkUS0
import Derived.Test.YtgegekpefakacaaGreatP03a
namespace Go.Proofs.YtgegekpefakacaaGreat
open Go Go.RowKit TS VA
namespace CH
def Lw (l : List GTime) (x : GTime) (i k : Nat) : Prop := ok x ∧ ∀ j (h : j < l.length), j < k → ¬ (l[j] ≠ x ∧ le l[j] x) ∧ ¬ (j < i ∧ l[j] = x)
theorem Lw.iff {l : List GTime} {i : Nat} (hi : i < l.length) : Lw l l[i] i l.length ↔ Mn l l[i] ∧ l[i] ∉ l.take i := by
 constructor
 ·
  rintro ⟨h1, h2⟩; refine ⟨⟨List.getElem_mem hi, h1, fun s hs hle => ?_⟩, fun hm => ?_⟩
  ·
   obtain ⟨j, hj, rfl⟩ := List.mem_iff_getElem.1 hs
   by_cases hne : l[j] = l[i]
   · exact hne
   · exact absurd ⟨hne, hle⟩ (h2 j hj hj).1
  · obtain ⟨j, hj, he⟩ := List.mem_iff_getElem.1 hm; rw [List.length_take] at hj; rw [List.getElem_take] at he; exact (h2 j (by omega) (by omega)).2 ⟨by omega, he⟩
 · rintro ⟨⟨_, h1, h2⟩, h3⟩; refine ⟨h1, fun j hj _ => ⟨fun ⟨a, b⟩ => a (h2 _ (List.getElem_mem hj) b), fun ⟨a, b⟩ => h3 ?_⟩⟩; rw [← b]; exact List.mem_iff_getElem.2 ⟨j, by rw [List.length_take]; omega, by rw [List.getElem_take]⟩
theorem Lw.succ {l : List GTime} {x : GTime} {i k : Nat} (hk : k < l.length) : Lw l x i (k + 1) ↔ Lw l x i k ∧ ¬ (l[k] ≠ x ∧ le l[k] x) ∧ ¬ (k < i ∧ l[k] = x) := by
 constructor
 · rintro ⟨h1, h2⟩; exact ⟨⟨h1, fun j hj hlt => h2 j hj (by omega)⟩, h2 k hk (by omega)⟩
 ·
  rintro ⟨⟨h1, h2⟩, h3⟩; refine ⟨h1, fun j hj hlt => ?_⟩; rcases Nat.lt_or_ge j k with h | h
  · exact h2 j hj h
  ·
   obtain rfl : j = k := by omega
   exact h3
theorem zj3 {a b : List GTime} (ha : a.length < 1000000000) : q58 a b = some (decide (a = b)) := zo7 ha
end CH
end Go.Proofs.YtgegekpefakacaaGreat
