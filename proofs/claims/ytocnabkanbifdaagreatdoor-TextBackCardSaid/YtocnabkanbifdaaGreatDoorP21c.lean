/-
  The law in plain words: what its plain function gives is true. No condition beyond those that each theorem names.
-/
import Derived.Test.YtocnabkanbifdaaGreatDoorWalkTB0
import Derived.Test.YtocnabkanbifdaaGreatDoorP21b
set_option linter.unusedSimpArgs false
set_option linter.unusedVariables false
set_option linter.unusedSectionVars false
namespace Go.Proofs.YtocnabkanbifdaaGreatDoor
open Go Go.RowKit Go.Lib
set_option maxRecDepth 100000
/-! Lines. -/
def sp : List UInt8 → List (List UInt8)
 | [] => [[]]
 | c :: l => if c = 10 then [] :: sp l else match sp l with
  | [] => [[c]]
  | x :: y => (c :: x) :: y
theorem sp_nl (l : List UInt8) : sp (10 :: l) = [] :: sp l := by simp [sp]
theorem sp_ne (l : List UInt8) : sp l ≠ [] := by
 cases l with
 | nil => simp [sp]
 | cons c l =>
  simp only [sp]
  split
  · simp
  · split <;> simp
theorem splitK_sp : ∀ (s : List UInt8), splitK [10] 0 (s.count 10) s = sp s
 | [] => rfl
 | c :: l => by
  have ih := splitK_sp l
  by_cases hc : c = 10
  ·
   subst hc
   have hix : index (10 :: l) [10] = ((0 : Nat) : Int) := by rw [index]; simp [List.isPrefixOf]
   rw [List.count_cons_self, splitK, if_neg (by rw [hix]; decide), hix, sp_nl, ← ih]
   rfl
  ·
   have hp : ([10] : List UInt8).isPrefixOf (c :: l) = false := by simp [List.isPrefixOf, Ne.symm hc]
   have hix : index (c :: l) [10] = if index l [10] == -1 then -1 else index l [10] + 1 := by rw [index, hp]; simp
   rw [List.count_cons_of_ne hc]
   simp only [sp, if_neg hc]
   rw [← ih]
   cases hk : l.count 10 with
   | zero => rfl
   | succ k =>
    have hm : index l [10] ≠ -1 := fun hm => by
     have := count_miss hm
     rw [count_one] at this; omega
    have hge := index_ge l [10]
    obtain ⟨j, hj⟩ : ∃ j : Nat, index l [10] = j := ⟨(index l [10]).toNat, by omega⟩
    have hj2 : index (c :: l) [10] = ((j + 1 : Nat) : Int) := by rw [hix, if_neg (by simpa using hm), hj]; omega
    rw [splitK, if_neg (by rw [hj2]; simp; omega), hj2, splitK, if_neg (by simpa using hm), hj]
    simp only [Int.toNat_natCast, Nat.add_zero, List.take_succ_cons, List.length_singleton, List.drop_succ_cons]
theorem split_eq {s : List UInt8} (hs : s.length < 4294967281) : f_strings_Split s [10] = some ((sp s).map GStr.mk) := by
 unfold f_strings_Split splitF
 refine Ok.eq (Ok.guard ⟨hs, by simp⟩ (Ok.some ?_))
 have h1 := splitB_data (⟨⟨[10]⟩⟩ : ByteArray) 0 (countB ⟨⟨s⟩⟩ ⟨⟨[10]⟩⟩) ⟨⟨s⟩⟩
 have hc : countB ⟨⟨s⟩⟩ ⟨⟨[10]⟩⟩ = s.count 10 := count_one 10 s
 rw [hc] at h1 ⊢
 have h2 : splitK [10] 0 (s.count 10) s = sp s := splitK_sp s
 rw [← h2, ← h1, List.map_map]
 rfl
theorem sp_app (u v : List UInt8) (hu : ∀ c ∈ u, c ≠ 10) : sp (u ++ 10 :: v) = u :: sp v := by
 induction u with
 | nil => exact sp_nl v
 | cons c u ih =>
  simp only [List.cons_append, sp]
  rw [if_neg (hu c (by simp)), ih fun x hx => hu x (by simp [hx])]
end Go.Proofs.YtocnabkanbifdaaGreatDoor
