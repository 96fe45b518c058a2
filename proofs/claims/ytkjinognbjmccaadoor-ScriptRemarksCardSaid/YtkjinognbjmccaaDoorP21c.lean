/-
  The law in plain words: what its plain function gives is true. No condition beyond those that each theorem names.
-/
import Derived.Test.YtkjinognbjmccaaDoorWalkSR0
import Derived.Test.YtkjinognbjmccaaDoorP21b
set_option linter.unusedSimpArgs false
set_option linter.unusedVariables false
set_option linter.unusedSectionVars false
namespace Go.Proofs.YtkjinognbjmccaaDoor
open Go Go.RowKit Go.Lib
set_option maxRecDepth 100000
/-! Lines. -/
def sp : List UInt8 → List (List UInt8)
 | [] => [[]]
 | c :: l => if c = 10 then [] :: sp l else match sp l with
  | [] => [[c]]
  | x :: y => (c :: x) :: y
theorem sp_nl (l : List UInt8) : sp (10 :: l) = [] :: sp l := by simp [sp]
theorem sp_ne (l : List UInt8) : sp l ≠ [] := by
 cases l with
 | nil => simp [sp]
 | cons c l =>
  simp only [sp]
  split
  · simp
  · split <;> simp
theorem splitK_sp : ∀ (s : List UInt8), splitK [10] 0 (s.count 10) s = sp s
 | [] => rfl
 | c :: l => by
  have ih := splitK_sp l
  by_cases hc : c = 10
  ·
   subst hc
   have hix : index (10 :: l) [10] = ((0 : Nat) : Int) := by rw [index]; simp [List.isPrefixOf]
   rw [List.count_cons_self, splitK, if_neg (by rw [hix]; decide), hix, sp_nl, ← ih]
   rfl
  ·
   have hp : ([10] : List UInt8).isPrefixOf (c :: l) = false := by simp [List.isPrefixOf, Ne.symm hc]
   have hix : index (c :: l) [10] = if index l [10] == -1 then -1 else index l [10] + 1 := by rw [index, hp]; simp
   rw [List.count_cons_of_ne hc]
   simp only [sp, if_neg hc]
   rw [← ih]
   cases hk : l.count 10 with
   | zero => rfl
   | succ k =>
    have hm : index l [10] ≠ -1 := fun hm => by
     have := count_miss hm
     rw [count_one] at this; omega
    have hge := index_ge l [10]
    obtain ⟨j, hj⟩ : ∃ j : Nat, index l [10] = j := ⟨(index l [10]).toNat, by omega⟩
    have hj2 : index (c :: l) [10] = ((j + 1 : Nat) : Int) := by rw [hix, if_neg (by simpa using hm), hj]; omega
    rw [splitK, if_neg (by rw [hj2]; simp; omega), hj2, splitK, if_neg (by simpa using hm), hj]
    simp only [Int.toNat_natCast, Nat.add_zero, List.take_succ_cons, List.length_singleton, List.drop_succ_cons]
theorem split_eq {s : List UInt8} (hs : s.length < 4294967281) : f_strings_Split s [10] = some ((sp s).map GStr.mk) := by
 unfold f_strings_Split splitF
 refine Ok.eq (Ok.guard ⟨hs, by simp⟩ (Ok.some ?_))
 have h1 := splitB_data (⟨⟨[10]⟩⟩ : ByteArray) 0 (countB ⟨⟨s⟩⟩ ⟨⟨[10]⟩⟩) ⟨⟨s⟩⟩
 have hc : countB ⟨⟨s⟩⟩ ⟨⟨[10]⟩⟩ = s.count 10 := count_one 10 s
 rw [hc] at h1 ⊢
 have h2 : splitK [10] 0 (s.count 10) s = sp s := splitK_sp s
 rw [← h2, ← h1, List.map_map]
 rfl
/-- A last byte. -/
theorem sp_snoc : ∀ (l : List UInt8) (c : UInt8), ∃ P cur, sp l = P ++ [cur] ∧ sp (l ++ [c]) = if c = 10 then P ++ [cur, []] else P ++ [cur ++ [c]]
 | [], c => ⟨[], [], rfl, by by_cases h : c = 10 <;> simp [sp, h]⟩
 | d :: l, c => by
  obtain ⟨P, cur, h1, h2⟩ := sp_snoc l c
  by_cases hd : d = 10
  ·
   refine ⟨[] :: P, cur, by rw [hd, sp_nl, h1]; rfl, ?_⟩
   rw [hd, List.cons_append, sp_nl, h2]
   split <;> rfl
  ·
   cases P with
   | nil =>
    refine ⟨[], d :: cur, by simp [sp, hd, h1], ?_⟩
    simp only [List.cons_append, sp, if_neg hd, h2]
    by_cases hc : c = 10 <;> simp [hc]
   | cons x P =>
    refine ⟨(d :: x) :: P, cur, by simp [sp, hd, h1], ?_⟩
    simp only [List.cons_append, sp, if_neg hd, h2]
    by_cases hc : c = 10 <;> simp [hc]
theorem sp_snoc' {l : List UInt8} {P : List (List UInt8)} {cur : List UInt8} (h : sp l = P ++ [cur]) (c : UInt8) : sp (l ++ [c]) = if c = 10 then P ++ [cur, []] else P ++ [cur ++ [c]] := by
 obtain ⟨P', cur', h1, h2⟩ := sp_snoc l c
 rw [h] at h1
 obtain ⟨e1, e2⟩ := List.append_inj' h1 rfl
 have e3 : cur = cur' := by injection e2
 rw [h2, e1, e3]
theorem sp_cat {l : List UInt8} {P : List (List UInt8)} (h : sp l = P ++ [[]]) : ∀ (m : List UInt8), sp (l ++ m) = P ++ sp m := by
 intro m
 induction l generalizing P with
 | nil =>
  have : P = [] := by
   simp only [sp] at h
   cases P with
   | nil => rfl
   | cons x P => simp at h
  rw [this]; rfl
 | cons d l ih =>
  by_cases hd : d = 10
  ·
   subst hd
   rw [sp_nl] at h
   cases P with
   | nil => simp at h; exact absurd h (sp_ne l)
   | cons x P =>
    simp only [List.cons_append, List.cons.injEq] at h
    rw [List.cons_append, sp_nl, ih h.2, ← h.1]; rfl
  ·
   simp only [sp, if_neg hd] at h
   cases hl : sp l with
   | nil => exact absurd hl (sp_ne l)
   | cons y Y =>
    rw [hl] at h
    simp only at h
    cases P with
    | nil => simp at h
    | cons x P =>
     simp only [List.cons_append, List.cons.injEq] at h
     have := ih (P := y :: P) (by rw [hl, h.2]; rfl)
     rw [List.cons_append]
     simp only [sp, if_neg hd, this, List.cons_append]
     rw [h.1]
end Go.Proofs.YtkjinognbjmccaaDoor
