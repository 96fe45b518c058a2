/-
  The law in plain words: what its plain function gives is true. No condition beyond those that each theorem names.
-/
import Derived.Test.YtbcbcdbkdljjlaaGreatWalkUT1
import Derived.Test.YtbcbcdbkdljjlaaGreatLibD
set_option linter.unusedSimpArgs false
set_option linter.unusedVariables false
set_option linter.unusedSectionVars false
namespace Go.Proofs.YtbcbcdbkdljjlaaGreat
open Go Go.RowKit
namespace VA
theorem z4w {α : Type} {l : List α} {i : Int} (d : α) (h0 : 0 ≤ i) (h1 : i < l.length) : idx l i = some (l.getD i.toNat d) := by
  unfold idx; rw [if_pos h0, List.getElem?_eq_getElem (by omega), List.getD_eq_getElem?_getD, List.getElem?_eq_getElem (by omega)]; rfl
theorem w1 {i : Int} {n : Nat} (h0 : 0 ≤ i) (h : i < n) (hn : n < 1000000000) : IntKind.i64.wrap (i + 1) = i + 1 := wrap_i64 _ (by omega)
def up (P : List Int) : Nat → Int → List Int
  | 0, _ => []
  | k + 1, s => if 0 ≤ s ∧ s < P.length then s :: up P k (P.getD s.toNat 0) else []
def anc (P : List Int) (s : Int) : List Int := up P (s.toNat + 1) s
def WP (P : List Int) (m : Nat) : Prop := m ≤ P.length ∧ ∀ s : Int, 0 ≤ s → s < m → P.getD s.toNat 0 < s ∧ (0 < s → 0 ≤ P.getD s.toNat 0) ∧ (s = 0 → P.getD s.toNat 0 = -1)
def inS (m : Nat) (s : Int) : Prop := s = -1 ∨ 0 ≤ s ∧ s < m
theorem WP.down {P : List Int} {m : Nat} (h : WP P m) {s : Int} (h0 : 0 ≤ s) (h1 : s < m) : inS m (P.getD s.toNat 0) := by
  obtain ⟨a, b, c⟩ := h.2 s h0 h1; rcases Int.lt_or_eq_of_le h0 with h2 | h2
  · exact .inr ⟨b h2, by omega⟩
  · exact .inl (c h2.symm)
theorem z6n {P : List Int} {m : Nat} (h : WP P m) : ∀ (k k' : Nat) (s : Int), inS m s → s < k → s < k' → up P k s = up P k' s
  | 0, k', s, hs, h1, h2 => by
    rcases hs with rfl | hs
    · cases k' with
      | zero => rfl
      | succ k' => simp [up]
    · omega
  | k + 1, 0, s, hs, h1, h2 => by
    rcases hs with rfl | hs
    · simp [up]
    · omega
  | k + 1, k' + 1, s, hs, h1, h2 => by
    simp only [up]
    split
    · rename_i hc
      have hlt : s < m := by
        rcases hs with rfl | hs
        · omega
        · exact hs.2
      have hd := (h.2 s hc.1 hlt).1; rw [z6n h k k' _ (h.down hc.1 hlt) (by omega) (by omega)]
    · rfl
theorem qu4 (P : List Int) : anc P (-1) = [] := by simp [anc, up]
theorem qu3 {P : List Int} {m : Nat} (h : WP P m) {s : Int} (h0 : 0 ≤ s) (h1 : s < m) : anc P s = s :: anc P (P.getD s.toNat 0) := by
  have hl := h.1; have hd := (h.2 s h0 h1).1; unfold anc; rw [up, if_pos ⟨h0, by omega⟩]
  congr 1
  refine z6n h _ _ _ (h.down h0 h1) (by omega) (by omega)
theorem z7b {P : List Int} {m : Nat} (h : WP P m) : ∀ (k : Nat) (s : Int), inS m s → s < k → ((anc P s).length : Int) ≤ s + 1
  | 0, s, hs, hk => by
    rcases hs with rfl | hs
    · simp [qu4]
    · omega
  | k + 1, s, hs, hk => by
    rcases hs with rfl | hs
    · simp [qu4]
    · rw [qu3 h hs.1 hs.2, List.length_cons]
      have hd := (h.2 s hs.1 hs.2).1; have := z7b h k _ (h.down hs.1 hs.2) (by omega); omega
theorem z5p {P : List Int} {m : Nat} (h : WP P m) {s : Int} (hs : inS m s) : (anc P s).length ≤ m := by
  have := z7b h (s.toNat + 1) s hs (by omega); rcases hs with rfl | hs
  · simp [qu4]
  · omega
theorem z0m {g : GGraph} {m : Nat} (h : WP g.Parent m) (hm : m ≤ 8) {s : Int} (hs : inS m s) : q26 g s = some (anc g.Parent s).reverse := by
  have hm' := h.1; refine Ok.eq (Ok.loop0 (fun p : Int × List Int => inS m p.1 ∧ (anc g.Parent p.1).reverse ++ p.2 = (anc g.Parent s).reverse) (fun p => (p.1 + 1).toNat) ?_ ⟨hs, by simp⟩ (by
    simp only [rounds]; rcases hs with rfl | hs <;> omega))
  rintro rec ⟨p, out⟩ ⟨hi, he⟩ hr; have hle := z5p h hs; dsimp only at hi he; have hlen := congrArg List.length he; simp only [List.length_append, List.length_reverse] at hlen; simp only [q4o]; rcases hi with rfl | hi
  · simp only [show ¬ ((0 : Int) ≤ -1) by omega, decide_false, Bool.false_and, Bool.false_eq_true, if_false]
    simp only [qu4, List.reverse_nil, List.nil_append] at he; exact Ok.some he
  · simp only [qu3 h hi.1 hi.2, List.length_cons] at hlen
    rw [if_pos (by simp only [Bool.and_eq_true, decide_eq_true_eq]; omega)]; refine Ok.guard (by simp only [List.length_cons, List.length_nil]; omega) ?_; refine Ok.bind2 (Ok.idx' hi.1 (by omega) (Q := fun x => x = g.Parent.getD p.toNat 0) fun x hx => by rw [List.getD_eq_getElem?_getD, hx]; rfl) ?_; rintro x rfl; have hdn := (h.2 p hi.1 hi.2).1; refine hr _ ⟨h.down hi.1 hi.2, ?_⟩ (by simp only; omega); simp only [qu3 h hi.1 hi.2, List.reverse_cons, List.append_assoc] at he; exact he
def sOk (g : GGraph) (s : Nat) : Bool :=
  if s = 0 then g.Parent.getD 0 0 == -1 && g.Bound.getD 0 0 == 0
  else decide (0 ≤ g.Parent.getD s 0 ∧ g.Parent.getD s 0 < s ∧ 1 ≤ g.Bound.getD s 0 ∧ g.Bound.getD s 0 ≤ 64) && decide ((anc g.Parent s).length ≤ 4)
theorem WP.of {g : GGraph} {m : Nat} (hm : m ≤ g.Parent.length) (h : ∀ s < m, sOk g s = true) : WP g.Parent m := by
  refine ⟨hm, fun s h0 h1 => ?_⟩; have := h s.toNat (by omega); unfold sOk at this
  split at this
  · rename_i hz
    rw [Bool.and_eq_true, beq_iff_eq] at this; rw [hz, this.1]; exact ⟨by omega, by omega, fun _ => rfl⟩
  · rw [Bool.and_eq_true, decide_eq_true_eq] at this
    exact ⟨by omega, fun _ => this.1.1, by omega⟩
theorem WP.next {g : GGraph} {m : Nat} (h : WP g.Parent m) (hm : m < g.Parent.length) (h0 : 0 < m) (h1 : 0 ≤ g.Parent.getD m 0) (h2 : g.Parent.getD m 0 < m) : WP g.Parent (m + 1) := by
  refine ⟨by omega, fun s hs0 hs1 => ?_⟩; rcases Int.lt_or_eq_of_le (show s ≤ m by omega) with hlt | rfl
  · exact h.2 s hs0 hlt
  · simp only [Int.toNat_natCast]
    exact ⟨h2, fun _ => h1, by omega⟩
theorem getD_some {α : Type} {l : List α} {i : Nat} {x d : α} (h : l[i]? = some x) : x = l.getD i d := by rw [List.getD_eq_getElem?_getD, h]; rfl
end VA
end Go.Proofs.YtbcbcdbkdljjlaaGreat
