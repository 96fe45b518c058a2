/-
  The law in plain words: what its plain function gives is true. No condition beyond those that each theorem names.
-/
import Derived.Test.YteibkihbdgphnaaGreatWalkMP0
import Derived.Test.YteibkihbdgphnaaGreatLibD
set_option linter.unusedSimpArgs false
set_option linter.unusedVariables false
set_option linter.unusedSectionVars false
open List renaming getD_eq_getElem?_getD -> Xa, getElem?_eq_getElem -> Xc, length_cons -> Xe
open Bool renaming and_eq_true -> Xb
open Int renaming lt_or_eq_of_le -> Xd
open Option renaming bind_some -> Xf
namespace Go.Proofs.YteibkihbdgphnaaGreat
open Go Go.RowKit
namespace VA
theorem qh6 {α : Type} {l : List α} {i : Int} (d : α) (h0 : 0 <= i) (h1 : i < l.length) : idx l i = some (l.getD i.toNat d) := by
 unfold idx; rw [if_pos h0, Xc (by omega), Xa, Xc (by omega)]; rfl
theorem w1 {i : Int} {n : Nat} (h0 : 0 <= i) (h : i < n) (hn : n < 1000000000) : IntKind.i64.wrap (i + 1) = i + 1 := wrap_i64 _ (by omega)
def up (P : List Int) : Nat -> Int -> List Int
 | 0, _ => []
 | k + 1, s => if 0 <= s /\ s < P.length then s :: up P k (P.getD s.toNat 0) else []
def anc (P : List Int) (s : Int) : List Int := up P (s.toNat + 1) s
def WP (P : List Int) (m : Nat) : Prop := m <= P.length /\ ∀ s : Int, 0 <= s -> s < m -> P.getD s.toNat 0 < s /\ (0 < s -> 0 <= P.getD s.toNat 0) /\ (s = 0 -> P.getD s.toNat 0 = -1)
def inS (m : Nat) (s : Int) : Prop := s = -1 \/ 0 <= s /\ s < m
theorem WP.down {P : List Int} {m : Nat} (h : WP P m) {s : Int} (h0 : 0 <= s) (h1 : s < m) : inS m (P.getD s.toNat 0) := by
 obtain ⟨a, b, c⟩ := h.2 s h0 h1; rcases Xd h0 with h2 | h2
 . exact .inr ⟨b h2, by omega⟩
 . exact .inl (c h2.symm)
theorem zs7 {P : List Int} {m : Nat} (h : WP P m) : ∀ (k k' : Nat) (s : Int), inS m s -> s < k -> s < k' -> up P k s = up P k' s
 | 0, k', s, hs, h1, h2 => by
  rcases hs with rfl | hs
  .
   cases k' with
   | zero => rfl
   | succ k' => simp [up]
  . omega
 | k + 1, 0, s, hs, h1, h2 => by
  rcases hs with rfl | hs
  . simp [up]
  . omega
 | k + 1, k' + 1, s, hs, h1, h2 => by
  simp only [up]
  split
  .
   rename_i hc
   have hlt : s < m := by
    rcases hs with rfl | hs
    . omega
    . exact hs.2
   have hd := (h.2 s hc.1 hlt).1; rw [zs7 h k k' _ (h.down hc.1 hlt) (by omega) (by omega)]
  . rfl
theorem q6t (P : List Int) : anc P (-1) = [] := by simp [anc, up]
theorem q63 {P : List Int} {m : Nat} (h : WP P m) {s : Int} (h0 : 0 <= s) (h1 : s < m) : anc P s = s :: anc P (P.getD s.toNat 0) := by
 have hl := h.1; have hd := (h.2 s h0 h1).1; unfold anc; rw [up, if_pos ⟨h0, by omega⟩]
 congr 1
 refine zs7 h _ _ _ (h.down h0 h1) (by omega) (by omega)
theorem zw0 {P : List Int} {m : Nat} (h : WP P m) : ∀ (k : Nat) (s : Int), inS m s -> s < k -> ((anc P s).length : Int) <= s + 1
 | 0, s, hs, hk => by
  rcases hs with rfl | hs
  . simp [q6t]
  . omega
 | k + 1, s, hs, hk => by
  rcases hs with rfl | hs
  . simp [q6t]
  . rw [q63 h hs.1 hs.2, Xe]; have hd := (h.2 s hs.1 hs.2).1; have := zw0 h k _ (h.down hs.1 hs.2) (by omega); omega
theorem j9m {P : List Int} {m : Nat} (h : WP P m) {s : Int} (hs : inS m s) : (anc P s).length <= m := by
 have := zw0 h (s.toNat + 1) s hs (by omega); rcases hs with rfl | hs
 . simp [q6t]
 . omega
theorem z5u {P : List Int} {m : Nat} (h : WP P m) : ∀ (k : Nat) (s : Int), inS m s -> s < k -> ∀ x ∈ anc P s, 0 <= x /\ x <= s
 | 0, s, hs, hk, x, hx => by
  rcases hs with rfl | hs
  . simp [q6t] at hx
  . omega
 | k + 1, s, hs, hk, x, hx => by
  rcases hs with rfl | hs
  . simp [q6t] at hx
  .
   rw [q63 h hs.1 hs.2] at hx; rcases List.mem_cons.1 hx with rfl | hx
   . exact ⟨hs.1, by omega⟩
   . have hd := (h.2 s hs.1 hs.2).1; have := z5u h k _ (h.down hs.1 hs.2) (by omega) x hx; omega
theorem j5f {g : GGraph} {m : Nat} (h : WP g.Parent m) (hm : m <= 8) (hl : g.Parent.length <= 1000) {s : Int} (hs : inS m s) : qm8 g s = some ((anc g.Parent s).length : Int) := by
 have hm' := h.1; refine Ok.eq (jh7 (fun p : Int × Int => inS m p.2 /\ 0 <= p.1 /\ p.1 + (anc g.Parent p.2).length = (anc g.Parent s).length) (fun p => (p.2 + 1).toNat) ?_ ⟨hs, by omega, by simp⟩ (by
  simp only [rounds]; rcases hs with rfl | hs <;> omega))
 rintro rec ⟨d, p⟩ ⟨hi, hd, he⟩ hr; have hle := j9m h hs; dsimp only at hi hd he; simp only [qo1, q2w, q9, Xf]; rcases hi with rfl | hi
 . simp only [show ¬ ((0 : Int) <= -1) by omega, decide_false, Bool.false_and, Bool.false_eq_true, if_false]; rw [q6t] at he; exact Ok.some (by simpa using he)
 . rw [q63 h hi.1 hi.2, Xe] at he; rw [if_pos (by simp only [Xb, decide_eq_true_eq]; omega)]; refine jh4 (Ok.idx' hi.1 (by omega) (Q := fun x => x = g.Parent.getD p.toNat 0) fun x hx => by rw [Xa, hx]; rfl) ?_; rintro x rfl; rw [wrap_i64 _ (by omega)]; have hdn := (h.2 p hi.1 hi.2).1; exact hr _ ⟨h.down hi.1 hi.2, by omega, by simp only; omega⟩ (by simp only; omega)
def sOk (g : GGraph) (s : Nat) : Bool :=
 if s = 0 then g.Parent.getD 0 0 == -1 && g.Bound.getD 0 0 == 0
 else decide (0 <= g.Parent.getD s 0 /\ g.Parent.getD s 0 < s /\ 1 <= g.Bound.getD s 0 /\ g.Bound.getD s 0 <= 64) && decide ((anc g.Parent s).length <= 4)
theorem WP.of {g : GGraph} {m : Nat} (hm : m <= g.Parent.length) (h : ∀ s < m, sOk g s = true) : WP g.Parent m := by
 refine ⟨hm, fun s h0 h1 => ?_⟩; have := h s.toNat (by omega); unfold sOk at this
 split at this
 .
  rename_i hz
  rw [Xb, beq_iff_eq] at this; rw [hz, this.1]; exact ⟨by omega, by omega, fun _ => rfl⟩
 . rw [Xb, decide_eq_true_eq] at this; exact ⟨by omega, fun _ => this.1.1, by omega⟩
theorem WP.next {g : GGraph} {m : Nat} (h : WP g.Parent m) (hm : m < g.Parent.length) (h0 : 0 < m) (h1 : 0 <= g.Parent.getD m 0) (h2 : g.Parent.getD m 0 < m) : WP g.Parent (m + 1) := by
 refine ⟨by omega, fun s hs0 hs1 => ?_⟩; rcases Xd (show s <= m by omega) with hlt | rfl
 . exact h.2 s hs0 hlt
 . simp only [Int.toNat_natCast]; exact ⟨h2, fun _ => h1, by omega⟩
theorem getD_some {α : Type} {l : List α} {i : Nat} {x d : α} (h : l[i]? = some x) : x = l.getD i d := by rw [Xa, h]; rfl
theorem j3w {g : GGraph} {s : Nat} (hb : g.Bound.length = g.Parent.length) (hl : g.Parent.length <= 8) (hs : s < g.Parent.length) (h : ∀ t < s, sOk g t = true) : qd2 g s = some (sOk g s) := by
 have hw := WP.of (m := s) (by omega) h; unfold qd2 sOk
 by_cases h0 : s = 0
 . subst h0; simp only [Int.natCast_zero, beq_self_eq_true, if_true]; refine Ok.eq (jh4 (Ok.idx' (by omega) (by omega) (Q := fun x => x = g.Parent.getD 0 0) fun x hx => getD_some hx) ?_); rintro x rfl; refine jh5 (fun h1 => ?_) (fun h1 => Ok.some (by rw [h1]; rfl)); refine jh4 (Ok.idx' (by omega) (by omega) (Q := fun x => x = g.Bound.getD 0 0) fun x hx => getD_some hx) ?_; rintro x rfl; exact Ok.some (by rw [h1]; rfl)
 .
  rw [if_neg (by simp; omega), if_neg h0]; refine Ok.eq (jh4 (Ok.idx' (by omega) (by omega) (Q := fun x => x = g.Parent.getD s 0) fun x hx => getD_some hx) ?_); rintro x rfl; simp only [q2w, q9, Xf]; refine jh5 (fun h1 => ?_) (fun h1 => Ok.some ?_)
  .
   simp only [Xb, decide_eq_true_eq] at h1; have hn := hw.next hs (by omega) h1.1 h1.2; refine jh4 (Ok.idx' (by omega) (by omega) (Q := fun x => x = g.Bound.getD s 0) fun x hx => getD_some hx) ?_; rintro x rfl; refine jh5 (fun h2 => ?_) (fun h2 => Ok.some ?_)
   .
    refine jh5 (fun h3 => ?_) (fun h3 => Ok.some ?_)
    .
     simp only [decide_eq_true_eq] at h2 h3; refine jh4 (jh8 (j5f hn (by omega) (by omega) (s := s) (.inr ⟨by omega, by omega⟩)) (Q := fun x => x = ((anc g.Parent s).length : Int)) rfl) ?_; rintro x rfl; refine Ok.some ?_; rw [decide_eq_true (show 0 <= g.Parent.getD s 0 /\ g.Parent.getD s 0 < s /\ 1 <= g.Bound.getD s 0 /\ g.Bound.getD s 0 <= 64 from ⟨h1.1, h1.2, h2, h3⟩)]; simp only [Bool.true_and]
     congr 1
     apply propext; omega
    . simp only [decide_eq_false_iff_not] at h3; rw [decide_eq_false (by omega)]; rfl
   . simp only [decide_eq_false_iff_not] at h2; rw [decide_eq_false (by omega)]; rfl
  . rw [Bool.and_eq_false_iff, decide_eq_false_iff_not, decide_eq_false_iff_not] at h1; rw [decide_eq_false (by omega)]; rfl
end VA
end Go.Proofs.YteibkihbdgphnaaGreat
