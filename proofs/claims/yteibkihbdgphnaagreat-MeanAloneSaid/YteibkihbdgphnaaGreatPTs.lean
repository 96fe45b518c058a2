/-
  The law in plain words: what its plain function gives is true. No condition beyond those that each theorem names.
-/
import Derived.Test.YteibkihbdgphnaaGreatWalkMA1
import Derived.Test.YteibkihbdgphnaaGreatPSo
import Derived.Test.YteibkihbdgphnaaGreatP05a
set_option linter.unusedSimpArgs false
set_option linter.unusedVariables false
set_option linter.unusedSectionVars false
namespace Go.Proofs.YteibkihbdgphnaaGreat
open Go Go.RowKit
namespace SO
section
variable {key : GOut → Int}
structure Srt (key : GOut → Int) (S Z : List GOut) : Prop where
 inc : Z.Pairwise fun x y => key x ≤ key y
 fil : ∀ k : Int, Z.filter (fun x => decide (key x = k)) = S.filter (fun x => decide (key x = k))
theorem Srt.refl {S : List GOut} (h : S.Pairwise fun x y => key x ≤ key y) : Srt key S S := ⟨h, fun _ => rfl⟩
theorem Srt.trans {S Z Z' : List GOut} (h : Srt key S Z) (k : Srt key Z Z') : Srt key S Z' := ⟨k.inc, fun x => (k.fil x).trans (h.fil x)⟩
theorem Srt.mem {S Z : List GOut} (h : Srt key S Z) (x : GOut) : x ∈ Z ↔ x ∈ S := by
 have := h.fil (key x); have h1 : x ∈ Z.filter (fun y => decide (key y = key x)) ↔ x ∈ S.filter (fun y => decide (key y = key x)) := by rw [this]
 simpa [List.mem_filter] using h1
theorem zp5 : ∀ (n : Nat) (Z S : List GOut), Z.length = n → (∀ k : Int, Z.filter (fun x => decide (key x = k)) = S.filter (fun x => decide (key x = k))) → S.length = n
 | n, Z, S, hz, h => by
  have hp : Z.Perm S := by
   classical
   rw [List.perm_iff_count]; intro x; have h1 : ∀ L : List GOut, L.count x = (L.filter (fun y => decide (key y = key x))).count x := fun L => by
    rw [List.count_filter (by simp)]
   rw [h1 Z, h1 S, h]
  rw [← hp.length_eq]; exact hz
theorem Srt.perm {S Z : List GOut} (h : Srt key S Z) : Z.Perm S := by
 classical
 rw [List.perm_iff_count]; intro x; have h1 : ∀ L : List GOut, L.count x = (L.filter (fun y => decide (key y = key x))).count x := fun L => by
  rw [List.count_filter (by simp)]
 rw [h1 Z, h1 S, h.fil]
theorem Srt.len {S Z : List GOut} (h : Srt key S Z) : Z.length = S.length := (zp5 _ Z S rfl h.fil).symm
theorem Srt.unique : ∀ {Z Z' : List GOut}, Z.Pairwise (fun x y => key x ≤ key y) → Z'.Pairwise (fun x y => key x ≤ key y) → (∀ k : Int, Z.filter (fun x => decide (key x = k)) = Z'.filter (fun x => decide (key x = k))) → Z = Z'
 | [], [], _, _, _ => rfl
 | [], y :: r, _, _, h => by have := h (key y); simp at this
 | x :: r, [], _, _, h => by have := h (key x); simp at this
 | x :: r, y :: q, h1, h2, h => by
  obtain ⟨a1, a2⟩ := List.pairwise_cons.1 h1; obtain ⟨b1, b2⟩ := List.pairwise_cons.1 h2; have hk : key x = key y := by
   have e1 : x ∈ (y :: q).filter (fun z => decide (key z = key x)) := by rw [← h (key x)]; simp
   have e2 : y ∈ (x :: r).filter (fun z => decide (key z = key y)) := by rw [h (key y)]; simp
   have e1 := (List.mem_filter.1 e1).1; have e2 := (List.mem_filter.1 e2).1; have le1 : key y ≤ key x := by
    rcases List.mem_cons.1 e1 with rfl | e1
    · exact Int.le_refl _
    · exact b1 _ e1
   have le2 : key x ≤ key y := by
    rcases List.mem_cons.1 e2 with rfl | e2
    · exact Int.le_refl _
    · exact a1 _ e2
   omega
  have hx : x = y := by
   have := h (key x); rw [List.filter_cons_of_pos (by simp), List.filter_cons_of_pos (by simp [hk])] at this; exact (List.cons.inj this).1
  subst hx; rw [Srt.unique a2 b2 fun k => ?_]; have := h k
  by_cases hkk : key x = k
  · rw [List.filter_cons_of_pos (by simpa using hkk), List.filter_cons_of_pos (by simpa using hkk)] at this; exact (List.cons.inj this).2
  · rw [List.filter_cons_of_neg (by simpa using hkk), List.filter_cons_of_neg (by simpa using hkk)] at this; exact this
theorem z1o {L : List GOut} {k : Int} (h : ∀ x ∈ L, key x ≠ k) : L.filter (fun x => decide (key x = k)) = [] := List.filter_eq_nil_iff.2 fun x hx => by simpa using h x hx
theorem z5m {X Y : List GOut} (h : ∀ x ∈ X, ∀ y ∈ Y, key y < key x) (k : Int) : Y.filter (fun x => decide (key x = k)) ++ X.filter (fun x => decide (key x = k)) = X.filter (fun x => decide (key x = k)) ++ Y.filter (fun x => decide (key x = k)) := by
 by_cases hy : ∃ y ∈ Y, key y = k
 · obtain ⟨y, hy, hk⟩ := hy; rw [z1o (L := X) fun x hx e => by have := h x hx y hy; omega]; simp
 · rw [z1o (L := Y) fun y hy' e => hy ⟨y, hy', e⟩]; simp
theorem swp (P Q : List GOut) (x y : GOut) : ((P ++ x :: y :: Q).set P.length y).set (P.length + 1) x = P ++ y :: x :: Q := by
 rw [set_mid]; have : P ++ y :: y :: Q = (P ++ [y]) ++ y :: Q := by simp
 rw [this, show P.length + 1 = (P ++ [y]).length by simp, set_mid]; simp
theorem get_at {P Q : List GOut} {x : GOut} {i : Nat} (hi : i = P.length) (h : i < (P ++ x :: Q).length) : (P ++ x :: Q)[i] = x := by
 subst hi; exact z8i P Q x h
theorem z4g {L : List GOut} (h : L.Pairwise fun x y => key x ≤ key y) {s : Nat} (hs : s < L.length) : ∀ x ∈ L.drop s, key L[s] ≤ key x := fun x hx => by
 rw [List.drop_eq_getElem_cons hs] at hx; rcases List.mem_cons.1 hx with rfl | hx
 · exact Int.le_refl _
 · have := h.sublist (List.drop_sublist s L); rw [List.drop_eq_getElem_cons hs] at this; exact (List.pairwise_cons.1 this).1 x hx
theorem z3r {L : List GOut} (h : L.Pairwise fun x y => key x ≤ key y) {s : Nat} (hs : s < L.length) : ∀ x ∈ L.take (s + 1), key x ≤ key L[s] := fun x hx => by
 rw [List.take_succ_eq_append_getElem hs] at hx; rcases List.mem_append.1 hx with hx | hx
 · have := h.sublist (List.take_sublist (s + 1) L); rw [List.take_succ_eq_append_getElem hs] at this; exact (List.pairwise_append.1 this).2.2 x hx _ (by simp)
 · simp at hx; rw [hx]; exact Int.le_refl _
variable {cmp : GOut → GOut → Option Int} (hc : ∀ x y, ∃ n, cmp x y = some n ∧ (n < 0 ↔ key x < key y))
include hc
theorem zg4 {A B : List GOut} : ∀ {S : List GOut}, (A ++ S ++ B).length < 1000000000 → Ok (q0o (A ++ S ++ B) (A.length : Int) (((A ++ S).length : Nat) : Int) cmp) (fun r => ∃ Z, r = A ++ Z ++ B ∧ Srt key S Z) := by
 intro S hn; simp only [List.length_append] at hn; unfold q0o; rw [wrap_i64 _ (by omega)]
 by_cases hS : S = []
 · subst hS; refine jb3 (fun s => s = ((A.length : Int) + 1, A ++ [] ++ B)) (fun _ => 0) ?_ rfl (by simp only [rounds]; omega); rintro rec _ rfl hr; unfold q25; dsimp only; rw [if_neg (by simp; omega)]; exact Ok.some ⟨[], rfl, Srt.refl List.Pairwise.nil⟩
 have hS0 : 0 < S.length := List.length_pos_iff.2 hS; refine jb3 (fun s => ∃ i : Nat, ∃ P : List GOut, s = (((A.length + i : Nat) : Int), A ++ P ++ S.drop i ++ B) ∧ 1 ≤ i ∧ i ≤ S.length ∧ Srt key (S.take i) P) (fun s => (A.length + S.length) - s.1.toNat) ?_
  ⟨1, S.take 1, by rw [List.append_assoc A (S.take 1), List.take_append_drop]; simp, Nat.le_refl _, hS0, Srt.refl (by
   have : (S.take 1).length ≤ 1 := by rw [List.length_take]; omega
   match S.take 1, this with
   | [], _ => exact List.Pairwise.nil
   | [x], _ => exact List.pairwise_singleton _ _
   | _ :: _ :: _, h => simp at h)⟩ (by simp only [rounds]; omega)
 rintro rec _ ⟨i, P, rfl, h1, h2, hP⟩ hr; have hPl : P.length = i := by rw [hP.len, List.length_take]; omega
 unfold q25; dsimp only; refine jb1 (fun hx => ?_) (fun hx => ?_)
 rotate_left
 ·
  have hx : ¬ i < S.length := by simp only [decide_eq_false_iff_not, List.length_append] at hx; omega
  obtain rfl : i = S.length := by omega
  refine Ok.some ⟨P, by rw [List.drop_length]; simp, ?_⟩; rw [List.take_length] at hP; exact hP
 have hx : i < S.length := by simp only [decide_eq_true_eq, List.length_append] at hx; omega
 rw [List.drop_eq_getElem_cons hx]
 generalize hxv : S[i] = x
 refine jb3 (fun s => ∃ P1 P2 : List GOut, s = (((A.length + P1.length : Nat) : Int), A ++ P1 ++ x :: P2 ++ S.drop (i + 1) ++ B) ∧ P1 ++ P2 = P ∧ ∀ y ∈ P2, key x < key y) (fun s => s.1.toNat) ?_ ⟨P, [], by rw [hPl]; simp, by simp, by simp⟩ (by simp only [rounds]; omega); rintro rec2 _ ⟨P1, P2, rfl, hpp, hgt⟩ hr2; have hlen : P1.length + P2.length = i := by rw [← hPl, ← hpp, List.length_append]
 have hinc : (P1 ++ P2).Pairwise fun x y => key x ≤ key y := by rw [hpp]; exact hP.inc
 -- at its place
 have hgo : (∀ y ∈ P1, key y ≤ key x) → Ok (rec (IntKind.i64.wrap (((A.length + i : Nat) : Int) + 1), A ++ P1 ++ x :: P2 ++ S.drop (i + 1) ++ B)) (fun r => ∃ Z, r = A ++ Z ++ B ∧ Srt key S Z) := fun hle => by
  rw [wrap_i64 _ (by omega)]; refine hr _ ⟨i + 1, P1 ++ x :: P2, by simp only [List.append_assoc]; congr 1, by omega, hx, ?_, ?_⟩ (by dsimp only; omega)
  ·
   obtain ⟨q1, q2, q3⟩ := List.pairwise_append.1 hinc; refine List.pairwise_append.2 ⟨q1, List.pairwise_cons.2 ⟨fun y hy => Int.le_of_lt (hgt y hy), q2⟩, fun a ha b hb => ?_⟩; rcases List.mem_cons.1 hb with rfl | hb
   · exact hle a ha
   · exact q3 a ha b hb
  ·
   intro k; rw [List.take_succ_eq_append_getElem hx, hxv, List.filter_append, List.filter_append, ← hP.fil k, ← hpp, List.filter_append, List.append_assoc]
   congr 1
   by_cases hk : key x = k
   · rw [z1o (L := P2) fun y hy e => by have := hgt y hy; omega, List.filter_cons_of_pos (by simpa using hk), z1o (L := P2) fun y hy e => by have := hgt y hy; omega]; simp [hk]
   · rw [List.filter_cons_of_neg (by simpa using hk)]; simp [hk]
 unfold q3b; dsimp only; refine jb1 (fun hy => ?_) (fun hy => hgo ?_)
 rotate_left
 · simp only [decide_eq_false_iff_not] at hy; have : P1 = [] := List.eq_nil_of_length_eq_zero (by omega); rw [this]; simp
 simp only [decide_eq_true_eq] at hy; rcases List.eq_nil_or_concat P1 with rfl | ⟨P0, z, rfl⟩
 · simp at hy
 rw [List.concat_eq_append] at hpp hlen hinc hgo ⊢; simp only [List.length_append, List.length_cons, List.length_nil, Nat.zero_add] at hlen; have hw : IntKind.i64.wrap (((A.length + (P0 ++ [z]).length : Nat) : Int) - 1) = ((A.length + P0.length : Nat) : Int) := by rw [wrap_i64 _ (by simp; omega)]; simp; omega
 rw [hw]; have hform : A ++ (P0 ++ [z]) ++ x :: P2 ++ S.drop (i + 1) ++ B = (A ++ P0) ++ z :: x :: (P2 ++ S.drop (i + 1) ++ B) := by simp only [List.append_assoc, List.cons_append, List.nil_append]
 have hall : ((A ++ P0) ++ z :: x :: (P2 ++ S.drop (i + 1) ++ B)).length = A.length + S.length + B.length := by
  simp only [List.length_append, List.length_cons, List.length_drop]; omega
 have hAP : (A ++ P0).length = A.length + P0.length := List.length_append; rw [hform]; have hidx : A.length + (P0 ++ [z]).length = A.length + P0.length + 1 := by simp; omega
 rw [hidx]; have g1 : ((A ++ P0) ++ z :: x :: (P2 ++ S.drop (i + 1) ++ B))[A.length + P0.length + 1]'(by omega) = x := by
  have : ((A ++ P0) ++ z :: x :: (P2 ++ S.drop (i + 1) ++ B)) = (A ++ P0 ++ [z]) ++ x :: (P2 ++ S.drop (i + 1) ++ B) := by simp
  simp only [this]; exact get_at (by simp; omega) _
 have g2 : ((A ++ P0) ++ z :: x :: (P2 ++ S.drop (i + 1) ++ B))[A.length + P0.length]'(by omega) = z := get_at (by rw [hAP]) _; refine Ok.bind (jb2 (by omega) (Ok.bind (jb2 (by omega) ?_))); rw [g1, g2]; obtain ⟨n, hn1, hn2⟩ := hc x z; rw [hn1]; refine Ok.bind (Ok.some (jb1 (fun hlt => ?_) (fun hge => ?_)))
 ·
  have hlt := hn2.1 (by simpa using hlt); refine Ok.bind (jb2 (by rw [List.length_set]; omega) ?_); rw [Int.toNat_natCast, Int.toNat_natCast, List.set_comm _ _ (by omega), ← hAP, swp]; refine hr2 _ ⟨P0, x :: P2 |>.tail.cons z, by simp [hAP], by rw [← hpp]; simp, fun y hy => ?_⟩ (by dsimp only; simp only [Int.toNat_natCast, List.length_append]; simp; try omega); simp only [List.tail_cons, List.mem_cons] at hy; rcases hy with rfl | hy
  · exact hlt
  · exact hgt y hy
 ·
  have hge : ¬ key x < key z := fun h => by have := hn2.2 h; simp at hge; omega
  rw [← hform]; refine hgo fun y hy => ?_; obtain ⟨q1, _, _⟩ := List.pairwise_append.1 hinc; rcases List.mem_append.1 hy with hy | hy
  · have := (List.pairwise_append.1 q1).2.2 y hy z (by simp); omega
  · simp at hy; rw [hy]; omega
end
end SO
end Go.Proofs.YteibkihbdgphnaaGreat
