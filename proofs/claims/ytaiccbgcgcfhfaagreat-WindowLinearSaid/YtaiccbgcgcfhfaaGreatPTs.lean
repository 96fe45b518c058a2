/-
  The law in plain words: what its plain function gives is true. No condition beyond those that each theorem names.
-/
import Derived.Test.YtaiccbgcgcfhfaaGreatWalkWL1
import Derived.Test.YtaiccbgcgcfhfaaGreatPSo
import Derived.Test.YtaiccbgcgcfhfaaGreatP05a
set_option linter.unusedSimpArgs false
set_option linter.unusedVariables false
set_option linter.unusedSectionVars false
open List renaming length_append -> Xa, filter_cons_of_pos -> Xb, pairwise_append -> Xc, take_succ_eq_append_getElem -> Xd, drop_eq_getElem_cons -> Xe, pairwise_cons -> Xf, filter_cons_of_neg -> Xg, append_assoc -> Xh, mem_cons -> Xi, filter_append -> Xj, mem_filter -> Xl, perm_iff_count -> Xn, count_filter -> Xo, length_cons -> Xp
open Int renaming toNat_natCast -> Xk, le_refl -> Xm
namespace Go.Proofs.YtaiccbgcgcfhfaaGreat
open Go Go.RowKit
namespace SO
section
variable {key : GOut -> Int}
structure Srt (key : GOut -> Int) (S Z : List GOut) : Prop where
 inc : Z.Pairwise fun x y => key x <= key y
 fil : ∀ k : Int, Z.filter (fun x => decide (key x = k)) = S.filter (fun x => decide (key x = k))
theorem Srt.refl {S : List GOut} (h : S.Pairwise fun x y => key x <= key y) : Srt key S S := ⟨h, fun _ => rfl⟩
theorem Srt.trans {S Z Z' : List GOut} (h : Srt key S Z) (k : Srt key Z Z') : Srt key S Z' := ⟨k.inc, fun x => (k.fil x).trans (h.fil x)⟩
theorem Srt.mem {S Z : List GOut} (h : Srt key S Z) (x : GOut) : x ∈ Z ↔ x ∈ S := by
 have := h.fil (key x); have h1 : x ∈ Z.filter (fun y => decide (key y = key x)) ↔ x ∈ S.filter (fun y => decide (key y = key x)) := by rw [this]
 simpa [Xl] using h1
theorem zw1 : ∀ (n : Nat) (Z S : List GOut), Z.length = n -> (∀ k : Int, Z.filter (fun x => decide (key x = k)) = S.filter (fun x => decide (key x = k))) -> S.length = n
 | n, Z, S, hz, h => by
  have hp : Z.Perm S := by
   classical
   rw [Xn]; intro x; have h1 : ∀ L : List GOut, L.count x = (L.filter (fun y => decide (key y = key x))).count x := fun L => by
    rw [Xo (by simp)]
   rw [h1 Z, h1 S, h]
  rw [<- hp.length_eq]; exact hz
theorem Srt.perm {S Z : List GOut} (h : Srt key S Z) : Z.Perm S := by
 classical
 rw [Xn]; intro x; have h1 : ∀ L : List GOut, L.count x = (L.filter (fun y => decide (key y = key x))).count x := fun L => by
  rw [Xo (by simp)]
 rw [h1 Z, h1 S, h.fil]
theorem Srt.len {S Z : List GOut} (h : Srt key S Z) : Z.length = S.length := (zw1 _ Z S rfl h.fil).symm
theorem Srt.unique : ∀ {Z Z' : List GOut}, Z.Pairwise (fun x y => key x <= key y) -> Z'.Pairwise (fun x y => key x <= key y) -> (∀ k : Int, Z.filter (fun x => decide (key x = k)) = Z'.filter (fun x => decide (key x = k))) -> Z = Z'
 | [], [], _, _, _ => rfl
 | [], y :: r, _, _, h => by have := h (key y); simp at this
 | x :: r, [], _, _, h => by have := h (key x); simp at this
 | x :: r, y :: q, h1, h2, h => by
  obtain ⟨a1, a2⟩ := Xf.1 h1; obtain ⟨b1, b2⟩ := Xf.1 h2; have hk : key x = key y := by
   have e1 : x ∈ (y :: q).filter (fun z => decide (key z = key x)) := by rw [<- h (key x)]; simp
   have e2 : y ∈ (x :: r).filter (fun z => decide (key z = key y)) := by rw [h (key y)]; simp
   have e1 := (Xl.1 e1).1; have e2 := (Xl.1 e2).1; have le1 : key y <= key x := by
    rcases Xi.1 e1 with rfl | e1
    . exact Xm _
    . exact b1 _ e1
   have le2 : key x <= key y := by
    rcases Xi.1 e2 with rfl | e2
    . exact Xm _
    . exact a1 _ e2
   omega
  have hx : x = y := by
   have := h (key x); rw [Xb (by simp), Xb (by simp [hk])] at this; exact (List.cons.inj this).1
  subst hx; rw [Srt.unique a2 b2 fun k => ?_]; have := h k
  by_cases hkk : key x = k
  . rw [Xb (by simpa using hkk), Xb (by simpa using hkk)] at this; exact (List.cons.inj this).2
  . rw [Xg (by simpa using hkk), Xg (by simpa using hkk)] at this; exact this
theorem z3c {L : List GOut} {k : Int} (h : ∀ x ∈ L, key x ≠ k) : L.filter (fun x => decide (key x = k)) = [] := List.filter_eq_nil_iff.2 fun x hx => by simpa using h x hx
theorem z7c {X Y : List GOut} (h : ∀ x ∈ X, ∀ y ∈ Y, key y < key x) (k : Int) : Y.filter (fun x => decide (key x = k)) ++ X.filter (fun x => decide (key x = k)) = X.filter (fun x => decide (key x = k)) ++ Y.filter (fun x => decide (key x = k)) := by
 by_cases hy : ∃ y ∈ Y, key y = k
 . obtain ⟨y, hy, hk⟩ := hy; rw [z3c (L := X) fun x hx e => by have := h x hx y hy; omega]; simp
 . rw [z3c (L := Y) fun y hy' e => hy ⟨y, hy', e⟩]; simp
theorem swp (P Q : List GOut) (x y : GOut) : ((P ++ x :: y :: Q).set P.length y).set (P.length + 1) x = P ++ y :: x :: Q := by
 rw [set_mid]; have : P ++ y :: y :: Q = (P ++ [y]) ++ y :: Q := by simp
 rw [this, show P.length + 1 = (P ++ [y]).length by simp, set_mid]; simp
theorem get_at {P Q : List GOut} {x : GOut} {i : Nat} (hi : i = P.length) (h : i < (P ++ x :: Q).length) : (P ++ x :: Q)[i] = x := by
 subst hi; exact z9s P Q x h
theorem z5u {L : List GOut} (h : L.Pairwise fun x y => key x <= key y) {s : Nat} (hs : s < L.length) : ∀ x ∈ L.drop s, key L[s] <= key x := fun x hx => by
 rw [Xe hs] at hx; rcases Xi.1 hx with rfl | hx
 . exact Xm _
 . have := h.sublist (List.drop_sublist s L); rw [Xe hs] at this; exact (Xf.1 this).1 x hx
theorem z5g {L : List GOut} (h : L.Pairwise fun x y => key x <= key y) {s : Nat} (hs : s < L.length) : ∀ x ∈ L.take (s + 1), key x <= key L[s] := fun x hx => by
 rw [Xd hs] at hx; rcases List.mem_append.1 hx with hx | hx
 . have := h.sublist (List.take_sublist (s + 1) L); rw [Xd hs] at this; exact (Xc.1 this).2.2 x hx _ (by simp)
 . simp at hx; rw [hx]; exact Xm _
variable {cmp : GOut -> GOut -> Option Int} (hc : ∀ x y, ∃ n, cmp x y = some n /\ (n < 0 ↔ key x < key y))
include hc
theorem zm4 {A B : List GOut} : ∀ {S : List GOut}, (A ++ S ++ B).length < 1000000000 -> Ok (q0q (A ++ S ++ B) (A.length : Int) (((A ++ S).length : Nat) : Int) cmp) (fun r => ∃ Z, r = A ++ Z ++ B /\ Srt key S Z) := by
 intro S hn; simp only [Xa] at hn; unfold q0q; rw [wrap_i64 _ (by omega)]
 by_cases hS : S = []
 . subst hS; refine jl2 (fun s => s = ((A.length : Int) + 1, A ++ [] ++ B)) (fun _ => 0) ?_ rfl (by simp only [rounds]; omega); rintro rec _ rfl hr; unfold q26; dsimp only; rw [if_neg (by simp; omega)]; exact Ok.some ⟨[], rfl, Srt.refl List.Pairwise.nil⟩
 have hS0 : 0 < S.length := List.length_pos_iff.2 hS; refine jl2 (fun s => ∃ i : Nat, ∃ P : List GOut, s = (((A.length + i : Nat) : Int), A ++ P ++ S.drop i ++ B) /\ 1 <= i /\ i <= S.length /\ Srt key (S.take i) P) (fun s => (A.length + S.length) - s.1.toNat) ?_
  ⟨1, S.take 1, by rw [Xh A (S.take 1), List.take_append_drop]; simp, Nat.le_refl _, hS0, Srt.refl (by
   have : (S.take 1).length <= 1 := by rw [List.length_take]; omega
   match S.take 1, this with
   | [], _ => exact List.Pairwise.nil
   | [x], _ => exact List.pairwise_singleton _ _
   | _ :: _ :: _, h => simp at h)⟩ (by simp only [rounds]; omega)
 rintro rec _ ⟨i, P, rfl, h1, h2, hP⟩ hr; have hPl : P.length = i := by rw [hP.len, List.length_take]; omega
 unfold q26; dsimp only; refine jl0 (fun hx => ?_) (fun hx => ?_)
 rotate_left
 .
  have hx : ¬ i < S.length := by simp only [decide_eq_false_iff_not, Xa] at hx; omega
  obtain rfl : i = S.length := by omega
  refine Ok.some ⟨P, by rw [List.drop_length]; simp, ?_⟩; rw [List.take_length] at hP; exact hP
 have hx : i < S.length := by simp only [decide_eq_true_eq, Xa] at hx; omega
 rw [Xe hx]
 generalize hxv : S[i] = x
 refine jl2 (fun s => ∃ P1 P2 : List GOut, s = (((A.length + P1.length : Nat) : Int), A ++ P1 ++ x :: P2 ++ S.drop (i + 1) ++ B) /\ P1 ++ P2 = P /\ ∀ y ∈ P2, key x < key y) (fun s => s.1.toNat) ?_ ⟨P, [], by rw [hPl]; simp, by simp, by simp⟩ (by simp only [rounds]; omega); rintro rec2 _ ⟨P1, P2, rfl, hpp, hgt⟩ hr2; have hlen : P1.length + P2.length = i := by rw [<- hPl, <- hpp, Xa]
 have hinc : (P1 ++ P2).Pairwise fun x y => key x <= key y := by rw [hpp]; exact hP.inc
 -- at its place
 have hgo : (∀ y ∈ P1, key y <= key x) -> Ok (rec (IntKind.i64.wrap (((A.length + i : Nat) : Int) + 1), A ++ P1 ++ x :: P2 ++ S.drop (i + 1) ++ B)) (fun r => ∃ Z, r = A ++ Z ++ B /\ Srt key S Z) := fun hle => by
  rw [wrap_i64 _ (by omega)]; refine hr _ ⟨i + 1, P1 ++ x :: P2, by simp only [Xh]; congr 1, by omega, hx, ?_, ?_⟩ (by dsimp only; omega)
  .
   obtain ⟨q1, q2, q3⟩ := Xc.1 hinc; refine Xc.2 ⟨q1, Xf.2 ⟨fun y hy => Int.le_of_lt (hgt y hy), q2⟩, fun a ha b hb => ?_⟩; rcases Xi.1 hb with rfl | hb
   . exact hle a ha
   . exact q3 a ha b hb
  .
   intro k; rw [Xd hx, hxv, Xj, Xj, <- hP.fil k, <- hpp, Xj, Xh]
   congr 1
   by_cases hk : key x = k
   . rw [z3c (L := P2) fun y hy e => by have := hgt y hy; omega, Xb (by simpa using hk), z3c (L := P2) fun y hy e => by have := hgt y hy; omega]; simp [hk]
   . rw [Xg (by simpa using hk)]; simp [hk]
 unfold q3d; dsimp only; refine jl0 (fun hy => ?_) (fun hy => hgo ?_)
 rotate_left
 . simp only [decide_eq_false_iff_not] at hy; have : P1 = [] := List.eq_nil_of_length_eq_zero (by omega); rw [this]; simp
 simp only [decide_eq_true_eq] at hy; rcases List.eq_nil_or_concat P1 with rfl | ⟨P0, z, rfl⟩
 . simp at hy
 rw [List.concat_eq_append] at hpp hlen hinc hgo ⊢; simp only [Xa, Xp, List.length_nil, Nat.zero_add] at hlen; have hw : IntKind.i64.wrap (((A.length + (P0 ++ [z]).length : Nat) : Int) - 1) = ((A.length + P0.length : Nat) : Int) := by rw [wrap_i64 _ (by simp; omega)]; simp; omega
 rw [hw]; have hform : A ++ (P0 ++ [z]) ++ x :: P2 ++ S.drop (i + 1) ++ B = (A ++ P0) ++ z :: x :: (P2 ++ S.drop (i + 1) ++ B) := by simp only [Xh, List.cons_append, List.nil_append]
 have hall : ((A ++ P0) ++ z :: x :: (P2 ++ S.drop (i + 1) ++ B)).length = A.length + S.length + B.length := by
  simp only [Xa, Xp, List.length_drop]; omega
 have hAP : (A ++ P0).length = A.length + P0.length := Xa; rw [hform]; have hidx : A.length + (P0 ++ [z]).length = A.length + P0.length + 1 := by simp; omega
 rw [hidx]; have g1 : ((A ++ P0) ++ z :: x :: (P2 ++ S.drop (i + 1) ++ B))[A.length + P0.length + 1]'(by omega) = x := by
  have : ((A ++ P0) ++ z :: x :: (P2 ++ S.drop (i + 1) ++ B)) = (A ++ P0 ++ [z]) ++ x :: (P2 ++ S.drop (i + 1) ++ B) := by simp
  simp only [this]; exact get_at (by simp; omega) _
 have g2 : ((A ++ P0) ++ z :: x :: (P2 ++ S.drop (i + 1) ++ B))[A.length + P0.length]'(by omega) = z := get_at (by rw [hAP]) _; refine Ok.bind (jl1 (by omega) (Ok.bind (jl1 (by omega) ?_))); rw [g1, g2]; obtain ⟨n, hn1, hn2⟩ := hc x z; rw [hn1]; refine Ok.bind (Ok.some (jl0 (fun hlt => ?_) (fun hge => ?_)))
 .
  have hlt := hn2.1 (by simpa using hlt); refine Ok.bind (jl1 (by rw [List.length_set]; omega) ?_); rw [Xk, Xk, List.set_comm _ _ (by omega), <- hAP, swp]; refine hr2 _ ⟨P0, x :: P2 |>.tail.cons z, by simp [hAP], by rw [<- hpp]; simp, fun y hy => ?_⟩ (by dsimp only; simp only [Xk, Xa]; simp; try omega); simp only [List.tail_cons, Xi] at hy; rcases hy with rfl | hy
  . exact hlt
  . exact hgt y hy
 .
  have hge : ¬ key x < key z := fun h => by have := hn2.2 h; simp at hge; omega
  rw [<- hform]; refine hgo fun y hy => ?_; obtain ⟨q1, _, _⟩ := Xc.1 hinc; rcases List.mem_append.1 hy with hy | hy
  . have := (Xc.1 q1).2.2 y hy z (by simp); omega
  . simp at hy; rw [hy]; omega
end
end SO
end Go.Proofs.YtaiccbgcgcfhfaaGreat
