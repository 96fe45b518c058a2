/-
  The law in plain words: what its plain function gives is true. No condition beyond those that each theorem names.
-/
import Derived.Test.YteibkihbdgphnaaGreatWalkMP1
import Derived.Test.YteibkihbdgphnaaGreatLibD
set_option linter.unusedSimpArgs false
set_option linter.unusedVariables false
set_option linter.unusedSectionVars false
open List renaming length_append -> Xa, length_cons -> Xb, take_succ_eq_append_getElem -> Xc, append_assoc -> Xd, drop_eq_getElem_cons -> Xe, length_take -> Xf, cons_append -> Xg, take_append_drop -> Xh, length_pos_iff -> Xi, length_drop -> Xk, take_length -> Xl, drop_length -> Xm
open Int renaming toNat_natCast -> Xj
namespace Go.Proofs.YteibkihbdgphnaaGreat
open Go Go.RowKit
namespace SO
theorem set_mid {α : Type} (A B : List α) (x y : α) : (A ++ x :: B).set A.length y = A ++ y :: B := by
 rw [List.set_append_right _ _ (Nat.le_refl _), Nat.sub_self, List.set_cons_zero]
theorem zu7 {α : Type} (A B : List α) (x : α) (h : A.length < (A ++ x :: B).length) : (A ++ x :: B)[A.length] = x := by
 rw [List.getElem_append_right (Nat.le_refl _)]; simp
theorem z07 {cmp : GOut -> GOut -> Option Int} {A M B : List GOut} : ∀ {U V : List GOut}, U.length = V.length -> (A ++ U ++ M ++ V ++ B).length < 4611686018427387904 ->
  Ok (q15 (A ++ U ++ M ++ V ++ B) (A.length : Int) (((A ++ U ++ M).length : Nat) : Int) (U.length : Int) cmp) (fun r => r = A ++ V ++ M ++ U ++ B) := by
 intro U V hUV hlen; simp only [Xa] at hlen; unfold q15; refine jh7 (fun s => ∃ i : Nat, s.1 = (i : Int) /\ i <= U.length /\ s.2 = A ++ V.take i ++ U.drop i ++ M ++ U.take i ++ V.drop i ++ B) (fun s => U.length - s.1.toNat) ?_ ⟨0, rfl, Nat.zero_le _, by simp⟩ (by simp only [rounds]; omega); rintro rec ⟨t, q⟩ ⟨i, ht, hi, hq⟩ hr; simp only at ht hq; subst ht; unfold q4m; simp only; refine jh5 (fun hc => ?_) (fun hc => Ok.some ?_)
 .
  simp only [decide_eq_true_eq] at hc; have hu : i < U.length := by omega
  have hv : i < V.length := by omega
  have hU : U.drop i = U[i] :: U.drop (i + 1) := Xe hu; have hV : V.drop i = V[i] :: V.drop (i + 1) := Xe hv
  let P := A ++ V.take i
  let N := U.drop (i + 1) ++ M ++ U.take i
  let S := V.drop (i + 1) ++ B
  have hP : P.length = A.length + i := by simp only [P, Xa, Xf]; omega
  have hN : N.length = U.length - (i + 1) + M.length + i := by simp only [N, Xa, Xf, Xk]; omega
  have hq1 : q = P ++ U[i] :: (N ++ V[i] :: S) := by rw [hq, hU, hV]; simp only [P, N, S, Xd, Xg]
  have hq2 : ∀ x, P ++ x :: (N ++ V[i] :: S) = (P ++ x :: N) ++ V[i] :: S := fun x => by simp only [Xd, Xg]
  have e1 : IntKind.i64.wrap ((((A ++ U ++ M).length : Nat) : Int) + (i : Int)) = (((P ++ U[i] :: N).length : Nat) : Int) := by
   rw [wrap_i64 _ (by simp only [Xa]; omega)]; simp only [Xa, Xb, hP, hN]; omega
  have e2 : IntKind.i64.wrap ((A.length : Int) + (i : Int)) = ((P.length : Nat) : Int) := by
   rw [wrap_i64 _ (by omega), hP]; omega
  rw [e1, e2, hq1]; have hS : (P ++ U[i] :: (N ++ V[i] :: S)).length = P.length + 1 + N.length + 1 + S.length := by simp only [Xa, Xb]; omega
  refine Ok.bind (jh6 (by rw [hS]; simp only [Xa, Xb]; omega) ?_); refine Ok.bind (jh6 (by rw [hS]; omega) ?_); have g1 : ∀ h : (P ++ U[i] :: N).length < (P ++ U[i] :: (N ++ V[i] :: S)).length, (P ++ U[i] :: (N ++ V[i] :: S))[(P ++ U[i] :: N).length]'h = V[i] := fun h => by
   have := zu7 (P ++ U[i] :: N) S V[i] (by rw [<- hq2]; exact h); simp only [<- hq2] at this; exact this
  rw [g1, zu7]; refine Ok.bind (jh6 (by simp only [List.length_set]; rw [hS]; simp only [Xa, Xb]; omega) ?_); rw [Xj, Xj, set_mid, hq2, show (P ++ U[i] :: N).length = (P ++ V[i] :: N).length by simp, set_mid, wrap_i64 _ (by omega)]; refine hr _ ⟨i + 1, by simp, by omega, ?_⟩ (by simp only; omega); simp only; rw [Xc hu, Xc hv]; simp only [P, N, S, Xd, Xg, List.nil_append]
 .
  simp only [decide_eq_false_iff_not] at hc; have : i = U.length := by omega
  rw [hq, this, Xl, Xm, hUV, Xl, Xm]; simp
theorem j1j {cmp : GOut -> GOut -> Option Int} {A X Y B : List GOut} (hx : X ≠ []) (hy : Y ≠ []) (hlen : (A ++ X ++ Y ++ B).length < 4611686018427387904) :
  Ok (q2t (A ++ X ++ Y ++ B) (A.length : Int) (((A ++ X).length : Nat) : Int) (((A ++ X ++ Y).length : Nat) : Int) cmp) (fun r => r = A ++ Y ++ X ++ B) := by
 simp only [Xa] at hlen; have hx0 : 0 < X.length := Xi.2 hx; have hy0 : 0 < Y.length := Xi.2 hy; unfold q2t; rw [wrap_i64 _ (by simp only [Xa]; omega), wrap_i64 _ (by simp only [Xa]; omega)]; refine jh7 (fun s => ∃ P U V Q : List GOut, s.1 = (U.length : Int) /\ s.2.1 = (V.length : Int) /\ s.2.2 = A ++ P ++ U ++ V ++ Q ++ B /\ A.length + P.length + U.length = A.length + X.length /\ V.length + Q.length = Y.length /\ Y ++ X = P ++ V ++ U ++ Q /\ 0 < U.length /\ 0 < V.length)
  (fun s => (s.1 + s.2.1).toNat) ?_ ⟨[], X, Y, [], by simp only [Xa]; omega, by simp only [Xa]; omega, by simp, by simp, by simp, by simp, hx0, hy0⟩ (by simp only [rounds, Xa]; omega)
 rintro rec ⟨u, v, q⟩ ⟨P, U, V, Q, hu, hv, hq, hl1, hl2, he, hu0, hv0⟩ hr; simp only at hu hv hq; subst hu hv hq; have hle := congrArg List.length he; simp only [Xa] at hle; unfold q5k; simp only; have em : ((((A ++ X).length : Nat) : Int)) = (((A ++ P ++ U).length : Nat) : Int) := by simp only [Xa]; omega
 refine jh5 (fun hc => jh5 (fun hd => ?_) (fun hd => ?_)) (fun hc => ?_)
 .
  simp only [decide_eq_true_eq] at hd; have hd' : V.length < U.length := by omega
  obtain ⟨U1, U2, rfl, h1⟩ : ∃ U1 U2, U = U1 ++ U2 /\ U1.length = V.length := ⟨U.take V.length, U.drop V.length, (Xh _ _).symm, by rw [Xf]; omega⟩; rw [Xa] at hd' hl1 hle hu0; have hsw := z07 (cmp := cmp) (A := A ++ P) (M := U2) (B := Q ++ B) (U := U1) (V := V) h1 (by simp only [Xa]; omega); have ea : IntKind.i64.wrap ((((A ++ X).length : Nat) : Int) - (((U1 ++ U2).length : Nat) : Int)) = (((A ++ P).length : Nat) : Int) := by
   rw [wrap_i64 _ (by simp only [Xa]; omega)]; simp only [Xa]; omega
  rw [ea, em]; have hdat : A ++ P ++ (U1 ++ U2) ++ V ++ Q ++ B = A ++ P ++ U1 ++ U2 ++ V ++ (Q ++ B) := by simp
  have hml : (((A ++ P ++ (U1 ++ U2)).length : Nat) : Int) = (((A ++ P ++ U1 ++ U2).length : Nat) : Int) := by simp
  rw [hdat, hml, show (V.length : Int) = (U1.length : Int) by omega]; refine Ok.bind (hsw.mono fun r hr' => ?_); subst hr'; refine Ok.guard (by simp only [Xa]; omega) ?_; rw [wrap_i64 _ (by simp only [Xa]; omega)]; refine hr _ ⟨P ++ V, U2, U1, Q, ?_, rfl, ?_, ?_, ?_, ?_, by omega, by omega⟩ ?_
  . simp only [Xa]; omega
  . simp
  . simp only [Xa]; omega
  . omega
  . rw [he]; simp
  . simp only [Xa]; omega
 .
  simp only [decide_eq_false_iff_not] at hd; have hne : U.length ≠ V.length := by
   intro h; simp [h] at hc
  have hd' : U.length < V.length := by omega
  obtain ⟨V1, V2, rfl, h1⟩ : ∃ V1 V2, V = V1 ++ V2 /\ V2.length = U.length := ⟨V.take (V.length - U.length), V.drop (V.length - U.length), (Xh _ _).symm, by rw [Xk]; omega⟩; rw [Xa] at hd' hl2 hle hv0; have hsw := z07 (cmp := cmp) (A := A ++ P) (M := V1) (B := Q ++ B) (U := U) (V := V2) h1.symm (by simp only [Xa]; omega); have ea : IntKind.i64.wrap ((((A ++ X).length : Nat) : Int) - ((U.length : Nat) : Int)) = (((A ++ P).length : Nat) : Int) := by
   rw [wrap_i64 _ (by simp only [Xa]; omega)]; simp only [Xa]; omega
  have eb : IntKind.i64.wrap (IntKind.i64.wrap ((((A ++ X).length : Nat) : Int) + (((V1 ++ V2).length : Nat) : Int)) - (U.length : Int)) = (((A ++ P ++ U ++ V1).length : Nat) : Int) := by
   rw [wrap_i64 ((((A ++ X).length : Nat) : Int) + (((V1 ++ V2).length : Nat) : Int)) (by simp only [Xa]; omega), wrap_i64 _ (by simp only [Xa]; omega)]; simp only [Xa]; omega
  rw [ea, eb]; have hdat : A ++ P ++ U ++ (V1 ++ V2) ++ Q ++ B = A ++ P ++ U ++ V1 ++ V2 ++ (Q ++ B) := by simp
  rw [hdat]; refine Ok.bind (hsw.mono fun r hr' => ?_); subst hr'; refine Ok.guard (by simp only [Xa]; omega) ?_; rw [wrap_i64 _ (by simp only [Xa]; omega)]; refine hr _ ⟨P, V2, V1, U ++ Q, ?_, ?_, ?_, ?_, ?_, ?_, by omega, by omega⟩ ?_
  . simp only; omega
  . simp only [Xa]; omega
  . simp
  . omega
  . simp only [Xa]; omega
  . rw [he]; simp
  . simp only [Xa]; omega
 .
  have hne : (U.length : Int) = (V.length : Int) := by simpa using hc
  unfold q3e; have hsw := z07 (cmp := cmp) (A := A ++ P) (M := []) (B := Q ++ B) (U := U) (V := V) (by omega) (by simp only [Xa, List.length_nil]; omega); have ea : IntKind.i64.wrap ((((A ++ X).length : Nat) : Int) - ((U.length : Nat) : Int)) = (((A ++ P).length : Nat) : Int) := by
   rw [wrap_i64 _ (by simp only [Xa]; omega)]; simp only [Xa]; omega
  rw [ea, em]; have hdat : A ++ P ++ U ++ V ++ Q ++ B = A ++ P ++ U ++ [] ++ V ++ (Q ++ B) := by simp
  have hml : (((A ++ P ++ U).length : Nat) : Int) = (((A ++ P ++ U ++ []).length : Nat) : Int) := by simp
  rw [hdat, hml]; refine Ok.bind (hsw.mono fun r hr' => ?_); subst hr'; refine Ok.guard (by simp only [Xa, List.length_nil]; omega) (Ok.some ?_); have : A ++ Y ++ X ++ B = A ++ (Y ++ X) ++ B := by simp
  rw [this, he]; simp
end SO
end Go.Proofs.YteibkihbdgphnaaGreat
