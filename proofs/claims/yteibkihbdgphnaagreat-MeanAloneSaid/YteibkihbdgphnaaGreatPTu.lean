/-
  The law in plain words: what its plain function gives is true. No condition beyond those that each theorem names.
-/
import Derived.Test.YteibkihbdgphnaaGreatWalkMA1
import Derived.Test.YteibkihbdgphnaaGreatPTt
set_option linter.unusedSimpArgs false
set_option linter.unusedVariables false
set_option linter.unusedSectionVars false
namespace Go.Proofs.YteibkihbdgphnaaGreat
open Go Go.RowKit
namespace SO
section
variable {key : GOut → Int}
def Blk (key : GOut → Int) (v : Nat) (l : List GOut) : Prop := ∀ k : Nat, Inc key ((l.drop (k * v)).take v)
theorem Blk.nil (v : Nat) : Blk key v [] := fun k => by simp
theorem Blk.app {v k : Nat} {L R : List GOut} (h : Blk key v L) (hl : L.length = k * v) (hR : Inc key R) (hr : R.length ≤ v) : Blk key v (L ++ R) := fun j => by
 rcases Nat.lt_or_ge j k with hj | hj
 · have h1 : (j + 1) * v ≤ k * v := Nat.mul_le_mul_right _ hj; rw [Nat.add_mul, Nat.one_mul] at h1; rw [List.drop_append_of_le_length (by omega), List.take_append_of_le_length (by rw [List.length_drop]; omega)]; exact h j
 · have h1 : k * v ≤ j * v := Nat.mul_le_mul_right _ hj; rw [List.drop_append, List.drop_of_length_le (l := L) (by omega), List.nil_append]; exact hR.sublist ((List.take_sublist _ _).trans (List.drop_sublist _ _))
theorem Blk.drop {v : Nat} {L : List GOut} (h : Blk key v L) (k : Nat) : Blk key v (L.drop (k * v)) := fun j => by
 rw [List.drop_drop, ← Nat.add_mul]; exact h (k + j)
theorem Blk.all {v : Nat} {L : List GOut} (h : Blk key v L) (hl : L.length ≤ v) : Inc key L := by
 have := h 0; rw [Nat.zero_mul, List.drop_zero, List.take_of_length_le hl] at this; exact this
abbrev Same (key : GOut → Int) (S Z : List GOut) : Prop := ∀ k : Int, Z.filter (fun x => decide (key x = k)) = S.filter (fun x => decide (key x = k))
variable {cmp : GOut → GOut → Option Int} (hc : ∀ x y, ∃ n, cmp x y = some n ∧ (n < 0 ↔ key x < key y))
include hc
theorem stable_st {data : List GOut} (hn : data.length < 100000000) : Ok (q0v data cmp) (fun r => Srt key data r) := by
 obtain ⟨N, hN⟩ : ∃ N, N = data.length := ⟨_, rfl⟩; have hlen : ∀ {Z : List GOut}, Same key data Z → Z.length = N := fun {Z} h => by rw [hN]; exact (zp5 _ Z data rfl h).symm
 unfold q0v; refine jb0 (P := fun r => Srt key data r) ?_ fun r hr => Ok.guard hr.len (Ok.some hr); unfold q3q; rw [← hN]; refine jb3 (fun s => ∃ (k : Nat) (L R : List GOut), s = (((k * 20 : Nat) : Int), ((k * 20 + 20 : Nat) : Int), L ++ R) ∧ L.length = k * 20 ∧ k * 20 ≤ N ∧ Blk key 20 L ∧ Same key data (L ++ R)) (fun s => N - s.1.toNat) ?_ ⟨0, [], data, rfl, rfl, Nat.zero_le _, Blk.nil _, fun _ => rfl⟩ (by simp only [rounds]; omega); rintro rec _ ⟨k, L, R, rfl, hL, hk, hB, hS⟩ hr; have hall := hlen hS; rw [List.length_append] at hall
 -- a block is sorted
 have hins : ∀ (S R' : List GOut), R = S ++ R' → Ok (q0o (L ++ R) ((k * 20 : Nat) : Int) ((k * 20 + S.length : Nat) : Int) cmp) (fun r => ∃ Z, r = L ++ Z ++ R' ∧ Srt key S Z) := fun S R' hR => by
  have := zg4 (A := L) (B := R') (S := S) hc (by rw [hR] at hall; simp only [List.length_append] at hall ⊢; omega); rw [List.length_append, hL] at this; rw [hR, ← List.append_assoc]; exact this
 have hsame : ∀ {S Z R' : List GOut}, R = S ++ R' → Srt key S Z → Same key data ((L ++ Z) ++ R') := fun {S Z R'} hR hZ q => by
  rw [← hS q, hR]; simp only [List.filter_append, hZ.fil q, List.append_assoc]
 unfold q54; dsimp only; refine jb1 (fun hx => ?_) (fun hx => ?_)
 ·
  simp only [decide_eq_true_eq] at hx; have hR : R = R.take 20 ++ R.drop 20 := (List.take_append_drop _ _).symm; have hl20 : (R.take 20).length = 20 := by rw [List.length_take]; omega
  have h1 := hins _ _ hR; rw [hl20] at h1; refine jb0 h1 fun v hv => ?_; obtain ⟨Z, rfl, hZ⟩ := hv; have hZl := hZ.len; rw [hl20] at hZl; refine Ok.guard (by rw [hlen (hsame hR hZ)]; rw [List.length_append]; omega) ?_; have hw : IntKind.i64.wrap (((k * 20 + 20 : Nat) : Int) + 20) = ((k * 20 + 20 + 20 : Nat) : Int) := by rw [wrap_i64 _ (by omega)]; omega
  rw [hw]; refine hr _ ⟨k + 1, L ++ Z, R.drop 20, by rw [show (k + 1) * 20 = k * 20 + 20 by omega], by rw [List.length_append]; omega, by omega, hB.app hL hZ.inc (by omega), hsame hR hZ⟩ (by dsimp only; omega)
 ·
  simp only [decide_eq_false_iff_not] at hx; unfold q30; have h1 := hins R [] (by simp); rw [show k * 20 + R.length = N by omega] at h1; refine jb0 h1 fun v hv => ?_; obtain ⟨Z, rfl, hZ⟩ := hv; have hZl := hZ.len; have hs1 := hsame (R' := []) (by simp) hZ; refine Ok.guard (by rw [hlen hs1]; rw [List.length_append]; omega) ?_; have hB1 : Blk key 20 (L ++ Z) := hB.app hL hZ.inc (by omega); rw [List.append_nil] at hs1 ⊢; clear h1 hins hsame hr hS hB; refine jb3 (fun s => ∃ w : Nat, ∃ l : List GOut, s = ((w : Int), l) ∧ 20 ≤ w ∧ w ≤ 400000000 ∧ Blk key w l ∧ Same key data l) (fun s => N - s.1.toNat) ?_ ⟨20, L ++ Z, rfl, by omega, by omega, hB1, hs1⟩ (by simp only [rounds]; omega); rintro rec2 _ ⟨w, l, rfl, g1, g2, hBl, hSl⟩ hr2; have hll := hlen hSl; unfold q31; dsimp only; refine jb1 (fun hx => ?_) (fun hx => Ok.some ⟨hBl.all ?_, hSl⟩)
  rotate_left
  · simp only [decide_eq_false_iff_not] at hx; omega
  simp only [decide_eq_true_eq] at hx; have hw2 : IntKind.i64.wrap (2 * (w : Int)) = ((2 * w : Nat) : Int) := by rw [wrap_i64 _ (by omega)]; omega
  have hw3 : IntKind.i64.wrap ((w : Int) * 2) = ((2 * w : Nat) : Int) := by rw [wrap_i64 _ (by omega)]; omega
  rw [hw2]; refine jb3 (fun s => ∃ (k : Nat) (L R : List GOut), s = (((k * (2 * w) : Nat) : Int), ((k * (2 * w) + 2 * w : Nat) : Int), L ++ R) ∧ L.length = k * (2 * w) ∧ k * (2 * w) ≤ N ∧ Blk key (2 * w) L ∧ Blk key w R ∧ Same key data (L ++ R)) (fun s => N - s.1.toNat) ?_ ⟨0, [], l, by simp, by simp, by simp, Blk.nil _, hBl, by rw [List.nil_append]; exact hSl⟩ (by simp only [rounds]; omega); rintro rec4 _ ⟨k, L, R, rfl, hL, hk, hB, hBR, hS⟩ hr4; have hall := hlen hS; rw [List.length_append] at hall; have hlt : k * (2 * w) < 1000000000 := by omega
  have haw : IntKind.i64.wrap (((k * (2 * w) : Nat) : Int) + (w : Int)) = ((k * (2 * w) + w : Nat) : Int) := by rw [wrap_i64 _ (by omega)]; omega
  have hsym : ∀ (X Y R' : List GOut), R = X ++ Y ++ R' → X ≠ [] → Y ≠ [] → Inc key X → Inc key Y → Ok (q38 (L ++ R) ((k * (2 * w) : Nat) : Int) ((k * (2 * w) + X.length : Nat) : Int) ((k * (2 * w) + X.length + Y.length : Nat) : Int) cmp) (fun r => ∃ Z, r = L ++ Z ++ R' ∧ Srt key (X ++ Y) Z) := fun X Y R' hR h1 h2 h3 h4 =>
   z0c hc rounds (A := L) (X := X) (Y := Y) (B := R') (by rw [hR]; simp only [List.append_assoc]) hL.symm rfl rfl h1 h2 h3 h4 (by rw [List.length_append]; omega) (by rw [hR] at hall; simp only [List.length_append] at hall; simp only [rounds]; omega)
  have hsame : ∀ {S Z R' : List GOut}, R = S ++ R' → Srt key S Z → Same key data ((L ++ Z) ++ R') := fun {S Z R'} hR hZ q => by
   rw [← hS q, hR]; simp only [List.filter_append, hZ.fil q, List.append_assoc]
  have hX0 : Inc key (R.take w) := by have := hBR 0; rw [Nat.zero_mul, List.drop_zero] at this; exact this
  have hY0 : Inc key ((R.drop w).take w) := by have := hBR 1; rw [Nat.one_mul] at this; exact this
  unfold q55; dsimp only; refine jb1 (fun hy => ?_) (fun hy => ?_)
  ·
   simp only [decide_eq_true_eq] at hy; rw [haw, hw2]; have l1 : (R.take w).length = w := by rw [List.length_take]; omega
   have l2 : ((R.drop w).take w).length = w := by rw [List.length_take, List.length_drop]; omega
   have hR : R = R.take w ++ (R.drop w).take w ++ R.drop (2 * w) := by
    have e : R.drop (2 * w) = (R.drop w).drop w := by rw [List.drop_drop]; congr 1; omega
    rw [e, List.append_assoc, List.take_append_drop, List.take_append_drop]
   have h1 := hsym _ _ _ hR (fun h => by rw [h] at l1; simp at l1; omega) (fun h => by rw [h] at l2; simp at l2; omega) hX0 hY0; rw [l1, l2, show k * (2 * w) + w + w = k * (2 * w) + 2 * w by omega] at h1; refine jb0 h1 fun v hv => ?_; obtain ⟨Z, rfl, hZ⟩ := hv; have hZl := hZ.len; rw [List.length_append, l1, l2] at hZl; refine Ok.guard (by rw [hlen (hsame hR hZ)]; rw [List.length_append]; omega) ?_; have hw : IntKind.i64.wrap (((k * (2 * w) + 2 * w : Nat) : Int) + ((2 * w : Nat) : Int)) = ((k * (2 * w) + 2 * w + 2 * w : Nat) : Int) := by rw [wrap_i64 _ (by omega)]; omega
   rw [hw]; have hk1 : (k + 1) * (2 * w) = k * (2 * w) + 2 * w := by rw [Nat.add_mul, Nat.one_mul]
   refine hr4 _ ⟨k + 1, L ++ Z, R.drop (2 * w), by rw [hk1], by rw [List.length_append, hk1]; omega, by omega, hB.app hL hZ.inc (by omega), hBR.drop 2, hsame hR hZ⟩ (by dsimp only; omega)
  ·
   simp only [decide_eq_false_iff_not] at hy; unfold q2y; rw [haw, hw3]; refine jb1 (fun hz => ?_) (fun hz => ?_)
   ·
    simp only [decide_eq_true_eq] at hz; have l1 : (R.take w).length = w := by rw [List.length_take]; omega
    have l2 : (R.drop w).length = N - (k * (2 * w) + w) := by rw [List.length_drop]; omega
    have hYd : Inc key (R.drop w) := by rw [List.take_of_length_le (by omega)] at hY0; exact hY0
    have hR : R = R.take w ++ R.drop w ++ [] := by rw [List.append_nil, List.take_append_drop]
    have h1 := hsym _ _ _ hR (fun h => by rw [h] at l1; simp at l1; omega) (fun h => by rw [h] at l2; simp at l2; omega) hX0 hYd; rw [l1, l2, show k * (2 * w) + w + (N - (k * (2 * w) + w)) = N by omega] at h1; refine jb0 h1 fun v hv => ?_; obtain ⟨Z, rfl, hZ⟩ := hv; have hZl := hZ.len; rw [List.length_append, l1, l2] at hZl; have hs2 := hsame hR hZ; refine Ok.guard (by rw [hlen hs2]; rw [List.length_append]; omega) ?_; rw [List.append_nil] at hs2 ⊢; exact hr2 _ ⟨2 * w, L ++ Z, rfl, by omega, by omega, hB.app hL hZ.inc (by omega), hs2⟩ (by dsimp only; omega)
   · simp only [decide_eq_false_iff_not] at hz; exact hr2 _ ⟨2 * w, L ++ R, rfl, by omega, by omega, hB.app hL (hBR.all (by omega)) (by omega), hS⟩ (by dsimp only; omega)
end
end SO
end Go.Proofs.YteibkihbdgphnaaGreat
