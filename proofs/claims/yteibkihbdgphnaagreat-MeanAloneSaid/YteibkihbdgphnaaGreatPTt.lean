/-
  The law in plain words: what its plain function gives is true. No condition beyond those that each theorem names.
-/
import Derived.Test.YteibkihbdgphnaaGreatWalkMA1
import Derived.Test.YteibkihbdgphnaaGreatPTs
set_option linter.unusedSimpArgs false
set_option linter.unusedVariables false
set_option linter.unusedSectionVars false
namespace Go.Proofs.YteibkihbdgphnaaGreat
open Go Go.RowKit
namespace SO
section
variable {key : GOut → Int}
abbrev Inc (key : GOut → Int) (L : List GOut) : Prop := L.Pairwise fun x y => key x ≤ key y
theorem gX {A X R : List GOut} {i : Nat} (h1 : A.length ≤ i) (h2 : i < A.length + X.length) (h : i < (A ++ X ++ R).length) : (A ++ X ++ R)[i] = X[i - A.length]'(by omega) := by
 rw [List.getElem_append_left (by rw [List.length_append]; omega), List.getElem_append_right h1]
theorem j59 {x : GOut} {Y : List GOut} (hY : Inc key Y) {t : Nat} (h1 : ∀ y ∈ Y.take t, key y < key x) (h2 : ∀ y ∈ Y.drop t, key x ≤ key y) : Srt key ([x] ++ Y) (Y.take t ++ x :: Y.drop t) := by
 have hs := hY; rw [← List.take_append_drop t Y] at hs; obtain ⟨q1, q2, q3⟩ := List.pairwise_append.1 hs; refine ⟨List.pairwise_append.2 ⟨q1, List.pairwise_cons.2 ⟨h2, q2⟩, fun a ha b hb => ?_⟩, fun k => ?_⟩
 ·
  rcases List.mem_cons.1 hb with rfl | hb
  · exact Int.le_of_lt (h1 a ha)
  · exact q3 a ha b hb
 · have := z5m (key := key) (X := [x]) (Y := Y.take t) (fun a ha b hb => by simp at ha; rw [ha]; exact h1 b hb) k; have e : x :: Y.drop t = [x] ++ Y.drop t := rfl; rw [e, List.filter_append, List.filter_append, ← List.append_assoc, this, List.append_assoc, ← List.filter_append, List.take_append_drop, List.filter_append]
theorem j2j {y : GOut} {X : List GOut} (hX : Inc key X) {t : Nat} (h1 : ∀ x ∈ X.take t, key x ≤ key y) (h2 : ∀ x ∈ X.drop t, key y < key x) : Srt key (X ++ [y]) (X.take t ++ y :: X.drop t) := by
 have hs := hX; rw [← List.take_append_drop t X] at hs; obtain ⟨q1, q2, q3⟩ := List.pairwise_append.1 hs; refine ⟨List.pairwise_append.2 ⟨q1, List.pairwise_cons.2 ⟨fun x hx => Int.le_of_lt (h2 x hx), q2⟩, fun a ha b hb => ?_⟩, fun k => ?_⟩
 ·
  rcases List.mem_cons.1 hb with rfl | hb
  · exact h1 a ha
  · exact q3 a ha b hb
 · have := z5m (key := key) (X := X.drop t) (Y := [y]) (fun a ha b hb => by simp at hb; rw [hb]; exact h2 a ha) k; have e : y :: X.drop t = [y] ++ X.drop t := rfl; rw [e, List.filter_append, List.filter_append, this, ← List.append_assoc, ← List.filter_append, List.take_append_drop, List.filter_append]
theorem z9j {X1 X2 Y1 Y2 Z1 Z2 : List GOut} (hX : Inc key (X1 ++ X2)) (hY : Inc key (Y1 ++ Y2)) (h1 : ∀ x ∈ X2, ∀ y ∈ Y1, key y < key x) (h2 : ∀ x ∈ X1, ∀ y ∈ Y2, key x ≤ key y) (z1 : Srt key (X1 ++ Y1) Z1) (z2 : Srt key (X2 ++ Y2) Z2) :
  Srt key ((X1 ++ X2) ++ (Y1 ++ Y2)) (Z1 ++ Z2) := by
 obtain ⟨_, _, a3⟩ := List.pairwise_append.1 hX; obtain ⟨_, _, b3⟩ := List.pairwise_append.1 hY; refine ⟨List.pairwise_append.2 ⟨z1.inc, z2.inc, fun a ha b hb => ?_⟩, fun k => ?_⟩
 ·
  rcases List.mem_append.1 ((z1.mem a).1 ha) with ha | ha <;> rcases List.mem_append.1 ((z2.mem b).1 hb) with hb | hb
  · exact a3 a ha b hb
  · exact h2 a ha b hb
  · exact Int.le_of_lt (h1 b hb a ha)
  · exact b3 a ha b hb
 ·
  have := z5m (key := key) h1 k; rw [List.filter_append, z1.fil, z2.fil]; simp only [List.filter_append, List.append_assoc]
  congr 1
  rw [← List.append_assoc, this, List.append_assoc]
variable {cmp : GOut → GOut → Option Int} (hc : ∀ x y, ∃ n, cmp x y = some n ∧ (n < 0 ↔ key x < key y))
include hc
set_option maxHeartbeats 4000000 in
theorem z0c : ∀ (n : Nat) {A X Y B data : List GOut} {a m b : Nat}, data = A ++ X ++ Y ++ B → a = A.length → m = a + X.length → b = m + Y.length → X ≠ [] → Y ≠ [] → Inc key X → Inc key Y → data.length < 1000000000 → b - a < n →
  Ok (q08 n data (a : Int) (m : Int) (b : Int) cmp) (fun r => ∃ Z, r = A ++ Z ++ B ∧ Srt key (X ++ Y) Z)
 | 0, _, _, _, _, _, _, _, _, _, _, _, _, _, _, _, _, _, h => absurd h (by omega)
 | n + 1, A, X, Y, B, data, a, m, b, hdata, ha, hm', hb', hX0, hY0, hX, hY, h4, h5 => by
  have hXl := List.length_pos_iff.2 hX0; have hYl := List.length_pos_iff.2 hY0; have hdl : data.length = b + B.length := by rw [hdata]; simp only [List.length_append]; omega
  have h1 : a < m := by omega
  have h2 : m < b := by omega
  have h3 : b ≤ data.length := by omega
  have gx : ∀ i (_ : a ≤ i) (h2 : i < m) (h : i < data.length), data[i] = X[i - a]'(by omega) := fun i q1 q2 h => by
   subst hdata ha; have e : A ++ X ++ Y ++ B = A ++ X ++ (Y ++ B) := by simp
   simp only [e]; exact gX q1 (by omega) _
  have gy : ∀ i (_ : m ≤ i) (h2 : i < b) (h : i < data.length), data[i] = Y[i - m]'(by omega) := fun i q1 q2 h => by
   subst hdata; have := gX (A := A ++ X) (X := Y) (R := B) (i := i) (by rw [List.length_append]; omega) (by rw [List.length_append]; omega) h; rw [this]
   congr 1
   rw [List.length_append]; omega
  show Ok (q1v (q08 n) data a m b cmp) _
  unfold q1v; rw [wrap_i64 ((m : Int) - a) (by omega)]; refine jb1 (fun hm => ?_) (fun hm => ?_)
  ·
   simp only [beq_iff_eq] at hm; obtain ⟨x, rfl⟩ : ∃ x, X = [x] := List.length_eq_one_iff.1 (by omega); have hma : m = a + 1 := by omega
   have hx : data[a]'(by omega) = x := by rw [gx a (Nat.le_refl _) h1]; simp
   refine jb3 (fun s => ∃ i j : Nat, s = ((i : Int), (j : Int)) ∧ m ≤ i ∧ i ≤ j ∧ j ≤ b ∧ (∀ y ∈ Y.take (i - m), key y < key x) ∧ (∀ y ∈ Y.drop (j - m), key x ≤ key y)) (fun s => (s.2 - s.1).toNat) ?_ ⟨m, b, rfl, by omega, by omega, by omega, by simp, by rw [List.drop_of_length_le (by omega)]; simp⟩ (by simp only [rounds]; omega); rintro rec _ ⟨i, j, rfl, g1, g2, g3, g4, g5⟩ hr; unfold q46; dsimp only; rw [BG.half i j (by omega)]; refine jb1 (fun hx' => ?_) (fun hx' => ?_)
   ·
    simp only [decide_eq_true_eq] at hx'; refine Ok.bind (jb2 (show (i + j) / 2 < data.length by omega) (Ok.bind (jb2 (show a < data.length by omega) ?_))); obtain ⟨c, hc1, hc2⟩ := hc (data[(i + j) / 2]'(by omega)) (data[a]'(by omega)); have hy := gy ((i + j) / 2) (by omega) (by omega) (by omega); rw [hc1, wrap_i64 _ (by omega)]; rw [hx, hy] at hc2; refine Ok.bind (Ok.some (jb1 (fun hlt => hr _ ⟨(i + j) / 2 + 1, j, by simp, by omega, by omega, g3, fun y hy' => ?_, g5⟩ (by dsimp only; omega)) (fun hge => hr _ ⟨i, (i + j) / 2, rfl, g1, by omega, by omega, g4, fun y hy' => ?_⟩ (by dsimp only; omega))))
    · have hlt := hc2.1 (by simpa using hlt); have := z3r hY (s := (i + j) / 2 - m) (by omega) y (by rw [show (i + j) / 2 - m + 1 = (i + j) / 2 + 1 - m by omega]; exact hy'); omega
    ·
     have hge : ¬ key (Y[(i + j) / 2 - m]'(by omega)) < key x := fun h => by have := hc2.2 h; simp at hge; omega
     have := z4g hY (s := (i + j) / 2 - m) (by omega) y hy'; omega
   ·
    have hij : i = j := by simp only [decide_eq_false_iff_not] at hx'; omega
    subst hij; unfold q2l; have hYt : Y.length = b - m := by omega
    refine jb3 (fun s => ∃ u : Nat, s = (((a + u : Nat) : Int), A ++ Y.take u ++ x :: Y.drop u ++ B) ∧ u ≤ i - m) (fun s => (i : Nat) - s.1.toNat) ?_ ⟨0, by rw [hdata]; simp, by omega⟩ (by simp only [rounds]; omega); rintro rec2 _ ⟨u, rfl, hu⟩ hr2; unfold q47; dsimp only; rw [wrap_i64 ((i : Int) - 1) (by omega)]; refine jb1 (fun hy => ?_) (fun hy => ?_)
    ·
     simp only [decide_eq_true_eq] at hy; have huY : u < Y.length := by omega
     have hw : IntKind.i64.wrap (((a + u : Nat) : Int) + 1) = ((a + u + 1 : Nat) : Int) := by rw [wrap_i64 _ (by omega)]; omega
     rw [hw, List.drop_eq_getElem_cons huY]; have hform : A ++ Y.take u ++ x :: Y[u] :: Y.drop (u + 1) ++ B = (A ++ Y.take u) ++ x :: Y[u] :: (Y.drop (u + 1) ++ B) := by simp only [List.append_assoc, List.cons_append]
     have hAP : (A ++ Y.take u).length = a + u := by rw [List.length_append, List.length_take]; omega
     have hall : ((A ++ Y.take u) ++ x :: Y[u] :: (Y.drop (u + 1) ++ B)).length = data.length := by
      rw [hdata]; simp only [List.length_append, List.length_cons, List.length_drop, List.length_take, List.length_nil]; omega
     rw [hform]; have k1 : ((A ++ Y.take u) ++ x :: Y[u] :: (Y.drop (u + 1) ++ B))[a + u + 1]'(by omega) = Y[u] := by
      have : ((A ++ Y.take u) ++ x :: Y[u] :: (Y.drop (u + 1) ++ B)) = (A ++ Y.take u ++ [x]) ++ Y[u] :: (Y.drop (u + 1) ++ B) := by simp
      simp only [this]; exact get_at (by rw [List.length_append, hAP]; rfl) _
     have k2 : ((A ++ Y.take u) ++ x :: Y[u] :: (Y.drop (u + 1) ++ B))[a + u]'(by omega) = x := get_at hAP.symm _; refine Ok.bind (jb2 (by omega) (Ok.bind (jb2 (by omega) (Ok.bind (jb2 (by rw [List.length_set]; omega) ?_))))); rw [k1, k2, Int.toNat_natCast, Int.toNat_natCast, ← hAP, swp]; refine hr2 _ ⟨u + 1, ?_, by omega⟩ (by dsimp only; simp only [Int.toNat_natCast]; omega); rw [List.take_succ_eq_append_getElem huY, hAP]; simp only [List.append_assoc, List.cons_append, List.nil_append]; rfl
    ·
     have hu2 : u = i - m := by simp only [decide_eq_false_iff_not] at hy; omega
     subst hu2; exact Ok.some ⟨_, by simp only [List.append_assoc, List.cons_append], j59 hY g4 g5⟩
  ·
   simp only [beq_eq_false_iff_ne, ne_eq] at hm; unfold q2t; rw [wrap_i64 ((b : Int) - m) (by omega)]; refine jb1 (fun hm2 => ?_) (fun hm2 => ?_)
   ·
    simp only [beq_iff_eq] at hm2; obtain ⟨y, rfl⟩ : ∃ y, Y = [y] := List.length_eq_one_iff.1 (by omega); have hy0 : data[m]'(by omega) = y := by rw [gy m (Nat.le_refl _) h2]; simp
    refine jb3 (fun s => ∃ i j : Nat, s = ((i : Int), (j : Int)) ∧ a ≤ i ∧ i ≤ j ∧ j ≤ m ∧ (∀ x ∈ X.take (i - a), key x ≤ key y) ∧ (∀ x ∈ X.drop (j - a), key y < key x)) (fun s => (s.2 - s.1).toNat) ?_ ⟨a, m, rfl, by omega, by omega, by omega, by simp, by rw [List.drop_of_length_le (by omega)]; simp⟩ (by simp only [rounds]; omega); rintro rec _ ⟨i, j, rfl, g1, g2, g3, g4, g5⟩ hr; unfold q48; dsimp only; rw [BG.half i j (by omega)]; refine jb1 (fun hx => ?_) (fun hx => ?_)
    ·
     simp only [decide_eq_true_eq] at hx; refine Ok.bind (jb2 (show m < data.length by omega) (Ok.bind (jb2 (show (i + j) / 2 < data.length by omega) ?_))); obtain ⟨c, hc1, hc2⟩ := hc (data[m]'(by omega)) (data[(i + j) / 2]'(by omega)); have hxx := gx ((i + j) / 2) (by omega) (by omega) (by omega); rw [hc1, wrap_i64 _ (by omega)]; rw [hy0, hxx] at hc2; refine Ok.bind (Ok.some (jb1 (fun hge => hr _ ⟨(i + j) / 2 + 1, j, by simp, by omega, by omega, g3, fun x hx' => ?_, g5⟩ (by dsimp only; omega)) (fun hlt => hr _ ⟨i, (i + j) / 2, rfl, g1, by omega, by omega, g4, fun x hx' => ?_⟩ (by dsimp only; omega))))
     ·
      have hge : ¬ key y < key (X[(i + j) / 2 - a]'(by omega)) := fun h => by have := hc2.2 h; simp at hge; omega
      have := z3r hX (s := (i + j) / 2 - a) (by omega) x (by rw [show (i + j) / 2 - a + 1 = (i + j) / 2 + 1 - a by omega]; exact hx'); omega
     · have hlt := hc2.1 (by simpa using hlt); have := z4g hX (s := (i + j) / 2 - a) (by omega) x hx'; omega
    ·
     have hij : i = j := by simp only [decide_eq_false_iff_not] at hx; omega
     subst hij; unfold q2r; refine jb3 (fun s => ∃ u : Nat, s = (((a + u : Nat) : Int), A ++ X.take u ++ y :: X.drop u ++ B) ∧ i - a ≤ u ∧ u ≤ X.length) (fun s => s.1.toNat) ?_ ⟨X.length, by rw [hdata, List.take_length, List.drop_length, hm'], by omega, Nat.le_refl _⟩ (by simp only [rounds]; omega); rintro rec2 _ ⟨u, rfl, hu, huX⟩ hr2; unfold q4i; dsimp only; refine jb1 (fun hy => ?_) (fun hy => ?_)
     ·
      simp only [decide_eq_true_eq] at hy; obtain ⟨v, rfl⟩ : ∃ v, u = v + 1 := ⟨u - 1, by omega⟩; have hvX : v < X.length := by omega
      have hw : IntKind.i64.wrap (((a + (v + 1) : Nat) : Int) - 1) = ((a + v : Nat) : Int) := by rw [wrap_i64 _ (by omega)]; omega
      rw [hw, List.take_succ_eq_append_getElem hvX]; have hform : A ++ (X.take v ++ [X[v]]) ++ y :: X.drop (v + 1) ++ B = (A ++ X.take v) ++ X[v] :: y :: (X.drop (v + 1) ++ B) := by simp only [List.append_assoc, List.cons_append, List.nil_append]
      have hAP : (A ++ X.take v).length = a + v := by rw [List.length_append, List.length_take]; omega
      have hall : ((A ++ X.take v) ++ X[v] :: y :: (X.drop (v + 1) ++ B)).length = data.length := by
       rw [hdata]; simp only [List.length_append, List.length_cons, List.length_drop, List.length_take, List.length_nil]; omega
      rw [hform]; have k1 : ((A ++ X.take v) ++ X[v] :: y :: (X.drop (v + 1) ++ B))[a + (v + 1)]'(by omega) = y := by
       have : ((A ++ X.take v) ++ X[v] :: y :: (X.drop (v + 1) ++ B)) = (A ++ X.take v ++ [X[v]]) ++ y :: (X.drop (v + 1) ++ B) := by simp only [List.append_assoc, List.cons_append, List.nil_append]
       simp only [this]; exact get_at (by rw [List.length_append, hAP]; rfl) _
      have k2 : ((A ++ X.take v) ++ X[v] :: y :: (X.drop (v + 1) ++ B))[a + v]'(by omega) = X[v] := get_at hAP.symm _; refine Ok.bind (jb2 (by omega) (Ok.bind (jb2 (by omega) (Ok.bind (jb2 (by rw [List.length_set]; omega) ?_))))); rw [k1, k2, Int.toNat_natCast, Int.toNat_natCast, List.set_comm _ _ (by omega), ← hAP, show a + (v + 1) = (A ++ X.take v).length + 1 by omega, swp]; refine hr2 _ ⟨v, ?_, by omega, by omega⟩ (by dsimp only; simp only [Int.toNat_natCast]; omega); rw [List.drop_eq_getElem_cons hvX, hAP]; simp only [List.append_assoc, List.cons_append]
     ·
      have hu2 : u = i - a := by simp only [decide_eq_false_iff_not] at hy; omega
      subst hu2; exact Ok.some ⟨_, by simp only [List.append_assoc, List.cons_append], j2j hX g4 g5⟩
   ·
    simp only [beq_eq_false_iff_ne, ne_eq] at hm2; obtain ⟨d, hd⟩ : ∃ d, d = (a + b) / 2 := ⟨_, rfl⟩; have hhalf : IntKind.i64.wrap (q26 .u64 (IntKind.u64.wrap (IntKind.i64.wrap ((a : Int) + (b : Int)))) 1) = (d : Int) := by rw [BG.half a b (by omega), hd]
    have had : a + 2 ≤ d ∧ d + 2 ≤ b := by omega
    have hdm : IntKind.i64.wrap ((d : Int) + (m : Int)) = ((d + m : Nat) : Int) := by rw [wrap_i64 _ (by omega)]; omega
    -- from a start on
    have j4 : ∀ (s : Nat), a ≤ s → s ≤ m → s ≤ d → d + m - s ≤ b → (∀ x ∈ X.drop (s - a), ∀ y ∈ Y.take (d - s), key y < key x) → (∀ x ∈ X.take (s - a), ∀ y ∈ Y.drop (d - s), key x ≤ key y) →
      Ok (q1t data (a : Int) (m : Int) (b : Int) cmp (q08 n) (s : Int)) (fun r => ∃ Z, r = A ++ Z ++ B ∧ Srt key (X ++ Y) Z) := fun s s1 s2 s3 s4 p1 p2 => by
     obtain ⟨e, he⟩ : ∃ e, e = d + m - s := ⟨_, rfl⟩; have hwe : IntKind.i64.wrap (((d + m : Nat) : Int) - (s : Int)) = (e : Int) := by rw [wrap_i64 _ (by omega)]; omega
     have eX : X = X.take (s - a) ++ X.drop (s - a) := (List.take_append_drop _ _).symm; have eY : Y = Y.take (d - s) ++ Y.drop (d - s) := (List.take_append_drop _ _).symm; have lX1 : (X.take (s - a)).length = s - a := by rw [List.length_take]; omega
     have lX2 : (X.drop (s - a)).length = m - s := by rw [List.length_drop]; omega
     have lY1 : (Y.take (d - s)).length = d - s := by rw [List.length_take]; omega
     have lY2 : (Y.drop (d - s)).length = b - e := by rw [List.length_drop]; omega
     have hXs := hX; have hYs := hY; rw [eX] at hXs; rw [eY] at hYs; rw [eX, eY]; rw [eX, eY] at hdata
     generalize X.take (s - a) = X1 at *
     generalize X.drop (s - a) = X2 at *
     generalize Y.take (d - s) = Y1 at *
     generalize Y.drop (d - s) = Y2 at *
     obtain ⟨iX1, iX2, _⟩ := List.pairwise_append.1 hXs; obtain ⟨iY1, iY2, _⟩ := List.pairwise_append.1 hYs; have j6 : ∀ (q Z1 : List GOut), Srt key (X1 ++ Y1) Z1 → q = A ++ Z1 ++ X2 ++ Y2 ++ B → Ok (q19 (a : Int) (m : Int) (b : Int) cmp (q08 n) (s : Int) q) (fun r => ∃ Z, r = A ++ Z ++ B ∧ Srt key ((X1 ++ X2) ++ (Y1 ++ Y2)) Z) := fun q Z1 hZ hq => by
      have lZ : Z1.length = d - a := by rw [hZ.len, List.length_append]; omega
      unfold q19; rw [hhalf, hdm, hwe]; refine jb1 (fun hx => ?_) (fun hx => ?_)
      ·
       simp only [Bool.and_eq_true, decide_eq_true_eq] at hx; have hql : q.length = data.length := by rw [hq, hdata]; simp only [List.length_append]; omega
       refine jb0 (z0c n (A := A ++ Z1) (X := X2) (Y := Y2) (B := B) (data := q) (a := d) (m := e) (b := b) hq (by rw [List.length_append]; omega) (by omega) (by omega) (fun h => by rw [h] at lX2; simp at lX2; omega) (fun h => by rw [h] at lY2; simp at lY2; omega) iX2 iY2 (by omega) (by omega)) fun r hr => ?_; obtain ⟨Z2, hr1, hr2⟩ := hr; refine Ok.guard ?_ (Ok.some ⟨Z1 ++ Z2, by rw [hr1]; simp only [List.append_assoc], z9j hXs hYs p1 p2 hZ hr2⟩); rw [hr1, hq]; have := hr2.len; simp only [List.length_append] at this ⊢; omega
      ·
       refine Ok.some ⟨Z1 ++ (X2 ++ Y2), by rw [hq]; simp only [List.append_assoc], z9j hXs hYs p1 p2 hZ (Srt.refl ?_)⟩; simp only [Bool.and_eq_false_iff, decide_eq_false_iff_not] at hx; rcases Nat.eq_zero_or_pos X2.length with h0 | h0
       · rw [List.eq_nil_of_length_eq_zero h0]; exact iY2
       · rw [List.eq_nil_of_length_eq_zero (show Y2.length = 0 by omega), List.append_nil]; exact iX2
     have j5 : ∀ (q : List GOut), q = A ++ X1 ++ Y1 ++ X2 ++ Y2 ++ B → Ok (q1a (a : Int) (m : Int) (b : Int) cmp (q08 n) (s : Int) q) (fun r => ∃ Z, r = A ++ Z ++ B ∧ Srt key ((X1 ++ X2) ++ (Y1 ++ Y2)) Z) := fun q hq => by
      unfold q1a; rw [hhalf]; refine jb1 (fun hx => ?_) (fun hx => ?_)
      ·
       simp only [Bool.and_eq_true, decide_eq_true_eq] at hx; have hql : q.length = data.length := by rw [hq, hdata]; simp only [List.length_append]; omega
       refine jb0 (z0c n (A := A) (X := X1) (Y := Y1) (B := X2 ++ Y2 ++ B) (data := q) (a := a) (m := s) (b := d) (by rw [hq]; simp only [List.append_assoc]) ha (by omega) (by omega) (fun h => by rw [h] at lX1; simp at lX1; omega) (fun h => by rw [h] at lY1; simp at lY1; omega) iX1 iY1 (by omega) (by omega)) fun r hr => ?_; obtain ⟨Z1, hr1, hr2⟩ := hr; refine Ok.guard ?_ (j6 r Z1 hr2 (by rw [hr1]; simp only [List.append_assoc])); rw [hr1, hq]; have := hr2.len; simp only [List.length_append] at this ⊢; omega
      ·
       refine j6 q (X1 ++ Y1) (Srt.refl ?_) (by rw [hq]; simp only [List.append_assoc]); simp only [Bool.and_eq_false_iff, decide_eq_false_iff_not] at hx; rcases Nat.eq_zero_or_pos X1.length with h0 | h0
       · rw [List.eq_nil_of_length_eq_zero h0]; exact iY1
       · rw [List.eq_nil_of_length_eq_zero (show Y1.length = 0 by omega), List.append_nil]; exact iX1
     unfold q1t; rw [hhalf, hdm, hwe]; refine jb1 (fun hx => ?_) (fun hx => ?_)
     ·
      simp only [Bool.and_eq_true, decide_eq_true_eq] at hx; have hda : data = (A ++ X1) ++ X2 ++ Y1 ++ (Y2 ++ B) := by rw [hdata]; simp only [List.append_assoc]
      have hrot := zz7 (cmp := cmp) (A := A ++ X1) (X := X2) (Y := Y1) (B := Y2 ++ B) (fun h => by rw [h] at lX2; simp at lX2; omega) (fun h => by rw [h] at lY1; simp at lY1; omega) (by rw [← hda]; omega); rw [← hda] at hrot; simp only [List.length_append, lX1, lX2, lY1] at hrot; rw [← ha, show a + (s - a) = s by omega, show s + (m - s) = m by omega, show m + (d - s) = e by omega] at hrot; refine jb0 hrot fun r hr => Ok.guard ?_ (j5 r (by rw [hr]; simp only [List.append_assoc])); rw [hr, hdata]; simp only [List.length_append]; omega
     ·
      refine j5 data ?_; simp only [Bool.and_eq_false_iff, decide_eq_false_iff_not] at hx; rw [hdata]; rcases Nat.eq_zero_or_pos X2.length with h0 | h0
      · rw [List.eq_nil_of_length_eq_zero h0]; simp only [List.append_assoc, List.append_nil, List.nil_append]
      · rw [List.eq_nil_of_length_eq_zero (show Y1.length = 0 by omega)]; simp only [List.append_assoc, List.append_nil, List.nil_append]
    have j3 : ∀ (lo hi : Nat), a ≤ lo → lo ≤ hi → hi ≤ m → hi ≤ d → d + m - lo ≤ b → (∀ x ∈ X.take (lo - a), ∀ y ∈ Y.drop (d - lo), key x ≤ key y) → (∀ x ∈ X.drop (hi - a), ∀ y ∈ Y.take (d - hi), key y < key x) →
      Ok (q1b data (a : Int) (m : Int) (b : Int) cmp (q08 n) (lo : Int) (hi : Int)) (fun r => ∃ Z, r = A ++ Z ++ B ∧ Srt key (X ++ Y) Z) := fun lo hi g0 g1 g2 g2' g3 hA hB => by
     unfold q1b; refine jb3 (fun s => ∃ i j : Nat, s = ((i : Int), (j : Int)) ∧ lo ≤ i ∧ i ≤ j ∧ j ≤ hi ∧ (∀ x ∈ X.take (i - a), ∀ y ∈ Y.drop (d - i), key x ≤ key y) ∧ (∀ x ∈ X.drop (j - a), ∀ y ∈ Y.take (d - j), key y < key x)) (fun s => (s.2 - s.1).toNat) ?_ ⟨lo, hi, rfl, Nat.le_refl _, g1, Nat.le_refl _, hA, hB⟩ (by simp only [rounds]; omega); rintro rec _ ⟨i, j, rfl, f1, f2, f3, pA, pB⟩ hr; unfold q4j; dsimp only; rw [hhalf, hdm, BG.half i j (by omega)]; refine jb1 (fun hx => ?_) (fun hx => ?_)
     ·
      simp only [decide_eq_true_eq] at hx; have hw1 : IntKind.i64.wrap (((d + m : Nat) : Int) - 1) = ((d + m - 1 : Nat) : Int) := by rw [wrap_i64 _ (by omega)]; omega
      have hw2 : IntKind.i64.wrap (((d + m - 1 : Nat) : Int) - (((i + j) / 2 : Nat) : Int)) = ((d + m - 1 - (i + j) / 2 : Nat) : Int) := by rw [wrap_i64 _ (by omega)]; omega
      rw [hw1, hw2]; refine Ok.bind (jb2 (show d + m - 1 - (i + j) / 2 < data.length by omega) (Ok.bind (jb2 (show (i + j) / 2 < data.length by omega) ?_))); obtain ⟨c, hc1, hc2⟩ := hc (data[d + m - 1 - (i + j) / 2]'(by omega)) (data[(i + j) / 2]'(by omega)); rw [gy (d + m - 1 - (i + j) / 2) (by omega) (by omega) (by omega), gx ((i + j) / 2) (by omega) (by omega) (by omega)] at hc2; rw [hc1, wrap_i64 _ (by omega)]; have tk := fun x hx' => z3r hX (s := (i + j) / 2 - a) (by omega) x hx'; have dk := fun y hy' => z4g hY (s := d + m - 1 - (i + j) / 2 - m) (by omega) y hy'; have tk2 := fun y hy' => z3r hY (s := d + m - 1 - (i + j) / 2 - m) (by omega) y hy'; have dk2 := fun x hx' => z4g hX (s := (i + j) / 2 - a) (by omega) x hx'; refine Ok.bind (Ok.some (jb1 (fun hge => hr _ ⟨(i + j) / 2 + 1, j, by simp, by omega, by omega, f3, fun x hx' y hy' => ?_, pB⟩ (by dsimp only; omega)) (fun hlt => hr _ ⟨i, (i + j) / 2, rfl, f1, by omega, by omega, pA, fun x hx' y hy' => ?_⟩ (by dsimp only; omega))))
      ·
       have hge : ¬ (c < 0) := by simpa using hge
       have hge := fun h => hge (hc2.2 h); have t1 := tk x (by rw [show (i + j) / 2 - a + 1 = (i + j) / 2 + 1 - a by omega]; exact hx'); have t2 := dk y (by rw [show d + m - 1 - (i + j) / 2 - m = d - ((i + j) / 2 + 1) by omega]; exact hy'); omega
      · have hlt := hc2.1 (by simpa using hlt); have t1 := dk2 x hx'; have t2 := tk2 y (by rw [show d + m - 1 - (i + j) / 2 - m + 1 = d - (i + j) / 2 by omega]; exact hy'); omega
     ·
      have hij : i = j := by simp only [decide_eq_false_iff_not] at hx; omega
      subst hij; exact j4 i (by omega) (by omega) (by omega) (by omega) pB pA
    unfold q2s; rw [hhalf, hdm]; refine jb1 (fun hx => ?_) (fun hx => ?_)
    ·
     simp only [decide_eq_true_eq] at hx; have hwb : IntKind.i64.wrap (((d + m : Nat) : Int) - (b : Int)) = ((d + m - b : Nat) : Int) := by rw [wrap_i64 _ (by omega)]; omega
     rw [hwb]; exact j3 (d + m - b) d (by omega) (by omega) (by omega) (by omega) (by omega) (by rw [List.drop_of_length_le (l := Y) (by omega)]; simp) (by simp)
    · simp only [decide_eq_false_iff_not] at hx; exact j3 a m (by omega) (by omega) (by omega) (by omega) (by omega) (by simp) (by rw [List.drop_of_length_le (l := X) (by omega)]; simp)
end
end SO
end Go.Proofs.YteibkihbdgphnaaGreat
