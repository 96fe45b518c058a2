/-
  The law in plain words: what its plain function gives is true. No condition beyond those that each theorem names.
-/
import Derived.Test.YtbcbcdbkdljjlaaGreatWalkUC1
import Derived.Test.YtbcbcdbkdljjlaaGreatP18a
set_option linter.unusedSimpArgs false
set_option linter.unusedVariables false
set_option linter.unusedSectionVars false
namespace Go.Proofs.YtbcbcdbkdljjlaaGreat
open Go Go.RowKit BG TS
namespace CE
def dirty (s : GSlot) : GSlot := ⟨s.Time, s.In, s.Sent, true, s.Fired⟩
def st (s : GSlot) : Bool := s.Fired && !s.Dirty
def q5j (kind : Int) (t : GTime) (s : GSlot) : Bool := (kind == 14) && decide (le t s.Time)
def sel (kind : Int) (t : GTime) (s : GSlot) : Bool := decide (s.Time = t) || q5j kind t s
def mkS (kind : Int) (t : GTime) (s : GSlot) : GSlot := if sel kind t s = true then dirty s else s
def mk (kind : Int) (t : GTime) (s : GSlot) : GSlot := if q5j kind t s = true then dirty s else s
theorem zj3 (kind : Int) (t : GTime) (s : GSlot) : (mkS kind t s).Time = s.Time := by unfold mkS; split <;> rfl
theorem zo9 (kind : Int) (t : GTime) (s : GSlot) : (mk kind t s).Time = s.Time := by unfold mk; split <;> rfl
theorem zo0 {α : Type} {c : List α} {f : α → α} {i : Nat} (hi : i < c.length) : ((c.take i).map f ++ c.drop i).set i (f c[i]) = (c.take (i + 1)).map f ++ c.drop (i + 1) := by
  have hl : ((c.take i).map f).length = i := by rw [List.length_map, List.length_take]; omega
  rw [List.set_append_right _ _ (by omega), hl, Nat.sub_self, List.drop_eq_getElem_cons hi, List.set_cons_zero, List.take_succ_eq_append_getElem hi, List.map_append]; simp
theorem zo8 {α : Type} {c : List α} {f : α → α} {i : Nat} (hi : i < c.length) (h : f c[i] = c[i]) : (c.take i).map f ++ c.drop i = (c.take (i + 1)).map f ++ c.drop (i + 1) := by
  rw [List.drop_eq_getElem_cons hi, List.take_succ_eq_append_getElem hi, List.map_append]; simp [h]
theorem zt9 {α : Type} {c : List α} {f : α → α} {i : Nat} (hi : i < c.length) : Ok (idx ((c.take i).map f ++ c.drop i) (i : Int)) (fun x => x = c[i]) := by
  refine Ok.idxN (by simp; omega) ?_; rw [List.getElem_append_right (by simp; omega)]; simp only [List.length_map, List.length_take, List.getElem_drop]
  congr 1; omega
theorem q6x {α : Type} {c : List α} {p : α → Bool} {i : Nat} (hi : i < c.length) : (c.take (i + 1)).any p = ((c.take i).any p || p c[i]) := by
  rw [List.take_succ_eq_append_getElem hi, List.any_append]; simp
theorem zp0 {c : List GSlot} {kind : Int} {t : GTime} {q : Nat} (hq : q < c.length) (hqt : c[q].Time = t) (hp : c.Pairwise klt) (hl : c.length < 1000000000) :
    q6c c kind (q : Int) = some (c.any (fun s => sel kind t s && st s), c.map (mkS kind t)) := by
  refine Ok.eq ?_; unfold q6c; refine Ok.eachG (l := c) (by omega) (fun i (s : Bool × List GSlot) => (s.1, i, s.2)) (fun x => x.2.1) (fun _ _ => rfl) (fun i s => s.1 = (c.take i).any (fun s => sel kind t s && st s) ∧ s.2 = (c.take i).map (mkS kind t) ++ c.drop i) 0 (fun rec i hi s _ hs hr => ?_) (fun rec s hs => ?_) (s0 := (false, c)) (by simp) (Nat.zero_le _)
  · obtain ⟨b, a⟩ := s
    obtain ⟨hb, ha⟩ := hs; simp only at hb ha; subst ha; unfold q68; have hx : ∀ {β : Type} {k : GSlot → Option β} {Q : β → Prop}, Ok (k c[i]) Q → Ok (w9 (idx ((c.take i).map (mkS kind t) ++ c.drop i) (i : Int)) k) Q := fun h => Ok.bind2 (zt9 hi) fun x hx => by rw [hx]; exact h
    have hq' : ∀ {β : Type} {k : GSlot → Option β} {Q : β → Prop}, (∀ y : GSlot, y.Time = t → Ok (k y) Q) → Ok (w9 (idx ((c.take i).map (mkS kind t) ++ c.drop i) (q : Int)) k) Q := fun h => by
      refine Ok.bind (Ok.idxN (by simp; omega) (h _ ?_)); rcases Nat.lt_or_ge q i with h1 | h1
      · rw [List.getElem_append_left (by simp; omega), List.getElem_map, zj3, List.getElem_take]; exact hqt
      · rw [List.getElem_append_right (by simp; omega), List.getElem_drop]
        have e : i + (q - ((c.take i).map (mkS kind t)).length) = q := by simp; omega
        simp only [e]; exact hqt
    have iq : (c[i].Time = t) ↔ i = q := by
      constructor
      · intro h
        rcases Nat.lt_trichotomy i q with h1 | h1 | h1
        · have : klt c[i] c[q] := (List.pairwise_iff_getElem.1 hp) i q hi hq h1
          unfold klt at this; rw [h, hqt] at this; omega
        · exact h1
        · have : klt c[q] c[i] := (List.pairwise_iff_getElem.1 hp) q i hq hi h1
          unfold klt at this; rw [h, hqt] at this; omega
      · rintro rfl; exact hqt
    have yes : sel kind t c[i] = true → ∀ b', b' = (b || st c[i]) → Ok (rec (b', IntKind.i64.wrap ((i : Int) + 1), ((c.take i).map (mkS kind t) ++ c.drop i).set (Int.toNat (i : Int)) (⟨c[i].Time, c[i].In, c[i].Sent, true, c[i].Fired⟩ : GSlot))) (fun r => r = (c.any (fun s => sel kind t s && st s), c.map (mkS kind t))) := fun h b' hb' => by
      rw [wrap_i64 ((i : Int) + 1) (by omega), Int.toNat_natCast]; refine hr (b', _) ⟨?_, ?_⟩
      · show b' = _
        rw [hb', q6x hi, ← hb, h, Bool.true_and]
      · show List.set _ _ _ = _
        rw [← zo0 hi]
        congr 1
        unfold mkS; rw [if_pos h]; rfl
    refine Ok.iteB (fun _ => ?_) (fun hx => by simp only [decide_eq_false_iff_not] at hx; omega); refine Ok.iteB (fun h1 => ?_) (fun h1 => ?_)
    · have hs : sel kind t c[i] = true := by
        simp only [beq_iff_eq] at h1; unfold sel; rw [decide_eq_true (iq.2 (by omega)), Bool.true_or]
      refine Ok.iteB (fun hbt => hx (yes hs _ ?_)) (fun hbf => hx (Ok.iteB (fun hf => yes hs _ ?_) (fun hf => yes hs _ ?_)))
      · have hbt : b = true := hbt
        rw [hbt]; rfl
      · have hbf : b = false := hbf
        rw [hbf, st, hf]; simp
      · have hbf : b = false := hbf
        rw [hbf, st, hf]; rfl
    · have hne : ¬ c[i].Time = t := fun h => by
        simp only [beq_eq_false_iff_ne, ne_eq] at h1; exact h1 (by rw [iq.1 h])
      have no : sel kind t c[i] = false → Ok (rec (b, IntKind.i64.wrap ((i : Int) + 1), ((c.take i).map (mkS kind t) ++ c.drop i))) (fun r => r = (c.any (fun s => sel kind t s && st s), c.map (mkS kind t))) := fun h => by
        rw [wrap_i64 ((i : Int) + 1) (by omega)]; refine hr (b, _) ⟨?_, ?_⟩
        · show b = _
          rw [q6x hi, ← hb, h, Bool.false_and, Bool.or_false]
        · exact zo8 hi (by unfold mkS; rw [if_neg (by rw [h]; simp)])
      refine Ok.iteB (fun h14 => hq' fun y hy => hx (Ok.bind (Ok.of_eq (zb1 _ _) (Ok.iteB (fun hv => no ?_) (fun hv => ?_))))) (fun h14 => no ?_)
      · rw [hy] at hv
        unfold sel q5j; rw [decide_eq_false hne, Bool.false_or, h14, Bool.true_and]
        simpa using hv
      · have hs : sel kind t c[i] = true := by
          rw [hy] at hv; unfold sel q5j; rw [decide_eq_false hne, Bool.false_or, h14, Bool.true_and]
          simpa using hv
        refine Ok.iteB (fun hbt => yes hs _ ?_) (fun hbf => Ok.iteB (fun hf => yes hs _ ?_) (fun hf => yes hs _ ?_))
        · have hbt : b = true := hbt
          rw [hbt]; rfl
        · have hbf : b = false := hbf
          rw [hbf, st, hf]; simp
        · have hbf : b = false := hbf
          rw [hbf, st, hf]; rfl
      · unfold sel q5j
        rw [decide_eq_false hne, Bool.false_or, h14, Bool.false_and]
  · obtain ⟨b, a⟩ := s
    obtain ⟨hb, ha⟩ := hs; simp only at hb ha; unfold q68; refine Ok.iteB (fun hx => by simp only [decide_eq_true_eq] at hx; omega) (fun _ => Ok.some ?_); rw [hb, ha, List.take_length, List.drop_length, List.append_nil]
def dflt (t : GTime) : GSlot := ⟨t, ⟨[], []⟩, [], false, false⟩
def upd (port : Int) (r : GRec) (n : Int) (s : GSlot) : GSlot := ⟨s.Time, ⟨if port = 0 then ad s.In.a0 r n else s.In.a0, if port = 0 then s.In.a1 else ad s.In.a1 r n⟩, s.Sent, s.Dirty, s.Fired⟩
def one (s : GSlot) : List GSlot := if emp s = true then [] else [s]
structure Sp (c : List GSlot) (t : GTime) (A : List GSlot) (own : GSlot) (B : List GSlot) : Prop where
  at_ : (c = A ++ B ∧ own = dflt t) ∨ (c = A ++ own :: B ∧ own.Time = t)
  lo : ∀ x ∈ A, key x.Time < key t
  hi : ∀ x ∈ B, key t < key x.Time
theorem Sp.time {c A B : List GSlot} {t : GTime} {own : GSlot} (h : Sp c t A own B) : own.Time = t := by
  rcases h.at_ with ⟨_, h⟩ | ⟨_, h⟩
  · rw [h]; rfl
  · exact h
def q9f (kind port : Int) (t : GTime) (r : GRec) (n : Int) (A : List GSlot) (own : GSlot) (B : List GSlot) : List GSlot := A.map (mk kind t) ++ (one (dirty (upd port r n own)) ++ B.map (mk kind t))
def strag (kind : Int) (t : GTime) (A : List GSlot) (own : GSlot) (B : List GSlot) : Bool := A.any (fun s => q5j kind t s && st s) || (st own || B.any (fun s => q5j kind t s && st s))
theorem z3z {α : Type} {l : List α} {p q : α → Bool} (h : ∀ x ∈ l, p x = q x) : l.any p = l.any q := by
  induction l with
  | nil => rfl
  | cons x l ih => rw [List.any_cons, List.any_cons, h x (by simp), ih fun y hy => h y (by simp [hy])]
theorem ze3 {α β : Type} {l : List α} {p q : α → β} (h : ∀ x ∈ l, p x = q x) : l.map p = l.map q := List.map_congr_left h
theorem z5l {b : List GSlot} (hl : b.length < 1000000000) : q4q b = some b := by
  refine Ok.eq ?_; unfold q4q; exact Ok.guard (by simp; omega) (Ok.some (by simp))
theorem z9p {A B : List GSlot} {x : GSlot} (hl : (A ++ x :: B).length < 1000000000) (hx : lens 1000000 x) : q34 (A ++ x :: B) (A.length : Int) = some (A ++ (one x ++ B)) := by
  refine Ok.eq ?_; unfold q34; have hlen : (A ++ x :: B).length = A.length + 1 + B.length := by simp; omega
  refine Ok.bind (Ok.idxN (by simp) ?_); have hg : (A ++ x :: B)[A.length]'(by simp) = x := by simp
  rw [hg]; refine Ok.bind (Ok.of_eq (z7q hx) (Ok.iteB (fun he => ?_) (fun he => Ok.some ?_)))
  · unfold q71 qp3
    rw [wrap_i64 _ (by omega)]; refine Ok.bind (Ok.guard ⟨by omega, by omega, by omega⟩ (Ok.some (Ok.some ?_))); rw [Int.toNat_natCast, show ((A.length : Int) + 1).toNat = A.length + 1 by omega, List.take_left, List.drop_append, one, if_pos he]; simp
  · rw [one, if_neg (by rw [he]; simp)]; rfl
theorem z6k {port : Int} {r : GRec} {n : Int} {s : GSlot} {N : Nat} (h : lens N s) (h0 : Rt s.In.a0) (h1 : Rt s.In.a1) (hN : N < 1000000) (hn : -2147483648 ≤ n ∧ n ≤ 2147483648) (hn0 : n ≠ 0) : lens (N + 1) (upd port r n s) := by
  obtain ⟨l0, l1, l2⟩ := h; have := (z1h (r := r) h0 (by omega) hn hn0).2.2.2.1; have := (z1h (r := r) h1 (by omega) hn hn0).2.2.2.1; unfold lens upd; refine ⟨?_, ?_, by simp only; omega⟩ <;> (simp only; split <;> omega)
structure Sz (N : Nat) (c : List GSlot) : Prop where
  len : c.length ≤ N
  each : ∀ s ∈ c, lens N s
theorem zm4 {A B : List GSlot} {own : GSlot} {kind port : Int} {t : GTime} {r : GRec} {n : Int} {N : Nat} (v : Int × Bool) (hv : v.1 = (A.length : Int)) (ht : own.Time = t) (hA : ∀ x ∈ A, key x.Time < key t) (hB : ∀ x ∈ B, key t < key x.Time)
    (hp : (A ++ own :: B).Pairwise klt) (h0 : Rt own.In.a0) (h1 : Rt own.In.a1) (hl : lens N own) (hc : (A ++ own :: B).length < 1000000) (hN : N < 900000) (hn : -2147483648 ≤ n ∧ n ≤ 2147483648) (hn0 : n ≠ 0) (hport : port = 0 ∨ port = 1) :
    q6d kind port r n v (A ++ own :: B) = some (q9f kind port t r n A own B, strag kind t A own B, true) := by
  refine Ok.eq ?_; unfold q6d; rw [hv]; have hlen : (A ++ own :: B).length = A.length + 1 + B.length := by simp; omega
  obtain ⟨l0, l1, l2⟩ := hl; have hg : (A ++ own :: B)[A.length]'(by simp) = own := by simp
  refine Ok.bind (Ok.idxN (by simp) ?_); rw [hg]; have hset : ∀ y : GSlot, (A ++ own :: B).set (Int.toNat (A.length : Int)) y = A ++ y :: B := fun y => by
    rw [Int.toNat_natCast, List.set_append_right _ _ (Nat.le_refl _)]; simp
  have go : ∀ y : GSlot, y = upd port r n own → Ok (w9 (q6c (A ++ y :: B) kind (A.length : Int)) (fun (v_6 : Bool × (List GSlot)) =>
      q0n (List.length v_6.2 = List.length (A ++ y :: B)) (
      w9 (q34 v_6.2 (A.length : Int)) (fun (v_7 : List GSlot) =>
      some (v_7, v_6.1, true))))) (fun w => w = (q9f kind port t r n A own B, strag kind t A own B, true)) := fun y hy => by
    have hyt : y.Time = t := by rw [hy]; exact ht
    have hpy : (A ++ y :: B).Pairwise klt := by
      have e := List.pairwise_append.1 hp; have e2 := List.pairwise_cons.1 e.2.1; refine List.pairwise_append.2 ⟨e.1, List.pairwise_cons.2 ⟨fun b hb => ?_, e2.2⟩, fun a ha b hb => ?_⟩
      · unfold klt; rw [hyt]; exact hB b hb
      · rcases List.mem_cons.1 hb with rfl | hb
        · unfold klt; rw [hyt]; exact hA a ha
        · exact e.2.2 a ha b (by simp [hb])
    have hmk := zp0 (c := A ++ y :: B) (kind := kind) (t := t) (q := A.length) (by simp) (by simpa using hyt) hpy (by simp; simp at hc; omega); have nA : ∀ x ∈ A, sel kind t x = q5j kind t x := fun x hx => by
      have : x.Time ≠ t := fun e => by have := hA x hx; rw [e] at this; omega
      unfold sel; rw [decide_eq_false this, Bool.false_or]
    have nB : ∀ x ∈ B, sel kind t x = q5j kind t x := fun x hx => by
      have : x.Time ≠ t := fun e => by have := hB x hx; rw [e] at this; omega
      unfold sel; rw [decide_eq_false this, Bool.false_or]
    have sy : sel kind t y = true := by unfold sel; rw [decide_eq_true hyt, Bool.true_or]
    have e1 : (A ++ y :: B).any (fun s => sel kind t s && st s) = strag kind t A own B := by
      rw [List.any_append, List.any_cons, sy, Bool.true_and, z3z (l := A) fun x hx => by rw [nA x hx], z3z (l := B) fun x hx => by rw [nB x hx]]; have : st y = st own := by rw [hy]; rfl
      rw [this]; rfl
    have e2 : (A ++ y :: B).map (mkS kind t) = A.map (mk kind t) ++ dirty y :: B.map (mk kind t) := by
      rw [List.map_append, List.map_cons, ze3 (l := A) (q := mk kind t) fun x hx => by unfold mkS mk; rw [nA x hx], ze3 (l := B) (q := mk kind t) fun x hx => by unfold mkS mk; rw [nB x hx]]; unfold mkS; rw [if_pos sy]
    refine Ok.bind (Ok.of_eq hmk ?_); rw [e1, e2]; refine Ok.guard (by simp) ?_; have hly : lens (N + 1) y := by rw [hy]; exact z6k ⟨l0, l1, l2⟩ h0 h1 (by omega) hn hn0
    have := z9p (A := A.map (mk kind t)) (B := B.map (mk kind t)) (x := dirty y) (by simp; simp at hc; omega) (by unfold lens dirty at *; simp only; omega); rw [List.length_map] at this; refine Ok.bind (Ok.of_eq this (Ok.some ?_)); rw [hy]; rfl
  rcases hport with rfl | rfl
  · refine Ok.guard (by omega) (Ok.bind (Ok.some (Ok.bind (Ok.of_eq (z1h h0 (by omega) hn hn0).1 (Ok.guard (by omega) (Ok.bind (Ok.some (Ok.bind (Ok.some ?_)))))))))
    rw [hset]; exact go _ rfl
  · refine Ok.guard (by omega) (Ok.bind (Ok.some (Ok.bind (Ok.of_eq (z1h h1 (by omega) hn hn0).1 (Ok.guard (by omega) (Ok.bind (Ok.some (Ok.bind (Ok.some ?_)))))))))
    rw [hset]; exact go _ rfl
theorem zq6 {c : List GSlot} {kind port : Int} {t : GTime} {r : GRec} {n : Int} {N : Nat} (h : Cl c) (hs : Sz N c) (hN : N < 900000) (ht : ok t) (hn : -2147483648 ≤ n ∧ n ≤ 2147483648) (hn0 : n ≠ 0) (hport : port = 0 ∨ port = 1) :
    Ok (q6g c kind port t r n) (fun v => ∃ A own B, Sp c t A own B ∧ v = (q9f kind port t r n A own B, strag kind t A own B, true)) := by
  have hlc := hs.len; unfold q6g; refine Ok.bind (Ok.of_eq (z5l (by omega)) (Ok.bind (Ok.of_eq (cRight_eq (by omega) (fun s hx => by obtain ⟨a, b, d⟩ := hs.each s hx; exact ⟨by omega, by omega, by omega⟩)) (Ok.iteB (fun hx => ?_) (fun _ => Ok.bind (Ok.of_eq (TS.Right_eq t) (Ok.iteB (fun hx => ?_) (fun _ => ?_))))))))
  · simp [h] at hx; omega
  · simp [ht] at hx; omega
  refine Ok.bind2 (find_ok h.inc (fun s hx => (h.good s hx).time) ht (by omega)) fun v ⟨A, B, hc, hA, hB, h1, h2⟩ => ?_; subst hc; have hins : (∀ x ∈ B, key t < key x.Time) → Ok (w9 (q38 (A ++ B) v.1 ([(⟨t, (⟨([] : List GItem), ([] : List GItem)⟩ : Arr2 (List GItem)), ([] : List GItem), false, false⟩ : GSlot)] : List GSlot)) (fun (v_8 : List GSlot) =>
      q6d kind port r n v v_8)) (fun v => ∃ A' own B', Sp (A ++ B) t A' own B' ∧ v = (q9f kind port t r n A' own B', strag kind t A' own B', true)) := fun hB' => by
    unfold q38 qf9; rw [h1]; have hlen : (A ++ B).length = A.length + B.length := by simp
    refine Ok.bind (Ok.guard ⟨by omega, by omega, by simp, by simp; omega, by unfold maxLen; simp; omega⟩ (Ok.some ?_)); have e : List.take (A.length : Int).toNat (A ++ B) ++ [(⟨t, (⟨([] : List GItem), ([] : List GItem)⟩ : Arr2 (List GItem)), ([] : List GItem), false, false⟩ : GSlot)] ++ List.drop (A.length : Int).toNat (A ++ B) = A ++ dflt t :: B := by
      rw [Int.toNat_natCast, List.take_left, List.drop_left]; simp [dflt]
    rw [e]; have hpw := List.pairwise_append.1 h.inc; refine Ok.of_eq (zm4 (N := N) v h1 rfl hA hB' ?_ Rt.nil Rt.nil ⟨Nat.zero_le _, Nat.zero_le _, Nat.zero_le _⟩ (by simp; omega) hN hn hn0 hport) ⟨A, dflt t, B, ⟨.inl ⟨rfl, rfl⟩, hA, hB'⟩, rfl⟩; refine List.pairwise_append.2 ⟨hpw.1, List.pairwise_cons.2 ⟨fun b hb => hB' b hb, hpw.2.1⟩, fun a ha b hb => ?_⟩; rcases List.mem_cons.1 hb with rfl | hb
    · exact hA a ha
    · exact hpw.2.2 a ha b hb
  rw [h2]
  cases B with
  | nil => exact Ok.iteB (fun _ => hins (by simp)) (fun hx => by simp at hx)
  | cons x B =>
    simp only; have hpw := List.pairwise_append.1 h.inc; have hBx := (List.pairwise_cons.1 hpw.2.1).1; refine Ok.iteB (fun hx => hins ?_) (fun hx => ?_)
    · simp only [Bool.not_eq_true', decide_eq_false_iff_not] at hx
      have hxk : key t < key x.Time := by
        have h3 := hB x (by simp); rcases Int.lt_or_eq_of_le h3 with h4 | h4
        · exact h4
        · exact absurd (key_inj ht (h.good x (by simp)).time h4).symm hx
      intro y hy; rcases List.mem_cons.1 hy with rfl | hy
      · exact hxk
      · have : key x.Time < key y.Time := hBx y hy
        omega
    · simp only [Bool.not_eq_false', decide_eq_true_eq] at hx
      have hB' : ∀ y ∈ B, key t < key y.Time := fun y hy => by rw [← hx]; exact hBx y hy
      have hg := h.good x (by simp); exact Ok.of_eq (zm4 v h1 hx hA hB' h.inc hg.a0 hg.a1 (hs.each x (by simp)) (by omega) hN hn hn0 hport) ⟨A, x, B, ⟨.inr ⟨rfl, hx⟩, hA, hB'⟩, rfl⟩
theorem zq7 {c : List GSlot} {kind port : Int} {t : GTime} {r : GRec} {n : Int} {N : Nat} (hs : Sz N c) (hN : N < 900000) (h : ¬ (Cl c ∧ ok t ∧ (port = 0 ∨ port = 1) ∧ n ≠ 0 ∧ -2147483648 ≤ n ∧ n ≤ 2147483648)) : q6g c kind port t r n = some (c, false, false) := by
  have hlc := hs.len; refine Ok.eq ?_; unfold q6g; refine Ok.bind (Ok.of_eq (z5l (by omega)) (Ok.bind (Ok.of_eq (cRight_eq (by omega) (fun s hx => by obtain ⟨a, b, d⟩ := hs.each s hx; exact ⟨by omega, by omega, by omega⟩)) (Ok.iteB (fun hx => Ok.some rfl) (fun hx => Ok.bind (Ok.of_eq (TS.Right_eq t) (Ok.iteB (fun hy => Ok.some rfl) (fun hy => ?_))))))))
  exfalso
  simp at hx hy; exact h ⟨hx.1.1, hy.1.1.1, by omega, hy.1.1.2, by omega, by omega⟩
end CE
end Go.Proofs.YtbcbcdbkdljjlaaGreat
