/-
  The law in plain words: what its plain function gives is true. No condition beyond those that each theorem names.
-/
import Derived.Test.YtbcbcdbkdljjlaaGreatWalkUC1
import Derived.Test.YtbcbcdbkdljjlaaGreatP18b
set_option linter.unusedSimpArgs false
set_option linter.unusedVariables false
set_option linter.unusedSectionVars false
namespace Go.Proofs.YtbcbcdbkdljjlaaGreat
open Go Go.RowKit BG TS
namespace CE
def ltB (t : GTime) (s : GSlot) : Bool := decide (key s.Time < key t)
def gtB (t : GTime) (s : GSlot) : Bool := decide (key t < key s.Time)
theorem qu3 {α : Type} {l : List α} {p : α → Bool} (h : ∀ x ∈ l, p x = false) : l.filter p = [] := List.filter_eq_nil_iff.2 fun x hx => by rw [h x hx]; simp
theorem z7i {α : Type} {l : List α} {p : α → Bool} (h : ∀ x ∈ l, p x = true) : l.filter p = l := List.filter_eq_self.2 h
theorem z88 {α : Type} {l : List α} {p : α → Bool} (h : ∀ x ∈ l, p x = false) : l.any p = false := by
  rw [Bool.eq_false_iff]; intro hx; obtain ⟨x, h1, h2⟩ := List.any_eq_true.1 hx; rw [h x h1] at h2; cases h2
theorem q8i {α : Type} {c : List α} {p : α → Bool} {i : Nat} (hi : i < c.length) : (c.take (i + 1)).filter p = (c.take i).filter p ++ (if p c[i] = true then [c[i]] else []) := by
  rw [List.take_succ_eq_append_getElem hi, List.filter_append, List.filter_cons]; rfl
theorem Sp.lt_ {c A B : List GSlot} {t : GTime} {own : GSlot} (h : Sp c t A own B) : c.filter (ltB t) = A := by
  have hA : A.filter (ltB t) = A := z7i fun x hx => decide_eq_true (h.lo x hx); have hB : B.filter (ltB t) = [] := qu3 fun x hx => decide_eq_false (by have := h.hi x hx; omega); rcases h.at_ with ⟨e, _⟩ | ⟨e, ht⟩
  · rw [e, List.filter_append, hA, hB, List.append_nil]
  · rw [e, List.filter_append, hA, List.filter_cons, hB, if_neg, List.append_nil]
    unfold ltB; rw [ht]; simp
theorem Sp.gt_ {c A B : List GSlot} {t : GTime} {own : GSlot} (h : Sp c t A own B) : c.filter (gtB t) = B := by
  have hA : A.filter (gtB t) = [] := qu3 fun x hx => decide_eq_false (by have := h.lo x hx; omega); have hB : B.filter (gtB t) = B := z7i fun x hx => decide_eq_true (h.hi x hx); rcases h.at_ with ⟨e, _⟩ | ⟨e, ht⟩
  · rw [e, List.filter_append, hA, hB]; rfl
  · rw [e, List.filter_append, hA, List.filter_cons, hB, if_neg]
    · rfl
    · unfold gtB; rw [ht]; simp
def oth (kind : Int) (t : GTime) (s : GSlot) : Bool := !decide (s.Time = t) && (q5j kind t s && st s)
theorem Sp.oth_ {c A B : List GSlot} {t : GTime} {own : GSlot} {kind : Int} (h : Sp c t A own B) : (st own || c.any (oth kind t)) = strag kind t A own B := by
  have hA : A.any (oth kind t) = A.any (fun s => q5j kind t s && st s) := z3z fun x hx => by
    have : x.Time ≠ t := fun e => by have := h.lo x hx; rw [e] at this; omega
    unfold oth; rw [decide_eq_false this]; rfl
  have hB : B.any (oth kind t) = B.any (fun s => q5j kind t s && st s) := z3z fun x hx => by
    have : x.Time ≠ t := fun e => by have := h.hi x hx; rw [e] at this; omega
    unfold oth; rw [decide_eq_false this]; rfl
  have hc : c.any (oth kind t) = (A.any (oth kind t) || B.any (oth kind t)) := by
    rcases h.at_ with ⟨e, _⟩ | ⟨e, ht⟩
    · rw [e, List.any_append]
    · rw [e, List.any_append, List.any_cons]
      have : oth kind t own = false := by unfold oth; rw [decide_eq_true ht]; rfl
      rw [this, Bool.false_or]
  rw [hc, hA, hB]; unfold strag
  cases A.any (fun s => q5j kind t s && st s) <;> cases st own <;> simp
def qv4 (kind port : Int) (t : GTime) (r : GRec) (n : Int) (own : GSlot) (p : List GSlot) : List GSlot :=
  (p.filter (ltB t)).map (mk kind t) ++ ((if p.any (gtB t) = true then one (dirty (upd port r n own)) else []) ++ (p.filter (gtB t)).map (mk kind t))
theorem zs6 {c A B : List GSlot} {own : GSlot} {kind port : Int} {t : GTime} {r : GRec} {n : Int} {N : Nat} (hc : Cl c) (hs : Sz N c) (hN : N < 900000) (ht : ok t) (h : Sp c t A own B) (h0 : Rt own.In.a0) (h1 : Rt own.In.a1) (hl : lens N own) (hn : -2147483648 ≤ n ∧ n ≤ 2147483648) (hn0 : n ≠ 0) (hport : port = 0 ∨ port = 1) :
    q4e c kind port t r n own = some (q9f kind port t r n A own B, strag kind t A own B, true) := by
  have hlc := hs.len; obtain ⟨l0, l1, l2⟩ := hl; refine Ok.eq ?_; unfold q4e; obtain ⟨own', ho⟩ : ∃ o, o = dirty (upd port r n own) := ⟨_, rfl⟩; have hsp : c.Pairwise klt := hc.inc; have loop : ∀ w0 w1, (⟨own.Time, (⟨w0, w1⟩ : Arr2 (List GItem)), own.Sent, true, own.Fired⟩ : GSlot) = own' → Ok (p9 (q23 c kind t own w0 w1) rounds ((own.Fired && (!own.Dirty)), emp own', 0, [])) (fun v => v = (q9f kind port t r n A own B, strag kind t A own B, true)) := fun w0 w1 hw => by
    refine Ok.eachG (l := c) (by omega) (fun i (s : Bool × Bool × List GSlot) => (s.1, s.2.1, i, s.2.2)) (fun x => x.2.2.1) (fun _ _ => rfl) (fun i s => s.1 = (st own || (c.take i).any (oth kind t)) ∧ s.2.1 = (emp own' || (c.take i).any (gtB t)) ∧ s.2.2 = qv4 kind port t r n own (c.take i)) 0 (fun rec i hi s _ hI hr => ?_) (fun rec s hI => ?_) (s0 := (own.Fired && (!own.Dirty), emp own', [])) (by simp [qv4, st]) (Nat.zero_le _)
    · obtain ⟨g, d, o⟩ := s
      obtain ⟨hg, hd, hO⟩ := hI; simp only at hg hd hO; have holen : o.length ≤ i + 1 := by
        rw [hO]; unfold qv4; have a1 := List.length_filter_le (ltB t) (c.take i); have a2 : ((c.take i).filter (ltB t)).length + ((c.take i).filter (gtB t)).length ≤ i := by
          have : ∀ l : List GSlot, (l.filter (ltB t)).length + (l.filter (gtB t)).length ≤ l.length := fun l => by
            induction l with
            | nil => simp
            | cons x l ih =>
              rw [List.filter_cons, List.filter_cons]
              by_cases p : key x.Time < key t
              · have q : ¬ key t < key x.Time := by omega
                rw [if_pos (show ltB t x = true from decide_eq_true p), if_neg (by unfold gtB; simpa using q)]; simp only [List.length_cons]; omega
              · rw [if_neg (by unfold ltB; simpa using p)]
                split <;> simp only [List.length_cons] <;> omega
          refine Nat.le_trans (this _) ?_; rw [List.length_take]; omega
        have a3 : ∀ s : GSlot, (one s).length ≤ 1 := fun s => by unfold one; split <;> simp
        have a4 := a3 (dirty (upd port r n own)); rw [List.length_append, List.length_append, List.length_map, List.length_map]
        split
        · omega
        · simp only [List.length_nil]; omega
      unfold q23; refine Ok.iteB (fun _ => Ok.bind (Ok.idxN hi ?_)) (fun hx => by simp only [decide_eq_false_iff_not] at hx; omega); rw [teq]; have hok := (hc.good _ (List.getElem_mem hi)).time; refine Ok.iteB (fun he => ?_) (fun he => ?_)
      · simp only [decide_eq_true_eq] at he
        rw [wrap_i64 ((i : Int) + 1) (by omega)]; have e1 : ltB t c[i] = false := by unfold ltB; rw [he]; simp
        have e2 : gtB t c[i] = false := by unfold gtB; rw [he]; simp
        have e3 : oth kind t c[i] = false := by unfold oth; rw [decide_eq_true he]; rfl
        refine hr (g, d, o) ⟨?_, ?_, ?_⟩
        · show g = _; rw [q6x hi, e3, Bool.or_false]; exact hg
        · show d = _; rw [q6x hi, e2, Bool.or_false]; exact hd
        · show o = _; rw [hO]; unfold qv4; rw [q6x hi, q8i hi, q8i hi, e1, e2]; simp
      · simp only [decide_eq_false_iff_not] at he
        have J4 : ∀ g' y, g' = (g || (q5j kind t c[i] && st c[i])) → y = mk kind t c[i] → Ok (q1i t own w0 w1 d (i : Int) o rec g' y) (fun v => v = (q9f kind port t r n A own B, strag kind t A own B, true)) := fun g' y hg' hy => by
          have hyt : y.Time = c[i].Time := by rw [hy]; exact zo9 _ _ _
          have e3 : oth kind t c[i] = (q5j kind t c[i] && st c[i]) := by unfold oth; rw [decide_eq_false he]; rfl
          have hg2 : g' = (st own || (c.take (i + 1)).any (oth kind t)) := by rw [hg', hg, q6x hi, e3, Bool.or_assoc]
          have done : ∀ d' o', d' = (emp own' || (c.take (i + 1)).any (gtB t)) → o' = qv4 kind port t r n own (c.take (i + 1)) → Ok (rec (g', d', IntKind.i64.wrap ((i : Int) + 1), o')) (fun v => v = (q9f kind port t r n A own B, strag kind t A own B, true)) := fun d' o' hd' ho' => by
            rw [wrap_i64 ((i : Int) + 1) (by omega)]; exact hr (g', d', o') ⟨hg2, hd', ho'⟩
          have hw' : ([(⟨own.Time, (⟨w0, w1⟩ : Arr2 (List GItem)), own.Sent, true, own.Fired⟩ : GSlot)] : List GSlot) = [own'] := by rw [hw]
          rcases Int.lt_trichotomy (key c[i].Time) (key t) with hlt | heq | hgt
          · have e1 : ltB t c[i] = true := decide_eq_true hlt
            have e2 : gtB t c[i] = false := decide_eq_false (by omega); have hno : ∀ x ∈ c.take i, gtB t x = false := fun x hx => by
              obtain ⟨j, hj, rfl⟩ := List.mem_iff_getElem.1 hx; rw [List.length_take] at hj; rw [List.getElem_take]; have : klt (c[j]'(by omega)) c[i] := (List.pairwise_iff_getElem.1 hsp) j i (by omega) hi (by omega); unfold klt at this; exact decide_eq_false (by omega)
            have hno' := z88 hno; have hout : o ++ [y] = qv4 kind port t r n own (c.take (i + 1)) := by
              rw [hO]; unfold qv4; rw [q6x hi, q8i hi, q8i hi, e1, e2, hno', qu3 hno, hy]; simp
            have hd' : d = (emp own' || (c.take (i + 1)).any (gtB t)) := by rw [q6x hi, e2, Bool.or_false]; exact hd
            unfold q1i; refine Ok.iteB (fun hdt => Ok.guard (by simp; omega) (done _ _ ?_ hout)) (fun hdf => Ok.bind (Ok.of_eq (TS.rless_eq _ _) (Ok.iteB (fun hv => ?_) (fun hv => Ok.guard (by simp; omega) (done _ _ ?_ hout)))))
            · rw [← hd']; exact hdt.symm
            · simp only [decide_eq_true_eq] at hv
              rw [hyt] at hv; omega
            · rw [← hd']; exact hdf.symm
          · exact absurd (key_inj hok ht heq) he
          · have e1 : ltB t c[i] = false := decide_eq_false (by omega)
            have e2 : gtB t c[i] = true := decide_eq_true hgt; unfold q1i; refine Ok.iteB (fun hdt => Ok.guard (by simp; omega) (done _ _ ?_ ?_)) (fun hdf => Ok.bind (Ok.of_eq (TS.rless_eq _ _) (Ok.iteB (fun hv => Ok.guard (by simp; omega) (Ok.guard (by simp; omega) (done _ _ ?_ ?_))) (fun hv => ?_))))
            · rw [q6x hi, e2]; simp
            · rw [hO]; unfold qv4
              rw [q6x hi, q8i hi, q8i hi, e1, e2, hy]; rw [hdt] at hd; rcases Bool.eq_false_or_eq_true ((c.take i).any (gtB t)) with h4 | h4
              · rw [h4]; simp
              · rw [h4, Bool.or_false] at hd
                rw [h4]; have : one (dirty (upd port r n own)) = [] := by rw [← ho]; unfold one; rw [if_pos hd.symm]
                simp [this]
            · rw [q6x hi, e2]; simp
            · rw [hO, hw']; unfold qv4
              rw [q6x hi, q8i hi, q8i hi, e1, e2, hy]; rw [hdf] at hd; have h5 := Bool.or_eq_false_iff.1 hd.symm; have h6 : ∀ x ∈ c.take i, gtB t x = false := fun x hx => by
                rw [Bool.eq_false_iff]; intro hx2; have := List.any_eq_true.2 ⟨x, hx, hx2⟩; rw [h5.2] at this; cases this
              have : one (dirty (upd port r n own)) = [own'] := by rw [← ho]; unfold one; rw [if_neg (by rw [h5.1]; simp)]
              rw [h5.2, qu3 h6, this]; simp
            · simp only [decide_eq_false_iff_not] at hv
              exact absurd ⟨ht, by rw [hyt]; exact hok, by rw [hyt]; exact hgt⟩ hv
        have mkT : q5j kind t c[i] = true → (⟨c[i].Time, c[i].In, c[i].Sent, true, c[i].Fired⟩ : GSlot) = mk kind t c[i] := fun h => by unfold mk; rw [if_pos h]; rfl
        have mkF : q5j kind t c[i] = false → c[i] = mk kind t c[i] := fun h => by unfold mk; rw [if_neg (by rw [h]; simp)]
        refine Ok.iteB (fun h14 => Ok.bind (Ok.of_eq (zd9 _ _) (Ok.iteB (fun hv => ?_) (fun hv => ?_)))) (fun h14 => ?_)
        · have h5 : q5j kind t c[i] = true := by unfold q5j; rw [h14, Bool.true_and]; exact hv
          exact J4 _ _ (by rw [h5, Bool.true_and]; rfl) (mkT h5)
        · have h5 : q5j kind t c[i] = false := by unfold q5j; rw [h14, Bool.true_and]; exact hv
          exact J4 _ _ (by rw [h5, Bool.false_and, Bool.or_false]) (mkF h5)
        · have h5 : q5j kind t c[i] = false := by unfold q5j; rw [h14, Bool.false_and]
          exact J4 _ _ (by rw [h5, Bool.false_and, Bool.or_false]) (mkF h5)
    · obtain ⟨g, d, o⟩ := s
      obtain ⟨hg, hd, hO⟩ := hI; simp only at hg hd hO; unfold q23; refine Ok.iteB (fun hx => by simp only [decide_eq_true_eq] at hx; omega) (fun _ => ?_); unfold q66; rw [List.take_length] at hg hd hO; rw [h.oth_] at hg; have eB := h.gt_; have eA := h.lt_; have hany : c.any (gtB t) = !B.isEmpty := by
        cases B with
        | nil =>
          refine z88 fun x hx => ?_; rw [Bool.eq_false_iff]; intro hx2; exact absurd hx2 ((List.filter_eq_nil_iff.1 eB) x hx)
        | cons b B =>
          have : b ∈ c.filter (gtB t) := by rw [eB]; simp
          exact List.any_eq_true.2 ⟨b, (List.mem_filter.1 this).1, (List.mem_filter.1 this).2⟩
      have hout : o = A.map (mk kind t) ++ ((if B.isEmpty = true then [] else one own') ++ B.map (mk kind t)) := by
        rw [hO]; unfold qv4; rw [hany, eA, eB, ← ho]
        cases B <;> simp
      have holen : o.length ≤ N + 1 := by
        rw [hout]; have a1 : A.length + B.length ≤ N := by
          rcases h.at_ with ⟨e, _⟩ | ⟨e, _⟩ <;> (rw [e] at hlc; simp at hlc; omega)
        have a2 : (one own').length ≤ 1 := by unfold one; split <;> simp
        rw [List.length_append, List.length_append, List.length_map, List.length_map]
        split <;> (try simp only [List.length_nil]) <;> omega
      refine Ok.iteB (fun hdf => Ok.guard (by simp; omega) (Ok.some ?_)) (fun hdt => Ok.some ?_)
      · simp only [Bool.not_eq_true'] at hdf
        rw [hdf, hany] at hd; have h5 := Bool.or_eq_false_iff.1 hd.symm; have h6 : B = [] := by
          cases B with
          | nil => rfl
          | cons b B => simp at h5
        have : one own' = [own'] := by unfold one; rw [if_neg (by rw [h5.1]; simp)]
        rw [hw, hg, hout]; subst h6; simp [q9f, ← ho, this]
      · simp only [Bool.not_eq_false'] at hdt
        rw [hdt, hany] at hd; rw [hg, hout]; unfold q9f; rw [← ho]
        cases B with
        | nil =>
          simp at hd; have : one own' = [] := by unfold one; rw [if_pos hd]
          simp [this]
        | cons b B => simp
  rcases hport with rfl | rfl
  · refine Ok.guard (by omega) (Ok.bind (Ok.some (Ok.bind (Ok.of_eq (z1h h0 (by omega) hn hn0).2.1 (Ok.guard (by omega) (Ok.bind (Ok.some (Ok.bind (Ok.some (Ok.bind (Ok.of_eq (z0l _) ?_)))))))))))
    have e : (⟨own.Time, (⟨if Int.toNat 0 = 0 then ad own.In.a0 r n else own.In.a0, if Int.toNat 0 = 1 then ad own.In.a0 r n else own.In.a1⟩ : Arr2 (List GItem)), own.Sent, true, own.Fired⟩ : GSlot) = own' := ho.symm; have := loop _ _ e; rw [← e] at this; exact this
  · refine Ok.guard (by omega) (Ok.bind (Ok.some (Ok.bind (Ok.of_eq (z1h h1 (by omega) hn hn0).2.1 (Ok.guard (by omega) (Ok.bind (Ok.some (Ok.bind (Ok.some (Ok.bind (Ok.of_eq (z0l _) ?_)))))))))))
    have e : (⟨own.Time, (⟨if Int.toNat 1 = 0 then ad own.In.a1 r n else own.In.a0, if Int.toNat 1 = 1 then ad own.In.a1 r n else own.In.a1⟩ : Arr2 (List GItem)), own.Sent, true, own.Fired⟩ : GSlot) = own' := ho.symm; have := loop _ _ e; rw [← e] at this; exact this
theorem zi6 {c A B : List GSlot} {own : GSlot} {kind port : Int} {t : GTime} {r : GRec} {n : Int} {N : Nat} (h : Cl c) (hs : Sz N c) (hN : N < 900000) (ht : ok t) (hsp : Sp c t A own B) (hn : -2147483648 ≤ n ∧ n ≤ 2147483648) (hn0 : n ≠ 0) (hport : port = 0 ∨ port = 1) :
    q17 c kind port t r n = some (q9f kind port t r n A own B, strag kind t A own B, true) := by
  have hlc := hs.len; refine Ok.eq ?_; unfold q17; refine Ok.guard (by simp only [List.length_nil]; omega) (Ok.bind (Ok.of_eq (qg3 t) ?_)); rw [if_pos ht]; refine Ok.iteB (fun _ => Ok.bind (Ok.of_eq (rcRight_eq (by omega) (fun s hx => by obtain ⟨a, b, d⟩ := hs.each s hx; exact ⟨by omega, by omega, by omega⟩)) (Ok.iteB (fun hx => ?_) (fun _ => ?_)))) (fun hx => by cases hx)
  · simp [h] at hx; omega
  refine Ok.eachG (l := c) (by omega) (fun i (s : GSlot) => (i, s)) (fun x => x.1) (fun _ _ => rfl) (fun i s => s = ((c.take i).find? (fun s => decide (s.Time = t))).getD (dflt t)) 0 (fun rec i hi s _ hI hr => ?_) (fun rec s hI => ?_) (s0 := dflt t) (by simp) (Nat.zero_le _)
  · unfold q4f
    refine Ok.iteB (fun _ => Ok.bind (Ok.idxN hi ?_)) (fun hx => by simp only [decide_eq_false_iff_not] at hx; omega); rw [teq, wrap_i64 ((i : Int) + 1) (by omega)]; have hno : c[i].Time = t → (c.take i).find? (fun s => decide (s.Time = t)) = none := fun he => by
      refine List.find?_eq_none.2 fun x hx => ?_; obtain ⟨j, hj, rfl⟩ := List.mem_iff_getElem.1 hx; rw [List.length_take] at hj; rw [List.getElem_take]; have : klt (c[j]'(by omega)) c[i] := (List.pairwise_iff_getElem.1 h.inc) j i (by omega) hi (by omega); unfold klt at this; rw [he] at this; simp only [decide_eq_true_eq]; intro e; rw [e] at this; omega
    refine Ok.iteB (fun he => hr _ ?_) (fun he => hr _ ?_)
    · simp only [decide_eq_true_eq] at he
      rw [List.take_succ_eq_append_getElem hi, List.find?_append, hno he]; simp [he]
    · simp only [decide_eq_false_iff_not] at he
      rw [List.take_succ_eq_append_getElem hi, List.find?_append, hI]; simp [he]
  · unfold q4f
    refine Ok.iteB (fun hx => by simp only [decide_eq_true_eq] at hx; omega) (fun _ => ?_); rw [List.take_length] at hI; have hfA : A.find? (fun s => decide (s.Time = t)) = none := List.find?_eq_none.2 fun x hx => by
      have := hsp.lo x hx; simp only [decide_eq_true_eq]; intro e; rw [e] at this; omega
    have hfB : B.find? (fun s => decide (s.Time = t)) = none := List.find?_eq_none.2 fun x hx => by
      have := hsp.hi x hx; simp only [decide_eq_true_eq]; intro e; rw [e] at this; omega
    have e : s = own ∧ Rt own.In.a0 ∧ Rt own.In.a1 ∧ lens N own := by
      rcases hsp.at_ with ⟨e, h1⟩ | ⟨e, h1⟩
      · refine ⟨?_, by rw [h1]; exact Rt.nil, by rw [h1]; exact Rt.nil, by rw [h1]; exact ⟨Nat.zero_le _, Nat.zero_le _, Nat.zero_le _⟩⟩
        rw [hI, e, List.find?_append, hfA, hfB, h1]; rfl
      · have hm : own ∈ c := by rw [e]; simp
        refine ⟨?_, (h.good own hm).a0, (h.good own hm).a1, hs.each own hm⟩; rw [hI, e, List.find?_append, hfA, List.find?_cons, decide_eq_true h1]; rfl
    rw [e.1]; exact Ok.of_eq (zs6 h hs hN ht hsp e.2.1 e.2.2.1 e.2.2.2 hn hn0 hport) rfl
theorem zi7 {c : List GSlot} {kind port : Int} {t : GTime} {r : GRec} {n : Int} {N : Nat} (hs : Sz N c) (hN : N < 900000) (h : ¬ (Cl c ∧ ok t ∧ (port = 0 ∨ port = 1) ∧ n ≠ 0 ∧ -2147483648 ≤ n ∧ n ≤ 2147483648)) : q17 c kind port t r n = some (c, false, false) := by
  have hlc := hs.len; refine Ok.eq ?_; unfold q17; refine Ok.guard (by simp only [List.length_nil]; omega) (Ok.bind (Ok.of_eq (qg3 t) ?_))
  by_cases ht : ok t
  · rw [if_pos ht]
    refine Ok.iteB (fun _ => Ok.bind (Ok.of_eq (rcRight_eq (by omega) (fun s hx => by obtain ⟨a, b, d⟩ := hs.each s hx; exact ⟨by omega, by omega, by omega⟩)) (Ok.iteB (fun hx => Ok.some (by simp)) (fun hx => ?_)))) (fun hx => by cases hx)
    exfalso
    simp at hx; exact h ⟨hx.1.1.1.1, ht, by omega, hx.1.1.2, by omega, by omega⟩
  · rw [if_neg ht]
    exact Ok.iteB (fun hx => by cases hx) (fun _ => Ok.some (by simp))
end CE
end Go.Proofs.YtbcbcdbkdljjlaaGreat
