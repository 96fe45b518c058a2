/-
  The law in plain words: what its plain function gives is true. No condition beyond those that each theorem names.
-/
import Derived.Test.YthpahhhdapdcpaaP18d
import Derived.Test.YthpahhhdapdcpaaWalkCS3
set_option linter.unusedSimpArgs false
set_option linter.unusedVariables false
namespace Go.Proofs.Ythpahhhdapdcpaa
open Go Go.RowKit BG TS
namespace CE
/-! The statement CellOrder: a cell is told by what stands at each timestamp. -/
def look (c : List GSlot) (t : GTime) : GSlot := (c.find? (fun s => decide (s.Time = t))).getD (dflt t)
theorem Cl.uniq {c : List GSlot} (h : Cl c) {x y : GSlot} (hx : x ∈ c) (hy : y ∈ c) (e : x.Time = y.Time) : x = y := by
  obtain ⟨i, hi, rfl⟩ := List.mem_iff_getElem.1 hx
  obtain ⟨j, hj, rfl⟩ := List.mem_iff_getElem.1 hy
  rcases Nat.lt_trichotomy i j with h1 | h1 | h1
  · have : klt c[i] c[j] := (List.pairwise_iff_getElem.1 h.inc) i j hi hj h1
    unfold klt at this; rw [e] at this; omega
  · subst h1; rfl
  · have : klt c[j] c[i] := (List.pairwise_iff_getElem.1 h.inc) j i hj hi h1
    unfold klt at this; rw [e] at this; omega
theorem look_mem {c : List GSlot} (h : Cl c) {s : GSlot} (hs : s ∈ c) : look c s.Time = s := by
  unfold look
  cases hf : c.find? (fun x => decide (x.Time = s.Time)) with
  | none =>
    have := List.find?_eq_none.1 hf s hs
    simp at this
  | some y =>
    have h1 := List.mem_of_find?_eq_some hf
    have h2 := List.find?_some hf
    exact h.uniq h1 hs (by simpa using h2)
theorem look_time (c : List GSlot) (t : GTime) : (look c t).Time = t := by
  unfold look
  cases hf : c.find? (fun x => decide (x.Time = t)) with
  | none => rfl
  | some y => simpa using List.find?_some hf
theorem look_cases {c : List GSlot} (h : Cl c) (t : GTime) : (look c t = dflt t ∧ ∀ s ∈ c, s.Time ≠ t) ∨ (look c t ∈ c ∧ Good (look c t)) := by
  unfold look
  cases hf : c.find? (fun x => decide (x.Time = t)) with
  | none => exact .inl ⟨rfl, fun s hs => by have := List.find?_eq_none.1 hf s hs; simpa using this⟩
  | some y =>
    have h1 := List.mem_of_find?_eq_some hf
    exact .inr ⟨h1, h.good y h1⟩
theorem emp_dflt (t : GTime) : emp (dflt t) = true := rfl
theorem klt_irr (x : GSlot) : ¬ klt x x := by unfold klt; omega
theorem Cl.mem_look {a b : List GSlot} (ha : Cl a) (hb : Cl b) (h : ∀ t, look a t = look b t) : ∀ x ∈ a, x ∈ b := by
  intro x hx
  have h1 := look_mem ha hx
  rw [h] at h1
  rcases look_cases hb x.Time with ⟨h2, _⟩ | ⟨h2, _⟩
  · rw [h1] at h2
    have := (ha.good x hx).some
    rw [h2, emp_dflt] at this; cases this
  · rw [h1] at h2; exact h2
theorem Cl.unique {a b : List GSlot} (ha : Cl a) (hb : Cl b) (h : ∀ t, look a t = look b t) : a = b := by
  have nd : ∀ {l : List GSlot}, l.Pairwise klt → l.Nodup := fun h => h.imp (fun {p q} (hab : klt p q) (e : p = q) => klt_irr q (by rw [e] at hab; exact hab))
  have p : a.Perm b := (List.perm_ext_iff_of_nodup (nd ha.inc) (nd hb.inc)).2 fun r => ⟨ha.mem_look hb h r, hb.mem_look ha (fun t => (h t).symm) r⟩
  exact List.Perm.eq_of_pairwise (le := klt) (fun x y _ _ h1 h2 => absurd (show klt x x by unfold klt at *; omega) (klt_irr _)) ha.inc hb.inc p
theorem Sp.look_ {c A B : List GSlot} {t : GTime} {own : GSlot} (h : Sp c t A own B) : look c t = own := by
  have hfA : A.find? (fun s => decide (s.Time = t)) = none := List.find?_eq_none.2 fun x hx => by
    have := h.lo x hx
    simp only [decide_eq_true_eq]
    intro e; rw [e] at this; omega
  have hfB : B.find? (fun s => decide (s.Time = t)) = none := List.find?_eq_none.2 fun x hx => by
    have := h.hi x hx
    simp only [decide_eq_true_eq]
    intro e; rw [e] at this; omega
  unfold look
  rcases h.at_ with ⟨e, h1⟩ | ⟨e, h1⟩
  · rw [e, List.find?_append, hfA, hfB, h1]; rfl
  · rw [e, List.find?_append, hfA, List.find?_cons, decide_eq_true h1]; rfl
theorem Good.mk_ {kind : Int} {t : GTime} {s : GSlot} (h : Good s) : Good (CE.mk kind t s) := by
  unfold CE.mk; split
  · exact ⟨h.time, h.some, h.a0, h.a1, h.sent⟩
  · exact h
/-- A slot that is left empty is as none. -/
def nz (s : GSlot) : GSlot := if emp s = true then dflt s.Time else s
def mkE (kind : Int) (t : GTime) (s : GSlot) : GSlot := if emp s = true then s else mk kind t s
theorem upd_rt {port : Int} {r : GRec} {n : Int} {s : GSlot} {N : Nat} (h0 : Rt s.In.a0) (h1 : Rt s.In.a1) (hl : lens N s) (hN : N < 1000000) (hn : -2147483648 ≤ n ∧ n ≤ 2147483648) (hn0 : n ≠ 0) : Rt (upd port r n s).In.a0 ∧ Rt (upd port r n s).In.a1 := by
  obtain ⟨l0, l1, l2⟩ := hl
  have := (ad_ok (r := r) h0 (by omega) hn hn0).2.2.1
  have := (ad_ok (r := r) h1 (by omega) hn hn0).2.2.1
  unfold upd
  refine ⟨?_, ?_⟩ <;> (simp only; split <;> assumption)
theorem comeL_cl {c A B : List GSlot} {own : GSlot} {kind port : Int} {t : GTime} {r : GRec} {n : Int} {N : Nat} (h : Sp c t A own B) (hc : Cl c) (hs : Sz N c) (hN : N < 1000000) (ht : ok t) (hn : -2147483648 ≤ n ∧ n ≤ 2147483648) (hn0 : n ≠ 0) : Cl (comeL kind port t r n A own B) := by
  obtain ⟨r0, r1, r2, lo⟩ := h.own_rt hc hs
  obtain ⟨u0, u1⟩ := upd_rt (port := port) (r := r) r0 r1 lo hN hn hn0
  have hot := h.time
  have hpw : A.Pairwise klt ∧ B.Pairwise klt := by
    rcases h.at_ with ⟨e, _⟩ | ⟨e, _⟩
    · have := List.pairwise_append.1 (e ▸ hc.inc); exact ⟨this.1, this.2.1⟩
    · have := List.pairwise_append.1 (e ▸ hc.inc); exact ⟨this.1, (List.pairwise_cons.1 this.2.1).2⟩
  have pm : ∀ l : List GSlot, l.Pairwise klt → (l.map (mk kind t)).Pairwise klt := fun l hl => by
    rw [List.pairwise_map]
    exact hl.imp fun hab => by unfold klt at *; rw [mk_time, mk_time]; exact hab
  have hone : ∀ x ∈ one (dirty (upd port r n own)), x = dirty (upd port r n own) ∧ emp (dirty (upd port r n own)) = false := fun x hx => by
    unfold one at hx
    split at hx
    · cases hx
    · rename_i h1
      exact ⟨List.mem_singleton.1 hx, by simpa using h1⟩
  unfold comeL
  refine ⟨List.pairwise_append.2 ⟨pm A hpw.1, List.pairwise_append.2 ⟨by unfold one; split <;> simp, pm B hpw.2, fun a ha b hb => ?_⟩, fun a ha b hb => ?_⟩, fun s hx => ?_⟩
  · obtain ⟨y, hy, rfl⟩ := List.mem_map.1 hb
    rw [(hone a ha).1]
    unfold klt; rw [mk_time]
    show key own.Time < _
    rw [hot]; exact h.hi y hy
  · obtain ⟨y, hy, rfl⟩ := List.mem_map.1 ha
    have hy' := h.lo y hy
    unfold klt; rw [mk_time]
    rcases List.mem_append.1 hb with hb | hb
    · rw [(hone b hb).1]
      show _ < key own.Time
      rw [hot]; exact hy'
    · obtain ⟨z, hz, rfl⟩ := List.mem_map.1 hb
      rw [mk_time]
      have := h.hi z hz
      omega
  · rcases List.mem_append.1 hx with hx | hx
    · obtain ⟨y, hy, rfl⟩ := List.mem_map.1 hx
      exact (hc.good y (h.memA.1 y hy)).mk_
    · rcases List.mem_append.1 hx with hx | hx
      · obtain ⟨e, e2⟩ := hone s hx
        rw [e]
        exact ⟨by show ok own.Time; rw [hot]; exact ht, e2, u0, u1, r2⟩
      · obtain ⟨y, hy, rfl⟩ := List.mem_map.1 hx
        exact (hc.good y (h.memA.2 y hy)).mk_
/-- What stands at a timestamp once a record has come. -/
def step (kind port : Int) (t : GTime) (r : GRec) (n : Int) (w : GTime) (s : GSlot) : GSlot := if w = t then nz (dirty (upd port r n s)) else mkE kind t s
theorem find_map (kind : Int) (t w : GTime) (l : List GSlot) : (l.map (mk kind t)).find? (fun s => decide (s.Time = w)) = (l.find? (fun s => decide (s.Time = w))).map (mk kind t) := by
  rw [List.find?_map]
  congr 2
  funext s
  simp only [Function.comp, mk_time]
theorem comeL_look {c A B : List GSlot} {own : GSlot} {kind port : Int} {t : GTime} {r : GRec} {n : Int} (h : Sp c t A own B) (hc : Cl c) (w : GTime) : look (comeL kind port t r n A own B) w = step kind port t r n w (look c w) := by
  have hot := h.time
  unfold step
  by_cases hw : w = t
  · subst hw
    rw [if_pos rfl, h.look_]
    have hfA : A.find? (fun s => decide (s.Time = w)) = none := List.find?_eq_none.2 fun x hx => by
      have := h.lo x hx
      simp only [decide_eq_true_eq]
      intro e; rw [e] at this; omega
    have hfB : B.find? (fun s => decide (s.Time = w)) = none := List.find?_eq_none.2 fun x hx => by
      have := h.hi x hx
      simp only [decide_eq_true_eq]
      intro e; rw [e] at this; omega
    unfold look comeL
    rw [List.find?_append, List.find?_append, find_map, find_map, hfA, hfB]
    unfold one nz
    have et : (dirty (upd port r n own)).Time = w := hot
    split
    · rw [et]; rfl
    · rw [List.find?_cons, decide_eq_true et]; rfl
  · rw [if_neg hw]
    have hfo : (one (dirty (upd port r n own))).find? (fun s => decide (s.Time = w)) = none := List.find?_eq_none.2 fun x hx => by
      unfold one at hx
      split at hx
      · cases hx
      · rw [List.mem_singleton] at hx
        simp only [decide_eq_true_eq]
        rw [hx]
        intro e
        exact hw (by rw [← e]; exact hot)
    have hf : c.find? (fun s => decide (s.Time = w)) = (A ++ B).find? (fun s => decide (s.Time = w)) := by
      rcases h.at_ with ⟨e, _⟩ | ⟨e, h1⟩
      · rw [e]
      · rw [e, List.find?_append, List.find?_append, List.find?_cons, decide_eq_false (by rw [h1]; exact fun e => hw e.symm)]
    have e1 : (comeL kind port t r n A own B).find? (fun s => decide (s.Time = w)) = (c.find? (fun s => decide (s.Time = w))).map (mk kind t) := by
      unfold comeL
      rw [List.find?_append, List.find?_append, hfo, find_map, find_map, hf, List.find?_append]
      cases A.find? (fun s => decide (s.Time = w)) <;> rfl
    unfold look mkE
    rw [e1]
    cases hq : c.find? (fun s => decide (s.Time = w)) with
    | none => rfl
    | some y =>
      have := (hc.good y (List.mem_of_find?_eq_some hq)).some
      show mk kind t y = if emp y = true then y else mk kind t y
      rw [if_neg (by rw [this]; simp)]
/-- Without whether it was made. -/
def er (s : GSlot) : GSlot := ⟨s.Time, s.In, s.Sent, s.Dirty, false⟩
theorem emp_iff (s : GSlot) : emp s = true ↔ s.In = ⟨[], []⟩ ∧ s.Sent = [] := by
  unfold emp
  obtain ⟨t, ⟨a, b⟩, s, d, f⟩ := s
  simp only [Bool.and_eq_true, List.isEmpty_iff, Arr2.mk.injEq, and_assoc]
theorem nz_in (z : GSlot) : (nz z).In = z.In ∧ (nz z).Sent = z.Sent ∧ (nz z).Time = z.Time := by
  unfold nz
  by_cases h : emp z = true
  · rw [if_pos h]
    obtain ⟨h1, h2⟩ := (emp_iff z).1 h
    exact ⟨h1.symm, h2.symm, rfl⟩
  · rw [if_neg h]; exact ⟨rfl, rfl, rfl⟩
theorem inI_i8 {n : Int} (h : inI .i8 n) : -128 ≤ n ∧ n < 128 := by
  simp [inI, Lit.wf, IntKind.min, IntKind.max, IntKind.signed, IntKind.bits] at h
  omega
end CE
end Go.Proofs.Ythpahhhdapdcpaa
