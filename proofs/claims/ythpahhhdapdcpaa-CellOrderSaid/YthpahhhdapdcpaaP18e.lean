/-
  The law in plain words: what its plain function gives is true. No condition beyond those that each theorem names.
-/
import Derived.Test.YthpahhhdapdcpaaP18d
import Derived.Test.YthpahhhdapdcpaaWalkCO3
set_option linter.unusedSimpArgs false
set_option linter.unusedVariables false
namespace Go.Proofs.Ythpahhhdapdcpaa
open Go Go.RowKit BG TS
namespace CE
/-! The statement CellOrder: a cell is told by what stands at each timestamp. -/
def look (c : List GSlot) (t : GTime) : GSlot := (c.find? (fun s => decide (s.Time = t))).getD (dflt t)
theorem Cl.uniq {c : List GSlot} (h : Cl c) {x y : GSlot} (hx : x ∈ c) (hy : y ∈ c) (e : x.Time = y.Time) : x = y := by
  obtain ⟨i, hi, rfl⟩ := List.mem_iff_getElem.1 hx
  obtain ⟨j, hj, rfl⟩ := List.mem_iff_getElem.1 hy
  rcases Nat.lt_trichotomy i j with h1 | h1 | h1
  · have : klt c[i] c[j] := (List.pairwise_iff_getElem.1 h.inc) i j hi hj h1
    unfold klt at this; rw [e] at this; omega
  · subst h1; rfl
  · have : klt c[j] c[i] := (List.pairwise_iff_getElem.1 h.inc) j i hj hi h1
    unfold klt at this; rw [e] at this; omega
theorem look_mem {c : List GSlot} (h : Cl c) {s : GSlot} (hs : s ∈ c) : look c s.Time = s := by
  unfold look
  cases hf : c.find? (fun x => decide (x.Time = s.Time)) with
  | none =>
    have := List.find?_eq_none.1 hf s hs
    simp at this
  | some y =>
    have h1 := List.mem_of_find?_eq_some hf
    have h2 := List.find?_some hf
    exact h.uniq h1 hs (by simpa using h2)
theorem look_cases {c : List GSlot} (h : Cl c) (t : GTime) : (look c t = dflt t ∧ ∀ s ∈ c, s.Time ≠ t) ∨ (look c t ∈ c ∧ Good (look c t)) := by
  unfold look
  cases hf : c.find? (fun x => decide (x.Time = t)) with
  | none => exact .inl ⟨rfl, fun s hs => by have := List.find?_eq_none.1 hf s hs; simpa using this⟩
  | some y =>
    have h1 := List.mem_of_find?_eq_some hf
    exact .inr ⟨h1, h.good y h1⟩
theorem emp_dflt (t : GTime) : emp (dflt t) = true := rfl
theorem klt_irr (x : GSlot) : ¬ klt x x := by unfold klt; omega
theorem Cl.mem_look {a b : List GSlot} (ha : Cl a) (hb : Cl b) (h : ∀ t, look a t = look b t) : ∀ x ∈ a, x ∈ b := by
  intro x hx
  have h1 := look_mem ha hx
  rw [h] at h1
  rcases look_cases hb x.Time with ⟨h2, _⟩ | ⟨h2, _⟩
  · rw [h1] at h2
    have := (ha.good x hx).some
    rw [h2, emp_dflt] at this; cases this
  · rw [h1] at h2; exact h2
theorem Cl.unique {a b : List GSlot} (ha : Cl a) (hb : Cl b) (h : ∀ t, look a t = look b t) : a = b := by
  have nd : ∀ {l : List GSlot}, l.Pairwise klt → l.Nodup := fun h => h.imp (fun {p q} (hab : klt p q) (e : p = q) => klt_irr q (by rw [e] at hab; exact hab))
  have p : a.Perm b := (List.perm_ext_iff_of_nodup (nd ha.inc) (nd hb.inc)).2 fun r => ⟨ha.mem_look hb h r, hb.mem_look ha (fun t => (h t).symm) r⟩
  exact List.Perm.eq_of_pairwise (le := klt) (fun x y _ _ h1 h2 => absurd (show klt x x by unfold klt at *; omega) (klt_irr _)) ha.inc hb.inc p
theorem Sp.look_ {c A B : List GSlot} {t : GTime} {own : GSlot} (h : Sp c t A own B) : look c t = own := by
  have hfA : A.find? (fun s => decide (s.Time = t)) = none := List.find?_eq_none.2 fun x hx => by
    have := h.lo x hx
    simp only [decide_eq_true_eq]
    intro e; rw [e] at this; omega
  have hfB : B.find? (fun s => decide (s.Time = t)) = none := List.find?_eq_none.2 fun x hx => by
    have := h.hi x hx
    simp only [decide_eq_true_eq]
    intro e; rw [e] at this; omega
  unfold look
  rcases h.at_ with ⟨e, h1⟩ | ⟨e, h1⟩
  · rw [e, List.find?_append, hfA, hfB, h1]; rfl
  · rw [e, List.find?_append, hfA, List.find?_cons, decide_eq_true h1]; rfl
theorem emp_dirty (s : GSlot) : emp (dirty s) = emp s := rfl
theorem emp_mk (kind : Int) (t : GTime) (s : GSlot) : emp (mk kind t s) = emp s := by unfold mk; split <;> rfl
theorem Good.mk_ {kind : Int} {t : GTime} {s : GSlot} (h : Good s) : Good (CE.mk kind t s) := by
  unfold CE.mk; split
  · exact ⟨h.time, h.some, h.a0, h.a1, h.sent⟩
  · exact h
/-- A slot that is left empty is as none. -/
def nz (s : GSlot) : GSlot := if emp s = true then dflt s.Time else s
def mkE (kind : Int) (t : GTime) (s : GSlot) : GSlot := if emp s = true then s else mk kind t s
theorem upd_rt {port : Int} {r : GRec} {n : Int} {s : GSlot} {N : Nat} (h0 : Rt s.In.a0) (h1 : Rt s.In.a1) (hl : lens N s) (hN : N < 1000000) (hn : -2147483648 ≤ n ∧ n ≤ 2147483648) (hn0 : n ≠ 0) : Rt (upd port r n s).In.a0 ∧ Rt (upd port r n s).In.a1 := by
  obtain ⟨l0, l1, l2⟩ := hl
  have := (ad_ok (r := r) h0 (by omega) hn hn0).2.2.1
  have := (ad_ok (r := r) h1 (by omega) hn hn0).2.2.1
  unfold upd
  refine ⟨?_, ?_⟩ <;> (simp only; split <;> assumption)
theorem comeL_cl {c A B : List GSlot} {own : GSlot} {kind port : Int} {t : GTime} {r : GRec} {n : Int} {N : Nat} (h : Sp c t A own B) (hc : Cl c) (hs : Sz N c) (hN : N < 1000000) (ht : ok t) (hn : -2147483648 ≤ n ∧ n ≤ 2147483648) (hn0 : n ≠ 0) : Cl (comeL kind port t r n A own B) := by
  obtain ⟨r0, r1, r2, lo⟩ := h.own_rt hc hs
  obtain ⟨u0, u1⟩ := upd_rt (port := port) (r := r) r0 r1 lo hN hn hn0
  have hot := h.time
  have hpw : A.Pairwise klt ∧ B.Pairwise klt := by
    rcases h.at_ with ⟨e, _⟩ | ⟨e, _⟩
    · have := List.pairwise_append.1 (e ▸ hc.inc); exact ⟨this.1, this.2.1⟩
    · have := List.pairwise_append.1 (e ▸ hc.inc); exact ⟨this.1, (List.pairwise_cons.1 this.2.1).2⟩
  have pm : ∀ l : List GSlot, l.Pairwise klt → (l.map (mk kind t)).Pairwise klt := fun l hl => by
    rw [List.pairwise_map]
    exact hl.imp fun hab => by unfold klt at *; rw [mk_time, mk_time]; exact hab
  have hone : ∀ x ∈ one (dirty (upd port r n own)), x = dirty (upd port r n own) ∧ emp (dirty (upd port r n own)) = false := fun x hx => by
    unfold one at hx
    split at hx
    · cases hx
    · rename_i h1
      exact ⟨List.mem_singleton.1 hx, by simpa using h1⟩
  unfold comeL
  refine ⟨List.pairwise_append.2 ⟨pm A hpw.1, List.pairwise_append.2 ⟨by unfold one; split <;> simp, pm B hpw.2, fun a ha b hb => ?_⟩, fun a ha b hb => ?_⟩, fun s hx => ?_⟩
  · obtain ⟨y, hy, rfl⟩ := List.mem_map.1 hb
    rw [(hone a ha).1]
    unfold klt; rw [mk_time]
    show key own.Time < _
    rw [hot]; exact h.hi y hy
  · obtain ⟨y, hy, rfl⟩ := List.mem_map.1 ha
    have hy' := h.lo y hy
    unfold klt; rw [mk_time]
    rcases List.mem_append.1 hb with hb | hb
    · rw [(hone b hb).1]
      show _ < key own.Time
      rw [hot]; exact hy'
    · obtain ⟨z, hz, rfl⟩ := List.mem_map.1 hb
      rw [mk_time]
      have := h.hi z hz
      omega
  · rcases List.mem_append.1 hx with hx | hx
    · obtain ⟨y, hy, rfl⟩ := List.mem_map.1 hx
      exact (hc.good y (h.memA.1 y hy)).mk_
    · rcases List.mem_append.1 hx with hx | hx
      · obtain ⟨e, e2⟩ := hone s hx
        rw [e]
        exact ⟨by show ok own.Time; rw [hot]; exact ht, e2, u0, u1, r2⟩
      · obtain ⟨y, hy, rfl⟩ := List.mem_map.1 hx
        exact (hc.good y (h.memA.2 y hy)).mk_
/-- What stands at a timestamp once a record has come. -/
def step (kind port : Int) (t : GTime) (r : GRec) (n : Int) (w : GTime) (s : GSlot) : GSlot := if w = t then nz (dirty (upd port r n s)) else mkE kind t s
theorem find_map (kind : Int) (t w : GTime) (l : List GSlot) : (l.map (mk kind t)).find? (fun s => decide (s.Time = w)) = (l.find? (fun s => decide (s.Time = w))).map (mk kind t) := by
  rw [List.find?_map]
  congr 2
  funext s
  simp only [Function.comp, mk_time]
theorem comeL_look {c A B : List GSlot} {own : GSlot} {kind port : Int} {t : GTime} {r : GRec} {n : Int} (h : Sp c t A own B) (hc : Cl c) (w : GTime) : look (comeL kind port t r n A own B) w = step kind port t r n w (look c w) := by
  have hot := h.time
  unfold step
  by_cases hw : w = t
  · subst hw
    rw [if_pos rfl, h.look_]
    have hfA : A.find? (fun s => decide (s.Time = w)) = none := List.find?_eq_none.2 fun x hx => by
      have := h.lo x hx
      simp only [decide_eq_true_eq]
      intro e; rw [e] at this; omega
    have hfB : B.find? (fun s => decide (s.Time = w)) = none := List.find?_eq_none.2 fun x hx => by
      have := h.hi x hx
      simp only [decide_eq_true_eq]
      intro e; rw [e] at this; omega
    unfold look comeL
    rw [List.find?_append, List.find?_append, find_map, find_map, hfA, hfB]
    unfold one nz
    have et : (dirty (upd port r n own)).Time = w := hot
    split
    · rw [et]; rfl
    · rw [List.find?_cons, decide_eq_true et]; rfl
  · rw [if_neg hw]
    have hfo : (one (dirty (upd port r n own))).find? (fun s => decide (s.Time = w)) = none := List.find?_eq_none.2 fun x hx => by
      unfold one at hx
      split at hx
      · cases hx
      · rw [List.mem_singleton] at hx
        simp only [decide_eq_true_eq]
        rw [hx]
        intro e
        exact hw (by rw [← e]; exact hot)
    have hf : c.find? (fun s => decide (s.Time = w)) = (A ++ B).find? (fun s => decide (s.Time = w)) := by
      rcases h.at_ with ⟨e, _⟩ | ⟨e, h1⟩
      · rw [e]
      · rw [e, List.find?_append, List.find?_append, List.find?_cons, decide_eq_false (by rw [h1]; exact fun e => hw e.symm)]
    have e1 : (comeL kind port t r n A own B).find? (fun s => decide (s.Time = w)) = (c.find? (fun s => decide (s.Time = w))).map (mk kind t) := by
      unfold comeL
      rw [List.find?_append, List.find?_append, hfo, find_map, find_map, hf, List.find?_append]
      cases A.find? (fun s => decide (s.Time = w)) <;> rfl
    unfold look mkE
    rw [e1]
    cases hq : c.find? (fun s => decide (s.Time = w)) with
    | none => rfl
    | some y =>
      have := (hc.good y (List.mem_of_find?_eq_some hq)).some
      show mk kind t y = if emp y = true then y else mk kind t y
      rw [if_neg (by rw [this]; simp)]
/-- Without whether it was made. -/
def er (s : GSlot) : GSlot := ⟨s.Time, s.In, s.Sent, s.Dirty, false⟩
def bare (s : GSlot) : GSlot := ⟨s.Time, s.In, s.Sent, !emp s, false⟩
theorem slot_eq {x y : GSlot} (h1 : x.Time = y.Time) (h2 : x.In = y.In) (h3 : x.Sent = y.Sent) (h4 : x.Dirty = y.Dirty) (h5 : x.Fired = y.Fired) : x = y := by
  cases x; cases y; simp only at h1 h2 h3 h4 h5; rw [h1, h2, h3, h4, h5]
theorem emp_iff (s : GSlot) : emp s = true ↔ s.In = ⟨[], []⟩ ∧ s.Sent = [] := by
  unfold emp
  obtain ⟨t, ⟨a, b⟩, s, d, f⟩ := s
  simp only [Bool.and_eq_true, List.isEmpty_iff, Arr2.mk.injEq, and_assoc]
theorem er_nz (z : GSlot) : er (nz (dirty z)) = bare z := by
  unfold nz
  rw [emp_dirty]
  by_cases h : emp z = true
  · rw [if_pos h]
    obtain ⟨h1, h2⟩ := (emp_iff z).1 h
    exact slot_eq rfl h1.symm h2.symm (by show false = !emp z; rw [h]; rfl) rfl
  · rw [if_neg h]
    exact slot_eq rfl rfl rfl (by show true = !emp z; rw [Bool.eq_false_iff.2 h]; rfl) rfl
theorem nz_in (z : GSlot) : (nz z).In = z.In ∧ (nz z).Sent = z.Sent ∧ (nz z).Time = z.Time := by
  unfold nz
  by_cases h : emp z = true
  · rw [if_pos h]
    obtain ⟨h1, h2⟩ := (emp_iff z).1 h
    exact ⟨h1.symm, h2.symm, rfl⟩
  · rw [if_neg h]; exact ⟨rfl, rfl, rfl⟩
theorem ad_comm {b : List GItem} {r s : GRec} {n m : Int} (h : Rt b) (hl : b.length < 10000000) (hc : ∀ z, -1073741824 ≤ cnt b z ∧ cnt b z ≤ 1073741824) (hn : -128 ≤ n ∧ n < 128) (hm : -128 ≤ m ∧ m < 128) (hn0 : n ≠ 0) (hm0 : m ≠ 0) : ad (ad b r n) s m = ad (ad b s m) r n := by
  have k1 := hc r
  have k2 := hc s
  obtain ⟨_, _, a3, a4, a5⟩ := ad_ok (r := r) (n := n) h (by omega) (by omega) hn0
  obtain ⟨_, _, b3, b4, b5⟩ := ad_ok (r := s) (n := m) h (by omega) (by omega) hm0
  have p1 := a5 (by omega)
  have p2 := b5 (by omega)
  have q1 := p1.cnt s
  have q2 := p2.cnt r
  obtain ⟨_, _, c3, c4, c5⟩ := ad_ok (r := s) (n := m) a3 (by omega) (by omega) hm0
  obtain ⟨_, _, d3, d4, d5⟩ := ad_ok (r := r) (n := n) b3 (by omega) (by omega) hn0
  have p3 := c5 (by rw [q1]; split <;> omega)
  have p4 := d5 (by rw [q2]; split <;> omega)
  refine Rt.unique c3 d3 fun z => ?_
  rw [p3.cnt, p4.cnt, p1.cnt, p2.cnt]
  omega
theorem mk_dirty (kind : Int) (t : GTime) (z : GSlot) : mk kind t (dirty z) = dirty z := by unfold mk; split <;> rfl
theorem dirty_upd_mk (kind port : Int) (t : GTime) (r : GRec) (n : Int) (z : GSlot) : dirty (upd port r n (mkE kind t z)) = dirty (upd port r n z) := by
  unfold mkE mk; split
  · rfl
  · split <;> rfl
theorem mkE_nz (kind : Int) (t : GTime) (z : GSlot) : mkE kind t (nz (dirty z)) = nz (dirty z) := by
  unfold mkE nz
  by_cases h : emp (dirty z) = true
  · rw [if_pos h, if_pos (emp_dflt _)]
  · rw [if_neg h, if_neg h, mk_dirty]
theorem mkE_comm (kind : Int) (t u : GTime) (z : GSlot) : mkE kind u (mkE kind t z) = mkE kind t (mkE kind u z) := by
  have e : ∀ a, emp (mk kind a z) = emp z := fun a => emp_mk kind a z
  unfold mkE
  by_cases h : emp z = true
  · rw [if_pos h, if_pos h, if_pos h]
  · rw [if_neg h, if_neg h, if_neg (by rw [e]; exact h), if_neg (by rw [e]; exact h)]
    unfold mk
    by_cases h1 : tot14 kind t z = true <;> by_cases h2 : tot14 kind u z = true
    · rw [if_pos h1, if_pos h2, if_pos (show tot14 kind u (dirty z) = true from h2), if_pos (show tot14 kind t (dirty z) = true from h1)]
    · rw [if_pos h1, if_neg h2, if_neg (show ¬ tot14 kind u (dirty z) = true from h2), if_pos h1]
    · rw [if_neg h1, if_pos h2, if_neg (show ¬ tot14 kind t (dirty z) = true from h1)]
    · rw [if_neg h1, if_neg h2, if_neg h1]
theorem upd0_in (r : GRec) (n : Int) (y : GSlot) : (upd 0 r n y).In = ⟨ad y.In.a0 r n, y.In.a1⟩ := by unfold upd; simp
theorem step_comm {kind : Int} {t u : GTime} {r s : GRec} {n m : Int} {x : GSlot} (w : GTime) (h0 : Rt x.In.a0) (hl : x.In.a0.length < 10000000) (hc : ∀ z, -1073741824 ≤ cnt x.In.a0 z ∧ cnt x.In.a0 z ≤ 1073741824) (hn : -128 ≤ n ∧ n < 128) (hm : -128 ≤ m ∧ m < 128) (hn0 : n ≠ 0) (hm0 : m ≠ 0) :
    er (step kind 0 u s m w (step kind 0 t r n w x)) = er (step kind 0 t r n w (step kind 0 u s m w x)) := by
  unfold step
  by_cases h1 : w = t <;> by_cases h2 : w = u
  · rw [if_pos h1, if_pos h1, if_pos h2, if_pos h2, er_nz, er_nz]
    have e : (upd 0 s m (nz (dirty (upd 0 r n x)))).In = (upd 0 r n (nz (dirty (upd 0 s m x)))).In := by
      obtain ⟨i1, _, _⟩ := nz_in (dirty (upd 0 r n x))
      obtain ⟨i2, _, _⟩ := nz_in (dirty (upd 0 s m x))
      have i1' : (nz (dirty (upd 0 r n x))).In = (upd 0 r n x).In := i1
      have i2' : (nz (dirty (upd 0 s m x))).In = (upd 0 s m x).In := i2
      rw [upd0_in, upd0_in, i1', i2', upd0_in, upd0_in, ad_comm h0 hl hc hn hm hn0 hm0]
    have es : (upd 0 s m (nz (dirty (upd 0 r n x)))).Sent = (upd 0 r n (nz (dirty (upd 0 s m x)))).Sent := by
      obtain ⟨_, i1, _⟩ := nz_in (dirty (upd 0 r n x))
      obtain ⟨_, i2, _⟩ := nz_in (dirty (upd 0 s m x))
      show (nz (dirty (upd 0 r n x))).Sent = (nz (dirty (upd 0 s m x))).Sent
      rw [i1, i2]; rfl
    have et : (upd 0 s m (nz (dirty (upd 0 r n x)))).Time = (upd 0 r n (nz (dirty (upd 0 s m x)))).Time := by
      obtain ⟨_, _, i1⟩ := nz_in (dirty (upd 0 r n x))
      obtain ⟨_, _, i2⟩ := nz_in (dirty (upd 0 s m x))
      show (nz (dirty (upd 0 r n x))).Time = (nz (dirty (upd 0 s m x))).Time
      rw [i1, i2]; rfl
    refine slot_eq et e es ?_ rfl
    show (!emp _) = !emp _
    congr 1
    rw [Bool.eq_iff_iff, emp_iff, emp_iff, e, es]
  · rw [if_pos h1, if_neg h2, if_neg h2, if_pos h1, mkE_nz, dirty_upd_mk]
  · rw [if_neg h1, if_pos h2, if_pos h2, if_neg h1, mkE_nz, dirty_upd_mk]
  · rw [if_neg h1, if_neg h2, if_neg h2, if_neg h1, mkE_comm]
theorem Cl.er_ {c : List GSlot} (h : Cl c) : Cl (c.map er) := by
  refine ⟨?_, fun s hs => ?_⟩
  · rw [List.pairwise_map]; exact h.inc
  · obtain ⟨y, hy, rfl⟩ := List.mem_map.1 hs
    have := h.good y hy
    exact ⟨this.time, this.some, this.a0, this.a1, this.sent⟩
theorem look_er (c : List GSlot) (t : GTime) : look (c.map er) t = er (look c t) := by
  unfold look
  rw [List.find?_map, show ((fun s : GSlot => decide (s.Time = t)) ∘ er) = (fun s : GSlot => decide (s.Time = t)) from rfl]
  cases c.find? (fun s => decide (s.Time = t)) <;> rfl
theorem low_ok {c : List GSlot} (hs : Sz 40 c) : Ok (f_backwashlaw15_low c) (fun r => r = true → ∀ s ∈ c, ∀ x ∈ s.In.a0, -1073741824 ≤ x.N ∧ x.N ≤ 1073741824) := by
  have hlc := hs.len
  unfold f_backwashlaw15_low
  refine Ok.each1 (l := c) (by omega) (fun i => ∀ s ∈ c.take i, ∀ x ∈ s.In.a0, -1073741824 ≤ x.N ∧ x.N ≤ 1073741824) 0 (fun rec i hi _ hI hr => ?_) (fun rec hI => ?_) (by simp) (Nat.zero_le _)
  · unfold f_backwashlaw15_low_B1
    refine Ok.iteB (fun _ => ?_) (fun hx => by simp only [decide_eq_false_iff_not] at hx; omega)
    obtain ⟨l0, l1, l2⟩ := hs.each _ (List.getElem_mem hi)
    have inner : ∀ (l : List GItem) (p : Int) (rec2 : Int → Option Bool) (Q : Bool → Prop), (p = 0 ∧ l = c[i].In.a0 ∨ p = 1 ∧ l = c[i].In.a1) → Q false → ((∀ x ∈ l, -1073741824 ≤ x.N ∧ x.N ≤ 1073741824) → Ok (rec2 (p + 1)) Q) → Ok (loopK (f_backwashlaw15_low_B3 c (i : Int) p rec2) rounds 0) Q := fun l p rec2 Q hp h0 h1 => by
      have hll : l.length ≤ 40 := by rcases hp with ⟨_, e⟩ | ⟨_, e⟩ <;> (rw [e]; omega)
      have hidx : idx ([c[i].In.a0, c[i].In.a1] : List (List GItem)) p = some l := by rcases hp with ⟨rfl, e⟩ | ⟨rfl, e⟩ <;> (rw [e]; rfl)
      have hpr : 0 ≤ p ∧ p < 2 := by rcases hp with ⟨rfl, e⟩ | ⟨rfl, e⟩ <;> omega
      refine Ok.each1 (l := l) (by omega) (fun k => ∀ x ∈ l.take k, -1073741824 ≤ x.N ∧ x.N ≤ 1073741824) 0 (fun rec k hk _ hI2 hr2 => ?_) (fun rec hI2 => ?_) (by simp) (Nat.zero_le _)
      · unfold f_backwashlaw15_low_B3
        refine Ok.bind (Ok.idxN hi (Ok.guard hpr (Ok.bind (Ok.of_eq hidx (Ok.iteB (fun _ => Ok.guard hpr (Ok.bind (Ok.of_eq hidx (Ok.bind (Ok.idxN hk (Ok.iteB (fun _ => Ok.some h0) (fun hx => ?_))))))) (fun hx => by simp only [decide_eq_false_iff_not] at hx; omega))))))
        simp only [Bool.or_eq_false_iff, decide_eq_false_iff_not] at hx
        rw [wrap_i64 ((k : Int) + 1) (by omega)]
        exact hr2 ((all_take_succ hk).2 ⟨hI2, by omega⟩)
      · unfold f_backwashlaw15_low_B3
        refine Ok.bind (Ok.idxN hi (Ok.guard hpr (Ok.bind (Ok.of_eq hidx (Ok.iteB (fun hx => by simp only [decide_eq_true_eq] at hx; omega) (fun _ => ?_))))))
        rw [wrap_i64 (p + 1) (by omega)]
        rw [List.take_length] at hI2
        exact h1 hI2
    refine Ok.loop0 (fun p : Int => p = 0 ∨ (p = 1 ∧ ∀ x ∈ c[i].In.a0, -1073741824 ≤ x.N ∧ x.N ≤ 1073741824) ∨ (p = 2 ∧ ∀ x ∈ c[i].In.a0, -1073741824 ≤ x.N ∧ x.N ≤ 1073741824)) (fun p => (2 - p).toNat) (fun rec2 p hp hr2 => ?_) (.inl rfl) (by simp only [rounds]; omega)
    unfold f_backwashlaw15_low_B2
    rcases hp with rfl | ⟨rfl, hp⟩ | ⟨rfl, hp⟩
    · refine Ok.iteB (fun _ => inner c[i].In.a0 0 rec2 _ (.inl ⟨rfl, rfl⟩) (fun h => by cases h) fun h => hr2 _ (.inr (.inl ⟨rfl, h⟩)) (by decide)) (fun hx => by simp at hx)
    · refine Ok.iteB (fun _ => inner c[i].In.a1 1 rec2 _ (.inr ⟨rfl, rfl⟩) (fun h => by cases h) fun h => hr2 _ (.inr (.inr ⟨rfl, hp⟩)) (by decide)) (fun hx => by simp at hx)
    · refine Ok.iteB (fun hx => by simp at hx) (fun _ => ?_)
      rw [wrap_i64 ((i : Int) + 1) (by omega)]
      exact hr ((all_take_succ hi).2 ⟨hI, hp⟩)
  · unfold f_backwashlaw15_low_B1
    refine Ok.iteB (fun hx => by simp only [decide_eq_true_eq] at hx; omega) (fun _ => Ok.some fun _ => ?_)
    rw [List.take_length] at hI; exact hI
theorem inI_i8 {n : Int} (h : inI .i8 n) : -128 ≤ n ∧ n < 128 := by
  simp [inI, Lit.wf, IntKind.min, IntKind.max, IntKind.signed, IntKind.bits] at h
  omega
theorem stale_er {a b : List GSlot} (ha : Cl a) (hb : Cl b) (h : a.map er = b.map er) : staleS a = staleS b := by
  have e : ∀ l : List GSlot, (l.filter (·.Dirty)).map (·.Time) = ((l.map er).filter (·.Dirty)).map (·.Time) := fun l => by
    rw [List.filter_map, List.map_map]; rfl
  unfold staleS
  rw [if_pos ha, if_pos hb, e a, e b, h]
/-- What coming does, told by what stands at each timestamp. -/
theorem Come_look {c : List GSlot} {kind : Int} {t : GTime} {r : GRec} {n : Int} {N : Nat} (h : Cl c) (hs : Sz N c) (hN : N < 900000) (ht : ok t) (hn : -128 ≤ n ∧ n < 128) (hn0 : n ≠ 0) : ∃ R b, f_cell_Come c kind 0 t r n = some (R, b, true) ∧ Cl R ∧ Sz (N + 1) R ∧ ∀ w, look R w = step kind 0 t r n w (look c w) := by
  obtain ⟨v, hv, A, own, B, hsp, e⟩ := Come_ok (kind := kind) (r := r) (port := 0) h hs hN ht (by omega) hn0 (.inl rfl)
  exact ⟨_, _, by rw [hv, e], comeL_cl hsp h hs (by omega) ht (by omega) hn0, comeL_sz hsp h hs (by omega) (by omega) hn0, fun w => comeL_look hsp h w⟩
theorem last_ok {a b : List GSlot} {N : Nat} {f1 f2 f3 f4 : Bool} (h : a.map er = b.map er) (hst : staleS a = staleS b) (sa : Sz N a) (sb : Sz N b) (hN : N < 900000) (e1 : f1 = f4) (e2 : f2 = f3) : ∀ x1 x2 : Bool, Ok ((if ((!(f1 == f4)) || (!(f2 == f3))) = true then some false
  else (if ((List.length a : Int) == (List.length b : Int)) = true then bindO (f_cell_Stale a) (fun (v_7 : List GTime) =>
  bindO (f_cell_Stale b) (fun (v_8 : List GTime) =>
  bindO (f_backwashref03_Same v_7 v_8) (fun (v_9 : Bool) =>
  (if (!v_9) = true then some false
  else loopK (f_backwashlaw15_CellOrder_B1 (a, x1, f2) (b, x2, f4)) rounds 0))))
  else some false))) (fun r => r = true) := fun x1 x2 => by
  have la := sa.len
  have lb := sb.len
  have hlen : a.length = b.length := by have := congrArg List.length h; simpa using this
  have ca : ∀ s ∈ a, lens 1000000 s := fun s hx => lens_le (by omega) (sa.each s hx)
  have cb : ∀ s ∈ b, lens 1000000 s := fun s hx => lens_le (by omega) (sb.each s hx)
  refine Ok.iteB (fun hx => by rw [e1, e2] at hx; simp at hx) (fun _ => Ok.iteB (fun _ => ?_) (fun hx => by simp at hx; omega))
  have hsl := stale_len b
  refine Ok.bind (Ok.of_eq (Stale_eq (by omega) ca) (Ok.bind (Ok.of_eq (Stale_eq (by omega) cb) ?_)))
  rw [hst]
  refine Ok.bind (Ok.of_eq (tSame_refl (by omega)) (Ok.iteB (fun hx => by simp at hx) (fun _ => ?_)))
  refine Ok.each1 (l := a) (by omega) (fun _ => True) 0 (fun rec i hi _ _ hr => ?_) (fun rec _ => ?_) trivial (Nat.zero_le _)
  · unfold f_backwashlaw15_CellOrder_B1
    have hi2 : i < b.length := by omega
    have he : er a[i] = er b[i] := by
      have := congrArg (fun l => l[i]?) h
      simp only [List.getElem?_map, List.getElem?_eq_getElem hi, List.getElem?_eq_getElem hi2, Option.map_some, Option.some.injEq] at this
      exact this
    have q1 : a[i].Time = b[i].Time := congrArg (·.Time) he
    have q2 : a[i].In = b[i].In := congrArg (·.In) he
    have q3 : a[i].Sent = b[i].Sent := congrArg (·.Sent) he
    obtain ⟨l0, l1, l2⟩ := sb.each _ (List.getElem_mem hi2)
    refine Ok.iteB (fun _ => Ok.bind (Ok.idxN hi (Ok.bind (Ok.idxN hi2 ?_)))) (fun hx => by simp only [decide_eq_false_iff_not] at hx; omega)
    rw [teq, q1, q2, q3]
    refine Ok.iteB (fun _ => Ok.bind (Ok.of_eq (rSame_refl (by omega)) (Ok.iteB (fun _ => Ok.bind (Ok.of_eq (rSame_refl (by omega)) (Ok.iteB (fun _ => Ok.bind (Ok.of_eq (rSame_refl (by omega)) (Ok.iteB (fun hx => by simp at hx) (fun _ => ?_)))) (fun hx => by cases hx)))) (fun hx => by cases hx)))) (fun hx => by simp at hx)
    rw [wrap_i64 ((i : Int) + 1) (by omega)]
    exact hr trivial
  · unfold f_backwashlaw15_CellOrder_B1
    exact Ok.iteB (fun hx => by simp only [decide_eq_true_eq] at hx; omega) (fun _ => Ok.some rfl)
theorem CellOrder_holds (c : List GSlot) (kind : Int) (t u : GTime) (r s : GRec) (n m : Int) (_ : Dat.ok c) (_ : inI .i64 kind) (_ : Dat.ok t) (_ : Dat.ok u) (_ : Dat.ok r) (_ : Dat.ok s) (hn : inI .i8 n) (hm : inI .i8 m) : f_backwashlaw15_CellOrder c kind t u r s n m = some true := by
  have hn := inI_i8 hn
  have hm := inI_i8 hm
  refine Ok.eq ?_
  unfold f_backwashlaw15_CellOrder
  rw [wrap_i64 n (by omega), wrap_i64 m (by omega)]
  refine Ok.bind (Ok.of_eq awake_ok (Ok.iteB (fun hx => by cases hx) (fun _ => Ok.bind2 Short_ok fun b hb => Ok.iteB (fun hx => ?_) (fun _ => Ok.some rfl))))
  have hS := hb hx
  refine Ok.bind2 (low_ok hS) fun lo hlo => Ok.iteB (fun _ => Ok.some rfl) (fun hy => ?_)
  simp only [Bool.not_eq_false'] at hy
  have hlow := hlo hy
  have up : ∀ {N M : Nat} {l : List GSlot}, Sz N l → N ≤ M → Sz M l := fun h hNM => ⟨by have := h.len; omega, fun s hs => lens_le hNM (h.each s hs)⟩
  by_cases hc : Cl c
  · by_cases ht : ok t ∧ n ≠ 0
    · obtain ⟨a1, x1, e1, cl1, sz1, lk1⟩ := Come_look (kind := kind) (r := r) hc hS (by omega) ht.1 hn ht.2
      by_cases hu : ok u ∧ m ≠ 0
      · obtain ⟨a2, x2, e2, cl2, sz2, lk2⟩ := Come_look (kind := kind) (r := s) cl1 sz1 (by omega) hu.1 hm hu.2
        obtain ⟨b1, x3, e3, cl3, sz3, lk3⟩ := Come_look (kind := kind) (r := s) hc hS (by omega) hu.1 hm hu.2
        obtain ⟨b2, x4, e4, cl4, sz4, lk4⟩ := Come_look (kind := kind) (r := r) cl3 sz3 (by omega) ht.1 hn ht.2
        refine Ok.bind (Ok.of_eq e1 (Ok.bind (Ok.of_eq e2 (Ok.bind (Ok.of_eq e3 (Ok.bind (Ok.of_eq e4 ?_)))))))
        have hsame : a2.map er = b2.map er := Cl.unique cl2.er_ cl4.er_ fun w => by
          rw [look_er, look_er, lk2, lk4, lk1, lk3]
          have hx0 : Rt (look c w).In.a0 ∧ (look c w).In.a0.length < 10000000 ∧ ∀ z, -1073741824 ≤ cnt (look c w).In.a0 z ∧ cnt (look c w).In.a0 z ≤ 1073741824 := by
            rcases look_cases hc w with ⟨h1, _⟩ | ⟨h1, h2⟩
            · rw [h1]; exact ⟨Rt.nil, by simp [dflt], fun z => by simp [dflt, cnt]⟩
            · refine ⟨h2.a0, by have := (hS.each _ h1).1; omega, fun z => ?_⟩
              by_cases hz : ∃ y ∈ (look c w).In.a0, y.Rec = z
              · obtain ⟨y, hy, rfl⟩ := hz
                rw [cnt_of h2.a0.inc hy]
                exact hlow _ h1 y hy
              · rw [cnt_none fun y h1 h2 => hz ⟨y, h1, h2⟩]; omega
          exact step_comm w hx0.1 hx0.2.1 hx0.2.2 hn hm ht.2 hu.2
        exact last_ok hsame (stale_er cl2 cl4 hsame) sz2 sz4 (by omega) rfl rfl _ _
      · have no : ∀ l, Sz 41 l → f_cell_Come l kind 0 u s m = some (l, false, false) := fun l hl => Come_no hl (by omega) (fun h => hu ⟨h.2.1, h.2.2.2.1⟩)
        refine Ok.bind (Ok.of_eq e1 (Ok.bind (Ok.of_eq (no _ sz1) (Ok.bind (Ok.of_eq (no _ (up hS (by omega))) (Ok.bind (Ok.of_eq e1 ?_)))))))
        exact last_ok rfl rfl sz1 sz1 (by omega) rfl rfl _ _
    · have no : ∀ l, Sz 41 l → f_cell_Come l kind 0 t r n = some (l, false, false) := fun l hl => Come_no hl (by omega) (fun h => ht ⟨h.2.1, h.2.2.2.1⟩)
      by_cases hu : ok u ∧ m ≠ 0
      · obtain ⟨b1, x3, e3, cl3, sz3, lk3⟩ := Come_look (kind := kind) (r := s) hc hS (by omega) hu.1 hm hu.2
        refine Ok.bind (Ok.of_eq (no _ (up hS (by omega))) (Ok.bind (Ok.of_eq e3 (Ok.bind (Ok.of_eq e3 (Ok.bind (Ok.of_eq (no _ sz3) ?_)))))))
        exact last_ok rfl rfl sz3 sz3 (by omega) rfl rfl _ _
      · have no2 : ∀ l, Sz 41 l → f_cell_Come l kind 0 u s m = some (l, false, false) := fun l hl => Come_no hl (by omega) (fun h => hu ⟨h.2.1, h.2.2.2.1⟩)
        have h41 := up hS (show 40 ≤ 41 by omega)
        refine Ok.bind (Ok.of_eq (no _ h41) (Ok.bind (Ok.of_eq (no2 _ h41) (Ok.bind (Ok.of_eq (no2 _ h41) (Ok.bind (Ok.of_eq (no _ h41) ?_)))))))
        exact last_ok rfl rfl hS hS (by omega) rfl rfl _ _
  · have no : ∀ t r n, f_cell_Come c kind 0 t r n = some (c, false, false) := fun t r n => Come_no hS (by omega) (fun h => hc h.1)
    refine Ok.bind (Ok.of_eq (no _ _ _) (Ok.bind (Ok.of_eq (no _ _ _) (Ok.bind (Ok.of_eq (no _ _ _) (Ok.bind (Ok.of_eq (no _ _ _) ?_)))))))
    exact last_ok rfl rfl hS hS (by omega) rfl rfl _ _
end CE
end Go.Proofs.Ythpahhhdapdcpaa
