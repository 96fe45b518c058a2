/-
  The law in plain words: what its plain function gives is true. No condition beyond those that each theorem names.
-/
import Derived.Test.YtgegekpefakacaaGreatWalkUS2
import Derived.Test.YtgegekpefakacaaGreatP16za
namespace Go.Proofs.YtgegekpefakacaaGreat
open Go Go.RowKit TS VA
namespace UN
open CE (Cl Sz lens q5c z3l)
open Classical
theorem j62 {A B : List GSlot} {s : GSlot} {now : List GItem} (h : Cl (A ++ s :: B)) (hn : CE.Fine now) : Cl (A ++ (CE.one (CE.madeS s now) ++ B)) := by
 have hg := h.good s (by simp); obtain ⟨p1, p2, p3⟩ := List.pairwise_append.1 h.inc; obtain ⟨p4, p5⟩ := List.pairwise_cons.1 p2; unfold CE.one
 split
 ·
  refine ⟨List.pairwise_append.2 ⟨p1, by simpa using p5, fun a ha b hb => p3 a ha b (by simp at hb; simp [hb])⟩, fun x hx => h.good x ?_⟩; rcases List.mem_append.1 hx with hx | hx
  · simp [hx]
  · simp at hx; simp [hx]
 ·
  rename_i he
  have he' : CE.emp (CE.madeS s now) = false := by simpa using he
  refine ⟨List.pairwise_append.2 ⟨p1, List.pairwise_cons.2 ⟨fun b hb => p4 b (by simpa using hb), by simpa using p5⟩, fun a ha b hb => ?_⟩, fun x hx => ?_⟩
  ·
   rcases List.mem_cons.1 (show b ∈ CE.madeS s now :: B by simpa using hb) with rfl | hb
   · exact p3 a ha s (by simp)
   · exact p3 a ha b (by simp [hb])
  ·
   rcases List.mem_append.1 hx with hx | hx
   · exact h.good x (by simp [hx])
   ·
    rcases List.mem_cons.1 (show x ∈ CE.madeS s now :: B by simpa using hx) with rfl | hx
    · exact ⟨hg.time, he', hg.a0, hg.a1, hn.rt⟩
    · exact h.good x (by simp [hx])
theorem zu0 {x y : GSlot} (h : y ∈ CE.one x) : y = x := by
 unfold CE.one at h
 split at h
 · cases h
 · simpa using h
theorem j8q {n0 n1 u0 u1 len : Int} (h : (n0 + n1 - u0 - u1 - len) % 18446744073709551616 = 0) (h0 : 0 ≤ len) (h1 : len < 1000000000) : IntKind.i64.wrap (IntKind.i64.wrap (IntKind.i64.wrap (n0 + n1) - u0) - u1) = len := by
 have a := wmod (n0 + n1); have b := wmod (IntKind.i64.wrap (n0 + n1) - u0); have c := wmod (IntKind.i64.wrap (IntKind.i64.wrap (n0 + n1) - u0) - u1); have d : IntKind.i64.wrap (IntKind.i64.wrap (IntKind.i64.wrap (n0 + n1) - u0) - u1) ≥ -9223372036854775808 ∧ IntKind.i64.wrap (IntKind.i64.wrap (IntKind.i64.wrap (n0 + n1) - u0) - u1) < 9223372036854775808 := by
  rw [z2x (IntKind.i64.wrap (IntKind.i64.wrap (n0 + n1) - u0) - u1)]; split <;> omega
 omega
theorem UnitSends_holds (g : GGraph) (u : GUnit) (p : GPoint) (lazy : Bool) (workers : Int) (_ : Dat.ok g) (_ : Dat.ok u) (_ : Dat.ok p) (_ : Dat.ok lazy) (_ : inI .i64 workers) : q4h g u p lazy workers = some true := by
 unfold q4h; rw [j3w]; refine jf8 (Ok.bind (Ok.some ?_)); rw [if_neg (by simp)]; refine jf4 (j5t g) fun b hb => jf5 (fun h => ?_) (fun _ => Ok.some rfl); obtain ⟨hG, hpr⟩ := hb h; refine jf4 (j0d u) fun b hb => jf5 (fun _ => Ok.some rfl) (fun h => ?_); have hs := hb (by simpa using h); have hnl := hG.nl; have hel := hG.el; refine jf4 (zv5 hG hs) fun v ⟨hv0, hv1⟩ => ?_; refine jf5 (fun hx => ?_) (fun hx => ?_)
 · obtain ⟨e1, e2⟩ := hv0 (by simpa using hx); rw [e1, e2, if_pos (by simp), zw0 hs (by omega)]; exact Ok.bind (Ok.some (Ok.some rfl))
 obtain ⟨hu, hw, n, hn, hpn, hM⟩ := hv1 (by simpa using hx); obtain ⟨A, s, B, now, hc, hst, hnow, hcells⟩ := hM.cells; have hcl := hu.cl; have hrl := hu.rl; have hnc : n < u.Cells.length := by omega
 have hgd : u.Cells.getD n [] = u.Cells[n] := by rw [List.getD_eq_getElem?_getD, List.getElem?_eq_getElem hnc]; rfl
 rw [hgd] at hc; have hC := hu.cells _ (List.getElem_mem hnc); have hSz := hs.cells _ (List.getElem_mem hnc); rw [hc] at hC hSz; have hC' := j62 hC hnow; have hlen := hSz.len; have hone : (CE.one (CE.madeS s now)).length ≤ 1 := by unfold CE.one; split <;> simp
 have hbig : Big v.1 := by
  refine ⟨by rw [hcells, List.length_set]; exact hs.cl, ?_, fun c hcm => ?_, fun c hcm => ?_⟩
  ·
   rcases hM.red with e | ⟨a, _, _, e⟩
   · rw [e]; exact hs.rl
   · rw [e, List.length_set]; exact hs.rl
  ·
   rw [hcells] at hcm; rcases List.mem_or_eq_of_mem_set hcm with h1 | rfl
   · exact hs.big.cells c h1
   ·
    refine ⟨by simp only [List.length_append, List.length_cons] at hlen ⊢; omega, fun x hx => ?_⟩; rcases List.mem_append.1 hx with hx | hx
    · exact CE.lens_le (by omega) (hSz.each x (by simp [hx]))
    ·
     rcases List.mem_append.1 hx with hx | hx
     · have := zu0 hx; subst this; obtain ⟨l0, l1, l2⟩ := hSz.each s (by simp); have := hnow.len; exact ⟨by show s.In.a0.length ≤ _; omega, by show s.In.a1.length ≤ _; omega, by show now.length ≤ _; omega⟩
     · exact CE.lens_le (by omega) (hSz.each x (by simp [hx]))
  ·
   rcases hM.red with e | ⟨a, _, hal, e⟩
   · rw [e] at hcm; have := hs.red c hcm; omega
   ·
    rw [e] at hcm; rcases List.mem_or_eq_of_mem_set hcm with h1 | rfl
    · have := hs.red c h1; omega
    · omega
 have hUR : UR g v.1 := by
  refine ⟨by rw [hcells, List.length_set]; exact hcl, ?_, by rw [hM.colour]; exact hu.col, fun c hcm => ?_, fun c hcm => ?_⟩
  ·
   rcases hM.red with e | ⟨a, _, _, e⟩
   · rw [e]; exact hrl
   · rw [e, List.length_set]; exact hrl
  ·
   rw [hcells] at hcm; rcases List.mem_or_eq_of_mem_set hcm with h1 | rfl
   · exact hu.cells c h1
   · exact hC'
  ·
   rcases hM.red with e | ⟨a, ha, _, e⟩
   · rw [e] at hcm; exact hu.red c hcm
   ·
    rw [e] at hcm; rcases List.mem_or_eq_of_mem_set hcm with h1 | rfl
    · exact hu.red c h1
    · exact ha
 rw [ze7 hbig]; refine Ok.bind (Ok.some ?_); have hlo := hM.len; rw [if_pos (by simpa using hUR), if_neg (by
  rw [j8q hM.sent (by omega) (by omega), hM.got, hM.late]; simp)]
 refine jf4 (HP.Table_ok hG) fun tb ⟨tbl, htb, hfin⟩ => ?_; subst htb; refine jg0 (l := v.2.1) (by omega) (fun _ => True) 0 (fun rec i hi _ _ hr => ?_) (fun rec _ => ?_) trivial (Nat.zero_le _)
 ·
  unfold q5a; rw [if_pos (by simpa using hi), iw hi (by omega)]; refine Ok.bind (jf6 hi ?_); obtain ⟨j, hj, f1, f2, f3, f4, l1, l2, l3, l4, l5⟩ := hM.lets _ (List.getElem_mem hi); rw [l1, if_neg (by simp; omega)]; refine Ok.bind (jf6 hj ?_); have hfr : g.Edges[j].From = p.Node := by
   have := (hG.ed.at (List.getElem_mem hj)).1.1; rw [hpn]; omega
  rw [if_neg (by simp [hfr, l3, l4])]; have hreach : q4b (HP.tblL g tbl g.Nodes.length) p.Node p.Time g.Edges[j].To v.2.1[i].Msg.Time = some true := by
   rw [← hfr, l2]; exact HP.Reaches_step hG hfin (List.getElem_mem hj) f3 (by rw [f1]; exact f2) f4
  have hgo : Ok (q9 (q4b (HP.tblL g tbl g.Nodes.length) p.Node p.Time g.Edges[j].To v.2.1[i].Msg.Time) (fun (v_25 : Bool) => (if (!v_25) = true then some false else rec ((i + 1 : Nat) : Int)))) (fun r => r = true) := by
   rw [hreach]; refine Ok.bind (Ok.some ?_); rw [if_neg (by simp)]; exact hr trivial
  refine jf5 (fun h1 => ?_) (fun h1 => jf5 (fun h2 => ?_) (fun h2 => hgo))
  ·
   rw [if_neg (by
    rcases l5 with l5 | l5
    · simp at h1; omega
    · simp [l5])]
   exact hgo
  ·
   rw [if_neg (by
    rcases l5 with l5 | l5
    · simp at h2; omega
    · simp [l5])]
   exact hgo
 ·
  unfold q5a; rw [if_neg (by simp)]; unfold q59; refine jf4 (ze8 hbig hnl.2) fun r ⟨hr1, _, hr3⟩ => ?_; have hnot : p ∉ r := fun hm => by
   obtain ⟨m, hm1, hm2, _, hm3⟩ := (hr1 hUR p).1 hm; obtain rfl : m = n := by rw [hpn] at hm2; omega
   rw [hcells, List.getD_eq_getElem?_getD, List.getElem?_set_self hnc] at hm3; unfold q5c at hm3; rw [show (some (A ++ (CE.one (CE.madeS s now) ++ B))).getD [] = A ++ (CE.one (CE.madeS s now) ++ B) from rfl, if_pos hC'] at hm3; obtain ⟨x, hx1, hx2⟩ := List.mem_map.1 hm3; obtain ⟨hx3, hx4⟩ := List.mem_filter.1 hx1; have hsp := hC.sp; rcases List.mem_append.1 hx3 with h1 | h1
   · have := hsp.lo x h1; rw [hx2, ← hst] at this; omega
   ·
    rcases List.mem_append.1 h1 with h1 | h1
    · have := zu0 h1; subst this; simp [CE.madeS] at hx4
    · have := hsp.hi x h1; rw [hx2, ← hst] at this; omega
  refine jg0 (l := r) (by omega) (fun _ => True) 0 (fun rec i hi _ _ hr => ?_) (fun rec _ => ?_) trivial (Nat.zero_le _)
  ·
   unfold q5b; rw [if_pos (by simpa using hi), iw hi (by omega)]; refine Ok.bind (jf6 hi ?_); rw [j4c, if_neg (by
    simp only [decide_eq_true_eq]; exact fun e => hnot (e ▸ List.getElem_mem hi))]
   exact hr trivial
  · unfold q5b; rw [if_neg (by simp)]; exact Ok.some rfl
end UN
end Go.Proofs.YtgegekpefakacaaGreat
