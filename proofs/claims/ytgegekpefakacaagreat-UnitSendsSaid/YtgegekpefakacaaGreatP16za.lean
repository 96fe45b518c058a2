/-
  The law in plain words: what its plain function gives is true. No condition beyond those that each theorem names.
-/
import Derived.Test.YtgegekpefakacaaGreatWalkUS2
import Derived.Test.YtgegekpefakacaaGreatP16z
namespace Go.Proofs.YtgegekpefakacaaGreat
open Go Go.RowKit TS VA
namespace UN
open CE (Cl Sz lens q5c z3l)
open Classical
structure Sent (g : GGraph) (u : GUnit) (workers : Int) (n : Nat) (t' : GTime) (r0 r : GUnit_sender) (i : Nat) : Prop where
 st : Stays r0 r
 len : r.out.length ≤ 400000 * i
 lets : ∀ x ∈ r.out, ∃ j, ∃ h : j < g.Edges.length, g.Edges[j].From.toNat = n ∧ Let u workers (j : Int) t' x
 sent : (r.Unit.Sent.a0 + r.Unit.Sent.a1 - r0.Unit.Sent.a0 - r0.Unit.Sent.a1 - (r.out.length : Int)) % 18446744073709551616 = 0
theorem Stays.trans {a b c : GUnit_sender} (h : Stays a b) (k : Stays b c) : Stays a c := ⟨k.id.trans h.id, k.cells.trans h.cells, k.colour.trans h.colour, k.got.trans h.got, k.red.trans h.red, k.late.trans h.late, k.workers.trans h.workers⟩
theorem zu1 {a b c d e f x y : Int} (h : (c + d - a - b - x) % 18446744073709551616 = 0) (k : (e + f - c - d - y) % 18446744073709551616 = 0) : (e + f - a - b - (x + y)) % 18446744073709551616 = 0 := by omega
def zv7 : GUnit := ⟨0, [], 0, ⟨0, 0⟩, ⟨0, 0⟩, [], 0, 0⟩
theorem j9r {p : GPoint} {r : GUnit_sender} {n : Nat} {w : GUnit × List GLetter × Bool → Prop} (hp : p.Node = (n : Int)) (hn : n < r.Unit.Red.length) (hred : ∀ c ∈ r.Unit.Red, c.length ≤ 40)
  (hw : ∀ red', (red' = r.Unit.Red ∨ ∃ a, CH.Rt a ∧ a.length ≤ 41 ∧ red' = r.Unit.Red.set n a) → w (⟨r.Unit.ID, r.Unit.Cells, r.Unit.Colour, r.Unit.Sent, r.Unit.Got, red', r.Unit.Late, r.Unit.Backs⟩, r.out, true)) :
  Ok (q84 p zv7 r.Unit.ID r.Unit.Colour r.Unit.Sent.a0 r.Unit.Sent.a1 r.Unit.Got.a0 r.Unit.Got.a1 r.Unit.Late r.Unit.Backs r.workers r.Unit.Cells r.Unit.Red r.out) w := by
 unfold q84; refine jf5 (fun _ => ?_) (fun _ => ?_)
 · rw [hp]; refine Ok.bind (jf6 hn (jf4 (j8x (hred _ (List.getElem_mem hn))) fun a ha => ?_)); unfold q96; rw [Int.toNat_natCast]; exact Ok.some (hw _ (.inr ⟨a, ha.1, ha.2, rfl⟩))
 · unfold q96; exact Ok.some (hw _ (.inl rfl))
def j1k (g : GGraph) (u : GUnit) (p : GPoint) (workers : Int) (v : GUnit × List GLetter × Bool) : Prop := (v.2.2 = false → v.1 = u ∧ v.2.1 = []) ∧
  (v.2.2 = true → UR g u ∧ (1 ≤ workers ∧ workers ≤ 64) ∧ ∃ n : Nat, n < g.Nodes.length ∧ p.Node = (n : Int) ∧ Made g u p workers n v.1 v.2.1)
theorem Let.cast {u v : GUnit} {w w' edge : Int} {t : GTime} {x : GLetter} (h : Let u w edge t x) (h1 : u.Colour = v.Colour) (h2 : u.ID = v.ID) (h3 : w = w') : Let v w' edge t x := by
 subst h3; exact ⟨h.1, h.2.1, h.2.2.1, h.2.2.2.1.trans h1, h.2.2.2.2.imp id (fun e => e.trans h2)⟩
theorem zv5 {g : GGraph} {u : GUnit} {p : GPoint} {lazy : Bool} {workers : Int} (hG : VA.Good g) (hs : USz 40 u) : Ok (qb8 g u p lazy workers) (j1k g u p workers) := by
 have hnl := hG.nl; have hel := hG.el; have hbad : ∀ {Q : GUnit × List GLetter × Bool → Prop}, Q (u, [], false) → Ok (some (u, ([] : List GLetter), false)) Q := fun h => Ok.some h; unfold qb8; refine jf5 (fun _ => hbad ⟨fun _ => ⟨rfl, rfl⟩, fun h => by cases h⟩) (fun hw => ?_); have hw' : 1 ≤ workers ∧ workers ≤ 64 := by simp at hw; omega
 refine jf4 (ze8 hs.big hnl.2) fun l ⟨hl1, hl2, hl3⟩ => ?_; rw [zr9 (by omega)]; refine Ok.bind (Ok.some (jf5 (fun _ => hbad ⟨fun _ => ⟨rfl, rfl⟩, fun h => by cases h⟩) (fun hm => ?_))); have hm' : p ∈ l := by simpa using hm
 have hu : UR g u := by
  by_cases h : UR g u
  · exact h
  · rw [hl2 h] at hm'; cases hm'
 obtain ⟨n, hn, hpn, hk15, hst⟩ := (hl1 hu p).1 hm'; have hcl := hu.cl; have hrl := hu.rl; have hnc : n < u.Cells.length := by omega
 have hgd : u.Cells.getD n [] = u.Cells[n] := by rw [List.getD_eq_getElem?_getD, List.getElem?_eq_getElem hnc]; rfl
 rw [hgd] at hst; have hC := hu.cells _ (List.getElem_mem hnc); unfold q5c at hst; rw [if_pos hC] at hst; obtain ⟨s, hs1, hs2⟩ := List.mem_map.1 hst; obtain ⟨hs3, hs4⟩ := List.mem_filter.1 hs1; obtain ⟨A, B, hAB⟩ := List.append_of_mem hs3; have hSz := hs.cells _ (List.getElem_mem hnc); rw [hAB] at hC hSz; rw [hpn]; refine Ok.bind (jf6 hnc (Ok.bind (jf6 hn ?_))); rw [hAB, ← hs2]; have hok : TS.ok s.Time := (hC.good s (by simp)).time; rcases CE.Make_tot (x := g.Nodes[n]) (lazy := lazy) hC hSz (by simpa using hs4) with hM | ⟨now, take, give, hnow, htk, hgv, hM⟩
 · rw [hM]; refine Ok.bind (Ok.some ?_); rw [if_pos (by simp)]; exact hbad ⟨fun _ => ⟨rfl, rfl⟩, fun h => by cases h⟩
 rw [hM]; refine Ok.bind (Ok.some ?_); rw [if_neg (by simp), j19 hs.cl hs.rl]; refine Ok.bind (Ok.some (Ok.bind (jf6 hnc ?_))); obtain ⟨r0, hr0⟩ : ∃ r0 : GUnit_sender, r0 = ⟨⟨u.ID, u.Cells.set n (A ++ (CE.one (CE.madeS s now) ++ B)), u.Colour, u.Sent, u.Got, u.Red, u.Late, u.Backs⟩, [], workers⟩ := ⟨_, rfl⟩; have hfin : ∀ (r : GUnit_sender) (t' : GTime), Stays r0 r → r.out.length ≤ 40000000 → (∀ x ∈ r.out, ∃ j, ∃ h : j < g.Edges.length, g.Edges[j].From.toNat = n ∧ s.Time.D = (HP.lev g n : Int) ∧ TS.ok (HP.tm (HP.th (lst s.Time) (HP.stepE g g.Edges[j]).2 (HP.stepE g g.Edges[j]).1)) ∧ Let u workers (j : Int) (HP.tm (HP.th (lst s.Time) (HP.stepE g g.Edges[j]).2 (HP.stepE g g.Edges[j]).1)) x) →
   (r.Unit.Sent.a0 + r.Unit.Sent.a1 - u.Sent.a0 - u.Sent.a1 - (r.out.length : Int)) % 18446744073709551616 = 0 →
   Ok (q84 p zv7 r.Unit.ID r.Unit.Colour r.Unit.Sent.a0 r.Unit.Sent.a1 r.Unit.Got.a0 r.Unit.Got.a1 r.Unit.Late r.Unit.Backs r.workers r.Unit.Cells r.Unit.Red r.out) (j1k g u p workers) := fun r t' hS hlen hlets hsent => by
  have e1 := hS.id; have e2 := hS.cells; have e3 := hS.colour; have e4 := hS.got; have e5 := hS.red; have e6 := hS.late; rw [hr0] at e1 e2 e3 e4 e5 e6; dsimp only at e1 e2 e3 e4 e5 e6; refine j9r hpn (by rw [e5]; omega) (by rw [e5]; exact hs.red) fun red' hred => ⟨(fun h => by cases h), fun _ => ⟨hu, hw', n, hn, hpn, ⟨e1, e3, e4, e6, ⟨A, s, B, now, by rw [hgd, hAB], hs2, hnow, e2⟩, ?_, hlen, fun x hx => ?_, hsent⟩⟩⟩
  · rw [e5] at hred; exact hred
  · obtain ⟨j, hj, f1, f2, f3, f4⟩ := hlets x hx; rw [hs2] at f2 f3 f4; exact ⟨j, hj, f1, f2, by rw [← hs2]; exact hok, f3, f4⟩
 refine jf4 (j42 hG hn hok) fun gv hgvv => ?_; refine jf5 (fun hg2 => ?_) (fun hg2 => ?_)
 ·
  obtain ⟨d1, d2, d3⟩ := hgvv hg2; have hs0 : Sent g u workers n gv.1 r0 r0 0 := ⟨⟨rfl, rfl, rfl, rfl, rfl, rfl, rfl⟩, by rw [hr0]; simp, by rw [hr0]; simp, by rw [hr0]; simp; omega⟩; refine jf7 (fun x => ∃ (i : Nat) (r : GUnit_sender), x = ((i : Int), zv7, r.Unit.ID, r.Unit.Colour, r.Unit.Sent.a0, r.Unit.Sent.a1, r.Unit.Got.a0, r.Unit.Got.a1, r.Unit.Late, r.Unit.Backs, r.workers, r.Unit.Cells, r.Unit.Red, r.out) ∧ i ≤ g.Edges.length ∧ Sent g u workers n gv.1 r0 r i) (fun x => g.Edges.length - x.1.toNat) ?_ ⟨0, r0, ?_, Nat.zero_le _, hs0⟩ (by simp only [rounds]; omega)
  ·
   rintro rec _ ⟨i, r, rfl, hi, hI⟩ hrec; have hcol : r.Unit.Colour = u.Colour := by rw [hI.st.colour, hr0]
   have hwk : r.workers = workers := by rw [hI.st.workers, hr0]
   have hid : r.Unit.ID = u.ID := by rw [hI.st.id, hr0]
   unfold z03; dsimp only; refine jf5 (fun hlt => ?_) (fun hge => ?_)
   ·
    have hlt' : i < g.Edges.length := by simpa using hlt
    rw [show IntKind.i64.wrap ((i : Int) + 1) = ((i + 1 : Nat) : Int) from iw hlt' (by omega)]; refine Ok.bind (jf6 hlt' ?_); refine jf5 (fun hf => ?_) (fun _ => ?_)
    ·
     have hfr : g.Edges[i].From.toNat = n := by
      have : g.Edges[i].From = p.Node := by simpa using hf
      rw [this, hpn]; rfl
     have hlen := hI.len; refine jf4 (zt0 (s := r) (edge := (i : Int)) (e := g.Edges[i]) (t := gv.1) (l := take) (k := -1) (by rw [hcol]; exact hu.col) (by rw [hwk]; exact hw') htk (by omega) (.inr rfl)) fun r1 ⟨s1, L1, o1, l1, m1, q1⟩ => ?_; have hL1 := htk.2; refine jf4 (zt0 (s := r1) (edge := (i : Int)) (e := g.Edges[i]) (t := gv.1) (l := give) (k := 1) (by rw [s1.colour, hcol]; exact hu.col) (by rw [s1.workers, hwk]; exact hw') hgv (by rw [o1, List.length_append]; omega) (.inl rfl)) fun r2 ⟨s2, L2, o2, l2, m2, q2⟩ => ?_; have hL2 := hgv.2; refine hrec _ ⟨i + 1, r2, rfl, hlt', ⟨(hI.st.trans s1).trans s2, ?_, ?_, ?_⟩⟩ (by simp only [Int.toNat_natCast]; omega)
     · rw [o2, o1, List.length_append, List.length_append]; omega
     ·
      intro x hx; rw [o2, o1, List.mem_append, List.mem_append] at hx; rcases hx with (hx | hx) | hx
      · exact hI.lets x hx
      · exact ⟨i, hlt', hfr, (m1 x hx).cast hcol hid hwk⟩
      · exact ⟨i, hlt', hfr, (m2 x hx).cast (s1.colour.trans hcol) (s1.id.trans hid) (s1.workers.trans hwk)⟩
     · rw [o2, o1, List.length_append, List.length_append]; have h1 := zu1 hI.sent q1; have h2 := zu1 h1 q2; rw [Int.natCast_add, Int.natCast_add]; exact h2
    · exact hrec _ ⟨i + 1, r, rfl, hlt', ⟨hI.st, by have := hI.len; omega, hI.lets, hI.sent⟩⟩ (by simp only [Int.toNat_natCast]; omega)
   ·
    have hge' : i = g.Edges.length := by simp at hge; omega
    have hlen := hI.len; refine hfin r gv.1 hI.st (by omega) (fun x hx => ?_) ?_
    · obtain ⟨j, hj, e1, e2⟩ := hI.lets x hx; have e3 := d3 g.Edges[j] (List.getElem_mem hj) e1; exact ⟨j, hj, e1, d1, by rw [← e3]; exact d2, by rw [← e3]; exact e2⟩
    · have := hI.sent; rw [hr0] at this; exact this
  · rw [hr0, Int.toNat_natCast]; rfl
 · have := hfin r0 s.Time ⟨rfl, rfl, rfl, rfl, rfl, rfl, rfl⟩ (by rw [hr0]; simp) (by rw [hr0]; simp) (by rw [hr0]; simp; omega); rw [hr0] at this; rw [Int.toNat_natCast]; exact this
end UN
end Go.Proofs.YtgegekpefakacaaGreat
