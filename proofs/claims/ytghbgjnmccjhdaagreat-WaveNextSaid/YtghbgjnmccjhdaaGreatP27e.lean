/-
  The law in plain words: what its plain function gives is true. No condition beyond those that each theorem names.
-/
import Derived.Test.YtghbgjnmccjhdaaGreatWalkWN0
import Derived.Test.YtghbgjnmccjhdaaGreatWalkWN1
import Derived.Test.YtghbgjnmccjhdaaGreatWalkWN2
import Derived.Test.YtghbgjnmccjhdaaGreatP27d
import Derived.Test.YtghbgjnmccjhdaaGreatP16g
import Derived.Test.YtghbgjnmccjhdaaGreatPTo
set_option linter.unusedSimpArgs false
set_option linter.unusedVariables false
set_option linter.unusedSectionVars false
namespace Go.Proofs.YtghbgjnmccjhdaaGreat
open Go Go.RowKit TS VA BG
namespace WV
open Classical
theorem j61 {g : GGraph} (hG : VA.Good g) : HP.dep g 0 = 1 := by
 have hw := HP.wpG hG; have hp := hG.pl; have h1 := (hw.2 0 (by omega) (by omega)).2.2 rfl; unfold HP.dep; rw [ql0 hw (by omega) (by omega), h1, qf0]; rfl
theorem zv4 {g : GGraph} (hG : VA.Good g) {n : Nat} (hn : n < g.Nodes.length) (hk : (nd g n).Kind = 1) {e : Int} (he : 0 ≤ e ∧ e ≤ 1048576) : qf1 g ⟨(n : Int), ⟨1, ⟨e, 0, 0, 0⟩⟩⟩ := by
 have hs := (qm0 (hG.no n hn)).2.2.2.1 (.inl hk); refine ⟨n, hn, rfl, ?_, ?_⟩
 · unfold ok; dsimp only; simp; omega
 ·
  show (1 : Int) = _
  unfold HP.lev q94; rw [if_pos hn, if_neg (by omega), hs, j61 hG]; rfl
theorem zb2 {s : List GFeed} {f : GFeed → Option Bool} {p : GFeed → Bool} (hl : s.length < 9223372036854775808) (hf : ∀ x ∈ s, f x = some (p x)) : q4y s f = some (s.any p) := q99 hl hf
def za8 (g : GGraph) (f : GFeed) : Prop := 0 ≤ f.Node ∧ f.Node < g.Nodes.length ∧ (nd g f.Node.toNat).Kind = 1 ∧ 0 ≤ f.Epoch ∧ f.Epoch ≤ 1048576
theorem zx9 (g : GGraph) (feeds : List GFeed) (most : Int) (hl : feeds.length < 1000000000) : qd7 g feeds most = some (decide (VA.Good g ∧ 0 ≤ most ∧ most ≤ 1048576 ∧ ∀ f ∈ feeds, za8 g f)) := by
 unfold qd7; rw [zb4]; refine j6n (Ok.bind (Ok.some (j6k (fun h => Ok.some ?_) (fun h => ?_))))
 ·
  symm
  rw [decide_eq_false_iff_not]; rintro ⟨h1, h2, h3, _⟩; have := z4a.2 h1; simp [this] at h; omega
 ·
  simp only [Bool.or_eq_false_iff, Bool.not_eq_false', beq_iff_eq, decide_eq_false_iff_not] at h; have hG := z4a.1 h.1.1; rw [zb2 (p := fun f => decide (¬ za8 g f)) (by omega) (fun f _ => by
   unfold q8q; refine j6n (j6k (fun hx => Ok.some ?_) (fun hx => ?_))
   ·
    symm; simp only [decide_eq_true_eq]
    intro hh; simp only [Bool.or_eq_true, decide_eq_true_eq] at hx; have := hh.1; have := hh.2.1; omega
   ·
    simp only [Bool.or_eq_false_iff, decide_eq_false_iff_not] at hx; refine Ok.bind (Ok.idx' (by omega) (by omega) fun x hx2 => Ok.some ?_); have hnd : nd g f.Node.toNat = x := by unfold nd; rw [List.getD_eq_getElem?_getD, hx2]; rfl
    rw [Bool.eq_iff_iff]; simp only [Bool.or_eq_true, Bool.not_eq_true', beq_eq_false_iff_ne, decide_eq_true_eq, za8, hnd]
    constructor
    ·
     rintro h1 ⟨_, _, h3, h4, h5⟩; rcases h1 with (h1 | h1) | h1
     · exact h1 h3
     · omega
     · omega
    ·
     intro h1
     by_cases h3 : x.Kind = 1
     ·
      by_cases h4 : 0 ≤ f.Epoch
      · exact .inr (Int.not_le.1 fun h5 => h1 ⟨by omega, by omega, h3, h4, h5⟩)
      · exact .inl (.inr (by omega))
     · exact .inl (.inl h3))]
  refine Ok.bind (Ok.some (Ok.some ?_)); rw [Bool.eq_iff_iff]; simp only [Bool.not_eq_true', List.any_eq_false, decide_eq_true_eq, Classical.not_not]; exact ⟨fun hh => ⟨hG, by omega, by omega, hh⟩, fun hh => hh.2.2.2⟩
def Good (tb : List (List (List GHop))) (p q : GPoint) : Prop := lt q p → R tb p q = true
structure Inv (g : GGraph) (tb : List (List (List GHop))) (C most : Int) (r : GWave_runner) : Prop where
 gr : r.g = g
 table : r.table = tb
 pools : ∃ T1 T2, T1 + T2 ≤ C + r.work ∧ Pool g r.pool.points r.pool.in_ T1 ∧ Pool g r.past.points r.past.in_ T2
 work : 0 ≤ r.work ∧ r.work ≤ most
 outs : r.outs.length ≤ 65536 * r.waves.length
 few : (r.waves.length : Int) + r.pool.points.length ≤ C + r.work
 pts : ∀ w ∈ r.waves, qf1 g w.Point
 chain : ∀ k (h : k + 1 < r.waves.length), Good tb r.waves[k].Point r.waves[k + 1].Point
 last : ∀ k (h : k < r.waves.length), k + 1 = r.waves.length → ∀ q ∈ r.pool.points, Front tb r.pool.points q → Good tb r.waves[k].Point q
theorem Inv.step {g : GGraph} {tb : List (List (List GHop))} {C most : Int} {r v : GWave_runner} (h : Inv g tb C most r) {i : Nat} (hi : i < r.pool.points.length) (hf : Front tb r.pool.points r.pool.points[i]) (hmin : ∀ p ∈ r.pool.points, Front tb r.pool.points p → ¬ lt p r.pool.points[i])
  {T1 T2 : Int} (hTT : T1 + T2 ≤ C + r.work) (hp : qf1 g r.pool.points[i]) (hL : Left g r.pool.points[i] r v (T1 + T2)) (hw : v.work ≤ most) : Inv g tb C most v := by
 obtain ⟨w, hwv, hwp⟩ := hL.waves; have hwl : v.waves.length = r.waves.length + 1 := by rw [hwv]; simp
 have hm := hL.many; have hfew := h.few; have ho := hL.outs; have hoo := h.outs; have hww := hL.work; have hw0 := h.work; refine ⟨hL.gr.trans h.gr, hL.table.trans h.table, ?_, ⟨by omega, hw⟩, by rw [hwl]; omega, by rw [hwl]; omega, fun x hx => ?_, fun k hk => ?_, fun k hk hk1 q hq hqf hlt => ?_⟩
 · obtain ⟨a, b, h1, h2, h3⟩ := hL.pools; exact ⟨a, b, by omega, h2, h3⟩
 ·
  rw [hwv] at hx; rcases List.mem_append.1 hx with hx | hx
  · exact h.pts x hx
  · rw [List.mem_singleton.1 hx, hwp]; exact hp
 ·
  simp only [hwv]; rw [hwl] at hk
  by_cases hk2 : k + 1 < r.waves.length
  · rw [List.getElem_append_left (by omega), List.getElem_append_left hk2]; exact h.chain k hk2
  ·
   have hkk : k + 1 = r.waves.length := by omega
   rw [List.getElem_append_left (by omega), List.getElem_append_right (by omega)]; simp only [hkk, Nat.sub_self, List.getElem_cons_zero]; rw [hwp]; exact h.last k (by omega) hkk _ (List.getElem_mem hi) hf
 ·
  have hkk : k = r.waves.length := by omega
  subst hkk; have hwk : v.waves[r.waves.length] = w := by simp only [hwv]; rw [List.getElem_append_right (by omega)]; simp
  rw [hwk, hwp] at hlt ⊢; rcases hL.sub q hq with ⟨h1, h2⟩ | h1
  ·
   refine Classical.byContradiction fun hn => hmin q h1 (fun x hx hne => ?_) hlt
   by_cases hxp : x = r.pool.points[i]
   · rw [hxp]; simpa using hn
   · exact hqf x (hL.sup x hx hxp) hne
  · rw [h.table] at h1; exact h1
def zy2 (g : GGraph) (tb : List (List (List GHop))) (v : List GWave × List GOut × Int) : Prop :=
 v.2.2 = 0 → (v.1.length < 1000000000) ∧ (∀ w ∈ v.1, qf1 g w.Point) ∧ ∀ k (h : k + 1 < v.1.length), Good tb v.1[k].Point v.1[k + 1].Point
theorem zx2 (x y : GOut) : ∃ n, q77 x y = some n := by
 have h : Ok (q77 x y) fun _ => True := by
  unfold q77; rw [zx3, zx3]; refine Ok.bind (Ok.some (Ok.bind (Ok.some ?_))); rw [or2]; exact Ok.bind (Ok.some (Ok.some trivial))
 obtain ⟨n, hn, _⟩ := h; exact ⟨n, hn⟩
theorem j1g {g : GGraph} (hG : VA.Good g) {tb : List (List (List GHop))} (hT : Tb g tb) {C most : Int} (hC : 0 ≤ C ∧ C ≤ 500) (hmost : 0 ≤ most ∧ most ≤ 1000) {r : GWave_runner} (hI : Inv g tb C most r) {i : Int} (hn : Next tb r.pool.points i) :
  Ok (u7 (qj4 most) rounds (i, r.g.Parent, r.g.Bound, r.g.Nodes, r.g.Edges, r.table, r.work, r.pool.points, r.pool.in_, r.past.points, r.past.in_, r.waves, r.outs)) (zy2 g tb) := by
 refine j6m (fun s => ∃ (i : Int) (r : GWave_runner), s = (i, r.g.Parent, r.g.Bound, r.g.Nodes, r.g.Edges, r.table, r.work, r.pool.points, r.pool.in_, r.past.points, r.past.in_, r.waves, r.outs) ∧ Inv g tb C most r ∧ Next tb r.pool.points i)
  (fun s => s.2.2.2.2.2.2.2.1.length + (most - s.2.2.2.2.2.2.1).toNat) ?_ ⟨i, r, rfl, hI, hn⟩ ?_
 ·
  rintro rec _ ⟨i, r, rfl, hI, hn⟩ hrec; have hfew := hI.few; have hwk := hI.work; have hou := hI.outs; obtain ⟨T1, T2, hTT, hP, hQ⟩ := hI.pools; have hpm := hP.many; have hqm := hQ.many; unfold qj4; dsimp only; rcases hn with ⟨rfl, _⟩ | ⟨k, hk, rfl, hf, hmin⟩
  · rw [if_neg (by simp)]; unfold qj2; refine j6j (SO.stable_perm zx2 (by omega)) fun l hl => Ok.guard hl.length_eq (Ok.some fun _ => ⟨by dsimp only; omega, hI.pts, hI.chain⟩)
  ·
   rw [if_pos (by simp)]; have hrt : Tb g r.table := by rw [hI.table]; exact hT
   refine j6j (j1h (r := r) hG hrt hI.gr (by omega) (by omega) (by omega) hP hQ (by omega) hk) fun v hv => j6k (fun _ => Ok.some fun h => by cases h) (fun hx => ?_); simp only [Bool.or_eq_false_iff, Bool.not_eq_false', decide_eq_false_iff_not] at hx; have hL := hv hx.1; have hI' := hI.step hk hf hmin hTT (hP.pt _ (List.getElem_mem hk)) hL (by omega); obtain ⟨T1', T2', hTT', hP', _⟩ := hI'.pools; have hpm' := hP'.many; have hw' := hI'.work; have hf' := hI'.few; have hvt : Tb g v.2.table := by rw [hI'.table]; exact hT
   refine j6j (zf3 hG hvt hP'.pt (by omega)) fun u ⟨hu1, hu2⟩ => ?_; rw [hu1]; refine hrec _ ⟨_, v.2, rfl, hI', by rw [hI'.table] at hu2; exact hu2⟩ ?_; have hm := hL.many; have hlw := hL.work; dsimp only; omega
 · have hfew := hI.few; have hwk := hI.work; simp only [rounds]; omega
theorem za4 (g : GGraph) (feeds : List GFeed) {most : Int} (hm : most ≤ 1000) (hl : feeds.length ≤ 500) : Ok (q9c g feeds most) fun v => v.2.2 = 0 → VA.Good g ∧ ∃ tb, q51 g = some tb ∧ Tb g tb ∧ zy2 g tb v := by
 unfold q9c; rw [zx9 g feeds most (by omega)]; refine Ok.bind (Ok.some (j6k (fun _ => Ok.some fun h => by cases h) (fun ha => ?_))); simp only [Bool.not_eq_false', decide_eq_true_eq] at ha; obtain ⟨hG, hm0, _, hF⟩ := ha; obtain ⟨tb, htb, hT⟩ := HP.Table_ok hG; have hT' : Tb g tb := hT; refine Ok.bind (j6o htb ?_); refine Ok.mono (P := zy2 g tb) ?_ fun v hv h => ⟨hG, tb, htb, hT', hv⟩; refine Ok.each (l := feeds) (s0 := (([] : List GPoint), ([] : List (Arr2 (List GItem))))) (by omega) (fun i s => Pool g s.1 s.2 i ∧ s.1.length ≤ i) 0 (fun rec i hi s _ hI hrec => ?_) (fun rec s hI => ?_) ⟨⟨rfl, by simp, by simp, by simp, by simp, by simp⟩, by simp⟩ (Nat.zero_le _)
 ·
  obtain ⟨pts, ins⟩ := s; obtain ⟨hI, hIl⟩ := hI; dsimp only at hI hIl; have hm := hI.many; unfold q9q; dsimp only; rw [if_pos (by simpa using hi)]; refine Ok.bind (j6l hi ?_); rw [if_neg (by simp)]; obtain ⟨f0, f1, f2, f3, f4⟩ := hF _ (List.getElem_mem hi); have hpt : qf1 g ⟨feeds[i].Node, ⟨1, ⟨feeds[i].Epoch, 0, 0, 0⟩⟩⟩ := by
   have := zv4 hG (n := feeds[i].Node.toNat) (by omega) f2 ⟨f3, f4⟩; rw [Int.toNat_of_nonneg f0] at this; exact this
  refine z3r (J := fun i' pts' ins' => q7u (i : Int) rec feeds[i] i' pts' ins') hI hpt (by omega) fun k pts' ins' hs => ?_; have hk : k < ins'.length := by rw [hs.len]; exact hs.hi
  have hy := hs.bag _ (List.getElem_mem hk); have hy0 := hs.pos0 _ (List.getElem_mem hk); have hye := hs.each _ (List.getElem_mem hk); have hgr := hs.grow; unfold bt at hye; have h1 : Fn [(⟨feeds[i].Rec, 1⟩ : GItem)] := ⟨⟨by simp, by simp⟩, by simp [OP.Pos]⟩; have h2 : tot [(⟨feeds[i].Rec, 1⟩ : GItem)] = 1 := rfl; unfold q7u; refine Ok.bind (j6l hk (j6j (z0i hy.1 h1 (by omega)) fun c hc => ?_)); rw [iw hi (by omega), Int.toNat_natCast]; refine hrec (_, _) ⟨?_, by dsimp only; omega⟩; have := hs.set (x := ⟨c, ins'[k].a1⟩) (m := 1) ⟨hc.1, hy.2⟩ (by omega) (by show tot c + tot ins'[k].a1 = tot ins'[k].a0 + tot ins'[k].a1 + 1; omega)
  exact_mod_cast this
 · obtain ⟨pts, ins⟩ := s; obtain ⟨hI, hIl⟩ := hI; dsimp only at hI hIl; unfold q9q; dsimp only; rw [if_neg (by simp)]; unfold qj3; refine j6j (zf3 (r := ⟨⟨pts, ins⟩, g, tb, ⟨[], []⟩, 0, [], []⟩) hG hT' hI.pt (by dsimp only; omega)) fun u ⟨hu1, hu2⟩ => ?_; rw [hu1]; refine j1g hG hT' (C := feeds.length) (by omega) ⟨hm0, hm⟩ (r := ⟨⟨pts, ins⟩, g, tb, ⟨[], []⟩, 0, [], []⟩) ⟨rfl, rfl, ⟨feeds.length, 0, by simp, hI, ⟨rfl, by simp, by simp, by simp, by simp, by simp⟩⟩, ⟨by simp, hm0⟩, by simp, by simp; omega, by simp, by simp, by simp⟩ hu2
end WV
end Go.Proofs.YtghbgjnmccjhdaaGreat
