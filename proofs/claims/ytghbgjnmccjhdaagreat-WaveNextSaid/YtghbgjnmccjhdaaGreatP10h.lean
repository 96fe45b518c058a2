/-
  The law in plain words: what its plain function gives is true. No condition beyond those that each theorem names.
-/
import Derived.Test.YtghbgjnmccjhdaaGreatWalkWN0
import Derived.Test.YtghbgjnmccjhdaaGreatP10g
set_option linter.unusedSimpArgs false
set_option linter.unusedVariables false
set_option linter.unusedSectionVars false
namespace Go.Proofs.YtghbgjnmccjhdaaGreat
open Go Go.RowKit VA
namespace HP
open Classical
theorem th_len {ts xs : List Int} {k : Nat} (h1 : k ≤ ts.length) (h2 : k ≤ xs.length) : (th ts xs k).length = xs.length := by
 unfold th; rw [List.length_append, ql7 h1 h2, List.length_drop]; omega
theorem z4g {ts xs : List Int} {k i : Nat} (h1 : k ≤ ts.length) (h2 : k ≤ xs.length) (hi : i < xs.length) : (th ts xs k).getD i 0 = if i < k then ts.getD i 0 + xs.getD i 0 else xs.getD i 0 := by
 unfold th; rw [List.getD_eq_getElem?_getD]
 by_cases h : i < k
 · rw [if_pos h, List.getElem?_append_left (by rw [ql7 h1 h2]; exact h), List.getElem?_eq_getElem (by rw [ql7 h1 h2]; exact h), z8m h1 h2 h, q48 (by omega), q48 hi]; rfl
 · rw [if_neg h, List.getElem?_append_right (by rw [ql7 h1 h2]; omega), ql7 h1 h2, List.getElem?_drop, List.getD_eq_getElem?_getD, show k + (i - k) = i by omega]
theorem j4h {ts xs ys : List Int} {k k' : Nat} (hts : ∀ x ∈ ts, Sm x) (h1 : k ≤ ts.length) (h2 : k ≤ xs.length) (h1' : k' ≤ ts.length) (h2' : k' ≤ ys.length) (hl : xs.length = ys.length) (h : le k xs k' ys) (i : Nat) : (th ts xs k).getD i 0 ≤ (th ts ys k').getD i 0 := by
 by_cases hi : i < xs.length
 ·
  rw [z4g h1 h2 hi, z4g h1' h2' (by omega)]; have hp : xs.getD i 0 ≤ ys.getD i 0 := by rw [q48 hi, q48 (show i < ys.length by omega)]; exact h.2 i hi (by omega)
  have ht := z09 hts i; have hkk := h.1; unfold Sm at ht
  split <;> split <;> omega
 · rw [getD_none (by rw [th_len h1 h2]; omega), getD_none (by rw [th_len h1' h2']; omega)]; exact Int.le_refl _
theorem zm1 {ts xs : List Int} {k : Nat} (hts : ∀ x ∈ ts, Sm x) (hxs : ∀ x ∈ xs, Sm x) (h1 : k ≤ ts.length) (h2 : k ≤ xs.length) (i : Nat) : 0 ≤ (th ts xs k).getD i 0 := by
 by_cases hi : i < xs.length
 ·
  rw [z4g h1 h2 hi]; have ht := z09 hts i; have hx := z09 hxs i; unfold Sm at ht hx
  split <;> omega
 · rw [getD_none (by rw [th_len h1 h2]; omega)]; exact Int.le_refl _
theorem j4g {a b : List Int} (hl : a.length = b.length) (h0 : ∀ i, 0 ≤ a.getD i 0) (hle' : ∀ i, a.getD i 0 ≤ b.getD i 0) (hb : TS.ok (tm b)) : TS.ok (tm a) ∧ TS.le (tm a) (tm b) := by
 have hok : TS.ok (tm a) := by
  unfold TS.ok tm at hb ⊢; unfold pad at hb ⊢; dsimp only at hb ⊢; rw [hl]; obtain ⟨h1, h2, h3, h4, h5, h6⟩ := hb; have a0 := h0 0; have a1 := h0 1; have a2 := h0 2; have a3 := h0 3; have b0 := hle' 0; have b1 := hle' 1; have b2 := hle' 2; have b3 := hle' 3; refine ⟨h1, h2, ⟨a0, by omega⟩, ⟨a1, Int.le_trans b1 h4.2⟩, ⟨a2, Int.le_trans b2 h5.2⟩, ⟨a3, Int.le_trans b3 h6.2⟩⟩
 exact ⟨hok, hok, hb, by unfold tm; dsimp only; rw [hl], hle' 0, hle' 1, hle' 2, hle' 3⟩
theorem j0x {ys : List Int} {n k : Nat} (hk : k ≤ n) (hky : k ≤ ys.length) : th (List.replicate n 0) ys k = ys := by
 refine List.ext_getElem (by rw [th_len (by simpa using hk) hky]) fun i h1 h2 => ?_; rw [← q48 h1, ← q48 h2, z4g (by simpa using hk) hky h2]; have hz : (List.replicate n (0 : Int)).getD i 0 = 0 := by rw [List.getD_eq_getElem?_getD, List.getElem?_replicate]; split <;> rfl
 rw [hz]; split <;> omega
theorem zx0 {g : GGraph} (hG : VA.Good g) {e : GEdge} (he : e ∈ g.Edges) {row : List (List Hp)} (hF : Fin_ g e.From.toNat row) : ∃ z ∈ rw_ row e.To.toNat, hle z (stepE g e) := by
 have hst : Rp (lev g e.From.toNat : Int) (lev g e.To.toNat) (stepE g e) := (step_eq hG he).1; obtain ⟨y, hy, hyle⟩ := hF.self; obtain ⟨hyr, hyl⟩ := hF.R.rp _ y hy; have hyz : y.2 = List.replicate (lev g e.From.toNat) 0 := by
  refine List.ext_getElem (by simpa using hyl) fun i h1 h2 => ?_; have h3 := hyle.2 i h1 h2; have h4 := hyr.sm _ (List.getElem_mem h1); dsimp only at h3; rw [List.getElem_replicate] at h3 ⊢; unfold Sm at h4; omega
 have hkf := hst.1.kf; have hx : thp y (stepE g e) = (min y.1 (stepE g e).1, (stepE g e).2) := by
  unfold thp; rw [hyz, j0x (by omega) hst.1.kl]
 have hr : Rh (lev g e.From.toNat : Int) (thp y (stepE g e)).1 (thp y (stepE g e)).2 := by
  rw [hx]; have hs := hst.1; have := hs.kl; exact ⟨hs.f0, hs.f1, by dsimp only; omega, by dsimp only; omega, hs.l0, hs.l1, hs.sm⟩
 obtain ⟨z, hz, hzle⟩ := hF.cl e he y hy hr; rw [hx] at hzle; exact ⟨z, hz, Nat.le_trans hzle.1 (Nat.min_le_right _ _), hzle.2⟩
theorem Reaches_step {g : GGraph} (hG : VA.Good g) {tbl : Nat → List (List Hp)} (hT : ∀ j < g.Nodes.length, Fin_ g j (tbl j)) {e : GEdge} (he : e ∈ g.Edges) {t : GTime} (ht : TS.ok t) (hD : t.D = (lev g e.From.toNat : Int)) (hok : TS.ok (tm (th (TS.lst t) (stepE g e).2 (stepE g e).1))) :
  q1q (tblL g tbl g.Nodes.length) e.From t e.To (tm (th (TS.lst t) (stepE g e).2 (stepE g e).1)) = some true := by
 obtain ⟨hf, hto, _⟩ := hG.ed.at he; have hn := hG.nl; have hfn : e.From.toNat < g.Nodes.length := by have := hf.1; have := hf.2; omega
 have htn : e.To.toNat < g.Nodes.length := by have := hto.1; have := hto.2; omega
 have hfc : e.From = ((e.From.toNat : Nat) : Int) := by have := hf.1; omega
 have htc : e.To = ((e.To.toNat : Nat) : Int) := by have := hto.1; omega
 have hst : Rp (lev g e.From.toNat : Int) (lev g e.To.toNat) (stepE g e) := (step_eq hG he).1; have hF := hT _ hfn; have hrl := hF.R.len; have h14 := lev4 hG; have hsh := hF.R.short (by omega) (fun v => (h14 v).2) e.To.toNat; obtain ⟨z, hz, hzle⟩ := zx0 hG he hF; have hll := lst_len ht; have hso : q5i (tblL g tbl g.Nodes.length) e.From e.To = some ((rw_ (tbl e.From.toNat) e.To.toNat).map (mkp (lev g e.From.toNat))) := by
  unfold q5i; have htl : (tblL g tbl g.Nodes.length).length = g.Nodes.length := by unfold tblL; simp
  refine j6n ?_; rw [if_neg (by rw [htl]; have := hf.1; have := hf.2; have := hto.1; simp; omega), hfc]; refine Ok.bind (j6l (by rw [htl]; exact hfn) ?_); have hget : (tblL g tbl g.Nodes.length)[e.From.toNat]'(by rw [htl]; exact hfn) = gh (lev g e.From.toNat : Int) (tbl e.From.toNat) := by unfold tblL; rw [List.getElem_map, List.getElem_range]
  rw [hget]; rw [if_neg (by unfold gh; rw [List.length_map, hrl]; have := hto.2; simp; omega), htc]; refine Ok.bind (gh_get (by omega) (Ok.some ?_)); rw [Int.toNat_natCast, Int.toNat_natCast]
 unfold q1q; rw [hso]; refine j6n (Ok.bind (Ok.some ?_)); refine j6p (l := rw_ (tbl e.From.toNat) e.To.toNat) (by omega) (fun i => z ∉ (rw_ (tbl e.From.toNat) e.To.toNat).take i) 0 (fun rec i hi _ hI hr => ?_) (fun rec hI => ?_) (by simp) (Nat.zero_le _)
 ·
  obtain ⟨hpr, hpl⟩ := hF.R.rp _ _ (List.getElem_mem hi); unfold q6f; rw [if_pos (by simp; omega), iw hi (by omega)]; refine Ok.bind (j6l (by simpa using hi) ?_); rw [List.getElem_map, show mkp (lev g e.From.toNat : Int) (rw_ (tbl e.From.toNat) e.To.toNat)[i] = mk (lev g e.From.toNat : Int) (rw_ (tbl e.From.toNat) e.To.toNat)[i].1 (rw_ (tbl e.From.toNat) e.To.toNat)[i].2 from rfl, Apply_eq hpr ht hD]; refine Ok.bind (Ok.some ?_); have hgo : (rw_ (tbl e.From.toNat) e.To.toNat)[i] ≠ z → Ok (rec ((i + 1 : Nat) : Int)) fun r => r = true := fun hne => hr fun hm => by
   rw [snoc hi, List.mem_append, List.mem_singleton] at hm; rcases hm with hm | hm
   · exact hI hm
   · exact hne hm.symm
  by_cases hzi : (rw_ (tbl e.From.toNat) e.To.toNat)[i] = z
  ·
   rw [hzi] at hpr hpl ⊢; have hkz := hpr.kf; have hks := hst.1.kf; have hlt := zn7 ht; have h1 : z.1 ≤ (TS.lst t).length := by omega
   have h2 : (stepE g e).1 ≤ (TS.lst t).length := by omega
   have hle2 := j4h hlt h1 hpr.kl h2 hst.1.kl (by rw [hpl, hst.2]) hzle; obtain ⟨ok1, le1⟩ := j4g (by rw [th_len h1 hpr.kl, th_len h2 hst.1.kl, hpl, hst.2]) (zm1 hlt hpr.sm h1 hpr.kl) hle2 hok; rw [if_pos ok1]; dsimp only; rw [if_pos rfl, TS.le_eq]; refine Ok.bind (Ok.some ?_); rw [if_pos (by simpa using le1)]; exact Ok.some rfl
  · refine j6k (fun hc => ?_) (fun hc => hgo hzi); rw [TS.le_eq]; refine Ok.bind (Ok.some (j6k (fun hc => Ok.some rfl) (fun hc => hgo hzi)))
 · rw [List.take_length] at hI; exact absurd hz hI
end HP
end Go.Proofs.YtghbgjnmccjhdaaGreat
