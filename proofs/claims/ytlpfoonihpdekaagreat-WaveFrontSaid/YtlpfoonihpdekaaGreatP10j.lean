/-
  The law in plain words: what its plain function gives is true. No condition beyond those that each theorem names.
-/
import Derived.Test.YtlpfoonihpdekaaGreatWalkWF1
import Derived.Test.YtlpfoonihpdekaaGreatP10i
set_option linter.unusedSimpArgs false
set_option linter.unusedVariables false
set_option linter.unusedSectionVars false
namespace Go.Proofs.YtlpfoonihpdekaaGreat
open Go Go.RowKit VA
namespace HP
open Classical
theorem z9y {l : List Int} {i : Nat} (hi : i < l.length) (h4 : l.length ≤ 4) {p : Arr4 Int} (hp : p = pad (l.take i)) {j : Int} (hj : j = (i : Int)) :
  (⟨if j.toNat = 0 then l[i] else p.a0, if j.toNat = 1 then l[i] else p.a1, if j.toNat = 2 then l[i] else p.a2, if j.toNat = 3 then l[i] else p.a3⟩ : Arr4 Int) = pad (l.take (i + 1)) := by
 subst hp; subst hj; have hlt : (l.take i).length = i := by rw [List.length_take]; omega
 have hps := z3j (l := l.take i) (x := l[i]) (by omega); rw [hlt] at hps; rw [Int.toNat_natCast, hps, snoc hi]
theorem j6l {F : Int} {k : Nat} {zs : List Int} (h0 : 1 ≤ F) (h1 : F ≤ 4) (hkf : (k : Int) ≤ F) (hkl : k ≤ zs.length) (l0 : 1 ≤ zs.length) (l4 : zs.length ≤ 4) :
  q81 F (pt k zs) = some (if Rh F k zs then (mk F k zs, true) else (none, false)) := by
 refine ja2 ?_; unfold q81; refine q3k (l := zs) (by omega) (fun i (a : GHop) => (i, a)) (fun p => p.1) (fun _ _ => rfl) (fun i a => a = ⟨F, ((min i k : Nat) : Int), ((i - k : Nat) : Int), pad ((zs.take k).take (min i k)), pad ((zs.drop k).take (i - k))⟩) 0 (fun rec i hi a _ hI hr => ?_) (fun rec a hI => ?_) (by simp [pad]) (Nat.zero_le _)
 ·
  subst hI; unfold q87; dsimp only; rw [if_pos (by rw [q59]; simp only [decide_eq_true_eq]; omega), iw hi (by omega), z3i hi]; refine Ok.bind (Ok.some ?_)
  by_cases hk : i < k
  ·
   rw [if_pos hk, if_pos (by simp)]; dsimp only; have hmin : min i k = i := by omega
   have hik : i - k = 0 := by omega
   rw [hmin, hik]; refine Ok.guard (by omega) (Ok.bind (Ok.some (Ok.bind (Ok.some (Ok.bind (Ok.some (Ok.bind (Ok.some (hr _ ?_))))))))); have hlk : i < (zs.take k).length := by rw [List.length_take]; omega
   have hg : (zs.take k)[i] = zs[i] := by rw [List.getElem_take]
   have := z9y (l := zs.take k) hlk (by rw [List.length_take]; omega) rfl (j := (i : Int)) rfl; rw [hg] at this; have hmin' : min (i + 1) k = i + 1 := by omega
   have hik' : i + 1 - k = 0 := by omega
   rw [this, hmin', hik', iw hi (by omega)]
  ·
   rw [if_neg hk, if_neg (by simp)]; dsimp only; have hmin : min i k = k := by omega
   rw [hmin]; refine Ok.guard (by omega) (Ok.bind (Ok.some (Ok.bind (Ok.some (Ok.bind (Ok.some (Ok.bind (Ok.some (hr _ ?_))))))))); have hlk : i - k < (zs.drop k).length := by rw [List.length_drop]; omega
   have hg : (zs.drop k)[i - k] = zs[i] := by rw [List.getElem_drop]; congr 1; omega
   have := z9y (l := zs.drop k) hlk (by rw [List.length_drop]; omega) rfl (j := ((i - k : Nat) : Int)) rfl; rw [hg] at this; have hmin' : min (i + 1) k = k := by omega
   have hik' : i + 1 - k = i - k + 1 := by omega
   rw [this, hmin', hik', iw (show i - k < zs.length by omega) (by omega)]
 ·
  subst hI; unfold q87; dsimp only; rw [if_neg (by rw [q59]; simp)]; unfold q86; have hmin : min zs.length k = k := by omega
  have hfin : (⟨F, ((min zs.length k : Nat) : Int), ((zs.length - k : Nat) : Int), pad ((zs.take k).take (min zs.length k)), pad ((zs.drop k).take (zs.length - k))⟩ : GHop) = mk F k zs := by
   unfold mk; rw [hmin, List.take_of_length_le (show (zs.take k).length ≤ k by rw [List.length_take]; omega), List.take_of_length_le (show (zs.drop k).length ≤ zs.length - k by rw [List.length_drop]; exact Nat.le_refl _)]
  rw [hfin, zc8 h0 h1 hkf hkl l0 l4]; refine Ok.bind (Ok.some ?_)
  by_cases hs : ∀ x ∈ zs, Sm x
  · rw [if_pos hs, if_neg (by simp), if_pos ⟨h0, h1, hkf, hkl, l0, l4, hs⟩]; exact Ok.some rfl
  · rw [if_neg hs, if_pos (by simp), if_neg (fun h => hs h.sm)]; exact Ok.some rfl
theorem j1z {F n : Int} {k kb : Nat} {xs ys : List Int} (ha : Rh F k xs) (hb : Rh n kb ys) (hn : n = (xs.length : Int)) :
  q4k (mk F k xs) (mk n kb ys) = some (if Rh F (min k kb) (th xs ys kb) then (mk F (min k kb) (th xs ys kb), true) else (none, false)) := by
 have hx4 := ha.l1; have hy4 := hb.l1; have hkx := ha.kl; have hky := hb.kl; have hkn := hb.kf; have hkf := ha.kf; have h0 := ha.f0; have h1 := ha.f1; have hy0 := hb.l0; have hkbx : kb ≤ xs.length := by omega
 have hzl : (th xs ys kb).length = ys.length := qd6 hkbx hky; refine ja2 ?_; unfold q4k; rw [qs7 ha, qs7 hb]; refine Ok.bind (Ok.some (Ok.bind (Ok.some ?_))); dsimp only; rw [if_neg (by simp [z03, q59, hn])]; refine q3k (l := ys) (by omega) (fun i (a : List GBackwashref02_Part) => (i, a)) (fun p => p.1) (fun _ _ => rfl) (fun i a => a = (pt (min k kb) (th xs ys kb)).take i) 0 (fun rec i hi a _ hI hr => ?_) (fun rec a hI => ?_) (by simp) (Nat.zero_le _)
 ·
  subst hI; have hiz : i < (th xs ys kb).length := by omega
  have hip : i < (pt (min k kb) (th xs ys kb)).length := by rw [q59]; exact hiz
  have hth := qz2 (i := i) hkbx hky hi; rw [q1g hiz, q1g hi] at hth; have hnx : ((pt (min k kb) (th xs ys kb)).take (i + 1)) = (pt (min k kb) (th xs ys kb)).take i ++ [⟨if i < min k kb then (i : Int) else -1, (th xs ys kb)[i]⟩] := by rw [snoc hip, z8s]
  have htl : ((pt (min k kb) (th xs ys kb)).take i).length = i := by rw [List.length_take]; omega
  unfold q77; dsimp only; rw [if_pos (by rw [q59]; simp only [decide_eq_true_eq]; omega), iw hi (by omega), z3i hi]; refine Ok.bind (Ok.some ?_)
  by_cases hk : i < kb
  ·
   rw [if_pos hk] at hth; rw [if_pos hk, if_pos (by simp), z3i (show i < xs.length by omega)]; refine Ok.bind (Ok.some (Ok.guard (by rw [htl]; simp; omega) (hr _ ?_))); rw [hnx, hth, q1g (show i < xs.length by omega)]; have hs1 := ha.sm _ (List.getElem_mem (show i < xs.length by omega)); have hs2 := hb.sm _ (List.getElem_mem hi); unfold Sm at hs1 hs2; dsimp only; rw [wrap_i64 _ (by omega)]
   congr 3
   by_cases hkk : i < k
   · rw [if_pos hkk, if_pos (by omega)]
   · rw [if_neg hkk, if_neg (by omega)]
  · rw [if_neg hk] at hth; rw [if_neg hk, if_neg (by simp)]; refine Ok.guard (by rw [htl]; simp; omega) (hr _ ?_); rw [hnx, hth, if_neg (by omega)]
 ·
  subst hI; unfold q77; dsimp only; rw [if_neg (by rw [q59]; simp)]; unfold q76; rw [List.take_of_length_le (by rw [q59]; omega), z03, j6l h0 h1 (by omega) (by omega) (by omega) (by omega)]; refine Ok.bind (Ok.some (Ok.some ?_))
  split <;> rfl
theorem j4n {l : List Int} (h0 : 1 ≤ l.length) (h4 : l.length ≤ 4) : q82 l = some (if TS.ok (tm l) then (tm l, true) else (⟨0, ⟨0, 0, 0, 0⟩⟩, false)) := by
 refine ja2 ?_; unfold q82; rw [if_neg (by simp only [Bool.or_eq_true, decide_eq_true_eq]; omega)]; refine q3k (l := l) (by omega) (fun i (a : GTime) => (i, a)) (fun p => p.1) (fun _ _ => rfl) (fun i a => a = ⟨(l.length : Int), pad (l.take i)⟩) 0 (fun rec i hi a _ hI hr => ?_) (fun rec a hI => ?_) rfl (Nat.zero_le _)
 · subst hI; unfold q8a; dsimp only; rw [if_pos (by simp only [decide_eq_true_eq]; omega), iw hi (by omega)]; refine Ok.bind (ja0 hi (Ok.guard (by omega) (Ok.bind (Ok.some (Ok.bind (Ok.some (Ok.bind (Ok.some (Ok.bind (Ok.some (hr _ ?_))))))))))); rw [z9y hi h4 rfl rfl]
 ·
  subst hI; unfold q8a; dsimp only; rw [if_neg (by simp)]; unfold q89; rw [List.take_of_length_le (Nat.le_refl _), show (⟨(l.length : Int), pad l⟩ : GTime) = tm l from rfl, TS.List_eq]; refine Ok.bind (Ok.some ?_)
  by_cases h : TS.ok (tm l)
  · rw [if_pos h, if_neg (by simp), if_pos h]; exact Ok.some rfl
  · rw [if_neg h, if_pos (by simp), if_neg h]; exact Ok.some rfl
def app (F : Int) (p : Hp) (t : GTime) : GTime × Bool := if TS.ok t ∧ t.D = F ∧ TS.ok (tm (th (TS.lst t) p.2 p.1)) then (tm (th (TS.lst t) p.2 p.1), true) else (⟨0, ⟨0, 0, 0, 0⟩⟩, false)
theorem j0u {F : Int} {p : Hp} (h : Rh F p.1 p.2) (t : GTime) : q8x (mkp F p) t = some (app F p t) := by
 unfold app mkp
 by_cases ht : TS.ok t
 ·
  by_cases hD : t.D = F
  · rw [j33 h ht hD]; simp only [ht, hD, true_and]
  · rw [if_neg (fun h => hD h.2.1)]; unfold q8x; rw [qb6 h]; refine ja2 (Ok.bind (Ok.some ?_)); rw [if_pos rfl, TS.Right_eq]; refine Ok.bind (Ok.some ?_); rw [if_pos (by simp [z03, hD])]; exact Ok.some rfl
 · rw [if_neg (fun h => ht h.1)]; unfold q8x; rw [qb6 h]; refine ja2 (Ok.bind (Ok.some ?_)); rw [if_pos rfl, TS.Right_eq]; refine Ok.bind (Ok.some ?_); rw [if_pos (by simp [ht])]; exact Ok.some rfl
theorem zt8 {F : Int} {p : Hp} (h : Rh F p.1 p.2) (t : GTime) : q60 (mkp F p) t = some (app F p t) := by
 obtain ⟨k, xs⟩ := p; have hk := h.kl; have hl4 := h.l1; have hkf := h.kf; have h0 := h.f0; have hl0 := h.l0; dsimp only at hk hl4 hkf hl0; unfold app mkp; refine ja2 ?_; unfold q60; rw [qs7 h, TS.List_eq]; refine Ok.bind (Ok.some (Ok.bind (Ok.some ?_)))
 by_cases ht : TS.ok t
 ·
  have hll := za2 ht; rw [if_pos ht]
  by_cases hD : t.D = F
  ·
   have hkl : k ≤ (TS.lst t).length := by omega
   have hzl : (th (TS.lst t) xs k).length = xs.length := qd6 hkl hk; dsimp only; rw [if_neg (by simp [z03, hll, hD])]; refine q3k (l := xs) (by omega) (fun i (a : List Int) => (i, a)) (fun p => p.1) (fun _ _ => rfl) (fun i a => a = (th (TS.lst t) xs k).take i) 0 (fun rec i hi a _ hI hr => ?_) (fun rec a hI => ?_) (by simp) (Nat.zero_le _)
   ·
    subst hI; have hiz : i < (th (TS.lst t) xs k).length := by omega
    have hth := qz2 (i := i) hkl hk hi; rw [q1g hiz, q1g hi] at hth; have htl : ((th (TS.lst t) xs k).take i).length = i := by rw [List.length_take]; omega
    unfold q6y; dsimp only; rw [if_pos (by rw [q59]; simp only [decide_eq_true_eq]; omega), iw hi (by omega), z3i hi]; refine Ok.bind (Ok.some ?_)
    by_cases hik : i < k
    ·
     rw [if_pos hik] at hth; have hil : i < (TS.lst t).length := by omega
     rw [if_pos hik, if_pos (by simp)]; refine Ok.bind (ja0 hil ?_); refine Ok.guard (by rw [htl]; simp; omega) (hr _ ?_); have hs1 := zj8 ht _ (List.getElem_mem hil); have hs2 := h.sm _ (List.getElem_mem hi); unfold Sm at hs1 hs2; rw [snoc hiz, hth, q1g hil]; dsimp only at hs2 ⊢; rw [wrap_i64 _ (by omega), Int.add_comm]
    · rw [if_neg hik] at hth; rw [if_neg hik, if_neg (by simp)]; refine Ok.guard (by rw [htl]; simp; omega) (hr _ ?_); rw [snoc hiz, hth]
   · subst hI; unfold q6y; dsimp only; rw [if_neg (by rw [q59]; simp)]; unfold q6x; rw [List.take_of_length_le (by omega), j4n (by omega) (by omega)]; refine Ok.bind (Ok.some (Ok.some ?_)); simp only [ht, hD, true_and]
  · dsimp only; rw [if_pos (by simp [z03, hll, hD])]; exact Ok.some (by rw [if_neg (fun h => hD h.2.1)])
 · rw [if_neg ht]; dsimp only; rw [if_pos (by simp)]; exact Ok.some (by rw [if_neg (fun h => ht h.1)])
theorem j2x {F : Int} {n : Nat} {p q : Hp} (hp : Rp F n p) (hq : Rp F n q) (hle' : hle p q) {t u : GTime} (h : (app F q t).2 = true) (hu : TS.le (app F q t).1 u) : (app F p t).2 = true ∧ TS.le (app F p t).1 u := by
 obtain ⟨hpr, hpl⟩ := hp; obtain ⟨hqr, hql⟩ := hq; unfold app at h hu ⊢
 by_cases hc : TS.ok t ∧ t.D = F ∧ TS.ok (tm (th (TS.lst t) q.2 q.1))
 · rw [if_pos hc] at hu; obtain ⟨ht, hD, hok⟩ := hc; have hll := za2 ht; have k1 := hpr.kf; have k2 := hqr.kf; have k3 := hpr.kl; have k4 := hqr.kl; have hts := zj8 ht; obtain ⟨o1, o2⟩ := j7n (a := th (TS.lst t) p.2 p.1) (b := th (TS.lst t) q.2 q.1) (by rw [qd6 (by omega) k3, qd6 (by omega) k4]; omega) (zy6 hts hpr.sm (by omega) k3) (fun i => j7o hts (by omega) k3 (by omega) k4 (by omega) hle' i) hok; rw [if_pos ⟨ht, hD, o1⟩]; refine ⟨rfl, ?_⟩; obtain ⟨_, a2, a3, a4, a5, a6, a7⟩ := o2; obtain ⟨_, b2, b3, b4, b5, b6, b7⟩ := hu; exact ⟨o1, b2, a3.trans b3, Int.le_trans a4 b4, Int.le_trans a5 b5, Int.le_trans a6 b6, Int.le_trans a7 b7⟩
 · rw [if_neg hc] at h; cases h
end HP
end Go.Proofs.YtlpfoonihpdekaaGreat
