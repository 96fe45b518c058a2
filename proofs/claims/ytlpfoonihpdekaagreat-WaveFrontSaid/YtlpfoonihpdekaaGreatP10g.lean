/-
  The law in plain words: what its plain function gives is true. No condition beyond those that each theorem names.
-/
import Derived.Test.YtlpfoonihpdekaaGreatWalkWF1
import Derived.Test.YtlpfoonihpdekaaGreatP10f
set_option linter.unusedSimpArgs false
set_option linter.unusedVariables false
set_option linter.unusedSectionVars false
namespace Go.Proofs.YtlpfoonihpdekaaGreat
open Go Go.RowKit VA
namespace HP
open Classical
def tm (ys : List Int) : GTime := ⟨(ys.length : Int), pad ys⟩
def four (p : Arr4 Int) : List Int := [p.a0, p.a1, p.a2, p.a3]
theorem j5d {S Y : List Int} (h : S.length + Y.length ≤ 4) : cpL (four (pad S)) (four (pad Y)) S.length Y.length = four (pad (S ++ Y)) := by
 rcases S with _ | ⟨a, _ | ⟨b, _ | ⟨c, _ | ⟨d, _ | ⟨e, S⟩⟩⟩⟩⟩ <;> rcases Y with _ | ⟨p, _ | ⟨q, _ | ⟨u, _ | ⟨v, _ | ⟨w, Y⟩⟩⟩⟩⟩ <;> first
  | rfl
  | (exfalso; simp only [List.length_cons, List.length_nil] at h; omega)
theorem za2 {t : GTime} (ht : TS.ok t) : ((TS.lst t).length : Int) = t.D := by
 unfold TS.lst; have := ht.1; have := ht.2.1; rw [List.length_take]; simp; omega
theorem j4q {t : GTime} (ht : TS.ok t) : pad (TS.lst t) = t.C := by
 have hD := TS.ok_D ht; obtain ⟨D, ⟨a0, a1, a2, a3⟩⟩ := t; unfold TS.ok at ht; dsimp only at hD ht; rcases hD with rfl | rfl | rfl | rfl
 ·
  simp only [Int.reduceLT, if_false] at ht; obtain ⟨rfl, rfl, rfl⟩ : a1 = 0 ∧ a2 = 0 ∧ a3 = 0 := by omega
  rfl
 ·
  simp only [Int.reduceLT, if_false, if_true] at ht; obtain ⟨rfl, rfl⟩ : a2 = 0 ∧ a3 = 0 := by omega
  rfl
 ·
  simp only [Int.reduceLT, if_false, if_true] at ht; obtain rfl : a3 = 0 := by omega
  rfl
 · rfl
theorem zj8 {t : GTime} (ht : TS.ok t) : ∀ x ∈ TS.lst t, Sm x := fun x hx => by
 have h : x ∈ [t.C.a0, t.C.a1, t.C.a2, t.C.a3] := List.mem_of_mem_take hx; unfold TS.ok at ht; unfold Sm; simp only [List.mem_cons, List.not_mem_nil, or_false] at h; obtain ⟨_, _, h0, h1, h2, h3⟩ := ht; rcases h with rfl | rfl | rfl | rfl
 · omega
 · split at h1 <;> omega
 · split at h2 <;> omega
 · split at h3 <;> omega
theorem j33 {F : Int} {k : Nat} {xs : List Int} {t : GTime} (h : Rh F k xs) (ht : TS.ok t) (hD : t.D = F) :
  q8x (mk F k xs) t = some (if TS.ok (tm (th (TS.lst t) xs k)) then (tm (th (TS.lst t) xs k), true) else (⟨0, ⟨0, 0, 0, 0⟩⟩, false)) := by
 have hk := h.kl; have hl4 := h.l1; have hkf := h.kf; have hll := za2 ht; have hkl : k ≤ (TS.lst t).length := by omega
 have hsl := qt2 hkl hk; unfold q8x; rw [qb6 h]; refine ja2 (Ok.bind (Ok.some ?_)); rw [if_pos rfl, TS.Right_eq]; refine Ok.bind (Ok.some ?_); rw [if_neg (by simp [ht, z03, hD]), z1a hk hl4]; refine Ok.bind (Ok.some ?_); have hinit : (⟨(xs.length : Int), ⟨0, 0, 0, 0⟩⟩ : GTime) = ⟨(xs.length : Int), pad ((su (TS.lst t) xs k).take 0)⟩ := by simp [pad]
 rw [hinit]; refine q3k (l := List.replicate k (0 : Int)) (by simp; omega) (fun i (b : GTime) => (i, b)) (fun p => p.1) (fun _ _ => rfl) (fun i b => b = ⟨(xs.length : Int), pad ((su (TS.lst t) xs k).take i)⟩) 0 (fun rec i hi b _ hI hr => ?_) (fun rec b hI => ?_) rfl (Nat.zero_le _)
 ·
  have hi : i < k := by simpa using hi
  subst hI; have his : i < (su (TS.lst t) xs k).length := by omega
  have hsg := zh9 hkl hk hi; have hts := zj8 ht _ (List.getElem_mem (show i < (TS.lst t).length by omega)); have hxs := h.sm _ (List.getElem_mem (show i < xs.length by omega)); have hsum : IntKind.i64.wrap ((TS.lst t)[i] + xs[i]) = (su (TS.lst t) xs k)[i] := by rw [hsg, wrap_i64 _ (by unfold Sm at hts hxs; omega)]
  have hwi : IntKind.i64.wrap ((i : Int) + 1) = ((i + 1 : Nat) : Int) := iw hi (by omega); have hti : idx [t.C.a0, t.C.a1, t.C.a2, t.C.a3] (i : Int) = some (TS.lst t)[i] := by
   have := qe0 (l := TS.lst t) (i := i) (by omega); rw [q1g (by omega), j4q ht] at this; exact this
  have hxi : idx [(mk F k xs).Add.a0, (mk F k xs).Add.a1, (mk F k xs).Add.a2, (mk F k xs).Add.a3] (i : Int) = some xs[i] := by
   have := qe0 (l := xs.take k) (i := i) (by omega); rw [q1g (by rw [List.length_take]; omega), List.getElem_take] at this; exact this
  unfold qo5; dsimp only; rw [if_pos (by rw [ql3]; simp; omega), hwi, hti]; refine Ok.guard (by omega) (Ok.bind (Ok.some (Ok.guard (by omega) ?_))); rw [hxi]; refine Ok.bind (Ok.some (Ok.guard (by omega) (Ok.bind (Ok.some (Ok.bind (Ok.some (Ok.bind (Ok.some (Ok.bind (Ok.some (hr _ ?_))))))))))); have hlt : ((su (TS.lst t) xs k).take i).length = i := by rw [List.length_take]; omega
  have hps := z3j (l := (su (TS.lst t) xs k).take i) (x := (su (TS.lst t) xs k)[i]) (by omega); rw [hlt] at hps; rw [Int.toNat_natCast, hsum, hps, snoc his]
 ·
  subst hI; unfold qo5; dsimp only; rw [if_neg (by rw [ql3]; simp), List.length_replicate, show (su (TS.lst t) xs k).take k = su (TS.lst t) xs k from List.take_of_length_le (by omega)]; unfold qo4; refine Ok.guard (by rw [ql3]; omega) (Ok.guard (by rw [z2t]; omega) ?_); have hdl : (xs.drop k).length = xs.length - k := List.length_drop; have hcp : cpL [(pad (su (TS.lst t) xs k)).a0, (pad (su (TS.lst t) xs k)).a1, (pad (su (TS.lst t) xs k)).a2, (pad (su (TS.lst t) xs k)).a3] [(mk F k xs).T.a0, (mk F k xs).T.a1, (mk F k xs).T.a2, (mk F k xs).T.a3] (Int.toNat (mk F k xs).Keep) (Int.toNat (mk F k xs).Tail) = four (pad (th (TS.lst t) xs k)) := by
   rw [ql3, z2t, Int.toNat_natCast, Int.toNat_natCast]; have := j5d (S := su (TS.lst t) xs k) (Y := xs.drop k) (by omega); rw [hsl, hdl] at this; exact this
  dsimp only; rw [hcp]; refine Ok.bind (Ok.some (Ok.bind (Ok.some (Ok.bind (Ok.some (Ok.bind (Ok.some ?_))))))); have htl : (th (TS.lst t) xs k).length = xs.length := by unfold th; rw [List.length_append, hsl, hdl]; omega
  have hfin : (⟨(xs.length : Int), ⟨(four (pad (th (TS.lst t) xs k))).getD 0 0, (four (pad (th (TS.lst t) xs k))).getD 1 0, (four (pad (th (TS.lst t) xs k))).getD 2 0, (four (pad (th (TS.lst t) xs k))).getD 3 0⟩⟩ : GTime) = tm (th (TS.lst t) xs k) := by
   unfold tm; rw [htl]; rfl
  rw [hfin, TS.Right_eq]; refine Ok.bind (Ok.some ?_)
  by_cases hR : TS.ok (tm (th (TS.lst t) xs k))
  · rw [if_neg (by simp [hR]), if_pos hR]; exact Ok.some rfl
  · rw [if_pos (by simp [hR]), if_neg hR]; exact Ok.some rfl
end HP
end Go.Proofs.YtlpfoonihpdekaaGreat
