/-
  The law in plain words: what its plain function gives is true. No condition beyond those that each theorem names.
-/
import Derived.Test.YtlpfoonihpdekaaGreatWalkWF0
import Derived.Test.YtlpfoonihpdekaaGreatP02a
set_option linter.unusedSimpArgs false
set_option linter.unusedVariables false
set_option linter.unusedSectionVars false
namespace Go.Proofs.YtlpfoonihpdekaaGreat
open Go Go.RowKit VA
namespace HP
def su (xs ys : List Int) (kb : Nat) : List Int := List.zipWith (· + ·) (xs.take kb) (ys.take kb)
def th (xs ys : List Int) (kb : Nat) : List Int := su xs ys kb ++ ys.drop kb
theorem qt2 {xs ys : List Int} {kb : Nat} (h1 : kb ≤ xs.length) (h2 : kb ≤ ys.length) : (su xs ys kb).length = kb := by
 unfold su; rw [List.length_zipWith, List.length_take, List.length_take]; omega
theorem zh9 {xs ys : List Int} {kb i : Nat} (h1 : kb ≤ xs.length) (h2 : kb ≤ ys.length) (hi : i < kb) : (su xs ys kb)[i]'(by rw [qt2 h1 h2]; exact hi) = xs[i] + ys[i] := by
 unfold su; rw [List.getElem_zipWith, List.getElem_take, List.getElem_take]
theorem snoc {α : Type} {l : List α} {i : Nat} (h : i < l.length) : l.take (i + 1) = l.take i ++ [l[i]] := List.take_succ_eq_append_getElem h
def none : GHop := ⟨0, 0, 0, ⟨0, 0, 0, 0⟩, ⟨0, 0, 0, 0⟩⟩
open Classical in
theorem j5h {F n : Int} {k kb : Nat} {xs ys : List Int} (ha : Rh F k xs) (hb : Rh n kb ys) (hn : n = (xs.length : Int)) :
  qo1 (mk F k xs) (mk n kb ys) = some (if Rh F (min k kb) (th xs ys kb) then (mk F (min k kb) (th xs ys kb), true) else (none, false)) := by
 have hx4 := ha.l1; have hy4 := hb.l1; have hkx := ha.kl; have hky := hb.kl; have hkn := hb.kf; have hkbx : kb ≤ xs.length := by omega
 have hsl := qt2 hkbx hky; unfold qo1; rw [qb6 ha, qb6 hb]; refine ja2 (Ok.bind (Ok.some ?_)); rw [if_pos rfl]; refine Ok.bind (Ok.some ?_); rw [if_pos rfl, z1a ha.kl ha.l1]; refine Ok.bind (Ok.some ?_); rw [if_neg (by simp [z03, hn])]; have hmin : min (k : Int) (kb : Int) = ((min k kb : Nat) : Int) := by omega
 have hinit : (⟨(mk F k xs).From, min (mk F k xs).Keep (mk n kb ys).Keep, 0, ⟨0, 0, 0, 0⟩, ⟨0, 0, 0, 0⟩⟩ : GHop) = ⟨F, ((min k kb : Nat) : Int), ((0 - k : Nat) : Int), pad (((su xs ys kb).take 0).take k), pad (((su xs ys kb).take 0).drop k)⟩ := by
  rw [z03, ql3, ql3, hmin]; simp [pad]
 rw [hinit]; refine q3k (l := List.replicate kb (0 : Int)) (by simp; omega) (fun i (b : GHop) => (i, b)) (fun p => p.1) (fun _ _ => rfl)
  (fun i b => b = ⟨F, ((min k kb : Nat) : Int), ((i - k : Nat) : Int), pad (((su xs ys kb).take i).take k), pad (((su xs ys kb).take i).drop k)⟩) 0 (fun rec i hi b _ hI hr => ?_) (fun rec b hI => ?_) rfl (Nat.zero_le _)
 ·
  have hi : i < kb := by simpa using hi
  subst hI; have his : i < (su xs ys kb).length := by omega
  have hsg := zh9 hkbx hky hi; have hxs := ha.sm _ (List.getElem_mem (show i < xs.length by omega)); have hys := hb.sm _ (List.getElem_mem (show i < ys.length by omega)); have hsum : IntKind.i64.wrap (xs[i] + ys[i]) = (su xs ys kb)[i] := by rw [hsg, wrap_i64 _ (by unfold Sm at hxs hys; omega)]
  have hwi : IntKind.i64.wrap ((i : Int) + 1) = ((i + 1 : Nat) : Int) := iw hi (by omega); have hyi : idx [(mk n kb ys).Add.a0, (mk n kb ys).Add.a1, (mk n kb ys).Add.a2, (mk n kb ys).Add.a3] (i : Int) = some ys[i] := by
   have := qe0 (l := ys.take kb) (i := i) (by omega); rw [q1g (by rw [List.length_take]; omega), List.getElem_take] at this; exact this
  unfold qr4; dsimp only; rw [if_pos (by rw [ql3]; simp; omega), hwi]
  by_cases hik : i < k
  ·
   rw [if_pos (by rw [ql3]; simp; omega)]; have hxi : idx [(mk F k xs).Add.a0, (mk F k xs).Add.a1, (mk F k xs).Add.a2, (mk F k xs).Add.a3] (i : Int) = some xs[i] := by
    have := qe0 (l := xs.take k) (i := i) (by omega); rw [q1g (by rw [List.length_take]; omega), List.getElem_take] at this; exact this
   rw [hxi]; refine Ok.guard (by omega) (Ok.bind (Ok.some (Ok.guard (by omega) ?_))); rw [hyi]; refine Ok.bind (Ok.some (Ok.guard (by omega) (Ok.bind (Ok.some (Ok.bind (Ok.some (Ok.bind (Ok.some (Ok.bind (Ok.some (hr _ ?_))))))))))); have hlt : (((su xs ys kb).take i).take k).length = i := by rw [List.length_take, List.length_take]; omega
   have hps := z3j (l := ((su xs ys kb).take i).take k) (x := (su xs ys kb)[i]) (by omega); rw [hlt] at hps; rw [Int.toNat_natCast, hsum, hps]; have e1 : ((su xs ys kb).take (i + 1)).take k = ((su xs ys kb).take i).take k ++ [(su xs ys kb)[i]] := by
    rw [List.take_of_length_le (l := (su xs ys kb).take (i + 1)) (by rw [List.length_take]; omega), List.take_of_length_le (l := (su xs ys kb).take i) (by rw [List.length_take]; omega), snoc his]
   have e2 : ((su xs ys kb).take (i + 1)).drop k = ((su xs ys kb).take i).drop k := by
    rw [List.drop_of_length_le (by rw [List.length_take]; omega), List.drop_of_length_le (by rw [List.length_take]; omega)]
   rw [e1, e2]
   congr 1
   omega
  ·
   rw [if_neg (by rw [ql3]; simp; omega)]; have hwk : IntKind.i64.wrap ((i : Int) - (mk F k xs).Keep) = ((i - k : Nat) : Int) := by rw [ql3, wrap_i64 _ (by omega)]; omega
   have hxi : idx [(mk F k xs).T.a0, (mk F k xs).T.a1, (mk F k xs).T.a2, (mk F k xs).T.a3] ((i - k : Nat) : Int) = some xs[i] := by
    have := qe0 (l := xs.drop k) (i := i - k) (by omega); rw [q1g (by rw [List.length_drop]; omega), List.getElem_drop] at this; rw [show xs[i] = xs[k + (i - k)]'(by omega) by congr 1; omega]; exact this
   rw [hwk, hxi]; refine Ok.guard (by omega) (Ok.bind (Ok.some (Ok.guard (by omega) ?_))); rw [hyi]; refine Ok.bind (Ok.some (Ok.guard (by omega) (Ok.bind (Ok.some (Ok.bind (Ok.some (Ok.bind (Ok.some (Ok.bind (Ok.some (hr _ ?_))))))))))); have hlt : (((su xs ys kb).take i).drop k).length = i - k := by rw [List.length_drop, List.length_take]; omega
   have hps := z3j (l := ((su xs ys kb).take i).drop k) (x := (su xs ys kb)[i]) (by omega); rw [hlt] at hps; rw [Int.toNat_natCast, hsum, hps]; have e1 : ((su xs ys kb).take (i + 1)).take k = ((su xs ys kb).take i).take k := by
    rw [List.take_take, List.take_take, Nat.min_eq_left (by omega), Nat.min_eq_left (by omega)]
   have e2 : ((su xs ys kb).take (i + 1)).drop k = ((su xs ys kb).take i).drop k ++ [(su xs ys kb)[i]] := by
    rw [snoc his, List.drop_append_of_le_length (by rw [List.length_take]; omega)]
   have e3 : IntKind.i64.wrap (((i - k : Nat) : Int) + 1) = ((i + 1 - k : Nat) : Int) := by rw [wrap_i64 _ (by omega)]; omega
   rw [e1, e2, e3]
 ·
  subst hI; unfold qr4; dsimp only; rw [if_neg (by rw [ql3]; simp)]; rw [List.length_replicate, show (su xs ys kb).take kb = su xs ys kb from List.take_of_length_le (by omega)]; unfold qr3; refine Ok.guard (by rw [z2t]; omega) ?_; have hdl : (ys.drop kb).length = ys.length - kb := List.length_drop; have hinit2 : (⟨F, ((min k kb : Nat) : Int), ((kb - k : Nat) : Int), pad ((su xs ys kb).take k), pad ((su xs ys kb).drop k)⟩ : GHop) = ⟨F, ((min k kb : Nat) : Int), ((kb - k + 0 : Nat) : Int), pad ((su xs ys kb).take k), pad ((su xs ys kb).drop k ++ (ys.drop kb).take 0)⟩ := by simp
  rw [hinit2]; refine q3k (l := ys.drop kb) (by omega) (fun i (b : GHop) => (i, b)) (fun p => p.1) (fun _ _ => rfl)
   (fun j b => b = ⟨F, ((min k kb : Nat) : Int), ((kb - k + j : Nat) : Int), pad ((su xs ys kb).take k), pad ((su xs ys kb).drop k ++ (ys.drop kb).take j)⟩) 0 (fun rec' j hj b _ hI hr => ?_) (fun rec' b hI => ?_) rfl (Nat.zero_le _)
  ·
   subst hI; have hwj : IntKind.i64.wrap ((j : Int) + 1) = ((j + 1 : Nat) : Int) := iw hj (by omega); unfold qr5; dsimp only; rw [if_pos (by rw [z2t]; simp; omega), hwj]; refine Ok.guard (by rw [z2t]; omega) ?_; have hyj : idx [(mk n kb ys).T.a0, (mk n kb ys).T.a1, (mk n kb ys).T.a2, (mk n kb ys).T.a3] (j : Int) = some (ys.drop kb)[j] := by
    have := qe0 (l := ys.drop kb) (i := j) (by omega); rw [q1g hj] at this; exact this
   rw [hyj]; refine Ok.bind (Ok.some (Ok.guard (by omega) (Ok.bind (Ok.some (Ok.bind (Ok.some (Ok.bind (Ok.some (Ok.bind (Ok.some (hr _ ?_))))))))))); have hlt : ((su xs ys kb).drop k ++ (ys.drop kb).take j).length = kb - k + j := by rw [List.length_append, List.length_drop, List.length_take]; omega
   have hps := z3j (l := (su xs ys kb).drop k ++ (ys.drop kb).take j) (x := (ys.drop kb)[j]) (by omega); rw [hlt] at hps; have e3 : IntKind.i64.wrap (((kb - k + j : Nat) : Int) + 1) = ((kb - k + (j + 1) : Nat) : Int) := by rw [wrap_i64 _ (by omega)]; omega
   rw [Int.toNat_natCast, hps, e3, snoc hj, List.append_assoc]
  ·
   subst hI; unfold qr5; dsimp only; rw [if_neg (by rw [z2t]; simp), List.take_length]; unfold qr2; have hfin : (⟨F, ((min k kb : Nat) : Int), ((kb - k + (ys.drop kb).length : Nat) : Int), pad ((su xs ys kb).take k), pad ((su xs ys kb).drop k ++ ys.drop kb)⟩ : GHop) = mk F (min k kb) (th xs ys kb) := by
    unfold mk th; have e1 : (su xs ys kb ++ ys.drop kb).take (min k kb) = (su xs ys kb).take k := by
     rw [List.take_append_of_le_length (by omega)]; rcases Nat.le_total k kb with h | h
     · rw [Nat.min_eq_left h]
     · rw [Nat.min_eq_right h, List.take_of_length_le (by omega), List.take_of_length_le (by omega)]
    have e2 : (su xs ys kb ++ ys.drop kb).drop (min k kb) = (su xs ys kb).drop k ++ ys.drop kb := by
     rw [List.drop_append_of_le_length (by omega)]; rcases Nat.le_total k kb with h | h
     · rw [Nat.min_eq_left h]
     · rw [Nat.min_eq_right h, show (su xs ys kb).drop kb = [] from List.drop_of_length_le (by omega), show (su xs ys kb).drop k = [] from List.drop_of_length_le (by omega)]
    rw [e1, e2, List.length_append, hsl]
    congr 1
    omega
   rw [hfin]; have htl : (th xs ys kb).length = ys.length := by unfold th; rw [List.length_append, hsl, hdl]; omega
   rw [Right_eq (by omega) (by omega)]; refine Ok.bind (Ok.some ?_)
   by_cases hR : Rh F (min k kb) (th xs ys kb)
   · rw [if_neg (by simp [hR]), if_pos hR]; exact Ok.some rfl
   · rw [if_pos (by simp [hR]), if_neg hR]; exact Ok.some rfl
end HP
end Go.Proofs.YtlpfoonihpdekaaGreat
