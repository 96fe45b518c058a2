/-
  The law in plain words: what its plain function gives is true. No condition beyond those that each theorem names.
-/
import Derived.Test.YtghbgjnmccjhdaaGreatWalkWN0
import Derived.Test.YtghbgjnmccjhdaaGreatP10h
import Derived.Test.YtghbgjnmccjhdaaGreatP16g
set_option linter.unusedSimpArgs false
set_option linter.unusedVariables false
set_option linter.unusedSectionVars false
namespace Go.Proofs.YtghbgjnmccjhdaaGreat
open Go Go.RowKit TS VA
namespace UN
open Classical
theorem j33 {t : GTime} (ht : ok t) : HP.tm (lst t) = t := by
 unfold HP.tm; rw [HP.pad_lst ht, HP.lst_len ht]
theorem zg7 : ∀ (l : List Int) (n : Nat), l.length ≤ n → List.zipWith (· + ·) l (List.replicate n 0) = l
 | [], _, _ => by simp
 | x :: l, 0, h => by simp at h
 | x :: l, n + 1, h => by rw [List.replicate_succ, List.zipWith_cons_cons, zg7 l n (by simpa using h)]; simp
theorem j0y {l : List Int} {d : Nat} (h : l.length = d) : HP.th l (List.replicate d 0) d = l := by
 unfold HP.th HP.su; rw [List.take_of_length_le (by omega), List.take_of_length_le (by simp), zg7 l d (by omega), List.drop_of_length_le (by simp), List.append_nil]
theorem zs1 {l : List Int} {d : Nat} (h : l.length = d) : HP.th l (List.replicate (d + 1) 0) d = l ++ [0] := by
 unfold HP.th HP.su; rw [List.take_of_length_le (by omega), List.take_replicate, List.drop_replicate, Nat.min_eq_left (by omega), zg7 l d (by omega), show d + 1 - d = 1 by omega]; rfl
theorem zr9 {l : List Int} {d : Nat} (h : l.length = d) : HP.th l (List.replicate (d - 1) 0) (d - 1) = l.take (d - 1) := by
 unfold HP.th HP.su; rw [List.take_of_length_le (l := List.replicate (d - 1) 0) (by simp), zg7 _ _ (by rw [List.length_take]; omega), List.drop_of_length_le (by simp), List.append_nil]
theorem zu6 {l : List Int} : HP.pad (l ++ [0]) = HP.pad l := by
 have : ∀ i, (l ++ [0]).getD i 0 = l.getD i 0 := fun i => by
  rw [List.getD_eq_getElem?_getD, List.getD_eq_getElem?_getD]; rcases Nat.lt_trichotomy i l.length with h | h | h
  · rw [List.getElem?_append_left h]
  · subst h; rw [List.getElem?_append_right (Nat.le_refl _), List.getElem?_eq_none (Nat.le_refl _)]; simp
  · rw [List.getElem?_eq_none (by simp; omega), List.getElem?_eq_none (by omega)]
 unfold HP.pad; rw [this, this, this, this]
theorem zy6 {t : GTime} (ht : ok t) {d : Nat} (hd : t.D = (d : Int)) : Ok (qm9 t) fun v => v.2 = true → v.1 = HP.tm (HP.th (lst t) (List.replicate (d + 1) 0) d) ∧ ok v.1 := by
 have hl := HP.lst_len ht; have h1 := ht.1; have h4 := ht.2.1; unfold qm9; rw [TS.Right_eq]; refine Ok.bind (Ok.some (j6k (fun _ => Ok.some fun h => by cases h) (fun hx => Ok.some fun _ => ?_))); have hne : t.D ≠ 4 := by simp [ht] at hx; exact hx
 have hw : IntKind.i64.wrap (t.D + 1) = ((d + 1 : Nat) : Int) := by rw [wrap_i64 _ (by omega)]; omega
 have he : (⟨IntKind.i64.wrap (t.D + 1), t.C⟩ : GTime) = HP.tm (HP.th (lst t) (List.replicate (d + 1) 0) d) := by
  rw [zs1 (by omega)]; unfold HP.tm; rw [zu6, HP.pad_lst ht, hw, List.length_append, List.length_singleton]
  congr 1; omega
 refine ⟨he, ?_⟩; rw [hw]; unfold ok at ht ⊢; obtain ⟨a, b, c, e, f, g⟩ := ht; dsimp only; refine ⟨by omega, by omega, c, ⟨e.1, ?_⟩, ⟨f.1, ?_⟩, ⟨g.1, ?_⟩⟩
 · have := e.2; split at this <;> split <;> omega
 · have := f.2; split at this <;> split <;> omega
 · have := g.2; split at this <;> split <;> omega
theorem zy3 {t : GTime} (ht : ok t) {d : Nat} (hd : t.D = (d : Int)) : Ok (qm8 t) fun v => v.2 = true → v.1 = HP.tm (HP.th (lst t) (List.replicate (d - 1) 0) (d - 1)) ∧ ok v.1 := by
 have hl := HP.lst_len ht; have hD := ok_D ht; unfold qm8; rw [TS.Right_eq]; refine Ok.bind (Ok.some (j6k (fun _ => Ok.some fun h => by cases h) (fun hx => ?_))); have hne : t.D ≠ 1 := by simp [ht] at hx; exact hx
 have hw : IntKind.i64.wrap (t.D - 1) = ((d - 1 : Nat) : Int) := by rw [wrap_i64 _ (by omega)]; omega
 rw [hw]; refine Ok.guard (by omega) (Ok.bind (Ok.some (Ok.bind (Ok.some (Ok.bind (Ok.some (Ok.bind (Ok.some (Ok.some fun _ => ?_))))))))); rw [zr9 (by omega), Int.toNat_natCast]; obtain ⟨D, ⟨a0, a1, a2, a3⟩⟩ := t; dsimp only at hd hD hne; unfold ok at ht ⊢; dsimp only at ht ⊢; rcases hD with rfl | rfl | rfl | rfl
 · exact absurd rfl hne
 ·
  obtain rfl : d = 2 := by omega
  simp only [Int.reduceLT, if_false, if_true] at ht; obtain ⟨rfl, rfl⟩ : a2 = 0 ∧ a3 = 0 := by omega
  exact ⟨rfl, by simp, by simp, ht.2.2.1, by simp, by simp, by simp⟩
 ·
  obtain rfl : d = 3 := by omega
  simp only [Int.reduceLT, if_false, if_true] at ht; obtain rfl : a3 = 0 := by omega
  refine ⟨rfl, by simp, by simp, ht.2.2.1, ?_, by simp, by simp⟩
  simpa using ht.2.2.2.1
 ·
  obtain rfl : d = 4 := by omega
  simp only [Int.reduceLT, if_false, if_true] at ht; refine ⟨rfl, by simp, by simp, ht.2.2.1, ?_, ?_, by simp⟩
  · simpa using ht.2.2.2.1
  · simpa using ht.2.2.2.2.1
theorem j2h {t : GTime} (ht : ok t) {d : Nat} (hd : t.D = (d : Int)) : Ok (qs5 t) fun v => v.2 = true → v.1 = HP.tm (HP.th (lst t) (List.replicate (d - 1) 0 ++ [1]) d) ∧ ok v.1 := by
 have hl := HP.lst_len ht; have hD := ok_D ht; unfold qs5; rw [TS.Right_eq]; refine Ok.bind (Ok.some (j6k (fun _ => ?_) (fun hx => Ok.some fun h => by cases h))); have hw : IntKind.i64.wrap (t.D - 1) = ((d - 1 : Nat) : Int) := by rw [wrap_i64 _ (by omega)]; omega
 rw [hw]; obtain ⟨D, ⟨a0, a1, a2, a3⟩⟩ := t; dsimp only at hd hD; have hok := ht; unfold ok at ht; dsimp only at ht; unfold q7x; rcases hD with rfl | rfl | rfl | rfl
 ·
  obtain rfl : d = 1 := by omega
  simp only [Int.reduceLT, if_false] at ht; obtain ⟨rfl, rfl, rfl⟩ : a1 = 0 ∧ a2 = 0 ∧ a3 = 0 := by omega
  refine Ok.guard (by decide) (Ok.bind (j6o rfl (Ok.bind (j6o rfl (j6k (fun _ => Ok.some fun h => by cases h) (fun hx => Ok.guard (by decide) (Ok.bind (j6o rfl (Ok.guard (by decide) (Ok.bind (Ok.some (Ok.bind (Ok.some (Ok.bind (Ok.some (Ok.bind (Ok.some (Ok.some fun _ => ?_)))))))))))))))))); have hne : a0 ≠ 1048576 := by simpa using hx
  have hwa : IntKind.i64.wrap (a0 + 1) = a0 + 1 := wrap_i64 _ (by omega); refine ⟨?_, ?_⟩
  ·
   show (⟨1, ⟨IntKind.i64.wrap (a0 + 1), 0, 0, 0⟩⟩ : GTime) = ⟨1, ⟨a0 + 1, 0, 0, 0⟩⟩
   rw [hwa]
  ·
   show ok ⟨1, ⟨IntKind.i64.wrap (a0 + 1), 0, 0, 0⟩⟩
   rw [hwa]; unfold ok; dsimp only; exact ⟨by omega, by omega, by omega, by simp, by simp, by simp⟩
 ·
  obtain rfl : d = 2 := by omega
  simp only [Int.reduceLT, if_false, if_true] at ht; obtain ⟨rfl, rfl⟩ : a2 = 0 ∧ a3 = 0 := by omega
  refine Ok.guard (by decide) (Ok.bind (j6o rfl (Ok.bind (j6o rfl (j6k (fun _ => Ok.some fun h => by cases h) (fun hx => Ok.guard (by decide) (Ok.bind (j6o rfl (Ok.guard (by decide) (Ok.bind (Ok.some (Ok.bind (Ok.some (Ok.bind (Ok.some (Ok.bind (Ok.some (Ok.some fun _ => ?_)))))))))))))))))); have hne : a1 ≠ 64 := by simpa using hx
  have hwa : IntKind.i64.wrap (a1 + 1) = a1 + 1 := wrap_i64 _ (by omega); refine ⟨?_, ?_⟩
  ·
   show (⟨2, ⟨a0, IntKind.i64.wrap (a1 + 1), 0, 0⟩⟩ : GTime) = ⟨2, ⟨a0 + 0, a1 + 1, 0, 0⟩⟩
   rw [hwa, Int.add_zero]
  ·
   show ok ⟨2, ⟨a0, IntKind.i64.wrap (a1 + 1), 0, 0⟩⟩
   rw [hwa]; unfold ok; dsimp only; exact ⟨by omega, by omega, by omega, by simp; omega, by simp, by simp⟩
 ·
  obtain rfl : d = 3 := by omega
  simp only [Int.reduceLT, if_false, if_true] at ht; obtain rfl : a3 = 0 := by omega
  refine Ok.guard (by decide) (Ok.bind (j6o rfl (Ok.bind (j6o rfl (j6k (fun _ => Ok.some fun h => by cases h) (fun hx => Ok.guard (by decide) (Ok.bind (j6o rfl (Ok.guard (by decide) (Ok.bind (Ok.some (Ok.bind (Ok.some (Ok.bind (Ok.some (Ok.bind (Ok.some (Ok.some fun _ => ?_)))))))))))))))))); have hne : a2 ≠ 64 := by simpa using hx
  have hwa : IntKind.i64.wrap (a2 + 1) = a2 + 1 := wrap_i64 _ (by omega); refine ⟨?_, ?_⟩
  ·
   show (⟨3, ⟨a0, a1, IntKind.i64.wrap (a2 + 1), 0⟩⟩ : GTime) = ⟨3, ⟨a0 + 0, a1 + 0, a2 + 1, 0⟩⟩
   rw [hwa, Int.add_zero, Int.add_zero]
  ·
   show ok ⟨3, ⟨a0, a1, IntKind.i64.wrap (a2 + 1), 0⟩⟩
   rw [hwa]; unfold ok; dsimp only; exact ⟨by omega, by omega, by omega, by simp; omega, by simp; omega, by simp⟩
 ·
  obtain rfl : d = 4 := by omega
  simp only [Int.reduceLT, if_true] at ht; refine Ok.guard (by decide) (Ok.bind (j6o rfl (Ok.bind (j6o rfl (j6k (fun _ => Ok.some fun h => by cases h) (fun hx => Ok.guard (by decide) (Ok.bind (j6o rfl (Ok.guard (by decide) (Ok.bind (Ok.some (Ok.bind (Ok.some (Ok.bind (Ok.some (Ok.bind (Ok.some (Ok.some fun _ => ?_)))))))))))))))))); have hne : a3 ≠ 64 := by simpa using hx
  have hwa : IntKind.i64.wrap (a3 + 1) = a3 + 1 := wrap_i64 _ (by omega); refine ⟨?_, ?_⟩
  ·
   show (⟨4, ⟨a0, a1, a2, IntKind.i64.wrap (a3 + 1)⟩⟩ : GTime) = ⟨4, ⟨a0 + 0, a1 + 0, a2 + 0, a3 + 1⟩⟩
   rw [hwa, Int.add_zero, Int.add_zero, Int.add_zero]
  ·
   show ok ⟨4, ⟨a0, a1, a2, IntKind.i64.wrap (a3 + 1)⟩⟩
   rw [hwa]; unfold ok; dsimp only; exact ⟨by omega, by omega, by omega, by simp; omega, by simp; omega, by simp; omega⟩
theorem Gives_ok {g : GGraph} (hG : VA.Good g) {n : Nat} (hn : n < g.Nodes.length) {t : GTime} (ht : ok t) : Ok (qe1 g (n : Int) t) fun v => v.2 = true → t.D = (HP.lev g n : Int) ∧ ok v.1 ∧ ∀ e ∈ g.Edges, e.From.toNat = n → v.1 = HP.tm (HP.th (lst t) (HP.stepE g e).2 (HP.stepE g e).1) := by
 have hl := HP.lst_len ht; have hnl := hG.nl; unfold qe1; rw [if_neg (by simp; omega), TS.Right_eq]; refine Ok.bind (Ok.some (j6k (fun _ => ?_) (fun _ => Ok.some fun h => by cases h))); rw [HP.Takes_eq hG hn]; refine Ok.bind (Ok.some (j6k (fun _ => Ok.some fun h => by cases h) (fun hD => ?_))); have hD' : t.D = (HP.lev g n : Int) := by simpa using hD
 refine Ok.bind (j6l hn ?_); rw [qs2 hn]; have hsc := HP.node_in hG hn; refine j6k (fun h10 => ?_) (fun h10 => j6k (fun h11 => ?_) (fun h11 => j6k (fun h12 => ?_) (fun h12 => ?_)))
 ·
  have k : (nd g n).Kind = 10 := by simpa using h10
  refine j6j (zy6 ht hD') fun v hv => Ok.some fun h => ?_; obtain ⟨e1, e2⟩ := hv h; refine ⟨hD', e2, fun e _ he => ?_⟩; unfold HP.stepE HP.stepP; rw [he, if_pos k]; exact e1
 ·
  have k10 : (nd g n).Kind ≠ 10 := by simpa using h10
  have k : (nd g n).Kind = 11 := by simpa using h11
  refine j6j (zy3 ht hD') fun v hv => Ok.some fun h => ?_; obtain ⟨e1, e2⟩ := hv h; refine ⟨hD', e2, fun e _ he => ?_⟩; unfold HP.stepE HP.stepP; rw [he, if_neg k10, if_pos k]; exact e1
 ·
  have k10 : (nd g n).Kind ≠ 10 := by simpa using h10
  have k11 : (nd g n).Kind ≠ 11 := by simpa using h11
  have k : (nd g n).Kind = 12 := by simpa using h12
  have hbl := hG.bl; have h1 := ht.1; have h4 := ht.2.1; have hw : IntKind.i64.wrap (t.D - 1) = ((HP.lev g n - 1 : Nat) : Int) := by rw [wrap_i64 _ (by omega)]; omega
  rw [hw]; refine Ok.guard (by omega) (Ok.bind (j6l (show HP.lev g n - 1 < 4 by omega) ?_)); refine Ok.bind (Ok.idx' hsc.1 (by rw [hbl]; exact hsc.2.1) fun y _ => ?_); refine j6k (fun _ => Ok.some fun h => by cases h) (fun _ => ?_); refine j6j (j2h ht hD') fun v hv => Ok.some fun h => ?_; obtain ⟨e1, e2⟩ := hv h; refine ⟨hD', e2, fun e _ he => ?_⟩; unfold HP.stepE HP.stepP; rw [he, if_neg k10, if_neg k11, if_pos k]; exact e1
 ·
  have k10 : (nd g n).Kind ≠ 10 := by simpa using h10
  have k11 : (nd g n).Kind ≠ 11 := by simpa using h11
  have k12 : (nd g n).Kind ≠ 12 := by simpa using h12
  refine Ok.some fun _ => ⟨hD', ht, fun e _ he => ?_⟩; unfold HP.stepE HP.stepP; rw [he, if_neg k10, if_neg k11, if_neg k12]; dsimp only; rw [j0y (by omega), j33 ht]
end UN
end Go.Proofs.YtghbgjnmccjhdaaGreat
