/-
  The law in plain words: what its plain function gives is true. No condition beyond those that each theorem names.
-/
import Derived.Test.YtlpfoonihpdekaaGreatWalkWF0
import Derived.Test.YtlpfoonihpdekaaGreatP10b
set_option linter.unusedSimpArgs false
set_option linter.unusedVariables false
set_option linter.unusedSectionVars false
namespace Go.Proofs.YtlpfoonihpdekaaGreat
open Go Go.RowKit VA
namespace HP
open Classical
def qm8 (d : Nat) (kind : Int) : Hp :=
 if kind = 10 then (d, List.replicate (d + 1) 0) else if kind = 11 then (d - 1, List.replicate (d - 1) 0) else if kind = 12 then (d, List.replicate (d - 1) 0 ++ [1]) else (d, List.replicate d 0)
def thp (h s : Hp) : Hp := (min h.1 s.1, th h.2 s.2 s.1)
theorem Wit.mono {N : Nat} {lev : Nat → Nat} {row row' : List (List Hp)} {p : Hp} (hc : covRow row row') (h : Wit N lev row p) : Wit N lev row' p := by
 obtain ⟨us, h1, h2, h3⟩ := h; exact ⟨us, h1, h2, fun j hj => ⟨(h3 j hj).1, (h3 j hj).2.1, hc _ _ (h3 j hj).2.2⟩⟩
theorem l4 {l : List Int} (h : l.length = 4) : ∃ a b c e, l = [a, b, c, e] := by
 match l, h with
 | [a, b, c, e], _ => exact ⟨a, b, c, e, rfl⟩
theorem l3 {l : List Int} (h : l.length = 3) : ∃ a b c, l = [a, b, c] := by
 match l, h with
 | [a, b, c], _ => exact ⟨a, b, c, rfl⟩
section
variable {F : Int} {N : Nat} {lev : Nat → Nat} {row0 : List (List Hp)} (R : Row F N lev row0) {u : Nat} (hu : u < N) {h : Hp} (hh : h ∈ p9 row0 u) {kind : Int} (hk11 : kind = 11 → 2 ≤ lev u) (hk12 : kind = 12 → 2 ≤ lev u) (hl4 : ∀ v, lev v ≤ 4) (hl1 : 1 ≤ lev u)
include R hh hk12 hk11 hl1
theorem j0b : (thp h (qm8 (lev u) kind)).2.getD 0 0 = 0 := by
 obtain ⟨hr, hn⟩ := R.rp u h hh; have h0 := R.c0 u h hh; obtain ⟨k, xs⟩ := h; dsimp only at hr hn h0
 match xs, hn, h0 with
 | x :: xs, hn, h0 =>
  have hx : x = 0 := by simpa using h0
  subst hx; unfold thp th su qm8
  by_cases h10 : kind = 10
  · rw [if_pos h10]; obtain ⟨d, hd⟩ : ∃ d, lev u = d + 1 := ⟨lev u - 1, by omega⟩; rw [hd]; simp [List.replicate_succ]
  ·
   rw [if_neg h10]
   by_cases h11 : kind = 11
   · rw [if_pos h11]; obtain ⟨d, hd⟩ : ∃ d, lev u = d + 2 := ⟨lev u - 2, by have := hk11 h11; omega⟩; rw [hd]; simp [List.replicate_succ]
   ·
    rw [if_neg h11]
    by_cases h12 : kind = 12
    · rw [if_pos h12]; obtain ⟨d, hd⟩ : ∃ d, lev u = d + 2 := ⟨lev u - 2, by have := hk12 h12; omega⟩; rw [hd]; simp [List.replicate_succ]
    · rw [if_neg h12]; obtain ⟨d, hd⟩ : ∃ d, lev u = d + 1 := ⟨lev u - 1, by omega⟩; rw [hd]; simp [List.replicate_succ]
include hu hl4
theorem zs2 {row : List (List Hp)} (hc : covRow row0 row) (h4 : (qm8 (lev u) kind).2.length = 4) : Wit N lev row (thp h (qm8 (lev u) kind)) := by
 obtain ⟨hr, hn⟩ := R.rp u h hh; have hkl := hr.kl; have hlu := hl4 u; unfold qm8 at h4 ⊢
 by_cases h10 : kind = 10
 ·
  rw [if_pos h10] at h4 ⊢; have hd : lev u = 3 := by simpa using h4
  rw [hd] at hn ⊢; obtain ⟨k, xs⟩ := h; obtain ⟨a, b, c, rfl⟩ := l3 hn; exact ⟨[], by simp, by simp [thp, th, su, List.replicate], fun j hj => by simp at hj⟩
 ·
  rw [if_neg h10] at h4 ⊢
  by_cases h11 : kind = 11
  · rw [if_pos h11] at h4; simp at h4; omega
  ·
   rw [if_neg h11] at h4 ⊢
   by_cases h12 : kind = 12
   ·
    rw [if_pos h12] at h4 ⊢; have hd : lev u = 4 := by simp at h4; omega
    have hW := R.wi u hd h hh; have han := R.an u; rw [hd] at hn ⊢; obtain ⟨us, w1, w2, w3⟩ := hW; obtain ⟨k, xs⟩ := h; obtain ⟨a, b, c, e, rfl⟩ := l4 hn; dsimp only at hkl; have he : (us.length : Int) = e := by simpa using w2
    have hx : thp (k, [a, b, c, e]) (4, List.replicate (4 - 1) 0 ++ [1]) = (k, [a, b, c, e + 1]) := by
     have : min k 4 = k := Nat.min_eq_left (by simpa using hkl); simp [thp, th, su, List.replicate, this]
    rw [hx]; have hnot : u ∉ us := fun hm => by
     obtain ⟨j, hj, rfl⟩ := List.mem_iff_getElem.1 hm; obtain ⟨y, hy, hyle⟩ := (w3 j hj).2.2; have hset : ([a, b, c, e] : List Int).set 3 (j : Int) = [a, b, c, (j : Int)] := rfl; dsimp only at hyle; rw [hset] at hyle; have hyn := (R.rp _ y hy).2; have h1 : hle y (k, [a, b, c, e]) := ⟨hyle.1, fun i hi hi' => by
      have hle4 := hyle.2 i hi (by simpa using hi'); have hi4 : i < 4 := by simpa using hi'
      rcases (by omega : i = 0 ∨ i = 1 ∨ i = 2 ∨ i = 3) with rfl | rfl | rfl | rfl
      · exact hle4
      · exact hle4
      · exact hle4
      ·
       have : y.2[3] ≤ (j : Int) := hle4
       show y.2[3] ≤ e
       omega⟩
     have h2 := zb1 han hy hh h1; subst h2; have : e ≤ (j : Int) := hyle.2 3 (by simp) (by simp); omega
    refine ⟨us ++ [u], ?_, ?_, fun j hj => ?_⟩
    · rw [List.nodup_append]; exact ⟨w1, by simp, fun x hx y hy => by rw [List.mem_singleton] at hy; subst hy; exact fun e => hnot (e ▸ hx)⟩
    ·
     simp only [List.length_append, List.length_singleton]
     show ((us.length + 1 : Nat) : Int) = e + 1
     omega
    ·
     rcases Nat.lt_or_ge j us.length with hlt | hge
     · rw [List.getElem_append_left hlt]; obtain ⟨b1, b2, b3⟩ := w3 j hlt; exact ⟨b1, b2, hc _ _ b3⟩
     ·
      have hj' : j = us.length := by simp at hj; omega
      subst hj'; rw [List.getElem_append_right (Nat.le_refl _)]; simp only [Nat.sub_self, List.getElem_cons_zero]; refine ⟨hu, hd, hc _ _ ⟨_, hh, ?_⟩⟩; have hset : ([a, b, c, e + 1] : List Int).set 3 ((us.length : Nat) : Int) = [a, b, c, e] := by rw [he]; rfl
      show hle _ (k, ([a, b, c, e + 1] : List Int).set 3 ((us.length : Nat) : Int))
      rw [hset]; exact q92 _
   ·
    rw [if_neg h12] at h4 ⊢; have hd : lev u = 4 := by simpa using h4
    have hW := R.wi u hd h hh; rw [hd] at hn ⊢; obtain ⟨k, xs⟩ := h; obtain ⟨a, b, c, e, rfl⟩ := l4 hn; have hx : thp (k, [a, b, c, e]) (4, List.replicate 4 0) = (k, [a, b, c, e]) := by
     have : min k 4 = k := Nat.min_eq_left (by simpa using hkl); simp [thp, th, su, List.replicate, this]
    rw [hx]; exact hW.mono hc
end
theorem q9z {row : List (List Hp)} {v w : Nat} {L : List Hp} (hv : v < row.length) : p9 (row.set v L) w = if w = v then L else p9 row w := by
 unfold p9; rw [List.getD_eq_getElem?_getD, List.getD_eq_getElem?_getD]
 by_cases h : w = v
 · subst h; rw [if_pos rfl, List.getElem?_set_self hv]; rfl
 · rw [if_neg h, List.getElem?_set_ne (fun e => h e.symm)]
theorem Row.put {F : Int} {N : Nat} {lev : Nat → Nat} {row : List (List Hp)} (R : Row F N lev row) {v : Nat} (hv : v < N) {x : Hp} (hx : Rp F (lev v) x) (h0 : x.2.getD 0 0 = 0)
  (hw : lev v = 4 → ∀ row', covRow row row' → Wit N lev row' x) : Row F N lev (row.set v (q8g (p9 row v) x).1) ∧ covRow row (row.set v (q8g (p9 row v) x).1) := by
 have hlen := R.len; have hv' : v < row.length := by omega
 have hcov : covRow row (row.set v (q8g (p9 row v) x).1) := fun u z hz => by
  rw [q9z hv']
  by_cases hu : u = v
  · subst hu; rw [if_pos rfl]; exact j4p (R.rp u) hx hz
  · rw [if_neg hu]; exact hz
 refine ⟨⟨by rw [List.length_set]; exact hlen, fun w p hp => ?_, fun w p hp => ?_, fun w => ?_, fun w h4 p hp => ?_⟩, hcov⟩
 ·
  rw [q9z hv'] at hp
  split at hp
  ·
   rename_i he; subst he
   rcases put_mem hp with hp | rfl
   · exact R.rp w p hp
   · exact hx
  · exact R.rp w p hp
 ·
  rw [q9z hv'] at hp
  split at hp
  ·
   rename_i he; subst he
   rcases put_mem hp with hp | rfl
   · exact R.c0 w p hp
   · exact h0
  · exact R.c0 w p hp
 ·
  rw [q9z hv']
  split
  · exact j22 (R.an v)
  · exact R.an w
 ·
  rw [q9z hv'] at hp
  split at hp
  ·
   rename_i he; subst he
   rcases put_mem hp with hp | rfl
   · exact (R.wi w h4 p hp).mono hcov
   · exact hw h4 _ hcov
  · exact (R.wi w h4 p hp).mono hcov
end HP
end Go.Proofs.YtlpfoonihpdekaaGreat
