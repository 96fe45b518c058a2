/-
  The law in plain words: what its plain function gives is true. No condition beyond those that each theorem names.
-/
import Derived.Test.YtaiccbgcgcfhfaaGreatWalkWL1
import Derived.Test.YtaiccbgcgcfhfaaGreatLibD
set_option linter.unusedSimpArgs false
set_option linter.unusedVariables false
set_option linter.unusedSectionVars false
open List renaming length_append -> Xa, take_succ_eq_append_getElem -> Xb, flatMap_append -> Xd
open Int renaming ediv_le_self -> Xc
namespace Go.Proofs.YtaiccbgcgcfhfaaGreat
open Go Go.RowKit
namespace WH
def okSizes (size step : Int) : Prop := 1 <= size /\ size <= 1024 /\ 1 <= step /\ step <= 1024
def first (e size step : Int) : Int := if e < size then 0 else (e - size) / step + 1
def wins (f : GFeed) (size step : Int) : List GFeed := (List.range (f.Epoch / step + 1 - first f.Epoch size step).toNat).map fun j : Nat => ⟨f.Node, first f.Epoch size step + j, f.Rec⟩
theorem j4a (a b : Int) : q5k [a, b] = some (decide (1 <= a /\ a <= 1024) && decide (1 <= b /\ b <= 1024)) := by
 have h : q3x [a, b] (fun x0_ => q4g x0_) = some ([a, b].any fun n => decide (n < 1) || decide (1024 < n)) := by
  show q7f _ _ = _
  exact q4f (by simp) (fun x _ => by simp [q4g])
 unfold q5k; rw [h]; simp only [q9, Option.bind_some]
 congr 1
 simp only [List.any_cons, List.any_nil, Bool.or_false]
 by_cases h1 : 1 <= a <;> by_cases h2 : a <= 1024 <;> by_cases h3 : 1 <= b <;> by_cases h4 : b <= 1024 <;> simp [h1, h2, h3, h4] <;> omega
theorem zt2 (l : List GFeed) (hl : l.length < 9223372036854775808) : q2l l (fun x0_ => q6l x0_) = some (l.any fun f => !(decide (0 <= f.Epoch) && decide (f.Epoch <= 1048576))) := by
 show q7f _ _ = _
 exact q4f hl (fun x _ => by simp [q6l, q7x, q9])
theorem j58 {e size step : Int} (he : 0 <= e /\ e <= 1048576) (hs : okSizes size step) : q9y e size step = some (first e size step) := by
 obtain ⟨h1, h2, h3, h4⟩ := hs; refine Ok.eq ?_; unfold q9y first
 refine jl0 (fun hc => ?_) (fun hc => ?_)
 . simp only [decide_eq_true_eq] at hc; exact Ok.some (by rw [if_pos hc])
 . simp only [decide_eq_false_iff_not] at hc; refine Ok.guard (by omega) (Ok.some ?_); rw [if_neg hc, wrap_i64 (e - size) (by omega), Int.tdiv_eq_ediv_of_nonneg (by omega)]; have hq : 0 <= (e - size) / step := Int.ediv_nonneg (by omega) (by omega); have hq2 : (e - size) / step <= e - size := Xc _ (by omega); rw [wrap_i64 ((e - size) / step) (by omega), wrap_i64 ((e - size) / step + 1) (by omega)]
theorem zs9 {e size step : Int} (he : 0 <= e /\ e <= 1048576) (hs : okSizes size step) : 0 <= first e size step /\ first e size step <= 1048577 := by
 obtain ⟨h1, h2, h3, h4⟩ := hs; unfold first
 split
 . omega
 . have hq : 0 <= (e - size) / step := Int.ediv_nonneg (by omega) (by omega); have hq2 : (e - size) / step <= e - size := Xc _ (by omega); omega
theorem inner {R : (List GFeed) × Int -> Prop} {f : GFeed} {size step t : Int} {rec : Int × (List GFeed) -> Option ((List GFeed) × Int)} {a : List GFeed} (he : 0 <= f.Epoch /\ f.Epoch <= 1048576) (hs : okSizes size step) (ha : a.length <= 65536)
  (hfull : 65536 < (a ++ wins f size step).length -> R ([], 9)) (hnext : (a ++ wins f size step).length <= 65536 -> Ok (rec (IntKind.i64.wrap (t + 1), a ++ wins f size step)) R) :
  Ok (q04 (q9u step t rec f) rounds (first f.Epoch size step, a, f)) R := by
 obtain ⟨h1, h2, h3, h4⟩ := hs; have hfb := zs9 he ⟨h1, h2, h3, h4⟩
 let n := (f.Epoch / step + 1 - first f.Epoch size step).toNat
 have hdiv : f.Epoch / step <= f.Epoch := Xc _ (by omega); refine jl2 (fun s => ∃ j : Nat, j <= n /\ s.1 = first f.Epoch size step + j /\ s.2.1 = a ++ (wins f size step).take j /\ s.2.1.length <= 65536 /\ s.2.2.Node = f.Node /\ s.2.2.Rec = f.Rec)
  (fun s => (first f.Epoch size step + n - s.1).toNat) ?_ ⟨0, Nat.zero_le _, by simp, by simp, ha, rfl, rfl⟩ (by simp only [rounds]; omega)
 rintro rec2 ⟨w, a', b⟩ ⟨j, hj, hw, ha', hl', hb1, hb2⟩ hr; simp only at hw ha' hl' hb1 hb2; have hwl : (wins f size step).length = n := by simp [wins, n]
 have hw0 : 0 <= w /\ w <= 2097154 := by omega
 have hws : w * step <= 2097154 * 1024 /\ 0 <= w * step := ⟨Int.mul_le_mul hw0.2 h4 (by omega) (by omega), Int.mul_nonneg hw0.1 (by omega)⟩; unfold q9u; simp only; rw [wrap_i64 (w * step) (by omega)]; have hle : w * step <= f.Epoch ↔ w <= f.Epoch / step := (Int.le_ediv_iff_mul_le (by omega)).symm; refine jl0 (fun hc => ?_) (fun hc => ?_)
 .
  simp only [decide_eq_true_eq] at hc; have hjn : j < n := by
   have := hle.1 hc; simp only [n]; omega
  refine jl0 (fun hf => Ok.some (hfull ?_)) (fun hf => ?_)
  .
   have hf' : a'.length = 65536 := by simp at hf; omega
   have := congrArg List.length ha'; rw [Xa, List.length_take] at this; rw [Xa]; omega
  have hne : a'.length ≠ 65536 := by
   simp only [beq_eq_false_iff_ne, ne_eq] at hf; omega
  refine Ok.guard (by simp; omega) ?_; have hg : (wins f size step)[j]'(by omega) = ⟨b.Node, w, b.Rec⟩ := by
   simp only [wins, List.getElem_map, List.getElem_range, hb1, hb2, hw]
  rw [wrap_i64 (w + 1) (by omega)]; refine hr _ ⟨j + 1, by omega, by simp only; omega, ?_, ?_, hb1, hb2⟩ (by simp only; omega)
  . simp only; rw [ha', Xb (by omega), hg, List.append_assoc]
  . simp only [Xa, List.length_singleton]; omega
 .
  simp only [decide_eq_false_iff_not] at hc; have hjn : j = n := by
   have : ¬ w <= f.Epoch / step := fun hx => hc (hle.2 hx); simp only [n] at hj ⊢; omega
  have hfin : a' = a ++ wins f size step := by
   rw [ha', List.take_of_length_le (by omega)]
  rw [hfin] at hl' ⊢; exact hnext hl'
def Slid (l : List GFeed) (size step : Int) (r : (List GFeed) × Int) : Prop :=
 (r.1 = [] /\ r.2 = 1 /\ ¬ (okSizes size step /\ ∀ f ∈ l, 0 <= f.Epoch /\ f.Epoch <= 1048576)) \/ ((okSizes size step /\ ∀ f ∈ l, 0 <= f.Epoch /\ f.Epoch <= 1048576) /\ ((r.1 = [] /\ r.2 = 9 /\ 65536 < (l.flatMap fun f => wins f size step).length) \/ (r.2 = 0 /\ r.1 = (l.flatMap fun f => wins f size step) /\ r.1.length <= 65536)))
theorem j62 (l : List GFeed) (size step : Int) (hl : l.length < 9223372036854775808) : Ok (q7y l size step) (Slid l size step) := by
 unfold q7y; refine Ok.bind (jl3 (j4a size step) ?_); refine jl0 (fun hc => ?_) (fun hc => Ok.some (.inl ⟨rfl, rfl, fun h => ?_⟩))
 .
  simp only [Bool.and_eq_true, decide_eq_true_eq] at hc; have hs : okSizes size step := ⟨hc.1.1, hc.1.2, hc.2.1, hc.2.2⟩; refine Ok.bind (jl3 (zt2 l hl) ?_); refine jl0 (fun hb => Ok.some (.inl ⟨rfl, rfl, fun h => ?_⟩)) (fun hb => ?_)
  . obtain ⟨f, hf, hx⟩ := List.any_eq_true.1 hb; have := h.2 f hf; simp [this.1, this.2] at hx
  .
   have hall : ∀ f ∈ l, 0 <= f.Epoch /\ f.Epoch <= 1048576 := fun f hf => by
    have := List.any_eq_false.1 hb f hf
    simpa using this
   refine jl2 (fun s => ∃ i : Nat, i <= l.length /\ s.1 = (i : Int) /\ s.2 = ((l.take i).flatMap fun f => wins f size step) /\ s.2.length <= 65536) (fun s => l.length - s.1.toNat) ?_ ⟨0, Nat.zero_le _, rfl, by simp, by simp⟩ (by simp [rounds]; omega); rintro rec ⟨t, a⟩ ⟨i, hi, ht, ha, hla⟩ hr; simp only at ht ha hla; subst ht; unfold qm0; simp only; refine jl0 (fun hc => ?_) (fun hc => ?_)
   .
    simp only [decide_eq_true_eq] at hc; have hlt : i < l.length := by omega
    refine Ok.bind (jl1 hlt ?_); have he := hall _ (List.getElem_mem hlt); refine Ok.bind (jl3 (j58 he hs) ?_); have htk : (l.take (i + 1)).flatMap (fun f => wins f size step) = a ++ wins l[i] size step := by
     rw [Xb hlt, Xd, ha]; simp
    refine inner he hs hla (fun hbig => .inr ⟨⟨hs, hall⟩, .inl ⟨rfl, rfl, ?_⟩⟩) (fun hsm => ?_)
    .
     rw [<- htk] at hbig; have : l.flatMap (fun f => wins f size step) = (l.take (i + 1)).flatMap (fun f => wins f size step) ++ (l.drop (i + 1)).flatMap (fun f => wins f size step) := by
      rw [<- Xd, List.take_append_drop]
     rw [this, Xa]; omega
    .
     have hw : IntKind.i64.wrap ((i : Int) + 1) = ((i + 1 : Nat) : Int) := by rw [wrap_i64 _ (by omega)]; omega
     rw [hw]; exact hr _ ⟨i + 1, by omega, rfl, htk.symm, hsm⟩ (by simp only [Int.toNat_natCast]; omega)
   .
    simp only [decide_eq_false_iff_not] at hc; have : i = l.length := by omega
    subst this; rw [List.take_length] at ha; exact Ok.some (.inr ⟨⟨hs, hall⟩, .inr ⟨rfl, ha, hla⟩⟩)
 . obtain ⟨⟨h1, h2, h3, h4⟩, _⟩ := h; simp [h1, h2, h3, h4] at hc
theorem wins_tumbled {f : GFeed} {size : Int} (he : 0 <= f.Epoch /\ f.Epoch <= 1048576) (hs : okSizes size size) : (wins f size size).length = 1 := by
 obtain ⟨h1, h2, h3, h4⟩ := hs; simp only [wins, List.length_map, List.length_range]; unfold first
 split
 .
  rename_i hlt
  rw [Int.ediv_eq_zero_of_lt he.1 hlt]; rfl
 . rw [Int.sub_ediv_of_dvd _ (Int.dvd_refl _), Int.ediv_self (by omega)]; omega
theorem Tumble_ok (l : List GFeed) (size : Int) (hl : l.length < 9223372036854775808) : Ok (q77 l size) (Slid l size size) := by
 unfold q77; exact jk9 (j62 l size size hl) fun a ha => Ok.some ha
theorem awake_ok : q7c = some true := by kernel_rfl
end WH
end Go.Proofs.YtaiccbgcgcfhfaaGreat
