/-
  The law in plain words: what its plain function gives is true. No condition beyond those that each theorem names.
-/
import Derived.Test.YtfjjpdjnpmajlaaWalkWR0
import Derived.Test.YtfjjpdjnpmajlaaLibD
set_option linter.unusedSimpArgs false
set_option linter.unusedVariables false
namespace Go.Proofs.Ytfjjpdjnpmajlaa
open Go Go.RowKit
namespace WH
def okSizes (size step : Int) : Prop := 1 ≤ size ∧ size ≤ 1024 ∧ 1 ≤ step ∧ step ≤ 1024
def first (e size step : Int) : Int := if e < size then 0 else (e - size) / step + 1
def wins (f : GFeed) (size step : Int) : List GFeed := (List.range (f.Epoch / step + 1 - first f.Epoch size step).toNat).map fun j : Nat => ⟨f.Node, first f.Epoch size step + j, f.Rec⟩
theorem sizes_eq (a b : Int) : f_window_sizes [a, b] = some (decide (1 ≤ a ∧ a ≤ 1024) && decide (1 ≤ b ∧ b ≤ 1024)) := by
  have h : f_slices_ContainsFunc_int [a, b] (fun x0_ => f_window_sizes_1 x0_) = some ([a, b].any fun n => decide (n < 1) || decide (1024 < n)) := by
    show gContainsFunc _ _ = _
    exact gContainsFunc_eq (by simp) (fun x _ => by simp [f_window_sizes_1])
  unfold f_window_sizes
  rw [h]
  simp only [bindO, Option.bind_some]
  congr 1
  simp only [List.any_cons, List.any_nil, Bool.or_false]
  by_cases h1 : 1 ≤ a <;> by_cases h2 : a ≤ 1024 <;> by_cases h3 : 1 ≤ b <;> by_cases h4 : b ≤ 1024 <;> simp [h1, h2, h3, h4] <;> omega
theorem contains_eq (l : List GFeed) (hl : l.length < 9223372036854775808) : f_slices_ContainsFunc_Feed l (fun x0_ => f_window_Slide_1 x0_) = some (l.any fun f => !(decide (0 ≤ f.Epoch) && decide (f.Epoch ≤ 1048576))) := by
  show gContainsFunc _ _ = _
  exact gContainsFunc_eq hl (fun x _ => by simp [f_window_Slide_1, f_window_epoch, bindO])
theorem first_eq {e size step : Int} (he : 0 ≤ e ∧ e ≤ 1048576) (hs : okSizes size step) : f_window_first e size step = some (first e size step) := by
  obtain ⟨h1, h2, h3, h4⟩ := hs
  refine Ok.eq ?_
  unfold f_window_first first
  refine Ok.iteB (fun hc => ?_) (fun hc => ?_)
  · simp only [decide_eq_true_eq] at hc
    exact Ok.some (by rw [if_pos hc])
  · simp only [decide_eq_false_iff_not] at hc
    refine Ok.guard (by omega) (Ok.some ?_)
    rw [if_neg hc, wrap_i64 (e - size) (by omega), Int.tdiv_eq_ediv_of_nonneg (by omega)]
    have hq : 0 ≤ (e - size) / step := Int.ediv_nonneg (by omega) (by omega)
    have hq2 : (e - size) / step ≤ e - size := Int.ediv_le_self _ (by omega)
    rw [wrap_i64 ((e - size) / step) (by omega), wrap_i64 ((e - size) / step + 1) (by omega)]
theorem first_bound {e size step : Int} (he : 0 ≤ e ∧ e ≤ 1048576) (hs : okSizes size step) : 0 ≤ first e size step ∧ first e size step ≤ 1048577 := by
  obtain ⟨h1, h2, h3, h4⟩ := hs
  unfold first
  split
  · omega
  · have hq : 0 ≤ (e - size) / step := Int.ediv_nonneg (by omega) (by omega)
    have hq2 : (e - size) / step ≤ e - size := Int.ediv_le_self _ (by omega)
    omega
/-- What comes of a feed, put behind others. -/
theorem inner {R : (List GFeed) × Int → Prop} {f : GFeed} {size step t : Int} {rec : Int × (List GFeed) → Option ((List GFeed) × Int)} {a : List GFeed} (he : 0 ≤ f.Epoch ∧ f.Epoch ≤ 1048576) (hs : okSizes size step) (ha : a.length ≤ 65536)
    (hfull : 65536 < (a ++ wins f size step).length → R ([], 9)) (hnext : (a ++ wins f size step).length ≤ 65536 → Ok (rec (IntKind.i64.wrap (t + 1), a ++ wins f size step)) R) :
    Ok (loopK (f_window_Slide_B2 step t rec f) rounds (first f.Epoch size step, a, f)) R := by
  obtain ⟨h1, h2, h3, h4⟩ := hs
  have hfb := first_bound he ⟨h1, h2, h3, h4⟩
  let n := (f.Epoch / step + 1 - first f.Epoch size step).toNat
  have hdiv : f.Epoch / step ≤ f.Epoch := Int.ediv_le_self _ (by omega)
  refine Ok.loop0 (fun s => ∃ j : Nat, j ≤ n ∧ s.1 = first f.Epoch size step + j ∧ s.2.1 = a ++ (wins f size step).take j ∧ s.2.1.length ≤ 65536 ∧ s.2.2.Node = f.Node ∧ s.2.2.Rec = f.Rec)
    (fun s => (first f.Epoch size step + n - s.1).toNat) ?_ ⟨0, Nat.zero_le _, by simp, by simp, ha, rfl, rfl⟩ (by simp only [rounds]; omega)
  rintro rec2 ⟨w, a', b⟩ ⟨j, hj, hw, ha', hl', hb1, hb2⟩ hr
  simp only at hw ha' hl' hb1 hb2
  have hwl : (wins f size step).length = n := by simp [wins, n]
  have hw0 : 0 ≤ w ∧ w ≤ 2097154 := by omega
  have hws : w * step ≤ 2097154 * 1024 ∧ 0 ≤ w * step := ⟨Int.mul_le_mul hw0.2 h4 (by omega) (by omega), Int.mul_nonneg hw0.1 (by omega)⟩
  unfold f_window_Slide_B2
  simp only
  rw [wrap_i64 (w * step) (by omega)]
  have hle : w * step ≤ f.Epoch ↔ w ≤ f.Epoch / step := (Int.le_ediv_iff_mul_le (by omega)).symm
  refine Ok.iteB (fun hc => ?_) (fun hc => ?_)
  · simp only [decide_eq_true_eq] at hc
    have hjn : j < n := by
      have := hle.1 hc
      simp only [n]; omega
    refine Ok.iteB (fun hf => Ok.some (hfull ?_)) (fun hf => ?_)
    · have hf' : a'.length = 65536 := by simp at hf; omega
      have := congrArg List.length ha'
      rw [List.length_append, List.length_take] at this
      rw [List.length_append]; omega
    have hne : a'.length ≠ 65536 := by
      simp only [beq_eq_false_iff_ne, ne_eq] at hf
      omega
    refine Ok.guard (by simp; omega) ?_
    have hg : (wins f size step)[j]'(by omega) = ⟨b.Node, w, b.Rec⟩ := by
      simp only [wins, List.getElem_map, List.getElem_range, hb1, hb2, hw]
    rw [wrap_i64 (w + 1) (by omega)]
    refine hr _ ⟨j + 1, by omega, by simp only; omega, ?_, ?_, hb1, hb2⟩ (by simp only; omega)
    · simp only
      rw [ha', List.take_succ_eq_append_getElem (by omega), hg, List.append_assoc]
    · simp only [List.length_append, List.length_singleton]; omega
  · simp only [decide_eq_false_iff_not] at hc
    have hjn : j = n := by
      have : ¬ w ≤ f.Epoch / step := fun hx => hc (hle.2 hx)
      simp only [n] at hj ⊢; omega
    have hfin : a' = a ++ wins f size step := by
      rw [ha', List.take_of_length_le (by omega)]
    rw [hfin] at hl' ⊢
    exact hnext hl'
theorem wins_len {f : GFeed} {size step : Int} (he : 0 ≤ f.Epoch ∧ f.Epoch ≤ 1048576) (hs : okSizes size step) : (wins f size step).length ≤ 1048577 := by
  obtain ⟨h1, h2, h3, h4⟩ := hs
  have hfb := first_bound he ⟨h1, h2, h3, h4⟩
  have hdiv : f.Epoch / step ≤ f.Epoch := Int.ediv_le_self _ (by omega)
  simp only [wins, List.length_map, List.length_range]; omega
/-- Slide: an error and nothing, or all windows of all feeds. -/
def Slid (l : List GFeed) (size step : Int) (r : (List GFeed) × Int) : Prop :=
  (r.1 = [] ∧ r.2 = 1 ∧ ¬ (okSizes size step ∧ ∀ f ∈ l, 0 ≤ f.Epoch ∧ f.Epoch ≤ 1048576)) ∨ ((okSizes size step ∧ ∀ f ∈ l, 0 ≤ f.Epoch ∧ f.Epoch ≤ 1048576) ∧ ((r.1 = [] ∧ r.2 = 9 ∧ 65536 < (l.flatMap fun f => wins f size step).length) ∨ (r.2 = 0 ∧ r.1 = (l.flatMap fun f => wins f size step) ∧ r.1.length ≤ 65536)))
theorem Slide_ok (l : List GFeed) (size step : Int) (hl : l.length < 9223372036854775808) : Ok (f_window_Slide l size step) (Slid l size step) := by
  unfold f_window_Slide
  refine Ok.bind (Ok.of_eq (sizes_eq size step) ?_)
  refine Ok.iteB (fun hc => ?_) (fun hc => Ok.some (.inl ⟨rfl, rfl, fun h => ?_⟩))
  · simp only [Bool.and_eq_true, decide_eq_true_eq] at hc
    have hs : okSizes size step := ⟨hc.1.1, hc.1.2, hc.2.1, hc.2.2⟩
    refine Ok.bind (Ok.of_eq (contains_eq l hl) ?_)
    refine Ok.iteB (fun hb => Ok.some (.inl ⟨rfl, rfl, fun h => ?_⟩)) (fun hb => ?_)
    · obtain ⟨f, hf, hx⟩ := List.any_eq_true.1 hb
      have := h.2 f hf
      simp [this.1, this.2] at hx
    · have hall : ∀ f ∈ l, 0 ≤ f.Epoch ∧ f.Epoch ≤ 1048576 := fun f hf => by
        have := List.any_eq_false.1 hb f hf
        simpa using this
      refine Ok.loop0 (fun s => ∃ i : Nat, i ≤ l.length ∧ s.1 = (i : Int) ∧ s.2 = ((l.take i).flatMap fun f => wins f size step) ∧ s.2.length ≤ 65536) (fun s => l.length - s.1.toNat) ?_ ⟨0, Nat.zero_le _, rfl, by simp, by simp⟩ (by simp [rounds]; omega)
      rintro rec ⟨t, a⟩ ⟨i, hi, ht, ha, hla⟩ hr
      simp only at ht ha hla
      subst ht
      unfold f_window_Slide_B1
      simp only
      refine Ok.iteB (fun hc => ?_) (fun hc => ?_)
      · simp only [decide_eq_true_eq] at hc
        have hlt : i < l.length := by omega
        refine Ok.bind (Ok.idxN hlt ?_)
        have he := hall _ (List.getElem_mem hlt)
        refine Ok.bind (Ok.of_eq (first_eq he hs) ?_)
        have htk : (l.take (i + 1)).flatMap (fun f => wins f size step) = a ++ wins l[i] size step := by
          rw [List.take_succ_eq_append_getElem hlt, List.flatMap_append, ha]; simp
        refine inner he hs hla (fun hbig => .inr ⟨⟨hs, hall⟩, .inl ⟨rfl, rfl, ?_⟩⟩) (fun hsm => ?_)
        · rw [← htk] at hbig
          have : l.flatMap (fun f => wins f size step) = (l.take (i + 1)).flatMap (fun f => wins f size step) ++ (l.drop (i + 1)).flatMap (fun f => wins f size step) := by
            rw [← List.flatMap_append, List.take_append_drop]
          rw [this, List.length_append]; omega
        · have hw : IntKind.i64.wrap ((i : Int) + 1) = ((i + 1 : Nat) : Int) := by rw [wrap_i64 _ (by omega)]; omega
          rw [hw]
          exact hr _ ⟨i + 1, by omega, rfl, htk.symm, hsm⟩ (by simp only [Int.toNat_natCast]; omega)
      · simp only [decide_eq_false_iff_not] at hc
        have : i = l.length := by omega
        subst this
        rw [List.take_length] at ha
        exact Ok.some (.inr ⟨⟨hs, hall⟩, .inr ⟨rfl, ha, hla⟩⟩)
  · obtain ⟨⟨h1, h2, h3, h4⟩, _⟩ := h
    simp [h1, h2, h3, h4] at hc
/-- What the windows are. -/
theorem wins_get {f : GFeed} {size step : Int} (he : 0 ≤ f.Epoch ∧ f.Epoch ≤ 1048576) (hs : okSizes size step) (k : Nat) (hk : k < (wins f size step).length) :
    (wins f size step)[k].Node = f.Node ∧ (wins f size step)[k].Rec = f.Rec ∧ (wins f size step)[k].Epoch = first f.Epoch size step + k ∧ 0 ≤ first f.Epoch size step + k ∧ (first f.Epoch size step + k) * step ≤ f.Epoch ∧ f.Epoch < (first f.Epoch size step + k) * step + size := by
  have hfb := first_bound he hs
  obtain ⟨h1, h2, h3, h4⟩ := hs
  have hn : (wins f size step).length = (f.Epoch / step + 1 - first f.Epoch size step).toNat := by simp [wins]
  have hle : first f.Epoch size step + k ≤ f.Epoch / step := by omega
  refine ⟨by simp [wins], by simp [wins], by simp [wins], by omega, (Int.le_ediv_iff_mul_le (by omega)).1 hle, ?_⟩
  have hk0 : 0 ≤ (k : Int) * step := Int.mul_nonneg (by omega) (by omega)
  rw [Int.add_mul]
  unfold first
  split
  · omega
  · have := Int.lt_ediv_add_one_mul_self (f.Epoch - size) (show 0 < step by omega)
    omega
theorem wins_count {f : GFeed} {size step : Int} (he : 0 ≤ f.Epoch ∧ f.Epoch ≤ 1048576) (hs : okSizes size step) : ((wins f size step).length : Int) ≤ (size + step - 1) / step := by
  rcases Nat.eq_zero_or_pos (wins f size step).length with h0 | h0
  · rw [h0]
    obtain ⟨h1, h2, h3, h4⟩ := hs
    exact Int.ediv_nonneg (by omega) (by omega)
  · have a := (wins_get he hs 0 h0).2.2.2.2.2
    have b := (wins_get he hs ((wins f size step).length - 1) (by omega)).2.2.2.2.1
    obtain ⟨h1, h2, h3, h4⟩ := hs
    refine (Int.le_ediv_iff_mul_le (by omega)).2 ?_
    rw [Int.add_mul] at a b
    have : (((wins f size step).length - 1 : Nat) : Int) * step = ((wins f size step).length : Int) * step - step := by
      rw [show (((wins f size step).length - 1 : Nat) : Int) = ((wins f size step).length : Int) - 1 by omega, Int.sub_mul, Int.one_mul]
    rw [this] at b
    simp only [Int.natCast_zero, Int.zero_mul] at a
    omega
theorem wins_tumbled {f : GFeed} {size : Int} (he : 0 ≤ f.Epoch ∧ f.Epoch ≤ 1048576) (hs : okSizes size size) : (wins f size size).length = 1 := by
  obtain ⟨h1, h2, h3, h4⟩ := hs
  simp only [wins, List.length_map, List.length_range]
  unfold first
  split
  · rename_i hlt
    rw [Int.ediv_eq_zero_of_lt he.1 hlt]; rfl
  · rw [Int.sub_ediv_of_dvd _ (Int.dvd_refl _), Int.ediv_self (by omega)]
    omega
theorem Tumble_ok (l : List GFeed) (size : Int) (hl : l.length < 9223372036854775808) : Ok (f_window_Tumble l size) (Slid l size size) := by
  unfold f_window_Tumble
  exact Ok.bind2 (Slide_ok l size size hl) fun a ha => Ok.some ha
theorem awake_ok : f_backwashlaw33_awake = some true := by kernel_rfl
end WH
end Go.Proofs.Ytfjjpdjnpmajlaa

