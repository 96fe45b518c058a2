/-
  The law in plain words: what its plain function gives is true. No condition beyond those that each theorem names.
-/
import Derived.Test.YtngeldeahafcfaaWalk1
set_option linter.unusedSimpArgs false
set_option linter.unusedVariables false
namespace Go.Proofs.Ytngeldeahafcfaa
open Go Go.RowKit
namespace WH
def okSizes (size step : Int) : Prop := 1 ≤ size ∧ size ≤ 1024 ∧ 1 ≤ step ∧ step ≤ 1024
def first (e size step : Int) : Int := if e < size then 0 else (e - size) / step + 1
def wins (f : GFeed) (size step : Int) : List GFeed := (List.range (f.Epoch / step + 1 - first f.Epoch size step).toNat).map fun j : Nat => ⟨f.Node, first f.Epoch size step + j, f.Rec⟩
theorem sizes_eq (a b : Int) : f_window_sizes [a, b] = some (decide (1 ≤ a ∧ a ≤ 1024) && decide (1 ≤ b ∧ b ≤ 1024)) := by
  have h : f_slices_ContainsFunc_int [a, b] (fun x0_ => f_window_sizes_1 x0_) = some ([a, b].any fun n => decide (n < 1) || decide (1024 < n)) := by
    show gContainsFunc _ _ = _
    exact gContainsFunc_eq (by simp) (fun x _ => by simp [f_window_sizes_1])
  unfold f_window_sizes
  rw [h]
  simp only [bindO, Option.bind_some]
  congr 1
  simp only [List.any_cons, List.any_nil, Bool.or_false]
  by_cases h1 : 1 ≤ a <;> by_cases h2 : a ≤ 1024 <;> by_cases h3 : 1 ≤ b <;> by_cases h4 : b ≤ 1024 <;> simp [h1, h2, h3, h4] <;> omega
theorem contains_eq (l : List GFeed) (hl : l.length < 9223372036854775808) : f_slices_ContainsFunc_Feed l (fun x0_ => f_window_Slide_1 x0_) = some (l.any fun f => !(decide (0 ≤ f.Epoch) && decide (f.Epoch ≤ 1048576))) := by
  show gContainsFunc _ _ = _
  exact gContainsFunc_eq hl (fun x _ => by simp [f_window_Slide_1, f_window_epoch, bindO])
theorem first_eq {e size step : Int} (he : 0 ≤ e ∧ e ≤ 1048576) (hs : okSizes size step) : f_window_first e size step = some (first e size step) := by
  obtain ⟨h1, h2, h3, h4⟩ := hs
  refine Ok.eq ?_
  unfold f_window_first first
  refine Ok.iteB (fun hc => ?_) (fun hc => ?_)
  · simp only [decide_eq_true_eq] at hc
    exact Ok.some (by rw [if_pos hc])
  · simp only [decide_eq_false_iff_not] at hc
    refine Ok.guard (by omega) (Ok.some ?_)
    rw [if_neg hc, wrap_i64 (e - size) (by omega), Int.tdiv_eq_ediv_of_nonneg (by omega)]
    have hq : 0 ≤ (e - size) / step := Int.ediv_nonneg (by omega) (by omega)
    have hq2 : (e - size) / step ≤ e - size := Int.ediv_le_self _ (by omega)
    rw [wrap_i64 ((e - size) / step) (by omega), wrap_i64 ((e - size) / step + 1) (by omega)]
theorem first_bound {e size step : Int} (he : 0 ≤ e ∧ e ≤ 1048576) (hs : okSizes size step) : 0 ≤ first e size step ∧ first e size step ≤ 1048577 := by
  obtain ⟨h1, h2, h3, h4⟩ := hs
  unfold first
  split
  · omega
  · have hq : 0 ≤ (e - size) / step := Int.ediv_nonneg (by omega) (by omega)
    have hq2 : (e - size) / step ≤ e - size := Int.ediv_le_self _ (by omega)
    omega
/-- What comes of a feed, put behind others. -/
theorem inner {R : (List GFeed) × Int → Prop} {f : GFeed} {size step t : Int} {rec : Int × (List GFeed) → Option ((List GFeed) × Int)} {a : List GFeed} (he : 0 ≤ f.Epoch ∧ f.Epoch ≤ 1048576) (hs : okSizes size step) (ha : a.length ≤ 65536)
    (hfull : 65536 < (a ++ wins f size step).length → R ([], 9)) (hnext : (a ++ wins f size step).length ≤ 65536 → Ok (rec (IntKind.i64.wrap (t + 1), a ++ wins f size step)) R) :
    Ok (loopK (f_window_Slide_B2 step t rec f) rounds (first f.Epoch size step, a, f)) R := by
  obtain ⟨h1, h2, h3, h4⟩ := hs
  have hfb := first_bound he ⟨h1, h2, h3, h4⟩
  let n := (f.Epoch / step + 1 - first f.Epoch size step).toNat
  have hdiv : f.Epoch / step ≤ f.Epoch := Int.ediv_le_self _ (by omega)
  refine Ok.loop0 (fun s => ∃ j : Nat, j ≤ n ∧ s.1 = first f.Epoch size step + j ∧ s.2.1 = a ++ (wins f size step).take j ∧ s.2.1.length ≤ 65536 ∧ s.2.2.Node = f.Node ∧ s.2.2.Rec = f.Rec)
    (fun s => (first f.Epoch size step + n - s.1).toNat) ?_ ⟨0, Nat.zero_le _, by simp, by simp, ha, rfl, rfl⟩ (by simp only [rounds]; omega)
  rintro rec2 ⟨w, a', b⟩ ⟨j, hj, hw, ha', hl', hb1, hb2⟩ hr
  simp only at hw ha' hl' hb1 hb2
  have hwl : (wins f size step).length = n := by simp [wins, n]
  have hw0 : 0 ≤ w ∧ w ≤ 2097154 := by omega
  have hws : w * step ≤ 2097154 * 1024 ∧ 0 ≤ w * step := ⟨Int.mul_le_mul hw0.2 h4 (by omega) (by omega), Int.mul_nonneg hw0.1 (by omega)⟩
  unfold f_window_Slide_B2
  simp only
  rw [wrap_i64 (w * step) (by omega)]
  have hle : w * step ≤ f.Epoch ↔ w ≤ f.Epoch / step := (Int.le_ediv_iff_mul_le (by omega)).symm
  refine Ok.iteB (fun hc => ?_) (fun hc => ?_)
  · simp only [decide_eq_true_eq] at hc
    have hjn : j < n := by
      have := hle.1 hc
      simp only [n]; omega
    refine Ok.iteB (fun hf => Ok.some (hfull ?_)) (fun hf => ?_)
    · have hf' : a'.length = 65536 := by simp at hf; omega
      have := congrArg List.length ha'
      rw [List.length_append, List.length_take] at this
      rw [List.length_append]; omega
    have hne : a'.length ≠ 65536 := by
      simp only [beq_eq_false_iff_ne, ne_eq] at hf
      omega
    refine Ok.guard (by simp; omega) ?_
    have hg : (wins f size step)[j]'(by omega) = ⟨b.Node, w, b.Rec⟩ := by
      simp only [wins, List.getElem_map, List.getElem_range, hb1, hb2, hw]
    rw [wrap_i64 (w + 1) (by omega)]
    refine hr _ ⟨j + 1, by omega, by simp only; omega, ?_, ?_, hb1, hb2⟩ (by simp only; omega)
    · simp only
      rw [ha', List.take_succ_eq_append_getElem (by omega), hg, List.append_assoc]
    · simp only [List.length_append, List.length_singleton]; omega
  · simp only [decide_eq_false_iff_not] at hc
    have hjn : j = n := by
      have : ¬ w ≤ f.Epoch / step := fun hx => hc (hle.2 hx)
      simp only [n] at hj ⊢; omega
    have hfin : a' = a ++ wins f size step := by
      rw [ha', List.take_of_length_le (by omega)]
    rw [hfin] at hl' ⊢
    exact hnext hl'
theorem wins_len {f : GFeed} {size step : Int} (he : 0 ≤ f.Epoch ∧ f.Epoch ≤ 1048576) (hs : okSizes size step) : (wins f size step).length ≤ 1048577 := by
  obtain ⟨h1, h2, h3, h4⟩ := hs
  have hfb := first_bound he ⟨h1, h2, h3, h4⟩
  have hdiv : f.Epoch / step ≤ f.Epoch := Int.ediv_le_self _ (by omega)
  simp only [wins, List.length_map, List.length_range]; omega
/-- Slide: an error and nothing, or all windows of all feeds. -/
def Slid (l : List GFeed) (size step : Int) (r : (List GFeed) × Int) : Prop :=
  (r.1 = [] ∧ r.2 = 1 ∧ ¬ (okSizes size step ∧ ∀ f ∈ l, 0 ≤ f.Epoch ∧ f.Epoch ≤ 1048576)) ∨ ((okSizes size step ∧ ∀ f ∈ l, 0 ≤ f.Epoch ∧ f.Epoch ≤ 1048576) ∧ ((r.1 = [] ∧ r.2 = 9 ∧ 65536 < (l.flatMap fun f => wins f size step).length) ∨ (r.2 = 0 ∧ r.1 = (l.flatMap fun f => wins f size step) ∧ r.1.length ≤ 65536)))
theorem Slide_ok (l : List GFeed) (size step : Int) (hl : l.length < 9223372036854775808) : Ok (f_window_Slide l size step) (Slid l size step) := by
  unfold f_window_Slide
  refine Ok.bind (Ok.of_eq (sizes_eq size step) ?_)
  refine Ok.iteB (fun hc => ?_) (fun hc => Ok.some (.inl ⟨rfl, rfl, fun h => ?_⟩))
  · simp only [Bool.and_eq_true, decide_eq_true_eq] at hc
    have hs : okSizes size step := ⟨hc.1.1, hc.1.2, hc.2.1, hc.2.2⟩
    refine Ok.bind (Ok.of_eq (contains_eq l hl) ?_)
    refine Ok.iteB (fun hb => Ok.some (.inl ⟨rfl, rfl, fun h => ?_⟩)) (fun hb => ?_)
    · obtain ⟨f, hf, hx⟩ := List.any_eq_true.1 hb
      have := h.2 f hf
      simp [this.1, this.2] at hx
    · have hall : ∀ f ∈ l, 0 ≤ f.Epoch ∧ f.Epoch ≤ 1048576 := fun f hf => by
        have := List.any_eq_false.1 hb f hf
        simpa using this
      refine Ok.loop0 (fun s => ∃ i : Nat, i ≤ l.length ∧ s.1 = (i : Int) ∧ s.2 = ((l.take i).flatMap fun f => wins f size step) ∧ s.2.length ≤ 65536) (fun s => l.length - s.1.toNat) ?_ ⟨0, Nat.zero_le _, rfl, by simp, by simp⟩ (by simp [rounds]; omega)
      rintro rec ⟨t, a⟩ ⟨i, hi, ht, ha, hla⟩ hr
      simp only at ht ha hla
      subst ht
      unfold f_window_Slide_B1
      simp only
      refine Ok.iteB (fun hc => ?_) (fun hc => ?_)
      · simp only [decide_eq_true_eq] at hc
        have hlt : i < l.length := by omega
        refine Ok.bind (Ok.idxN hlt ?_)
        have he := hall _ (List.getElem_mem hlt)
        refine Ok.bind (Ok.of_eq (first_eq he hs) ?_)
        have htk : (l.take (i + 1)).flatMap (fun f => wins f size step) = a ++ wins l[i] size step := by
          rw [List.take_succ_eq_append_getElem hlt, List.flatMap_append, ha]; simp
        refine inner he hs hla (fun hbig => .inr ⟨⟨hs, hall⟩, .inl ⟨rfl, rfl, ?_⟩⟩) (fun hsm => ?_)
        · rw [← htk] at hbig
          have : l.flatMap (fun f => wins f size step) = (l.take (i + 1)).flatMap (fun f => wins f size step) ++ (l.drop (i + 1)).flatMap (fun f => wins f size step) := by
            rw [← List.flatMap_append, List.take_append_drop]
          rw [this, List.length_append]; omega
        · have hw : IntKind.i64.wrap ((i : Int) + 1) = ((i + 1 : Nat) : Int) := by rw [wrap_i64 _ (by omega)]; omega
          rw [hw]
          exact hr _ ⟨i + 1, by omega, rfl, htk.symm, hsm⟩ (by simp only [Int.toNat_natCast]; omega)
      · simp only [decide_eq_false_iff_not] at hc
        have : i = l.length := by omega
        subst this
        rw [List.take_length] at ha
        exact Ok.some (.inr ⟨⟨hs, hall⟩, .inr ⟨rfl, ha, hla⟩⟩)
  · obtain ⟨⟨h1, h2, h3, h4⟩, _⟩ := h
    simp [h1, h2, h3, h4] at hc
/-- What the windows are. -/
theorem wins_get {f : GFeed} {size step : Int} (he : 0 ≤ f.Epoch ∧ f.Epoch ≤ 1048576) (hs : okSizes size step) (k : Nat) (hk : k < (wins f size step).length) :
    (wins f size step)[k].Node = f.Node ∧ (wins f size step)[k].Rec = f.Rec ∧ (wins f size step)[k].Epoch = first f.Epoch size step + k ∧ 0 ≤ first f.Epoch size step + k ∧ (first f.Epoch size step + k) * step ≤ f.Epoch ∧ f.Epoch < (first f.Epoch size step + k) * step + size := by
  have hfb := first_bound he hs
  obtain ⟨h1, h2, h3, h4⟩ := hs
  have hn : (wins f size step).length = (f.Epoch / step + 1 - first f.Epoch size step).toNat := by simp [wins]
  have hle : first f.Epoch size step + k ≤ f.Epoch / step := by omega
  refine ⟨by simp [wins], by simp [wins], by simp [wins], by omega, (Int.le_ediv_iff_mul_le (by omega)).1 hle, ?_⟩
  have hk0 : 0 ≤ (k : Int) * step := Int.mul_nonneg (by omega) (by omega)
  rw [Int.add_mul]
  unfold first
  split
  · omega
  · have := Int.lt_ediv_add_one_mul_self (f.Epoch - size) (show 0 < step by omega)
    omega
theorem wins_count {f : GFeed} {size step : Int} (he : 0 ≤ f.Epoch ∧ f.Epoch ≤ 1048576) (hs : okSizes size step) : ((wins f size step).length : Int) ≤ (size + step - 1) / step := by
  rcases Nat.eq_zero_or_pos (wins f size step).length with h0 | h0
  · rw [h0]
    obtain ⟨h1, h2, h3, h4⟩ := hs
    exact Int.ediv_nonneg (by omega) (by omega)
  · have a := (wins_get he hs 0 h0).2.2.2.2.2
    have b := (wins_get he hs ((wins f size step).length - 1) (by omega)).2.2.2.2.1
    obtain ⟨h1, h2, h3, h4⟩ := hs
    refine (Int.le_ediv_iff_mul_le (by omega)).2 ?_
    rw [Int.add_mul] at a b
    have : (((wins f size step).length - 1 : Nat) : Int) * step = ((wins f size step).length : Int) * step - step := by
      rw [show (((wins f size step).length - 1 : Nat) : Int) = ((wins f size step).length : Int) - 1 by omega, Int.sub_mul, Int.one_mul]
    rw [this] at b
    simp only [Int.natCast_zero, Int.zero_mul] at a
    omega
theorem wins_tumbled {f : GFeed} {size : Int} (he : 0 ≤ f.Epoch ∧ f.Epoch ≤ 1048576) (hs : okSizes size size) : (wins f size size).length = 1 := by
  obtain ⟨h1, h2, h3, h4⟩ := hs
  simp only [wins, List.length_map, List.length_range]
  unfold first
  split
  · rename_i hlt
    rw [Int.ediv_eq_zero_of_lt he.1 hlt]; rfl
  · rw [Int.sub_ediv_of_dvd _ (Int.dvd_refl _), Int.ediv_self (by omega)]
    omega
theorem Tumble_ok (l : List GFeed) (size : Int) (hl : l.length < 9223372036854775808) : Ok (f_window_Tumble l size) (Slid l size size) := by
  unfold f_window_Tumble
  exact Ok.bind2 (Slide_ok l size size hl) fun a ha => Ok.some ha
theorem awake_ok : f_backwashlaw33_awake = some true := by kernel_rfl
theorem holds (l : List GFeed) (size step : Int) (hl : Dat.ok l) (hz : inI .i64 size) (ht : inI .i64 step) : f_backwashlaw33_WindowHolds l size step = some true := by
  have hlen : l.length ≤ maxLen := hl.1
  have hmax : maxLen = 9223372036854775807 := rfl
  have hz := inI_i64 hz
  have ht := inI_i64 ht
  refine Ok.eq ?_
  unfold f_backwashlaw33_WindowHolds
  refine Ok.bind (Ok.of_eq awake_ok (Ok.iteB (fun h => by cases h) (fun _ => Ok.guard (by omega) ?_)))
  generalize hL : List.take (Int.toNat (min (List.length l : Int) 50)) l = L
  have hLl : L.length ≤ 50 := by rw [← hL, List.length_take]; omega
  refine Ok.loop0 (fun t => ∃ i : Nat, t = (i : Int) ∧ i ≤ L.length) (fun t => L.length - t.toNat) ?_ ⟨0, rfl, Nat.zero_le _⟩ (by simp [rounds]; omega)
  rintro rec t ⟨i, rfl, hi⟩ hr
  unfold f_backwashlaw33_WindowHolds_B2
  rw [hL]
  have hw : IntKind.i64.wrap ((i : Int) + 1) = ((i + 1 : Nat) : Int) := by rw [wrap_i64 _ (by omega)]; omega
  refine Ok.iteB (fun hc => ?_) (fun hc => ?_)
  · simp only [decide_eq_true_eq] at hc
    have hlt : i < L.length := by omega
    refine Ok.guard (by rw [hw]; omega) ?_
    have hone : List.drop (Int.toNat (i : Int)) (List.take (Int.toNat (IntKind.i64.wrap ((i : Int) + 1))) L) = [L[i]] := by
      rw [hw, Int.toNat_natCast, Int.toNat_natCast, List.take_succ_eq_append_getElem hlt, List.drop_append_of_le_length (by rw [List.length_take]; omega), List.drop_of_length_le (by rw [List.length_take]; omega), List.nil_append]
    rw [hone]
    refine Ok.bind2 (Slide_ok _ size step (by simp)) fun m hm => ?_
    rcases hm with ⟨h1, h2, _⟩ | ⟨⟨hs, he⟩, hm⟩
    · refine Ok.iteB (fun _ => Ok.some (by rw [h1]; rfl)) (fun hx => by rw [h2] at hx; cases hx)
    rcases hm with ⟨h1, h2, _⟩ | ⟨h2, h1, h3⟩
    · refine Ok.iteB (fun _ => Ok.some (by rw [h1]; rfl)) (fun hx => by rw [h2] at hx; cases hx)
    have he := he _ (List.mem_singleton.2 rfl)
    simp only [List.flatMap_cons, List.flatMap_nil, List.append_nil] at h1
    refine Ok.iteB (fun hx => by rw [h2] at hx; cases hx) (fun _ => ?_)
    obtain ⟨s1, s2, s3, s4⟩ := hs
    refine Ok.guard (by omega) ?_
    have hcount := wins_count he ⟨s1, s2, s3, s4⟩
    rw [wrap_i64 (size + step) (by omega), wrap_i64 (size + step - 1) (by omega), Int.tdiv_eq_ediv_of_nonneg (by omega)]
    have hdiv : (size + step - 1) / step ≤ size + step - 1 := Int.ediv_le_self _ (by omega)
    have hdiv0 : 0 ≤ (size + step - 1) / step := Int.ediv_nonneg (by omega) (by omega)
    rw [wrap_i64 ((size + step - 1) / step) (by omega)]
    refine Ok.iteB (fun hx => ?_) (fun _ => ?_)
    · simp only [decide_eq_true_eq] at hx
      rw [h1] at hx
      omega
    have hnext : Ok (rec (IntKind.i64.wrap ((i : Int) + 1))) (fun r => r = true) := by
      rw [hw]
      exact hr _ ⟨i + 1, rfl, by omega⟩ (by simp only [Int.toNat_natCast]; omega)
    refine Ok.loop0 (fun t => ∃ k : Nat, t = (k : Int) ∧ k ≤ m.1.length) (fun t => m.1.length - t.toNat) ?_ ⟨0, rfl, Nat.zero_le _⟩ (by simp [rounds]; omega)
    rintro rec3 t ⟨k, rfl, hk⟩ hr3
    unfold f_backwashlaw33_WindowHolds_B3
    rw [hL]
    refine Ok.iteB (fun hc => ?_) (fun _ => hnext)
    simp only [decide_eq_true_eq] at hc
    have hkl : k < m.1.length := by omega
    have hg : ∀ (q : Nat) (hq : q < m.1.length), m.1[q].Node = L[i].Node ∧ m.1[q].Rec = L[i].Rec ∧ m.1[q].Epoch = first L[i].Epoch size step + q ∧ 0 ≤ first L[i].Epoch size step + q ∧ (first L[i].Epoch size step + q) * step ≤ L[i].Epoch ∧ L[i].Epoch < (first L[i].Epoch size step + q) * step + size := by
      intro q hq
      have hq' : q < (wins L[i] size step).length := by rw [← h1]; exact hq
      have := wins_get he ⟨s1, s2, s3, s4⟩ q hq'
      have e : m.1[q] = (wins L[i] size step)[q] := by simp only [h1]
      rw [e]; exact this
    obtain ⟨g1, g2, g3, g4, g5, g6⟩ := hg k hkl
    have hfb := first_bound he ⟨s1, s2, s3, s4⟩
    have hidx : ∀ (Q : GFeed → Prop), Q m.1[k] → Ok (idx m.1 (k : Int)) Q := fun Q hQ => Ok.idxN hkl hQ
    have hidl : ∀ (Q : GFeed → Prop), Q L[i] → Ok (idx L (i : Int)) Q := fun Q hQ => Ok.idxN hlt hQ
    have hstep3 : Ok (rec3 (IntKind.i64.wrap ((k : Int) + 1))) (fun r => r = true) := by
      have hw3 : IntKind.i64.wrap ((k : Int) + 1) = ((k + 1 : Nat) : Int) := by rw [wrap_i64 _ (by omega)]; omega
      rw [hw3]
      exact hr3 _ ⟨k + 1, rfl, by omega⟩ (by simp only [Int.toNat_natCast]; omega)
    have hend : Ok (bindO (idx m.1 (k : Int)) fun x => bindO (idx L (i : Int)) fun y => if (x.Node == y.Node) = true then bindO (idx m.1 (k : Int)) fun x => bindO (idx L (i : Int)) fun y => if (!((x.Rec.K == y.Rec.K) && (x.Rec.V == y.Rec.V))) = true then some false else rec3 (IntKind.i64.wrap ((k : Int) + 1)) else some false) (fun r => r = true) := by
      refine Ok.bind (hidx _ (Ok.bind (hidl _ (Ok.iteB (fun _ => Ok.bind (hidx _ (Ok.bind (hidl _ (Ok.iteB (fun hx => ?_) (fun _ => hstep3)))))) (fun hx => ?_)))))
      · rw [g2] at hx; simp at hx
      · rw [g1] at hx; simp at hx
    refine Ok.bind (hidx _ (Ok.iteB (fun hx => ?_) (fun _ => Ok.bind (hidl _ (Ok.iteB (fun hx => ?_) (fun _ => Ok.bind (hidl _ (Ok.iteB (fun hx => ?_) (fun _ => Ok.iteB (fun hk0 => ?_) (fun _ => hend))))))))))
    · simp only [decide_eq_true_eq] at hx; omega
    · simp only [decide_eq_true_eq] at hx
      rw [g3, wrap_i64 _ (by omega)] at hx; omega
    · simp only [decide_eq_true_eq] at hx
      have hnn : 0 ≤ (first L[i].Epoch size step + k) * step := Int.mul_nonneg g4 (by omega)
      rw [g3, wrap_i64 ((first L[i].Epoch size step + k) * step) (by omega), wrap_i64 ((first L[i].Epoch size step + k) * step + size) (by omega)] at hx; omega
    · simp only [decide_eq_true_eq] at hk0
      have hk1 : IntKind.i64.wrap ((k : Int) - 1) = ((k - 1 : Nat) : Int) := by rw [wrap_i64 _ (by omega)]; omega
      rw [hk1]
      refine Ok.bind (Ok.idxN (show k - 1 < m.1.length by omega) (Ok.iteB (fun hx => ?_) (fun _ => hend)))
      simp only [decide_eq_true_eq] at hx
      have := (hg (k - 1) (by omega)).2.2.1
      omega
  · unfold f_backwashlaw33_WindowHolds_J1
    rw [hL]
    refine Ok.bind2 (Tumble_ok L size (by omega)) fun a ha => Ok.some ?_
    rcases ha with ⟨_, h2, _⟩ | ⟨⟨hs, hall⟩, ⟨_, h2, _⟩ | ⟨h2, h1, _⟩⟩
    · rw [h2]; rfl
    · rw [h2]; rfl
    · have : a.1.length = L.length := by
        rw [h1]
        have key : ∀ (q : List GFeed), (∀ f ∈ q, 0 ≤ f.Epoch ∧ f.Epoch ≤ 1048576) → (q.flatMap fun f => wins f size size).length = q.length := by
          intro q
          induction q with
          | nil => intro _; rfl
          | cons f q ih =>
            intro hq
            rw [List.flatMap_cons, List.length_append, wins_tumbled (hq f (by simp)) hs, ih (fun g hg => hq g (by simp [hg])), List.length_cons]; omega
        exact key L hall
      rw [this]; simp
end WH
end Go.Proofs.Ytngeldeahafcfaa

