/-
  The law in plain words: what its plain function gives is true. No condition beyond those that each theorem names.
-/
import Derived.Test.YtfjjpdjnpmajlaaP12a
import Derived.Test.YtfjjpdjnpmajlaaWalkWR0
set_option linter.unusedSimpArgs false
set_option linter.unusedVariables false
namespace Go.Proofs.Ytfjjpdjnpmajlaa
open Go Go.RowKit
namespace WH
theorem first_le {e size step : Int} (he : 0 ≤ e ∧ e ≤ 1048576) (hs : okSizes size step) : first e size step ≤ e / step + 1 := by
  obtain ⟨h1, h2, h3, h4⟩ := hs
  unfold first
  split
  · have : 0 ≤ e / step := Int.ediv_nonneg (by omega) (by omega)
    omega
  · have : (e - size) / step ≤ e / step := Int.ediv_le_ediv (by omega) (by omega)
    omega
theorem first_iff {e size step w : Int} (he : 0 ≤ e ∧ e ≤ 1048576) (hs : okSizes size step) (hw : 0 ≤ w) : e < w * step + size ↔ first e size step ≤ w := by
  obtain ⟨h1, h2, h3, h4⟩ := hs
  have hnn : 0 ≤ w * step := Int.mul_nonneg hw (by omega)
  unfold first
  split
  · exact ⟨fun _ => hw, fun _ => by omega⟩
  · have := Int.ediv_lt_iff_lt_mul (a := e - size) (b := w) (show 0 < step by omega)
    constructor
    · intro h; have := this.2 (by omega); omega
    · intro h; have := this.1 (by omega); omega
theorem wins_len' {f : GFeed} {size step : Int} : (wins f size step).length = (f.Epoch / step + 1 - first f.Epoch size step).toNat := by simp [wins]
theorem refInner {R : (List GFeed) × Int → Prop} {l : List GFeed} {size step : Int} {i : Nat} (hi : i < l.length) (he : 0 ≤ l[i].Epoch ∧ l[i].Epoch ≤ 1048576) (hs : okSizes size step) {rec : Int × List GFeed → Option (List GFeed × Int)} {a : List GFeed} (ha : a.length ≤ 70000000)
    {fr : Int} (h0 : 0 ≤ fr) (h1 : fr ≤ first l[i].Epoch size step) (hnext : Ok (rec (IntKind.i64.wrap ((i : Int) + 1), a ++ wins l[i] size step)) R) :
    Ok (loopK (f_backwashref33_Slide_B5 size step i rec l[i]) rounds (fr, a)) R := by
  have hfb := first_bound he hs
  have hfl := first_le he hs
  have hwl := wins_len he hs
  have hs' := hs
  obtain ⟨s1, s2, s3, s4⟩ := hs
  have hdiv : l[i].Epoch / step ≤ l[i].Epoch := Int.ediv_le_self _ (by omega)
  have hdiv0 : 0 ≤ l[i].Epoch / step := Int.ediv_nonneg (by omega) (by omega)
  refine Ok.loop0 (fun s => fr ≤ s.1 ∧ s.1 ≤ l[i].Epoch / step + 1 ∧ s.2 = a ++ (wins l[i] size step).take (s.1 - first l[i].Epoch size step).toNat) (fun s => (l[i].Epoch / step + 1 - s.1).toNat) ?_ ⟨Int.le_refl _, by simp only; omega, by
    rw [show (fr - first l[i].Epoch size step).toNat = 0 by omega]; simp⟩ (by simp only [rounds]; omega)
  rintro rec2 ⟨w, a'⟩ ⟨hw1, hw2, ha'⟩ hr
  simp only at hw1 hw2 ha'
  have hal : a'.length ≤ a.length + (wins l[i] size step).length := by
    rw [ha', List.length_append, List.length_take]; omega
  have hws : 0 ≤ w * step := Int.mul_nonneg (by omega) (by omega)
  have hws2 : w * step ≤ 1048577 * 1024 := Int.mul_le_mul (by omega) s4 (by omega) (by omega)
  unfold f_backwashref33_Slide_B5
  simp only
  rw [Int.tdiv_eq_ediv_of_nonneg he.1, wrap_i64 (l[i].Epoch / step) (by omega), wrap_i64 (w * step) (by omega), wrap_i64 (w * step + size) (by omega)]
  refine Ok.iteB (fun hc => ?_) (fun hc => ?_)
  · simp only [decide_eq_true_eq] at hc
    rw [wrap_i64 (w + 1) (by omega)]
    refine Ok.iteB (fun hc2 => Ok.iteB (fun hc3 => Ok.guard (by simp; omega) ?_) (fun hc3 => ?_)) (fun hc2 => ?_)
    · simp only [decide_eq_true_eq] at hc3
      have hfw := (first_iff he hs' (by omega)).1 hc3
      refine hr _ ⟨by simp only; omega, by simp only; omega, ?_⟩ (by simp only; omega)
      simp only
      have hk : (w - first l[i].Epoch size step).toNat < (wins l[i] size step).length := by rw [wins_len']; omega
      rw [show (w + 1 - first l[i].Epoch size step).toNat = (w - first l[i].Epoch size step).toNat + 1 by omega, List.take_succ_eq_append_getElem hk, ← List.append_assoc, ← ha']
      congr 2
      simp only [wins, List.getElem_map, List.getElem_range]
      congr 1
      omega
    · simp only [decide_eq_false_iff_not] at hc3
      have hfw : ¬ first l[i].Epoch size step ≤ w := fun h => hc3 ((first_iff he hs' (by omega)).2 h)
      refine hr _ ⟨by simp only; omega, by simp only; omega, ?_⟩ (by simp only; omega)
      simp only
      rw [ha', show (w - first l[i].Epoch size step).toNat = 0 by omega, show (w + 1 - first l[i].Epoch size step).toNat = 0 by omega]
    · simp only [decide_eq_false_iff_not] at hc2
      exact absurd ((Int.le_ediv_iff_mul_le (by omega)).1 hc) hc2
  · simp only [decide_eq_false_iff_not] at hc
    have : a' = a ++ wins l[i] size step := by
      rw [ha', List.take_of_length_le (by rw [wins_len']; omega)]
    rw [this]
    exact hnext
def RefSlid (l : List GFeed) (size step : Int) (r : (List GFeed) × Int) : Prop :=
  (r = ([], 1) ∧ ¬ (okSizes size step ∧ ∀ f ∈ l, 0 ≤ f.Epoch ∧ f.Epoch ≤ 1048576)) ∨ ((okSizes size step ∧ ∀ f ∈ l, 0 ≤ f.Epoch ∧ f.Epoch ≤ 1048576) ∧ ((r = ([], 9) ∧ 65536 < (l.flatMap fun f => wins f size step).length) ∨ (r = ((l.flatMap fun f => wins f size step), 0) ∧ (l.flatMap fun f => wins f size step).length ≤ 65536)))
theorem refSlide_ok (l : List GFeed) (size step : Int) (hl : l.length ≤ 50) : Ok (f_backwashref33_Slide l size step) (RefSlid l size step) := by
  unfold f_backwashref33_Slide
  refine Ok.iteB (fun hc => Ok.some (.inl ⟨rfl, fun h => ?_⟩)) (fun hc => ?_)
  · obtain ⟨⟨h1, h2, h3, h4⟩, _⟩ := h
    simp only [Bool.or_eq_true, decide_eq_true_eq] at hc
    omega
  simp only [Bool.or_eq_false_iff, decide_eq_false_iff_not] at hc
  have hs : okSizes size step := ⟨by omega, by omega, by omega, by omega⟩
  refine Ok.each1 (l := l) (by omega) (fun i => ∀ f ∈ l.take i, 0 ≤ f.Epoch ∧ f.Epoch ≤ 1048576) 0 (fun rec i hi _ hI hr => ?_) (fun rec hI => ?_) (by simp) (Nat.zero_le _)
  · unfold f_backwashref33_Slide_B6
    refine Ok.iteB (fun _ => ?_) (fun hx => by simp only [decide_eq_false_iff_not] at hx; omega)
    refine Ok.bind (Ok.idxN hi (Ok.iteB (fun hx => Ok.some (.inl ⟨rfl, fun h => ?_⟩)) (fun hx => Ok.iteB (fun hy => Ok.some (.inl ⟨rfl, fun h => ?_⟩)) (fun hy => ?_))))
    · have := (h.2 _ (List.getElem_mem hi)).1
      simp only [decide_eq_true_eq] at hx; omega
    · have := (h.2 _ (List.getElem_mem hi)).2
      simp only [decide_eq_true_eq] at hy; omega
    · simp only [decide_eq_false_iff_not] at hx hy
      rw [wrap_i64 ((i : Int) + 1) (by omega)]
      exact hr ((all_take_succ hi).2 ⟨hI, by omega, by omega⟩)
  · rw [List.take_length] at hI
    unfold f_backwashref33_Slide_B6
    refine Ok.iteB (fun hx => by simp only [decide_eq_true_eq] at hx; omega) (fun _ => ?_)
    unfold f_backwashref33_Slide_J1
    refine Ok.each (l := l) (by omega) (fun i a => a = ((l.take i).flatMap fun f => wins f size step) ∧ a.length ≤ i * 1048577) 0 (fun rec i hi a _ hJ hr => ?_) (fun rec a hJ => ?_) (by simp) (Nat.zero_le _)
    · obtain ⟨ha, hal⟩ := hJ
      have he := hI _ (List.getElem_mem hi)
      have hfb := first_bound he hs
      have hwl := wins_len he hs
      have hs' := hs
      obtain ⟨s1, s2, s3, s4⟩ := hs
      have hdiv : l[i].Epoch / step ≤ l[i].Epoch := Int.ediv_le_self _ (by omega)
      have hdiv0 : 0 ≤ l[i].Epoch / step := Int.ediv_nonneg (by omega) (by omega)
      have hi50 : i * 1048577 ≤ 50 * 1048577 := Nat.mul_le_mul_right _ (by omega)
      have hnx : Ok (rec (IntKind.i64.wrap ((i : Int) + 1), a ++ wins l[i] size step)) (RefSlid l size step) := by
        rw [wrap_i64 ((i : Int) + 1) (by omega)]
        refine hr _ ⟨by rw [flatMap_take hi, ha], ?_⟩
        rw [List.length_append, Nat.add_mul]; omega
      have hmono : first l[i].Epoch size step = 0 ∨ l[i].Epoch / step - 1024 ≤ first l[i].Epoch size step := by
        unfold first
        split
        · exact .inl rfl
        · right
          have h2 : l[i].Epoch / step - 1024 ≤ (l[i].Epoch - size) / step := by
            refine (Int.le_ediv_iff_mul_le (by omega)).2 ?_
            have h3 : l[i].Epoch / step * step ≤ l[i].Epoch := Int.ediv_mul_le _ (by omega)
            rw [Int.sub_mul]; omega
          omega
      have hsmall : first l[i].Epoch size step = 0 → l[i].Epoch / step - 1024 ≤ 0 := fun h => by
        unfold first at h
        split at h
        · omega
        · have : 0 ≤ (l[i].Epoch - size) / step := Int.ediv_nonneg (by omega) (by omega)
          omega
      unfold f_backwashref33_Slide_B3
      simp only
      refine Ok.iteB (fun _ => ?_) (fun hx => by simp only [decide_eq_false_iff_not] at hx; omega)
      refine Ok.bind (Ok.idxN hi (Ok.guard (by omega) ?_))
      rw [Int.tdiv_eq_ediv_of_nonneg he.1, wrap_i64 (l[i].Epoch / step) (by omega), wrap_i64 (l[i].Epoch / step - 1024) (by omega)]
      unfold f_backwashref33_Slide_J4
      refine Ok.iteB (fun hx => ?_) (fun hx => ?_)
      · exact refInner hi he hs' (by omega) (Int.le_refl _) (by omega) hnx
      · simp only [decide_eq_false_iff_not] at hx
        refine refInner hi he hs' (by omega) (by omega) ?_ hnx
        rcases hmono with h | h
        · have := hsmall h; omega
        · exact h
    · obtain ⟨ha, hal⟩ := hJ
      rw [List.take_length] at ha
      unfold f_backwashref33_Slide_B3
      simp only
      refine Ok.iteB (fun hx => by simp only [decide_eq_true_eq] at hx; omega) (fun _ => ?_)
      unfold f_backwashref33_Slide_J2
      subst ha
      refine Ok.iteB (fun hx => Ok.some (.inr ⟨⟨hs, hI⟩, .inl ⟨rfl, ?_⟩⟩)) (fun hx => Ok.some (.inr ⟨⟨hs, hI⟩, .inr ⟨rfl, ?_⟩⟩))
      · simp only [decide_eq_true_eq] at hx; omega
      · simp only [decide_eq_false_iff_not] at hx; omega
theorem slid_same {l : List GFeed} {size step : Int} {r r' : (List GFeed) × Int} (h : Slid l size step r) (h' : RefSlid l size step r') : r = r' ∧ r.1.length ≤ 65536 := by
  obtain ⟨r1, r2⟩ := r
  rcases h with ⟨h1, h2, h3⟩ | ⟨h1, h⟩
  · rcases h' with ⟨rfl, _⟩ | ⟨h4, _⟩
    · simp only at h1 h2; subst h1 h2; exact ⟨rfl, by simp⟩
    · exact absurd h4 h3
  · rcases h' with ⟨_, h4⟩ | ⟨_, h'⟩
    · exact absurd h1 h4
    · rcases h with ⟨h2, h3, h4⟩ | ⟨h2, h3, h4⟩
      · rcases h' with ⟨rfl, _⟩ | ⟨_, h5⟩
        · simp only at h2 h3; subst h2 h3; exact ⟨rfl, by simp⟩
        · omega
      · simp only at h2 h3 h4
        rcases h' with ⟨_, h5⟩ | ⟨rfl, h5⟩
        · subst h3; omega
        · subst h2 h3; exact ⟨rfl, h4⟩
theorem sameFeeds_refl (a : List GFeed) (ha : a.length ≤ 65536) : f_backwashref33_SameFeeds a a = some true := by
  refine Ok.eq ?_
  unfold f_backwashref33_SameFeeds
  refine Ok.iteB (fun hx => by simp at hx) (fun _ => ?_)
  refine Ok.each1 (l := a) (by omega) (fun _ => True) 0 (fun rec i hi _ _ hr => ?_) (fun rec _ => ?_) trivial (Nat.zero_le _)
  · unfold f_backwashref33_SameFeeds_B1
    refine Ok.iteB (fun _ => Ok.bind (Ok.idxN hi (Ok.bind (Ok.idxN hi (Ok.iteB (fun hx => by simp at hx) (fun _ => ?_)))))) (fun hx => by simp only [decide_eq_false_iff_not] at hx; omega)
    rw [wrap_i64 ((i : Int) + 1) (by omega)]
    exact hr trivial
  · unfold f_backwashref33_SameFeeds_B1
    exact Ok.iteB (fun hx => by simp only [decide_eq_true_eq] at hx; omega) (fun _ => Ok.some rfl)
end WH
end Go.Proofs.Ytfjjpdjnpmajlaa

