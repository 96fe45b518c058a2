/-
  The law in plain words: what its plain function gives is true. No condition beyond those that each theorem names.
-/
import Derived.Test.YthpahhhdapdcpaaP17a
set_option linter.unusedSimpArgs false
set_option linter.unusedVariables false
namespace Go.Proofs.Ythpahhhdapdcpaa
open Go Go.RowKit
namespace QY
/-! Sums of 128 bits; a group's row. -/
theorem shr63 (v : Int) (h : fits v) : shrI .i64 v 63 = if v < 0 then -1 else 0 := by
  unfold fits at h
  have : shrI .i64 v 63 = v / 9223372036854775808 := by
    unfold shrI
    rw [Int.fdiv_eq_ediv_of_nonneg _ (by decide)]
    rfl
  rw [this]
  split <;> omega
def wv (w : GQuery_wide) : Int := w.hi * 18446744073709551616 + w.lo.n
theorem plus_spec {w : GQuery_wide} {v : Int} (hv : fits v) (h0 : 0 ≤ w.lo.n) (h1 : w.lo.n < 18446744073709551616) (h2 : -1000000 < w.hi ∧ w.hi < 1000000) : Ok (f_query_wide_plus w v) (fun r => wv r = wv w + v ∧ 0 ≤ r.lo.n ∧ r.lo.n < 18446744073709551616) := by
  unfold f_query_wide_plus f_math_bits_Add64 add64F
  have hu : IntKind.u64.wrap v = if v < 0 then v + 18446744073709551616 else v := by
    unfold fits at hv
    simp only [IntKind.wrap, IntKind.bits, IntKind.signed, Bool.false_and, Bool.false_eq_true, if_false]
    split <;> omega
  refine Ok.bind (Ok.guard ⟨h0, wrapU v, by omega, by omega⟩ (Ok.some (Ok.some ?_)))
  rw [shr63 v hv, hu]
  unfold fits at hv
  obtain ⟨hi, ⟨lo⟩⟩ := w
  simp only [wv] at *
  generalize hm : (lo + (if v < 0 then v + 18446744073709551616 else v) + 0) % 18446744073709551616 = m
  generalize hq : (lo + (if v < 0 then v + 18446744073709551616 else v) + 0) / 18446744073709551616 = q
  have e : lo + (if v < 0 then v + 18446744073709551616 else v) = q * 18446744073709551616 + m := by omega
  have hm0 : 0 ≤ m ∧ m < 18446744073709551616 := by omega
  have hq0 : 0 ≤ q ∧ q ≤ 1 := by split at e <;> omega
  rw [wrap_i64 q (by omega), wrap_i64 (hi + _) (by split <;> omega), wrap_i64 (hi + _ + q) (by split <;> omega)]
  refine ⟨?_, hm0⟩
  split at e <;> rename_i hc
  · rw [if_pos hc]; omega
  · rw [if_neg hc]; omega
structure GOf (L : List Int) (g : GQuery_group) : Prop where
  many : g.Row.Many = (L.length : Int)
  lm : L ≠ [] → g.Row.Least ∈ L
  ll : ∀ v ∈ L, g.Row.Least ≤ v
  tm : L ≠ [] → g.Row.Top ∈ L
  tt : ∀ v ∈ L, v ≤ g.Row.Top
  sum : wv g.sum = L.sum
  lo0 : 0 ≤ g.sum.lo.n
  lo1 : g.sum.lo.n < 18446744073709551616
  fit : ∀ v ∈ L, fits v
theorem sum_bound : ∀ {L : List Int}, (∀ v ∈ L, fits v) → -9223372036854775808 * (L.length : Int) ≤ L.sum ∧ L.sum ≤ 9223372036854775808 * (L.length : Int)
  | [], _ => by simp
  | v :: l, h => by
    have h1 := h v (by simp)
    have h2 := sum_bound (L := l) fun x hx => h x (by simp [hx])
    unfold fits at h1
    simp only [List.sum_cons, List.length_cons]; omega
theorem GOf.hi {L : List Int} {g : GQuery_group} (h : GOf L g) (hl : L.length ≤ 200) : -1000 < g.sum.hi ∧ g.sum.hi < 1000 := by
  have h1 := sum_bound h.fit
  have h2 := h.sum
  have h3 := h.lo0
  have h4 := h.lo1
  unfold wv at h2
  omega
theorem mem_min {L : List Int} {m v : Int} (h : m ∈ L) : min m v ∈ L ++ [v] := by
  rcases Int.le_total m v with h1 | h1
  · rw [Int.min_eq_left h1]; simp [h]
  · rw [Int.min_eq_right h1]; simp
theorem mem_max {L : List Int} {m v : Int} (h : m ∈ L) : max m v ∈ L ++ [v] := by
  rcases Int.le_total m v with h1 | h1
  · rw [Int.max_eq_right h1]; simp
  · rw [Int.max_eq_left h1]; simp [h]
theorem add_spec {L : List Int} {g : GQuery_group} {v : Int} (h : GOf L g) (hv : fits v) (hl : L.length < 200) : Ok (f_query_group_add_p0 g v) (fun r => r.Row.K = g.Row.K ∧ GOf (L ++ [v]) r) := by
  have hh := h.hi (by omega)
  have key : ∀ (b : GQuery_group), b.sum = g.sum → b.Row.K = g.Row.K → b.Row.Many = g.Row.Many → (min b.Row.Least v ∈ L ++ [v] ∧ ∀ x ∈ L ++ [v], min b.Row.Least v ≤ x) → (max b.Row.Top v ∈ L ++ [v] ∧ ∀ x ∈ L ++ [v], x ≤ max b.Row.Top v) →
      Ok (f_query_group_add_p0_J1 v b) (fun r => r.Row.K = g.Row.K ∧ GOf (L ++ [v]) r) := fun b e1 e2 e3 e4 e5 => by
    unfold f_query_group_add_p0_J1
    rw [e1]
    refine Ok.bind2 (plus_spec hv h.lo0 h.lo1 (by omega)) fun w ⟨w1, w2, w3⟩ => Ok.some ⟨e2, ?_⟩
    refine ⟨?_, fun _ => e4.1, e4.2, fun _ => e5.1, e5.2, ?_, w2, w3, ?_⟩
    · simp only; rw [e3, h.many, wrap_i64 _ (by omega)]; simp
    · simp only; rw [w1, h.sum]; simp
    · intro x hx
      rcases List.mem_append.1 hx with hx | hx
      · exact h.fit x hx
      · rw [List.mem_singleton] at hx; rw [hx]; exact hv
  unfold f_query_group_add_p0
  refine Ok.iteB (fun hc => ?_) (fun hc => ?_)
  · have h0 : L = [] := by
      have := h.many
      simp only [beq_iff_eq] at hc
      exact List.eq_nil_of_length_eq_zero (by omega)
    subst h0
    exact key _ rfl rfl rfl (by simp) (by simp)
  · have h0 : L ≠ [] := by
      rintro rfl
      have := h.many
      rw [this] at hc; simp at hc
    refine key g rfl rfl rfl ⟨mem_min (h.lm h0), ?_⟩ ⟨mem_max (h.tm h0), ?_⟩
    · intro x hx
      rcases List.mem_append.1 hx with hx | hx
      · have := h.ll x hx; omega
      · rw [List.mem_singleton] at hx; omega
    · intro x hx
      rcases List.mem_append.1 hx with hx | hx
      · have := h.tt x hx; omega
      · rw [List.mem_singleton] at hx; omega
theorem row_spec {L : List Int} {g : GQuery_group} (h : GOf L g) (hn : L ≠ []) (hl : L.length ≤ 200) : Ok (f_query_group_row_p0 g) (fun r => r.1.K = g.Row.K ∧ RowOf L r.1) := by
  have hh := h.hi hl
  have hs := h.sum
  have h0 := h.lo0
  have h1 := h.lo1
  unfold f_query_group_row_p0 f_query_wide_number
  have hw : IntKind.i64.wrap g.sum.lo.n = if g.sum.lo.n < 9223372036854775808 then g.sum.lo.n else g.sum.lo.n - 18446744073709551616 := by
    rw [IntKind.wrap_i64]; split <;> omega
  unfold wv at hs
  have hf : fits (IntKind.i64.wrap g.sum.lo.n) := by rw [hw]; unfold fits; split <;> omega
  rw [shr63 _ hf, hw]
  refine Ok.bind (Ok.iteB (fun hc => Ok.some (Ok.some ⟨rfl, ?_⟩)) (fun hc => Ok.some (Ok.some ⟨rfl, ?_⟩)))
  · have hnf : ¬ fits L.sum := by
      simp only [Bool.not_eq_true', beq_eq_false_iff_ne, ne_eq] at hc
      unfold fits
      rw [← hs]
      split at hc <;> split at hc <;> omega
    exact ⟨hn, h.many, h.lm hn, h.ll, h.tm hn, h.tt, by simp [hnf], by simp [hnf]⟩
  · have hnf : fits L.sum ∧ L.sum = if g.sum.lo.n < 9223372036854775808 then g.sum.lo.n else g.sum.lo.n - 18446744073709551616 := by
      simp only [Bool.not_eq_false', beq_iff_eq] at hc
      unfold fits
      rw [← hs]
      split at hc <;> split at hc <;> (try split) <;> omega
    exact ⟨hn, h.many, h.lm hn, h.ll, h.tm hn, h.tt, by simp [hnf.1], by rw [if_pos hnf.1]; exact hnf.2.symm⟩
end QY
end Go.Proofs.Ythpahhhdapdcpaa

