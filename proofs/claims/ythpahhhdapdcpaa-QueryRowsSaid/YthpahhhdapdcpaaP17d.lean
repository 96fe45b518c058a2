/-
  The law in plain words: what its plain function gives is true. No condition beyond those that each theorem names.
-/
import Derived.Test.YthpahhhdapdcpaaP17c
set_option linter.unusedSimpArgs false
set_option linter.unusedVariables false
namespace Go.Proofs.Ythpahhhdapdcpaa
open Go Go.RowKit
namespace QY
/-! The document's row: its sums in parts. -/
theorem and21 (a : Int) : andI .i64 a 2097151 = a % 2097152 := by
  have e : (BitVec.ofInt 64 a &&& BitVec.ofInt 64 2097151).toNat = (BitVec.ofInt 64 a).toNat % 2097152 := by
    rw [BitVec.toNat_and, show (BitVec.ofInt 64 2097151).toNat = 2 ^ 21 - 1 from rfl, Nat.and_two_pow_sub_one_eq_mod]
  have e2 : ((BitVec.ofInt 64 a).toNat : Int) = a % 18446744073709551616 := by
    rw [BitVec.toNat_ofInt, Int.toNat_of_nonneg (Int.emod_nonneg _ (by decide))]; rfl
  unfold andI
  show IntKind.i64.wrap (((BitVec.ofInt 64 a &&& BitVec.ofInt 64 2097151).toNat : Nat) : Int) = _
  rw [e, Int.natCast_emod, e2]
  rw [wrap_i64 _ (by omega)]
  omega
theorem shr21 (a : Int) : shrI .i64 a 21 = a / 2097152 := by
  unfold shrI
  rw [Int.fdiv_eq_ediv_of_nonneg _ (by decide)]; rfl
theorem shr42 (a : Int) : shrI .i64 a 42 = a / 4398046511104 := by
  unfold shrI
  rw [Int.fdiv_eq_ediv_of_nonneg _ (by decide)]; rfl
theorem shl21 (a : Int) (h : fits (a * 2097152)) : shlI .i64 a 21 = a * 2097152 := by
  show IntKind.i64.wrap (a * 2097152) = _
  exact wrap_i64 _ h
theorem shl42 (a : Int) (h : fits (a * 4398046511104)) : shlI .i64 a 42 = a * 4398046511104 := by
  show IntKind.i64.wrap (a * 4398046511104) = _
  exact wrap_i64 _ h
structure HOf (L : List Int) (hi mid lo : Int) (r : GRow) : Prop where
  many : r.Many = (L.length : Int)
  lm : L ≠ [] → r.Least ∈ L
  ll : ∀ v ∈ L, r.Least ≤ v
  tm : L ≠ [] → r.Top ∈ L
  tt : ∀ v ∈ L, v ≤ r.Top
  sum : hi * 4398046511104 + mid * 2097152 + lo = L.sum
  lo0 : 0 ≤ lo ∧ lo ≤ 2097152 * (L.length : Int)
  mid0 : 0 ≤ mid ∧ mid ≤ 2097152 * (L.length : Int)
  hi0 : -2097152 * (L.length : Int) ≤ hi ∧ hi ≤ 2097152 * (L.length : Int)
  s0 : r.Sum = 0
  s1 : r.Sure = false
theorem rowJ1_spec {L : List Int} {hi mid lo : Int} {r : GRow} (h : HOf L hi mid lo r) (hn : L ≠ []) (hl : L.length ≤ 200) : Ok (f_backwashref32_row_J1 hi mid lo r) (fun q => q.K = r.K ∧ RowOf L q) := by
  have h1 := h.sum
  obtain ⟨a1, a2⟩ := h.lo0
  obtain ⟨b1, b2⟩ := h.mid0
  obtain ⟨c1, c2⟩ := h.hi0
  unfold f_backwashref32_row_J1
  simp only [and21, shr21]
  rw [wrap_i64 (mid + lo / 2097152) (by omega), wrap_i64 (hi + (mid + lo / 2097152) / 2097152) (by omega)]
  generalize hH : hi + (mid + lo / 2097152) / 2097152 = H
  generalize hM : (mid + lo / 2097152) % 2097152 = M
  generalize hN : lo % 2097152 = N
  have hS : L.sum = H * 4398046511104 + M * 2097152 + N := by omega
  have hM0 : 0 ≤ M ∧ M < 2097152 := by omega
  have hN0 : 0 ≤ N ∧ N < 2097152 := by omega
  refine Ok.iteB (fun hc => Ok.some ⟨rfl, ?_⟩) (fun hc => Ok.some ⟨rfl, ?_⟩)
  · simp only [Bool.and_eq_true, decide_eq_true_eq] at hc
    have hf : fits L.sum := by unfold fits; omega
    rw [shl42 H (by unfold fits; omega), shl21 M (by unfold fits; omega), wrap_i64 (H * 4398046511104 + M * 2097152) (by omega), wrap_i64 _ (by omega), ← hS]
    exact ⟨hn, h.many, h.lm hn, h.ll, h.tm hn, h.tt, by simp [hf], by rw [if_pos hf]⟩
  · have hc' : ¬ (-2097152 ≤ H ∧ H ≤ 2097151) := fun e => by simp [e.1, e.2] at hc
    have hf : ¬ fits L.sum := by unfold fits; omega
    exact ⟨hn, h.many, h.lm hn, h.ll, h.tm hn, h.tt, by rw [h.s1]; simp [hf], by rw [h.s0, if_neg hf]⟩
theorem recs_take {l : List GOut} {i : Nat} (h : i < l.length) (node a b : Int) : recs (l.take (i + 1)) node a b = recs (l.take i) node a b ++ if hit node a b l[i] = true then [l[i].Rec] else [] := by
  rw [List.take_succ_eq_append_getElem h]
  unfold recs
  rw [List.filter_append, List.map_append, List.filter_cons]
  split <;> rfl
theorem row_ref {l : List GOut} {key node a b : Int} (hl : l.length ≤ 200) (hf : ∀ o ∈ l, fits o.Rec.V) (hn : vals (recs l node a b) key ≠ []) : Ok (f_backwashref32_row l key node a b) (fun q => q.K = key ∧ RowOf (vals (recs l node a b) key) q) := by
  unfold f_backwashref32_row
  refine Ok.loop0 (fun s => ∃ i : Nat, s.2.2.2.1 = (i : Int) ∧ i ≤ l.length ∧ s.2.2.2.2.K = key ∧ HOf (vals (recs (l.take i) node a b) key) s.1 s.2.1 s.2.2.1 s.2.2.2.2) (fun s => l.length - s.2.2.2.1.toNat) ?_
    ⟨0, rfl, Nat.zero_le _, rfl, by simp only [List.take_zero]; exact ⟨rfl, by simp [recs, vals], by simp [recs, vals], by simp [recs, vals], by simp [recs, vals], rfl, by simp [recs, vals], by simp [recs, vals], by simp [recs, vals], rfl, rfl⟩⟩ (by simp only [rounds]; omega)
  rintro rec ⟨hi, mid, lo, t, r⟩ ⟨i, ht, hi', hk, hH⟩ hr
  simp only at ht hk hH
  subst ht
  have hvl : (vals (recs (l.take i) node a b) key).length ≤ i := by
    have h1 := vals_len (recs (l.take i) node a b) key
    have h2 := recs_len (l.take i) node a b
    rw [List.length_take] at h2; omega
  unfold f_backwashref32_row_B2
  simp only
  refine Ok.iteB (fun hc => ?_) (fun hc => ?_)
  rotate_left
  · simp only [decide_eq_false_iff_not] at hc
    have he : i = l.length := by omega
    rw [he, List.take_length] at hH hvl
    exact (rowJ1_spec hH hn (by omega)).mono fun q hq => ⟨hq.1.trans hk, hq.2⟩
  simp only [decide_eq_true_eq] at hc
  have hlt : i < l.length := by omega
  have hin : f_backwashref32_in l[i] node a b = some (hit node a b l[i]) := rfl
  refine Ok.bind (Ok.idxN hlt (Ok.bind (Ok.of_eq hin ?_)))
  rw [wrap_i64 ((i : Int) + 1) (by omega)]
  have hsame : vals (recs (l.take (i + 1)) node a b) key = vals (recs (l.take i) node a b) key → Ok (rec (hi, mid, lo, (i : Int) + 1, r)) (fun q => q.K = key ∧ RowOf (vals (recs l node a b) key) q) := fun e =>
    hr _ ⟨i + 1, by simp, by omega, hk, by rw [e]; exact hH⟩ (by simp only; omega)
  refine Ok.iteB (fun h1 => Ok.iteB (fun h2 => hsame ?_) (fun h2 => ?_)) (fun h1 => hsame ?_)
  · rw [recs_take hlt, if_pos h1, vals_append, vals_other (by simpa using h2), List.append_nil]
  · have hkey : l[i].Rec.K = key := by simpa using h2
    have he : vals (recs (l.take (i + 1)) node a b) key = vals (recs (l.take i) node a b) key ++ [l[i].Rec.V] := by
      rw [recs_take hlt, if_pos h1, vals_append, ← hkey, vals_one]
    have hv := hf _ (List.getElem_mem hlt)
    generalize hV : l[i].Rec.V = V at hv he
    generalize hL : vals (recs (l.take i) node a b) key = L at hH hvl he
    have hm := hH.many
    have hJ3 : ∀ (b' : GRow), b'.K = r.K → b'.Many = r.Many → b'.Top = r.Top → b'.Sum = r.Sum → b'.Sure = r.Sure → (b'.Least ∈ L ++ [V] ∧ ∀ x ∈ L ++ [V], b'.Least ≤ x) → Ok (f_backwashref32_row_J3 hi mid lo (i : Int) rec l[i] b') (fun q => q.K = key ∧ RowOf (vals (recs l node a b) key) q) := fun b' e1 e2 e3 e4 e5 e6 => by
      have hin2 : ∀ (b'' : GRow), b''.K = r.K → b''.Many = IntKind.i64.wrap (r.Many + 1) → b''.Sum = r.Sum → b''.Sure = r.Sure → (b''.Least ∈ L ++ [V] ∧ ∀ x ∈ L ++ [V], b''.Least ≤ x) → (b''.Top ∈ L ++ [V] ∧ ∀ x ∈ L ++ [V], x ≤ b''.Top) →
          Ok (rec (IntKind.i64.wrap (hi + shrI .i64 V 42), IntKind.i64.wrap (mid + andI .i64 (shrI .i64 V 21) 2097151), IntKind.i64.wrap (lo + andI .i64 V 2097151), (i : Int) + 1, b'')) (fun q => q.K = key ∧ RowOf (vals (recs l node a b) key) q) := fun b'' f1 f2 f4 f5 f6 f7 => by
        obtain ⟨a1, a2⟩ := hH.lo0
        obtain ⟨b1, b2⟩ := hH.mid0
        obtain ⟨c1, c2⟩ := hH.hi0
        have hs := hH.sum
        unfold fits at hv
        rw [and21, and21, shr21, shr42, wrap_i64 (hi + V / 4398046511104) (by omega), wrap_i64 (mid + V / 2097152 % 2097152) (by omega), wrap_i64 (lo + V % 2097152) (by omega)]
        refine hr _ ⟨i + 1, by simp, by omega, f1.trans hk, ?_⟩ (by simp only; omega)
        rw [he]
        refine ⟨?_, fun _ => f6.1, f6.2, fun _ => f7.1, f7.2, ?_, ?_, ?_, ?_, f4.trans hH.s0, f5.trans hH.s1⟩
        · rw [f2, hm, wrap_i64 _ (by omega)]; simp
        · simp only [List.sum_append, List.sum_cons, List.sum_nil]; omega
        · simp only [List.length_append, List.length_cons, List.length_nil]; omega
        · simp only [List.length_append, List.length_cons, List.length_nil]; omega
        · simp only [List.length_append, List.length_cons, List.length_nil]; omega
      unfold f_backwashref32_row_J3
      rw [hV, wrap_i64 ((i : Int) + 1) (by omega)]
      refine Ok.iteB (fun hx => hin2 _ e1 (by simp only; rw [e2]) e4 e5 e6 ⟨by simp, fun x hx2 => ?_⟩) (fun hx => hin2 _ e1 (by simp only; rw [e2]) e4 e5 e6 ?_)
      · simp only [Bool.or_eq_true, beq_iff_eq, decide_eq_true_eq, e2, e3, hm] at hx
        rcases List.mem_append.1 hx2 with hx2 | hx2
        · have := hH.tt x hx2
          have : 0 < L.length := List.length_pos_of_mem hx2
          show x ≤ V
          omega
        · rw [List.mem_singleton] at hx2; rw [hx2]; exact Int.le_refl _
      · simp only [Bool.or_eq_false_iff, beq_eq_false_iff_ne, ne_eq, decide_eq_false_iff_not, e2, e3, hm] at hx
        have hne : L ≠ [] := fun e => by rw [e] at hx; simp at hx
        rw [e3]
        refine ⟨List.mem_append_left _ (hH.tm hne), fun x hx2 => ?_⟩
        rcases List.mem_append.1 hx2 with hx2 | hx2
        · exact hH.tt x hx2
        · rw [List.mem_singleton] at hx2; omega
    refine Ok.iteB (fun hx => hJ3 _ rfl rfl rfl rfl rfl ⟨by simp, fun x hx2 => ?_⟩) (fun hx => hJ3 r rfl rfl rfl rfl rfl ?_)
    · simp only [Bool.or_eq_true, beq_iff_eq, decide_eq_true_eq, hm] at hx
      rcases List.mem_append.1 hx2 with hx2 | hx2
      · have := hH.ll x hx2
        have : 0 < L.length := List.length_pos_of_mem hx2
        show V ≤ x
        omega
      · rw [List.mem_singleton] at hx2; rw [hx2]; exact Int.le_refl _
    · simp only [Bool.or_eq_false_iff, beq_eq_false_iff_ne, ne_eq, decide_eq_false_iff_not, hm] at hx
      have hne : L ≠ [] := fun e => by rw [e] at hx; simp at hx
      refine ⟨List.mem_append_left _ (hH.lm hne), fun x hx2 => ?_⟩
      rcases List.mem_append.1 hx2 with hx2 | hx2
      · exact hH.ll x hx2
      · rw [List.mem_singleton] at hx2; omega
  · rw [recs_take hlt, if_neg (by rw [h1]; simp), List.append_nil]
end QY
end Go.Proofs.Ythpahhhdapdcpaa

