/-
  The law in plain words: what its plain function gives is true. No condition beyond those that each theorem names.
-/
import Derived.Test.YtngeldeahafcfaaLibD
set_option linter.unusedSimpArgs false
set_option linter.unusedVariables false
namespace Go.Proofs.Ytngeldeahafcfaa
open Go Go.RowKit
/-! Numbers as bytes: what they are, plainly. -/
def putU (n : Nat) : List UInt8 := if n < 128 then [n.toUInt8] else (n % 128 + 128).toUInt8 :: putU (n / 128)
theorem putU_len' (k : Nat) : ∀ n, n < 128 ^ (k + 1) → (putU n).length ≤ k + 1 := by
  induction k with
  | zero => intro n h; unfold putU; rw [if_pos (by omega)]; simp
  | succ k ih =>
    intro n h
    unfold putU
    split
    · simp
    · have := ih (n / 128) (by rw [Nat.div_lt_iff_lt_mul (by omega)]; rw [Nat.pow_succ] at h; exact h)
      simp only [List.length_cons]; omega
theorem putU_len (n : Nat) (h : n < 2^64) : (putU n).length ≤ 10 := putU_len' 9 n (by omega)
def readU : List UInt8 → Nat → Nat → Nat × Nat × Nat
  | [], _, _ => (0, 0, 3)
  | x :: r, i, n => if i = 9 ∧ 1 < x.toNat then (0, 0, 4) else if 128 ≤ x.toNat then readU r (i + 1) (n + (x.toNat % 128) * 2 ^ (7 * i)) else if x.toNat = 0 ∧ 0 < i then (0, 0, 4) else (n + (x.toNat % 128) * 2 ^ (7 * i), i + 1, 0)
theorem readU_cons (x : UInt8) (r : List UInt8) (i n : Nat) : readU (x :: r) i n = if i = 9 ∧ 1 < x.toNat then (0, 0, 4) else if 128 ≤ x.toNat then readU r (i + 1) (n + (x.toNat % 128) * 2 ^ (7 * i)) else if x.toNat = 0 ∧ 0 < i then (0, 0, 4) else (n + (x.toNat % 128) * 2 ^ (7 * i), i + 1, 0) := rfl
def valU (b : List UInt8) : Nat → Nat
  | 0 => 0
  | i + 1 => valU b i + ((b[i]!).toNat % 128) * 2 ^ (7 * i)
theorem valU_lt (b : List UInt8) : ∀ i, valU b i < 2 ^ (7 * i)
  | 0 => by simp [valU]
  | i + 1 => by
    have := valU_lt b i
    have hp : 2 ^ (7 * (i + 1)) = 128 * 2 ^ (7 * i) := by rw [show 7 * (i + 1) = 7 * i + 7 by omega, Nat.pow_add]; omega
    have hm : ((b[i]!).toNat % 128) * 2 ^ (7 * i) ≤ 127 * 2 ^ (7 * i) := Nat.mul_le_mul_right _ (by omega)
    rw [valU, hp]; omega
theorem drop_get (b : List UInt8) (i : Nat) (hi : i < b.length) : b.drop i = b[i]! :: b.drop (i + 1) := by
  rw [List.drop_eq_getElem_cons hi]; simp [hi]
theorem readU_go (b : List UInt8) (i : Nat) (hi : i < b.length) (h9 : i < 9) (hx : 127 < (b[i]!).toNat) (h : readU b 0 0 = readU (b.drop i) i (valU b i)) : readU b 0 0 = readU (b.drop (i + 1)) (i + 1) (valU b (i + 1)) := by
  rw [h, drop_get b i hi, readU_cons, if_neg (by omega), if_pos (by omega), valU]
theorem readU_end (b : List UInt8) (i : Nat) (hi : i < b.length) (hx : ¬ (i < 9 ∧ 127 < (b[i]!).toNat)) (h9 : i ≤ 9) (h : readU b 0 0 = readU (b.drop i) i (valU b i)) :
    readU b 0 0 = if (i = 9 ∧ 1 < (b[i]!).toNat) ∨ (0 < i ∧ (b[i]!).toNat = 0) then (0, 0, 4) else (valU b (i + 1), i + 1, 0) := by
  rw [h, drop_get b i hi, readU_cons]
  by_cases h1 : i = 9 ∧ 1 < (b[i]!).toNat
  · rw [if_pos h1, if_pos (.inl h1)]
  · rw [if_neg h1, if_neg (by omega)]
    by_cases h2 : 0 < i ∧ (b[i]!).toNat = 0
    · rw [if_pos (by omega), if_pos (.inr h2)]
    · rw [if_neg (by omega), if_neg (by omega), valU]
def unzig (n : Nat) : Int := if n % 2 = 1 then -((n / 2 : Nat) : Int) - 1 else ((n / 2 : Nat) : Int)
theorem xor_zero (a : Nat) (h : a < 2 ^ 63) : xorI .i64 (a : Int) 0 = a := by
  unfold xorI
  have : (BitVec.ofInt IntKind.i64.bits 0) = 0#IntKind.i64.bits := by simp [IntKind.bits]
  rw [this, BitVec.xor_zero, toNat_ofInt_nat]
  simp only [IntKind.bits]
  rw [Nat.mod_eq_of_lt (by omega), wrap_i64 _ (by omega)]
theorem xor_ones (a : Nat) (h : a < 2 ^ 63) : xorI .i64 (a : Int) (-1) = -(a : Int) - 1 := by
  unfold xorI
  have : (BitVec.ofInt IntKind.i64.bits (-1)) = BitVec.allOnes IntKind.i64.bits := by simp only [IntKind.bits]; decide
  rw [this, BitVec.xor_allOnes, BitVec.toNat_not, toNat_ofInt_nat]
  simp only [IntKind.bits]
  rw [Nat.mod_eq_of_lt (by omega), wrap_i64_if]
  split <;> omega
theorem unzig_wire (n : Nat) (h : n < 2 ^ 64) : xorI .i64 (IntKind.i64.wrap (shrI .u64 (n : Int) 1)) (IntKind.i64.wrap (0 - IntKind.i64.wrap (andI .u64 (n : Int) 1))) = unzig n := by
  have e1 : andI .u64 (n : Int) 1 = ((n % 2 : Nat) : Int) := by
    have := andI_nat .u64 n 1 rfl (by simpa [IntKind.bits] using h) (by simp [IntKind.bits])
    rw [Nat.and_one_is_mod] at this
    exact this
  rw [shrI_u64_1, e1, wrap_i64 ((n / 2 : Nat) : Int) (by omega), wrap_i64 ((n % 2 : Nat) : Int) (by omega), wrap_i64 (0 - _) (by omega)]
  unfold unzig
  split
  · rename_i h1
    rw [h1, show (0 - ((1 : Nat) : Int)) = -1 from rfl, xor_ones _ (by omega)]
  · rw [show n % 2 = 0 by omega, show (0 - ((0 : Nat) : Int)) = 0 from rfl, xor_zero _ (by omega)]
theorem readU_lt (b : List UInt8) : ∀ i n, i ≤ 9 → n < 2 ^ (7 * i) → (readU b i n).1 < 2 ^ 64 := by
  induction b with
  | nil => intro i n _ _; simp [readU]
  | cons x r ih =>
    intro i n hi hn
    rw [readU_cons]
    have hp : 2 ^ (7 * (i + 1)) = 128 * 2 ^ (7 * i) := by rw [show 7 * (i + 1) = 7 * i + 7 by omega, Nat.pow_add]; omega
    have hm : (x.toNat % 128) * 2 ^ (7 * i) ≤ 127 * 2 ^ (7 * i) := Nat.mul_le_mul_right _ (by omega)
    split
    · simp
    · rename_i h1
      split
      · exact ih _ _ (by omega) (by omega)
      · split
        · simp
        · by_cases h9 : i = 9
          · subst h9
            have : (x.toNat % 128) * 2 ^ (7 * 9) ≤ 1 * 2 ^ (7 * 9) := Nat.mul_le_mul_right _ (by omega)
            simp only; omega
          · have : 2 ^ (7 * (i + 1)) ≤ 2 ^ 63 := Nat.pow_le_pow_right (by omega) (by omega)
            simp only; omega
def zig (m : Int) : Nat := if 0 ≤ m then (2 * m).toNat else (-2 * m - 1).toNat
theorem zig_lt (m : Int) (h : -9223372036854775808 ≤ m ∧ m < 9223372036854775808) : zig m < 2 ^ 64 := by
  unfold zig; split <;> omega
theorem xor_u64_zero (a : Int) (h : 0 ≤ a ∧ a < 18446744073709551616) : xorI .u64 a 0 = a := by
  unfold xorI
  have : (BitVec.ofInt IntKind.u64.bits 0) = 0#IntKind.u64.bits := by simp [IntKind.bits]
  rw [this, BitVec.xor_zero, show a = ((a.toNat : Nat) : Int) by omega, toNat_ofInt_nat]
  simp only [IntKind.bits]
  rw [Nat.mod_eq_of_lt (by omega), wrap_u64_in _ (by omega)]
theorem xor_u64_ones (a : Int) (h : 0 ≤ a ∧ a < 18446744073709551616) : xorI .u64 a 18446744073709551615 = 18446744073709551615 - a := by
  unfold xorI
  have : (BitVec.ofInt IntKind.u64.bits 18446744073709551615) = BitVec.allOnes IntKind.u64.bits := by simp only [IntKind.bits]; decide
  rw [this, BitVec.xor_allOnes, BitVec.toNat_not, show a = ((a.toNat : Nat) : Int) by omega, toNat_ofInt_nat]
  simp only [IntKind.bits]
  rw [Nat.mod_eq_of_lt (by omega), wrap_u64_in _ (by omega)]
  omega
theorem wrap_u64_mod (m : Int) : IntKind.u64.wrap m = m % 18446744073709551616 := by
  simp [IntKind.wrap, IntKind.signed, IntKind.bits]
theorem zig_wire (m : Int) (h : -9223372036854775808 ≤ m ∧ m < 9223372036854775808) : xorI .u64 (shlI .u64 (IntKind.u64.wrap m) 1) (IntKind.u64.wrap (shrI .i64 m 63)) = (zig m : Int) := by
  have e1 : shlI .u64 (IntKind.u64.wrap m) 1 = (2 * m) % 18446744073709551616 := by
    unfold shlI
    rw [show min (1 : Int).toNat (IntKind.u64.bits) = 1 by simp [IntKind.bits], wrap_u64_mod, wrap_u64_mod]
    omega
  have e2 : shrI .i64 m 63 = if 0 ≤ m then 0 else -1 := by
    unfold shrI
    rw [show min (63 : Int).toNat (IntKind.i64.bits) = 63 by simp [IntKind.bits], Int.fdiv_eq_ediv_of_nonneg _ (by decide), show ((2 : Int) ^ 63) = 9223372036854775808 by decide]
    split <;> omega
  rw [e1, e2]
  unfold zig
  split
  · rw [show IntKind.u64.wrap 0 = 0 from rfl, xor_u64_zero _ (by omega)]; omega
  · rw [show IntKind.u64.wrap (-1) = 18446744073709551615 from rfl, xor_u64_ones _ (by omega)]; omega
theorem putU_small (v : Nat) (h : v < 128) : putU v = [v.toUInt8] := by unfold putU; rw [if_pos h]
theorem putU_big (v : Nat) (h : ¬ v < 128) : putU v = (v % 128 + 128).toUInt8 :: putU (v / 128) := by
  conv => lhs; unfold putU
  rw [if_neg h]
theorem putU_pos (v : Nat) : 0 < (putU v).length := by
  by_cases h : v < 128
  · rw [putU_small v h]; simp
  · rw [putU_big v h]; simp
theorem u8_toNat (v : Nat) (h : v < 256) : v.toUInt8.toNat = v := by
  rw [Nat.toUInt8_eq, UInt8.toNat_ofNat']
  omega
theorem putU_mono : ∀ (k n m : Nat), n < k → n ≤ m → (putU n).length ≤ (putU m).length
  | 0, n, m, h, _ => by omega
  | k + 1, n, m, h, hnm => by
    by_cases h1 : n < 128
    · rw [putU_small n h1]; exact putU_pos m
    · rw [putU_big n h1, putU_big m (by omega)]
      have := putU_mono k (n / 128) (m / 128) (by omega) (by omega)
      simpa using this
theorem pow_step (i : Nat) : 2 ^ (7 * (i + 1)) = 128 * 2 ^ (7 * i) := by rw [show 7 * (i + 1) = 7 * i + 7 by omega, Nat.pow_add]; omega
theorem put_cond (i v : Nat) (hv : v * 2 ^ (7 * i) < 2 ^ 64) (h9 : i ≤ 9) : (i = 9 → v ≤ 1) := by
  intro h; subst h; omega
theorem readU_put : ∀ (k v : Nat) (t : List UInt8) (i n : Nat), v < k → i ≤ 9 → v * 2 ^ (7 * i) < 2 ^ 64 → (0 < i → 0 < v) →
    readU (putU v ++ t) i n = (n + v * 2 ^ (7 * i), i + (putU v).length, 0)
  | 0, v, t, i, n, h, _, _, _ => by omega
  | k + 1, v, t, i, n, h, h9, hv, h0 => by
    have hc := put_cond i v hv h9
    by_cases h1 : v < 128
    · rw [putU_small v h1, List.cons_append, readU_cons, u8_toNat v (by omega), if_neg (by omega), if_neg (by omega), if_neg (by omega), Nat.mod_eq_of_lt h1]
      simp
    · have hi : i ≠ 9 := fun h => by have := hc h; omega
      have hp := pow_step i
      have hdm : v = 128 * (v / 128) + v % 128 := (Nat.div_add_mod v 128).symm
      have hmul : v * 2 ^ (7 * i) = (v / 128) * 2 ^ (7 * (i + 1)) + (v % 128) * 2 ^ (7 * i) := by
        rw [hp, ← Nat.mul_assoc, ← Nat.add_mul, Nat.mul_comm (v / 128), ← hdm]
      rw [putU_big v h1, List.cons_append, readU_cons, u8_toNat _ (by omega), if_neg (by omega), if_pos (by omega),
        readU_put k (v / 128) t (i + 1) _ (by omega) (by omega) (by omega) (by omega)]
      have : (v % 128 + 128) % 128 = v % 128 := by omega
      rw [this, hmul]
      simp only [List.length_cons, Prod.mk.injEq, and_true]
      exact ⟨by omega, by omega⟩
theorem readU_short : ∀ (k v j i n : Nat), v < k → i ≤ 9 → v * 2 ^ (7 * i) < 2 ^ 64 → (0 < i → 0 < v) → j < (putU v).length →
    readU ((putU v).take j) i n = (0, 0, 3)
  | 0, v, j, i, n, h, _, _, _, _ => by omega
  | k + 1, v, 0, i, n, h, h9, hv, h0, hj => by simp [readU]
  | k + 1, v, j + 1, i, n, h, h9, hv, h0, hj => by
    have hc := put_cond i v hv h9
    by_cases h1 : v < 128
    · rw [putU_small v h1] at hj; simp at hj
    · have hi : i ≠ 9 := fun h => by have := hc h; omega
      have hp := pow_step i
      have hdm : v = 128 * (v / 128) + v % 128 := (Nat.div_add_mod v 128).symm
      have hmul : v * 2 ^ (7 * i) = (v / 128) * 2 ^ (7 * (i + 1)) + (v % 128) * 2 ^ (7 * i) := by
        rw [hp, ← Nat.mul_assoc, ← Nat.add_mul, Nat.mul_comm (v / 128), ← hdm]
      rw [putU_big v h1] at hj
      rw [putU_big v h1, List.take_succ_cons, readU_cons, u8_toNat _ (by omega), if_neg (by omega), if_pos (by omega),
        readU_short k (v / 128) j (i + 1) _ (by omega) (by omega) (by omega) (by omega) (by simp at hj; omega)]
theorem u8_back (x : UInt8) : x.toNat.toUInt8 = x := by simp
theorem readU_back : ∀ (b : List UInt8) (i n y s : Nat), readU b i n = (y, s, 0) → ∃ v, y = n + v * 2 ^ (7 * i) ∧ i < s ∧ s - i ≤ b.length ∧ putU v = b.take (s - i) ∧ (0 < i → 0 < v)
  | [], i, n, y, s, h => by simp [readU] at h
  | x :: r, i, n, y, s, h => by
    rw [readU_cons] at h
    have hx := x.toNat_lt
    split at h
    · simp at h
    · split at h
      · rename_i h1
        obtain ⟨v, e1, e2, e3, e4, e5⟩ := readU_back r (i + 1) _ y s h
        have hp := pow_step i
        have h0 := e5 (by omega)
        refine ⟨x.toNat % 128 + 128 * v, ?_, by omega, by simp; omega, ?_, fun _ => by omega⟩
        · rw [e1, hp, Nat.add_mul, ← Nat.mul_assoc, Nat.mul_comm v 128]; omega
        · rw [putU_big _ (by omega), show (x.toNat % 128 + 128 * v) / 128 = v by omega, e4, show s - i = (s - (i + 1)) + 1 by omega, List.take_succ_cons,
            show (x.toNat % 128 + 128 * v) % 128 + 128 = x.toNat by omega, u8_back]
      · split at h
        · simp at h
        · rename_i h1 h2
          simp only [Prod.mk.injEq, and_true] at h
          refine ⟨x.toNat, by rw [← h.1, Nat.mod_eq_of_lt (by omega)], by omega, by simp; omega, ?_, fun _ => by omega⟩
          rw [putU_small _ (by omega), u8_back, show s - i = 1 by omega]
          simp
theorem unzig_zig (m : Int) : unzig (zig m) = m := by
  unfold unzig zig
  split <;> split <;> omega
theorem wrap_succ {i : Nat} (h : i < 9223372036854775807) : IntKind.i64.wrap ((i : Int) + 1) = ((i + 1 : Nat) : Int) := by rw [wrap_i64 _ (by omega)]; omega
theorem toB_of (n : Nat) : toB (n : Int) = n.toUInt8 := by simp [toB]
theorem readU_size : ∀ (b : List UInt8) (i n : Nat), (readU b i n).2.1 ≤ i + b.length ∧ ((readU b i n).2.2 ≠ 0 → (readU b i n).1 = 0 ∧ (readU b i n).2.1 = 0) ∧ ((readU b i n).2.2 = 0 → i < (readU b i n).2.1) ∧ (readU b i n).2.2 < 5
  | [], i, n => by simp [readU]
  | x :: r, i, n => by
    rw [readU_cons]
    split
    · simp
    · split
      · have := readU_size r (i + 1) (n + (x.toNat % 128) * 2 ^ (7 * i))
        simp only [List.length_cons]
        refine ⟨by omega, this.2.1, fun h => ?_, this.2.2.2⟩
        have := this.2.2.1 h; omega
      · split
        · simp
        · simp
end Go.Proofs.Ytngeldeahafcfaa

