/-
  The law in plain words: what its plain function gives is true. No condition beyond those that each theorem names.
-/
import Derived.Test.YtocnabkanbifdaaGreatDoorWalkTB0
import Derived.Test.YtocnabkanbifdaaGreatDoorLibD
set_option linter.unusedSimpArgs false
set_option linter.unusedVariables false
set_option linter.unusedSectionVars false
namespace Go.Proofs.YtocnabkanbifdaaGreatDoor
open Go Go.RowKit
/-! Numbers as bytes: what they are, plainly. -/
def putU (n : Nat) : List UInt8 := if n < 128 then [n.toUInt8] else (n % 128 + 128).toUInt8 :: putU (n / 128)
theorem putU_len' (k : Nat) : ∀ n, n < 128 ^ (k + 1) → (putU n).length ≤ k + 1 := by
 induction k with
 | zero => intro n h; unfold putU; rw [if_pos (by omega)]; simp
 | succ k ih =>
  intro n h
  unfold putU
  split
  · simp
  ·
   have := ih (n / 128) (by rw [Nat.div_lt_iff_lt_mul (by omega)]; rw [Nat.pow_succ] at h; exact h)
   simp only [List.length_cons]; omega
theorem putU_len (n : Nat) (h : n < 2^64) : (putU n).length ≤ 10 := putU_len' 9 n (by omega)
theorem xor_zero (a : Nat) (h : a < 2 ^ 63) : xorI .i64 (a : Int) 0 = a := by
 unfold xorI
 have : (BitVec.ofInt IntKind.i64.bits 0) = 0#IntKind.i64.bits := by simp [IntKind.bits]
 rw [this, BitVec.xor_zero, toNat_ofInt_nat]
 simp only [IntKind.bits]
 rw [Nat.mod_eq_of_lt (by omega), wrap_i64 _ (by omega)]
def zig (m : Int) : Nat := if 0 ≤ m then (2 * m).toNat else (-2 * m - 1).toNat
theorem zig_lt (m : Int) (h : -9223372036854775808 ≤ m ∧ m < 9223372036854775808) : zig m < 2 ^ 64 := by
 unfold zig; split <;> omega
theorem xor_u64_zero (a : Int) (h : 0 ≤ a ∧ a < 18446744073709551616) : xorI .u64 a 0 = a := by
 unfold xorI
 have : (BitVec.ofInt IntKind.u64.bits 0) = 0#IntKind.u64.bits := by simp [IntKind.bits]
 rw [this, BitVec.xor_zero, show a = ((a.toNat : Nat) : Int) by omega, toNat_ofInt_nat]
 simp only [IntKind.bits]
 rw [Nat.mod_eq_of_lt (by omega), wrap_u64_in _ (by omega)]
theorem xor_u64_ones (a : Int) (h : 0 ≤ a ∧ a < 18446744073709551616) : xorI .u64 a 18446744073709551615 = 18446744073709551615 - a := by
 unfold xorI
 have : (BitVec.ofInt IntKind.u64.bits 18446744073709551615) = BitVec.allOnes IntKind.u64.bits := by simp only [IntKind.bits]; decide
 rw [this, BitVec.xor_allOnes, BitVec.toNat_not, show a = ((a.toNat : Nat) : Int) by omega, toNat_ofInt_nat]
 simp only [IntKind.bits]
 rw [Nat.mod_eq_of_lt (by omega), wrap_u64_in _ (by omega)]
 omega
theorem wrap_u64_mod (m : Int) : IntKind.u64.wrap m = m % 18446744073709551616 := by
 simp [IntKind.wrap, IntKind.signed, IntKind.bits]
theorem zig_wire (m : Int) (h : -9223372036854775808 ≤ m ∧ m < 9223372036854775808) : xorI .u64 (shlI .u64 (IntKind.u64.wrap m) 1) (IntKind.u64.wrap (shrI .i64 m 63)) = (zig m : Int) := by
 have e1 : shlI .u64 (IntKind.u64.wrap m) 1 = (2 * m) % 18446744073709551616 := by
  unfold shlI
  rw [show min (1 : Int).toNat (IntKind.u64.bits) = 1 by simp [IntKind.bits], wrap_u64_mod, wrap_u64_mod]
  omega
 have e2 : shrI .i64 m 63 = if 0 ≤ m then 0 else -1 := by
  unfold shrI
  rw [show min (63 : Int).toNat (IntKind.i64.bits) = 63 by simp [IntKind.bits], Int.fdiv_eq_ediv_of_nonneg _ (by decide), show ((2 : Int) ^ 63) = 9223372036854775808 by decide]
  split <;> omega
 rw [e1, e2]
 unfold zig
 split
 · rw [show IntKind.u64.wrap 0 = 0 from rfl, xor_u64_zero _ (by omega)]; omega
 · rw [show IntKind.u64.wrap (-1) = 18446744073709551615 from rfl, xor_u64_ones _ (by omega)]; omega
theorem putU_small (v : Nat) (h : v < 128) : putU v = [v.toUInt8] := by unfold putU; rw [if_pos h]
theorem putU_big (v : Nat) (h : ¬ v < 128) : putU v = (v % 128 + 128).toUInt8 :: putU (v / 128) := by
 conv => lhs; unfold putU
 rw [if_neg h]
theorem wrap_succ {i : Nat} (h : i < 9223372036854775807) : IntKind.i64.wrap ((i : Int) + 1) = ((i + 1 : Nat) : Int) := by rw [wrap_i64 _ (by omega)]; omega
theorem toB_of (n : Nat) : toB (n : Int) = n.toUInt8 := by simp [toB]
end Go.Proofs.YtocnabkanbifdaaGreatDoor
