/-
  What the functions of layer 6 (wire and its reference) compute: numbers are put and read as the plain functions say. Conditions: the lengths that each theorem names.
-/
import Derived.Test.YtngeldeahafcfaaLibB
import Derived.Test.YtngeldeahafcfaaProg
set_option linter.unusedSimpArgs false
set_option linter.unusedVariables false
namespace Go.Proofs.Ytngeldeahafcfaa
open Go Go.RowKit
theorem ty2_sz : szT Try.prog 2 = 1 := by kernel_rfl
theorem ty2_has : hasT Try.prog 2 = true := by kernel_rfl
theorem ty2_agg : aggT Try.prog 2 = false := by kernel_rfl
theorem ty2_by : bytesT Try.prog 2 = 8 := by kernel_rfl
theorem ty2_k : kindT Try.prog 2 = some .i64 := by kernel_rfl
theorem ty2_ar : arrayT Try.prog 2 = none := by kernel_rfl
theorem ty2_z : zeroL Try.prog 2 = some [.int .i64 0] := by kernel_rfl
theorem ty3_sz : szT Try.prog 3 = 1 := by kernel_rfl
theorem ty3_has : hasT Try.prog 3 = true := by kernel_rfl
theorem ty3_agg : aggT Try.prog 3 = false := by kernel_rfl
theorem ty3_by : bytesT Try.prog 3 = 8 := by kernel_rfl
theorem ty3_k : kindT Try.prog 3 = some .i64 := by kernel_rfl
theorem ty3_ar : arrayT Try.prog 3 = none := by kernel_rfl
theorem ty3_z : zeroL Try.prog 3 = some [.int .i64 0] := by kernel_rfl
theorem ty4_sz : szT Try.prog 4 = 1 := by kernel_rfl
theorem ty4_has : hasT Try.prog 4 = true := by kernel_rfl
theorem ty4_agg : aggT Try.prog 4 = false := by kernel_rfl
theorem ty4_by : bytesT Try.prog 4 = 1 := by kernel_rfl
theorem ty4_u : Try.prog.underlying 4 = some .bool := by kernel_rfl
theorem ty4_ar : arrayT Try.prog 4 = none := by kernel_rfl
theorem ty4_z : zeroL Try.prog 4 = some [.bool false] := by kernel_rfl
theorem ty5_sz : szT Try.prog 5 = 1 := by kernel_rfl
theorem ty5_has : hasT Try.prog 5 = true := by kernel_rfl
theorem ty5_agg : aggT Try.prog 5 = false := by kernel_rfl
theorem ty5_by : bytesT Try.prog 5 = 1 := by kernel_rfl
theorem ty5_k : kindT Try.prog 5 = some .u8 := by kernel_rfl
theorem ty5_ar : arrayT Try.prog 5 = none := by kernel_rfl
theorem ty5_z : zeroL Try.prog 5 = some [.int .u8 0] := by kernel_rfl
theorem ty22_sz : szT Try.prog 22 = 1 := by kernel_rfl
theorem ty22_has : hasT Try.prog 22 = true := by kernel_rfl
theorem ty22_agg : aggT Try.prog 22 = false := by kernel_rfl
theorem ty22_by : bytesT Try.prog 22 = 24 := by kernel_rfl
theorem ty22_e : sliceT Try.prog 22 = some 5 := by kernel_rfl
theorem ty22_ar : arrayT Try.prog 22 = none := by kernel_rfl
theorem ty22_z : zeroL Try.prog 22 = some [.slice none 0 0] := by kernel_rfl
theorem ty24_sz : szT Try.prog 24 = 1 := by kernel_rfl
theorem ty24_has : hasT Try.prog 24 = true := by kernel_rfl
theorem ty24_agg : aggT Try.prog 24 = false := by kernel_rfl
theorem ty24_by : bytesT Try.prog 24 = 8 := by kernel_rfl
theorem ty24_k : kindT Try.prog 24 = some .u64 := by kernel_rfl
theorem ty24_ar : arrayT Try.prog 24 = none := by kernel_rfl
theorem ty24_z : zeroL Try.prog 24 = some [.int .u64 0] := by kernel_rfl
theorem ty25_sz : szT Try.prog 25 = 1 := by kernel_rfl
theorem ty25_has : hasT Try.prog 25 = true := by kernel_rfl
theorem ty25_agg : aggT Try.prog 25 = false := by kernel_rfl
theorem ty25_by : bytesT Try.prog 25 = 8 := by kernel_rfl
theorem ty25_k : kindT Try.prog 25 = some .i64 := by kernel_rfl
theorem ty25_ar : arrayT Try.prog 25 = none := by kernel_rfl
theorem ty25_z : zeroL Try.prog 25 = some [.int .i64 0] := by kernel_rfl
theorem ty40_sz : szT Try.prog 40 = 1 := by kernel_rfl
theorem ty40_has : hasT Try.prog 40 = true := by kernel_rfl
theorem ty40_agg : aggT Try.prog 40 = false := by kernel_rfl
theorem ty40_by : bytesT Try.prog 40 = 1 := by kernel_rfl
theorem ty40_k : kindT Try.prog 40 = some .i8 := by kernel_rfl
theorem ty40_ar : arrayT Try.prog 40 = none := by kernel_rfl
theorem ty40_z : zeroL Try.prog 40 = some [.int .i8 0] := by kernel_rfl
theorem ty41_sz : szT Try.prog 41 = 1 := by kernel_rfl
theorem ty41_has : hasT Try.prog 41 = true := by kernel_rfl
theorem ty41_agg : aggT Try.prog 41 = false := by kernel_rfl
theorem ty41_by : bytesT Try.prog 41 = 8 := by kernel_rfl
theorem ty41_k : kindT Try.prog 41 = some .u64 := by kernel_rfl
theorem ty41_ar : arrayT Try.prog 41 = none := by kernel_rfl
theorem ty41_z : zeroL Try.prog 41 = some [.int .u64 0] := by kernel_rfl
@[go_sem] theorem ty : (szT Try.prog 2 = 1) ∧ (hasT Try.prog 2 = true) ∧ (aggT Try.prog 2 = false) ∧ (bytesT Try.prog 2 = 8) ∧ (kindT Try.prog 2 = some .i64) ∧ (arrayT Try.prog 2 = none) ∧ (zeroL Try.prog 2 = some [.int .i64 0]) ∧ (szT Try.prog 3 = 1) ∧ (hasT Try.prog 3 = true) ∧ (aggT Try.prog 3 = false) ∧ (bytesT Try.prog 3 = 8) ∧ (kindT Try.prog 3 = some .i64) ∧ (arrayT Try.prog 3 = none) ∧ (zeroL Try.prog 3 = some [.int .i64 0]) ∧ (szT Try.prog 4 = 1) ∧ (hasT Try.prog 4 = true) ∧ (aggT Try.prog 4 = false) ∧ (bytesT Try.prog 4 = 1) ∧ (Try.prog.underlying 4 = some .bool) ∧ (arrayT Try.prog 4 = none) ∧ (zeroL Try.prog 4 = some [.bool false]) ∧ (szT Try.prog 5 = 1) ∧ (hasT Try.prog 5 = true) ∧ (aggT Try.prog 5 = false) ∧ (bytesT Try.prog 5 = 1) ∧ (kindT Try.prog 5 = some .u8) ∧ (arrayT Try.prog 5 = none) ∧ (zeroL Try.prog 5 = some [.int .u8 0]) ∧ (szT Try.prog 22 = 1) ∧ (hasT Try.prog 22 = true) ∧ (aggT Try.prog 22 = false) ∧ (bytesT Try.prog 22 = 24) ∧ (sliceT Try.prog 22 = some 5) ∧ (arrayT Try.prog 22 = none) ∧ (zeroL Try.prog 22 = some [.slice none 0 0]) ∧ (szT Try.prog 24 = 1) ∧ (hasT Try.prog 24 = true) ∧ (aggT Try.prog 24 = false) ∧ (bytesT Try.prog 24 = 8) ∧ (kindT Try.prog 24 = some .u64) ∧ (arrayT Try.prog 24 = none) ∧ (zeroL Try.prog 24 = some [.int .u64 0]) ∧ (szT Try.prog 25 = 1) ∧ (hasT Try.prog 25 = true) ∧ (aggT Try.prog 25 = false) ∧ (bytesT Try.prog 25 = 8) ∧ (kindT Try.prog 25 = some .i64) ∧ (arrayT Try.prog 25 = none) ∧ (zeroL Try.prog 25 = some [.int .i64 0]) ∧ (szT Try.prog 40 = 1) ∧ (hasT Try.prog 40 = true) ∧ (aggT Try.prog 40 = false) ∧ (bytesT Try.prog 40 = 1) ∧ (kindT Try.prog 40 = some .i8) ∧ (arrayT Try.prog 40 = none) ∧ (zeroL Try.prog 40 = some [.int .i8 0]) ∧ (szT Try.prog 41 = 1) ∧ (hasT Try.prog 41 = true) ∧ (aggT Try.prog 41 = false) ∧ (bytesT Try.prog 41 = 8) ∧ (kindT Try.prog 41 = some .u64) ∧ (arrayT Try.prog 41 = none) ∧ (zeroL Try.prog 41 = some [.int .u64 0]) := ⟨ty2_sz, ty2_has, ty2_agg, ty2_by, ty2_k, ty2_ar, ty2_z, ty3_sz, ty3_has, ty3_agg, ty3_by, ty3_k, ty3_ar, ty3_z, ty4_sz, ty4_has, ty4_agg, ty4_by, ty4_u, ty4_ar, ty4_z, ty5_sz, ty5_has, ty5_agg, ty5_by, ty5_k, ty5_ar, ty5_z, ty22_sz, ty22_has, ty22_agg, ty22_by, ty22_e, ty22_ar, ty22_z, ty24_sz, ty24_has, ty24_agg, ty24_by, ty24_k, ty24_ar, ty24_z, ty25_sz, ty25_has, ty25_agg, ty25_by, ty25_k, ty25_ar, ty25_z, ty40_sz, ty40_has, ty40_agg, ty40_by, ty40_k, ty40_ar, ty40_z, ty41_sz, ty41_has, ty41_agg, ty41_by, ty41_k, ty41_ar, ty41_z⟩
@[go_sem] theorem ents : entB Try.prog 3 = true ∧ entB Try.prog 4 = true ∧ entB Try.prog 5 = true ∧ entB Try.prog 6 = true ∧ entB Try.prog 7 = true ∧ entB Try.prog 8 = true ∧ entB Try.prog 9 = true ∧ entB Try.prog 10 = true ∧ entB Try.prog 11 = true ∧ entB Try.prog 12 = true ∧ entB Try.prog 13 = true ∧ entB Try.prog 14 = true ∧ entB Try.prog 15 = true ∧ entB Try.prog 16 = true ∧ entB Try.prog 17 = true ∧ entB Try.prog 18 = true ∧ entB Try.prog 19 = true ∧ entB Try.prog 20 = true ∧ entB Try.prog 21 = true ∧ entB Try.prog 22 = true ∧ entB Try.prog 23 = true ∧ entB Try.prog 24 = true ∧ entB Try.prog 25 = true ∧ entB Try.prog 26 = true ∧ entB Try.prog 27 = true ∧ entB Try.prog 28 = true ∧ entB Try.prog 29 = true ∧ entB Try.prog 30 = true ∧ entB Try.prog 31 = true ∧ entB Try.prog 32 = true ∧ entB Try.prog 33 = true ∧ entB Try.prog 34 = true ∧ entB Try.prog 35 = true ∧ entB Try.prog 36 = true ∧ entB Try.prog 37 = true ∧ entB Try.prog 38 = true ∧ entB Try.prog 39 = true ∧ entB Try.prog 40 = true ∧ entB Try.prog 41 = true ∧ entB Try.prog 42 = true ∧ entB Try.prog 43 = true ∧ entB Try.prog 44 = true ∧ entB Try.prog 45 = true ∧ entB Try.prog 46 = true ∧ entB Try.prog 47 = true ∧ entB Try.prog 48 = true ∧ entB Try.prog 49 = true ∧ entB Try.prog 50 = true ∧ entB Try.prog 51 = true ∧ entB Try.prog 52 = true ∧ entB Try.prog 53 = true ∧ entB Try.prog 54 = true ∧ entB Try.prog 55 = true ∧ entB Try.prog 56 = true ∧ entB Try.prog 57 = true ∧ entB Try.prog 58 = true ∧ entB Try.prog 59 = true := ⟨(by kernel_rfl), (by kernel_rfl), (by kernel_rfl), (by kernel_rfl), (by kernel_rfl), (by kernel_rfl), (by kernel_rfl), (by kernel_rfl), (by kernel_rfl), (by kernel_rfl), (by kernel_rfl), (by kernel_rfl), (by kernel_rfl), (by kernel_rfl), (by kernel_rfl), (by kernel_rfl), (by kernel_rfl), (by kernel_rfl), (by kernel_rfl), (by kernel_rfl), (by kernel_rfl), (by kernel_rfl), (by kernel_rfl), (by kernel_rfl), (by kernel_rfl), (by kernel_rfl), (by kernel_rfl), (by kernel_rfl), (by kernel_rfl), (by kernel_rfl), (by kernel_rfl), (by kernel_rfl), (by kernel_rfl), (by kernel_rfl), (by kernel_rfl), (by kernel_rfl), (by kernel_rfl), (by kernel_rfl), (by kernel_rfl), (by kernel_rfl), (by kernel_rfl), (by kernel_rfl), (by kernel_rfl), (by kernel_rfl), (by kernel_rfl), (by kernel_rfl), (by kernel_rfl), (by kernel_rfl), (by kernel_rfl), (by kernel_rfl), (by kernel_rfl), (by kernel_rfl), (by kernel_rfl), (by kernel_rfl), (by kernel_rfl), (by kernel_rfl), (by kernel_rfl)⟩
theorem mixed : Try.prog.follows .mixedOrders = true := by kernel_rfl
end Go.Proofs.Ytngeldeahafcfaa

namespace Go.Proofs.Ytngeldeahafcfaa
open Go Go.RowKit
def putU (n : Nat) : List UInt8 := if n < 128 then [n.toUInt8] else (n % 128 + 128).toUInt8 :: putU (n / 128)
theorem enc8_snoc (b : List UInt8) (k : Nat) (h : k < 256) : enc8 b ++ [[.v (.int .u8 (k : Int))]] = enc8 (b ++ [k.toUInt8]) := by
  simp [enc8]; omega
theorem putU_len' (k : Nat) : ∀ n, n < 128 ^ (k + 1) → (putU n).length ≤ k + 1 := by
  induction k with
  | zero => intro n h; unfold putU; rw [if_pos (by omega)]; simp
  | succ k ih =>
    intro n h
    unfold putU
    split
    · simp
    · have := ih (n / 128) (by rw [Nat.div_lt_iff_lt_mul (by omega)]; rw [Nat.pow_succ] at h; exact h)
      simp only [List.length_cons]; omega
theorem putU_len (n : Nat) (h : n < 2^64) : (putU n).length ≤ 10 := putU_len' 9 n (by omega)
set_option maxHeartbeats 1000000
set_option linter.unusedSimpArgs false
theorem uint_spec (b : List UInt8) (n : Nat) (nx : Nat) (hb : b.length ≤ 1000000) (hn : n < 2^64) : OwnS Try.prog 20 [.sl 1 (enc8 b), .v (.int .u64 n)] nx 1 (enc8 (b ++ putU n)) := by
  refine Spec.of_vc Try.func20 rfl (by kernel_rfl) (by kernel_rfl) ?_
  simp only [go_sem, Int.reduceToNat, Int.reduceLT, Int.reduceLE, Int.reduceBEq, Int.reduceEq, Int.reduceNeg, Int.reduceNegSucc, Int.reduceSub, Int.reduceAdd, Int.reduceMul, Int.natCast_zero, Int.natCast_one, UInt8.reduceToNat, Nat.reduceEqDiff, Nat.reduceAdd, Nat.reduceMul, Nat.reduceSub, Nat.reduceLeDiff, Nat.reduceBEq, ↓reduceIte, reduceCtorEq, Try.ntmps20, enc8_len]
  repeat (refine And.intro (by first | omega | assumption | (simp +contextual only [and_self, implies_true, true_and, and_true, imp_self]; done) | fail) ?_)
  refine seq_go ?_
  simp only [go_sem, Int.reduceToNat, Int.reduceLT, Int.reduceLE, Int.reduceBEq, Int.reduceEq, Int.reduceNeg, Int.reduceNegSucc, Int.reduceSub, Int.reduceAdd, Int.reduceMul, Int.natCast_zero, Int.natCast_one, UInt8.reduceToNat, Nat.reduceEqDiff, Nat.reduceAdd, Nat.reduceMul, Nat.reduceSub, Nat.reduceLeDiff, Nat.reduceBEq, ↓reduceIte, reduceCtorEq]
  refine loop_intro (ι := Nat × List UInt8) (fun i => ⟨nx, [(5, .osl nx 1 0 i.2.length), (1, .v (.int .u64 i.1))], [(nx, .arr 1 (enc8 i.2))], nx + 1, 24⟩) (fun i => i.2 ++ putU i.1 = b ++ putU n ∧ i.1 < 2^64 ∧ i.2.length + (putU i.1).length ≤ 1000010) (fun i => i.1) (n, b) [some (nx+1)] ?_ ⟨rfl, hn, by have := putU_len n hn; simp; omega⟩ ?_
  · simp only [go_sem, Le, Int.reduceToNat, Int.reduceLT, Int.reduceLE, Int.reduceBEq, Int.reduceEq, Int.reduceNeg, Int.reduceNegSucc, Int.reduceSub, Int.reduceAdd, Int.reduceMul, Int.natCast_zero, Int.natCast_one, UInt8.reduceToNat, Nat.reduceEqDiff, Nat.reduceAdd, Nat.reduceMul, Nat.reduceSub, Nat.reduceLeDiff, Nat.reduceBEq, ↓reduceIte, reduceCtorEq]
  · rintro ⟨m, acc⟩ ⟨h1, h2, h3⟩
    simp only [go_sem, Int.reduceToNat, Int.reduceLT, Int.reduceLE, Int.reduceBEq, Int.reduceEq, Int.reduceNeg, Int.reduceNegSucc, Int.reduceSub, Int.reduceAdd, Int.reduceMul, Int.natCast_zero, Int.natCast_one, UInt8.reduceToNat, Nat.reduceEqDiff, Nat.reduceAdd, Nat.reduceMul, Nat.reduceSub, Nat.reduceLeDiff, Nat.reduceBEq, ↓reduceIte, reduceCtorEq, enc8_len, wrap_u8, orI_128, shrI_u64_7, Try.results20]
    simp only at h1 h2 h3
    refine ⟨fun hm => ?_, fun hm => ?_⟩ <;> repeat (refine And.intro (by first | omega | assumption | (simp +contextual only [and_self, implies_true, true_and, and_true, imp_self]; done) | fail) ?_)
    · refine ⟨(m / 128, acc ++ [(m % 128 + 128).toUInt8]), [some (nx + 2)], ?_, ?_⟩
      · rw [enc8_snoc _ _ (by omega)]
        simp only [go_sem, Le, Int.reduceToNat, Int.reduceLT, Int.reduceLE, Int.reduceBEq, Int.reduceEq, Int.reduceNeg, Int.reduceNegSucc, Int.reduceSub, Int.reduceAdd, Int.reduceMul, Int.natCast_zero, Int.natCast_one, UInt8.reduceToNat, Nat.reduceEqDiff, Nat.reduceAdd, Nat.reduceMul, Nat.reduceSub, Nat.reduceLeDiff, Nat.reduceBEq, ↓reduceIte, reduceCtorEq]
        try simp
      · have : (putU m).length = (putU (m/128)).length + 1 := by conv => lhs; unfold putU; rw [if_neg (by omega)]; simp
        simp only [List.length_append, List.length_cons, List.length_nil]
        refine ⟨?_, by omega, by omega, by omega⟩
        rw [← h1]
        conv => rhs; unfold putU
        rw [if_neg (by omega)]
        simp
    · have e : b ++ putU n = acc ++ [(m % 256).toUInt8] := by
        rw [← h1, show m % 256 = m by omega, show putU m = [m.toUInt8] by unfold putU; rw [if_pos (by omega)]]
      rw [enc8_snoc _ _ (by omega), e]
      refine retW_own (i := nx + 2) ?_ ?_
      · simp only [go_sem, Le, Int.reduceToNat, Int.reduceLT, Int.reduceLE, Int.reduceBEq, Int.reduceEq, Int.reduceNeg, Int.reduceNegSucc, Int.reduceSub, Int.reduceAdd, Int.reduceMul, Int.natCast_zero, Int.natCast_one, UInt8.reduceToNat, Nat.reduceEqDiff, Nat.reduceAdd, Nat.reduceMul, Nat.reduceSub, Nat.reduceLeDiff, Nat.reduceBEq, ↓reduceIte, reduceCtorEq]
      · simp [enc8_len]
end Go.Proofs.Ytngeldeahafcfaa

namespace Go.Proofs.Ytngeldeahafcfaa
open Go Go.RowKit
def readU : List UInt8 → Nat → Nat → Nat × Nat × Nat
  | [], _, _ => (0, 0, 3)
  | x :: r, i, n => if i = 9 ∧ 1 < x.toNat then (0, 0, 4) else if 128 ≤ x.toNat then readU r (i + 1) (n + (x.toNat % 128) * 2 ^ (7 * i)) else if x.toNat = 0 ∧ 0 < i then (0, 0, 4) else (n + (x.toNat % 128) * 2 ^ (7 * i), i + 1, 0)
theorem readU_cons (x : UInt8) (r : List UInt8) (i n : Nat) : readU (x :: r) i n = if i = 9 ∧ 1 < x.toNat then (0, 0, 4) else if 128 ≤ x.toNat then readU r (i + 1) (n + (x.toNat % 128) * 2 ^ (7 * i)) else if x.toNat = 0 ∧ 0 < i then (0, 0, 4) else (n + (x.toNat % 128) * 2 ^ (7 * i), i + 1, 0) := rfl
def tup3 (p : Nat × Nat × Nat) : AV := .tup [.v (.int .u64 p.1), .v (.int .i64 p.2.1), .v (.int .i64 p.2.2)]
set_option maxHeartbeats 1000000
set_option linter.unusedSimpArgs false
set_option maxRecDepth 100000
theorem readU_spec (b : List UInt8) (nx : Nat) (hb : b.length ≤ 1000000) : PureS Try.prog 15 [.sl 1 (enc8 b)] nx (tup3 (readU b 0 0)) := by
  refine Spec.of_vc Try.func15 rfl (by kernel_rfl) (by kernel_rfl) ?_
  simp only [go_sem, Int.reduceToNat, Int.reduceLT, Int.reduceLE, Int.reduceBEq, Int.reduceEq, Int.reduceNeg, Int.reduceNegSucc, Int.reduceSub, Int.reduceAdd, Int.reduceMul, Int.natCast_zero, Int.natCast_one, UInt8.reduceToNat, Nat.reduceEqDiff, Nat.reduceAdd, Nat.reduceMul, Nat.reduceSub, Nat.reduceLeDiff, Nat.reduceBEq, ↓reduceIte, reduceCtorEq, Try.ntmps15, enc8_len]
  refine seq_go ?_
  simp only [go_sem, Int.reduceToNat, Int.reduceLT, Int.reduceLE, Int.reduceBEq, Int.reduceEq, Int.reduceNeg, Int.reduceNegSucc, Int.reduceSub, Int.reduceAdd, Int.reduceMul, Int.natCast_zero, Int.natCast_one, UInt8.reduceToNat, Nat.reduceEqDiff, Nat.reduceAdd, Nat.reduceMul, Nat.reduceSub, Nat.reduceLeDiff, Nat.reduceBEq, ↓reduceIte, reduceCtorEq]
  refine loop_intro (ι := Nat × Nat) (fun i => ⟨nx, [(5, .v (.int .u64 i.2)), (8, .sl 1 (enc8 b)), (9, .v (.int .i64 b.length)), (10, .v (.int .i64 i.1))], [], nx, 42⟩) (fun i => i.1 ≤ b.length ∧ i.1 ≤ 9 ∧ i.2 < 2 ^ (7 * i.1) ∧ readU (b.drop i.1) i.1 i.2 = readU b 0 0) (fun i => b.length - i.1) (0, 0) [] ?_ ⟨by omega, by omega, by simp, rfl⟩ ?_
  · simp only [go_sem, Le, Int.reduceToNat, Int.reduceLT, Int.reduceLE, Int.reduceBEq, Int.reduceEq, Int.reduceNeg, Int.reduceNegSucc, Int.reduceSub, Int.reduceAdd, Int.reduceMul, Int.natCast_zero, Int.natCast_one, UInt8.reduceToNat, Nat.reduceEqDiff, Nat.reduceAdd, Nat.reduceMul, Nat.reduceSub, Nat.reduceLeDiff, Nat.reduceBEq, ↓reduceIte, reduceCtorEq]
    try simp
  · rintro ⟨i, n⟩ ⟨h1, h2, h3, h4⟩
    simp only at h1 h2 h3 h4
    by_cases hi : i < b.length
    · have hi' : (i : Int) < b.length := by omega
      have hx := (b[i]!).toNat_lt
      simp only [go_sem, Int.reduceToNat, Int.reduceLT, Int.reduceLE, Int.reduceBEq, Int.reduceEq, Int.reduceNeg, Int.reduceNegSucc, Int.reduceSub, Int.reduceAdd, Int.reduceMul, Int.natCast_zero, Int.natCast_one, UInt8.reduceToNat, Nat.reduceEqDiff, Nat.reduceAdd, Nat.reduceMul, Nat.reduceSub, Nat.reduceLeDiff, Nat.reduceBEq, ↓reduceIte, reduceCtorEq, enc8_len, Try.results15, hi, hi', getRow_enc8 _ _ hi]
      have e1 : IntKind.i64.wrap (7 * (i : Int)) = ((7 * i : Nat) : Int) := by rw [wrap_i64 _ (by omega)]; omega
      have e2 : IntKind.u64.wrap ((7 * i : Nat) : Int) = ((7 * i : Nat) : Int) := wrap_u64_in _ (by omega)
      have e3 : andI IntKind.u8 ((b[i]!).toNat : Int) 127 = (((b[i]!).toNat % 128 : Nat) : Int) := andI_127 _ (by omega)
      have e4 : IntKind.u64.wrap (((b[i]!).toNat % 128 : Nat) : Int) = (((b[i]!).toNat % 128 : Nat) : Int) := wrap_u64_in _ (by omega)
      have e5 : IntKind.i64.wrap ((i : Int) + 1) = ((i + 1 : Nat) : Int) := by rw [wrap_i64 _ (by omega)]; omega
      have ed : b.drop i = b[i]! :: b.drop (i + 1) := by
        rw [List.drop_eq_getElem_cons hi]; simp [hi]
      simp only [e1, e2, e3, e4, e5]
      generalize hxe : b[i]! = x at *
      rw [ed, readU_cons] at h4
      by_cases hc : i = 9 ∧ 1 < x.toNat
      · rw [if_pos hc] at h4
        refine ⟨fun _ => ?_, fun h => ?_⟩
        · refine retW_pure rfl ?_
          rw [← h4]
          simp only [go_sem, Le, Int.reduceToNat, Int.reduceLT, Int.reduceLE, Int.reduceBEq, Int.reduceEq, Int.reduceNeg, Int.reduceNegSucc, Int.reduceSub, Int.reduceAdd, Int.reduceMul, Int.natCast_zero, Int.natCast_one, UInt8.reduceToNat, Nat.reduceEqDiff, Nat.reduceAdd, Nat.reduceMul, Nat.reduceSub, Nat.reduceLeDiff, Nat.reduceBEq, ↓reduceIte, reduceCtorEq, tup3]
          try simp
        · exfalso; revert h; simp; omega
      · rw [if_neg hc] at h4
        have hb2 : n + (x.toNat % 128) * 2 ^ (7 * i) < 18446744073709551616 ∧ n + (x.toNat % 128) * 2 ^ (7 * i) < 2 ^ (7 * (i + 1)) := by
          have hp : 2 ^ (7 * (i + 1)) = 128 * 2 ^ (7 * i) := by rw [show 7 * (i + 1) = 7 * i + 7 by omega, Nat.pow_add]; omega
          rw [hp]
          have hm : (x.toNat % 128) * 2 ^ (7 * i) ≤ 127 * 2 ^ (7 * i) := Nat.mul_le_mul_right _ (by omega)
          refine ⟨?_, by omega⟩
          by_cases h9 : i = 9
          · subst h9
            have : (x.toNat % 128) * 2 ^ (7 * 9) ≤ 1 * 2 ^ (7 * 9) := Nat.mul_le_mul_right _ (by omega)
            omega
          · have : 2 ^ (7 * i) ≤ 2 ^ 56 := Nat.pow_le_pow_right (by omega) (by omega)
            omega
        have e6 := shlI_u64 (x.toNat % 128) (7 * i) (by omega) (by omega)
        have e7 := orI_disj n (x.toNat % 128) (7 * i) h3 hb2.1
        simp only [e6, e7]
        refine ⟨fun h => ?_, fun _ => ⟨fun h => ?_, fun h => ?_⟩⟩
        · omega
        · rw [if_pos (by omega)] at h4
          refine ⟨(i + 1, n + (x.toNat % 128) * 2 ^ (7 * i)), [], ?_, ?_⟩
          · simp only [go_sem, Le, Int.reduceToNat, Int.reduceLT, Int.reduceLE, Int.reduceBEq, Int.reduceEq, Int.reduceNeg, Int.reduceNegSucc, Int.reduceSub, Int.reduceAdd, Int.reduceMul, Int.natCast_zero, Int.natCast_one, UInt8.reduceToNat, Nat.reduceEqDiff, Nat.reduceAdd, Nat.reduceMul, Nat.reduceSub, Nat.reduceLeDiff, Nat.reduceBEq, ↓reduceIte, reduceCtorEq]
          · refine ⟨by omega, ?_, hb2.2, h4, by omega⟩
            by_cases h9 : i = 9
            · omega
            · omega
        · rw [if_neg (by omega)] at h4
          refine ⟨fun h' => ?_, fun h' => ?_⟩
          · rw [if_pos (by omega)] at h4
            refine retW_pure rfl ?_
            rw [← h4]
            simp only [go_sem, Le, Int.reduceToNat, Int.reduceLT, Int.reduceLE, Int.reduceBEq, Int.reduceEq, Int.reduceNeg, Int.reduceNegSucc, Int.reduceSub, Int.reduceAdd, Int.reduceMul, Int.natCast_zero, Int.natCast_one, UInt8.reduceToNat, Nat.reduceEqDiff, Nat.reduceAdd, Nat.reduceMul, Nat.reduceSub, Nat.reduceLeDiff, Nat.reduceBEq, ↓reduceIte, reduceCtorEq, tup3]
            try simp
          · have : ¬ (x.toNat = 0 ∧ 0 < i) := by
              intro hh; revert h'; simp; omega
            rw [if_neg this] at h4
            refine retW_pure rfl ?_
            rw [← h4]
            simp only [go_sem, Le, Int.reduceToNat, Int.reduceLT, Int.reduceLE, Int.reduceBEq, Int.reduceEq, Int.reduceNeg, Int.reduceNegSucc, Int.reduceSub, Int.reduceAdd, Int.reduceMul, Int.natCast_zero, Int.natCast_one, UInt8.reduceToNat, Nat.reduceEqDiff, Nat.reduceAdd, Nat.reduceMul, Nat.reduceSub, Nat.reduceLeDiff, Nat.reduceBEq, ↓reduceIte, reduceCtorEq, tup3]
            try simp
    · have hi' : ¬ (i : Int) < b.length := by omega
      simp only [go_sem, Int.reduceToNat, Int.reduceLT, Int.reduceLE, Int.reduceBEq, Int.reduceEq, Int.reduceNeg, Int.reduceNegSucc, Int.reduceSub, Int.reduceAdd, Int.reduceMul, Int.natCast_zero, Int.natCast_one, UInt8.reduceToNat, Nat.reduceEqDiff, Nat.reduceAdd, Nat.reduceMul, Nat.reduceSub, Nat.reduceLeDiff, Nat.reduceBEq, ↓reduceIte, reduceCtorEq, enc8_len, Try.results15, hi']
      have : i = b.length := by omega
      rw [List.drop_of_length_le (by omega)] at h4
      refine retW_pure rfl ?_
      rw [← h4]
      simp only [go_sem, Le, Int.reduceToNat, Int.reduceLT, Int.reduceLE, Int.reduceBEq, Int.reduceEq, Int.reduceNeg, Int.reduceNegSucc, Int.reduceSub, Int.reduceAdd, Int.reduceMul, Int.natCast_zero, Int.natCast_one, UInt8.reduceToNat, Nat.reduceEqDiff, Nat.reduceAdd, Nat.reduceMul, Nat.reduceSub, Nat.reduceLeDiff, Nat.reduceBEq, ↓reduceIte, reduceCtorEq, tup3, readU]
      try simp
end Go.Proofs.Ytngeldeahafcfaa

namespace Go.Proofs.Ytngeldeahafcfaa
open Go Go.RowKit
def valU (b : List UInt8) : Nat → Nat
  | 0 => 0
  | i + 1 => valU b i + ((b[i]!).toNat % 128) * 2 ^ (7 * i)
theorem valU_lt (b : List UInt8) : ∀ i, valU b i < 2 ^ (7 * i)
  | 0 => by simp [valU]
  | i + 1 => by
    have := valU_lt b i
    have hp : 2 ^ (7 * (i + 1)) = 128 * 2 ^ (7 * i) := by rw [show 7 * (i + 1) = 7 * i + 7 by omega, Nat.pow_add]; omega
    have hm : ((b[i]!).toNat % 128) * 2 ^ (7 * i) ≤ 127 * 2 ^ (7 * i) := Nat.mul_le_mul_right _ (by omega)
    rw [valU, hp]; omega
theorem drop_get (b : List UInt8) (i : Nat) (hi : i < b.length) : b.drop i = b[i]! :: b.drop (i + 1) := by
  rw [List.drop_eq_getElem_cons hi]; simp [hi]
theorem readU_go (b : List UInt8) (i : Nat) (hi : i < b.length) (h9 : i < 9) (hx : 127 < (b[i]!).toNat) (h : readU b 0 0 = readU (b.drop i) i (valU b i)) : readU b 0 0 = readU (b.drop (i + 1)) (i + 1) (valU b (i + 1)) := by
  rw [h, drop_get b i hi, readU_cons, if_neg (by omega), if_pos (by omega), valU]
theorem readU_end (b : List UInt8) (i : Nat) (hi : i < b.length) (hx : ¬ (i < 9 ∧ 127 < (b[i]!).toNat)) (h9 : i ≤ 9) (h : readU b 0 0 = readU (b.drop i) i (valU b i)) :
    readU b 0 0 = if (i = 9 ∧ 1 < (b[i]!).toNat) ∨ (0 < i ∧ (b[i]!).toNat = 0) then (0, 0, 4) else (valU b (i + 1), i + 1, 0) := by
  rw [h, drop_get b i hi, readU_cons]
  by_cases h1 : i = 9 ∧ 1 < (b[i]!).toNat
  · rw [if_pos h1, if_pos (.inl h1)]
  · rw [if_neg h1, if_neg (by omega)]
    by_cases h2 : 0 < i ∧ (b[i]!).toNat = 0
    · rw [if_pos (by omega), if_pos (.inr h2)]
    · rw [if_neg (by omega), if_neg (by omega), valU]
set_option maxHeartbeats 1000000
set_option maxRecDepth 100000
set_option linter.unusedSimpArgs false
theorem refReadU_spec (b : List UInt8) (nx : Nat) (hb : b.length ≤ 1000000) : PureS Try.prog 16 [.sl 1 (enc8 b)] nx (tup3 (readU b 0 0)) := by
  refine Spec.of_vc Try.func16 rfl (by kernel_rfl) (by kernel_rfl) ?_
  simp only [go_sem, Int.reduceToNat, Int.reduceLT, Int.reduceLE, Int.reduceBEq, Int.reduceEq, Int.reduceNeg, Int.reduceNegSucc, Int.reduceSub, Int.reduceAdd, Int.reduceMul, Int.natCast_zero, Int.natCast_one, UInt8.reduceToNat, Nat.reduceEqDiff, Nat.reduceAdd, Nat.reduceMul, Nat.reduceSub, Nat.reduceLeDiff, Nat.reduceBEq, ↓reduceIte, reduceCtorEq, Try.ntmps16, enc8_len]
  refine seq_go ?_
  simp only [go_sem, Int.reduceToNat, Int.reduceLT, Int.reduceLE, Int.reduceBEq, Int.reduceEq, Int.reduceNeg, Int.reduceNegSucc, Int.reduceSub, Int.reduceAdd, Int.reduceMul, Int.natCast_zero, Int.natCast_one, UInt8.reduceToNat, Nat.reduceEqDiff, Nat.reduceAdd, Nat.reduceMul, Nat.reduceSub, Nat.reduceLeDiff, Nat.reduceBEq, ↓reduceIte, reduceCtorEq]
  refine loop_intro (ι := Nat) (fun i => ⟨nx, [(0, .sl 1 (enc8 b)), (5, .v (.int .i64 i))], [], nx, 65⟩) (fun i => i ≤ b.length ∧ i ≤ 9 ∧ readU b 0 0 = readU (b.drop i) i (valU b i)) (fun i => b.length - i) 0 [] ?_ ⟨by omega, by omega, by simp [valU]⟩ ?_
  · simp only [go_sem, Le, Int.reduceToNat, Int.reduceLT, Int.reduceLE, Int.reduceBEq, Int.reduceEq, Int.reduceNeg, Int.reduceNegSucc, Int.reduceSub, Int.reduceAdd, Int.reduceMul, Int.natCast_zero, Int.natCast_one, UInt8.reduceToNat, Nat.reduceEqDiff, Nat.reduceAdd, Nat.reduceMul, Nat.reduceSub, Nat.reduceLeDiff, Nat.reduceBEq, ↓reduceIte, reduceCtorEq]
    try simp
  · intro i ⟨h1, h2, h3⟩
    by_cases hi : i < b.length
    · have hi' : (i : Int) < b.length := by omega
      have hr := getRow_enc8 _ _ hi
      have hgo := readU_go b i hi
      have hend := readU_end b i hi
      have hv : valU b (i + 1) = valU b i + ((b[i]!).toNat % 128) * 2 ^ (7 * i) := rfl
      have h9b : i = 9 → b[9]! = b[i]! := fun h => by rw [h]
      generalize b[i]! = x at *
      have hx := x.toNat_lt
      have e5 : IntKind.i64.wrap ((i : Int) + 1) = ((i + 1 : Nat) : Int) := by rw [wrap_i64 _ (by omega)]; omega
      by_cases hc : i < 9 ∧ 127 < x.toNat
      · have h9' : (i : Int) < 9 := by omega
        have h127 : (127 : Int) < (x.toNat : Int) := by omega
        simp only [go_sem, Int.reduceToNat, Int.reduceLT, Int.reduceLE, Int.reduceBEq, Int.reduceEq, Int.reduceNeg, Int.reduceNegSucc, Int.reduceSub, Int.reduceAdd, Int.reduceMul, Int.natCast_zero, Int.natCast_one, UInt8.reduceToNat, Nat.reduceEqDiff, Nat.reduceAdd, Nat.reduceMul, Nat.reduceSub, Nat.reduceLeDiff, Nat.reduceBEq, ↓reduceIte, reduceCtorEq, enc8_len, hi, hi', hr, e5, h9', h127]
        refine ⟨i + 1, [], ?_, by omega, by omega, hgo hc.1 hc.2 h3, by omega⟩
        simp only [go_sem, Le, Int.reduceToNat, Int.reduceLT, Int.reduceLE, Int.reduceBEq, Int.reduceEq, Int.reduceNeg, Int.reduceNegSucc, Int.reduceSub, Int.reduceAdd, Int.reduceMul, Int.natCast_zero, Int.natCast_one, UInt8.reduceToNat, Nat.reduceEqDiff, Nat.reduceAdd, Nat.reduceMul, Nat.reduceSub, Nat.reduceLeDiff, Nat.reduceBEq, ↓reduceIte, reduceCtorEq]
      · have hne : ((i : Int) == b.length) = false := by simp; omega
        have hcc : (decide ((i : Int) < 9) && decide ((127 : Int) < (x.toNat : Int))) = false := by simp; omega
        have hend := hend hc h2 h3
        by_cases h10 : 9 < b.length
        case' pos =>
          have h10' : (9 : Int) < b.length := by omega
          have hr9 := getRow_enc8 _ _ h10
          generalize b[9]! = y at *
          simp only [go_sem, Int.reduceToNat, Int.reduceLT, Int.reduceLE, Int.reduceBEq, Int.reduceEq, Int.reduceNeg, Int.reduceNegSucc, Int.reduceSub, Int.reduceAdd, Int.reduceMul, Int.natCast_zero, Int.natCast_one, UInt8.reduceToNat, Nat.reduceEqDiff, Nat.reduceAdd, Nat.reduceMul, Nat.reduceSub, Nat.reduceLeDiff, Nat.reduceBEq, ↓reduceIte, reduceCtorEq, enc8_len, Try.results16, hi, hi', hr, hne, e5, hcc, hr9, h10, h10', Int.reduceToNat]
          repeat (refine And.intro (by first | omega | assumption | (simp +contextual only [and_self, implies_true, true_and, and_true, imp_self]; done) | fail) ?_)
          refine ⟨fun h => ?_, fun h => ?_⟩
          case' refine_1 =>
            rw [if_pos (by
              simp only [Bool.or_eq_true, Bool.and_eq_true, beq_iff_eq, decide_eq_true_eq] at h
              rcases h with h | h
              · have := h9b (by omega); rw [← this]; omega
              · omega)] at hend
            refine retW_pure rfl ?_
            rw [hend]
            simp only [go_sem, Le, Int.reduceToNat, Int.reduceLT, Int.reduceLE, Int.reduceBEq, Int.reduceEq, Int.reduceNeg, Int.reduceNegSucc, Int.reduceSub, Int.reduceAdd, Int.reduceMul, Int.natCast_zero, Int.natCast_one, UInt8.reduceToNat, Nat.reduceEqDiff, Nat.reduceAdd, Nat.reduceMul, Nat.reduceSub, Nat.reduceLeDiff, Nat.reduceBEq, ↓reduceIte, reduceCtorEq, tup3]
            try simp
          have hE : ¬ ((i = 9 ∧ 1 < x.toNat) ∨ 0 < i ∧ x.toNat = 0) := by
            intro hh
            rcases hh with hh | hh
            · have := h9b hh.1; rw [← this] at hh; revert h; simp; omega
            · revert h; simp; omega
          refine wpV_weak (s' := ⟨nx, [(0, .sl 1 (enc8 b)), (5, .v (.int .i64 i)), (6, .v (.int .u64 0))], [], nx, 65⟩) (l := []) (by simp only [go_sem, Le, Int.reduceToNat, Int.reduceLT, Int.reduceLE, Int.reduceBEq, Int.reduceEq, Int.reduceNeg, Int.reduceNegSucc, Int.reduceSub, Int.reduceAdd, Int.reduceMul, Int.natCast_zero, Int.natCast_one, UInt8.reduceToNat, Nat.reduceEqDiff, Nat.reduceAdd, Nat.reduceMul, Nat.reduceSub, Nat.reduceLeDiff, Nat.reduceBEq, ↓reduceIte, reduceCtorEq]) ?_
        case' neg =>
          have h10' : ¬ (9 : Int) < b.length := by omega
          have hi9 : ((i : Int) == 9) = false := by simp; omega
          simp only [go_sem, Int.reduceToNat, Int.reduceLT, Int.reduceLE, Int.reduceBEq, Int.reduceEq, Int.reduceNeg, Int.reduceNegSucc, Int.reduceSub, Int.reduceAdd, Int.reduceMul, Int.natCast_zero, Int.natCast_one, UInt8.reduceToNat, Nat.reduceEqDiff, Nat.reduceAdd, Nat.reduceMul, Nat.reduceSub, Nat.reduceLeDiff, Nat.reduceBEq, ↓reduceIte, reduceCtorEq, enc8_len, Try.results16, hi, hi', hr, hne, e5, hcc, getRow_ge (enc8 b) 9 (by rw [enc8_len]; omega), h10, h10', hi9, Int.reduceToNat]
          repeat (refine And.intro (by first | omega | assumption | (simp +contextual only [and_self, implies_true, true_and, and_true, imp_self]; done) | fail) ?_)
          refine ⟨fun h => ?_, fun h => ?_⟩
          case' refine_1 =>
            rw [if_pos (by revert h; simp; omega)] at hend
            refine retW_pure rfl ?_
            rw [hend]
            simp only [go_sem, Le, Int.reduceToNat, Int.reduceLT, Int.reduceLE, Int.reduceBEq, Int.reduceEq, Int.reduceNeg, Int.reduceNegSucc, Int.reduceSub, Int.reduceAdd, Int.reduceMul, Int.natCast_zero, Int.natCast_one, UInt8.reduceToNat, Nat.reduceEqDiff, Nat.reduceAdd, Nat.reduceMul, Nat.reduceSub, Nat.reduceLeDiff, Nat.reduceBEq, ↓reduceIte, reduceCtorEq, tup3]
            try simp
          have hE : ¬ ((i = 9 ∧ 1 < x.toNat) ∨ 0 < i ∧ x.toNat = 0) := by
            revert h; simp; omega
          refine wpV_weak (s' := ⟨nx, [(0, .sl 1 (enc8 b)), (5, .v (.int .i64 i)), (6, .v (.int .u64 0))], [], nx, 65⟩) (l := []) (by simp only [go_sem, Le, Int.reduceToNat, Int.reduceLT, Int.reduceLE, Int.reduceBEq, Int.reduceEq, Int.reduceNeg, Int.reduceNegSucc, Int.reduceSub, Int.reduceAdd, Int.reduceMul, Int.natCast_zero, Int.natCast_one, UInt8.reduceToNat, Nat.reduceEqDiff, Nat.reduceAdd, Nat.reduceMul, Nat.reduceSub, Nat.reduceLeDiff, Nat.reduceBEq, ↓reduceIte, reduceCtorEq]) ?_
        all_goals
          rw [if_neg hE] at hend
          have hlt : valU b (i + 1) < 18446744073709551616 := by
            by_cases h9 : i = 9
            · subst h9
              have h1 := valU_lt b 9
              have : (x.toNat % 128) * 2 ^ (7 * 9) ≤ 1 * 2 ^ (7 * 9) := Nat.mul_le_mul_right _ (by omega)
              rw [hv]; omega
            · have h1 := valU_lt b (i + 1)
              have : 2 ^ (7 * (i + 1)) ≤ 2 ^ 63 := Nat.pow_le_pow_right (by omega) (by omega)
              omega
          refine seq_go ?_
          simp only [go_sem, Int.reduceToNat, Int.reduceLT, Int.reduceLE, Int.reduceBEq, Int.reduceEq, Int.reduceNeg, Int.reduceNegSucc, Int.reduceSub, Int.reduceAdd, Int.reduceMul, Int.natCast_zero, Int.natCast_one, UInt8.reduceToNat, Nat.reduceEqDiff, Nat.reduceAdd, Nat.reduceMul, Nat.reduceSub, Nat.reduceLeDiff, Nat.reduceBEq, ↓reduceIte, reduceCtorEq]
          refine loop_intro (ι := Nat × Nat) (fun i' => ⟨nx, [(0, .sl 1 (enc8 b)), (5, .v (.int .i64 i)), (6, .v (.int .u64 i'.2)), (7, .v (.int .i64 ((i'.1 : Int) - 1)))], [], nx, 65⟩) (fun i' => i'.1 ≤ i + 1 ∧ i'.2 * 2 ^ (7 * i'.1) + valU b i'.1 = valU b (i + 1)) (fun i' => i'.1) (i + 1, 0) [] ?_ ⟨by omega, by simp⟩ ?_
          · simp only [go_sem, Le, Int.reduceToNat, Int.reduceLT, Int.reduceLE, Int.reduceBEq, Int.reduceEq, Int.reduceNeg, Int.reduceNegSucc, Int.reduceSub, Int.reduceAdd, Int.reduceMul, Int.natCast_zero, Int.natCast_one, UInt8.reduceToNat, Nat.reduceEqDiff, Nat.reduceAdd, Nat.reduceMul, Nat.reduceSub, Nat.reduceLeDiff, Nat.reduceBEq, ↓reduceIte, reduceCtorEq]
            try simp
            try omega
          · rintro ⟨q, n⟩ ⟨h4, h5⟩
            simp only at h4 h5
            by_cases hq : q = 0
            · subst hq
              have e6 : (((0 : Nat) : Int) - 1) = -1 := rfl
              have hn : n = valU b (i + 1) := by simpa [valU] using h5
              simp only [go_sem, Int.reduceToNat, Int.reduceLT, Int.reduceLE, Int.reduceBEq, Int.reduceEq, Int.reduceNeg, Int.reduceNegSucc, Int.reduceSub, Int.reduceAdd, Int.reduceMul, Int.natCast_zero, Int.natCast_one, UInt8.reduceToNat, Nat.reduceEqDiff, Nat.reduceAdd, Nat.reduceMul, Nat.reduceSub, Nat.reduceLeDiff, Nat.reduceBEq, ↓reduceIte, reduceCtorEq, e6, e5, Try.results16, Int.reduceNeg, Int.reduceLE, Int.reduceNegSucc]
              refine retW_pure rfl ?_
              rw [hend, hn]
              simp only [go_sem, Le, Int.reduceToNat, Int.reduceLT, Int.reduceLE, Int.reduceBEq, Int.reduceEq, Int.reduceNeg, Int.reduceNegSucc, Int.reduceSub, Int.reduceAdd, Int.reduceMul, Int.natCast_zero, Int.natCast_one, UInt8.reduceToNat, Nat.reduceEqDiff, Nat.reduceAdd, Nat.reduceMul, Nat.reduceSub, Nat.reduceLeDiff, Nat.reduceBEq, ↓reduceIte, reduceCtorEq, tup3]
              try simp
            · obtain ⟨p, rfl⟩ : ∃ p, q = p + 1 := ⟨q - 1, by omega⟩
              have e6 : (((p + 1 : Nat) : Int) - 1) = (p : Int) := by omega
              have hp : p < b.length := by omega
              have hp' : (p : Int) < b.length := by omega
              have hrp := getRow_enc8 _ _ hp
              have hvp : valU b (p + 1) = valU b p + ((b[p]!).toNat % 128) * 2 ^ (7 * p) := rfl
              generalize b[p]! = z at *
              have hz := z.toNat_lt
              have e7 : IntKind.i64.wrap ((p : Int) - 1) = (p : Int) - 1 := wrap_i64 _ (by omega)
              have hmul : (n * 128 + z.toNat % 128) * 2 ^ (7 * p) + valU b p = valU b (i + 1) := by
                rw [← h5, hvp, show 7 * (p + 1) = 7 * p + 7 by omega, Nat.pow_add, Nat.add_mul, ← Nat.mul_assoc, Nat.mul_right_comm n]; omega
              have hle : n * 128 + z.toNat % 128 ≤ (n * 128 + z.toNat % 128) * 2 ^ (7 * p) := Nat.le_mul_of_pos_right _ (Nat.two_pow_pos _)
              have w1 : (z.toNat : Int).tmod 128 = ((z.toNat % 128 : Nat) : Int) := by rw [Int.tmod_eq_emod_of_nonneg (by omega)]; omega
              have w2 : IntKind.u64.wrap ((z.toNat % 128 : Nat) : Int) = ((z.toNat % 128 : Nat) : Int) := wrap_u64_in _ (by omega)
              have w3 : IntKind.u64.wrap ((n : Int) * 128) = (n : Int) * 128 := wrap_u64_in _ (by omega)
              have w4 : IntKind.u64.wrap ((n : Int) * 128 + ((z.toNat % 128 : Nat) : Int)) = ((n * 128 + z.toNat % 128 : Nat) : Int) := by rw [wrap_u64_in _ (by omega)]; omega
              simp only [go_sem, Int.reduceToNat, Int.reduceLT, Int.reduceLE, Int.reduceBEq, Int.reduceEq, Int.reduceNeg, Int.reduceNegSucc, Int.reduceSub, Int.reduceAdd, Int.reduceMul, Int.natCast_zero, Int.natCast_one, UInt8.reduceToNat, Nat.reduceEqDiff, Nat.reduceAdd, Nat.reduceMul, Nat.reduceSub, Nat.reduceLeDiff, Nat.reduceBEq, ↓reduceIte, reduceCtorEq, e6, e7, hp, hp', hrp, enc8_len, Try.results16, w1, w2, w3, w4]
              refine ⟨(p, n * 128 + z.toNat % 128), [], ?_, by omega, hmul, by omega⟩
              simp only [go_sem, Le, Int.reduceToNat, Int.reduceLT, Int.reduceLE, Int.reduceBEq, Int.reduceEq, Int.reduceNeg, Int.reduceNegSucc, Int.reduceSub, Int.reduceAdd, Int.reduceMul, Int.natCast_zero, Int.natCast_one, UInt8.reduceToNat, Nat.reduceEqDiff, Nat.reduceAdd, Nat.reduceMul, Nat.reduceSub, Nat.reduceLeDiff, Nat.reduceBEq, ↓reduceIte, reduceCtorEq]
    · have hi' : ¬ (i : Int) < b.length := by omega
      have hie : i = b.length := by omega
      have hnn : getRow (enc8 b) b.length = [] := getRow_ge _ _ (by rw [enc8_len]; omega)
      subst hie
      simp only [go_sem, Int.reduceToNat, Int.reduceLT, Int.reduceLE, Int.reduceBEq, Int.reduceEq, Int.reduceNeg, Int.reduceNegSucc, Int.reduceSub, Int.reduceAdd, Int.reduceMul, Int.natCast_zero, Int.natCast_one, UInt8.reduceToNat, Nat.reduceEqDiff, Nat.reduceAdd, Nat.reduceMul, Nat.reduceSub, Nat.reduceLeDiff, Nat.reduceBEq, ↓reduceIte, reduceCtorEq, enc8_len, Try.results16, hi', hnn]
      refine retW_pure rfl ?_
      rw [h3, List.drop_of_length_le (by omega)]
      simp only [go_sem, Le, Int.reduceToNat, Int.reduceLT, Int.reduceLE, Int.reduceBEq, Int.reduceEq, Int.reduceNeg, Int.reduceNegSucc, Int.reduceSub, Int.reduceAdd, Int.reduceMul, Int.natCast_zero, Int.natCast_one, UInt8.reduceToNat, Nat.reduceEqDiff, Nat.reduceAdd, Nat.reduceMul, Nat.reduceSub, Nat.reduceLeDiff, Nat.reduceBEq, ↓reduceIte, reduceCtorEq, tup3, readU]
      try simp
end Go.Proofs.Ytngeldeahafcfaa

namespace Go.Proofs.Ytngeldeahafcfaa
open Go Go.RowKit
theorem callF_pure {P : Program} {s : St} {f : FuncId} {args : List AV} {K : St → AV → Prop} {r : AV} (h : PureS P f args s.nx r) (hk : K s r) : callF P s f args K :=
  callF_spec (hp1 := []) (hp2 := s.hp) (List.Perm.refl _) h (by rintro r' hp' nx' ⟨rfl, rfl, rfl⟩; exact hk)
theorem callF_own {P : Program} {s : St} {f : FuncId} {args : List AV} {K : St → AV → Prop} {sz : Nat} {rows : List (List AV)} (h : OwnS P f args s.nx sz rows)
    (hk : K { s with hp := (s.nx, .arr sz rows) :: s.hp, nx := s.nx + 1 } (.osl s.nx sz 0 rows.length)) : callF P s f args K :=
  callF_spec (hp1 := []) (hp2 := s.hp) (List.Perm.refl _) h (by rintro r' hp' nx' ⟨rfl, rfl, rfl⟩; exact hk)
/-- The number with a sign that stands for one without. -/
def unzig (n : Nat) : Int := if n % 2 = 1 then -((n / 2 : Nat) : Int) - 1 else ((n / 2 : Nat) : Int)
def tup3i (p : Nat × Nat × Nat) : AV := .tup [.v (.int .i64 (unzig p.1)), .v (.int .i64 p.2.1), .v (.int .i64 p.2.2)]
theorem xor_zero (a : Nat) (h : a < 2 ^ 63) : xorI .i64 (a : Int) 0 = a := by
  unfold xorI
  have : (BitVec.ofInt IntKind.i64.bits 0) = 0#IntKind.i64.bits := by simp [IntKind.bits]
  rw [this, BitVec.xor_zero, toNat_ofInt_nat]
  simp only [IntKind.bits]
  rw [Nat.mod_eq_of_lt (by omega), wrap_i64 _ (by omega)]
theorem xor_ones (a : Nat) (h : a < 2 ^ 63) : xorI .i64 (a : Int) (-1) = -(a : Int) - 1 := by
  unfold xorI
  have : (BitVec.ofInt IntKind.i64.bits (-1)) = BitVec.allOnes IntKind.i64.bits := by simp only [IntKind.bits]; decide
  rw [this, BitVec.xor_allOnes, BitVec.toNat_not, toNat_ofInt_nat]
  simp only [IntKind.bits]
  rw [Nat.mod_eq_of_lt (by omega), wrap_i64_if]
  split <;> omega
theorem unzig_wire (n : Nat) (h : n < 2 ^ 64) : xorI .i64 (IntKind.i64.wrap (shrI .u64 (n : Int) 1)) (IntKind.i64.wrap (0 - IntKind.i64.wrap (andI .u64 (n : Int) 1))) = unzig n := by
  have e1 : andI .u64 (n : Int) 1 = ((n % 2 : Nat) : Int) := by
    have := andI_nat .u64 n 1 rfl (by simpa [IntKind.bits] using h) (by simp [IntKind.bits])
    rw [Nat.and_one_is_mod] at this
    exact this
  rw [shrI_u64_1, e1, wrap_i64 ((n / 2 : Nat) : Int) (by omega), wrap_i64 ((n % 2 : Nat) : Int) (by omega), wrap_i64 (0 - _) (by omega)]
  unfold unzig
  split
  · rename_i h1
    rw [h1, show (0 - ((1 : Nat) : Int)) = -1 from rfl, xor_ones _ (by omega)]
  · rw [show n % 2 = 0 by omega, show (0 - ((0 : Nat) : Int)) = 0 from rfl, xor_zero _ (by omega)]
theorem readU_lt (b : List UInt8) : ∀ i n, i ≤ 9 → n < 2 ^ (7 * i) → (readU b i n).1 < 2 ^ 64 := by
  induction b with
  | nil => intro i n _ _; simp [readU]
  | cons x r ih =>
    intro i n hi hn
    rw [readU_cons]
    have hp : 2 ^ (7 * (i + 1)) = 128 * 2 ^ (7 * i) := by rw [show 7 * (i + 1) = 7 * i + 7 by omega, Nat.pow_add]; omega
    have hm : (x.toNat % 128) * 2 ^ (7 * i) ≤ 127 * 2 ^ (7 * i) := Nat.mul_le_mul_right _ (by omega)
    split
    · simp
    · rename_i h1
      split
      · exact ih _ _ (by omega) (by omega)
      · split
        · simp
        · by_cases h9 : i = 9
          · subst h9
            have : (x.toNat % 128) * 2 ^ (7 * 9) ≤ 1 * 2 ^ (7 * 9) := Nat.mul_le_mul_right _ (by omega)
            simp only; omega
          · have : 2 ^ (7 * (i + 1)) ≤ 2 ^ 63 := Nat.pow_le_pow_right (by omega) (by omega)
            simp only; omega
set_option maxHeartbeats 1000000
set_option maxRecDepth 100000
set_option linter.unusedSimpArgs false
theorem readInt_spec (b : List UInt8) (nx : Nat) (hb : b.length ≤ 1000000) : PureS Try.prog 17 [.sl 1 (enc8 b)] nx (tup3i (readU b 0 0)) := by
  refine Spec.of_vc Try.func17 rfl (by kernel_rfl) (by kernel_rfl) ?_
  simp only [go_sem, Int.reduceToNat, Int.reduceLT, Int.reduceLE, Int.reduceBEq, Int.reduceEq, Int.reduceNeg, Int.reduceNegSucc, Int.reduceSub, Int.reduceAdd, Int.reduceMul, Int.natCast_zero, Int.natCast_one, UInt8.reduceToNat, Nat.reduceEqDiff, Nat.reduceAdd, Nat.reduceMul, Nat.reduceSub, Nat.reduceLeDiff, Nat.reduceBEq, ↓reduceIte, reduceCtorEq, Try.ntmps17, enc8_len]
  refine callF_pure (readU_spec b nx hb) ?_
  have hlt := readU_lt b 0 0 (by omega) (by simp)
  simp only [go_sem, Int.reduceToNat, Int.reduceLT, Int.reduceLE, Int.reduceBEq, Int.reduceEq, Int.reduceNeg, Int.reduceNegSucc, Int.reduceSub, Int.reduceAdd, Int.reduceMul, Int.natCast_zero, Int.natCast_one, UInt8.reduceToNat, Nat.reduceEqDiff, Nat.reduceAdd, Nat.reduceMul, Nat.reduceSub, Nat.reduceLeDiff, Nat.reduceBEq, ↓reduceIte, reduceCtorEq, tup3, Try.results17]
  refine retW_pure rfl ?_
  rw [unzig_wire _ hlt]
  simp only [go_sem, Le, Int.reduceToNat, Int.reduceLT, Int.reduceLE, Int.reduceBEq, Int.reduceEq, Int.reduceNeg, Int.reduceNegSucc, Int.reduceSub, Int.reduceAdd, Int.reduceMul, Int.natCast_zero, Int.natCast_one, UInt8.reduceToNat, Nat.reduceEqDiff, Nat.reduceAdd, Nat.reduceMul, Nat.reduceSub, Nat.reduceLeDiff, Nat.reduceBEq, ↓reduceIte, reduceCtorEq, tup3i]
theorem refReadInt_spec (b : List UInt8) (nx : Nat) (hb : b.length ≤ 1000000) : PureS Try.prog 18 [.sl 1 (enc8 b)] nx (tup3i (readU b 0 0)) := by
  refine Spec.of_vc Try.func18 rfl (by kernel_rfl) (by kernel_rfl) ?_
  simp only [go_sem, Int.reduceToNat, Int.reduceLT, Int.reduceLE, Int.reduceBEq, Int.reduceEq, Int.reduceNeg, Int.reduceNegSucc, Int.reduceSub, Int.reduceAdd, Int.reduceMul, Int.natCast_zero, Int.natCast_one, UInt8.reduceToNat, Nat.reduceEqDiff, Nat.reduceAdd, Nat.reduceMul, Nat.reduceSub, Nat.reduceLeDiff, Nat.reduceBEq, ↓reduceIte, reduceCtorEq, Try.ntmps18, enc8_len]
  refine callF_pure (refReadU_spec b nx hb) ?_
  have hlt := readU_lt b 0 0 (by omega) (by simp)
  have hu : unzig (readU b 0 0).1 = if (readU b 0 0).1 % 2 = 1 then -(((readU b 0 0).1 / 2 : Nat) : Int) - 1 else (((readU b 0 0).1 / 2 : Nat) : Int) := rfl
  have e1 : ((readU b 0 0).1 : Int).tmod 2 = (((readU b 0 0).1 % 2 : Nat) : Int) := by rw [Int.tmod_eq_emod_of_nonneg (by omega)]; omega
  have e2 : ((readU b 0 0).1 : Int).tdiv 2 = (((readU b 0 0).1 / 2 : Nat) : Int) := by rw [Int.tdiv_eq_ediv_of_nonneg (by omega)]; omega
  have e3 : IntKind.u64.wrap (((readU b 0 0).1 / 2 : Nat) : Int) = (((readU b 0 0).1 / 2 : Nat) : Int) := wrap_u64_in _ (by omega)
  have e4 : IntKind.i64.wrap (((readU b 0 0).1 / 2 : Nat) : Int) = (((readU b 0 0).1 / 2 : Nat) : Int) := wrap_i64 _ (by omega)
  have e5 : IntKind.i64.wrap (0 - (((readU b 0 0).1 / 2 : Nat) : Int)) = 0 - (((readU b 0 0).1 / 2 : Nat) : Int) := wrap_i64 _ (by omega)
  have e6 : IntKind.i64.wrap (0 - (((readU b 0 0).1 / 2 : Nat) : Int) - 1) = - (((readU b 0 0).1 / 2 : Nat) : Int) - 1 := by rw [wrap_i64 _ (by omega)]; omega
  simp only [go_sem, Int.reduceToNat, Int.reduceLT, Int.reduceLE, Int.reduceBEq, Int.reduceEq, Int.reduceNeg, Int.reduceNegSucc, Int.reduceSub, Int.reduceAdd, Int.reduceMul, Int.natCast_zero, Int.natCast_one, UInt8.reduceToNat, Nat.reduceEqDiff, Nat.reduceAdd, Nat.reduceMul, Nat.reduceSub, Nat.reduceLeDiff, Nat.reduceBEq, ↓reduceIte, reduceCtorEq, tup3, Try.results18, e1, e2, e3, e4, e5, e6]
  refine ⟨fun h => retW_pure rfl ?_, fun h => retW_pure rfl ?_⟩
  · rw [if_pos (by omega)] at hu
    simp only [go_sem, Le, Int.reduceToNat, Int.reduceLT, Int.reduceLE, Int.reduceBEq, Int.reduceEq, Int.reduceNeg, Int.reduceNegSucc, Int.reduceSub, Int.reduceAdd, Int.reduceMul, Int.natCast_zero, Int.natCast_one, UInt8.reduceToNat, Nat.reduceEqDiff, Nat.reduceAdd, Nat.reduceMul, Nat.reduceSub, Nat.reduceLeDiff, Nat.reduceBEq, ↓reduceIte, reduceCtorEq, tup3i, hu]
  · rw [if_neg (by revert h; simp; omega)] at hu
    simp only [go_sem, Le, Int.reduceToNat, Int.reduceLT, Int.reduceLE, Int.reduceBEq, Int.reduceEq, Int.reduceNeg, Int.reduceNegSucc, Int.reduceSub, Int.reduceAdd, Int.reduceMul, Int.natCast_zero, Int.natCast_one, UInt8.reduceToNat, Nat.reduceEqDiff, Nat.reduceAdd, Nat.reduceMul, Nat.reduceSub, Nat.reduceLeDiff, Nat.reduceBEq, ↓reduceIte, reduceCtorEq, tup3i, hu]
end Go.Proofs.Ytngeldeahafcfaa

namespace Go.Proofs.Ytngeldeahafcfaa
open Go Go.RowKit
theorem putU_300 : putU 300 = [172, 2] := by simp [putU]
theorem readU_1 : readU [1] 0 0 = (1, 1, 0) := by simp [readU]
set_option maxHeartbeats 1000000
set_option maxRecDepth 100000
set_option linter.unusedSimpArgs false
theorem awake6_spec (nx : Nat) : PureS Try.prog 14 [] nx (.v (.bool true)) := by
  refine Spec.of_vc Try.func14 rfl (by kernel_rfl) (by kernel_rfl) ?_
  simp only [go_sem, Int.reduceToNat, Int.reduceLT, Int.reduceLE, Int.reduceBEq, Int.reduceEq, Int.reduceNeg, Int.reduceNegSucc, Int.reduceSub, Int.reduceAdd, Int.reduceMul, Int.natCast_zero, Int.natCast_one, UInt8.reduceToNat, Nat.reduceEqDiff, Nat.reduceAdd, Nat.reduceMul, Nat.reduceSub, Nat.reduceLeDiff, Nat.reduceBEq, ↓reduceIte, reduceCtorEq, Try.ntmps14, enc8_len]
  refine callF_weak (s' := ⟨nx, [], [], nx, 39⟩) (l := []) (args' := [.sl 1 (enc8 []), .v (.int .u64 (300 : Nat))]) (by simp only [go_sem, Le, Int.reduceToNat, Int.reduceLT, Int.reduceLE, Int.reduceBEq, Int.reduceEq, Int.reduceNeg, Int.reduceNegSucc, Int.reduceSub, Int.reduceAdd, Int.reduceMul, Int.natCast_zero, Int.natCast_one, UInt8.reduceToNat, Nat.reduceEqDiff, Nat.reduceAdd, Nat.reduceMul, Nat.reduceSub, Nat.reduceLeDiff, Nat.reduceBEq, ↓reduceIte, reduceCtorEq]) (by simp [AvLe, AvLe.AvLeL, enc8]) (callF_pure (uint_spec [] 300 nx (by simp) (by omega)).pure ?_)
  simp only [go_sem, Int.reduceToNat, Int.reduceLT, Int.reduceLE, Int.reduceBEq, Int.reduceEq, Int.reduceNeg, Int.reduceNegSucc, Int.reduceSub, Int.reduceAdd, Int.reduceMul, Int.natCast_zero, Int.natCast_one, UInt8.reduceToNat, Nat.reduceEqDiff, Nat.reduceAdd, Nat.reduceMul, Nat.reduceSub, Nat.reduceLeDiff, Nat.reduceBEq, ↓reduceIte, reduceCtorEq, putU_300]
  refine callF_weak (s' := ⟨nx, [(1, .sl 1 (enc8 [172, 2]))], [], nx, 39⟩) (l := []) (args' := [.sl 1 (enc8 [1])]) (by simp only [go_sem, Le, Int.reduceToNat, Int.reduceLT, Int.reduceLE, Int.reduceBEq, Int.reduceEq, Int.reduceNeg, Int.reduceNegSucc, Int.reduceSub, Int.reduceAdd, Int.reduceMul, Int.natCast_zero, Int.natCast_one, UInt8.reduceToNat, Nat.reduceEqDiff, Nat.reduceAdd, Nat.reduceMul, Nat.reduceSub, Nat.reduceLeDiff, Nat.reduceBEq, ↓reduceIte, reduceCtorEq]) (by simp [AvLe, AvLe.AvLeL, enc8, getO, notIn]) (callF_pure (readInt_spec [1] nx (by simp)) ?_)
  have e1 : unzig 1 = -1 := rfl
  have e2 : ((172 : Nat) : Int) = 172 := rfl
  simp only [go_sem, Int.reduceToNat, Int.reduceLT, Int.reduceLE, Int.reduceBEq, Int.reduceEq, Int.reduceNeg, Int.reduceNegSucc, Int.reduceSub, Int.reduceAdd, Int.reduceMul, Int.natCast_zero, Int.natCast_one, UInt8.reduceToNat, Nat.reduceEqDiff, Nat.reduceAdd, Nat.reduceMul, Nat.reduceSub, Nat.reduceLeDiff, Nat.reduceBEq, ↓reduceIte, reduceCtorEq, tup3i, readU_1, Try.results14, getRow, enc8, e1, e2]
  refine retW_pure rfl ?_
  simp only [go_sem, Le, Int.reduceToNat, Int.reduceLT, Int.reduceLE, Int.reduceBEq, Int.reduceEq, Int.reduceNeg, Int.reduceNegSucc, Int.reduceSub, Int.reduceAdd, Int.reduceMul, Int.natCast_zero, Int.natCast_one, UInt8.reduceToNat, Nat.reduceEqDiff, Nat.reduceAdd, Nat.reduceMul, Nat.reduceSub, Nat.reduceLeDiff, Nat.reduceBEq, ↓reduceIte, reduceCtorEq]
end Go.Proofs.Ytngeldeahafcfaa

namespace Go.Proofs.Ytngeldeahafcfaa
open Go Go.RowKit
theorem enc8_take (b : List UInt8) (n : Nat) : (enc8 b).take n = enc8 (b.take n) := by simp [enc8]
set_option maxHeartbeats 1000000
set_option maxRecDepth 100000
set_option linter.unusedSimpArgs false
theorem wireReads_spec (b : List UInt8) (nx : Nat) (hb : b.length < 9223372036854775808) : PureS Try.prog 3 [.sl 1 (enc8 b)] nx (.v (.bool true)) := by
  refine Spec.of_vc Try.func3 rfl (by kernel_rfl) (by kernel_rfl) ?_
  simp only [go_sem, Int.reduceToNat, Int.reduceLT, Int.reduceLE, Int.reduceBEq, Int.reduceEq, Int.reduceNeg, Int.reduceNegSucc, Int.reduceSub, Int.reduceAdd, Int.reduceMul, Int.natCast_zero, Int.natCast_one, UInt8.reduceToNat, Nat.reduceEqDiff, Nat.reduceAdd, Nat.reduceMul, Nat.reduceSub, Nat.reduceLeDiff, Nat.reduceBEq, ↓reduceIte, reduceCtorEq, Try.ntmps3, enc8_len]
  refine callF_pure (awake6_spec nx) ?_
  have hm : min (b.length : Int) 100 = ((min b.length 100 : Nat) : Int) := by omega
  simp only [go_sem, Int.reduceToNat, Int.reduceLT, Int.reduceLE, Int.reduceBEq, Int.reduceEq, Int.reduceNeg, Int.reduceNegSucc, Int.reduceSub, Int.reduceAdd, Int.reduceMul, Int.natCast_zero, Int.natCast_one, UInt8.reduceToNat, Nat.reduceEqDiff, Nat.reduceAdd, Nat.reduceMul, Nat.reduceSub, Nat.reduceLeDiff, Nat.reduceBEq, ↓reduceIte, reduceCtorEq, enc8_len, hm, enc8_take]
  repeat (refine And.intro (by first | omega | assumption | (simp +contextual only [and_self, implies_true, true_and, and_true, imp_self]; done) | fail) ?_)
  have hc : (b.take (min b.length 100)).length ≤ 1000000 := by simp; omega
  generalize b.take (min b.length 100) = c at *
  refine callF_pure (readU_spec c nx hc) ?_
  simp only [go_sem, Int.reduceToNat, Int.reduceLT, Int.reduceLE, Int.reduceBEq, Int.reduceEq, Int.reduceNeg, Int.reduceNegSucc, Int.reduceSub, Int.reduceAdd, Int.reduceMul, Int.natCast_zero, Int.natCast_one, UInt8.reduceToNat, Nat.reduceEqDiff, Nat.reduceAdd, Nat.reduceMul, Nat.reduceSub, Nat.reduceLeDiff, Nat.reduceBEq, ↓reduceIte, reduceCtorEq, tup3]
  refine callF_pure (refReadU_spec c nx hc) ?_
  simp only [go_sem, Int.reduceToNat, Int.reduceLT, Int.reduceLE, Int.reduceBEq, Int.reduceEq, Int.reduceNeg, Int.reduceNegSucc, Int.reduceSub, Int.reduceAdd, Int.reduceMul, Int.natCast_zero, Int.natCast_one, UInt8.reduceToNat, Nat.reduceEqDiff, Nat.reduceAdd, Nat.reduceMul, Nat.reduceSub, Nat.reduceLeDiff, Nat.reduceBEq, ↓reduceIte, reduceCtorEq, tup3, bne_self_eq_false]
  refine callF_pure (readInt_spec c nx hc) ?_
  simp only [go_sem, Int.reduceToNat, Int.reduceLT, Int.reduceLE, Int.reduceBEq, Int.reduceEq, Int.reduceNeg, Int.reduceNegSucc, Int.reduceSub, Int.reduceAdd, Int.reduceMul, Int.natCast_zero, Int.natCast_one, UInt8.reduceToNat, Nat.reduceEqDiff, Nat.reduceAdd, Nat.reduceMul, Nat.reduceSub, Nat.reduceLeDiff, Nat.reduceBEq, ↓reduceIte, reduceCtorEq, tup3i]
  refine callF_pure (refReadInt_spec c nx hc) ?_
  simp only [go_sem, Int.reduceToNat, Int.reduceLT, Int.reduceLE, Int.reduceBEq, Int.reduceEq, Int.reduceNeg, Int.reduceNegSucc, Int.reduceSub, Int.reduceAdd, Int.reduceMul, Int.natCast_zero, Int.natCast_one, UInt8.reduceToNat, Nat.reduceEqDiff, Nat.reduceAdd, Nat.reduceMul, Nat.reduceSub, Nat.reduceLeDiff, Nat.reduceBEq, ↓reduceIte, reduceCtorEq, tup3i, Try.results3]
  refine retW_pure rfl ?_
  simp only [go_sem, Le, Int.reduceToNat, Int.reduceLT, Int.reduceLE, Int.reduceBEq, Int.reduceEq, Int.reduceNeg, Int.reduceNegSucc, Int.reduceSub, Int.reduceAdd, Int.reduceMul, Int.natCast_zero, Int.natCast_one, UInt8.reduceToNat, Nat.reduceEqDiff, Nat.reduceAdd, Nat.reduceMul, Nat.reduceSub, Nat.reduceLeDiff, Nat.reduceBEq, ↓reduceIte, reduceCtorEq]
end Go.Proofs.Ytngeldeahafcfaa

namespace Go.Proofs.Ytngeldeahafcfaa
open Go Go.RowKit
set_option maxHeartbeats 1000000
set_option maxRecDepth 100000
set_option linter.unusedSimpArgs false
theorem same_spec (b c : List UInt8) (nx : Nat) (hb : b.length ≤ 1000000) (hc : c.length ≤ 1000000) : PureS Try.prog 19 [.sl 1 (enc8 b), .sl 1 (enc8 c)] nx (.v (.bool (b == c))) := by
  refine Spec.of_vc Try.func19 rfl (by kernel_rfl) (by kernel_rfl) ?_
  by_cases hl : b.length = c.length
  · have hl' : ((b.length : Int) == c.length) = true := by simp [hl]
    simp only [go_sem, Int.reduceToNat, Int.reduceLT, Int.reduceLE, Int.reduceBEq, Int.reduceEq, Int.reduceNeg, Int.reduceNegSucc, Int.reduceSub, Int.reduceAdd, Int.reduceMul, Int.natCast_zero, Int.natCast_one, UInt8.reduceToNat, Nat.reduceEqDiff, Nat.reduceAdd, Nat.reduceMul, Nat.reduceSub, Nat.reduceLeDiff, Nat.reduceBEq, ↓reduceIte, reduceCtorEq, Try.ntmps19, Try.results19, enc8_len, hl', bne]
    refine seq_go ?_
    simp only [go_sem, Int.reduceToNat, Int.reduceLT, Int.reduceLE, Int.reduceBEq, Int.reduceEq, Int.reduceNeg, Int.reduceNegSucc, Int.reduceSub, Int.reduceAdd, Int.reduceMul, Int.natCast_zero, Int.natCast_one, UInt8.reduceToNat, Nat.reduceEqDiff, Nat.reduceAdd, Nat.reduceMul, Nat.reduceSub, Nat.reduceLeDiff, Nat.reduceBEq, ↓reduceIte, reduceCtorEq]
    refine loop_intro (ι := Nat) (fun i => ⟨nx, [(0, .sl 1 (enc8 b)), (1, .sl 1 (enc8 c)), (5, .v (.int .i64 i))], [], nx, 26⟩) (fun i => i ≤ b.length ∧ b.take i = c.take i) (fun i => b.length - i) 0 [] ?_ ⟨by omega, by simp⟩ ?_
    · simp only [go_sem, Le, Int.reduceToNat, Int.reduceLT, Int.reduceLE, Int.reduceBEq, Int.reduceEq, Int.reduceNeg, Int.reduceNegSucc, Int.reduceSub, Int.reduceAdd, Int.reduceMul, Int.natCast_zero, Int.natCast_one, UInt8.reduceToNat, Nat.reduceEqDiff, Nat.reduceAdd, Nat.reduceMul, Nat.reduceSub, Nat.reduceLeDiff, Nat.reduceBEq, ↓reduceIte, reduceCtorEq]
    · intro i ⟨h1, h2⟩
      by_cases hi : i < b.length
      · have hi' : (i : Int) < b.length := by omega
        simp only [go_sem, Int.reduceToNat, Int.reduceLT, Int.reduceLE, Int.reduceBEq, Int.reduceEq, Int.reduceNeg, Int.reduceNegSucc, Int.reduceSub, Int.reduceAdd, Int.reduceMul, Int.natCast_zero, Int.natCast_one, UInt8.reduceToNat, Nat.reduceEqDiff, Nat.reduceAdd, Nat.reduceMul, Nat.reduceSub, Nat.reduceLeDiff, Nat.reduceBEq, ↓reduceIte, reduceCtorEq, enc8_len, hi']
        refine drawV_quiet mixed ?_
        have hic : i < c.length := by omega
        have hic' : (i : Int) < c.length := by omega
        have r1 := getRow_enc8 _ _ hi
        have r2 := getRow_enc8 _ _ hic
        have t1 : b.take (i + 1) = b.take i ++ [b[i]!] := by rw [List.take_succ_eq_append_getElem hi]; simp [hi]
        have t2 : c.take (i + 1) = c.take i ++ [c[i]!] := by rw [List.take_succ_eq_append_getElem hic]; simp [hic]
        have e5 : IntKind.i64.wrap ((i : Int) + 1) = ((i + 1 : Nat) : Int) := by rw [wrap_i64 _ (by omega)]; omega
        have hxy : ((b[i]!).toNat : Int) = ((c[i]!).toNat : Int) ↔ b[i]! = c[i]! := by
          rw [← UInt8.toNat_inj]; omega
        generalize b[i]! = x at *
        generalize c[i]! = y at *
        simp only [go_sem, Int.reduceToNat, Int.reduceLT, Int.reduceLE, Int.reduceBEq, Int.reduceEq, Int.reduceNeg, Int.reduceNegSucc, Int.reduceSub, Int.reduceAdd, Int.reduceMul, Int.natCast_zero, Int.natCast_one, UInt8.reduceToNat, Nat.reduceEqDiff, Nat.reduceAdd, Nat.reduceMul, Nat.reduceSub, Nat.reduceLeDiff, Nat.reduceBEq, ↓reduceIte, reduceCtorEq, enc8_len, hi', hi, hic, hic', r1, r2, e5, Try.results19, bne]
        refine ⟨fun h => ?_, fun h => ?_⟩
        · refine retW_pure rfl ?_
          have hne : (b == c) = false := by
            rw [beq_eq_false_iff_ne]
            intro hbc
            have h3 : b.take (i + 1) = c.take (i + 1) := by rw [hbc]
            rw [t1, t2, h2] at h3
            have h4 := List.append_cancel_left h3
            simp only [List.cons.injEq, and_true] at h4
            rw [← hxy] at h4
            revert h
            simp [h4]
          rw [hne]
          simp only [go_sem, Le, Int.reduceToNat, Int.reduceLT, Int.reduceLE, Int.reduceBEq, Int.reduceEq, Int.reduceNeg, Int.reduceNegSucc, Int.reduceSub, Int.reduceAdd, Int.reduceMul, Int.natCast_zero, Int.natCast_one, UInt8.reduceToNat, Nat.reduceEqDiff, Nat.reduceAdd, Nat.reduceMul, Nat.reduceSub, Nat.reduceLeDiff, Nat.reduceBEq, ↓reduceIte, reduceCtorEq]
        · refine ⟨i + 1, [], ?_, by omega, ?_, by omega⟩
          · simp only [go_sem, Le, Int.reduceToNat, Int.reduceLT, Int.reduceLE, Int.reduceBEq, Int.reduceEq, Int.reduceNeg, Int.reduceNegSucc, Int.reduceSub, Int.reduceAdd, Int.reduceMul, Int.natCast_zero, Int.natCast_one, UInt8.reduceToNat, Nat.reduceEqDiff, Nat.reduceAdd, Nat.reduceMul, Nat.reduceSub, Nat.reduceLeDiff, Nat.reduceBEq, ↓reduceIte, reduceCtorEq]
          · rw [t1, t2, h2, hxy.1 (by simpa using h)]
      · have hi' : ¬ (i : Int) < b.length := by omega
        simp only [go_sem, Int.reduceToNat, Int.reduceLT, Int.reduceLE, Int.reduceBEq, Int.reduceEq, Int.reduceNeg, Int.reduceNegSucc, Int.reduceSub, Int.reduceAdd, Int.reduceMul, Int.natCast_zero, Int.natCast_one, UInt8.reduceToNat, Nat.reduceEqDiff, Nat.reduceAdd, Nat.reduceMul, Nat.reduceSub, Nat.reduceLeDiff, Nat.reduceBEq, ↓reduceIte, reduceCtorEq, enc8_len, hi', Try.results19]
        refine retW_pure rfl ?_
        have : b = c := by
          rw [List.take_of_length_le (by omega), List.take_of_length_le (by omega)] at h2
          exact h2
        subst this
        simp only [go_sem, Le, Int.reduceToNat, Int.reduceLT, Int.reduceLE, Int.reduceBEq, Int.reduceEq, Int.reduceNeg, Int.reduceNegSucc, Int.reduceSub, Int.reduceAdd, Int.reduceMul, Int.natCast_zero, Int.natCast_one, UInt8.reduceToNat, Nat.reduceEqDiff, Nat.reduceAdd, Nat.reduceMul, Nat.reduceSub, Nat.reduceLeDiff, Nat.reduceBEq, ↓reduceIte, reduceCtorEq]
        try simp
  · have hl' : ((b.length : Int) == c.length) = false := by simp; omega
    simp only [go_sem, Int.reduceToNat, Int.reduceLT, Int.reduceLE, Int.reduceBEq, Int.reduceEq, Int.reduceNeg, Int.reduceNegSucc, Int.reduceSub, Int.reduceAdd, Int.reduceMul, Int.natCast_zero, Int.natCast_one, UInt8.reduceToNat, Nat.reduceEqDiff, Nat.reduceAdd, Nat.reduceMul, Nat.reduceSub, Nat.reduceLeDiff, Nat.reduceBEq, ↓reduceIte, reduceCtorEq, Try.ntmps19, Try.results19, enc8_len, hl', bne]
    refine retW_pure rfl ?_
    have hne : (b == c) = false := by
      rw [beq_eq_false_iff_ne]
      intro hbc
      exact hl (by rw [hbc])
    rw [hne]
    simp only [go_sem, Le, Int.reduceToNat, Int.reduceLT, Int.reduceLE, Int.reduceBEq, Int.reduceEq, Int.reduceNeg, Int.reduceNegSucc, Int.reduceSub, Int.reduceAdd, Int.reduceMul, Int.natCast_zero, Int.natCast_one, UInt8.reduceToNat, Nat.reduceEqDiff, Nat.reduceAdd, Nat.reduceMul, Nat.reduceSub, Nat.reduceLeDiff, Nat.reduceBEq, ↓reduceIte, reduceCtorEq]
end Go.Proofs.Ytngeldeahafcfaa

namespace Go.Proofs.Ytngeldeahafcfaa
open Go Go.RowKit
set_option maxHeartbeats 1000000
set_option maxRecDepth 100000
set_option linter.unusedSimpArgs false
theorem refUint_spec (b : List UInt8) (n : Nat) (nx : Nat) (hb : b.length ≤ 1000000) (hn : n < 2^64) : OwnS Try.prog 21 [.sl 1 (enc8 b), .v (.int .u64 n)] nx 1 (enc8 (b ++ putU n)) := by
  refine Spec.of_vc Try.func21 rfl (by kernel_rfl) (by kernel_rfl) ?_
  simp only [go_sem, Int.reduceToNat, Int.reduceLT, Int.reduceLE, Int.reduceBEq, Int.reduceEq, Int.reduceNeg, Int.reduceNegSucc, Int.reduceSub, Int.reduceAdd, Int.reduceMul, Int.natCast_zero, Int.natCast_one, UInt8.reduceToNat, Nat.reduceEqDiff, Nat.reduceAdd, Nat.reduceMul, Nat.reduceSub, Nat.reduceLeDiff, Nat.reduceBEq, ↓reduceIte, reduceCtorEq, Try.ntmps21, enc8_len]
  repeat (refine And.intro (by first | omega | assumption | (simp +contextual only [and_self, implies_true, true_and, and_true, imp_self]; done) | fail) ?_)
  refine loop_intro (ι := Nat × List UInt8) (fun i => ⟨nx, [(5, .osl nx 1 0 i.2.length), (1, .v (.int .u64 i.1))], [(nx, .arr 1 (enc8 i.2))], nx + 1, 26⟩) (fun i => i.2 ++ putU i.1 = b ++ putU n ∧ i.1 < 2^64 ∧ i.2.length + (putU i.1).length ≤ 1000010) (fun i => i.1) (n, b) [some (nx+1)] ?_ ⟨rfl, hn, by have := putU_len n hn; simp; omega⟩ ?_
  · simp only [go_sem, Le, Int.reduceToNat, Int.reduceLT, Int.reduceLE, Int.reduceBEq, Int.reduceEq, Int.reduceNeg, Int.reduceNegSucc, Int.reduceSub, Int.reduceAdd, Int.reduceMul, Int.natCast_zero, Int.natCast_one, UInt8.reduceToNat, Nat.reduceEqDiff, Nat.reduceAdd, Nat.reduceMul, Nat.reduceSub, Nat.reduceLeDiff, Nat.reduceBEq, ↓reduceIte, reduceCtorEq]
  · rintro ⟨m, acc⟩ ⟨h1, h2, h3⟩
    simp only at h1 h2 h3
    have e1 : (m : Int).tmod 128 = ((m % 128 : Nat) : Int) := by rw [Int.tmod_eq_emod_of_nonneg (by omega)]; omega
    have e2 : (m : Int).tdiv 128 = ((m / 128 : Nat) : Int) := by rw [Int.tdiv_eq_ediv_of_nonneg (by omega)]; omega
    have e3 : IntKind.u64.wrap ((m / 128 : Nat) : Int) = ((m / 128 : Nat) : Int) := wrap_u64_in _ (by omega)
    have e4 : IntKind.u8.wrap ((m % 128 : Nat) : Int) = ((m % 128 : Nat) : Int) := wrap_u8_in _ (by omega)
    have e5 : IntKind.u8.wrap (((m % 128 : Nat) : Int) + 128) = ((m % 128 + 128 : Nat) : Int) := by rw [wrap_u8_in _ (by omega)]; omega
    simp only [go_sem, Int.reduceToNat, Int.reduceLT, Int.reduceLE, Int.reduceBEq, Int.reduceEq, Int.reduceNeg, Int.reduceNegSucc, Int.reduceSub, Int.reduceAdd, Int.reduceMul, Int.natCast_zero, Int.natCast_one, UInt8.reduceToNat, Nat.reduceEqDiff, Nat.reduceAdd, Nat.reduceMul, Nat.reduceSub, Nat.reduceLeDiff, Nat.reduceBEq, ↓reduceIte, reduceCtorEq, enc8_len, e1, e2, e3, e4, e5, Try.results21]
    refine ⟨fun h => ?_, fun h => ?_⟩ <;> repeat (refine And.intro (by first | omega | assumption | (simp +contextual only [and_self, implies_true, true_and, and_true, imp_self]; done) | fail) ?_)
    · have hm : m < 128 := by omega
      have e : b ++ putU n = acc ++ [(m % 128).toUInt8] := by
        rw [← h1, show putU m = [m.toUInt8] by unfold putU; rw [if_pos hm], show m % 128 = m by omega]
      rw [enc8_snoc _ _ (by omega), e]
      refine retW_own (i := nx + 2) ?_ ?_
      · simp only [go_sem, Le, Int.reduceToNat, Int.reduceLT, Int.reduceLE, Int.reduceBEq, Int.reduceEq, Int.reduceNeg, Int.reduceNegSucc, Int.reduceSub, Int.reduceAdd, Int.reduceMul, Int.natCast_zero, Int.natCast_one, UInt8.reduceToNat, Nat.reduceEqDiff, Nat.reduceAdd, Nat.reduceMul, Nat.reduceSub, Nat.reduceLeDiff, Nat.reduceBEq, ↓reduceIte, reduceCtorEq]
      · simp [enc8_len]
    · have hm : ¬ m < 128 := by
        intro hm; revert h; simp; omega
      have hp : putU m = (m % 128 + 128).toUInt8 :: putU (m / 128) := by
        conv => lhs; unfold putU
        rw [if_neg hm]
      rw [hp] at h1 h3
      refine ⟨(m / 128, acc ++ [(m % 128 + 128).toUInt8]), [some (nx + 2)], ?_, ?_⟩
      · rw [enc8_snoc _ _ (by omega)]
        simp only [go_sem, Le, Int.reduceToNat, Int.reduceLT, Int.reduceLE, Int.reduceBEq, Int.reduceEq, Int.reduceNeg, Int.reduceNegSucc, Int.reduceSub, Int.reduceAdd, Int.reduceMul, Int.natCast_zero, Int.natCast_one, UInt8.reduceToNat, Nat.reduceEqDiff, Nat.reduceAdd, Nat.reduceMul, Nat.reduceSub, Nat.reduceLeDiff, Nat.reduceBEq, ↓reduceIte, reduceCtorEq]
        simp
      · simp only [List.length_append, List.length_cons, List.length_nil] at h3 ⊢
        exact ⟨by rw [← h1]; simp, by omega, by omega, by omega⟩
/-- The number without a sign that stands for one with. -/
def zig (m : Int) : Nat := if 0 ≤ m then (2 * m).toNat else (-2 * m - 1).toNat
theorem zig_lt (m : Int) (h : -9223372036854775808 ≤ m ∧ m < 9223372036854775808) : zig m < 2 ^ 64 := by
  unfold zig; split <;> omega
theorem xor_u64_zero (a : Int) (h : 0 ≤ a ∧ a < 18446744073709551616) : xorI .u64 a 0 = a := by
  unfold xorI
  have : (BitVec.ofInt IntKind.u64.bits 0) = 0#IntKind.u64.bits := by simp [IntKind.bits]
  rw [this, BitVec.xor_zero, show a = ((a.toNat : Nat) : Int) by omega, toNat_ofInt_nat]
  simp only [IntKind.bits]
  rw [Nat.mod_eq_of_lt (by omega), wrap_u64_in _ (by omega)]
theorem xor_u64_ones (a : Int) (h : 0 ≤ a ∧ a < 18446744073709551616) : xorI .u64 a 18446744073709551615 = 18446744073709551615 - a := by
  unfold xorI
  have : (BitVec.ofInt IntKind.u64.bits 18446744073709551615) = BitVec.allOnes IntKind.u64.bits := by simp only [IntKind.bits]; decide
  rw [this, BitVec.xor_allOnes, BitVec.toNat_not, show a = ((a.toNat : Nat) : Int) by omega, toNat_ofInt_nat]
  simp only [IntKind.bits]
  rw [Nat.mod_eq_of_lt (by omega), wrap_u64_in _ (by omega)]
  omega
theorem wrap_u64_mod (m : Int) : IntKind.u64.wrap m = m % 18446744073709551616 := by
  simp [IntKind.wrap, IntKind.signed, IntKind.bits]
theorem zig_wire (m : Int) (h : -9223372036854775808 ≤ m ∧ m < 9223372036854775808) : xorI .u64 (shlI .u64 (IntKind.u64.wrap m) 1) (IntKind.u64.wrap (shrI .i64 m 63)) = (zig m : Int) := by
  have e1 : shlI .u64 (IntKind.u64.wrap m) 1 = (2 * m) % 18446744073709551616 := by
    unfold shlI
    rw [show min (1 : Int).toNat (IntKind.u64.bits) = 1 by simp [IntKind.bits], wrap_u64_mod, wrap_u64_mod]
    omega
  have e2 : shrI .i64 m 63 = if 0 ≤ m then 0 else -1 := by
    unfold shrI
    rw [show min (63 : Int).toNat (IntKind.i64.bits) = 63 by simp [IntKind.bits], Int.fdiv_eq_ediv_of_nonneg _ (by decide), show ((2 : Int) ^ 63) = 9223372036854775808 by decide]
    split <;> omega
  rw [e1, e2]
  unfold zig
  split
  · rw [show IntKind.u64.wrap 0 = 0 from rfl, xor_u64_zero _ (by omega)]; omega
  · rw [show IntKind.u64.wrap (-1) = 18446744073709551615 from rfl, xor_u64_ones _ (by omega)]; omega
theorem int_spec (b : List UInt8) (m : Int) (nx : Nat) (hb : b.length ≤ 1000000) (hm : -9223372036854775808 ≤ m ∧ m < 9223372036854775808) : OwnS Try.prog 22 [.sl 1 (enc8 b), .v (.int .i64 m)] nx 1 (enc8 (b ++ putU (zig m))) := by
  refine Spec.of_vc Try.func22 rfl (by kernel_rfl) (by kernel_rfl) ?_
  simp only [go_sem, Int.reduceToNat, Int.reduceLT, Int.reduceLE, Int.reduceBEq, Int.reduceEq, Int.reduceNeg, Int.reduceNegSucc, Int.reduceSub, Int.reduceAdd, Int.reduceMul, Int.natCast_zero, Int.natCast_one, UInt8.reduceToNat, Nat.reduceEqDiff, Nat.reduceAdd, Nat.reduceMul, Nat.reduceSub, Nat.reduceLeDiff, Nat.reduceBEq, ↓reduceIte, reduceCtorEq, Try.ntmps22, enc8_len, zig_wire m hm]
  repeat (refine And.intro (by first | omega | assumption | (simp +contextual only [and_self, implies_true, true_and, and_true, imp_self]; done) | fail) ?_)
  refine callF_own (uint_spec b (zig m) nx hb (zig_lt m hm)) ?_
  simp only [go_sem, Int.reduceToNat, Int.reduceLT, Int.reduceLE, Int.reduceBEq, Int.reduceEq, Int.reduceNeg, Int.reduceNegSucc, Int.reduceSub, Int.reduceAdd, Int.reduceMul, Int.natCast_zero, Int.natCast_one, UInt8.reduceToNat, Nat.reduceEqDiff, Nat.reduceAdd, Nat.reduceMul, Nat.reduceSub, Nat.reduceLeDiff, Nat.reduceBEq, ↓reduceIte, reduceCtorEq, Try.results22, enc8_len]
  refine retW_own (i := nx) ?_ ?_
  · simp only [go_sem, Le, Int.reduceToNat, Int.reduceLT, Int.reduceLE, Int.reduceBEq, Int.reduceEq, Int.reduceNeg, Int.reduceNegSucc, Int.reduceSub, Int.reduceAdd, Int.reduceMul, Int.natCast_zero, Int.natCast_one, UInt8.reduceToNat, Nat.reduceEqDiff, Nat.reduceAdd, Nat.reduceMul, Nat.reduceSub, Nat.reduceLeDiff, Nat.reduceBEq, ↓reduceIte, reduceCtorEq]
  · simp [enc8_len]
theorem refInt_spec (b : List UInt8) (m : Int) (nx : Nat) (hb : b.length ≤ 1000000) (hm : -9223372036854775808 ≤ m ∧ m < 9223372036854775808) : OwnS Try.prog 23 [.sl 1 (enc8 b), .v (.int .i64 m)] nx 1 (enc8 (b ++ putU (zig m))) := by
  refine Spec.of_vc Try.func23 rfl (by kernel_rfl) (by kernel_rfl) ?_
  have hz := zig_lt m hm
  have hzd : zig m = if 0 ≤ m then (2 * m).toNat else (-2 * m - 1).toNat := rfl
  by_cases h0 : 0 ≤ m
  · rw [if_pos h0] at hzd
    have e1 : IntKind.u64.wrap m = m := wrap_u64_in _ (by omega)
    have e2 : IntKind.u64.wrap (2 * m) = (zig m : Int) := by rw [wrap_u64_in _ (by omega)]; omega
    simp only [go_sem, Int.reduceToNat, Int.reduceLT, Int.reduceLE, Int.reduceBEq, Int.reduceEq, Int.reduceNeg, Int.reduceNegSucc, Int.reduceSub, Int.reduceAdd, Int.reduceMul, Int.natCast_zero, Int.natCast_one, UInt8.reduceToNat, Nat.reduceEqDiff, Nat.reduceAdd, Nat.reduceMul, Nat.reduceSub, Nat.reduceLeDiff, Nat.reduceBEq, ↓reduceIte, reduceCtorEq, Try.ntmps23, enc8_len, h0, e1, e2]
    refine callF_own (refUint_spec b (zig m) nx hb hz) ?_
    simp only [go_sem, Int.reduceToNat, Int.reduceLT, Int.reduceLE, Int.reduceBEq, Int.reduceEq, Int.reduceNeg, Int.reduceNegSucc, Int.reduceSub, Int.reduceAdd, Int.reduceMul, Int.natCast_zero, Int.natCast_one, UInt8.reduceToNat, Nat.reduceEqDiff, Nat.reduceAdd, Nat.reduceMul, Nat.reduceSub, Nat.reduceLeDiff, Nat.reduceBEq, ↓reduceIte, reduceCtorEq, Try.results23, enc8_len]
    refine retW_own (i := nx) ?_ ?_
    · simp only [go_sem, Le, Int.reduceToNat, Int.reduceLT, Int.reduceLE, Int.reduceBEq, Int.reduceEq, Int.reduceNeg, Int.reduceNegSucc, Int.reduceSub, Int.reduceAdd, Int.reduceMul, Int.natCast_zero, Int.natCast_one, UInt8.reduceToNat, Nat.reduceEqDiff, Nat.reduceAdd, Nat.reduceMul, Nat.reduceSub, Nat.reduceLeDiff, Nat.reduceBEq, ↓reduceIte, reduceCtorEq]
    · simp [enc8_len]
  · rw [if_neg h0] at hzd
    have e1 : IntKind.i64.wrap (m + 1) = m + 1 := wrap_i64 _ (by omega)
    have e2 : IntKind.i64.wrap (0 - (m + 1)) = -m - 1 := by rw [wrap_i64 _ (by omega)]; omega
    have e3 : IntKind.u64.wrap (-m - 1) = -m - 1 := wrap_u64_in _ (by omega)
    have e4 : IntKind.u64.wrap (2 * (-m - 1)) = 2 * (-m - 1) := wrap_u64_in _ (by omega)
    have e5 : IntKind.u64.wrap (2 * (-m - 1) + 1) = (zig m : Int) := by rw [wrap_u64_in _ (by omega)]; omega
    simp only [go_sem, Int.reduceToNat, Int.reduceLT, Int.reduceLE, Int.reduceBEq, Int.reduceEq, Int.reduceNeg, Int.reduceNegSucc, Int.reduceSub, Int.reduceAdd, Int.reduceMul, Int.natCast_zero, Int.natCast_one, UInt8.reduceToNat, Nat.reduceEqDiff, Nat.reduceAdd, Nat.reduceMul, Nat.reduceSub, Nat.reduceLeDiff, Nat.reduceBEq, ↓reduceIte, reduceCtorEq, Try.ntmps23, enc8_len, h0, e1, e2, e3, e4, e5]
    refine callF_own (refUint_spec b (zig m) nx hb hz) ?_
    simp only [go_sem, Int.reduceToNat, Int.reduceLT, Int.reduceLE, Int.reduceBEq, Int.reduceEq, Int.reduceNeg, Int.reduceNegSucc, Int.reduceSub, Int.reduceAdd, Int.reduceMul, Int.natCast_zero, Int.natCast_one, UInt8.reduceToNat, Nat.reduceEqDiff, Nat.reduceAdd, Nat.reduceMul, Nat.reduceSub, Nat.reduceLeDiff, Nat.reduceBEq, ↓reduceIte, reduceCtorEq, Try.results23, enc8_len]
    refine retW_own (i := nx) ?_ ?_
    · simp only [go_sem, Le, Int.reduceToNat, Int.reduceLT, Int.reduceLE, Int.reduceBEq, Int.reduceEq, Int.reduceNeg, Int.reduceNegSucc, Int.reduceSub, Int.reduceAdd, Int.reduceMul, Int.natCast_zero, Int.natCast_one, UInt8.reduceToNat, Nat.reduceEqDiff, Nat.reduceAdd, Nat.reduceMul, Nat.reduceSub, Nat.reduceLeDiff, Nat.reduceBEq, ↓reduceIte, reduceCtorEq]
    · simp [enc8_len]
end Go.Proofs.Ytngeldeahafcfaa

namespace Go.Proofs.Ytngeldeahafcfaa
open Go Go.RowKit
set_option maxHeartbeats 1000000
set_option maxRecDepth 100000
set_option linter.unusedSimpArgs false
theorem wirePuts_spec (b : List UInt8) (n : Nat) (m : Int) (nx : Nat) (hb : b.length < 9223372036854775808) (hn : n < 2 ^ 64) (hm : -9223372036854775808 ≤ m ∧ m < 9223372036854775808) :
    PureS Try.prog 4 [.sl 1 (enc8 b), .v (.int .u64 n), .v (.int .i64 m)] nx (.v (.bool true)) := by
  refine Spec.of_vc Try.func4 rfl (by kernel_rfl) (by kernel_rfl) ?_
  simp only [go_sem, Int.reduceToNat, Int.reduceLT, Int.reduceLE, Int.reduceBEq, Int.reduceEq, Int.reduceNeg, Int.reduceNegSucc, Int.reduceSub, Int.reduceAdd, Int.reduceMul, Int.natCast_zero, Int.natCast_one, UInt8.reduceToNat, Nat.reduceEqDiff, Nat.reduceAdd, Nat.reduceMul, Nat.reduceSub, Nat.reduceLeDiff, Nat.reduceBEq, ↓reduceIte, reduceCtorEq, Try.ntmps4, enc8_len]
  refine callF_pure (awake6_spec nx) ?_
  have hmi : min (b.length : Int) 100 = ((min b.length 100 : Nat) : Int) := by omega
  simp only [go_sem, Int.reduceToNat, Int.reduceLT, Int.reduceLE, Int.reduceBEq, Int.reduceEq, Int.reduceNeg, Int.reduceNegSucc, Int.reduceSub, Int.reduceAdd, Int.reduceMul, Int.natCast_zero, Int.natCast_one, UInt8.reduceToNat, Nat.reduceEqDiff, Nat.reduceAdd, Nat.reduceMul, Nat.reduceSub, Nat.reduceLeDiff, Nat.reduceBEq, ↓reduceIte, reduceCtorEq, enc8_len, hmi, enc8_take]
  repeat (refine And.intro (by first | omega | assumption | (simp +contextual only [and_self, implies_true, true_and, and_true, imp_self]; done) | fail) ?_)
  have hc : (b.take (min b.length 100)).length ≤ 100 := by simp; omega
  generalize b.take (min b.length 100) = c at *
  have hl1 : (c ++ putU n).length ≤ 1000000 := by have := putU_len n hn; simp; omega
  have hl2 : (c ++ putU (zig m)).length ≤ 1000000 := by have := putU_len (zig m) (zig_lt m hm); simp; omega
  refine callF_pure (uint_spec c n nx (by omega) hn).pure ?_
  simp only [go_sem, Int.reduceToNat, Int.reduceLT, Int.reduceLE, Int.reduceBEq, Int.reduceEq, Int.reduceNeg, Int.reduceNegSucc, Int.reduceSub, Int.reduceAdd, Int.reduceMul, Int.natCast_zero, Int.natCast_one, UInt8.reduceToNat, Nat.reduceEqDiff, Nat.reduceAdd, Nat.reduceMul, Nat.reduceSub, Nat.reduceLeDiff, Nat.reduceBEq, ↓reduceIte, reduceCtorEq]
  refine callF_pure (refUint_spec c n nx (by omega) hn).pure ?_
  simp only [go_sem, Int.reduceToNat, Int.reduceLT, Int.reduceLE, Int.reduceBEq, Int.reduceEq, Int.reduceNeg, Int.reduceNegSucc, Int.reduceSub, Int.reduceAdd, Int.reduceMul, Int.natCast_zero, Int.natCast_one, UInt8.reduceToNat, Nat.reduceEqDiff, Nat.reduceAdd, Nat.reduceMul, Nat.reduceSub, Nat.reduceLeDiff, Nat.reduceBEq, ↓reduceIte, reduceCtorEq]
  refine callF_pure (same_spec _ _ nx hl1 hl1) ?_
  simp only [go_sem, Int.reduceToNat, Int.reduceLT, Int.reduceLE, Int.reduceBEq, Int.reduceEq, Int.reduceNeg, Int.reduceNegSucc, Int.reduceSub, Int.reduceAdd, Int.reduceMul, Int.natCast_zero, Int.natCast_one, UInt8.reduceToNat, Nat.reduceEqDiff, Nat.reduceAdd, Nat.reduceMul, Nat.reduceSub, Nat.reduceLeDiff, Nat.reduceBEq, ↓reduceIte, reduceCtorEq, beq_self_eq_true]
  refine callF_pure (int_spec c m nx (by omega) hm).pure ?_
  simp only [go_sem, Int.reduceToNat, Int.reduceLT, Int.reduceLE, Int.reduceBEq, Int.reduceEq, Int.reduceNeg, Int.reduceNegSucc, Int.reduceSub, Int.reduceAdd, Int.reduceMul, Int.natCast_zero, Int.natCast_one, UInt8.reduceToNat, Nat.reduceEqDiff, Nat.reduceAdd, Nat.reduceMul, Nat.reduceSub, Nat.reduceLeDiff, Nat.reduceBEq, ↓reduceIte, reduceCtorEq]
  refine callF_pure (refInt_spec c m nx (by omega) hm).pure ?_
  simp only [go_sem, Int.reduceToNat, Int.reduceLT, Int.reduceLE, Int.reduceBEq, Int.reduceEq, Int.reduceNeg, Int.reduceNegSucc, Int.reduceSub, Int.reduceAdd, Int.reduceMul, Int.natCast_zero, Int.natCast_one, UInt8.reduceToNat, Nat.reduceEqDiff, Nat.reduceAdd, Nat.reduceMul, Nat.reduceSub, Nat.reduceLeDiff, Nat.reduceBEq, ↓reduceIte, reduceCtorEq]
  refine callF_pure (same_spec _ _ nx hl2 hl2) ?_
  simp only [go_sem, Int.reduceToNat, Int.reduceLT, Int.reduceLE, Int.reduceBEq, Int.reduceEq, Int.reduceNeg, Int.reduceNegSucc, Int.reduceSub, Int.reduceAdd, Int.reduceMul, Int.natCast_zero, Int.natCast_one, UInt8.reduceToNat, Nat.reduceEqDiff, Nat.reduceAdd, Nat.reduceMul, Nat.reduceSub, Nat.reduceLeDiff, Nat.reduceBEq, ↓reduceIte, reduceCtorEq, beq_self_eq_true, Try.results4]
  refine retW_pure rfl ?_
  simp only [go_sem, Le, Int.reduceToNat, Int.reduceLT, Int.reduceLE, Int.reduceBEq, Int.reduceEq, Int.reduceNeg, Int.reduceNegSucc, Int.reduceSub, Int.reduceAdd, Int.reduceMul, Int.natCast_zero, Int.natCast_one, UInt8.reduceToNat, Nat.reduceEqDiff, Nat.reduceAdd, Nat.reduceMul, Nat.reduceSub, Nat.reduceLeDiff, Nat.reduceBEq, ↓reduceIte, reduceCtorEq]
end Go.Proofs.Ytngeldeahafcfaa

namespace Go.Proofs.Ytngeldeahafcfaa
open Go Go.RowKit
theorem Spec.nil_arg {P : Program} {f : FuncId} {rest : List AV} {hp : Hp} {nx : Nat} {Q : AV → Hp → Nat → Prop} {sz : Nat} (h : Spec P f (.sl sz [] :: rest) hp nx Q) : Spec P f (.v (.slice none 0 0) :: rest) hp nx Q := by
  intro w β A vs hA hargs hhp
  refine h w β A vs hA ?_ hhp
  cases vs with
  | nil => simp [repL] at hargs
  | cons u us =>
    simp only [repL, rep] at hargs ⊢
    exact ⟨.inl ⟨trivial, none, 0, hargs.1⟩, hargs.2⟩
theorem uint_nil (n nx : Nat) (hn : n < 2 ^ 64) : PureS Try.prog 20 [.v (.slice none 0 0), .v (.int .u64 n)] nx (.sl 1 (enc8 (putU n))) :=
  Spec.nil_arg (uint_spec [] n nx (by simp) hn).pure
theorem int_nil (m : Int) (nx : Nat) (hm : -9223372036854775808 ≤ m ∧ m < 9223372036854775808) : PureS Try.prog 22 [.v (.slice none 0 0), .v (.int .i64 m)] nx (.sl 1 (enc8 (putU (zig m)))) :=
  Spec.nil_arg (int_spec [] m nx (by simp) hm).pure
theorem putU_small (v : Nat) (h : v < 128) : putU v = [v.toUInt8] := by unfold putU; rw [if_pos h]
theorem putU_big (v : Nat) (h : ¬ v < 128) : putU v = (v % 128 + 128).toUInt8 :: putU (v / 128) := by
  conv => lhs; unfold putU
  rw [if_neg h]
theorem putU_pos (v : Nat) : 0 < (putU v).length := by
  by_cases h : v < 128
  · rw [putU_small v h]; simp
  · rw [putU_big v h]; simp
theorem u8_toNat (v : Nat) (h : v < 256) : v.toUInt8.toNat = v := by
  rw [Nat.toUInt8_eq, UInt8.toNat_ofNat']
  omega
theorem putU_mono : ∀ (k n m : Nat), n < k → n ≤ m → (putU n).length ≤ (putU m).length
  | 0, n, m, h, _ => by omega
  | k + 1, n, m, h, hnm => by
    by_cases h1 : n < 128
    · rw [putU_small n h1]; exact putU_pos m
    · rw [putU_big n h1, putU_big m (by omega)]
      have := putU_mono k (n / 128) (m / 128) (by omega) (by omega)
      simpa using this
theorem pow_step (i : Nat) : 2 ^ (7 * (i + 1)) = 128 * 2 ^ (7 * i) := by rw [show 7 * (i + 1) = 7 * i + 7 by omega, Nat.pow_add]; omega
theorem put_cond (i v : Nat) (hv : v * 2 ^ (7 * i) < 2 ^ 64) (h9 : i ≤ 9) : (i = 9 → v ≤ 1) := by
  intro h; subst h; omega
theorem readU_put : ∀ (k v : Nat) (t : List UInt8) (i n : Nat), v < k → i ≤ 9 → v * 2 ^ (7 * i) < 2 ^ 64 → (0 < i → 0 < v) →
    readU (putU v ++ t) i n = (n + v * 2 ^ (7 * i), i + (putU v).length, 0)
  | 0, v, t, i, n, h, _, _, _ => by omega
  | k + 1, v, t, i, n, h, h9, hv, h0 => by
    have hc := put_cond i v hv h9
    by_cases h1 : v < 128
    · rw [putU_small v h1, List.cons_append, readU_cons, u8_toNat v (by omega), if_neg (by omega), if_neg (by omega), if_neg (by omega), Nat.mod_eq_of_lt h1]
      simp
    · have hi : i ≠ 9 := fun h => by have := hc h; omega
      have hp := pow_step i
      have hdm : v = 128 * (v / 128) + v % 128 := (Nat.div_add_mod v 128).symm
      have hmul : v * 2 ^ (7 * i) = (v / 128) * 2 ^ (7 * (i + 1)) + (v % 128) * 2 ^ (7 * i) := by
        rw [hp, ← Nat.mul_assoc, ← Nat.add_mul, Nat.mul_comm (v / 128), ← hdm]
      rw [putU_big v h1, List.cons_append, readU_cons, u8_toNat _ (by omega), if_neg (by omega), if_pos (by omega),
        readU_put k (v / 128) t (i + 1) _ (by omega) (by omega) (by omega) (by omega)]
      have : (v % 128 + 128) % 128 = v % 128 := by omega
      rw [this, hmul]
      simp only [List.length_cons, Prod.mk.injEq, and_true]
      exact ⟨by omega, by omega⟩
theorem readU_short : ∀ (k v j i n : Nat), v < k → i ≤ 9 → v * 2 ^ (7 * i) < 2 ^ 64 → (0 < i → 0 < v) → j < (putU v).length →
    readU ((putU v).take j) i n = (0, 0, 3)
  | 0, v, j, i, n, h, _, _, _, _ => by omega
  | k + 1, v, 0, i, n, h, h9, hv, h0, hj => by simp [readU]
  | k + 1, v, j + 1, i, n, h, h9, hv, h0, hj => by
    have hc := put_cond i v hv h9
    by_cases h1 : v < 128
    · rw [putU_small v h1] at hj; simp at hj
    · have hi : i ≠ 9 := fun h => by have := hc h; omega
      have hp := pow_step i
      have hdm : v = 128 * (v / 128) + v % 128 := (Nat.div_add_mod v 128).symm
      have hmul : v * 2 ^ (7 * i) = (v / 128) * 2 ^ (7 * (i + 1)) + (v % 128) * 2 ^ (7 * i) := by
        rw [hp, ← Nat.mul_assoc, ← Nat.add_mul, Nat.mul_comm (v / 128), ← hdm]
      rw [putU_big v h1] at hj
      rw [putU_big v h1, List.take_succ_cons, readU_cons, u8_toNat _ (by omega), if_neg (by omega), if_pos (by omega),
        readU_short k (v / 128) j (i + 1) _ (by omega) (by omega) (by omega) (by omega) (by simp at hj; omega)]
theorem u8_back (x : UInt8) : x.toNat.toUInt8 = x := by simp
theorem readU_back : ∀ (b : List UInt8) (i n y s : Nat), readU b i n = (y, s, 0) → ∃ v, y = n + v * 2 ^ (7 * i) ∧ i < s ∧ s - i ≤ b.length ∧ putU v = b.take (s - i) ∧ (0 < i → 0 < v)
  | [], i, n, y, s, h => by simp [readU] at h
  | x :: r, i, n, y, s, h => by
    rw [readU_cons] at h
    have hx := x.toNat_lt
    split at h
    · simp at h
    · split at h
      · rename_i h1
        obtain ⟨v, e1, e2, e3, e4, e5⟩ := readU_back r (i + 1) _ y s h
        have hp := pow_step i
        have h0 := e5 (by omega)
        refine ⟨x.toNat % 128 + 128 * v, ?_, by omega, by simp; omega, ?_, fun _ => by omega⟩
        · rw [e1, hp, Nat.add_mul, ← Nat.mul_assoc, Nat.mul_comm v 128]; omega
        · rw [putU_big _ (by omega), show (x.toNat % 128 + 128 * v) / 128 = v by omega, e4, show s - i = (s - (i + 1)) + 1 by omega, List.take_succ_cons,
            show (x.toNat % 128 + 128 * v) % 128 + 128 = x.toNat by omega, u8_back]
      · split at h
        · simp at h
        · rename_i h1 h2
          simp only [Prod.mk.injEq, and_true] at h
          refine ⟨x.toNat, by rw [← h.1, Nat.mod_eq_of_lt (by omega)], by omega, by simp; omega, ?_, fun _ => by omega⟩
          rw [putU_small _ (by omega), u8_back, show s - i = 1 by omega]
          simp
theorem unzig_zig (m : Int) : unzig (zig m) = m := by
  unfold unzig zig
  split <;> split <;> omega
end Go.Proofs.Ytngeldeahafcfaa

namespace Go.Proofs.Ytngeldeahafcfaa
open Go Go.RowKit
set_option maxHeartbeats 1000000
set_option maxRecDepth 100000
set_option linter.unusedSimpArgs false
theorem wireSize_spec (n m : Nat) (k : Int) (nx : Nat) (hn : n < 2 ^ 64) (hm : m < 2 ^ 64) (hk : -128 ≤ k ∧ k < 128) :
    PureS Try.prog 6 [.v (.int .u64 n), .v (.int .u64 m), .v (.int .i8 k)] nx (.v (.bool true)) := by
  refine Spec.of_vc Try.func6 rfl (by kernel_rfl) (by kernel_rfl) ?_
  simp only [go_sem, Int.reduceToNat, Int.reduceLT, Int.reduceLE, Int.reduceBEq, Int.reduceEq, Int.reduceNeg, Int.reduceNegSucc, Int.reduceSub, Int.reduceAdd, Int.reduceMul, Int.natCast_zero, Int.natCast_one, UInt8.reduceToNat, Nat.reduceEqDiff, Nat.reduceAdd, Nat.reduceMul, Nat.reduceSub, Nat.reduceLeDiff, Nat.reduceBEq, ↓reduceIte, reduceCtorEq, Try.ntmps6, enc8_len]
  refine callF_pure (awake6_spec nx) ?_
  simp only [go_sem, Int.reduceToNat, Int.reduceLT, Int.reduceLE, Int.reduceBEq, Int.reduceEq, Int.reduceNeg, Int.reduceNegSucc, Int.reduceSub, Int.reduceAdd, Int.reduceMul, Int.natCast_zero, Int.natCast_one, UInt8.reduceToNat, Nat.reduceEqDiff, Nat.reduceAdd, Nat.reduceMul, Nat.reduceSub, Nat.reduceLeDiff, Nat.reduceBEq, ↓reduceIte, reduceCtorEq, enc8_len, shrI_u64_7]
  refine seq_go ?_
  simp only [go_sem, Int.reduceToNat, Int.reduceLT, Int.reduceLE, Int.reduceBEq, Int.reduceEq, Int.reduceNeg, Int.reduceNegSucc, Int.reduceSub, Int.reduceAdd, Int.reduceMul, Int.natCast_zero, Int.natCast_one, UInt8.reduceToNat, Nat.reduceEqDiff, Nat.reduceAdd, Nat.reduceMul, Nat.reduceSub, Nat.reduceLeDiff, Nat.reduceBEq, ↓reduceIte, reduceCtorEq, shrI_u64_7]
  refine loop_intro (ι := Nat × Nat) (fun i => ⟨nx, [(0, .v (.int .u64 n)), (1, .v (.int .u64 m)), (2, .v (.int .i8 k)), (7, .v (.int .i64 i.1)), (8, .v (.int .u64 i.2))], [], nx, 64⟩)
    (fun i => i.2 < 2 ^ 64 ∧ i.1 ≤ 100 ∧ i.1 + (if i.2 = 0 then 0 else (putU i.2).length) = (putU n).length) (fun i => i.2) (1, n / 128) [] ?_ ?_ ?_
  · simp only [go_sem, Le, Int.reduceToNat, Int.reduceLT, Int.reduceLE, Int.reduceBEq, Int.reduceEq, Int.reduceNeg, Int.reduceNegSucc, Int.reduceSub, Int.reduceAdd, Int.reduceMul, Int.natCast_zero, Int.natCast_one, UInt8.reduceToNat, Nat.reduceEqDiff, Nat.reduceAdd, Nat.reduceMul, Nat.reduceSub, Nat.reduceLeDiff, Nat.reduceBEq, ↓reduceIte, reduceCtorEq]
  · refine ⟨by simp only; omega, by simp only; omega, ?_⟩
    by_cases h : n < 128
    · rw [if_pos (by simp only; omega), putU_small n h]; rfl
    · rw [if_neg (by simp only; omega), putU_big n h]; simp; omega
  · rintro ⟨sz, x⟩ ⟨h1, h2, h3⟩
    simp only at h1 h2 h3
    have hln := putU_len n hn
    by_cases hx : 0 < x
    · have hx' : (0 : Int) < x := by omega
      have e5 : IntKind.i64.wrap ((sz : Int) + 1) = ((sz + 1 : Nat) : Int) := by rw [wrap_i64 _ (by omega)]; omega
      simp only [go_sem, Int.reduceToNat, Int.reduceLT, Int.reduceLE, Int.reduceBEq, Int.reduceEq, Int.reduceNeg, Int.reduceNegSucc, Int.reduceSub, Int.reduceAdd, Int.reduceMul, Int.natCast_zero, Int.natCast_one, UInt8.reduceToNat, Nat.reduceEqDiff, Nat.reduceAdd, Nat.reduceMul, Nat.reduceSub, Nat.reduceLeDiff, Nat.reduceBEq, ↓reduceIte, reduceCtorEq, hx', e5, shrI_u64_7]
      rw [if_neg (by omega)] at h3
      have := putU_pos x
      refine ⟨(sz + 1, x / 128), [], ?_, by omega, by omega, ?_, by omega⟩
      · simp only [go_sem, Le, Int.reduceToNat, Int.reduceLT, Int.reduceLE, Int.reduceBEq, Int.reduceEq, Int.reduceNeg, Int.reduceNegSucc, Int.reduceSub, Int.reduceAdd, Int.reduceMul, Int.natCast_zero, Int.natCast_one, UInt8.reduceToNat, Nat.reduceEqDiff, Nat.reduceAdd, Nat.reduceMul, Nat.reduceSub, Nat.reduceLeDiff, Nat.reduceBEq, ↓reduceIte, reduceCtorEq]
      · by_cases h : x < 128
        · rw [if_pos (by simp only; omega)]; rw [putU_small x h] at h3; simpa using h3
        · rw [if_neg (by simp only; omega)]; rw [putU_big x h] at h3; simp only [List.length_cons] at h3 ⊢; omega
    · have hx' : ¬ (0 : Int) < x := by omega
      rw [if_pos (by omega)] at h3
      have hsz : sz = (putU n).length := by omega
      clear h3
      subst hsz
      have ek : IntKind.i64.wrap k = k := wrap_i64 _ (by omega)
      have hz : (putU (zig k)).length = if -64 ≤ k ∧ k < 64 then 1 else 2 := by
        have hzd : zig k = if 0 ≤ k then (2 * k).toNat else (-2 * k - 1).toNat := rfl
        by_cases hs : zig k < 128
        · rw [putU_small _ hs, if_pos (by split at hzd <;> omega)]; rfl
        · rw [putU_big _ hs, putU_small _ (by split at hzd <;> omega), if_neg (by split at hzd <;> omega)]; rfl
      generalize hsc : putU (zig k) = bs at *
      have fin : ∀ s : St, s.nb = nx → retW s (AV.v (Value.bool (((bs.length : Int) == 1) == (decide (-64 ≤ k) && decide (k < 64)) && decide (1 ≤ (bs.length : Int)) && decide ((bs.length : Int) ≤ 2)))) (PureQ (AV.v (Value.bool true)) nx) := by
        intro s hs
        refine retW_pure hs ?_
        rw [hz]
        by_cases hk2 : -64 ≤ k ∧ k < 64
        · simp [AvLe, hk2]
        · have : (decide (-64 ≤ k) && decide (k < 64)) = false := by simp; omega
          rw [this]
          simp [AvLe, hk2]
      have hin := int_nil k nx (by omega)
      rw [hsc] at hin
      by_cases hmn : (m : Int) < n
      · simp only [go_sem, Int.reduceToNat, Int.reduceLT, Int.reduceLE, Int.reduceBEq, Int.reduceEq, Int.reduceNeg, Int.reduceNegSucc, Int.reduceSub, Int.reduceAdd, Int.reduceMul, Int.natCast_zero, Int.natCast_one, UInt8.reduceToNat, Nat.reduceEqDiff, Nat.reduceAdd, Nat.reduceMul, Nat.reduceSub, Nat.reduceLeDiff, Nat.reduceBEq, ↓reduceIte, reduceCtorEq, hx', ek]
        refine callF_pure hin ?_
        simp only [go_sem, Int.reduceToNat, Int.reduceLT, Int.reduceLE, Int.reduceBEq, Int.reduceEq, Int.reduceNeg, Int.reduceNegSucc, Int.reduceSub, Int.reduceAdd, Int.reduceMul, Int.natCast_zero, Int.natCast_one, UInt8.reduceToNat, Nat.reduceEqDiff, Nat.reduceAdd, Nat.reduceMul, Nat.reduceSub, Nat.reduceLeDiff, Nat.reduceBEq, ↓reduceIte, reduceCtorEq, enc8_len]
        refine callF_pure (uint_nil n nx hn) ?_
        simp only [go_sem, Int.reduceToNat, Int.reduceLT, Int.reduceLE, Int.reduceBEq, Int.reduceEq, Int.reduceNeg, Int.reduceNegSucc, Int.reduceSub, Int.reduceAdd, Int.reduceMul, Int.natCast_zero, Int.natCast_one, UInt8.reduceToNat, Nat.reduceEqDiff, Nat.reduceAdd, Nat.reduceMul, Nat.reduceSub, Nat.reduceLeDiff, Nat.reduceBEq, ↓reduceIte, reduceCtorEq, enc8_len, hmn, Try.results6, beq_self_eq_true]
        exact fin _ rfl
      · have hle := putU_mono (n + 1) n m (by omega) (by omega)
        have hle' : ((putU n).length : Int) ≤ (putU m).length := by omega
        simp only [go_sem, Int.reduceToNat, Int.reduceLT, Int.reduceLE, Int.reduceBEq, Int.reduceEq, Int.reduceNeg, Int.reduceNegSucc, Int.reduceSub, Int.reduceAdd, Int.reduceMul, Int.natCast_zero, Int.natCast_one, UInt8.reduceToNat, Nat.reduceEqDiff, Nat.reduceAdd, Nat.reduceMul, Nat.reduceSub, Nat.reduceLeDiff, Nat.reduceBEq, ↓reduceIte, reduceCtorEq, hx', ek]
        refine callF_pure hin ?_
        simp only [go_sem, Int.reduceToNat, Int.reduceLT, Int.reduceLE, Int.reduceBEq, Int.reduceEq, Int.reduceNeg, Int.reduceNegSucc, Int.reduceSub, Int.reduceAdd, Int.reduceMul, Int.natCast_zero, Int.natCast_one, UInt8.reduceToNat, Nat.reduceEqDiff, Nat.reduceAdd, Nat.reduceMul, Nat.reduceSub, Nat.reduceLeDiff, Nat.reduceBEq, ↓reduceIte, reduceCtorEq, enc8_len]
        refine callF_pure (uint_nil n nx hn) ?_
        simp only [go_sem, Int.reduceToNat, Int.reduceLT, Int.reduceLE, Int.reduceBEq, Int.reduceEq, Int.reduceNeg, Int.reduceNegSucc, Int.reduceSub, Int.reduceAdd, Int.reduceMul, Int.natCast_zero, Int.natCast_one, UInt8.reduceToNat, Nat.reduceEqDiff, Nat.reduceAdd, Nat.reduceMul, Nat.reduceSub, Nat.reduceLeDiff, Nat.reduceBEq, ↓reduceIte, reduceCtorEq, enc8_len, hmn, beq_self_eq_true]
        refine callF_pure (uint_nil n nx hn) ?_
        simp only [go_sem, Int.reduceToNat, Int.reduceLT, Int.reduceLE, Int.reduceBEq, Int.reduceEq, Int.reduceNeg, Int.reduceNegSucc, Int.reduceSub, Int.reduceAdd, Int.reduceMul, Int.natCast_zero, Int.natCast_one, UInt8.reduceToNat, Nat.reduceEqDiff, Nat.reduceAdd, Nat.reduceMul, Nat.reduceSub, Nat.reduceLeDiff, Nat.reduceBEq, ↓reduceIte, reduceCtorEq, enc8_len, hmn, beq_self_eq_true]
        refine callF_pure (uint_nil m nx hm) ?_
        simp only [go_sem, Int.reduceToNat, Int.reduceLT, Int.reduceLE, Int.reduceBEq, Int.reduceEq, Int.reduceNeg, Int.reduceNegSucc, Int.reduceSub, Int.reduceAdd, Int.reduceMul, Int.natCast_zero, Int.natCast_one, UInt8.reduceToNat, Nat.reduceEqDiff, Nat.reduceAdd, Nat.reduceMul, Nat.reduceSub, Nat.reduceLeDiff, Nat.reduceBEq, ↓reduceIte, reduceCtorEq, enc8_len, hmn, Try.results6, beq_self_eq_true, hle']
        exact fin _ rfl
end Go.Proofs.Ytngeldeahafcfaa

namespace Go.Proofs.Ytngeldeahafcfaa
open Go Go.RowKit
set_option maxHeartbeats 1000000
set_option maxRecDepth 100000
set_option linter.unusedSimpArgs false
theorem wireBack_spec (n : Nat) (m : Int) (b : List UInt8) (nx : Nat) (hb : b.length < 9223372036854775808) (hn : n < 2 ^ 64) (hm : -9223372036854775808 ≤ m ∧ m < 9223372036854775808) :
    PureS Try.prog 5 [.v (.int .u64 n), .v (.int .i64 m), .sl 1 (enc8 b)] nx (.v (.bool true)) := by
  refine Spec.of_vc Try.func5 rfl (by kernel_rfl) (by kernel_rfl) ?_
  simp only [go_sem, Int.reduceToNat, Int.reduceLT, Int.reduceLE, Int.reduceBEq, Int.reduceEq, Int.reduceNeg, Int.reduceNegSucc, Int.reduceSub, Int.reduceAdd, Int.reduceMul, Int.natCast_zero, Int.natCast_one, UInt8.reduceToNat, Nat.reduceEqDiff, Nat.reduceAdd, Nat.reduceMul, Nat.reduceSub, Nat.reduceLeDiff, Nat.reduceBEq, ↓reduceIte, reduceCtorEq, Try.ntmps5, enc8_len]
  refine callF_pure (awake6_spec nx) ?_
  have hmi : min (b.length : Int) 100 = ((min b.length 100 : Nat) : Int) := by omega
  simp only [go_sem, Int.reduceToNat, Int.reduceLT, Int.reduceLE, Int.reduceBEq, Int.reduceEq, Int.reduceNeg, Int.reduceNegSucc, Int.reduceSub, Int.reduceAdd, Int.reduceMul, Int.natCast_zero, Int.natCast_one, UInt8.reduceToNat, Nat.reduceEqDiff, Nat.reduceAdd, Nat.reduceMul, Nat.reduceSub, Nat.reduceLeDiff, Nat.reduceBEq, ↓reduceIte, reduceCtorEq, enc8_len, hmi, enc8_take]
  repeat (refine And.intro (by first | omega | assumption | (simp +contextual only [and_self, implies_true, true_and, and_true, imp_self]; done) | fail) ?_)
  have hc : (b.take (min b.length 100)).length ≤ 100 := by simp; omega
  generalize b.take (min b.length 100) = c at *
  have hln := putU_len n hn
  have hlm := putU_len (zig m) (zig_lt m hm)
  refine callF_pure (uint_nil n nx hn) ?_
  simp only [go_sem, Int.reduceToNat, Int.reduceLT, Int.reduceLE, Int.reduceBEq, Int.reduceEq, Int.reduceNeg, Int.reduceNegSucc, Int.reduceSub, Int.reduceAdd, Int.reduceMul, Int.natCast_zero, Int.natCast_one, UInt8.reduceToNat, Nat.reduceEqDiff, Nat.reduceAdd, Nat.reduceMul, Nat.reduceSub, Nat.reduceLeDiff, Nat.reduceBEq, ↓reduceIte, reduceCtorEq, enc8_len]
  repeat (refine And.intro (by first | omega | assumption | (simp +contextual only [and_self, implies_true, true_and, and_true, imp_self]; done) | fail) ?_)
  have hr : readU (putU n ++ c) 0 0 = (n, (putU n).length, 0) := by
    have := readU_put (n + 1) n c 0 0 (by omega) (by omega) (by omega) (by omega)
    simpa using this
  refine callF_weak (s' := ⟨nx, [(0, .v (.int .u64 n)), (1, .v (.int .i64 m)), (2, .sl 1 (enc8 c)), (7, .sl 1 (enc8 (putU n)))], [], nx, 111⟩) (l := []) (args' := [.sl 1 (enc8 (putU n ++ c))]) (by simp only [go_sem, Le, Int.reduceToNat, Int.reduceLT, Int.reduceLE, Int.reduceBEq, Int.reduceEq, Int.reduceNeg, Int.reduceNegSucc, Int.reduceSub, Int.reduceAdd, Int.reduceMul, Int.natCast_zero, Int.natCast_one, UInt8.reduceToNat, Nat.reduceEqDiff, Nat.reduceAdd, Nat.reduceMul, Nat.reduceSub, Nat.reduceLeDiff, Nat.reduceBEq, ↓reduceIte, reduceCtorEq]) (by simp [AvLe, AvLe.AvLeL, enc8, getO, notIn]; rw [List.take_of_length_le (by simp)]) (callF_pure (readU_spec (putU n ++ c) nx (by simp; omega)) ?_)
  simp only [go_sem, Int.reduceToNat, Int.reduceLT, Int.reduceLE, Int.reduceBEq, Int.reduceEq, Int.reduceNeg, Int.reduceNegSucc, Int.reduceSub, Int.reduceAdd, Int.reduceMul, Int.natCast_zero, Int.natCast_one, UInt8.reduceToNat, Nat.reduceEqDiff, Nat.reduceAdd, Nat.reduceMul, Nat.reduceSub, Nat.reduceLeDiff, Nat.reduceBEq, ↓reduceIte, reduceCtorEq, tup3, enc8_len, hr, bne, beq_self_eq_true]
  refine seq_go ?_
  simp only [go_sem, Int.reduceToNat, Int.reduceLT, Int.reduceLE, Int.reduceBEq, Int.reduceEq, Int.reduceNeg, Int.reduceNegSucc, Int.reduceSub, Int.reduceAdd, Int.reduceMul, Int.natCast_zero, Int.natCast_one, UInt8.reduceToNat, Nat.reduceEqDiff, Nat.reduceAdd, Nat.reduceMul, Nat.reduceSub, Nat.reduceLeDiff, Nat.reduceBEq, ↓reduceIte, reduceCtorEq]
  refine loop_intro (ι := Nat) (fun i => ⟨nx, [(0, .v (.int .u64 n)), (1, .v (.int .i64 m)), (2, .sl 1 (enc8 c)), (7, .sl 1 (enc8 (putU n))), (11, .v (.int .i64 i))], [], nx, 111⟩) (fun i => i ≤ (putU n).length) (fun i => (putU n).length - i) 0 [] ?_ (by omega) ?_
  · simp only [go_sem, Le, Int.reduceToNat, Int.reduceLT, Int.reduceLE, Int.reduceBEq, Int.reduceEq, Int.reduceNeg, Int.reduceNegSucc, Int.reduceSub, Int.reduceAdd, Int.reduceMul, Int.natCast_zero, Int.natCast_one, UInt8.reduceToNat, Nat.reduceEqDiff, Nat.reduceAdd, Nat.reduceMul, Nat.reduceSub, Nat.reduceLeDiff, Nat.reduceBEq, ↓reduceIte, reduceCtorEq]
  · intro i h1
    by_cases hi : i < (putU n).length
    · have hi' : (i : Int) < (putU n).length := by omega
      have e5 : IntKind.i64.wrap ((i : Int) + 1) = ((i + 1 : Nat) : Int) := by rw [wrap_i64 _ (by omega)]; omega
      have hle : (i : Int) ≤ (putU n).length := by omega
      simp only [go_sem, Int.reduceToNat, Int.reduceLT, Int.reduceLE, Int.reduceBEq, Int.reduceEq, Int.reduceNeg, Int.reduceNegSucc, Int.reduceSub, Int.reduceAdd, Int.reduceMul, Int.natCast_zero, Int.natCast_one, UInt8.reduceToNat, Nat.reduceEqDiff, Nat.reduceAdd, Nat.reduceMul, Nat.reduceSub, Nat.reduceLeDiff, Nat.reduceBEq, ↓reduceIte, reduceCtorEq, hi', hle, enc8_len, enc8_take]
      refine callF_pure (readU_spec ((putU n).take i) nx (by simp; omega)) ?_
      have hs := readU_short (n + 1) n i 0 0 (by omega) (by omega) (by omega) (by omega) hi
      simp only [go_sem, Int.reduceToNat, Int.reduceLT, Int.reduceLE, Int.reduceBEq, Int.reduceEq, Int.reduceNeg, Int.reduceNegSucc, Int.reduceSub, Int.reduceAdd, Int.reduceMul, Int.natCast_zero, Int.natCast_one, UInt8.reduceToNat, Nat.reduceEqDiff, Nat.reduceAdd, Nat.reduceMul, Nat.reduceSub, Nat.reduceLeDiff, Nat.reduceBEq, ↓reduceIte, reduceCtorEq, tup3, hs, bne, beq_self_eq_true, e5]
      exact ⟨i + 1, [], by simp only [go_sem, Le, Int.reduceToNat, Int.reduceLT, Int.reduceLE, Int.reduceBEq, Int.reduceEq, Int.reduceNeg, Int.reduceNegSucc, Int.reduceSub, Int.reduceAdd, Int.reduceMul, Int.natCast_zero, Int.natCast_one, UInt8.reduceToNat, Nat.reduceEqDiff, Nat.reduceAdd, Nat.reduceMul, Nat.reduceSub, Nat.reduceLeDiff, Nat.reduceBEq, ↓reduceIte, reduceCtorEq], by omega, by omega⟩
    · have hi' : ¬ (i : Int) < (putU n).length := by omega
      simp only [go_sem, Int.reduceToNat, Int.reduceLT, Int.reduceLE, Int.reduceBEq, Int.reduceEq, Int.reduceNeg, Int.reduceNegSucc, Int.reduceSub, Int.reduceAdd, Int.reduceMul, Int.natCast_zero, Int.natCast_one, UInt8.reduceToNat, Nat.reduceEqDiff, Nat.reduceAdd, Nat.reduceMul, Nat.reduceSub, Nat.reduceLeDiff, Nat.reduceBEq, ↓reduceIte, reduceCtorEq, hi', enc8_len]
      refine callF_pure (int_nil m nx hm) ?_
      simp only [go_sem, Int.reduceToNat, Int.reduceLT, Int.reduceLE, Int.reduceBEq, Int.reduceEq, Int.reduceNeg, Int.reduceNegSucc, Int.reduceSub, Int.reduceAdd, Int.reduceMul, Int.natCast_zero, Int.natCast_one, UInt8.reduceToNat, Nat.reduceEqDiff, Nat.reduceAdd, Nat.reduceMul, Nat.reduceSub, Nat.reduceLeDiff, Nat.reduceBEq, ↓reduceIte, reduceCtorEq, enc8_len]
      refine callF_pure (readInt_spec (putU (zig m)) nx (by omega)) ?_
      have hr2 : readU (putU (zig m)) 0 0 = (zig m, (putU (zig m)).length, 0) := by
        have hz := zig_lt m hm
        have := readU_put (zig m + 1) (zig m) [] 0 0 (by omega) (by omega) (by omega) (by omega)
        simpa using this
      simp only [go_sem, Int.reduceToNat, Int.reduceLT, Int.reduceLE, Int.reduceBEq, Int.reduceEq, Int.reduceNeg, Int.reduceNegSucc, Int.reduceSub, Int.reduceAdd, Int.reduceMul, Int.natCast_zero, Int.natCast_one, UInt8.reduceToNat, Nat.reduceEqDiff, Nat.reduceAdd, Nat.reduceMul, Nat.reduceSub, Nat.reduceLeDiff, Nat.reduceBEq, ↓reduceIte, reduceCtorEq, tup3i, hr2, unzig_zig, bne, beq_self_eq_true]
      refine callF_pure (int_nil m nx hm) ?_
      simp only [go_sem, Int.reduceToNat, Int.reduceLT, Int.reduceLE, Int.reduceBEq, Int.reduceEq, Int.reduceNeg, Int.reduceNegSucc, Int.reduceSub, Int.reduceAdd, Int.reduceMul, Int.natCast_zero, Int.natCast_one, UInt8.reduceToNat, Nat.reduceEqDiff, Nat.reduceAdd, Nat.reduceMul, Nat.reduceSub, Nat.reduceLeDiff, Nat.reduceBEq, ↓reduceIte, reduceCtorEq, enc8_len, bne, beq_self_eq_true]
      refine callF_pure (readU_spec c nx (by omega)) ?_
      rcases hrc : readU c 0 0 with ⟨y, s, e⟩
      by_cases he : e = 0
      · subst he
        obtain ⟨v, h2, h3, h4, h5, _⟩ := readU_back c 0 0 y s hrc
        have hyv : y = v := by simpa using h2
        subst hyv
        have hs1 : (1 : Int) ≤ s := by omega
        have hs2 : (s : Int) ≤ c.length := by omega
        have hyl : y < 2 ^ 64 := by have := readU_lt c 0 0 (by omega) (by simp); rw [hrc] at this; exact this
        simp only [go_sem, Int.reduceToNat, Int.reduceLT, Int.reduceLE, Int.reduceBEq, Int.reduceEq, Int.reduceNeg, Int.reduceNegSucc, Int.reduceSub, Int.reduceAdd, Int.reduceMul, Int.natCast_zero, Int.natCast_one, UInt8.reduceToNat, Nat.reduceEqDiff, Nat.reduceAdd, Nat.reduceMul, Nat.reduceSub, Nat.reduceLeDiff, Nat.reduceBEq, ↓reduceIte, reduceCtorEq, tup3, enc8_len]
        refine drawV_quiet mixed ?_
        simp only [go_sem, Int.reduceToNat, Int.reduceLT, Int.reduceLE, Int.reduceBEq, Int.reduceEq, Int.reduceNeg, Int.reduceNegSucc, Int.reduceSub, Int.reduceAdd, Int.reduceMul, Int.natCast_zero, Int.natCast_one, UInt8.reduceToNat, Nat.reduceEqDiff, Nat.reduceAdd, Nat.reduceMul, Nat.reduceSub, Nat.reduceLeDiff, Nat.reduceBEq, ↓reduceIte, reduceCtorEq, enc8_len, hs1, hs2, enc8_take]
        refine ⟨_, uint_nil y nx hyl, ?_⟩
        simp only [go_sem, Int.reduceToNat, Int.reduceLT, Int.reduceLE, Int.reduceBEq, Int.reduceEq, Int.reduceNeg, Int.reduceNegSucc, Int.reduceSub, Int.reduceAdd, Int.reduceMul, Int.natCast_zero, Int.natCast_one, UInt8.reduceToNat, Nat.reduceEqDiff, Nat.reduceAdd, Nat.reduceMul, Nat.reduceSub, Nat.reduceLeDiff, Nat.reduceBEq, ↓reduceIte, reduceCtorEq]
        have h5' : putU y = c.take s := by simpa using h5
        refine ⟨_, same_spec (putU y) (c.take s) nx (by have := putU_len y hyl; omega) (by simp; omega), ?_⟩
        simp only [go_sem, Int.reduceToNat, Int.reduceLT, Int.reduceLE, Int.reduceBEq, Int.reduceEq, Int.reduceNeg, Int.reduceNegSucc, Int.reduceSub, Int.reduceAdd, Int.reduceMul, Int.natCast_zero, Int.natCast_one, UInt8.reduceToNat, Nat.reduceEqDiff, Nat.reduceAdd, Nat.reduceMul, Nat.reduceSub, Nat.reduceLeDiff, Nat.reduceBEq, ↓reduceIte, reduceCtorEq, h5', beq_self_eq_true, Try.results5]
        refine retW_pure rfl ?_
        simp only [go_sem, Le, Int.reduceToNat, Int.reduceLT, Int.reduceLE, Int.reduceBEq, Int.reduceEq, Int.reduceNeg, Int.reduceNegSucc, Int.reduceSub, Int.reduceAdd, Int.reduceMul, Int.natCast_zero, Int.natCast_one, UInt8.reduceToNat, Nat.reduceEqDiff, Nat.reduceAdd, Nat.reduceMul, Nat.reduceSub, Nat.reduceLeDiff, Nat.reduceBEq, ↓reduceIte, reduceCtorEq]
      · have he' : ((e : Int) == 0) = false := by simp; omega
        simp only [go_sem, Int.reduceToNat, Int.reduceLT, Int.reduceLE, Int.reduceBEq, Int.reduceEq, Int.reduceNeg, Int.reduceNegSucc, Int.reduceSub, Int.reduceAdd, Int.reduceMul, Int.natCast_zero, Int.natCast_one, UInt8.reduceToNat, Nat.reduceEqDiff, Nat.reduceAdd, Nat.reduceMul, Nat.reduceSub, Nat.reduceLeDiff, Nat.reduceBEq, ↓reduceIte, reduceCtorEq, tup3, enc8_len]
        refine drawV_quiet mixed ?_
        simp only [go_sem, Int.reduceToNat, Int.reduceLT, Int.reduceLE, Int.reduceBEq, Int.reduceEq, Int.reduceNeg, Int.reduceNegSucc, Int.reduceSub, Int.reduceAdd, Int.reduceMul, Int.natCast_zero, Int.natCast_one, UInt8.reduceToNat, Nat.reduceEqDiff, Nat.reduceAdd, Nat.reduceMul, Nat.reduceSub, Nat.reduceLeDiff, Nat.reduceBEq, ↓reduceIte, reduceCtorEq, enc8_len, he', enc8_take]
        refine ⟨.junk, .v (.bool true), ?_⟩
        simp only [go_sem, Int.reduceToNat, Int.reduceLT, Int.reduceLE, Int.reduceBEq, Int.reduceEq, Int.reduceNeg, Int.reduceNegSucc, Int.reduceSub, Int.reduceAdd, Int.reduceMul, Int.natCast_zero, Int.natCast_one, UInt8.reduceToNat, Nat.reduceEqDiff, Nat.reduceAdd, Nat.reduceMul, Nat.reduceSub, Nat.reduceLeDiff, Nat.reduceBEq, ↓reduceIte, reduceCtorEq, Try.results5]
        refine retW_pure rfl ?_
        simp only [go_sem, Le, Int.reduceToNat, Int.reduceLT, Int.reduceLE, Int.reduceBEq, Int.reduceEq, Int.reduceNeg, Int.reduceNegSucc, Int.reduceSub, Int.reduceAdd, Int.reduceMul, Int.natCast_zero, Int.natCast_one, UInt8.reduceToNat, Nat.reduceEqDiff, Nat.reduceAdd, Nat.reduceMul, Nat.reduceSub, Nat.reduceLeDiff, Nat.reduceBEq, ↓reduceIte, reduceCtorEq]
end Go.Proofs.Ytngeldeahafcfaa

