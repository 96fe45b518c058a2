/-
  The law in plain words: what its plain function gives is true. No condition beyond those that each theorem names.
-/
import Derived.Test.YtngeldeahafcfaaP6n
import Derived.Test.YtngeldeahafcfaaWalk0
set_option linter.unusedSimpArgs false
set_option linter.unusedVariables false
namespace Go.Proofs.Ytngeldeahafcfaa
open Go Go.RowKit
set_option maxRecDepth 100000
/-- Three numbers, as the code has them. -/
def tupU (p : Nat × Nat × Nat) : Int × Int × Int := (p.1, p.2.1, p.2.2)
def tupI (p : Nat × Nat × Nat) : Int × Int × Int := (unzig p.1, p.2.1, p.2.2)
theorem ReadUint_eq (b : List UInt8) (hb : b.length < 9223372036854775808) : f_wire_ReadUint b = some (tupU (readU b 0 0)) := by
  refine Ok.eq ?_
  unfold f_wire_ReadUint
  refine Ok.loop0 (fun s => ∃ i n : Nat, s = ((n : Int), (i : Int)) ∧ i ≤ b.length ∧ i ≤ 9 ∧ n < 2 ^ (7 * i) ∧ readU (b.drop i) i n = readU b 0 0) (fun s => b.length - s.2.toNat) ?_ ⟨0, 0, rfl, by omega, by omega, by simp, rfl⟩ (by simp [rounds]; omega)
  rintro rec _ ⟨i, n, rfl, h1, h2, h3, h4⟩ hr
  unfold f_wire_ReadUint_B1
  simp only
  refine Ok.iteB (fun hc => ?_) (fun hc => ?_)
  · simp only [decide_eq_true_eq] at hc
    have hi : i < b.length := by omega
    refine Ok.bind (Ok.idxN hi ?_)
    have ed : b.drop i = b[i] :: b.drop (i + 1) := List.drop_eq_getElem_cons hi
    generalize b[i] = x at ed
    have hx := x.toNat_lt
    have e1 : IntKind.i64.wrap (7 * (i : Int)) = ((7 * i : Nat) : Int) := by rw [wrap_i64 _ (by omega)]; omega
    have e2 : IntKind.u64.wrap ((7 * i : Nat) : Int) = ((7 * i : Nat) : Int) := wrap_u64_in _ (by omega)
    have e3 : andI IntKind.u8 (x.toNat : Int) 127 = ((x.toNat % 128 : Nat) : Int) := andI_127 _ (by omega)
    have e4 : IntKind.u64.wrap ((x.toNat % 128 : Nat) : Int) = ((x.toNat % 128 : Nat) : Int) := wrap_u64_in _ (by omega)
    rw [ed, readU_cons] at h4
    rw [e1, e2, e3, e4, wrap_succ (show i < 9223372036854775807 by omega)]
    refine Ok.iteB (fun hc => Ok.some ?_) (fun hc => ?_)
    · rw [if_pos (by simp at hc; omega)] at h4
      rw [← h4]; rfl
    · rw [if_neg (by simp at hc; omega)] at h4
      have hc' : ¬ (i = 9 ∧ 1 < x.toNat) := by simp at hc; omega
      have hb2 : n + (x.toNat % 128) * 2 ^ (7 * i) < 18446744073709551616 ∧ n + (x.toNat % 128) * 2 ^ (7 * i) < 2 ^ (7 * (i + 1)) := by
        have hp : 2 ^ (7 * (i + 1)) = 128 * 2 ^ (7 * i) := by rw [show 7 * (i + 1) = 7 * i + 7 by omega, Nat.pow_add]; omega
        rw [hp]
        have hm : (x.toNat % 128) * 2 ^ (7 * i) ≤ 127 * 2 ^ (7 * i) := Nat.mul_le_mul_right _ (by omega)
        refine ⟨?_, by omega⟩
        by_cases h9 : i = 9
        · subst h9
          have : (x.toNat % 128) * 2 ^ (7 * 9) ≤ 1 * 2 ^ (7 * 9) := Nat.mul_le_mul_right _ (by omega)
          omega
        · have : 2 ^ (7 * i) ≤ 2 ^ 56 := Nat.pow_le_pow_right (by omega) (by omega)
          omega
      rw [shlI_u64 (x.toNat % 128) (7 * i) (by omega) (by omega), orI_disj n (x.toNat % 128) (7 * i) h3 hb2.1]
      refine Ok.guard (by omega) (Ok.iteB (fun h => ?_) (fun h => Ok.iteB (fun h5 => Ok.some ?_) (fun h5 => Ok.some ?_)))
      · simp only [decide_eq_true_eq] at h
        rw [if_pos (by omega)] at h4
        refine hr _ ⟨i + 1, _, rfl, by omega, by omega, hb2.2, h4⟩ (by simp only [Int.toNat_natCast]; omega)
      · simp only [decide_eq_false_iff_not] at h
        rw [if_neg (by omega), if_pos (by simp at h5; omega)] at h4
        rw [← h4]; rfl
      · simp only [decide_eq_false_iff_not] at h
        rw [if_neg (by omega), if_neg (by simp at h5; omega)] at h4
        rw [← h4]; rfl
  · simp only [decide_eq_false_iff_not] at hc
    have : i = b.length := by omega
    subst this
    rw [List.drop_length] at h4
    refine Ok.some ?_
    rw [← h4]; rfl
/-- The reference's number, from the bytes told so far. -/
theorem refLoop (b : List UInt8) (m : Nat) (hm : m < b.length) (h9 : m ≤ 9) (hm1 : m = 9 → (b[9]!).toNat ≤ 1) (B : (Int × Int → Option (Int × Int × Int)) → Int × Int → Option (Int × Int × Int))
    (hB : ∀ rec n i, B rec (n, i) = (if (decide (0 ≤ i)) = true then bindO (idx b i) (fun (x : UInt8) => rec (IntKind.u64.wrap ((IntKind.u64.wrap (n * 128)) + (IntKind.u64.wrap (Int.tmod ((UInt8.toNat x : Nat) : Int) 128))), IntKind.i64.wrap (i - 1))) else some (n, IntKind.i64.wrap ((m : Int) + 1), 0))) :
    loopK B rounds (0, (m : Int)) = some (((valU b (m + 1) : Nat) : Int), (((m + 1 : Nat) : Int)), 0) := by
  refine Ok.eq (Ok.loop0 (fun s => ∃ i n : Nat, s = ((n : Int), (i : Int) - 1) ∧ i ≤ m + 1 ∧ n * 2 ^ (7 * i) + valU b i = valU b (m + 1)) (fun s => (s.2 + 1).toNat) ?_ ⟨m + 1, 0, by simp, by omega, by simp⟩ (by simp only [rounds]; omega))
  rintro rec _ ⟨i, n, rfl, h1, h2⟩ hr
  rw [hB]
  refine Ok.iteB (fun hc => ?_) (fun hc => ?_)
  · simp only [decide_eq_true_eq] at hc
    have hi : ((i : Int) - 1) = ((i - 1 : Nat) : Int) := by omega
    rw [hi]
    refine Ok.bind (Ok.idxN (show i - 1 < b.length by omega) ?_)
    obtain ⟨k, rfl⟩ : ∃ k, i = k + 1 := ⟨i - 1, by omega⟩
    have e0 : b[k + 1 - 1]'(by omega) = b[k]! := by simp [show k < b.length by omega]
    rw [e0]
    have e1 : Int.tmod ((UInt8.toNat b[k]! : Nat) : Int) 128 = (((b[k]!).toNat % 128 : Nat) : Int) := by rw [Int.tmod_eq_emod_of_nonneg (by omega)]; omega
    have hv : valU b (k + 1) = valU b k + ((b[k]!).toNat % 128) * 2 ^ (7 * k) := rfl
    have hp : 2 ^ (7 * (k + 1)) = 128 * 2 ^ (7 * k) := pow_step k
    have hlt : valU b (m + 1) < 18446744073709551616 := by
      have h0 := valU_lt b (m + 1)
      by_cases h : m = 9
      · subst h
        have h8 := valU_lt b 9
        have hv9 : valU b (9 + 1) = valU b 9 + ((b[9]!).toNat % 128) * 2 ^ (7 * 9) := rfl
        have : ((b[9]!).toNat % 128) * 2 ^ (7 * 9) ≤ 1 * 2 ^ (7 * 9) := Nat.mul_le_mul_right _ (by have := hm1 rfl; omega)
        omega
      · have : 2 ^ (7 * (m + 1)) ≤ 2 ^ 63 := Nat.pow_le_pow_right (by omega) (by omega)
        omega
    have hn : (n * 128 + (b[k]!).toNat % 128) * 2 ^ (7 * k) + valU b k = valU b (m + 1) := by
      rw [← h2, hv, hp, Nat.add_mul, Nat.mul_assoc]; omega
    have hn2 : n * 128 + (b[k]!).toNat % 128 ≤ valU b (m + 1) := by
      have : (n * 128 + (b[k]!).toNat % 128) * 1 ≤ (n * 128 + (b[k]!).toNat % 128) * 2 ^ (7 * k) := Nat.mul_le_mul_left _ (Nat.one_le_two_pow)
      omega
    have e2 : IntKind.u64.wrap ((n : Int) * 128) = ((n * 128 : Nat) : Int) := by rw [wrap_u64_in _ (by omega)]; omega
    have e3 : IntKind.u64.wrap (((b[k]!).toNat % 128 : Nat) : Int) = (((b[k]!).toNat % 128 : Nat) : Int) := wrap_u64_in _ (by omega)
    have e4 : IntKind.u64.wrap (((n * 128 : Nat) : Int) + (((b[k]!).toNat % 128 : Nat) : Int)) = ((n * 128 + (b[k]!).toNat % 128 : Nat) : Int) := by rw [wrap_u64_in _ (by omega)]; omega
    have e5 : IntKind.i64.wrap (((k + 1 - 1 : Nat) : Int) - 1) = (k : Int) - 1 := by rw [wrap_i64 _ (by omega)]; omega
    rw [e1, e2, e3, e4, e5]
    exact hr _ ⟨k, _, rfl, by omega, hn⟩ (by simp only; omega)
  · simp only [decide_eq_false_iff_not] at hc
    have : i = 0 := by omega
    subst this
    rw [wrap_succ (by omega)]
    refine Ok.some ?_
    have h2' : n = valU b (m + 1) := by simpa [valU] using h2
    rw [h2']
theorem refReadUint_eq (b : List UInt8) (hb : b.length < 9223372036854775808) : f_backwashref06_ReadUint b = some (tupU (readU b 0 0)) := by
  refine Ok.eq ?_
  unfold f_backwashref06_ReadUint
  refine Ok.loop0 (fun s : Int => ∃ i : Nat, s = (i : Int) ∧ i ≤ b.length ∧ i ≤ 9 ∧ readU b 0 0 = readU (b.drop i) i (valU b i)) (fun s => b.length - s.toNat) ?_ ⟨0, rfl, by omega, by omega, by simp [valU]⟩ (by simp [rounds]; omega)
  rintro rec _ ⟨i, rfl, h1, h2, h3⟩ hr
  have key : (¬ (i < b.length ∧ i < 9 ∧ 127 < (b[i]!).toNat)) → Ok (f_backwashref06_ReadUint_J1 b (i : Int)) fun r => r = tupU (readU b 0 0) := by
    intro hno
    unfold f_backwashref06_ReadUint_J1
    refine Ok.iteB (fun hc => Ok.some ?_) (fun hc => ?_)
    · have : i = b.length := by simp at hc; omega
      subst this
      rw [List.drop_length] at h3
      rw [h3]; rfl
    have hi : i < b.length := by simp at hc; omega
    have hend := readU_end b i hi (by omega) h2 h3
    have h3i : b[i] = b[i]! := by simp [hi]
    have h39 : i = 9 → ∀ h : 9 < b.length, b[9] = b[i]! := fun e h => by subst e; simp [h]
    have hb9 : i = 9 → b[9]! = b[i]! := fun e => by rw [e]
    generalize b[i]! = x at *
    have fin : ∀ (B : (Int × Int → Option (Int × Int × Int)) → Int × Int → Option (Int × Int × Int)), (¬ ((i = 9 ∧ 1 < x.toNat) ∨ (0 < i ∧ x.toNat = 0))) →
        (∀ rec n j, B rec (n, j) = (if (decide (0 ≤ j)) = true then bindO (idx b j) (fun (x : UInt8) => rec (IntKind.u64.wrap ((IntKind.u64.wrap (n * 128)) + (IntKind.u64.wrap (Int.tmod ((UInt8.toNat x : Nat) : Int) 128))), IntKind.i64.wrap (j - 1))) else some (n, IntKind.i64.wrap ((i : Int) + 1), 0))) → Ok (loopK B rounds (0, (i : Int))) fun r => r = tupU (readU b 0 0) := by
      intro B hn hB
      rw [if_neg hn] at hend
      refine Ok.of_eq (refLoop b i hi h2 (fun h9 => ?_) B hB) ?_
      · rw [hb9 h9]; omega
      · rw [hend]; rfl
    refine Ok.iteB (fun hc9 => ?_) (fun hc9 => ?_)
    · have h9 : i = 9 := by simp at hc9; omega
      refine Ok.bind (Ok.idx (show (0 : Int) ≤ 9 by omega) (by omega) ?_)
      have e9 : b[(9 : Int).toNat]'(by show 9 < b.length; omega) = x := h39 h9 (by omega)
      rw [e9]
      refine Ok.iteB (fun hx => Ok.some ?_) (fun hx => ?_)
      · rw [if_pos (.inl ⟨h9, by simp at hx; omega⟩)] at hend
        rw [hend]; rfl
      have hx : ¬ 1 < x.toNat := by simp at hx; omega
      refine Ok.iteB (fun h0 => Ok.bind (Ok.idxN hi (Ok.iteB (fun hz => Ok.some ?_) (fun hz => ?_)))) (fun h0 => ?_)
      · rw [h3i] at hz
        rw [if_pos (.inr ⟨by omega, by simpa using hz⟩)] at hend
        rw [hend]; rfl
      · rw [h3i] at hz
        exact fin _ (by simp at hz; omega) (fun _ _ _ => rfl)
      · simp at h0; omega
    · have h9 : i ≠ 9 := by simp at hc9; omega
      refine Ok.iteB (fun h0 => Ok.bind (Ok.idxN hi (Ok.iteB (fun hz => Ok.some ?_) (fun hz => ?_)))) (fun h0 => ?_)
      · rw [h3i] at hz
        rw [if_pos (.inr ⟨by simp at h0; omega, by simpa using hz⟩)] at hend
        rw [hend]; rfl
      · rw [h3i] at hz
        exact fin _ (by simp at hz; omega) (fun _ _ _ => rfl)
      · exact fin _ (by simp at h0; omega) (fun _ _ _ => rfl)
  unfold f_backwashref06_ReadUint_B6
  refine Ok.iteB (fun hc => ?_) (fun hc => key (by simp at hc; omega))
  simp at hc
  have hi : i < b.length := by omega
  have e0 : b[i] = b[i]! := by simp [hi]
  refine Ok.bind (Ok.idxN hi (Ok.iteB (fun hx => ?_) (fun hx => key (by rw [e0] at hx; simp only [decide_eq_false_iff_not] at hx; omega))))
  rw [e0] at hx
  simp only [decide_eq_true_eq] at hx
  rw [wrap_succ (by omega)]
  exact hr _ ⟨i + 1, rfl, by omega, by omega, readU_go b i hi (by omega) (by omega) h3⟩ (by simp only [Int.toNat_natCast]; omega)
theorem ReadInt_eq (b : List UInt8) (hb : b.length < 9223372036854775808) : f_wire_ReadInt b = some (tupI (readU b 0 0)) := by
  have hlt := readU_lt b 0 0 (by omega) (by simp)
  unfold f_wire_ReadInt
  rw [ReadUint_eq b hb]
  simp only [bindO, Option.bind_some, tupU, tupI, unzig_wire _ hlt]
theorem refReadInt_eq (b : List UInt8) (hb : b.length < 9223372036854775808) : f_backwashref06_ReadInt b = some (tupI (readU b 0 0)) := by
  have hlt := readU_lt b 0 0 (by omega) (by simp)
  unfold f_backwashref06_ReadInt
  rw [refReadUint_eq b hb]
  simp only [bindO, Option.bind_some, tupU, tupI]
  generalize (readU b 0 0).1 = n at hlt
  have e1 : Int.tmod (n : Int) 2 = ((n % 2 : Nat) : Int) := by rw [Int.tmod_eq_emod_of_nonneg (by omega)]; omega
  have e2 : Int.tdiv (n : Int) 2 = ((n / 2 : Nat) : Int) := by rw [Int.tdiv_eq_ediv_of_nonneg (by omega)]; omega
  rw [e1, e2, wrap_u64_in _ (by omega), wrap_i64 ((n / 2 : Nat) : Int) (by omega), wrap_i64 (0 - ((n / 2 : Nat) : Int)) (by omega), wrap_i64 (0 - ((n / 2 : Nat) : Int) - 1) (by omega)]
  unfold unzig
  by_cases h : n % 2 = 1
  · rw [if_pos (by simp [h]), if_pos h]; congr 2; omega
  · rw [if_neg (by simp; omega), if_neg h]
theorem Uint_eq (b : List UInt8) (n : Nat) (hb : b.length ≤ 140737488355000) (hn : n < 2 ^ 64) : f_wire_Uint b n = some (b ++ putU n) := by
  refine Ok.eq ?_
  unfold f_wire_Uint
  refine Ok.guard (by simp; omega) ?_
  refine Ok.loop0 (fun s => ∃ m : Nat, s.1 = (m : Int) ∧ s.2 ++ putU m = b ++ putU n ∧ m < 2 ^ 64 ∧ s.2.length + (putU m).length ≤ 140737488355010) (fun s => s.1.toNat) ?_ ⟨n, rfl, rfl, hn, by have := putU_len n hn; simp; omega⟩ (by simp only [rounds, Int.toNat_natCast]; omega)
  rintro rec ⟨m, a⟩ ⟨m, rfl, h1, h2, h3⟩ hr
  unfold f_wire_Uint_B1
  simp only at h1 h3 ⊢
  rw [wrap_u8, orI_128, shrI_u64_7]
  refine Ok.iteB (fun hc => ?_) (fun hc => ?_)
  · simp only [decide_eq_true_eq] at hc
    rw [putU_big m (by omega)] at h1 h3
    simp only [List.length_cons] at h3
    refine Ok.guard (by omega) (Ok.guard (by simp; omega) (hr _ ⟨m / 128, rfl, ?_, by omega, ?_⟩ ?_))
    · rw [← h1, toB_of]; simp
    · simp only [List.length_append, List.length_cons, List.length_nil]; omega
    · simp only [Int.toNat_natCast]; omega
  · simp only [decide_eq_false_iff_not] at hc
    rw [putU_small m (by omega)] at h1 h3
    simp only [List.length_cons, List.length_nil] at h3
    rw [Nat.mod_eq_of_lt (show m < 256 by omega)]
    refine Ok.guard (by omega) (Ok.guard (by simp; omega) (Ok.some ?_))
    rw [← h1, toB_of]
theorem refUint_eq (b : List UInt8) (n : Nat) (hb : b.length ≤ 140737488355000) (hn : n < 2 ^ 64) : f_backwashref06_Uint b n = some (b ++ putU n) := by
  refine Ok.eq ?_
  unfold f_backwashref06_Uint
  refine Ok.guard (by simp; omega) ?_
  refine Ok.loop0 (fun s => ∃ m : Nat, s.1 = (m : Int) ∧ s.2 ++ putU m = b ++ putU n ∧ m < 2 ^ 64 ∧ s.2.length + (putU m).length ≤ 140737488355010) (fun s => s.1.toNat) ?_ ⟨n, rfl, rfl, hn, by have := putU_len n hn; simp; omega⟩ (by simp only [rounds, Int.toNat_natCast]; omega)
  rintro rec ⟨m, a⟩ ⟨m, rfl, h1, h2, h3⟩ hr
  unfold f_backwashref06_Uint_B1
  simp only at h1 h3 ⊢
  have e1 : (m : Int).tmod 128 = ((m % 128 : Nat) : Int) := by rw [Int.tmod_eq_emod_of_nonneg (by omega)]; omega
  have e2 : (m : Int).tdiv 128 = ((m / 128 : Nat) : Int) := by rw [Int.tdiv_eq_ediv_of_nonneg (by omega)]; omega
  have e3 : IntKind.u64.wrap ((m / 128 : Nat) : Int) = ((m / 128 : Nat) : Int) := wrap_u64_in _ (by omega)
  have e4 : IntKind.u8.wrap ((m % 128 : Nat) : Int) = ((m % 128 : Nat) : Int) := wrap_u8_in _ (by omega)
  have e5 : IntKind.u8.wrap (((m % 128 : Nat) : Int) + 128) = ((m % 128 + 128 : Nat) : Int) := by rw [wrap_u8_in _ (by omega)]; omega
  rw [e1, e2, e3, e4, e5]
  refine Ok.iteB (fun hc => ?_) (fun hc => ?_)
  · have hc : m < 128 := by simp at hc; omega
    rw [putU_small m (by omega)] at h1 h3
    simp only [List.length_cons, List.length_nil] at h3
    rw [Nat.mod_eq_of_lt hc]
    refine Ok.guard (by omega) (Ok.guard (by simp; omega) (Ok.some ?_))
    rw [← h1, toB_of]
  · have hc : ¬ m < 128 := by simp at hc; omega
    rw [putU_big m (by omega)] at h1 h3
    simp only [List.length_cons] at h3
    refine Ok.guard (by omega) (Ok.guard (by simp; omega) (hr _ ⟨m / 128, rfl, ?_, by omega, ?_⟩ ?_))
    · rw [← h1, toB_of]; simp
    · simp only [List.length_append, List.length_cons, List.length_nil]; omega
    · simp only [Int.toNat_natCast]; omega
theorem Int_eq (b : List UInt8) (m : Int) (hb : b.length ≤ 140737488355000) (hm : In m) : f_wire_Int b m = some (b ++ putU (zig m)) := by
  unfold f_wire_Int
  rw [zig_wire m hm, Uint_eq b (zig m) hb (zig_lt m hm)]
  rfl
theorem refInt_eq (b : List UInt8) (m : Int) (hb : b.length ≤ 140737488355000) (hm : In m) : f_backwashref06_Int b m = some (b ++ putU (zig m)) := by
  have hz := zig_lt m hm
  obtain ⟨h1, h2⟩ := hm
  refine Ok.eq ?_
  unfold f_backwashref06_Int
  have hzd : zig m = if 0 ≤ m then (2 * m).toNat else (-2 * m - 1).toNat := rfl
  refine Ok.iteB (fun h0 => ?_) (fun h0 => ?_)
  · have h0 : 0 ≤ m := by simpa using h0
    rw [if_pos h0] at hzd
    rw [wrap_u64_in m (by omega), show IntKind.u64.wrap (2 * m) = (zig m : Int) by rw [wrap_u64_in _ (by omega)]; omega, refUint_eq b _ hb hz]
    exact Ok.some rfl
  · have h0 : ¬ 0 ≤ m := by simpa using h0
    rw [if_neg h0] at hzd
    rw [wrap_i64 (m + 1) (by omega), wrap_i64 (0 - (m + 1)) (by omega), wrap_u64_in (0 - (m + 1)) (by omega), wrap_u64_in (2 * (0 - (m + 1))) (by omega), show IntKind.u64.wrap (2 * (0 - (m + 1)) + 1) = (zig m : Int) by rw [wrap_u64_in _ (by omega)]; omega, refUint_eq b _ hb hz]
    exact Ok.some rfl
end Go.Proofs.Ytngeldeahafcfaa

