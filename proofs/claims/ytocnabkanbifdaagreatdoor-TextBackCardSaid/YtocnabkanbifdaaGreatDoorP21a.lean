/-
  The law in plain words: what its plain function gives is true. No condition beyond those that each theorem names.
-/
import Derived.Test.YtocnabkanbifdaaGreatDoorWalkTB0
import Derived.Test.YtocnabkanbifdaaGreatDoorLibD
import Derived.Test.YtocnabkanbifdaaGreatDoorLibS
set_option linter.unusedSimpArgs false
set_option linter.unusedVariables false
set_option linter.unusedSectionVars false
namespace Go.Proofs.YtocnabkanbifdaaGreatDoor
open Go Go.RowKit Go.Lib
set_option maxRecDepth 100000
/-! Numbers as digits. -/
theorem wrapS {i : Nat} (h : i < 9223372036854775807) : IntKind.i64.wrap ((i : Int) + 1) = ((i + 1 : Nat) : Int) := by rw [wrap_i64 _ (by omega)]; omega
theorem digits_byte (d : Nat) (h : d < 10) : (UInt8.ofNat (48 + d)).toNat = 48 + d := by
 simp only [UInt8.toNat_ofNat']
 omega
theorem decDigits_big {u : Nat} (h : ¬ u < 10) : decDigits u = decDigits (u / 10) ++ [UInt8.ofNat (48 + u % 10)] := by rw [decDigits, dif_neg h]
theorem decDigits_all (u : Nat) : ∀ c ∈ decDigits u, 48 ≤ c.toNat ∧ c.toNat ≤ 57 := by
 induction u using Nat.strongRecOn with
 | _ u ih =>
  by_cases h : u < 10
  ·
   rw [decDigits_one h]
   intro c hc
   rw [List.mem_singleton.1 hc, digits_byte u h]; omega
  ·
   rw [decDigits_big h]
   intro c hc
   rcases List.mem_append.1 hc with hc | hc
   · exact ih _ (by omega) c hc
   · rw [List.mem_singleton.1 hc, digits_byte _ (by omega)]; omega
theorem decDigits_ne (u : Nat) : decDigits u ≠ [] := by
 intro h
 have := decDigits_length u
 have h1 := nDigits_pos u
 rw [h] at this
 simp at this; omega
theorem nDigits_le : ∀ (k u : Nat), u < 10 ^ (k + 1) → nDigits u ≤ k + 1
 | 0, u, h => by rw [nDigits_small (by simpa using h)]; exact Nat.le_refl _
 | k + 1, u, h => by
  by_cases h0 : u < 10
  · rw [nDigits_small h0]; omega
  ·
   rw [nDigits_big h0]
   have := nDigits_le k (u / 10) (by rw [Nat.pow_succ] at h; omega)
   omega
theorem decDigits_len20 {u : Nat} (h : u < 18446744073709551616) : (decDigits u).length ≤ 20 := by
 rw [decDigits_length]
 exact nDigits_le 19 u (by omega)
/-- What digits spell, behind a number. -/
def spell (acc : Nat) (l : List UInt8) : Nat := l.foldl (fun a c => a * 10 + (c.toNat - 48)) acc
theorem spell_snoc (acc : Nat) (l : List UInt8) (c : UInt8) : spell acc (l ++ [c]) = spell acc l * 10 + (c.toNat - 48) := by simp [spell]
theorem spell_ge : ∀ (l : List UInt8) (acc : Nat), acc ≤ spell acc l
 | [], acc => Nat.le_refl _
 | c :: l, acc => Nat.le_trans (by omega) (spell_ge l (acc * 10 + (c.toNat - 48)))
theorem spell_dec (u : Nat) : spell 0 (decDigits u) = u := by
 induction u using Nat.strongRecOn with
 | _ u ih =>
  by_cases h : u < 10
  ·
   rw [decDigits_one h]
   simp only [spell, List.foldl_cons, List.foldl_nil, digits_byte u h]; omega
  · rw [decDigits_big h, spell_snoc, ih _ (by omega), digits_byte _ (by omega)]; omega
theorem parseUintM_ok {M : Nat} (hM : M ≤ 18446744073709551615) : ∀ (l : List UInt8) (acc : Nat), (∀ c ∈ l, 48 ≤ c.toNat ∧ c.toNat ≤ 57) → spell acc l ≤ M → parseUintM M acc l = .ok (spell acc l)
 | [], acc, _, _ => rfl
 | c :: l, acc, hd, h => by
  have hc := hd c (by simp)
  have hs : spell acc (c :: l) = spell (acc * 10 + (c.toNat - 48)) l := rfl
  rw [hs] at h ⊢
  have hg := spell_ge l (acc * 10 + (c.toNat - 48))
  rw [parseUintM, if_pos hc, if_neg (by omega), if_neg (by omega)]
  exact parseUintM_ok hM l _ (fun x hx => hd x (by simp [hx])) h
theorem parseUint_dec {u : Nat} (h : u < 18446744073709551616) : parseUintB 64 (decDigits u) = .ok u := by
 unfold parseUintB
 rw [if_neg (decDigits_ne u), parseUintM_ok (by decide) _ _ (decDigits_all u) (by rw [spell_dec]; omega), spell_dec]
theorem parse_itoa {n : Int} (h : In n) : parseIntB 64 (itoa n) = .ok n := by
 obtain ⟨h1, h2⟩ := h
 unfold itoa
 split
 ·
  rename_i hn
  rw [parseIntB_minus, parseUint_dec (by omega)]
  simp only [signedC]
  rw [if_neg (by omega)]
  congr 1; omega
 ·
  rename_i hn
  have hp := parseUint_dec (u := n.toNat) (by omega)
  have ha := decDigits_all n.toNat
  cases hd : decDigits n.toNat with
  | nil => exact absurd hd (decDigits_ne _)
  | cons c r =>
   rw [hd] at hp ha
   have hc := ha c (by simp)
   rw [parseIntB_plain 64 c r (by omega) (by omega), hp]
   simp only [signlessC]
   rw [if_neg (by omega)]
   congr 1; omega
theorem itoa_len {n : Int} (h : In n) : 1 ≤ (itoa n).length ∧ (itoa n).length ≤ 21 := by
 obtain ⟨h1, h2⟩ := h
 unfold itoa
 split
 ·
  have := decDigits_len20 (u := n.natAbs) (by omega)
  simp only [List.length_cons]; omega
 ·
  have := decDigits_len20 (u := n.toNat) (by omega)
  have h0 := List.length_pos_iff.2 (decDigits_ne n.toNat)
  omega
/-- Bytes of a word: neither a space nor a line's end nor beyond ASCII. -/
def Wd (l : List UInt8) : Prop := ∀ c ∈ l, 32 < c.toNat ∧ c.toNat < 128
theorem itoa_wd (n : Int) : Wd (itoa n) := by
 intro c hc
 unfold itoa at hc
 split at hc
 ·
  rcases List.mem_cons.1 hc with rfl | hc
  · decide
  · have := decDigits_all _ c hc; omega
 · have := decDigits_all _ c hc; omega
theorem itoaF_eq {n : Int} (h : In n) : f_strconv_Itoa n = some (itoa n) := by
 obtain ⟨h1, h2⟩ := h
 unfold f_strconv_Itoa itoaF
 exact Ok.eq (Ok.guard (by omega) (Ok.some rfl))
theorem fmtF_eq {n : Int} (h : In n) : f_strconv_FormatInt n 10 = some (itoa n) := by
 unfold f_strconv_FormatInt fmtF
 exact Ok.eq (Ok.guard rfl (Ok.of_eq (itoaF_eq h) rfl))
end Go.Proofs.YtocnabkanbifdaaGreatDoor
