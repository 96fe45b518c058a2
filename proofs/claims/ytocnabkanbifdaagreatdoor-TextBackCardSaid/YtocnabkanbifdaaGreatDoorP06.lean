/-
  The law in plain words: what its plain function gives is true. No condition beyond those that each theorem names.
-/
import Derived.Test.YtocnabkanbifdaaGreatDoorWalkTB0
import Derived.Test.YtocnabkanbifdaaGreatDoorP6n
set_option linter.unusedSimpArgs false
set_option linter.unusedVariables false
set_option linter.unusedSectionVars false
namespace Go.Proofs.YtocnabkanbifdaaGreatDoor
open Go Go.RowKit
set_option maxRecDepth 100000
theorem Uint_eq (b : List UInt8) (n : Nat) (hb : b.length ≤ 140737488355000) (hn : n < 2 ^ 64) : f_wire_Uint b n = some (b ++ putU n) := by
 refine Ok.eq ?_
 unfold f_wire_Uint
 refine Ok.guard (by simp; omega) ?_
 refine Ok.loop0 (fun s => ∃ m : Nat, s.1 = (m : Int) ∧ s.2 ++ putU m = b ++ putU n ∧ m < 2 ^ 64 ∧ s.2.length + (putU m).length ≤ 140737488355010) (fun s => s.1.toNat) ?_ ⟨n, rfl, rfl, hn, by have := putU_len n hn; simp; omega⟩ (by simp only [rounds, Int.toNat_natCast]; omega)
 rintro rec ⟨m, a⟩ ⟨m, rfl, h1, h2, h3⟩ hr
 unfold f_wire_Uint_B1
 simp only at h1 h3 ⊢
 rw [wrap_u8, orI_128, shrI_u64_7]
 refine Ok.iteB (fun hc => ?_) (fun hc => ?_)
 ·
  simp only [decide_eq_true_eq] at hc
  rw [putU_big m (by omega)] at h1 h3
  simp only [List.length_cons] at h3
  refine Ok.guard (by omega) (Ok.guard (by simp; omega) (hr _ ⟨m / 128, rfl, ?_, by omega, ?_⟩ ?_))
  · rw [← h1, toB_of]; simp
  · simp only [List.length_append, List.length_cons, List.length_nil]; omega
  · simp only [Int.toNat_natCast]; omega
 ·
  simp only [decide_eq_false_iff_not] at hc
  rw [putU_small m (by omega)] at h1 h3
  simp only [List.length_cons, List.length_nil] at h3
  rw [Nat.mod_eq_of_lt (show m < 256 by omega)]
  refine Ok.guard (by omega) (Ok.guard (by simp; omega) (Ok.some ?_))
  rw [← h1, toB_of]
theorem Int_eq (b : List UInt8) (m : Int) (hb : b.length ≤ 140737488355000) (hm : In m) : f_wire_Int b m = some (b ++ putU (zig m)) := by
 unfold f_wire_Int
 rw [zig_wire m hm, Uint_eq b (zig m) hb (zig_lt m hm)]
 rfl
end Go.Proofs.YtocnabkanbifdaaGreatDoor
