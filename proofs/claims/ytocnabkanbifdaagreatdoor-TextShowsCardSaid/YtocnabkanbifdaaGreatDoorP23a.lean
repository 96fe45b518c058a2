/-
  The law in plain words: what its plain function gives is true. No condition beyond those that each theorem names.
-/
import Derived.Test.YtocnabkanbifdaaGreatDoorWalkTS0
import Derived.Test.YtocnabkanbifdaaGreatDoorP21c
set_option linter.unusedSimpArgs false
set_option linter.unusedVariables false
set_option linter.unusedSectionVars false
namespace Go.Proofs.YtocnabkanbifdaaGreatDoor
open Go Go.RowKit Go.Lib
set_option maxRecDepth 100000
/-! Numbers and words of the lines of graphs. -/
theorem size23_eq : ∀ (k u : Nat), nDigits u ≤ k → u < 18446744073709551616 → f_backwashref23_size_D k (u : Int) = some (decDigits u)
 | 0, u, h, _ => by have := nDigits_pos u; omega
 | k + 1, u, h, hu => by
  show f_backwashref23_size_R (f_backwashref23_size_D k) (u : Int) = _
  unfold f_backwashref23_size_R
  refine Ok.eq (Ok.iteB (fun hc => Ok.some ?_) (fun hc => ?_))
  ·
   simp only [decide_eq_true_eq] at hc
   have h10 : u < 10 := by omega
   have e1 : IntKind.u64.wrap (48 + (u : Int)) = ((48 + u : Nat) : Int) := by rw [wrap_u64_in _ (by omega)]; omega
   have e2 : IntKind.i32.wrap ((48 + u : Nat) : Int) = ((48 + u : Nat) : Int) := by
    have : ∀ d : Fin 10, IntKind.i32.wrap ((48 + d.val : Nat) : Int) = ((48 + d.val : Nat) : Int) := by decide +kernel
    exact this ⟨u, h10⟩
   rw [e1, e2, runeS_digit ⟨u, h10⟩, decDigits_one h10]
  ·
   simp only [decide_eq_false_iff_not] at hc
   have h10 : ¬ u < 10 := by omega
   have e0 : IntKind.u64.wrap (Int.tdiv (u : Int) 10) = ((u / 10 : Nat) : Int) := by
    rw [Int.tdiv_eq_ediv_of_nonneg (by omega), wrap_u64_in _ (by omega)]; omega
   have em : Int.tmod (u : Int) 10 = ((u % 10 : Nat) : Int) := by rw [Int.tmod_eq_emod_of_nonneg (by omega)]; omega
   have hm : u % 10 < 10 := by omega
   have e1 : IntKind.u64.wrap (48 + ((u % 10 : Nat) : Int)) = ((48 + u % 10 : Nat) : Int) := by rw [wrap_u64_in _ (by omega)]; omega
   have e2 : IntKind.i32.wrap ((48 + u % 10 : Nat) : Int) = ((48 + u % 10 : Nat) : Int) := by
    have : ∀ d : Fin 10, IntKind.i32.wrap ((48 + d.val : Nat) : Int) = ((48 + d.val : Nat) : Int) := by decide +kernel
    exact this ⟨u % 10, hm⟩
   rw [nDigits_big h10] at h
   rw [e0, em, e1, e2]
   refine Ok.bind (Ok.of_eq (size23_eq k (u / 10) (by omega) (by omega)) ?_)
   have hl := decDigits_len20 (u := u / 10) (by omega)
   have hr : runeS (((48 + u % 10 : Nat) : Int)) = [UInt8.ofNat (48 + u % 10)] := runeS_digit ⟨u % 10, hm⟩
   rw [hr]
   refine Ok.guard (by simp only [List.length_cons, List.length_nil]; omega) (Ok.some ?_)
   rw [decDigits_big h10]
theorem num23_eq {n : Int} (h : In n) : f_backwashref23_num n = some (itoa n) := by
 obtain ⟨h1, h2⟩ := h
 have hr : ∀ u, u < 18446744073709551616 → f_backwashref23_size (u : Nat) = some (decDigits u) := fun u hu => size23_eq rounds u (Nat.le_trans (nDigits_le 19 u (by omega)) (by simp only [rounds]; omega)) hu
 unfold f_backwashref23_num
 refine Ok.eq (Ok.iteB (fun hc => ?_) (fun hc => ?_))
 ·
  simp only [decide_eq_true_eq] at hc
  have e1 : IntKind.u64.wrap (0 - IntKind.u64.wrap n) = ((n.natAbs : Nat) : Int) := by
   simp [IntKind.wrap, IntKind.signed, IntKind.bits]
   omega
  rw [e1]
  refine Ok.bind (Ok.of_eq (hr _ (by omega)) ?_)
  have := decDigits_len20 (u := n.natAbs) (by omega)
  refine Ok.guard (by simp only [List.length_cons, List.length_nil]; omega) (Ok.some ?_)
  unfold itoa; rw [if_pos hc]; rfl
 ·
  simp only [decide_eq_false_iff_not] at hc
  have e1 : IntKind.u64.wrap n = ((n.toNat : Nat) : Int) := by rw [wrap_u64_in _ (by omega)]; omega
  rw [e1]
  refine Ok.bind (Ok.of_eq (hr _ (by omega)) (Ok.some ?_))
  unfold itoa; rw [if_neg hc]
theorem fieldsT_eq {s : List UInt8} (hs : s.length ≤ 4294967296) : f_strings_FieldsFunc s (fun x0_ => f_text_Parse_1 x0_) = some (flds s) := by
 unfold f_strings_FieldsFunc fieldsF
 refine Ok.eq (Ok.guard ⟨hs, fun x _ => rfl⟩ (Ok.some ?_))
 unfold flds
 congr 2
 funext x
 show ((x : Int) == 32) = (x == 32)
 by_cases h : x = 32
 · subst h; rfl
 ·
  rw [show (x == 32) = false by simpa using h]
  simp; omega
end Go.Proofs.YtocnabkanbifdaaGreatDoor
