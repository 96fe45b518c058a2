/-
  The law in plain words: what its plain function gives is true. No condition beyond those that each theorem names.
-/
import Derived.Test.YteibkihbdgphnaaGreatWalkMA1
import Derived.Test.YteibkihbdgphnaaGreatWalkMA0
import Derived.Test.YteibkihbdgphnaaGreatP05b
set_option linter.unusedSimpArgs false
set_option linter.unusedVariables false
set_option linter.unusedSectionVars false
namespace Go.Proofs.YteibkihbdgphnaaGreat
open Go Go.RowKit
namespace BG
theorem j22 {n : Int} (h0 : 0 ≤ n) (h1 : n < 18446744073709551616) : IntKind.u64.wrap n = n := by simp [IntKind.wrap, IntKind.bits, IntKind.signed]; omega
theorem j2f {n : Int} (h0 : 0 ≤ n) (h1 : n < 4294967296) : q26 .u64 n 32 = 0 := by
 show Int.fdiv _ 4294967296 = _
 rw [Int.fdiv_eq_ediv_of_nonneg _ (by omega)]; omega
theorem j7w {n : Int} (h0 : 0 ≤ n) (h1 : n < 4294967296) : qr9 .u64 n 4294967295 = n := by
 have e : (BitVec.ofInt 64 n &&& BitVec.ofInt 64 4294967295).toNat = (BitVec.ofInt 64 n).toNat % 4294967296 := by
  rw [BitVec.toNat_and, show (BitVec.ofInt 64 4294967295).toNat = 2 ^ 32 - 1 from rfl, Nat.and_two_pow_sub_one_eq_mod]
 have e2 : ((BitVec.ofInt 64 n).toNat : Int) = n % 18446744073709551616 := by
  rw [BitVec.toNat_ofInt, Int.toNat_of_nonneg (Int.emod_nonneg _ (by decide))]; rfl
 unfold qr9
 show IntKind.u64.wrap (((BitVec.ofInt 64 n &&& BitVec.ofInt 64 4294967295).toNat : Nat) : Int) = _
 rw [e, Int.natCast_emod, e2, j22 (by omega) (by omega)]; omega
theorem j9f {n : Int} (h0 : 0 ≤ n) (h1 : n < 4294967296) : q34 1 n = some (0, n) := by
 unfold q34; rw [j2f (n := 1) (by omega) (by omega), j7w (n := 1) (by omega) (by omega), j2f h0 h1, j7w h0 h1]; simp only [Int.zero_mul, Int.one_mul, Int.mul_zero]; rw [j22 h0 (by omega), j2f h0 h1, show IntKind.u64.wrap 0 = 0 from rfl, Int.add_zero, show IntKind.u64.wrap 0 = 0 from rfl, show q26 .u64 0 32 = 0 from rfl, show qr9 .u64 0 4294967295 = 0 from rfl, Int.zero_add, show IntKind.u64.wrap 0 = 0 from rfl, show q26 .u64 0 32 = 0 from rfl, Int.add_zero, show IntKind.u64.wrap 0 = 0 from rfl]
theorem j1j {r : GRec} {n : Int} (h0 : 0 ≤ n) (h1 : n < 1000000) : q6c [r] n = some (List.replicate n.toNat r) := by
 obtain ⟨k, rfl⟩ : ∃ k : Nat, n = (k : Int) := ⟨n.toNat, by omega⟩; refine jb4 ?_; unfold q6c q6o qd8; rw [if_neg (by simp), show IntKind.u64.wrap (([r] : List GRec).length : Int) = 1 from rfl, j22 h0 (by omega), j9f h0 (by omega)]; refine Ok.bind (Ok.bind (Ok.some (Ok.some ?_))); rw [if_neg (by simp; omega)]; unfold q6n; dsimp only; rw [wrap_i64 _ (by omega), Int.toNat_natCast]; refine Ok.guard (by omega) (Ok.guard (by simp) ?_); refine jb3 (fun s => ∃ m : Nat, ∃ a : List GRec, s = ((m : Int), a) ∧ a.length = k ∧ m ≤ k ∧ (1 ≤ k → 1 ≤ m) ∧ a.take m = List.replicate m r) (fun s => k - s.1.toNat) ?_ ⟨min 1 k, _, rfl, ?_, by omega, by omega, ?_⟩ (by simp only [rounds]; omega)
 ·
  rintro rec _ ⟨m, a, rfl, ha, hm, h1m, hr⟩ hrec; unfold q8z; dsimp only; refine jb1 (fun hx => ?_) (fun hx => Ok.some ?_)
  ·
   have hlt : m < k := by simp at hx; omega
   rw [Int.toNat_natCast]; refine Ok.guard (by omega) (Ok.guard (by omega) (Ok.guard (by omega) (Ok.guard (by omega) ?_))); rw [hr, List.length_replicate, ha, List.take_replicate, List.length_replicate]; have hw : IntKind.i64.wrap ((m : Int) + ((min m (k - m) : Nat) : Int)) = ((m + min m (k - m) : Nat) : Int) := by rw [wrap_i64 _ (by omega)]; omega
   rw [hw]; refine hrec _ ⟨m + min m (k - m), _, rfl, ?_, by omega, fun _ => by omega, ?_⟩ (by simp only [Int.toNat_natCast]; omega)
   · rw [List.length_take]; simp; omega
   · rw [List.take_take, Nat.min_eq_left (by omega), List.append_assoc, ← List.append_assoc, List.replicate_append_replicate, show min (k - m) m = min m (k - m) by omega, List.take_append_of_le_length (by simp), List.take_replicate, Nat.min_self]
  ·
   obtain rfl : m = k := by simp at hx; omega
   rw [← hr, ← ha, List.take_length]
 · rw [List.length_take]; simp; omega
 ·
  rw [List.take_take]; rcases k with _ | k
  · simp
  · simp [Nat.min_eq_left]
def all (b : List GItem) : List GRec := b.flatMap fun y => List.replicate y.N.toNat y.Rec
theorem qw9 : ∀ {b : List GItem}, (∀ y ∈ b, 0 < y.N) → ((all b).length : Int) = tot b
 | [], _ => rfl
 | y :: b, h => by
  have := qw9 (b := b) fun z hz => h z (by simp [hz]); have h1 := h y (by simp); simp only [all, tot, List.flatMap_cons, List.length_append, List.length_replicate, List.map_cons, List.sum_cons] at this ⊢; omega
theorem z1a {b : List GItem} (h : ∀ y ∈ b, 0 < y.N) (i : Nat) : 0 ≤ tot (b.take i) ∧ tot (b.take i) ≤ tot b := by
 have e : tot b = tot (b.take i) + tot (b.drop i) := by rw [← q4p, List.take_append_drop]
 have h1 := qw9 (b := b.take i) fun y hy => h y (List.mem_of_mem_take hy); have h2 := qw9 (b := b.drop i) fun y hy => h y (List.mem_of_mem_drop hy); omega
theorem z4y {b : List GItem} {i : Nat} (h : i < b.length) : tot (b.take (i + 1)) = tot (b.take i) + b[i].N := by
 rw [List.take_succ_eq_append_getElem h, q4p]; simp [tot]
theorem j6a {b : List GItem} (hl : b.length < 1000000) : Ok (qp1 b) fun v => (tot (there b) ≤ 65536 → v = (all (there b), true)) ∧ (65536 < tot (there b) → v = ([], false)) := by
 unfold qp1; obtain ⟨hr, hp⟩ := z5a b; have htl := z8x b; refine Ok.bind (jb5 (zk2 (by omega)) ?_)
 generalize there b = c at *
 have hcl : c.length < 1000000 := by omega
 refine jb3 (fun s => ∃ i : Nat, s = (tot (c.take i), (i : Int)) ∧ i ≤ c.length ∧ tot (c.take i) ≤ 65536) (fun s => c.length - s.2.toNat) ?_ ⟨0, by simp [tot], Nat.zero_le _, by simp [tot]⟩ (by simp only [rounds]; omega); rintro rec _ ⟨i, rfl, hi, hI⟩ hrec; unfold qu6; dsimp only; refine jb1 (fun hx => ?_) (fun hx => ?_)
 ·
  have hi' : i < c.length := by simpa using hx
  have h1 := z1a hp (i + 1); have h2 := z1a hp i; have h3 := z4y hi'; have h4 := hr.num _ (List.getElem_mem hi'); refine Ok.bind (jb2 hi' ?_); rw [wrap_i64 (tot (c.take i) + c[i].N) (by omega), wrap_i64 ((i : Int) + 1) (by omega), ← h3]; refine jb1 (fun hg => Ok.some ⟨fun hh => ?_, fun _ => rfl⟩) (fun hg => ?_)
  · simp only [decide_eq_true_eq] at hg; omega
  · exact hrec _ ⟨i + 1, rfl, hi', by simpa using hg⟩ (by simp only; omega)
 ·
  obtain rfl : i = c.length := by simp at hx; omega
  rw [List.take_length] at hI; have hall := qw9 hp; unfold qk8; refine jb6 (l := c) (by omega) (fun i a => a = all (c.take i)) 0 (fun rec i hi a _ hI' hrec => ?_) (fun rec a hI' => ?_) (by simp [all]) (Nat.zero_le _)
  · subst hI'; unfold qk9; dsimp only; have h4 := hr.num _ (List.getElem_mem hi); have h5 := hp _ (List.getElem_mem hi); have h6 := z1a hp (i + 1); have h7 := z4y hi; have h8 := qw9 (b := c.take i) fun y hy => hp y (List.mem_of_mem_take hy); rw [if_pos (by simpa using hi)]; refine Ok.bind (jb2 hi ?_); rw [j1j (by omega) (by omega)]; refine Ok.bind (Ok.some (Ok.guard (by rw [List.length_replicate]; omega) ?_)); rw [wrap_i64 ((i : Int) + 1) (by omega)]; refine hrec _ ?_; unfold all; rw [zh2 hi]
  · subst hI'; unfold qk9; dsimp only; rw [if_neg (by simp), List.take_length]; exact Ok.some ⟨fun _ => rfl, fun hh => by omega⟩
end BG
end Go.Proofs.YteibkihbdgphnaaGreat
