/-
  The law in plain words: what its plain function gives is true. No condition beyond those that each theorem names.
-/
import Derived.Test.YteibkihbdgphnaaGreatWalkMP1
import Derived.Test.YteibkihbdgphnaaGreatWalkMP0
import Derived.Test.YteibkihbdgphnaaGreatP05b
set_option linter.unusedSimpArgs false
set_option linter.unusedVariables false
set_option linter.unusedSectionVars false
open List renaming length_replicate -> Xa, take_length -> Xc, getElem_mem -> Xd, replicate -> Xe, mem_of_mem_take -> Xf, take_replicate -> Xg, append_assoc -> Xh, length_take -> Xi
open Int renaming toNat_natCast -> Xb
namespace Go.Proofs.YteibkihbdgphnaaGreat
open Go Go.RowKit
namespace BG
theorem zw4 {n : Int} (h0 : 0 <= n) (h1 : n < 18446744073709551616) : IntKind.u64.wrap n = n := by simp [IntKind.wrap, IntKind.bits, IntKind.signed]; omega
theorem j3v {n : Int} (h0 : 0 <= n) (h1 : n < 4294967296) : q29 .u64 n 32 = 0 := by
 show Int.fdiv _ 4294967296 = _
 rw [Int.fdiv_eq_ediv_of_nonneg _ (by omega)]; omega
theorem j9n {n : Int} (h0 : 0 <= n) (h1 : n < 4294967296) : qo4 .u64 n 4294967295 = n := by
 have e : (BitVec.ofInt 64 n &&& BitVec.ofInt 64 4294967295).toNat = (BitVec.ofInt 64 n).toNat % 4294967296 := by
  rw [BitVec.toNat_and, show (BitVec.ofInt 64 4294967295).toNat = 2 ^ 32 - 1 from rfl, Nat.and_two_pow_sub_one_eq_mod]
 have e2 : ((BitVec.ofInt 64 n).toNat : Int) = n % 18446744073709551616 := by
  rw [BitVec.toNat_ofInt, Int.toNat_of_nonneg (Int.emod_nonneg _ (by decide))]; rfl
 unfold qo4
 show IntKind.u64.wrap (((BitVec.ofInt 64 n &&& BitVec.ofInt 64 4294967295).toNat : Nat) : Int) = _
 rw [e, Int.natCast_emod, e2, zw4 (by omega) (by omega)]; omega
theorem je5 {n : Int} (h0 : 0 <= n) (h1 : n < 4294967296) : q3f 1 n = some (0, n) := by
 unfold q3f; rw [j3v (n := 1) (by omega) (by omega), j9n (n := 1) (by omega) (by omega), j3v h0 h1, j9n h0 h1]; simp only [Int.zero_mul, Int.one_mul, Int.mul_zero]; rw [zw4 h0 (by omega), j3v h0 h1, show IntKind.u64.wrap 0 = 0 from rfl, Int.add_zero, show IntKind.u64.wrap 0 = 0 from rfl, show q29 .u64 0 32 = 0 from rfl, show qo4 .u64 0 4294967295 = 0 from rfl, Int.zero_add, show IntKind.u64.wrap 0 = 0 from rfl, show q29 .u64 0 32 = 0 from rfl, Int.add_zero, show IntKind.u64.wrap 0 = 0 from rfl]
theorem j30 {r : GRec} {n : Int} (h0 : 0 <= n) (h1 : n < 1000000) : q6n [r] n = some (Xe n.toNat r) := by
 obtain ⟨k, rfl⟩ : ∃ k : Nat, n = (k : Int) := ⟨n.toNat, by omega⟩; refine Ok.eq ?_; unfold q6n q71 qg1; rw [if_neg (by simp), show IntKind.u64.wrap (([r] : List GRec).length : Int) = 1 from rfl, zw4 h0 (by omega), je5 h0 (by omega)]; refine Ok.bind (Ok.bind (Ok.some (Ok.some ?_))); rw [if_neg (by simp; omega)]; unfold q70; dsimp only; rw [wrap_i64 _ (by omega), Xb]; refine Ok.guard (by omega) (Ok.guard (by simp) ?_); refine jh7 (fun s => ∃ m : Nat, ∃ a : List GRec, s = ((m : Int), a) /\ a.length = k /\ m <= k /\ (1 <= k -> 1 <= m) /\ a.take m = Xe m r) (fun s => k - s.1.toNat) ?_ ⟨min 1 k, _, rfl, ?_, by omega, by omega, ?_⟩ (by simp only [rounds]; omega)
 .
  rintro rec _ ⟨m, a, rfl, ha, hm, h1m, hr⟩ hrec; unfold q9g; dsimp only; refine jh5 (fun hx => ?_) (fun hx => Ok.some ?_)
  .
   have hlt : m < k := by simp at hx; omega
   rw [Xb]; refine Ok.guard (by omega) (Ok.guard (by omega) (Ok.guard (by omega) (Ok.guard (by omega) ?_))); rw [hr, Xa, ha, Xg, Xa]; have hw : IntKind.i64.wrap ((m : Int) + ((min m (k - m) : Nat) : Int)) = ((m + min m (k - m) : Nat) : Int) := by rw [wrap_i64 _ (by omega)]; omega
   rw [hw]; refine hrec _ ⟨m + min m (k - m), _, rfl, ?_, by omega, fun _ => by omega, ?_⟩ (by simp only [Xb]; omega)
   . rw [Xi]; simp; omega
   . rw [List.take_take, Nat.min_eq_left (by omega), Xh, <- Xh, List.replicate_append_replicate, show min (k - m) m = min m (k - m) by omega, List.take_append_of_le_length (by simp), Xg, Nat.min_self]
  .
   obtain rfl : m = k := by simp at hx; omega
   rw [<- hr, <- ha, Xc]
 . rw [Xi]; simp; omega
 .
  rw [List.take_take]; rcases k with _ | k
  . simp
  . simp [Nat.min_eq_left]
def all (b : List GItem) : List GRec := b.flatMap fun y => Xe y.N.toNat y.Rec
theorem z03 : ∀ {b : List GItem}, (∀ y ∈ b, 0 < y.N) -> ((all b).length : Int) = tot b
 | [], _ => rfl
 | y :: b, h => by
  have := z03 (b := b) fun z hz => h z (by simp [hz]); have h1 := h y (by simp); simp only [all, tot, List.flatMap_cons, List.length_append, Xa, List.map_cons, List.sum_cons] at this ⊢; omega
theorem z2q {b : List GItem} (h : ∀ y ∈ b, 0 < y.N) (i : Nat) : 0 <= tot (b.take i) /\ tot (b.take i) <= tot b := by
 have e : tot b = tot (b.take i) + tot (b.drop i) := by rw [<- q3a, List.take_append_drop]
 have h1 := z03 (b := b.take i) fun y hy => h y (Xf hy); have h2 := z03 (b := b.drop i) fun y hy => h y (List.mem_of_mem_drop hy); omega
theorem z6m {b : List GItem} {i : Nat} (h : i < b.length) : tot (b.take (i + 1)) = tot (b.take i) + b[i].N := by
 rw [List.take_succ_eq_append_getElem h, q3a]; simp [tot]
theorem j7v {b : List GItem} (hl : b.length < 1000000) : Ok (qr8 b) fun v => (tot (there b) <= 65536 -> v = (all (there b), true)) /\ (65536 < tot (there b) -> v = ([], false)) := by
 unfold qr8; obtain ⟨hr, hp⟩ := z6p b; have htl := zb7 b; refine Ok.bind (jh8 (zp5 (by omega)) ?_)
 generalize there b = c at *
 have hcl : c.length < 1000000 := by omega
 refine jh7 (fun s => ∃ i : Nat, s = (tot (c.take i), (i : Int)) /\ i <= c.length /\ tot (c.take i) <= 65536) (fun s => c.length - s.2.toNat) ?_ ⟨0, by simp [tot], Nat.zero_le _, by simp [tot]⟩ (by simp only [rounds]; omega); rintro rec _ ⟨i, rfl, hi, hI⟩ hrec; unfold qx6; dsimp only; refine jh5 (fun hx => ?_) (fun hx => ?_)
 .
  have hi' : i < c.length := by simpa using hx
  have h1 := z2q hp (i + 1); have h2 := z2q hp i; have h3 := z6m hi'; have h4 := hr.num _ (Xd hi'); refine Ok.bind (jh6 hi' ?_); rw [wrap_i64 (tot (c.take i) + c[i].N) (by omega), wrap_i64 ((i : Int) + 1) (by omega), <- h3]; refine jh5 (fun hg => Ok.some ⟨fun hh => ?_, fun _ => rfl⟩) (fun hg => ?_)
  . simp only [decide_eq_true_eq] at hg; omega
  . exact hrec _ ⟨i + 1, rfl, hi', by simpa using hg⟩ (by simp only; omega)
 .
  obtain rfl : i = c.length := by simp at hx; omega
  rw [Xc] at hI; have hall := z03 hp; unfold qn1; refine jh9 (l := c) (by omega) (fun i a => a = all (c.take i)) 0 (fun rec i hi a _ hI' hrec => ?_) (fun rec a hI' => ?_) (by simp [all]) (Nat.zero_le _)
  . subst hI'; unfold qn2; dsimp only; have h4 := hr.num _ (Xd hi); have h5 := hp _ (Xd hi); have h6 := z2q hp (i + 1); have h7 := z6m hi; have h8 := z03 (b := c.take i) fun y hy => hp y (Xf hy); rw [if_pos (by simpa using hi)]; refine Ok.bind (jh6 hi ?_); rw [j30 (by omega) (by omega)]; refine Ok.bind (Ok.some (Ok.guard (by rw [Xa]; omega) ?_)); rw [wrap_i64 ((i : Int) + 1) (by omega)]; refine hrec _ ?_; unfold all; rw [zm6 hi]
  . subst hI'; unfold qn2; dsimp only; rw [if_neg (by simp), Xc]; exact Ok.some ⟨fun _ => rfl, fun hh => by omega⟩
end BG
end Go.Proofs.YteibkihbdgphnaaGreat
