/-
  The law in plain words: what its plain function gives is true. No condition beyond those that each theorem names.
-/
import Derived.Test.YtngeldeahafcfaaP08b
import Derived.Test.YtngeldeahafcfaaP08c
import Derived.Test.YtngeldeahafcfaaP08d
import Derived.Test.YtngeldeahafcfaaP08e
import Derived.Test.YtngeldeahafcfaaWalk1
set_option linter.unusedSimpArgs false
set_option linter.unusedVariables false
namespace Go.Proofs.Ytngeldeahafcfaa
open Go Go.RowKit
set_option linter.unusedSimpArgs false
set_option linter.unusedVariables false
theorem rep_len {α : Type} {p : Pa α} : ∀ {n : Nat} {b : List UInt8} {xs : List α} {r : List UInt8}, repP' p n b = .ok (xs, r) → xs.length = n
  | 0, b, xs, r, h => by
    rw [repP'_zero] at h
    simp only [Except.ok.injEq, Prod.mk.injEq] at h
    rw [← h.1]; rfl
  | n + 1, b, xs, r, h => by
    rw [repP'_succ] at h
    split at h
    · cases h
    · split at h
      · cases h
      · rename_i h2
        simp only [Except.ok.injEq, Prod.mk.injEq] at h
        rw [← h.1, List.length_cons, rep_len h2]
theorem rep_mem {α : Type} {p : Pa α} {P : α → Prop} (hp : ∀ b x r, p b = .ok (x, r) → P x) : ∀ {n : Nat} {b : List UInt8} {xs : List α} {r : List UInt8}, repP' p n b = .ok (xs, r) → ∀ x ∈ xs, P x
  | 0, b, xs, r, h => by
    rw [repP'_zero] at h
    simp only [Except.ok.injEq, Prod.mk.injEq] at h
    rw [← h.1]; intro x hx; cases hx
  | n + 1, b, xs, r, h => by
    rw [repP'_succ] at h
    split at h
    · cases h
    · rename_i h1
      split at h
      · cases h
      · rename_i h2
        simp only [Except.ok.injEq, Prod.mk.injEq] at h
        rw [← h.1]
        intro x hx
        rcases List.mem_cons.1 hx with rfl | hx
        · exact hp _ _ _ h1
        · exact rep_mem hp h2 x hx
/-- What comes of a row of readers. -/
theorem bindP_ok {α β : Type} {p : Pa α} {f : α → Pa β} {b : List UInt8} {x : β} {r : List UInt8} (h : bindP p f b = .ok (x, r)) : ∃ a b', p b = .ok (a, b') ∧ f a b' = .ok (x, r) := by
  unfold bindP at h
  split at h
  · cases h
  · exact ⟨_, _, by assumption, h⟩
theorem retP_ok {α : Type} {a x : α} {b r : List UInt8} (h : retP a b = .ok (x, r)) : x = a ∧ r = b := by
  simp only [retP, Except.ok.injEq, Prod.mk.injEq] at h
  exact ⟨h.1.symm, h.2.symm⟩
theorem nodeP_len {b : List UInt8} {x : GNode} {r : List UInt8} (h : nodeP b = .ok (x, r)) : x.Prog.length ≤ 64 := by
  obtain ⟨_, _, _, h⟩ := bindP_ok h
  obtain ⟨_, _, _, h⟩ := bindP_ok h
  obtain ⟨_, _, _, h⟩ := bindP_ok h
  obtain ⟨n, _, hn, h⟩ := bindP_ok h
  obtain ⟨l, _, hl, h⟩ := bindP_ok h
  obtain ⟨rfl, _⟩ := retP_ok h
  have := rep_len hl
  have := numP_bound hn
  simp only; omega
theorem graphP_len {b : List UInt8} {g : GGraph} {r : List UInt8} (h : graphP b = .ok (g, r)) : lenG g := by
  obtain ⟨n, _, hn, h⟩ := bindP_ok h
  obtain ⟨l, _, hl, h⟩ := bindP_ok h
  obtain ⟨k, _, hk, h⟩ := bindP_ok h
  obtain ⟨ns, _, hns, h⟩ := bindP_ok h
  obtain ⟨m, _, hm, h⟩ := bindP_ok h
  obtain ⟨es, _, hes, h⟩ := bindP_ok h
  obtain ⟨rfl, _⟩ := retP_ok h
  have l1 := rep_len hl
  have l2 := rep_len hns
  have l3 := rep_len hes
  have b1 := numP_bound hn
  have b2 := numP_bound hk
  have b3 := numP_bound hm
  refine ⟨by simp; omega, by simp; omega, by simp only; omega, by simp only; omega, fun x hx => ?_⟩
  have := rep_mem (P := fun x => x.Prog.length ≤ 64) (fun _ _ _ h => nodeP_len h) hns x hx
  omega
theorem bodyG_len (b : List UInt8) : lenG (bodyG b).1 := by
  have h0 : lenG noG := by unfold noG lenG; simp
  unfold bodyG
  split
  · exact h0
  · split
    · exact graphP_len (by assumption)
    · exact h0
theorem readG_len (b : List UInt8) : lenG (readG b).1 := by
  have h0 : lenG noG := by unfold noG lenG; simp
  unfold readG
  split
  · exact h0
  · split
    · exact h0
    · exact h0
    · exact h0
    · split
      · exact bodyG_len _
      · exact h0
theorem GraphReads_holds (b : List UInt8) (hb : Dat.ok b) : f_backwashlaw08_GraphReads b = some true := by
  have hlen : b.length ≤ maxLen := hb.1
  have hmax : maxLen = 9223372036854775807 := rfl
  refine Ok.eq ?_
  unfold f_backwashlaw08_GraphReads
  refine Ok.bind (Ok.of_eq awake08 (Ok.iteB (fun h => by cases h) (fun _ => Ok.guard (by omega) ?_)))
  generalize hB : List.take (Int.toNat (min (List.length b : Int) 9000)) b = B
  have hl : B.length ≤ 9000 := by rw [← hB, List.length_take]; omega
  rw [Read_eq B hl, refRead_eq B hl]
  refine Ok.bind (Ok.some (Ok.bind (Ok.some ?_)))
  refine Ok.bind2 (Same08_ok _ _ (readG_len B)) fun v hv => Ok.some ?_
  rw [hv.2 rfl]; simp
end Go.Proofs.Ytngeldeahafcfaa

