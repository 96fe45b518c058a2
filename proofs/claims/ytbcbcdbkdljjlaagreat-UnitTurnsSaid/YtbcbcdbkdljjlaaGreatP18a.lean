/-
  The law in plain words: what its plain function gives is true. No condition beyond those that each theorem names.
-/
import Derived.Test.YtbcbcdbkdljjlaaGreatWalkUT0
import Derived.Test.YtbcbcdbkdljjlaaGreatWalkUT1
import Derived.Test.YtbcbcdbkdljjlaaGreatP01a
import Derived.Test.YtbcbcdbkdljjlaaGreatP05c
set_option linter.unusedSimpArgs false
set_option linter.unusedVariables false
set_option linter.unusedSectionVars false
namespace Go.Proofs.YtbcbcdbkdljjlaaGreat
open Go Go.RowKit BG TS
namespace CE
def emp (s : GSlot) : Bool := s.In.a0.isEmpty && (s.In.a1.isEmpty && s.Sent.isEmpty)
def lens (n : Nat) (s : GSlot) : Prop := s.In.a0.length ≤ n ∧ s.In.a1.length ≤ n ∧ s.Sent.length ≤ n
theorem isE {α : Type} (l : List α) : ((l.length : Int) == 0) = l.isEmpty := by cases l <;> simp; omega
theorem zb2 {s : GSlot} (h : lens 1000000 s) : q73 s = some (emp s) := by
  obtain ⟨h1, h2, h3⟩ := h; unfold q73 emp; rw [wrap_i64 ((s.In.a0.length : Int) + s.In.a1.length) (by omega), wrap_i64 _ (by omega), ← isE, ← isE, ← isE]; refine congrArg some (Bool.eq_iff_iff.2 ?_); simp only [beq_iff_eq, Bool.and_eq_true]; omega
structure Good (s : GSlot) : Prop where
  time : ok s.Time
  some : emp s = false
  a0 : Rt s.In.a0
  a1 : Rt s.In.a1
  sent : Rt s.Sent
def klt (a b : GSlot) : Prop := key a.Time < key b.Time
structure Cl (c : List GSlot) : Prop where
  inc : c.Pairwise klt
  good : ∀ s ∈ c, Good s
theorem Cl.nil : Cl [] := ⟨List.Pairwise.nil, by simp⟩
theorem Cl.succ {c : List GSlot} {i : Nat} (hi : i < c.length) (hI : Cl (c.take i)) (hg : Good c[i]) (hk : ∀ (_ : 0 < i), key (c[i - 1]'(by omega)).Time < key c[i].Time) : Cl (c.take (i + 1)) := by
  rw [List.take_succ_eq_append_getElem hi]; refine ⟨List.pairwise_append.2 ⟨hI.inc, by simp, fun x hx y hy => ?_⟩, fun x hx => ?_⟩
  · rw [List.mem_singleton] at hy; subst hy
    obtain ⟨j, hj, rfl⟩ := List.mem_iff_getElem.1 hx; rw [List.length_take] at hj; have h1 := hk (by omega); rw [List.getElem_take]; rcases Nat.lt_or_ge j (i - 1) with h | h
    · have := (List.pairwise_iff_getElem.1 hI.inc) j (i - 1) (by rw [List.length_take]; omega) (by rw [List.length_take]; omega) h
      rw [List.getElem_take, List.getElem_take] at this; unfold klt at *; omega
    · have : j = i - 1 := by omega
      subst this; exact h1
  · rcases List.mem_append.1 hx with hx | hx
    · exact hI.good x hx
    · rw [List.mem_singleton] at hx; rw [hx]; exact hg
open Classical in
theorem cRight_eq {c : List GSlot} (hl : c.length < 1000000000) (hs : ∀ s ∈ c, lens 1000000 s) : q5b c = some (decide (Cl c)) := by
  refine Ok.eq ?_; unfold q5b; refine Ok.each1 (l := c) (by omega) (fun i => Cl (c.take i)) 0 (fun rec i hi _ hI hr => ?_) (fun rec hI => ?_) (by simpa using Cl.nil) (Nat.zero_le _)
  · unfold q6k
    have hmem : c[i] ∈ c := List.getElem_mem hi; have no : ¬ Cl c → Ok (some false) (fun r => r = decide (Cl c)) := fun h => Ok.some (decide_eq_false h).symm; obtain ⟨l0, l1, l2⟩ := hs _ hmem; have last : ok c[i].Time → emp c[i] = false → (∀ (_ : 0 < i), key (c[i - 1]'(by omega)).Time < key c[i].Time) → Ok (j6 (q1c c[i].In.a0) (fun (v_20 : Bool) => (if v_20 = true then j6 (q1c c[i].In.a1) (fun (v_21 : Bool) => (if v_21 = true then j6 (q1c c[i].Sent) (fun (v_22 : Bool) => (if (!v_22) = true then some false else rec (IntKind.i64.wrap (i + 1)))) else some false)) else some false))) (fun r => r = decide (Cl c)) := fun h1 h2 h3 => by
      refine Ok.bind (Ok.of_eq (BG.Right_eq (by omega)) (Ok.iteB (fun h4 => ?_) (fun h4 => no fun h => by simp [(h.good _ hmem).a0] at h4))); refine Ok.bind (Ok.of_eq (BG.Right_eq (by omega)) (Ok.iteB (fun h5 => ?_) (fun h5 => no fun h => by simp [(h.good _ hmem).a1] at h5))); refine Ok.bind (Ok.of_eq (BG.Right_eq (by omega)) (Ok.iteB (fun h6 => no fun h => by simp [(h.good _ hmem).sent] at h6) (fun h6 => ?_))); rw [wrap_i64 ((i : Int) + 1) (by omega)]; exact hr (hI.succ hi ⟨h1, h2, of_decide_eq_true h4, of_decide_eq_true h5, of_decide_eq_true (by simpa using h6)⟩ h3)
    refine Ok.iteB (fun _ => Ok.bind (Ok.idxN hi (Ok.bind (Ok.of_eq (TS.Right_eq _) (Ok.iteB (fun h1 => Ok.bind (Ok.of_eq (zb2 ⟨l0, l1, l2⟩) (Ok.iteB (fun h2 => no fun h => ?_) (fun h2 => Ok.iteB (fun h0 => ?_) (fun h0 => ?_))))) (fun h1 => no fun h => ?_)))))) (fun hx => by simp only [decide_eq_false_iff_not] at hx; omega)
    · rw [(h.good _ hmem).some] at h2; cases h2
    · simp only [decide_eq_true_eq] at h0 h1
      rw [wrap_i64 ((i : Int) - 1) (by omega), show (i : Int) - 1 = ((i - 1 : Nat) : Int) by omega]; refine Ok.bind (Ok.idxN (by omega) (Ok.bind (Ok.of_eq (TS.less_eq _ _) (Ok.iteB (fun h3 => no fun h => ?_) (fun h3 => last h1 h2 fun _ => ?_)))))
      · have h4 : klt (c[i - 1]'(by omega)) c[i] := (List.pairwise_iff_getElem.1 h.inc) (i - 1) i (by omega) hi (by omega)
        have h5 := (h.good _ (List.getElem_mem (show i - 1 < c.length by omega))).time; unfold klt at h4; simp [h1, h5] at h3; omega
      · simp only [Bool.not_eq_false', decide_eq_true_eq] at h3
        exact h3.2.2
    · simp only [decide_eq_false_iff_not] at h0
      simp only [decide_eq_true_eq] at h1; exact last h1 h2 fun h => by omega
    · simp [(h.good _ hmem).time] at h1
  · unfold q6k
    refine Ok.iteB (fun hx => by simp only [decide_eq_true_eq] at hx; omega) (fun _ => Ok.some ?_); rw [List.take_length] at hI; exact (decide_eq_true hI).symm
end CE
end Go.Proofs.YtbcbcdbkdljjlaaGreat
