/-
  The law in plain words: what its plain function gives is true. No condition beyond those that each theorem names.
-/
import Derived.Test.YtkjinognbjmccaaDoorWalkSR0
import Derived.Test.YtkjinognbjmccaaDoorWalkSR1
import Derived.Test.YtkjinognbjmccaaDoorP21f
set_option linter.unusedSimpArgs false
set_option linter.unusedVariables false
set_option linter.unusedSectionVars false
namespace Go.Proofs.YtkjinognbjmccaaDoor
open Go Go.RowKit Go.Lib
set_option maxRecDepth 100000
/-! A script read, line by line. -/
noncomputable def rd (s : List UInt8) : Option (GAct × Int) := match flds s with
 | [] => none
 | x :: w => if x.s.head? = some 35 then none else some ((f_script_act (x :: w)).getD (⟨0, 0, 0, 0, 0, ⟨0, 0⟩⟩, 4))
noncomputable def prs : List (List UInt8) → Nat → List GAct → List GAct × Int × Int
 | [], _, acc => (acc, 0, 0)
 | s :: r, k, acc => if 512 ≤ k ∨ 256 < s.length then ([], 11, ((k + 1 : Nat) : Int)) else match rd s with
  | none => prs r (k + 1) acc
  | some q => if q.2 = 0 then prs r (k + 1) (acc ++ [q.1]) else ([], q.2, ((k + 1 : Nat) : Int))
theorem sp_len : ∀ (s : List UInt8), (sp s).length ≤ s.length + 1
 | [] => by simp [sp]
 | c :: l => by
  have ih := sp_len l
  simp only [sp]
  split
  · simp only [List.length_cons]; omega
  ·
   split
   · simp
   ·
    rename_i x y h
    rw [h] at ih
    simp only [List.length_cons] at ih ⊢; omega
theorem rd_ok {s : List UInt8} (hs : s.length ≤ 256) : (rd s = none ∧ (flds s = [] ∨ ∃ x w, flds s = x :: w ∧ x.s.head? = some 35)) ∨ ∃ x w q, flds s = x :: w ∧ x.s.head? ≠ some 35 ∧ f_script_act (x :: w) = some q ∧ rd s = some q ∧ (q.2 = 0 → AOK q.1 ∧ AIn q.1) := by
 obtain ⟨h1, h2⟩ := flds_ok s
 unfold rd
 cases hf : flds s with
 | nil => exact .inl ⟨rfl, .inl rfl⟩
 | cons x w =>
  rw [hf] at h1 h2
  simp only
  by_cases h : x.s.head? = some 35
  · rw [if_pos h]; exact .inl ⟨rfl, .inr ⟨x, w, rfl, h⟩⟩
  ·
   rw [if_neg h]
   obtain ⟨q, hq, hg⟩ := act_ok (w := x) (ws := w) (by simp only [List.length_cons] at h2; omega) (fun y hy => by have := (h1 y hy).2; omega)
   exact .inr ⟨x, w, q, rfl, h, hq, by rw [hq]; rfl, hg⟩
theorem Parse_eq {text : List UInt8} (ht : text.length < 4294967281) : f_script_Parse text = some (prs (sp text) 0 []) := by
 have hsl := sp_len text
 unfold f_script_Parse
 rw [split_eq ht]
 refine Ok.eq (Ok.bind (Ok.some ?_))
 have hln : ((sp text).map GStr.mk).length = (sp text).length := List.length_map _
 refine Ok.each (l := (sp text).map GStr.mk) (by rw [hln]; omega) (fun i acc => prs (sp text) 0 [] = prs ((sp text).drop i) i acc ∧ acc.length ≤ i) 0 ?_ ?_ ⟨by simp, by simp⟩ (Nat.zero_le _)
 ·
  rintro rec i hi acc _ ⟨he, hacc⟩ hr
  have hi2 : i < (sp text).length := by rw [hln] at hi; exact hi
  unfold f_script_Parse_B1
  simp only
  refine Ok.iteB (fun _ => Ok.bind (Ok.idxN hi ?_)) (fun hc => absurd hc (by simp only [decide_eq_false_iff_not]; omega))
  have hg : ((sp text).map GStr.mk)[i] = ⟨(sp text)[i]⟩ := List.getElem_map _
  rw [hg]
  rw [List.drop_eq_getElem_cons hi2] at he
  simp only [prs] at he
  generalize (sp text)[i] = s at he ⊢
  rw [wrapS (by omega)]
  refine Ok.iteB (fun hc => Ok.some ?_) (fun hc => ?_)
  ·
   simp only [Bool.or_eq_true, decide_eq_true_eq] at hc
   rw [he, if_pos (by omega)]
  ·
   simp only [Bool.or_eq_false_iff, decide_eq_false_iff_not] at hc
   rw [if_neg (by omega)] at he
   have hs : s.length ≤ 256 := by omega
   refine Ok.bind (Ok.of_eq (fields_eq (s := s) (by omega)) ?_)
   rcases rd_ok hs with ⟨h1, h2 | ⟨x, w, h2, h3⟩⟩ | ⟨x, w, q, h2, h3, h4, h5, _⟩
   ·
    rw [h1] at he
    rw [h2]
    exact Ok.iteB (fun _ => hr _ ⟨he, by omega⟩) (fun hc => absurd hc (by simp))
   ·
    rw [h1] at he
    rw [h2]
    refine Ok.iteB (fun hc => absurd hc (by simp; omega)) (fun _ => ?_)
    refine Ok.bind (Ok.idxN (i := 0) (by simp) ?_)
    simp only [List.getElem_cons_zero]
    cases hx : x.s with
    | nil => rw [hx] at h3; simp at h3
    | cons c r =>
     rw [hx] at h3
     simp only [List.head?_cons, Option.some.injEq] at h3
     refine Ok.bind (Ok.idxN (i := 0) (by simp) ?_)
     simp only [List.getElem_cons_zero, h3]
     exact Ok.iteB (fun _ => hr _ ⟨he, by omega⟩) (fun hc => absurd hc (by decide))
   ·
    rw [h5] at he
    have hne : 1 ≤ x.s.length := ((flds_ok s).1 x (by rw [h2]; simp)).1
    rw [h2]
    refine Ok.iteB (fun hc => absurd hc (by simp; omega)) (fun _ => ?_)
    refine Ok.bind (Ok.idxN (i := 0) (by simp) ?_)
    simp only [List.getElem_cons_zero]
    cases hx : x.s with
    | nil => rw [hx] at hne; simp at hne
    | cons c r =>
     rw [hx] at h3
     simp only [List.head?_cons, ne_eq, Option.some.injEq] at h3
     refine Ok.bind (Ok.idxN (i := 0) (by simp) ?_)
     simp only [List.getElem_cons_zero]
     refine Ok.iteB (fun hc => ?_) (fun _ => ?_)
     ·
      exfalso
      have e : (c.toNat : Int) = 35 := by simpa using hc
      have e2 : c.toNat = (35 : UInt8).toNat := by show c.toNat = 35; omega
      exact h3 (UInt8.toNat_inj.1 e2)
     refine Ok.bind (Ok.of_eq h4 ?_)
     refine Ok.iteB (fun hc => Ok.some ?_) (fun hc => ?_)
     · rw [he]; simp only; rw [if_neg (by simpa using hc)]
     ·
      have h0 : q.2 = 0 := by simpa using hc
      simp only at he
      rw [if_pos h0] at he
      refine Ok.guard (by simp only [List.length_cons, List.length_nil]; omega) (hr _ ⟨he, by simp only [List.length_append, List.length_cons, List.length_nil]; omega⟩)
 ·
  rintro rec acc ⟨he, _⟩
  unfold f_script_Parse_B1
  simp only
  refine Ok.iteB (fun hc => absurd hc (by simp)) (fun _ => Ok.some ?_)
  rw [hln, List.drop_length] at he
  rw [he]; rfl
/-- What is read may be shown. -/
theorem prs_ok : ∀ (ls : List (List UInt8)) (k : Nat) (acc : List GAct), (∀ a ∈ acc, AOK a ∧ AIn a) → acc.length ≤ k → k ≤ 512 →
  ((prs ls k acc).2.1 ≠ 0 → (prs ls k acc).1 = []) ∧ (∀ a ∈ (prs ls k acc).1, AOK a ∧ AIn a) ∧ (prs ls k acc).1.length ≤ 512
 | [], k, acc, h, hl, hk => ⟨fun h => absurd rfl h, h, by simp only [prs]; omega⟩
 | s :: r, k, acc, h, hl, hk => by
  simp only [prs]
  split
  · exact ⟨fun _ => rfl, by simp, by simp⟩
  ·
   rename_i hc
   rcases rd_ok (s := s) (by omega) with ⟨h1, _⟩ | ⟨x, w, q, _, _, _, h5, h6⟩
   · rw [h1]; exact prs_ok r (k + 1) acc h (by omega) (by omega)
   ·
    rw [h5]
    simp only
    split
    ·
     rename_i h0
     refine prs_ok r (k + 1) (acc ++ [q.1]) (fun a ha => ?_) (by simp only [List.length_append, List.length_singleton]; omega) (by omega)
     rcases List.mem_append.1 ha with ha | ha
     · exact h a ha
     · rw [List.mem_singleton.1 ha]; exact h6 h0
    · exact ⟨fun _ => rfl, by simp, by simp⟩
theorem wordK_wd (k : Int) : Wd (wordK k) ∧ wordK k ≠ [] ∧ (wordK k).head? ≠ some 35 := by
 unfold wordK Wd
 repeat' split
 all_goals exact ⟨by decide, by decide, by decide⟩
theorem wordsA_ok {a : GAct} (h : AIn a) : ∃ k r, wordsA a = wordK k :: r ∧ ∀ w ∈ wordsA a, Wd w ∧ w ≠ [] := by
 have it : ∀ n, In n → Wd (itoa n) ∧ itoa n ≠ [] := fun n hn => ⟨itoa_wd n, fun e => by have := itoa_len hn; rw [e] at this; simp at this⟩
 have wk := fun k => (⟨(wordK_wd k).1, (wordK_wd k).2.1⟩ : Wd (wordK k) ∧ wordK k ≠ [])
 have hA := it _ h.A; have hB := it _ h.B; have hC := it _ h.C; have hD := it _ h.D; have hK := it _ h.K; have hV := it _ h.V
 unfold wordsA
 repeat' split
 all_goals refine ⟨_, _, rfl, ?_⟩
 all_goals simp only [List.mem_cons, List.not_mem_nil, or_false, forall_eq_or_imp, forall_eq, wk, hA, hB, hC, hD, hK, hV, and_self, ne_eq, not_false_eq_true]
theorem rd_line {a : GAct} (h : AOK a) (hi : AIn a) : rd (lineS a) = some (a, 0) := by
 obtain ⟨k, r, he, hw⟩ := wordsA_ok hi
 have hf : flds (lineS a) = (wordsA a).map GStr.mk := flds_join (by rw [he]; simp) hw
 have hb := act_back h hi
 unfold rd
 rw [hf]
 rw [he] at hb ⊢
 simp only [List.map_cons] at hb ⊢
 rw [if_neg (wordK_wd k).2.2, hb]
 rfl
theorem Same_eq (a b : List GAct) (ha : a.length < 9223372036854775807) (hab : a = b) : f_backwashref21_Same a b = some true := by
 subst hab
 unfold f_backwashref21_Same
 refine Ok.eq (Ok.iteB (fun hc => absurd hc (by simp)) (fun _ => ?_))
 refine Ok.each1 (l := a) ha (fun _ => True) 0 (fun rec i hi _ _ hr => ?_) (fun rec _ => ?_) trivial (Nat.zero_le _)
 ·
  unfold f_backwashref21_Same_B1
  refine Ok.iteB (fun _ => Ok.bind (Ok.idxN hi (Ok.bind (Ok.idxN hi ?_)))) (fun hc => absurd hc (by simp; omega))
  refine Ok.iteB (fun hc => absurd hc (by simp)) (fun _ => ?_)
  rw [wrapS (by omega)]
  exact hr trivial
 ·
  unfold f_backwashref21_Same_B1
  exact Ok.iteB (fun hc => absurd hc (by simp)) (fun _ => Ok.some rfl)
end Go.Proofs.YtkjinognbjmccaaDoor
