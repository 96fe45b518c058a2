/-
  The law in plain words: what its plain function gives is true. No condition beyond those that each theorem names.
-/
import Derived.Test.YtkjinognbjmccaaDoorWalkSR1
import Derived.Test.YtkjinognbjmccaaDoorP21h
set_option linter.unusedSimpArgs false
set_option linter.unusedVariables false
set_option linter.unusedSectionVars false
namespace Go.Proofs.YtkjinognbjmccaaDoor
open Go Go.RowKit Go.Lib
set_option maxRecDepth 100000
/-! Lines that say nothing. -/
theorem len_sp : ∀ (s : List UInt8), ((sp s).map fun x => x.length + 1).sum = s.length + 1
 | [] => rfl
 | c :: l => by
  have ih := len_sp l
  simp only [sp]
  split
  · simp only [List.map_cons, List.sum_cons, List.length_nil, List.length_cons, ih]; omega
  ·
   cases h : sp l with
   | nil => exact absurd h (sp_ne l)
   | cons x y =>
    rw [h] at ih
    simp only [List.map_cons, List.sum_cons, List.length_cons] at ih ⊢; omega
theorem sum_le : ∀ (L : List (List UInt8)) (m : Nat), (∀ x ∈ L, x.length ≤ m) → (L.map fun x => x.length + 1).sum ≤ (m + 1) * L.length
 | [], m, _ => by simp
 | x :: L, m, h => by
  have h1 := h x (by simp)
  have h2 := sum_le L m fun y hy => h y (by simp [hy])
  simp only [List.map_cons, List.sum_cons, List.length_cons, Nat.mul_add] at h2 ⊢; omega
def gth : List (GAct × Int) → List GAct → List GAct × Int
 | [], acc => (acc, 0)
 | q :: r, acc => if q.2 = 0 then gth r (acc ++ [q.1]) else ([], q.2)
theorem prs_gth : ∀ (ls : List (List UInt8)) (k : Nat) (acc : List GAct), (∀ x ∈ ls, x.length ≤ 256) → k + ls.length ≤ 512 → (prs ls k acc).1 = (gth (ls.filterMap rd) acc).1 ∧ (prs ls k acc).2.1 = (gth (ls.filterMap rd) acc).2
 | [], k, acc, _, _ => ⟨rfl, rfl⟩
 | s :: r, k, acc, h, hk => by
  have h1 := h s (by simp)
  simp only [List.length_cons] at hk
  simp only [prs]
  rw [if_neg (by omega)]
  cases hr : rd s with
  | none =>
   simp only [List.filterMap_cons, hr]
   exact prs_gth r (k + 1) acc (fun x hx => h x (by simp [hx])) (by omega)
  | some q =>
   simp only [List.filterMap_cons, hr, gth]
   split
   · exact prs_gth r (k + 1) _ (fun x hx => h x (by simp [hx])) (by omega)
   · exact ⟨rfl, rfl⟩
def rem : List UInt8 := [35, 32, 102, 101, 101, 100, 32, 49, 10, 32, 32, 10]
theorem sp_rem : sp rem = [[35, 32, 102, 101, 101, 100, 32, 49], [32, 32]] ++ [[]] := rfl
theorem rd_rem : rd [35, 32, 102, 101, 101, 100, 32, 49] = none ∧ rd [32, 32] = none := by
 refine ⟨rd_hash (ws := [[35], [102, 101, 101, 100], [49]]) (fun w hw => ?_) rfl, ?_⟩
 ·
  simp only [List.mem_cons, List.not_mem_nil, or_false] at hw
  rcases hw with rfl | rfl | rfl
  all_goals exact ⟨by unfold Wd; decide, by decide⟩
 ·
  have : flds [32, 32] = [] := rfl
  unfold rd
  rw [this]
/-- What holds of the text so far and of that with the lines between. -/
structure RI (text s : List UInt8) (k : Nat) (Q P : List (List UInt8)) (cur : List UInt8) : Prop where
 le : k ≤ text.length
 spT : sp (text.take k) = Q ++ [cur]
 spS : sp s = P ++ [cur]
 same : P.filterMap rd = Q.filterMap rd
 num : P.length ≤ 3 * Q.length + (if cur = [] then 0 else 2)
 few : Q.length ≤ 100
 cl : cur.length ≤ 120
 lq : ∀ x ∈ Q, x.length ≤ 120
 lp : ∀ x ∈ P, x.length ≤ 120
theorem J1_ok {text s : List UInt8} {Q P : List (List UInt8)} {cur : List UInt8} (h : RI text s text.length Q P cur) : Ok (f_backwashlaw21_ScriptRemarks_J1 text s) fun r => r = true := by
 have hT := h.spT
 rw [List.take_length] at hT
 have hS := h.spS
 have hn := h.num
 have hf := h.few
 have hc := h.cl
 have hn2 : P.length ≤ 302 := by split at hn <;> omega
 have a1 : ∀ x ∈ sp text, x.length ≤ 120 := by
  rw [hT]; intro x hx
  rcases List.mem_append.1 hx with hx | hx
  · exact h.lq x hx
  · rw [List.mem_singleton.1 hx]; exact hc
 have a2 : ∀ x ∈ sp s, x.length ≤ 120 := by
  rw [hS]; intro x hx
  rcases List.mem_append.1 hx with hx | hx
  · exact h.lp x hx
  · rw [List.mem_singleton.1 hx]; exact hc
 have n1 : (sp text).length ≤ 101 := by rw [hT, List.length_append, List.length_singleton]; omega
 have n2 : (sp s).length ≤ 303 := by rw [hS, List.length_append, List.length_singleton]; omega
 have l1 := len_sp text
 have l2 := len_sp s
 have b1 := sum_le _ _ a1
 have b2 := sum_le _ _ a2
 obtain ⟨g1, g2⟩ := prs_gth (sp text) 0 [] (fun x hx => by have := a1 x hx; omega) (by omega)
 obtain ⟨g3, g4⟩ := prs_gth (sp s) 0 [] (fun x hx => by have := a2 x hx; omega) (by omega)
 have he : (sp text).filterMap rd = (sp s).filterMap rd := by rw [hT, hS, List.filterMap_append, List.filterMap_append, h.same]
 obtain ⟨_, _, h3⟩ := prs_ok (sp text) 0 [] (by simp) (by simp) (by omega)
 unfold f_backwashlaw21_ScriptRemarks_J1
 refine Ok.bind (Ok.of_eq (Parse_eq (by omega)) (Ok.bind (Ok.of_eq (Parse_eq (by omega)) ?_)))
 refine Ok.iteB (fun _ => Ok.bind (Ok.of_eq (Same_eq _ _ (by omega) ?_) (Ok.some rfl))) (fun hc => ?_)
 · rw [g1, g3, he]
 ·
  exfalso
  rw [g2, g4, he] at hc
  simp at hc
theorem ScriptRemarks_holds (text more : List UInt8) (ht : text.length ≤ 9223372036854775807) : f_backwashlaw21_ScriptRemarks text more = some true := by
 unfold f_backwashlaw21_ScriptRemarks
 rw [awake21]
 refine Ok.eq (Ok.bind (Ok.some (Ok.iteB (fun hc => absurd hc (by simp)) (fun _ => ?_))))
 refine Ok.loop0 (fun st => ∃ (k : Nat) (Q P : List (List UInt8)) (cur : List UInt8), st.2.1 = (Q.length : Int) ∧ st.2.2.1 = (cur.length : Int) ∧ st.2.2.2 = (k : Int) ∧ RI text st.1 k Q P cur) (fun st => text.length - st.2.2.2.toNat) ?_
  ⟨0, [], [], [], rfl, rfl, rfl, ⟨Nat.zero_le _, rfl, rfl, rfl, by simp, by simp, by simp, by simp, by simp⟩⟩ (by simp only [rounds]; omega)
 rintro rec ⟨s, _, _, _⟩ ⟨k, Q, P, cur, rfl, rfl, rfl, h⟩ hr
 unfold f_backwashlaw21_ScriptRemarks_B2
 simp only at h ⊢
 have hn := h.num
 have hf := h.few
 have hcl := h.cl
 have lS := len_sp s
 have hlS : s.length ≤ 50000 := by
  have hn2 : P.length ≤ 302 := by split at hn <;> omega
  have b2 := sum_le (sp s) 120 (by
   rw [h.spS]; intro x hx
   rcases List.mem_append.1 hx with hx | hx
   · exact h.lp x hx
   · rw [List.mem_singleton.1 hx]; exact hcl)
  have : (sp s).length ≤ 303 := by rw [h.spS, List.length_append, List.length_singleton]; omega
  omega
 refine Ok.iteB (fun hc => ?_) (fun hc => ?_)
 ·
  have hk : k < text.length := by simp only [decide_eq_true_eq] at hc; omega
  -- a byte more
  have step : ∀ (s' : List UInt8) (P' : List (List UInt8)), s'.length ≤ 60000 → sp s' = P' ++ [cur] → P'.filterMap rd = Q.filterMap rd → P'.length ≤ 3 * Q.length + 2 → (∀ x ∈ P', x.length ≤ 120) →
    Ok (f_backwashlaw21_ScriptRemarks_J3 text (Q.length : Int) (cur.length : Int) (k : Int) rec s') fun r => r = true := by
   intro s' P' q0 q1 q2 q3 q4
   unfold f_backwashlaw21_ScriptRemarks_J3
   rw [wrapS (by omega)]
   have hd : List.drop (Int.toNat (k : Int)) (List.take (Int.toNat ((k + 1 : Nat) : Int)) text) = [text[k]] := by
    rw [Int.toNat_natCast, Int.toNat_natCast, List.take_succ_eq_append_getElem hk, List.drop_append_of_le_length (by rw [List.length_take]; omega)]
    rw [List.drop_eq_nil_of_le (by rw [List.length_take]; omega)]; rfl
   have ht1 : text.take (k + 1) = text.take k ++ [text[k]] := List.take_succ_eq_append_getElem hk
   refine Ok.guard (by omega) ?_
   rw [hd]
   refine Ok.guard (by simp only [List.length_singleton]; omega) (Ok.bind (Ok.idxN hk ?_))
   have hd2 : List.drop (Int.toNat (k : Int)) (List.take (Int.toNat (IntKind.i64.wrap ((k : Int) + 1))) text) = [text[k]] := by rw [wrapS (by omega)]; exact hd
   generalize text[k] = c at hd hd2 ht1
   refine Ok.iteB (fun h10 => ?_) (fun h10 => ?_)
   ·
    have hc10 : c = 10 := by
     have e : (c.toNat : Int) = 10 := by simpa using h10
     have e2 : c.toNat = (10 : UInt8).toNat := by show c.toNat = 10; omega
     exact UInt8.toNat_inj.1 e2
    subst hc10
    rw [wrapS (by omega)]
    unfold f_backwashlaw21_ScriptRemarks_J4
    rw [hd2, wrapS (by omega)]
    refine Ok.iteB (fun _ => Ok.some rfl) (fun hb => ?_)
    simp only [Bool.or_eq_false_iff, decide_eq_false_iff_not] at hb
    refine hr _ ⟨k + 1, Q ++ [cur], P' ++ [cur], [], by simp, by simp, rfl, ⟨by omega, ?_, ?_, ?_, ?_, ?_, by simp, ?_, ?_⟩⟩ (by simp only [Int.toNat_natCast]; omega)
    · rw [ht1, sp_snoc' h.spT 10, if_pos rfl]; simp
    · rw [sp_snoc' q1 10, if_pos rfl]; simp
    · rw [List.filterMap_append, List.filterMap_append, q2]
    · simp only [List.length_append, List.length_singleton, if_true]; omega
    · simp only [List.length_append, List.length_singleton]; omega
    ·
     intro x hx
     rcases List.mem_append.1 hx with hx | hx
     · exact h.lq x hx
     · rw [List.mem_singleton.1 hx]; exact hcl
    ·
     intro x hx
     rcases List.mem_append.1 hx with hx | hx
     · exact q4 x hx
     · rw [List.mem_singleton.1 hx]; exact hcl
   ·
    have hc10 : ¬ c = 10 := by
     rintro rfl
     exact absurd h10 (by decide)
    rw [wrapS (by omega)]
    unfold f_backwashlaw21_ScriptRemarks_J4
    rw [hd2, wrapS (by omega)]
    refine Ok.iteB (fun _ => Ok.some rfl) (fun hb => ?_)
    simp only [Bool.or_eq_false_iff, decide_eq_false_iff_not] at hb
    refine hr _ ⟨k + 1, Q, P', cur ++ [c], rfl, by simp, rfl, ⟨by omega, ?_, ?_, q2, ?_, hf, ?_, h.lq, q4⟩⟩ (by simp only [Int.toNat_natCast]; omega)
    · rw [ht1, sp_snoc' h.spT c, if_neg hc10]
    · rw [sp_snoc' q1 c, if_neg hc10]
    · rw [if_neg (by simp)]; exact q3
    · simp only [List.length_append, List.length_singleton]; omega
  have keep := step s P (by omega) h.spS h.same (by split at hn <;> omega) h.lp
  refine Ok.iteB (fun hc => ?_) (fun _ => keep)
  simp only [Bool.and_eq_true, beq_iff_eq, decide_eq_true_eq] at hc
  have hcur : cur = [] := List.eq_nil_of_length_eq_zero (by omega)
  refine Ok.bind (Ok.idxN (i := Q.length) (by omega) (Ok.iteB (fun _ => ?_) (fun _ => keep)))
  refine Ok.guard (by simp only [List.length_cons, List.length_nil]; omega) ?_
  subst hcur
  rw [if_pos rfl] at hn
  have hsp : sp (s ++ rem) = (P ++ [[35, 32, 102, 101, 101, 100, 32, 49], [32, 32]]) ++ [[]] := by rw [sp_cat h.spS, sp_rem, List.append_assoc]
  refine step (s ++ rem) _ (by rw [List.length_append]; simp only [rem, List.length_cons, List.length_nil]; omega) hsp ?_ ?_ ?_
  ·
   rw [List.filterMap_append, h.same]
   simp only [List.filterMap_cons, rd_rem.1, rd_rem.2, List.filterMap_nil, List.append_nil]
  · simp only [List.length_append, List.length_cons, List.length_nil]; omega
  ·
   intro x hx
   rcases List.mem_append.1 hx with hx | hx
   · exact h.lp x hx
   ·
    simp only [List.mem_cons, List.not_mem_nil, or_false] at hx
    rcases hx with rfl | rfl <;> decide
 ·
  have : k = text.length := by simp only [decide_eq_false_iff_not] at hc; have := h.le; omega
  subst this
  exact J1_ok h
end Go.Proofs.YtkjinognbjmccaaDoor
