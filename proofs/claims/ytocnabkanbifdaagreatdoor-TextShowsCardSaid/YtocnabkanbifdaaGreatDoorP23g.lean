/-
  The law in plain words: what its plain function gives is true. No condition beyond those that each theorem names.
-/
import Derived.Test.YtocnabkanbifdaaGreatDoorWalkTS1
import Derived.Test.YtocnabkanbifdaaGreatDoorP23f
set_option linter.unusedSimpArgs false
set_option linter.unusedVariables false
set_option linter.unusedSectionVars false
namespace Go.Proofs.YtocnabkanbifdaaGreatDoor
open Go Go.RowKit Go.Lib
set_option maxRecDepth 100000
set_option linter.unusedVariables false
set_option linter.unusedSectionVars false
/-! A graph shown: the document. -/
structure StD (ls : List (List (List UInt8))) (s : List UInt8) : Prop where
 len : s.length ≤ 326 * ls.length
 eq : s = bodyL ls
theorem StD.add {ls : List (List (List UInt8))} {s : List UInt8} {ws : List (List UInt8)} {t : List UInt8} (h : StD ls s) (h5 : ws.length ≤ 5) (hw : ∀ w ∈ ws, w.length ≤ 64) (e : t = s ++ lineW ws) : StD (ls ++ [ws]) t := by
 subst e
 have h1 := h.len
 have := lineW_len h5 hw
 refine ⟨?_, ?_⟩
 · simp only [List.length_append, List.length_cons, List.length_nil]; omega
 · rw [bodyL_snoc, h.eq]
theorem StD.of_eq {ls ls' : List (List (List UInt8))} {s : List UInt8} (h : StD ls s) (e : ls = ls') : StD ls' s := e ▸ h
section
variable {g : GGraph} (hf : fitsG g) (ha : argsIn g)
include hf
theorem refJ2_ok23 {ls : List (List (List UInt8))} {s : List UInt8} (h : StD ls s) (hl : ls.length ≤ 2500) : Ok (f_backwashref23_Show_J2 g s) (fun r => r = (bodyL (ls ++ g.Edges.map edgeL), 0)) := by
 obtain ⟨_, _, hE, _, hEl⟩ := hf
 unfold f_backwashref23_Show_J2
 refine Ok.loop0 (fun q => ∃ i : Nat, q.2 = (i : Int) ∧ i ≤ g.Edges.length ∧ StD (ls ++ (g.Edges.take i).map edgeL) q.1) (fun q => g.Edges.length - q.2.toNat) ?_ ⟨0, rfl, Nat.zero_le _, by simpa using h⟩ (by simp only [rounds]; omega)
 rintro rec ⟨s, t⟩ ⟨i, rfl, hi, hI⟩ hr
 unfold f_backwashref23_Show_B3
 simp only at hI ⊢
 rcases Nat.lt_or_ge i g.Edges.length with hlt | hge
 ·
  rw [if_pos (by simp only [decide_eq_true_eq]; omega)]
  have hm := hEl _ (List.getElem_mem hlt)
  have i1 := low_In hm.1
  have i2 := low_In hm.2.1
  have i3 := low_In hm.2.2
  have l1 := itoa64 i1
  have l2 := itoa64 i2
  have l3 := itoa64 i3
  have hs := hI.len
  simp only [List.length_append, List.length_map, List.length_take] at hs
  have step : ∀ (way : List UInt8) (t : List UInt8), way.length ≤ 64 → edgeL g.Edges[i] = [[101, 100, 103, 101], itoa g.Edges[i].From, itoa g.Edges[i].To, itoa g.Edges[i].Port, way] → t = s ++ lineW (edgeL g.Edges[i]) → Ok (rec (t, IntKind.i64.wrap ((i : Int) + 1))) (fun r => r = (bodyL (ls ++ g.Edges.map edgeL), 0)) := by
   intro way t hway he ht
   have hw : ∀ w ∈ edgeL g.Edges[i], w.length ≤ 64 := by
    rw [he]
    intro w hw
    simp only [List.mem_cons, List.not_mem_nil, or_false] at hw
    rcases hw with rfl | rfl | rfl | rfl | rfl
    · decide
    · exact l1
    · exact l2
    · exact l3
    · exact hway
   refine hr _ ⟨i + 1, wrap_succ (by omega), by omega, (hI.add (by rw [he]; simp) hw ht).of_eq ?_⟩ ?_
   · rw [getT hlt, List.append_assoc]
   ·
    show g.Edges.length - (IntKind.i64.wrap ((i : Int) + 1)).toNat < _
    rw [wrap_succ (by omega)]; simp only [Int.toNat_natCast]; omega
  refine Ok.bind (Ok.idxN hlt (Ok.bind (Ok.of_eq (num23_eq i1) ?_)))
  refine Ok.guard (by simp only [List.length_cons, List.length_nil]; omega) (Ok.guard (by simp only [List.length_append, List.length_cons, List.length_nil]; omega) (Ok.bind (Ok.of_eq (num23_eq i2) ?_)))
  refine Ok.guard (by simp only [List.length_append, List.length_cons, List.length_nil]; omega) (Ok.guard (by simp only [List.length_append, List.length_cons, List.length_nil]; omega) (Ok.bind (Ok.of_eq (num23_eq i3) ?_)))
  refine Ok.guard (by simp only [List.length_append, List.length_cons, List.length_nil]; omega) (Ok.guard (by simp only [List.length_append, List.length_cons, List.length_nil]; omega) ?_)
  refine Ok.iteB (fun hx => Ok.guard (by simp only [List.length_append, List.length_cons, List.length_nil]; omega) ?_) (fun hx => Ok.guard (by simp only [List.length_append, List.length_cons, List.length_nil]; omega) ?_)
  ·
   have he : edgeL g.Edges[i] = [[101, 100, 103, 101], itoa g.Edges[i].From, itoa g.Edges[i].To, itoa g.Edges[i].Port, [107, 101, 121]] := by unfold edgeL; rw [if_pos hx]
   exact step _ _ (by decide) he (by rw [he]; simp [lineW, joinW])
  ·
   have he : edgeL g.Edges[i] = [[101, 100, 103, 101], itoa g.Edges[i].From, itoa g.Edges[i].To, itoa g.Edges[i].Port, [112, 105, 112, 101]] := by unfold edgeL; rw [if_neg (by simp [hx])]
   exact step _ _ (by decide) he (by rw [he]; simp [lineW, joinW])
 ·
  obtain rfl : i = g.Edges.length := by omega
  rw [List.take_length] at hI
  rw [if_neg (by simp)]
  exact Ok.some (by rw [hI.eq])
end
end Go.Proofs.YtocnabkanbifdaaGreatDoor
