/-
  The law in plain words: what its plain function gives is true. No condition beyond those that each theorem names.
-/
import Derived.Test.YtocnabkanbifdaaGreatDoorWalkTB0
import Derived.Test.YtocnabkanbifdaaGreatDoorWalkTB1
import Derived.Test.YtocnabkanbifdaaGreatDoorP23c
import Derived.Test.YtocnabkanbifdaaGreatDoorP23p
set_option linter.unusedSimpArgs false
set_option linter.unusedVariables false
set_option linter.unusedSectionVars false
namespace Go.Proofs.YtocnabkanbifdaaGreatDoor
open Go Go.RowKit Go.Lib
set_option maxRecDepth 100000
set_option linter.unusedVariables false
/-! A graph shown: the code. -/
structure StS (ls : List (List (List UInt8))) (ok : Prop) (q : Bool × List UInt8) : Prop where
 len : q.2.length ≤ 326 * ls.length
 bad : q.1 = false ↔ ok
 eq : q.1 = false → q.2 = bodyL ls
theorem StS.iff {ls ok ok'} {q : Bool × List UInt8} (h : StS ls ok q) (e : ok ↔ ok') : StS ls ok' q := ⟨h.len, h.bad.trans e, h.eq⟩
theorem StS.of_eq {ls ls' ok} {q : Bool × List UInt8} (h : StS ls ok q) (e : ls = ls') : StS ls' ok q := e ▸ h
theorem bodyL_snoc (ls : List (List (List UInt8))) (ws : List (List UInt8)) : bodyL (ls ++ [ws]) = bodyL ls ++ lineW ws := by simp [bodyL]
theorem StS.say {ls ok} {q : Bool × List UInt8} (h : StS ls ok q) (hl : ls.length ≤ 3000) {ws : List (List UInt8)} (h2 : 2 ≤ ws.length) (h5 : ws.length ≤ 5) (hw : ∀ w ∈ ws, w.length ≤ 64) {Q : (List UInt8 × Bool) → Prop} (hQ : ∀ r : List UInt8 × Bool, StS (ls ++ [ws]) ok (r.2, r.1) → Q r) :
  Ok (f_text_shower_say_p0 (q.2, q.1) (ws.map GStr.mk)) Q := by
 have h1 := h.len
 refine Ok.of_eq (say_eq h2 h5 hw (by show q.2.length ≤ _; omega)) (hQ _ ⟨?_, h.bad, fun hb => ?_⟩)
 ·
  have := lineW_len h5 hw
  simp only [List.length_append, List.length_cons, List.length_nil]; omega
 ·
  show q.2 ++ lineW ws = _
  rw [bodyL_snoc, h.eq hb]
theorem StS.sayBad {ls ok} {q : Bool × List UInt8} (h : StS ls ok q) (hl : ls.length ≤ 3000) {ws vs : List (List UInt8)} (h2 : 2 ≤ ws.length) (h5 : ws.length ≤ 5) (hw : ∀ w ∈ ws, w.length ≤ 64) {Q : (List UInt8 × Bool) → Prop} (hQ : ∀ r : List UInt8 × Bool, StS (ls ++ [vs]) False (r.2, r.1) → Q r) :
  Ok (f_text_shower_say_p0 (q.2, true) (ws.map GStr.mk)) Q := by
 have h1 := h.len
 refine Ok.of_eq (say_eq h2 h5 hw (by show q.2.length ≤ _; omega)) (hQ _ ⟨?_, by simp, fun hb => by cases hb⟩)
 have := lineW_len h5 hw
 simp only [List.length_append, List.length_cons, List.length_nil]; omega
theorem itoa64 {n : Int} (h : In n) : (itoa n).length ≤ 64 := by have := (itoa_len h).2; omega
theorem low_In {n : Int} (h : low n) : In n := by unfold low at h; exact ⟨by omega, by omega⟩
theorem textNum_eq {n : Int} (h : In n) : f_text_num n = some (itoa n) := by
 unfold f_text_num; rw [fmtF_eq h]; rfl
theorem getT {α β : Type} {f : α → β} {l : List α} {i : Nat} (h : i < l.length) : (l.take (i + 1)).map f = (l.take i).map f ++ [f l[i]] := by
 rw [List.take_succ_eq_append_getElem h, List.map_append]; rfl
theorem allT {α : Type} {P : α → Prop} {l : List α} {i : Nat} (h : i < l.length) : (∀ x ∈ l.take (i + 1), P x) ↔ (∀ x ∈ l.take i, P x) ∧ P l[i] := by
 rw [List.take_succ_eq_append_getElem h]
 simp only [List.mem_append, List.mem_singleton]
 exact ⟨fun h => ⟨fun x hx => h x (.inl hx), h _ (.inr rfl)⟩, fun h x hx => hx.elim (h.1 x) fun e => e ▸ h.2⟩
def nodeLs (x : GNode) : List (List (List UInt8)) := nodeL x :: x.Prog.map insL
def sayR (ok : Prop) (ls : List (List (List UInt8))) (r : List UInt8 × Int) : Prop := (ok → r = (bodyL ls, 0)) ∧ (¬ ok → r = ([], 1))
theorem J3_ok23 {ls ok} {q : Bool × List UInt8} (h : StS ls ok q) : Ok (f_text_Show_J3 q.1 q.2) (sayR ok ls) := by
 unfold f_text_Show_J3 f_strings_Builder_String_T51_p0 bstringF
 refine Ok.iteB (fun hb => Ok.some ⟨fun ho => ?_, fun _ => rfl⟩) (fun hb => Ok.bind (Ok.some (Ok.some ⟨fun _ => ?_, fun hn => absurd (h.bad.1 hb) hn⟩)))
 · rw [h.bad.2 ho] at hb; cases hb
 · rw [h.eq hb]
section
variable {g : GGraph} (hf : fitsG g) (ha : argsIn g)
include hf
theorem J2_ok23 {ls ok} {q : Bool × List UInt8} (h : StS ls ok q) (hl : ls.length ≤ 2500) : Ok (f_text_Show_J2 g q.1 q.2) (sayR ok (ls ++ g.Edges.map edgeL)) := by
 obtain ⟨_, _, hE, _, hEl⟩ := hf
 unfold f_text_Show_J2
 refine Ok.each (l := g.Edges) (by omega) (fun i s => StS (ls ++ (g.Edges.take i).map edgeL) ok s) 0 (fun rec i hi s _ hI hr => ?_) (fun rec s hI => ?_) (by simpa using h) (by omega)
 ·
  obtain ⟨b, buf⟩ := s
  unfold f_text_Show_B4
  simp only
  rw [if_pos (by simp only [decide_eq_true_eq]; omega)]
  have hm := hEl _ (List.getElem_mem hi)
  refine Ok.bind (Ok.idxN hi ?_)
  have hlen : (ls ++ (g.Edges.take i).map edgeL).length ≤ 3000 := by simp only [List.length_append, List.length_map, List.length_take]; omega
  have step : ∀ way : List UInt8, way.length ≤ 64 → edgeL g.Edges[i] = [[101, 100, 103, 101], itoa g.Edges[i].From, itoa g.Edges[i].To, itoa g.Edges[i].Port, way] → Ok (f_text_Show_J5 (i : Int) b buf rec g.Edges[i] way) (sayR ok (ls ++ g.Edges.map edgeL)) := by
   intro way hway he
   unfold f_text_Show_J5
   refine Ok.bind (Ok.of_eq (itoaF_eq (low_In hm.1)) (Ok.bind (Ok.of_eq (itoaF_eq (low_In hm.2.1)) (Ok.bind (Ok.of_eq (itoaF_eq (low_In hm.2.2)) ?_)))))
   have hw : ∀ w ∈ [[101, 100, 103, 101], itoa g.Edges[i].From, itoa g.Edges[i].To, itoa g.Edges[i].Port, way], w.length ≤ 64 := by
    intro w hw
    simp only [List.mem_cons, List.not_mem_nil, or_false] at hw
    rcases hw with rfl | rfl | rfl | rfl | rfl
    · decide
    · exact itoa64 (low_In hm.1)
    · exact itoa64 (low_In hm.2.1)
    · exact itoa64 (low_In hm.2.2)
    · exact hway
   have hs := StS.say (Q := fun r => Ok (rec (IntKind.i64.wrap ((i : Int) + 1), r.2, r.1)) (sayR ok (ls ++ g.Edges.map edgeL))) hI hlen (by simp) (by simp) hw fun r hr' => by
    rw [wrap_succ (by omega)]
    refine hr (r.2, r.1) (hr'.of_eq ?_)
    rw [getT hi, he, List.append_assoc]
   exact Ok.bind hs
  refine Ok.iteB (fun hx => step _ (by decide) (by unfold edgeL; rw [if_pos hx])) (fun hx => step _ (by decide) (by unfold edgeL; rw [if_neg (by simp [hx])]))
 ·
  rw [List.take_length] at hI
  unfold f_text_Show_B4
  simp only
  rw [if_neg (by simp)]
  exact J3_ok23 hI
end
end Go.Proofs.YtocnabkanbifdaaGreatDoor
