/-
  The law in plain words: what its plain function gives is true. No condition beyond those that each theorem names.
-/
import Derived.Test.YtocnabkanbifdaaGreatDoorWalkTB1
import Derived.Test.YtocnabkanbifdaaGreatDoorP23d
set_option linter.unusedSimpArgs false
set_option linter.unusedVariables false
set_option linter.unusedSectionVars false
namespace Go.Proofs.YtocnabkanbifdaaGreatDoor
open Go Go.RowKit Go.Lib
set_option maxRecDepth 100000
set_option linter.unusedVariables false
set_option linter.unusedSectionVars false
/-! A graph shown: the code's nodes and scopes. -/
theorem flatMapL_len {α β : Type} {f : α → List β} {M : Nat} {l : List α} (h : ∀ x ∈ l, (f x).length ≤ M) : ∀ i, i ≤ l.length → ((l.take i).flatMap f).length ≤ i * M
 | 0, _ => by simp
 | i + 1, hi => by
  have h1 := flatMapL_len h i (by omega)
  have h2 := h _ (List.getElem_mem (show i < l.length by omega))
  rw [flatMap_take (show i < l.length by omega), List.length_append, Nat.add_mul]
  omega
section
variable {g : GGraph} (hf : fitsG g) (ha : argsIn g)
include hf ha
theorem nodeLs_len {i : Nat} (hi : i ≤ g.Nodes.length) : ((g.Nodes.take i).flatMap nodeLs).length ≤ i * 65 := by
 obtain ⟨_, _, _, hNl, _⟩ := hf
 refine flatMapL_len (fun x hx => ?_) i hi
 have := (hNl x hx).2.2.1
 unfold nodeLs
 simp only [List.length_cons, List.length_map]; omega
theorem J1_ok23 {ls : List (List (List UInt8))} {q : Bool × List UInt8} (h : StS ls True q) (hl : ls.length ≤ 10) : Ok (f_text_Show_J1 g q.1 q.2) (sayR (∀ x ∈ g.Nodes, nodeOK x) (ls ++ g.Nodes.flatMap nodeLs ++ g.Edges.map edgeL)) := by
 have hf0 := hf
 have hLen := fun i hi => nodeLs_len (i := i) hf ha hi
 obtain ⟨_, hN, _, hNl, _⟩ := hf
 unfold f_text_Show_J1
 refine Ok.each (l := g.Nodes) (by omega) (fun i s => StS (ls ++ (g.Nodes.take i).flatMap nodeLs) (∀ x ∈ g.Nodes.take i, nodeOK x) s) 0 (fun rec i hi s _ hI hr => ?_) (fun rec s hI => ?_) (by simpa using h.iff (by simp)) (by omega)
 ·
  obtain ⟨b, buf⟩ := s
  unfold f_text_Show_B6
  simp only
  rw [if_pos (by simp only [decide_eq_true_eq]; omega)]
  have hm := List.getElem_mem hi
  have hli := hNl _ hm
  have hlen : (ls ++ (g.Nodes.take i).flatMap nodeLs).length ≤ 2200 := by
   have := hLen i (by omega)
   simp only [List.length_append]; omega
  have hp := hli.2.2.1
  refine Ok.bind (Ok.idxN hi (Ok.bind (Ok.of_eq kinds_eq ?_)))
  -- the instructions
  have prog : ∀ r : List UInt8 × Bool, StS (ls ++ (g.Nodes.take i).flatMap nodeLs ++ [nodeL g.Nodes[i]]) ((∀ x ∈ g.Nodes.take i, nodeOK x) ∧ (1 ≤ g.Nodes[i].Kind ∧ g.Nodes[i].Kind ≤ 15)) (r.2, r.1) →
    Ok (loopK (f_text_Show_B7 (i : Int) rec g.Nodes[i]) rounds (0, r.2, r.1)) (sayR (∀ x ∈ g.Nodes, nodeOK x) (ls ++ g.Nodes.flatMap nodeLs ++ g.Edges.map edgeL)) := by
   intro r hr0
   refine Ok.each (l := g.Nodes[i].Prog) (by omega) (fun k s => StS (ls ++ (g.Nodes.take i).flatMap nodeLs ++ [nodeL g.Nodes[i]] ++ (g.Nodes[i].Prog.take k).map insL) (((∀ x ∈ g.Nodes.take i, nodeOK x) ∧ (1 ≤ g.Nodes[i].Kind ∧ g.Nodes[i].Kind ≤ 15)) ∧ ∀ y ∈ g.Nodes[i].Prog.take k, insOK y) s) 0 (s0 := (r.2, r.1)) (fun rec2 k hk t _ hI2 hr2 => ?_) (fun rec2 t hI2 => ?_) (by simpa using hr0) (by omega)
   ·
    obtain ⟨b2, buf2⟩ := t
    unfold f_text_Show_B7
    simp only
    rw [if_pos (by simp only [decide_eq_true_eq]; omega)]
    have hmk := List.getElem_mem hk
    have hNk := (ha _ hm).2 _ hmk
    have hlen2 : (ls ++ (g.Nodes.take i).flatMap nodeLs ++ [nodeL g.Nodes[i]] ++ (g.Nodes[i].Prog.take k).map insL).length ≤ 3000 := by
     simp only [List.length_append, List.length_cons, List.length_nil, List.length_map, List.length_take] at hlen ⊢; omega
    refine Ok.bind (Ok.idxN hk (Ok.bind (Ok.of_eq codes_eq ?_)))
    by_cases hop : insOK g.Nodes[i].Prog[k]
    ·
     refine Ok.bind (Ok.of_eq (name_ok hop.1 hop.2 (by decide)) (Ok.bind (Ok.of_eq (textNum_eq hNk) ?_)))
     have hw : ∀ w ∈ insL g.Nodes[i].Prog[k], w.length ≤ 64 := by
      intro w hw
      simp only [insL, List.mem_cons, List.not_mem_nil, or_false] at hw
      rcases hw with rfl | rfl | rfl
      · decide
      · exact (codesL_ok _ (nmOf_mem hop.1 hop.2)).1
      · exact itoa64 hNk
     refine Ok.bind (StS.say hI2 hlen2 (ws := insL g.Nodes[i].Prog[k]) (by simp [insL]) (by simp [insL]) hw fun r2 hr2' => ?_)
     rw [wrap_succ (by omega)]
     refine hr2 (r2.2, r2.1) ((hr2'.of_eq ?_).iff ?_)
     · rw [getT hk, List.append_assoc]
     ·
      rw [allT hk]
      exact ⟨fun h => ⟨h.1, h.2, hop⟩, fun h => ⟨h.1, h.2.1⟩⟩
    ·
     have hbad : g.Nodes[i].Prog[k].Op < 1 ∨ ((codesL.length : Nat) : Int) < g.Nodes[i].Prog[k].Op := by
      unfold insOK at hop
      have : (codesL.length : Int) = 16 := rfl
      omega
     refine Ok.bind (Ok.of_eq (name_bad hbad) (Ok.bind (Ok.of_eq (textNum_eq hNk) ?_)))
     refine Ok.bind (StS.sayBad hI2 hlen2 (ws := [[105, 110, 115], [], itoa g.Nodes[i].Prog[k].N]) (vs := insL g.Nodes[i].Prog[k]) (by simp) (by simp) ?_ fun r2 hr2' => ?_)
     ·
      intro w hw
      simp only [List.mem_cons, List.not_mem_nil, or_false] at hw
      rcases hw with rfl | rfl | rfl
      · decide
      · decide
      · exact itoa64 hNk
     rw [wrap_succ (by omega)]
     refine hr2 (r2.2, r2.1) ((hr2'.of_eq ?_).iff ?_)
     · rw [getT hk, List.append_assoc]
     ·
      rw [allT hk]
      exact ⟨fun h => h.elim, fun h => hop h.2.2⟩
   ·
    rw [List.take_length] at hI2
    obtain ⟨b2, buf2⟩ := t
    unfold f_text_Show_B7
    simp only
    rw [if_neg (by simp), wrap_succ (by omega)]
    refine hr (b2, buf2) ((hI2.of_eq ?_).iff ?_)
    ·
     rw [flatMap_take hi]
     simp only [nodeLs, List.append_assoc, List.cons_append, List.nil_append]
    ·
     rw [allT hi]
     unfold nodeOK
     exact and_assoc
  by_cases hk : 1 ≤ g.Nodes[i].Kind ∧ g.Nodes[i].Kind ≤ 15
  ·
   refine Ok.bind (Ok.of_eq (name_ok hk.1 hk.2 (by decide)) (Ok.bind (Ok.of_eq (itoaF_eq (low_In hli.2.1)) (Ok.bind (Ok.of_eq (textNum_eq (ha _ hm).1) ?_)))))
   have hw : ∀ w ∈ nodeL g.Nodes[i], w.length ≤ 64 := by
    intro w hw
    simp only [nodeL, List.mem_cons, List.not_mem_nil, or_false] at hw
    rcases hw with rfl | rfl | rfl | rfl
    · decide
    · exact (kindsL_ok _ (nmOf_mem hk.1 hk.2)).1
    · exact itoa64 (low_In hli.2.1)
    · exact itoa64 (ha _ hm).1
   refine Ok.bind (StS.say hI (by omega) (ws := nodeL g.Nodes[i]) (by simp [nodeL]) (by simp [nodeL]) hw fun r hr' => prog r (hr'.iff ⟨fun h => ⟨h, hk⟩, fun h => h.1⟩))
  ·
   have hbad : g.Nodes[i].Kind < 1 ∨ ((kindsL.length : Nat) : Int) < g.Nodes[i].Kind := by
    have : (kindsL.length : Int) = 15 := rfl
    omega
   refine Ok.bind (Ok.of_eq (name_bad hbad) (Ok.bind (Ok.of_eq (itoaF_eq (low_In hli.2.1)) (Ok.bind (Ok.of_eq (textNum_eq (ha _ hm).1) ?_)))))
   refine Ok.bind (StS.sayBad hI (by omega) (ws := [[110, 111, 100, 101], [], itoa g.Nodes[i].Scope, itoa g.Nodes[i].Arg]) (vs := nodeL g.Nodes[i]) (by simp) (by simp) ?_ fun r hr' => prog r (hr'.iff ⟨fun h => h.elim, fun h => hk h.2⟩))
   intro w hw
   simp only [List.mem_cons, List.not_mem_nil, or_false] at hw
   rcases hw with rfl | rfl | rfl | rfl
   · decide
   · decide
   · exact itoa64 (low_In hli.2.1)
   · exact itoa64 (ha _ hm).1
 ·
  rw [List.take_length] at hI
  have hlen := hLen g.Nodes.length (Nat.le_refl _)
  rw [List.take_length] at hlen
  unfold f_text_Show_B6
  simp only
  rw [if_neg (by simp)]
  exact J2_ok23 hf0 hI (by simp only [List.length_append]; omega)
end
end Go.Proofs.YtocnabkanbifdaaGreatDoor
