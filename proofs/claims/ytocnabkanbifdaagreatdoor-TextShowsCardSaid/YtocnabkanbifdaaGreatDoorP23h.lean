/-
  The law in plain words: what its plain function gives is true. No condition beyond those that each theorem names.
-/
import Derived.Test.YtocnabkanbifdaaGreatDoorWalkTS1
import Derived.Test.YtocnabkanbifdaaGreatDoorP23g
set_option linter.unusedSimpArgs false
set_option linter.unusedVariables false
set_option linter.unusedSectionVars false
namespace Go.Proofs.YtocnabkanbifdaaGreatDoor
open Go Go.RowKit Go.Lib
set_option maxRecDepth 100000
set_option linter.unusedVariables false
set_option linter.unusedSectionVars false
/-! A graph shown: the document's nodes and scopes. -/
theorem nmIdx {l : List (List UInt8)} {n : Int} (h1 : 1 ≤ n) (h2 : n ≤ l.length) (hl : l.length ≤ 100) {Q : GStr → Prop} (h : Q ⟨nmOf l n⟩) : Ok (idx (l.map GStr.mk) (IntKind.i64.wrap (n - 1))) Q := by
 have e : IntKind.i64.wrap (n - 1) = ((n.toNat - 1 : Nat) : Int) := by rw [wrap_i64 _ (by omega)]; omega
 rw [e]
 refine Ok.idxN (by simp; omega) ?_
 unfold nmOf at h
 rw [List.getD_eq_getElem?_getD, List.getElem?_eq_getElem (by omega)] at h
 simpa using h
section
variable {g : GGraph} (hf : fitsG g) (ha : argsIn g)
include hf ha
theorem refJ1_ok23 {ls : List (List (List UInt8))} {s : List UInt8} (h : StD ls s) (hl : ls.length ≤ 10) : Ok (f_backwashref23_Show_J1 g s) (sayR (∀ x ∈ g.Nodes, nodeOK x) (ls ++ g.Nodes.flatMap nodeLs ++ g.Edges.map edgeL)) := by
 have hf0 := hf
 have hLen := fun i hi => nodeLs_len (i := i) hf ha hi
 obtain ⟨_, hN, _, hNl, _⟩ := hf
 unfold f_backwashref23_Show_J1
 refine Ok.loop0 (fun q => ∃ i : Nat, q.2 = (i : Int) ∧ i ≤ g.Nodes.length ∧ StD (ls ++ (g.Nodes.take i).flatMap nodeLs) q.1 ∧ ∀ x ∈ g.Nodes.take i, nodeOK x) (fun q => g.Nodes.length - q.2.toNat) ?_ ⟨0, rfl, Nat.zero_le _, by simpa using h, by simp⟩ (by simp only [rounds]; omega)
 rintro rec ⟨s, t⟩ ⟨i, rfl, hi, hI, hok⟩ hr
 unfold f_backwashref23_Show_B4
 simp only at hI ⊢
 rcases Nat.lt_or_ge i g.Nodes.length with hlt | hge
 ·
  rw [if_pos (by simp only [decide_eq_true_eq]; omega)]
  have hm := List.getElem_mem hlt
  have hli := hNl _ hm
  have hp := hli.2.2.1
  have hlen : (ls ++ (g.Nodes.take i).flatMap nodeLs).length ≤ 2200 := by
   have := hLen i (by omega)
   simp only [List.length_append]; omega
  have hs := hI.len
  have i1 := low_In hli.2.1
  have i2 := (ha _ hm).1
  have l1 := itoa64 i1
  have l2 := itoa64 i2
  refine Ok.bind (Ok.idxN hlt (Ok.iteB (fun hc => Ok.some ⟨fun ho => ?_, fun _ => rfl⟩) (fun hc => ?_)))
  ·
   have := (ho _ hm).1
   simp only [Bool.or_eq_true, decide_eq_true_eq] at hc
   omega
  simp only [Bool.or_eq_false_iff, decide_eq_false_iff_not] at hc
  have hk : 1 ≤ g.Nodes[i].Kind ∧ g.Nodes[i].Kind ≤ 15 := by omega
  refine Ok.bind (Ok.of_eq refKinds_eq (Ok.bind (nmIdx (l := kindsL) hk.1 hk.2 (by decide) ?_)))
  have l3 := (kindsL_ok _ (nmOf_mem (l := kindsL) hk.1 hk.2)).1
  simp only
  refine Ok.guard (by simp only [List.length_cons, List.length_nil]; omega) (Ok.guard (by simp only [List.length_append, List.length_cons, List.length_nil]; omega) (Ok.bind (Ok.of_eq (num23_eq i1) ?_)))
  refine Ok.guard (by simp only [List.length_append, List.length_cons, List.length_nil]; omega) (Ok.guard (by simp only [List.length_append, List.length_cons, List.length_nil]; omega) (Ok.bind (Ok.of_eq (num23_eq i2) ?_)))
  refine Ok.guard (by simp only [List.length_append, List.length_cons, List.length_nil]; omega) (Ok.guard (by simp only [List.length_append, List.length_cons, List.length_nil]; omega) (Ok.guard (by simp only [List.length_append, List.length_cons, List.length_nil]; omega) ?_))
  have hw : ∀ w ∈ nodeL g.Nodes[i], w.length ≤ 64 := by
   intro w hw
   simp only [nodeL, List.mem_cons, List.not_mem_nil, or_false] at hw
   rcases hw with rfl | rfl | rfl | rfl
   · decide
   · exact l3
   · exact l1
   · exact l2
  have hI1 := hI.add (ws := nodeL g.Nodes[i]) (t := s ++ ((((((([110, 111, 100, 101, 32] : List UInt8) ++ nmOf kindsL g.Nodes[i].Kind) ++ ([32] : List UInt8)) ++ itoa g.Nodes[i].Scope) ++ ([32] : List UInt8)) ++ itoa g.Nodes[i].Arg) ++ ([10] : List UInt8))) (by simp [nodeL]) hw (by simp [nodeL, lineW, joinW])
  refine Ok.loop0 (fun q => ∃ k : Nat, q.2 = (k : Int) ∧ k ≤ g.Nodes[i].Prog.length ∧ StD (ls ++ (g.Nodes.take i).flatMap nodeLs ++ [nodeL g.Nodes[i]] ++ (g.Nodes[i].Prog.take k).map insL) q.1 ∧ ∀ y ∈ g.Nodes[i].Prog.take k, insOK y) (fun q => g.Nodes[i].Prog.length - q.2.toNat) ?_ ⟨0, rfl, Nat.zero_le _, by simpa using hI1, by simp⟩ (by simp only [rounds]; omega)
  rintro rec2 ⟨s2, t2⟩ ⟨k, rfl, hk2, hI2, hok2⟩ hr2
  unfold f_backwashref23_Show_B5
  simp only at hI2 ⊢
  rcases Nat.lt_or_ge k g.Nodes[i].Prog.length with hlt2 | hge2
  ·
   rw [if_pos (by simp only [decide_eq_true_eq]; omega)]
   have hmk := List.getElem_mem hlt2
   have hNk := (ha _ hm).2 _ hmk
   have l4 := itoa64 hNk
   have hs2 := hI2.len
   simp only [List.length_append, List.length_cons, List.length_nil, List.length_map, List.length_take] at hs2 hlen
   refine Ok.bind (Ok.idxN hlt2 (Ok.iteB (fun hc => Ok.some ⟨fun ho => ?_, fun _ => rfl⟩) (fun hc1 => Ok.iteB (fun hc => Ok.some ⟨fun ho => ?_, fun _ => rfl⟩) (fun hc2 => ?_))))
   ·
    have := (ho _ hm).2 _ hmk
    unfold insOK at this
    simp only [decide_eq_true_eq] at hc
    omega
   ·
    have := (ho _ hm).2 _ hmk
    unfold insOK at this
    simp only [decide_eq_true_eq] at hc
    omega
   simp only [decide_eq_false_iff_not] at hc1 hc2
   have hop : insOK g.Nodes[i].Prog[k] := ⟨by omega, by omega⟩
   refine Ok.bind (Ok.of_eq refCodes_eq (Ok.bind (nmIdx (l := codesL) hop.1 hop.2 (by decide) ?_)))
   have l5 := (codesL_ok _ (nmOf_mem (l := codesL) hop.1 hop.2)).1
   simp only
   refine Ok.guard (by simp only [List.length_cons, List.length_nil]; omega) (Ok.guard (by simp only [List.length_append, List.length_cons, List.length_nil]; omega) (Ok.bind (Ok.of_eq (num23_eq hNk) ?_)))
   refine Ok.guard (by simp only [List.length_append, List.length_cons, List.length_nil]; omega) (Ok.guard (by simp only [List.length_append, List.length_cons, List.length_nil]; omega) (Ok.guard (by simp only [List.length_append, List.length_cons, List.length_nil]; omega) ?_))
   have hw2 : ∀ w ∈ insL g.Nodes[i].Prog[k], w.length ≤ 64 := by
    intro w hw
    simp only [insL, List.mem_cons, List.not_mem_nil, or_false] at hw
    rcases hw with rfl | rfl | rfl
    · decide
    · exact l5
    · exact l4
   refine hr2 _ ⟨k + 1, wrap_succ (by omega), by omega, (hI2.add (ws := insL g.Nodes[i].Prog[k]) (by simp [insL]) hw2 (by simp [insL, lineW, joinW])).of_eq ?_, ?_⟩ ?_
   · rw [getT hlt2, List.append_assoc]
   · exact (allT hlt2).2 ⟨hok2, hop⟩
   ·
    show g.Nodes[i].Prog.length - (IntKind.i64.wrap ((k : Int) + 1)).toNat < _
    rw [wrap_succ (by omega)]; simp only [Int.toNat_natCast]; omega
  ·
   obtain rfl : k = g.Nodes[i].Prog.length := by omega
   rw [List.take_length] at hI2 hok2
   rw [if_neg (by simp)]
   refine hr _ ⟨i + 1, wrap_succ (by omega), by omega, hI2.of_eq ?_, ?_⟩ ?_
   ·
    rw [flatMap_take hlt]
    simp only [nodeLs, List.append_assoc, List.cons_append, List.nil_append]
   · exact (allT hlt).2 ⟨hok, hk, hok2⟩
   ·
    show g.Nodes.length - (IntKind.i64.wrap ((i : Int) + 1)).toNat < _
    rw [wrap_succ (by omega)]; simp only [Int.toNat_natCast]; omega
 ·
  obtain rfl : i = g.Nodes.length := by omega
  have hlen := hLen g.Nodes.length (Nat.le_refl _)
  rw [List.take_length] at hI hok hlen
  rw [if_neg (by simp)]
  refine (refJ2_ok23 hf0 hI (by simp only [List.length_append]; omega)).mono fun r hr => ⟨fun _ => hr, fun hn => absurd hok hn⟩
end
theorem refShow_ok (g : GGraph) (ha : argsIn g) : Ok (f_backwashref23_Show g) (sayR (showOK g) (linesG g)) := by
 unfold f_backwashref23_Show
 refine Ok.bind2 (refFits_ok g) fun v hv => Ok.iteB (fun hc => Ok.some ⟨fun ho => ?_, fun _ => rfl⟩) (fun hc => ?_)
 · rw [hv.2 ho.1] at hc; simp at hc
 have hf : fitsG g := hv.1 (by simpa using hc)
 have hf0 := hf
 obtain ⟨⟨ps, bs, hP, hB, hl, hl7, hps, hbs⟩, _⟩ := hf
 refine Ok.mono (P := sayR (∀ x ∈ g.Nodes, nodeOK x) (linesG g)) ?_ fun r hr => ⟨fun h => hr.1 h.2, fun h => hr.2 fun hx => h ⟨hf0, hx⟩⟩
 have hPl : g.Parent.length = ps.length + 1 := by rw [hP]; rfl
 have hBl : g.Bound.length = bs.length + 1 := by rw [hB]; rfl
 have hz : (ps.zip bs).length = ps.length := by rw [List.length_zip]; omega
 have hln : linesG g = (ps.zip bs).map (fun p => scopeL p.1 p.2) ++ g.Nodes.flatMap nodeLs ++ g.Edges.map edgeL := by
  unfold linesG
  rw [hP, hB]; rfl
 rw [hln]
 refine Ok.loop0 (fun q => ∃ i : Nat, q.2 = ((i + 1 : Nat) : Int) ∧ i ≤ (ps.zip bs).length ∧ StD (((ps.zip bs).take i).map (fun p => scopeL p.1 p.2)) q.1) (fun q => g.Parent.length - q.2.toNat) ?_ ⟨0, rfl, Nat.zero_le _, ⟨by simp, by simp [bodyL]⟩⟩ (by simp only [rounds]; omega)
 rintro rec ⟨s, t⟩ ⟨i, rfl, hi, hI⟩ hr
 unfold f_backwashref23_Show_B6
 simp only at hI ⊢
 rcases Nat.lt_or_ge i (ps.zip bs).length with hlt | hge
 ·
  rw [if_pos (by simp only [decide_eq_true_eq]; omega)]
  have e1 : g.Parent[i + 1]'(by omega) = ps[i]'(by omega) := by simp only [hP, List.getElem_cons_succ]
  have e2 : g.Bound[i + 1]'(by omega) = bs[i]'(by omega) := by simp only [hB, List.getElem_cons_succ]
  refine Ok.bind (Ok.idxN (show i + 1 < g.Parent.length by omega) ?_)
  rw [e1]
  have i1 := low_In (hps _ (List.getElem_mem (show i < ps.length by omega)))
  have i2 := low_In (hbs _ (List.getElem_mem (show i < bs.length by omega)))
  have l1 := itoa64 i1
  have l2 := itoa64 i2
  have hs := hI.len
  simp only [List.length_map, List.length_take] at hs
  refine Ok.bind (Ok.of_eq (num23_eq i1) (Ok.guard (by simp only [List.length_cons, List.length_nil]; omega) (Ok.guard (by simp only [List.length_append, List.length_cons, List.length_nil]; omega) (Ok.bind (Ok.idxN (show i + 1 < g.Bound.length by omega) ?_)))))
  rw [e2]
  refine Ok.bind (Ok.of_eq (num23_eq i2) (Ok.guard (by simp only [List.length_append, List.length_cons, List.length_nil]; omega) (Ok.guard (by simp only [List.length_append, List.length_cons, List.length_nil]; omega) (Ok.guard (by simp only [List.length_append, List.length_cons, List.length_nil]; omega) ?_))))
  have hw : ∀ w ∈ scopeL ps[i] bs[i], w.length ≤ 64 := by
   intro w hw
   simp only [scopeL, List.mem_cons, List.not_mem_nil, or_false] at hw
   rcases hw with rfl | rfl | rfl
   · decide
   · exact l1
   · exact l2
  refine hr _ ⟨i + 1, wrap_succ (by omega), by omega, (hI.add (ws := scopeL ps[i] bs[i]) (by simp [scopeL]) hw (by simp [scopeL, lineW, joinW])).of_eq ?_⟩ ?_
  · rw [getT hlt, List.getElem_zip]
  ·
   show g.Parent.length - (IntKind.i64.wrap (((i + 1 : Nat) : Int) + 1)).toNat < _
   rw [wrap_succ (by omega)]; simp only [Int.toNat_natCast]; omega
 ·
  obtain rfl : i = (ps.zip bs).length := by omega
  rw [List.take_length] at hI
  rw [if_neg (by simp; omega)]
  exact refJ1_ok23 hf0 ha hI (by simp only [List.length_map]; omega)
end Go.Proofs.YtocnabkanbifdaaGreatDoor
