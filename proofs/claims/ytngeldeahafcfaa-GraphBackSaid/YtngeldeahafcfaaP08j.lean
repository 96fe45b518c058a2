/-
  The law in plain words: what its plain function gives is true. No condition beyond those that each theorem names.
-/
import Derived.Test.YtngeldeahafcfaaP08i
import Derived.Test.YtngeldeahafcfaaWalk1
set_option linter.unusedSimpArgs false
set_option linter.unusedVariables false
namespace Go.Proofs.Ytngeldeahafcfaa
open Go Go.RowKit
set_option linter.unusedSimpArgs false
set_option linter.unusedVariables false
theorem same06_ok (a b : List UInt8) (ha : a.length < 9223372036854775808) : Ok (f_backwashref06_Same a b) (fun r => r = true ↔ a = b) := by
  unfold f_backwashref06_Same
  refine Ok.iteB (fun hc => Ok.some ?_) (fun hc => ?_)
  · simp at hc
    exact iff_of_false (by simp) fun h : a = b => by have := congrArg List.length h; omega
  · simp at hc
    refine cmp_loop (T := fun x y k => if (!(((UInt8.toNat x : Nat) : Int) == ((UInt8.toNat y : Nat) : Int))) = true then some false else k) (F := false) (K := some true) (by omega) ha (fun rec i => rfl) (fun x _ y _ k h1 h2 => ?_) (fun h => Ok.some (by simp [h])) (fun h => by simp [h])
    refine Ok.iteB (fun hc => Ok.some (h2 ?_)) (fun hc => h1 ?_)
    · intro e; subst e; simp at hc
    · simp at hc; exact UInt8.toNat_inj.1 (by omega)
theorem Short_ok (g : GGraph) : Ok (f_backwashref08_Short g) (fun r => True) := by
  unfold f_backwashref08_Short
  refine Ok.iteB (fun hc => Ok.some trivial) (fun hc => ?_)
  simp at hc
  refine Ok.each1 (l := g.Nodes) (by omega) (fun _ => True) 0 (fun rec i hi _ _ hr => ?_) (fun rec _ => ?_) trivial (by omega)
  · unfold f_backwashref08_Short_B1
    rw [if_pos (by simp only [decide_eq_true_eq]; omega)]
    refine Ok.bind (Ok.idxN hi (Ok.iteB (fun _ => Ok.some trivial) (fun _ => ?_)))
    rw [wrap_succ (by omega)]
    exact hr trivial
  · unfold f_backwashref08_Short_B1
    rw [if_neg (by simp)]
    exact Ok.some trivial
theorem eqInts_ok (a b : List Int) (ha : a.length < 9223372036854775808) : Ok (f_slices_Equal_int a b) (fun r => r = true ↔ a = b) := ints_ok a b ha
theorem eqIns_ok (a b : List GIns) (ha : a.length < 9223372036854775808) : Ok (f_slices_Equal_Ins a b) (fun r => r = true ↔ a = b) := same07_ok a b ha
theorem eqEdge_ok (a b : List GEdge) (ha : a.length < 9223372036854775808) : Ok (f_slices_Equal_Edge a b) (fun r => r = true ↔ a = b) := by
  unfold f_slices_Equal_Edge
  refine Ok.iteB (fun hc => Ok.some ?_) (fun hc => ?_)
  · simp at hc
    exact iff_of_false (by simp) fun h : a = b => by have := congrArg List.length h; omega
  · simp at hc
    refine cmp_loop (T := fun x y k => if (!((x.From == y.From) && ((x.To == y.To) && ((x.Port == y.Port) && (x.Exchange == y.Exchange))))) = true then some false else k) (F := false) (K := some true) (by omega) ha (fun rec i => rfl)
      (fun x _ y _ k h1 h2 => ?_) (fun h => Ok.some (by simp [h])) (fun h => by simp [h])
    obtain ⟨x1, x2, x3, x4⟩ := x
    obtain ⟨y1, y2, y3, y4⟩ := y
    refine Ok.iteB (fun hc => Ok.some (h2 ?_)) (fun hc => h1 ?_)
    · intro e; cases e; simp at hc
    · simp at hc; obtain ⟨rfl, rfl, rfl, rfl⟩ := hc; rfl
theorem Same_ok (a b : GGraph) (ha : lenG a) : Ok (f_graph_Same a b) (fun r => r = true ↔ a = b) := by
  obtain ⟨a1, a2, a3, a4⟩ := a
  obtain ⟨b1, b2, b3, b4⟩ := b
  obtain ⟨l1, l2, l3, l4, l5⟩ := ha
  simp only at l1 l2 l3 l4 l5
  unfold f_graph_Same
  simp only [GGraph.mk.injEq]
  have hn : Ok (f_slices_EqualFunc_Node a3 b3 fun x0_ x1_ => f_graph_Same_1 x0_ x1_) (fun r => r = true ↔ a3 = b3) := by
    unfold f_slices_EqualFunc_Node
    refine Ok.iteB (fun hc => Ok.some ?_) (fun hc => ?_)
    · simp at hc
      exact iff_of_false (by simp) fun h : a3 = b3 => by have := congrArg List.length h; omega
    · simp at hc
      refine cmp_loop (T := fun x y k => bindO (f_graph_Same_1 x y) fun v => if (!v) = true then some false else k) (F := false) (K := some true) (by omega) l3 (fun rec i => rfl) (fun x hx y _ k h1 h2 => ?_) (fun h => Ok.some (by simp [h])) (fun h => by simp [h])
      have hq : Ok (f_graph_Same_1 x y) (fun r => r = true ↔ x = y) := by
        obtain ⟨x1, x2, x3, x4⟩ := x
        obtain ⟨y1, y2, y3, y4⟩ := y
        unfold f_graph_Same_1
        simp only [GNode.mk.injEq]
        refine Ok.iteB (fun hc => ?_) (fun hc => Ok.some (iff_of_false (by simp) ?_))
        · simp at hc
          obtain ⟨⟨rfl, rfl⟩, rfl⟩ := hc
          refine Ok.bind2 (eqIns_ok x4 y4 (l5 _ hx)) fun v hv => Ok.some ?_
          simp [hv]
        · rintro ⟨rfl, rfl, rfl, _⟩
          simp at hc
      refine Ok.bind2 hq fun v hv => Ok.iteB (fun hc => Ok.some (h2 ?_)) (fun hc => h1 (hv.1 (by simpa using hc)))
      intro e
      rw [hv.2 e] at hc; cases hc
  refine Ok.bind2 hn fun v1 h1 => Ok.iteB (fun hc1 => ?_) (fun hc1 => Ok.some (iff_of_false (by simp) ?_))
  · refine Ok.bind2 (eqInts_ok a1 b1 l1) fun v2 h2 => Ok.iteB (fun hc2 => ?_) (fun hc2 => Ok.some (iff_of_false (by simp) ?_))
    · refine Ok.bind2 (eqInts_ok a2 b2 l2) fun v3 h3 => Ok.iteB (fun hc3 => ?_) (fun hc3 => Ok.some (iff_of_false (by simp) ?_))
      · refine Ok.bind2 (eqEdge_ok a4 b4 l4) fun v4 h4 => Ok.some ?_
        rw [h4]
        simp [h1.1 hc1, h2.1 hc2, h3.1 hc3]
      · rintro ⟨_, e, _⟩; rw [h3.2 e] at hc3; cases hc3
    · rintro ⟨e, _⟩; rw [h2.2 e] at hc2; cases hc2
  · rintro ⟨_, _, e, _⟩; rw [h1.2 e] at hc1; cases hc1
theorem Read_big (b : List UInt8) (hb : 8192 < b.length) : f_graph_Read b = some (noG, 11) := by
  unfold f_graph_Read f_graph_begins
  rw [if_pos (by simp; omega)]
  rfl
theorem ok_len {g : GGraph} (h : Dat.ok g) : lenG g := by
  obtain ⟨h1, h2, h3, h4⟩ := h
  have hm : maxLen = 9223372036854775807 := rfl
  refine ⟨?_, ?_, ?_, ?_, fun x hx => ?_⟩
  · have := h1.1; omega
  · have := h2.1; omega
  · have := h3.1; omega
  · have := h4.1; omega
  · have := (h3.2 x hx).2.2.2.1; omega
theorem ok_args {g : GGraph} (h : Dat.ok g) : argsIn g := by
  obtain ⟨h1, h2, h3, h4⟩ := h
  intro x hx
  obtain ⟨_, _, ha, hp⟩ := h3.2 x hx
  exact ⟨inI_i64 ha, fun i hi => inI_i64 (hp.2 i hi).2⟩
theorem putG_len {g : GGraph} (hf : fitsG g) (ha : argsIn g) : (putG g).length ≤ 60000 := by
  obtain ⟨⟨ps, bs, hP, hB, hl, hl7, hps, hbs⟩, h8, h9, hN, hE⟩ := hf
  have e1 := flatMap_len (f := nodeB) (M := 1320) fun x hx => nodeB_len (hN x hx) (ha x hx)
  have e2 := flatMap_len (f := edgeB) (M := 40) fun x hx => edgeB_len (hE x hx)
  have e3 := flatMap_len (f := scopeB) (M := 20) (l := ps.zip bs) fun p hp => scopeB_len (hps _ (List.of_mem_zip hp).1) (hbs _ (List.of_mem_zip hp).2)
  have hz : (ps.zip bs).length = ps.length := by rw [List.length_zip]; omega
  have p1 := putU_len g.Parent.length (by rw [hP]; simp; omega)
  have p2 := putU_len g.Nodes.length (by omega)
  have p3 := putU_len g.Edges.length (by omega)
  simp only [putG, graphB, hP, hB, List.tail_cons, List.length_append, List.length_cons, List.length_nil] at *
  omega
theorem GraphPuts_holds (a b : GGraph) (oa : Dat.ok a) (ob : Dat.ok b) : f_backwashlaw08_GraphPuts a b = some true := by
  refine Ok.eq ?_
  unfold f_backwashlaw08_GraphPuts
  refine Ok.bind (Ok.of_eq awake08 (Ok.iteB (fun h => by cases h) (fun _ => ?_)))
  refine Ok.bind2 (Short_ok a) fun v _ => Ok.iteB (fun _ => ?_) (fun _ => Ok.some rfl)
  refine Ok.bind2 (Short_ok b) fun v _ => Ok.iteB (fun _ => Ok.some rfl) (fun _ => ?_)
  refine Ok.bind2 (Put_ok a (ok_args oa)) fun x hx => Ok.bind2 (refPut_ok a (ok_args oa)) fun y hy => ?_
  have hxy : x = y ∧ x.1.length ≤ 60000 := by
    by_cases hf : fitsG a
    · rw [hx.1 hf, hy.1 hf]; exact ⟨rfl, putG_len hf (ok_args oa)⟩
    · rw [hx.2 hf, hy.2 hf]; exact ⟨rfl, by simp⟩
  obtain ⟨rfl, hl⟩ := hxy
  refine Ok.bind2 (same06_ok x.1 x.1 (by omega)) fun v hv => Ok.iteB (fun _ => ?_) (fun hc => ?_)
  · refine Ok.bind2 (Same_ok a b (ok_len oa)) fun v hv => Ok.bind2 (Same08_ok a b (ok_len oa)) fun u hu => Ok.some ?_
    have : v = u := by
      rw [Bool.eq_iff_iff, hv, hu]
    simp [this]
  · rw [hv.2 rfl] at hc; simp at hc
theorem back_J1 (g : GGraph) (og : Dat.ok g) : Ok (f_backwashlaw08_GraphBack_J1 g) (fun r => r = true) := by
  have ha := ok_args og
  unfold f_backwashlaw08_GraphBack_J1
  refine Ok.bind2 (Short_ok g) fun v _ => Ok.iteB (fun _ => Ok.some rfl) (fun _ => ?_)
  refine Ok.bind2 (Put_ok g ha) fun x hx => ?_
  by_cases hf : fitsG g
  · rw [hx.1 hf]
    have hl := putG_len hf ha
    rw [if_neg (by simp)]
    rcases Nat.lt_or_ge 8192 (putG g).length with h8 | h8
    · rw [Read_big _ h8]
      refine Ok.bind (Ok.some ?_)
      rw [if_pos (by simp; omega)]
      exact Ok.some rfl
    · rw [Read_eq (putG g) (by omega), readG_put hf ha h8]
      refine Ok.bind (Ok.some ?_)
      rw [if_neg (by simp; omega), if_pos (by simp)]
      refine Ok.bind2 (Same08_ok g g (ok_len og)) fun v hv => Ok.some (hv.2 rfl)
  · rw [hx.2 hf]
    exact Ok.some rfl
theorem GraphBack_holds (g : GGraph) (b : List UInt8) (og : Dat.ok g) (hb : Dat.ok b) : f_backwashlaw08_GraphBack g b = some true := by
  have hlen : b.length ≤ maxLen := hb.1
  have hmax : maxLen = 9223372036854775807 := rfl
  refine Ok.eq ?_
  unfold f_backwashlaw08_GraphBack
  refine Ok.bind (Ok.of_eq awake08 (Ok.iteB (fun h => by cases h) (fun _ => Ok.guard (by omega) ?_)))
  generalize hB : List.take (Int.toNat (min (List.length b : Int) 9000)) b = B
  have hl : B.length ≤ 9000 := by rw [← hB, List.length_take]; omega
  rw [Read_eq B hl]
  refine Ok.bind (Ok.some (Ok.iteB (fun hc => ?_) (fun _ => back_J1 g og)))
  obtain ⟨e, hf, ha⟩ := readG_zero (b := B) (g := (readG B).1) (Prod.ext rfl (by simpa using hc))
  refine Ok.bind2 (Put_ok _ ha) fun x hx => ?_
  rw [hx.1 hf, if_pos (by simp)]
  refine Ok.bind2 (same06_ok (putG (readG B).1) B (by have := putG_len hf ha; omega)) fun v hv => Ok.iteB (fun hc => ?_) (fun _ => back_J1 g og)
  rw [hv.2 e.symm] at hc; cases hc
theorem GraphCut_holds (g : GGraph) (at_ more : Int) (og : Dat.ok g) (h1 : inI .i64 at_) (h2 : inI .u8 more) : f_backwashlaw08_GraphCut g at_ more = some true := by
  have hmore := inI_u8 h2
  have ha := ok_args og
  refine Ok.eq ?_
  unfold f_backwashlaw08_GraphCut
  refine Ok.bind (Ok.of_eq awake08 (Ok.iteB (fun h => by cases h) (fun _ => ?_)))
  refine Ok.bind2 (Short_ok g) fun v _ => Ok.iteB (fun _ => Ok.some rfl) (fun _ => ?_)
  refine Ok.bind2 (Put_ok g ha) fun x hx => Ok.iteB (fun _ => Ok.some rfl) (fun hc => ?_)
  by_cases hf : fitsG g
  · rw [hx.1 hf] at hc ⊢
    simp at hc
    obtain ⟨⟨h8, h0⟩, hlt⟩ := hc
    simp only
    refine Ok.guard (by omega) ?_
    rw [Read_eq _ (by rw [List.length_take]; omega), readG_cut hf ha (by omega) (by omega)]
    refine Ok.bind (Ok.some (Ok.guard (by simp; omega) (Ok.guard hmore (Ok.guard (by simp; omega) ?_))))
    rw [List.nil_append, Read_eq _ (by rw [List.length_append]; simp; omega), readG_more hf ha (by omega)]
    exact Ok.some rfl
  · rw [hx.2 hf] at hc
    simp at hc
end Go.Proofs.Ytngeldeahafcfaa

