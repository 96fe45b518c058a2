/-
  What functions of the program compute, each told as a plain function that may give nothing, with the proof that the code does so. No condition beyond those that each theorem names.
-/
import Derived.Test.YtbcbcdbkdljjlaaWalkFS0
import Derived.Test.YtbcbcdbkdljjlaaWalkFS1
set_option linter.unusedSimpArgs false
set_option linter.unusedVariables false
set_option linter.unusedSectionVars false
set_option maxHeartbeats 2000000
set_option maxRecDepth 100000
namespace Go.Proofs.Ytbcbcdbkdljjlaa
open Go Go.RowKit
def f_backwashref24_step_J4 (g_0 : GGraph) (s_0 : GBackwashref24_state) (nv_3 : Int) (rec_3 : (Int → Option (GBackwashref24_state × Bool))) (a_18 : List GEdge) : Option (GBackwashref24_state × Bool) :=
 bindO (f_backwashref24_runs g_0 (⟨a_18, (List.set (([] : List Bool) ++ s_0.gone) (Int.toNat nv_3) true)⟩ : GBackwashref24_state)) (fun (v_11 : Bool) =>
 (if v_11 = true then some ((⟨a_18, (List.set (([] : List Bool) ++ s_0.gone) (Int.toNat nv_3) true)⟩ : GBackwashref24_state), true)
 else rec_3 (IntKind.i64.wrap (nv_3 + 1))))
def f_backwashref24_step_J6 (nv_3 : Int) (i_13 : Int) (a_20 : List GEdge) (rec_5 : (Int × (List GEdge) → Option (GBackwashref24_state × Bool))) (b_17 : GEdge) : Option (GBackwashref24_state × Bool) :=
 (if (!(b_17.To == nv_3)) = true then guardO ((List.length a_20 + List.length ([b_17] : List GEdge)) * 32 ≤ 140737488355328) (
 rec_5 (IntKind.i64.wrap (i_13 + 1), (a_20 ++ ([b_17] : List GEdge))))
 else rec_5 (IntKind.i64.wrap (i_13 + 1), a_20))
def f_backwashref24_step_B5 (g_0 : GGraph) (s_0 : GBackwashref24_state) (nv_3 : Int) (rec_3 : (Int → Option (GBackwashref24_state × Bool))) (xv_37 : GEdge) (rec_5 : Int × (List GEdge) → Option (GBackwashref24_state × Bool)) : Int × (List GEdge) → Option (GBackwashref24_state × Bool) :=
 fun (i_13, a_20) =>
 (if (decide (i_13 < (List.length s_0.edges : Int))) = true then bindO (idx s_0.edges i_13) (fun (xv_44 : GEdge) =>
 (if (xv_44.From == nv_3) = true then f_backwashref24_step_J6 nv_3 i_13 a_20 rec_5 (⟨xv_37.From, xv_44.To, xv_44.Port, xv_44.Exchange || xv_37.Exchange⟩ : GEdge)
 else f_backwashref24_step_J6 nv_3 i_13 a_20 rec_5 xv_44))
 else f_backwashref24_step_J4 g_0 s_0 nv_3 rec_3 a_20)
def f_backwashref24_step_B3 (g_0 : GGraph) (s_0 : GBackwashref24_state) (rec_3 : Int → Option (GBackwashref24_state × Bool)) : Int → Option (GBackwashref24_state × Bool) :=
 fun nv_3 =>
 (if (decide (nv_3 < (List.length g_0.Nodes : Int))) = true then bindO (idx s_0.gone nv_3) (fun (xv_36 : Bool) =>
 (if xv_36 = true then rec_3 (IntKind.i64.wrap (nv_3 + 1))
 else bindO (f_backwashref24_Nothing g_0 s_0.edges nv_3) (fun (v_9 : Bool) =>
 (if (!v_9) = true then rec_3 (IntKind.i64.wrap (nv_3 + 1))
 else bindO (f_backwashref24_from s_0.edges nv_3) (fun (v_10 : Int) =>
 bindO (idx s_0.edges v_10) (fun (xv_37 : GEdge) =>
 guardO ((List.length ([] : List Bool) + List.length s_0.gone) * 1 ≤ 140737488355328) (
 bindO (idx (([] : List Bool) ++ s_0.gone) nv_3) (fun (xv_38 : Bool) =>
 loopK (f_backwashref24_step_B5 g_0 s_0 nv_3 rec_3 xv_37) rounds (0, [])))))))))
 else some (s_0, false))
def f_backwashref24_step_J8 (g_0 : GGraph) (s_0 : GBackwashref24_state) (nv_5 : Int) (rec_7 : (Int → Option (GBackwashref24_state × Bool))) (a_33 : List GEdge) : Option (GBackwashref24_state × Bool) :=
 bindO (f_backwashref24_runs g_0 (⟨a_33, (List.set (([] : List Bool) ++ s_0.gone) (Int.toNat nv_5) true)⟩ : GBackwashref24_state)) (fun (v_21 : Bool) =>
 (if v_21 = true then some ((⟨a_33, (List.set (([] : List Bool) ++ s_0.gone) (Int.toNat nv_5) true)⟩ : GBackwashref24_state), true)
 else rec_7 (IntKind.i64.wrap (nv_5 + 1))))
def f_backwashref24_step_J10 (nv_5 : Int) (i_25 : Int) (a_35 : List GEdge) (rec_9 : (Int × (List GEdge) → Option (GBackwashref24_state × Bool))) (b_35 : GEdge) : Option (GBackwashref24_state × Bool) :=
 (if (!(b_35.To == nv_5)) = true then guardO ((List.length a_35 + List.length ([b_35] : List GEdge)) * 32 ≤ 140737488355328) (
 rec_9 (IntKind.i64.wrap (i_25 + 1), (a_35 ++ ([b_35] : List GEdge))))
 else rec_9 (IntKind.i64.wrap (i_25 + 1), a_35))
def f_backwashref24_step_B9 (g_0 : GGraph) (s_0 : GBackwashref24_state) (nv_5 : Int) (rec_7 : (Int → Option (GBackwashref24_state × Bool))) (xv_64 : GEdge) (rec_9 : Int × (List GEdge) → Option (GBackwashref24_state × Bool)) : Int × (List GEdge) → Option (GBackwashref24_state × Bool) :=
 fun (i_25, a_35) =>
 (if (decide (i_25 < (List.length s_0.edges : Int))) = true then bindO (idx s_0.edges i_25) (fun (xv_71 : GEdge) =>
 (if (xv_71.From == nv_5) = true then f_backwashref24_step_J10 nv_5 i_25 a_35 rec_9 (⟨xv_64.From, xv_71.To, xv_71.Port, xv_71.Exchange || xv_64.Exchange⟩ : GEdge)
 else f_backwashref24_step_J10 nv_5 i_25 a_35 rec_9 xv_71))
 else f_backwashref24_step_J8 g_0 s_0 nv_5 rec_7 a_35)
def f_backwashref24_step_B7 (g_0 : GGraph) (s_0 : GBackwashref24_state) (rec_7 : Int → Option (GBackwashref24_state × Bool)) : Int → Option (GBackwashref24_state × Bool) :=
 fun nv_5 =>
 (if (decide (nv_5 < (List.length g_0.Nodes : Int))) = true then bindO (idx s_0.gone nv_5) (fun (xv_63 : Bool) =>
 (if xv_63 = true then rec_7 (IntKind.i64.wrap (nv_5 + 1))
 else bindO (f_backwashref24_Nothing g_0 s_0.edges nv_5) (fun (v_19 : Bool) =>
 (if (!v_19) = true then rec_7 (IntKind.i64.wrap (nv_5 + 1))
 else bindO (f_backwashref24_from s_0.edges nv_5) (fun (v_20 : Int) =>
 bindO (idx s_0.edges v_20) (fun (xv_64 : GEdge) =>
 guardO ((List.length ([] : List Bool) + List.length s_0.gone) * 1 ≤ 140737488355328) (
 bindO (idx (([] : List Bool) ++ s_0.gone) nv_5) (fun (xv_65 : Bool) =>
 loopK (f_backwashref24_step_B9 g_0 s_0 nv_5 rec_7 xv_64) rounds (0, [])))))))))
 else some (s_0, false))
def f_backwashref24_step_J2 (g_0 : GGraph) (s_0 : GBackwashref24_state) (some_2 : Bool) (a_2 : List Bool) (a_5 : List GEdge) : Option (GBackwashref24_state × Bool) :=
 (if some_2 = true then bindO (f_backwashref24_runs g_0 (⟨a_5, a_2⟩ : GBackwashref24_state)) (fun (v_12 : Bool) =>
 (if v_12 = true then some ((⟨a_5, a_2⟩ : GBackwashref24_state), true)
 else loopK (f_backwashref24_step_B7 g_0 s_0) rounds 0))
 else loopK (f_backwashref24_step_B3 g_0 s_0) rounds 0)
def f_backwashref24_step_B11 (g_0 : GGraph) (s_0 : GBackwashref24_state) (some_2 : Bool) (a_2 : List Bool) (rec_11 : Int × (List GEdge) → Option (GBackwashref24_state × Bool)) : Int × (List GEdge) → Option (GBackwashref24_state × Bool) :=
 fun (i_27, a_37) =>
 (if (decide (i_27 < (List.length s_0.edges : Int))) = true then bindO (idx s_0.edges i_27) (fun (xv_78 : GEdge) =>
 bindO (idx a_2 xv_78.From) (fun (xv_79 : Bool) =>
 (if xv_79 = true then rec_11 (IntKind.i64.wrap (i_27 + 1), a_37)
 else bindO (idx a_2 xv_78.To) (fun (xv_80 : Bool) =>
 (if (!xv_80) = true then guardO ((List.length a_37 + List.length ([xv_78] : List GEdge)) * 32 ≤ 140737488355328) (
 rec_11 (IntKind.i64.wrap (i_27 + 1), (a_37 ++ ([xv_78] : List GEdge))))
 else rec_11 (IntKind.i64.wrap (i_27 + 1), a_37))))))
 else f_backwashref24_step_J2 g_0 s_0 some_2 a_2 a_37)
def f_backwashref24_step_J1 (g_0 : GGraph) (s_0 : GBackwashref24_state) (some_2 : Bool) (a_2 : List Bool) : Option (GBackwashref24_state × Bool) :=
 loopK (f_backwashref24_step_B11 g_0 s_0 some_2 a_2) rounds (0, [])
def f_backwashref24_step_B12 (g_0 : GGraph) (s_0 : GBackwashref24_state) (rec_12 : Bool × Int × (List Bool) → Option (GBackwashref24_state × Bool)) : Bool × Int × (List Bool) → Option (GBackwashref24_state × Bool) :=
 fun (some_4, nv_7, a_39) =>
 (if (decide (nv_7 < (List.length g_0.Nodes : Int))) = true then bindO (idx s_0.gone nv_7) (fun (xv_87 : Bool) =>
 (if xv_87 = true then rec_12 (some_4, IntKind.i64.wrap (nv_7 + 1), a_39)
 else bindO (idx g_0.Nodes nv_7) (fun (xv_88 : GNode) =>
 (if (xv_88.Kind == 1) = true then rec_12 (some_4, IntKind.i64.wrap (nv_7 + 1), a_39)
 else guardO (0 ≤ (List.length g_0.Nodes : Int) ∧ (List.length g_0.Nodes : Int) * 1 ≤ 140737488355328) (
 bindO (f_backwashref24_reach_s3_0 g_0 s_0.edges nv_7 (List.replicate (List.length g_0.Nodes) false)) (fun (v_24 : Bool × (List Bool)) =>
 guardO (List.length v_24.2 = List.length (List.replicate (List.length g_0.Nodes) false)) (
 (if (!v_24.1) = true then bindO (idx a_39 nv_7) (fun (xv_89 : Bool) =>
 rec_12 (true, IntKind.i64.wrap (nv_7 + 1), (List.set a_39 (Int.toNat nv_7) true)))
 else rec_12 (some_4, IntKind.i64.wrap (nv_7 + 1), a_39)))))))))
 else f_backwashref24_step_J1 g_0 s_0 some_4 a_39)
def f_backwashref24_step (g_0 : GGraph) (s_0 : GBackwashref24_state) : Option (GBackwashref24_state × Bool) :=
 guardO ((List.length ([] : List Bool) + List.length s_0.gone) * 1 ≤ 140737488355328) (
 loopK (f_backwashref24_step_B12 g_0 s_0) rounds (false, 0, (([] : List Bool) ++ s_0.gone)))
def f_fuse_Make_J1 (b_10 : GFuse_work) : Option (GFused × Int) :=
 bindO (f_fuse_work_done b_10) (fun (v_7 : GFused) =>
 some (v_7, 0))
def f_fuse_Make_B2  (rec_2 : (List Int) × (List Int) × (List GNode) × (List GEdge) × (List Bool) → Option (GFused × Int)) : (List Int) × (List Int) × (List GNode) × (List GEdge) × (List Bool) → Option (GFused × Int) :=
 fun (b_16, b_17, b_18, b_19, b_20) =>
 bindO (f_fuse_work_idle_p0 (⟨(⟨b_16, b_17, b_18, b_19⟩ : GGraph), b_20⟩ : GFuse_work)) (fun (v_12 : Bool × GFuse_work) =>
 (if v_12.1 = true then rec_2 (v_12.2.g.Parent, v_12.2.g.Bound, v_12.2.g.Nodes, v_12.2.g.Edges, v_12.2.gone)
 else bindO (f_fuse_work_leave_p0 v_12.2) (fun (v_13 : Bool × GFuse_work) =>
 (if v_13.1 = true then rec_2 (v_13.2.g.Parent, v_13.2.g.Bound, v_13.2.g.Nodes, v_13.2.g.Edges, v_13.2.gone)
 else f_fuse_Make_J1 v_13.2))))
def f_fuse_Make (g_0 : GGraph) : Option (GFused × Int) :=
 bindO (f_valid_Check g_0) (fun (v_0 : Int × Int) =>
 (if (!(v_0.1 == 0)) = true then some ((⟨(⟨([] : List Int), ([] : List Int), ([] : List GNode), ([] : List GEdge)⟩ : GGraph), ([] : List Int)⟩ : GFused), 1)
 else guardO (0 ≤ (List.length g_0.Nodes : Int) ∧ (List.length g_0.Nodes : Int) * 1 ≤ 140737488355328) (
 loopK (f_fuse_Make_B2) rounds (g_0.Parent, g_0.Bound, g_0.Nodes, g_0.Edges, (List.replicate (List.length g_0.Nodes) false)))))
theorem f_fuse_Make_det (g_0 : GGraph)  (r : GFused × Int) (h : f_fuse_Make g_0 = some r) : DetS Try.prog 7 [.agg [.sl 1 (enc g_0.Parent), .sl 1 (enc g_0.Bound), .sl 4 (enc g_0.Nodes), .sl 4 (enc g_0.Edges)]] [] 0 (.tup [.agg [.sl 1 (enc r.1.Graph.Parent), .sl 1 (enc r.1.Graph.Bound), .osl 0 4 (0) (List.length r.1.Graph.Nodes), .osl 1 4 (0) (List.length r.1.Graph.Edges), .osl 2 1 (0) (List.length r.1.Now)], .v (.int .i64 r.2)]) [(0, .arr 4 (enc r.1.Graph.Nodes)), (1, .arr 4 (enc r.1.Graph.Edges)), (2, .arr 1 (enc r.1.Now))] 3 := by
 unfold DetS
 refine Spec.of_vc Try.func7 rfl (by kernel_rfl) (by kernel_rfl) ?_
 rw [f_fuse_Make] at h
 refine sg fun QQ1 hQ1 => ?_
 simp only [go_sem]
 refine seqQ_normal hQ1 ?_
 refine sg fun QQ2 hQ2 => ?_
 refine sg fun QQ3 hQ3 => ?_
 obtain ⟨v_0, ev_0, h⟩ := bindO_some h
 simp only [go_sem]
 refine call0 (f_valid_Check_ok g_0 v_0 ev_0) (by rfl) (by rfl) ?_
 simp only [go_sem]
 refine seqQ_normal hQ3 ?_
 refine sg fun QQ4 hQ4 => ?_
 simp only [go_sem]
 refine seqQ_normal hQ4 ?_
 refine vc_cond_of (b := (!(v_0.1 == 0))) (by (simp only [go_sem]; done)) (fun hb_0 => ?_) (fun hb_0 => ?_)
 ·
  replace h := if_t h hb_0
  simp only [bool_to_prop] at hb_0
  refine sg fun QQ5 hQ5 => ?_
  simp only [go_sem]
  refine seqQ_normal hQ5 ?_
  refine vc_ret_of ?_
  refine seqQ_ret hQ2 ?_
  simp only [go_sem]
  obtain rfl := Option.some.inj h
  refine retW_det [none, none, none] ?_
  simp only [go_sem, Le] <;> (repeat' apply And.intro) <;> ((try with_reducible refine TL_eq ?_); (simp [go_sem]; done))
 ·
  replace h := if_f h hb_0
  simp only [bool_to_prop] at hb_0
  refine vc_skip_of ?_
  refine seqQ_normal hQ2 ?_
  refine sg fun QQ6 hQ6 => ?_
  refine vc_draw ?_
  refine drawV_all 5 0 0 [0, 0, 2, 6, 14, 31, 63, 127] [2] [0] [] [4] [] mixed (by kernel_rfl) (of_decide_eq_true (by kernel_rfl)) (by kernel_rfl) (by kernel_rfl) (by rfl) ?_
  obtain ⟨g_1, h⟩ := guardO_some h
  have rf_0 : List.replicate (List.length g_0.Nodes) [.v (.bool false)] = enc (List.replicate (List.length g_0.Nodes) false) := by simp [enc, row_int, row_bool, row_list, enc_nil]
  simp only [go_sem, g_1]
  simp only [rf_0]
  refine seqQ_normal hQ6 ?_
  refine vc_join (by kernel_rfl) ?_
  refine seq_cut_gen (ι := GFuse_work) (fun (b_10 : GFuse_work) => (⟨0, [(2, .ptr 0 0), (6, .ptr 1 0)], [(0, .box [.v (.slice none 0 0), .v (.slice none 0 0), .v (.slice none 0 0), .v (.slice none 0 0), .v (.slice none 0 0)]), (1, .box [.sl 1 (enc b_10.g.Parent), .sl 1 (enc b_10.g.Bound), .sl 4 (enc b_10.g.Nodes), .sl 4 (enc b_10.g.Edges), .sl 1 (enc b_10.gone)])], 2, 32⟩ : St)) (fun (b_10 : GFuse_work) => f_fuse_Make_J1 b_10 = some r) ?_ ?_
  ·
   intro QQ8 hQ8
   refine vc_block_gen ?_
   intro QQ9 hQ9
   refine vc_loop_of ?_
   refine loop_gen (ι := Nat × (List Int) × (List Int) × (List GNode) × (List GEdge) × (List Bool)) (fun ((_, b_16, b_17, b_18, b_19, b_20) : Nat × (List Int) × (List Int) × (List GNode) × (List GEdge) × (List Bool)) => (⟨0, [(2, .ptr 0 0), (6, .ptr 1 0)], [(0, .box [.v (.slice none 0 0), .v (.slice none 0 0), .v (.slice none 0 0), .v (.slice none 0 0), .v (.slice none 0 0)]), (1, .box [.sl 1 (enc b_16), .sl 1 (enc b_17), .sl 4 (enc b_18), .sl 4 (enc b_19), .sl 1 (enc b_20)])], 2, 32⟩ : St)) (fun ((n_, b_16, b_17, b_18, b_19, b_20) : Nat × (List Int) × (List Int) × (List GNode) × (List GEdge) × (List Bool)) => loopK (f_fuse_Make_B2) n_ (b_16, b_17, b_18, b_19, b_20) = some r) (fun p => p.1) (rounds, g_0.Parent, g_0.Bound, g_0.Nodes, g_0.Edges, (List.replicate (List.length g_0.Nodes) false)) [some 1, some 3] ?_ h ?_
   · simp only [go_sem, Le] <;> (repeat' apply And.intro) <;> first | ((try with_reducible refine TL_eq ?_); omega) | ((try with_reducible refine TL_eq ?_); (simp [go_sem]; done))
   ·
    rintro ⟨n_2, b_16, b_17, b_18, b_19, b_20⟩ h QQ10 hQ10
    dsimp only at h
    replace h := loopK_some h
    obtain ⟨m_2, rfl, h⟩ := h
    rw [f_fuse_Make_B2] at h
    refine sg fun QQ11 hQ11 => ?_
    refine sg fun QQ12 hQ12 => ?_
    obtain ⟨v_12, ev_12, h⟩ := bindO_some h
    simp only [go_sem]
    refine callD [1] (f_fuse_work_idle_p0_det (⟨(⟨b_16, b_17, b_18, b_19⟩ : GGraph), b_20⟩ : GFuse_work) v_12 ev_12) (by simp) rfl ⟨rfl, trivial⟩ rfl rfl rfl rfl ?_
    simp only [go_sem]
    rcases hb_11 : v_12.1 with _ | _
    ·
     replace h := if_f h hb_11
     obtain ⟨v_13, ev_13, h⟩ := bindO_some h
     simp only [go_sem, hb_11]
     refine callD [1] (f_fuse_work_leave_p0_det v_12.2 v_13 ev_13) (by simp) rfl ⟨rfl, trivial⟩ rfl rfl rfl rfl ?_
     simp only [go_sem]
     refine seqQ_normal hQ12 ?_
     refine vc_cond_of (b := v_13.1) (by (simp only [go_sem]; done)) (fun hb_12 => ?_) (fun hb_12 => ?_)
     ·
      replace h := if_t h hb_12
      refine vc_skip_of ?_
      refine seqQ_normal hQ11 ?_
      refine vc_block_gen ?_
      intro QQ13 hQ13
      refine vc_skip_of ?_
      refine blockQ_normal hQ13 ?_
      refine thenQ_normal hQ10 ?_
      refine ⟨(m_2, v_13.2.g.Parent, v_13.2.g.Bound, v_13.2.g.Nodes, v_13.2.g.Edges, v_13.2.gone), [some 0, some 1], ?_, h, Nat.lt_succ_self _⟩
      simp only [go_sem, Le] <;> (repeat' apply And.intro) <;> first | ((try with_reducible refine TL_eq ?_); omega) | ((try with_reducible refine TL_eq ?_); (simp [go_sem]; done))
     ·
      replace h := if_f h hb_12
      refine vc_exit_of ?_
      refine seqQ_exit hQ11 ?_
      refine thenQ_exit hQ10 ?_
      refine blockQ_exit hQ9 ?_
      refine thenQ_normal hQ8 ?_
      refine ⟨v_13.2, [some 0, some 1], ?_, h⟩
      simp only [go_sem, Le] <;> (repeat' apply And.intro) <;> first | ((try with_reducible refine TL_eq ?_); omega) | ((try with_reducible refine TL_eq ?_); (simp [go_sem]; done))
    ·
     replace h := if_t h hb_11
     simp only [go_sem, hb_11]
     refine seqQ_normal hQ12 ?_
     refine vc_cond_t (by (simp only [go_sem]; done)) ?_
     refine vc_skip_of ?_
     refine seqQ_normal hQ11 ?_
     refine vc_block_gen ?_
     intro QQ14 hQ14
     refine vc_skip_of ?_
     refine blockQ_normal hQ14 ?_
     refine thenQ_normal hQ10 ?_
     refine ⟨(m_2, v_12.2.g.Parent, v_12.2.g.Bound, v_12.2.g.Nodes, v_12.2.g.Edges, v_12.2.gone), [some 0, some 1], ?_, h, Nat.lt_succ_self _⟩
     simp only [go_sem, Le] <;> (repeat' apply And.intro) <;> first | ((try with_reducible refine TL_eq ?_); omega) | ((try with_reducible refine TL_eq ?_); (simp [go_sem]; done))
  ·
   rintro b_10 h
   try dsimp only at h
   rw [f_fuse_Make_J1] at h
   refine sg fun QQ7 hQ7 => ?_
   obtain ⟨v_7, ev_7, h⟩ := bindO_some h
   simp only [go_sem]
   refine callD [] (f_fuse_work_done_det b_10 v_7 ev_7) (by simp) rfl trivial rfl rfl rfl rfl ?_
   simp only [go_sem]
   refine seqQ_normal hQ7 ?_
   refine vc_ret_of ?_
   simp only [go_sem]
   obtain rfl := Option.some.inj h
   refine retW_det [some 2, some 3, some 4] ?_
   simp only [go_sem, Le] <;> (repeat' apply And.intro) <;> first | ((try with_reducible refine TL_eq ?_); omega) | ((try with_reducible refine TL_eq ?_); (simp [go_sem]; done))
def f_backwashref24_Make_B1 (g_0 : GGraph) (rec_1 : (List GEdge) × (List Bool) → Option (GFused × Int)) : (List GEdge) × (List Bool) → Option (GFused × Int) :=
 fun (b_2, b_3) =>
 bindO (f_backwashref24_step g_0 (⟨b_2, b_3⟩ : GBackwashref24_state)) (fun (v_5 : GBackwashref24_state × Bool) =>
 (if (!v_5.2) = true then bindO (f_backwashref24_built g_0 (⟨b_2, b_3⟩ : GBackwashref24_state)) (fun (v_6 : GFused) =>
 some (v_6, 0))
 else rec_1 (v_5.1.edges, v_5.1.gone)))
def f_backwashref24_Make (g_0 : GGraph) : Option (GFused × Int) :=
 bindO (f_backwashref09_Check g_0) (fun (v_0 : Int × Int) =>
 (if (!(v_0.1 == 0)) = true then some ((⟨(⟨([] : List Int), ([] : List Int), ([] : List GNode), ([] : List GEdge)⟩ : GGraph), ([] : List Int)⟩ : GFused), 1)
 else guardO (0 ≤ (List.length g_0.Nodes : Int) ∧ (List.length g_0.Nodes : Int) * 1 ≤ 140737488355328) (
 loopK (f_backwashref24_Make_B1 g_0) rounds (g_0.Edges, (List.replicate (List.length g_0.Nodes) false)))))
def f_backwashref08_ints_B1 (a_0 : List Int) (b_0 : List Int) (rec_1 : Int → Option Bool) : Int → Option Bool :=
 fun i_1 =>
 (if (decide (i_1 < (List.length a_0 : Int))) = true then bindO (idx a_0 i_1) (fun (xv_4 : Int) =>
 bindO (idx b_0 i_1) (fun (xv_5 : Int) =>
 (if (!(xv_4 == xv_5)) = true then some false
 else rec_1 (IntKind.i64.wrap (i_1 + 1)))))
 else some true)
def f_backwashref08_ints (a_0 : List Int) (b_0 : List Int) : Option Bool :=
 (if (!((List.length a_0 : Int) == (List.length b_0 : Int))) = true then some false
 else loopK (f_backwashref08_ints_B1 a_0 b_0) rounds 0)
theorem f_backwashref08_ints_ok (a_0 : List Int) (b_0 : List Int)  (r : Bool) (h : f_backwashref08_ints a_0 b_0 = some r) : PureS Try.prog 17 [.sl 1 (enc a_0), .sl 1 (enc b_0)] 0 (.v (.bool r)) := by
 unfold PureS
 refine Spec.of_vc Try.func17 rfl (by kernel_rfl) (by kernel_rfl) ?_
 rw [f_backwashref08_ints] at h
 refine sg fun QQ1 hQ1 => ?_
 simp only [go_sem]
 refine seqQ_normal hQ1 ?_
 refine sg fun QQ2 hQ2 => ?_
 refine sg fun QQ3 hQ3 => ?_
 simp only [go_sem]
 refine seqQ_normal hQ3 ?_
 refine vc_cond_of (b := (!((List.length a_0 : Int) == (List.length b_0 : Int)))) (by (simp only [go_sem]; done)) (fun hb_0 => ?_) (fun hb_0 => ?_)
 ·
  replace h := if_t h hb_0
  simp only [bool_to_prop] at hb_0
  refine sg fun QQ4 hQ4 => ?_
  simp only [go_sem]
  refine seqQ_normal hQ4 ?_
  refine vc_ret_of ?_
  refine seqQ_ret hQ2 ?_
  simp only [go_sem]
  obtain rfl := Option.some.inj h
  refine retW_pure rfl ?_
  simp only [go_sem, Le]
 ·
  replace h := if_f h hb_0
  simp only [bool_to_prop] at hb_0
  refine vc_skip_of ?_
  refine seqQ_normal hQ2 ?_
  refine vc_join (by kernel_rfl) ?_
  refine seq_go_gen ?_
  intro QQ5 hQ5
  refine sg fun QQ6 hQ6 => ?_
  simp only [go_sem]
  refine seqQ_normal hQ6 ?_
  refine vc_block_gen ?_
  intro QQ7 hQ7
  refine vc_loop_of ?_
  refine loop_gen (ι := Nat × Int) (fun ((_, i_1) : Nat × Int) => (⟨0, [(0, .sl 1 (enc a_0)), (1, .sl 1 (enc b_0)), (5, .v (.int .i64 i_1))], [], 0, 26⟩ : St)) (fun ((n_, i_1) : Nat × Int) => loopK (f_backwashref08_ints_B1 a_0 b_0) n_ i_1 = some r) (fun p => p.1) (rounds, 0) [] ?_ h ?_
  · simp only [go_sem, Le]
  ·
   rintro ⟨n_1, i_1⟩ h QQ8 hQ8
   dsimp only at h
   replace h := loopK_some h
   obtain ⟨m_1, rfl, h⟩ := h
   rw [f_backwashref08_ints_B1] at h
   refine sg fun QQ9 hQ9 => ?_
   refine sg fun QQ10 hQ10 => ?_
   simp only [go_sem]
   refine seqQ_normal hQ10 ?_
   refine vc_cond_of (b := (decide (i_1 < (List.length a_0 : Int)))) (by (simp only [go_sem]; done)) (fun hb_5 => ?_) (fun hb_5 => ?_)
   ·
    replace h := if_t h hb_5
    simp only [bool_to_prop] at hb_5
    refine vc_skip_of ?_
    refine seqQ_normal hQ9 ?_
    refine sg fun QQ11 hQ11 => ?_
    refine vc_block_gen ?_
    intro QQ12 hQ12
    refine sg fun QQ13 hQ13 => ?_
    refine vc_draw ?_
    refine drawM_tail 8 [0, 0, 3, 7, 0, 0, 48, 112, 255] mixed (by kernel_rfl) (of_decide_eq_true (by kernel_rfl)) (by kernel_rfl) ?_
    obtain ⟨xv_4, exv_4, h⟩ := bindO_some h
    obtain ⟨fxv_4a, fxv_4b, fxv_4c⟩ := idx_spec exv_4
    obtain ⟨xv_5, exv_5, h⟩ := bindO_some h
    obtain ⟨fxv_5a, fxv_5b, fxv_5c⟩ := idx_spec exv_5
    simp only [go_sem, fxv_4a, fxv_4b, fxv_4c, fxv_5a, fxv_5b, fxv_5c]
    refine And.intro (by omega) ?_
    refine And.intro (by omega) ?_
    refine seqQ_normal hQ13 ?_
    refine vc_cond_of (b := (!(xv_4 == xv_5))) (by (simp only [go_sem]; done)) (fun hb_6 => ?_) (fun hb_6 => ?_)
    ·
     replace h := if_t h hb_6
     simp only [bool_to_prop] at hb_6
     refine sg fun QQ14 hQ14 => ?_
     simp only [go_sem]
     refine seqQ_normal hQ14 ?_
     refine vc_ret_of ?_
     refine blockQ_ret hQ12 ?_
     refine seqQ_ret hQ11 ?_
     refine thenQ_ret hQ8 ?_
     refine blockQ_ret hQ7 ?_
     refine seqQ_ret hQ5 ?_
     simp only [go_sem]
     obtain rfl := Option.some.inj h
     refine retW_pure rfl ?_
     simp only [go_sem, Le]
    ·
     replace h := if_f h hb_6
     simp only [bool_to_prop] at hb_6
     refine vc_skip_of ?_
     refine blockQ_normal hQ12 ?_
     refine seqQ_normal hQ11 ?_
     simp only [go_sem]
     refine thenQ_normal hQ8 ?_
     refine ⟨(m_1, IntKind.i64.wrap (i_1 + 1)), [], ?_, h, Nat.lt_succ_self _⟩
     simp only [go_sem, Le]
   ·
    replace h := if_f h hb_5
    simp only [bool_to_prop] at hb_5
    refine vc_exit_of ?_
    refine seqQ_exit hQ9 ?_
    refine thenQ_exit hQ8 ?_
    refine blockQ_exit hQ7 ?_
    refine seqQ_normal hQ5 ?_
    refine sg fun QQ15 hQ15 => ?_
    simp only [go_sem]
    refine seqQ_normal hQ15 ?_
    refine vc_ret_of ?_
    simp only [go_sem]
    obtain rfl := Option.some.inj h
    refine retW_pure rfl ?_
    simp only [go_sem, Le]

def f_backwashref07_Same_B1 (a_0 : List GIns) (b_0 : List GIns) (rec_1 : Int → Option Bool) : Int → Option Bool :=
 fun i_1 =>
 (if (decide (i_1 < (List.length a_0 : Int))) = true then bindO (idx a_0 i_1) (fun (xv_4 : GIns) =>
 bindO (idx b_0 i_1) (fun (xv_5 : GIns) =>
 (if (!((xv_4.Op == xv_5.Op) && (xv_4.N == xv_5.N))) = true then some false
 else rec_1 (IntKind.i64.wrap (i_1 + 1)))))
 else some true)
def f_backwashref07_Same (a_0 : List GIns) (b_0 : List GIns) : Option Bool :=
 (if (!((List.length a_0 : Int) == (List.length b_0 : Int))) = true then some false
 else loopK (f_backwashref07_Same_B1 a_0 b_0) rounds 0)
theorem f_backwashref07_Same_ok (a_0 : List GIns) (b_0 : List GIns)  (r : Bool) (h : f_backwashref07_Same a_0 b_0 = some r) : PureS Try.prog 18 [.sl 2 (enc a_0), .sl 2 (enc b_0)] 0 (.v (.bool r)) := by
 unfold PureS
 refine Spec.of_vc Try.func18 rfl (by kernel_rfl) (by kernel_rfl) ?_
 rw [f_backwashref07_Same] at h
 refine sg fun QQ1 hQ1 => ?_
 simp only [go_sem]
 refine seqQ_normal hQ1 ?_
 refine sg fun QQ2 hQ2 => ?_
 refine sg fun QQ3 hQ3 => ?_
 simp only [go_sem]
 refine seqQ_normal hQ3 ?_
 refine vc_cond_of (b := (!((List.length a_0 : Int) == (List.length b_0 : Int)))) (by (simp only [go_sem]; done)) (fun hb_0 => ?_) (fun hb_0 => ?_)
 ·
  replace h := if_t h hb_0
  simp only [bool_to_prop] at hb_0
  refine sg fun QQ4 hQ4 => ?_
  simp only [go_sem]
  refine seqQ_normal hQ4 ?_
  refine vc_ret_of ?_
  refine seqQ_ret hQ2 ?_
  simp only [go_sem]
  obtain rfl := Option.some.inj h
  refine retW_pure rfl ?_
  simp only [go_sem, Le]
 ·
  replace h := if_f h hb_0
  simp only [bool_to_prop] at hb_0
  refine vc_skip_of ?_
  refine seqQ_normal hQ2 ?_
  refine vc_join (by kernel_rfl) ?_
  refine seq_go_gen ?_
  intro QQ5 hQ5
  refine sg fun QQ6 hQ6 => ?_
  simp only [go_sem]
  refine seqQ_normal hQ6 ?_
  refine vc_block_gen ?_
  intro QQ7 hQ7
  refine vc_loop_of ?_
  refine loop_gen (ι := Nat × Int) (fun ((_, i_1) : Nat × Int) => (⟨0, [(0, .sl 2 (enc a_0)), (1, .sl 2 (enc b_0)), (5, .v (.int .i64 i_1))], [], 0, 26⟩ : St)) (fun ((n_, i_1) : Nat × Int) => loopK (f_backwashref07_Same_B1 a_0 b_0) n_ i_1 = some r) (fun p => p.1) (rounds, 0) [] ?_ h ?_
  · simp only [go_sem, Le]
  ·
   rintro ⟨n_1, i_1⟩ h QQ8 hQ8
   dsimp only at h
   replace h := loopK_some h
   obtain ⟨m_1, rfl, h⟩ := h
   rw [f_backwashref07_Same_B1] at h
   refine sg fun QQ9 hQ9 => ?_
   refine sg fun QQ10 hQ10 => ?_
   simp only [go_sem]
   refine seqQ_normal hQ10 ?_
   refine vc_cond_of (b := (decide (i_1 < (List.length a_0 : Int)))) (by (simp only [go_sem]; done)) (fun hb_5 => ?_) (fun hb_5 => ?_)
   ·
    replace h := if_t h hb_5
    simp only [bool_to_prop] at hb_5
    refine vc_skip_of ?_
    refine seqQ_normal hQ9 ?_
    refine sg fun QQ11 hQ11 => ?_
    refine vc_block_gen ?_
    intro QQ12 hQ12
    refine sg fun QQ13 hQ13 => ?_
    refine vc_draw ?_
    refine drawM_tail 8 [0, 0, 3, 7, 0, 0, 48, 112, 255] mixed (by kernel_rfl) (of_decide_eq_true (by kernel_rfl)) (by kernel_rfl) ?_
    obtain ⟨xv_4, exv_4, h⟩ := bindO_some h
    obtain ⟨fxv_4a, fxv_4b, fxv_4c⟩ := idx_spec exv_4
    obtain ⟨xv_5, exv_5, h⟩ := bindO_some h
    obtain ⟨fxv_5a, fxv_5b, fxv_5c⟩ := idx_spec exv_5
    simp only [go_sem, fxv_4a, fxv_4b, fxv_4c, fxv_5a, fxv_5b, fxv_5c]
    refine And.intro (by omega) ?_
    refine And.intro (by omega) ?_
    refine seqQ_normal hQ13 ?_
    refine vc_cond_of (b := (!((xv_4.Op == xv_5.Op) && (xv_4.N == xv_5.N)))) (by (simp only [go_sem]; done)) (fun hb_6 => ?_) (fun hb_6 => ?_)
    ·
     replace h := if_t h hb_6
     simp only [bool_to_prop] at hb_6
     refine sg fun QQ14 hQ14 => ?_
     simp only [go_sem]
     refine seqQ_normal hQ14 ?_
     refine vc_ret_of ?_
     refine blockQ_ret hQ12 ?_
     refine seqQ_ret hQ11 ?_
     refine thenQ_ret hQ8 ?_
     refine blockQ_ret hQ7 ?_
     refine seqQ_ret hQ5 ?_
     simp only [go_sem]
     obtain rfl := Option.some.inj h
     refine retW_pure rfl ?_
     simp only [go_sem, Le]
    ·
     replace h := if_f h hb_6
     simp only [bool_to_prop] at hb_6
     refine vc_skip_of ?_
     refine blockQ_normal hQ12 ?_
     refine seqQ_normal hQ11 ?_
     simp only [go_sem]
     refine thenQ_normal hQ8 ?_
     refine ⟨(m_1, IntKind.i64.wrap (i_1 + 1)), [], ?_, h, Nat.lt_succ_self _⟩
     simp only [go_sem, Le]
   ·
    replace h := if_f h hb_5
    simp only [bool_to_prop] at hb_5
    refine vc_exit_of ?_
    refine seqQ_exit hQ9 ?_
    refine thenQ_exit hQ8 ?_
    refine blockQ_exit hQ7 ?_
    refine seqQ_normal hQ5 ?_
    refine sg fun QQ15 hQ15 => ?_
    simp only [go_sem]
    refine seqQ_normal hQ15 ?_
    refine vc_ret_of ?_
    simp only [go_sem]
    obtain rfl := Option.some.inj h
    refine retW_pure rfl ?_
    simp only [go_sem, Le]

def f_backwashlaw24_awake  : Option Bool :=
 bindO (f_fuse_Make (⟨([-1] : List Int), ([0] : List Int), ([(⟨1, 0, 0, ([] : List GIns)⟩ : GNode), (⟨13, 0, 0, ([] : List GIns)⟩ : GNode), (⟨15, 0, 0, ([] : List GIns)⟩ : GNode)] : List GNode), ([(⟨0, 1, 0, false⟩ : GEdge), (⟨1, 2, 0, false⟩ : GEdge)] : List GEdge)⟩ : GGraph)) (fun (v_0 : GFused × Int) =>
 (if (((v_0.2 == 0) && ((List.length v_0.1.Graph.Nodes : Int) == 2)) && ((List.length v_0.1.Now : Int) == 3)) = true then bindO (idx v_0.1.Now 1) (fun (xv_0 : Int) =>
 (if (xv_0 == (-1)) = true then bindO (idx v_0.1.Now 2) (fun (xv_1 : Int) =>
 some ((xv_1 == 1) && ((List.length v_0.1.Graph.Edges : Int) == 1)))
 else some false))
 else some false))
theorem f_backwashlaw24_awake_ok   (r : Bool) (h : f_backwashlaw24_awake  = some r) : PureS Try.prog 5 [] 0 (.v (.bool r)) := by
 unfold PureS
 refine Spec.of_vc Try.func5 rfl (by kernel_rfl) (by kernel_rfl) ?_
 rw [f_backwashlaw24_awake] at h
 refine sg fun QQ1 hQ1 => ?_
 simp only [go_sem]
 refine seqQ_normal hQ1 ?_
 refine sg fun QQ2 hQ2 => ?_
 have rf_0 : [[.v (.int .i64 (-1))]] = enc ([-1] : List Int) := by rfl
 have rf_1 : [[.v (.int .i64 0)]] = enc ([0] : List Int) := by rfl
 have rf_2 : [[.v (.int .i64 1), .v (.int .i64 0), .v (.int .i64 0), .sl 2 (enc ([] : List GIns))], [.v (.int .i64 13), .v (.int .i64 0), .v (.int .i64 0), .sl 2 (enc ([] : List GIns))], [.v (.int .i64 15), .v (.int .i64 0), .v (.int .i64 0), .sl 2 (enc ([] : List GIns))]] = enc ([(⟨1, 0, 0, ([] : List GIns)⟩ : GNode), (⟨13, 0, 0, ([] : List GIns)⟩ : GNode), (⟨15, 0, 0, ([] : List GIns)⟩ : GNode)] : List GNode) := by rfl
 have rf_2n := rf_2
 simp only [enc_nil] at rf_2n
 have rf_3 : [[.v (.int .i64 0), .v (.int .i64 1), .v (.int .i64 0), .v (.bool false)], [.v (.int .i64 1), .v (.int .i64 2), .v (.int .i64 0), .v (.bool false)]] = enc ([(⟨0, 1, 0, false⟩ : GEdge), (⟨1, 2, 0, false⟩ : GEdge)] : List GEdge) := by rfl
 simp only [go_sem]
 simp only [rf_0, rf_1, rf_2n, rf_2, rf_3]
 refine seqQ_normal hQ2 ?_
 refine sg fun QQ3 hQ3 => ?_
 obtain ⟨v_0, ev_0, h⟩ := bindO_some h
 simp only [go_sem]
 refine callF_weak (s' := (⟨0, [(0, .v (.bool false)), (1, .ptr 0 0), (4, .sl 1 (enc ([-1] : List Int))), (5, .sl 1 (enc ([0] : List Int))), (6, .agg [.v (.int .i64 1), .v (.int .i64 0), .v (.int .i64 0), .v (.slice none 0 0)]), (7, .agg [.v (.int .i64 13), .v (.int .i64 0), .v (.int .i64 0), .v (.slice none 0 0)]), (8, .agg [.v (.int .i64 15), .v (.int .i64 0), .v (.int .i64 0), .v (.slice none 0 0)]), (9, .sl 4 (enc ([(⟨1, 0, 0, ([] : List GIns)⟩ : GNode), (⟨13, 0, 0, ([] : List GIns)⟩ : GNode), (⟨15, 0, 0, ([] : List GIns)⟩ : GNode)] : List GNode))), (10, .agg [.v (.int .i64 0), .v (.int .i64 1), .v (.int .i64 0), .v (.bool false)]), (11, .agg [.v (.int .i64 1), .v (.int .i64 2), .v (.int .i64 0), .v (.bool false)]), (12, .sl 4 (enc ([(⟨0, 1, 0, false⟩ : GEdge), (⟨1, 2, 0, false⟩ : GEdge)] : List GEdge))), (13, .agg [.sl 1 (enc ([-1] : List Int)), .sl 1 (enc ([0] : List Int)), .sl 4 (enc ([(⟨1, 0, 0, ([] : List GIns)⟩ : GNode), (⟨13, 0, 0, ([] : List GIns)⟩ : GNode), (⟨15, 0, 0, ([] : List GIns)⟩ : GNode)] : List GNode)), .sl 4 (enc ([(⟨0, 1, 0, false⟩ : GEdge), (⟨1, 2, 0, false⟩ : GEdge)] : List GEdge))]), (15, .agg [.sl 1 (enc ([-1] : List Int)), .sl 1 (enc ([0] : List Int)), .sl 4 (enc ([(⟨1, 0, 0, ([] : List GIns)⟩ : GNode), (⟨13, 0, 0, ([] : List GIns)⟩ : GNode), (⟨15, 0, 0, ([] : List GIns)⟩ : GNode)] : List GNode)), .sl 4 (enc ([(⟨0, 1, 0, false⟩ : GEdge), (⟨1, 2, 0, false⟩ : GEdge)] : List GEdge))])], [(0, .box [.sl 1 (enc ([-1] : List Int)), .sl 1 (enc ([0] : List Int)), .sl 4 (enc ([(⟨1, 0, 0, ([] : List GIns)⟩ : GNode), (⟨13, 0, 0, ([] : List GIns)⟩ : GNode), (⟨15, 0, 0, ([] : List GIns)⟩ : GNode)] : List GNode)), .sl 4 (enc ([(⟨0, 1, 0, false⟩ : GEdge), (⟨1, 2, 0, false⟩ : GEdge)] : List GEdge))])], 1, 55⟩ : St)) (l := [some 4]) (args' := [.agg [.sl 1 (enc ([-1] : List Int)), .sl 1 (enc ([0] : List Int)), .sl 4 (enc ([(⟨1, 0, 0, ([] : List GIns)⟩ : GNode), (⟨13, 0, 0, ([] : List GIns)⟩ : GNode), (⟨15, 0, 0, ([] : List GIns)⟩ : GNode)] : List GNode)), .sl 4 (enc ([(⟨0, 1, 0, false⟩ : GEdge), (⟨1, 2, 0, false⟩ : GEdge)] : List GEdge))]]) ?_ ?_ ?_
 · simp only [go_sem, Le] <;> (repeat' apply And.intro) <;> ((try with_reducible refine TL_eq ?_); (simp [go_sem]; done))
 · simp only [go_sem, Le] <;> (repeat' apply And.intro) <;> ((try with_reducible refine TL_eq ?_); (simp [go_sem]; done))
 refine callD [] (f_fuse_Make_det (⟨([-1] : List Int), ([0] : List Int), ([(⟨1, 0, 0, ([] : List GIns)⟩ : GNode), (⟨13, 0, 0, ([] : List GIns)⟩ : GNode), (⟨15, 0, 0, ([] : List GIns)⟩ : GNode)] : List GNode), ([(⟨0, 1, 0, false⟩ : GEdge), (⟨1, 2, 0, false⟩ : GEdge)] : List GEdge)⟩ : GGraph) v_0 ev_0) (by simp) rfl trivial rfl rfl rfl rfl ?_
 simp only [go_sem]
 refine seqQ_normal hQ3 ?_
 refine sg fun QQ4 hQ4 => ?_
 simp only [go_sem]
 rcases hb_0 : (((v_0.2 == 0) && ((List.length v_0.1.Graph.Nodes : Int) == 2)) && ((List.length v_0.1.Now : Int) == 3)) with _ | _
 ·
  replace h := if_f h hb_0
  simp only [go_sem, hb_0]
  refine seqQ_normal hQ4 ?_
  refine vc_ret_of ?_
  simp only [go_sem]
  obtain rfl := Option.some.inj h
  refine retW_pure rfl ?_
  simp only [go_sem, Le]
 ·
  replace h := if_t h hb_0
  obtain ⟨xv_0, exv_0, h⟩ := bindO_some h
  obtain ⟨fxv_0a, fxv_0b, fxv_0c⟩ := idx_spec exv_0
  simp only [Int.toNat_natCast, Int.reduceToNat] at fxv_0c
  simp only [go_sem, hb_0, fxv_0a, fxv_0b, fxv_0c]
  refine And.intro (by omega) ?_
  rcases hb_1 : (xv_0 == (-1)) with _ | _
  ·
   replace h := if_f h hb_1
   simp only [go_sem, hb_1]
   refine seqQ_normal hQ4 ?_
   refine vc_ret_of ?_
   simp only [go_sem]
   obtain rfl := Option.some.inj h
   refine retW_pure rfl ?_
   simp only [go_sem, Le]
  ·
   replace h := if_t h hb_1
   obtain ⟨xv_1, exv_1, h⟩ := bindO_some h
   obtain ⟨fxv_1a, fxv_1b, fxv_1c⟩ := idx_spec exv_1
   simp only [Int.toNat_natCast, Int.reduceToNat] at fxv_1c
   simp only [go_sem, hb_1, fxv_1a, fxv_1b, fxv_1c]
   refine And.intro (by omega) ?_
   refine seqQ_normal hQ4 ?_
   refine vc_ret_of ?_
   simp only [go_sem]
   obtain rfl := Option.some.inj h
   refine retW_pure rfl ?_
   simp only [go_sem, Le]

def f_backwashref08_Short_B1 (g_0 : GGraph) (rec_1 : Int → Option Bool) : Int → Option Bool :=
 fun i_1 =>
 (if (decide (i_1 < (List.length g_0.Nodes : Int))) = true then bindO (idx g_0.Nodes i_1) (fun (xv_2 : GNode) =>
 (if (decide (100 < (List.length xv_2.Prog : Int))) = true then some false
 else rec_1 (IntKind.i64.wrap (i_1 + 1))))
 else some true)
def f_backwashref08_Short (g_0 : GGraph) : Option Bool :=
 (if ((((decide (20 < (List.length g_0.Parent : Int))) || (decide (20 < (List.length g_0.Bound : Int)))) || (decide (60 < (List.length g_0.Nodes : Int)))) || (decide (100 < (List.length g_0.Edges : Int)))) = true then some false
 else loopK (f_backwashref08_Short_B1 g_0) rounds 0)
theorem f_backwashref08_Short_ok (g_0 : GGraph)  (r : Bool) (h : f_backwashref08_Short g_0 = some r) : PureS Try.prog 6 [.agg [.sl 1 (enc g_0.Parent), .sl 1 (enc g_0.Bound), .sl 4 (enc g_0.Nodes), .sl 4 (enc g_0.Edges)]] 0 (.v (.bool r)) := by
 unfold PureS
 refine Spec.of_vc Try.func6 rfl (by kernel_rfl) (by kernel_rfl) ?_
 rw [f_backwashref08_Short] at h
 refine sg fun QQ1 hQ1 => ?_
 simp only [go_sem]
 refine seqQ_normal hQ1 ?_
 refine sg fun QQ2 hQ2 => ?_
 refine sg fun QQ3 hQ3 => ?_
 simp only [go_sem]
 refine seqQ_normal hQ3 ?_
 refine vc_cond_of (b := ((((decide (20 < (List.length g_0.Parent : Int))) || (decide (20 < (List.length g_0.Bound : Int)))) || (decide (60 < (List.length g_0.Nodes : Int)))) || (decide (100 < (List.length g_0.Edges : Int))))) (by (simp only [go_sem]; done)) (fun hb_0 => ?_) (fun hb_0 => ?_)
 ·
  replace h := if_t h hb_0
  simp only [bool_to_prop] at hb_0
  refine sg fun QQ4 hQ4 => ?_
  simp only [go_sem]
  refine seqQ_normal hQ4 ?_
  refine vc_ret_of ?_
  refine seqQ_ret hQ2 ?_
  simp only [go_sem]
  obtain rfl := Option.some.inj h
  refine retW_pure rfl ?_
  simp only [go_sem, Le]
 ·
  replace h := if_f h hb_0
  simp only [bool_to_prop] at hb_0
  refine vc_skip_of ?_
  refine seqQ_normal hQ2 ?_
  refine vc_join (by kernel_rfl) ?_
  refine seq_go_gen ?_
  intro QQ5 hQ5
  refine sg fun QQ6 hQ6 => ?_
  simp only [go_sem]
  refine seqQ_normal hQ6 ?_
  refine vc_block_gen ?_
  intro QQ7 hQ7
  refine vc_loop_of ?_
  refine loop_gen (ι := Nat × Int) (fun ((_, i_1) : Nat × Int) => (⟨0, [(1, .ptr 0 0), (3, .v (.int .i64 i_1))], [(0, .box [.sl 1 (enc g_0.Parent), .sl 1 (enc g_0.Bound), .sl 4 (enc g_0.Nodes), .sl 4 (enc g_0.Edges)])], 1, 41⟩ : St)) (fun ((n_, i_1) : Nat × Int) => loopK (f_backwashref08_Short_B1 g_0) n_ i_1 = some r) (fun p => p.1) (rounds, 0) [some 0] ?_ h ?_
  · simp only [go_sem, Le]
  ·
   rintro ⟨n_1, i_1⟩ h QQ8 hQ8
   dsimp only at h
   replace h := loopK_some h
   obtain ⟨m_1, rfl, h⟩ := h
   rw [f_backwashref08_Short_B1] at h
   refine sg fun QQ9 hQ9 => ?_
   refine sg fun QQ10 hQ10 => ?_
   simp only [go_sem]
   refine seqQ_normal hQ10 ?_
   refine vc_cond_of (b := (decide (i_1 < (List.length g_0.Nodes : Int)))) (by (simp only [go_sem]; done)) (fun hb_5 => ?_) (fun hb_5 => ?_)
   ·
    replace h := if_t h hb_5
    simp only [bool_to_prop] at hb_5
    refine vc_skip_of ?_
    refine seqQ_normal hQ9 ?_
    refine sg fun QQ11 hQ11 => ?_
    refine vc_block_gen ?_
    intro QQ12 hQ12
    refine sg fun QQ13 hQ13 => ?_
    obtain ⟨xv_2, exv_2, h⟩ := bindO_some h
    obtain ⟨fxv_2a, fxv_2b, fxv_2c⟩ := idx_spec exv_2
    simp only [go_sem, fxv_2a, fxv_2b, fxv_2c]
    refine And.intro (by omega) ?_
    refine seqQ_normal hQ13 ?_
    refine vc_cond_of (b := (decide (100 < (List.length xv_2.Prog : Int)))) (by (simp only [go_sem]; done)) (fun hb_6 => ?_) (fun hb_6 => ?_)
    ·
     replace h := if_t h hb_6
     simp only [bool_to_prop] at hb_6
     refine sg fun QQ14 hQ14 => ?_
     simp only [go_sem]
     refine seqQ_normal hQ14 ?_
     refine vc_ret_of ?_
     refine blockQ_ret hQ12 ?_
     refine seqQ_ret hQ11 ?_
     refine thenQ_ret hQ8 ?_
     refine blockQ_ret hQ7 ?_
     refine seqQ_ret hQ5 ?_
     simp only [go_sem]
     obtain rfl := Option.some.inj h
     refine retW_pure rfl ?_
     simp only [go_sem, Le]
    ·
     replace h := if_f h hb_6
     simp only [bool_to_prop] at hb_6
     refine vc_skip_of ?_
     refine blockQ_normal hQ12 ?_
     refine seqQ_normal hQ11 ?_
     simp only [go_sem]
     refine thenQ_normal hQ8 ?_
     refine ⟨(m_1, IntKind.i64.wrap (i_1 + 1)), [some 0], ?_, h, Nat.lt_succ_self _⟩
     simp only [go_sem, Le]
   ·
    replace h := if_f h hb_5
    simp only [bool_to_prop] at hb_5
    refine vc_exit_of ?_
    refine seqQ_exit hQ9 ?_
    refine thenQ_exit hQ8 ?_
    refine blockQ_exit hQ7 ?_
    refine seqQ_normal hQ5 ?_
    refine sg fun QQ15 hQ15 => ?_
    simp only [go_sem]
    refine seqQ_normal hQ15 ?_
    refine vc_ret_of ?_
    simp only [go_sem]
    obtain rfl := Option.some.inj h
    refine retW_pure rfl ?_
    simp only [go_sem, Le]

def f_backwashref08_Same_B2 (a_0 : GGraph) (b_0 : GGraph) (rec_2 : Int → Option Bool) : Int → Option Bool :=
 fun i_3 =>
 (if (decide (i_3 < (List.length a_0.Edges : Int))) = true then bindO (idx a_0.Edges i_3) (fun (xv_10 : GEdge) =>
 bindO (idx b_0.Edges i_3) (fun (xv_11 : GEdge) =>
 (if (!((xv_10.From == xv_11.From) && ((xv_10.To == xv_11.To) && ((xv_10.Port == xv_11.Port) && (xv_10.Exchange == xv_11.Exchange))))) = true then some false
 else rec_2 (IntKind.i64.wrap (i_3 + 1)))))
 else some true)
def f_backwashref08_Same_J1 (a_0 : GGraph) (b_0 : GGraph) : Option Bool :=
 loopK (f_backwashref08_Same_B2 a_0 b_0) rounds 0
def f_backwashref08_Same_B3 (a_0 : GGraph) (b_0 : GGraph) (rec_3 : Int → Option Bool) : Int → Option Bool :=
 fun i_5 =>
 (if (decide (i_5 < (List.length a_0.Nodes : Int))) = true then bindO (idx a_0.Nodes i_5) (fun (xv_16 : GNode) =>
 bindO (idx b_0.Nodes i_5) (fun (xv_17 : GNode) =>
 (if (((!(xv_16.Kind == xv_17.Kind)) || (!(xv_16.Scope == xv_17.Scope))) || (!(xv_16.Arg == xv_17.Arg))) = true then some false
 else bindO (f_backwashref07_Same xv_16.Prog xv_17.Prog) (fun (v_7 : Bool) =>
 (if (!v_7) = true then some false
 else rec_3 (IntKind.i64.wrap (i_5 + 1)))))))
 else f_backwashref08_Same_J1 a_0 b_0)
def f_backwashref08_Same (a_0 : GGraph) (b_0 : GGraph) : Option Bool :=
 bindO (f_backwashref08_ints a_0.Parent b_0.Parent) (fun (v_0 : Bool) =>
 (if v_0 = true then bindO (f_backwashref08_ints a_0.Bound b_0.Bound) (fun (v_1 : Bool) =>
 (if (((!v_1) || (!((List.length a_0.Nodes : Int) == (List.length b_0.Nodes : Int)))) || (!((List.length a_0.Edges : Int) == (List.length b_0.Edges : Int)))) = true then some false
 else loopK (f_backwashref08_Same_B3 a_0 b_0) rounds 0))
 else some false))
theorem f_backwashref08_Same_ok (a_0 : GGraph) (b_0 : GGraph)  (r : Bool) (h : f_backwashref08_Same a_0 b_0 = some r) : PureS Try.prog 9 [.agg [.sl 1 (enc a_0.Parent), .sl 1 (enc a_0.Bound), .sl 4 (enc a_0.Nodes), .sl 4 (enc a_0.Edges)], .agg [.sl 1 (enc b_0.Parent), .sl 1 (enc b_0.Bound), .sl 4 (enc b_0.Nodes), .sl 4 (enc b_0.Edges)]] 0 (.v (.bool r)) := by
 unfold PureS
 refine Spec.of_vc Try.func9 rfl (by kernel_rfl) (by kernel_rfl) ?_
 rw [f_backwashref08_Same] at h
 refine sg fun QQ1 hQ1 => ?_
 simp only [go_sem]
 refine seqQ_normal hQ1 ?_
 refine sg fun QQ2 hQ2 => ?_
 refine sg fun QQ3 hQ3 => ?_
 obtain ⟨v_0, ev_0, h⟩ := bindO_some h
 simp only [go_sem]
 refine call0 (f_backwashref08_ints_ok a_0.Parent b_0.Parent v_0 ev_0) (by rfl) (by rfl) ?_
 simp only [go_sem]
 rcases hb_0 : v_0 with _ | _
 ·
  replace h := if_f h hb_0
  simp only [go_sem, hb_0]
  refine seqQ_normal hQ3 ?_
  refine vc_cond_t (by (simp only [go_sem]; done)) ?_
  refine sg fun QQ4 hQ4 => ?_
  simp only [go_sem]
  refine seqQ_normal hQ4 ?_
  refine vc_ret_of ?_
  refine seqQ_ret hQ2 ?_
  simp only [go_sem]
  obtain rfl := Option.some.inj h
  refine retW_pure rfl ?_
  simp only [go_sem, Le]
 ·
  replace h := if_t h hb_0
  obtain ⟨v_1, ev_1, h⟩ := bindO_some h
  simp only [go_sem, hb_0]
  refine call0 (f_backwashref08_ints_ok a_0.Bound b_0.Bound v_1 ev_1) (by rfl) (by rfl) ?_
  simp only [go_sem]
  refine seqQ_normal hQ3 ?_
  refine vc_cond_of (b := (((!v_1) || (!((List.length a_0.Nodes : Int) == (List.length b_0.Nodes : Int)))) || (!((List.length a_0.Edges : Int) == (List.length b_0.Edges : Int))))) (by (simp only [go_sem]; done)) (fun hb_1 => ?_) (fun hb_1 => ?_)
  ·
   replace h := if_t h hb_1
   simp only [bool_to_prop] at hb_1
   refine sg fun QQ5 hQ5 => ?_
   simp only [go_sem]
   refine seqQ_normal hQ5 ?_
   refine vc_ret_of ?_
   refine seqQ_ret hQ2 ?_
   simp only [go_sem]
   obtain rfl := Option.some.inj h
   refine retW_pure rfl ?_
   simp only [go_sem, Le]
  ·
   replace h := if_f h hb_1
   simp only [bool_to_prop] at hb_1
   refine vc_skip_of ?_
   refine seqQ_normal hQ2 ?_
   refine vc_join (by kernel_rfl) ?_
   refine seq_cut_gen (ι := Unit) (fun (_ : Unit) => (⟨0, [(2, .ptr 0 0), (3, .ptr 1 0)], [(0, .box [.sl 1 (enc a_0.Parent), .sl 1 (enc a_0.Bound), .sl 4 (enc a_0.Nodes), .sl 4 (enc a_0.Edges)]), (1, .box [.sl 1 (enc b_0.Parent), .sl 1 (enc b_0.Bound), .sl 4 (enc b_0.Nodes), .sl 4 (enc b_0.Edges)])], 2, 103⟩ : St)) (fun (_ : Unit) => f_backwashref08_Same_J1 a_0 b_0 = some r) ?_ ?_
   ·
    intro QQ17 hQ17
    refine sg fun QQ18 hQ18 => ?_
    simp only [go_sem]
    refine seqQ_normal hQ18 ?_
    refine vc_block_gen ?_
    intro QQ19 hQ19
    refine vc_loop_of ?_
    refine loop_gen (ι := Nat × Int) (fun ((_, i_5) : Nat × Int) => (⟨0, [(2, .ptr 0 0), (3, .ptr 1 0), (5, .v (.int .i64 i_5))], [(0, .box [.sl 1 (enc a_0.Parent), .sl 1 (enc a_0.Bound), .sl 4 (enc a_0.Nodes), .sl 4 (enc a_0.Edges)]), (1, .box [.sl 1 (enc b_0.Parent), .sl 1 (enc b_0.Bound), .sl 4 (enc b_0.Nodes), .sl 4 (enc b_0.Edges)])], 2, 103⟩ : St)) (fun ((n_, i_5) : Nat × Int) => loopK (f_backwashref08_Same_B3 a_0 b_0) n_ i_5 = some r) (fun p => p.1) (rounds, 0) [some 0, some 1] ?_ h ?_
    · simp only [go_sem, Le] <;> (repeat' apply And.intro) <;> first | ((try with_reducible refine TL_eq ?_); omega) | ((try with_reducible refine TL_eq ?_); (simp [go_sem]; done))
    ·
     rintro ⟨n_3, i_5⟩ h QQ20 hQ20
     dsimp only at h
     replace h := loopK_some h
     obtain ⟨m_3, rfl, h⟩ := h
     rw [f_backwashref08_Same_B3] at h
     refine sg fun QQ21 hQ21 => ?_
     refine sg fun QQ22 hQ22 => ?_
     simp only [go_sem]
     refine seqQ_normal hQ22 ?_
     refine vc_cond_of (b := (decide (i_5 < (List.length a_0.Nodes : Int)))) (by (simp only [go_sem]; done)) (fun hb_23 => ?_) (fun hb_23 => ?_)
     ·
      replace h := if_t h hb_23
      simp only [bool_to_prop] at hb_23
      refine vc_skip_of ?_
      refine seqQ_normal hQ21 ?_
      refine sg fun QQ23 hQ23 => ?_
      refine vc_block_gen ?_
      intro QQ24 hQ24
      refine sg fun QQ25 hQ25 => ?_
      refine vc_draw ?_
      refine drawV_all 13 0 12 [0, 1, 0, 7, 15, 0, 32, 0, 224, 480, 0, 0, 3103, 8191] [2, 3] [0, 1, 2, 3, 4, 5, 6, 7, 8, 9] [] [12] [10, 11] mixed (by kernel_rfl) (of_decide_eq_true (by kernel_rfl)) (by kernel_rfl) (by kernel_rfl) (by rfl) ?_
      obtain ⟨xv_16, exv_16, h⟩ := bindO_some h
      obtain ⟨fxv_16a, fxv_16b, fxv_16c⟩ := idx_spec exv_16
      obtain ⟨xv_17, exv_17, h⟩ := bindO_some h
      obtain ⟨fxv_17a, fxv_17b, fxv_17c⟩ := idx_spec exv_17
      simp only [go_sem, fxv_16a, fxv_16b, fxv_16c, fxv_17a, fxv_17b, fxv_17c]
      refine And.intro (by omega) ?_
      refine And.intro (by omega) ?_
      refine seqQ_normal hQ25 ?_
      refine sg fun QQ26 hQ26 => ?_
      simp only [go_sem]
      rcases hb_24 : (((!(xv_16.Kind == xv_17.Kind)) || (!(xv_16.Scope == xv_17.Scope))) || (!(xv_16.Arg == xv_17.Arg))) with _ | _
      ·
       replace h := if_f h hb_24
       obtain ⟨v_7, ev_7, h⟩ := bindO_some h
       simp only [go_sem, hb_24]
       refine call0 (f_backwashref07_Same_ok xv_16.Prog xv_17.Prog v_7 ev_7) (by rfl) (by rfl) ?_
       simp only [go_sem]
       refine seqQ_normal hQ26 ?_
       refine vc_cond_of (b := (!v_7)) (by (simp only [go_sem]; done)) (fun hb_25 => ?_) (fun hb_25 => ?_)
       ·
        replace h := if_t h hb_25
        simp only [bool_to_prop] at hb_25
        refine sg fun QQ27 hQ27 => ?_
        simp only [go_sem]
        refine seqQ_normal hQ27 ?_
        refine vc_ret_of ?_
        refine blockQ_ret hQ24 ?_
        refine seqQ_ret hQ23 ?_
        refine thenQ_ret hQ20 ?_
        refine blockQ_ret hQ19 ?_
        refine thenQ_ret hQ17 ?_
        simp only [go_sem]
        obtain rfl := Option.some.inj h
        refine retW_pure rfl ?_
        simp only [go_sem, Le]
       ·
        replace h := if_f h hb_25
        simp only [bool_to_prop] at hb_25
        refine vc_skip_of ?_
        refine blockQ_normal hQ24 ?_
        refine seqQ_normal hQ23 ?_
        simp only [go_sem]
        refine thenQ_normal hQ20 ?_
        refine ⟨(m_3, IntKind.i64.wrap (i_5 + 1)), [some 0, some 1], ?_, h, Nat.lt_succ_self _⟩
        simp only [go_sem, Le] <;> (repeat' apply And.intro) <;> first | ((try with_reducible refine TL_eq ?_); omega) | ((try with_reducible refine TL_eq ?_); (simp [go_sem]; done))
      ·
       replace h := if_t h hb_24
       simp only [go_sem, hb_24]
       refine seqQ_normal hQ26 ?_
       refine vc_cond_t (by (simp only [go_sem]; done)) ?_
       refine sg fun QQ28 hQ28 => ?_
       simp only [go_sem]
       refine seqQ_normal hQ28 ?_
       refine vc_ret_of ?_
       refine blockQ_ret hQ24 ?_
       refine seqQ_ret hQ23 ?_
       refine thenQ_ret hQ20 ?_
       refine blockQ_ret hQ19 ?_
       refine thenQ_ret hQ17 ?_
       simp only [go_sem]
       obtain rfl := Option.some.inj h
       refine retW_pure rfl ?_
       simp only [go_sem, Le]
     ·
      replace h := if_f h hb_23
      simp only [bool_to_prop] at hb_23
      refine vc_exit_of ?_
      refine seqQ_exit hQ21 ?_
      refine thenQ_exit hQ20 ?_
      refine blockQ_exit hQ19 ?_
      refine thenQ_normal hQ17 ?_
      refine ⟨(), [some 0, some 1], ?_, h⟩
      simp only [go_sem, Le] <;> (repeat' apply And.intro) <;> first | ((try with_reducible refine TL_eq ?_); omega) | ((try with_reducible refine TL_eq ?_); (simp [go_sem]; done))
   ·
    rintro ⟨⟩ h
    try dsimp only at h
    rw [f_backwashref08_Same_J1] at h
    refine vc_join (by kernel_rfl) ?_
    refine seq_go_gen ?_
    intro QQ6 hQ6
    refine sg fun QQ7 hQ7 => ?_
    simp only [go_sem]
    refine seqQ_normal hQ7 ?_
    refine vc_block_gen ?_
    intro QQ8 hQ8
    refine vc_loop_of ?_
    refine loop_gen (ι := Nat × Int) (fun ((_, i_3) : Nat × Int) => (⟨0, [(2, .ptr 0 0), (3, .ptr 1 0), (8, .v (.int .i64 i_3))], [(0, .box [.sl 1 (enc a_0.Parent), .sl 1 (enc a_0.Bound), .sl 4 (enc a_0.Nodes), .sl 4 (enc a_0.Edges)]), (1, .box [.sl 1 (enc b_0.Parent), .sl 1 (enc b_0.Bound), .sl 4 (enc b_0.Nodes), .sl 4 (enc b_0.Edges)])], 2, 103⟩ : St)) (fun ((n_, i_3) : Nat × Int) => loopK (f_backwashref08_Same_B2 a_0 b_0) n_ i_3 = some r) (fun p => p.1) (rounds, 0) [some 0, some 1] ?_ h ?_
    · simp only [go_sem, Le] <;> (repeat' apply And.intro) <;> first | ((try with_reducible refine TL_eq ?_); omega) | ((try with_reducible refine TL_eq ?_); (simp [go_sem]; done))
    ·
     rintro ⟨n_2, i_3⟩ h QQ9 hQ9
     dsimp only at h
     replace h := loopK_some h
     obtain ⟨m_2, rfl, h⟩ := h
     rw [f_backwashref08_Same_B2] at h
     refine sg fun QQ10 hQ10 => ?_
     refine sg fun QQ11 hQ11 => ?_
     simp only [go_sem]
     refine seqQ_normal hQ11 ?_
     refine vc_cond_of (b := (decide (i_3 < (List.length a_0.Edges : Int)))) (by (simp only [go_sem]; done)) (fun hb_15 => ?_) (fun hb_15 => ?_)
     ·
      replace h := if_t h hb_15
      simp only [bool_to_prop] at hb_15
      refine vc_skip_of ?_
      refine seqQ_normal hQ10 ?_
      refine sg fun QQ12 hQ12 => ?_
      refine vc_block_gen ?_
      intro QQ13 hQ13
      refine sg fun QQ14 hQ14 => ?_
      refine vc_draw ?_
      refine drawM_tail 10 [0, 1, 0, 7, 15, 0, 32, 0, 224, 480, 1023] mixed (by kernel_rfl) (of_decide_eq_true (by kernel_rfl)) (by kernel_rfl) ?_
      obtain ⟨xv_10, exv_10, h⟩ := bindO_some h
      obtain ⟨fxv_10a, fxv_10b, fxv_10c⟩ := idx_spec exv_10
      obtain ⟨xv_11, exv_11, h⟩ := bindO_some h
      obtain ⟨fxv_11a, fxv_11b, fxv_11c⟩ := idx_spec exv_11
      simp only [go_sem, fxv_10a, fxv_10b, fxv_10c, fxv_11a, fxv_11b, fxv_11c]
      refine And.intro (by omega) ?_
      refine And.intro (by omega) ?_
      refine seqQ_normal hQ14 ?_
      refine vc_cond_of (b := (!((xv_10.From == xv_11.From) && ((xv_10.To == xv_11.To) && ((xv_10.Port == xv_11.Port) && (xv_10.Exchange == xv_11.Exchange)))))) (by (simp only [go_sem]; done)) (fun hb_16 => ?_) (fun hb_16 => ?_)
      ·
       replace h := if_t h hb_16
       simp only [bool_to_prop] at hb_16
       refine sg fun QQ15 hQ15 => ?_
       simp only [go_sem]
       refine seqQ_normal hQ15 ?_
       refine vc_ret_of ?_
       refine blockQ_ret hQ13 ?_
       refine seqQ_ret hQ12 ?_
       refine thenQ_ret hQ9 ?_
       refine blockQ_ret hQ8 ?_
       refine seqQ_ret hQ6 ?_
       simp only [go_sem]
       obtain rfl := Option.some.inj h
       refine retW_pure rfl ?_
       simp only [go_sem, Le]
      ·
       replace h := if_f h hb_16
       simp only [bool_to_prop] at hb_16
       refine vc_skip_of ?_
       refine blockQ_normal hQ13 ?_
       refine seqQ_normal hQ12 ?_
       simp only [go_sem]
       refine thenQ_normal hQ9 ?_
       refine ⟨(m_2, IntKind.i64.wrap (i_3 + 1)), [some 0, some 1], ?_, h, Nat.lt_succ_self _⟩
       simp only [go_sem, Le] <;> (repeat' apply And.intro) <;> first | ((try with_reducible refine TL_eq ?_); omega) | ((try with_reducible refine TL_eq ?_); (simp [go_sem]; done))
     ·
      replace h := if_f h hb_15
      simp only [bool_to_prop] at hb_15
      refine vc_exit_of ?_
      refine seqQ_exit hQ10 ?_
      refine thenQ_exit hQ9 ?_
      refine blockQ_exit hQ8 ?_
      refine seqQ_normal hQ6 ?_
      refine sg fun QQ16 hQ16 => ?_
      simp only [go_sem]
      refine seqQ_normal hQ16 ?_
      refine vc_ret_of ?_
      simp only [go_sem]
      obtain rfl := Option.some.inj h
      refine retW_pure rfl ?_
      simp only [go_sem, Le]

def f_backwashlaw24_FuseRuns_J1 (v_2 : GFused × Int) : Option Bool :=
 bindO (f_fuse_Make v_2.1.Graph) (fun (v_4 : GFused × Int) =>
 (if (v_4.2 == 0) = true then bindO (f_backwashref08_Same v_4.1.Graph v_2.1.Graph) (fun (v_5 : Bool) =>
 some v_5)
 else some false))
def f_backwashlaw24_FuseRuns_B2 (g_0 : GGraph) (v_2 : GFused × Int) (rec_2 : Int → Option Bool) : Int → Option Bool :=
 fun nv_3 =>
 (if (decide (nv_3 < (List.length g_0.Nodes : Int))) = true then bindO (idx g_0.Nodes nv_3) (fun (xv_15 : GNode) =>
 bindO (idx v_2.1.Now nv_3) (fun (xv_16 : Int) =>
 (if ((decide (xv_16 < 0)) && ((xv_15.Kind == 1) || (xv_15.Kind == 15))) = true then some false
 else (if (decide (0 ≤ xv_16)) = true then bindO (idx v_2.1.Graph.Nodes xv_16) (fun (xv_17 : GNode) =>
 (if (!(xv_17.Kind == xv_15.Kind)) = true then some false
 else rec_2 (IntKind.i64.wrap (nv_3 + 1))))
 else rec_2 (IntKind.i64.wrap (nv_3 + 1))))))
 else f_backwashlaw24_FuseRuns_J1 v_2)
def f_backwashlaw24_FuseRuns (g_0 : GGraph) : Option Bool :=
 bindO (f_backwashlaw24_awake) (fun (v_0 : Bool) =>
 (if (!v_0) = true then some false
 else bindO (f_backwashref08_Short g_0) (fun (v_1 : Bool) =>
 (if (!v_1) = true then some true
 else bindO (f_fuse_Make g_0) (fun (v_2 : GFused × Int) =>
 (if (!(v_2.2 == 0)) = true then some ((List.length v_2.1.Now : Int) == 0)
 else bindO (f_valid_Check v_2.1.Graph) (fun (v_3 : Int × Int) =>
 (if (((!(v_3.1 == 0)) || (decide ((List.length g_0.Nodes : Int) < (List.length v_2.1.Graph.Nodes : Int)))) || (decide ((List.length g_0.Edges : Int) < (List.length v_2.1.Graph.Edges : Int)))) = true then some false
 else loopK (f_backwashlaw24_FuseRuns_B2 g_0 v_2) rounds 0))))))))
theorem f_backwashlaw24_FuseRuns_ok (g_0 : GGraph)  (r : Bool) (h : f_backwashlaw24_FuseRuns g_0 = some r) : PureS Try.prog 4 [.agg [.sl 1 (enc g_0.Parent), .sl 1 (enc g_0.Bound), .sl 4 (enc g_0.Nodes), .sl 4 (enc g_0.Edges)]] 0 (.v (.bool r)) := by
 unfold PureS
 refine Spec.of_vc Try.func4 rfl (by kernel_rfl) (by kernel_rfl) ?_
 rw [f_backwashlaw24_FuseRuns] at h
 refine sg fun QQ1 hQ1 => ?_
 simp only [go_sem]
 refine seqQ_normal hQ1 ?_
 refine sg fun QQ2 hQ2 => ?_
 refine sg fun QQ3 hQ3 => ?_
 obtain ⟨v_0, ev_0, h⟩ := bindO_some h
 simp only [go_sem]
 refine call0 (f_backwashlaw24_awake_ok v_0 ev_0) (by rfl) (by rfl) ?_
 simp only [go_sem]
 refine seqQ_normal hQ3 ?_
 refine vc_cond_of (b := (!v_0)) (by (simp only [go_sem]; done)) (fun hb_0 => ?_) (fun hb_0 => ?_)
 ·
  replace h := if_t h hb_0
  simp only [bool_to_prop] at hb_0
  refine sg fun QQ4 hQ4 => ?_
  simp only [go_sem]
  refine seqQ_normal hQ4 ?_
  refine vc_ret_of ?_
  refine seqQ_ret hQ2 ?_
  simp only [go_sem]
  obtain rfl := Option.some.inj h
  refine retW_pure rfl ?_
  simp only [go_sem, Le]
 ·
  replace h := if_f h hb_0
  simp only [bool_to_prop] at hb_0
  refine vc_skip_of ?_
  refine seqQ_normal hQ2 ?_
  refine sg fun QQ5 hQ5 => ?_
  refine sg fun QQ6 hQ6 => ?_
  obtain ⟨v_1, ev_1, h⟩ := bindO_some h
  simp only [go_sem]
  refine call0 (f_backwashref08_Short_ok g_0 v_1 ev_1) (by rfl) (by rfl) ?_
  simp only [go_sem]
  refine seqQ_normal hQ6 ?_
  refine vc_cond_of (b := (!v_1)) (by (simp only [go_sem]; done)) (fun hb_1 => ?_) (fun hb_1 => ?_)
  ·
   replace h := if_t h hb_1
   simp only [bool_to_prop] at hb_1
   refine sg fun QQ7 hQ7 => ?_
   simp only [go_sem]
   refine seqQ_normal hQ7 ?_
   refine vc_ret_of ?_
   refine seqQ_ret hQ5 ?_
   simp only [go_sem]
   obtain rfl := Option.some.inj h
   refine retW_pure rfl ?_
   simp only [go_sem, Le]
  ·
   replace h := if_f h hb_1
   simp only [bool_to_prop] at hb_1
   refine vc_skip_of ?_
   refine seqQ_normal hQ5 ?_
   refine sg fun QQ8 hQ8 => ?_
   obtain ⟨v_2, ev_2, h⟩ := bindO_some h
   simp only [go_sem]
   refine callD [] (f_fuse_Make_det g_0 v_2 ev_2) (by simp) rfl trivial rfl rfl rfl rfl ?_
   simp only [go_sem]
   refine seqQ_normal hQ8 ?_
   refine sg fun QQ9 hQ9 => ?_
   refine sg fun QQ10 hQ10 => ?_
   simp only [go_sem]
   refine seqQ_normal hQ10 ?_
   refine vc_cond_of (b := (!(v_2.2 == 0))) (by (simp only [go_sem]; done)) (fun hb_2 => ?_) (fun hb_2 => ?_)
   ·
    replace h := if_t h hb_2
    simp only [bool_to_prop] at hb_2
    refine sg fun QQ11 hQ11 => ?_
    simp only [go_sem]
    refine seqQ_normal hQ11 ?_
    refine vc_ret_of ?_
    refine seqQ_ret hQ9 ?_
    simp only [go_sem]
    obtain rfl := Option.some.inj h
    refine retW_pure rfl ?_
    simp only [go_sem, Le]
   ·
    replace h := if_f h hb_2
    simp only [bool_to_prop] at hb_2
    refine vc_skip_of ?_
    refine seqQ_normal hQ9 ?_
    refine sg fun QQ12 hQ12 => ?_
    refine sg fun QQ13 hQ13 => ?_
    obtain ⟨v_3, ev_3, h⟩ := bindO_some h
    simp only [go_sem]
    refine callB (s' := (⟨0, [(0, .agg [.sl 1 (enc g_0.Parent), .sl 1 (enc g_0.Bound), .sl 4 (enc g_0.Nodes), .sl 4 (enc g_0.Edges)]), (1, .ptr 0 0), (2, .v (.bool false)), (3, .ptr 2 0), (4, .v (.int .i64 v_2.2)), (10, .v (.bool v_0)), (11, .v (.bool (!v_0))), (12, .agg [.sl 1 (enc g_0.Parent), .sl 1 (enc g_0.Bound), .sl 4 (enc g_0.Nodes), .sl 4 (enc g_0.Edges)]), (13, .v (.bool v_1)), (14, .v (.bool (!v_1))), (15, .tup [.agg [.sl 1 (enc v_2.1.Graph.Parent), .sl 1 (enc v_2.1.Graph.Bound), .sl 4 (enc v_2.1.Graph.Nodes), .sl 4 (enc v_2.1.Graph.Edges), .osl 1 1 (0) (List.length v_2.1.Now)], .v (.int .i64 v_2.2)]), (16, .agg [.sl 1 (enc g_0.Parent), .sl 1 (enc g_0.Bound), .sl 4 (enc g_0.Nodes), .sl 4 (enc g_0.Edges)]), (17, .tup [.agg [.sl 1 (enc v_2.1.Graph.Parent), .sl 1 (enc v_2.1.Graph.Bound), .sl 4 (enc v_2.1.Graph.Nodes), .sl 4 (enc v_2.1.Graph.Edges), .osl 1 1 (0) (List.length v_2.1.Now)], .v (.int .i64 v_2.2)]), (18, .agg [.sl 1 (enc v_2.1.Graph.Parent), .sl 1 (enc v_2.1.Graph.Bound), .sl 4 (enc v_2.1.Graph.Nodes), .sl 4 (enc v_2.1.Graph.Edges), .osl 1 1 (0) (List.length v_2.1.Now)]), (19, .v (.int .i64 v_2.2)), (20, .v (.int .i64 v_2.2)), (21, .v (.bool (!(v_2.2 == 0)))), (27, .ptr 2 0), (28, .agg [.sl 1 (enc v_2.1.Graph.Parent), .sl 1 (enc v_2.1.Graph.Bound), .sl 4 (enc v_2.1.Graph.Nodes), .sl 4 (enc v_2.1.Graph.Edges)])], [(0, .box [.sl 1 (enc g_0.Parent), .sl 1 (enc g_0.Bound), .sl 4 (enc g_0.Nodes), .sl 4 (enc g_0.Edges)]), (1, .arr 1 (enc v_2.1.Now)), (2, .box [.sl 1 (enc v_2.1.Graph.Parent), .sl 1 (enc v_2.1.Graph.Bound), .sl 4 (enc v_2.1.Graph.Nodes), .sl 4 (enc v_2.1.Graph.Edges), .osl 1 1 (0) (List.length v_2.1.Now)])], 3, 119⟩ : St)) (l := [some 0, some 3, some 4]) (args' := [.agg [.sl 1 (enc v_2.1.Graph.Parent), .sl 1 (enc v_2.1.Graph.Bound), .sl 4 (enc v_2.1.Graph.Nodes), .sl 4 (enc v_2.1.Graph.Edges)]]) ?_ ?_ (f_valid_Check_ok v_2.1.Graph v_3 ev_3) (by rfl) (by rfl) ?_
    · simp only [go_sem, Le] <;> (repeat' apply And.intro) <;> first | ((try with_reducible refine TL_eq ?_); omega) | ((try with_reducible refine TL_eq ?_); (simp [go_sem]; done))
    · simp only [go_sem, Le] <;> (repeat' apply And.intro) <;> ((try with_reducible refine TL_eq ?_); (simp [go_sem]; done))
    simp only [go_sem]
    refine seqQ_normal hQ13 ?_
    refine sg fun QQ14 hQ14 => ?_
    simp only [go_sem]
    refine seqQ_normal hQ14 ?_
    refine vc_cond_of (b := (((!(v_3.1 == 0)) || (decide ((List.length g_0.Nodes : Int) < (List.length v_2.1.Graph.Nodes : Int)))) || (decide ((List.length g_0.Edges : Int) < (List.length v_2.1.Graph.Edges : Int))))) (by (simp only [go_sem]; done)) (fun hb_3 => ?_) (fun hb_3 => ?_)
    ·
     replace h := if_t h hb_3
     simp only [bool_to_prop] at hb_3
     refine sg fun QQ15 hQ15 => ?_
     simp only [go_sem]
     refine seqQ_normal hQ15 ?_
     refine vc_ret_of ?_
     refine seqQ_ret hQ12 ?_
     simp only [go_sem]
     obtain rfl := Option.some.inj h
     refine retW_pure rfl ?_
     simp only [go_sem, Le]
    ·
     replace h := if_f h hb_3
     simp only [bool_to_prop] at hb_3
     refine vc_skip_of ?_
     refine seqQ_normal hQ12 ?_
     refine vc_join (by kernel_rfl) ?_
     refine seq_cut_gen (ι := Unit) (fun (_ : Unit) => (⟨0, [(3, .ptr 0 0)], [(0, .box [.sl 1 (enc v_2.1.Graph.Parent), .sl 1 (enc v_2.1.Graph.Bound), .osl 1 4 (0) (List.length v_2.1.Graph.Nodes), .osl 2 4 (0) (List.length v_2.1.Graph.Edges), .osl 3 1 (0) (List.length v_2.1.Now)]), (1, .arr 4 (enc v_2.1.Graph.Nodes)), (2, .arr 4 (enc v_2.1.Graph.Edges)), (3, .arr 1 (enc v_2.1.Now))], 4, 119⟩ : St)) (fun (_ : Unit) => f_backwashlaw24_FuseRuns_J1 v_2 = some r) ?_ ?_
     ·
      intro QQ18 hQ18
      refine sg fun QQ19 hQ19 => ?_
      simp only [go_sem]
      refine seqQ_normal hQ19 ?_
      refine vc_block_gen ?_
      intro QQ20 hQ20
      refine vc_loop_of ?_
      refine loop_gen (ι := Nat × Int) (fun ((_, nv_3) : Nat × Int) => (⟨0, [(1, .ptr 0 0), (3, .ptr 1 0), (7, .v (.int .i64 nv_3))], [(0, .box [.sl 1 (enc g_0.Parent), .sl 1 (enc g_0.Bound), .sl 4 (enc g_0.Nodes), .sl 4 (enc g_0.Edges)]), (1, .box [.sl 1 (enc v_2.1.Graph.Parent), .sl 1 (enc v_2.1.Graph.Bound), .osl 2 4 (0) (List.length v_2.1.Graph.Nodes), .osl 3 4 (0) (List.length v_2.1.Graph.Edges), .osl 4 1 (0) (List.length v_2.1.Now)]), (2, .arr 4 (enc v_2.1.Graph.Nodes)), (3, .arr 4 (enc v_2.1.Graph.Edges)), (4, .arr 1 (enc v_2.1.Now))], 5, 119⟩ : St)) (fun ((n_, nv_3) : Nat × Int) => loopK (f_backwashlaw24_FuseRuns_B2 g_0 v_2) n_ nv_3 = some r) (fun p => p.1) (rounds, 0) [some 0, some 4, some 1, some 2, some 3] ?_ h ?_
      · simp only [go_sem, Le] <;> (repeat' apply And.intro) <;> first | ((try with_reducible refine TL_eq ?_); omega) | ((try with_reducible refine TL_eq ?_); (simp [go_sem]; done))
      ·
       rintro ⟨n_2, nv_3⟩ h QQ21 hQ21
       dsimp only at h
       replace h := loopK_some h
       obtain ⟨m_2, rfl, h⟩ := h
       rw [f_backwashlaw24_FuseRuns_B2] at h
       refine sg fun QQ22 hQ22 => ?_
       refine sg fun QQ23 hQ23 => ?_
       simp only [go_sem]
       refine seqQ_normal hQ23 ?_
       refine vc_cond_of (b := (decide (nv_3 < (List.length g_0.Nodes : Int)))) (by (simp only [go_sem]; done)) (fun hb_25 => ?_) (fun hb_25 => ?_)
       ·
        replace h := if_t h hb_25
        simp only [bool_to_prop] at hb_25
        refine vc_skip_of ?_
        refine seqQ_normal hQ22 ?_
        refine sg fun QQ24 hQ24 => ?_
        refine vc_block_gen ?_
        intro QQ25 hQ25
        refine sg fun QQ26 hQ26 => ?_
        obtain ⟨xv_15, exv_15, h⟩ := bindO_some h
        obtain ⟨fxv_15a, fxv_15b, fxv_15c⟩ := idx_spec exv_15
        simp only [go_sem, fxv_15a, fxv_15b, fxv_15c]
        refine And.intro (by omega) ?_
        refine seqQ_normal hQ26 ?_
        refine sg fun QQ27 hQ27 => ?_
        refine vc_draw ?_
        refine drawM_tail 34 [0, 1, 0, 7, 15, 31, 63, 127, 255, 511, 1023, 2047, 4095, 8191, 16383, 32767, 65535, 32767, 262143, 524287, 1048575, 2097151, 4194303, 8388607, 16777215, 4194303, 37748735, 4194303, 239075327, 507510783, 1073741823, 2147483647, 4294967295, 4194303, 17179869183, 34359738367, 68719476735] mixed (by kernel_rfl) (of_decide_eq_true (by kernel_rfl)) (by kernel_rfl) ?_
        obtain ⟨xv_16, exv_16, h⟩ := bindO_some h
        obtain ⟨fxv_16a, fxv_16b, fxv_16c⟩ := idx_spec exv_16
        simp only [go_sem, fxv_16a, fxv_16b, fxv_16c]
        refine And.intro (by first | omega | (simp +contextual only [and_self, implies_true, true_and, and_true, imp_self]; done)) ?_
        refine And.intro (by first | omega | (simp +contextual only [and_self, implies_true, true_and, and_true, imp_self]; done)) ?_
        rcases hb_26 : ((decide (xv_16 < 0)) && ((xv_15.Kind == 1) || (xv_15.Kind == 15))) with _ | _
        ·
         replace h := if_f h hb_26
         simp only [go_sem, hb_26, fxv_16a, fxv_16b, fxv_16c]
         refine And.intro (by omega) ?_
         rcases hb_27 : (decide (0 ≤ xv_16)) with _ | _
         ·
          replace h := if_f h hb_27
          simp only [go_sem, hb_27]
          refine seqQ_normal hQ27 ?_
          refine vc_cond_f (by (simp only [go_sem]; done)) ?_
          refine vc_skip_of ?_
          refine blockQ_normal hQ25 ?_
          refine seqQ_normal hQ24 ?_
          simp only [go_sem]
          refine thenQ_normal hQ21 ?_
          refine ⟨(m_2, IntKind.i64.wrap (nv_3 + 1)), [some 0, some 1, some 2, some 3, some 4], ?_, h, Nat.lt_succ_self _⟩
          simp only [go_sem, Le] <;> (repeat' apply And.intro) <;> first | ((try with_reducible refine TL_eq ?_); omega) | ((try with_reducible refine TL_eq ?_); (simp [go_sem]; done))
         ·
          replace h := if_t h hb_27
          obtain ⟨xv_17, exv_17, h⟩ := bindO_some h
          obtain ⟨fxv_17a, fxv_17b, fxv_17c⟩ := idx_spec exv_17
          simp only [go_sem, hb_27, fxv_16a, fxv_16b, fxv_16c, fxv_17a, fxv_17b, fxv_17c]
          refine And.intro (by omega) ?_
          refine And.intro (by omega) ?_
          refine seqQ_normal hQ27 ?_
          refine vc_cond_of (b := (!(xv_17.Kind == xv_15.Kind))) (by (simp only [go_sem]; done)) (fun hb_28 => ?_) (fun hb_28 => ?_)
          ·
           replace h := if_t h hb_28
           simp only [bool_to_prop] at hb_28
           refine sg fun QQ28 hQ28 => ?_
           simp only [go_sem]
           refine seqQ_normal hQ28 ?_
           refine vc_ret_of ?_
           refine blockQ_ret hQ25 ?_
           refine seqQ_ret hQ24 ?_
           refine thenQ_ret hQ21 ?_
           refine blockQ_ret hQ20 ?_
           refine thenQ_ret hQ18 ?_
           simp only [go_sem]
           obtain rfl := Option.some.inj h
           refine retW_pure rfl ?_
           simp only [go_sem, Le]
          ·
           replace h := if_f h hb_28
           simp only [bool_to_prop] at hb_28
           refine vc_skip_of ?_
           refine blockQ_normal hQ25 ?_
           refine seqQ_normal hQ24 ?_
           simp only [go_sem]
           refine thenQ_normal hQ21 ?_
           refine ⟨(m_2, IntKind.i64.wrap (nv_3 + 1)), [some 0, some 1, some 2, some 3, some 4], ?_, h, Nat.lt_succ_self _⟩
           simp only [go_sem, Le] <;> (repeat' apply And.intro) <;> first | ((try with_reducible refine TL_eq ?_); omega) | ((try with_reducible refine TL_eq ?_); (simp [go_sem]; done))
        ·
         replace h := if_t h hb_26
         simp only [go_sem, hb_26]
         refine seqQ_normal hQ27 ?_
         refine vc_cond_t (by (simp only [go_sem]; done)) ?_
         refine sg fun QQ29 hQ29 => ?_
         simp only [go_sem]
         refine seqQ_normal hQ29 ?_
         refine vc_ret_of ?_
         refine blockQ_ret hQ25 ?_
         refine seqQ_ret hQ24 ?_
         refine thenQ_ret hQ21 ?_
         refine blockQ_ret hQ20 ?_
         refine thenQ_ret hQ18 ?_
         simp only [go_sem]
         obtain rfl := Option.some.inj h
         refine retW_pure rfl ?_
         simp only [go_sem, Le]
       ·
        replace h := if_f h hb_25
        simp only [bool_to_prop] at hb_25
        refine vc_exit_of ?_
        refine seqQ_exit hQ22 ?_
        refine thenQ_exit hQ21 ?_
        refine blockQ_exit hQ20 ?_
        refine thenQ_normal hQ18 ?_
        refine ⟨(), [some 1, some 2, some 3, some 4], ?_, h⟩
        simp only [go_sem, Le] <;> (repeat' apply And.intro) <;> first | ((try with_reducible refine TL_eq ?_); omega) | ((try with_reducible refine TL_eq ?_); (simp [go_sem]; done))
     ·
      rintro ⟨⟩ h
      try dsimp only at h
      rw [f_backwashlaw24_FuseRuns_J1] at h
      refine sg fun QQ16 hQ16 => ?_
      obtain ⟨v_4, ev_4, h⟩ := bindO_some h
      simp only [go_sem]
      refine callF_weak (s' := (⟨0, [(3, .ptr 0 0), (105, .ptr 0 0), (106, .agg [.sl 1 (enc v_2.1.Graph.Parent), .sl 1 (enc v_2.1.Graph.Bound), .sl 4 (enc v_2.1.Graph.Nodes), .sl 4 (enc v_2.1.Graph.Edges)])], [(0, .box [.sl 1 (enc v_2.1.Graph.Parent), .sl 1 (enc v_2.1.Graph.Bound), .sl 4 (enc v_2.1.Graph.Nodes), .sl 4 (enc v_2.1.Graph.Edges), .osl 1 1 (0) (List.length v_2.1.Now)]), (1, .arr 1 (enc v_2.1.Now))], 2, 119⟩ : St)) (l := [some 0, some 3]) (args' := [.agg [.sl 1 (enc v_2.1.Graph.Parent), .sl 1 (enc v_2.1.Graph.Bound), .sl 4 (enc v_2.1.Graph.Nodes), .sl 4 (enc v_2.1.Graph.Edges)]]) ?_ ?_ ?_
      · simp only [go_sem, Le] <;> (repeat' apply And.intro) <;> first | ((try with_reducible refine TL_eq ?_); omega) | ((try with_reducible refine TL_eq ?_); (simp [go_sem]; done))
      · simp only [go_sem, Le] <;> (repeat' apply And.intro) <;> ((try with_reducible refine TL_eq ?_); (simp [go_sem]; done))
      refine callD [] (f_fuse_Make_det v_2.1.Graph v_4 ev_4) (by simp) rfl trivial rfl rfl rfl rfl ?_
      simp only [go_sem]
      refine seqQ_normal hQ16 ?_
      refine sg fun QQ17 hQ17 => ?_
      simp only [go_sem]
      rcases hb_16 : (v_4.2 == 0) with _ | _
      ·
       replace h := if_f h hb_16
       simp only [go_sem, hb_16]
       refine seqQ_normal hQ17 ?_
       refine vc_ret_of ?_
       simp only [go_sem]
       obtain rfl := Option.some.inj h
       refine retW_pure rfl ?_
       simp only [go_sem, Le]
      ·
       replace h := if_t h hb_16
       obtain ⟨v_5, ev_5, h⟩ := bindO_some h
       simp only [go_sem, hb_16]
       refine callB (s' := (⟨0, [(3, .ptr 0 0), (4, .v (.int .i64 v_4.2)), (9, .ptr 3 0), (104, .tup [.agg [.sl 1 (enc v_4.1.Graph.Parent), .sl 1 (enc v_4.1.Graph.Bound), .sl 4 (enc v_4.1.Graph.Nodes), .sl 4 (enc v_4.1.Graph.Edges), .osl 2 1 (0) (List.length v_4.1.Now)], .v (.int .i64 v_4.2)]), (105, .ptr 0 0), (106, .agg [.sl 1 (enc v_2.1.Graph.Parent), .sl 1 (enc v_2.1.Graph.Bound), .sl 4 (enc v_2.1.Graph.Nodes), .sl 4 (enc v_2.1.Graph.Edges)]), (107, .tup [.agg [.sl 1 (enc v_4.1.Graph.Parent), .sl 1 (enc v_4.1.Graph.Bound), .sl 4 (enc v_4.1.Graph.Nodes), .sl 4 (enc v_4.1.Graph.Edges), .osl 2 1 (0) (List.length v_4.1.Now)], .v (.int .i64 v_4.2)]), (108, .agg [.sl 1 (enc v_4.1.Graph.Parent), .sl 1 (enc v_4.1.Graph.Bound), .sl 4 (enc v_4.1.Graph.Nodes), .sl 4 (enc v_4.1.Graph.Edges), .osl 2 1 (0) (List.length v_4.1.Now)]), (109, .v (.int .i64 v_4.2)), (110, .v (.int .i64 v_4.2)), (111, .v (.bool true)), (112, .v (.bool true)), (113, .ptr 3 0), (114, .agg [.sl 1 (enc v_4.1.Graph.Parent), .sl 1 (enc v_4.1.Graph.Bound), .sl 4 (enc v_4.1.Graph.Nodes), .sl 4 (enc v_4.1.Graph.Edges)]), (115, .ptr 0 0), (116, .agg [.sl 1 (enc v_2.1.Graph.Parent), .sl 1 (enc v_2.1.Graph.Bound), .sl 4 (enc v_2.1.Graph.Nodes), .sl 4 (enc v_2.1.Graph.Edges)])], [(0, .box [.sl 1 (enc v_2.1.Graph.Parent), .sl 1 (enc v_2.1.Graph.Bound), .sl 4 (enc v_2.1.Graph.Nodes), .sl 4 (enc v_2.1.Graph.Edges), .osl 1 1 (0) (List.length v_2.1.Now)]), (1, .arr 1 (enc v_2.1.Now)), (2, .arr 1 (enc v_4.1.Now)), (3, .box [.sl 1 (enc v_4.1.Graph.Parent), .sl 1 (enc v_4.1.Graph.Bound), .sl 4 (enc v_4.1.Graph.Nodes), .sl 4 (enc v_4.1.Graph.Edges), .osl 2 1 (0) (List.length v_4.1.Now)])], 4, 119⟩ : St)) (l := [some 0, some 1, some 4, some 5]) (args' := [.agg [.sl 1 (enc v_4.1.Graph.Parent), .sl 1 (enc v_4.1.Graph.Bound), .sl 4 (enc v_4.1.Graph.Nodes), .sl 4 (enc v_4.1.Graph.Edges)], .agg [.sl 1 (enc v_2.1.Graph.Parent), .sl 1 (enc v_2.1.Graph.Bound), .sl 4 (enc v_2.1.Graph.Nodes), .sl 4 (enc v_2.1.Graph.Edges)]]) ?_ ?_ (f_backwashref08_Same_ok v_4.1.Graph v_2.1.Graph v_5 ev_5) (by rfl) (by rfl) ?_
       · simp only [go_sem, Le] <;> (repeat' apply And.intro) <;> first | ((try with_reducible refine TL_eq ?_); omega) | ((try with_reducible refine TL_eq ?_); (simp [go_sem]; done))
       · simp only [go_sem, Le] <;> (repeat' apply And.intro) <;> ((try with_reducible refine TL_eq ?_); (simp [go_sem]; done))
       simp only [go_sem]
       refine seqQ_normal hQ17 ?_
       refine vc_ret_of ?_
       simp only [go_sem]
       obtain rfl := Option.some.inj h
       refine retW_pure rfl ?_
       simp only [go_sem, Le]

end Go.Proofs.Ytbcbcdbkdljjlaa
