/-
  What functions of the program compute, each told as a plain function that may give nothing, with the proof that the code does so. No condition beyond those that each theorem names.
-/
import Derived.Test.YtbcbcdbkdljjlaaWalkFS0
set_option linter.unusedSimpArgs false
set_option linter.unusedVariables false
set_option linter.unusedSectionVars false
set_option maxHeartbeats 2000000
set_option maxRecDepth 100000
namespace Go.Proofs.Ytbcbcdbkdljjlaa
open Go Go.RowKit
def f_backwashref09_Check_B5 (g_0 : GGraph) (rec_5 : Int → Option (Int × Int)) : Int → Option (Int × Int) :=
 fun nv_7 =>
 (if (decide (nv_7 < (List.length g_0.Nodes : Int))) = true then bindO (idx g_0.Nodes nv_7) (fun (xv_37 : GNode) =>
 (if (xv_37.Kind == 10) = true then bindO (f_backwashref09_Again g_0 xv_37.Scope) (fun (v_23 : List Bool) =>
 bindO (idx v_23 nv_7) (fun (xv_38 : Bool) =>
 (if xv_38 = true then some (8, nv_7)
 else rec_5 (IntKind.i64.wrap (nv_7 + 1)))))
 else rec_5 (IntKind.i64.wrap (nv_7 + 1))))
 else some (0, 0))
def f_backwashref09_Check_J4 (g_0 : GGraph) : Option (Int × Int) :=
 loopK (f_backwashref09_Check_B5 g_0) rounds 0
def f_backwashref09_Check_J7 (g_0 : GGraph) (nv_9 : Int) (rec_6 : (Int → Option (Int × Int))) (count_27 : Int) : Option (Int × Int) :=
 bindO (idx g_0.Nodes nv_9) (fun (xv_56 : GNode) =>
 bindO (f_backwashref09_Ports xv_56.Kind) (fun (v_26 : Int) =>
 (if (decide (count_27 < v_26)) = true then some (7, nv_9)
 else rec_6 (IntKind.i64.wrap (nv_9 + 1)))))
def f_backwashref09_Check_B8 (g_0 : GGraph) (nv_9 : Int) (rec_6 : (Int → Option (Int × Int))) (rec_8 : Int × Int → Option (Int × Int)) : Int × Int → Option (Int × Int) :=
 fun (count_29, i_23) =>
 (if (decide (i_23 < (List.length g_0.Edges : Int))) = true then bindO (idx g_0.Edges i_23) (fun (xv_59 : GEdge) =>
 (if (xv_59.To == nv_9) = true then rec_8 (IntKind.i64.wrap (count_29 + 1), IntKind.i64.wrap (i_23 + 1))
 else rec_8 (count_29, IntKind.i64.wrap (i_23 + 1))))
 else f_backwashref09_Check_J7 g_0 nv_9 rec_6 count_29)
def f_backwashref09_Check_B6 (g_0 : GGraph) (rec_6 : Int → Option (Int × Int)) : Int → Option (Int × Int) :=
 fun nv_9 =>
 (if (decide (nv_9 < (List.length g_0.Nodes : Int))) = true then loopK (f_backwashref09_Check_B8 g_0 nv_9 rec_6) rounds (0, 0)
 else f_backwashref09_Check_J4 g_0)
def f_backwashref09_Check_J3 (g_0 : GGraph) : Option (Int × Int) :=
 loopK (f_backwashref09_Check_B6 g_0) rounds 0
def f_backwashref09_Check_B9 (g_0 : GGraph) (rec_9 : Int → Option (Int × Int)) : Int → Option (Int × Int) :=
 fun nv_11 =>
 (if (decide (nv_11 < (List.length g_0.Edges : Int))) = true then bindO (f_backwashref09_edge g_0 nv_11) (fun (v_29 : Int) =>
 (if (!(v_29 == 0)) = true then some (v_29, nv_11)
 else rec_9 (IntKind.i64.wrap (nv_11 + 1))))
 else f_backwashref09_Check_J3 g_0)
def f_backwashref09_Check_J2 (g_0 : GGraph) : Option (Int × Int) :=
 loopK (f_backwashref09_Check_B9 g_0) rounds 0
def f_backwashref09_Check_B10 (g_0 : GGraph) (rec_10 : Int → Option (Int × Int)) : Int → Option (Int × Int) :=
 fun nv_13 =>
 (if (decide (nv_13 < (List.length g_0.Nodes : Int))) = true then bindO (f_backwashref09_node g_0 nv_13) (fun (v_32 : Int) =>
 (if (!(v_32 == 0)) = true then some (v_32, nv_13)
 else rec_10 (IntKind.i64.wrap (nv_13 + 1))))
 else f_backwashref09_Check_J2 g_0)
def f_backwashref09_Check_J1 (g_0 : GGraph) : Option (Int × Int) :=
 (if ((((List.length g_0.Nodes : Int) == 0) || (decide (32 < (List.length g_0.Nodes : Int)))) || (decide (64 < (List.length g_0.Edges : Int)))) = true then some (11, 0)
 else loopK (f_backwashref09_Check_B10 g_0) rounds 0)
def f_backwashref09_Check_J12 (s_3 : Int) (rec_11 : (Int → Option (Int × Int))) (ok_10 : Bool) : Option (Int × Int) :=
 (if (!ok_10) = true then some (6, s_3)
 else rec_11 (IntKind.i64.wrap (s_3 + 1)))
def f_backwashref09_Check_J13 (s_3 : Int) (rec_11 : (Int → Option (Int × Int))) (ok_11 : Bool) : Option (Int × Int) :=
 (if (!ok_11) = true then some (6, s_3)
 else rec_11 (IntKind.i64.wrap (s_3 + 1)))
def f_backwashref09_Check_B11 (g_0 : GGraph) (rec_11 : Int → Option (Int × Int)) : Int → Option (Int × Int) :=
 fun s_3 =>
 (if (decide (s_3 < (List.length g_0.Parent : Int))) = true then bindO (idx g_0.Parent s_3) (fun (xv_68 : Int) =>
 (if (xv_68 == (-1)) = true then bindO (idx g_0.Bound s_3) (fun (xv_71 : Int) =>
 (if (decide (0 < s_3)) = true then (if (decide (0 ≤ xv_68)) = true then (if (decide (xv_68 < s_3)) = true then (if (decide (1 ≤ xv_71)) = true then (if (decide (xv_71 ≤ 64)) = true then bindO (f_backwashref09_Chain g_0 s_3) (fun (v_44 : List Int) =>
 f_backwashref09_Check_J13 s_3 rec_11 (decide ((List.length v_44 : Int) ≤ 4)))
 else f_backwashref09_Check_J13 s_3 rec_11 false)
 else f_backwashref09_Check_J13 s_3 rec_11 false)
 else f_backwashref09_Check_J13 s_3 rec_11 false)
 else f_backwashref09_Check_J13 s_3 rec_11 false)
 else f_backwashref09_Check_J13 s_3 rec_11 (xv_71 == 0)))
 else (if (decide (0 < s_3)) = true then (if (decide (0 ≤ xv_68)) = true then (if (decide (xv_68 < s_3)) = true then bindO (idx g_0.Bound s_3) (fun (xv_70 : Int) =>
 (if (decide (1 ≤ xv_70)) = true then (if (decide (xv_70 ≤ 64)) = true then bindO (f_backwashref09_Chain g_0 s_3) (fun (v_42 : List Int) =>
 f_backwashref09_Check_J12 s_3 rec_11 (decide ((List.length v_42 : Int) ≤ 4)))
 else f_backwashref09_Check_J12 s_3 rec_11 false)
 else f_backwashref09_Check_J12 s_3 rec_11 false))
 else f_backwashref09_Check_J12 s_3 rec_11 false)
 else f_backwashref09_Check_J12 s_3 rec_11 false)
 else f_backwashref09_Check_J12 s_3 rec_11 false)))
 else f_backwashref09_Check_J1 g_0)
def f_backwashref09_Check (g_0 : GGraph) : Option (Int × Int) :=
 (if ((((List.length g_0.Parent : Int) == 0) || (decide (8 < (List.length g_0.Parent : Int)))) || (!((List.length g_0.Parent : Int) == (List.length g_0.Bound : Int)))) = true then some (6, 0)
 else loopK (f_backwashref09_Check_B11 g_0) rounds 0)
def f_fuse_work_useful_B3 (w_0 : GFuse_work) (rec_2 : (Bool × (List Bool) → Option (List Bool))) (rec_3 : Bool × Int × (List Bool) → Option (List Bool)) : Bool × Int × (List Bool) → Option (List Bool) :=
 fun (more_7, t35_5, a_10) =>
 (if (decide (t35_5 < (List.length w_0.g.Edges : Int))) = true then bindO (idx w_0.g.Edges t35_5) (fun (xv_30 : GEdge) =>
 bindO (idx a_10 xv_30.To) (fun (xv_31 : Bool) =>
 (if xv_31 = true then bindO (idx a_10 xv_30.From) (fun (xv_32 : Bool) =>
 (if (!xv_32) = true then rec_3 (true, IntKind.i64.wrap (t35_5 + 1), (List.set a_10 (Int.toNat xv_30.From) true))
 else rec_3 (more_7, IntKind.i64.wrap (t35_5 + 1), a_10)))
 else rec_3 (more_7, IntKind.i64.wrap (t35_5 + 1), a_10))))
 else rec_2 (more_7, a_10))
def f_fuse_work_useful_B2 (w_0 : GFuse_work) (rec_2 : Bool × (List Bool) → Option (List Bool)) : Bool × (List Bool) → Option (List Bool) :=
 fun (more_5, a_8) =>
 (if more_5 = true then loopK (f_fuse_work_useful_B3 w_0 rec_2) rounds (false, 0, a_8)
 else some a_8)
def f_fuse_work_useful_J1 (w_0 : GFuse_work) (a_2 : List Bool) : Option (List Bool) :=
 loopK (f_fuse_work_useful_B2 w_0) rounds (true, a_2)
def f_fuse_work_useful_B4 (w_0 : GFuse_work) (rec_4 : Int × (List Bool) → Option (List Bool)) : Int × (List Bool) → Option (List Bool) :=
 fun (t18_3, a_12) =>
 (if (decide (t18_3 < (List.length w_0.g.Nodes : Int))) = true then bindO (idx w_0.g.Nodes t18_3) (fun (xv_37 : GNode) =>
 bindO (idx a_12 t18_3) (fun (xv_38 : Bool) =>
 rec_4 (IntKind.i64.wrap (t18_3 + 1), (List.set a_12 (Int.toNat t18_3) (xv_37.Kind == 15)))))
 else f_fuse_work_useful_J1 w_0 a_12)
def f_fuse_work_useful (w_0 : GFuse_work) : Option (List Bool) :=
 guardO (0 ≤ (List.length w_0.g.Nodes : Int) ∧ (List.length w_0.g.Nodes : Int) * 1 ≤ 140737488355328) (
 loopK (f_fuse_work_useful_B4 w_0) rounds (0, (List.replicate (List.length w_0.g.Nodes) false)))
theorem f_fuse_work_useful_det (w_0 : GFuse_work)  (r : List Bool) (h : f_fuse_work_useful w_0 = some r) : DetS Try.prog 25 [.agg [.sl 1 (enc w_0.g.Parent), .sl 1 (enc w_0.g.Bound), .sl 4 (enc w_0.g.Nodes), .sl 4 (enc w_0.g.Edges), .sl 1 (enc w_0.gone)]] [] 0 (.osl 0 1 (0) (List.length r)) [(0, .arr 1 (enc r))] 1 := by
 unfold DetS
 refine Spec.of_vc Try.func25 rfl (by kernel_rfl) (by kernel_rfl) ?_
 rw [f_fuse_work_useful] at h
 refine sg fun QQ1 hQ1 => ?_
 simp only [go_sem]
 refine seqQ_normal hQ1 ?_
 refine sg fun QQ2 hQ2 => ?_
 obtain ⟨g_0, h⟩ := guardO_some h
 have rf_0 : List.replicate (List.length w_0.g.Nodes) [.v (.bool false)] = enc (List.replicate (List.length w_0.g.Nodes) false) := by simp [enc, row_int, row_bool, row_list, enc_nil]
 simp only [go_sem, g_0]
 simp only [rf_0]
 refine seqQ_normal hQ2 ?_
 refine vc_join (by kernel_rfl) ?_
 refine seq_cut_gen (ι := (List Bool)) (fun (a_2 : (List Bool)) => (⟨0, [(1, .ptr 0 0), (3, .osl 1 1 (0) (List.length a_2))], [(0, .box [.sl 1 (enc w_0.g.Parent), .sl 1 (enc w_0.g.Bound), .sl 4 (enc w_0.g.Nodes), .sl 4 (enc w_0.g.Edges), .sl 1 (enc w_0.gone)]), (1, .arr 1 (enc a_2))], 2, 58⟩ : St)) (fun (a_2 : (List Bool)) => f_fuse_work_useful_J1 w_0 a_2 = some r) ?_ ?_
 ·
  intro QQ21 hQ21
  refine sg fun QQ22 hQ22 => ?_
  simp only [go_sem]
  refine seqQ_normal hQ22 ?_
  refine vc_block_gen ?_
  intro QQ23 hQ23
  refine vc_loop_of ?_
  refine loop_gen (ι := Nat × Int × (List Bool)) (fun ((_, t18_3, a_12) : Nat × Int × (List Bool)) => (⟨0, [(1, .ptr 0 0), (3, .osl 1 1 (0) (List.length a_12)), (16, .sl 4 (enc w_0.g.Nodes)), (17, .v (.int .i64 (List.length w_0.g.Nodes : Int))), (18, .v (.int .i64 t18_3))], [(0, .box [.sl 1 (enc w_0.g.Parent), .sl 1 (enc w_0.g.Bound), .sl 4 (enc w_0.g.Nodes), .sl 4 (enc w_0.g.Edges), .sl 1 (enc w_0.gone)]), (1, .arr 1 (enc a_12))], 2, 58⟩ : St)) (fun ((n_, t18_3, a_12) : Nat × Int × (List Bool)) => loopK (f_fuse_work_useful_B4 w_0) n_ (t18_3, a_12) = some r) (fun p => p.1) (rounds, 0, (List.replicate (List.length w_0.g.Nodes) false)) [some 0, some 1] ?_ h ?_
  · simp only [go_sem, Le] <;> (repeat' apply And.intro) <;> first | ((try with_reducible refine TL_eq ?_); omega) | ((try with_reducible refine TL_eq ?_); (simp [go_sem]; done))
  ·
   rintro ⟨n_4, t18_3, a_12⟩ h QQ24 hQ24
   dsimp only at h
   replace h := loopK_some h
   obtain ⟨m_4, rfl, h⟩ := h
   rw [f_fuse_work_useful_B4] at h
   refine sg fun QQ25 hQ25 => ?_
   simp only [go_sem]
   refine seqQ_normal hQ25 ?_
   refine sg fun QQ26 hQ26 => ?_
   refine vc_cond_of (b := (decide (t18_3 < (List.length w_0.g.Nodes : Int)))) (by (simp only [go_sem]; done)) (fun hb_34 => ?_) (fun hb_34 => ?_)
   ·
    replace h := if_t h hb_34
    simp only [bool_to_prop] at hb_34
    refine vc_skip_of ?_
    refine seqQ_normal hQ26 ?_
    refine sg fun QQ27 hQ27 => ?_
    refine vc_block_gen ?_
    intro QQ28 hQ28
    refine sg fun QQ29 hQ29 => ?_
    obtain ⟨xv_37, exv_37, h⟩ := bindO_some h
    obtain ⟨fxv_37a, fxv_37b, fxv_37c⟩ := idx_spec exv_37
    simp only [go_sem, fxv_37a, fxv_37b, fxv_37c]
    refine And.intro (by omega) ?_
    refine seqQ_normal hQ29 ?_
    obtain ⟨xv_38, exv_38, h⟩ := bindO_some h
    obtain ⟨fxv_38a, fxv_38b, fxv_38c⟩ := idx_spec exv_38
    have rf_15 : (enc a_12).set (Int.toNat t18_3) [.v (.bool (xv_37.Kind == 15))] = enc (List.set a_12 (Int.toNat t18_3) (xv_37.Kind == 15)) := by exact enc_set _ _ _
    simp only [go_sem, fxv_38a, fxv_38b, fxv_38c, rf_15]
    refine And.intro (by omega) ?_
    refine blockQ_normal hQ28 ?_
    refine seqQ_normal hQ27 ?_
    simp only [go_sem]
    refine thenQ_normal hQ24 ?_
    refine ⟨(m_4, IntKind.i64.wrap (t18_3 + 1), (List.set a_12 (Int.toNat t18_3) (xv_37.Kind == 15))), [some 0, some 1], ?_, h, Nat.lt_succ_self _⟩
    simp only [go_sem, Le] <;> (repeat' apply And.intro) <;> first | ((try with_reducible refine TL_eq ?_); omega) | ((try with_reducible refine TL_eq ?_); (simp [go_sem]; done))
   ·
    replace h := if_f h hb_34
    simp only [bool_to_prop] at hb_34
    refine vc_exit_of ?_
    refine seqQ_exit hQ26 ?_
    refine thenQ_exit hQ24 ?_
    refine blockQ_exit hQ23 ?_
    refine thenQ_normal hQ21 ?_
    refine ⟨a_12, [some 0, some 1], ?_, h⟩
    simp only [go_sem, Le] <;> (repeat' apply And.intro) <;> first | ((try with_reducible refine TL_eq ?_); omega) | ((try with_reducible refine TL_eq ?_); (simp [go_sem]; done))
 ·
  rintro a_2 h
  try dsimp only at h
  rw [f_fuse_work_useful_J1] at h
  refine vc_join (by kernel_rfl) ?_
  refine seq_go_gen ?_
  intro QQ3 hQ3
  refine sg fun QQ4 hQ4 => ?_
  simp only [go_sem]
  refine seqQ_normal hQ4 ?_
  refine vc_block_gen ?_
  intro QQ5 hQ5
  refine vc_loop_of ?_
  refine loop_gen (ι := Nat × Bool × (List Bool)) (fun ((_, more_5, a_8) : Nat × Bool × (List Bool)) => (⟨0, [(1, .ptr 0 0), (3, .osl 1 1 (0) (List.length a_8)), (6, .v (.bool more_5))], [(0, .box [.sl 1 (enc w_0.g.Parent), .sl 1 (enc w_0.g.Bound), .sl 4 (enc w_0.g.Nodes), .sl 4 (enc w_0.g.Edges), .sl 1 (enc w_0.gone)]), (1, .arr 1 (enc a_8))], 2, 58⟩ : St)) (fun ((n_, more_5, a_8) : Nat × Bool × (List Bool)) => loopK (f_fuse_work_useful_B2 w_0) n_ (more_5, a_8) = some r) (fun p => p.1) (rounds, true, a_2) [some 0, some 1] ?_ h ?_
  · simp only [go_sem, Le] <;> (repeat' apply And.intro) <;> first | ((try with_reducible refine TL_eq ?_); omega) | ((try with_reducible refine TL_eq ?_); (simp [go_sem]; done))
  ·
   rintro ⟨n_2, more_5, a_8⟩ h QQ6 hQ6
   dsimp only at h
   replace h := loopK_some h
   obtain ⟨m_2, rfl, h⟩ := h
   rw [f_fuse_work_useful_B2] at h
   refine sg fun QQ7 hQ7 => ?_
   refine sg fun QQ8 hQ8 => ?_
   simp only [go_sem]
   refine seqQ_normal hQ8 ?_
   refine vc_cond_of (b := more_5) (by (simp only [go_sem]; done)) (fun hb_22 => ?_) (fun hb_22 => ?_)
   ·
    replace h := if_t h hb_22
    refine vc_skip_of ?_
    refine seqQ_normal hQ7 ?_
    refine vc_block_gen ?_
    intro QQ9 hQ9
    refine sg fun QQ10 hQ10 => ?_
    simp only [go_sem]
    refine seqQ_normal hQ10 ?_
    refine sg fun QQ11 hQ11 => ?_
    simp only [go_sem]
    refine seqQ_normal hQ11 ?_
    refine vc_block_gen ?_
    intro QQ12 hQ12
    refine vc_loop_of ?_
    refine loop_gen (ι := Nat × Bool × Int × (List Bool)) (fun ((_, more_7, t35_5, a_10) : Nat × Bool × Int × (List Bool)) => (⟨0, [(1, .ptr 0 0), (3, .osl 1 1 (0) (List.length a_10)), (6, .v (.bool more_7)), (33, .sl 4 (enc w_0.g.Edges)), (34, .v (.int .i64 (List.length w_0.g.Edges : Int))), (35, .v (.int .i64 t35_5))], [(0, .box [.sl 1 (enc w_0.g.Parent), .sl 1 (enc w_0.g.Bound), .sl 4 (enc w_0.g.Nodes), .sl 4 (enc w_0.g.Edges), .sl 1 (enc w_0.gone)]), (1, .arr 1 (enc a_10))], 2, 58⟩ : St)) (fun ((n_, more_7, t35_5, a_10) : Nat × Bool × Int × (List Bool)) => loopK (f_fuse_work_useful_B3 w_0 (loopK (f_fuse_work_useful_B2 w_0) m_2)) n_ (more_7, t35_5, a_10) = some r) (fun p => p.1) (rounds, false, 0, a_8) [some 0, some 1] ?_ h ?_
    · simp only [go_sem, Le] <;> (repeat' apply And.intro) <;> first | ((try with_reducible refine TL_eq ?_); omega) | ((try with_reducible refine TL_eq ?_); (simp [go_sem]; done))
    ·
     rintro ⟨n_3, more_7, t35_5, a_10⟩ h QQ13 hQ13
     dsimp only at h
     replace h := loopK_some h
     obtain ⟨m_3, rfl, h⟩ := h
     rw [f_fuse_work_useful_B3] at h
     refine sg fun QQ14 hQ14 => ?_
     simp only [go_sem]
     refine seqQ_normal hQ14 ?_
     refine sg fun QQ15 hQ15 => ?_
     refine vc_cond_of (b := (decide (t35_5 < (List.length w_0.g.Edges : Int)))) (by (simp only [go_sem]; done)) (fun hb_29 => ?_) (fun hb_29 => ?_)
     ·
      replace h := if_t h hb_29
      simp only [bool_to_prop] at hb_29
      refine vc_skip_of ?_
      refine seqQ_normal hQ15 ?_
      refine vc_join (by kernel_rfl) ?_
      refine seq_go_gen ?_
      intro QQ16 hQ16
      refine vc_block_gen ?_
      intro QQ17 hQ17
      refine sg fun QQ18 hQ18 => ?_
      obtain ⟨xv_30, exv_30, h⟩ := bindO_some h
      obtain ⟨fxv_30a, fxv_30b, fxv_30c⟩ := idx_spec exv_30
      simp only [go_sem, fxv_30a, fxv_30b, fxv_30c]
      refine And.intro (by omega) ?_
      refine seqQ_normal hQ18 ?_
      refine sg fun QQ19 hQ19 => ?_
      obtain ⟨xv_31, exv_31, h⟩ := bindO_some h
      obtain ⟨fxv_31a, fxv_31b, fxv_31c⟩ := idx_spec exv_31
      simp only [go_sem, fxv_31a, fxv_31b, fxv_31c]
      refine And.intro (by omega) ?_
      rcases hb_30 : xv_31 with _ | _
      ·
       replace h := if_f h hb_30
       simp only [go_sem, hb_30]
       refine seqQ_normal hQ19 ?_
       refine vc_cond_f (by (simp only [go_sem]; done)) ?_
       refine vc_skip_of ?_
       refine blockQ_normal hQ17 ?_
       refine seqQ_normal hQ16 ?_
       simp only [go_sem]
       refine thenQ_normal hQ13 ?_
       refine ⟨(m_3, more_7, IntKind.i64.wrap (t35_5 + 1), a_10), [some 0, some 1], ?_, h, Nat.lt_succ_self _⟩
       simp only [go_sem, Le] <;> (repeat' apply And.intro) <;> first | ((try with_reducible refine TL_eq ?_); omega) | ((try with_reducible refine TL_eq ?_); (simp [go_sem]; done))
      ·
       replace h := if_t h hb_30
       obtain ⟨xv_32, exv_32, h⟩ := bindO_some h
       obtain ⟨fxv_32a, fxv_32b, fxv_32c⟩ := idx_spec exv_32
       simp only [go_sem, hb_30, fxv_32a, fxv_32b, fxv_32c]
       refine And.intro (by omega) ?_
       refine seqQ_normal hQ19 ?_
       refine vc_cond_of (b := (!xv_32)) (by (simp only [go_sem]; done)) (fun hb_31 => ?_) (fun hb_31 => ?_)
       ·
        replace h := if_t h hb_31
        simp only [bool_to_prop] at hb_31
        have rf_12 : (enc a_10).set (Int.toNat xv_30.From) [.v (.bool true)] = enc (List.set a_10 (Int.toNat xv_30.From) true) := by exact enc_set _ _ _
        simp only [go_sem, fxv_32a, fxv_32b, fxv_32c, rf_12]
        refine And.intro (by omega) ?_
        refine blockQ_normal hQ17 ?_
        refine seqQ_normal hQ16 ?_
        simp only [go_sem]
        refine thenQ_normal hQ13 ?_
        refine ⟨(m_3, true, IntKind.i64.wrap (t35_5 + 1), (List.set a_10 (Int.toNat xv_30.From) true)), [some 0, some 1], ?_, h, Nat.lt_succ_self _⟩
        simp only [go_sem, Le] <;> (repeat' apply And.intro) <;> first | ((try with_reducible refine TL_eq ?_); omega) | ((try with_reducible refine TL_eq ?_); (simp [go_sem]; done))
       ·
        replace h := if_f h hb_31
        simp only [bool_to_prop] at hb_31
        refine vc_skip_of ?_
        refine blockQ_normal hQ17 ?_
        refine seqQ_normal hQ16 ?_
        simp only [go_sem]
        refine thenQ_normal hQ13 ?_
        refine ⟨(m_3, more_7, IntKind.i64.wrap (t35_5 + 1), a_10), [some 0, some 1], ?_, h, Nat.lt_succ_self _⟩
        simp only [go_sem, Le] <;> (repeat' apply And.intro) <;> first | ((try with_reducible refine TL_eq ?_); omega) | ((try with_reducible refine TL_eq ?_); (simp [go_sem]; done))
     ·
      replace h := if_f h hb_29
      simp only [bool_to_prop] at hb_29
      refine vc_exit_of ?_
      refine seqQ_exit hQ15 ?_
      refine thenQ_exit hQ13 ?_
      refine blockQ_exit hQ12 ?_
      refine blockQ_normal hQ9 ?_
      refine thenQ_normal hQ6 ?_
      refine ⟨(m_2, more_7, a_10), [some 0, some 1], ?_, h, Nat.lt_succ_self _⟩
      simp only [go_sem, Le] <;> (repeat' apply And.intro) <;> first | ((try with_reducible refine TL_eq ?_); omega) | ((try with_reducible refine TL_eq ?_); (simp [go_sem]; done))
   ·
    replace h := if_f h hb_22
    refine vc_exit_of ?_
    refine seqQ_exit hQ7 ?_
    refine thenQ_exit hQ6 ?_
    refine blockQ_exit hQ5 ?_
    refine seqQ_normal hQ3 ?_
    refine sg fun QQ20 hQ20 => ?_
    simp only [go_sem]
    refine seqQ_normal hQ20 ?_
    refine vc_ret_of ?_
    simp only [go_sem]
    obtain rfl := Option.some.inj h
    refine retW_det [some 1] ?_
    simp only [go_sem, Le]
def f_backwashref24_reach_s3_0_B1 (g_0 : GGraph) (l_0 : List GEdge) (nv_0 : Int) (self : GGraph → (List GEdge) → Int → (List Bool) → Option (Bool × (List Bool))) (rec_1 : Int × (List Bool) → Option (Bool × (List Bool))) : Int × (List Bool) → Option (Bool × (List Bool)) :=
 fun (i_1, a_1) =>
 (if (decide (i_1 < (List.length l_0 : Int))) = true then bindO (idx l_0 i_1) (fun (xv_6 : GEdge) =>
 (if (xv_6.From == nv_0) = true then bindO (idx a_1 xv_6.To) (fun (xv_7 : Bool) =>
 (if xv_7 = true then rec_1 (IntKind.i64.wrap (i_1 + 1), a_1)
 else bindO (self g_0 l_0 xv_6.To a_1) (fun (v_2 : Bool × (List Bool)) =>
 guardO (List.length v_2.2 = List.length a_1) (
 (if v_2.1 = true then some (true, v_2.2)
 else rec_1 (IntKind.i64.wrap (i_1 + 1), v_2.2))))))
 else rec_1 (IntKind.i64.wrap (i_1 + 1), a_1)))
 else some (false, a_1))
def f_backwashref24_reach_s3_0_R (self : GGraph → (List GEdge) → Int → (List Bool) → Option (Bool × (List Bool))) (g_0 : GGraph) (l_0 : List GEdge) (nv_0 : Int) (seen_0 : List Bool) : Option (Bool × (List Bool)) :=
 bindO (idx g_0.Nodes nv_0) (fun (xv_0 : GNode) =>
 (if (xv_0.Kind == 15) = true then some (true, seen_0)
 else bindO (idx seen_0 nv_0) (fun (xv_1 : Bool) =>
 loopK (f_backwashref24_reach_s3_0_B1 g_0 l_0 nv_0 self) rounds (0, (List.set seen_0 (Int.toNat nv_0) true)))))
def f_backwashref24_reach_s3_0_D : Nat → GGraph → (List GEdge) → Int → (List Bool) → Option (Bool × (List Bool))
 | 0 => fun _ _ _ _ => none
 | n + 1 => f_backwashref24_reach_s3_0_R (f_backwashref24_reach_s3_0_D n)
def f_backwashref24_reach_s3_0 (g_0 : GGraph) (l_0 : List GEdge) (nv_0 : Int) (seen_0 : List Bool) : Option (Bool × (List Bool)) := f_backwashref24_reach_s3_0_D rounds g_0 l_0 nv_0 seen_0
def f_slices_Clone_int (s_0 : List Int) : Option (List Int) :=
 guardO ((List.length ([] : List Int) + List.length s_0) * 8 ≤ 140737488355328) (
 some (([] : List Int) ++ s_0))
theorem f_slices_Clone_int_det (s_0 : List Int)  (r : List Int) (h : f_slices_Clone_int s_0 = some r) : DetS Try.prog 32 [.sl 1 (enc s_0)] [] 0 (.osl 0 1 (0) (List.length r)) [(0, .arr 1 (enc r))] 1 := by
 unfold DetS
 refine Spec.of_vc Try.func32 rfl (by kernel_rfl) (by kernel_rfl) ?_
 rw [f_slices_Clone_int] at h
 refine sg fun QQ1 hQ1 => ?_
 simp only [go_sem]
 refine seqQ_normal hQ1 ?_
 refine sg fun QQ2 hQ2 => ?_
 refine sg fun QQ3 hQ3 => ?_
 simp only [go_sem]
 intro nb_0 hnb_0
 rcases nb_0 with _ | _
 ·
  refine seqQ_normal hQ3 ?_
  refine vc_cond_f (by (simp only [go_sem]; done)) ?_
  refine vc_skip_of ?_
  refine seqQ_normal hQ2 ?_
  refine sg fun QQ4 hQ4 => ?_
  obtain ⟨g_0, h⟩ := guardO_some h
  simp only [List.length_cons, List.length_nil, Nat.zero_add, List.length_append] at g_0
  have rf_0 : enc ([] : List Int) ++ enc s_0 = enc (([] : List Int) ++ s_0) := by exact (enc_app ([] : List Int) s_0).symm
  simp only [go_sem, g_0, rf_0]
  refine seqQ_normal hQ4 ?_
  refine vc_ret_of ?_
  simp only [go_sem]
  obtain rfl := Option.some.inj h
  refine retW_det [some 1] ?_
  simp only [go_sem, Le]
 ·
  have hE_nb_0 : s_0 = [] := by cases hq : (s_0) with | nil => rfl | cons y ys => exact absurd (hnb_0 (by rw [hq]; simp [enc])) (by simp)
  simp only [hE_nb_0] at h
  refine seqQ_normal hQ3 ?_
  refine vc_cond_t (by (simp only [go_sem]; done)) ?_
  refine sg fun QQ5 hQ5 => ?_
  simp only [go_sem]
  refine seqQ_normal hQ5 ?_
  refine vc_ret_of ?_
  refine seqQ_ret hQ2 ?_
  simp only [go_sem]
  obtain rfl := Option.some.inj h
  refine retW_det [none] ?_
  simp only [go_sem, Le] <;> (repeat' apply And.intro) <;> ((try with_reducible refine TL_eq ?_); (simp [go_sem]; done))
theorem f_slices_Clone_int_ok (s_0 : List Int)  (r : List Int) (h : f_slices_Clone_int s_0 = some r) : PureS Try.prog 32 [.sl 1 (enc s_0)] 0 (.sl 1 (enc r)) := by
 refine (f_slices_Clone_int_det s_0  r h).pure ?_
 simp only [go_sem, Le] <;> (repeat' apply And.intro) <;> ((try with_reducible refine TL_eq ?_); (simp [go_sem]; done))

def f_slices_Clone_Ins (s_0 : List GIns) : Option (List GIns) :=
 guardO ((List.length ([] : List GIns) + List.length s_0) * 16 ≤ 140737488355328) (
 some (([] : List GIns) ++ s_0))
theorem f_slices_Clone_Ins_det (s_0 : List GIns)  (r : List GIns) (h : f_slices_Clone_Ins s_0 = some r) : DetS Try.prog 33 [.sl 2 (enc s_0)] [] 0 (.osl 0 2 (0) (List.length r)) [(0, .arr 2 (enc r))] 1 := by
 unfold DetS
 refine Spec.of_vc Try.func33 rfl (by kernel_rfl) (by kernel_rfl) ?_
 rw [f_slices_Clone_Ins] at h
 refine sg fun QQ1 hQ1 => ?_
 simp only [go_sem]
 refine seqQ_normal hQ1 ?_
 refine sg fun QQ2 hQ2 => ?_
 refine sg fun QQ3 hQ3 => ?_
 simp only [go_sem]
 intro nb_0 hnb_0
 rcases nb_0 with _ | _
 ·
  refine seqQ_normal hQ3 ?_
  refine vc_cond_f (by (simp only [go_sem]; done)) ?_
  refine vc_skip_of ?_
  refine seqQ_normal hQ2 ?_
  refine sg fun QQ4 hQ4 => ?_
  obtain ⟨g_0, h⟩ := guardO_some h
  simp only [List.length_cons, List.length_nil, Nat.zero_add, List.length_append] at g_0
  have rf_0 : enc ([] : List GIns) ++ enc s_0 = enc (([] : List GIns) ++ s_0) := by exact (enc_app ([] : List GIns) s_0).symm
  simp only [go_sem, g_0, rf_0]
  refine seqQ_normal hQ4 ?_
  refine vc_ret_of ?_
  simp only [go_sem]
  obtain rfl := Option.some.inj h
  refine retW_det [some 1] ?_
  simp only [go_sem, Le]
 ·
  have hE_nb_0 : s_0 = [] := by cases hq : (s_0) with | nil => rfl | cons y ys => exact absurd (hnb_0 (by rw [hq]; simp [enc])) (by simp)
  simp only [hE_nb_0] at h
  refine seqQ_normal hQ3 ?_
  refine vc_cond_t (by (simp only [go_sem]; done)) ?_
  refine sg fun QQ5 hQ5 => ?_
  simp only [go_sem]
  refine seqQ_normal hQ5 ?_
  refine vc_ret_of ?_
  refine seqQ_ret hQ2 ?_
  simp only [go_sem]
  obtain rfl := Option.some.inj h
  refine retW_det [none] ?_
  simp only [go_sem, Le] <;> (repeat' apply And.intro) <;> ((try with_reducible refine TL_eq ?_); (simp [go_sem]; done))
def f_fuse_work_done_B2 (w_0 : GFuse_work) (v_0 : List Int) (v_1 : List Int) (a_4 : List GNode) (a_5 : List Int) (rec_2 : Int × (List GEdge) → Option GFused) : Int × (List GEdge) → Option GFused :=
 fun (t67_1, a_7) =>
 (if (decide (t67_1 < (List.length w_0.g.Edges : Int))) = true then bindO (idx w_0.g.Edges t67_1) (fun (xv_18 : GEdge) =>
 bindO (idx a_5 xv_18.From) (fun (xv_19 : Int) =>
 bindO (idx a_5 xv_18.To) (fun (xv_20 : Int) =>
 guardO ((List.length a_7 + List.length ([(⟨xv_19, xv_20, xv_18.Port, xv_18.Exchange⟩ : GEdge)] : List GEdge)) * 32 ≤ 140737488355328) (
 rec_2 (IntKind.i64.wrap (t67_1 + 1), (a_7 ++ ([(⟨xv_19, xv_20, xv_18.Port, xv_18.Exchange⟩ : GEdge)] : List GEdge)))))))
 else some (⟨(⟨v_0, v_1, a_4, a_7⟩ : GGraph), a_5⟩ : GFused))
def f_fuse_work_done_J1 (w_0 : GFuse_work) (v_0 : List Int) (v_1 : List Int) (a_4 : List GNode) (a_5 : List Int) : Option GFused :=
 loopK (f_fuse_work_done_B2 w_0 v_0 v_1 a_4 a_5) rounds (0, [])
def f_fuse_work_done_B3 (w_0 : GFuse_work) (v_0 : List Int) (v_1 : List Int) (rec_3 : Int × (List GNode) × (List Int) → Option GFused) : Int × (List GNode) × (List Int) → Option GFused :=
 fun (t27_3, a_10, a_11) =>
 (if (decide (t27_3 < (List.length w_0.g.Nodes : Int))) = true then bindO (idx w_0.g.Nodes t27_3) (fun (xv_29 : GNode) =>
 bindO (idx a_11 t27_3) (fun (xv_30 : Int) =>
 bindO (idx w_0.gone t27_3) (fun (xv_31 : Bool) =>
 (if (!xv_31) = true then bindO (idx (List.set a_11 (Int.toNat t27_3) (-1)) t27_3) (fun (xv_32 : Int) =>
 bindO (f_slices_Clone_Ins xv_29.Prog) (fun (v_7 : List GIns) =>
 guardO ((List.length a_10 + List.length ([(⟨xv_29.Kind, xv_29.Scope, xv_29.Arg, v_7⟩ : GNode)] : List GNode)) * 48 ≤ 140737488355328) (
 rec_3 (IntKind.i64.wrap (t27_3 + 1), (a_10 ++ ([(⟨xv_29.Kind, xv_29.Scope, xv_29.Arg, v_7⟩ : GNode)] : List GNode)), (List.set (List.set a_11 (Int.toNat t27_3) (-1)) (Int.toNat t27_3) (List.length a_10 : Int))))))
 else rec_3 (IntKind.i64.wrap (t27_3 + 1), a_10, (List.set a_11 (Int.toNat t27_3) (-1)))))))
 else f_fuse_work_done_J1 w_0 v_0 v_1 a_10 a_11)
def f_fuse_work_done (w_0 : GFuse_work) : Option GFused :=
 bindO (f_slices_Clone_int w_0.g.Parent) (fun (v_0 : List Int) =>
 bindO (f_slices_Clone_int w_0.g.Bound) (fun (v_1 : List Int) =>
 guardO (0 ≤ (List.length w_0.g.Nodes : Int) ∧ (List.length w_0.g.Nodes : Int) * 8 ≤ 140737488355328) (
 loopK (f_fuse_work_done_B3 w_0 v_0 v_1) rounds (0, [], (List.replicate (List.length w_0.g.Nodes) (0 : Int))))))
theorem f_fuse_work_done_det (w_0 : GFuse_work)  (r : GFused) (h : f_fuse_work_done w_0 = some r) : DetS Try.prog 13 [.agg [.sl 1 (enc w_0.g.Parent), .sl 1 (enc w_0.g.Bound), .sl 4 (enc w_0.g.Nodes), .sl 4 (enc w_0.g.Edges), .sl 1 (enc w_0.gone)]] [] 0 (.agg [.sl 1 (enc r.Graph.Parent), .sl 1 (enc r.Graph.Bound), .osl 0 4 (0) (List.length r.Graph.Nodes), .osl 1 4 (0) (List.length r.Graph.Edges), .osl 2 1 (0) (List.length r.Now)]) [(0, .arr 4 (enc r.Graph.Nodes)), (1, .arr 4 (enc r.Graph.Edges)), (2, .arr 1 (enc r.Now))] 3 := by
 unfold DetS
 refine Spec.of_vc Try.func13 rfl (by kernel_rfl) (by kernel_rfl) ?_
 rw [f_fuse_work_done] at h
 refine sg fun QQ1 hQ1 => ?_
 simp only [go_sem]
 refine seqQ_normal hQ1 ?_
 refine sg fun QQ2 hQ2 => ?_
 refine vc_draw ?_
 refine drawV_all 16 14 16 [0, 1, 3, 7, 0, 16, 48, 127, 255, 0, 512, 1536, 3584, 7680, 16383, 0, 65535] [2, 3] [0, 1, 2, 3, 4, 5, 6, 7, 8, 9, 10, 11, 12, 14] [13] [] [15] mixed (by kernel_rfl) (of_decide_eq_true (by kernel_rfl)) (by kernel_rfl) (by kernel_rfl) (by rfl) ?_
 obtain ⟨v_0, ev_0, h⟩ := bindO_some h
 simp only [go_sem]
 refine callq (fun _ => (f_slices_Clone_int_ok w_0.g.Parent v_0 ev_0)) (by rfl) (by rfl) ?_
 obtain ⟨v_1, ev_1, h⟩ := bindO_some h
 simp only [go_sem]
 refine callq (fun _ => (f_slices_Clone_int_ok w_0.g.Bound v_1 ev_1)) (by rfl) (by rfl) ?_
 obtain ⟨g_0, h⟩ := guardO_some h
 have rf_0 : List.replicate (List.length w_0.g.Nodes) [.v (.int .i64 0)] = enc (List.replicate (List.length w_0.g.Nodes) (0 : Int)) := by simp [enc, row_int, row_bool, row_list, enc_nil]
 simp only [go_sem, g_0]
 simp only [rf_0]
 refine seqQ_normal hQ2 ?_
 refine vc_join (by kernel_rfl) ?_
 refine seq_cut_gen (ι := (List GNode) × (List Int)) (fun ((a_4, a_5) : (List GNode) × (List Int)) => (⟨0, [(1, .ptr 0 0), (2, .ptr 1 0), (3, .ptr 2 0)], [(0, .box [.sl 1 (enc w_0.g.Parent), .sl 1 (enc w_0.g.Bound), .sl 4 (enc w_0.g.Nodes), .sl 4 (enc w_0.g.Edges), .sl 1 (enc w_0.gone)]), (1, .box [.v (.slice none 0 0), .v (.slice none 0 0), .v (.slice none 0 0), .v (.slice none 0 0), .v (.slice none 0 0)]), (2, .box [.sl 1 (enc v_0), .sl 1 (enc v_1), .osl 3 4 (0) (List.length a_4), .v (.slice none 0 0), .osl 4 1 (0) (List.length a_5)]), (3, .arr 4 (enc a_4)), (4, .arr 1 (enc a_5))], 5, 95⟩ : St)) (fun ((a_4, a_5) : (List GNode) × (List Int)) => f_fuse_work_done_J1 w_0 v_0 v_1 a_4 a_5 = some r) ?_ ?_
 ·
  intro QQ14 hQ14
  refine sg fun QQ15 hQ15 => ?_
  simp only [go_sem]
  refine seqQ_normal hQ15 ?_
  refine vc_block_gen ?_
  intro QQ16 hQ16
  refine vc_loop_of ?_
  refine loop_gen (ι := Nat × Int × (List GNode) × (List Int)) (fun ((_, t27_3, a_10, a_11) : Nat × Int × (List GNode) × (List Int)) => (⟨0, [(1, .ptr 0 0), (2, .ptr 1 0), (3, .ptr 2 0), (25, .sl 4 (enc w_0.g.Nodes)), (26, .v (.int .i64 (List.length w_0.g.Nodes : Int))), (27, .v (.int .i64 t27_3))], [(0, .box [.sl 1 (enc w_0.g.Parent), .sl 1 (enc w_0.g.Bound), .sl 4 (enc w_0.g.Nodes), .sl 4 (enc w_0.g.Edges), .sl 1 (enc w_0.gone)]), (1, .box [.v (.slice none 0 0), .v (.slice none 0 0), .v (.slice none 0 0), .v (.slice none 0 0), .v (.slice none 0 0)]), (2, .box [.sl 1 (enc v_0), .sl 1 (enc v_1), .osl 3 4 (0) (List.length a_10), .v (.slice none 0 0), .osl 4 1 (0) (List.length a_11)]), (3, .arr 4 (enc a_10)), (4, .arr 1 (enc a_11))], 5, 95⟩ : St)) (fun ((n_, t27_3, a_10, a_11) : Nat × Int × (List GNode) × (List Int)) => loopK (f_fuse_work_done_B3 w_0 v_0 v_1) n_ (t27_3, a_10, a_11) = some r) (fun p => p.1) (rounds, 0, [], (List.replicate (List.length w_0.g.Nodes) (0 : Int))) [some 0, some 1, some 3, none, some 2] ?_ h ?_
  · simp only [go_sem, Le] <;> (repeat' apply And.intro) <;> first | ((try with_reducible refine TL_eq ?_); omega) | ((try with_reducible refine TL_eq ?_); (simp [go_sem]; done))
  ·
   rintro ⟨n_3, t27_3, a_10, a_11⟩ h QQ17 hQ17
   dsimp only at h
   replace h := loopK_some h
   obtain ⟨m_3, rfl, h⟩ := h
   rw [f_fuse_work_done_B3] at h
   refine sg fun QQ18 hQ18 => ?_
   simp only [go_sem]
   refine seqQ_normal hQ18 ?_
   refine sg fun QQ19 hQ19 => ?_
   refine vc_cond_of (b := (decide (t27_3 < (List.length w_0.g.Nodes : Int)))) (by (simp only [go_sem]; done)) (fun hb_13 => ?_) (fun hb_13 => ?_)
   ·
    replace h := if_t h hb_13
    simp only [bool_to_prop] at hb_13
    refine vc_skip_of ?_
    refine seqQ_normal hQ19 ?_
    refine vc_join (by kernel_rfl) ?_
    refine seq_go_gen ?_
    intro QQ20 hQ20
    refine vc_block_gen ?_
    intro QQ21 hQ21
    refine sg fun QQ22 hQ22 => ?_
    obtain ⟨xv_29, exv_29, h⟩ := bindO_some h
    obtain ⟨fxv_29a, fxv_29b, fxv_29c⟩ := idx_spec exv_29
    simp only [go_sem, fxv_29a, fxv_29b, fxv_29c]
    refine And.intro (by omega) ?_
    refine seqQ_normal hQ22 ?_
    refine sg fun QQ23 hQ23 => ?_
    obtain ⟨xv_30, exv_30, h⟩ := bindO_some h
    obtain ⟨fxv_30a, fxv_30b, fxv_30c⟩ := idx_spec exv_30
    have rf_24 : (enc a_11).set (Int.toNat t27_3) [.v (.int .i64 (-1))] = enc (List.set a_11 (Int.toNat t27_3) (-1)) := by exact enc_set _ _ _
    simp only [go_sem, fxv_30a, fxv_30b, fxv_30c, rf_24]
    refine And.intro (by omega) ?_
    refine seqQ_normal hQ23 ?_
    refine sg fun QQ24 hQ24 => ?_
    obtain ⟨xv_31, exv_31, h⟩ := bindO_some h
    obtain ⟨fxv_31a, fxv_31b, fxv_31c⟩ := idx_spec exv_31
    simp only [go_sem, fxv_31a, fxv_31b, fxv_31c]
    refine And.intro (by omega) ?_
    refine seqQ_normal hQ24 ?_
    refine vc_cond_of (b := (!xv_31)) (by (simp only [go_sem]; done)) (fun hb_14 => ?_) (fun hb_14 => ?_)
    ·
     replace h := if_t h hb_14
     simp only [bool_to_prop] at hb_14
     refine sg fun QQ25 hQ25 => ?_
     obtain ⟨xv_32, exv_32, h⟩ := bindO_some h
     obtain ⟨fxv_32a, fxv_32b, fxv_32c⟩ := idx_spec exv_32
     have rf_25 : (enc (List.set a_11 (Int.toNat t27_3) (-1))).set (Int.toNat t27_3) [.v (.int .i64 (List.length a_10 : Int))] = enc (List.set (List.set a_11 (Int.toNat t27_3) (-1)) (Int.toNat t27_3) (List.length a_10 : Int)) := by exact enc_set _ _ _
     simp only [go_sem, fxv_32a, fxv_32b, fxv_32c, rf_25]
     refine And.intro (by omega) ?_
     refine And.intro (by omega) ?_
     refine seqQ_normal hQ25 ?_
     refine sg fun QQ26 hQ26 => ?_
     obtain ⟨v_7, ev_7, h⟩ := bindO_some h
     simp only [go_sem]
     refine callD [] (f_slices_Clone_Ins_det xv_29.Prog v_7 ev_7) (by simp) rfl trivial rfl rfl rfl rfl ?_
     simp only [go_sem]
     refine seqQ_normal hQ26 ?_
     have rf_26 : [[.v (.int .i64 xv_29.Kind), .v (.int .i64 xv_29.Scope), .v (.int .i64 xv_29.Arg), .sl 2 (enc v_7)]] = enc ([(⟨xv_29.Kind, xv_29.Scope, xv_29.Arg, v_7⟩ : GNode)] : List GNode) := by rfl
     obtain ⟨g_9, h⟩ := guardO_some h
     simp only [List.length_cons, List.length_nil, Nat.zero_add, List.length_append] at g_9
     have rf_27 : enc a_10 ++ [[.v (.int .i64 xv_29.Kind), .v (.int .i64 xv_29.Scope), .v (.int .i64 xv_29.Arg), .sl 2 (enc v_7)]] = enc (a_10 ++ ([(⟨xv_29.Kind, xv_29.Scope, xv_29.Arg, v_7⟩ : GNode)] : List GNode)) := by exact (enc_app a_10 ([(⟨xv_29.Kind, xv_29.Scope, xv_29.Arg, v_7⟩ : GNode)] : List GNode)).symm
     simp only [go_sem, g_9, rf_27]
     refine blockQ_normal hQ21 ?_
     refine seqQ_normal hQ20 ?_
     simp only [go_sem]
     refine thenQ_normal hQ17 ?_
     refine ⟨(m_3, IntKind.i64.wrap (t27_3 + 1), (a_10 ++ ([(⟨xv_29.Kind, xv_29.Scope, xv_29.Arg, v_7⟩ : GNode)] : List GNode)), (List.set (List.set a_11 (Int.toNat t27_3) (-1)) (Int.toNat t27_3) (List.length a_10 : Int))), [some 0, some 1, some 2, some 8, some 4], ?_, h, Nat.lt_succ_self _⟩
     simp only [go_sem, Le] <;> (repeat' apply And.intro) <;> first | ((try with_reducible refine TL_eq ?_); omega) | ((try with_reducible refine TL_eq ?_); (simp [go_sem]; done)) | ((try with_reducible refine TL_eq ?_); (simp [enc]; rfl))
    ·
     replace h := if_f h hb_14
     simp only [bool_to_prop] at hb_14
     refine vc_skip_of ?_
     refine blockQ_normal hQ21 ?_
     refine seqQ_normal hQ20 ?_
     simp only [go_sem]
     refine thenQ_normal hQ17 ?_
     refine ⟨(m_3, IntKind.i64.wrap (t27_3 + 1), a_10, (List.set a_11 (Int.toNat t27_3) (-1))), [some 0, some 1, some 2, some 3, some 4], ?_, h, Nat.lt_succ_self _⟩
     simp only [go_sem, Le] <;> (repeat' apply And.intro) <;> first | ((try with_reducible refine TL_eq ?_); omega) | ((try with_reducible refine TL_eq ?_); (simp [go_sem]; done))
   ·
    replace h := if_f h hb_13
    simp only [bool_to_prop] at hb_13
    refine vc_exit_of ?_
    refine seqQ_exit hQ19 ?_
    refine thenQ_exit hQ17 ?_
    refine blockQ_exit hQ16 ?_
    refine thenQ_normal hQ14 ?_
    refine ⟨(a_10, a_11), [some 0, some 1, some 2, some 3, some 4], ?_, h⟩
    simp only [go_sem, Le] <;> (repeat' apply And.intro) <;> first | ((try with_reducible refine TL_eq ?_); omega) | ((try with_reducible refine TL_eq ?_); (simp [go_sem]; done))
 ·
  rintro ⟨a_4, a_5⟩ h
  try dsimp only at h
  rw [f_fuse_work_done_J1] at h
  refine vc_join (by kernel_rfl) ?_
  refine seq_go_gen ?_
  intro QQ3 hQ3
  refine sg fun QQ4 hQ4 => ?_
  simp only [go_sem]
  refine seqQ_normal hQ4 ?_
  refine vc_block_gen ?_
  intro QQ5 hQ5
  refine vc_loop_of ?_
  refine loop_gen (ι := Nat × Int × (List GEdge)) (fun ((_, t67_1, a_7) : Nat × Int × (List GEdge)) => (⟨0, [(2, .ptr 0 0), (3, .ptr 1 0), (65, .sl 4 (enc w_0.g.Edges)), (66, .v (.int .i64 (List.length w_0.g.Edges : Int))), (67, .v (.int .i64 t67_1))], [(0, .box [.v (.slice none 0 0), .v (.slice none 0 0), .v (.slice none 0 0), .v (.slice none 0 0), .v (.slice none 0 0)]), (1, .box [.sl 1 (enc v_0), .sl 1 (enc v_1), .osl 2 4 (0) (List.length a_4), .osl 3 4 (0) (List.length a_7), .osl 4 1 (0) (List.length a_5)]), (2, .arr 4 (enc a_4)), (3, .arr 4 (enc a_7)), (4, .arr 1 (enc a_5))], 5, 95⟩ : St)) (fun ((n_, t67_1, a_7) : Nat × Int × (List GEdge)) => loopK (f_fuse_work_done_B2 w_0 v_0 v_1 a_4 a_5) n_ (t67_1, a_7) = some r) (fun p => p.1) (rounds, 0, []) [some 1, some 2, some 3, none, some 4] ?_ h ?_
  · simp only [go_sem, Le] <;> (repeat' apply And.intro) <;> first | ((try with_reducible refine TL_eq ?_); omega) | ((try with_reducible refine TL_eq ?_); (simp [go_sem]; done))
  ·
   rintro ⟨n_2, t67_1, a_7⟩ h QQ6 hQ6
   dsimp only at h
   replace h := loopK_some h
   obtain ⟨m_2, rfl, h⟩ := h
   rw [f_fuse_work_done_B2] at h
   refine sg fun QQ7 hQ7 => ?_
   simp only [go_sem]
   refine seqQ_normal hQ7 ?_
   refine sg fun QQ8 hQ8 => ?_
   refine vc_cond_of (b := (decide (t67_1 < (List.length w_0.g.Edges : Int)))) (by (simp only [go_sem]; done)) (fun hb_8 => ?_) (fun hb_8 => ?_)
   ·
    replace h := if_t h hb_8
    simp only [bool_to_prop] at hb_8
    refine vc_skip_of ?_
    refine seqQ_normal hQ8 ?_
    refine sg fun QQ9 hQ9 => ?_
    refine vc_block_gen ?_
    intro QQ10 hQ10
    refine sg fun QQ11 hQ11 => ?_
    obtain ⟨xv_18, exv_18, h⟩ := bindO_some h
    obtain ⟨fxv_18a, fxv_18b, fxv_18c⟩ := idx_spec exv_18
    simp only [go_sem, fxv_18a, fxv_18b, fxv_18c]
    refine And.intro (by omega) ?_
    refine seqQ_normal hQ11 ?_
    refine sg fun QQ12 hQ12 => ?_
    refine vc_draw ?_
    refine drawV_all 14 0 0 [0, 1, 0, 4, 15, 31, 0, 64, 0, 256, 960, 1984, 831, 4927, 16383, 32767] [5] [6, 7, 10, 11] [] [13] [] mixed (by kernel_rfl) (of_decide_eq_true (by kernel_rfl)) (by kernel_rfl) (by kernel_rfl) (by rfl) ?_
    obtain ⟨xv_19, exv_19, h⟩ := bindO_some h
    obtain ⟨fxv_19a, fxv_19b, fxv_19c⟩ := idx_spec exv_19
    obtain ⟨xv_20, exv_20, h⟩ := bindO_some h
    obtain ⟨fxv_20a, fxv_20b, fxv_20c⟩ := idx_spec exv_20
    simp only [go_sem, fxv_19a, fxv_19b, fxv_19c, fxv_20a, fxv_20b, fxv_20c]
    refine And.intro (by omega) ?_
    refine And.intro (by omega) ?_
    refine seqQ_normal hQ12 ?_
    have rf_15 : [[.v (.int .i64 xv_19), .v (.int .i64 xv_20), .v (.int .i64 xv_18.Port), .v (.bool xv_18.Exchange)]] = enc ([(⟨xv_19, xv_20, xv_18.Port, xv_18.Exchange⟩ : GEdge)] : List GEdge) := by rfl
    obtain ⟨g_6, h⟩ := guardO_some h
    simp only [List.length_cons, List.length_nil, Nat.zero_add, List.length_append] at g_6
    have rf_16 : enc a_7 ++ [[.v (.int .i64 xv_19), .v (.int .i64 xv_20), .v (.int .i64 xv_18.Port), .v (.bool xv_18.Exchange)]] = enc (a_7 ++ ([(⟨xv_19, xv_20, xv_18.Port, xv_18.Exchange⟩ : GEdge)] : List GEdge)) := by exact (enc_app a_7 ([(⟨xv_19, xv_20, xv_18.Port, xv_18.Exchange⟩ : GEdge)] : List GEdge)).symm
    simp only [go_sem, g_6, rf_16]
    simp only [rf_15]
    refine blockQ_normal hQ10 ?_
    refine seqQ_normal hQ9 ?_
    simp only [go_sem]
    refine thenQ_normal hQ6 ?_
    refine ⟨(m_2, IntKind.i64.wrap (t67_1 + 1), (a_7 ++ ([(⟨xv_19, xv_20, xv_18.Port, xv_18.Exchange⟩ : GEdge)] : List GEdge))), [some 0, some 1, some 2, some 7, some 4], ?_, h, Nat.lt_succ_self _⟩
    simp only [go_sem, Le] <;> (repeat' apply And.intro) <;> first | ((try with_reducible refine TL_eq ?_); omega) | ((try with_reducible refine TL_eq ?_); (simp [go_sem]; done))
   ·
    replace h := if_f h hb_8
    simp only [bool_to_prop] at hb_8
    refine vc_exit_of ?_
    refine seqQ_exit hQ8 ?_
    refine thenQ_exit hQ6 ?_
    refine blockQ_exit hQ5 ?_
    refine seqQ_normal hQ3 ?_
    refine sg fun QQ13 hQ13 => ?_
    simp only [go_sem]
    refine seqQ_normal hQ13 ?_
    refine vc_ret_of ?_
    simp only [go_sem]
    obtain rfl := Option.some.inj h
    refine retW_det [some 2, some 3, some 4] ?_
    simp only [go_sem, Le] <;> (repeat' apply And.intro) <;> first | ((try with_reducible refine TL_eq ?_); omega) | ((try with_reducible refine TL_eq ?_); (simp [go_sem]; done))
def f_backwashref24_built_B2 (g_0 : GGraph) (s_0 : GBackwashref24_state) (a_4 : List GNode) (a_5 : List Int) (rec_2 : Int × (List GEdge) → Option GFused) : Int × (List GEdge) → Option GFused :=
 fun (i_1, a_7) =>
 (if (decide (i_1 < (List.length s_0.edges : Int))) = true then bindO (idx s_0.edges i_1) (fun (xv_12 : GEdge) =>
 bindO (idx a_5 xv_12.From) (fun (xv_13 : Int) =>
 bindO (idx a_5 xv_12.To) (fun (xv_14 : Int) =>
 guardO ((List.length a_7 + List.length ([(⟨xv_13, xv_14, xv_12.Port, xv_12.Exchange⟩ : GEdge)] : List GEdge)) * 32 ≤ 140737488355328) (
 rec_2 (IntKind.i64.wrap (i_1 + 1), (a_7 ++ ([(⟨xv_13, xv_14, xv_12.Port, xv_12.Exchange⟩ : GEdge)] : List GEdge)))))))
 else some (⟨(⟨g_0.Parent, g_0.Bound, a_4, a_7⟩ : GGraph), a_5⟩ : GFused))
def f_backwashref24_built_J1 (g_0 : GGraph) (s_0 : GBackwashref24_state) (a_4 : List GNode) (a_5 : List Int) : Option GFused :=
 loopK (f_backwashref24_built_B2 g_0 s_0 a_4 a_5) rounds (0, [])
def f_backwashref24_built_B3 (g_0 : GGraph) (s_0 : GBackwashref24_state) (rec_3 : Int × (List GNode) × (List Int) → Option GFused) : Int × (List GNode) × (List Int) → Option GFused :=
 fun (nv_3, a_10, a_11) =>
 (if (decide (nv_3 < (List.length g_0.Nodes : Int))) = true then bindO (idx s_0.gone nv_3) (fun (xv_19 : Bool) =>
 (if xv_19 = true then guardO ((List.length a_11 + List.length ([-1] : List Int)) * 8 ≤ 140737488355328) (
 rec_3 (IntKind.i64.wrap (nv_3 + 1), a_10, (a_11 ++ ([-1] : List Int))))
 else guardO ((List.length a_11 + List.length ([(List.length a_10 : Int)] : List Int)) * 8 ≤ 140737488355328) (
 bindO (idx g_0.Nodes nv_3) (fun (xv_20 : GNode) =>
 guardO ((List.length a_10 + List.length ([xv_20] : List GNode)) * 48 ≤ 140737488355328) (
 rec_3 (IntKind.i64.wrap (nv_3 + 1), (a_10 ++ ([xv_20] : List GNode)), (a_11 ++ ([(List.length a_10 : Int)] : List Int))))))))
 else f_backwashref24_built_J1 g_0 s_0 a_10 a_11)
def f_backwashref24_built (g_0 : GGraph) (s_0 : GBackwashref24_state) : Option GFused :=
 loopK (f_backwashref24_built_B3 g_0 s_0) rounds (0, [], [])
def f_slices_Clone_bool (s_0 : List Bool) : Option (List Bool) :=
 guardO ((List.length ([] : List Bool) + List.length s_0) * 1 ≤ 140737488355328) (
 some (([] : List Bool) ++ s_0))
theorem f_slices_Clone_bool_det (s_0 : List Bool)  (r : List Bool) (h : f_slices_Clone_bool s_0 = some r) : DetS Try.prog 24 [.sl 1 (enc s_0)] [] 0 (.osl 0 1 (0) (List.length r)) [(0, .arr 1 (enc r))] 1 := by
 unfold DetS
 refine Spec.of_vc Try.func24 rfl (by kernel_rfl) (by kernel_rfl) ?_
 rw [f_slices_Clone_bool] at h
 refine sg fun QQ1 hQ1 => ?_
 simp only [go_sem]
 refine seqQ_normal hQ1 ?_
 refine sg fun QQ2 hQ2 => ?_
 refine sg fun QQ3 hQ3 => ?_
 simp only [go_sem]
 intro nb_0 hnb_0
 rcases nb_0 with _ | _
 ·
  refine seqQ_normal hQ3 ?_
  refine vc_cond_f (by (simp only [go_sem]; done)) ?_
  refine vc_skip_of ?_
  refine seqQ_normal hQ2 ?_
  refine sg fun QQ4 hQ4 => ?_
  obtain ⟨g_0, h⟩ := guardO_some h
  simp only [List.length_cons, List.length_nil, Nat.zero_add, List.length_append] at g_0
  have rf_0 : enc ([] : List Bool) ++ enc s_0 = enc (([] : List Bool) ++ s_0) := by exact (enc_app ([] : List Bool) s_0).symm
  simp only [go_sem, g_0, rf_0]
  refine seqQ_normal hQ4 ?_
  refine vc_ret_of ?_
  simp only [go_sem]
  obtain rfl := Option.some.inj h
  refine retW_det [some 1] ?_
  simp only [go_sem, Le]
 ·
  have hE_nb_0 : s_0 = [] := by cases hq : (s_0) with | nil => rfl | cons y ys => exact absurd (hnb_0 (by rw [hq]; simp [enc])) (by simp)
  simp only [hE_nb_0] at h
  refine seqQ_normal hQ3 ?_
  refine vc_cond_t (by (simp only [go_sem]; done)) ?_
  refine sg fun QQ5 hQ5 => ?_
  simp only [go_sem]
  refine seqQ_normal hQ5 ?_
  refine vc_ret_of ?_
  refine seqQ_ret hQ2 ?_
  simp only [go_sem]
  obtain rfl := Option.some.inj h
  refine retW_det [none] ?_
  simp only [go_sem, Le] <;> (repeat' apply And.intro) <;> ((try with_reducible refine TL_eq ?_); (simp [go_sem]; done))
def f_slices_Clone_Edge (s_0 : List GEdge) : Option (List GEdge) :=
 guardO ((List.length ([] : List GEdge) + List.length s_0) * 32 ≤ 140737488355328) (
 some (([] : List GEdge) ++ s_0))
theorem f_slices_Clone_Edge_det (s_0 : List GEdge)  (r : List GEdge) (h : f_slices_Clone_Edge s_0 = some r) : DetS Try.prog 27 [.sl 4 (enc s_0)] [] 0 (.osl 0 4 (0) (List.length r)) [(0, .arr 4 (enc r))] 1 := by
 unfold DetS
 refine Spec.of_vc Try.func27 rfl (by kernel_rfl) (by kernel_rfl) ?_
 rw [f_slices_Clone_Edge] at h
 refine sg fun QQ1 hQ1 => ?_
 simp only [go_sem]
 refine seqQ_normal hQ1 ?_
 refine sg fun QQ2 hQ2 => ?_
 refine sg fun QQ3 hQ3 => ?_
 simp only [go_sem]
 intro nb_0 hnb_0
 rcases nb_0 with _ | _
 ·
  refine seqQ_normal hQ3 ?_
  refine vc_cond_f (by (simp only [go_sem]; done)) ?_
  refine vc_skip_of ?_
  refine seqQ_normal hQ2 ?_
  refine sg fun QQ4 hQ4 => ?_
  obtain ⟨g_0, h⟩ := guardO_some h
  simp only [List.length_cons, List.length_nil, Nat.zero_add, List.length_append] at g_0
  have rf_0 : enc ([] : List GEdge) ++ enc s_0 = enc (([] : List GEdge) ++ s_0) := by exact (enc_app ([] : List GEdge) s_0).symm
  simp only [go_sem, g_0, rf_0]
  refine seqQ_normal hQ4 ?_
  refine vc_ret_of ?_
  simp only [go_sem]
  obtain rfl := Option.some.inj h
  refine retW_det [some 1] ?_
  simp only [go_sem, Le]
 ·
  have hE_nb_0 : s_0 = [] := by cases hq : (s_0) with | nil => rfl | cons y ys => exact absurd (hnb_0 (by rw [hq]; simp [enc])) (by simp)
  simp only [hE_nb_0] at h
  refine seqQ_normal hQ3 ?_
  refine vc_cond_t (by (simp only [go_sem]; done)) ?_
  refine sg fun QQ5 hQ5 => ?_
  simp only [go_sem]
  refine seqQ_normal hQ5 ?_
  refine vc_ret_of ?_
  refine seqQ_ret hQ2 ?_
  simp only [go_sem]
  obtain rfl := Option.some.inj h
  refine retW_det [none] ?_
  simp only [go_sem, Le] <;> (repeat' apply And.intro) <;> ((try with_reducible refine TL_eq ?_); (simp [go_sem]; done))
def f_fuse_work_right (w_0 : GFuse_work) : Option Bool :=
 bindO (f_fuse_work_done w_0) (fun (v_0 : GFused) =>
 bindO (f_valid_Check v_0.Graph) (fun (v_1 : Int × Int) =>
 some (v_1.1 == 0)))
theorem f_fuse_work_right_ok (w_0 : GFuse_work)  (r : Bool) (h : f_fuse_work_right w_0 = some r) : PureS Try.prog 29 [.agg [.sl 1 (enc w_0.g.Parent), .sl 1 (enc w_0.g.Bound), .sl 4 (enc w_0.g.Nodes), .sl 4 (enc w_0.g.Edges), .sl 1 (enc w_0.gone)]] 0 (.v (.bool r)) := by
 unfold PureS
 refine Spec.of_vc Try.func29 rfl (by kernel_rfl) (by kernel_rfl) ?_
 rw [f_fuse_work_right] at h
 refine sg fun QQ1 hQ1 => ?_
 simp only [go_sem]
 refine seqQ_normal hQ1 ?_
 refine sg fun QQ2 hQ2 => ?_
 obtain ⟨v_0, ev_0, h⟩ := bindO_some h
 simp only [go_sem]
 refine callD [] (f_fuse_work_done_det w_0 v_0 ev_0) (by simp) rfl trivial rfl rfl rfl rfl ?_
 obtain ⟨v_1, ev_1, h⟩ := bindO_some h
 simp only [go_sem]
 refine callB (s' := (⟨0, [(0, .agg [.sl 1 (enc w_0.g.Parent), .sl 1 (enc w_0.g.Bound), .sl 4 (enc w_0.g.Nodes), .sl 4 (enc w_0.g.Edges), .sl 1 (enc w_0.gone)]), (1, .ptr 0 0), (2, .v (.bool false)), (6, .agg [.sl 1 (enc w_0.g.Parent), .sl 1 (enc w_0.g.Bound), .sl 4 (enc w_0.g.Nodes), .sl 4 (enc w_0.g.Edges), .sl 1 (enc w_0.gone)]), (7, .agg [.sl 1 (enc v_0.Graph.Parent), .sl 1 (enc v_0.Graph.Bound), .sl 4 (enc v_0.Graph.Nodes), .sl 4 (enc v_0.Graph.Edges), .osl 1 1 (0) (List.length v_0.Now)]), (8, .agg [.sl 1 (enc v_0.Graph.Parent), .sl 1 (enc v_0.Graph.Bound), .sl 4 (enc v_0.Graph.Nodes), .sl 4 (enc v_0.Graph.Edges)])], [(0, .box [.sl 1 (enc w_0.g.Parent), .sl 1 (enc w_0.g.Bound), .sl 4 (enc w_0.g.Nodes), .sl 4 (enc w_0.g.Edges), .sl 1 (enc w_0.gone)]), (1, .arr 1 (enc v_0.Now))], 2, 14⟩ : St)) (l := [some 0, some 3]) (args' := [.agg [.sl 1 (enc v_0.Graph.Parent), .sl 1 (enc v_0.Graph.Bound), .sl 4 (enc v_0.Graph.Nodes), .sl 4 (enc v_0.Graph.Edges)]]) ?_ ?_ (f_valid_Check_ok v_0.Graph v_1 ev_1) (by rfl) (by rfl) ?_
 · simp only [go_sem, Le] <;> (repeat' apply And.intro) <;> first | ((try with_reducible refine TL_eq ?_); omega) | ((try with_reducible refine TL_eq ?_); (simp [go_sem]; done))
 · simp only [go_sem, Le] <;> (repeat' apply And.intro) <;> ((try with_reducible refine TL_eq ?_); (simp [go_sem]; done))
 simp only [go_sem]
 refine seqQ_normal hQ2 ?_
 refine sg fun QQ3 hQ3 => ?_
 simp only [go_sem]
 refine seqQ_normal hQ3 ?_
 refine vc_ret_of ?_
 simp only [go_sem]
 obtain rfl := Option.some.inj h
 refine retW_pure rfl ?_
 simp only [go_sem, Le]

def f_fuse_work_idle_p0_B3 (w_0 : GFuse_work) (some_2 : Bool) (a_2 : List Bool) (rec_3 : Int × Int × (List GEdge) → Option (Bool × GFuse_work)) : Int × Int × (List GEdge) → Option (Bool × GFuse_work) :=
 fun (i_1, j_1, a_4) =>
 (if (decide (j_1 < (List.length a_4 : Int))) = true then bindO (idx a_4 j_1) (fun (xv_28 : GEdge) =>
 bindO (idx a_2 xv_28.From) (fun (xv_29 : Bool) =>
 (if xv_29 = true then rec_3 (i_1, IntKind.i64.wrap (j_1 + 1), a_4)
 else bindO (idx a_2 xv_28.To) (fun (xv_30 : Bool) =>
 (if (!xv_30) = true then bindO (idx a_4 i_1) (fun (xv_31 : GEdge) =>
 rec_3 (IntKind.i64.wrap (i_1 + 1), IntKind.i64.wrap (j_1 + 1), (List.set a_4 (Int.toNat i_1) xv_28)))
 else rec_3 (i_1, IntKind.i64.wrap (j_1 + 1), a_4))))))
 else guardO (0 ≤ i_1 ∧ i_1 ≤ (List.length a_4 : Int) ∧ (List.length a_4 : Int) ≤ (List.length a_4 : Int)) (
 guardO (Int.toNat i_1 + (List.length a_4 - Int.toNat i_1) ≤ List.length a_4) (
 guardO (0 ≤ 0 ∧ 0 ≤ i_1 ∧ i_1 ≤ ((List.length a_4 : Nat) : Int)) (
 (if some_2 = true then bindO (f_fuse_work_right (⟨(⟨w_0.g.Parent, w_0.g.Bound, w_0.g.Nodes, (List.take (Int.toNat i_1) (List.take (Int.toNat i_1) a_4 ++ List.replicate ((List.length a_4 - Int.toNat i_1)) (⟨0, 0, 0, false⟩ : GEdge) ++ List.drop (Int.toNat i_1 + (List.length a_4 - Int.toNat i_1)) a_4))⟩ : GGraph), a_2⟩ : GFuse_work)) (fun (v_4 : Bool) =>
 (if (!v_4) = true then some (false, w_0)
 else some (true, (⟨(⟨w_0.g.Parent, w_0.g.Bound, w_0.g.Nodes, (List.take (Int.toNat i_1) (List.take (Int.toNat i_1) a_4 ++ List.replicate ((List.length a_4 - Int.toNat i_1)) (⟨0, 0, 0, false⟩ : GEdge) ++ List.drop (Int.toNat i_1 + (List.length a_4 - Int.toNat i_1)) a_4))⟩ : GGraph), a_2⟩ : GFuse_work))))
 else some (false, w_0))))))
def f_fuse_work_idle_p0_B4 (w_0 : GFuse_work) (some_2 : Bool) (a_2 : List Bool) (rec_4 : Int × Int × (List GEdge) → Option (Bool × GFuse_work)) : Int × Int × (List GEdge) → Option (Bool × GFuse_work) :=
 fun (i_3, j_3, a_6) =>
 (if (decide (j_3 < (List.length a_6 : Int))) = true then bindO (idx a_6 j_3) (fun (xv_39 : GEdge) =>
 bindO (idx a_2 xv_39.From) (fun (xv_40 : Bool) =>
 (if xv_40 = true then rec_4 (i_3, IntKind.i64.wrap (j_3 + 1), a_6)
 else bindO (idx a_2 xv_39.To) (fun (xv_41 : Bool) =>
 (if (!xv_41) = true then bindO (idx a_6 i_3) (fun (xv_42 : GEdge) =>
 rec_4 (IntKind.i64.wrap (i_3 + 1), IntKind.i64.wrap (j_3 + 1), (List.set a_6 (Int.toNat i_3) xv_39)))
 else rec_4 (i_3, IntKind.i64.wrap (j_3 + 1), a_6))))))
 else guardO (0 ≤ i_3 ∧ i_3 ≤ (List.length a_6 : Int) ∧ (List.length a_6 : Int) ≤ (List.length a_6 : Int)) (
 guardO (Int.toNat i_3 + (List.length a_6 - Int.toNat i_3) ≤ List.length a_6) (
 guardO (0 ≤ 0 ∧ 0 ≤ i_3 ∧ i_3 ≤ ((List.length a_6 : Nat) : Int)) (
 (if some_2 = true then bindO (f_fuse_work_right (⟨(⟨w_0.g.Parent, w_0.g.Bound, w_0.g.Nodes, (List.take (Int.toNat i_3) (List.take (Int.toNat i_3) a_6 ++ List.replicate ((List.length a_6 - Int.toNat i_3)) (⟨0, 0, 0, false⟩ : GEdge) ++ List.drop (Int.toNat i_3 + (List.length a_6 - Int.toNat i_3)) a_6))⟩ : GGraph), a_2⟩ : GFuse_work)) (fun (v_6 : Bool) =>
 (if (!v_6) = true then some (false, w_0)
 else some (true, (⟨(⟨w_0.g.Parent, w_0.g.Bound, w_0.g.Nodes, (List.take (Int.toNat i_3) (List.take (Int.toNat i_3) a_6 ++ List.replicate ((List.length a_6 - Int.toNat i_3)) (⟨0, 0, 0, false⟩ : GEdge) ++ List.drop (Int.toNat i_3 + (List.length a_6 - Int.toNat i_3)) a_6))⟩ : GGraph), a_2⟩ : GFuse_work))))
 else some (false, w_0))))))
def f_fuse_work_idle_p0_B2 (w_0 : GFuse_work) (some_2 : Bool) (a_2 : List Bool) (v_2 : List GEdge) (rec_2 : Int → Option (Bool × GFuse_work)) : Int → Option (Bool × GFuse_work) :=
 fun t8_1 =>
 (if (decide (t8_1 < (List.length v_2 : Int))) = true then bindO (idx v_2 t8_1) (fun (xv_18 : GEdge) =>
 bindO (idx a_2 xv_18.From) (fun (xv_19 : Bool) =>
 (if xv_19 = true then (if (t8_1 == (-1)) = true then (if some_2 = true then bindO (f_fuse_work_right (⟨(⟨w_0.g.Parent, w_0.g.Bound, w_0.g.Nodes, v_2⟩ : GGraph), a_2⟩ : GFuse_work)) (fun (v_5 : Bool) =>
 (if (!v_5) = true then some (false, w_0)
 else some (true, (⟨(⟨w_0.g.Parent, w_0.g.Bound, w_0.g.Nodes, v_2⟩ : GGraph), a_2⟩ : GFuse_work))))
 else some (false, w_0))
 else loopK (f_fuse_work_idle_p0_B4 w_0 some_2 a_2) rounds (t8_1, IntKind.i64.wrap (t8_1 + 1), v_2))
 else bindO (idx a_2 xv_18.To) (fun (xv_20 : Bool) =>
 (if xv_20 = true then (if (t8_1 == (-1)) = true then (if some_2 = true then bindO (f_fuse_work_right (⟨(⟨w_0.g.Parent, w_0.g.Bound, w_0.g.Nodes, v_2⟩ : GGraph), a_2⟩ : GFuse_work)) (fun (v_3 : Bool) =>
 (if (!v_3) = true then some (false, w_0)
 else some (true, (⟨(⟨w_0.g.Parent, w_0.g.Bound, w_0.g.Nodes, v_2⟩ : GGraph), a_2⟩ : GFuse_work))))
 else some (false, w_0))
 else loopK (f_fuse_work_idle_p0_B3 w_0 some_2 a_2) rounds (t8_1, IntKind.i64.wrap (t8_1 + 1), v_2))
 else rec_2 (IntKind.i64.wrap (t8_1 + 1)))))))
 else (if some_2 = true then bindO (f_fuse_work_right (⟨(⟨w_0.g.Parent, w_0.g.Bound, w_0.g.Nodes, v_2⟩ : GGraph), a_2⟩ : GFuse_work)) (fun (v_7 : Bool) =>
 (if (!v_7) = true then some (false, w_0)
 else some (true, (⟨(⟨w_0.g.Parent, w_0.g.Bound, w_0.g.Nodes, v_2⟩ : GGraph), a_2⟩ : GFuse_work))))
 else some (false, w_0)))
def f_fuse_work_idle_p0_J1 (w_0 : GFuse_work) (some_2 : Bool) (a_2 : List Bool) : Option (Bool × GFuse_work) :=
 bindO (f_slices_Clone_Edge w_0.g.Edges) (fun (v_2 : List GEdge) =>
 loopK (f_fuse_work_idle_p0_B2 w_0 some_2 a_2 v_2) rounds 0)
def f_fuse_work_idle_p0_B5 (w_0 : GFuse_work) (v_8 : List Bool) (rec_5 : Bool × Int × (List Bool) → Option (Bool × GFuse_work)) : Bool × Int × (List Bool) → Option (Bool × GFuse_work) :=
 fun (some_4, t22_3, a_8) =>
 (if (decide (t22_3 < (List.length v_8 : Int))) = true then bindO (idx v_8 t22_3) (fun (xv_51 : Bool) =>
 (if xv_51 = true then rec_5 (some_4, IntKind.i64.wrap (t22_3 + 1), a_8)
 else bindO (idx w_0.gone t22_3) (fun (xv_52 : Bool) =>
 (if xv_52 = true then rec_5 (some_4, IntKind.i64.wrap (t22_3 + 1), a_8)
 else bindO (idx w_0.g.Nodes t22_3) (fun (xv_53 : GNode) =>
 (if (!(xv_53.Kind == 1)) = true then bindO (idx a_8 t22_3) (fun (xv_54 : Bool) =>
 rec_5 (true, IntKind.i64.wrap (t22_3 + 1), (List.set a_8 (Int.toNat t22_3) true)))
 else rec_5 (some_4, IntKind.i64.wrap (t22_3 + 1), a_8)))))))
 else f_fuse_work_idle_p0_J1 w_0 some_4 a_8)
def f_fuse_work_idle_p0 (w_0 : GFuse_work) : Option (Bool × GFuse_work) :=
 bindO (f_slices_Clone_bool w_0.gone) (fun (v_0 : List Bool) =>
 bindO (f_fuse_work_useful w_0) (fun (v_8 : List Bool) =>
 loopK (f_fuse_work_idle_p0_B5 w_0 v_8) rounds (false, 0, v_0)))
theorem f_fuse_work_idle_p0_det (w_0 : GFuse_work)  (r : Bool × GFuse_work) (h : f_fuse_work_idle_p0 w_0 = some r) : DetS Try.prog 11 [.ptr 0 0] [(0, .box [.sl 1 (enc w_0.g.Parent), .sl 1 (enc w_0.g.Bound), .sl 4 (enc w_0.g.Nodes), .sl 4 (enc w_0.g.Edges), .sl 1 (enc w_0.gone)])] 1 (.v (.bool r.1)) [(0, .box [.sl 1 (enc r.2.g.Parent), .sl 1 (enc r.2.g.Bound), .sl 4 (enc r.2.g.Nodes), .sl 4 (enc r.2.g.Edges), .sl 1 (enc r.2.gone)])] 1 := by
 unfold DetS
 refine Spec.of_vc Try.func11 rfl (by kernel_rfl) (by kernel_rfl) ?_
 rw [f_fuse_work_idle_p0] at h
 refine sg fun QQ1 hQ1 => ?_
 simp only [go_sem]
 refine seqQ_normal hQ1 ?_
 refine sg fun QQ2 hQ2 => ?_
 refine vc_draw ?_
 refine drawV_all 11 9 11 [0, 1, 3, 7, 0, 16, 48, 112, 240, 511, 0, 2047] [1, 2] [0, 1, 2, 3, 4, 5, 6, 7, 9] [8] [] [10] mixed (by kernel_rfl) (of_decide_eq_true (by kernel_rfl)) (by kernel_rfl) (by kernel_rfl) (by rfl) ?_
 obtain ⟨v_0, ev_0, h⟩ := bindO_some h
 simp only [go_sem]
 refine callE_det [] (f_slices_Clone_bool_det w_0.gone v_0 ev_0) rfl trivial rfl rfl rfl rfl ?_
 simp only [go_sem]
 refine seqQ_normal hQ2 ?_
 refine sg fun QQ3 hQ3 => ?_
 simp only [go_sem]
 refine seqQ_normal hQ3 ?_
 refine vc_join (by kernel_rfl) ?_
 refine seq_cut_gen (ι := Bool × (List Bool)) (fun ((some_2, a_2) : Bool × (List Bool)) => (⟨1, [(0, .ptr 0 0), (3, .ptr 1 0), (4, .v (.bool some_2))], [(0, .box [.sl 1 (enc w_0.g.Parent), .sl 1 (enc w_0.g.Bound), .sl 4 (enc w_0.g.Nodes), .sl 4 (enc w_0.g.Edges), .sl 1 (enc w_0.gone)]), (1, .box [.sl 1 (enc w_0.g.Parent), .sl 1 (enc w_0.g.Bound), .sl 4 (enc w_0.g.Nodes), .sl 4 (enc w_0.g.Edges), .osl 2 1 (0) (List.length a_2)]), (2, .arr 1 (enc a_2))], 3, 76⟩ : St)) (fun ((some_2, a_2) : Bool × (List Bool)) => f_fuse_work_idle_p0_J1 w_0 some_2 a_2 = some r) ?_ ?_
 ·
  intro QQ92 hQ92
  refine sg fun QQ93 hQ93 => ?_
  obtain ⟨v_8, ev_8, h⟩ := bindO_some h
  simp only [go_sem]
  refine callD [] (f_fuse_work_useful_det w_0 v_8 ev_8) (by simp) rfl trivial rfl rfl rfl rfl ?_
  simp only [go_sem]
  refine seqQ_normal hQ93 ?_
  refine vc_block_gen ?_
  intro QQ94 hQ94
  refine vc_loop_of ?_
  refine loop_gen (ι := Nat × Bool × Int × (List Bool)) (fun ((_, some_4, t22_3, a_8) : Nat × Bool × Int × (List Bool)) => (⟨1, [(0, .ptr 0 0), (3, .ptr 1 0), (4, .v (.bool some_4)), (20, .osl 2 1 (0) (List.length v_8)), (21, .v (.int .i64 (List.length v_8 : Int))), (22, .v (.int .i64 t22_3))], [(0, .box [.sl 1 (enc w_0.g.Parent), .sl 1 (enc w_0.g.Bound), .sl 4 (enc w_0.g.Nodes), .sl 4 (enc w_0.g.Edges), .sl 1 (enc w_0.gone)]), (1, .box [.sl 1 (enc w_0.g.Parent), .sl 1 (enc w_0.g.Bound), .sl 4 (enc w_0.g.Nodes), .sl 4 (enc w_0.g.Edges), .osl 3 1 (0) (List.length a_8)]), (2, .arr 1 (enc v_8)), (3, .arr 1 (enc a_8))], 4, 76⟩ : St)) (fun ((n_, some_4, t22_3, a_8) : Nat × Bool × Int × (List Bool)) => loopK (f_fuse_work_idle_p0_B5 w_0 v_8) n_ (some_4, t22_3, a_8) = some r) (fun p => p.1) (rounds, false, 0, v_0) [some 2, some 3, some 1] ?_ h ?_
  · simp only [go_sem, Le] <;> (repeat' apply And.intro) <;> first | ((try with_reducible refine TL_eq ?_); omega) | ((try with_reducible refine TL_eq ?_); (simp [go_sem]; done))
  ·
   rintro ⟨n_5, some_4, t22_3, a_8⟩ h QQ95 hQ95
   dsimp only at h
   replace h := loopK_some h
   obtain ⟨m_5, rfl, h⟩ := h
   rw [f_fuse_work_idle_p0_B5] at h
   refine sg fun QQ96 hQ96 => ?_
   simp only [go_sem]
   refine seqQ_normal hQ96 ?_
   refine sg fun QQ97 hQ97 => ?_
   refine vc_cond_of (b := (decide (t22_3 < (List.length v_8 : Int)))) (by (simp only [go_sem]; done)) (fun hb_59 => ?_) (fun hb_59 => ?_)
   ·
    replace h := if_t h hb_59
    simp only [bool_to_prop] at hb_59
    refine vc_skip_of ?_
    refine seqQ_normal hQ97 ?_
    refine vc_join (by kernel_rfl) ?_
    refine seq_go_gen ?_
    intro QQ98 hQ98
    refine vc_block_gen ?_
    intro QQ99 hQ99
    refine sg fun QQ100 hQ100 => ?_
    obtain ⟨xv_51, exv_51, h⟩ := bindO_some h
    obtain ⟨fxv_51a, fxv_51b, fxv_51c⟩ := idx_spec exv_51
    simp only [go_sem, fxv_51a, fxv_51b, fxv_51c]
    refine And.intro (by omega) ?_
    refine seqQ_normal hQ100 ?_
    refine sg fun QQ101 hQ101 => ?_
    simp only [go_sem]
    rcases hb_60 : xv_51 with _ | _
    ·
     replace h := if_f h hb_60
     obtain ⟨xv_52, exv_52, h⟩ := bindO_some h
     obtain ⟨fxv_52a, fxv_52b, fxv_52c⟩ := idx_spec exv_52
     simp only [go_sem, hb_60, fxv_52a, fxv_52b, fxv_52c]
     refine And.intro (by omega) ?_
     rcases hb_61 : xv_52 with _ | _
     ·
      replace h := if_f h hb_61
      obtain ⟨xv_53, exv_53, h⟩ := bindO_some h
      obtain ⟨fxv_53a, fxv_53b, fxv_53c⟩ := idx_spec exv_53
      simp only [go_sem, hb_61, fxv_53a, fxv_53b, fxv_53c]
      refine And.intro (by omega) ?_
      refine seqQ_normal hQ101 ?_
      refine vc_cond_of (b := (!(xv_53.Kind == 1))) (by (simp only [go_sem]; done)) (fun hb_62 => ?_) (fun hb_62 => ?_)
      ·
       replace h := if_t h hb_62
       simp only [bool_to_prop] at hb_62
       obtain ⟨xv_54, exv_54, h⟩ := bindO_some h
       obtain ⟨fxv_54a, fxv_54b, fxv_54c⟩ := idx_spec exv_54
       have rf_17 : (enc a_8).set (Int.toNat t22_3) [.v (.bool true)] = enc (List.set a_8 (Int.toNat t22_3) true) := by exact enc_set _ _ _
       simp only [go_sem, fxv_54a, fxv_54b, fxv_54c, rf_17]
       refine And.intro (by omega) ?_
       refine blockQ_normal hQ99 ?_
       refine seqQ_normal hQ98 ?_
       simp only [go_sem]
       refine thenQ_normal hQ95 ?_
       refine ⟨(m_5, true, IntKind.i64.wrap (t22_3 + 1), (List.set a_8 (Int.toNat t22_3) true)), [some 1, some 2, some 3], ?_, h, Nat.lt_succ_self _⟩
       simp only [go_sem, Le] <;> (repeat' apply And.intro) <;> first | ((try with_reducible refine TL_eq ?_); omega) | ((try with_reducible refine TL_eq ?_); (simp [go_sem]; done))
      ·
       replace h := if_f h hb_62
       simp only [bool_to_prop] at hb_62
       refine vc_skip_of ?_
       refine blockQ_normal hQ99 ?_
       refine seqQ_normal hQ98 ?_
       simp only [go_sem]
       refine thenQ_normal hQ95 ?_
       refine ⟨(m_5, some_4, IntKind.i64.wrap (t22_3 + 1), a_8), [some 1, some 2, some 3], ?_, h, Nat.lt_succ_self _⟩
       simp only [go_sem, Le] <;> (repeat' apply And.intro) <;> first | ((try with_reducible refine TL_eq ?_); omega) | ((try with_reducible refine TL_eq ?_); (simp [go_sem]; done))
     ·
      replace h := if_t h hb_61
      simp only [go_sem, hb_61]
      refine seqQ_normal hQ101 ?_
      refine vc_cond_f (by (simp only [go_sem]; done)) ?_
      refine vc_skip_of ?_
      refine blockQ_normal hQ99 ?_
      refine seqQ_normal hQ98 ?_
      simp only [go_sem]
      refine thenQ_normal hQ95 ?_
      refine ⟨(m_5, some_4, IntKind.i64.wrap (t22_3 + 1), a_8), [some 1, some 2, some 3], ?_, h, Nat.lt_succ_self _⟩
      simp only [go_sem, Le] <;> (repeat' apply And.intro) <;> first | ((try with_reducible refine TL_eq ?_); omega) | ((try with_reducible refine TL_eq ?_); (simp [go_sem]; done))
    ·
     replace h := if_t h hb_60
     simp only [go_sem, hb_60]
     refine seqQ_normal hQ101 ?_
     refine vc_cond_f (by (simp only [go_sem]; done)) ?_
     refine vc_skip_of ?_
     refine blockQ_normal hQ99 ?_
     refine seqQ_normal hQ98 ?_
     simp only [go_sem]
     refine thenQ_normal hQ95 ?_
     refine ⟨(m_5, some_4, IntKind.i64.wrap (t22_3 + 1), a_8), [some 1, some 2, some 3], ?_, h, Nat.lt_succ_self _⟩
     simp only [go_sem, Le] <;> (repeat' apply And.intro) <;> first | ((try with_reducible refine TL_eq ?_); omega) | ((try with_reducible refine TL_eq ?_); (simp [go_sem]; done))
   ·
    replace h := if_f h hb_59
    simp only [bool_to_prop] at hb_59
    refine vc_exit_of ?_
    refine seqQ_exit hQ97 ?_
    refine thenQ_exit hQ95 ?_
    refine blockQ_exit hQ94 ?_
    refine thenQ_normal hQ92 ?_
    refine ⟨(some_4, a_8), [some 1, some 3], ?_, h⟩
    simp only [go_sem, Le] <;> (repeat' apply And.intro) <;> first | ((try with_reducible refine TL_eq ?_); omega) | ((try with_reducible refine TL_eq ?_); (simp [go_sem]; done))
 ·
  rintro ⟨some_2, a_2⟩ h
  try dsimp only at h
  rw [f_fuse_work_idle_p0_J1] at h
  refine sg fun QQ4 hQ4 => ?_
  obtain ⟨v_2, ev_2, h⟩ := bindO_some h
  simp only [go_sem]
  refine callD [] (f_slices_Clone_Edge_det w_0.g.Edges v_2 ev_2) (by simp) rfl trivial rfl rfl rfl rfl ?_
  simp only [go_sem]
  refine callF_inl Try.func26 rfl (by kernel_rfl) (by kernel_rfl) ?_
  refine sg fun QQ5 hQ5 => ?_
  simp only [go_sem]
  refine seqQ_normal hQ5 ?_
  refine sg fun QQ6 hQ6 => ?_
  simp only [go_sem]
  refine callF_inl Try.func55 rfl (by kernel_rfl) (by kernel_rfl) ?_
  refine sg fun QQ7 hQ7 => ?_
  simp only [go_sem]
  refine seqQ_normal hQ7 ?_
  refine vc_join (by kernel_rfl) ?_
  refine seq_go_gen ?_
  intro QQ8 hQ8
  refine sg fun QQ9 hQ9 => ?_
  simp only [go_sem]
  refine seqQ_normal hQ9 ?_
  refine vc_block_gen ?_
  intro QQ10 hQ10
  refine vc_loop_of ?_
  refine loop_gen (ι := Nat × Int) (fun ((_, t8_1) : Nat × Int) => (⟨4, [(0, .osl 3 4 (0) (List.length v_2)), (1, .clo 28 [.ptr 1 0]), (7, .v (.int .i64 (List.length v_2 : Int))), (8, .v (.int .i64 t8_1))], [(0, .box [.sl 1 (enc w_0.g.Parent), .sl 1 (enc w_0.g.Bound), .sl 4 (enc w_0.g.Nodes), .sl 4 (enc w_0.g.Edges), .sl 1 (enc w_0.gone)]), (1, .box [.sl 1 (enc w_0.g.Parent), .sl 1 (enc w_0.g.Bound), .sl 4 (enc w_0.g.Nodes), .sl 4 (enc w_0.g.Edges), .osl 2 1 (0) (List.length a_2)]), (2, .arr 1 (enc a_2)), (3, .arr 4 (enc v_2))], 4, 19⟩ : St)) (fun ((n_, t8_1) : Nat × Int) => loopK (f_fuse_work_idle_p0_B2 w_0 some_2 a_2 v_2) n_ t8_1 = some r) (fun p => p.1) (rounds, 0) [] ?_ h ?_
  · simp only [go_sem, Le] <;> (repeat' apply And.intro) <;> first | ((try with_reducible refine TL_eq ?_); omega) | ((try with_reducible refine TL_eq ?_); (simp [go_sem]; done))
  ·
   rintro ⟨n_2, t8_1⟩ h QQ11 hQ11
   dsimp only at h
   replace h := loopK_some h
   obtain ⟨m_2, rfl, h⟩ := h
   rw [f_fuse_work_idle_p0_B2] at h
   refine sg fun QQ12 hQ12 => ?_
   simp only [go_sem]
   refine seqQ_normal hQ12 ?_
   refine sg fun QQ13 hQ13 => ?_
   refine vc_cond_of (b := (decide (t8_1 < (List.length v_2 : Int)))) (by (simp only [go_sem]; done)) (fun hb_18 => ?_) (fun hb_18 => ?_)
   ·
    replace h := if_t h hb_18
    simp only [bool_to_prop] at hb_18
    refine vc_skip_of ?_
    refine seqQ_normal hQ13 ?_
    refine sg fun QQ14 hQ14 => ?_
    refine vc_block_gen ?_
    intro QQ15 hQ15
    refine sg fun QQ16 hQ16 => ?_
    simp only [go_sem]
    refine seqQ_normal hQ16 ?_
    refine sg fun QQ17 hQ17 => ?_
    obtain ⟨xv_18, exv_18, h⟩ := bindO_some h
    obtain ⟨fxv_18a, fxv_18b, fxv_18c⟩ := idx_spec exv_18
    simp only [go_sem, fxv_18a, fxv_18b, fxv_18c]
    refine And.intro (by omega) ?_
    refine callF_inl Try.func28 rfl (by kernel_rfl) (by kernel_rfl) ?_
    refine sg fun QQ18 hQ18 => ?_
    simp only [go_sem]
    refine seqQ_normal hQ18 ?_
    refine sg fun QQ19 hQ19 => ?_
    obtain ⟨xv_19, exv_19, h⟩ := bindO_some h
    obtain ⟨fxv_19a, fxv_19b, fxv_19c⟩ := idx_spec exv_19
    simp only [go_sem, fxv_19a, fxv_19b, fxv_19c]
    refine And.intro (by omega) ?_
    rcases hb_19 : xv_19 with _ | _
    ·
     replace h := if_f h hb_19
     obtain ⟨xv_20, exv_20, h⟩ := bindO_some h
     obtain ⟨fxv_20a, fxv_20b, fxv_20c⟩ := idx_spec exv_20
     simp only [go_sem, hb_19, fxv_20a, fxv_20b, fxv_20c]
     refine And.intro (by omega) ?_
     refine seqQ_normal hQ19 ?_
     refine vc_ret_of ?_
     simp only [go_sem]
     refine retW_inl [some 4] [(0, .box [.sl 1 (enc w_0.g.Parent), .sl 1 (enc w_0.g.Bound), .sl 4 (enc w_0.g.Nodes), .sl 4 (enc w_0.g.Edges), .sl 1 (enc w_0.gone)]), (1, .box [.sl 1 (enc w_0.g.Parent), .sl 1 (enc w_0.g.Bound), .sl 4 (enc w_0.g.Nodes), .sl 4 (enc w_0.g.Edges), .osl 2 1 (0) (List.length a_2)]), (2, .arr 1 (enc a_2)), (3, .arr 4 (enc v_2)), (4, .box [.v (.int .i64 xv_18.From), .v (.int .i64 xv_18.To), .v (.int .i64 xv_18.Port), .v (.bool xv_18.Exchange)])] 5 (.v (.bool xv_20)) ?_ ?_
     · simp only [go_sem, Le] <;> (repeat' apply And.intro) <;> first | ((try with_reducible refine TL_eq ?_); omega) | ((try with_reducible refine TL_eq ?_); (simp [go_sem]; done))
     refine inlK_of ?_
     simp only [go_sem]
     refine seqQ_normal hQ17 ?_
     refine vc_cond_of (b := xv_20) (by (simp only [go_sem]; done)) (fun hb_20 => ?_) (fun hb_20 => ?_)
     ·
      replace h := if_t h hb_20
      refine sg fun QQ20 hQ20 => ?_
      simp only [go_sem]
      refine seqQ_normal hQ20 ?_
      refine vc_ret_of ?_
      refine blockQ_ret hQ15 ?_
      refine seqQ_ret hQ14 ?_
      refine thenQ_ret hQ11 ?_
      refine blockQ_ret hQ10 ?_
      refine seqQ_ret hQ8 ?_
      simp only [go_sem]
      refine retW_inl [some 4] [(0, .box [.sl 1 (enc w_0.g.Parent), .sl 1 (enc w_0.g.Bound), .sl 4 (enc w_0.g.Nodes), .sl 4 (enc w_0.g.Edges), .sl 1 (enc w_0.gone)]), (1, .box [.sl 1 (enc w_0.g.Parent), .sl 1 (enc w_0.g.Bound), .sl 4 (enc w_0.g.Nodes), .sl 4 (enc w_0.g.Edges), .osl 2 1 (0) (List.length a_2)]), (2, .arr 1 (enc a_2)), (3, .arr 4 (enc v_2)), (4, .box [.v (.int .i64 xv_18.From), .v (.int .i64 xv_18.To), .v (.int .i64 xv_18.Port), .v (.bool xv_18.Exchange)])] 5 (.v (.int .i64 t8_1)) ?_ ?_
      · simp only [go_sem, Le] <;> (repeat' apply And.intro) <;> first | ((try with_reducible refine TL_eq ?_); omega) | ((try with_reducible refine TL_eq ?_); (simp [go_sem]; done))
      refine inlK_of ?_
      simp only [go_sem]
      refine seqQ_normal hQ6 ?_
      refine sg fun QQ21 hQ21 => ?_
      refine sg fun QQ22 hQ22 => ?_
      simp only [go_sem]
      refine seqQ_normal hQ22 ?_
      refine vc_cond_of (b := (t8_1 == (-1))) (by (simp only [go_sem]; done)) (fun hb_21 => ?_) (fun hb_21 => ?_)
      ·
       replace h := if_t h hb_21
       simp only [bool_to_prop] at hb_21
       refine sg fun QQ23 hQ23 => ?_
       simp only [go_sem]
       refine seqQ_normal hQ23 ?_
       refine vc_ret_of ?_
       refine seqQ_ret hQ21 ?_
       simp only [go_sem]
       refine retW_inl [some 4] [(0, .box [.sl 1 (enc w_0.g.Parent), .sl 1 (enc w_0.g.Bound), .sl 4 (enc w_0.g.Nodes), .sl 4 (enc w_0.g.Edges), .sl 1 (enc w_0.gone)]), (1, .box [.sl 1 (enc w_0.g.Parent), .sl 1 (enc w_0.g.Bound), .sl 4 (enc w_0.g.Nodes), .sl 4 (enc w_0.g.Edges), .osl 2 1 (0) (List.length a_2)]), (2, .arr 1 (enc a_2)), (3, .arr 4 (enc v_2)), (4, .box [.v (.int .i64 xv_18.From), .v (.int .i64 xv_18.To), .v (.int .i64 xv_18.Port), .v (.bool xv_18.Exchange)])] 5 (.osl 3 4 (0) (List.length v_2)) ?_ ?_
       · simp only [go_sem, Le] <;> (repeat' apply And.intro) <;> ((try with_reducible refine TL_eq ?_); omega)
       refine inlK_of ?_
       simp only [go_sem]
       refine seqQ_normal hQ4 ?_
       refine sg fun QQ24 hQ24 => ?_
       refine sg fun QQ25 hQ25 => ?_
       simp only [go_sem]
       rcases hb_22 : some_2 with _ | _
       ·
        replace h := if_f h hb_22
        simp only [go_sem, hb_22]
        refine seqQ_normal hQ25 ?_
        refine vc_cond_t (by (simp only [go_sem]; done)) ?_
        refine sg fun QQ26 hQ26 => ?_
        simp only [go_sem]
        refine seqQ_normal hQ26 ?_
        refine vc_ret_of ?_
        refine seqQ_ret hQ24 ?_
        simp only [go_sem]
        obtain rfl := Option.some.inj h
        refine retW_det [] ?_
        simp only [go_sem, Le]
       ·
        replace h := if_t h hb_22
        obtain ⟨v_3, ev_3, h⟩ := bindO_some h
        simp only [go_sem, hb_22]
        refine callB (s' := (⟨1, [(0, .ptr 0 0), (3, .ptr 1 0), (4, .v (.bool true)), (56, .ptr 0 0), (57, .ptr 0 0), (58, .ptr 0 0), (59, .ptr 0 3), (60, .sl 4 (enc w_0.g.Edges)), (61, .sl 4 (enc v_2)), (62, .clo 28 [.ptr 1 0]), (63, .sl 4 (enc v_2)), (64, .ptr 1 0), (65, .ptr 1 3), (66, .v (.bool true)), (67, .v (.bool false)), (68, .v (.bool false)), (69, .agg [.sl 1 (enc w_0.g.Parent), .sl 1 (enc w_0.g.Bound), .sl 4 (enc w_0.g.Nodes), .sl 4 (enc v_2), .sl 1 (enc a_2)])], [(0, .box [.sl 1 (enc w_0.g.Parent), .sl 1 (enc w_0.g.Bound), .sl 4 (enc w_0.g.Nodes), .sl 4 (enc w_0.g.Edges), .sl 1 (enc w_0.gone)]), (1, .box [.sl 1 (enc w_0.g.Parent), .sl 1 (enc w_0.g.Bound), .sl 4 (enc w_0.g.Nodes), .sl 4 (enc v_2), .sl 1 (enc a_2)]), (2, .box [.v (.int .i64 xv_18.From), .v (.int .i64 xv_18.To), .v (.int .i64 xv_18.Port), .v (.bool xv_18.Exchange)])], 3, 76⟩ : St)) (l := [some 1, some 4]) (args' := [.agg [.sl 1 (enc w_0.g.Parent), .sl 1 (enc w_0.g.Bound), .sl 4 (enc w_0.g.Nodes), .sl 4 (enc v_2), .sl 1 (enc a_2)]]) ?_ ?_ (f_fuse_work_right_ok (⟨(⟨w_0.g.Parent, w_0.g.Bound, w_0.g.Nodes, v_2⟩ : GGraph), a_2⟩ : GFuse_work) v_3 ev_3) (by rfl) (by rfl) ?_
        · simp only [go_sem, Le] <;> (repeat' apply And.intro) <;> ((try with_reducible refine TL_eq ?_); omega)
        · simp only [go_sem, Le] <;> (repeat' apply And.intro) <;> ((try with_reducible refine TL_eq ?_); omega)
        simp only [go_sem]
        refine seqQ_normal hQ25 ?_
        refine vc_cond_of (b := (!v_3)) (by (simp only [go_sem]; done)) (fun hb_23 => ?_) (fun hb_23 => ?_)
        ·
         replace h := if_t h hb_23
         simp only [bool_to_prop] at hb_23
         refine sg fun QQ27 hQ27 => ?_
         simp only [go_sem]
         refine seqQ_normal hQ27 ?_
         refine vc_ret_of ?_
         refine seqQ_ret hQ24 ?_
         simp only [go_sem]
         obtain rfl := Option.some.inj h
         refine retW_det [] ?_
         simp only [go_sem, Le]
        ·
         replace h := if_f h hb_23
         simp only [bool_to_prop] at hb_23
         refine vc_skip_of ?_
         refine seqQ_normal hQ24 ?_
         refine sg fun QQ28 hQ28 => ?_
         simp only [go_sem]
         refine seqQ_normal hQ28 ?_
         refine sg fun QQ29 hQ29 => ?_
         simp only [go_sem]
         refine seqQ_normal hQ29 ?_
         refine vc_ret_of ?_
         simp only [go_sem]
         obtain rfl := Option.some.inj h
         refine retW_det [] ?_
         simp only [go_sem, Le] <;> (repeat' apply And.intro) <;> ((try with_reducible refine TL_eq ?_); omega)
      ·
       replace h := if_f h hb_21
       simp only [bool_to_prop] at hb_21
       refine vc_skip_of ?_
       refine seqQ_normal hQ21 ?_
       refine vc_join (by kernel_rfl) ?_
       refine seq_go_gen ?_
       intro QQ30 hQ30
       refine sg fun QQ31 hQ31 => ?_
       simp only [go_sem]
       refine seqQ_normal hQ31 ?_
       refine vc_block_gen ?_
       intro QQ32 hQ32
       refine vc_loop_of ?_
       refine loop_gen (ι := Nat × Int × Int × (List GEdge)) (fun ((_, i_1, j_1, a_4) : Nat × Int × Int × (List GEdge)) => (⟨4, [(0, .osl 3 4 (0) (List.length a_4)), (1, .clo 28 [.ptr 1 0]), (5, .v (.int .i64 i_1)), (6, .v (.int .i64 j_1))], [(0, .box [.sl 1 (enc w_0.g.Parent), .sl 1 (enc w_0.g.Bound), .sl 4 (enc w_0.g.Nodes), .sl 4 (enc w_0.g.Edges), .sl 1 (enc w_0.gone)]), (1, .box [.sl 1 (enc w_0.g.Parent), .sl 1 (enc w_0.g.Bound), .sl 4 (enc w_0.g.Nodes), .sl 4 (enc w_0.g.Edges), .osl 2 1 (0) (List.length a_2)]), (2, .arr 1 (enc a_2)), (3, .arr 4 (enc a_4))], 4, 42⟩ : St)) (fun ((n_, i_1, j_1, a_4) : Nat × Int × Int × (List GEdge)) => loopK (f_fuse_work_idle_p0_B3 w_0 some_2 a_2) n_ (i_1, j_1, a_4) = some r) (fun p => p.1) (rounds, t8_1, IntKind.i64.wrap (t8_1 + 1), v_2) [] ?_ h ?_
       · simp only [go_sem, Le] <;> (repeat' apply And.intro) <;> first | ((try with_reducible refine TL_eq ?_); omega) | ((try with_reducible refine TL_eq ?_); (simp [go_sem]; done))
       ·
        rintro ⟨n_3, i_1, j_1, a_4⟩ h QQ33 hQ33
        dsimp only at h
        replace h := loopK_some h
        obtain ⟨m_3, rfl, h⟩ := h
        rw [f_fuse_work_idle_p0_B3] at h
        refine sg fun QQ34 hQ34 => ?_
        refine sg fun QQ35 hQ35 => ?_
        simp only [go_sem]
        refine seqQ_normal hQ35 ?_
        refine vc_cond_of (b := (decide (j_1 < (List.length a_4 : Int)))) (by (simp only [go_sem]; done)) (fun hb_30 => ?_) (fun hb_30 => ?_)
        ·
         replace h := if_t h hb_30
         simp only [bool_to_prop] at hb_30
         refine vc_skip_of ?_
         refine seqQ_normal hQ34 ?_
         refine vc_join (by kernel_rfl) ?_
         refine seq_go_gen ?_
         intro QQ36 hQ36
         refine vc_block_gen ?_
         intro QQ37 hQ37
         refine sg fun QQ38 hQ38 => ?_
         obtain ⟨xv_28, exv_28, h⟩ := bindO_some h
         obtain ⟨fxv_28a, fxv_28b, fxv_28c⟩ := idx_spec exv_28
         simp only [go_sem, fxv_28a, fxv_28b, fxv_28c]
         refine And.intro (by omega) ?_
         refine seqQ_normal hQ38 ?_
         refine sg fun QQ39 hQ39 => ?_
         simp only [go_sem]
         refine callF_inl Try.func28 rfl (by kernel_rfl) (by kernel_rfl) ?_
         refine sg fun QQ40 hQ40 => ?_
         simp only [go_sem]
         refine seqQ_normal hQ40 ?_
         refine sg fun QQ41 hQ41 => ?_
         obtain ⟨xv_29, exv_29, h⟩ := bindO_some h
         obtain ⟨fxv_29a, fxv_29b, fxv_29c⟩ := idx_spec exv_29
         simp only [go_sem, fxv_29a, fxv_29b, fxv_29c]
         refine And.intro (by omega) ?_
         rcases hb_31 : xv_29 with _ | _
         ·
          replace h := if_f h hb_31
          obtain ⟨xv_30, exv_30, h⟩ := bindO_some h
          obtain ⟨fxv_30a, fxv_30b, fxv_30c⟩ := idx_spec exv_30
          simp only [go_sem, hb_31, fxv_30a, fxv_30b, fxv_30c]
          refine And.intro (by omega) ?_
          refine seqQ_normal hQ41 ?_
          refine vc_ret_of ?_
          simp only [go_sem]
          refine retW_inl [some 5] [(0, .box [.sl 1 (enc w_0.g.Parent), .sl 1 (enc w_0.g.Bound), .sl 4 (enc w_0.g.Nodes), .sl 4 (enc w_0.g.Edges), .sl 1 (enc w_0.gone)]), (1, .box [.sl 1 (enc w_0.g.Parent), .sl 1 (enc w_0.g.Bound), .sl 4 (enc w_0.g.Nodes), .sl 4 (enc w_0.g.Edges), .osl 2 1 (0) (List.length a_2)]), (2, .arr 1 (enc a_2)), (3, .arr 4 (enc a_4)), (4, .box [.v (.int .i64 xv_28.From), .v (.int .i64 xv_28.To), .v (.int .i64 xv_28.Port), .v (.bool xv_28.Exchange)]), (5, .box [.v (.int .i64 xv_28.From), .v (.int .i64 xv_28.To), .v (.int .i64 xv_28.Port), .v (.bool xv_28.Exchange)])] 6 (.v (.bool xv_30)) ?_ ?_
          · simp only [go_sem, Le] <;> (repeat' apply And.intro) <;> first | ((try with_reducible refine TL_eq ?_); omega) | ((try with_reducible refine TL_eq ?_); (simp [go_sem]; done))
          refine inlK_of ?_
          simp only [go_sem]
          refine seqQ_normal hQ39 ?_
          refine vc_cond_of (b := (!xv_30)) (by (simp only [go_sem]; done)) (fun hb_32 => ?_) (fun hb_32 => ?_)
          ·
           replace h := if_t h hb_32
           simp only [bool_to_prop] at hb_32
           refine sg fun QQ42 hQ42 => ?_
           obtain ⟨xv_31, exv_31, h⟩ := bindO_some h
           obtain ⟨fxv_31a, fxv_31b, fxv_31c⟩ := idx_spec exv_31
           have rf_7 : (enc a_4).set (Int.toNat i_1) [.v (.int .i64 xv_28.From), .v (.int .i64 xv_28.To), .v (.int .i64 xv_28.Port), .v (.bool xv_28.Exchange)] = enc (List.set a_4 (Int.toNat i_1) xv_28) := by exact enc_set _ _ _
           simp only [go_sem, fxv_31a, fxv_31b, fxv_31c, rf_7]
           refine And.intro (by omega) ?_
           refine seqQ_normal hQ42 ?_
           simp only [go_sem]
           refine blockQ_normal hQ37 ?_
           refine seqQ_normal hQ36 ?_
           simp only [go_sem]
           refine thenQ_normal hQ33 ?_
           refine ⟨(m_3, IntKind.i64.wrap (i_1 + 1), IntKind.i64.wrap (j_1 + 1), (List.set a_4 (Int.toNat i_1) xv_28)), [], ?_, h, Nat.lt_succ_self _⟩
           simp only [go_sem, Le] <;> (repeat' apply And.intro) <;> first | ((try with_reducible refine TL_eq ?_); omega) | ((try with_reducible refine TL_eq ?_); (simp [go_sem]; done))
          ·
           replace h := if_f h hb_32
           simp only [bool_to_prop] at hb_32
           refine vc_skip_of ?_
           refine blockQ_normal hQ37 ?_
           refine seqQ_normal hQ36 ?_
           simp only [go_sem]
           refine thenQ_normal hQ33 ?_
           refine ⟨(m_3, i_1, IntKind.i64.wrap (j_1 + 1), a_4), [], ?_, h, Nat.lt_succ_self _⟩
           simp only [go_sem, Le] <;> (repeat' apply And.intro) <;> first | ((try with_reducible refine TL_eq ?_); omega) | ((try with_reducible refine TL_eq ?_); (simp [go_sem]; done))
         ·
          replace h := if_t h hb_31
          simp only [go_sem, hb_31]
          refine seqQ_normal hQ41 ?_
          refine vc_ret_of ?_
          simp only [go_sem]
          refine retW_inl [some 5] [(0, .box [.sl 1 (enc w_0.g.Parent), .sl 1 (enc w_0.g.Bound), .sl 4 (enc w_0.g.Nodes), .sl 4 (enc w_0.g.Edges), .sl 1 (enc w_0.gone)]), (1, .box [.sl 1 (enc w_0.g.Parent), .sl 1 (enc w_0.g.Bound), .sl 4 (enc w_0.g.Nodes), .sl 4 (enc w_0.g.Edges), .osl 2 1 (0) (List.length a_2)]), (2, .arr 1 (enc a_2)), (3, .arr 4 (enc a_4)), (4, .box [.v (.int .i64 xv_28.From), .v (.int .i64 xv_28.To), .v (.int .i64 xv_28.Port), .v (.bool xv_28.Exchange)]), (5, .box [.v (.int .i64 xv_28.From), .v (.int .i64 xv_28.To), .v (.int .i64 xv_28.Port), .v (.bool xv_28.Exchange)])] 6 (.v (.bool true)) ?_ ?_
          · simp only [go_sem, Le] <;> (repeat' apply And.intro) <;> first | ((try with_reducible refine TL_eq ?_); omega) | ((try with_reducible refine TL_eq ?_); (simp [go_sem]; done))
          refine inlK_of ?_
          simp only [go_sem]
          refine seqQ_normal hQ39 ?_
          refine vc_cond_f (by (simp only [go_sem]; done)) ?_
          refine vc_skip_of ?_
          refine blockQ_normal hQ37 ?_
          refine seqQ_normal hQ36 ?_
          simp only [go_sem]
          refine thenQ_normal hQ33 ?_
          refine ⟨(m_3, i_1, IntKind.i64.wrap (j_1 + 1), a_4), [], ?_, h, Nat.lt_succ_self _⟩
          simp only [go_sem, Le] <;> (repeat' apply And.intro) <;> first | ((try with_reducible refine TL_eq ?_); omega) | ((try with_reducible refine TL_eq ?_); (simp [go_sem]; done))
        ·
         replace h := if_f h hb_30
         simp only [bool_to_prop] at hb_30
         refine vc_exit_of ?_
         refine seqQ_exit hQ34 ?_
         refine thenQ_exit hQ33 ?_
         refine blockQ_exit hQ32 ?_
         refine seqQ_normal hQ30 ?_
         refine sg fun QQ43 hQ43 => ?_
         obtain ⟨g_6, h⟩ := guardO_some h
         obtain ⟨g_7, h⟩ := guardO_some h
         have rf_8 : List.take (Int.toNat i_1) (enc a_4) ++ List.replicate ((List.length a_4 - Int.toNat i_1)) [.v (.int .i64 0), .v (.int .i64 0), .v (.int .i64 0), .v (.bool false)] ++ List.drop (Int.toNat i_1 + (List.length a_4 - Int.toNat i_1)) (enc a_4) = enc (List.take (Int.toNat i_1) a_4 ++ List.replicate ((List.length a_4 - Int.toNat i_1)) (⟨0, 0, 0, false⟩ : GEdge) ++ List.drop (Int.toNat i_1 + (List.length a_4 - Int.toNat i_1)) a_4) := by (simp [enc, row_int, row_bool, row_list, enc_nil, List.map_take, List.map_drop]; exact .inr rfl)
         have rf_8b := rf_8
         simp only [enc_take, enc_drop] at rf_8b
         simp only [go_sem, g_6, g_7, rf_8, rf_8b]
         refine seqQ_normal hQ43 ?_
         refine sg fun QQ44 hQ44 => ?_
         obtain ⟨g_8, h⟩ := guardO_some h
         simp only [go_sem, g_8]
         refine seqQ_normal hQ44 ?_
         refine vc_ret_of ?_
         simp only [go_sem]
         refine retW_inl [] [(0, .box [.sl 1 (enc w_0.g.Parent), .sl 1 (enc w_0.g.Bound), .sl 4 (enc w_0.g.Nodes), .sl 4 (enc w_0.g.Edges), .sl 1 (enc w_0.gone)]), (1, .box [.sl 1 (enc w_0.g.Parent), .sl 1 (enc w_0.g.Bound), .sl 4 (enc w_0.g.Nodes), .sl 4 (enc w_0.g.Edges), .osl 2 1 (0) (List.length a_2)]), (2, .arr 1 (enc a_2)), (3, .arr 4 (enc (List.take (Int.toNat i_1) a_4 ++ List.replicate ((List.length a_4 - Int.toNat i_1)) (⟨0, 0, 0, false⟩ : GEdge) ++ List.drop (Int.toNat i_1 + (List.length a_4 - Int.toNat i_1)) a_4)))] 4 (.osl 3 4 (0) (Int.toNat i_1)) ?_ ?_
         · simp only [go_sem, Le] <;> (repeat' apply And.intro) <;> first | ((try with_reducible refine TL_eq ?_); omega) | ((try with_reducible refine TL_eq ?_); (simp [go_sem]; done))
         refine inlK_of ?_
         simp only [go_sem]
         refine seqQ_normal hQ4 ?_
         refine sg fun QQ45 hQ45 => ?_
         refine sg fun QQ46 hQ46 => ?_
         simp only [go_sem]
         rcases hb_33 : some_2 with _ | _
         ·
          replace h := if_f h hb_33
          simp only [go_sem, hb_33]
          refine seqQ_normal hQ46 ?_
          refine vc_cond_t (by (simp only [go_sem]; done)) ?_
          refine sg fun QQ47 hQ47 => ?_
          simp only [go_sem]
          refine seqQ_normal hQ47 ?_
          refine vc_ret_of ?_
          refine seqQ_ret hQ45 ?_
          simp only [go_sem]
          obtain rfl := Option.some.inj h
          refine retW_det [] ?_
          simp only [go_sem, Le]
         ·
          replace h := if_t h hb_33
          obtain ⟨v_4, ev_4, h⟩ := bindO_some h
          simp only [go_sem, hb_33]
          refine callB (s' := (⟨1, [(0, .ptr 0 0), (3, .ptr 1 0), (4, .v (.bool true)), (56, .ptr 0 0), (57, .ptr 0 0), (58, .ptr 0 0), (59, .ptr 0 3), (60, .sl 4 (enc w_0.g.Edges)), (62, .clo 28 [.ptr 1 0]), (63, .sl 4 (enc (List.take (Int.toNat i_1) (List.take (Int.toNat i_1) a_4 ++ List.replicate ((List.length a_4 - Int.toNat i_1)) (⟨0, 0, 0, false⟩ : GEdge) ++ List.drop (Int.toNat i_1 + (List.length a_4 - Int.toNat i_1)) a_4)))), (64, .ptr 1 0), (65, .ptr 1 3), (66, .v (.bool true)), (67, .v (.bool false)), (68, .v (.bool false)), (69, .agg [.sl 1 (enc w_0.g.Parent), .sl 1 (enc w_0.g.Bound), .sl 4 (enc w_0.g.Nodes), .sl 4 (enc (List.take (Int.toNat i_1) (List.take (Int.toNat i_1) a_4 ++ List.replicate ((List.length a_4 - Int.toNat i_1)) (⟨0, 0, 0, false⟩ : GEdge) ++ List.drop (Int.toNat i_1 + (List.length a_4 - Int.toNat i_1)) a_4))), .sl 1 (enc a_2)])], [(0, .box [.sl 1 (enc w_0.g.Parent), .sl 1 (enc w_0.g.Bound), .sl 4 (enc w_0.g.Nodes), .sl 4 (enc w_0.g.Edges), .sl 1 (enc w_0.gone)]), (1, .box [.sl 1 (enc w_0.g.Parent), .sl 1 (enc w_0.g.Bound), .sl 4 (enc w_0.g.Nodes), .sl 4 (enc (List.take (Int.toNat i_1) (List.take (Int.toNat i_1) a_4 ++ List.replicate ((List.length a_4 - Int.toNat i_1)) (⟨0, 0, 0, false⟩ : GEdge) ++ List.drop (Int.toNat i_1 + (List.length a_4 - Int.toNat i_1)) a_4))), .sl 1 (enc a_2)])], 2, 76⟩ : St)) (l := [some 1]) (args' := [.agg [.sl 1 (enc w_0.g.Parent), .sl 1 (enc w_0.g.Bound), .sl 4 (enc w_0.g.Nodes), .sl 4 (enc (List.take (Int.toNat i_1) (List.take (Int.toNat i_1) a_4 ++ List.replicate ((List.length a_4 - Int.toNat i_1)) (⟨0, 0, 0, false⟩ : GEdge) ++ List.drop (Int.toNat i_1 + (List.length a_4 - Int.toNat i_1)) a_4))), .sl 1 (enc a_2)]]) ?_ ?_ (f_fuse_work_right_ok (⟨(⟨w_0.g.Parent, w_0.g.Bound, w_0.g.Nodes, (List.take (Int.toNat i_1) (List.take (Int.toNat i_1) a_4 ++ List.replicate ((List.length a_4 - Int.toNat i_1)) (⟨0, 0, 0, false⟩ : GEdge) ++ List.drop (Int.toNat i_1 + (List.length a_4 - Int.toNat i_1)) a_4))⟩ : GGraph), a_2⟩ : GFuse_work) v_4 ev_4) (by rfl) (by rfl) ?_
          · simp only [go_sem, Le] <;> (repeat' apply And.intro) <;> first | ((try with_reducible refine TL_eq ?_); omega) | ((try with_reducible refine TL_eq ?_); (simp [go_sem]; done)) | ((try with_reducible refine TL_eq ?_); (simp [enc_len, enc]; omega))
          · simp only [go_sem, Le] <;> (repeat' apply And.intro) <;> first | ((try with_reducible refine TL_eq ?_); (simp [go_sem]; done)) | ((try with_reducible refine TL_eq ?_); (simp [enc_len, enc]; omega))
          simp only [go_sem]
          refine seqQ_normal hQ46 ?_
          refine vc_cond_of (b := (!v_4)) (by (simp only [go_sem]; done)) (fun hb_34 => ?_) (fun hb_34 => ?_)
          ·
           replace h := if_t h hb_34
           simp only [bool_to_prop] at hb_34
           refine sg fun QQ48 hQ48 => ?_
           simp only [go_sem]
           refine seqQ_normal hQ48 ?_
           refine vc_ret_of ?_
           refine seqQ_ret hQ45 ?_
           simp only [go_sem]
           obtain rfl := Option.some.inj h
           refine retW_det [] ?_
           simp only [go_sem, Le]
          ·
           replace h := if_f h hb_34
           simp only [bool_to_prop] at hb_34
           refine vc_skip_of ?_
           refine seqQ_normal hQ45 ?_
           refine sg fun QQ49 hQ49 => ?_
           simp only [go_sem]
           refine seqQ_normal hQ49 ?_
           refine sg fun QQ50 hQ50 => ?_
           simp only [go_sem]
           refine seqQ_normal hQ50 ?_
           refine vc_ret_of ?_
           simp only [go_sem]
           obtain rfl := Option.some.inj h
           refine retW_det [] ?_
           simp only [go_sem, Le] <;> (repeat' apply And.intro) <;> first | ((try with_reducible refine TL_eq ?_); (simp [go_sem]; done)) | ((try with_reducible refine TL_eq ?_); (simp [enc_len, enc]; omega))
     ·
      replace h := if_f h hb_20
      refine vc_skip_of ?_
      refine blockQ_normal hQ15 ?_
      refine seqQ_normal hQ14 ?_
      simp only [go_sem]
      refine thenQ_normal hQ11 ?_
      refine ⟨(m_2, IntKind.i64.wrap (t8_1 + 1)), [], ?_, h, Nat.lt_succ_self _⟩
      simp only [go_sem, Le] <;> (repeat' apply And.intro) <;> first | ((try with_reducible refine TL_eq ?_); omega) | ((try with_reducible refine TL_eq ?_); (simp [go_sem]; done))
    ·
     replace h := if_t h hb_19
     simp only [go_sem, hb_19]
     refine seqQ_normal hQ19 ?_
     refine vc_ret_of ?_
     simp only [go_sem]
     refine retW_inl [some 4] [(0, .box [.sl 1 (enc w_0.g.Parent), .sl 1 (enc w_0.g.Bound), .sl 4 (enc w_0.g.Nodes), .sl 4 (enc w_0.g.Edges), .sl 1 (enc w_0.gone)]), (1, .box [.sl 1 (enc w_0.g.Parent), .sl 1 (enc w_0.g.Bound), .sl 4 (enc w_0.g.Nodes), .sl 4 (enc w_0.g.Edges), .osl 2 1 (0) (List.length a_2)]), (2, .arr 1 (enc a_2)), (3, .arr 4 (enc v_2)), (4, .box [.v (.int .i64 xv_18.From), .v (.int .i64 xv_18.To), .v (.int .i64 xv_18.Port), .v (.bool xv_18.Exchange)])] 5 (.v (.bool true)) ?_ ?_
     · simp only [go_sem, Le] <;> (repeat' apply And.intro) <;> first | ((try with_reducible refine TL_eq ?_); omega) | ((try with_reducible refine TL_eq ?_); (simp [go_sem]; done))
     refine inlK_of ?_
     simp only [go_sem]
     refine seqQ_normal hQ17 ?_
     refine vc_cond_t (by (simp only [go_sem]; done)) ?_
     refine sg fun QQ51 hQ51 => ?_
     simp only [go_sem]
     refine seqQ_normal hQ51 ?_
     refine vc_ret_of ?_
     refine blockQ_ret hQ15 ?_
     refine seqQ_ret hQ14 ?_
     refine thenQ_ret hQ11 ?_
     refine blockQ_ret hQ10 ?_
     refine seqQ_ret hQ8 ?_
     simp only [go_sem]
     refine retW_inl [some 4] [(0, .box [.sl 1 (enc w_0.g.Parent), .sl 1 (enc w_0.g.Bound), .sl 4 (enc w_0.g.Nodes), .sl 4 (enc w_0.g.Edges), .sl 1 (enc w_0.gone)]), (1, .box [.sl 1 (enc w_0.g.Parent), .sl 1 (enc w_0.g.Bound), .sl 4 (enc w_0.g.Nodes), .sl 4 (enc w_0.g.Edges), .osl 2 1 (0) (List.length a_2)]), (2, .arr 1 (enc a_2)), (3, .arr 4 (enc v_2)), (4, .box [.v (.int .i64 xv_18.From), .v (.int .i64 xv_18.To), .v (.int .i64 xv_18.Port), .v (.bool xv_18.Exchange)])] 5 (.v (.int .i64 t8_1)) ?_ ?_
     · simp only [go_sem, Le] <;> (repeat' apply And.intro) <;> first | ((try with_reducible refine TL_eq ?_); omega) | ((try with_reducible refine TL_eq ?_); (simp [go_sem]; done))
     refine inlK_of ?_
     simp only [go_sem]
     refine seqQ_normal hQ6 ?_
     refine sg fun QQ52 hQ52 => ?_
     refine sg fun QQ53 hQ53 => ?_
     simp only [go_sem]
     refine seqQ_normal hQ53 ?_
     refine vc_cond_of (b := (t8_1 == (-1))) (by (simp only [go_sem]; done)) (fun hb_35 => ?_) (fun hb_35 => ?_)
     ·
      replace h := if_t h hb_35
      simp only [bool_to_prop] at hb_35
      refine sg fun QQ54 hQ54 => ?_
      simp only [go_sem]
      refine seqQ_normal hQ54 ?_
      refine vc_ret_of ?_
      refine seqQ_ret hQ52 ?_
      simp only [go_sem]
      refine retW_inl [some 4] [(0, .box [.sl 1 (enc w_0.g.Parent), .sl 1 (enc w_0.g.Bound), .sl 4 (enc w_0.g.Nodes), .sl 4 (enc w_0.g.Edges), .sl 1 (enc w_0.gone)]), (1, .box [.sl 1 (enc w_0.g.Parent), .sl 1 (enc w_0.g.Bound), .sl 4 (enc w_0.g.Nodes), .sl 4 (enc w_0.g.Edges), .osl 2 1 (0) (List.length a_2)]), (2, .arr 1 (enc a_2)), (3, .arr 4 (enc v_2)), (4, .box [.v (.int .i64 xv_18.From), .v (.int .i64 xv_18.To), .v (.int .i64 xv_18.Port), .v (.bool xv_18.Exchange)])] 5 (.osl 3 4 (0) (List.length v_2)) ?_ ?_
      · simp only [go_sem, Le] <;> (repeat' apply And.intro) <;> ((try with_reducible refine TL_eq ?_); omega)
      refine inlK_of ?_
      simp only [go_sem]
      refine seqQ_normal hQ4 ?_
      refine sg fun QQ55 hQ55 => ?_
      refine sg fun QQ56 hQ56 => ?_
      simp only [go_sem]
      rcases hb_36 : some_2 with _ | _
      ·
       replace h := if_f h hb_36
       simp only [go_sem, hb_36]
       refine seqQ_normal hQ56 ?_
       refine vc_cond_t (by (simp only [go_sem]; done)) ?_
       refine sg fun QQ57 hQ57 => ?_
       simp only [go_sem]
       refine seqQ_normal hQ57 ?_
       refine vc_ret_of ?_
       refine seqQ_ret hQ55 ?_
       simp only [go_sem]
       obtain rfl := Option.some.inj h
       refine retW_det [] ?_
       simp only [go_sem, Le]
      ·
       replace h := if_t h hb_36
       obtain ⟨v_5, ev_5, h⟩ := bindO_some h
       simp only [go_sem, hb_36]
       refine callB (s' := (⟨1, [(0, .ptr 0 0), (3, .ptr 1 0), (4, .v (.bool true)), (56, .ptr 0 0), (57, .ptr 0 0), (58, .ptr 0 0), (59, .ptr 0 3), (60, .sl 4 (enc w_0.g.Edges)), (61, .sl 4 (enc v_2)), (62, .clo 28 [.ptr 1 0]), (63, .sl 4 (enc v_2)), (64, .ptr 1 0), (65, .ptr 1 3), (66, .v (.bool true)), (67, .v (.bool false)), (68, .v (.bool false)), (69, .agg [.sl 1 (enc w_0.g.Parent), .sl 1 (enc w_0.g.Bound), .sl 4 (enc w_0.g.Nodes), .sl 4 (enc v_2), .sl 1 (enc a_2)])], [(0, .box [.sl 1 (enc w_0.g.Parent), .sl 1 (enc w_0.g.Bound), .sl 4 (enc w_0.g.Nodes), .sl 4 (enc w_0.g.Edges), .sl 1 (enc w_0.gone)]), (1, .box [.sl 1 (enc w_0.g.Parent), .sl 1 (enc w_0.g.Bound), .sl 4 (enc w_0.g.Nodes), .sl 4 (enc v_2), .sl 1 (enc a_2)]), (2, .box [.v (.int .i64 xv_18.From), .v (.int .i64 xv_18.To), .v (.int .i64 xv_18.Port), .v (.bool xv_18.Exchange)])], 3, 76⟩ : St)) (l := [some 1, some 4]) (args' := [.agg [.sl 1 (enc w_0.g.Parent), .sl 1 (enc w_0.g.Bound), .sl 4 (enc w_0.g.Nodes), .sl 4 (enc v_2), .sl 1 (enc a_2)]]) ?_ ?_ (f_fuse_work_right_ok (⟨(⟨w_0.g.Parent, w_0.g.Bound, w_0.g.Nodes, v_2⟩ : GGraph), a_2⟩ : GFuse_work) v_5 ev_5) (by rfl) (by rfl) ?_
       · simp only [go_sem, Le] <;> (repeat' apply And.intro) <;> ((try with_reducible refine TL_eq ?_); omega)
       · simp only [go_sem, Le] <;> (repeat' apply And.intro) <;> ((try with_reducible refine TL_eq ?_); omega)
       simp only [go_sem]
       refine seqQ_normal hQ56 ?_
       refine vc_cond_of (b := (!v_5)) (by (simp only [go_sem]; done)) (fun hb_37 => ?_) (fun hb_37 => ?_)
       ·
        replace h := if_t h hb_37
        simp only [bool_to_prop] at hb_37
        refine sg fun QQ58 hQ58 => ?_
        simp only [go_sem]
        refine seqQ_normal hQ58 ?_
        refine vc_ret_of ?_
        refine seqQ_ret hQ55 ?_
        simp only [go_sem]
        obtain rfl := Option.some.inj h
        refine retW_det [] ?_
        simp only [go_sem, Le]
       ·
        replace h := if_f h hb_37
        simp only [bool_to_prop] at hb_37
        refine vc_skip_of ?_
        refine seqQ_normal hQ55 ?_
        refine sg fun QQ59 hQ59 => ?_
        simp only [go_sem]
        refine seqQ_normal hQ59 ?_
        refine sg fun QQ60 hQ60 => ?_
        simp only [go_sem]
        refine seqQ_normal hQ60 ?_
        refine vc_ret_of ?_
        simp only [go_sem]
        obtain rfl := Option.some.inj h
        refine retW_det [] ?_
        simp only [go_sem, Le] <;> (repeat' apply And.intro) <;> ((try with_reducible refine TL_eq ?_); omega)
     ·
      replace h := if_f h hb_35
      simp only [bool_to_prop] at hb_35
      refine vc_skip_of ?_
      refine seqQ_normal hQ52 ?_
      refine vc_join (by kernel_rfl) ?_
      refine seq_go_gen ?_
      intro QQ61 hQ61
      refine sg fun QQ62 hQ62 => ?_
      simp only [go_sem]
      refine seqQ_normal hQ62 ?_
      refine vc_block_gen ?_
      intro QQ63 hQ63
      refine vc_loop_of ?_
      refine loop_gen (ι := Nat × Int × Int × (List GEdge)) (fun ((_, i_3, j_3, a_6) : Nat × Int × Int × (List GEdge)) => (⟨4, [(0, .osl 3 4 (0) (List.length a_6)), (1, .clo 28 [.ptr 1 0]), (5, .v (.int .i64 i_3)), (6, .v (.int .i64 j_3))], [(0, .box [.sl 1 (enc w_0.g.Parent), .sl 1 (enc w_0.g.Bound), .sl 4 (enc w_0.g.Nodes), .sl 4 (enc w_0.g.Edges), .sl 1 (enc w_0.gone)]), (1, .box [.sl 1 (enc w_0.g.Parent), .sl 1 (enc w_0.g.Bound), .sl 4 (enc w_0.g.Nodes), .sl 4 (enc w_0.g.Edges), .osl 2 1 (0) (List.length a_2)]), (2, .arr 1 (enc a_2)), (3, .arr 4 (enc a_6))], 4, 42⟩ : St)) (fun ((n_, i_3, j_3, a_6) : Nat × Int × Int × (List GEdge)) => loopK (f_fuse_work_idle_p0_B4 w_0 some_2 a_2) n_ (i_3, j_3, a_6) = some r) (fun p => p.1) (rounds, t8_1, IntKind.i64.wrap (t8_1 + 1), v_2) [] ?_ h ?_
      · simp only [go_sem, Le] <;> (repeat' apply And.intro) <;> first | ((try with_reducible refine TL_eq ?_); omega) | ((try with_reducible refine TL_eq ?_); (simp [go_sem]; done))
      ·
       rintro ⟨n_4, i_3, j_3, a_6⟩ h QQ64 hQ64
       dsimp only at h
       replace h := loopK_some h
       obtain ⟨m_4, rfl, h⟩ := h
       rw [f_fuse_work_idle_p0_B4] at h
       refine sg fun QQ65 hQ65 => ?_
       refine sg fun QQ66 hQ66 => ?_
       simp only [go_sem]
       refine seqQ_normal hQ66 ?_
       refine vc_cond_of (b := (decide (j_3 < (List.length a_6 : Int)))) (by (simp only [go_sem]; done)) (fun hb_44 => ?_) (fun hb_44 => ?_)
       ·
        replace h := if_t h hb_44
        simp only [bool_to_prop] at hb_44
        refine vc_skip_of ?_
        refine seqQ_normal hQ65 ?_
        refine vc_join (by kernel_rfl) ?_
        refine seq_go_gen ?_
        intro QQ67 hQ67
        refine vc_block_gen ?_
        intro QQ68 hQ68
        refine sg fun QQ69 hQ69 => ?_
        obtain ⟨xv_39, exv_39, h⟩ := bindO_some h
        obtain ⟨fxv_39a, fxv_39b, fxv_39c⟩ := idx_spec exv_39
        simp only [go_sem, fxv_39a, fxv_39b, fxv_39c]
        refine And.intro (by omega) ?_
        refine seqQ_normal hQ69 ?_
        refine sg fun QQ70 hQ70 => ?_
        simp only [go_sem]
        refine callF_inl Try.func28 rfl (by kernel_rfl) (by kernel_rfl) ?_
        refine sg fun QQ71 hQ71 => ?_
        simp only [go_sem]
        refine seqQ_normal hQ71 ?_
        refine sg fun QQ72 hQ72 => ?_
        obtain ⟨xv_40, exv_40, h⟩ := bindO_some h
        obtain ⟨fxv_40a, fxv_40b, fxv_40c⟩ := idx_spec exv_40
        simp only [go_sem, fxv_40a, fxv_40b, fxv_40c]
        refine And.intro (by omega) ?_
        rcases hb_45 : xv_40 with _ | _
        ·
         replace h := if_f h hb_45
         obtain ⟨xv_41, exv_41, h⟩ := bindO_some h
         obtain ⟨fxv_41a, fxv_41b, fxv_41c⟩ := idx_spec exv_41
         simp only [go_sem, hb_45, fxv_41a, fxv_41b, fxv_41c]
         refine And.intro (by omega) ?_
         refine seqQ_normal hQ72 ?_
         refine vc_ret_of ?_
         simp only [go_sem]
         refine retW_inl [some 5] [(0, .box [.sl 1 (enc w_0.g.Parent), .sl 1 (enc w_0.g.Bound), .sl 4 (enc w_0.g.Nodes), .sl 4 (enc w_0.g.Edges), .sl 1 (enc w_0.gone)]), (1, .box [.sl 1 (enc w_0.g.Parent), .sl 1 (enc w_0.g.Bound), .sl 4 (enc w_0.g.Nodes), .sl 4 (enc w_0.g.Edges), .osl 2 1 (0) (List.length a_2)]), (2, .arr 1 (enc a_2)), (3, .arr 4 (enc a_6)), (4, .box [.v (.int .i64 xv_39.From), .v (.int .i64 xv_39.To), .v (.int .i64 xv_39.Port), .v (.bool xv_39.Exchange)]), (5, .box [.v (.int .i64 xv_39.From), .v (.int .i64 xv_39.To), .v (.int .i64 xv_39.Port), .v (.bool xv_39.Exchange)])] 6 (.v (.bool xv_41)) ?_ ?_
         · simp only [go_sem, Le] <;> (repeat' apply And.intro) <;> first | ((try with_reducible refine TL_eq ?_); omega) | ((try with_reducible refine TL_eq ?_); (simp [go_sem]; done))
         refine inlK_of ?_
         simp only [go_sem]
         refine seqQ_normal hQ70 ?_
         refine vc_cond_of (b := (!xv_41)) (by (simp only [go_sem]; done)) (fun hb_46 => ?_) (fun hb_46 => ?_)
         ·
          replace h := if_t h hb_46
          simp only [bool_to_prop] at hb_46
          refine sg fun QQ73 hQ73 => ?_
          obtain ⟨xv_42, exv_42, h⟩ := bindO_some h
          obtain ⟨fxv_42a, fxv_42b, fxv_42c⟩ := idx_spec exv_42
          have rf_13 : (enc a_6).set (Int.toNat i_3) [.v (.int .i64 xv_39.From), .v (.int .i64 xv_39.To), .v (.int .i64 xv_39.Port), .v (.bool xv_39.Exchange)] = enc (List.set a_6 (Int.toNat i_3) xv_39) := by exact enc_set _ _ _
          simp only [go_sem, fxv_42a, fxv_42b, fxv_42c, rf_13]
          refine And.intro (by omega) ?_
          refine seqQ_normal hQ73 ?_
          simp only [go_sem]
          refine blockQ_normal hQ68 ?_
          refine seqQ_normal hQ67 ?_
          simp only [go_sem]
          refine thenQ_normal hQ64 ?_
          refine ⟨(m_4, IntKind.i64.wrap (i_3 + 1), IntKind.i64.wrap (j_3 + 1), (List.set a_6 (Int.toNat i_3) xv_39)), [], ?_, h, Nat.lt_succ_self _⟩
          simp only [go_sem, Le] <;> (repeat' apply And.intro) <;> first | ((try with_reducible refine TL_eq ?_); omega) | ((try with_reducible refine TL_eq ?_); (simp [go_sem]; done))
         ·
          replace h := if_f h hb_46
          simp only [bool_to_prop] at hb_46
          refine vc_skip_of ?_
          refine blockQ_normal hQ68 ?_
          refine seqQ_normal hQ67 ?_
          simp only [go_sem]
          refine thenQ_normal hQ64 ?_
          refine ⟨(m_4, i_3, IntKind.i64.wrap (j_3 + 1), a_6), [], ?_, h, Nat.lt_succ_self _⟩
          simp only [go_sem, Le] <;> (repeat' apply And.intro) <;> first | ((try with_reducible refine TL_eq ?_); omega) | ((try with_reducible refine TL_eq ?_); (simp [go_sem]; done))
        ·
         replace h := if_t h hb_45
         simp only [go_sem, hb_45]
         refine seqQ_normal hQ72 ?_
         refine vc_ret_of ?_
         simp only [go_sem]
         refine retW_inl [some 5] [(0, .box [.sl 1 (enc w_0.g.Parent), .sl 1 (enc w_0.g.Bound), .sl 4 (enc w_0.g.Nodes), .sl 4 (enc w_0.g.Edges), .sl 1 (enc w_0.gone)]), (1, .box [.sl 1 (enc w_0.g.Parent), .sl 1 (enc w_0.g.Bound), .sl 4 (enc w_0.g.Nodes), .sl 4 (enc w_0.g.Edges), .osl 2 1 (0) (List.length a_2)]), (2, .arr 1 (enc a_2)), (3, .arr 4 (enc a_6)), (4, .box [.v (.int .i64 xv_39.From), .v (.int .i64 xv_39.To), .v (.int .i64 xv_39.Port), .v (.bool xv_39.Exchange)]), (5, .box [.v (.int .i64 xv_39.From), .v (.int .i64 xv_39.To), .v (.int .i64 xv_39.Port), .v (.bool xv_39.Exchange)])] 6 (.v (.bool true)) ?_ ?_
         · simp only [go_sem, Le] <;> (repeat' apply And.intro) <;> first | ((try with_reducible refine TL_eq ?_); omega) | ((try with_reducible refine TL_eq ?_); (simp [go_sem]; done))
         refine inlK_of ?_
         simp only [go_sem]
         refine seqQ_normal hQ70 ?_
         refine vc_cond_f (by (simp only [go_sem]; done)) ?_
         refine vc_skip_of ?_
         refine blockQ_normal hQ68 ?_
         refine seqQ_normal hQ67 ?_
         simp only [go_sem]
         refine thenQ_normal hQ64 ?_
         refine ⟨(m_4, i_3, IntKind.i64.wrap (j_3 + 1), a_6), [], ?_, h, Nat.lt_succ_self _⟩
         simp only [go_sem, Le] <;> (repeat' apply And.intro) <;> first | ((try with_reducible refine TL_eq ?_); omega) | ((try with_reducible refine TL_eq ?_); (simp [go_sem]; done))
       ·
        replace h := if_f h hb_44
        simp only [bool_to_prop] at hb_44
        refine vc_exit_of ?_
        refine seqQ_exit hQ65 ?_
        refine thenQ_exit hQ64 ?_
        refine blockQ_exit hQ63 ?_
        refine seqQ_normal hQ61 ?_
        refine sg fun QQ74 hQ74 => ?_
        obtain ⟨g_15, h⟩ := guardO_some h
        obtain ⟨g_16, h⟩ := guardO_some h
        have rf_14 : List.take (Int.toNat i_3) (enc a_6) ++ List.replicate ((List.length a_6 - Int.toNat i_3)) [.v (.int .i64 0), .v (.int .i64 0), .v (.int .i64 0), .v (.bool false)] ++ List.drop (Int.toNat i_3 + (List.length a_6 - Int.toNat i_3)) (enc a_6) = enc (List.take (Int.toNat i_3) a_6 ++ List.replicate ((List.length a_6 - Int.toNat i_3)) (⟨0, 0, 0, false⟩ : GEdge) ++ List.drop (Int.toNat i_3 + (List.length a_6 - Int.toNat i_3)) a_6) := by (simp [enc, row_int, row_bool, row_list, enc_nil, List.map_take, List.map_drop]; exact .inr rfl)
        have rf_14b := rf_14
        simp only [enc_take, enc_drop] at rf_14b
        simp only [go_sem, g_15, g_16, rf_14, rf_14b]
        refine seqQ_normal hQ74 ?_
        refine sg fun QQ75 hQ75 => ?_
        obtain ⟨g_17, h⟩ := guardO_some h
        simp only [go_sem, g_17]
        refine seqQ_normal hQ75 ?_
        refine vc_ret_of ?_
        simp only [go_sem]
        refine retW_inl [] [(0, .box [.sl 1 (enc w_0.g.Parent), .sl 1 (enc w_0.g.Bound), .sl 4 (enc w_0.g.Nodes), .sl 4 (enc w_0.g.Edges), .sl 1 (enc w_0.gone)]), (1, .box [.sl 1 (enc w_0.g.Parent), .sl 1 (enc w_0.g.Bound), .sl 4 (enc w_0.g.Nodes), .sl 4 (enc w_0.g.Edges), .osl 2 1 (0) (List.length a_2)]), (2, .arr 1 (enc a_2)), (3, .arr 4 (enc (List.take (Int.toNat i_3) a_6 ++ List.replicate ((List.length a_6 - Int.toNat i_3)) (⟨0, 0, 0, false⟩ : GEdge) ++ List.drop (Int.toNat i_3 + (List.length a_6 - Int.toNat i_3)) a_6)))] 4 (.osl 3 4 (0) (Int.toNat i_3)) ?_ ?_
        · simp only [go_sem, Le] <;> (repeat' apply And.intro) <;> first | ((try with_reducible refine TL_eq ?_); omega) | ((try with_reducible refine TL_eq ?_); (simp [go_sem]; done))
        refine inlK_of ?_
        simp only [go_sem]
        refine seqQ_normal hQ4 ?_
        refine sg fun QQ76 hQ76 => ?_
        refine sg fun QQ77 hQ77 => ?_
        simp only [go_sem]
        rcases hb_47 : some_2 with _ | _
        ·
         replace h := if_f h hb_47
         simp only [go_sem, hb_47]
         refine seqQ_normal hQ77 ?_
         refine vc_cond_t (by (simp only [go_sem]; done)) ?_
         refine sg fun QQ78 hQ78 => ?_
         simp only [go_sem]
         refine seqQ_normal hQ78 ?_
         refine vc_ret_of ?_
         refine seqQ_ret hQ76 ?_
         simp only [go_sem]
         obtain rfl := Option.some.inj h
         refine retW_det [] ?_
         simp only [go_sem, Le]
        ·
         replace h := if_t h hb_47
         obtain ⟨v_6, ev_6, h⟩ := bindO_some h
         simp only [go_sem, hb_47]
         refine callB (s' := (⟨1, [(0, .ptr 0 0), (3, .ptr 1 0), (4, .v (.bool true)), (56, .ptr 0 0), (57, .ptr 0 0), (58, .ptr 0 0), (59, .ptr 0 3), (60, .sl 4 (enc w_0.g.Edges)), (62, .clo 28 [.ptr 1 0]), (63, .sl 4 (enc (List.take (Int.toNat i_3) (List.take (Int.toNat i_3) a_6 ++ List.replicate ((List.length a_6 - Int.toNat i_3)) (⟨0, 0, 0, false⟩ : GEdge) ++ List.drop (Int.toNat i_3 + (List.length a_6 - Int.toNat i_3)) a_6)))), (64, .ptr 1 0), (65, .ptr 1 3), (66, .v (.bool true)), (67, .v (.bool false)), (68, .v (.bool false)), (69, .agg [.sl 1 (enc w_0.g.Parent), .sl 1 (enc w_0.g.Bound), .sl 4 (enc w_0.g.Nodes), .sl 4 (enc (List.take (Int.toNat i_3) (List.take (Int.toNat i_3) a_6 ++ List.replicate ((List.length a_6 - Int.toNat i_3)) (⟨0, 0, 0, false⟩ : GEdge) ++ List.drop (Int.toNat i_3 + (List.length a_6 - Int.toNat i_3)) a_6))), .sl 1 (enc a_2)])], [(0, .box [.sl 1 (enc w_0.g.Parent), .sl 1 (enc w_0.g.Bound), .sl 4 (enc w_0.g.Nodes), .sl 4 (enc w_0.g.Edges), .sl 1 (enc w_0.gone)]), (1, .box [.sl 1 (enc w_0.g.Parent), .sl 1 (enc w_0.g.Bound), .sl 4 (enc w_0.g.Nodes), .sl 4 (enc (List.take (Int.toNat i_3) (List.take (Int.toNat i_3) a_6 ++ List.replicate ((List.length a_6 - Int.toNat i_3)) (⟨0, 0, 0, false⟩ : GEdge) ++ List.drop (Int.toNat i_3 + (List.length a_6 - Int.toNat i_3)) a_6))), .sl 1 (enc a_2)])], 2, 76⟩ : St)) (l := [some 1]) (args' := [.agg [.sl 1 (enc w_0.g.Parent), .sl 1 (enc w_0.g.Bound), .sl 4 (enc w_0.g.Nodes), .sl 4 (enc (List.take (Int.toNat i_3) (List.take (Int.toNat i_3) a_6 ++ List.replicate ((List.length a_6 - Int.toNat i_3)) (⟨0, 0, 0, false⟩ : GEdge) ++ List.drop (Int.toNat i_3 + (List.length a_6 - Int.toNat i_3)) a_6))), .sl 1 (enc a_2)]]) ?_ ?_ (f_fuse_work_right_ok (⟨(⟨w_0.g.Parent, w_0.g.Bound, w_0.g.Nodes, (List.take (Int.toNat i_3) (List.take (Int.toNat i_3) a_6 ++ List.replicate ((List.length a_6 - Int.toNat i_3)) (⟨0, 0, 0, false⟩ : GEdge) ++ List.drop (Int.toNat i_3 + (List.length a_6 - Int.toNat i_3)) a_6))⟩ : GGraph), a_2⟩ : GFuse_work) v_6 ev_6) (by rfl) (by rfl) ?_
         · simp only [go_sem, Le] <;> (repeat' apply And.intro) <;> first | ((try with_reducible refine TL_eq ?_); omega) | ((try with_reducible refine TL_eq ?_); (simp [go_sem]; done)) | ((try with_reducible refine TL_eq ?_); (simp [enc_len, enc]; omega))
         · simp only [go_sem, Le] <;> (repeat' apply And.intro) <;> first | ((try with_reducible refine TL_eq ?_); (simp [go_sem]; done)) | ((try with_reducible refine TL_eq ?_); (simp [enc_len, enc]; omega))
         simp only [go_sem]
         refine seqQ_normal hQ77 ?_
         refine vc_cond_of (b := (!v_6)) (by (simp only [go_sem]; done)) (fun hb_48 => ?_) (fun hb_48 => ?_)
         ·
          replace h := if_t h hb_48
          simp only [bool_to_prop] at hb_48
          refine sg fun QQ79 hQ79 => ?_
          simp only [go_sem]
          refine seqQ_normal hQ79 ?_
          refine vc_ret_of ?_
          refine seqQ_ret hQ76 ?_
          simp only [go_sem]
          obtain rfl := Option.some.inj h
          refine retW_det [] ?_
          simp only [go_sem, Le]
         ·
          replace h := if_f h hb_48
          simp only [bool_to_prop] at hb_48
          refine vc_skip_of ?_
          refine seqQ_normal hQ76 ?_
          refine sg fun QQ80 hQ80 => ?_
          simp only [go_sem]
          refine seqQ_normal hQ80 ?_
          refine sg fun QQ81 hQ81 => ?_
          simp only [go_sem]
          refine seqQ_normal hQ81 ?_
          refine vc_ret_of ?_
          simp only [go_sem]
          obtain rfl := Option.some.inj h
          refine retW_det [] ?_
          simp only [go_sem, Le] <;> (repeat' apply And.intro) <;> first | ((try with_reducible refine TL_eq ?_); (simp [go_sem]; done)) | ((try with_reducible refine TL_eq ?_); (simp [enc_len, enc]; omega))
   ·
    replace h := if_f h hb_18
    simp only [bool_to_prop] at hb_18
    refine vc_exit_of ?_
    refine seqQ_exit hQ13 ?_
    refine thenQ_exit hQ11 ?_
    refine blockQ_exit hQ10 ?_
    refine seqQ_normal hQ8 ?_
    refine sg fun QQ82 hQ82 => ?_
    simp only [go_sem]
    refine seqQ_normal hQ82 ?_
    refine vc_ret_of ?_
    simp only [go_sem]
    refine retW_inl [] [(0, .box [.sl 1 (enc w_0.g.Parent), .sl 1 (enc w_0.g.Bound), .sl 4 (enc w_0.g.Nodes), .sl 4 (enc w_0.g.Edges), .sl 1 (enc w_0.gone)]), (1, .box [.sl 1 (enc w_0.g.Parent), .sl 1 (enc w_0.g.Bound), .sl 4 (enc w_0.g.Nodes), .sl 4 (enc w_0.g.Edges), .osl 2 1 (0) (List.length a_2)]), (2, .arr 1 (enc a_2)), (3, .arr 4 (enc v_2))] 4 (.v (.int .i64 (-1))) ?_ ?_
    · simp only [go_sem, Le] <;> (repeat' apply And.intro) <;> first | ((try with_reducible refine TL_eq ?_); omega) | ((try with_reducible refine TL_eq ?_); (simp [go_sem]; done))
    refine inlK_of ?_
    simp only [go_sem]
    refine seqQ_normal hQ6 ?_
    refine sg fun QQ83 hQ83 => ?_
    refine sg fun QQ84 hQ84 => ?_
    simp only [go_sem]
    refine seqQ_normal hQ84 ?_
    refine vc_cond_t (by (simp only [go_sem]; done)) ?_
    refine sg fun QQ85 hQ85 => ?_
    simp only [go_sem]
    refine seqQ_normal hQ85 ?_
    refine vc_ret_of ?_
    refine seqQ_ret hQ83 ?_
    simp only [go_sem]
    refine retW_inl [] [(0, .box [.sl 1 (enc w_0.g.Parent), .sl 1 (enc w_0.g.Bound), .sl 4 (enc w_0.g.Nodes), .sl 4 (enc w_0.g.Edges), .sl 1 (enc w_0.gone)]), (1, .box [.sl 1 (enc w_0.g.Parent), .sl 1 (enc w_0.g.Bound), .sl 4 (enc w_0.g.Nodes), .sl 4 (enc w_0.g.Edges), .osl 2 1 (0) (List.length a_2)]), (2, .arr 1 (enc a_2)), (3, .arr 4 (enc v_2))] 4 (.osl 3 4 (0) (List.length v_2)) ?_ ?_
    · simp only [go_sem, Le] <;> (repeat' apply And.intro) <;> first | ((try with_reducible refine TL_eq ?_); omega) | ((try with_reducible refine TL_eq ?_); (simp [go_sem]; done))
    refine inlK_of ?_
    simp only [go_sem]
    refine seqQ_normal hQ4 ?_
    refine sg fun QQ86 hQ86 => ?_
    refine sg fun QQ87 hQ87 => ?_
    simp only [go_sem]
    rcases hb_49 : some_2 with _ | _
    ·
     replace h := if_f h hb_49
     simp only [go_sem, hb_49]
     refine seqQ_normal hQ87 ?_
     refine vc_cond_t (by (simp only [go_sem]; done)) ?_
     refine sg fun QQ88 hQ88 => ?_
     simp only [go_sem]
     refine seqQ_normal hQ88 ?_
     refine vc_ret_of ?_
     refine seqQ_ret hQ86 ?_
     simp only [go_sem]
     obtain rfl := Option.some.inj h
     refine retW_det [] ?_
     simp only [go_sem, Le]
    ·
     replace h := if_t h hb_49
     obtain ⟨v_7, ev_7, h⟩ := bindO_some h
     simp only [go_sem, hb_49]
     refine callB (s' := (⟨1, [(0, .ptr 0 0), (3, .ptr 1 0), (4, .v (.bool true)), (56, .ptr 0 0), (57, .ptr 0 0), (58, .ptr 0 0), (59, .ptr 0 3), (60, .sl 4 (enc w_0.g.Edges)), (61, .sl 4 (enc v_2)), (62, .clo 28 [.ptr 1 0]), (63, .sl 4 (enc v_2)), (64, .ptr 1 0), (65, .ptr 1 3), (66, .v (.bool true)), (67, .v (.bool false)), (68, .v (.bool false)), (69, .agg [.sl 1 (enc w_0.g.Parent), .sl 1 (enc w_0.g.Bound), .sl 4 (enc w_0.g.Nodes), .sl 4 (enc v_2), .sl 1 (enc a_2)])], [(0, .box [.sl 1 (enc w_0.g.Parent), .sl 1 (enc w_0.g.Bound), .sl 4 (enc w_0.g.Nodes), .sl 4 (enc w_0.g.Edges), .sl 1 (enc w_0.gone)]), (1, .box [.sl 1 (enc w_0.g.Parent), .sl 1 (enc w_0.g.Bound), .sl 4 (enc w_0.g.Nodes), .sl 4 (enc v_2), .sl 1 (enc a_2)])], 2, 76⟩ : St)) (l := [some 1]) (args' := [.agg [.sl 1 (enc w_0.g.Parent), .sl 1 (enc w_0.g.Bound), .sl 4 (enc w_0.g.Nodes), .sl 4 (enc v_2), .sl 1 (enc a_2)]]) ?_ ?_ (f_fuse_work_right_ok (⟨(⟨w_0.g.Parent, w_0.g.Bound, w_0.g.Nodes, v_2⟩ : GGraph), a_2⟩ : GFuse_work) v_7 ev_7) (by rfl) (by rfl) ?_
     · simp only [go_sem, Le] <;> (repeat' apply And.intro) <;> first | ((try with_reducible refine TL_eq ?_); omega) | ((try with_reducible refine TL_eq ?_); (simp [go_sem]; done))
     · simp only [go_sem, Le] <;> (repeat' apply And.intro) <;> ((try with_reducible refine TL_eq ?_); (simp [go_sem]; done))
     simp only [go_sem]
     refine seqQ_normal hQ87 ?_
     refine vc_cond_of (b := (!v_7)) (by (simp only [go_sem]; done)) (fun hb_50 => ?_) (fun hb_50 => ?_)
     ·
      replace h := if_t h hb_50
      simp only [bool_to_prop] at hb_50
      refine sg fun QQ89 hQ89 => ?_
      simp only [go_sem]
      refine seqQ_normal hQ89 ?_
      refine vc_ret_of ?_
      refine seqQ_ret hQ86 ?_
      simp only [go_sem]
      obtain rfl := Option.some.inj h
      refine retW_det [] ?_
      simp only [go_sem, Le]
     ·
      replace h := if_f h hb_50
      simp only [bool_to_prop] at hb_50
      refine vc_skip_of ?_
      refine seqQ_normal hQ86 ?_
      refine sg fun QQ90 hQ90 => ?_
      simp only [go_sem]
      refine seqQ_normal hQ90 ?_
      refine sg fun QQ91 hQ91 => ?_
      simp only [go_sem]
      refine seqQ_normal hQ91 ?_
      refine vc_ret_of ?_
      simp only [go_sem]
      obtain rfl := Option.some.inj h
      refine retW_det [] ?_
      simp only [go_sem, Le] <;> (repeat' apply And.intro) <;> ((try with_reducible refine TL_eq ?_); (simp [go_sem]; done))
def f_backwashref24_runs (g_0 : GGraph) (s_0 : GBackwashref24_state) : Option Bool :=
 bindO (f_backwashref24_built g_0 s_0) (fun (v_0 : GFused) =>
 bindO (f_backwashref09_Check v_0.Graph) (fun (v_1 : Int × Int) =>
 some (v_1.1 == 0)))
def f_fuse_work_source_1 (e_0 : GEdge) (cap_0 : Int) : Option Bool :=
 some (e_0.To == cap_0)
theorem f_fuse_work_source_1_ok (e_0 : GEdge) (cap_0 : Int)  (r : Bool) (h : f_fuse_work_source_1 e_0 cap_0 = some r) : PureS Try.prog 67 [.agg [.v (.int .i64 e_0.From), .v (.int .i64 e_0.To), .v (.int .i64 e_0.Port), .v (.bool e_0.Exchange)], .el 1 [[.v (.int .i64 cap_0)]] 0 0] 0 (.v (.bool r)) := by
 unfold PureS
 refine Spec.of_vc Try.func67 rfl (by kernel_rfl) (by kernel_rfl) ?_
 rw [f_fuse_work_source_1] at h
 refine sg fun QQ1 hQ1 => ?_
 simp only [go_sem]
 refine seqQ_normal hQ1 ?_
 refine sg fun QQ2 hQ2 => ?_
 simp only [go_sem]
 refine seqQ_normal hQ2 ?_
 refine vc_ret_of ?_
 simp only [go_sem]
 obtain rfl := Option.some.inj h
 refine retW_pure rfl ?_
 simp only [go_sem, Le]

def f_fuse_work_source (w_0 : GFuse_work) (nv_0 : Int) : Option (GEdge × Bool) :=
 bindO (f_slices_IndexFunc_Edge w_0.g.Edges (fun x0_ => f_fuse_work_source_1 x0_ nv_0)) (fun (v_0 : Int) =>
 (if (decide (v_0 < 0)) = true then some ((⟨0, 0, 0, false⟩ : GEdge), false)
 else bindO (idx w_0.g.Edges v_0) (fun (xv_0 : GEdge) =>
 some (xv_0, true))))
theorem f_fuse_work_source_ok (w_0 : GFuse_work) (nv_0 : Int)  (r : GEdge × Bool) (h : f_fuse_work_source w_0 nv_0 = some r) : PureS Try.prog 56 [.agg [.sl 1 (enc w_0.g.Parent), .sl 1 (enc w_0.g.Bound), .sl 4 (enc w_0.g.Nodes), .sl 4 (enc w_0.g.Edges), .sl 1 (enc w_0.gone)], .v (.int .i64 nv_0)] 0 (.tup [.agg [.v (.int .i64 r.1.From), .v (.int .i64 r.1.To), .v (.int .i64 r.1.Port), .v (.bool r.1.Exchange)], .v (.bool r.2)]) := by
 unfold PureS
 refine Spec.of_vc Try.func56 rfl (by kernel_rfl) (by kernel_rfl) ?_
 rw [f_fuse_work_source] at h
 refine sg fun QQ1 hQ1 => ?_
 simp only [go_sem]
 refine seqQ_normal hQ1 ?_
 refine sg fun QQ2 hQ2 => ?_
 obtain ⟨v_0, ev_0, h⟩ := bindO_some h
 simp only [go_sem]
 refine callB (s' := (⟨0, [(0, .agg [.sl 1 (enc w_0.g.Parent), .sl 1 (enc w_0.g.Bound), .sl 4 (enc w_0.g.Nodes), .sl 4 (enc w_0.g.Edges), .sl 1 (enc w_0.gone)]), (1, .v (.int .i64 nv_0)), (2, .ptr 0 0), (3, .el 1 [[.v (.int .i64 nv_0)]] 0 0), (4, .ptr 1 0), (5, .v (.bool false)), (7, .ptr 0 0), (8, .ptr 0 3), (9, .sl 4 (enc w_0.g.Edges)), (10, .clo 67 [.el 1 [[.v (.int .i64 nv_0)]] 0 0])], [(0, .box [.sl 1 (enc w_0.g.Parent), .sl 1 (enc w_0.g.Bound), .sl 4 (enc w_0.g.Nodes), .sl 4 (enc w_0.g.Edges), .sl 1 (enc w_0.gone)]), (1, .box [.v (.int .i64 0), .v (.int .i64 0), .v (.int .i64 0), .v (.bool false)])], 2, 21⟩ : St)) (l := [some 0, some 2]) (args' := [.sl 4 (enc w_0.g.Edges), .clo 67 [.el 1 [[.v (.int .i64 nv_0)]] 0 0]]) ?_ ?_ (f_slices_IndexFunc_Edge_ok w_0.g.Edges (fun x0_ => f_fuse_work_source_1 x0_ nv_0) 67 [.el 1 [[.v (.int .i64 nv_0)]] 0 0] (by rfl) (by kernel_rfl) (fun y0 r_ e_ => f_fuse_work_source_1_ok y0 nv_0 r_ e_) v_0 ev_0) (by rfl) (by rfl) ?_
 · simp only [go_sem, Le] <;> (repeat' apply And.intro) <;> first | ((try with_reducible refine TL_eq ?_); omega) | ((try with_reducible refine TL_eq ?_); (simp [go_sem]; done))
 · simp only [go_sem, Le] <;> (repeat' apply And.intro) <;> ((try with_reducible refine TL_eq ?_); (simp [go_sem]; done))
 simp only [go_sem]
 refine seqQ_normal hQ2 ?_
 refine sg fun QQ3 hQ3 => ?_
 refine sg fun QQ4 hQ4 => ?_
 simp only [go_sem]
 refine seqQ_normal hQ4 ?_
 refine vc_cond_of (b := (decide (v_0 < 0))) (by (simp only [go_sem]; done)) (fun hb_0 => ?_) (fun hb_0 => ?_)
 ·
  replace h := if_t h hb_0
  simp only [bool_to_prop] at hb_0
  refine sg fun QQ5 hQ5 => ?_
  simp only [go_sem]
  refine seqQ_normal hQ5 ?_
  refine vc_ret_of ?_
  refine seqQ_ret hQ3 ?_
  simp only [go_sem]
  obtain rfl := Option.some.inj h
  refine retW_pure rfl ?_
  simp only [go_sem, Le]
 ·
  replace h := if_f h hb_0
  simp only [bool_to_prop] at hb_0
  refine vc_skip_of ?_
  refine seqQ_normal hQ3 ?_
  refine sg fun QQ6 hQ6 => ?_
  obtain ⟨xv_0, exv_0, h⟩ := bindO_some h
  obtain ⟨fxv_0a, fxv_0b, fxv_0c⟩ := idx_spec exv_0
  simp only [go_sem, fxv_0a, fxv_0b, fxv_0c]
  refine And.intro (by omega) ?_
  refine seqQ_normal hQ6 ?_
  refine vc_ret_of ?_
  simp only [go_sem]
  obtain rfl := Option.some.inj h
  refine retW_pure rfl ?_
  simp only [go_sem, Le]

def f_fuse_single (kind_0 : Int) : Option Bool :=
 some (((kind_0 == 6) || (kind_0 == 7)) || (kind_0 == 14))
theorem f_fuse_single_ok (kind_0 : Int)  (r : Bool) (h : f_fuse_single kind_0 = some r) : PureS Try.prog 57 [.v (.int .i64 kind_0)] 0 (.v (.bool r)) := by
 unfold PureS
 refine Spec.of_vc Try.func57 rfl (by kernel_rfl) (by kernel_rfl) ?_
 rw [f_fuse_single] at h
 refine sg fun QQ1 hQ1 => ?_
 simp only [go_sem]
 refine seqQ_normal hQ1 ?_
 refine sg fun QQ2 hQ2 => ?_
 simp only [go_sem]
 refine seqQ_normal hQ2 ?_
 refine vc_ret_of ?_
 simp only [go_sem]
 obtain rfl := Option.some.inj h
 refine retW_pure rfl ?_
 simp only [go_sem, Le]

def f_fuse_work_nothing_J1 (w_0 : GFuse_work) (nv_0 : Int) (xv_0 : GNode) (t29_0 : Bool) : Option Bool :=
 (if t29_0 = true then bindO (f_fuse_work_source w_0 nv_0) (fun (v_0 : GEdge × Bool) =>
 bindO (idx w_0.g.Nodes v_0.1.From) (fun (xv_1 : GNode) =>
 (if v_0.2 = true then bindO (f_fuse_single xv_1.Kind) (fun (v_1 : Bool) =>
 some (v_1 || ((xv_0.Kind == 8) && (xv_1.Kind == 8))))
 else some false)))
 else some false)
def f_fuse_work_nothing (w_0 : GFuse_work) (nv_0 : Int) : Option Bool :=
 bindO (idx w_0.g.Nodes nv_0) (fun (xv_0 : GNode) =>
 (if (xv_0.Kind == 13) = true then some true
 else (if (xv_0.Kind == 3) = true then some (xv_0.Arg == 0)
 else (if (xv_0.Kind == 4) = true then some (xv_0.Arg == 1)
 else (if (xv_0.Kind == 6) = true then f_fuse_work_nothing_J1 w_0 nv_0 xv_0 (xv_0.Kind == 6)
 else f_fuse_work_nothing_J1 w_0 nv_0 xv_0 (xv_0.Kind == 8))))))
theorem f_fuse_work_nothing_ok (w_0 : GFuse_work) (nv_0 : Int)  (r : Bool) (h : f_fuse_work_nothing w_0 nv_0 = some r) : PureS Try.prog 30 [.agg [.sl 1 (enc w_0.g.Parent), .sl 1 (enc w_0.g.Bound), .sl 4 (enc w_0.g.Nodes), .sl 4 (enc w_0.g.Edges), .sl 1 (enc w_0.gone)], .v (.int .i64 nv_0)] 0 (.v (.bool r)) := by
 unfold PureS
 refine Spec.of_vc Try.func30 rfl (by kernel_rfl) (by kernel_rfl) ?_
 rw [f_fuse_work_nothing] at h
 refine sg fun QQ1 hQ1 => ?_
 simp only [go_sem]
 refine seqQ_normal hQ1 ?_
 refine sg fun QQ2 hQ2 => ?_
 obtain ⟨xv_0, exv_0, h⟩ := bindO_some h
 obtain ⟨fxv_0a, fxv_0b, fxv_0c⟩ := idx_spec exv_0
 simp only [go_sem, fxv_0a, fxv_0b, fxv_0c]
 refine And.intro (by omega) ?_
 refine seqQ_normal hQ2 ?_
 refine vc_join (by kernel_rfl) ?_
 refine seq_go_gen ?_
 intro QQ3 hQ3
 refine sg fun QQ4 hQ4 => ?_
 simp only [go_sem]
 refine seqQ_normal hQ4 ?_
 refine vc_block_gen ?_
 intro QQ5 hQ5
 refine sg fun QQ6 hQ6 => ?_
 simp only [go_sem]
 refine seqQ_normal hQ6 ?_
 refine vc_cond_of (b := (xv_0.Kind == 13)) (by (simp only [go_sem]; done)) (fun hb_0 => ?_) (fun hb_0 => ?_)
 ·
  replace h := if_t h hb_0
  simp only [bool_to_prop] at hb_0
  refine sg fun QQ7 hQ7 => ?_
  simp only [go_sem]
  refine seqQ_normal hQ7 ?_
  refine vc_ret_of ?_
  refine blockQ_ret hQ5 ?_
  refine seqQ_ret hQ3 ?_
  simp only [go_sem]
  obtain rfl := Option.some.inj h
  refine retW_pure rfl ?_
  simp only [go_sem, Le]
 ·
  replace h := if_f h hb_0
  simp only [bool_to_prop] at hb_0
  refine sg fun QQ8 hQ8 => ?_
  simp only [go_sem]
  refine seqQ_normal hQ8 ?_
  refine vc_cond_of (b := (xv_0.Kind == 3)) (by (simp only [go_sem]; done)) (fun hb_1 => ?_) (fun hb_1 => ?_)
  ·
   replace h := if_t h hb_1
   simp only [bool_to_prop] at hb_1
   refine sg fun QQ9 hQ9 => ?_
   simp only [go_sem]
   refine seqQ_normal hQ9 ?_
   refine vc_ret_of ?_
   refine blockQ_ret hQ5 ?_
   refine seqQ_ret hQ3 ?_
   simp only [go_sem]
   obtain rfl := Option.some.inj h
   refine retW_pure rfl ?_
   simp only [go_sem, Le]
  ·
   replace h := if_f h hb_1
   simp only [bool_to_prop] at hb_1
   refine sg fun QQ10 hQ10 => ?_
   simp only [go_sem]
   refine seqQ_normal hQ10 ?_
   refine vc_cond_of (b := (xv_0.Kind == 4)) (by (simp only [go_sem]; done)) (fun hb_2 => ?_) (fun hb_2 => ?_)
   ·
    replace h := if_t h hb_2
    simp only [bool_to_prop] at hb_2
    refine sg fun QQ11 hQ11 => ?_
    simp only [go_sem]
    refine seqQ_normal hQ11 ?_
    refine vc_ret_of ?_
    refine blockQ_ret hQ5 ?_
    refine seqQ_ret hQ3 ?_
    simp only [go_sem]
    obtain rfl := Option.some.inj h
    refine retW_pure rfl ?_
    simp only [go_sem, Le]
   ·
    replace h := if_f h hb_2
    simp only [bool_to_prop] at hb_2
    refine vc_join (by kernel_rfl) ?_
    refine seq_cut_gen (ι := Bool) (fun (t29_0 : Bool) => (⟨0, [(1, .v (.int .i64 nv_0)), (2, .ptr 0 0), (5, .ptr 1 0), (29, .v (.bool t29_0))], [(0, .box [.sl 1 (enc w_0.g.Parent), .sl 1 (enc w_0.g.Bound), .sl 4 (enc w_0.g.Nodes), .sl 4 (enc w_0.g.Edges), .sl 1 (enc w_0.gone)]), (1, .box [.v (.int .i64 xv_0.Kind), .v (.int .i64 xv_0.Scope), .v (.int .i64 xv_0.Arg), .sl 2 (enc xv_0.Prog)])], 2, 60⟩ : St)) (fun (t29_0 : Bool) => f_fuse_work_nothing_J1 w_0 nv_0 xv_0 t29_0 = some r) ?_ ?_
    ·
     intro QQ16 hQ16
     refine sg fun QQ17 hQ17 => ?_
     simp only [go_sem]
     refine seqQ_normal hQ17 ?_
     refine vc_cond_of (b := (xv_0.Kind == 6)) (by (simp only [go_sem]; done)) (fun hb_6 => ?_) (fun hb_6 => ?_)
     ·
      replace h := if_t h hb_6
      simp only [bool_to_prop] at hb_6
      refine vc_skip_of ?_
      refine thenQ_normal hQ16 ?_
      refine ⟨(xv_0.Kind == 6), [some 0, some 1], ?_, h⟩
      simp only [go_sem, Le] <;> (repeat' apply And.intro) <;> first | ((try with_reducible refine TL_eq ?_); omega) | ((try with_reducible refine TL_eq ?_); (simp [go_sem]; done))
     ·
      replace h := if_f h hb_6
      simp only [bool_to_prop] at hb_6
      simp only [go_sem]
      refine thenQ_normal hQ16 ?_
      refine ⟨(xv_0.Kind == 8), [some 0, some 1], ?_, h⟩
      simp only [go_sem, Le] <;> (repeat' apply And.intro) <;> first | ((try with_reducible refine TL_eq ?_); omega) | ((try with_reducible refine TL_eq ?_); (simp [go_sem]; done))
    ·
     rintro t29_0 h
     try dsimp only at h
     rw [f_fuse_work_nothing_J1] at h
     refine vc_cond_of (b := t29_0) (by (simp only [go_sem]; done)) (fun hb_4 => ?_) (fun hb_4 => ?_)
     ·
      replace h := if_t h hb_4
      refine sg fun QQ12 hQ12 => ?_
      obtain ⟨v_0, ev_0, h⟩ := bindO_some h
      simp only [go_sem]
      refine call0 (f_fuse_work_source_ok w_0 nv_0 v_0 ev_0) (by rfl) (by rfl) ?_
      simp only [go_sem]
      refine seqQ_normal hQ12 ?_
      refine sg fun QQ13 hQ13 => ?_
      obtain ⟨xv_1, exv_1, h⟩ := bindO_some h
      obtain ⟨fxv_1a, fxv_1b, fxv_1c⟩ := idx_spec exv_1
      simp only [go_sem, fxv_1a, fxv_1b, fxv_1c]
      refine And.intro (by omega) ?_
      refine seqQ_normal hQ13 ?_
      refine sg fun QQ14 hQ14 => ?_
      simp only [go_sem]
      rcases hb_5 : v_0.2 with _ | _
      ·
       replace h := if_f h hb_5
       simp only [go_sem, hb_5]
       refine seqQ_normal hQ14 ?_
       refine vc_ret_of ?_
       refine blockQ_ret hQ5 ?_
       refine seqQ_ret hQ3 ?_
       simp only [go_sem]
       obtain rfl := Option.some.inj h
       refine retW_pure rfl ?_
       simp only [go_sem, Le]
      ·
       replace h := if_t h hb_5
       obtain ⟨v_1, ev_1, h⟩ := bindO_some h
       simp only [go_sem, hb_5]
       refine call0 (f_fuse_single_ok xv_1.Kind v_1 ev_1) (by rfl) (by rfl) ?_
       simp only [go_sem]
       refine And.intro (by (simp +contextual only [and_self, implies_true, true_and, and_true, imp_self]; done)) ?_
       refine seqQ_normal hQ14 ?_
       refine vc_ret_of ?_
       refine blockQ_ret hQ5 ?_
       refine seqQ_ret hQ3 ?_
       simp only [go_sem]
       obtain rfl := Option.some.inj h
       refine retW_pure rfl ?_
       simp only [go_sem, Le]
     ·
      replace h := if_f h hb_4
      refine vc_skip_of ?_
      refine blockQ_normal hQ5 ?_
      refine seqQ_normal hQ3 ?_
      refine sg fun QQ15 hQ15 => ?_
      simp only [go_sem]
      refine seqQ_normal hQ15 ?_
      refine vc_ret_of ?_
      simp only [go_sem]
      obtain rfl := Option.some.inj h
      refine retW_pure rfl ?_
      simp only [go_sem, Le]

def f_fuse_work_without_J2 (t28_1 : Int) (a_1 : List GEdge) (rec_1 : (Int × (List GEdge) → Option GFuse_work)) (b_2 : GEdge) : Option GFuse_work :=
 guardO ((List.length a_1 + List.length ([b_2] : List GEdge)) * 32 ≤ 140737488355328) (
 rec_1 (IntKind.i64.wrap (t28_1 + 1), (a_1 ++ ([b_2] : List GEdge))))
def f_fuse_work_without_B1 (w_0 : GFuse_work) (nv_0 : Int) (v_0 : GEdge × Bool) (v_1 : List Bool) (rec_1 : Int × (List GEdge) → Option GFuse_work) : Int × (List GEdge) → Option GFuse_work :=
 fun (t28_1, a_1) =>
 (if (decide (t28_1 < (List.length w_0.g.Edges : Int))) = true then bindO (idx w_0.g.Edges t28_1) (fun (xv_4 : GEdge) =>
 (if (xv_4.To == nv_0) = true then rec_1 (IntKind.i64.wrap (t28_1 + 1), a_1)
 else (if (xv_4.From == nv_0) = true then f_fuse_work_without_J2 t28_1 a_1 rec_1 (⟨v_0.1.From, xv_4.To, xv_4.Port, xv_4.Exchange || v_0.1.Exchange⟩ : GEdge)
 else f_fuse_work_without_J2 t28_1 a_1 rec_1 xv_4)))
 else bindO (idx v_1 nv_0) (fun (xv_5 : Bool) =>
 some (⟨(⟨w_0.g.Parent, w_0.g.Bound, w_0.g.Nodes, a_1⟩ : GGraph), List.set v_1 (Int.toNat nv_0) true⟩ : GFuse_work)))
def f_fuse_work_without (w_0 : GFuse_work) (nv_0 : Int) : Option GFuse_work :=
 bindO (f_fuse_work_source w_0 nv_0) (fun (v_0 : GEdge × Bool) =>
 bindO (f_slices_Clone_bool w_0.gone) (fun (v_1 : List Bool) =>
 loopK (f_fuse_work_without_B1 w_0 nv_0 v_0 v_1) rounds (0, [])))
theorem f_fuse_work_without_det (w_0 : GFuse_work) (nv_0 : Int)  (r : GFuse_work) (h : f_fuse_work_without w_0 nv_0 = some r) : DetS Try.prog 31 [.agg [.sl 1 (enc w_0.g.Parent), .sl 1 (enc w_0.g.Bound), .sl 4 (enc w_0.g.Nodes), .sl 4 (enc w_0.g.Edges), .sl 1 (enc w_0.gone)], .v (.int .i64 nv_0)] [] 0 (.agg [.sl 1 (enc r.g.Parent), .sl 1 (enc r.g.Bound), .sl 4 (enc r.g.Nodes), .osl 0 4 (0) (List.length r.g.Edges), .osl 1 1 (0) (List.length r.gone)]) [(0, .arr 4 (enc r.g.Edges)), (1, .arr 1 (enc r.gone))] 2 := by
 unfold DetS
 refine Spec.of_vc Try.func31 rfl (by kernel_rfl) (by kernel_rfl) ?_
 rw [f_fuse_work_without] at h
 refine sg fun QQ1 hQ1 => ?_
 simp only [go_sem]
 refine seqQ_normal hQ1 ?_
 refine sg fun QQ2 hQ2 => ?_
 obtain ⟨v_0, ev_0, h⟩ := bindO_some h
 simp only [go_sem]
 refine call0 (f_fuse_work_source_ok w_0 nv_0 v_0 ev_0) (by rfl) (by rfl) ?_
 simp only [go_sem]
 refine seqQ_normal hQ2 ?_
 refine sg fun QQ3 hQ3 => ?_
 refine vc_draw ?_
 refine drawV_all 7 5 7 [0, 1, 0, 4, 12, 31, 0, 127] [3, 4] [0, 1, 2, 3, 5] [4] [] [6] mixed (by kernel_rfl) (of_decide_eq_true (by kernel_rfl)) (by kernel_rfl) (by kernel_rfl) (by rfl) ?_
 obtain ⟨v_1, ev_1, h⟩ := bindO_some h
 simp only [go_sem]
 refine callE_det [] (f_slices_Clone_bool_det w_0.gone v_1 ev_1) rfl trivial rfl rfl rfl rfl ?_
 simp only [go_sem]
 refine seqQ_normal hQ3 ?_
 refine sg fun QQ4 hQ4 => ?_
 simp only [go_sem]
 refine seqQ_normal hQ4 ?_
 refine vc_join (by kernel_rfl) ?_
 refine seq_go_gen ?_
 intro QQ5 hQ5
 refine sg fun QQ6 hQ6 => ?_
 simp only [go_sem]
 refine seqQ_normal hQ6 ?_
 refine vc_block_gen ?_
 intro QQ7 hQ7
 refine vc_loop_of ?_
 refine loop_gen (ι := Nat × Int × (List GEdge)) (fun ((_, t28_1, a_1) : Nat × Int × (List GEdge)) => (⟨0, [(1, .v (.int .i64 nv_0)), (4, .ptr 0 0), (5, .ptr 1 0), (7, .ptr 2 0), (26, .sl 4 (enc w_0.g.Edges)), (27, .v (.int .i64 (List.length w_0.g.Edges : Int))), (28, .v (.int .i64 t28_1))], [(0, .box [.v (.slice none 0 0), .v (.slice none 0 0), .v (.slice none 0 0), .v (.slice none 0 0), .v (.slice none 0 0)]), (1, .box [.v (.int .i64 v_0.1.From), .v (.int .i64 v_0.1.To), .v (.int .i64 v_0.1.Port), .v (.bool v_0.1.Exchange)]), (2, .box [.sl 1 (enc w_0.g.Parent), .sl 1 (enc w_0.g.Bound), .sl 4 (enc w_0.g.Nodes), .osl 3 4 (0) (List.length a_1), .osl 4 1 (0) (List.length v_1)]), (3, .arr 4 (enc a_1)), (4, .arr 1 (enc v_1))], 5, 64⟩ : St)) (fun ((n_, t28_1, a_1) : Nat × Int × (List GEdge)) => loopK (f_fuse_work_without_B1 w_0 nv_0 v_0 v_1) n_ (t28_1, a_1) = some r) (fun p => p.1) (rounds, 0, []) [some 1, some 2, some 4, none, some 3] ?_ h ?_
 · simp only [go_sem, Le] <;> (repeat' apply And.intro) <;> first | ((try with_reducible refine TL_eq ?_); omega) | ((try with_reducible refine TL_eq ?_); (simp [go_sem]; done))
 ·
  rintro ⟨n_1, t28_1, a_1⟩ h QQ8 hQ8
  dsimp only at h
  replace h := loopK_some h
  obtain ⟨m_1, rfl, h⟩ := h
  rw [f_fuse_work_without_B1] at h
  refine sg fun QQ9 hQ9 => ?_
  simp only [go_sem]
  refine seqQ_normal hQ9 ?_
  refine sg fun QQ10 hQ10 => ?_
  refine vc_cond_of (b := (decide (t28_1 < (List.length w_0.g.Edges : Int)))) (by (simp only [go_sem]; done)) (fun hb_8 => ?_) (fun hb_8 => ?_)
  ·
   replace h := if_t h hb_8
   simp only [bool_to_prop] at hb_8
   refine vc_skip_of ?_
   refine seqQ_normal hQ10 ?_
   refine vc_join (by kernel_rfl) ?_
   refine seq_go_gen ?_
   intro QQ11 hQ11
   refine vc_block_gen ?_
   intro QQ12 hQ12
   refine sg fun QQ13 hQ13 => ?_
   obtain ⟨xv_4, exv_4, h⟩ := bindO_some h
   obtain ⟨fxv_4a, fxv_4b, fxv_4c⟩ := idx_spec exv_4
   simp only [go_sem, fxv_4a, fxv_4b, fxv_4c]
   refine And.intro (by omega) ?_
   refine seqQ_normal hQ13 ?_
   refine sg fun QQ14 hQ14 => ?_
   refine sg fun QQ15 hQ15 => ?_
   simp only [go_sem]
   refine seqQ_normal hQ15 ?_
   refine vc_cond_of (b := (xv_4.To == nv_0)) (by (simp only [go_sem]; done)) (fun hb_9 => ?_) (fun hb_9 => ?_)
   ·
    replace h := if_t h hb_9
    simp only [bool_to_prop] at hb_9
    refine vc_exit_of ?_
    refine seqQ_exit hQ14 ?_
    refine blockQ_exit hQ12 ?_
    refine seqQ_normal hQ11 ?_
    simp only [go_sem]
    refine thenQ_normal hQ8 ?_
    refine ⟨(m_1, IntKind.i64.wrap (t28_1 + 1), a_1), [some 0, some 1, some 2, some 3, some 4], ?_, h, Nat.lt_succ_self _⟩
    simp only [go_sem, Le] <;> (repeat' apply And.intro) <;> first | ((try with_reducible refine TL_eq ?_); omega) | ((try with_reducible refine TL_eq ?_); (simp [go_sem]; done))
   ·
    replace h := if_f h hb_9
    simp only [bool_to_prop] at hb_9
    refine vc_skip_of ?_
    refine seqQ_normal hQ14 ?_
    refine vc_join (by kernel_rfl) ?_
    refine seq_cut_gen (ι := GEdge) (fun (b_2 : GEdge) => (⟨0, [(1, .v (.int .i64 nv_0)), (4, .ptr 0 0), (5, .ptr 1 0), (7, .ptr 2 0), (9, .ptr 3 0), (26, .sl 4 (enc w_0.g.Edges)), (27, .v (.int .i64 (List.length w_0.g.Edges : Int))), (28, .v (.int .i64 t28_1))], [(0, .box [.v (.slice none 0 0), .v (.slice none 0 0), .v (.slice none 0 0), .v (.slice none 0 0), .v (.slice none 0 0)]), (1, .box [.v (.int .i64 v_0.1.From), .v (.int .i64 v_0.1.To), .v (.int .i64 v_0.1.Port), .v (.bool v_0.1.Exchange)]), (2, .box [.sl 1 (enc w_0.g.Parent), .sl 1 (enc w_0.g.Bound), .sl 4 (enc w_0.g.Nodes), .osl 4 4 (0) (List.length a_1), .osl 5 1 (0) (List.length v_1)]), (3, .box [.v (.int .i64 b_2.From), .v (.int .i64 b_2.To), .v (.int .i64 b_2.Port), .v (.bool b_2.Exchange)]), (4, .arr 4 (enc a_1)), (5, .arr 1 (enc v_1))], 6, 64⟩ : St)) (fun (b_2 : GEdge) => f_fuse_work_without_J2 t28_1 a_1 (loopK (f_fuse_work_without_B1 w_0 nv_0 v_0 v_1) m_1) b_2 = some r) ?_ ?_
    ·
     intro QQ16 hQ16
     refine sg fun QQ17 hQ17 => ?_
     simp only [go_sem]
     refine seqQ_normal hQ17 ?_
     refine vc_cond_of (b := (xv_4.From == nv_0)) (by (simp only [go_sem]; done)) (fun hb_11 => ?_) (fun hb_11 => ?_)
     ·
      replace h := if_t h hb_11
      simp only [bool_to_prop] at hb_11
      refine vc_draw ?_
      refine drawV_all 10 0 0 [0, 1, 0, 4, 12, 28, 60, 124, 15, 287, 1023, 2047] [5] [5, 6, 7] [] [9] [] mixed (by kernel_rfl) (of_decide_eq_true (by kernel_rfl)) (by kernel_rfl) (by kernel_rfl) (by rfl) ?_
      simp only [go_sem]
      refine thenQ_normal hQ16 ?_
      refine ⟨(⟨v_0.1.From, xv_4.To, xv_4.Port, xv_4.Exchange || v_0.1.Exchange⟩ : GEdge), [some 0, some 1, some 2, some 5, some 3, some 4], ?_, h⟩
      simp only [go_sem, Le] <;> (repeat' apply And.intro) <;> first | ((try with_reducible refine TL_eq ?_); omega) | ((try with_reducible refine TL_eq ?_); (simp [go_sem]; done))
     ·
      replace h := if_f h hb_11
      simp only [bool_to_prop] at hb_11
      refine vc_skip_of ?_
      refine thenQ_normal hQ16 ?_
      refine ⟨xv_4, [some 0, some 1, some 2, some 5, some 3, some 4], ?_, h⟩
      simp only [go_sem, Le] <;> (repeat' apply And.intro) <;> first | ((try with_reducible refine TL_eq ?_); omega) | ((try with_reducible refine TL_eq ?_); (simp [go_sem]; done))
    ·
     rintro b_2 h
     try dsimp only at h
     rw [f_fuse_work_without_J2] at h
     have rf_5 : [[.v (.int .i64 b_2.From), .v (.int .i64 b_2.To), .v (.int .i64 b_2.Port), .v (.bool b_2.Exchange)]] = enc ([b_2] : List GEdge) := by rfl
     obtain ⟨g_2, h⟩ := guardO_some h
     simp only [List.length_cons, List.length_nil, Nat.zero_add, List.length_append] at g_2
     have rf_6 : enc a_1 ++ [[.v (.int .i64 b_2.From), .v (.int .i64 b_2.To), .v (.int .i64 b_2.Port), .v (.bool b_2.Exchange)]] = enc (a_1 ++ ([b_2] : List GEdge)) := by exact (enc_app a_1 ([b_2] : List GEdge)).symm
     simp only [go_sem, g_2, rf_6]
     simp only [rf_5]
     refine blockQ_normal hQ12 ?_
     refine seqQ_normal hQ11 ?_
     simp only [go_sem]
     refine thenQ_normal hQ8 ?_
     refine ⟨(m_1, IntKind.i64.wrap (t28_1 + 1), (a_1 ++ ([b_2] : List GEdge))), [some 0, some 1, some 2, some 7, some 5], ?_, h, Nat.lt_succ_self _⟩
     simp only [go_sem, Le] <;> (repeat' apply And.intro) <;> first | ((try with_reducible refine TL_eq ?_); omega) | ((try with_reducible refine TL_eq ?_); (simp [go_sem]; done))
  ·
   replace h := if_f h hb_8
   simp only [bool_to_prop] at hb_8
   refine vc_exit_of ?_
   refine seqQ_exit hQ10 ?_
   refine thenQ_exit hQ8 ?_
   refine blockQ_exit hQ7 ?_
   refine seqQ_normal hQ5 ?_
   refine sg fun QQ18 hQ18 => ?_
   obtain ⟨xv_5, exv_5, h⟩ := bindO_some h
   obtain ⟨fxv_5a, fxv_5b, fxv_5c⟩ := idx_spec exv_5
   have rf_7 : (enc v_1).set (Int.toNat nv_0) [.v (.bool true)] = enc (List.set v_1 (Int.toNat nv_0) true) := by exact enc_set _ _ _
   simp only [go_sem, fxv_5a, fxv_5b, fxv_5c, rf_7]
   refine And.intro (by omega) ?_
   refine seqQ_normal hQ18 ?_
   refine sg fun QQ19 hQ19 => ?_
   simp only [go_sem]
   refine seqQ_normal hQ19 ?_
   refine vc_ret_of ?_
   simp only [go_sem]
   obtain rfl := Option.some.inj h
   refine retW_det [some 3, some 4] ?_
   simp only [go_sem, Le] <;> (repeat' apply And.intro) <;> first | ((try with_reducible refine TL_eq ?_); omega) | ((try with_reducible refine TL_eq ?_); (simp [go_sem]; done))
def f_fuse_work_leave_p0_B1 (w_0 : GFuse_work) (rec_1 : Int → Option (Bool × GFuse_work)) : Int → Option (Bool × GFuse_work) :=
 fun t11_1 =>
 (if (decide (t11_1 < (List.length w_0.g.Nodes : Int))) = true then bindO (idx w_0.gone t11_1) (fun (xv_2 : Bool) =>
 (if xv_2 = true then rec_1 (IntKind.i64.wrap (t11_1 + 1))
 else bindO (f_fuse_work_nothing w_0 t11_1) (fun (v_6 : Bool) =>
 (if (!v_6) = true then rec_1 (IntKind.i64.wrap (t11_1 + 1))
 else bindO (f_fuse_work_without w_0 t11_1) (fun (v_7 : GFuse_work) =>
 bindO (f_fuse_work_right v_7) (fun (v_8 : Bool) =>
 (if v_8 = true then some (true, v_7)
 else rec_1 (IntKind.i64.wrap (t11_1 + 1)))))))))
 else some (false, w_0))
def f_fuse_work_leave_p0 (w_0 : GFuse_work) : Option (Bool × GFuse_work) :=
 loopK (f_fuse_work_leave_p0_B1 w_0) rounds 0
theorem f_fuse_work_leave_p0_det (w_0 : GFuse_work)  (r : Bool × GFuse_work) (h : f_fuse_work_leave_p0 w_0 = some r) : DetS Try.prog 12 [.ptr 0 0] [(0, .box [.sl 1 (enc w_0.g.Parent), .sl 1 (enc w_0.g.Bound), .sl 4 (enc w_0.g.Nodes), .sl 4 (enc w_0.g.Edges), .sl 1 (enc w_0.gone)])] 1 (.v (.bool r.1)) [(0, .box [.sl 1 (enc r.2.g.Parent), .sl 1 (enc r.2.g.Bound), .sl 4 (enc r.2.g.Nodes), .sl 4 (enc r.2.g.Edges), .sl 1 (enc r.2.gone)])] 1 := by
 unfold DetS
 refine Spec.of_vc Try.func12 rfl (by kernel_rfl) (by kernel_rfl) ?_
 rw [f_fuse_work_leave_p0] at h
 refine sg fun QQ1 hQ1 => ?_
 simp only [go_sem]
 refine seqQ_normal hQ1 ?_
 refine vc_join (by kernel_rfl) ?_
 refine seq_go_gen ?_
 intro QQ2 hQ2
 refine sg fun QQ3 hQ3 => ?_
 simp only [go_sem]
 refine seqQ_normal hQ3 ?_
 refine vc_block_gen ?_
 intro QQ4 hQ4
 refine vc_loop_of ?_
 refine loop_gen (ι := Nat × Int) (fun ((_, t11_1) : Nat × Int) => (⟨1, [(0, .ptr 0 0), (10, .v (.int .i64 (List.length w_0.g.Nodes : Int))), (11, .v (.int .i64 t11_1))], [(0, .box [.sl 1 (enc w_0.g.Parent), .sl 1 (enc w_0.g.Bound), .sl 4 (enc w_0.g.Nodes), .sl 4 (enc w_0.g.Edges), .sl 1 (enc w_0.gone)])], 1, 40⟩ : St)) (fun ((n_, t11_1) : Nat × Int) => loopK (f_fuse_work_leave_p0_B1 w_0) n_ t11_1 = some r) (fun p => p.1) (rounds, 0) [] ?_ h ?_
 · simp only [go_sem, Le]
 ·
  rintro ⟨n_1, t11_1⟩ h QQ5 hQ5
  dsimp only at h
  replace h := loopK_some h
  obtain ⟨m_1, rfl, h⟩ := h
  rw [f_fuse_work_leave_p0_B1] at h
  refine sg fun QQ6 hQ6 => ?_
  simp only [go_sem]
  refine seqQ_normal hQ6 ?_
  refine sg fun QQ7 hQ7 => ?_
  refine vc_cond_of (b := (decide (t11_1 < (List.length w_0.g.Nodes : Int)))) (by (simp only [go_sem]; done)) (fun hb_8 => ?_) (fun hb_8 => ?_)
  ·
   replace h := if_t h hb_8
   simp only [bool_to_prop] at hb_8
   refine vc_skip_of ?_
   refine seqQ_normal hQ7 ?_
   refine sg fun QQ8 hQ8 => ?_
   refine vc_block_gen ?_
   intro QQ9 hQ9
   refine sg fun QQ10 hQ10 => ?_
   simp only [go_sem]
   refine seqQ_normal hQ10 ?_
   refine sg fun QQ11 hQ11 => ?_
   refine sg fun QQ12 hQ12 => ?_
   obtain ⟨xv_2, exv_2, h⟩ := bindO_some h
   obtain ⟨fxv_2a, fxv_2b, fxv_2c⟩ := idx_spec exv_2
   simp only [go_sem, fxv_2a, fxv_2b, fxv_2c]
   refine And.intro (by omega) ?_
   rcases hb_9 : xv_2 with _ | _
   ·
    replace h := if_f h hb_9
    obtain ⟨v_6, ev_6, h⟩ := bindO_some h
    simp only [go_sem, hb_9]
    refine call0 (f_fuse_work_nothing_ok w_0 t11_1 v_6 ev_6) (by rfl) (by rfl) ?_
    simp only [go_sem]
    refine seqQ_normal hQ12 ?_
    refine vc_cond_of (b := (!v_6)) (by (simp only [go_sem]; done)) (fun hb_10 => ?_) (fun hb_10 => ?_)
    ·
     replace h := if_t h hb_10
     simp only [bool_to_prop] at hb_10
     refine vc_exit_of ?_
     refine seqQ_exit hQ11 ?_
     refine blockQ_exit hQ9 ?_
     refine seqQ_normal hQ8 ?_
     simp only [go_sem]
     refine thenQ_normal hQ5 ?_
     refine ⟨(m_1, IntKind.i64.wrap (t11_1 + 1)), [], ?_, h, Nat.lt_succ_self _⟩
     simp only [go_sem, Le]
    ·
     replace h := if_f h hb_10
     simp only [bool_to_prop] at hb_10
     refine vc_skip_of ?_
     refine seqQ_normal hQ11 ?_
     refine sg fun QQ13 hQ13 => ?_
     obtain ⟨v_7, ev_7, h⟩ := bindO_some h
     simp only [go_sem]
     refine callD [] (f_fuse_work_without_det w_0 t11_1 v_7 ev_7) (by simp) rfl trivial rfl rfl rfl rfl ?_
     simp only [go_sem]
     refine seqQ_normal hQ13 ?_
     refine sg fun QQ14 hQ14 => ?_
     obtain ⟨v_8, ev_8, h⟩ := bindO_some h
     simp only [go_sem]
     refine callB (s' := (⟨1, [(0, .ptr 0 0), (3, .v (.int .i64 t11_1)), (4, .ptr 1 0), (10, .v (.int .i64 (List.length w_0.g.Nodes : Int))), (11, .v (.int .i64 t11_1)), (12, .v (.bool (decide (t11_1 < (List.length w_0.g.Nodes : Int))))), (13, .v (.int .i64 t11_1)), (14, .ptr 0 0), (15, .ptr 0 0), (16, .ptr 0 4), (17, .sl 1 (enc w_0.gone)), (18, .v (.int .i64 t11_1)), (19, .el 1 (enc w_0.gone) (Int.toNat t11_1) 0), (20, .v (.bool false)), (21, .v (.bool false)), (22, .ptr 0 0), (23, .ptr 0 0), (24, .agg [.sl 1 (enc w_0.g.Parent), .sl 1 (enc w_0.g.Bound), .sl 4 (enc w_0.g.Nodes), .sl 4 (enc w_0.g.Edges), .sl 1 (enc w_0.gone)]), (25, .v (.int .i64 t11_1)), (26, .v (.bool v_6)), (27, .v (.bool (!v_6))), (28, .v (.bool (!v_6))), (29, .ptr 0 0), (30, .ptr 0 0), (31, .agg [.sl 1 (enc w_0.g.Parent), .sl 1 (enc w_0.g.Bound), .sl 4 (enc w_0.g.Nodes), .sl 4 (enc w_0.g.Edges), .sl 1 (enc w_0.gone)]), (32, .v (.int .i64 t11_1)), (33, .agg [.sl 1 (enc v_7.g.Parent), .sl 1 (enc v_7.g.Bound), .sl 4 (enc v_7.g.Nodes), .sl 4 (enc v_7.g.Edges), .sl 1 (enc v_7.gone)]), (34, .agg [.sl 1 (enc v_7.g.Parent), .sl 1 (enc v_7.g.Bound), .sl 4 (enc v_7.g.Nodes), .sl 4 (enc v_7.g.Edges), .sl 1 (enc v_7.gone)])], [(0, .box [.sl 1 (enc w_0.g.Parent), .sl 1 (enc w_0.g.Bound), .sl 4 (enc w_0.g.Nodes), .sl 4 (enc w_0.g.Edges), .sl 1 (enc w_0.gone)]), (1, .box [.sl 1 (enc v_7.g.Parent), .sl 1 (enc v_7.g.Bound), .sl 4 (enc v_7.g.Nodes), .sl 4 (enc v_7.g.Edges), .sl 1 (enc v_7.gone)])], 2, 40⟩ : St)) (l := [some 3]) (args' := [.agg [.sl 1 (enc v_7.g.Parent), .sl 1 (enc v_7.g.Bound), .sl 4 (enc v_7.g.Nodes), .sl 4 (enc v_7.g.Edges), .sl 1 (enc v_7.gone)]]) ?_ ?_ (f_fuse_work_right_ok v_7 v_8 ev_8) (by rfl) (by rfl) ?_
     · simp only [go_sem, Le] <;> (repeat' apply And.intro) <;> first | ((try with_reducible refine TL_eq ?_); omega) | ((try with_reducible refine TL_eq ?_); (simp [go_sem]; done))
     · simp only [go_sem, Le] <;> (repeat' apply And.intro) <;> ((try with_reducible refine TL_eq ?_); (simp [go_sem]; done))
     simp only [go_sem]
     refine seqQ_normal hQ14 ?_
     refine vc_cond_of (b := v_8) (by (simp only [go_sem]; done)) (fun hb_11 => ?_) (fun hb_11 => ?_)
     ·
      replace h := if_t h hb_11
      refine sg fun QQ15 hQ15 => ?_
      simp only [go_sem]
      refine seqQ_normal hQ15 ?_
      refine sg fun QQ16 hQ16 => ?_
      simp only [go_sem]
      refine seqQ_normal hQ16 ?_
      refine vc_ret_of ?_
      refine blockQ_ret hQ9 ?_
      refine seqQ_ret hQ8 ?_
      refine thenQ_ret hQ5 ?_
      refine blockQ_ret hQ4 ?_
      refine seqQ_ret hQ2 ?_
      simp only [go_sem]
      obtain rfl := Option.some.inj h
      refine retW_det [] ?_
      simp only [go_sem, Le] <;> (repeat' apply And.intro) <;> ((try with_reducible refine TL_eq ?_); (simp [go_sem]; done))
     ·
      replace h := if_f h hb_11
      refine vc_skip_of ?_
      refine blockQ_normal hQ9 ?_
      refine seqQ_normal hQ8 ?_
      simp only [go_sem]
      refine thenQ_normal hQ5 ?_
      refine ⟨(m_1, IntKind.i64.wrap (t11_1 + 1)), [], ?_, h, Nat.lt_succ_self _⟩
      simp only [go_sem, Le]
   ·
    replace h := if_t h hb_9
    simp only [go_sem, hb_9]
    refine seqQ_normal hQ12 ?_
    refine vc_cond_t (by (simp only [go_sem]; done)) ?_
    refine vc_exit_of ?_
    refine seqQ_exit hQ11 ?_
    refine blockQ_exit hQ9 ?_
    refine seqQ_normal hQ8 ?_
    simp only [go_sem]
    refine thenQ_normal hQ5 ?_
    refine ⟨(m_1, IntKind.i64.wrap (t11_1 + 1)), [], ?_, h, Nat.lt_succ_self _⟩
    simp only [go_sem, Le]
  ·
   replace h := if_f h hb_8
   simp only [bool_to_prop] at hb_8
   refine vc_exit_of ?_
   refine seqQ_exit hQ7 ?_
   refine thenQ_exit hQ5 ?_
   refine blockQ_exit hQ4 ?_
   refine seqQ_normal hQ2 ?_
   refine sg fun QQ17 hQ17 => ?_
   simp only [go_sem]
   refine seqQ_normal hQ17 ?_
   refine vc_ret_of ?_
   simp only [go_sem]
   obtain rfl := Option.some.inj h
   refine retW_det [] ?_
   simp only [go_sem, Le]
def f_backwashref24_from_B1 (l_0 : List GEdge) (nv_0 : Int) (rec_1 : Int → Option Int) : Int → Option Int :=
 fun i_1 =>
 (if (decide (i_1 < (List.length l_0 : Int))) = true then bindO (idx l_0 i_1) (fun (xv_2 : GEdge) =>
 (if (xv_2.To == nv_0) = true then some i_1
 else rec_1 (IntKind.i64.wrap (i_1 + 1))))
 else some (-1))
def f_backwashref24_from (l_0 : List GEdge) (nv_0 : Int) : Option Int :=
 loopK (f_backwashref24_from_B1 l_0 nv_0) rounds 0
def f_backwashref24_Nothing (g_0 : GGraph) (l_0 : List GEdge) (nv_0 : Int) : Option Bool :=
 bindO (idx g_0.Nodes nv_0) (fun (xv_0 : GNode) =>
 (if (((xv_0.Kind == 13) || ((xv_0.Kind == 3) && (xv_0.Arg == 0))) || ((xv_0.Kind == 4) && (xv_0.Arg == 1))) = true then some true
 else bindO (f_backwashref24_from l_0 nv_0) (fun (v_0 : Int) =>
 (if ((decide (v_0 < 0)) || ((!(xv_0.Kind == 6)) && (!(xv_0.Kind == 8)))) = true then some false
 else bindO (idx l_0 v_0) (fun (xv_1 : GEdge) =>
 bindO (idx g_0.Nodes xv_1.From) (fun (xv_2 : GNode) =>
 some ((((xv_2.Kind == 6) || (xv_2.Kind == 7)) || (xv_2.Kind == 14)) || ((xv_0.Kind == 8) && (xv_2.Kind == 8)))))))))
end Go.Proofs.Ytbcbcdbkdljjlaa
