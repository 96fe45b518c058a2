/-
  What functions of the program compute, each told as a plain function that may give nothing, with the proof that the code does so. No condition beyond those that each theorem names.
-/
import Derived.Test.YtocnabkanbifdaaGreatDoorWalkTB0
import Derived.Test.YtocnabkanbifdaaGreatDoorLibS
import Derived.Test.YtocnabkanbifdaaGreatDoorLibD
set_option linter.unusedSimpArgs false
set_option linter.unusedVariables false
set_option linter.unusedSectionVars false
set_option maxHeartbeats 2000000
set_option maxRecDepth 100000
namespace Go.Proofs.YtocnabkanbifdaaGreatDoor
open Go Go.RowKit
def f_graph_Put_J4 (t106_1 : Int) (b_13 : GGraph_writer) (rec_3 : (Int × GGraph_writer → Option ((List UInt8) × Int))) (xv_20 : GEdge) (flag_2 : Int) : Option ((List UInt8) × Int) :=
 bindO (f_graph_writer_add_p0 b_13 ([xv_20.From, xv_20.To, xv_20.Port, flag_2] : List Int)) (fun (v_36 : GGraph_writer) =>
 rec_3 (IntKind.i64.wrap (t106_1 + 1), v_36))
def f_graph_Put_B3 (g_0 : GGraph) (rec_3 : Int × GGraph_writer → Option ((List UInt8) × Int)) : Int × GGraph_writer → Option ((List UInt8) × Int) :=
 fun (t106_1, b_13) =>
 (if (decide (t106_1 < (List.length g_0.Edges : Int))) = true then bindO (idx g_0.Edges t106_1) (fun (xv_20 : GEdge) =>
 (if xv_20.Exchange = true then f_graph_Put_J4 t106_1 b_13 rec_3 xv_20 1
 else f_graph_Put_J4 t106_1 b_13 rec_3 xv_20 0))
 else some (b_13.b, 0))
def f_graph_Put_J2 (g_0 : GGraph) (b_11 : GGraph_writer) : Option ((List UInt8) × Int) :=
 bindO (f_graph_writer_add_p0 b_11 ([(List.length g_0.Edges : Int)] : List Int)) (fun (v_33 : GGraph_writer) =>
 loopK (f_graph_Put_B3 g_0) rounds (0, v_33))
def f_graph_Put_B6 (t58_3 : Int) (rec_5 : (Int × GGraph_writer → Option ((List UInt8) × Int))) (xv_29 : GNode) (rec_6 : Int × GGraph_writer → Option ((List UInt8) × Int)) : Int × GGraph_writer → Option ((List UInt8) × Int) :=
 fun (t82_11, b_21) =>
 (if (decide (t82_11 < (List.length xv_29.Prog : Int))) = true then bindO (idx xv_29.Prog t82_11) (fun (xv_32 : GIns) =>
 bindO (f_graph_writer_add_p0 b_21 ([xv_32.Op] : List Int)) (fun (v_62 : GGraph_writer) =>
 bindO (f_graph_writer_sign_p0 v_62 xv_32.N) (fun (v_63 : GGraph_writer) =>
 rec_6 (IntKind.i64.wrap (t82_11 + 1), v_63))))
 else rec_5 (IntKind.i64.wrap (t58_3 + 1), b_21))
def f_graph_Put_B5 (g_0 : GGraph) (rec_5 : Int × GGraph_writer → Option ((List UInt8) × Int)) : Int × GGraph_writer → Option ((List UInt8) × Int) :=
 fun (t58_3, b_19) =>
 (if (decide (t58_3 < (List.length g_0.Nodes : Int))) = true then bindO (idx g_0.Nodes t58_3) (fun (xv_29 : GNode) =>
 bindO (f_graph_writer_add_p0 b_19 ([xv_29.Kind, xv_29.Scope] : List Int)) (fun (v_55 : GGraph_writer) =>
 bindO (f_graph_writer_sign_p0 v_55 xv_29.Arg) (fun (v_56 : GGraph_writer) =>
 bindO (f_graph_writer_add_p0 v_56 ([(List.length xv_29.Prog : Int)] : List Int)) (fun (v_57 : GGraph_writer) =>
 loopK (f_graph_Put_B6 t58_3 rec_5 xv_29) rounds (0, v_57)))))
 else f_graph_Put_J2 g_0 b_19)
def f_graph_Put_J1 (g_0 : GGraph) (b_2 : GGraph_writer) : Option ((List UInt8) × Int) :=
 bindO (f_graph_writer_add_p0 b_2 ([(List.length g_0.Nodes : Int)] : List Int)) (fun (v_5 : GGraph_writer) =>
 loopK (f_graph_Put_B5 g_0) rounds (0, v_5))
def f_graph_Put_B7 (g_0 : GGraph) (rec_7 : Int × GGraph_writer → Option ((List UInt8) × Int)) : Int × GGraph_writer → Option ((List UInt8) × Int) :=
 fun (t30_3, b_23) =>
 (if (decide (t30_3 < (List.length (List.drop (Int.toNat 1) (List.take (List.length g_0.Parent) g_0.Parent)) : Int))) = true then bindO (idx g_0.Parent (IntKind.i64.wrap (1 + t30_3))) (fun (xv_37 : Int) =>
 bindO (idx g_0.Bound (IntKind.i64.wrap (1 + t30_3))) (fun (xv_38 : Int) =>
 bindO (f_graph_writer_add_p0 b_23 ([xv_37, xv_38] : List Int)) (fun (v_66 : GGraph_writer) =>
 rec_7 (IntKind.i64.wrap (t30_3 + 1), v_66))))
 else f_graph_Put_J1 g_0 b_23)
def f_graph_Put (g_0 : GGraph) : Option ((List UInt8) × Int) :=
 bindO (f_graph_fits g_0) (fun (v_0 : Bool) =>
 (if (!v_0) = true then some (([] : List UInt8), 1)
 else guardO (0 ≤ 66 ∧ 66 < 256) (
 guardO (0 ≤ 87 ∧ 87 < 256) (
 guardO (0 ≤ 49 ∧ 49 < 256) (
 bindO (f_graph_writer_add_p0 (⟨([toB 66, toB 87, toB 49] : List UInt8)⟩ : GGraph_writer) ([(List.length g_0.Parent : Int)] : List Int)) (fun (v_1 : GGraph_writer) =>
 guardO (0 ≤ 1 ∧ 1 ≤ (List.length g_0.Parent : Int) ∧ (List.length g_0.Parent : Int) ≤ (List.length g_0.Parent : Int)) (
 loopK (f_graph_Put_B7 g_0) rounds (0, v_1))))))))
theorem f_graph_Put_ok (g_0 : GGraph)  (r : (List UInt8) × Int) (h : f_graph_Put g_0 = some r) : PureS Tryz.prog 10 [.agg [.sl 1 (enc g_0.Parent), .sl 1 (enc g_0.Bound), .sl 4 (enc g_0.Nodes), .sl 4 (enc g_0.Edges)]] 0 (.tup [.sl 1 (enc r.1), .v (.int .i64 r.2)]) := by
 unfold PureS
 refine Spec.of_vc Tryz.func10 rfl (by kernel_rfl) (by kernel_rfl) ?_
 rw [f_graph_Put] at h
 refine sg fun QQ1 hQ1 => ?_
 simp only [go_sem]
 refine seqQ_normal hQ1 ?_
 refine sg fun QQ2 hQ2 => ?_
 refine sg fun QQ3 hQ3 => ?_
 obtain ⟨v_0, ev_0, h⟩ := bindO_some h
 simp only [go_sem]
 refine call0 (f_graph_fits_ok g_0 v_0 ev_0) (by rfl) (by rfl) ?_
 simp only [go_sem]
 refine seqQ_normal hQ3 ?_
 refine vc_cond_of (b := (!v_0)) (by (simp only [go_sem]; done)) (fun hb_0 => ?_) (fun hb_0 => ?_)
 ·
  replace h := if_t h hb_0
  simp only [bool_to_prop] at hb_0
  refine sg fun QQ4 hQ4 => ?_
  simp only [go_sem]
  refine seqQ_normal hQ4 ?_
  refine vc_ret_of ?_
  refine seqQ_ret hQ2 ?_
  simp only [go_sem]
  obtain rfl := Option.some.inj h
  refine retW_pure rfl ?_
  simp only [go_sem, Le]
 ·
  replace h := if_f h hb_0
  simp only [bool_to_prop] at hb_0
  refine vc_skip_of ?_
  refine seqQ_normal hQ2 ?_
  refine sg fun QQ5 hQ5 => ?_
  obtain ⟨g_1, h⟩ := guardO_some h
  obtain ⟨g_2, h⟩ := guardO_some h
  obtain ⟨g_3, h⟩ := guardO_some h
  have rf_0 : [[.v (.int .u8 66)], [.v (.int .u8 87)], [.v (.int .u8 49)]] = enc ([toB 66, toB 87, toB 49] : List UInt8) := by rfl
  simp only [go_sem, g_1, g_2, g_3]
  simp only [rf_0]
  refine seqQ_normal hQ5 ?_
  refine sg fun QQ6 hQ6 => ?_
  have rf_1 : [[.v (.int .i64 (List.length g_0.Parent : Int))]] = enc ([(List.length g_0.Parent : Int)] : List Int) := by rfl
  obtain ⟨v_1, ev_1, h⟩ := bindO_some h
  simp only [go_sem]
  simp only [rf_1]
  refine callF_weak (s' := (⟨0, [(1, .ptr 0 0), (4, .ptr 1 0)], [(0, .box [.sl 1 (enc g_0.Parent), .sl 1 (enc g_0.Bound), .sl 4 (enc g_0.Nodes), .sl 4 (enc g_0.Edges)]), (1, .box [.sl 1 (enc ([toB 66, toB 87, toB 49] : List UInt8))])], 2, 127⟩ : St)) (l := [some 0, some 2]) (args' := [.ptr 1 0, .sl 1 (enc ([(List.length g_0.Parent : Int)] : List Int))]) ?_ ?_ ?_ --K[1];[0]
  · simp only [go_sem, Le] <;> (repeat' apply And.intro) <;> first | ((try with_reducible refine TL_eq ?_); omega) | ((try with_reducible refine TL_eq ?_); (simp [go_sem]; done))
  · simp only [go_sem, Le] <;> (repeat' apply And.intro) <;> ((try with_reducible refine TL_eq ?_); (simp [go_sem]; done))
  refine callD [1] (f_graph_writer_add_p0_det (⟨([toB 66, toB 87, toB 49] : List UInt8)⟩ : GGraph_writer) ([(List.length g_0.Parent : Int)] : List Int) v_1 ev_1) (by simp) rfl ⟨rfl, trivial⟩ rfl rfl rfl rfl ?_
  simp only [go_sem]
  refine seqQ_normal hQ6 ?_
  refine vc_join (by kernel_rfl) ?_
  refine seq_cut_gen (ι := GGraph_writer) (fun (b_2 : GGraph_writer) => (⟨0, [(1, .ptr 0 0), (4, .ptr 1 0)], [(0, .box [.sl 1 (enc g_0.Parent), .sl 1 (enc g_0.Bound), .sl 4 (enc g_0.Nodes), .sl 4 (enc g_0.Edges)]), (1, .box [.sl 1 (enc b_2.b)])], 2, 127⟩ : St)) (fun (b_2 : GGraph_writer) => f_graph_Put_J1 g_0 b_2 = some r) ?_ ?_ --K[1,4];[0]
  ·
   intro QQ43 hQ43
   refine sg fun QQ44 hQ44 => ?_
   obtain ⟨g_5, h⟩ := guardO_some h
   simp only [go_sem, g_5]
   refine seqQ_normal hQ44 ?_
   refine vc_block_gen ?_
   intro QQ45 hQ45
   refine vc_loop_of ?_
   refine loop_gen (ι := Nat × Int × GGraph_writer) (fun ((_, t30_3, b_23) : Nat × Int × GGraph_writer) => (⟨0, [(1, .ptr 0 0), (4, .ptr 1 0), (29, .v (.int .i64 (List.length (List.drop (Int.toNat 1) (List.take (List.length g_0.Parent) g_0.Parent)) : Int))), (30, .v (.int .i64 t30_3))], [(0, .box [.sl 1 (enc g_0.Parent), .sl 1 (enc g_0.Bound), .sl 4 (enc g_0.Nodes), .sl 4 (enc g_0.Edges)]), (1, .box [.sl 1 (enc b_23.b)])], 2, 127⟩ : St)) (fun ((n_, t30_3, b_23) : Nat × Int × GGraph_writer) => loopK (f_graph_Put_B7 g_0) n_ (t30_3, b_23) = some r) (fun p => p.1) (rounds, 0, v_1) [some 0, some 1] ?_ h ?_ --K[1,4,29];[0]
   · simp only [go_sem, Le] <;> (repeat' apply And.intro) <;> first | ((try with_reducible refine TL_eq ?_); omega) | ((try with_reducible refine TL_eq ?_); (simp [go_sem]; done))
   ·
    rintro ⟨n_7, t30_3, b_23⟩ h QQ46 hQ46
    dsimp only at h
    replace h := loopK_some h
    obtain ⟨m_7, rfl, h⟩ := h
    rw [f_graph_Put_B7] at h
    refine sg fun QQ47 hQ47 => ?_
    simp only [go_sem]
    refine seqQ_normal hQ47 ?_
    refine sg fun QQ48 hQ48 => ?_
    refine vc_cond_of (b := (decide (t30_3 < (List.length (List.drop (Int.toNat 1) (List.take (List.length g_0.Parent) g_0.Parent)) : Int)))) (by (simp only [go_sem]; done)) (fun hb_39 => ?_) (fun hb_39 => ?_)
    ·
     replace h := if_t h hb_39
     simp only [bool_to_prop] at hb_39
     refine vc_skip_of ?_
     refine seqQ_normal hQ48 ?_
     refine sg fun QQ49 hQ49 => ?_
     refine vc_block_gen ?_
     intro QQ50 hQ50
     refine sg fun QQ51 hQ51 => ?_
     simp only [go_sem]
     refine seqQ_normal hQ51 ?_
     refine vc_draw ?_
     refine drawM_tail 14 [0, 0, 2, 0, 8, 30, 62, 0, 128, 0, 512, 1920, 3968, 8190, 16383] mixed (by kernel_rfl) (of_decide_eq_true (by kernel_rfl)) (by kernel_rfl) ?_
     obtain ⟨xv_37, exv_37, h⟩ := bindO_some h
     obtain ⟨fxv_37a, fxv_37b, fxv_37c⟩ := idx_spec exv_37
     obtain ⟨xv_38, exv_38, h⟩ := bindO_some h
     obtain ⟨fxv_38a, fxv_38b, fxv_38c⟩ := idx_spec exv_38
     have rf_42 : [[.v (.int .i64 xv_37)], [.v (.int .i64 xv_38)]] = enc ([xv_37, xv_38] : List Int) := by rfl
     obtain ⟨v_66, ev_66, h⟩ := bindO_some h
     simp only [go_sem, fxv_37a, fxv_37b, fxv_37c, fxv_38a, fxv_38b, fxv_38c]
     refine And.intro (by omega) ?_
     refine And.intro (by omega) ?_
     simp only [rf_42]
     refine callD [1] (f_graph_writer_add_p0_det b_23 ([xv_37, xv_38] : List Int) v_66 ev_66) (by simp) rfl ⟨rfl, trivial⟩ rfl rfl rfl rfl ?_
     simp only [go_sem]
     refine blockQ_normal hQ50 ?_
     refine seqQ_normal hQ49 ?_
     simp only [go_sem]
     refine thenQ_normal hQ46 ?_
     refine ⟨(m_7, IntKind.i64.wrap (t30_3 + 1), v_66), [some 0, some 1], ?_, h, Nat.lt_succ_self _⟩
     simp only [go_sem, Le] <;> (repeat' apply And.intro) <;> first | ((try with_reducible refine TL_eq ?_); omega) | ((try with_reducible refine TL_eq ?_); (simp [go_sem]; done))
    ·
     replace h := if_f h hb_39
     simp only [bool_to_prop] at hb_39
     refine vc_exit_of ?_
     refine seqQ_exit hQ48 ?_
     refine thenQ_exit hQ46 ?_
     refine blockQ_exit hQ45 ?_
     refine thenQ_normal hQ43 ?_
     refine ⟨b_23, [some 0, some 1], ?_, h⟩
     simp only [go_sem, Le] <;> (repeat' apply And.intro) <;> first | ((try with_reducible refine TL_eq ?_); omega) | ((try with_reducible refine TL_eq ?_); (simp [go_sem]; done))
  ·
   rintro b_2 h
   try dsimp only at h
   rw [f_graph_Put_J1] at h
   refine sg fun QQ7 hQ7 => ?_
   have rf_5 : [[.v (.int .i64 (List.length g_0.Nodes : Int))]] = enc ([(List.length g_0.Nodes : Int)] : List Int) := by rfl
   obtain ⟨v_5, ev_5, h⟩ := bindO_some h
   simp only [go_sem]
   simp only [rf_5]
   refine callF_weak (s' := (⟨0, [(1, .ptr 0 0), (4, .ptr 1 0)], [(0, .box [.sl 1 (enc g_0.Parent), .sl 1 (enc g_0.Bound), .sl 4 (enc g_0.Nodes), .sl 4 (enc g_0.Edges)]), (1, .box [.sl 1 (enc b_2.b)])], 2, 127⟩ : St)) (l := [some 0, some 1]) (args' := [.ptr 1 0, .sl 1 (enc ([(List.length g_0.Nodes : Int)] : List Int))]) ?_ ?_ ?_ --K[1,4];[0,1]
   · simp only [go_sem, Le] <;> (repeat' apply And.intro) <;> first | ((try with_reducible refine TL_eq ?_); omega) | ((try with_reducible refine TL_eq ?_); (simp [go_sem]; done))
   · simp only [go_sem, Le] <;> (repeat' apply And.intro) <;> ((try with_reducible refine TL_eq ?_); (simp [go_sem]; done))
   refine callD [1] (f_graph_writer_add_p0_det b_2 ([(List.length g_0.Nodes : Int)] : List Int) v_5 ev_5) (by simp) rfl ⟨rfl, trivial⟩ rfl rfl rfl rfl ?_
   simp only [go_sem]
   refine seqQ_normal hQ7 ?_
   refine vc_join (by kernel_rfl) ?_
   refine seq_cut_gen (ι := GGraph_writer) (fun (b_11 : GGraph_writer) => (⟨0, [(1, .ptr 0 0), (4, .ptr 1 0)], [(0, .box [.sl 1 (enc g_0.Parent), .sl 1 (enc g_0.Bound), .sl 4 (enc g_0.Nodes), .sl 4 (enc g_0.Edges)]), (1, .box [.sl 1 (enc b_11.b)])], 2, 127⟩ : St)) (fun (b_11 : GGraph_writer) => f_graph_Put_J2 g_0 b_11 = some r) ?_ ?_ --K[1,4];[0]
   ·
    intro QQ22 hQ22
    refine sg fun QQ23 hQ23 => ?_
    simp only [go_sem]
    refine seqQ_normal hQ23 ?_
    refine vc_block_gen ?_
    intro QQ24 hQ24
    refine vc_loop_of ?_
    refine loop_gen (ι := Nat × Int × GGraph_writer) (fun ((_, t58_3, b_19) : Nat × Int × GGraph_writer) => (⟨0, [(1, .ptr 0 0), (4, .ptr 1 0), (56, .sl 4 (enc g_0.Nodes)), (57, .v (.int .i64 (List.length g_0.Nodes : Int))), (58, .v (.int .i64 t58_3))], [(0, .box [.sl 1 (enc g_0.Parent), .sl 1 (enc g_0.Bound), .sl 4 (enc g_0.Nodes), .sl 4 (enc g_0.Edges)]), (1, .box [.sl 1 (enc b_19.b)])], 2, 127⟩ : St)) (fun ((n_, t58_3, b_19) : Nat × Int × GGraph_writer) => loopK (f_graph_Put_B5 g_0) n_ (t58_3, b_19) = some r) (fun p => p.1) (rounds, 0, v_5) [some 0, some 1] ?_ h ?_ --K[1,4,56,57];[0]
    · simp only [go_sem, Le] <;> (repeat' apply And.intro) <;> first | ((try with_reducible refine TL_eq ?_); omega) | ((try with_reducible refine TL_eq ?_); (simp [go_sem]; done))
    ·
     rintro ⟨n_5, t58_3, b_19⟩ h QQ25 hQ25
     dsimp only at h
     replace h := loopK_some h
     obtain ⟨m_5, rfl, h⟩ := h
     rw [f_graph_Put_B5] at h
     refine sg fun QQ26 hQ26 => ?_
     simp only [go_sem]
     refine seqQ_normal hQ26 ?_
     refine sg fun QQ27 hQ27 => ?_
     refine vc_cond_of (b := (decide (t58_3 < (List.length g_0.Nodes : Int)))) (by (simp only [go_sem]; done)) (fun hb_33 => ?_) (fun hb_33 => ?_)
     ·
      replace h := if_t h hb_33
      simp only [bool_to_prop] at hb_33
      refine vc_skip_of ?_
      refine seqQ_normal hQ27 ?_
      refine vc_join (by kernel_rfl) ?_
      refine seq_go_gen ?_
      intro QQ28 hQ28
      refine vc_block_gen ?_
      intro QQ29 hQ29
      refine sg fun QQ30 hQ30 => ?_
      obtain ⟨xv_29, exv_29, h⟩ := bindO_some h
      obtain ⟨fxv_29a, fxv_29b, fxv_29c⟩ := idx_spec exv_29
      simp only [go_sem, fxv_29a, fxv_29b, fxv_29c]
      refine And.intro (by omega) ?_
      refine seqQ_normal hQ30 ?_
      refine sg fun QQ31 hQ31 => ?_
      have rf_35 : [[.v (.int .i64 xv_29.Kind)], [.v (.int .i64 xv_29.Scope)]] = enc ([xv_29.Kind, xv_29.Scope] : List Int) := by rfl
      obtain ⟨v_55, ev_55, h⟩ := bindO_some h
      simp only [go_sem]
      simp only [rf_35]
      refine callF_weak (s' := (⟨0, [(1, .ptr 0 0), (4, .ptr 1 0), (7, .ptr 2 0), (56, .sl 4 (enc g_0.Nodes)), (57, .v (.int .i64 (List.length g_0.Nodes : Int))), (58, .v (.int .i64 t58_3))], [(0, .box [.sl 1 (enc g_0.Parent), .sl 1 (enc g_0.Bound), .sl 4 (enc g_0.Nodes), .sl 4 (enc g_0.Edges)]), (1, .box [.sl 1 (enc b_19.b)]), (2, .box [.v (.int .i64 xv_29.Kind), .v (.int .i64 xv_29.Scope), .v (.int .i64 xv_29.Arg), .sl 2 (enc xv_29.Prog)])], 3, 127⟩ : St)) (l := [some 0, some 1, some 2]) (args' := [.ptr 1 0, .sl 1 (enc ([xv_29.Kind, xv_29.Scope] : List Int))]) ?_ ?_ ?_ --K[1,4,7,56,57,58];[0,1,2]
      · simp only [go_sem, Le] <;> (repeat' apply And.intro) <;> first | ((try with_reducible refine TL_eq ?_); omega) | ((try with_reducible refine TL_eq ?_); (simp [go_sem]; done))
      · simp only [go_sem, Le] <;> (repeat' apply And.intro) <;> ((try with_reducible refine TL_eq ?_); (simp [go_sem]; done))
      refine callD [1] (f_graph_writer_add_p0_det b_19 ([xv_29.Kind, xv_29.Scope] : List Int) v_55 ev_55) (by simp) rfl ⟨rfl, trivial⟩ rfl rfl rfl rfl ?_
      simp only [go_sem]
      refine seqQ_normal hQ31 ?_
      refine sg fun QQ32 hQ32 => ?_
      obtain ⟨v_56, ev_56, h⟩ := bindO_some h
      simp only [go_sem]
      refine callD [1] (f_graph_writer_sign_p0_det v_55 xv_29.Arg v_56 ev_56) (by simp) rfl ⟨rfl, trivial⟩ rfl rfl rfl rfl ?_
      simp only [go_sem]
      refine seqQ_normal hQ32 ?_
      refine sg fun QQ33 hQ33 => ?_
      have rf_36 : [[.v (.int .i64 (List.length xv_29.Prog : Int))]] = enc ([(List.length xv_29.Prog : Int)] : List Int) := by rfl
      obtain ⟨v_57, ev_57, h⟩ := bindO_some h
      simp only [go_sem]
      simp only [rf_36]
      refine callF_weak (s' := (⟨0, [(1, .ptr 0 0), (4, .ptr 1 0), (7, .ptr 2 0), (56, .sl 4 (enc g_0.Nodes)), (57, .v (.int .i64 (List.length g_0.Nodes : Int))), (58, .v (.int .i64 t58_3))], [(0, .box [.sl 1 (enc g_0.Parent), .sl 1 (enc g_0.Bound), .sl 4 (enc g_0.Nodes), .sl 4 (enc g_0.Edges)]), (1, .box [.sl 1 (enc v_56.b)]), (2, .box [.v (.int .i64 xv_29.Kind), .v (.int .i64 xv_29.Scope), .v (.int .i64 xv_29.Arg), .sl 2 (enc xv_29.Prog)])], 3, 127⟩ : St)) (l := [some 0, some 1, some 2]) (args' := [.ptr 1 0, .sl 1 (enc ([(List.length xv_29.Prog : Int)] : List Int))]) ?_ ?_ ?_ --K[1,4,7,56,57,58];[0,1,2]
      · simp only [go_sem, Le] <;> (repeat' apply And.intro) <;> first | ((try with_reducible refine TL_eq ?_); omega) | ((try with_reducible refine TL_eq ?_); (simp [go_sem]; done))
      · simp only [go_sem, Le] <;> (repeat' apply And.intro) <;> ((try with_reducible refine TL_eq ?_); (simp [go_sem]; done))
      refine callD [1] (f_graph_writer_add_p0_det v_56 ([(List.length xv_29.Prog : Int)] : List Int) v_57 ev_57) (by simp) rfl ⟨rfl, trivial⟩ rfl rfl rfl rfl ?_
      simp only [go_sem]
      refine seqQ_normal hQ33 ?_
      refine sg fun QQ34 hQ34 => ?_
      simp only [go_sem]
      refine seqQ_normal hQ34 ?_
      refine vc_block_gen ?_
      intro QQ35 hQ35
      refine vc_loop_of ?_
      refine loop_gen (ι := Nat × Int × GGraph_writer) (fun ((_, t82_11, b_21) : Nat × Int × GGraph_writer) => (⟨0, [(1, .ptr 0 0), (4, .ptr 1 0), (56, .sl 4 (enc g_0.Nodes)), (57, .v (.int .i64 (List.length g_0.Nodes : Int))), (58, .v (.int .i64 t58_3)), (80, .sl 2 (enc xv_29.Prog)), (81, .v (.int .i64 (List.length xv_29.Prog : Int))), (82, .v (.int .i64 t82_11))], [(0, .box [.sl 1 (enc g_0.Parent), .sl 1 (enc g_0.Bound), .sl 4 (enc g_0.Nodes), .sl 4 (enc g_0.Edges)]), (1, .box [.sl 1 (enc b_21.b)])], 2, 127⟩ : St)) (fun ((n_, t82_11, b_21) : Nat × Int × GGraph_writer) => loopK (f_graph_Put_B6 t58_3 (loopK (f_graph_Put_B5 g_0) m_5) xv_29) n_ (t82_11, b_21) = some r) (fun p => p.1) (rounds, 0, v_57) [some 0, some 1] ?_ h ?_ --K[1,4,56,57,58,80,81];[0]
      · simp only [go_sem, Le] <;> (repeat' apply And.intro) <;> first | ((try with_reducible refine TL_eq ?_); omega) | ((try with_reducible refine TL_eq ?_); (simp [go_sem]; done))
      ·
       rintro ⟨n_6, t82_11, b_21⟩ h QQ36 hQ36
       dsimp only at h
       replace h := loopK_some h
       obtain ⟨m_6, rfl, h⟩ := h
       rw [f_graph_Put_B6] at h
       refine sg fun QQ37 hQ37 => ?_
       simp only [go_sem]
       refine seqQ_normal hQ37 ?_
       refine sg fun QQ38 hQ38 => ?_
       refine vc_cond_of (b := (decide (t82_11 < (List.length xv_29.Prog : Int)))) (by (simp only [go_sem]; done)) (fun hb_36 => ?_) (fun hb_36 => ?_)
       ·
        replace h := if_t h hb_36
        simp only [bool_to_prop] at hb_36
        refine vc_skip_of ?_
        refine seqQ_normal hQ38 ?_
        refine sg fun QQ39 hQ39 => ?_
        refine vc_block_gen ?_
        intro QQ40 hQ40
        refine sg fun QQ41 hQ41 => ?_
        obtain ⟨xv_32, exv_32, h⟩ := bindO_some h
        obtain ⟨fxv_32a, fxv_32b, fxv_32c⟩ := idx_spec exv_32
        simp only [go_sem, fxv_32a, fxv_32b, fxv_32c]
        refine And.intro (by omega) ?_
        refine seqQ_normal hQ41 ?_
        refine sg fun QQ42 hQ42 => ?_
        have rf_39 : [[.v (.int .i64 xv_32.Op)]] = enc ([xv_32.Op] : List Int) := by rfl
        obtain ⟨v_62, ev_62, h⟩ := bindO_some h
        simp only [go_sem]
        simp only [rf_39]
        refine callF_weak (s' := (⟨0, [(1, .ptr 0 0), (4, .ptr 1 0), (9, .ptr 2 0), (56, .sl 4 (enc g_0.Nodes)), (57, .v (.int .i64 (List.length g_0.Nodes : Int))), (58, .v (.int .i64 t58_3)), (80, .sl 2 (enc xv_29.Prog)), (81, .v (.int .i64 (List.length xv_29.Prog : Int))), (82, .v (.int .i64 t82_11))], [(0, .box [.sl 1 (enc g_0.Parent), .sl 1 (enc g_0.Bound), .sl 4 (enc g_0.Nodes), .sl 4 (enc g_0.Edges)]), (1, .box [.sl 1 (enc b_21.b)]), (2, .box [.v (.int .i64 xv_32.Op), .v (.int .i64 xv_32.N)])], 3, 127⟩ : St)) (l := [some 0, some 1, some 2]) (args' := [.ptr 1 0, .sl 1 (enc ([xv_32.Op] : List Int))]) ?_ ?_ ?_ --K[1,4,9,56,57,58,80,81,82];[0,1,2]
        · simp only [go_sem, Le] <;> (repeat' apply And.intro) <;> first | ((try with_reducible refine TL_eq ?_); omega) | ((try with_reducible refine TL_eq ?_); (simp [go_sem]; done))
        · simp only [go_sem, Le] <;> (repeat' apply And.intro) <;> ((try with_reducible refine TL_eq ?_); (simp [go_sem]; done))
        refine callD [1] (f_graph_writer_add_p0_det b_21 ([xv_32.Op] : List Int) v_62 ev_62) (by simp) rfl ⟨rfl, trivial⟩ rfl rfl rfl rfl ?_
        simp only [go_sem]
        refine seqQ_normal hQ42 ?_
        obtain ⟨v_63, ev_63, h⟩ := bindO_some h
        simp only [go_sem]
        refine callD [1] (f_graph_writer_sign_p0_det v_62 xv_32.N v_63 ev_63) (by simp) rfl ⟨rfl, trivial⟩ rfl rfl rfl rfl ?_
        simp only [go_sem]
        refine blockQ_normal hQ40 ?_
        refine seqQ_normal hQ39 ?_
        simp only [go_sem]
        refine thenQ_normal hQ36 ?_
        refine ⟨(m_6, IntKind.i64.wrap (t82_11 + 1), v_63), [some 0, some 1], ?_, h, Nat.lt_succ_self _⟩
        simp only [go_sem, Le] <;> (repeat' apply And.intro) <;> first | ((try with_reducible refine TL_eq ?_); omega) | ((try with_reducible refine TL_eq ?_); (simp [go_sem]; done))
       ·
        replace h := if_f h hb_36
        simp only [bool_to_prop] at hb_36
        refine vc_exit_of ?_
        refine seqQ_exit hQ38 ?_
        refine thenQ_exit hQ36 ?_
        refine blockQ_exit hQ35 ?_
        refine blockQ_normal hQ29 ?_
        refine seqQ_normal hQ28 ?_
        simp only [go_sem]
        refine thenQ_normal hQ25 ?_
        refine ⟨(m_5, IntKind.i64.wrap (t58_3 + 1), b_21), [some 0, some 1], ?_, h, Nat.lt_succ_self _⟩
        simp only [go_sem, Le] <;> (repeat' apply And.intro) <;> first | ((try with_reducible refine TL_eq ?_); omega) | ((try with_reducible refine TL_eq ?_); (simp [go_sem]; done))
     ·
      replace h := if_f h hb_33
      simp only [bool_to_prop] at hb_33
      refine vc_exit_of ?_
      refine seqQ_exit hQ27 ?_
      refine thenQ_exit hQ25 ?_
      refine blockQ_exit hQ24 ?_
      refine thenQ_normal hQ22 ?_
      refine ⟨b_19, [some 0, some 1], ?_, h⟩
      simp only [go_sem, Le] <;> (repeat' apply And.intro) <;> first | ((try with_reducible refine TL_eq ?_); omega) | ((try with_reducible refine TL_eq ?_); (simp [go_sem]; done))
   ·
    rintro b_11 h
    try dsimp only at h
    rw [f_graph_Put_J2] at h
    refine sg fun QQ8 hQ8 => ?_
    have rf_21 : [[.v (.int .i64 (List.length g_0.Edges : Int))]] = enc ([(List.length g_0.Edges : Int)] : List Int) := by rfl
    obtain ⟨v_33, ev_33, h⟩ := bindO_some h
    simp only [go_sem]
    simp only [rf_21]
    refine callF_weak (s' := (⟨0, [(1, .ptr 0 0), (4, .ptr 1 0)], [(0, .box [.sl 1 (enc g_0.Parent), .sl 1 (enc g_0.Bound), .sl 4 (enc g_0.Nodes), .sl 4 (enc g_0.Edges)]), (1, .box [.sl 1 (enc b_11.b)])], 2, 127⟩ : St)) (l := [some 0, some 1]) (args' := [.ptr 1 0, .sl 1 (enc ([(List.length g_0.Edges : Int)] : List Int))]) ?_ ?_ ?_ --K[1,4];[0,1]
    · simp only [go_sem, Le] <;> (repeat' apply And.intro) <;> first | ((try with_reducible refine TL_eq ?_); omega) | ((try with_reducible refine TL_eq ?_); (simp [go_sem]; done))
    · simp only [go_sem, Le] <;> (repeat' apply And.intro) <;> ((try with_reducible refine TL_eq ?_); (simp [go_sem]; done))
    refine callD [1] (f_graph_writer_add_p0_det b_11 ([(List.length g_0.Edges : Int)] : List Int) v_33 ev_33) (by simp) rfl ⟨rfl, trivial⟩ rfl rfl rfl rfl ?_
    simp only [go_sem]
    refine seqQ_normal hQ8 ?_
    refine vc_join (by kernel_rfl) ?_
    refine seq_go_gen ?_
    intro QQ9 hQ9
    refine sg fun QQ10 hQ10 => ?_
    simp only [go_sem]
    refine seqQ_normal hQ10 ?_
    refine vc_block_gen ?_
    intro QQ11 hQ11
    refine vc_loop_of ?_
    refine loop_gen (ι := Nat × Int × GGraph_writer) (fun ((_, t106_1, b_13) : Nat × Int × GGraph_writer) => (⟨0, [(4, .ptr 0 0), (104, .sl 4 (enc g_0.Edges)), (105, .v (.int .i64 (List.length g_0.Edges : Int))), (106, .v (.int .i64 t106_1))], [(0, .box [.sl 1 (enc b_13.b)])], 1, 127⟩ : St)) (fun ((n_, t106_1, b_13) : Nat × Int × GGraph_writer) => loopK (f_graph_Put_B3 g_0) n_ (t106_1, b_13) = some r) (fun p => p.1) (rounds, 0, v_33) [some 1] ?_ h ?_ --K[104,105];[]
    · simp only [go_sem, Le]
    ·
     rintro ⟨n_3, t106_1, b_13⟩ h QQ12 hQ12
     dsimp only at h
     replace h := loopK_some h
     obtain ⟨m_3, rfl, h⟩ := h
     rw [f_graph_Put_B3] at h
     refine sg fun QQ13 hQ13 => ?_
     simp only [go_sem]
     refine seqQ_normal hQ13 ?_
     refine sg fun QQ14 hQ14 => ?_
     refine vc_cond_of (b := (decide (t106_1 < (List.length g_0.Edges : Int)))) (by (simp only [go_sem]; done)) (fun hb_22 => ?_) (fun hb_22 => ?_)
     ·
      replace h := if_t h hb_22
      simp only [bool_to_prop] at hb_22
      refine vc_skip_of ?_
      refine seqQ_normal hQ14 ?_
      refine vc_join (by kernel_rfl) ?_
      refine seq_go_gen ?_
      intro QQ15 hQ15
      refine vc_block_gen ?_
      intro QQ16 hQ16
      refine sg fun QQ17 hQ17 => ?_
      obtain ⟨xv_20, exv_20, h⟩ := bindO_some h
      obtain ⟨fxv_20a, fxv_20b, fxv_20c⟩ := idx_spec exv_20
      simp only [go_sem, fxv_20a, fxv_20b, fxv_20c]
      refine And.intro (by omega) ?_
      refine seqQ_normal hQ17 ?_
      refine sg fun QQ18 hQ18 => ?_
      simp only [go_sem]
      refine seqQ_normal hQ18 ?_
      refine vc_join (by kernel_rfl) ?_
      refine seq_cut_gen (ι := Int) (fun (flag_2 : Int) => (⟨0, [(4, .ptr 0 0), (11, .ptr 1 0), (12, .v (.int .i64 flag_2)), (104, .sl 4 (enc g_0.Edges)), (105, .v (.int .i64 (List.length g_0.Edges : Int))), (106, .v (.int .i64 t106_1))], [(0, .box [.sl 1 (enc b_13.b)]), (1, .box [.v (.int .i64 xv_20.From), .v (.int .i64 xv_20.To), .v (.int .i64 xv_20.Port), .v (.bool xv_20.Exchange)])], 2, 127⟩ : St)) (fun (flag_2 : Int) => f_graph_Put_J4 t106_1 b_13 (loopK (f_graph_Put_B3 g_0) m_3) xv_20 flag_2 = some r) ?_ ?_ --K[4,11,104,105,106];[0,1]
      ·
       intro QQ19 hQ19
       refine sg fun QQ20 hQ20 => ?_
       simp only [go_sem]
       refine seqQ_normal hQ20 ?_
       refine vc_cond_of (b := xv_20.Exchange) (by (simp only [go_sem]; done)) (fun hb_24 => ?_) (fun hb_24 => ?_)
       ·
        replace h := if_t h hb_24
        simp only [go_sem]
        refine thenQ_normal hQ19 ?_
        refine ⟨1, [some 0, some 1], ?_, h⟩
        simp only [go_sem, Le] <;> (repeat' apply And.intro) <;> first | ((try with_reducible refine TL_eq ?_); omega) | ((try with_reducible refine TL_eq ?_); (simp [go_sem]; done))
       ·
        replace h := if_f h hb_24
        refine vc_skip_of ?_
        refine thenQ_normal hQ19 ?_
        refine ⟨0, [some 0, some 1], ?_, h⟩
        simp only [go_sem, Le] <;> (repeat' apply And.intro) <;> first | ((try with_reducible refine TL_eq ?_); omega) | ((try with_reducible refine TL_eq ?_); (simp [go_sem]; done))
      ·
       rintro flag_2 h
       try dsimp only at h
       rw [f_graph_Put_J4] at h
       have rf_24 : [[.v (.int .i64 xv_20.From)], [.v (.int .i64 xv_20.To)], [.v (.int .i64 xv_20.Port)], [.v (.int .i64 flag_2)]] = enc ([xv_20.From, xv_20.To, xv_20.Port, flag_2] : List Int) := by rfl
       obtain ⟨v_36, ev_36, h⟩ := bindO_some h
       simp only [go_sem]
       simp only [rf_24]
       refine callF_weak (s' := (⟨0, [(4, .ptr 0 0), (104, .sl 4 (enc g_0.Edges)), (105, .v (.int .i64 (List.length g_0.Edges : Int))), (106, .v (.int .i64 t106_1))], [(0, .box [.sl 1 (enc b_13.b)]), (1, .box [.v (.int .i64 xv_20.From), .v (.int .i64 xv_20.To), .v (.int .i64 xv_20.Port), .v (.bool xv_20.Exchange)])], 2, 127⟩ : St)) (l := [some 0, some 1]) (args' := [.ptr 0 0, .sl 1 (enc ([xv_20.From, xv_20.To, xv_20.Port, flag_2] : List Int))]) ?_ ?_ ?_ --K[4,104,105,106];[0,1]
       · simp only [go_sem, Le] <;> (repeat' apply And.intro) <;> first | ((try with_reducible refine TL_eq ?_); omega) | ((try with_reducible refine TL_eq ?_); (simp [go_sem]; done))
       · simp only [go_sem, Le] <;> (repeat' apply And.intro) <;> ((try with_reducible refine TL_eq ?_); (simp [go_sem]; done))
       refine callD [0] (f_graph_writer_add_p0_det b_13 ([xv_20.From, xv_20.To, xv_20.Port, flag_2] : List Int) v_36 ev_36) (by simp) rfl ⟨rfl, trivial⟩ rfl rfl rfl rfl ?_
       simp only [go_sem]
       refine blockQ_normal hQ16 ?_
       refine seqQ_normal hQ15 ?_
       simp only [go_sem]
       refine thenQ_normal hQ12 ?_
       refine ⟨(m_3, IntKind.i64.wrap (t106_1 + 1), v_36), [some 0], ?_, h, Nat.lt_succ_self _⟩
       simp only [go_sem, Le]
     ·
      replace h := if_f h hb_22
      simp only [bool_to_prop] at hb_22
      refine vc_exit_of ?_
      refine seqQ_exit hQ14 ?_
      refine thenQ_exit hQ12 ?_
      refine blockQ_exit hQ11 ?_
      refine seqQ_normal hQ9 ?_
      refine sg fun QQ21 hQ21 => ?_
      simp only [go_sem]
      refine seqQ_normal hQ21 ?_
      refine vc_ret_of ?_
      simp only [go_sem]
      obtain rfl := Option.some.inj h
      refine retW_pure rfl ?_
      simp only [go_sem, Le]

def f_text_num (nv_0 : Int) : Option (List UInt8) :=
 bindO (f_strconv_FormatInt nv_0 10) (fun (v_0 : List UInt8) =>
 some v_0)
theorem f_text_num_ok (nv_0 : Int)  (r : List UInt8) (h : f_text_num nv_0 = some r) : PureS Tryz.prog 16 [.v (.int .i64 nv_0)] 0 (.v (.string ⟨⟨r⟩⟩)) := by
 unfold PureS
 refine Spec.of_vc Tryz.func16 rfl (by kernel_rfl) (by kernel_rfl) ?_
 rw [f_text_num] at h
 refine sg fun QQ1 hQ1 => ?_
 simp only [go_sem]
 refine seqQ_normal hQ1 ?_
 refine sg fun QQ2 hQ2 => ?_
 obtain ⟨v_0, ev_0, h⟩ := bindO_some h
 simp only [go_sem]
 refine call0 (f_strconv_FormatInt_ok nv_0 10 v_0 ev_0) (by rfl) (by rfl) ?_
 simp only [go_sem]
 refine seqQ_normal hQ2 ?_
 refine vc_ret_of ?_
 simp only [go_sem]
 obtain rfl := Option.some.inj h
 refine retW_pure rfl ?_
 simp only [go_sem, Le]

def lay18051_ren : Go.Shelf.Ren := ⟨fun | 169 => 18 | n => n, fun | 70 => 47 | 9 => 9 | 0 => 0 | 72 => 49 | 37 => 36 | 127 => 82 | 3 => 3 | 5 => 5 | n => n, fun | n => n⟩
theorem lay18051 : Go.Proofs.Lays.n169 Tryz.prog lay18051_ren := {
 mixed := by kernel_rfl
 f169 := Tryz.func18.trans (congrArg some (by kernel_rfl))
 t0 := Tryz.underlying0
 a0 := Tryz.isAgg0
 z0 := Tryz.sizeOf0
 v0 := Tryz.zeroValue0
 t3 := Tryz.underlying3
 a3 := Tryz.isAgg3
 z3 := Tryz.sizeOf3
 v3 := Tryz.zeroValue3
 t9 := Tryz.underlying9
 a9 := Tryz.isAgg9
 z9 := Tryz.sizeOf9
 v9 := Tryz.zeroValue9
 t37 := Tryz.underlying36
 a37 := Tryz.isAgg36
 z37 := Tryz.sizeOf36
 v37 := Tryz.zeroValue36
 t70 := Tryz.underlying47
 a70 := Tryz.isAgg47
 z70 := Tryz.sizeOf47
 v70 := Tryz.zeroValue47
 t72 := Tryz.underlying49
 a72 := Tryz.isAgg49
 z72 := Tryz.sizeOf49
 v72 := Tryz.zeroValue49
 t127 := Tryz.underlying82
 a127 := Tryz.isAgg82
 z127 := Tryz.sizeOf82
 v127 := Tryz.zeroValue82 }
theorem f_strings_Builder_String_T51_p0_X : Go.Proofs.Builder.Extra Tryz.prog lay18051_ren := { sizeBuilder := by kernel_rfl, liesBuilder := by kernel_rfl, t5 := by kernel_rfl, a5 := Tryz.isAgg5, z5 := Tryz.sizeOf5, v5 := Tryz.zeroValue5, infoByte := by kernel_rfl, cellsByte := by kernel_rfl, sizeByte := by kernel_rfl, neB5 := by decide }
def f_strings_Builder_String_T51_p0 (b_0 : List UInt8 × Bool) : Option (List UInt8) := bstringF b_0.1
theorem f_strings_Builder_String_T51_p0_det (b_0 : List UInt8 × Bool) (r : List UInt8) (h : f_strings_Builder_String_T51_p0 b_0 = some r) : DetS Tryz.prog 18 [.ptr 0 0] [(0, .con (bldK 51 5 b_0.1) [.v (.bool b_0.2)])] 1 (.v (.string ⟨⟨r⟩⟩)) [] 1 :=
 bstring_det lay18051 f_strings_Builder_String_T51_p0_X (by kernel_rfl) h

def f_text_Show_J3 (b_28 : Bool) (b_29 : List UInt8) : Option ((List UInt8) × Int) :=
 (if b_28 = true then some (([] : List UInt8), 1)
 else bindO (f_strings_Builder_String_T51_p0 ((b_29 : List UInt8), b_28)) (fun (v_73 : List UInt8) =>
 some (v_73, 0)))
def f_text_Show_J5 (t93_3 : Int) (b_32 : Bool) (b_33 : List UInt8) (rec_4 : (Int × Bool × (List UInt8) → Option ((List UInt8) × Int))) (xv_23 : GEdge) (way_5 : List UInt8) : Option ((List UInt8) × Int) :=
 bindO (f_strconv_Itoa xv_23.From) (fun (v_82 : List UInt8) =>
 bindO (f_strconv_Itoa xv_23.To) (fun (v_83 : List UInt8) =>
 bindO (f_strconv_Itoa xv_23.Port) (fun (v_84 : List UInt8) =>
 bindO (f_text_shower_say_p0 ((b_33 : List UInt8), b_32) ([(⟨[101, 100, 103, 101]⟩ : GStr), (⟨v_82⟩ : GStr), (⟨v_83⟩ : GStr), (⟨v_84⟩ : GStr), (⟨way_5⟩ : GStr)] : List GStr)) (fun (v_85 : List UInt8 × Bool) =>
 rec_4 (IntKind.i64.wrap (t93_3 + 1), v_85.2, v_85.1)))))
def f_text_Show_B4 (g_0 : GGraph) (rec_4 : Int × Bool × (List UInt8) → Option ((List UInt8) × Int)) : Int × Bool × (List UInt8) → Option ((List UInt8) × Int) :=
 fun (t93_3, b_32, b_33) =>
 (if (decide (t93_3 < (List.length g_0.Edges : Int))) = true then bindO (idx g_0.Edges t93_3) (fun (xv_23 : GEdge) =>
 (if xv_23.Exchange = true then f_text_Show_J5 t93_3 b_32 b_33 rec_4 xv_23 ([107, 101, 121])
 else f_text_Show_J5 t93_3 b_32 b_33 rec_4 xv_23 ([112, 105, 112, 101])))
 else f_text_Show_J3 b_32 b_33)
def f_text_Show_J2 (g_0 : GGraph) (b_22 : Bool) (b_23 : List UInt8) : Option ((List UInt8) × Int) :=
 loopK (f_text_Show_B4 g_0) rounds (0, b_22, b_23)
def f_text_Show_B7 (t52_3 : Int) (rec_6 : (Int × Bool × (List UInt8) → Option ((List UInt8) × Int))) (xv_32 : GNode) (rec_7 : Int × Bool × (List UInt8) → Option ((List UInt8) × Int)) : Int × Bool × (List UInt8) → Option ((List UInt8) × Int) :=
 fun (t73_11, b_48, b_49) =>
 (if (decide (t73_11 < (List.length xv_32.Prog : Int))) = true then bindO (idx xv_32.Prog t73_11) (fun (xv_35 : GIns) =>
 bindO (f_text_codes) (fun (v_133 : List GStr) =>
 bindO (f_text_shower_name_p0 ((b_49 : List UInt8), b_48) v_133 xv_35.Op) (fun (v_134 : (List UInt8) × (List UInt8 × Bool)) =>
 bindO (f_text_num xv_35.N) (fun (v_135 : List UInt8) =>
 bindO (f_text_shower_say_p0 ((v_134.2.1 : List UInt8), v_134.2.2) ([(⟨[105, 110, 115]⟩ : GStr), (⟨v_134.1⟩ : GStr), (⟨v_135⟩ : GStr)] : List GStr)) (fun (v_136 : List UInt8 × Bool) =>
 rec_7 (IntKind.i64.wrap (t73_11 + 1), v_136.2, v_136.1))))))
 else rec_6 (IntKind.i64.wrap (t52_3 + 1), b_48, b_49))
def f_text_Show_B6 (g_0 : GGraph) (rec_6 : Int × Bool × (List UInt8) → Option ((List UInt8) × Int)) : Int × Bool × (List UInt8) → Option ((List UInt8) × Int) :=
 fun (t52_3, b_44, b_45) =>
 (if (decide (t52_3 < (List.length g_0.Nodes : Int))) = true then bindO (idx g_0.Nodes t52_3) (fun (xv_32 : GNode) =>
 bindO (f_text_kinds) (fun (v_120 : List GStr) =>
 bindO (f_text_shower_name_p0 ((b_45 : List UInt8), b_44) v_120 xv_32.Kind) (fun (v_121 : (List UInt8) × (List UInt8 × Bool)) =>
 bindO (f_strconv_Itoa xv_32.Scope) (fun (v_122 : List UInt8) =>
 bindO (f_text_num xv_32.Arg) (fun (v_123 : List UInt8) =>
 bindO (f_text_shower_say_p0 ((v_121.2.1 : List UInt8), v_121.2.2) ([(⟨[110, 111, 100, 101]⟩ : GStr), (⟨v_121.1⟩ : GStr), (⟨v_122⟩ : GStr), (⟨v_123⟩ : GStr)] : List GStr)) (fun (v_124 : List UInt8 × Bool) =>
 loopK (f_text_Show_B7 t52_3 rec_6 xv_32) rounds (0, v_124.2, v_124.1)))))))
 else f_text_Show_J2 g_0 b_44 b_45)
def f_text_Show_J1 (g_0 : GGraph) (b_4 : Bool) (b_5 : List UInt8) : Option ((List UInt8) × Int) :=
 loopK (f_text_Show_B6 g_0) rounds (0, b_4, b_5)
def f_text_Show_B8 (g_0 : GGraph) (rec_8 : Int × Bool × (List UInt8) → Option ((List UInt8) × Int)) : Int × Bool × (List UInt8) → Option ((List UInt8) × Int) :=
 fun (t28_3, b_52, b_53) =>
 (if (decide (t28_3 < (List.length (List.drop (Int.toNat 1) (List.take (List.length g_0.Parent) g_0.Parent)) : Int))) = true then bindO (idx g_0.Parent (IntKind.i64.wrap (1 + t28_3))) (fun (xv_40 : Int) =>
 bindO (f_strconv_Itoa xv_40) (fun (v_143 : List UInt8) =>
 bindO (idx g_0.Bound (IntKind.i64.wrap (1 + t28_3))) (fun (xv_41 : Int) =>
 bindO (f_strconv_Itoa xv_41) (fun (v_144 : List UInt8) =>
 bindO (f_text_shower_say_p0 ((b_53 : List UInt8), b_52) ([(⟨[115, 99, 111, 112, 101]⟩ : GStr), (⟨v_143⟩ : GStr), (⟨v_144⟩ : GStr)] : List GStr)) (fun (v_145 : List UInt8 × Bool) =>
 rec_8 (IntKind.i64.wrap (t28_3 + 1), v_145.2, v_145.1))))))
 else f_text_Show_J1 g_0 b_52 b_53)
def f_text_Show (g_0 : GGraph) : Option ((List UInt8) × Int) :=
 bindO (f_graph_Put g_0) (fun (v_0 : (List UInt8) × Int) =>
 (if (!(v_0.2 == 0)) = true then some (([] : List UInt8), 1)
 else guardO (0 ≤ 1 ∧ 1 ≤ (List.length g_0.Parent : Int) ∧ (List.length g_0.Parent : Int) ≤ (List.length g_0.Parent : Int)) (
 loopK (f_text_Show_B8 g_0) rounds (0, false, []))))
theorem f_text_Show_ok (g_0 : GGraph)  (r : (List UInt8) × Int) (h : f_text_Show g_0 = some r) : PureS Tryz.prog 7 [.agg [.sl 1 (enc g_0.Parent), .sl 1 (enc g_0.Bound), .sl 4 (enc g_0.Nodes), .sl 4 (enc g_0.Edges)]] 0 (.tup [.v (.string ⟨⟨r.1⟩⟩), .v (.int .i64 r.2)]) := by
 unfold PureS
 refine Spec.of_vc Tryz.func7 rfl (by kernel_rfl) (by kernel_rfl) ?_
 rw [f_text_Show] at h
 refine sg fun QQ1 hQ1 => ?_
 simp only [go_sem]
 refine seqQ_normal hQ1 ?_
 refine sg fun QQ2 hQ2 => ?_
 refine sg fun QQ3 hQ3 => ?_
 obtain ⟨v_0, ev_0, h⟩ := bindO_some h
 simp only [go_sem]
 refine call0 (f_graph_Put_ok g_0 v_0 ev_0) (by rfl) (by rfl) ?_
 simp only [go_sem]
 refine seqQ_normal hQ3 ?_
 refine sg fun QQ4 hQ4 => ?_
 simp only [go_sem]
 refine seqQ_normal hQ4 ?_
 refine vc_cond_of (b := (!(v_0.2 == 0))) (by (simp only [go_sem]; done)) (fun hb_0 => ?_) (fun hb_0 => ?_)
 ·
  replace h := if_t h hb_0
  simp only [bool_to_prop] at hb_0
  refine sg fun QQ5 hQ5 => ?_
  simp only [go_sem]
  refine seqQ_normal hQ5 ?_
  refine vc_ret_of ?_
  refine seqQ_ret hQ2 ?_
  simp only [go_sem]
  obtain rfl := Option.some.inj h
  refine retW_pure rfl ?_
  simp only [go_sem, Le]
 ·
  replace h := if_f h hb_0
  simp only [bool_to_prop] at hb_0
  refine vc_skip_of ?_
  refine seqQ_normal hQ2 ?_
  refine sg fun QQ6 hQ6 => ?_
  simp only [go_sem]
  refine seqQ_normal hQ6 ?_
  refine vc_join (by kernel_rfl) ?_
  refine seq_cut_gen (ι := Bool × (List UInt8)) (fun ((b_4, b_5) : Bool × (List UInt8)) => (⟨0, [(1, .ptr 0 0), (6, .ptr 1 0)], [(0, .box [.sl 1 (enc g_0.Parent), .sl 1 (enc g_0.Bound), .sl 4 (enc g_0.Nodes), .sl 4 (enc g_0.Edges)]), (1, .con (bldK 51 5 b_5) [.v (.bool b_4)])], 2, 121⟩ : St)) (fun ((b_4, b_5) : Bool × (List UInt8)) => f_text_Show_J1 g_0 b_4 b_5 = some r) ?_ ?_ --K[1,6];[0]
  ·
   intro QQ41 hQ41
   refine sg fun QQ42 hQ42 => ?_
   obtain ⟨g_2, h⟩ := guardO_some h
   simp only [go_sem, g_2]
   refine seqQ_normal hQ42 ?_
   refine vc_block_gen ?_
   intro QQ43 hQ43
   refine vc_loop_of ?_
   refine loop_gen (ι := Nat × Int × Bool × (List UInt8)) (fun ((_, t28_3, b_52, b_53) : Nat × Int × Bool × (List UInt8)) => (⟨0, [(1, .ptr 0 0), (6, .ptr 1 0), (27, .v (.int .i64 (List.length (List.drop (Int.toNat 1) (List.take (List.length g_0.Parent) g_0.Parent)) : Int))), (28, .v (.int .i64 t28_3))], [(0, .box [.sl 1 (enc g_0.Parent), .sl 1 (enc g_0.Bound), .sl 4 (enc g_0.Nodes), .sl 4 (enc g_0.Edges)]), (1, .con (bldK 51 5 b_53) [.v (.bool b_52)])], 2, 121⟩ : St)) (fun ((n_, t28_3, b_52, b_53) : Nat × Int × Bool × (List UInt8)) => loopK (f_text_Show_B8 g_0) n_ (t28_3, b_52, b_53) = some r) (fun p => p.1) (rounds, 0, false, []) [some 0, some 1] ?_ h ?_ --K[1,6,27];[0]
   · simp only [go_sem, Le] <;> (repeat' apply And.intro) <;> first | ((try with_reducible refine TL_eq ?_); omega) | ((try with_reducible refine TL_eq ?_); (simp [go_sem]; done)) | ((try with_reducible refine TL_eq ?_); (exact .inr ⟨_, _, _, rfl, rfl, rfl, by simp only [go_sem]⟩))
   ·
    rintro ⟨n_8, t28_3, b_52, b_53⟩ h QQ44 hQ44
    dsimp only at h
    replace h := loopK_some h
    obtain ⟨m_8, rfl, h⟩ := h
    rw [f_text_Show_B8] at h
    refine sg fun QQ45 hQ45 => ?_
    simp only [go_sem]
    refine seqQ_normal hQ45 ?_
    refine sg fun QQ46 hQ46 => ?_
    refine vc_cond_of (b := (decide (t28_3 < (List.length (List.drop (Int.toNat 1) (List.take (List.length g_0.Parent) g_0.Parent)) : Int)))) (by (simp only [go_sem]; done)) (fun hb_49 => ?_) (fun hb_49 => ?_)
    ·
     replace h := if_t h hb_49
     simp only [bool_to_prop] at hb_49
     refine vc_skip_of ?_
     refine seqQ_normal hQ46 ?_
     refine sg fun QQ47 hQ47 => ?_
     refine vc_block_gen ?_
     intro QQ48 hQ48
     refine sg fun QQ49 hQ49 => ?_
     simp only [go_sem]
     refine seqQ_normal hQ49 ?_
     refine vc_draw ?_
     refine drawM_tail 16 [0, 0, 2, 0, 8, 30, 62, 126, 0, 256, 0, 1024, 3840, 7936, 16382, 32766, 65535] mixed (by kernel_rfl) (of_decide_eq_true (by kernel_rfl)) (by kernel_rfl) ?_
     obtain ⟨xv_40, exv_40, h⟩ := bindO_some h
     obtain ⟨fxv_40a, fxv_40b, fxv_40c⟩ := idx_spec exv_40
     obtain ⟨v_143, ev_143, h⟩ := bindO_some h
     simp only [go_sem, fxv_40a, fxv_40b, fxv_40c]
     refine And.intro (by omega) ?_
     refine callq (fun _ => (f_strconv_Itoa_ok xv_40 v_143 ev_143)) (by rfl) (by rfl) ?_
     obtain ⟨xv_41, exv_41, h⟩ := bindO_some h
     obtain ⟨fxv_41a, fxv_41b, fxv_41c⟩ := idx_spec exv_41
     obtain ⟨v_144, ev_144, h⟩ := bindO_some h
     simp only [go_sem, fxv_41a, fxv_41b, fxv_41c]
     refine And.intro (by omega) ?_
     refine callq (fun _ => (f_strconv_Itoa_ok xv_41 v_144 ev_144)) (by rfl) (by rfl) ?_
     have rf_35 : [[.v (.string ⟨⟨[115, 99, 111, 112, 101]⟩⟩)], [.v (.string ⟨⟨v_143⟩⟩)], [.v (.string ⟨⟨v_144⟩⟩)]] = enc ([(⟨[115, 99, 111, 112, 101]⟩ : GStr), (⟨v_143⟩ : GStr), (⟨v_144⟩ : GStr)] : List GStr) := by rfl
     obtain ⟨v_145, ev_145, h⟩ := bindO_some h
     simp only [go_sem]
     simp only [rf_35]
     refine callD [1] (f_text_shower_say_p0_det ((b_53 : List UInt8), b_52) ([(⟨[115, 99, 111, 112, 101]⟩ : GStr), (⟨v_143⟩ : GStr), (⟨v_144⟩ : GStr)] : List GStr) v_145 ev_145) (by simp) rfl ⟨rfl, trivial⟩ rfl rfl rfl rfl ?_
     simp only [go_sem]
     refine blockQ_normal hQ48 ?_
     refine seqQ_normal hQ47 ?_
     simp only [go_sem]
     refine thenQ_normal hQ44 ?_
     refine ⟨(m_8, IntKind.i64.wrap (t28_3 + 1), v_145.2, v_145.1), [some 0, some 1], ?_, h, Nat.lt_succ_self _⟩
     simp only [go_sem, Le] <;> (repeat' apply And.intro) <;> first | ((try with_reducible refine TL_eq ?_); omega) | ((try with_reducible refine TL_eq ?_); (simp [go_sem]; done))
    ·
     replace h := if_f h hb_49
     simp only [bool_to_prop] at hb_49
     refine vc_exit_of ?_
     refine seqQ_exit hQ46 ?_
     refine thenQ_exit hQ44 ?_
     refine blockQ_exit hQ43 ?_
     refine thenQ_normal hQ41 ?_
     refine ⟨(b_52, b_53), [some 0, some 1], ?_, h⟩
     simp only [go_sem, Le] <;> (repeat' apply And.intro) <;> first | ((try with_reducible refine TL_eq ?_); omega) | ((try with_reducible refine TL_eq ?_); (simp [go_sem]; done))
  ·
   rintro ⟨b_4, b_5⟩ h
   try dsimp only at h
   rw [f_text_Show_J1] at h
   refine vc_join (by kernel_rfl) ?_
   refine seq_cut_gen (ι := Bool × (List UInt8)) (fun ((b_22, b_23) : Bool × (List UInt8)) => (⟨0, [(1, .ptr 0 0), (6, .ptr 1 0)], [(0, .box [.sl 1 (enc g_0.Parent), .sl 1 (enc g_0.Bound), .sl 4 (enc g_0.Nodes), .sl 4 (enc g_0.Edges)]), (1, .con (bldK 51 5 b_23) [.v (.bool b_22)])], 2, 121⟩ : St)) (fun ((b_22, b_23) : Bool × (List UInt8)) => f_text_Show_J2 g_0 b_22 b_23 = some r) ?_ ?_ --K[1,6];[0]
   ·
    intro QQ23 hQ23
    refine sg fun QQ24 hQ24 => ?_
    simp only [go_sem]
    refine seqQ_normal hQ24 ?_
    refine vc_block_gen ?_
    intro QQ25 hQ25
    refine vc_loop_of ?_
    refine loop_gen (ι := Nat × Int × Bool × (List UInt8)) (fun ((_, t52_3, b_44, b_45) : Nat × Int × Bool × (List UInt8)) => (⟨0, [(1, .ptr 0 0), (6, .ptr 1 0), (50, .sl 4 (enc g_0.Nodes)), (51, .v (.int .i64 (List.length g_0.Nodes : Int))), (52, .v (.int .i64 t52_3))], [(0, .box [.sl 1 (enc g_0.Parent), .sl 1 (enc g_0.Bound), .sl 4 (enc g_0.Nodes), .sl 4 (enc g_0.Edges)]), (1, .con (bldK 51 5 b_45) [.v (.bool b_44)])], 2, 121⟩ : St)) (fun ((n_, t52_3, b_44, b_45) : Nat × Int × Bool × (List UInt8)) => loopK (f_text_Show_B6 g_0) n_ (t52_3, b_44, b_45) = some r) (fun p => p.1) (rounds, 0, b_4, b_5) [some 0, some 1] ?_ h ?_ --K[1,6,50,51];[0]
    · simp only [go_sem, Le] <;> (repeat' apply And.intro) <;> first | ((try with_reducible refine TL_eq ?_); omega) | ((try with_reducible refine TL_eq ?_); (simp [go_sem]; done))
    ·
     rintro ⟨n_6, t52_3, b_44, b_45⟩ h QQ26 hQ26
     dsimp only at h
     replace h := loopK_some h
     obtain ⟨m_6, rfl, h⟩ := h
     rw [f_text_Show_B6] at h
     refine sg fun QQ27 hQ27 => ?_
     simp only [go_sem]
     refine seqQ_normal hQ27 ?_
     refine sg fun QQ28 hQ28 => ?_
     refine vc_cond_of (b := (decide (t52_3 < (List.length g_0.Nodes : Int)))) (by (simp only [go_sem]; done)) (fun hb_43 => ?_) (fun hb_43 => ?_)
     ·
      replace h := if_t h hb_43
      simp only [bool_to_prop] at hb_43
      refine vc_skip_of ?_
      refine seqQ_normal hQ28 ?_
      refine vc_join (by kernel_rfl) ?_
      refine seq_go_gen ?_
      intro QQ29 hQ29
      refine vc_block_gen ?_
      intro QQ30 hQ30
      refine sg fun QQ31 hQ31 => ?_
      obtain ⟨xv_32, exv_32, h⟩ := bindO_some h
      obtain ⟨fxv_32a, fxv_32b, fxv_32c⟩ := idx_spec exv_32
      simp only [go_sem, fxv_32a, fxv_32b, fxv_32c]
      refine And.intro (by omega) ?_
      refine seqQ_normal hQ31 ?_
      refine sg fun QQ32 hQ32 => ?_
      refine vc_draw ?_
      refine drawV_all 13 0 0 [0, 0, 0, 0, 8, 30, 0, 64, 254, 0, 512, 2046, 4094, 8191] [1] [0, 6, 7, 9, 10] [] [5] [] mixed (by kernel_rfl) (of_decide_eq_true (by kernel_rfl)) (by kernel_rfl) (by kernel_rfl) (by rfl) ?_
      obtain ⟨v_120, ev_120, h⟩ := bindO_some h
      simp only [go_sem]
      refine callq (fun _ => (f_text_kinds_ok v_120 ev_120)) (by rfl) (by rfl) ?_
      obtain ⟨v_121, ev_121, h⟩ := bindO_some h
      simp only [go_sem]
      refine callE_det [1] (f_text_shower_name_p0_det ((b_45 : List UInt8), b_44) v_120 xv_32.Kind v_121 ev_121) rfl ⟨rfl, trivial⟩ rfl rfl rfl rfl ?_
      obtain ⟨v_122, ev_122, h⟩ := bindO_some h
      simp only [go_sem]
      refine callq (fun _ => (f_strconv_Itoa_ok xv_32.Scope v_122 ev_122)) (by rfl) (by rfl) ?_
      obtain ⟨v_123, ev_123, h⟩ := bindO_some h
      simp only [go_sem]
      refine callq (fun _ => (f_text_num_ok xv_32.Arg v_123 ev_123)) (by rfl) (by rfl) ?_
      have rf_29 : [[.v (.string ⟨⟨[110, 111, 100, 101]⟩⟩)], [.v (.string ⟨⟨v_121.1⟩⟩)], [.v (.string ⟨⟨v_122⟩⟩)], [.v (.string ⟨⟨v_123⟩⟩)]] = enc ([(⟨[110, 111, 100, 101]⟩ : GStr), (⟨v_121.1⟩ : GStr), (⟨v_122⟩ : GStr), (⟨v_123⟩ : GStr)] : List GStr) := by rfl
      obtain ⟨v_124, ev_124, h⟩ := bindO_some h
      simp only [go_sem]
      simp only [rf_29]
      refine callD [1] (f_text_shower_say_p0_det ((v_121.2.1 : List UInt8), v_121.2.2) ([(⟨[110, 111, 100, 101]⟩ : GStr), (⟨v_121.1⟩ : GStr), (⟨v_122⟩ : GStr), (⟨v_123⟩ : GStr)] : List GStr) v_124 ev_124) (by simp) rfl ⟨rfl, trivial⟩ rfl rfl rfl rfl ?_
      simp only [go_sem]
      refine seqQ_normal hQ32 ?_
      refine sg fun QQ33 hQ33 => ?_
      simp only [go_sem]
      refine seqQ_normal hQ33 ?_
      refine vc_block_gen ?_
      intro QQ34 hQ34
      refine vc_loop_of ?_
      refine loop_gen (ι := Nat × Int × Bool × (List UInt8)) (fun ((_, t73_11, b_48, b_49) : Nat × Int × Bool × (List UInt8)) => (⟨0, [(1, .ptr 0 0), (6, .ptr 1 0), (50, .sl 4 (enc g_0.Nodes)), (51, .v (.int .i64 (List.length g_0.Nodes : Int))), (52, .v (.int .i64 t52_3)), (71, .sl 2 (enc xv_32.Prog)), (72, .v (.int .i64 (List.length xv_32.Prog : Int))), (73, .v (.int .i64 t73_11))], [(0, .box [.sl 1 (enc g_0.Parent), .sl 1 (enc g_0.Bound), .sl 4 (enc g_0.Nodes), .sl 4 (enc g_0.Edges)]), (1, .con (bldK 51 5 b_49) [.v (.bool b_48)])], 2, 121⟩ : St)) (fun ((n_, t73_11, b_48, b_49) : Nat × Int × Bool × (List UInt8)) => loopK (f_text_Show_B7 t52_3 (loopK (f_text_Show_B6 g_0) m_6) xv_32) n_ (t73_11, b_48, b_49) = some r) (fun p => p.1) (rounds, 0, v_124.2, v_124.1) [some 0, some 1] ?_ h ?_ --K[1,6,50,51,52,71,72];[0]
      · simp only [go_sem, Le] <;> (repeat' apply And.intro) <;> first | ((try with_reducible refine TL_eq ?_); omega) | ((try with_reducible refine TL_eq ?_); (simp [go_sem]; done))
      ·
       rintro ⟨n_7, t73_11, b_48, b_49⟩ h QQ35 hQ35
       dsimp only at h
       replace h := loopK_some h
       obtain ⟨m_7, rfl, h⟩ := h
       rw [f_text_Show_B7] at h
       refine sg fun QQ36 hQ36 => ?_
       simp only [go_sem]
       refine seqQ_normal hQ36 ?_
       refine sg fun QQ37 hQ37 => ?_
       refine vc_cond_of (b := (decide (t73_11 < (List.length xv_32.Prog : Int)))) (by (simp only [go_sem]; done)) (fun hb_46 => ?_) (fun hb_46 => ?_)
       ·
        replace h := if_t h hb_46
        simp only [bool_to_prop] at hb_46
        refine vc_skip_of ?_
        refine seqQ_normal hQ37 ?_
        refine sg fun QQ38 hQ38 => ?_
        refine vc_block_gen ?_
        intro QQ39 hQ39
        refine sg fun QQ40 hQ40 => ?_
        obtain ⟨xv_35, exv_35, h⟩ := bindO_some h
        obtain ⟨fxv_35a, fxv_35b, fxv_35c⟩ := idx_spec exv_35
        simp only [go_sem, fxv_35a, fxv_35b, fxv_35c]
        refine And.intro (by omega) ?_
        refine seqQ_normal hQ40 ?_
        refine vc_draw ?_
        refine drawV_all 10 0 0 [0, 0, 0, 0, 8, 30, 0, 64, 254, 510, 1023] [1] [0, 6, 7] [] [5] [] mixed (by kernel_rfl) (of_decide_eq_true (by kernel_rfl)) (by kernel_rfl) (by kernel_rfl) (by rfl) ?_
        obtain ⟨v_133, ev_133, h⟩ := bindO_some h
        simp only [go_sem]
        refine callq (fun _ => (f_text_codes_ok v_133 ev_133)) (by rfl) (by rfl) ?_
        obtain ⟨v_134, ev_134, h⟩ := bindO_some h
        simp only [go_sem]
        refine callE_det [1] (f_text_shower_name_p0_det ((b_49 : List UInt8), b_48) v_133 xv_35.Op v_134 ev_134) rfl ⟨rfl, trivial⟩ rfl rfl rfl rfl ?_
        obtain ⟨v_135, ev_135, h⟩ := bindO_some h
        simp only [go_sem]
        refine callq (fun _ => (f_text_num_ok xv_35.N v_135 ev_135)) (by rfl) (by rfl) ?_
        have rf_32 : [[.v (.string ⟨⟨[105, 110, 115]⟩⟩)], [.v (.string ⟨⟨v_134.1⟩⟩)], [.v (.string ⟨⟨v_135⟩⟩)]] = enc ([(⟨[105, 110, 115]⟩ : GStr), (⟨v_134.1⟩ : GStr), (⟨v_135⟩ : GStr)] : List GStr) := by rfl
        obtain ⟨v_136, ev_136, h⟩ := bindO_some h
        simp only [go_sem]
        simp only [rf_32]
        refine callD [1] (f_text_shower_say_p0_det ((v_134.2.1 : List UInt8), v_134.2.2) ([(⟨[105, 110, 115]⟩ : GStr), (⟨v_134.1⟩ : GStr), (⟨v_135⟩ : GStr)] : List GStr) v_136 ev_136) (by simp) rfl ⟨rfl, trivial⟩ rfl rfl rfl rfl ?_
        simp only [go_sem]
        refine blockQ_normal hQ39 ?_
        refine seqQ_normal hQ38 ?_
        simp only [go_sem]
        refine thenQ_normal hQ35 ?_
        refine ⟨(m_7, IntKind.i64.wrap (t73_11 + 1), v_136.2, v_136.1), [some 0, some 1], ?_, h, Nat.lt_succ_self _⟩
        simp only [go_sem, Le] <;> (repeat' apply And.intro) <;> first | ((try with_reducible refine TL_eq ?_); omega) | ((try with_reducible refine TL_eq ?_); (simp [go_sem]; done))
       ·
        replace h := if_f h hb_46
        simp only [bool_to_prop] at hb_46
        refine vc_exit_of ?_
        refine seqQ_exit hQ37 ?_
        refine thenQ_exit hQ35 ?_
        refine blockQ_exit hQ34 ?_
        refine blockQ_normal hQ30 ?_
        refine seqQ_normal hQ29 ?_
        simp only [go_sem]
        refine thenQ_normal hQ26 ?_
        refine ⟨(m_6, IntKind.i64.wrap (t52_3 + 1), b_48, b_49), [some 0, some 1], ?_, h, Nat.lt_succ_self _⟩
        simp only [go_sem, Le] <;> (repeat' apply And.intro) <;> first | ((try with_reducible refine TL_eq ?_); omega) | ((try with_reducible refine TL_eq ?_); (simp [go_sem]; done))
     ·
      replace h := if_f h hb_43
      simp only [bool_to_prop] at hb_43
      refine vc_exit_of ?_
      refine seqQ_exit hQ28 ?_
      refine thenQ_exit hQ26 ?_
      refine blockQ_exit hQ25 ?_
      refine thenQ_normal hQ23 ?_
      refine ⟨(b_44, b_45), [some 0, some 1], ?_, h⟩
      simp only [go_sem, Le] <;> (repeat' apply And.intro) <;> first | ((try with_reducible refine TL_eq ?_); omega) | ((try with_reducible refine TL_eq ?_); (simp [go_sem]; done))
   ·
    rintro ⟨b_22, b_23⟩ h
    try dsimp only at h
    rw [f_text_Show_J2] at h
    refine vc_join (by kernel_rfl) ?_
    refine seq_cut_gen (ι := Bool × (List UInt8)) (fun ((b_28, b_29) : Bool × (List UInt8)) => (⟨0, [(6, .ptr 0 0)], [(0, .con (bldK 51 5 b_29) [.v (.bool b_28)])], 1, 121⟩ : St)) (fun ((b_28, b_29) : Bool × (List UInt8)) => f_text_Show_J3 b_28 b_29 = some r) ?_ ?_ --K[];[]
    ·
     intro QQ11 hQ11
     refine sg fun QQ12 hQ12 => ?_
     simp only [go_sem]
     refine seqQ_normal hQ12 ?_
     refine vc_block_gen ?_
     intro QQ13 hQ13
     refine vc_loop_of ?_
     refine loop_gen (ι := Nat × Int × Bool × (List UInt8)) (fun ((_, t93_3, b_32, b_33) : Nat × Int × Bool × (List UInt8)) => (⟨0, [(6, .ptr 0 0), (91, .sl 4 (enc g_0.Edges)), (92, .v (.int .i64 (List.length g_0.Edges : Int))), (93, .v (.int .i64 t93_3))], [(0, .con (bldK 51 5 b_33) [.v (.bool b_32)])], 1, 121⟩ : St)) (fun ((n_, t93_3, b_32, b_33) : Nat × Int × Bool × (List UInt8)) => loopK (f_text_Show_B4 g_0) n_ (t93_3, b_32, b_33) = some r) (fun p => p.1) (rounds, 0, b_22, b_23) [some 1] ?_ h ?_ --K[91,92];[]
     · simp only [go_sem, Le]
     ·
      rintro ⟨n_4, t93_3, b_32, b_33⟩ h QQ14 hQ14
      dsimp only at h
      replace h := loopK_some h
      obtain ⟨m_4, rfl, h⟩ := h
      rw [f_text_Show_B4] at h
      refine sg fun QQ15 hQ15 => ?_
      simp only [go_sem]
      refine seqQ_normal hQ15 ?_
      refine sg fun QQ16 hQ16 => ?_
      refine vc_cond_of (b := (decide (t93_3 < (List.length g_0.Edges : Int)))) (by (simp only [go_sem]; done)) (fun hb_32 => ?_) (fun hb_32 => ?_)
      ·
       replace h := if_t h hb_32
       simp only [bool_to_prop] at hb_32
       refine vc_skip_of ?_
       refine seqQ_normal hQ16 ?_
       refine vc_join (by kernel_rfl) ?_
       refine seq_go_gen ?_
       intro QQ17 hQ17
       refine vc_block_gen ?_
       intro QQ18 hQ18
       refine sg fun QQ19 hQ19 => ?_
       obtain ⟨xv_23, exv_23, h⟩ := bindO_some h
       obtain ⟨fxv_23a, fxv_23b, fxv_23c⟩ := idx_spec exv_23
       simp only [go_sem, fxv_23a, fxv_23b, fxv_23c]
       refine And.intro (by omega) ?_
       refine seqQ_normal hQ19 ?_
       refine sg fun QQ20 hQ20 => ?_
       simp only [go_sem]
       refine seqQ_normal hQ20 ?_
       refine vc_join (by kernel_rfl) ?_
       refine seq_cut_gen (ι := (List UInt8)) (fun (way_5 : (List UInt8)) => (⟨0, [(6, .ptr 0 0), (13, .ptr 1 0), (14, .v (.string ⟨⟨way_5⟩⟩)), (91, .sl 4 (enc g_0.Edges)), (92, .v (.int .i64 (List.length g_0.Edges : Int))), (93, .v (.int .i64 t93_3))], [(0, .con (bldK 51 5 b_33) [.v (.bool b_32)]), (1, .box [.v (.int .i64 xv_23.From), .v (.int .i64 xv_23.To), .v (.int .i64 xv_23.Port), .v (.bool xv_23.Exchange)])], 2, 121⟩ : St)) (fun (way_5 : (List UInt8)) => f_text_Show_J5 t93_3 b_32 b_33 (loopK (f_text_Show_B4 g_0) m_4) xv_23 way_5 = some r) ?_ ?_ --K[6,13,91,92,93];[0,1]
       ·
        intro QQ21 hQ21
        refine sg fun QQ22 hQ22 => ?_
        simp only [go_sem]
        refine seqQ_normal hQ22 ?_
        refine vc_cond_of (b := xv_23.Exchange) (by (simp only [go_sem]; done)) (fun hb_34 => ?_) (fun hb_34 => ?_)
        ·
         replace h := if_t h hb_34
         simp only [go_sem]
         refine thenQ_normal hQ21 ?_
         refine ⟨[107, 101, 121], [some 0, some 1], ?_, h⟩
         simp only [go_sem, Le] <;> (repeat' apply And.intro) <;> first | ((try with_reducible refine TL_eq ?_); omega) | ((try with_reducible refine TL_eq ?_); (simp [go_sem]; done))
        ·
         replace h := if_f h hb_34
         refine vc_skip_of ?_
         refine thenQ_normal hQ21 ?_
         refine ⟨[112, 105, 112, 101], [some 0, some 1], ?_, h⟩
         simp only [go_sem, Le] <;> (repeat' apply And.intro) <;> first | ((try with_reducible refine TL_eq ?_); omega) | ((try with_reducible refine TL_eq ?_); (simp [go_sem]; done))
       ·
        rintro way_5 h
        try dsimp only at h
        rw [f_text_Show_J5] at h
        refine vc_draw ?_
        refine drawM_tail 12 [0, 0, 2, 6, 0, 16, 62, 0, 128, 510, 0, 2046, 4095] mixed (by kernel_rfl) (of_decide_eq_true (by kernel_rfl)) (by kernel_rfl) ?_
        obtain ⟨v_82, ev_82, h⟩ := bindO_some h
        simp only [go_sem]
        refine callq (fun _ => (f_strconv_Itoa_ok xv_23.From v_82 ev_82)) (by rfl) (by rfl) ?_
        obtain ⟨v_83, ev_83, h⟩ := bindO_some h
        simp only [go_sem]
        refine callq (fun _ => (f_strconv_Itoa_ok xv_23.To v_83 ev_83)) (by rfl) (by rfl) ?_
        obtain ⟨v_84, ev_84, h⟩ := bindO_some h
        simp only [go_sem]
        refine callq (fun _ => (f_strconv_Itoa_ok xv_23.Port v_84 ev_84)) (by rfl) (by rfl) ?_
        have rf_20 : [[.v (.string ⟨⟨[101, 100, 103, 101]⟩⟩)], [.v (.string ⟨⟨v_82⟩⟩)], [.v (.string ⟨⟨v_83⟩⟩)], [.v (.string ⟨⟨v_84⟩⟩)], [.v (.string ⟨⟨way_5⟩⟩)]] = enc ([(⟨[101, 100, 103, 101]⟩ : GStr), (⟨v_82⟩ : GStr), (⟨v_83⟩ : GStr), (⟨v_84⟩ : GStr), (⟨way_5⟩ : GStr)] : List GStr) := by rfl
        obtain ⟨v_85, ev_85, h⟩ := bindO_some h
        simp only [go_sem]
        simp only [rf_20]
        refine callD [0] (f_text_shower_say_p0_det ((b_33 : List UInt8), b_32) ([(⟨[101, 100, 103, 101]⟩ : GStr), (⟨v_82⟩ : GStr), (⟨v_83⟩ : GStr), (⟨v_84⟩ : GStr), (⟨way_5⟩ : GStr)] : List GStr) v_85 ev_85) (by simp) rfl ⟨rfl, trivial⟩ rfl rfl rfl rfl ?_
        simp only [go_sem]
        refine blockQ_normal hQ18 ?_
        refine seqQ_normal hQ17 ?_
        simp only [go_sem]
        refine thenQ_normal hQ14 ?_
        refine ⟨(m_4, IntKind.i64.wrap (t93_3 + 1), v_85.2, v_85.1), [some 0], ?_, h, Nat.lt_succ_self _⟩
        simp only [go_sem, Le]
      ·
       replace h := if_f h hb_32
       simp only [bool_to_prop] at hb_32
       refine vc_exit_of ?_
       refine seqQ_exit hQ16 ?_
       refine thenQ_exit hQ14 ?_
       refine blockQ_exit hQ13 ?_
       refine thenQ_normal hQ11 ?_
       refine ⟨(b_32, b_33), [some 0], ?_, h⟩
       simp only [go_sem, Le]
    ·
     rintro ⟨b_28, b_29⟩ h
     try dsimp only at h
     rw [f_text_Show_J3] at h
     refine sg fun QQ7 hQ7 => ?_
     refine sg fun QQ8 hQ8 => ?_
     simp only [go_sem]
     refine seqQ_normal hQ8 ?_
     refine vc_cond_of (b := b_28) (by (simp only [go_sem]; done)) (fun hb_25 => ?_) (fun hb_25 => ?_)
     ·
      replace h := if_t h hb_25
      refine sg fun QQ9 hQ9 => ?_
      simp only [go_sem]
      refine seqQ_normal hQ9 ?_
      refine vc_ret_of ?_
      refine seqQ_ret hQ7 ?_
      simp only [go_sem]
      obtain rfl := Option.some.inj h
      refine retW_pure rfl ?_
      simp only [go_sem, Le]
     ·
      replace h := if_f h hb_25
      refine vc_skip_of ?_
      refine seqQ_normal hQ7 ?_
      refine sg fun QQ10 hQ10 => ?_
      obtain ⟨v_73, ev_73, h⟩ := bindO_some h
      simp only [go_sem]
      refine callD [0] (f_strings_Builder_String_T51_p0_det ((b_29 : List UInt8), b_28) v_73 ev_73) (by simp) rfl ⟨rfl, trivial⟩ rfl rfl rfl rfl ?_
      simp only [go_sem]
      refine seqQ_normal hQ10 ?_
      refine vc_ret_of ?_
      simp only [go_sem]
      obtain rfl := Option.some.inj h
      refine retW_pure rfl ?_
      simp only [go_sem, Le]

def f_text_reader_fail_p0_s0_0_s0_1_s0_2_s0_3 (rv_0 : GText_reader) (e_0 : Int) : Option GText_reader :=
 (if (rv_0.e == 0) = true then some (⟨rv_0.g, e_0⟩ : GText_reader)
 else some rv_0)
theorem f_text_reader_fail_p0_s0_0_s0_1_s0_2_s0_3_det (rv_0 : GText_reader) (e_0 : Int)  (r : GText_reader) (h : f_text_reader_fail_p0_s0_0_s0_1_s0_2_s0_3 rv_0 e_0 = some r) : DetS Tryz.prog 44 [.ptr 0 0, .v (.int .i64 e_0)] [(0, .box [.osl 1 1 (0) (List.length rv_0.g.Parent), .osl 2 1 (0) (List.length rv_0.g.Bound), .osl 3 4 (0) (List.length rv_0.g.Nodes), .osl 4 4 (0) (List.length rv_0.g.Edges), .v (.int .i64 rv_0.e)]), (1, .arr 1 (enc rv_0.g.Parent)), (2, .arr 1 (enc rv_0.g.Bound)), (3, .con (ownK 4 3 (enc rv_0.g.Nodes) none) []), (4, .arr 4 (enc rv_0.g.Edges))] 5 (.tup []) [(0, .box [.osl 5 1 (0) (List.length r.g.Parent), .osl 6 1 (0) (List.length r.g.Bound), .osl 3 4 (0) (List.length r.g.Nodes), .osl 7 4 (0) (List.length r.g.Edges), .v (.int .i64 r.e)]), (3, .con (ownK 4 3 (enc r.g.Nodes) none) []), (5, .arr 1 (enc r.g.Parent)), (6, .arr 1 (enc r.g.Bound)), (7, .arr 4 (enc r.g.Edges))] 8 := by
 unfold DetS
 refine Spec.of_vc Tryz.func44 rfl (by kernel_rfl) (by kernel_rfl) ?_
 rw [f_text_reader_fail_p0_s0_0_s0_1_s0_2_s0_3] at h
 refine sg fun QQ1 hQ1 => ?_
 simp only [go_sem]
 refine seqQ_normal hQ1 ?_
 refine vc_cond_of (b := (rv_0.e == 0)) (by (simp only [go_sem]; done)) (fun hb_0 => ?_) (fun hb_0 => ?_)
 ·
  replace h := if_t h hb_0
  simp only [bool_to_prop] at hb_0
  simp only [go_sem]
  obtain rfl := Option.some.inj h
  refine retW_det [some 1, some 2, some 4] ?_
  simp only [go_sem, Le] <;> (repeat' apply And.intro) <;> first | ((try with_reducible refine TL_eq ?_); omega) | ((try with_reducible refine TL_eq ?_); (simp [go_sem]; done))
 ·
  replace h := if_f h hb_0
  simp only [bool_to_prop] at hb_0
  refine vc_skip_of ?_
  simp only [go_sem]
  obtain rfl := Option.some.inj h
  refine retW_det [some 1, some 2, some 4] ?_
  simp only [go_sem, Le] <;> (repeat' apply And.intro) <;> first | ((try with_reducible refine TL_eq ?_); omega) | ((try with_reducible refine TL_eq ?_); (simp [go_sem]; done))

def lay81_ren : Go.Shelf.Ren := ⟨fun | 174 => 81 | 247 => 96 | 245 => 97 | 287 => 102 | 279 => 103 | 280 => 104 | 281 => 105 | 282 => 106 | 321 => 107 | 322 => 108 | 316 => 109 | 171 => 13 | 205 => 110 | 243 => 34 | 246 => 54 | 283 => 70 | 284 => 71 | 285 => 72 | 286 => 73 | 129 => 85 | 317 => 84 | 318 => 86 | 319 => 87 | 320 => 88 | 337 => 98 | 338 => 99 | n => n, fun | 9 => 9 | 3 => 3 | 2 => 2 | 75 => 76 | 85 => 126 | 4 => 4 | 167 => 155 | 5 => 5 | 53 => 85 | 175 => 156 | 46 => 111 | 168 => 158 | 37 => 36 | 0 => 0 | 210 => 167 | 21 => 21 | 127 => 82 | 145 => 171 | 143 => 169 | 171 => 114 | 173 => 117 | 212 => 132 | 51 => 119 | 20 => 20 | 213 => 133 | 232 => 161 | 233 => 162 | 80 => 60 | n => n, fun | 15 => 8 | 16 => 9 | 17 => 2 | 18 => 6 | 19 => 7 | n => n⟩
theorem lay81 : Go.Proofs.LaysC.n174 Tryz.prog lay81_ren := {
 mixed := by kernel_rfl
 f129 := Tryz.func85.trans (congrArg some (by kernel_rfl))
 f171 := Tryz.func13.trans (congrArg some (by kernel_rfl))
 f174 := Tryz.func81.trans (congrArg some (by kernel_rfl))
 f205 := Tryz.func110.trans (congrArg some (by kernel_rfl))
 f243 := Tryz.func34.trans (congrArg some (by kernel_rfl))
 f245 := Tryz.func97.trans (congrArg some (by kernel_rfl))
 f246 := Tryz.func54.trans (congrArg some (by kernel_rfl))
 f247 := Tryz.func96.trans (congrArg some (by kernel_rfl))
 f279 := Tryz.func103.trans (congrArg some (by kernel_rfl))
 f280 := Tryz.func104.trans (congrArg some (by kernel_rfl))
 f281 := Tryz.func105.trans (congrArg some (by kernel_rfl))
 f282 := Tryz.func106.trans (congrArg some (by kernel_rfl))
 f283 := Tryz.func70.trans (congrArg some (by kernel_rfl))
 f284 := Tryz.func71.trans (congrArg some (by kernel_rfl))
 f285 := Tryz.func72.trans (congrArg some (by kernel_rfl))
 f286 := Tryz.func73.trans (congrArg some (by kernel_rfl))
 f287 := Tryz.func102.trans (congrArg some (by kernel_rfl))
 f316 := Tryz.func109.trans (congrArg some (by kernel_rfl))
 f317 := Tryz.func84.trans (congrArg some (by kernel_rfl))
 f318 := Tryz.func86.trans (congrArg some (by kernel_rfl))
 f319 := Tryz.func87.trans (congrArg some (by kernel_rfl))
 f320 := Tryz.func88.trans (congrArg some (by kernel_rfl))
 f321 := Tryz.func107.trans (congrArg some (by kernel_rfl))
 f322 := Tryz.func108.trans (congrArg some (by kernel_rfl))
 f337 := Tryz.func98.trans (congrArg some (by kernel_rfl))
 f338 := Tryz.func99.trans (congrArg some (by kernel_rfl))
 t0 := Tryz.underlying0
 a0 := Tryz.isAgg0
 z0 := Tryz.sizeOf0
 v0 := Tryz.zeroValue0
 t2 := Tryz.underlying2
 a2 := Tryz.isAgg2
 z2 := Tryz.sizeOf2
 v2 := Tryz.zeroValue2
 t3 := Tryz.underlying3
 a3 := Tryz.isAgg3
 z3 := Tryz.sizeOf3
 v3 := Tryz.zeroValue3
 t4 := Tryz.underlying4
 a4 := Tryz.isAgg4
 z4 := Tryz.sizeOf4
 v4 := Tryz.zeroValue4
 t5 := Tryz.underlying5
 a5 := Tryz.isAgg5
 z5 := Tryz.sizeOf5
 v5 := Tryz.zeroValue5
 t9 := Tryz.underlying9
 a9 := Tryz.isAgg9
 z9 := Tryz.sizeOf9
 v9 := Tryz.zeroValue9
 t20 := Tryz.underlying20
 a20 := Tryz.isAgg20
 z20 := Tryz.sizeOf20
 v20 := Tryz.zeroValue20
 t21 := Tryz.underlying21
 a21 := Tryz.isAgg21
 z21 := Tryz.sizeOf21
 v21 := Tryz.zeroValue21
 t37 := Tryz.underlying36
 a37 := Tryz.isAgg36
 z37 := Tryz.sizeOf36
 v37 := Tryz.zeroValue36
 t46 := Tryz.underlying111
 a46 := Tryz.isAgg111
 z46 := Tryz.sizeOf111
 v46 := Tryz.zeroValue111
 t51 := Tryz.underlying119
 a51 := Tryz.isAgg119
 z51 := Tryz.sizeOf119
 v51 := Tryz.zeroValue119
 t53 := Tryz.underlying85
 a53 := Tryz.isAgg85
 z53 := Tryz.sizeOf85
 v53 := Tryz.zeroValue85
 t75 := Tryz.underlying76
 a75 := Tryz.isAgg76
 z75 := Tryz.sizeOf76
 v75 := Tryz.zeroValue76
 t85 := Tryz.underlying126
 a85 := Tryz.isAgg126
 z85 := Tryz.sizeOf126
 v85 := Tryz.zeroValue126
 t127 := Tryz.underlying82
 a127 := Tryz.isAgg82
 z127 := Tryz.sizeOf82
 v127 := Tryz.zeroValue82
 t143 := Tryz.underlying169
 a143 := Tryz.isAgg169
 z143 := Tryz.sizeOf169
 v143 := Tryz.zeroValue169
 t145 := Tryz.underlying171
 a145 := Tryz.isAgg171
 z145 := Tryz.sizeOf171
 v145 := Tryz.zeroValue171
 t167 := Tryz.underlying155
 a167 := Tryz.isAgg155
 z167 := Tryz.sizeOf155
 v167 := Tryz.zeroValue155
 t168 := Tryz.underlying158
 a168 := Tryz.isAgg158
 z168 := Tryz.sizeOf158
 v168 := Tryz.zeroValue158
 t171 := Tryz.underlying114
 a171 := Tryz.isAgg114
 z171 := Tryz.sizeOf114
 v171 := Tryz.zeroValue114
 t173 := Tryz.underlying117
 a173 := Tryz.isAgg117
 z173 := Tryz.sizeOf117
 v173 := Tryz.zeroValue117
 t175 := Tryz.underlying156
 a175 := Tryz.isAgg156
 z175 := Tryz.sizeOf156
 v175 := Tryz.zeroValue156
 t210 := Tryz.underlying167
 a210 := Tryz.isAgg167
 z210 := Tryz.sizeOf167
 v210 := Tryz.zeroValue167
 t212 := Tryz.underlying132
 a212 := Tryz.isAgg132
 z212 := Tryz.sizeOf132
 v212 := Tryz.zeroValue132
 t213 := Tryz.underlying133
 a213 := Tryz.isAgg133
 z213 := Tryz.sizeOf133
 t232 := Tryz.underlying161
 a232 := Tryz.isAgg161
 z232 := Tryz.sizeOf161
 v232 := Tryz.zeroValue161
 t233 := Tryz.underlying162
 a233 := Tryz.isAgg162
 z233 := Tryz.sizeOf162
 v233 := Tryz.zeroValue162
 g15 := by kernel_rfl
 g16 := by kernel_rfl
 g17 := by kernel_rfl
 g18 := by kernel_rfl
 g19 := by kernel_rfl
 t80 := Tryz.underlying60
 a80 := Tryz.isAgg60
 z80 := Tryz.sizeOf60
 v80 := Tryz.zeroValue60
 i0 := by kernel_rfl
 i2 := by kernel_rfl
 i3 := by kernel_rfl
 i4 := by kernel_rfl
 i5 := by kernel_rfl
 i9 := by kernel_rfl
 i20 := by kernel_rfl
 i21 := by kernel_rfl
 i37 := by kernel_rfl
 i46 := by kernel_rfl
 i51 := by kernel_rfl
 i53 := by kernel_rfl
 i75 := by kernel_rfl
 i80 := by kernel_rfl
 i85 := by kernel_rfl
 i127 := by kernel_rfl
 i143 := by kernel_rfl
 i145 := by kernel_rfl
 i167 := by kernel_rfl
 i168 := by kernel_rfl
 i171 := by kernel_rfl
 i173 := by kernel_rfl
 i175 := by kernel_rfl
 i210 := by kernel_rfl
 i212 := by kernel_rfl
 i232 := by kernel_rfl
 i233 := by kernel_rfl
 m15 := by kernel_rfl
 m16 := by kernel_rfl
 m17 := by kernel_rfl
 m18 := by kernel_rfl
 m19 := by kernel_rfl
 c0 := by kernel_rfl
 c2 := by kernel_rfl
 c3 := by kernel_rfl
 c4 := by kernel_rfl
 c5 := by kernel_rfl
 c9 := by kernel_rfl
 c20 := by kernel_rfl
 c21 := by kernel_rfl
 c37 := by kernel_rfl
 c46 := by kernel_rfl
 c51 := by kernel_rfl
 c53 := by kernel_rfl
 c75 := by kernel_rfl
 c80 := by kernel_rfl
 c85 := by kernel_rfl
 c127 := by kernel_rfl
 c143 := by kernel_rfl
 c145 := by kernel_rfl
 c167 := by kernel_rfl
 c168 := by kernel_rfl
 c171 := by kernel_rfl
 c173 := by kernel_rfl
 c175 := by kernel_rfl
 c210 := by kernel_rfl
 c212 := by kernel_rfl
 c213 := by kernel_rfl
 c232 := by kernel_rfl
 c233 := by kernel_rfl }
def f_strconv_ParseInt (s_0 : List UInt8) (b_0 : Int) (k_0 : Int) : Option (Int × Bool) := parseF s_0 b_0 k_0
theorem f_strconv_ParseInt_ok (s_0 : List UInt8) (b_0 : Int) (k_0 : Int) (r : Int × Bool) (h : f_strconv_ParseInt s_0 b_0 k_0 = some r) : PureS Tryz.prog 81 [.v (.string ⟨⟨s_0⟩⟩), .v (.int .i64 b_0), .v (.int .i64 k_0)] 0 (.tup [.v (.int .i64 r.1), .erb r.2]) :=
 parse_pure lay81 (by kernel_rfl) (by kernel_rfl) (by kernel_rfl) h

def f_text_reader_number_p0_s0_0_s0_1_s0_2_s0_3 (rv_0 : GText_reader) (w_0 : List UInt8) : Option (Int × GText_reader) :=
 bindO (f_strconv_ParseInt w_0 10 64) (fun (v_0 : Int × Bool) =>
 (if v_0.2 = true then bindO (f_strconv_FormatInt v_0.1 10) (fun (v_2 : List UInt8) =>
 (if (!(v_2 == w_0)) = true then bindO (f_text_reader_fail_p0_s0_0_s0_1_s0_2_s0_3 rv_0 4) (fun (v_3 : GText_reader) =>
 some (0, v_3))
 else some (v_0.1, rv_0)))
 else bindO (f_text_reader_fail_p0_s0_0_s0_1_s0_2_s0_3 rv_0 4) (fun (v_1 : GText_reader) =>
 some (0, v_1))))
theorem f_text_reader_number_p0_s0_0_s0_1_s0_2_s0_3_det (rv_0 : GText_reader) (w_0 : List UInt8)  (r : Int × GText_reader) (h : f_text_reader_number_p0_s0_0_s0_1_s0_2_s0_3 rv_0 w_0 = some r) : DetS Tryz.prog 63 [.ptr 0 0, .v (.string ⟨⟨w_0⟩⟩)] [(0, .box [.osl 1 1 (0) (List.length rv_0.g.Parent), .osl 2 1 (0) (List.length rv_0.g.Bound), .osl 3 4 (0) (List.length rv_0.g.Nodes), .osl 4 4 (0) (List.length rv_0.g.Edges), .v (.int .i64 rv_0.e)]), (1, .arr 1 (enc rv_0.g.Parent)), (2, .arr 1 (enc rv_0.g.Bound)), (3, .con (ownK 4 3 (enc rv_0.g.Nodes) none) []), (4, .arr 4 (enc rv_0.g.Edges))] 5 (.v (.int .i64 r.1)) [(0, .box [.osl 5 1 (0) (List.length r.2.g.Parent), .osl 6 1 (0) (List.length r.2.g.Bound), .osl 3 4 (0) (List.length r.2.g.Nodes), .osl 7 4 (0) (List.length r.2.g.Edges), .v (.int .i64 r.2.e)]), (3, .con (ownK 4 3 (enc r.2.g.Nodes) none) []), (5, .arr 1 (enc r.2.g.Parent)), (6, .arr 1 (enc r.2.g.Bound)), (7, .arr 4 (enc r.2.g.Edges))] 8 := by
 unfold DetS
 refine Spec.of_vc Tryz.func63 rfl (by kernel_rfl) (by kernel_rfl) ?_
 rw [f_text_reader_number_p0_s0_0_s0_1_s0_2_s0_3] at h
 refine sg fun QQ1 hQ1 => ?_
 simp only [go_sem]
 refine seqQ_normal hQ1 ?_
 refine sg fun QQ2 hQ2 => ?_
 obtain ⟨v_0, ev_0, h⟩ := bindO_some h
 simp only [go_sem]
 refine call0 (f_strconv_ParseInt_ok w_0 10 64 v_0 ev_0) (by rfl) (by rfl) ?_
 simp only [go_sem]
 refine seqQ_normal hQ2 ?_
 refine sg fun QQ3 hQ3 => ?_
 refine sg fun QQ4 hQ4 => ?_
 simp only [go_sem]
 rcases hb_0 : v_0.2 with _ | _
 ·
  replace h := if_f h hb_0
  simp only [go_sem, hb_0]
  refine seqQ_normal hQ4 ?_
  refine vc_cond_t (by (simp only [go_sem]; done)) ?_
  refine sg fun QQ5 hQ5 => ?_
  obtain ⟨v_1, ev_1, h⟩ := bindO_some h
  simp only [go_sem]
  refine callD [0, 1, 2, 3, 4] (f_text_reader_fail_p0_s0_0_s0_1_s0_2_s0_3_det rv_0 4 v_1 ev_1) (by simp) rfl ⟨rfl, ⟨rfl, ⟨rfl, ⟨rfl, ⟨rfl, trivial⟩⟩⟩⟩⟩ rfl rfl rfl rfl ?_
  simp only [go_sem]
  refine seqQ_normal hQ5 ?_
  refine sg fun QQ6 hQ6 => ?_
  simp only [go_sem]
  refine seqQ_normal hQ6 ?_
  refine vc_ret_of ?_
  refine seqQ_ret hQ3 ?_
  simp only [go_sem]
  obtain rfl := Option.some.inj h
  refine retW_det [some 5, some 6, some 7] ?_
  simp only [go_sem, Le] <;> (repeat' apply And.intro) <;> first | ((try with_reducible refine TL_eq ?_); omega) | ((try with_reducible refine TL_eq ?_); (simp [go_sem]; done))
 ·
  replace h := if_t h hb_0
  obtain ⟨v_2, ev_2, h⟩ := bindO_some h
  simp only [go_sem, hb_0]
  refine call0 (f_strconv_FormatInt_ok v_0.1 10 v_2 ev_2) (by rfl) (by rfl) ?_
  simp only [go_sem]
  refine seqQ_normal hQ4 ?_
  refine vc_cond_of (b := (!(v_2 == w_0))) (by (simp only [go_sem]; done)) (fun hb_1 => ?_) (fun hb_1 => ?_)
  ·
   replace h := if_t h hb_1
   simp only [bool_to_prop] at hb_1
   refine sg fun QQ7 hQ7 => ?_
   obtain ⟨v_3, ev_3, h⟩ := bindO_some h
   simp only [go_sem]
   refine callD [0, 1, 2, 3, 4] (f_text_reader_fail_p0_s0_0_s0_1_s0_2_s0_3_det rv_0 4 v_3 ev_3) (by simp) rfl ⟨rfl, ⟨rfl, ⟨rfl, ⟨rfl, ⟨rfl, trivial⟩⟩⟩⟩⟩ rfl rfl rfl rfl ?_
   simp only [go_sem]
   refine seqQ_normal hQ7 ?_
   refine sg fun QQ8 hQ8 => ?_
   simp only [go_sem]
   refine seqQ_normal hQ8 ?_
   refine vc_ret_of ?_
   refine seqQ_ret hQ3 ?_
   simp only [go_sem]
   obtain rfl := Option.some.inj h
   refine retW_det [some 5, some 6, some 7] ?_
   simp only [go_sem, Le] <;> (repeat' apply And.intro) <;> first | ((try with_reducible refine TL_eq ?_); omega) | ((try with_reducible refine TL_eq ?_); (simp [go_sem]; done))
  ·
   replace h := if_f h hb_1
   simp only [bool_to_prop] at hb_1
   refine vc_skip_of ?_
   refine seqQ_normal hQ3 ?_
   refine sg fun QQ9 hQ9 => ?_
   simp only [go_sem]
   refine seqQ_normal hQ9 ?_
   refine vc_ret_of ?_
   simp only [go_sem]
   obtain rfl := Option.some.inj h
   refine retW_det [some 1, some 2, some 4] ?_
   simp only [go_sem, Le] <;> (repeat' apply And.intro) <;> first | ((try with_reducible refine TL_eq ?_); omega) | ((try with_reducible refine TL_eq ?_); (simp [go_sem]; done))

def f_text_reader_small_p0_s0_0_s0_1_s0_2_s0_3_B1 (words_0 : List GStr) (rec_1 : Int × Int × (List Int) × (List GNode) × (List Int) × (List Int) × (List GEdge) → Option ((List Int) × GText_reader)) : Int × Int × (List Int) × (List GNode) × (List Int) × (List Int) × (List GEdge) → Option ((List Int) × GText_reader) :=
 fun (t11_1, b_1, a_5, a_6, a_7, a_8, a_9) =>
 (if (decide (t11_1 < (List.length words_0 : Int))) = true then bindO (idx words_0 t11_1) (fun (xv_2 : GStr) =>
 bindO (f_text_reader_number_p0_s0_0_s0_1_s0_2_s0_3 (⟨(⟨a_7, a_8, a_6, a_9⟩ : GGraph), b_1⟩ : GText_reader) xv_2.s) (fun (v_2 : Int × GText_reader) =>
 guardO ((List.length a_5 + List.length ([max (-1) (min v_2.1 2147483648)] : List Int)) * 8 ≤ 140737488355328) (
 rec_1 (IntKind.i64.wrap (t11_1 + 1), v_2.2.e, (a_5 ++ ([max (-1) (min v_2.1 2147483648)] : List Int)), v_2.2.g.Nodes, v_2.2.g.Parent, v_2.2.g.Bound, v_2.2.g.Edges))))
 else some (a_5, (⟨(⟨a_7, a_8, a_6, a_9⟩ : GGraph), b_1⟩ : GText_reader)))
def f_text_reader_small_p0_s0_0_s0_1_s0_2_s0_3 (rv_0 : GText_reader) (words_0 : List GStr) : Option ((List Int) × GText_reader) :=
 loopK (f_text_reader_small_p0_s0_0_s0_1_s0_2_s0_3_B1 words_0) rounds (0, rv_0.e, [], rv_0.g.Nodes, rv_0.g.Parent, rv_0.g.Bound, rv_0.g.Edges)
theorem f_text_reader_small_p0_s0_0_s0_1_s0_2_s0_3_det (rv_0 : GText_reader) (words_0 : List GStr)  (r : (List Int) × GText_reader) (h : f_text_reader_small_p0_s0_0_s0_1_s0_2_s0_3 rv_0 words_0 = some r) : DetS Tryz.prog 59 [.ptr 0 0, .sl 1 (enc words_0)] [(0, .box [.osl 1 1 (0) (List.length rv_0.g.Parent), .osl 2 1 (0) (List.length rv_0.g.Bound), .osl 3 4 (0) (List.length rv_0.g.Nodes), .osl 4 4 (0) (List.length rv_0.g.Edges), .v (.int .i64 rv_0.e)]), (1, .arr 1 (enc rv_0.g.Parent)), (2, .arr 1 (enc rv_0.g.Bound)), (3, .con (ownK 4 3 (enc rv_0.g.Nodes) none) []), (4, .arr 4 (enc rv_0.g.Edges))] 5 (.osl 5 1 (0) (List.length r.1)) [(0, .box [.osl 6 1 (0) (List.length r.2.g.Parent), .osl 7 1 (0) (List.length r.2.g.Bound), .osl 3 4 (0) (List.length r.2.g.Nodes), .osl 8 4 (0) (List.length r.2.g.Edges), .v (.int .i64 r.2.e)]), (3, .con (ownK 4 3 (enc r.2.g.Nodes) none) []), (5, .arr 1 (enc r.1)), (6, .arr 1 (enc r.2.g.Parent)), (7, .arr 1 (enc r.2.g.Bound)), (8, .arr 4 (enc r.2.g.Edges))] 9 := by
 unfold DetS
 refine Spec.of_vc Tryz.func59 rfl (by kernel_rfl) (by kernel_rfl) ?_
 rw [f_text_reader_small_p0_s0_0_s0_1_s0_2_s0_3] at h
 refine sg fun QQ1 hQ1 => ?_
 simp only [go_sem]
 refine seqQ_normal hQ1 ?_
 refine sg fun QQ2 hQ2 => ?_
 simp only [go_sem]
 refine seqQ_normal hQ2 ?_
 refine vc_join (by kernel_rfl) ?_
 refine seq_go_gen ?_
 intro QQ3 hQ3
 refine sg fun QQ4 hQ4 => ?_
 simp only [go_sem]
 refine seqQ_normal hQ4 ?_
 refine vc_block_gen ?_
 intro QQ5 hQ5
 refine vc_loop_of ?_
 refine loop_gen (ι := Nat × Int × Int × (List Int) × (List GNode) × (List Int) × (List Int) × (List GEdge)) (fun ((_, t11_1, b_1, a_5, a_6, a_7, a_8, a_9) : Nat × Int × Int × (List Int) × (List GNode) × (List Int) × (List Int) × (List GEdge)) => (⟨5, [(0, .ptr 0 0), (5, .osl 5 1 (0) (List.length a_5)), (9, .sl 1 (enc words_0)), (10, .v (.int .i64 (List.length words_0 : Int))), (11, .v (.int .i64 t11_1))], [(0, .box [.osl 6 1 (0) (List.length a_7), .osl 7 1 (0) (List.length a_8), .osl 3 4 (0) (List.length a_6), .osl 8 4 (0) (List.length a_9), .v (.int .i64 b_1)]), (3, .con (ownK 4 3 (enc a_6) none) []), (5, .arr 1 (enc a_5)), (6, .arr 1 (enc a_7)), (7, .arr 1 (enc a_8)), (8, .arr 4 (enc a_9))], 9, 26⟩ : St)) (fun ((n_, t11_1, b_1, a_5, a_6, a_7, a_8, a_9) : Nat × Int × Int × (List Int) × (List GNode) × (List Int) × (List Int) × (List GEdge)) => loopK (f_text_reader_small_p0_s0_0_s0_1_s0_2_s0_3_B1 words_0) n_ (t11_1, b_1, a_5, a_6, a_7, a_8, a_9) = some r) (fun p => p.1) (rounds, 0, rv_0.e, [], rv_0.g.Nodes, rv_0.g.Parent, rv_0.g.Bound, rv_0.g.Edges) [none, some 1, some 2, some 4] ?_ h ?_ --K[0,9,10];[]
 · simp only [go_sem, Le] <;> (repeat' apply And.intro) <;> first | ((try with_reducible refine TL_eq ?_); omega) | ((try with_reducible refine TL_eq ?_); (simp [go_sem]; done))
 ·
  rintro ⟨n_1, t11_1, b_1, a_5, a_6, a_7, a_8, a_9⟩ h QQ6 hQ6
  dsimp only at h
  replace h := loopK_some h
  obtain ⟨m_1, rfl, h⟩ := h
  rw [f_text_reader_small_p0_s0_0_s0_1_s0_2_s0_3_B1] at h
  refine sg fun QQ7 hQ7 => ?_
  simp only [go_sem]
  refine seqQ_normal hQ7 ?_
  refine sg fun QQ8 hQ8 => ?_
  refine vc_cond_of (b := (decide (t11_1 < (List.length words_0 : Int)))) (by (simp only [go_sem]; done)) (fun hb_2 => ?_) (fun hb_2 => ?_)
  ·
   replace h := if_t h hb_2
   simp only [bool_to_prop] at hb_2
   refine vc_skip_of ?_
   refine seqQ_normal hQ8 ?_
   refine sg fun QQ9 hQ9 => ?_
   refine vc_block_gen ?_
   intro QQ10 hQ10
   refine sg fun QQ11 hQ11 => ?_
   obtain ⟨xv_2, exv_2, h⟩ := bindO_some h
   obtain ⟨fxv_2a, fxv_2b, fxv_2c⟩ := idx_spec exv_2
   simp only [go_sem, fxv_2a, fxv_2b, fxv_2c]
   refine And.intro (by omega) ?_
   refine seqQ_normal hQ11 ?_
   refine sg fun QQ12 hQ12 => ?_
   obtain ⟨v_2, ev_2, h⟩ := bindO_some h
   simp only [go_sem]
   refine callD [0, 6, 7, 3, 8] (f_text_reader_number_p0_s0_0_s0_1_s0_2_s0_3_det (⟨(⟨a_7, a_8, a_6, a_9⟩ : GGraph), b_1⟩ : GText_reader) xv_2.s v_2 ev_2) (by simp) rfl ⟨rfl, ⟨rfl, ⟨rfl, ⟨rfl, ⟨rfl, trivial⟩⟩⟩⟩⟩ rfl rfl rfl rfl ?_
   simp only [go_sem]
   refine seqQ_normal hQ12 ?_
   have rf_3 : [[.v (.int .i64 (max (-1) (min v_2.1 2147483648)))]] = enc ([max (-1) (min v_2.1 2147483648)] : List Int) := by rfl
   obtain ⟨g_2, h⟩ := guardO_some h
   simp only [List.length_cons, List.length_nil, Nat.zero_add, List.length_append] at g_2
   have rf_4 : enc a_5 ++ [[.v (.int .i64 (max (-1) (min v_2.1 2147483648)))]] = enc (a_5 ++ ([max (-1) (min v_2.1 2147483648)] : List Int)) := by exact (enc_app a_5 ([max (-1) (min v_2.1 2147483648)] : List Int)).symm
   simp only [go_sem, g_2, rf_4]
   simp only [rf_3]
   refine blockQ_normal hQ10 ?_
   refine seqQ_normal hQ9 ?_
   simp only [go_sem]
   refine thenQ_normal hQ6 ?_
   refine ⟨(m_1, IntKind.i64.wrap (t11_1 + 1), v_2.2.e, (a_5 ++ ([max (-1) (min v_2.1 2147483648)] : List Int)), v_2.2.g.Nodes, v_2.2.g.Parent, v_2.2.g.Bound, v_2.2.g.Edges), [some 13, some 9, some 10, some 11], ?_, h, Nat.lt_succ_self _⟩
   simp only [go_sem, Le] <;> (repeat' apply And.intro) <;> first | ((try with_reducible refine TL_eq ?_); omega) | ((try with_reducible refine TL_eq ?_); (simp [go_sem]; done))
  ·
   replace h := if_f h hb_2
   simp only [bool_to_prop] at hb_2
   refine vc_exit_of ?_
   refine seqQ_exit hQ8 ?_
   refine thenQ_exit hQ6 ?_
   refine blockQ_exit hQ5 ?_
   refine seqQ_normal hQ3 ?_
   refine sg fun QQ13 hQ13 => ?_
   simp only [go_sem]
   refine seqQ_normal hQ13 ?_
   refine vc_ret_of ?_
   simp only [go_sem]
   obtain rfl := Option.some.inj h
   refine retW_det [some 5, some 6, some 7, some 8] ?_
   simp only [go_sem, Le] <;> (repeat' apply And.intro) <;> first | ((try with_reducible refine TL_eq ?_); omega) | ((try with_reducible refine TL_eq ?_); (simp [go_sem]; done))

def f_text_reader_fits_1 (nv_0 : Int) : Option Bool :=
 some ((decide (nv_0 < 0)) || (decide (2147483647 < nv_0)))
theorem f_text_reader_fits_1_ok (nv_0 : Int)  (r : Bool) (h : f_text_reader_fits_1 nv_0 = some r) : PureS Tryz.prog 79 [.v (.int .i64 nv_0)] 0 (.v (.bool r)) := by
 unfold PureS
 refine Spec.of_vc Tryz.func79 rfl (by kernel_rfl) (by kernel_rfl) ?_
 rw [f_text_reader_fits_1] at h
 refine sg fun QQ1 hQ1 => ?_
 simp only [go_sem]
 refine seqQ_normal hQ1 ?_
 refine sg fun QQ2 hQ2 => ?_
 simp only [go_sem]
 refine seqQ_normal hQ2 ?_
 refine vc_ret_of ?_
 simp only [go_sem]
 obtain rfl := Option.some.inj h
 refine retW_pure rfl ?_
 simp only [go_sem, Le]

def f_text_reader_fits_p0_s0_0_s0_1_s0_2_s0_3 (rv_0 : GText_reader) (l_0 : List Int) : Option GText_reader :=
 bindO (f_slices_ContainsFunc_int l_0 (fun x0_ => f_text_reader_fits_1 x0_)) (fun (v_0 : Bool) =>
 (if v_0 = true then bindO (f_text_reader_fail_p0_s0_0_s0_1_s0_2_s0_3 rv_0 2) (fun (v_1 : GText_reader) =>
 some v_1)
 else some rv_0))
theorem f_text_reader_fits_p0_s0_0_s0_1_s0_2_s0_3_det (rv_0 : GText_reader) (l_0 : List Int)  (r : GText_reader) (h : f_text_reader_fits_p0_s0_0_s0_1_s0_2_s0_3 rv_0 l_0 = some r) : DetS Tryz.prog 60 [.ptr 0 0, .sl 1 (enc l_0)] [(0, .box [.osl 1 1 (0) (List.length rv_0.g.Parent), .osl 2 1 (0) (List.length rv_0.g.Bound), .osl 3 4 (0) (List.length rv_0.g.Nodes), .osl 4 4 (0) (List.length rv_0.g.Edges), .v (.int .i64 rv_0.e)]), (1, .arr 1 (enc rv_0.g.Parent)), (2, .arr 1 (enc rv_0.g.Bound)), (3, .con (ownK 4 3 (enc rv_0.g.Nodes) none) []), (4, .arr 4 (enc rv_0.g.Edges))] 5 (.tup []) [(0, .box [.osl 5 1 (0) (List.length r.g.Parent), .osl 6 1 (0) (List.length r.g.Bound), .osl 3 4 (0) (List.length r.g.Nodes), .osl 7 4 (0) (List.length r.g.Edges), .v (.int .i64 r.e)]), (3, .con (ownK 4 3 (enc r.g.Nodes) none) []), (5, .arr 1 (enc r.g.Parent)), (6, .arr 1 (enc r.g.Bound)), (7, .arr 4 (enc r.g.Edges))] 8 := by
 unfold DetS
 refine Spec.of_vc Tryz.func60 rfl (by kernel_rfl) (by kernel_rfl) ?_
 rw [f_text_reader_fits_p0_s0_0_s0_1_s0_2_s0_3] at h
 refine sg fun QQ1 hQ1 => ?_
 obtain ⟨v_0, ev_0, h⟩ := bindO_some h
 simp only [go_sem]
 refine call0 (f_slices_ContainsFunc_int_ok l_0 (fun x0_ => f_text_reader_fits_1 x0_) 79 [] (by rfl) (by kernel_rfl) (fun y0 r_ e_ => f_text_reader_fits_1_ok y0 r_ e_) v_0 ev_0) (by rfl) (by rfl) ?_
 simp only [go_sem]
 refine seqQ_normal hQ1 ?_
 refine vc_cond_of (b := v_0) (by (simp only [go_sem]; done)) (fun hb_0 => ?_) (fun hb_0 => ?_)
 ·
  replace h := if_t h hb_0
  obtain ⟨v_1, ev_1, h⟩ := bindO_some h
  simp only [go_sem]
  refine callD [0, 1, 2, 3, 4] (f_text_reader_fail_p0_s0_0_s0_1_s0_2_s0_3_det rv_0 2 v_1 ev_1) (by simp) rfl ⟨rfl, ⟨rfl, ⟨rfl, ⟨rfl, ⟨rfl, trivial⟩⟩⟩⟩⟩ rfl rfl rfl rfl ?_
  simp only [go_sem]
  obtain rfl := Option.some.inj h
  refine retW_det [some 5, some 6, some 7] ?_
  simp only [go_sem, Le] <;> (repeat' apply And.intro) <;> first | ((try with_reducible refine TL_eq ?_); omega) | ((try with_reducible refine TL_eq ?_); (simp [go_sem]; done))
 ·
  replace h := if_f h hb_0
  refine vc_skip_of ?_
  simp only [go_sem]
  obtain rfl := Option.some.inj h
  refine retW_det [some 1, some 2, some 4] ?_
  simp only [go_sem, Le] <;> (repeat' apply And.intro) <;> first | ((try with_reducible refine TL_eq ?_); omega) | ((try with_reducible refine TL_eq ?_); (simp [go_sem]; done))

def f_text_reader_room_p0_s0_0_s0_1_s0_2_s0_3 (rv_0 : GText_reader) (many_0 : Int) (most_0 : Int) : Option GText_reader :=
 (if (decide (most_0 ≤ many_0)) = true then bindO (f_text_reader_fail_p0_s0_0_s0_1_s0_2_s0_3 rv_0 11) (fun (v_0 : GText_reader) =>
 some v_0)
 else some rv_0)
theorem f_text_reader_room_p0_s0_0_s0_1_s0_2_s0_3_det (rv_0 : GText_reader) (many_0 : Int) (most_0 : Int)  (r : GText_reader) (h : f_text_reader_room_p0_s0_0_s0_1_s0_2_s0_3 rv_0 many_0 most_0 = some r) : DetS Tryz.prog 61 [.ptr 0 0, .v (.int .i64 many_0), .v (.int .i64 most_0)] [(0, .box [.osl 1 1 (0) (List.length rv_0.g.Parent), .osl 2 1 (0) (List.length rv_0.g.Bound), .osl 3 4 (0) (List.length rv_0.g.Nodes), .osl 4 4 (0) (List.length rv_0.g.Edges), .v (.int .i64 rv_0.e)]), (1, .arr 1 (enc rv_0.g.Parent)), (2, .arr 1 (enc rv_0.g.Bound)), (3, .con (ownK 4 3 (enc rv_0.g.Nodes) none) []), (4, .arr 4 (enc rv_0.g.Edges))] 5 (.tup []) [(0, .box [.osl 5 1 (0) (List.length r.g.Parent), .osl 6 1 (0) (List.length r.g.Bound), .osl 3 4 (0) (List.length r.g.Nodes), .osl 7 4 (0) (List.length r.g.Edges), .v (.int .i64 r.e)]), (3, .con (ownK 4 3 (enc r.g.Nodes) none) []), (5, .arr 1 (enc r.g.Parent)), (6, .arr 1 (enc r.g.Bound)), (7, .arr 4 (enc r.g.Edges))] 8 := by
 unfold DetS
 refine Spec.of_vc Tryz.func61 rfl (by kernel_rfl) (by kernel_rfl) ?_
 rw [f_text_reader_room_p0_s0_0_s0_1_s0_2_s0_3] at h
 refine sg fun QQ1 hQ1 => ?_
 simp only [go_sem]
 refine seqQ_normal hQ1 ?_
 refine vc_cond_of (b := (decide (most_0 ≤ many_0))) (by (simp only [go_sem]; done)) (fun hb_0 => ?_) (fun hb_0 => ?_)
 ·
  replace h := if_t h hb_0
  simp only [bool_to_prop] at hb_0
  obtain ⟨v_0, ev_0, h⟩ := bindO_some h
  simp only [go_sem]
  refine callD [0, 1, 2, 3, 4] (f_text_reader_fail_p0_s0_0_s0_1_s0_2_s0_3_det rv_0 11 v_0 ev_0) (by simp) rfl ⟨rfl, ⟨rfl, ⟨rfl, ⟨rfl, ⟨rfl, trivial⟩⟩⟩⟩⟩ rfl rfl rfl rfl ?_
  simp only [go_sem]
  obtain rfl := Option.some.inj h
  refine retW_det [some 5, some 6, some 7] ?_
  simp only [go_sem, Le] <;> (repeat' apply And.intro) <;> first | ((try with_reducible refine TL_eq ?_); omega) | ((try with_reducible refine TL_eq ?_); (simp [go_sem]; done))
 ·
  replace h := if_f h hb_0
  simp only [bool_to_prop] at hb_0
  refine vc_skip_of ?_
  simp only [go_sem]
  obtain rfl := Option.some.inj h
  refine retW_det [some 1, some 2, some 4] ?_
  simp only [go_sem, Le] <;> (repeat' apply And.intro) <;> first | ((try with_reducible refine TL_eq ?_); omega) | ((try with_reducible refine TL_eq ?_); (simp [go_sem]; done))

def f_slices_Index_string_B1 (s_0 : List GStr) (v_0 : List UInt8) (rec_1 : Int → Option Int) : Int → Option Int :=
 fun t8_1 =>
 (if (decide (t8_1 < (List.length s_0 : Int))) = true then bindO (idx s_0 t8_1) (fun (xv_2 : GStr) =>
 (if (v_0 == xv_2.s) = true then some t8_1
 else rec_1 (IntKind.i64.wrap (t8_1 + 1))))
 else some (-1))
def f_slices_Index_string (s_0 : List GStr) (v_0 : List UInt8) : Option Int :=
 loopK (f_slices_Index_string_B1 s_0 v_0) rounds 0
theorem f_slices_Index_string_ok (s_0 : List GStr) (v_0 : List UInt8)  (r : Int) (h : f_slices_Index_string s_0 v_0 = some r) : PureS Tryz.prog 80 [.sl 1 (enc s_0), .v (.string ⟨⟨v_0⟩⟩)] 0 (.v (.int .i64 r)) := by
 unfold PureS
 refine Spec.of_vc Tryz.func80 rfl (by kernel_rfl) (by kernel_rfl) ?_
 rw [f_slices_Index_string] at h
 refine sg fun QQ1 hQ1 => ?_
 simp only [go_sem]
 refine seqQ_normal hQ1 ?_
 refine vc_join (by kernel_rfl) ?_
 refine seq_go_gen ?_
 intro QQ2 hQ2
 refine sg fun QQ3 hQ3 => ?_
 simp only [go_sem]
 refine seqQ_normal hQ3 ?_
 refine vc_block_gen ?_
 intro QQ4 hQ4
 refine vc_loop_of ?_
 refine loop_gen (ι := Nat × Int) (fun ((_, t8_1) : Nat × Int) => (⟨0, [(0, .sl 1 (enc s_0)), (1, .v (.string ⟨⟨v_0⟩⟩)), (7, .v (.int .i64 (List.length s_0 : Int))), (8, .v (.int .i64 t8_1))], [], 0, 19⟩ : St)) (fun ((n_, t8_1) : Nat × Int) => loopK (f_slices_Index_string_B1 s_0 v_0) n_ t8_1 = some r) (fun p => p.1) (rounds, 0) [] ?_ h ?_ --K[0,1,7];[]
 · simp only [go_sem, Le]
 ·
  rintro ⟨n_1, t8_1⟩ h QQ5 hQ5
  dsimp only at h
  replace h := loopK_some h
  obtain ⟨m_1, rfl, h⟩ := h
  rw [f_slices_Index_string_B1] at h
  refine sg fun QQ6 hQ6 => ?_
  simp only [go_sem]
  refine seqQ_normal hQ6 ?_
  refine sg fun QQ7 hQ7 => ?_
  refine vc_cond_of (b := (decide (t8_1 < (List.length s_0 : Int)))) (by (simp only [go_sem]; done)) (fun hb_4 => ?_) (fun hb_4 => ?_)
  ·
   replace h := if_t h hb_4
   simp only [bool_to_prop] at hb_4
   refine vc_skip_of ?_
   refine seqQ_normal hQ7 ?_
   refine sg fun QQ8 hQ8 => ?_
   refine vc_block_gen ?_
   intro QQ9 hQ9
   refine sg fun QQ10 hQ10 => ?_
   simp only [go_sem]
   refine seqQ_normal hQ10 ?_
   refine sg fun QQ11 hQ11 => ?_
   obtain ⟨xv_2, exv_2, h⟩ := bindO_some h
   obtain ⟨fxv_2a, fxv_2b, fxv_2c⟩ := idx_spec exv_2
   simp only [go_sem, fxv_2a, fxv_2b, fxv_2c]
   refine And.intro (by omega) ?_
   refine seqQ_normal hQ11 ?_
   refine vc_cond_of (b := (v_0 == xv_2.s)) (by (simp only [go_sem]; done)) (fun hb_5 => ?_) (fun hb_5 => ?_)
   ·
    replace h := if_t h hb_5
    simp only [bool_to_prop] at hb_5
    refine sg fun QQ12 hQ12 => ?_
    simp only [go_sem]
    refine seqQ_normal hQ12 ?_
    refine vc_ret_of ?_
    refine blockQ_ret hQ9 ?_
    refine seqQ_ret hQ8 ?_
    refine thenQ_ret hQ5 ?_
    refine blockQ_ret hQ4 ?_
    refine seqQ_ret hQ2 ?_
    simp only [go_sem]
    obtain rfl := Option.some.inj h
    refine retW_pure rfl ?_
    simp only [go_sem, Le]
   ·
    replace h := if_f h hb_5
    simp only [bool_to_prop] at hb_5
    refine vc_skip_of ?_
    refine blockQ_normal hQ9 ?_
    refine seqQ_normal hQ8 ?_
    simp only [go_sem]
    refine thenQ_normal hQ5 ?_
    refine ⟨(m_1, IntKind.i64.wrap (t8_1 + 1)), [], ?_, h, Nat.lt_succ_self _⟩
    simp only [go_sem, Le]
  ·
   replace h := if_f h hb_4
   simp only [bool_to_prop] at hb_4
   refine vc_exit_of ?_
   refine seqQ_exit hQ7 ?_
   refine thenQ_exit hQ5 ?_
   refine blockQ_exit hQ4 ?_
   refine seqQ_normal hQ2 ?_
   refine sg fun QQ13 hQ13 => ?_
   simp only [go_sem]
   refine seqQ_normal hQ13 ?_
   refine vc_ret_of ?_
   simp only [go_sem]
   obtain rfl := Option.some.inj h
   refine retW_pure rfl ?_
   simp only [go_sem, Le]

def f_text_reader_name_p0_s0_0_s0_1_s0_2_s0_3 (rv_0 : GText_reader) (names_0 : List GStr) (w_0 : List UInt8) : Option (Int × GText_reader) :=
 bindO (f_slices_Index_string names_0 w_0) (fun (v_0 : Int) =>
 (if (decide (v_0 < 0)) = true then bindO (f_text_reader_fail_p0_s0_0_s0_1_s0_2_s0_3 rv_0 4) (fun (v_1 : GText_reader) =>
 some (IntKind.i64.wrap (v_0 + 1), v_1))
 else some (IntKind.i64.wrap (v_0 + 1), rv_0)))
theorem f_text_reader_name_p0_s0_0_s0_1_s0_2_s0_3_det (rv_0 : GText_reader) (names_0 : List GStr) (w_0 : List UInt8)  (r : Int × GText_reader) (h : f_text_reader_name_p0_s0_0_s0_1_s0_2_s0_3 rv_0 names_0 w_0 = some r) : DetS Tryz.prog 62 [.ptr 0 0, .sl 1 (enc names_0), .v (.string ⟨⟨w_0⟩⟩)] [(0, .box [.osl 1 1 (0) (List.length rv_0.g.Parent), .osl 2 1 (0) (List.length rv_0.g.Bound), .osl 3 4 (0) (List.length rv_0.g.Nodes), .osl 4 4 (0) (List.length rv_0.g.Edges), .v (.int .i64 rv_0.e)]), (1, .arr 1 (enc rv_0.g.Parent)), (2, .arr 1 (enc rv_0.g.Bound)), (3, .con (ownK 4 3 (enc rv_0.g.Nodes) none) []), (4, .arr 4 (enc rv_0.g.Edges))] 5 (.v (.int .i64 r.1)) [(0, .box [.osl 5 1 (0) (List.length r.2.g.Parent), .osl 6 1 (0) (List.length r.2.g.Bound), .osl 3 4 (0) (List.length r.2.g.Nodes), .osl 7 4 (0) (List.length r.2.g.Edges), .v (.int .i64 r.2.e)]), (3, .con (ownK 4 3 (enc r.2.g.Nodes) none) []), (5, .arr 1 (enc r.2.g.Parent)), (6, .arr 1 (enc r.2.g.Bound)), (7, .arr 4 (enc r.2.g.Edges))] 8 := by
 unfold DetS
 refine Spec.of_vc Tryz.func62 rfl (by kernel_rfl) (by kernel_rfl) ?_
 rw [f_text_reader_name_p0_s0_0_s0_1_s0_2_s0_3] at h
 refine sg fun QQ1 hQ1 => ?_
 simp only [go_sem]
 refine seqQ_normal hQ1 ?_
 refine sg fun QQ2 hQ2 => ?_
 obtain ⟨v_0, ev_0, h⟩ := bindO_some h
 simp only [go_sem]
 refine call0 (f_slices_Index_string_ok names_0 w_0 v_0 ev_0) (by rfl) (by rfl) ?_
 simp only [go_sem]
 refine seqQ_normal hQ2 ?_
 refine vc_join (by kernel_rfl) ?_
 refine seq_go_gen ?_
 intro QQ3 hQ3
 refine sg fun QQ4 hQ4 => ?_
 simp only [go_sem]
 refine seqQ_normal hQ4 ?_
 refine vc_cond_of (b := (decide (v_0 < 0))) (by (simp only [go_sem]; done)) (fun hb_0 => ?_) (fun hb_0 => ?_)
 ·
  replace h := if_t h hb_0
  simp only [bool_to_prop] at hb_0
  obtain ⟨v_1, ev_1, h⟩ := bindO_some h
  simp only [go_sem]
  refine callD [0, 1, 2, 3, 4] (f_text_reader_fail_p0_s0_0_s0_1_s0_2_s0_3_det rv_0 4 v_1 ev_1) (by simp) rfl ⟨rfl, ⟨rfl, ⟨rfl, ⟨rfl, ⟨rfl, trivial⟩⟩⟩⟩⟩ rfl rfl rfl rfl ?_
  simp only [go_sem]
  refine seqQ_normal hQ3 ?_
  refine sg fun QQ5 hQ5 => ?_
  simp only [go_sem]
  refine seqQ_normal hQ5 ?_
  refine vc_ret_of ?_
  simp only [go_sem]
  obtain rfl := Option.some.inj h
  refine retW_det [some 5, some 6, some 7] ?_
  simp only [go_sem, Le] <;> (repeat' apply And.intro) <;> first | ((try with_reducible refine TL_eq ?_); omega) | ((try with_reducible refine TL_eq ?_); (simp [go_sem]; done))
 ·
  replace h := if_f h hb_0
  simp only [bool_to_prop] at hb_0
  refine vc_skip_of ?_
  refine seqQ_normal hQ3 ?_
  refine sg fun QQ6 hQ6 => ?_
  simp only [go_sem]
  refine seqQ_normal hQ6 ?_
  refine vc_ret_of ?_
  simp only [go_sem]
  obtain rfl := Option.some.inj h
  refine retW_det [some 1, some 2, some 4] ?_
  simp only [go_sem, Le] <;> (repeat' apply And.intro) <;> first | ((try with_reducible refine TL_eq ?_); omega) | ((try with_reducible refine TL_eq ?_); (simp [go_sem]; done))

def f_text_reader_scope_p0_s0_0_s0_1_s0_2_s0_3 (rv_0 : GText_reader) (w_0 : List GStr) : Option GText_reader :=
 bindO (f_text_reader_small_p0_s0_0_s0_1_s0_2_s0_3 rv_0 w_0) (fun (v_0 : (List Int) × GText_reader) =>
 bindO (f_text_reader_fits_p0_s0_0_s0_1_s0_2_s0_3 v_0.2 v_0.1) (fun (v_1 : GText_reader) =>
 bindO (f_text_reader_room_p0_s0_0_s0_1_s0_2_s0_3 v_1 (List.length v_1.g.Parent : Int) 8) (fun (v_2 : GText_reader) =>
 bindO (idx v_0.1 0) (fun (xv_0 : Int) =>
 guardO ((List.length v_2.g.Parent + List.length ([xv_0] : List Int)) * 8 ≤ 140737488355328) (
 bindO (idx v_0.1 1) (fun (xv_1 : Int) =>
 guardO ((List.length v_2.g.Bound + List.length ([xv_1] : List Int)) * 8 ≤ 140737488355328) (
 some (⟨(⟨(v_2.g.Parent ++ ([xv_0] : List Int)), (v_2.g.Bound ++ ([xv_1] : List Int)), v_2.g.Nodes, v_2.g.Edges⟩ : GGraph), v_2.e⟩ : GText_reader))))))))
theorem f_text_reader_scope_p0_s0_0_s0_1_s0_2_s0_3_det (rv_0 : GText_reader) (w_0 : List GStr)  (r : GText_reader) (h : f_text_reader_scope_p0_s0_0_s0_1_s0_2_s0_3 rv_0 w_0 = some r) : DetS Tryz.prog 40 [.ptr 0 0, .sl 1 (enc w_0)] [(0, .box [.osl 1 1 (0) (List.length rv_0.g.Parent), .osl 2 1 (0) (List.length rv_0.g.Bound), .osl 3 4 (0) (List.length rv_0.g.Nodes), .osl 4 4 (0) (List.length rv_0.g.Edges), .v (.int .i64 rv_0.e)]), (1, .arr 1 (enc rv_0.g.Parent)), (2, .arr 1 (enc rv_0.g.Bound)), (3, .con (ownK 4 3 (enc rv_0.g.Nodes) none) []), (4, .arr 4 (enc rv_0.g.Edges))] 5 (.tup []) [(0, .box [.osl 5 1 (0) (List.length r.g.Parent), .osl 6 1 (0) (List.length r.g.Bound), .osl 3 4 (0) (List.length r.g.Nodes), .osl 7 4 (0) (List.length r.g.Edges), .v (.int .i64 r.e)]), (3, .con (ownK 4 3 (enc r.g.Nodes) none) []), (5, .arr 1 (enc r.g.Parent)), (6, .arr 1 (enc r.g.Bound)), (7, .arr 4 (enc r.g.Edges))] 8 := by
 unfold DetS
 refine Spec.of_vc Tryz.func40 rfl (by kernel_rfl) (by kernel_rfl) ?_
 rw [f_text_reader_scope_p0_s0_0_s0_1_s0_2_s0_3] at h
 refine sg fun QQ1 hQ1 => ?_
 obtain ⟨v_0, ev_0, h⟩ := bindO_some h
 simp only [go_sem]
 refine callD [0, 1, 2, 3, 4] (f_text_reader_small_p0_s0_0_s0_1_s0_2_s0_3_det rv_0 w_0 v_0 ev_0) (by simp) rfl ⟨rfl, ⟨rfl, ⟨rfl, ⟨rfl, ⟨rfl, trivial⟩⟩⟩⟩⟩ rfl rfl rfl rfl ?_
 simp only [go_sem]
 refine seqQ_normal hQ1 ?_
 refine sg fun QQ2 hQ2 => ?_
 obtain ⟨v_1, ev_1, h⟩ := bindO_some h
 simp only [go_sem]
 refine callF_weak (s' := (⟨5, [(0, .ptr 0 0), (4, .sl 1 (enc v_0.1))], [(0, .box [.osl 5 1 (0) (List.length v_0.2.g.Parent), .osl 6 1 (0) (List.length v_0.2.g.Bound), .osl 3 4 (0) (List.length v_0.2.g.Nodes), .osl 7 4 (0) (List.length v_0.2.g.Edges), .v (.int .i64 v_0.2.e)]), (3, .con (ownK 4 3 (enc v_0.2.g.Nodes) none) []), (5, .arr 1 (enc v_0.2.g.Parent)), (6, .arr 1 (enc v_0.2.g.Bound)), (7, .arr 4 (enc v_0.2.g.Edges))], 8, 47⟩ : St)) (l := [some 6, some 7, some 8]) (args' := [.ptr 0 0, .sl 1 (enc v_0.1)]) ?_ ?_ ?_ --K[0];[3]
 · simp only [go_sem, Le] <;> (repeat' apply And.intro) <;> first | ((try with_reducible refine TL_eq ?_); omega) | ((try with_reducible refine TL_eq ?_); (simp [go_sem]; done))
 · simp only [go_sem, Le] <;> (repeat' apply And.intro) <;> ((try with_reducible refine TL_eq ?_); (simp [go_sem]; done))
 refine callD [0, 5, 6, 3, 7] (f_text_reader_fits_p0_s0_0_s0_1_s0_2_s0_3_det v_0.2 v_0.1 v_1 ev_1) (by simp) rfl ⟨rfl, ⟨rfl, ⟨rfl, ⟨rfl, ⟨rfl, trivial⟩⟩⟩⟩⟩ rfl rfl rfl rfl ?_
 simp only [go_sem]
 refine seqQ_normal hQ2 ?_
 refine sg fun QQ3 hQ3 => ?_
 obtain ⟨v_2, ev_2, h⟩ := bindO_some h
 simp only [go_sem]
 refine callD [0, 8, 9, 3, 10] (f_text_reader_room_p0_s0_0_s0_1_s0_2_s0_3_det v_1 (List.length v_1.g.Parent : Int) 8 v_2 ev_2) (by simp) rfl ⟨rfl, ⟨rfl, ⟨rfl, ⟨rfl, ⟨rfl, trivial⟩⟩⟩⟩⟩ rfl rfl rfl rfl ?_
 simp only [go_sem]
 refine seqQ_normal hQ3 ?_
 refine vc_draw ?_
 refine drawV_at 26 0 0 [0, 0, 0, 4, 12, 28, 60, 0, 128, 384, 896, 2044, 0, 4096, 12288, 28672, 61440, 0, 131072, 393216, 917504, 2097148, 4194301, 8388605, 16777213, 33554429, 67108863, 134217727, 268435455, 536870911] (fun j => ([[11, 12, 14, 15], [0, 11, 12, 14, 15], [], [], [], [], [], [], [], [], [], [11, 14], [11, 14], [11, 14], [11, 14], [11, 14], [11, 14], [11, 14], [11, 14], [11, 14], [11, 14], [12, 15], [], [], [], [0]] : List (List Nat)).getD j []) [0, 1, 12, 13, 14, 15, 16, 17, 18, 19, 20] [] [11, 21, 25] [] (by kernel_rfl) mixed (by kernel_rfl) (of_decide_eq_true (by kernel_rfl)) (by kernel_rfl) (by kernel_rfl) (by rfl) ?_
 obtain ⟨xv_0, exv_0, h⟩ := bindO_some h
 obtain ⟨fxv_0a, fxv_0b, fxv_0c⟩ := idx_spec exv_0
 simp only [Int.toNat_natCast, Int.reduceToNat] at fxv_0c
 have rf_0 : [[.v (.int .i64 xv_0)]] = enc ([xv_0] : List Int) := by rfl
 obtain ⟨g_0, h⟩ := guardO_some h
 simp only [List.length_cons, List.length_nil, Nat.zero_add, List.length_append] at g_0
 have rf_1 : enc v_2.g.Parent ++ [[.v (.int .i64 xv_0)]] = enc (v_2.g.Parent ++ ([xv_0] : List Int)) := by exact (enc_app v_2.g.Parent ([xv_0] : List Int)).symm
 obtain ⟨xv_1, exv_1, h⟩ := bindO_some h
 obtain ⟨fxv_1a, fxv_1b, fxv_1c⟩ := idx_spec exv_1
 simp only [Int.toNat_natCast, Int.reduceToNat] at fxv_1c
 have rf_2 : [[.v (.int .i64 xv_1)]] = enc ([xv_1] : List Int) := by rfl
 obtain ⟨g_1, h⟩ := guardO_some h
 simp only [List.length_cons, List.length_nil, Nat.zero_add, List.length_append] at g_1
 have rf_3 : enc v_2.g.Bound ++ [[.v (.int .i64 xv_1)]] = enc (v_2.g.Bound ++ ([xv_1] : List Int)) := by exact (enc_app v_2.g.Bound ([xv_1] : List Int)).symm
 simp only [go_sem, fxv_0a, fxv_0b, fxv_0c, g_0, rf_1, fxv_1a, fxv_1b, fxv_1c, g_1, rf_3]
 refine And.intro (by omega) ?_
 refine And.intro (by omega) ?_
 simp only [rf_0, rf_2]
 obtain rfl := Option.some.inj h
 refine retW_det [some 14, some 15, some 13] ?_
 simp only [go_sem, Le] <;> (repeat' apply And.intro) <;> first | ((try with_reducible refine TL_eq ?_); omega) | ((try with_reducible refine TL_eq ?_); (simp [go_sem]; done))

def f_text_reader_node_p0_s0_0_s0_1_s0_2_s0_3 (rv_0 : GText_reader) (w_0 : List GStr) : Option GText_reader :=
 bindO (f_text_kinds) (fun (v_0 : List GStr) =>
 bindO (idx w_0 0) (fun (xv_0 : GStr) =>
 bindO (f_text_reader_name_p0_s0_0_s0_1_s0_2_s0_3 rv_0 v_0 xv_0.s) (fun (v_1 : Int × GText_reader) =>
 bindO (idx w_0 1) (fun (xv_1 : GStr) =>
 bindO (f_text_reader_small_p0_s0_0_s0_1_s0_2_s0_3 v_1.2 ([xv_1] : List GStr)) (fun (v_2 : (List Int) × GText_reader) =>
 bindO (idx w_0 2) (fun (xv_2 : GStr) =>
 bindO (f_text_reader_number_p0_s0_0_s0_1_s0_2_s0_3 v_2.2 xv_2.s) (fun (v_3 : Int × GText_reader) =>
 bindO (f_text_reader_fits_p0_s0_0_s0_1_s0_2_s0_3 v_3.2 v_2.1) (fun (v_4 : GText_reader) =>
 bindO (f_text_reader_room_p0_s0_0_s0_1_s0_2_s0_3 v_4 (List.length v_4.g.Nodes : Int) 32) (fun (v_5 : GText_reader) =>
 bindO (idx v_2.1 0) (fun (xv_3 : Int) =>
 guardO ((List.length v_5.g.Nodes + 1) * 48 ≤ 140737488355328) (
 some (⟨(⟨v_5.g.Parent, v_5.g.Bound, (v_5.g.Nodes ++ ([(⟨v_1.1, xv_3, v_3.1, ([] : List GIns)⟩ : GNode)] : List GNode)), v_5.g.Edges⟩ : GGraph), v_5.e⟩ : GText_reader))))))))))))
theorem f_text_reader_node_p0_s0_0_s0_1_s0_2_s0_3_det (rv_0 : GText_reader) (w_0 : List GStr)  (r : GText_reader) (h : f_text_reader_node_p0_s0_0_s0_1_s0_2_s0_3 rv_0 w_0 = some r) : DetS Tryz.prog 41 [.ptr 0 0, .sl 1 (enc w_0)] [(0, .box [.osl 1 1 (0) (List.length rv_0.g.Parent), .osl 2 1 (0) (List.length rv_0.g.Bound), .osl 3 4 (0) (List.length rv_0.g.Nodes), .osl 4 4 (0) (List.length rv_0.g.Edges), .v (.int .i64 rv_0.e)]), (1, .arr 1 (enc rv_0.g.Parent)), (2, .arr 1 (enc rv_0.g.Bound)), (3, .con (ownK 4 3 (enc rv_0.g.Nodes) none) []), (4, .arr 4 (enc rv_0.g.Edges))] 5 (.tup []) [(0, .box [.osl 5 1 (0) (List.length r.g.Parent), .osl 6 1 (0) (List.length r.g.Bound), .osl 7 4 (0) (List.length r.g.Nodes), .osl 8 4 (0) (List.length r.g.Edges), .v (.int .i64 r.e)]), (5, .arr 1 (enc r.g.Parent)), (6, .arr 1 (enc r.g.Bound)), (7, .con (ownK 4 3 (enc r.g.Nodes) none) []), (8, .arr 4 (enc r.g.Edges))] 9 := by
 unfold DetS
 refine Spec.of_wp Tryz.func41 rfl (by kernel_rfl) (by kernel_rfl) ?_
 rw [f_text_reader_node_p0_s0_0_s0_1_s0_2_s0_3] at h
 refine sgW fun QQ1 hQ1 => ?_
 refine wv ?_
 refine vc_draw ?_
 refine drawM_tail 5 [0, 0, 0, 4, 12, 31, 63] mixed (by kernel_rfl) (of_decide_eq_true (by kernel_rfl)) (by kernel_rfl) ?_
 obtain ⟨v_0, ev_0, h⟩ := bindO_some h
 simp only [go_sem]
 refine callq (fun _ => (f_text_kinds_ok v_0 ev_0)) (by rfl) (by rfl) ?_
 obtain ⟨xv_0, exv_0, h⟩ := bindO_some h
 obtain ⟨fxv_0a, fxv_0b, fxv_0c⟩ := idx_spec exv_0
 simp only [Int.toNat_natCast, Int.reduceToNat] at fxv_0c
 obtain ⟨v_1, ev_1, h⟩ := bindO_some h
 simp only [go_sem, fxv_0a, fxv_0b, fxv_0c]
 refine And.intro (by omega) ?_
 refine callD [0, 1, 2, 3, 4] (f_text_reader_name_p0_s0_0_s0_1_s0_2_s0_3_det rv_0 v_0 xv_0.s v_1 ev_1) (by simp) rfl ⟨rfl, ⟨rfl, ⟨rfl, ⟨rfl, ⟨rfl, trivial⟩⟩⟩⟩⟩ rfl rfl rfl rfl ?_
 simp only [go_sem]
 refine seqW_normal hQ1 ?_
 refine sgW fun QQ2 hQ2 => ?_
 refine wv ?_
 obtain ⟨xv_1, exv_1, h⟩ := bindO_some h
 obtain ⟨fxv_1a, fxv_1b, fxv_1c⟩ := idx_spec exv_1
 simp only [Int.toNat_natCast, Int.reduceToNat] at fxv_1c
 have rf_0 : [[.v (.string ⟨⟨xv_1.s⟩⟩)]] = enc ([xv_1] : List GStr) := by rfl
 obtain ⟨v_2, ev_2, h⟩ := bindO_some h
 simp only [go_sem, fxv_1a, fxv_1b, fxv_1c]
 refine And.intro (by omega) ?_
 simp only [rf_0]
 refine callF_weak (s' := (⟨5, [(0, .ptr 0 0), (1, .sl 1 (enc w_0)), (4, .v (.int .i64 v_1.1))], [(0, .box [.osl 5 1 (0) (List.length v_1.2.g.Parent), .osl 6 1 (0) (List.length v_1.2.g.Bound), .osl 3 4 (0) (List.length v_1.2.g.Nodes), .osl 7 4 (0) (List.length v_1.2.g.Edges), .v (.int .i64 v_1.2.e)]), (3, .con (ownK 4 3 (enc v_1.2.g.Nodes) none) []), (5, .arr 1 (enc v_1.2.g.Parent)), (6, .arr 1 (enc v_1.2.g.Bound)), (7, .arr 4 (enc v_1.2.g.Edges))], 8, 52⟩ : St)) (l := [some 5, some 6, some 7]) (args' := [.ptr 0 0, .sl 1 (enc ([xv_1] : List GStr))]) ?_ ?_ ?_ --K[0,1,4];[0,3,5,6,7]
 · simp only [go_sem, Le] <;> (repeat' apply And.intro) <;> first | ((try with_reducible refine TL_eq ?_); omega) | ((try with_reducible refine TL_eq ?_); (simp [go_sem]; done))
 · simp only [go_sem, Le] <;> (repeat' apply And.intro) <;> ((try with_reducible refine TL_eq ?_); (simp [go_sem]; done))
 refine callD [0, 5, 6, 3, 7] (f_text_reader_small_p0_s0_0_s0_1_s0_2_s0_3_det v_1.2 ([xv_1] : List GStr) v_2 ev_2) (by simp) rfl ⟨rfl, ⟨rfl, ⟨rfl, ⟨rfl, ⟨rfl, trivial⟩⟩⟩⟩⟩ rfl rfl rfl rfl ?_
 simp only [go_sem]
 refine seqW_normal hQ2 ?_
 refine sgW fun QQ3 hQ3 => ?_
 refine wv ?_
 obtain ⟨xv_2, exv_2, h⟩ := bindO_some h
 obtain ⟨fxv_2a, fxv_2b, fxv_2c⟩ := idx_spec exv_2
 simp only [Int.toNat_natCast, Int.reduceToNat] at fxv_2c
 obtain ⟨v_3, ev_3, h⟩ := bindO_some h
 simp only [go_sem, fxv_2a, fxv_2b, fxv_2c]
 refine And.intro (by omega) ?_
 refine callD [0, 9, 10, 3, 11] (f_text_reader_number_p0_s0_0_s0_1_s0_2_s0_3_det v_2.2 xv_2.s v_3 ev_3) (by simp) rfl ⟨rfl, ⟨rfl, ⟨rfl, ⟨rfl, ⟨rfl, trivial⟩⟩⟩⟩⟩ rfl rfl rfl rfl ?_
 simp only [go_sem]
 refine seqW_normal hQ3 ?_
 refine sgW fun QQ4 hQ4 => ?_
 refine wv ?_
 obtain ⟨v_4, ev_4, h⟩ := bindO_some h
 simp only [go_sem]
 refine callF_weak (s' := (⟨5, [(0, .ptr 0 0), (4, .v (.int .i64 v_1.1)), (5, .sl 1 (enc v_2.1)), (6, .v (.int .i64 v_3.1))], [(0, .box [.osl 5 1 (0) (List.length v_3.2.g.Parent), .osl 6 1 (0) (List.length v_3.2.g.Bound), .osl 3 4 (0) (List.length v_3.2.g.Nodes), .osl 7 4 (0) (List.length v_3.2.g.Edges), .v (.int .i64 v_3.2.e)]), (3, .con (ownK 4 3 (enc v_3.2.g.Nodes) none) []), (5, .arr 1 (enc v_3.2.g.Parent)), (6, .arr 1 (enc v_3.2.g.Bound)), (7, .arr 4 (enc v_3.2.g.Edges))], 8, 52⟩ : St)) (l := [some 12, some 13, some 14]) (args' := [.ptr 0 0, .sl 1 (enc v_2.1)]) ?_ ?_ ?_ --K[0,4,6];[3]
 · simp only [go_sem, Le] <;> (repeat' apply And.intro) <;> first | ((try with_reducible refine TL_eq ?_); omega) | ((try with_reducible refine TL_eq ?_); (simp [go_sem]; done))
 · simp only [go_sem, Le] <;> (repeat' apply And.intro) <;> ((try with_reducible refine TL_eq ?_); (simp [go_sem]; done))
 refine callD [0, 5, 6, 3, 7] (f_text_reader_fits_p0_s0_0_s0_1_s0_2_s0_3_det v_3.2 v_2.1 v_4 ev_4) (by simp) rfl ⟨rfl, ⟨rfl, ⟨rfl, ⟨rfl, ⟨rfl, trivial⟩⟩⟩⟩⟩ rfl rfl rfl rfl ?_
 simp only [go_sem]
 refine seqW_normal hQ4 ?_
 refine sgW fun QQ5 hQ5 => ?_
 refine wv ?_
 obtain ⟨v_5, ev_5, h⟩ := bindO_some h
 simp only [go_sem]
 refine callD [0, 8, 9, 3, 10] (f_text_reader_room_p0_s0_0_s0_1_s0_2_s0_3_det v_4 (List.length v_4.g.Nodes : Int) 32 v_5 ev_5) (by simp) rfl ⟨rfl, ⟨rfl, ⟨rfl, ⟨rfl, ⟨rfl, trivial⟩⟩⟩⟩⟩ rfl rfl rfl rfl ?_
 simp only [go_sem]
 refine seqW_normal hQ5 ?_
 refine reW (fun _ _ _ _ H => H.hintI) ?_
 refine postW ?_
 refine wv ?_
 refine vc_draw ?_
 refine drawV_all 14 0 0 [0, 0, 2, 6, 14, 30, 0, 0, 128, 384, 0, 1984, 4032, 8190, 16383, 32767, 65535, 131071] [3, 15] [0] [] [13] [] mixed (by kernel_rfl) (of_decide_eq_true (by kernel_rfl)) (by kernel_rfl) (by kernel_rfl) (by rfl) ?_
 obtain ⟨xv_3, exv_3, h⟩ := bindO_some h
 obtain ⟨fxv_3a, fxv_3b, fxv_3c⟩ := idx_spec exv_3
 simp only [Int.toNat_natCast, Int.reduceToNat] at fxv_3c
 have rf_1 : [[.v (.int .i64 v_1.1), .v (.int .i64 xv_3), .v (.int .i64 v_3.1), .sl 2 (enc ([] : List GIns))]] = enc ([(⟨v_1.1, xv_3, v_3.1, ([] : List GIns)⟩ : GNode)] : List GNode) := by rfl
 have rf_1n := rf_1
 simp only [enc_nil] at rf_1n
 obtain ⟨g_0, h⟩ := guardO_some h
 simp only [go_sem, fxv_3a, fxv_3b, fxv_3c]
 refine And.intro (by omega) ?_
 refine opS_append1 [.v (.int .i64 v_1.1), .v (.int .i64 xv_3), .v (.int .i64 v_3.1)] [] 2 ?_ rfl rfl rfl rfl trivial trivial rfl rfl rfl (enc_len _).symm rfl trivial ty23_e ty43_has ty43_z ty43_sz.symm ty43_sz.symm ty43_sz.symm (ty43_by.symm ▸ Nat.zero_lt_succ _) (by rw [ty43_by, enc_len]; omega)
 have rf_2 : enc v_5.g.Nodes ++ [[.v (.int .i64 v_1.1), .v (.int .i64 xv_3), .v (.int .i64 v_3.1), .sl 2 (enc ([] : List GIns))]] = enc (v_5.g.Nodes ++ ([(⟨v_1.1, xv_3, v_3.1, ([] : List GIns)⟩ : GNode)] : List GNode)) := by exact (enc_app v_5.g.Nodes ([(⟨v_1.1, xv_3, v_3.1, ([] : List GIns)⟩ : GNode)] : List GNode)).symm
 simp only [enc_nil] at rf_2
 simp only [go_sem, rf_2, enc_len]
 refine postQ_done ?_
 simp only [go_sem]
 obtain rfl := Option.some.inj h
 refine retW_det [some 11, some 12, some 15, some 13] ?_
 simp only [go_sem, Le] <;> (repeat' apply And.intro) <;> first | ((try with_reducible refine TL_eq ?_); omega) | ((try with_reducible refine TL_eq ?_); (simp [go_sem]; done))

def f_text_reader_ins_p0_s0_0_s0_1_s0_2_s0_3 (rv_0 : GText_reader) (w_0 : List GStr) : Option GText_reader :=
 bindO (f_text_codes) (fun (v_0 : List GStr) =>
 bindO (idx w_0 0) (fun (xv_0 : GStr) =>
 bindO (f_text_reader_name_p0_s0_0_s0_1_s0_2_s0_3 rv_0 v_0 xv_0.s) (fun (v_1 : Int × GText_reader) =>
 bindO (idx w_0 1) (fun (xv_1 : GStr) =>
 bindO (f_text_reader_number_p0_s0_0_s0_1_s0_2_s0_3 v_1.2 xv_1.s) (fun (v_2 : Int × GText_reader) =>
 (if (decide ((IntKind.i64.wrap ((List.length v_2.2.g.Nodes : Int) - 1)) < 0)) = true then bindO (f_text_reader_fail_p0_s0_0_s0_1_s0_2_s0_3 v_2.2 4) (fun (v_3 : GText_reader) =>
 some v_3)
 else bindO (idx v_2.2.g.Nodes (IntKind.i64.wrap ((List.length v_2.2.g.Nodes : Int) - 1))) (fun (xv_2 : GNode) =>
 bindO (f_text_reader_room_p0_s0_0_s0_1_s0_2_s0_3 v_2.2 (List.length xv_2.Prog : Int) 64) (fun (v_4 : GText_reader) =>
 bindO (idx v_4.g.Nodes (IntKind.i64.wrap ((List.length v_2.2.g.Nodes : Int) - 1))) (fun (xv_3 : GNode) =>
 guardO ((List.length xv_3.Prog + List.length ([(⟨v_1.1, v_2.1⟩ : GIns)] : List GIns)) * 16 ≤ 140737488355328) (
 some (⟨(⟨v_4.g.Parent, v_4.g.Bound, (List.set v_4.g.Nodes (Int.toNat (IntKind.i64.wrap ((List.length v_2.2.g.Nodes : Int) - 1))) (⟨xv_3.Kind, xv_3.Scope, xv_3.Arg, (xv_3.Prog ++ ([(⟨v_1.1, v_2.1⟩ : GIns)] : List GIns))⟩ : GNode)), v_4.g.Edges⟩ : GGraph), v_4.e⟩ : GText_reader)))))))))))
theorem f_text_reader_ins_p0_s0_0_s0_1_s0_2_s0_3_det (rv_0 : GText_reader) (w_0 : List GStr)  (r : GText_reader) (h : f_text_reader_ins_p0_s0_0_s0_1_s0_2_s0_3 rv_0 w_0 = some r) : DetS Tryz.prog 42 [.ptr 0 0, .sl 1 (enc w_0)] [(0, .box [.osl 1 1 (0) (List.length rv_0.g.Parent), .osl 2 1 (0) (List.length rv_0.g.Bound), .osl 3 4 (0) (List.length rv_0.g.Nodes), .osl 4 4 (0) (List.length rv_0.g.Edges), .v (.int .i64 rv_0.e)]), (1, .arr 1 (enc rv_0.g.Parent)), (2, .arr 1 (enc rv_0.g.Bound)), (3, .con (ownK 4 3 (enc rv_0.g.Nodes) none) []), (4, .arr 4 (enc rv_0.g.Edges))] 5 (.tup []) [(0, .box [.osl 5 1 (0) (List.length r.g.Parent), .osl 6 1 (0) (List.length r.g.Bound), .osl 3 4 (0) (List.length r.g.Nodes), .osl 7 4 (0) (List.length r.g.Edges), .v (.int .i64 r.e)]), (3, .con (ownK 4 3 (enc r.g.Nodes) none) []), (5, .arr 1 (enc r.g.Parent)), (6, .arr 1 (enc r.g.Bound)), (7, .arr 4 (enc r.g.Edges))] 8 := by
 unfold DetS
 refine Spec.of_wp Tryz.func42 rfl (by kernel_rfl) (by kernel_rfl) ?_
 rw [f_text_reader_ins_p0_s0_0_s0_1_s0_2_s0_3] at h
 refine sgW fun QQ1 hQ1 => ?_
 refine wv ?_
 refine vc_draw ?_
 refine drawM_tail 5 [0, 0, 0, 4, 12, 31, 63] mixed (by kernel_rfl) (of_decide_eq_true (by kernel_rfl)) (by kernel_rfl) ?_
 obtain ⟨v_0, ev_0, h⟩ := bindO_some h
 simp only [go_sem]
 refine callq (fun _ => (f_text_codes_ok v_0 ev_0)) (by rfl) (by rfl) ?_
 obtain ⟨xv_0, exv_0, h⟩ := bindO_some h
 obtain ⟨fxv_0a, fxv_0b, fxv_0c⟩ := idx_spec exv_0
 simp only [Int.toNat_natCast, Int.reduceToNat] at fxv_0c
 obtain ⟨v_1, ev_1, h⟩ := bindO_some h
 simp only [go_sem, fxv_0a, fxv_0b, fxv_0c]
 refine And.intro (by omega) ?_
 refine callD [0, 1, 2, 3, 4] (f_text_reader_name_p0_s0_0_s0_1_s0_2_s0_3_det rv_0 v_0 xv_0.s v_1 ev_1) (by simp) rfl ⟨rfl, ⟨rfl, ⟨rfl, ⟨rfl, ⟨rfl, trivial⟩⟩⟩⟩⟩ rfl rfl rfl rfl ?_
 simp only [go_sem]
 refine seqW_normal hQ1 ?_
 refine sgW fun QQ2 hQ2 => ?_
 refine wv ?_
 obtain ⟨xv_1, exv_1, h⟩ := bindO_some h
 obtain ⟨fxv_1a, fxv_1b, fxv_1c⟩ := idx_spec exv_1
 simp only [Int.toNat_natCast, Int.reduceToNat] at fxv_1c
 obtain ⟨v_2, ev_2, h⟩ := bindO_some h
 simp only [go_sem, fxv_1a, fxv_1b, fxv_1c]
 refine And.intro (by omega) ?_
 refine callD [0, 5, 6, 3, 7] (f_text_reader_number_p0_s0_0_s0_1_s0_2_s0_3_det v_1.2 xv_1.s v_2 ev_2) (by simp) rfl ⟨rfl, ⟨rfl, ⟨rfl, ⟨rfl, ⟨rfl, trivial⟩⟩⟩⟩⟩ rfl rfl rfl rfl ?_
 simp only [go_sem]
 refine seqW_normal hQ2 ?_
 refine sgW fun QQ3 hQ3 => ?_
 refine wv ?_
 simp only [go_sem]
 refine seqW_normal hQ3 ?_
 refine sgW fun QQ4 hQ4 => ?_
 refine sgW fun QQ5 hQ5 => ?_
 refine wv ?_
 simp only [go_sem]
 refine seqW_normal hQ5 ?_
 refine condW_of (b := (decide ((IntKind.i64.wrap ((List.length v_2.2.g.Nodes : Int) - 1)) < 0))) (by (simp only [go_sem]; done)) (fun hb_0 => ?_) (fun hb_0 => ?_)
 ·
  replace h := if_t h hb_0
  simp only [bool_to_prop] at hb_0
  refine sgW fun QQ6 hQ6 => ?_
  refine wv ?_
  obtain ⟨v_3, ev_3, h⟩ := bindO_some h
  simp only [go_sem]
  refine callD [0, 8, 9, 3, 10] (f_text_reader_fail_p0_s0_0_s0_1_s0_2_s0_3_det v_2.2 4 v_3 ev_3) (by simp) rfl ⟨rfl, ⟨rfl, ⟨rfl, ⟨rfl, ⟨rfl, trivial⟩⟩⟩⟩⟩ rfl rfl rfl rfl ?_
  simp only [go_sem]
  refine seqW_normal hQ6 ?_
  refine wv ?_
  refine vc_ret_of ?_
  refine seqW_ret hQ4 ?_
  simp only [go_sem]
  obtain rfl := Option.some.inj h
  refine retW_det [some 11, some 12, some 13] ?_
  simp only [go_sem, Le] <;> (repeat' apply And.intro) <;> first | ((try with_reducible refine TL_eq ?_); omega) | ((try with_reducible refine TL_eq ?_); (simp [go_sem]; done))
 ·
  replace h := if_f h hb_0
  simp only [bool_to_prop] at hb_0
  refine wv ?_
  refine vc_skip_of ?_
  refine seqW_normal hQ4 ?_
  refine sgW fun QQ7 hQ7 => ?_
  refine wv ?_
  obtain ⟨xv_2, exv_2, h⟩ := bindO_some h
  obtain ⟨fxv_2a, fxv_2b, fxv_2c⟩ := idx_spec exv_2
  simp only [go_sem, fxv_2a, fxv_2b, fxv_2c]
  refine seqW_normal hQ7 ?_
  refine sgW fun QQ8 hQ8 => ?_
  refine reW (fun _ _ _ _ H => H.openI (id := 3) (i := Int.toNat (IntKind.i64.wrap ((List.length v_2.2.g.Nodes : Int) - 1))) (pre := [.v (.int .i64 xv_2.Kind), .v (.int .i64 xv_2.Scope), .v (.int .i64 xv_2.Arg)]) (post := []) rfl (by simp only [enc_len]; omega) fxv_2c rfl) ?_
  refine postW ?_
  refine wpV_reg ?_
  refine sufV_at 6 ?_
  simp only [go_sem, fxv_2a, fxv_2b, fxv_2c]
  have rf_0 : (enc v_2.2.g.Nodes).set (Int.toNat (IntKind.i64.wrap ((List.length v_2.2.g.Nodes : Int) - 1))) [.v (.int .i64 xv_2.Kind), .v (.int .i64 xv_2.Scope), .v (.int .i64 xv_2.Arg), .sl 2 (enc xv_2.Prog)] = enc v_2.2.g.Nodes := set_self fxv_2c
  refine sufV_re (fun _ _ _ _ H => H.closeI (id := 3) (id2 := 11) (pre := [.v (.int .i64 xv_2.Kind), .v (.int .i64 xv_2.Scope), .v (.int .i64 xv_2.Arg)]) (post := []) rfl rfl rfl (by simp [enc_len]) rfl rfl rfl rf_0.symm) ?_
  refine sufV_all ?_
  obtain ⟨v_4, ev_4, h⟩ := bindO_some h
  simp only [go_sem]
  refine callD [0, 8, 9, 3, 10] (f_text_reader_room_p0_s0_0_s0_1_s0_2_s0_3_det v_2.2 (List.length xv_2.Prog : Int) 64 v_4 ev_4) (by simp) rfl ⟨rfl, ⟨rfl, ⟨rfl, ⟨rfl, ⟨rfl, trivial⟩⟩⟩⟩⟩ rfl rfl rfl rfl ?_
  simp only [go_sem]
  refine postQ_done ?_
  refine seqW_normal hQ8 ?_
  obtain ⟨xv_3, exv_3, h⟩ := bindO_some h
  obtain ⟨fxv_3a, fxv_3b, fxv_3c⟩ := idx_spec exv_3
  refine reW (fun _ _ _ _ H => H.openI (id := 3) (i := Int.toNat (IntKind.i64.wrap ((List.length v_2.2.g.Nodes : Int) - 1))) (pre := [.v (.int .i64 xv_3.Kind), .v (.int .i64 xv_3.Scope), .v (.int .i64 xv_3.Arg)]) (post := []) rfl (by simp only [enc_len]; omega) fxv_3c rfl) ?_
  refine postW ?_
  refine wv ?_
  have rf_1 : [[.v (.int .i64 v_1.1), .v (.int .i64 v_2.1)]] = enc ([(⟨v_1.1, v_2.1⟩ : GIns)] : List GIns) := by rfl
  obtain ⟨g_0, h⟩ := guardO_some h
  simp only [List.length_cons, List.length_nil, Nat.zero_add, List.length_append] at g_0
  have rf_2 : enc xv_3.Prog ++ [[.v (.int .i64 v_1.1), .v (.int .i64 v_2.1)]] = enc (xv_3.Prog ++ ([(⟨v_1.1, v_2.1⟩ : GIns)] : List GIns)) := by exact (enc_app xv_3.Prog ([(⟨v_1.1, v_2.1⟩ : GIns)] : List GIns)).symm
  simp only [go_sem, fxv_3a, fxv_3b, fxv_3c, g_0, rf_2]
  simp only [rf_1]
  have rf_3 : (enc v_4.g.Nodes).set (Int.toNat (IntKind.i64.wrap ((List.length v_2.2.g.Nodes : Int) - 1))) [.v (.int .i64 xv_3.Kind), .v (.int .i64 xv_3.Scope), .v (.int .i64 xv_3.Arg), .sl 2 (enc (xv_3.Prog ++ ([(⟨v_1.1, v_2.1⟩ : GIns)] : List GIns)))] = enc (List.set v_4.g.Nodes (Int.toNat (IntKind.i64.wrap ((List.length v_2.2.g.Nodes : Int) - 1))) (⟨xv_3.Kind, xv_3.Scope, xv_3.Arg, (xv_3.Prog ++ ([(⟨v_1.1, v_2.1⟩ : GIns)] : List GIns))⟩ : GNode)) := by exact enc_set v_4.g.Nodes (Int.toNat (IntKind.i64.wrap ((List.length v_2.2.g.Nodes : Int) - 1))) (⟨xv_3.Kind, xv_3.Scope, xv_3.Arg, (xv_3.Prog ++ ([(⟨v_1.1, v_2.1⟩ : GIns)] : List GIns))⟩ : GNode)
  refine postQ_go (fun _ _ _ _ H => H.closeI (id := 3) (id2 := 17) (pre := [.v (.int .i64 xv_3.Kind), .v (.int .i64 xv_3.Scope), .v (.int .i64 xv_3.Arg)]) (post := []) rfl rfl rfl (by simp [enc_len]) rfl rfl rfl rf_3.symm) ?_
  refine postQ_done ?_
  simp only [go_sem]
  obtain rfl := Option.some.inj h
  refine retW_det [some 12, some 13, some 14] ?_
  simp only [go_sem, Le] <;> (repeat' apply And.intro) <;> first | ((try with_reducible refine TL_eq ?_); omega) | ((try with_reducible refine TL_eq ?_); (simp [go_sem]; done))

def f_text_reader_edge_p0_s0_0_s0_1_s0_2_s0_3 (rv_0 : GText_reader) (w_0 : List GStr) : Option GText_reader :=
 guardO (0 ≤ 0 ∧ 0 ≤ 3 ∧ 3 ≤ (List.length w_0 : Int)) (
 bindO (f_text_reader_small_p0_s0_0_s0_1_s0_2_s0_3 rv_0 (List.take (Int.toNat 3) w_0)) (fun (v_0 : (List Int) × GText_reader) =>
 bindO (idx w_0 3) (fun (xv_0 : GStr) =>
 bindO (f_text_reader_name_p0_s0_0_s0_1_s0_2_s0_3 v_0.2 ([(⟨[112, 105, 112, 101]⟩ : GStr), (⟨[107, 101, 121]⟩ : GStr)] : List GStr) xv_0.s) (fun (v_1 : Int × GText_reader) =>
 bindO (f_text_reader_fits_p0_s0_0_s0_1_s0_2_s0_3 v_1.2 v_0.1) (fun (v_2 : GText_reader) =>
 bindO (f_text_reader_room_p0_s0_0_s0_1_s0_2_s0_3 v_2 (List.length v_2.g.Edges : Int) 64) (fun (v_3 : GText_reader) =>
 bindO (idx v_0.1 0) (fun (xv_1 : Int) =>
 bindO (idx v_0.1 1) (fun (xv_2 : Int) =>
 bindO (idx v_0.1 2) (fun (xv_3 : Int) =>
 guardO ((List.length v_3.g.Edges + List.length ([(⟨xv_1, xv_2, xv_3, v_1.1 == 2⟩ : GEdge)] : List GEdge)) * 32 ≤ 140737488355328) (
 some (⟨(⟨v_3.g.Parent, v_3.g.Bound, v_3.g.Nodes, (v_3.g.Edges ++ ([(⟨xv_1, xv_2, xv_3, v_1.1 == 2⟩ : GEdge)] : List GEdge))⟩ : GGraph), v_3.e⟩ : GText_reader)))))))))))
theorem f_text_reader_edge_p0_s0_0_s0_1_s0_2_s0_3_det (rv_0 : GText_reader) (w_0 : List GStr)  (r : GText_reader) (h : f_text_reader_edge_p0_s0_0_s0_1_s0_2_s0_3 rv_0 w_0 = some r) : DetS Tryz.prog 43 [.ptr 0 0, .sl 1 (enc w_0)] [(0, .box [.osl 1 1 (0) (List.length rv_0.g.Parent), .osl 2 1 (0) (List.length rv_0.g.Bound), .osl 3 4 (0) (List.length rv_0.g.Nodes), .osl 4 4 (0) (List.length rv_0.g.Edges), .v (.int .i64 rv_0.e)]), (1, .arr 1 (enc rv_0.g.Parent)), (2, .arr 1 (enc rv_0.g.Bound)), (3, .con (ownK 4 3 (enc rv_0.g.Nodes) none) []), (4, .arr 4 (enc rv_0.g.Edges))] 5 (.tup []) [(0, .box [.osl 5 1 (0) (List.length r.g.Parent), .osl 6 1 (0) (List.length r.g.Bound), .osl 3 4 (0) (List.length r.g.Nodes), .osl 7 4 (0) (List.length r.g.Edges), .v (.int .i64 r.e)]), (3, .con (ownK 4 3 (enc r.g.Nodes) none) []), (5, .arr 1 (enc r.g.Parent)), (6, .arr 1 (enc r.g.Bound)), (7, .arr 4 (enc r.g.Edges))] 8 := by
 unfold DetS
 refine Spec.of_vc Tryz.func43 rfl (by kernel_rfl) (by kernel_rfl) ?_
 rw [f_text_reader_edge_p0_s0_0_s0_1_s0_2_s0_3] at h
 refine sg fun QQ1 hQ1 => ?_
 obtain ⟨g_0, h⟩ := guardO_some h
 obtain ⟨v_0, ev_0, h⟩ := bindO_some h
 simp only [go_sem, g_0]
 refine callD [0, 1, 2, 3, 4] (f_text_reader_small_p0_s0_0_s0_1_s0_2_s0_3_det rv_0 (List.take (Int.toNat 3) w_0) v_0 ev_0) (by simp) rfl ⟨rfl, ⟨rfl, ⟨rfl, ⟨rfl, ⟨rfl, trivial⟩⟩⟩⟩⟩ rfl rfl rfl rfl ?_
 simp only [go_sem]
 refine seqQ_normal hQ1 ?_
 refine sg fun QQ2 hQ2 => ?_
 have rf_0 : [[.v (.string ⟨⟨[112, 105, 112, 101]⟩⟩)], [.v (.string ⟨⟨[107, 101, 121]⟩⟩)]] = enc ([(⟨[112, 105, 112, 101]⟩ : GStr), (⟨[107, 101, 121]⟩ : GStr)] : List GStr) := by rfl
 obtain ⟨xv_0, exv_0, h⟩ := bindO_some h
 obtain ⟨fxv_0a, fxv_0b, fxv_0c⟩ := idx_spec exv_0
 simp only [Int.toNat_natCast, Int.reduceToNat] at fxv_0c
 obtain ⟨v_1, ev_1, h⟩ := bindO_some h
 simp only [go_sem, fxv_0a, fxv_0b, fxv_0c]
 refine And.intro (by omega) ?_
 simp only [rf_0]
 refine callF_weak (s' := (⟨5, [(0, .ptr 0 0), (4, .osl 5 1 (0) (List.length v_0.1))], [(0, .box [.osl 6 1 (0) (List.length v_0.2.g.Parent), .osl 7 1 (0) (List.length v_0.2.g.Bound), .osl 3 4 (0) (List.length v_0.2.g.Nodes), .osl 8 4 (0) (List.length v_0.2.g.Edges), .v (.int .i64 v_0.2.e)]), (3, .con (ownK 4 3 (enc v_0.2.g.Nodes) none) []), (5, .arr 1 (enc v_0.1)), (6, .arr 1 (enc v_0.2.g.Parent)), (7, .arr 1 (enc v_0.2.g.Bound)), (8, .arr 4 (enc v_0.2.g.Edges))], 9, 50⟩ : St)) (l := [some 5, some 6, some 7, some 8]) (args' := [.ptr 0 0, .sl 1 (enc ([(⟨[112, 105, 112, 101]⟩ : GStr), (⟨[107, 101, 121]⟩ : GStr)] : List GStr)), .v (.string ⟨⟨xv_0.s⟩⟩)]) ?_ ?_ ?_ --K[0,4];[0,3,5,6,7,8]
 · simp only [go_sem, Le] <;> (repeat' apply And.intro) <;> first | ((try with_reducible refine TL_eq ?_); omega) | ((try with_reducible refine TL_eq ?_); (simp [go_sem]; done))
 · simp only [go_sem, Le] <;> (repeat' apply And.intro) <;> ((try with_reducible refine TL_eq ?_); (simp [go_sem]; done))
 refine callD [0, 6, 7, 3, 8] (f_text_reader_name_p0_s0_0_s0_1_s0_2_s0_3_det v_0.2 ([(⟨[112, 105, 112, 101]⟩ : GStr), (⟨[107, 101, 121]⟩ : GStr)] : List GStr) xv_0.s v_1 ev_1) (by simp) rfl ⟨rfl, ⟨rfl, ⟨rfl, ⟨rfl, ⟨rfl, trivial⟩⟩⟩⟩⟩ rfl rfl rfl rfl ?_
 simp only [go_sem]
 refine seqQ_normal hQ2 ?_
 refine sg fun QQ3 hQ3 => ?_
 obtain ⟨v_2, ev_2, h⟩ := bindO_some h
 simp only [go_sem]
 refine callF_weak (s' := (⟨5, [(0, .ptr 0 0), (4, .sl 1 (enc v_0.1)), (5, .v (.int .i64 v_1.1))], [(0, .box [.osl 5 1 (0) (List.length v_1.2.g.Parent), .osl 6 1 (0) (List.length v_1.2.g.Bound), .osl 3 4 (0) (List.length v_1.2.g.Nodes), .osl 7 4 (0) (List.length v_1.2.g.Edges), .v (.int .i64 v_1.2.e)]), (3, .con (ownK 4 3 (enc v_1.2.g.Nodes) none) []), (5, .arr 1 (enc v_1.2.g.Parent)), (6, .arr 1 (enc v_1.2.g.Bound)), (7, .arr 4 (enc v_1.2.g.Edges))], 8, 50⟩ : St)) (l := [some 9, some 10, some 11]) (args' := [.ptr 0 0, .sl 1 (enc v_0.1)]) ?_ ?_ ?_ --K[0,5];[3]
 · simp only [go_sem, Le] <;> (repeat' apply And.intro) <;> first | ((try with_reducible refine TL_eq ?_); omega) | ((try with_reducible refine TL_eq ?_); (simp [go_sem]; done))
 · simp only [go_sem, Le] <;> (repeat' apply And.intro) <;> ((try with_reducible refine TL_eq ?_); (simp [go_sem]; done))
 refine callD [0, 5, 6, 3, 7] (f_text_reader_fits_p0_s0_0_s0_1_s0_2_s0_3_det v_1.2 v_0.1 v_2 ev_2) (by simp) rfl ⟨rfl, ⟨rfl, ⟨rfl, ⟨rfl, ⟨rfl, trivial⟩⟩⟩⟩⟩ rfl rfl rfl rfl ?_
 simp only [go_sem]
 refine seqQ_normal hQ3 ?_
 refine sg fun QQ4 hQ4 => ?_
 obtain ⟨v_3, ev_3, h⟩ := bindO_some h
 simp only [go_sem]
 refine callD [0, 8, 9, 3, 10] (f_text_reader_room_p0_s0_0_s0_1_s0_2_s0_3_det v_2 (List.length v_2.g.Edges : Int) 64 v_3 ev_3) (by simp) rfl ⟨rfl, ⟨rfl, ⟨rfl, ⟨rfl, ⟨rfl, trivial⟩⟩⟩⟩⟩ rfl rfl rfl rfl ?_
 simp only [go_sem]
 refine seqQ_normal hQ4 ?_
 refine vc_draw ?_
 refine drawV_all 20 0 0 [0, 0, 2, 6, 14, 30, 0, 64, 192, 0, 512, 1536, 0, 4096, 12288, 0, 32768, 131008, 262080, 524286, 1048575, 2097151, 4194303, 8388607] [13, 14] [0] [] [19] [] mixed (by kernel_rfl) (of_decide_eq_true (by kernel_rfl)) (by kernel_rfl) (by kernel_rfl) (by rfl) ?_
 obtain ⟨xv_1, exv_1, h⟩ := bindO_some h
 obtain ⟨fxv_1a, fxv_1b, fxv_1c⟩ := idx_spec exv_1
 simp only [Int.toNat_natCast, Int.reduceToNat] at fxv_1c
 obtain ⟨xv_2, exv_2, h⟩ := bindO_some h
 obtain ⟨fxv_2a, fxv_2b, fxv_2c⟩ := idx_spec exv_2
 simp only [Int.toNat_natCast, Int.reduceToNat] at fxv_2c
 obtain ⟨xv_3, exv_3, h⟩ := bindO_some h
 obtain ⟨fxv_3a, fxv_3b, fxv_3c⟩ := idx_spec exv_3
 simp only [Int.toNat_natCast, Int.reduceToNat] at fxv_3c
 have rf_1 : [[.v (.int .i64 xv_1), .v (.int .i64 xv_2), .v (.int .i64 xv_3), .v (.bool (v_1.1 == 2))]] = enc ([(⟨xv_1, xv_2, xv_3, v_1.1 == 2⟩ : GEdge)] : List GEdge) := by rfl
 obtain ⟨g_1, h⟩ := guardO_some h
 simp only [List.length_cons, List.length_nil, Nat.zero_add, List.length_append] at g_1
 have rf_2 : enc v_3.g.Edges ++ [[.v (.int .i64 xv_1), .v (.int .i64 xv_2), .v (.int .i64 xv_3), .v (.bool (v_1.1 == 2))]] = enc (v_3.g.Edges ++ ([(⟨xv_1, xv_2, xv_3, v_1.1 == 2⟩ : GEdge)] : List GEdge)) := by exact (enc_app v_3.g.Edges ([(⟨xv_1, xv_2, xv_3, v_1.1 == 2⟩ : GEdge)] : List GEdge)).symm
 simp only [go_sem, fxv_1a, fxv_1b, fxv_1c, fxv_2a, fxv_2b, fxv_2c, fxv_3a, fxv_3b, fxv_3c, g_1, rf_2]
 refine And.intro (by omega) ?_
 refine And.intro (by omega) ?_
 refine And.intro (by omega) ?_
 simp only [rf_1]
 obtain rfl := Option.some.inj h
 refine retW_det [some 11, some 12, some 14] ?_
 simp only [go_sem, Le] <;> (repeat' apply And.intro) <;> first | ((try with_reducible refine TL_eq ?_); omega) | ((try with_reducible refine TL_eq ?_); (simp [go_sem]; done))

def f_text_reader_line_p0_s0_0_s0_1_s0_2_s0_3 (rv_0 : GText_reader) (w_0 : List GStr) : Option GText_reader :=
 bindO (idx w_0 0) (fun (xv_0 : GStr) =>
 (if ((xv_0.s == ([115, 99, 111, 112, 101] : List UInt8)) && ((List.length w_0 : Int) == 3)) = true then guardO (0 ≤ 1 ∧ 1 ≤ (List.length w_0 : Int) ∧ (List.length w_0 : Int) ≤ (List.length w_0 : Int)) (
 bindO (f_text_reader_scope_p0_s0_0_s0_1_s0_2_s0_3 rv_0 (List.drop (Int.toNat 1) (List.take (List.length w_0) w_0))) (fun (v_0 : GText_reader) =>
 some v_0))
 else (if ((xv_0.s == ([110, 111, 100, 101] : List UInt8)) && ((List.length w_0 : Int) == 4)) = true then guardO (0 ≤ 1 ∧ 1 ≤ (List.length w_0 : Int) ∧ (List.length w_0 : Int) ≤ (List.length w_0 : Int)) (
 bindO (f_text_reader_node_p0_s0_0_s0_1_s0_2_s0_3 rv_0 (List.drop (Int.toNat 1) (List.take (List.length w_0) w_0))) (fun (v_1 : GText_reader) =>
 some v_1))
 else (if ((xv_0.s == ([105, 110, 115] : List UInt8)) && ((List.length w_0 : Int) == 3)) = true then guardO (0 ≤ 1 ∧ 1 ≤ (List.length w_0 : Int) ∧ (List.length w_0 : Int) ≤ (List.length w_0 : Int)) (
 bindO (f_text_reader_ins_p0_s0_0_s0_1_s0_2_s0_3 rv_0 (List.drop (Int.toNat 1) (List.take (List.length w_0) w_0))) (fun (v_2 : GText_reader) =>
 some v_2))
 else (if ((xv_0.s == ([101, 100, 103, 101] : List UInt8)) && ((List.length w_0 : Int) == 5)) = true then guardO (0 ≤ 1 ∧ 1 ≤ (List.length w_0 : Int) ∧ (List.length w_0 : Int) ≤ (List.length w_0 : Int)) (
 bindO (f_text_reader_edge_p0_s0_0_s0_1_s0_2_s0_3 rv_0 (List.drop (Int.toNat 1) (List.take (List.length w_0) w_0))) (fun (v_3 : GText_reader) =>
 some v_3))
 else bindO (f_text_reader_fail_p0_s0_0_s0_1_s0_2_s0_3 rv_0 4) (fun (v_4 : GText_reader) =>
 some v_4))))))
theorem f_text_reader_line_p0_s0_0_s0_1_s0_2_s0_3_det (rv_0 : GText_reader) (w_0 : List GStr)  (r : GText_reader) (h : f_text_reader_line_p0_s0_0_s0_1_s0_2_s0_3 rv_0 w_0 = some r) : DetS Tryz.prog 26 [.ptr 0 0, .sl 1 (enc w_0)] [(0, .box [.osl 1 1 (0) (List.length rv_0.g.Parent), .osl 2 1 (0) (List.length rv_0.g.Bound), .osl 3 4 (0) (List.length rv_0.g.Nodes), .osl 4 4 (0) (List.length rv_0.g.Edges), .v (.int .i64 rv_0.e)]), (1, .arr 1 (enc rv_0.g.Parent)), (2, .arr 1 (enc rv_0.g.Bound)), (3, .con (ownK 4 3 (enc rv_0.g.Nodes) none) []), (4, .arr 4 (enc rv_0.g.Edges))] 5 (.tup []) [(0, .box [.osl 5 1 (0) (List.length r.g.Parent), .osl 6 1 (0) (List.length r.g.Bound), .osl 7 4 (0) (List.length r.g.Nodes), .osl 8 4 (0) (List.length r.g.Edges), .v (.int .i64 r.e)]), (5, .arr 1 (enc r.g.Parent)), (6, .arr 1 (enc r.g.Bound)), (7, .con (ownK 4 3 (enc r.g.Nodes) none) []), (8, .arr 4 (enc r.g.Edges))] 9 := by
 unfold DetS
 refine Spec.of_vc Tryz.func26 rfl (by kernel_rfl) (by kernel_rfl) ?_
 rw [f_text_reader_line_p0_s0_0_s0_1_s0_2_s0_3] at h
 refine vc_block_gen ?_
 intro QQ1 hQ1
 refine sg fun QQ2 hQ2 => ?_
 obtain ⟨xv_0, exv_0, h⟩ := bindO_some h
 obtain ⟨fxv_0a, fxv_0b, fxv_0c⟩ := idx_spec exv_0
 simp only [Int.toNat_natCast, Int.reduceToNat] at fxv_0c
 simp only [go_sem, fxv_0a, fxv_0b, fxv_0c]
 refine And.intro (by omega) ?_
 refine seqQ_normal hQ2 ?_
 refine vc_cond_of (b := ((xv_0.s == ([115, 99, 111, 112, 101] : List UInt8)) && ((List.length w_0 : Int) == 3))) (by (simp only [go_sem]; done)) (fun hb_0 => ?_) (fun hb_0 => ?_)
 ·
  replace h := if_t h hb_0
  simp only [bool_to_prop] at hb_0
  obtain ⟨g_0, h⟩ := guardO_some h
  obtain ⟨v_0, ev_0, h⟩ := bindO_some h
  simp only [go_sem, g_0]
  refine callD [0, 1, 2, 3, 4] (f_text_reader_scope_p0_s0_0_s0_1_s0_2_s0_3_det rv_0 (List.drop (Int.toNat 1) (List.take (List.length w_0) w_0)) v_0 ev_0) (by simp) rfl ⟨rfl, ⟨rfl, ⟨rfl, ⟨rfl, ⟨rfl, trivial⟩⟩⟩⟩⟩ rfl rfl rfl rfl ?_
  simp only [go_sem]
  refine blockQ_normal hQ1 ?_
  simp only [go_sem]
  obtain rfl := Option.some.inj h
  refine retW_det [some 5, some 6, some 3, some 7] ?_
  simp only [go_sem, Le] <;> (repeat' apply And.intro) <;> first | ((try with_reducible refine TL_eq ?_); omega) | ((try with_reducible refine TL_eq ?_); (simp [go_sem]; done))
 ·
  replace h := if_f h hb_0
  simp only [bool_to_prop] at hb_0
  refine sg fun QQ3 hQ3 => ?_
  simp only [go_sem, fxv_0a, fxv_0b, fxv_0c]
  refine And.intro (by omega) ?_
  refine seqQ_normal hQ3 ?_
  refine vc_cond_of (b := ((xv_0.s == ([110, 111, 100, 101] : List UInt8)) && ((List.length w_0 : Int) == 4))) (by (simp only [go_sem]; done)) (fun hb_1 => ?_) (fun hb_1 => ?_)
  ·
   replace h := if_t h hb_1
   simp only [bool_to_prop] at hb_1
   obtain ⟨g_1, h⟩ := guardO_some h
   obtain ⟨v_1, ev_1, h⟩ := bindO_some h
   simp only [go_sem, g_1]
   refine callD [0, 1, 2, 3, 4] (f_text_reader_node_p0_s0_0_s0_1_s0_2_s0_3_det rv_0 (List.drop (Int.toNat 1) (List.take (List.length w_0) w_0)) v_1 ev_1) (by simp) rfl ⟨rfl, ⟨rfl, ⟨rfl, ⟨rfl, ⟨rfl, trivial⟩⟩⟩⟩⟩ rfl rfl rfl rfl ?_
   simp only [go_sem]
   refine blockQ_normal hQ1 ?_
   simp only [go_sem]
   obtain rfl := Option.some.inj h
   refine retW_det [some 5, some 6, some 7, some 8] ?_
   simp only [go_sem, Le] <;> (repeat' apply And.intro) <;> first | ((try with_reducible refine TL_eq ?_); omega) | ((try with_reducible refine TL_eq ?_); (simp [go_sem]; done))
  ·
   replace h := if_f h hb_1
   simp only [bool_to_prop] at hb_1
   refine sg fun QQ4 hQ4 => ?_
   simp only [go_sem, fxv_0a, fxv_0b, fxv_0c]
   refine And.intro (by omega) ?_
   refine seqQ_normal hQ4 ?_
   refine vc_cond_of (b := ((xv_0.s == ([105, 110, 115] : List UInt8)) && ((List.length w_0 : Int) == 3))) (by (simp only [go_sem]; done)) (fun hb_2 => ?_) (fun hb_2 => ?_)
   ·
    replace h := if_t h hb_2
    simp only [bool_to_prop] at hb_2
    obtain ⟨g_2, h⟩ := guardO_some h
    obtain ⟨v_2, ev_2, h⟩ := bindO_some h
    simp only [go_sem, g_2]
    refine callD [0, 1, 2, 3, 4] (f_text_reader_ins_p0_s0_0_s0_1_s0_2_s0_3_det rv_0 (List.drop (Int.toNat 1) (List.take (List.length w_0) w_0)) v_2 ev_2) (by simp) rfl ⟨rfl, ⟨rfl, ⟨rfl, ⟨rfl, ⟨rfl, trivial⟩⟩⟩⟩⟩ rfl rfl rfl rfl ?_
    simp only [go_sem]
    refine blockQ_normal hQ1 ?_
    simp only [go_sem]
    obtain rfl := Option.some.inj h
    refine retW_det [some 5, some 6, some 3, some 7] ?_
    simp only [go_sem, Le] <;> (repeat' apply And.intro) <;> first | ((try with_reducible refine TL_eq ?_); omega) | ((try with_reducible refine TL_eq ?_); (simp [go_sem]; done))
   ·
    replace h := if_f h hb_2
    simp only [bool_to_prop] at hb_2
    refine sg fun QQ5 hQ5 => ?_
    simp only [go_sem, fxv_0a, fxv_0b, fxv_0c]
    refine And.intro (by omega) ?_
    refine seqQ_normal hQ5 ?_
    refine vc_cond_of (b := ((xv_0.s == ([101, 100, 103, 101] : List UInt8)) && ((List.length w_0 : Int) == 5))) (by (simp only [go_sem]; done)) (fun hb_3 => ?_) (fun hb_3 => ?_)
    ·
     replace h := if_t h hb_3
     simp only [bool_to_prop] at hb_3
     obtain ⟨g_3, h⟩ := guardO_some h
     obtain ⟨v_3, ev_3, h⟩ := bindO_some h
     simp only [go_sem, g_3]
     refine callD [0, 1, 2, 3, 4] (f_text_reader_edge_p0_s0_0_s0_1_s0_2_s0_3_det rv_0 (List.drop (Int.toNat 1) (List.take (List.length w_0) w_0)) v_3 ev_3) (by simp) rfl ⟨rfl, ⟨rfl, ⟨rfl, ⟨rfl, ⟨rfl, trivial⟩⟩⟩⟩⟩ rfl rfl rfl rfl ?_
     simp only [go_sem]
     refine blockQ_normal hQ1 ?_
     simp only [go_sem]
     obtain rfl := Option.some.inj h
     refine retW_det [some 5, some 6, some 3, some 7] ?_
     simp only [go_sem, Le] <;> (repeat' apply And.intro) <;> first | ((try with_reducible refine TL_eq ?_); omega) | ((try with_reducible refine TL_eq ?_); (simp [go_sem]; done))
    ·
     replace h := if_f h hb_3
     simp only [bool_to_prop] at hb_3
     obtain ⟨v_4, ev_4, h⟩ := bindO_some h
     simp only [go_sem]
     refine callD [0, 1, 2, 3, 4] (f_text_reader_fail_p0_s0_0_s0_1_s0_2_s0_3_det rv_0 4 v_4 ev_4) (by simp) rfl ⟨rfl, ⟨rfl, ⟨rfl, ⟨rfl, ⟨rfl, trivial⟩⟩⟩⟩⟩ rfl rfl rfl rfl ?_
     simp only [go_sem]
     refine blockQ_normal hQ1 ?_
     simp only [go_sem]
     obtain rfl := Option.some.inj h
     refine retW_det [some 5, some 6, some 3, some 7] ?_
     simp only [go_sem, Le] <;> (repeat' apply And.intro) <;> first | ((try with_reducible refine TL_eq ?_); omega) | ((try with_reducible refine TL_eq ?_); (simp [go_sem]; done))

noncomputable def f_text_Parse_B1 (v_0 : List GStr) (rec_1 : Int × Int × (List Int) × (List Int) × (List GNode) × (List GEdge) → Option (GGraph × Int × Int)) : Int × Int × (List Int) × (List Int) × (List GNode) × (List GEdge) → Option (GGraph × Int × Int) :=
 fun (t17_1, b_1, a_4, a_5, a_6, a_7) =>
 (if (decide (t17_1 < (List.length v_0 : Int))) = true then bindO (idx v_0 t17_1) (fun (xv_6 : GStr) =>
 (if ((decide (4096 ≤ t17_1)) || (decide (256 < (List.length xv_6.s : Int)))) = true then some ((⟨([] : List Int), ([] : List Int), ([] : List GNode), ([] : List GEdge)⟩ : GGraph), 11, IntKind.i64.wrap (t17_1 + 1))
 else bindO (f_strings_FieldsFunc xv_6.s (fun x0_ => f_text_Parse_1 x0_)) (fun (v_5 : List GStr) =>
 (if ((List.length v_5 : Int) == 0) = true then rec_1 (IntKind.i64.wrap (t17_1 + 1), b_1, a_4, a_5, a_6, a_7)
 else bindO (idx v_5 0) (fun (xv_7 : GStr) =>
 bindO (idx xv_7.s 0) (fun (xv_8 : UInt8) =>
 (if (((UInt8.toNat xv_8 : Nat) : Int) == 35) = true then rec_1 (IntKind.i64.wrap (t17_1 + 1), b_1, a_4, a_5, a_6, a_7)
 else bindO (f_text_reader_line_p0_s0_0_s0_1_s0_2_s0_3 (⟨(⟨a_4, a_5, a_6, a_7⟩ : GGraph), b_1⟩ : GText_reader) v_5) (fun (v_6 : GText_reader) =>
 (if (!(v_6.e == 0)) = true then some ((⟨([] : List Int), ([] : List Int), ([] : List GNode), ([] : List GEdge)⟩ : GGraph), v_6.e, IntKind.i64.wrap (t17_1 + 1))
 else rec_1 (IntKind.i64.wrap (t17_1 + 1), v_6.e, v_6.g.Parent, v_6.g.Bound, v_6.g.Nodes, v_6.g.Edges))))))))))
 else some ((⟨a_4, a_5, a_6, a_7⟩ : GGraph), 0, 0))
noncomputable def f_text_Parse (text_0 : List UInt8) : Option (GGraph × Int × Int) :=
 bindO (f_strings_Split text_0 ([10] : List UInt8)) (fun (v_0 : List GStr) =>
 loopK (f_text_Parse_B1 v_0) rounds (0, 0, ([-1] : List Int), ([0] : List Int), [], []))
theorem f_text_Parse_det (text_0 : List UInt8)  (r : GGraph × Int × Int) (h : f_text_Parse text_0 = some r) : DetS Tryz.prog 9 [.v (.string ⟨⟨text_0⟩⟩)] [] 0 (.tup [.agg [.osl 0 1 (0) (List.length r.1.Parent), .osl 1 1 (0) (List.length r.1.Bound), .osl 2 4 (0) (List.length r.1.Nodes), .osl 3 4 (0) (List.length r.1.Edges)], .v (.int .i64 r.2.1), .v (.int .i64 r.2.2)]) [(0, .arr 1 (enc r.1.Parent)), (1, .arr 1 (enc r.1.Bound)), (2, .arr 4 (enc r.1.Nodes)), (3, .arr 4 (enc r.1.Edges))] 4 := by
 unfold DetS
 refine Spec.of_wp Tryz.func9 rfl (by kernel_rfl) (by kernel_rfl) ?_
 rw [f_text_Parse] at h
 refine sgW fun QQ1 hQ1 => ?_
 refine wv ?_
 simp only [go_sem]
 refine seqW_normal hQ1 ?_
 refine sgW fun QQ2 hQ2 => ?_
 refine wv ?_
 have rf_0 : [[.v (.int .i64 (-1))]] = enc ([-1] : List Int) := by rfl
 have rf_1 : [[.v (.int .i64 0)]] = enc ([0] : List Int) := by rfl
 simp only [go_sem]
 simp only [rf_0, rf_1]
 refine seqW_normal hQ2 ?_
 refine sgW fun QQ3 hQ3 => ?_
 refine sgW fun QQ4 hQ4 => ?_
 refine wv ?_
 obtain ⟨v_0, ev_0, h⟩ := bindO_some h
 simp only [go_sem]
 refine call0 (f_strings_Split_ok text_0 ([10] : List UInt8) v_0 ev_0) (by rfl) (by rfl) ?_
 simp only [go_sem]
 refine seqW_normal hQ4 ?_
 refine blockW fun QQ5 hQ5 => ?_
 refine loopW (ι := Nat × Int × Int × (List Int) × (List Int) × (List GNode) × (List GEdge)) (fun ((_, t17_1, b_1, a_4, a_5, a_6, a_7) : Nat × Int × Int × (List Int) × (List Int) × (List GNode) × (List GEdge)) => (⟨0, [(2, .ptr 0 0), (5, .ptr 1 0), (15, .sl 1 (enc v_0)), (16, .v (.int .i64 (List.length v_0 : Int))), (17, .v (.int .i64 t17_1))], [(0, .box [.v (.slice none 0 0), .v (.slice none 0 0), .v (.slice none 0 0), .v (.slice none 0 0)]), (1, .box [.osl 2 1 (0) (List.length a_4), .osl 3 1 (0) (List.length a_5), .osl 4 4 (0) (List.length a_6), .osl 5 4 (0) (List.length a_7), .v (.int .i64 b_1)]), (2, .arr 1 (enc a_4)), (3, .arr 1 (enc a_5)), (4, .con (ownK 4 3 (enc a_6) none) []), (5, .arr 4 (enc a_7))], 6, 64⟩ : St)) (fun ((n_, t17_1, b_1, a_4, a_5, a_6, a_7) : Nat × Int × Int × (List Int) × (List Int) × (List GNode) × (List GEdge)) => loopK (f_text_Parse_B1 v_0) n_ (t17_1, b_1, a_4, a_5, a_6, a_7) = some r) (fun p => p.1) (rounds, 0, 0, ([-1] : List Int), ([0] : List Int), [], []) [some 0, some 3, some 1, some 2, none, none] ?_ h ?_ --K[2,15,16];[0]
 · simp only [go_sem, Le] <;> (repeat' apply And.intro) <;> first | ((try with_reducible refine TL_eq ?_); omega) | ((try with_reducible refine TL_eq ?_); (simp [go_sem]; done))
 ·
  rintro ⟨n_1, t17_1, b_1, a_4, a_5, a_6, a_7⟩ h QQ6 hQ6
  dsimp only at h
  replace h := loopK_some h
  obtain ⟨m_1, rfl, h⟩ := h
  rw [f_text_Parse_B1] at h
  refine sgW fun QQ7 hQ7 => ?_
  refine wv ?_
  simp only [go_sem]
  refine seqW_normal hQ7 ?_
  refine sgW fun QQ8 hQ8 => ?_
  refine condW_of (b := (decide (t17_1 < (List.length v_0 : Int)))) (by (simp only [go_sem]; done)) (fun hb_10 => ?_) (fun hb_10 => ?_)
  ·
   replace h := if_t h hb_10
   simp only [bool_to_prop] at hb_10
   refine wv ?_
   refine vc_skip_of ?_
   refine seqW_normal hQ8 ?_
   refine sgW fun QQ9 hQ9 => ?_
   refine blockW fun QQ10 hQ10 => ?_
   refine sgW fun QQ11 hQ11 => ?_
   refine wv ?_
   obtain ⟨xv_6, exv_6, h⟩ := bindO_some h
   obtain ⟨fxv_6a, fxv_6b, fxv_6c⟩ := idx_spec exv_6
   simp only [go_sem, fxv_6a, fxv_6b, fxv_6c]
   refine And.intro (by omega) ?_
   refine seqW_normal hQ11 ?_
   refine sgW fun QQ12 hQ12 => ?_
   refine sgW fun QQ13 hQ13 => ?_
   refine wv ?_
   simp only [go_sem]
   refine seqW_normal hQ13 ?_
   refine condW_of (b := ((decide (4096 ≤ t17_1)) || (decide (256 < (List.length xv_6.s : Int))))) (by (simp [go_sem]; done)) (fun hb_11 => ?_) (fun hb_11 => ?_)
   ·
    replace h := if_t h hb_11
    simp only [bool_to_prop] at hb_11
    refine sgW fun QQ14 hQ14 => ?_
    refine wv ?_
    simp only [go_sem]
    refine seqW_normal hQ14 ?_
    refine reW (fun _ _ _ _ H => H.frzI (id := 4) rfl) ?_
    refine wv ?_
    refine vc_ret_of ?_
    refine seqW_ret hQ12 ?_
    refine blockQ_ret hQ10 ?_
    refine seqW_ret hQ9 ?_
    refine thenQ_ret hQ6 ?_
    refine blockQ_ret hQ5 ?_
    refine seqW_ret hQ3 ?_
    simp only [go_sem]
    obtain rfl := Option.some.inj h
    refine retW_det [none, none, none, none] ?_
    simp only [go_sem, Le] <;> (repeat' apply And.intro) <;> ((try with_reducible refine TL_eq ?_); (simp [go_sem]; done))
   ·
    replace h := if_f h hb_11
    simp only [bool_to_prop] at hb_11
    refine wv ?_
    refine vc_skip_of ?_
    refine seqW_normal hQ12 ?_
    refine sgW fun QQ15 hQ15 => ?_
    refine wv ?_
    obtain ⟨v_5, ev_5, h⟩ := bindO_some h
    simp only [go_sem]
    refine call0 (f_strings_FieldsFunc_ok xv_6.s (fun x0_ => f_text_Parse_1 x0_) 25 [] (by rfl) (by kernel_rfl) (fun y0 r_ e_ => f_text_Parse_1_ok y0 r_ e_) v_5 ev_5) (by rfl) (by rfl) ?_
    simp only [go_sem]
    refine seqW_normal hQ15 ?_
    refine sgW fun QQ16 hQ16 => ?_
    refine sgW fun QQ17 hQ17 => ?_
    refine wv ?_
    simp only [go_sem]
    rcases hb_12 : ((List.length v_5 : Int) == 0) with _ | _
    ·
     replace h := if_f h hb_12
     obtain ⟨xv_7, exv_7, h⟩ := bindO_some h
     obtain ⟨fxv_7a, fxv_7b, fxv_7c⟩ := idx_spec exv_7
     simp only [Int.toNat_natCast, Int.reduceToNat] at fxv_7c
     obtain ⟨xv_8, exv_8, h⟩ := bindO_some h
     obtain ⟨fxv_8a, fxv_8b, fxv_8c⟩ := idx_byte exv_8
     simp only [go_sem, hb_12, fxv_7a, fxv_7b, fxv_7c, fxv_8a, fxv_8b, fxv_8c]
     refine And.intro (by omega) ?_
     refine And.intro (by omega) ?_
     refine seqW_normal hQ17 ?_
     refine condW_of (b := (((UInt8.toNat xv_8 : Nat) : Int) == 35)) (by (simp [go_sem]; (first | grind | (simp_all; done)))) (fun hb_13 => ?_) (fun hb_13 => ?_)
     ·
      replace h := if_t h hb_13
      simp only [bool_to_prop] at hb_13
      refine wv ?_
      refine vc_exit_of ?_
      refine seqW_exit hQ16 ?_
      refine blockQ_exit hQ10 ?_
      refine seqW_normal hQ9 ?_
      refine wv ?_
      simp only [go_sem]
      refine thenQ_normal hQ6 ?_
      refine ⟨(m_1, IntKind.i64.wrap (t17_1 + 1), b_1, a_4, a_5, a_6, a_7), [some 0, some 1, some 2, some 3, some 4, some 5], ?_, h, Nat.lt_succ_self _⟩
      simp only [go_sem, Le] <;> (repeat' apply And.intro) <;> first | ((try with_reducible refine TL_eq ?_); omega) | ((try with_reducible refine TL_eq ?_); (simp [go_sem]; done))
     ·
      replace h := if_f h hb_13
      simp only [bool_to_prop] at hb_13
      refine wv ?_
      refine vc_skip_of ?_
      refine seqW_normal hQ16 ?_
      refine sgW fun QQ18 hQ18 => ?_
      refine wv ?_
      obtain ⟨v_6, ev_6, h⟩ := bindO_some h
      simp only [go_sem]
      refine callD [1, 2, 3, 4, 5] (f_text_reader_line_p0_s0_0_s0_1_s0_2_s0_3_det (⟨(⟨a_4, a_5, a_6, a_7⟩ : GGraph), b_1⟩ : GText_reader) v_5 v_6 ev_6) (by simp) rfl ⟨rfl, ⟨rfl, ⟨rfl, ⟨rfl, ⟨rfl, trivial⟩⟩⟩⟩⟩ rfl rfl rfl rfl ?_
      simp only [go_sem]
      refine seqW_normal hQ18 ?_
      refine sgW fun QQ19 hQ19 => ?_
      refine wv ?_
      simp only [go_sem]
      refine seqW_normal hQ19 ?_
      refine condW_of (b := (!(v_6.e == 0))) (by (simp only [go_sem]; done)) (fun hb_14 => ?_) (fun hb_14 => ?_)
      ·
       replace h := if_t h hb_14
       simp only [bool_to_prop] at hb_14
       refine sgW fun QQ20 hQ20 => ?_
       refine wv ?_
       refine vc_draw ?_
       refine drawV_all 9 0 0 [0, 0, 2, 6, 14, 0, 32, 1, 159, 511] [] [1, 2, 3, 4, 5, 6] [] [7] [] mixed (by kernel_rfl) (of_decide_eq_true (by kernel_rfl)) (by kernel_rfl) (by kernel_rfl) (by rfl) ?_
       simp only [go_sem]
       refine seqW_normal hQ20 ?_
       refine reW (fun _ _ _ _ H => H.frzI (id := 8) rfl) ?_
       refine wv ?_
       refine vc_ret_of ?_
       refine blockQ_ret hQ10 ?_
       refine seqW_ret hQ9 ?_
       refine thenQ_ret hQ6 ?_
       refine blockQ_ret hQ5 ?_
       refine seqW_ret hQ3 ?_
       simp only [go_sem]
       obtain rfl := Option.some.inj h
       refine retW_det [none, none, none, none] ?_
       simp only [go_sem, Le] <;> (repeat' apply And.intro) <;> ((try with_reducible refine TL_eq ?_); (simp [go_sem]; done))
      ·
       replace h := if_f h hb_14
       simp only [bool_to_prop] at hb_14
       refine wv ?_
       refine vc_skip_of ?_
       refine blockQ_normal hQ10 ?_
       refine seqW_normal hQ9 ?_
       refine wv ?_
       simp only [go_sem]
       refine thenQ_normal hQ6 ?_
       refine ⟨(m_1, IntKind.i64.wrap (t17_1 + 1), v_6.e, v_6.g.Parent, v_6.g.Bound, v_6.g.Nodes, v_6.g.Edges), [some 0, some 1, some 6, some 7, some 8, some 9], ?_, h, Nat.lt_succ_self _⟩
       simp only [go_sem, Le] <;> (repeat' apply And.intro) <;> first | ((try with_reducible refine TL_eq ?_); omega) | ((try with_reducible refine TL_eq ?_); (simp [go_sem]; done))
    ·
     replace h := if_t h hb_12
     simp only [go_sem, hb_12]
     refine seqW_normal hQ17 ?_
     refine condW_t (by (simp only [go_sem]; done)) ?_
     refine wv ?_
     refine vc_exit_of ?_
     refine seqW_exit hQ16 ?_
     refine blockQ_exit hQ10 ?_
     refine seqW_normal hQ9 ?_
     refine wv ?_
     simp only [go_sem]
     refine thenQ_normal hQ6 ?_
     refine ⟨(m_1, IntKind.i64.wrap (t17_1 + 1), b_1, a_4, a_5, a_6, a_7), [some 0, some 1, some 2, some 3, some 4, some 5], ?_, h, Nat.lt_succ_self _⟩
     simp only [go_sem, Le] <;> (repeat' apply And.intro) <;> first | ((try with_reducible refine TL_eq ?_); omega) | ((try with_reducible refine TL_eq ?_); (simp [go_sem]; done))
  ·
   replace h := if_f h hb_10
   simp only [bool_to_prop] at hb_10
   refine wv ?_
   refine vc_exit_of ?_
   refine seqW_exit hQ8 ?_
   refine thenQ_exit hQ6 ?_
   refine blockQ_exit hQ5 ?_
   refine seqW_normal hQ3 ?_
   refine sgW fun QQ21 hQ21 => ?_
   refine wv ?_
   simp only [go_sem]
   refine seqW_normal hQ21 ?_
   refine reW (fun _ _ _ _ H => H.frzI (id := 4) rfl) ?_
   refine wv ?_
   refine vc_ret_of ?_
   simp only [go_sem]
   obtain rfl := Option.some.inj h
   refine retW_det [some 2, some 3, some 4, some 5] ?_
   simp only [go_sem, Le] <;> (repeat' apply And.intro) <;> first | ((try with_reducible refine TL_eq ?_); omega) | ((try with_reducible refine TL_eq ?_); (simp [go_sem]; done))
noncomputable def f_backwashlaw23_awake  : Option Bool :=
 bindO (f_text_Parse ([110, 111, 100, 101, 32, 105, 110, 112, 117, 116, 32, 48, 32, 48, 10, 110, 111, 100, 101, 32, 115, 105, 110, 107, 32, 48, 32, 48, 10, 101, 100, 103, 101, 32, 48, 32, 49, 32, 48, 32, 107, 101, 121, 10] : List UInt8)) (fun (v_0 : GGraph × Int × Int) =>
 bindO (f_text_Show v_0.1) (fun (v_1 : (List UInt8) × Int) =>
 (if ((v_0.2.1 == 0) && ((List.length v_0.1.Nodes : Int) == 2)) = true then bindO (idx v_0.1.Nodes 1) (fun (xv_0 : GNode) =>
 (if ((xv_0.Kind == 15) && ((List.length v_0.1.Edges : Int) == 1)) = true then bindO (idx v_0.1.Edges 0) (fun (xv_1 : GEdge) =>
 some ((xv_1.Exchange && (v_1.2 == 0)) && ((List.length v_1.1 : Int) == 44)))
 else some false))
 else some false)))
theorem f_backwashlaw23_awake_ok   (r : Bool) (h : f_backwashlaw23_awake  = some r) : PureS Tryz.prog 5 [] 0 (.v (.bool r)) := by
 unfold PureS
 refine Spec.of_vc Tryz.func5 rfl (by kernel_rfl) (by kernel_rfl) ?_
 rw [f_backwashlaw23_awake] at h
 refine sg fun QQ1 hQ1 => ?_
 simp only [go_sem]
 refine seqQ_normal hQ1 ?_
 refine sg fun QQ2 hQ2 => ?_
 obtain ⟨v_0, ev_0, h⟩ := bindO_some h
 simp only [go_sem]
 refine callD [] (f_text_Parse_det ([110, 111, 100, 101, 32, 105, 110, 112, 117, 116, 32, 48, 32, 48, 10, 110, 111, 100, 101, 32, 115, 105, 110, 107, 32, 48, 32, 48, 10, 101, 100, 103, 101, 32, 48, 32, 49, 32, 48, 32, 107, 101, 121, 10] : List UInt8) v_0 ev_0) (by simp) rfl trivial rfl rfl rfl rfl ?_
 simp only [go_sem]
 refine seqQ_normal hQ2 ?_
 refine sg fun QQ3 hQ3 => ?_
 obtain ⟨v_1, ev_1, h⟩ := bindO_some h
 simp only [go_sem]
 refine callB (s' := (⟨0, [(1, .ptr 0 0), (2, .v (.int .i64 v_0.2.1))], [(0, .box [.sl 1 (enc v_0.1.Parent), .sl 1 (enc v_0.1.Bound), .sl 4 (enc v_0.1.Nodes), .sl 4 (enc v_0.1.Edges)])], 1, 54⟩ : St)) (l := [some 4]) (args' := [.agg [.sl 1 (enc v_0.1.Parent), .sl 1 (enc v_0.1.Bound), .sl 4 (enc v_0.1.Nodes), .sl 4 (enc v_0.1.Edges)]]) ?_ ?_ (f_text_Show_ok v_0.1 v_1 ev_1) (by rfl) (by rfl) ?_
 · simp only [go_sem, Le] <;> (repeat' apply And.intro) <;> ((try with_reducible refine TL_eq ?_); (simp [go_sem]; done))
 · simp only [go_sem, Le] <;> (repeat' apply And.intro) <;> ((try with_reducible refine TL_eq ?_); (simp [go_sem]; done))
 simp only [go_sem]
 refine seqQ_normal hQ3 ?_
 refine sg fun QQ4 hQ4 => ?_
 simp only [go_sem]
 rcases hb_0 : ((v_0.2.1 == 0) && ((List.length v_0.1.Nodes : Int) == 2)) with _ | _
 ·
  replace h := if_f h hb_0
  simp only [go_sem, hb_0]
  refine seqQ_normal hQ4 ?_
  refine vc_ret_of ?_
  simp only [go_sem]
  obtain rfl := Option.some.inj h
  refine retW_pure rfl ?_
  simp only [go_sem, Le]
 ·
  replace h := if_t h hb_0
  obtain ⟨xv_0, exv_0, h⟩ := bindO_some h
  obtain ⟨fxv_0a, fxv_0b, fxv_0c⟩ := idx_spec exv_0
  simp only [Int.toNat_natCast, Int.reduceToNat] at fxv_0c
  simp only [go_sem, hb_0, fxv_0a, fxv_0b, fxv_0c]
  refine And.intro (by omega) ?_
  rcases hb_1 : ((xv_0.Kind == 15) && ((List.length v_0.1.Edges : Int) == 1)) with _ | _
  ·
   replace h := if_f h hb_1
   simp only [go_sem, hb_1]
   refine seqQ_normal hQ4 ?_
   refine vc_ret_of ?_
   simp only [go_sem]
   obtain rfl := Option.some.inj h
   refine retW_pure rfl ?_
   simp only [go_sem, Le]
  ·
   replace h := if_t h hb_1
   obtain ⟨xv_1, exv_1, h⟩ := bindO_some h
   obtain ⟨fxv_1a, fxv_1b, fxv_1c⟩ := idx_spec exv_1
   simp only [Int.toNat_natCast, Int.reduceToNat] at fxv_1c
   simp only [go_sem, hb_1, fxv_1a, fxv_1b, fxv_1c]
   refine And.intro (by omega) ?_
   refine seqQ_normal hQ4 ?_
   refine vc_ret_of ?_
   simp only [go_sem]
   obtain rfl := Option.some.inj h
   refine retW_pure rfl ?_
   simp only [go_sem, Le] <;> (repeat' apply And.intro) <;> ((try with_reducible refine TL_eq ?_); rfl)

def f_backwashref08_Short_B1 (g_0 : GGraph) (rec_1 : Int → Option Bool) : Int → Option Bool :=
 fun i_1 =>
 (if (decide (i_1 < (List.length g_0.Nodes : Int))) = true then bindO (idx g_0.Nodes i_1) (fun (xv_2 : GNode) =>
 (if (decide (100 < (List.length xv_2.Prog : Int))) = true then some false
 else rec_1 (IntKind.i64.wrap (i_1 + 1))))
 else some true)
def f_backwashref08_Short (g_0 : GGraph) : Option Bool :=
 (if ((((decide (20 < (List.length g_0.Parent : Int))) || (decide (20 < (List.length g_0.Bound : Int)))) || (decide (60 < (List.length g_0.Nodes : Int)))) || (decide (100 < (List.length g_0.Edges : Int)))) = true then some false
 else loopK (f_backwashref08_Short_B1 g_0) rounds 0)
theorem f_backwashref08_Short_ok (g_0 : GGraph)  (r : Bool) (h : f_backwashref08_Short g_0 = some r) : PureS Tryz.prog 6 [.agg [.sl 1 (enc g_0.Parent), .sl 1 (enc g_0.Bound), .sl 4 (enc g_0.Nodes), .sl 4 (enc g_0.Edges)]] 0 (.v (.bool r)) := by
 unfold PureS
 refine Spec.of_vc Tryz.func6 rfl (by kernel_rfl) (by kernel_rfl) ?_
 rw [f_backwashref08_Short] at h
 refine sg fun QQ1 hQ1 => ?_
 simp only [go_sem]
 refine seqQ_normal hQ1 ?_
 refine sg fun QQ2 hQ2 => ?_
 refine sg fun QQ3 hQ3 => ?_
 simp only [go_sem]
 refine seqQ_normal hQ3 ?_
 refine vc_cond_of (b := ((((decide (20 < (List.length g_0.Parent : Int))) || (decide (20 < (List.length g_0.Bound : Int)))) || (decide (60 < (List.length g_0.Nodes : Int)))) || (decide (100 < (List.length g_0.Edges : Int))))) (by (simp only [go_sem]; done)) (fun hb_0 => ?_) (fun hb_0 => ?_)
 ·
  replace h := if_t h hb_0
  simp only [bool_to_prop] at hb_0
  refine sg fun QQ4 hQ4 => ?_
  simp only [go_sem]
  refine seqQ_normal hQ4 ?_
  refine vc_ret_of ?_
  refine seqQ_ret hQ2 ?_
  simp only [go_sem]
  obtain rfl := Option.some.inj h
  refine retW_pure rfl ?_
  simp only [go_sem, Le]
 ·
  replace h := if_f h hb_0
  simp only [bool_to_prop] at hb_0
  refine vc_skip_of ?_
  refine seqQ_normal hQ2 ?_
  refine vc_join (by kernel_rfl) ?_
  refine seq_go_gen ?_
  intro QQ5 hQ5
  refine sg fun QQ6 hQ6 => ?_
  simp only [go_sem]
  refine seqQ_normal hQ6 ?_
  refine vc_block_gen ?_
  intro QQ7 hQ7
  refine vc_loop_of ?_
  refine loop_gen (ι := Nat × Int) (fun ((_, i_1) : Nat × Int) => (⟨0, [(1, .ptr 0 0), (3, .v (.int .i64 i_1))], [(0, .box [.sl 1 (enc g_0.Parent), .sl 1 (enc g_0.Bound), .sl 4 (enc g_0.Nodes), .sl 4 (enc g_0.Edges)])], 1, 41⟩ : St)) (fun ((n_, i_1) : Nat × Int) => loopK (f_backwashref08_Short_B1 g_0) n_ i_1 = some r) (fun p => p.1) (rounds, 0) [some 0] ?_ h ?_ --K[1];[0]
  · simp only [go_sem, Le]
  ·
   rintro ⟨n_1, i_1⟩ h QQ8 hQ8
   dsimp only at h
   replace h := loopK_some h
   obtain ⟨m_1, rfl, h⟩ := h
   rw [f_backwashref08_Short_B1] at h
   refine sg fun QQ9 hQ9 => ?_
   refine sg fun QQ10 hQ10 => ?_
   simp only [go_sem]
   refine seqQ_normal hQ10 ?_
   refine vc_cond_of (b := (decide (i_1 < (List.length g_0.Nodes : Int)))) (by (simp only [go_sem]; done)) (fun hb_5 => ?_) (fun hb_5 => ?_)
   ·
    replace h := if_t h hb_5
    simp only [bool_to_prop] at hb_5
    refine vc_skip_of ?_
    refine seqQ_normal hQ9 ?_
    refine sg fun QQ11 hQ11 => ?_
    refine vc_block_gen ?_
    intro QQ12 hQ12
    refine sg fun QQ13 hQ13 => ?_
    obtain ⟨xv_2, exv_2, h⟩ := bindO_some h
    obtain ⟨fxv_2a, fxv_2b, fxv_2c⟩ := idx_spec exv_2
    simp only [go_sem, fxv_2a, fxv_2b, fxv_2c]
    refine And.intro (by omega) ?_
    refine seqQ_normal hQ13 ?_
    refine vc_cond_of (b := (decide (100 < (List.length xv_2.Prog : Int)))) (by (simp only [go_sem]; done)) (fun hb_6 => ?_) (fun hb_6 => ?_)
    ·
     replace h := if_t h hb_6
     simp only [bool_to_prop] at hb_6
     refine sg fun QQ14 hQ14 => ?_
     simp only [go_sem]
     refine seqQ_normal hQ14 ?_
     refine vc_ret_of ?_
     refine blockQ_ret hQ12 ?_
     refine seqQ_ret hQ11 ?_
     refine thenQ_ret hQ8 ?_
     refine blockQ_ret hQ7 ?_
     refine seqQ_ret hQ5 ?_
     simp only [go_sem]
     obtain rfl := Option.some.inj h
     refine retW_pure rfl ?_
     simp only [go_sem, Le]
    ·
     replace h := if_f h hb_6
     simp only [bool_to_prop] at hb_6
     refine vc_skip_of ?_
     refine blockQ_normal hQ12 ?_
     refine seqQ_normal hQ11 ?_
     simp only [go_sem]
     refine thenQ_normal hQ8 ?_
     refine ⟨(m_1, IntKind.i64.wrap (i_1 + 1)), [some 0], ?_, h, Nat.lt_succ_self _⟩
     simp only [go_sem, Le]
   ·
    replace h := if_f h hb_5
    simp only [bool_to_prop] at hb_5
    refine vc_exit_of ?_
    refine seqQ_exit hQ9 ?_
    refine thenQ_exit hQ8 ?_
    refine blockQ_exit hQ7 ?_
    refine seqQ_normal hQ5 ?_
    refine sg fun QQ15 hQ15 => ?_
    simp only [go_sem]
    refine seqQ_normal hQ15 ?_
    refine vc_ret_of ?_
    simp only [go_sem]
    obtain rfl := Option.some.inj h
    refine retW_pure rfl ?_
    simp only [go_sem, Le]

noncomputable def f_backwashlaw23_TextBack_J1 (t_0 : List UInt8) : Option Bool :=
 bindO (f_text_Parse (List.drop (Int.toNat 0) (List.take (Int.toNat (min (List.length t_0 : Int) 6000)) t_0))) (fun (v_7 : GGraph × Int × Int) =>
 (if (!(v_7.2.1 == 0)) = true then some ((List.length v_7.1.Parent : Int) == 0)
 else bindO (f_text_Show v_7.1) (fun (v_8 : (List UInt8) × Int) =>
 bindO (f_text_Parse v_8.1) (fun (v_9 : GGraph × Int × Int) =>
 (if ((v_8.2 == 0) && (v_9.2.1 == 0)) = true then bindO (f_backwashref08_Same v_7.1 v_9.1) (fun (v_10 : Bool) =>
 some v_10)
 else some false)))))
noncomputable def f_backwashlaw23_TextBack (g_0 : GGraph) (t_0 : List UInt8) : Option Bool :=
 bindO (f_backwashlaw23_awake) (fun (v_0 : Bool) =>
 (if (!v_0) = true then some false
 else guardO (0 ≤ 0 ∧ 0 ≤ (min (List.length t_0 : Int) 6000) ∧ (min (List.length t_0 : Int) 6000) ≤ (List.length t_0 : Int)) (
 bindO (f_backwashref08_Short g_0) (fun (v_1 : Bool) =>
 (if (!v_1) = true then some true
 else bindO (f_text_Show g_0) (fun (v_11 : (List UInt8) × Int) =>
 (if (v_11.2 == 0) = true then bindO (f_text_Parse v_11.1) (fun (v_12 : GGraph × Int × Int) =>
 bindO (f_graph_Put g_0) (fun (v_13 : (List UInt8) × Int) =>
 bindO (f_graph_Put v_12.1) (fun (v_14 : (List UInt8) × Int) =>
 (if ((!(v_12.2.1 == 0)) || (!(v_12.2.2 == 0))) = true then some false
 else bindO (f_backwashref08_Same g_0 v_12.1) (fun (v_15 : Bool) =>
 (if ((((!v_15) || (!(v_13.2 == 0))) || (!(v_14.2 == 0))) || (!(v_13.1 == v_14.1))) = true then some false
 else f_backwashlaw23_TextBack_J1 t_0))))))
 else f_backwashlaw23_TextBack_J1 t_0)))))))
theorem f_backwashlaw23_TextBack_ok (g_0 : GGraph) (t_0 : List UInt8)  (r : Bool) (h : f_backwashlaw23_TextBack g_0 t_0 = some r) : PureS Tryz.prog 4 [.agg [.sl 1 (enc g_0.Parent), .sl 1 (enc g_0.Bound), .sl 4 (enc g_0.Nodes), .sl 4 (enc g_0.Edges)], .v (.string ⟨⟨t_0⟩⟩)] 0 (.v (.bool r)) := by
 unfold PureS
 refine Spec.of_vc Tryz.func4 rfl (by kernel_rfl) (by kernel_rfl) ?_
 rw [f_backwashlaw23_TextBack] at h
 refine sg fun QQ1 hQ1 => ?_
 simp only [go_sem]
 refine seqQ_normal hQ1 ?_
 refine sg fun QQ2 hQ2 => ?_
 refine sg fun QQ3 hQ3 => ?_
 obtain ⟨v_0, ev_0, h⟩ := bindO_some h
 simp only [go_sem]
 refine call0 (f_backwashlaw23_awake_ok v_0 ev_0) (by rfl) (by rfl) ?_
 simp only [go_sem]
 refine seqQ_normal hQ3 ?_
 refine vc_cond_of (b := (!v_0)) (by (simp only [go_sem]; done)) (fun hb_0 => ?_) (fun hb_0 => ?_)
 ·
  replace h := if_t h hb_0
  simp only [bool_to_prop] at hb_0
  refine sg fun QQ4 hQ4 => ?_
  simp only [go_sem]
  refine seqQ_normal hQ4 ?_
  refine vc_ret_of ?_
  refine seqQ_ret hQ2 ?_
  simp only [go_sem]
  obtain rfl := Option.some.inj h
  refine retW_pure rfl ?_
  simp only [go_sem, Le]
 ·
  replace h := if_f h hb_0
  simp only [bool_to_prop] at hb_0
  refine vc_skip_of ?_
  refine seqQ_normal hQ2 ?_
  refine sg fun QQ5 hQ5 => ?_
  obtain ⟨g_1, h⟩ := guardO_some h
  simp only [go_sem, g_1]
  refine And.intro (by first | omega | (intros; simp_all; done)) ?_
  refine And.intro (by first | omega | (intros; simp_all; done)) ?_
  refine seqQ_normal hQ5 ?_
  refine sg fun QQ6 hQ6 => ?_
  refine sg fun QQ7 hQ7 => ?_
  obtain ⟨v_1, ev_1, h⟩ := bindO_some h
  simp only [go_sem]
  refine call0 (f_backwashref08_Short_ok g_0 v_1 ev_1) (by rfl) (by rfl) ?_
  simp only [go_sem]
  refine seqQ_normal hQ7 ?_
  refine vc_cond_of (b := (!v_1)) (by (simp only [go_sem]; done)) (fun hb_1 => ?_) (fun hb_1 => ?_)
  ·
   replace h := if_t h hb_1
   simp only [bool_to_prop] at hb_1
   refine sg fun QQ8 hQ8 => ?_
   simp only [go_sem]
   refine seqQ_normal hQ8 ?_
   refine vc_ret_of ?_
   refine seqQ_ret hQ6 ?_
   simp only [go_sem]
   obtain rfl := Option.some.inj h
   refine retW_pure rfl ?_
   simp only [go_sem, Le]
  ·
   replace h := if_f h hb_1
   simp only [bool_to_prop] at hb_1
   refine vc_skip_of ?_
   refine seqQ_normal hQ6 ?_
   refine vc_join (by kernel_rfl) ?_
   refine seq_cut_gen (ι := Unit) (fun (_ : Unit) => (⟨0, [(1, .v (.string ⟨⟨(List.drop (Int.toNat 0) (List.take (Int.toNat (min (List.length t_0 : Int) 6000)) t_0))⟩⟩))], [], 0, 116⟩ : St)) (fun (_ : Unit) => f_backwashlaw23_TextBack_J1 t_0 = some r) ?_ ?_ --K[1];[]
   ·
    intro QQ16 hQ16
    refine sg fun QQ17 hQ17 => ?_
    obtain ⟨v_11, ev_11, h⟩ := bindO_some h
    simp only [go_sem]
    refine call0 (f_text_Show_ok g_0 v_11 ev_11) (by rfl) (by rfl) ?_
    simp only [go_sem]
    refine seqQ_normal hQ17 ?_
    refine sg fun QQ18 hQ18 => ?_
    simp only [go_sem]
    refine seqQ_normal hQ18 ?_
    refine vc_cond_of (b := (v_11.2 == 0)) (by (simp only [go_sem]; done)) (fun hb_7 => ?_) (fun hb_7 => ?_)
    ·
     replace h := if_t h hb_7
     simp only [bool_to_prop] at hb_7
     refine sg fun QQ19 hQ19 => ?_
     obtain ⟨v_12, ev_12, h⟩ := bindO_some h
     simp only [go_sem]
     refine callD [] (f_text_Parse_det v_11.1 v_12 ev_12) (by simp) rfl trivial rfl rfl rfl rfl ?_
     simp only [go_sem]
     refine seqQ_normal hQ19 ?_
     refine sg fun QQ20 hQ20 => ?_
     obtain ⟨v_13, ev_13, h⟩ := bindO_some h
     simp only [go_sem]
     refine call0 (f_graph_Put_ok g_0 v_13 ev_13) (by rfl) (by rfl) ?_
     simp only [go_sem]
     refine seqQ_normal hQ20 ?_
     refine sg fun QQ21 hQ21 => ?_
     obtain ⟨v_14, ev_14, h⟩ := bindO_some h
     simp only [go_sem]
     refine callF_weak (s' := (⟨0, [(1, .v (.string ⟨⟨(List.drop (Int.toNat 0) (List.take (Int.toNat (min (List.length t_0 : Int) 6000)) t_0))⟩⟩)), (2, .ptr 0 0), (7, .ptr 1 0), (8, .v (.int .i64 v_12.2.1)), (9, .v (.int .i64 v_12.2.2)), (10, .sl 1 (enc v_13.1)), (11, .v (.int .i64 v_13.2))], [(0, .box [.sl 1 (enc g_0.Parent), .sl 1 (enc g_0.Bound), .sl 4 (enc g_0.Nodes), .sl 4 (enc g_0.Edges)]), (1, .box [.sl 1 (enc v_12.1.Parent), .sl 1 (enc v_12.1.Bound), .sl 4 (enc v_12.1.Nodes), .sl 4 (enc v_12.1.Edges)])], 2, 116⟩ : St)) (l := [some 0, some 5]) (args' := [.agg [.sl 1 (enc v_12.1.Parent), .sl 1 (enc v_12.1.Bound), .sl 4 (enc v_12.1.Nodes), .sl 4 (enc v_12.1.Edges)]]) ?_ ?_ (call0 (f_graph_Put_ok v_12.1 v_14 ev_14) (by rfl) (by rfl) ?_) --K[1,2,8,9,10,11];[0]
     · simp only [go_sem, Le] <;> (repeat' apply And.intro) <;> first | ((try with_reducible refine TL_eq ?_); rfl) | ((try with_reducible refine TL_eq ?_); omega) | ((try with_reducible refine TL_eq ?_); (simp [go_sem]; done))
     · simp only [go_sem, Le] <;> (repeat' apply And.intro) <;> ((try with_reducible refine TL_eq ?_); (simp [go_sem]; done))
     simp only [go_sem]
     refine seqQ_normal hQ21 ?_
     refine sg fun QQ22 hQ22 => ?_
     simp only [go_sem]
     rcases hb_8 : ((!(v_12.2.1 == 0)) || (!(v_12.2.2 == 0))) with _ | _
     ·
      replace h := if_f h hb_8
      obtain ⟨v_15, ev_15, h⟩ := bindO_some h
      simp only [go_sem, hb_8]
      refine call0 (f_backwashref08_Same_ok g_0 v_12.1 v_15 ev_15) (by rfl) (by rfl) ?_
      simp only [go_sem]
      refine seqQ_normal hQ22 ?_
      refine vc_cond_of (b := ((((!v_15) || (!(v_13.2 == 0))) || (!(v_14.2 == 0))) || (!(v_13.1 == v_14.1)))) (by (simp only [go_sem]; done)) (fun hb_9 => ?_) (fun hb_9 => ?_)
      ·
       replace h := if_t h hb_9
       simp only [bool_to_prop] at hb_9
       refine sg fun QQ23 hQ23 => ?_
       simp only [go_sem]
       refine seqQ_normal hQ23 ?_
       refine vc_ret_of ?_
       refine thenQ_ret hQ16 ?_
       simp only [go_sem]
       obtain rfl := Option.some.inj h
       refine retW_pure rfl ?_
       simp only [go_sem, Le]
      ·
       replace h := if_f h hb_9
       simp only [bool_to_prop] at hb_9
       refine vc_skip_of ?_
       refine thenQ_normal hQ16 ?_
       refine ⟨(), [], ?_, h⟩
       simp only [go_sem, Le]
     ·
      replace h := if_t h hb_8
      simp only [go_sem, hb_8]
      refine seqQ_normal hQ22 ?_
      refine vc_cond_t (by (simp only [go_sem]; done)) ?_
      refine sg fun QQ24 hQ24 => ?_
      simp only [go_sem]
      refine seqQ_normal hQ24 ?_
      refine vc_ret_of ?_
      refine thenQ_ret hQ16 ?_
      simp only [go_sem]
      obtain rfl := Option.some.inj h
      refine retW_pure rfl ?_
      simp only [go_sem, Le]
    ·
     replace h := if_f h hb_7
     simp only [bool_to_prop] at hb_7
     refine vc_skip_of ?_
     refine thenQ_normal hQ16 ?_
     refine ⟨(), [], ?_, h⟩
     simp only [go_sem, Le] <;> (repeat' apply And.intro) <;> ((try with_reducible refine TL_eq ?_); rfl)
   ·
    rintro ⟨⟩ h
    try dsimp only at h
    rw [f_backwashlaw23_TextBack_J1] at h
    refine sg fun QQ9 hQ9 => ?_
    obtain ⟨v_7, ev_7, h⟩ := bindO_some h
    simp only [go_sem]
    refine callD [] (f_text_Parse_det (List.drop (Int.toNat 0) (List.take (Int.toNat (min (List.length t_0 : Int) 6000)) t_0)) v_7 ev_7) (by simp) rfl trivial rfl rfl rfl rfl ?_
    simp only [go_sem]
    refine seqQ_normal hQ9 ?_
    refine sg fun QQ10 hQ10 => ?_
    refine sg fun QQ11 hQ11 => ?_
    simp only [go_sem]
    refine seqQ_normal hQ11 ?_
    refine vc_cond_of (b := (!(v_7.2.1 == 0))) (by (simp only [go_sem]; done)) (fun hb_5 => ?_) (fun hb_5 => ?_)
    ·
     replace h := if_t h hb_5
     simp only [bool_to_prop] at hb_5
     refine sg fun QQ12 hQ12 => ?_
     simp only [go_sem]
     refine seqQ_normal hQ12 ?_
     refine vc_ret_of ?_
     refine seqQ_ret hQ10 ?_
     simp only [go_sem]
     obtain rfl := Option.some.inj h
     refine retW_pure rfl ?_
     simp only [go_sem, Le]
    ·
     replace h := if_f h hb_5
     simp only [bool_to_prop] at hb_5
     refine vc_skip_of ?_
     refine seqQ_normal hQ10 ?_
     refine sg fun QQ13 hQ13 => ?_
     obtain ⟨v_8, ev_8, h⟩ := bindO_some h
     simp only [go_sem]
     refine callB (s' := (⟨0, [(14, .ptr 0 0)], [(0, .box [.sl 1 (enc v_7.1.Parent), .sl 1 (enc v_7.1.Bound), .sl 4 (enc v_7.1.Nodes), .sl 4 (enc v_7.1.Edges)])], 1, 116⟩ : St)) (l := [some 4]) (args' := [.agg [.sl 1 (enc v_7.1.Parent), .sl 1 (enc v_7.1.Bound), .sl 4 (enc v_7.1.Nodes), .sl 4 (enc v_7.1.Edges)]]) ?_ ?_ (f_text_Show_ok v_7.1 v_8 ev_8) (by rfl) (by rfl) ?_
     · simp only [go_sem, Le] <;> (repeat' apply And.intro) <;> ((try with_reducible refine TL_eq ?_); (simp [go_sem]; done))
     · simp only [go_sem, Le] <;> (repeat' apply And.intro) <;> ((try with_reducible refine TL_eq ?_); (simp [go_sem]; done))
     simp only [go_sem]
     refine seqQ_normal hQ13 ?_
     refine sg fun QQ14 hQ14 => ?_
     obtain ⟨v_9, ev_9, h⟩ := bindO_some h
     simp only [go_sem]
     refine callD [] (f_text_Parse_det v_8.1 v_9 ev_9) (by simp) rfl trivial rfl rfl rfl rfl ?_
     simp only [go_sem]
     refine seqQ_normal hQ14 ?_
     refine sg fun QQ15 hQ15 => ?_
     simp only [go_sem]
     rcases hb_6 : ((v_8.2 == 0) && (v_9.2.1 == 0)) with _ | _
     ·
      replace h := if_f h hb_6
      simp only [go_sem, hb_6]
      refine seqQ_normal hQ15 ?_
      refine vc_ret_of ?_
      simp only [go_sem]
      obtain rfl := Option.some.inj h
      refine retW_pure rfl ?_
      simp only [go_sem, Le]
     ·
      replace h := if_t h hb_6
      obtain ⟨v_10, ev_10, h⟩ := bindO_some h
      simp only [go_sem, hb_6]
      refine callB (s' := (⟨0, [(111, .v (.bool true))], [(0, .box [.sl 1 (enc v_7.1.Parent), .sl 1 (enc v_7.1.Bound), .sl 4 (enc v_7.1.Nodes), .sl 4 (enc v_7.1.Edges)]), (1, .box [.sl 1 (enc v_9.1.Parent), .sl 1 (enc v_9.1.Bound), .sl 4 (enc v_9.1.Nodes), .sl 4 (enc v_9.1.Edges)])], 2, 116⟩ : St)) (l := [some 4, some 9]) (args' := [.agg [.sl 1 (enc v_7.1.Parent), .sl 1 (enc v_7.1.Bound), .sl 4 (enc v_7.1.Nodes), .sl 4 (enc v_7.1.Edges)], .agg [.sl 1 (enc v_9.1.Parent), .sl 1 (enc v_9.1.Bound), .sl 4 (enc v_9.1.Nodes), .sl 4 (enc v_9.1.Edges)]]) ?_ ?_ (f_backwashref08_Same_ok v_7.1 v_9.1 v_10 ev_10) (by rfl) (by rfl) ?_
      · simp only [go_sem, Le] <;> (repeat' apply And.intro) <;> first | ((try with_reducible refine TL_eq ?_); omega) | ((try with_reducible refine TL_eq ?_); (simp [go_sem]; done))
      · simp only [go_sem, Le] <;> (repeat' apply And.intro) <;> ((try with_reducible refine TL_eq ?_); (simp [go_sem]; done))
      simp only [go_sem]
      refine seqQ_normal hQ15 ?_
      refine vc_ret_of ?_
      simp only [go_sem]
      obtain rfl := Option.some.inj h
      refine retW_pure rfl ?_
      simp only [go_sem, Le]

end Go.Proofs.YtocnabkanbifdaaGreatDoor
