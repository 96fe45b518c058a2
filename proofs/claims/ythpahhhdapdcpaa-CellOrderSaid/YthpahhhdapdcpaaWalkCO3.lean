/-
  What functions of the program compute, each told as a plain function that may give nothing, with the proof that the code does so. No condition beyond those that each theorem names.
-/
import Derived.Test.YthpahhhdapdcpaaWalkCO0
import Derived.Test.YthpahhhdapdcpaaWalkCO2
import Derived.Test.YthpahhhdapdcpaaWalkCO1
set_option linter.unusedSimpArgs false
set_option linter.unusedVariables false
set_option maxHeartbeats 2000000
set_option maxRecDepth 100000
namespace Go.Proofs.Ythpahhhdapdcpaa
open Go Go.RowKit
def f_backwashlaw15_CellOrder_B1 (v_4 : (List GSlot) × Bool × Bool) (v_6 : (List GSlot) × Bool × Bool) (rec_1 : Int → Option Bool) : Int → Option Bool :=
 fun i_1 =>
 (if (decide (i_1 < (List.length v_4.1 : Int))) = true then bindO (idx v_4.1 i_1) (fun (xv_4 : GSlot) =>
 bindO (idx v_6.1 i_1) (fun (xv_5 : GSlot) =>
 (if ((xv_4.Time.D == xv_5.Time.D) && ((xv_4.Time.C.a0 == xv_5.Time.C.a0) && ((xv_4.Time.C.a1 == xv_5.Time.C.a1) && ((xv_4.Time.C.a2 == xv_5.Time.C.a2) && (xv_4.Time.C.a3 == xv_5.Time.C.a3))))) = true then bindO (f_backwashref05_Same xv_4.In.a0 xv_5.In.a0) (fun (v_16 : Bool) =>
 (if v_16 = true then bindO (f_backwashref05_Same xv_4.In.a1 xv_5.In.a1) (fun (v_17 : Bool) =>
 (if v_17 = true then bindO (f_backwashref05_Same xv_4.Sent xv_5.Sent) (fun (v_18 : Bool) =>
 (if (!v_18) = true then some false
 else rec_1 (IntKind.i64.wrap (i_1 + 1))))
 else some false))
 else some false))
 else some false)))
 else some true)
def f_backwashlaw15_CellOrder (c_0 : List GSlot) (kind_0 : Int) (t_0 : GTime) (u_0 : GTime) (rv_0 : GRec) (s_0 : GRec) (nv_0 : Int) (mv_0 : Int) : Option Bool :=
 bindO (f_backwashlaw15_awake) (fun (v_0 : Bool) =>
 (if (!v_0) = true then some false
 else bindO (f_backwashref15_Short c_0) (fun (v_1 : Bool) =>
 (if v_1 = true then bindO (f_backwashlaw15_low c_0) (fun (v_2 : Bool) =>
 (if (!v_2) = true then some true
 else bindO (f_cell_Come c_0 kind_0 0 t_0 rv_0 (IntKind.i64.wrap nv_0)) (fun (v_3 : (List GSlot) × Bool × Bool) =>
 bindO (f_cell_Come v_3.1 kind_0 0 u_0 s_0 (IntKind.i64.wrap mv_0)) (fun (v_4 : (List GSlot) × Bool × Bool) =>
 bindO (f_cell_Come c_0 kind_0 0 u_0 s_0 (IntKind.i64.wrap mv_0)) (fun (v_5 : (List GSlot) × Bool × Bool) =>
 bindO (f_cell_Come v_5.1 kind_0 0 t_0 rv_0 (IntKind.i64.wrap nv_0)) (fun (v_6 : (List GSlot) × Bool × Bool) =>
 (if ((!(v_3.2.2 == v_6.2.2)) || (!(v_4.2.2 == v_5.2.2))) = true then some false
 else (if ((List.length v_4.1 : Int) == (List.length v_6.1 : Int)) = true then bindO (f_cell_Stale v_4.1) (fun (v_7 : List GTime) =>
 bindO (f_cell_Stale v_6.1) (fun (v_8 : List GTime) =>
 bindO (f_backwashref03_Same v_7 v_8) (fun (v_9 : Bool) =>
 (if (!v_9) = true then some false
 else loopK (f_backwashlaw15_CellOrder_B1 v_4 v_6) rounds 0))))
 else some false))))))))
 else some true))))
theorem f_backwashlaw15_CellOrder_ok (c_0 : List GSlot) (kind_0 : Int) (t_0 : GTime) (u_0 : GTime) (rv_0 : GRec) (s_0 : GRec) (nv_0 : Int) (mv_0 : Int)  (r : Bool) (h : f_backwashlaw15_CellOrder c_0 kind_0 t_0 u_0 rv_0 s_0 nv_0 mv_0 = some r) : PureS Try.prog 10 [.sl 10 (enc c_0), .v (.int .i64 kind_0), .agg [.v (.int .i64 t_0.D), .v (.int .i64 t_0.C.a0), .v (.int .i64 t_0.C.a1), .v (.int .i64 t_0.C.a2), .v (.int .i64 t_0.C.a3)], .agg [.v (.int .i64 u_0.D), .v (.int .i64 u_0.C.a0), .v (.int .i64 u_0.C.a1), .v (.int .i64 u_0.C.a2), .v (.int .i64 u_0.C.a3)], .agg [.v (.int .i64 rv_0.K), .v (.int .i64 rv_0.V)], .agg [.v (.int .i64 s_0.K), .v (.int .i64 s_0.V)], .v (.int .i8 nv_0), .v (.int .i8 mv_0)] 0 (.v (.bool r)) := by
 unfold PureS
 refine Spec.of_vc Try.func10 rfl (by kernel_rfl) (by kernel_rfl) ?_
 rw [f_backwashlaw15_CellOrder] at h
 refine sg fun QQ1 hQ1 => ?_
 simp only [go_sem]
 refine seqQ_normal hQ1 ?_
 refine sg fun QQ2 hQ2 => ?_
 refine sg fun QQ3 hQ3 => ?_
 obtain ⟨v_0, ev_0, h⟩ := bindO_some h
 simp only [go_sem]
 refine call0 (f_backwashlaw15_awake_ok v_0 ev_0) (by rfl) (by rfl) ?_
 simp only [go_sem]
 refine seqQ_normal hQ3 ?_
 refine vc_cond_of (b := (!v_0)) (by (simp only [go_sem]; done)) (fun hb_0 => ?_) (fun hb_0 => ?_)
 ·
  replace h := if_t h hb_0
  simp only [bool_to_prop] at hb_0
  refine sg fun QQ4 hQ4 => ?_
  simp only [go_sem]
  refine seqQ_normal hQ4 ?_
  refine vc_ret_of ?_
  refine seqQ_ret hQ2 ?_
  simp only [go_sem]
  obtain rfl := Option.some.inj h
  refine retW_pure rfl ?_
  simp only [go_sem, Le]
 ·
  replace h := if_f h hb_0
  simp only [bool_to_prop] at hb_0
  refine vc_skip_of ?_
  refine seqQ_normal hQ2 ?_
  refine sg fun QQ5 hQ5 => ?_
  refine sg fun QQ6 hQ6 => ?_
  obtain ⟨v_1, ev_1, h⟩ := bindO_some h
  simp only [go_sem]
  refine call0 (f_backwashref15_Short_ok c_0 v_1 ev_1) (by rfl) (by rfl) ?_
  simp only [go_sem]
  rcases hb_1 : v_1 with _ | _
  ·
   replace h := if_f h hb_1
   simp only [go_sem, hb_1]
   refine seqQ_normal hQ6 ?_
   refine vc_cond_t (by (simp only [go_sem]; done)) ?_
   refine sg fun QQ7 hQ7 => ?_
   simp only [go_sem]
   refine seqQ_normal hQ7 ?_
   refine vc_ret_of ?_
   refine seqQ_ret hQ5 ?_
   simp only [go_sem]
   obtain rfl := Option.some.inj h
   refine retW_pure rfl ?_
   simp only [go_sem, Le]
  ·
   replace h := if_t h hb_1
   obtain ⟨v_2, ev_2, h⟩ := bindO_some h
   simp only [go_sem, hb_1]
   refine call0 (f_backwashlaw15_low_ok c_0 v_2 ev_2) (by rfl) (by rfl) ?_
   simp only [go_sem]
   refine seqQ_normal hQ6 ?_
   refine vc_cond_of (b := (!v_2)) (by (simp only [go_sem]; done)) (fun hb_2 => ?_) (fun hb_2 => ?_)
   ·
    replace h := if_t h hb_2
    simp only [bool_to_prop] at hb_2
    refine sg fun QQ8 hQ8 => ?_
    simp only [go_sem]
    refine seqQ_normal hQ8 ?_
    refine vc_ret_of ?_
    refine seqQ_ret hQ5 ?_
    simp only [go_sem]
    obtain rfl := Option.some.inj h
    refine retW_pure rfl ?_
    simp only [go_sem, Le]
   ·
    replace h := if_f h hb_2
    simp only [bool_to_prop] at hb_2
    refine vc_skip_of ?_
    refine seqQ_normal hQ5 ?_
    refine sg fun QQ9 hQ9 => ?_
    obtain ⟨v_3, ev_3, h⟩ := bindO_some h
    simp only [go_sem]
    refine callD [] (f_cell_Come_det c_0 kind_0 0 t_0 rv_0 (IntKind.i64.wrap nv_0) v_3 ev_3) (by simp) rfl trivial rfl rfl rfl rfl ?_
    simp only [go_sem]
    refine seqQ_normal hQ9 ?_
    refine sg fun QQ10 hQ10 => ?_
    obtain ⟨v_4, ev_4, h⟩ := bindO_some h
    simp only [go_sem]
    refine callF_weak (s' := (⟨0, [(0, .sl 10 (enc c_0)), (1, .v (.int .i64 kind_0)), (2, .agg [.v (.int .i64 t_0.D), .v (.int .i64 t_0.C.a0), .v (.int .i64 t_0.C.a1), .v (.int .i64 t_0.C.a2), .v (.int .i64 t_0.C.a3)]), (3, .agg [.v (.int .i64 u_0.D), .v (.int .i64 u_0.C.a0), .v (.int .i64 u_0.C.a1), .v (.int .i64 u_0.C.a2), .v (.int .i64 u_0.C.a3)]), (4, .agg [.v (.int .i64 rv_0.K), .v (.int .i64 rv_0.V)]), (5, .agg [.v (.int .i64 s_0.K), .v (.int .i64 s_0.V)]), (6, .v (.int .i8 nv_0)), (7, .v (.int .i8 mv_0)), (10, .ptr 0 0), (11, .ptr 1 0), (12, .ptr 2 0), (13, .ptr 3 0), (16, .v (.bool false)), (17, .sl 10 (enc v_3.1)), (18, .v (.bool v_3.2.1)), (19, .v (.bool v_3.2.2)), (28, .v (.bool v_0)), (29, .v (.bool (!v_0))), (30, .sl 10 (enc c_0)), (31, .v (.bool true)), (32, .v (.bool false)), (33, .v (.bool false)), (34, .sl 10 (enc c_0)), (35, .v (.bool v_2)), (36, .v (.bool (!v_2))), (37, .v (.bool (!v_2))), (38, .tup [.sl 10 (enc v_3.1), .v (.bool v_3.2.1), .v (.bool v_3.2.2)]), (39, .sl 10 (enc c_0)), (40, .v (.int .i64 kind_0)), (41, .agg [.v (.int .i64 t_0.D), .v (.int .i64 t_0.C.a0), .v (.int .i64 t_0.C.a1), .v (.int .i64 t_0.C.a2), .v (.int .i64 t_0.C.a3)]), (42, .agg [.v (.int .i64 rv_0.K), .v (.int .i64 rv_0.V)]), (43, .v (.int .i8 nv_0)), (44, .v (.int .i64 (IntKind.i64.wrap nv_0))), (45, .tup [.sl 10 (enc v_3.1), .v (.bool v_3.2.1), .v (.bool v_3.2.2)]), (46, .sl 10 (enc v_3.1)), (47, .v (.bool v_3.2.1)), (48, .v (.bool v_3.2.2)), (50, .sl 10 (enc v_3.1)), (51, .v (.int .i64 kind_0)), (52, .agg [.v (.int .i64 u_0.D), .v (.int .i64 u_0.C.a0), .v (.int .i64 u_0.C.a1), .v (.int .i64 u_0.C.a2), .v (.int .i64 u_0.C.a3)]), (53, .agg [.v (.int .i64 s_0.K), .v (.int .i64 s_0.V)]), (54, .v (.int .i8 mv_0)), (55, .v (.int .i64 (IntKind.i64.wrap mv_0)))], [(0, .box [.v (.int .i64 t_0.D), .v (.int .i64 t_0.C.a0), .v (.int .i64 t_0.C.a1), .v (.int .i64 t_0.C.a2), .v (.int .i64 t_0.C.a3)]), (1, .box [.v (.int .i64 u_0.D), .v (.int .i64 u_0.C.a0), .v (.int .i64 u_0.C.a1), .v (.int .i64 u_0.C.a2), .v (.int .i64 u_0.C.a3)]), (2, .box [.v (.int .i64 rv_0.K), .v (.int .i64 rv_0.V)]), (3, .box [.v (.int .i64 s_0.K), .v (.int .i64 s_0.V)])], 4, 166⟩ : St)) (l := [some 0, some 1, some 2, some 3]) (args' := [.sl 10 (enc v_3.1), .v (.int .i64 kind_0), .v (.int .i64 0), .agg [.v (.int .i64 u_0.D), .v (.int .i64 u_0.C.a0), .v (.int .i64 u_0.C.a1), .v (.int .i64 u_0.C.a2), .v (.int .i64 u_0.C.a3)], .agg [.v (.int .i64 s_0.K), .v (.int .i64 s_0.V)], .v (.int .i64 (IntKind.i64.wrap mv_0))]) ?_ ?_ ?_
    · simp only [go_sem, Le] <;> (repeat' apply And.intro) <;> first | ((try with_reducible refine TL_eq ?_); omega) | ((try with_reducible refine TL_eq ?_); (simp [go_sem]; done))
    · simp only [go_sem, Le] <;> (repeat' apply And.intro) <;> ((try with_reducible refine TL_eq ?_); (simp [go_sem]; done))
    refine callD [] (f_cell_Come_det v_3.1 kind_0 0 u_0 s_0 (IntKind.i64.wrap mv_0) v_4 ev_4) (by simp) rfl trivial rfl rfl rfl rfl ?_
    simp only [go_sem]
    refine seqQ_normal hQ10 ?_
    refine sg fun QQ11 hQ11 => ?_
    obtain ⟨v_5, ev_5, h⟩ := bindO_some h
    simp only [go_sem]
    refine callD [] (f_cell_Come_det c_0 kind_0 0 u_0 s_0 (IntKind.i64.wrap mv_0) v_5 ev_5) (by simp) rfl trivial rfl rfl rfl rfl ?_
    simp only [go_sem]
    refine seqQ_normal hQ11 ?_
    refine sg fun QQ12 hQ12 => ?_
    obtain ⟨v_6, ev_6, h⟩ := bindO_some h
    simp only [go_sem]
    refine callF_weak (s' := (⟨0, [(0, .sl 10 (enc c_0)), (1, .v (.int .i64 kind_0)), (2, .agg [.v (.int .i64 t_0.D), .v (.int .i64 t_0.C.a0), .v (.int .i64 t_0.C.a1), .v (.int .i64 t_0.C.a2), .v (.int .i64 t_0.C.a3)]), (3, .agg [.v (.int .i64 u_0.D), .v (.int .i64 u_0.C.a0), .v (.int .i64 u_0.C.a1), .v (.int .i64 u_0.C.a2), .v (.int .i64 u_0.C.a3)]), (4, .agg [.v (.int .i64 rv_0.K), .v (.int .i64 rv_0.V)]), (5, .agg [.v (.int .i64 s_0.K), .v (.int .i64 s_0.V)]), (6, .v (.int .i8 nv_0)), (7, .v (.int .i8 mv_0)), (10, .ptr 0 0), (11, .ptr 1 0), (12, .ptr 2 0), (13, .ptr 3 0), (16, .v (.bool false)), (17, .osl 4 10 (0) (List.length v_4.1)), (18, .v (.bool v_3.2.1)), (19, .v (.bool v_3.2.2)), (20, .v (.bool v_4.2.1)), (21, .v (.bool v_4.2.2)), (22, .sl 10 (enc v_5.1)), (23, .v (.bool v_5.2.1)), (24, .v (.bool v_5.2.2)), (28, .v (.bool v_0)), (29, .v (.bool (!v_0))), (30, .sl 10 (enc c_0)), (31, .v (.bool true)), (32, .v (.bool false)), (33, .v (.bool false)), (34, .sl 10 (enc c_0)), (35, .v (.bool v_2)), (36, .v (.bool (!v_2))), (37, .v (.bool (!v_2))), (38, .tup [.sl 10 (enc v_3.1), .v (.bool v_3.2.1), .v (.bool v_3.2.2)]), (39, .sl 10 (enc c_0)), (40, .v (.int .i64 kind_0)), (41, .agg [.v (.int .i64 t_0.D), .v (.int .i64 t_0.C.a0), .v (.int .i64 t_0.C.a1), .v (.int .i64 t_0.C.a2), .v (.int .i64 t_0.C.a3)]), (42, .agg [.v (.int .i64 rv_0.K), .v (.int .i64 rv_0.V)]), (43, .v (.int .i8 nv_0)), (44, .v (.int .i64 (IntKind.i64.wrap nv_0))), (45, .tup [.sl 10 (enc v_3.1), .v (.bool v_3.2.1), .v (.bool v_3.2.2)]), (46, .sl 10 (enc v_3.1)), (47, .v (.bool v_3.2.1)), (48, .v (.bool v_3.2.2)), (49, .tup [.osl 4 10 (0) (List.length v_4.1), .v (.bool v_4.2.1), .v (.bool v_4.2.2)]), (50, .sl 10 (enc v_3.1)), (51, .v (.int .i64 kind_0)), (52, .agg [.v (.int .i64 u_0.D), .v (.int .i64 u_0.C.a0), .v (.int .i64 u_0.C.a1), .v (.int .i64 u_0.C.a2), .v (.int .i64 u_0.C.a3)]), (53, .agg [.v (.int .i64 s_0.K), .v (.int .i64 s_0.V)]), (54, .v (.int .i8 mv_0)), (55, .v (.int .i64 (IntKind.i64.wrap mv_0))), (56, .tup [.osl 4 10 (0) (List.length v_4.1), .v (.bool v_4.2.1), .v (.bool v_4.2.2)]), (57, .osl 4 10 (0) (List.length v_4.1)), (58, .v (.bool v_4.2.1)), (59, .v (.bool v_4.2.2)), (60, .tup [.sl 10 (enc v_5.1), .v (.bool v_5.2.1), .v (.bool v_5.2.2)]), (61, .sl 10 (enc c_0)), (62, .v (.int .i64 kind_0)), (63, .agg [.v (.int .i64 u_0.D), .v (.int .i64 u_0.C.a0), .v (.int .i64 u_0.C.a1), .v (.int .i64 u_0.C.a2), .v (.int .i64 u_0.C.a3)]), (64, .agg [.v (.int .i64 s_0.K), .v (.int .i64 s_0.V)]), (65, .v (.int .i8 mv_0)), (66, .v (.int .i64 (IntKind.i64.wrap mv_0))), (67, .tup [.sl 10 (enc v_5.1), .v (.bool v_5.2.1), .v (.bool v_5.2.2)]), (68, .sl 10 (enc v_5.1)), (69, .v (.bool v_5.2.1)), (70, .v (.bool v_5.2.2)), (72, .sl 10 (enc v_5.1)), (73, .v (.int .i64 kind_0)), (74, .agg [.v (.int .i64 t_0.D), .v (.int .i64 t_0.C.a0), .v (.int .i64 t_0.C.a1), .v (.int .i64 t_0.C.a2), .v (.int .i64 t_0.C.a3)]), (75, .agg [.v (.int .i64 rv_0.K), .v (.int .i64 rv_0.V)]), (76, .v (.int .i8 nv_0)), (77, .v (.int .i64 (IntKind.i64.wrap nv_0)))], [(0, .box [.v (.int .i64 t_0.D), .v (.int .i64 t_0.C.a0), .v (.int .i64 t_0.C.a1), .v (.int .i64 t_0.C.a2), .v (.int .i64 t_0.C.a3)]), (1, .box [.v (.int .i64 u_0.D), .v (.int .i64 u_0.C.a0), .v (.int .i64 u_0.C.a1), .v (.int .i64 u_0.C.a2), .v (.int .i64 u_0.C.a3)]), (2, .box [.v (.int .i64 rv_0.K), .v (.int .i64 rv_0.V)]), (3, .box [.v (.int .i64 s_0.K), .v (.int .i64 s_0.V)]), (4, .arr 10 (enc v_4.1))], 5, 166⟩ : St)) (l := [some 0, some 1, some 2, some 3, some 4]) (args' := [.sl 10 (enc v_5.1), .v (.int .i64 kind_0), .v (.int .i64 0), .agg [.v (.int .i64 t_0.D), .v (.int .i64 t_0.C.a0), .v (.int .i64 t_0.C.a1), .v (.int .i64 t_0.C.a2), .v (.int .i64 t_0.C.a3)], .agg [.v (.int .i64 rv_0.K), .v (.int .i64 rv_0.V)], .v (.int .i64 (IntKind.i64.wrap nv_0))]) ?_ ?_ ?_
    · simp only [go_sem, Le] <;> (repeat' apply And.intro) <;> first | ((try with_reducible refine TL_eq ?_); omega) | ((try with_reducible refine TL_eq ?_); (simp [go_sem]; done))
    · simp only [go_sem, Le] <;> (repeat' apply And.intro) <;> ((try with_reducible refine TL_eq ?_); (simp [go_sem]; done))
    refine callD [] (f_cell_Come_det v_5.1 kind_0 0 t_0 rv_0 (IntKind.i64.wrap nv_0) v_6 ev_6) (by simp) rfl trivial rfl rfl rfl rfl ?_
    simp only [go_sem]
    refine seqQ_normal hQ12 ?_
    refine sg fun QQ13 hQ13 => ?_
    refine sg fun QQ14 hQ14 => ?_
    simp only [go_sem]
    refine seqQ_normal hQ14 ?_
    refine vc_cond_of (b := ((!(v_3.2.2 == v_6.2.2)) || (!(v_4.2.2 == v_5.2.2)))) (by (simp only [go_sem]; done)) (fun hb_3 => ?_) (fun hb_3 => ?_)
    ·
     replace h := if_t h hb_3
     simp only [bool_to_prop] at hb_3
     refine sg fun QQ15 hQ15 => ?_
     simp only [go_sem]
     refine seqQ_normal hQ15 ?_
     refine vc_ret_of ?_
     refine seqQ_ret hQ13 ?_
     simp only [go_sem]
     obtain rfl := Option.some.inj h
     refine retW_pure rfl ?_
     simp only [go_sem, Le]
    ·
     replace h := if_f h hb_3
     simp only [bool_to_prop] at hb_3
     refine vc_skip_of ?_
     refine seqQ_normal hQ13 ?_
     refine sg fun QQ16 hQ16 => ?_
     refine sg fun QQ17 hQ17 => ?_
     simp only [go_sem]
     rcases hb_4 : ((List.length v_4.1 : Int) == (List.length v_6.1 : Int)) with _ | _
     ·
      replace h := if_f h hb_4
      simp only [go_sem, hb_4]
      refine seqQ_normal hQ17 ?_
      refine vc_cond_t (by (simp only [go_sem]; done)) ?_
      refine sg fun QQ18 hQ18 => ?_
      simp only [go_sem]
      refine seqQ_normal hQ18 ?_
      refine vc_ret_of ?_
      refine seqQ_ret hQ16 ?_
      simp only [go_sem]
      obtain rfl := Option.some.inj h
      refine retW_pure rfl ?_
      simp only [go_sem, Le]
     ·
      replace h := if_t h hb_4
      obtain ⟨v_7, ev_7, h⟩ := bindO_some h
      simp only [go_sem, hb_4]
      refine callF_weak (s' := (⟨0, [(0, .sl 10 (enc c_0)), (1, .v (.int .i64 kind_0)), (2, .agg [.v (.int .i64 t_0.D), .v (.int .i64 t_0.C.a0), .v (.int .i64 t_0.C.a1), .v (.int .i64 t_0.C.a2), .v (.int .i64 t_0.C.a3)]), (3, .agg [.v (.int .i64 u_0.D), .v (.int .i64 u_0.C.a0), .v (.int .i64 u_0.C.a1), .v (.int .i64 u_0.C.a2), .v (.int .i64 u_0.C.a3)]), (4, .agg [.v (.int .i64 rv_0.K), .v (.int .i64 rv_0.V)]), (5, .agg [.v (.int .i64 s_0.K), .v (.int .i64 s_0.V)]), (6, .v (.int .i8 nv_0)), (7, .v (.int .i8 mv_0)), (10, .ptr 0 0), (11, .ptr 1 0), (12, .ptr 2 0), (13, .ptr 3 0), (16, .v (.bool false)), (17, .sl 10 (enc v_4.1)), (18, .v (.bool v_3.2.1)), (19, .v (.bool v_3.2.2)), (20, .v (.bool v_4.2.1)), (21, .v (.bool v_4.2.2)), (22, .osl 4 10 (0) (List.length v_6.1)), (23, .v (.bool v_5.2.1)), (24, .v (.bool v_5.2.2)), (25, .v (.bool v_6.2.1)), (26, .v (.bool v_6.2.2)), (28, .v (.bool v_0)), (29, .v (.bool (!v_0))), (30, .sl 10 (enc c_0)), (31, .v (.bool true)), (32, .v (.bool false)), (33, .v (.bool false)), (34, .sl 10 (enc c_0)), (35, .v (.bool v_2)), (36, .v (.bool (!v_2))), (37, .v (.bool (!v_2))), (38, .tup [.sl 10 (enc v_3.1), .v (.bool v_3.2.1), .v (.bool v_3.2.2)]), (39, .sl 10 (enc c_0)), (40, .v (.int .i64 kind_0)), (41, .agg [.v (.int .i64 t_0.D), .v (.int .i64 t_0.C.a0), .v (.int .i64 t_0.C.a1), .v (.int .i64 t_0.C.a2), .v (.int .i64 t_0.C.a3)]), (42, .agg [.v (.int .i64 rv_0.K), .v (.int .i64 rv_0.V)]), (43, .v (.int .i8 nv_0)), (44, .v (.int .i64 (IntKind.i64.wrap nv_0))), (45, .tup [.sl 10 (enc v_3.1), .v (.bool v_3.2.1), .v (.bool v_3.2.2)]), (46, .sl 10 (enc v_3.1)), (47, .v (.bool v_3.2.1)), (48, .v (.bool v_3.2.2)), (49, .tup [.sl 10 (enc v_4.1), .v (.bool v_4.2.1), .v (.bool v_4.2.2)]), (50, .sl 10 (enc v_3.1)), (51, .v (.int .i64 kind_0)), (52, .agg [.v (.int .i64 u_0.D), .v (.int .i64 u_0.C.a0), .v (.int .i64 u_0.C.a1), .v (.int .i64 u_0.C.a2), .v (.int .i64 u_0.C.a3)]), (53, .agg [.v (.int .i64 s_0.K), .v (.int .i64 s_0.V)]), (54, .v (.int .i8 mv_0)), (55, .v (.int .i64 (IntKind.i64.wrap mv_0))), (56, .tup [.sl 10 (enc v_4.1), .v (.bool v_4.2.1), .v (.bool v_4.2.2)]), (57, .sl 10 (enc v_4.1)), (58, .v (.bool v_4.2.1)), (59, .v (.bool v_4.2.2)), (60, .tup [.sl 10 (enc v_5.1), .v (.bool v_5.2.1), .v (.bool v_5.2.2)]), (61, .sl 10 (enc c_0)), (62, .v (.int .i64 kind_0)), (63, .agg [.v (.int .i64 u_0.D), .v (.int .i64 u_0.C.a0), .v (.int .i64 u_0.C.a1), .v (.int .i64 u_0.C.a2), .v (.int .i64 u_0.C.a3)]), (64, .agg [.v (.int .i64 s_0.K), .v (.int .i64 s_0.V)]), (65, .v (.int .i8 mv_0)), (66, .v (.int .i64 (IntKind.i64.wrap mv_0))), (67, .tup [.sl 10 (enc v_5.1), .v (.bool v_5.2.1), .v (.bool v_5.2.2)]), (68, .sl 10 (enc v_5.1)), (69, .v (.bool v_5.2.1)), (70, .v (.bool v_5.2.2)), (71, .tup [.osl 4 10 (0) (List.length v_6.1), .v (.bool v_6.2.1), .v (.bool v_6.2.2)]), (72, .sl 10 (enc v_5.1)), (73, .v (.int .i64 kind_0)), (74, .agg [.v (.int .i64 t_0.D), .v (.int .i64 t_0.C.a0), .v (.int .i64 t_0.C.a1), .v (.int .i64 t_0.C.a2), .v (.int .i64 t_0.C.a3)]), (75, .agg [.v (.int .i64 rv_0.K), .v (.int .i64 rv_0.V)]), (76, .v (.int .i8 nv_0)), (77, .v (.int .i64 (IntKind.i64.wrap nv_0))), (78, .tup [.osl 4 10 (0) (List.length v_6.1), .v (.bool v_6.2.1), .v (.bool v_6.2.2)]), (79, .osl 4 10 (0) (List.length v_6.1)), (80, .v (.bool v_6.2.1)), (81, .v (.bool v_6.2.2)), (82, .v (.bool v_3.2.2)), (83, .v (.bool v_6.2.2)), (84, .v (.bool (!(v_3.2.2 == v_6.2.2)))), (85, .v (.bool (!(v_3.2.2 == v_6.2.2)))), (89, .v (.bool ((!(v_3.2.2 == v_6.2.2)) || (!(v_4.2.2 == v_5.2.2))))), (90, .sl 10 (enc v_4.1)), (91, .v (.int .i64 (List.length v_4.1 : Int))), (92, .osl 4 10 (0) (List.length v_6.1)), (93, .v (.int .i64 (List.length v_6.1 : Int))), (94, .v (.bool false)), (95, .v (.bool false)), (96, .sl 10 (enc v_4.1))], [(0, .box [.v (.int .i64 t_0.D), .v (.int .i64 t_0.C.a0), .v (.int .i64 t_0.C.a1), .v (.int .i64 t_0.C.a2), .v (.int .i64 t_0.C.a3)]), (1, .box [.v (.int .i64 u_0.D), .v (.int .i64 u_0.C.a0), .v (.int .i64 u_0.C.a1), .v (.int .i64 u_0.C.a2), .v (.int .i64 u_0.C.a3)]), (2, .box [.v (.int .i64 rv_0.K), .v (.int .i64 rv_0.V)]), (3, .box [.v (.int .i64 s_0.K), .v (.int .i64 s_0.V)]), (4, .arr 10 (enc v_6.1))], 5, 166⟩ : St)) (l := [some 0, some 1, some 2, some 3, some 5]) (args' := [.sl 10 (enc v_4.1)]) ?_ ?_ ?_
      · simp only [go_sem, Le] <;> (repeat' apply And.intro) <;> first | ((try with_reducible refine TL_eq ?_); omega) | ((try with_reducible refine TL_eq ?_); (simp [go_sem]; done))
      · simp only [go_sem, Le] <;> (repeat' apply And.intro) <;> ((try with_reducible refine TL_eq ?_); (simp [go_sem]; done))
      refine callD [] (f_cell_Stale_det v_4.1 v_7 ev_7) (by simp) rfl trivial rfl rfl rfl rfl ?_
      obtain ⟨v_8, ev_8, h⟩ := bindO_some h
      simp only [go_sem]
      refine callF_weak (s' := (⟨0, [(0, .sl 10 (enc c_0)), (1, .v (.int .i64 kind_0)), (2, .agg [.v (.int .i64 t_0.D), .v (.int .i64 t_0.C.a0), .v (.int .i64 t_0.C.a1), .v (.int .i64 t_0.C.a2), .v (.int .i64 t_0.C.a3)]), (3, .agg [.v (.int .i64 u_0.D), .v (.int .i64 u_0.C.a0), .v (.int .i64 u_0.C.a1), .v (.int .i64 u_0.C.a2), .v (.int .i64 u_0.C.a3)]), (4, .agg [.v (.int .i64 rv_0.K), .v (.int .i64 rv_0.V)]), (5, .agg [.v (.int .i64 s_0.K), .v (.int .i64 s_0.V)]), (6, .v (.int .i8 nv_0)), (7, .v (.int .i8 mv_0)), (10, .ptr 0 0), (11, .ptr 1 0), (12, .ptr 2 0), (13, .ptr 3 0), (16, .v (.bool false)), (17, .sl 10 (enc v_4.1)), (18, .v (.bool v_3.2.1)), (19, .v (.bool v_3.2.2)), (20, .v (.bool v_4.2.1)), (21, .v (.bool v_4.2.2)), (22, .sl 10 (enc v_6.1)), (23, .v (.bool v_5.2.1)), (24, .v (.bool v_5.2.2)), (25, .v (.bool v_6.2.1)), (26, .v (.bool v_6.2.2)), (28, .v (.bool v_0)), (29, .v (.bool (!v_0))), (30, .sl 10 (enc c_0)), (31, .v (.bool true)), (32, .v (.bool false)), (33, .v (.bool false)), (34, .sl 10 (enc c_0)), (35, .v (.bool v_2)), (36, .v (.bool (!v_2))), (37, .v (.bool (!v_2))), (38, .tup [.sl 10 (enc v_3.1), .v (.bool v_3.2.1), .v (.bool v_3.2.2)]), (39, .sl 10 (enc c_0)), (40, .v (.int .i64 kind_0)), (41, .agg [.v (.int .i64 t_0.D), .v (.int .i64 t_0.C.a0), .v (.int .i64 t_0.C.a1), .v (.int .i64 t_0.C.a2), .v (.int .i64 t_0.C.a3)]), (42, .agg [.v (.int .i64 rv_0.K), .v (.int .i64 rv_0.V)]), (43, .v (.int .i8 nv_0)), (44, .v (.int .i64 (IntKind.i64.wrap nv_0))), (45, .tup [.sl 10 (enc v_3.1), .v (.bool v_3.2.1), .v (.bool v_3.2.2)]), (46, .sl 10 (enc v_3.1)), (47, .v (.bool v_3.2.1)), (48, .v (.bool v_3.2.2)), (49, .tup [.sl 10 (enc v_4.1), .v (.bool v_4.2.1), .v (.bool v_4.2.2)]), (50, .sl 10 (enc v_3.1)), (51, .v (.int .i64 kind_0)), (52, .agg [.v (.int .i64 u_0.D), .v (.int .i64 u_0.C.a0), .v (.int .i64 u_0.C.a1), .v (.int .i64 u_0.C.a2), .v (.int .i64 u_0.C.a3)]), (53, .agg [.v (.int .i64 s_0.K), .v (.int .i64 s_0.V)]), (54, .v (.int .i8 mv_0)), (55, .v (.int .i64 (IntKind.i64.wrap mv_0))), (56, .tup [.sl 10 (enc v_4.1), .v (.bool v_4.2.1), .v (.bool v_4.2.2)]), (57, .sl 10 (enc v_4.1)), (58, .v (.bool v_4.2.1)), (59, .v (.bool v_4.2.2)), (60, .tup [.sl 10 (enc v_5.1), .v (.bool v_5.2.1), .v (.bool v_5.2.2)]), (61, .sl 10 (enc c_0)), (62, .v (.int .i64 kind_0)), (63, .agg [.v (.int .i64 u_0.D), .v (.int .i64 u_0.C.a0), .v (.int .i64 u_0.C.a1), .v (.int .i64 u_0.C.a2), .v (.int .i64 u_0.C.a3)]), (64, .agg [.v (.int .i64 s_0.K), .v (.int .i64 s_0.V)]), (65, .v (.int .i8 mv_0)), (66, .v (.int .i64 (IntKind.i64.wrap mv_0))), (67, .tup [.sl 10 (enc v_5.1), .v (.bool v_5.2.1), .v (.bool v_5.2.2)]), (68, .sl 10 (enc v_5.1)), (69, .v (.bool v_5.2.1)), (70, .v (.bool v_5.2.2)), (71, .tup [.sl 10 (enc v_6.1), .v (.bool v_6.2.1), .v (.bool v_6.2.2)]), (72, .sl 10 (enc v_5.1)), (73, .v (.int .i64 kind_0)), (74, .agg [.v (.int .i64 t_0.D), .v (.int .i64 t_0.C.a0), .v (.int .i64 t_0.C.a1), .v (.int .i64 t_0.C.a2), .v (.int .i64 t_0.C.a3)]), (75, .agg [.v (.int .i64 rv_0.K), .v (.int .i64 rv_0.V)]), (76, .v (.int .i8 nv_0)), (77, .v (.int .i64 (IntKind.i64.wrap nv_0))), (78, .tup [.sl 10 (enc v_6.1), .v (.bool v_6.2.1), .v (.bool v_6.2.2)]), (79, .sl 10 (enc v_6.1)), (80, .v (.bool v_6.2.1)), (81, .v (.bool v_6.2.2)), (82, .v (.bool v_3.2.2)), (83, .v (.bool v_6.2.2)), (84, .v (.bool (!(v_3.2.2 == v_6.2.2)))), (85, .v (.bool (!(v_3.2.2 == v_6.2.2)))), (89, .v (.bool ((!(v_3.2.2 == v_6.2.2)) || (!(v_4.2.2 == v_5.2.2))))), (90, .sl 10 (enc v_4.1)), (91, .v (.int .i64 (List.length v_4.1 : Int))), (92, .sl 10 (enc v_6.1)), (93, .v (.int .i64 (List.length v_6.1 : Int))), (94, .v (.bool false)), (95, .v (.bool false)), (96, .sl 10 (enc v_4.1)), (97, .osl 4 5 (0) (List.length v_7)), (98, .sl 10 (enc v_6.1))], [(0, .box [.v (.int .i64 t_0.D), .v (.int .i64 t_0.C.a0), .v (.int .i64 t_0.C.a1), .v (.int .i64 t_0.C.a2), .v (.int .i64 t_0.C.a3)]), (1, .box [.v (.int .i64 u_0.D), .v (.int .i64 u_0.C.a0), .v (.int .i64 u_0.C.a1), .v (.int .i64 u_0.C.a2), .v (.int .i64 u_0.C.a3)]), (2, .box [.v (.int .i64 rv_0.K), .v (.int .i64 rv_0.V)]), (3, .box [.v (.int .i64 s_0.K), .v (.int .i64 s_0.V)]), (4, .arr 5 (enc v_7))], 5, 166⟩ : St)) (l := [some 0, some 1, some 2, some 3, some 5]) (args' := [.sl 10 (enc v_6.1)]) ?_ ?_ ?_
      · simp only [go_sem, Le] <;> (repeat' apply And.intro) <;> first | ((try with_reducible refine TL_eq ?_); omega) | ((try with_reducible refine TL_eq ?_); (simp [go_sem]; done))
      · simp only [go_sem, Le] <;> (repeat' apply And.intro) <;> ((try with_reducible refine TL_eq ?_); (simp [go_sem]; done))
      refine callD [] (f_cell_Stale_det v_6.1 v_8 ev_8) (by simp) rfl trivial rfl rfl rfl rfl ?_
      obtain ⟨v_9, ev_9, h⟩ := bindO_some h
      simp only [go_sem]
      refine callB (s' := (⟨0, [(0, .sl 10 (enc c_0)), (1, .v (.int .i64 kind_0)), (2, .agg [.v (.int .i64 t_0.D), .v (.int .i64 t_0.C.a0), .v (.int .i64 t_0.C.a1), .v (.int .i64 t_0.C.a2), .v (.int .i64 t_0.C.a3)]), (3, .agg [.v (.int .i64 u_0.D), .v (.int .i64 u_0.C.a0), .v (.int .i64 u_0.C.a1), .v (.int .i64 u_0.C.a2), .v (.int .i64 u_0.C.a3)]), (4, .agg [.v (.int .i64 rv_0.K), .v (.int .i64 rv_0.V)]), (5, .agg [.v (.int .i64 s_0.K), .v (.int .i64 s_0.V)]), (6, .v (.int .i8 nv_0)), (7, .v (.int .i8 mv_0)), (10, .ptr 0 0), (11, .ptr 1 0), (12, .ptr 2 0), (13, .ptr 3 0), (16, .v (.bool false)), (17, .sl 10 (enc v_4.1)), (18, .v (.bool v_3.2.1)), (19, .v (.bool v_3.2.2)), (20, .v (.bool v_4.2.1)), (21, .v (.bool v_4.2.2)), (22, .sl 10 (enc v_6.1)), (23, .v (.bool v_5.2.1)), (24, .v (.bool v_5.2.2)), (25, .v (.bool v_6.2.1)), (26, .v (.bool v_6.2.2)), (28, .v (.bool v_0)), (29, .v (.bool (!v_0))), (30, .sl 10 (enc c_0)), (31, .v (.bool true)), (32, .v (.bool false)), (33, .v (.bool false)), (34, .sl 10 (enc c_0)), (35, .v (.bool v_2)), (36, .v (.bool (!v_2))), (37, .v (.bool (!v_2))), (38, .tup [.sl 10 (enc v_3.1), .v (.bool v_3.2.1), .v (.bool v_3.2.2)]), (39, .sl 10 (enc c_0)), (40, .v (.int .i64 kind_0)), (41, .agg [.v (.int .i64 t_0.D), .v (.int .i64 t_0.C.a0), .v (.int .i64 t_0.C.a1), .v (.int .i64 t_0.C.a2), .v (.int .i64 t_0.C.a3)]), (42, .agg [.v (.int .i64 rv_0.K), .v (.int .i64 rv_0.V)]), (43, .v (.int .i8 nv_0)), (44, .v (.int .i64 (IntKind.i64.wrap nv_0))), (45, .tup [.sl 10 (enc v_3.1), .v (.bool v_3.2.1), .v (.bool v_3.2.2)]), (46, .sl 10 (enc v_3.1)), (47, .v (.bool v_3.2.1)), (48, .v (.bool v_3.2.2)), (49, .tup [.sl 10 (enc v_4.1), .v (.bool v_4.2.1), .v (.bool v_4.2.2)]), (50, .sl 10 (enc v_3.1)), (51, .v (.int .i64 kind_0)), (52, .agg [.v (.int .i64 u_0.D), .v (.int .i64 u_0.C.a0), .v (.int .i64 u_0.C.a1), .v (.int .i64 u_0.C.a2), .v (.int .i64 u_0.C.a3)]), (53, .agg [.v (.int .i64 s_0.K), .v (.int .i64 s_0.V)]), (54, .v (.int .i8 mv_0)), (55, .v (.int .i64 (IntKind.i64.wrap mv_0))), (56, .tup [.sl 10 (enc v_4.1), .v (.bool v_4.2.1), .v (.bool v_4.2.2)]), (57, .sl 10 (enc v_4.1)), (58, .v (.bool v_4.2.1)), (59, .v (.bool v_4.2.2)), (60, .tup [.sl 10 (enc v_5.1), .v (.bool v_5.2.1), .v (.bool v_5.2.2)]), (61, .sl 10 (enc c_0)), (62, .v (.int .i64 kind_0)), (63, .agg [.v (.int .i64 u_0.D), .v (.int .i64 u_0.C.a0), .v (.int .i64 u_0.C.a1), .v (.int .i64 u_0.C.a2), .v (.int .i64 u_0.C.a3)]), (64, .agg [.v (.int .i64 s_0.K), .v (.int .i64 s_0.V)]), (65, .v (.int .i8 mv_0)), (66, .v (.int .i64 (IntKind.i64.wrap mv_0))), (67, .tup [.sl 10 (enc v_5.1), .v (.bool v_5.2.1), .v (.bool v_5.2.2)]), (68, .sl 10 (enc v_5.1)), (69, .v (.bool v_5.2.1)), (70, .v (.bool v_5.2.2)), (71, .tup [.sl 10 (enc v_6.1), .v (.bool v_6.2.1), .v (.bool v_6.2.2)]), (72, .sl 10 (enc v_5.1)), (73, .v (.int .i64 kind_0)), (74, .agg [.v (.int .i64 t_0.D), .v (.int .i64 t_0.C.a0), .v (.int .i64 t_0.C.a1), .v (.int .i64 t_0.C.a2), .v (.int .i64 t_0.C.a3)]), (75, .agg [.v (.int .i64 rv_0.K), .v (.int .i64 rv_0.V)]), (76, .v (.int .i8 nv_0)), (77, .v (.int .i64 (IntKind.i64.wrap nv_0))), (78, .tup [.sl 10 (enc v_6.1), .v (.bool v_6.2.1), .v (.bool v_6.2.2)]), (79, .sl 10 (enc v_6.1)), (80, .v (.bool v_6.2.1)), (81, .v (.bool v_6.2.2)), (82, .v (.bool v_3.2.2)), (83, .v (.bool v_6.2.2)), (84, .v (.bool (!(v_3.2.2 == v_6.2.2)))), (85, .v (.bool (!(v_3.2.2 == v_6.2.2)))), (89, .v (.bool ((!(v_3.2.2 == v_6.2.2)) || (!(v_4.2.2 == v_5.2.2))))), (90, .sl 10 (enc v_4.1)), (91, .v (.int .i64 (List.length v_4.1 : Int))), (92, .sl 10 (enc v_6.1)), (93, .v (.int .i64 (List.length v_6.1 : Int))), (94, .v (.bool false)), (95, .v (.bool false)), (96, .sl 10 (enc v_4.1)), (97, .sl 5 (enc v_7)), (98, .sl 10 (enc v_6.1)), (99, .sl 5 (enc v_8))], [(0, .box [.v (.int .i64 t_0.D), .v (.int .i64 t_0.C.a0), .v (.int .i64 t_0.C.a1), .v (.int .i64 t_0.C.a2), .v (.int .i64 t_0.C.a3)]), (1, .box [.v (.int .i64 u_0.D), .v (.int .i64 u_0.C.a0), .v (.int .i64 u_0.C.a1), .v (.int .i64 u_0.C.a2), .v (.int .i64 u_0.C.a3)]), (2, .box [.v (.int .i64 rv_0.K), .v (.int .i64 rv_0.V)]), (3, .box [.v (.int .i64 s_0.K), .v (.int .i64 s_0.V)])], 4, 166⟩ : St)) (l := [some 0, some 1, some 2, some 3]) (args' := [.sl 5 (enc v_7), .sl 5 (enc v_8)]) ?_ ?_ (f_backwashref03_Same_ok v_7 v_8 v_9 ev_9) (by rfl) (by rfl) ?_
      · simp only [go_sem, Le] <;> (repeat' apply And.intro) <;> first | ((try with_reducible refine TL_eq ?_); omega) | ((try with_reducible refine TL_eq ?_); (simp [go_sem]; done))
      · simp only [go_sem, Le] <;> (repeat' apply And.intro) <;> ((try with_reducible refine TL_eq ?_); (simp [go_sem]; done))
      simp only [go_sem]
      refine seqQ_normal hQ17 ?_
      refine vc_cond_of (b := (!v_9)) (by (simp only [go_sem]; done)) (fun hb_5 => ?_) (fun hb_5 => ?_)
      ·
       replace h := if_t h hb_5
       simp only [bool_to_prop] at hb_5
       refine sg fun QQ19 hQ19 => ?_
       simp only [go_sem]
       refine seqQ_normal hQ19 ?_
       refine vc_ret_of ?_
       refine seqQ_ret hQ16 ?_
       simp only [go_sem]
       obtain rfl := Option.some.inj h
       refine retW_pure rfl ?_
       simp only [go_sem, Le]
      ·
       replace h := if_f h hb_5
       simp only [bool_to_prop] at hb_5
       refine vc_skip_of ?_
       refine seqQ_normal hQ16 ?_
       refine vc_join (by kernel_rfl) ?_
       refine seq_go_gen ?_
       intro QQ20 hQ20
       refine sg fun QQ21 hQ21 => ?_
       simp only [go_sem]
       refine seqQ_normal hQ21 ?_
       refine vc_block_gen ?_
       intro QQ22 hQ22
       refine vc_loop_of ?_
       refine loop_gen (ι := Nat × Int) (fun ((_, i_1) : Nat × Int) => (⟨0, [(17, .sl 10 (enc v_4.1)), (22, .sl 10 (enc v_6.1)), (27, .v (.int .i64 i_1))], [], 0, 166⟩ : St)) (fun ((n_, i_1) : Nat × Int) => loopK (f_backwashlaw15_CellOrder_B1 v_4 v_6) n_ i_1 = some r) (fun p => p.1) (rounds, 0) [] ?_ h ?_
       · simp only [go_sem, Le]
       ·
        rintro ⟨n_1, i_1⟩ h QQ23 hQ23
        dsimp only at h
        replace h := loopK_some h
        obtain ⟨m_1, rfl, h⟩ := h
        rw [f_backwashlaw15_CellOrder_B1] at h
        refine sg fun QQ24 hQ24 => ?_
        refine sg fun QQ25 hQ25 => ?_
        simp only [go_sem]
        refine seqQ_normal hQ25 ?_
        refine vc_cond_of (b := (decide (i_1 < (List.length v_4.1 : Int)))) (by (simp only [go_sem]; done)) (fun hb_16 => ?_) (fun hb_16 => ?_)
        ·
         replace h := if_t h hb_16
         simp only [bool_to_prop] at hb_16
         refine vc_skip_of ?_
         refine seqQ_normal hQ24 ?_
         refine sg fun QQ26 hQ26 => ?_
         refine vc_block_gen ?_
         intro QQ27 hQ27
         refine sg fun QQ28 hQ28 => ?_
         refine vc_draw ?_
         refine drawM_tail 54 [0, 0, 3, 7, 15, 0, 0, 96, 224, 480, 1023, 2047, 4095, 4095, 16383, 32767, 65535, 131071, 4095, 4095, 790527, 1839103, 3936255, 8130559, 16777215, 33554431, 67108863, 134217727, 268435455, 268435455, 1073741823, 2147483647, 4294967295, 8589934591, 268435455, 268435455, 51808043007, 120527519743, 257966473215, 532844380159, 1099511627775, 2199023255551, 4398046511103, 8796093022207, 17592186044415, 17592186044415, 70368744177663, 140737488355327, 281474976710655, 17592186044415, 17592186044415, 1706442046308351, 3958241859993599, 8461841487364095, 18014398509481983, 36028797018963967, 72057594037927935] mixed (by kernel_rfl) (of_decide_eq_true (by kernel_rfl)) (by kernel_rfl) ?_
         obtain ⟨xv_4, exv_4, h⟩ := bindO_some h
         obtain ⟨fxv_4a, fxv_4b, fxv_4c⟩ := idx_spec exv_4
         obtain ⟨xv_5, exv_5, h⟩ := bindO_some h
         obtain ⟨fxv_5a, fxv_5b, fxv_5c⟩ := idx_spec exv_5
         simp only [go_sem, fxv_4a, fxv_4b, fxv_4c, fxv_5a, fxv_5b, fxv_5c]
         refine And.intro (by omega) ?_
         refine And.intro (by omega) ?_
         rcases hb_17 : ((xv_4.Time.D == xv_5.Time.D) && ((xv_4.Time.C.a0 == xv_5.Time.C.a0) && ((xv_4.Time.C.a1 == xv_5.Time.C.a1) && ((xv_4.Time.C.a2 == xv_5.Time.C.a2) && (xv_4.Time.C.a3 == xv_5.Time.C.a3))))) with _ | _
         ·
          replace h := if_f h hb_17
          simp only [go_sem, hb_17]
          refine seqQ_normal hQ28 ?_
          refine vc_cond_t (by (simp only [go_sem]; done)) ?_
          refine sg fun QQ29 hQ29 => ?_
          simp only [go_sem]
          refine seqQ_normal hQ29 ?_
          refine vc_ret_of ?_
          refine blockQ_ret hQ27 ?_
          refine seqQ_ret hQ26 ?_
          refine thenQ_ret hQ23 ?_
          refine blockQ_ret hQ22 ?_
          refine seqQ_ret hQ20 ?_
          simp only [go_sem]
          obtain rfl := Option.some.inj h
          refine retW_pure rfl ?_
          simp only [go_sem, Le]
         ·
          replace h := if_t h hb_17
          obtain ⟨v_16, ev_16, h⟩ := bindO_some h
          simp only [go_sem, hb_17, fxv_4a, fxv_4b, fxv_4c, fxv_5a, fxv_5b, fxv_5c]
          refine And.intro (by omega) ?_
          refine And.intro (by omega) ?_
          refine callq (fun _ => (f_backwashref05_Same_ok xv_4.In.a0 xv_5.In.a0 v_16 ev_16)) (by rfl) (by rfl) ?_
          simp only [go_sem]
          rcases hb_18 : v_16 with _ | _
          ·
           replace h := if_f h hb_18
           simp only [go_sem, hb_18]
           refine seqQ_normal hQ28 ?_
           refine vc_cond_t (by (simp only [go_sem]; done)) ?_
           refine sg fun QQ30 hQ30 => ?_
           simp only [go_sem]
           refine seqQ_normal hQ30 ?_
           refine vc_ret_of ?_
           refine blockQ_ret hQ27 ?_
           refine seqQ_ret hQ26 ?_
           refine thenQ_ret hQ23 ?_
           refine blockQ_ret hQ22 ?_
           refine seqQ_ret hQ20 ?_
           simp only [go_sem]
           obtain rfl := Option.some.inj h
           refine retW_pure rfl ?_
           simp only [go_sem, Le]
          ·
           replace h := if_t h hb_18
           obtain ⟨v_17, ev_17, h⟩ := bindO_some h
           simp only [go_sem, hb_18, fxv_4a, fxv_4b, fxv_4c, fxv_5a, fxv_5b, fxv_5c]
           refine And.intro (by omega) ?_
           refine And.intro (by omega) ?_
           refine callq (fun _ => (f_backwashref05_Same_ok xv_4.In.a1 xv_5.In.a1 v_17 ev_17)) (by rfl) (by rfl) ?_
           simp only [go_sem]
           rcases hb_19 : v_17 with _ | _
           ·
            replace h := if_f h hb_19
            simp only [go_sem, hb_19]
            refine seqQ_normal hQ28 ?_
            refine vc_cond_t (by (simp only [go_sem]; done)) ?_
            refine sg fun QQ31 hQ31 => ?_
            simp only [go_sem]
            refine seqQ_normal hQ31 ?_
            refine vc_ret_of ?_
            refine blockQ_ret hQ27 ?_
            refine seqQ_ret hQ26 ?_
            refine thenQ_ret hQ23 ?_
            refine blockQ_ret hQ22 ?_
            refine seqQ_ret hQ20 ?_
            simp only [go_sem]
            obtain rfl := Option.some.inj h
            refine retW_pure rfl ?_
            simp only [go_sem, Le]
           ·
            replace h := if_t h hb_19
            obtain ⟨v_18, ev_18, h⟩ := bindO_some h
            simp only [go_sem, hb_19, fxv_4a, fxv_4b, fxv_4c, fxv_5a, fxv_5b, fxv_5c]
            refine And.intro (by omega) ?_
            refine And.intro (by omega) ?_
            refine call0 (f_backwashref05_Same_ok xv_4.Sent xv_5.Sent v_18 ev_18) (by rfl) (by rfl) ?_
            simp only [go_sem]
            refine seqQ_normal hQ28 ?_
            refine vc_cond_of (b := (!v_18)) (by (simp only [go_sem]; done)) (fun hb_20 => ?_) (fun hb_20 => ?_)
            ·
             replace h := if_t h hb_20
             simp only [bool_to_prop] at hb_20
             refine sg fun QQ32 hQ32 => ?_
             simp only [go_sem]
             refine seqQ_normal hQ32 ?_
             refine vc_ret_of ?_
             refine blockQ_ret hQ27 ?_
             refine seqQ_ret hQ26 ?_
             refine thenQ_ret hQ23 ?_
             refine blockQ_ret hQ22 ?_
             refine seqQ_ret hQ20 ?_
             simp only [go_sem]
             obtain rfl := Option.some.inj h
             refine retW_pure rfl ?_
             simp only [go_sem, Le]
            ·
             replace h := if_f h hb_20
             simp only [bool_to_prop] at hb_20
             refine vc_skip_of ?_
             refine blockQ_normal hQ27 ?_
             refine seqQ_normal hQ26 ?_
             simp only [go_sem]
             refine thenQ_normal hQ23 ?_
             refine ⟨(m_1, IntKind.i64.wrap (i_1 + 1)), [], ?_, h, Nat.lt_succ_self _⟩
             simp only [go_sem, Le]
        ·
         replace h := if_f h hb_16
         simp only [bool_to_prop] at hb_16
         refine vc_exit_of ?_
         refine seqQ_exit hQ24 ?_
         refine thenQ_exit hQ23 ?_
         refine blockQ_exit hQ22 ?_
         refine seqQ_normal hQ20 ?_
         refine sg fun QQ33 hQ33 => ?_
         simp only [go_sem]
         refine seqQ_normal hQ33 ?_
         refine vc_ret_of ?_
         simp only [go_sem]
         obtain rfl := Option.some.inj h
         refine retW_pure rfl ?_
         simp only [go_sem, Le]

end Go.Proofs.Ythpahhhdapdcpaa
