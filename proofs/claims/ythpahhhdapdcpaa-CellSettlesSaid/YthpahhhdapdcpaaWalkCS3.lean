/-
  What functions of the program compute, each told as a plain function that may give nothing, with the proof that the code does so. No condition beyond those that each theorem names.
-/
import Derived.Test.YthpahhhdapdcpaaWalkCS0
import Derived.Test.YthpahhhdapdcpaaWalkCS2
import Derived.Test.YthpahhhdapdcpaaWalkCS1
set_option linter.unusedSimpArgs false
set_option linter.unusedVariables false
set_option maxHeartbeats 2000000
set_option maxRecDepth 100000
namespace Go.Proofs.Ythpahhhdapdcpaa
open Go Go.RowKit
def f_backwashlaw15_more_s0_0_J1 (l_0 : List GBackwashlaw15_came) (t_0 : GTime) (port_0 : Int) (b_0 : List GItem) : Option (List GBackwashlaw15_came) :=
 bindO (f_bag_Plus ([] : List GItem) b_0) (fun (v_3 : List GItem) =>
 guardO (0 ≤ port_0 ∧ port_0 < 2) (
 bindO (some (if Int.toNat port_0 = 0 then v_3 else ([] : List GItem))) (fun (w_6 : List GItem) =>
 bindO (some (if Int.toNat port_0 = 1 then v_3 else ([] : List GItem))) (fun (w_7 : List GItem) =>
 guardO ((List.length l_0 + List.length ([(⟨t_0, (⟨w_6, w_7⟩ : Arr2 (List GItem))⟩ : GBackwashlaw15_came)] : List GBackwashlaw15_came)) * 88 ≤ 140737488355328) (
 some (l_0 ++ ([(⟨t_0, (⟨w_6, w_7⟩ : Arr2 (List GItem))⟩ : GBackwashlaw15_came)] : List GBackwashlaw15_came)))))))
def f_backwashlaw15_more_s0_0_B2 (l_0 : List GBackwashlaw15_came) (t_0 : GTime) (port_0 : Int) (b_0 : List GItem) (rec_2 : Int → Option (List GBackwashlaw15_came)) : Int → Option (List GBackwashlaw15_came) :=
 fun i_3 =>
 (if (decide (i_3 < (List.length l_0 : Int))) = true then bindO (idx l_0 i_3) (fun (xv_10 : GBackwashlaw15_came) =>
 (if ((xv_10.time.D == t_0.D) && ((xv_10.time.C.a0 == t_0.C.a0) && ((xv_10.time.C.a1 == t_0.C.a1) && ((xv_10.time.C.a2 == t_0.C.a2) && (xv_10.time.C.a3 == t_0.C.a3))))) = true then guardO (0 ≤ port_0 ∧ port_0 < 2) (
 bindO (idx ([xv_10.in_.a0, xv_10.in_.a1] : List (List GItem)) port_0) (fun (xv_11 : List GItem) =>
 bindO (f_bag_Plus xv_11 b_0) (fun (v_6 : List GItem) =>
 guardO (0 ≤ port_0 ∧ port_0 < 2) (
 bindO (some (if Int.toNat port_0 = 0 then v_6 else xv_10.in_.a0)) (fun (w_12 : List GItem) =>
 bindO (some (if Int.toNat port_0 = 1 then v_6 else xv_10.in_.a1)) (fun (w_13 : List GItem) =>
 some (List.set l_0 (Int.toNat i_3) (⟨xv_10.time, (⟨w_12, w_13⟩ : Arr2 (List GItem))⟩ : GBackwashlaw15_came))))))))
 else rec_2 (IntKind.i64.wrap (i_3 + 1))))
 else f_backwashlaw15_more_s0_0_J1 l_0 t_0 port_0 b_0)
def f_backwashlaw15_more_s0_0 (l_0 : List GBackwashlaw15_came) (t_0 : GTime) (port_0 : Int) (b_0 : List GItem) : Option (List GBackwashlaw15_came) :=
 loopK (f_backwashlaw15_more_s0_0_B2 l_0 t_0 port_0 b_0) rounds 0
theorem f_backwashlaw15_more_s0_0_det (l_0 : List GBackwashlaw15_came) (t_0 : GTime) (port_0 : Int) (b_0 : List GItem)  (r : List GBackwashlaw15_came) (h : f_backwashlaw15_more_s0_0 l_0 t_0 port_0 b_0 = some r) : DetS Try.prog 51 [.osl 0 7 (0) (List.length l_0), .agg [.v (.int .i64 t_0.D), .v (.int .i64 t_0.C.a0), .v (.int .i64 t_0.C.a1), .v (.int .i64 t_0.C.a2), .v (.int .i64 t_0.C.a3)], .v (.int .i64 port_0), .sl 3 (enc b_0)] [(0, .arr 7 (enc l_0))] 1 (.osl 1 7 (0) (List.length r)) [(1, .arr 7 (enc r))] 2 := by
 unfold DetS
 refine Spec.of_vc Try.func51 rfl (by kernel_rfl) (by kernel_rfl) ?_
 rw [f_backwashlaw15_more_s0_0] at h
 refine sg fun QQ1 hQ1 => ?_
 simp only [go_sem]
 refine seqQ_normal hQ1 ?_
 refine vc_join (by kernel_rfl) ?_
 refine seq_cut_gen (ι := Unit) (fun (_ : Unit) => (⟨1, [(0, .osl 0 7 (0) (List.length l_0)), (2, .v (.int .i64 port_0)), (3, .sl 3 (enc b_0)), (5, .ptr 1 0)], [(0, .arr 7 (enc l_0)), (1, .box [.v (.int .i64 t_0.D), .v (.int .i64 t_0.C.a0), .v (.int .i64 t_0.C.a1), .v (.int .i64 t_0.C.a2), .v (.int .i64 t_0.C.a3)])], 2, 51⟩ : St)) (fun (_ : Unit) => f_backwashlaw15_more_s0_0_J1 l_0 t_0 port_0 b_0 = some r) ?_ ?_
 ·
  intro QQ5 hQ5
  refine sg fun QQ6 hQ6 => ?_
  simp only [go_sem]
  refine seqQ_normal hQ6 ?_
  refine vc_block_gen ?_
  intro QQ7 hQ7
  refine vc_loop_of ?_
  refine loop_gen (ι := Nat × Int) (fun ((_, i_3) : Nat × Int) => (⟨1, [(0, .osl 0 7 (0) (List.length l_0)), (2, .v (.int .i64 port_0)), (3, .sl 3 (enc b_0)), (5, .ptr 1 0), (9, .v (.int .i64 i_3))], [(0, .arr 7 (enc l_0)), (1, .box [.v (.int .i64 t_0.D), .v (.int .i64 t_0.C.a0), .v (.int .i64 t_0.C.a1), .v (.int .i64 t_0.C.a2), .v (.int .i64 t_0.C.a3)])], 2, 51⟩ : St)) (fun ((n_, i_3) : Nat × Int) => loopK (f_backwashlaw15_more_s0_0_B2 l_0 t_0 port_0 b_0) n_ i_3 = some r) (fun p => p.1) (rounds, 0) [some 1] ?_ h ?_
  · simp only [go_sem, Le] <;> (repeat' apply And.intro) <;> first | ((try with_reducible refine TL_eq ?_); omega) | ((try with_reducible refine TL_eq ?_); (simp [go_sem]; done))
  ·
   rintro ⟨n_2, i_3⟩ h QQ8 hQ8
   dsimp only at h
   replace h := loopK_some h
   obtain ⟨m_2, rfl, h⟩ := h
   rw [f_backwashlaw15_more_s0_0_B2] at h
   refine sg fun QQ9 hQ9 => ?_
   refine sg fun QQ10 hQ10 => ?_
   simp only [go_sem]
   refine seqQ_normal hQ10 ?_
   refine vc_cond_of (b := (decide (i_3 < (List.length l_0 : Int)))) (by (simp only [go_sem]; done)) (fun hb_10 => ?_) (fun hb_10 => ?_)
   ·
    replace h := if_t h hb_10
    simp only [bool_to_prop] at hb_10
    refine vc_skip_of ?_
    refine seqQ_normal hQ9 ?_
    refine sg fun QQ11 hQ11 => ?_
    refine vc_block_gen ?_
    intro QQ12 hQ12
    refine sg fun QQ13 hQ13 => ?_
    refine vc_draw ?_
    refine drawM_tail 6 [0, 0, 3, 7, 15, 0, 63] mixed (by kernel_rfl) (of_decide_eq_true (by kernel_rfl)) (by kernel_rfl) ?_
    obtain ⟨xv_10, exv_10, h⟩ := bindO_some h
    obtain ⟨fxv_10a, fxv_10b, fxv_10c⟩ := idx_spec exv_10
    simp only [go_sem, fxv_10a, fxv_10b, fxv_10c]
    refine And.intro (by omega) ?_
    refine seqQ_normal hQ13 ?_
    refine vc_cond_of (b := ((xv_10.time.D == t_0.D) && ((xv_10.time.C.a0 == t_0.C.a0) && ((xv_10.time.C.a1 == t_0.C.a1) && ((xv_10.time.C.a2 == t_0.C.a2) && (xv_10.time.C.a3 == t_0.C.a3)))))) (by (simp only [go_sem]; done)) (fun hb_11 => ?_) (fun hb_11 => ?_)
    ·
     replace h := if_t h hb_11
     simp only [bool_to_prop] at hb_11
     refine sg fun QQ14 hQ14 => ?_
     refine vc_draw ?_
     refine drawM_tail 14 [0, 0, 0, 0, 0, 0, 24, 88, 248, 504, 0, 2040, 3, 4099, 16383, 32767] mixed (by kernel_rfl) (of_decide_eq_true (by kernel_rfl)) (by kernel_rfl) ?_
     obtain ⟨g_12, h⟩ := guardO_some h
     obtain ⟨xv_11, exv_11, h⟩ := bindO_some h
     obtain ⟨fxv_11a, fxv_11b, fxv_11c, fxv_11d⟩ := idx_at2 (f := (fun y => AV.sl 3 (enc y))) [.v (.int .i64 xv_10.time.D), .v (.int .i64 xv_10.time.C.a0), .v (.int .i64 xv_10.time.C.a1), .v (.int .i64 xv_10.time.C.a2), .v (.int .i64 xv_10.time.C.a3)] [] exv_11
     simp only [List.cons_append, List.nil_append, List.append_nil, List.map_cons, List.map_nil, List.length_cons, List.length_nil, Nat.zero_add, Nat.reduceAdd] at fxv_11b fxv_11c fxv_11d
     obtain ⟨v_6, ev_6, h⟩ := bindO_some h
     simp only [go_sem, fxv_10a, fxv_10b, fxv_10c, g_12, fxv_11a, fxv_11b, fxv_11c, fxv_11d]
     refine And.intro (by first | omega | (intros; simp_all; done)) ?_
     refine And.intro (by first | omega | (intros; simp_all; done)) ?_
     refine And.intro (by first | omega | (intros; simp_all; done)) ?_
     simp only [List.getD_eq_getElem?_getD, Nat.mul_one, fxv_11d, Option.map_some, Option.getD_some, true_and]
     simp only [go_sem, fxv_10a, fxv_10b, fxv_10c, g_12, fxv_11a, fxv_11b, fxv_11c, fxv_11d, List.getD_eq_getElem?_getD, Nat.mul_one, fxv_11d, Option.map_some, Option.getD_some, true_and]
     refine callq (fun _ => (f_bag_Plus_ok xv_11 b_0 v_6 ev_6)) (by rfl) (by rfl) ?_
     obtain ⟨g_13, h⟩ := guardO_some h
     obtain ⟨w_12, ew_12, h⟩ := bindO_some h
     obtain ⟨w_13, ew_13, h⟩ := bindO_some h
     have sf_6 := pv_set (f := (fun y => AV.sl 3 (enc y))) [.v (.int .i64 xv_10.time.D), .v (.int .i64 xv_10.time.C.a0), .v (.int .i64 xv_10.time.C.a1), .v (.int .i64 xv_10.time.C.a2), .v (.int .i64 xv_10.time.C.a3)] [] [xv_10.in_.a0, xv_10.in_.a1] [w_12, w_13] (Int.toNat port_0) v_6 (by simp only [List.length_cons, List.length_nil]; omega) (by simp only [List.mapIdx_cons, List.mapIdx_nil, Nat.zero_add, Nat.reduceAdd, Option.some.inj ew_12, Option.some.inj ew_13])
     simp only [List.cons_append, List.nil_append, List.append_nil, List.map_cons, List.map_nil, List.length_cons, List.length_nil, Nat.zero_add, Nat.reduceAdd, setC, Nat.add_assoc, enc_nil] at sf_6
     have rf_7 : (enc l_0).set (Int.toNat i_3) [.v (.int .i64 xv_10.time.D), .v (.int .i64 xv_10.time.C.a0), .v (.int .i64 xv_10.time.C.a1), .v (.int .i64 xv_10.time.C.a2), .v (.int .i64 xv_10.time.C.a3), .sl 3 (enc w_12), .sl 3 (enc w_13)] = enc (List.set l_0 (Int.toNat i_3) (⟨xv_10.time, (⟨w_12, w_13⟩ : Arr2 (List GItem))⟩ : GBackwashlaw15_came)) := by exact enc_set l_0 (Int.toNat i_3) (⟨xv_10.time, (⟨w_12, w_13⟩ : Arr2 (List GItem))⟩ : GBackwashlaw15_came)
     simp only [go_sem, fxv_10a, fxv_10b, fxv_10c, g_13, sf_6, Nat.mul_one, rf_7]
     refine And.intro (by omega) ?_
     refine And.intro (by omega) ?_
     refine seqQ_normal hQ14 ?_
     refine sg fun QQ15 hQ15 => ?_
     simp only [go_sem]
     refine seqQ_normal hQ15 ?_
     refine vc_ret_of ?_
     refine blockQ_ret hQ12 ?_
     refine seqQ_ret hQ11 ?_
     refine thenQ_ret hQ8 ?_
     refine blockQ_ret hQ7 ?_
     refine thenQ_ret hQ5 ?_
     simp only [go_sem]
     obtain rfl := Option.some.inj h
     refine retW_det [some 0] ?_
     simp only [go_sem, Le]
    ·
     replace h := if_f h hb_11
     simp only [bool_to_prop] at hb_11
     refine vc_skip_of ?_
     refine blockQ_normal hQ12 ?_
     refine seqQ_normal hQ11 ?_
     simp only [go_sem]
     refine thenQ_normal hQ8 ?_
     refine ⟨(m_2, IntKind.i64.wrap (i_3 + 1)), [some 1], ?_, h, Nat.lt_succ_self _⟩
     simp only [go_sem, Le] <;> (repeat' apply And.intro) <;> first | ((try with_reducible refine TL_eq ?_); omega) | ((try with_reducible refine TL_eq ?_); (simp [go_sem]; done))
   ·
    replace h := if_f h hb_10
    simp only [bool_to_prop] at hb_10
    refine vc_exit_of ?_
    refine seqQ_exit hQ9 ?_
    refine thenQ_exit hQ8 ?_
    refine blockQ_exit hQ7 ?_
    refine thenQ_normal hQ5 ?_
    refine ⟨(), [some 1], ?_, h⟩
    simp only [go_sem, Le] <;> (repeat' apply And.intro) <;> first | ((try with_reducible refine TL_eq ?_); omega) | ((try with_reducible refine TL_eq ?_); (simp [go_sem]; done))
 ·
  rintro ⟨⟩ h
  try dsimp only at h
  rw [f_backwashlaw15_more_s0_0_J1] at h
  refine sg fun QQ2 hQ2 => ?_
  simp only [go_sem]
  refine seqQ_normal hQ2 ?_
  refine sg fun QQ3 hQ3 => ?_
  obtain ⟨v_3, ev_3, h⟩ := bindO_some h
  simp only [go_sem]
  refine callF_weak (s' := (⟨1, [(0, .osl 0 7 (0) (List.length l_0)), (2, .v (.int .i64 port_0)), (3, .sl 3 (enc b_0)), (5, .ptr 1 0), (10, .ptr 2 0), (40, .agg [.v (.int .i64 t_0.D), .v (.int .i64 t_0.C.a0), .v (.int .i64 t_0.C.a1), .v (.int .i64 t_0.C.a2), .v (.int .i64 t_0.C.a3)]), (41, .agg [.v (.int .i64 t_0.D), .v (.int .i64 t_0.C.a0), .v (.int .i64 t_0.C.a1), .v (.int .i64 t_0.C.a2), .v (.int .i64 t_0.C.a3), .v (.slice none 0 0), .v (.slice none 0 0)]), (42, .v (.int .i64 port_0)), (43, .sl 3 (enc b_0))], [(0, .arr 7 (enc l_0)), (1, .box [.v (.int .i64 t_0.D), .v (.int .i64 t_0.C.a0), .v (.int .i64 t_0.C.a1), .v (.int .i64 t_0.C.a2), .v (.int .i64 t_0.C.a3)]), (2, .box [.v (.int .i64 t_0.D), .v (.int .i64 t_0.C.a0), .v (.int .i64 t_0.C.a1), .v (.int .i64 t_0.C.a2), .v (.int .i64 t_0.C.a3), .sl 3 (enc ([] : List GItem)), .sl 3 (enc ([] : List GItem))])], 3, 51⟩ : St)) (l := [some 1, some 2]) (args' := [.sl 3 (enc ([] : List GItem)), .sl 3 (enc b_0)]) ?_ ?_ (call0 (f_bag_Plus_ok ([] : List GItem) b_0 v_3 ev_3) (by rfl) (by rfl) ?_)
  · simp only [go_sem, Le] <;> (repeat' apply And.intro) <;> first | ((try with_reducible refine TL_eq ?_); omega) | ((try with_reducible refine TL_eq ?_); (simp [go_sem]; done))
  · simp only [go_sem, Le]
  obtain ⟨g_6, h⟩ := guardO_some h
  obtain ⟨w_6, ew_6, h⟩ := bindO_some h
  obtain ⟨w_7, ew_7, h⟩ := bindO_some h
  have sf_3 := pv_set (f := (fun y => AV.sl 3 (enc y))) [.v (.int .i64 t_0.D), .v (.int .i64 t_0.C.a0), .v (.int .i64 t_0.C.a1), .v (.int .i64 t_0.C.a2), .v (.int .i64 t_0.C.a3)] [] [([] : List GItem), ([] : List GItem)] [w_6, w_7] (Int.toNat port_0) v_3 (by simp only [List.length_cons, List.length_nil]; omega) (by simp only [List.mapIdx_cons, List.mapIdx_nil, Nat.zero_add, Nat.reduceAdd, Option.some.inj ew_6, Option.some.inj ew_7])
  simp only [List.cons_append, List.nil_append, List.append_nil, List.map_cons, List.map_nil, List.length_cons, List.length_nil, Nat.zero_add, Nat.reduceAdd, setC, Nat.add_assoc, enc_nil] at sf_3
  simp only [go_sem, g_6, sf_3, Nat.mul_one]
  refine And.intro (by omega) ?_
  refine seqQ_normal hQ3 ?_
  refine sg fun QQ4 hQ4 => ?_
  have rf_3 : [[.v (.int .i64 t_0.D), .v (.int .i64 t_0.C.a0), .v (.int .i64 t_0.C.a1), .v (.int .i64 t_0.C.a2), .v (.int .i64 t_0.C.a3), .sl 3 (enc w_6), .sl 3 (enc w_7)]] = enc ([(⟨t_0, (⟨w_6, w_7⟩ : Arr2 (List GItem))⟩ : GBackwashlaw15_came)] : List GBackwashlaw15_came) := by rfl
  obtain ⟨g_7, h⟩ := guardO_some h
  simp only [List.length_cons, List.length_nil, Nat.zero_add, List.length_append] at g_7
  have rf_4 : enc l_0 ++ [[.v (.int .i64 t_0.D), .v (.int .i64 t_0.C.a0), .v (.int .i64 t_0.C.a1), .v (.int .i64 t_0.C.a2), .v (.int .i64 t_0.C.a3), .sl 3 (enc w_6), .sl 3 (enc w_7)]] = enc (l_0 ++ ([(⟨t_0, (⟨w_6, w_7⟩ : Arr2 (List GItem))⟩ : GBackwashlaw15_came)] : List GBackwashlaw15_came)) := by exact (enc_app l_0 ([(⟨t_0, (⟨w_6, w_7⟩ : Arr2 (List GItem))⟩ : GBackwashlaw15_came)] : List GBackwashlaw15_came)).symm
  simp only [go_sem, g_7, rf_4]
  simp only [rf_3]
  refine seqQ_normal hQ4 ?_
  refine vc_ret_of ?_
  simp only [go_sem]
  obtain rfl := Option.some.inj h
  refine retW_det [some 4] ?_
  simp only [go_sem, Le] <;> (repeat' apply And.intro) <;> ((try with_reducible refine TL_eq ?_); (simp [go_sem]; done))

def f_backwashlaw15_settle_s3_0_J1 (c_3 : List GSlot) (a_2 : List GBackwashlaw15_came) : Option ((List GSlot) × (List GBackwashlaw15_came) × Bool) :=
 bindO (f_cell_Next c_3) (fun (v_12 : GTime × Bool) =>
 some (c_3, a_2, (!v_12.2)))
def f_backwashlaw15_settle_s3_0_B2 (xv_0 : GNode) (lazy_0 : Bool) (most_0 : Int) (rec_2 : (List GSlot) × Int × (List GBackwashlaw15_came) → Option ((List GSlot) × (List GBackwashlaw15_came) × Bool)) : (List GSlot) × Int × (List GBackwashlaw15_came) → Option ((List GSlot) × (List GBackwashlaw15_came) × Bool) :=
 fun (c_5, i_3, a_4) =>
 (if (decide (i_3 < most_0)) = true then bindO (f_cell_Next c_5) (fun (v_21 : GTime × Bool) =>
 (if (!v_21.2) = true then some (c_5, a_4, true)
 else bindO (f_cell_Make c_5 xv_0 v_21.1 lazy_0) (fun (v_22 : (List GSlot) × (List GItem) × (List GItem) × Bool) =>
 (if (!v_22.2.2.2) = true then some (c_5, a_4, false)
 else bindO (f_bag_Minus v_22.2.2.1 v_22.2.1) (fun (v_23 : List GItem) =>
 bindO (f_backwashlaw15_more_s0_0 a_4 v_21.1 0 v_23) (fun (v_24 : List GBackwashlaw15_came) =>
 rec_2 (v_22.1, IntKind.i64.wrap (i_3 + 1), v_24)))))))
 else f_backwashlaw15_settle_s3_0_J1 c_5 a_4)
def f_backwashlaw15_settle_s3_0 (c_0 : List GSlot) (xv_0 : GNode) (lazy_0 : Bool) (sent_0 : List GBackwashlaw15_came) (most_0 : Int) : Option ((List GSlot) × (List GBackwashlaw15_came) × Bool) :=
 loopK (f_backwashlaw15_settle_s3_0_B2 xv_0 lazy_0 most_0) rounds (c_0, 0, sent_0)
theorem f_backwashlaw15_settle_s3_0_det (c_0 : List GSlot) (xv_0 : GNode) (lazy_0 : Bool) (sent_0 : List GBackwashlaw15_came) (most_0 : Int)  (r : (List GSlot) × (List GBackwashlaw15_came) × Bool) (h : f_backwashlaw15_settle_s3_0 c_0 xv_0 lazy_0 sent_0 most_0 = some r) : DetS Try.prog 50 [.sl 10 (enc c_0), .agg [.v (.int .i64 xv_0.Kind), .v (.int .i64 xv_0.Scope), .v (.int .i64 xv_0.Arg), .sl 2 (enc xv_0.Prog)], .v (.bool lazy_0), .osl 0 7 (0) (List.length sent_0), .v (.int .i64 most_0)] [(0, .arr 7 (enc sent_0))] 1 (.tup [.sl 10 (enc r.1), .osl 1 7 (0) (List.length r.2.1), .v (.bool r.2.2)]) [(1, .arr 7 (enc r.2.1))] 2 := by
 unfold DetS
 refine Spec.of_vc Try.func50 rfl (by kernel_rfl) (by kernel_rfl) ?_
 rw [f_backwashlaw15_settle_s3_0] at h
 refine sg fun QQ1 hQ1 => ?_
 simp only [go_sem]
 refine seqQ_normal hQ1 ?_
 refine vc_join (by kernel_rfl) ?_
 refine seq_cut_gen (ι := (List GSlot) × (List GBackwashlaw15_came)) (fun ((c_3, a_2) : (List GSlot) × (List GBackwashlaw15_came)) => (⟨1, [(0, .sl 10 (enc c_3)), (3, .osl 1 7 (0) (List.length a_2))], [(1, .arr 7 (enc a_2))], 2, 65⟩ : St)) (fun ((c_3, a_2) : (List GSlot) × (List GBackwashlaw15_came)) => f_backwashlaw15_settle_s3_0_J1 c_3 a_2 = some r) ?_ ?_
 ·
  intro QQ4 hQ4
  refine sg fun QQ5 hQ5 => ?_
  simp only [go_sem]
  refine seqQ_normal hQ5 ?_
  refine vc_block_gen ?_
  intro QQ6 hQ6
  refine vc_loop_of ?_
  refine loop_gen (ι := Nat × (List GSlot) × Int × (List GBackwashlaw15_came)) (fun ((_, c_5, i_3, a_4) : Nat × (List GSlot) × Int × (List GBackwashlaw15_came)) => (⟨1, [(0, .sl 10 (enc c_5)), (2, .v (.bool lazy_0)), (3, .osl 1 7 (0) (List.length a_4)), (4, .v (.int .i64 most_0)), (6, .ptr 2 0), (13, .v (.int .i64 i_3))], [(1, .arr 7 (enc a_4)), (2, .box [.v (.int .i64 xv_0.Kind), .v (.int .i64 xv_0.Scope), .v (.int .i64 xv_0.Arg), .sl 2 (enc xv_0.Prog)])], 3, 65⟩ : St)) (fun ((n_, c_5, i_3, a_4) : Nat × (List GSlot) × Int × (List GBackwashlaw15_came)) => loopK (f_backwashlaw15_settle_s3_0_B2 xv_0 lazy_0 most_0) n_ (c_5, i_3, a_4) = some r) (fun p => p.1) (rounds, c_0, 0, sent_0) [some 0, some 1] ?_ h ?_
  · simp only [go_sem, Le] <;> (repeat' apply And.intro) <;> first | ((try with_reducible refine TL_eq ?_); omega) | ((try with_reducible refine TL_eq ?_); (simp [go_sem]; done))
  ·
   rintro ⟨n_2, c_5, i_3, a_4⟩ h QQ7 hQ7
   dsimp only at h
   replace h := loopK_some h
   obtain ⟨m_2, rfl, h⟩ := h
   rw [f_backwashlaw15_settle_s3_0_B2] at h
   refine sg fun QQ8 hQ8 => ?_
   refine sg fun QQ9 hQ9 => ?_
   simp only [go_sem]
   refine seqQ_normal hQ9 ?_
   refine vc_cond_of (b := (decide (i_3 < most_0))) (by (simp only [go_sem]; done)) (fun hb_15 => ?_) (fun hb_15 => ?_)
   ·
    replace h := if_t h hb_15
    simp only [bool_to_prop] at hb_15
    refine vc_skip_of ?_
    refine seqQ_normal hQ8 ?_
    refine sg fun QQ10 hQ10 => ?_
    refine vc_block_gen ?_
    intro QQ11 hQ11
    refine sg fun QQ12 hQ12 => ?_
    obtain ⟨v_21, ev_21, h⟩ := bindO_some h
    simp only [go_sem]
    refine call0 (f_cell_Next_ok c_5 v_21 ev_21) (by rfl) (by rfl) ?_
    simp only [go_sem]
    refine seqQ_normal hQ12 ?_
    refine sg fun QQ13 hQ13 => ?_
    refine sg fun QQ14 hQ14 => ?_
    simp only [go_sem]
    refine seqQ_normal hQ14 ?_
    refine vc_cond_of (b := (!v_21.2)) (by (simp only [go_sem]; done)) (fun hb_16 => ?_) (fun hb_16 => ?_)
    ·
     replace h := if_t h hb_16
     simp only [bool_to_prop] at hb_16
     refine sg fun QQ15 hQ15 => ?_
     simp only [go_sem]
     refine seqQ_normal hQ15 ?_
     refine vc_ret_of ?_
     refine seqQ_ret hQ13 ?_
     refine blockQ_ret hQ11 ?_
     refine seqQ_ret hQ10 ?_
     refine thenQ_ret hQ7 ?_
     refine blockQ_ret hQ6 ?_
     refine thenQ_ret hQ4 ?_
     simp only [go_sem]
     obtain rfl := Option.some.inj h
     refine retW_det [some 1] ?_
     simp only [go_sem, Le]
    ·
     replace h := if_f h hb_16
     simp only [bool_to_prop] at hb_16
     refine vc_skip_of ?_
     refine seqQ_normal hQ13 ?_
     refine sg fun QQ16 hQ16 => ?_
     obtain ⟨v_22, ev_22, h⟩ := bindO_some h
     simp only [go_sem]
     refine callD [] (f_cell_Make_det c_5 xv_0 v_21.1 lazy_0 v_22 ev_22) (by simp) rfl trivial rfl rfl rfl rfl ?_
     simp only [go_sem]
     refine seqQ_normal hQ16 ?_
     refine sg fun QQ17 hQ17 => ?_
     refine sg fun QQ18 hQ18 => ?_
     simp only [go_sem]
     refine seqQ_normal hQ18 ?_
     refine vc_cond_of (b := (!v_22.2.2.2)) (by (simp only [go_sem]; done)) (fun hb_17 => ?_) (fun hb_17 => ?_)
     ·
      replace h := if_t h hb_17
      simp only [bool_to_prop] at hb_17
      refine sg fun QQ19 hQ19 => ?_
      simp only [go_sem]
      refine seqQ_normal hQ19 ?_
      refine vc_ret_of ?_
      refine seqQ_ret hQ17 ?_
      refine blockQ_ret hQ11 ?_
      refine seqQ_ret hQ10 ?_
      refine thenQ_ret hQ7 ?_
      refine blockQ_ret hQ6 ?_
      refine thenQ_ret hQ4 ?_
      simp only [go_sem]
      obtain rfl := Option.some.inj h
      refine retW_det [some 1] ?_
      simp only [go_sem, Le]
     ·
      replace h := if_f h hb_17
      simp only [bool_to_prop] at hb_17
      refine vc_skip_of ?_
      refine seqQ_normal hQ17 ?_
      refine sg fun QQ20 hQ20 => ?_
      simp only [go_sem]
      refine seqQ_normal hQ20 ?_
      refine vc_draw ?_
      refine drawV_weak (s' := (⟨1, [(0, .osl 4 10 (0) (List.length v_22.1)), (2, .v (.bool lazy_0)), (3, .osl 1 7 (0) (List.length a_4)), (4, .v (.int .i64 most_0)), (6, .ptr 2 0), (13, .v (.int .i64 i_3)), (14, .ptr 3 0), (15, .v (.bool v_22.2.2.2)), (16, .osl 4 10 (0) (List.length v_22.1)), (17, .sl 3 (enc v_22.2.1)), (18, .sl 3 (enc v_22.2.2.1)), (21, .v (.int .i64 i_3)), (22, .v (.int .i64 most_0)), (23, .v (.bool (decide (i_3 < most_0)))), (26, .tup [.agg [.v (.int .i64 v_21.1.D), .v (.int .i64 v_21.1.C.a0), .v (.int .i64 v_21.1.C.a1), .v (.int .i64 v_21.1.C.a2), .v (.int .i64 v_21.1.C.a3)], .v (.bool v_21.2)]), (27, .sl 10 (enc c_5)), (28, .tup [.agg [.v (.int .i64 v_21.1.D), .v (.int .i64 v_21.1.C.a0), .v (.int .i64 v_21.1.C.a1), .v (.int .i64 v_21.1.C.a2), .v (.int .i64 v_21.1.C.a3)], .v (.bool v_21.2)]), (29, .agg [.v (.int .i64 v_21.1.D), .v (.int .i64 v_21.1.C.a0), .v (.int .i64 v_21.1.C.a1), .v (.int .i64 v_21.1.C.a2), .v (.int .i64 v_21.1.C.a3)]), (30, .v (.bool v_21.2)), (31, .v (.bool v_21.2)), (32, .v (.bool (!v_21.2))), (35, .tup [.osl 4 10 (0) (List.length v_22.1), .sl 3 (enc v_22.2.1), .sl 3 (enc v_22.2.2.1), .v (.bool v_22.2.2.2)]), (36, .sl 10 (enc c_5)), (37, .agg [.v (.int .i64 xv_0.Kind), .v (.int .i64 xv_0.Scope), .v (.int .i64 xv_0.Arg), .sl 2 (enc xv_0.Prog)]), (38, .agg [.v (.int .i64 v_21.1.D), .v (.int .i64 v_21.1.C.a0), .v (.int .i64 v_21.1.C.a1), .v (.int .i64 v_21.1.C.a2), .v (.int .i64 v_21.1.C.a3)]), (39, .v (.bool lazy_0)), (40, .tup [.osl 4 10 (0) (List.length v_22.1), .sl 3 (enc v_22.2.1), .sl 3 (enc v_22.2.2.1), .v (.bool v_22.2.2.2)]), (41, .osl 4 10 (0) (List.length v_22.1)), (42, .sl 3 (enc v_22.2.1)), (43, .sl 3 (enc v_22.2.2.1)), (44, .v (.bool v_22.2.2.2)), (45, .v (.bool v_22.2.2.2)), (46, .v (.bool (!v_22.2.2.2))), (49, .osl 4 10 (0) (List.length v_22.1))], [(1, .arr 7 (enc a_4)), (2, .box [.v (.int .i64 xv_0.Kind), .v (.int .i64 xv_0.Scope), .v (.int .i64 xv_0.Arg), .sl 2 (enc xv_0.Prog)]), (3, .box [.v (.int .i64 v_21.1.D), .v (.int .i64 v_21.1.C.a0), .v (.int .i64 v_21.1.C.a1), .v (.int .i64 v_21.1.C.a2), .v (.int .i64 v_21.1.C.a3)]), (4, .arr 10 (enc v_22.1))], 5, 65⟩ : St)) (l := [some 1, some 2, some 3, some 4]) ?_ ?_
      · simp only [go_sem, Le] <;> (repeat' apply And.intro) <;> first | ((try with_reducible refine TL_eq ?_); omega) | ((try with_reducible refine TL_eq ?_); (simp [go_sem]; done))
      refine drawM_tail 5 [0, 0, 0, 0, 12, 31, 63] mixed (by kernel_rfl) (of_decide_eq_true (by kernel_rfl)) (by kernel_rfl) ?_
      obtain ⟨v_23, ev_23, h⟩ := bindO_some h
      simp only [go_sem]
      refine callq (fun _ => (f_bag_Minus_ok v_22.2.2.1 v_22.2.1 v_23 ev_23)) (by rfl) (by rfl) ?_
      obtain ⟨v_24, ev_24, h⟩ := bindO_some h
      simp only [go_sem]
      refine callD [1] (f_backwashlaw15_more_s0_0_det a_4 v_21.1 0 v_23 v_24 ev_24) (by simp) rfl ⟨rfl, trivial⟩ rfl rfl rfl rfl ?_
      simp only [go_sem]
      refine blockQ_normal hQ11 ?_
      refine seqQ_normal hQ10 ?_
      simp only [go_sem]
      refine thenQ_normal hQ7 ?_
      refine ⟨(m_2, v_22.1, IntKind.i64.wrap (i_3 + 1), v_24), [some 5, some 2], ?_, h, Nat.lt_succ_self _⟩
      simp only [go_sem, Le] <;> (repeat' apply And.intro) <;> first | ((try with_reducible refine TL_eq ?_); omega) | ((try with_reducible refine TL_eq ?_); (simp [go_sem]; done))
   ·
    replace h := if_f h hb_15
    simp only [bool_to_prop] at hb_15
    refine vc_exit_of ?_
    refine seqQ_exit hQ8 ?_
    refine thenQ_exit hQ7 ?_
    refine blockQ_exit hQ6 ?_
    refine thenQ_normal hQ4 ?_
    refine ⟨(c_5, a_4), [some 1], ?_, h⟩
    simp only [go_sem, Le]
 ·
  rintro ⟨c_3, a_2⟩ h
  try dsimp only at h
  rw [f_backwashlaw15_settle_s3_0_J1] at h
  refine sg fun QQ2 hQ2 => ?_
  obtain ⟨v_12, ev_12, h⟩ := bindO_some h
  simp only [go_sem]
  refine call0 (f_cell_Next_ok c_3 v_12 ev_12) (by rfl) (by rfl) ?_
  simp only [go_sem]
  refine seqQ_normal hQ2 ?_
  refine sg fun QQ3 hQ3 => ?_
  simp only [go_sem]
  refine seqQ_normal hQ3 ?_
  refine vc_ret_of ?_
  simp only [go_sem]
  obtain rfl := Option.some.inj h
  refine retW_det [some 1] ?_
  simp only [go_sem, Le]

def f_backwashlaw15_makes_J2 (xv_0 : GNode) (a_7 : List GItem) (b_6 : List GItem) : Option ((List GItem) × Bool) :=
 bindO (f_ops_Apply xv_0 ([a_7, b_6] : List (List GItem))) (fun (v_6 : (List GItem) × Bool) =>
 some (v_6.1, v_6.2))
def f_backwashlaw15_makes_J1 (xv_0 : GNode) (a_7 : List GItem) (b_5 : List GItem) (a_8 : List GItem) : Option ((List GItem) × Bool) :=
 (if (xv_0.Kind == 14) = true then f_backwashlaw15_makes_J2 xv_0 a_7 a_8
 else f_backwashlaw15_makes_J2 xv_0 a_7 b_5)
def f_backwashlaw15_makes_J4 (inv_0 : List GBackwashlaw15_came) (t_0 : GTime) (i_3 : Int) (a_14 : List GItem) (rec_3 : ((List GItem) × (List GItem) × Int × (List GItem) → Option ((List GItem) × Bool))) (a_15 : List GItem) (b_11 : List GItem) : Option ((List GItem) × Bool) :=
 bindO (idx inv_0 i_3) (fun (xv_17 : GBackwashlaw15_came) =>
 bindO (f_ts_Le xv_17.time t_0) (fun (v_11 : Bool) =>
 (if v_11 = true then bindO (f_bag_Plus a_14 xv_17.in_.a0) (fun (v_12 : List GItem) =>
 rec_3 (a_15, b_11, IntKind.i64.wrap (i_3 + 1), v_12))
 else rec_3 (a_15, b_11, IntKind.i64.wrap (i_3 + 1), a_14))))
def f_backwashlaw15_makes_B3 (xv_0 : GNode) (inv_0 : List GBackwashlaw15_came) (t_0 : GTime) (rec_3 : (List GItem) × (List GItem) × Int × (List GItem) → Option ((List GItem) × Bool)) : (List GItem) × (List GItem) × Int × (List GItem) → Option ((List GItem) × Bool) :=
 fun (a_13, b_10, i_3, a_14) =>
 (if (decide (i_3 < (List.length inv_0 : Int))) = true then bindO (idx inv_0 i_3) (fun (xv_18 : GBackwashlaw15_came) =>
 (if ((xv_18.time.D == t_0.D) && ((xv_18.time.C.a0 == t_0.C.a0) && ((xv_18.time.C.a1 == t_0.C.a1) && ((xv_18.time.C.a2 == t_0.C.a2) && (xv_18.time.C.a3 == t_0.C.a3))))) = true then f_backwashlaw15_makes_J4 inv_0 t_0 i_3 a_14 rec_3 xv_18.in_.a0 xv_18.in_.a1
 else f_backwashlaw15_makes_J4 inv_0 t_0 i_3 a_14 rec_3 a_13 b_10))
 else f_backwashlaw15_makes_J1 xv_0 a_13 b_10 a_14)
def f_backwashlaw15_makes (xv_0 : GNode) (inv_0 : List GBackwashlaw15_came) (t_0 : GTime) : Option ((List GItem) × Bool) :=
 loopK (f_backwashlaw15_makes_B3 xv_0 inv_0 t_0) rounds ([], [], 0, [])
theorem f_backwashlaw15_makes_det (xv_0 : GNode) (inv_0 : List GBackwashlaw15_came) (t_0 : GTime)  (r : (List GItem) × Bool) (h : f_backwashlaw15_makes xv_0 inv_0 t_0 = some r) : DetS Try.prog 53 [.agg [.v (.int .i64 xv_0.Kind), .v (.int .i64 xv_0.Scope), .v (.int .i64 xv_0.Arg), .sl 2 (enc xv_0.Prog)], .sl 7 (enc inv_0), .agg [.v (.int .i64 t_0.D), .v (.int .i64 t_0.C.a0), .v (.int .i64 t_0.C.a1), .v (.int .i64 t_0.C.a2), .v (.int .i64 t_0.C.a3)]] [] 0 (.tup [.osl 0 3 (0) (List.length r.1), .v (.bool r.2)]) [(0, .arr 3 (enc r.1))] 1 := by
 unfold DetS
 refine Spec.of_vc Try.func53 rfl (by kernel_rfl) (by kernel_rfl) ?_
 rw [f_backwashlaw15_makes] at h
 refine sg fun QQ1 hQ1 => ?_
 simp only [go_sem]
 refine seqQ_normal hQ1 ?_
 refine sg fun QQ2 hQ2 => ?_
 simp only [go_sem]
 refine seqQ_normal hQ2 ?_
 refine vc_join (by kernel_rfl) ?_
 refine seq_cut_gen (ι := (List GItem) × (List GItem) × (List GItem)) (fun ((a_7, b_5, a_8) : (List GItem) × (List GItem) × (List GItem)) => (⟨0, [(3, .ptr 0 0), (8, .sl 3 (enc a_7)), (9, .sl 3 (enc b_5)), (10, .osl 1 3 (0) (List.length a_8))], [(0, .box [.v (.int .i64 xv_0.Kind), .v (.int .i64 xv_0.Scope), .v (.int .i64 xv_0.Arg), .sl 2 (enc xv_0.Prog)]), (1, .arr 3 (enc a_8))], 2, 63⟩ : St)) (fun ((a_7, b_5, a_8) : (List GItem) × (List GItem) × (List GItem)) => f_backwashlaw15_makes_J1 xv_0 a_7 b_5 a_8 = some r) ?_ ?_
 ·
  intro QQ6 hQ6
  refine sg fun QQ7 hQ7 => ?_
  simp only [go_sem]
  refine seqQ_normal hQ7 ?_
  refine vc_block_gen ?_
  intro QQ8 hQ8
  refine vc_loop_of ?_
  refine loop_gen (ι := Nat × (List GItem) × (List GItem) × Int × (List GItem)) (fun ((_, a_13, b_10, i_3, a_14) : Nat × (List GItem) × (List GItem) × Int × (List GItem)) => (⟨0, [(1, .sl 7 (enc inv_0)), (3, .ptr 0 0), (5, .ptr 1 0), (8, .sl 3 (enc a_13)), (9, .sl 3 (enc b_10)), (10, .osl 2 3 (0) (List.length a_14)), (11, .v (.int .i64 i_3))], [(0, .box [.v (.int .i64 xv_0.Kind), .v (.int .i64 xv_0.Scope), .v (.int .i64 xv_0.Arg), .sl 2 (enc xv_0.Prog)]), (1, .box [.v (.int .i64 t_0.D), .v (.int .i64 t_0.C.a0), .v (.int .i64 t_0.C.a1), .v (.int .i64 t_0.C.a2), .v (.int .i64 t_0.C.a3)]), (2, .arr 3 (enc a_14))], 3, 63⟩ : St)) (fun ((n_, a_13, b_10, i_3, a_14) : Nat × (List GItem) × (List GItem) × Int × (List GItem)) => loopK (f_backwashlaw15_makes_B3 xv_0 inv_0 t_0) n_ (a_13, b_10, i_3, a_14) = some r) (fun p => p.1) (rounds, [], [], 0, []) [some 0, some 1, none] ?_ h ?_
  · simp only [go_sem, Le] <;> (repeat' apply And.intro) <;> first | ((try with_reducible refine TL_eq ?_); omega) | ((try with_reducible refine TL_eq ?_); (simp [go_sem]; done))
  ·
   rintro ⟨n_3, a_13, b_10, i_3, a_14⟩ h QQ9 hQ9
   dsimp only at h
   replace h := loopK_some h
   obtain ⟨m_3, rfl, h⟩ := h
   rw [f_backwashlaw15_makes_B3] at h
   refine sg fun QQ10 hQ10 => ?_
   refine sg fun QQ11 hQ11 => ?_
   simp only [go_sem]
   refine seqQ_normal hQ11 ?_
   refine vc_cond_of (b := (decide (i_3 < (List.length inv_0 : Int)))) (by (simp only [go_sem]; done)) (fun hb_22 => ?_) (fun hb_22 => ?_)
   ·
    replace h := if_t h hb_22
    simp only [bool_to_prop] at hb_22
    refine vc_skip_of ?_
    refine seqQ_normal hQ10 ?_
    refine vc_join (by kernel_rfl) ?_
    refine seq_go_gen ?_
    intro QQ12 hQ12
    refine vc_block_gen ?_
    intro QQ13 hQ13
    refine vc_join (by kernel_rfl) ?_
    refine seq_cut_gen (ι := (List GItem) × (List GItem)) (fun ((a_15, b_11) : (List GItem) × (List GItem)) => (⟨0, [(1, .sl 7 (enc inv_0)), (3, .ptr 0 0), (5, .ptr 1 0), (8, .sl 3 (enc a_15)), (9, .sl 3 (enc b_11)), (10, .osl 2 3 (0) (List.length a_14)), (11, .v (.int .i64 i_3))], [(0, .box [.v (.int .i64 xv_0.Kind), .v (.int .i64 xv_0.Scope), .v (.int .i64 xv_0.Arg), .sl 2 (enc xv_0.Prog)]), (1, .box [.v (.int .i64 t_0.D), .v (.int .i64 t_0.C.a0), .v (.int .i64 t_0.C.a1), .v (.int .i64 t_0.C.a2), .v (.int .i64 t_0.C.a3)]), (2, .arr 3 (enc a_14))], 3, 63⟩ : St)) (fun ((a_15, b_11) : (List GItem) × (List GItem)) => f_backwashlaw15_makes_J4 inv_0 t_0 i_3 a_14 (loopK (f_backwashlaw15_makes_B3 xv_0 inv_0 t_0) m_3) a_15 b_11 = some r) ?_ ?_
    ·
     intro QQ15 hQ15
     refine sg fun QQ16 hQ16 => ?_
     refine vc_draw ?_
     refine drawM_tail 6 [0, 0, 3, 7, 15, 0, 63] mixed (by kernel_rfl) (of_decide_eq_true (by kernel_rfl)) (by kernel_rfl) ?_
     obtain ⟨xv_18, exv_18, h⟩ := bindO_some h
     obtain ⟨fxv_18a, fxv_18b, fxv_18c⟩ := idx_spec exv_18
     simp only [go_sem, fxv_18a, fxv_18b, fxv_18c]
     refine And.intro (by omega) ?_
     refine seqQ_normal hQ16 ?_
     refine vc_cond_of (b := ((xv_18.time.D == t_0.D) && ((xv_18.time.C.a0 == t_0.C.a0) && ((xv_18.time.C.a1 == t_0.C.a1) && ((xv_18.time.C.a2 == t_0.C.a2) && (xv_18.time.C.a3 == t_0.C.a3)))))) (by (simp only [go_sem]; done)) (fun hb_25 => ?_) (fun hb_25 => ?_)
     ·
      replace h := if_t h hb_25
      simp only [bool_to_prop] at hb_25
      refine vc_draw ?_
      refine drawM_tail 13 [0, 0, 3, 7, 15, 31, 0, 0, 192, 448, 960, 1984, 63, 8191] mixed (by kernel_rfl) (of_decide_eq_true (by kernel_rfl)) (by kernel_rfl) ?_
      simp only [go_sem, fxv_18a, fxv_18b, fxv_18c]
      refine And.intro (by omega) ?_
      refine And.intro (by omega) ?_
      refine thenQ_normal hQ15 ?_
      refine ⟨(xv_18.in_.a0, xv_18.in_.a1), [some 0, some 1, some 2], ?_, h⟩
      simp only [go_sem, Le] <;> (repeat' apply And.intro) <;> first | ((try with_reducible refine TL_eq ?_); omega) | ((try with_reducible refine TL_eq ?_); (simp [go_sem]; done))
     ·
      replace h := if_f h hb_25
      simp only [bool_to_prop] at hb_25
      refine vc_skip_of ?_
      refine thenQ_normal hQ15 ?_
      refine ⟨(a_13, b_10), [some 0, some 1, some 2], ?_, h⟩
      simp only [go_sem, Le] <;> (repeat' apply And.intro) <;> first | ((try with_reducible refine TL_eq ?_); omega) | ((try with_reducible refine TL_eq ?_); (simp [go_sem]; done))
    ·
     rintro ⟨a_15, b_11⟩ h
     try dsimp only at h
     rw [f_backwashlaw15_makes_J4] at h
     refine sg fun QQ14 hQ14 => ?_
     refine vc_draw ?_
     refine drawM_tail 6 [0, 0, 3, 7, 15, 0, 63] mixed (by kernel_rfl) (of_decide_eq_true (by kernel_rfl)) (by kernel_rfl) ?_
     obtain ⟨xv_17, exv_17, h⟩ := bindO_some h
     obtain ⟨fxv_17a, fxv_17b, fxv_17c⟩ := idx_spec exv_17
     obtain ⟨v_11, ev_11, h⟩ := bindO_some h
     simp only [go_sem, fxv_17a, fxv_17b, fxv_17c]
     refine And.intro (by omega) ?_
     refine call0 (f_ts_Le_ok xv_17.time t_0 v_11 ev_11) (by rfl) (by rfl) ?_
     simp only [go_sem]
     refine seqQ_normal hQ14 ?_
     refine vc_cond_of (b := v_11) (by (simp only [go_sem]; done)) (fun hb_24 => ?_) (fun hb_24 => ?_)
     ·
      replace h := if_t h hb_24
      obtain ⟨v_12, ev_12, h⟩ := bindO_some h
      simp only [go_sem, fxv_17a, fxv_17b, fxv_17c]
      refine And.intro (by omega) ?_
      refine callF_weak (s' := (⟨0, [(1, .sl 7 (enc inv_0)), (3, .ptr 0 0), (5, .ptr 1 0), (8, .sl 3 (enc a_15)), (9, .sl 3 (enc b_11)), (10, .sl 3 (enc a_14)), (11, .v (.int .i64 i_3)), (37, .sl 7 (enc inv_0)), (38, .v (.int .i64 i_3)), (39, .el 7 (enc inv_0) (Int.toNat i_3) 0), (40, .el 7 (enc inv_0) (Int.toNat i_3) 0), (41, .agg [.v (.int .i64 xv_17.time.D), .v (.int .i64 xv_17.time.C.a0), .v (.int .i64 xv_17.time.C.a1), .v (.int .i64 xv_17.time.C.a2), .v (.int .i64 xv_17.time.C.a3)]), (42, .agg [.v (.int .i64 t_0.D), .v (.int .i64 t_0.C.a0), .v (.int .i64 t_0.C.a1), .v (.int .i64 t_0.C.a2), .v (.int .i64 t_0.C.a3)]), (43, .v (.bool v_11)), (44, .sl 3 (enc a_14)), (45, .sl 7 (enc inv_0)), (46, .v (.int .i64 i_3)), (47, .el 7 (enc inv_0) (Int.toNat i_3) 0), (48, .el 7 (enc inv_0) (Int.toNat i_3) 5), (49, .el 7 (enc inv_0) (Int.toNat i_3) 5), (50, .sl 3 (enc xv_17.in_.a0))], [(0, .box [.v (.int .i64 xv_0.Kind), .v (.int .i64 xv_0.Scope), .v (.int .i64 xv_0.Arg), .sl 2 (enc xv_0.Prog)]), (1, .box [.v (.int .i64 t_0.D), .v (.int .i64 t_0.C.a0), .v (.int .i64 t_0.C.a1), .v (.int .i64 t_0.C.a2), .v (.int .i64 t_0.C.a3)])], 2, 63⟩ : St)) (l := [some 0, some 1]) (args' := [.sl 3 (enc a_14), .sl 3 (enc xv_17.in_.a0)]) ?_ ?_ ?_
      · simp only [go_sem, Le] <;> (repeat' apply And.intro) <;> first | ((try with_reducible refine TL_eq ?_); omega) | ((try with_reducible refine TL_eq ?_); (simp [go_sem]; done))
      · simp only [go_sem, Le] <;> (repeat' apply And.intro) <;> ((try with_reducible refine TL_eq ?_); (simp [go_sem]; done))
      refine callD [] (f_bag_Plus_det a_14 xv_17.in_.a0 v_12 ev_12) (by simp) rfl trivial rfl rfl rfl rfl ?_
      simp only [go_sem]
      refine blockQ_normal hQ13 ?_
      refine seqQ_normal hQ12 ?_
      simp only [go_sem]
      refine thenQ_normal hQ9 ?_
      refine ⟨(m_3, a_15, b_11, IntKind.i64.wrap (i_3 + 1), v_12), [some 0, some 1, some 2], ?_, h, Nat.lt_succ_self _⟩
      simp only [go_sem, Le] <;> (repeat' apply And.intro) <;> first | ((try with_reducible refine TL_eq ?_); omega) | ((try with_reducible refine TL_eq ?_); (simp [go_sem]; done))
     ·
      replace h := if_f h hb_24
      refine vc_skip_of ?_
      refine blockQ_normal hQ13 ?_
      refine seqQ_normal hQ12 ?_
      simp only [go_sem]
      refine thenQ_normal hQ9 ?_
      refine ⟨(m_3, a_15, b_11, IntKind.i64.wrap (i_3 + 1), a_14), [some 0, some 1, some 2], ?_, h, Nat.lt_succ_self _⟩
      simp only [go_sem, Le] <;> (repeat' apply And.intro) <;> first | ((try with_reducible refine TL_eq ?_); omega) | ((try with_reducible refine TL_eq ?_); (simp [go_sem]; done))
   ·
    replace h := if_f h hb_22
    simp only [bool_to_prop] at hb_22
    refine vc_exit_of ?_
    refine seqQ_exit hQ10 ?_
    refine thenQ_exit hQ9 ?_
    refine blockQ_exit hQ8 ?_
    refine thenQ_normal hQ6 ?_
    refine ⟨(a_13, b_10, a_14), [some 0, some 2], ?_, h⟩
    simp only [go_sem, Le] <;> (repeat' apply And.intro) <;> first | ((try with_reducible refine TL_eq ?_); omega) | ((try with_reducible refine TL_eq ?_); (simp [go_sem]; done))
 ·
  rintro ⟨a_7, b_5, a_8⟩ h
  try dsimp only at h
  rw [f_backwashlaw15_makes_J1] at h
  refine vc_join (by kernel_rfl) ?_
  refine seq_cut_gen (ι := (List GItem)) (fun (b_6 : (List GItem)) => (⟨0, [(3, .ptr 0 0), (8, .sl 3 (enc a_7)), (9, .sl 3 (enc b_6))], [(0, .box [.v (.int .i64 xv_0.Kind), .v (.int .i64 xv_0.Scope), .v (.int .i64 xv_0.Arg), .sl 2 (enc xv_0.Prog)])], 1, 63⟩ : St)) (fun (b_6 : (List GItem)) => f_backwashlaw15_makes_J2 xv_0 a_7 b_6 = some r) ?_ ?_
  ·
   intro QQ4 hQ4
   refine sg fun QQ5 hQ5 => ?_
   simp only [go_sem]
   refine seqQ_normal hQ5 ?_
   refine vc_cond_of (b := (xv_0.Kind == 14)) (by (simp only [go_sem]; done)) (fun hb_13 => ?_) (fun hb_13 => ?_)
   ·
    replace h := if_t h hb_13
    simp only [bool_to_prop] at hb_13
    simp only [go_sem]
    refine thenQ_normal hQ4 ?_
    refine ⟨a_8, [some 0], ?_, h⟩
    simp only [go_sem, Le] <;> (repeat' apply And.intro) <;> ((try with_reducible refine TL_eq ?_); (simp [go_sem]; done))
   ·
    replace h := if_f h hb_13
    simp only [bool_to_prop] at hb_13
    refine vc_skip_of ?_
    refine thenQ_normal hQ4 ?_
    refine ⟨b_5, [some 0], ?_, h⟩
    simp only [go_sem, Le]
  ·
   rintro b_6 h
   try dsimp only at h
   rw [f_backwashlaw15_makes_J2] at h
   refine sg fun QQ3 hQ3 => ?_
   have rf_0 : [[.sl 3 (enc a_7)], [.sl 3 (enc b_6)]] = enc ([a_7, b_6] : List (List GItem)) := by rfl
   obtain ⟨v_6, ev_6, h⟩ := bindO_some h
   simp only [go_sem]
   simp only [rf_0]
   refine callF_weak (s' := (⟨0, [(3, .ptr 0 0), (8, .sl 3 (enc a_7)), (9, .sl 3 (enc b_6)), (56, .agg [.v (.int .i64 xv_0.Kind), .v (.int .i64 xv_0.Scope), .v (.int .i64 xv_0.Arg), .sl 2 (enc xv_0.Prog)]), (57, .sl 3 (enc a_7)), (58, .sl 3 (enc b_6)), (59, .sl 1 (enc ([a_7, b_6] : List (List GItem))))], [(0, .box [.v (.int .i64 xv_0.Kind), .v (.int .i64 xv_0.Scope), .v (.int .i64 xv_0.Arg), .sl 2 (enc xv_0.Prog)])], 1, 63⟩ : St)) (l := [some 0]) (args' := [.agg [.v (.int .i64 xv_0.Kind), .v (.int .i64 xv_0.Scope), .v (.int .i64 xv_0.Arg), .sl 2 (enc xv_0.Prog)], .sl 1 (enc ([a_7, b_6] : List (List GItem)))]) ?_ ?_ ?_
   · simp only [go_sem, Le] <;> (repeat' apply And.intro) <;> ((try with_reducible refine TL_eq ?_); (simp [go_sem]; done))
   · simp only [go_sem, Le] <;> (repeat' apply And.intro) <;> ((try with_reducible refine TL_eq ?_); (simp [go_sem]; done))
   refine callD [] (f_ops_Apply_det xv_0 ([a_7, b_6] : List (List GItem)) v_6 ev_6) (by simp) rfl trivial rfl rfl rfl rfl ?_
   simp only [go_sem]
   refine seqQ_normal hQ3 ?_
   refine vc_ret_of ?_
   simp only [go_sem]
   obtain rfl := Option.some.inj h
   refine retW_det [some 1] ?_
   simp only [go_sem, Le]
theorem f_backwashlaw15_makes_ok (xv_0 : GNode) (inv_0 : List GBackwashlaw15_came) (t_0 : GTime)  (r : (List GItem) × Bool) (h : f_backwashlaw15_makes xv_0 inv_0 t_0 = some r) : PureS Try.prog 53 [.agg [.v (.int .i64 xv_0.Kind), .v (.int .i64 xv_0.Scope), .v (.int .i64 xv_0.Arg), .sl 2 (enc xv_0.Prog)], .sl 7 (enc inv_0), .agg [.v (.int .i64 t_0.D), .v (.int .i64 t_0.C.a0), .v (.int .i64 t_0.C.a1), .v (.int .i64 t_0.C.a2), .v (.int .i64 t_0.C.a3)]] 0 (.tup [.sl 3 (enc r.1), .v (.bool r.2)]) := by
 refine (f_backwashlaw15_makes_det xv_0 inv_0 t_0  r h).pure ?_
 simp only [go_sem, Le] <;> (repeat' apply And.intro) <;> ((try with_reducible refine TL_eq ?_); (simp [go_sem]; done))

def f_backwashlaw15_roomless_B1 (xv_0 : GNode) (inv_0 : List GBackwashlaw15_came) (rec_1 : Int → Option Bool) : Int → Option Bool :=
 fun i_1 =>
 (if (decide (i_1 < (List.length inv_0 : Int))) = true then bindO (idx inv_0 i_1) (fun (xv_3 : GBackwashlaw15_came) =>
 bindO (f_backwashlaw15_makes xv_0 inv_0 xv_3.time) (fun (v_2 : (List GItem) × Bool) =>
 (if (!v_2.2) = true then some true
 else rec_1 (IntKind.i64.wrap (i_1 + 1)))))
 else some false)
def f_backwashlaw15_roomless (xv_0 : GNode) (inv_0 : List GBackwashlaw15_came) : Option Bool :=
 loopK (f_backwashlaw15_roomless_B1 xv_0 inv_0) rounds 0
theorem f_backwashlaw15_roomless_ok (xv_0 : GNode) (inv_0 : List GBackwashlaw15_came)  (r : Bool) (h : f_backwashlaw15_roomless xv_0 inv_0 = some r) : PureS Try.prog 52 [.agg [.v (.int .i64 xv_0.Kind), .v (.int .i64 xv_0.Scope), .v (.int .i64 xv_0.Arg), .sl 2 (enc xv_0.Prog)], .sl 7 (enc inv_0)] 0 (.v (.bool r)) := by
 unfold PureS
 refine Spec.of_vc Try.func52 rfl (by kernel_rfl) (by kernel_rfl) ?_
 rw [f_backwashlaw15_roomless] at h
 refine sg fun QQ1 hQ1 => ?_
 simp only [go_sem]
 refine seqQ_normal hQ1 ?_
 refine vc_join (by kernel_rfl) ?_
 refine seq_go_gen ?_
 intro QQ2 hQ2
 refine sg fun QQ3 hQ3 => ?_
 simp only [go_sem]
 refine seqQ_normal hQ3 ?_
 refine vc_block_gen ?_
 intro QQ4 hQ4
 refine vc_loop_of ?_
 refine loop_gen (ι := Nat × Int) (fun ((_, i_1) : Nat × Int) => (⟨0, [(1, .sl 7 (enc inv_0)), (2, .ptr 0 0), (5, .v (.int .i64 i_1))], [(0, .box [.v (.int .i64 xv_0.Kind), .v (.int .i64 xv_0.Scope), .v (.int .i64 xv_0.Arg), .sl 2 (enc xv_0.Prog)])], 1, 27⟩ : St)) (fun ((n_, i_1) : Nat × Int) => loopK (f_backwashlaw15_roomless_B1 xv_0 inv_0) n_ i_1 = some r) (fun p => p.1) (rounds, 0) [some 0] ?_ h ?_
 · simp only [go_sem, Le]
 ·
  rintro ⟨n_1, i_1⟩ h QQ5 hQ5
  dsimp only at h
  replace h := loopK_some h
  obtain ⟨m_1, rfl, h⟩ := h
  rw [f_backwashlaw15_roomless_B1] at h
  refine sg fun QQ6 hQ6 => ?_
  refine sg fun QQ7 hQ7 => ?_
  simp only [go_sem]
  refine seqQ_normal hQ7 ?_
  refine vc_cond_of (b := (decide (i_1 < (List.length inv_0 : Int)))) (by (simp only [go_sem]; done)) (fun hb_4 => ?_) (fun hb_4 => ?_)
  ·
   replace h := if_t h hb_4
   simp only [bool_to_prop] at hb_4
   refine vc_skip_of ?_
   refine seqQ_normal hQ6 ?_
   refine sg fun QQ8 hQ8 => ?_
   refine vc_block_gen ?_
   intro QQ9 hQ9
   refine sg fun QQ10 hQ10 => ?_
   refine vc_draw ?_
   refine drawM_tail 12 [0, 0, 0, 0, 12, 28, 60, 127, 255, 511, 511, 1023, 4095] mixed (by kernel_rfl) (of_decide_eq_true (by kernel_rfl)) (by kernel_rfl) ?_
   obtain ⟨xv_3, exv_3, h⟩ := bindO_some h
   obtain ⟨fxv_3a, fxv_3b, fxv_3c⟩ := idx_spec exv_3
   obtain ⟨v_2, ev_2, h⟩ := bindO_some h
   simp only [go_sem, fxv_3a, fxv_3b, fxv_3c]
   refine And.intro (by omega) ?_
   refine callq (fun _ => (f_backwashlaw15_makes_ok xv_0 inv_0 xv_3.time v_2 ev_2)) (by rfl) (by rfl) ?_
   simp only [go_sem]
   refine seqQ_normal hQ10 ?_
   refine sg fun QQ11 hQ11 => ?_
   simp only [go_sem]
   refine seqQ_normal hQ11 ?_
   refine vc_cond_of (b := (!v_2.2)) (by (simp only [go_sem]; done)) (fun hb_5 => ?_) (fun hb_5 => ?_)
   ·
    replace h := if_t h hb_5
    simp only [bool_to_prop] at hb_5
    refine sg fun QQ12 hQ12 => ?_
    simp only [go_sem]
    refine seqQ_normal hQ12 ?_
    refine vc_ret_of ?_
    refine blockQ_ret hQ9 ?_
    refine seqQ_ret hQ8 ?_
    refine thenQ_ret hQ5 ?_
    refine blockQ_ret hQ4 ?_
    refine seqQ_ret hQ2 ?_
    simp only [go_sem]
    obtain rfl := Option.some.inj h
    refine retW_pure rfl ?_
    simp only [go_sem, Le]
   ·
    replace h := if_f h hb_5
    simp only [bool_to_prop] at hb_5
    refine vc_skip_of ?_
    refine blockQ_normal hQ9 ?_
    refine seqQ_normal hQ8 ?_
    simp only [go_sem]
    refine thenQ_normal hQ5 ?_
    refine ⟨(m_1, IntKind.i64.wrap (i_1 + 1)), [some 0], ?_, h, Nat.lt_succ_self _⟩
    simp only [go_sem, Le]
  ·
   replace h := if_f h hb_4
   simp only [bool_to_prop] at hb_4
   refine vc_exit_of ?_
   refine seqQ_exit hQ6 ?_
   refine thenQ_exit hQ5 ?_
   refine blockQ_exit hQ4 ?_
   refine seqQ_normal hQ2 ?_
   refine sg fun QQ13 hQ13 => ?_
   simp only [go_sem]
   refine seqQ_normal hQ13 ?_
   refine vc_ret_of ?_
   simp only [go_sem]
   obtain rfl := Option.some.inj h
   refine retW_pure rfl ?_
   simp only [go_sem, Le]

def f_backwashlaw15_at_B1 (l_0 : List GBackwashlaw15_came) (t_0 : GTime) (rec_1 : Int → Option (List GItem)) : Int → Option (List GItem) :=
 fun i_1 =>
 (if (decide (i_1 < (List.length l_0 : Int))) = true then bindO (idx l_0 i_1) (fun (xv_2 : GBackwashlaw15_came) =>
 (if ((xv_2.time.D == t_0.D) && ((xv_2.time.C.a0 == t_0.C.a0) && ((xv_2.time.C.a1 == t_0.C.a1) && ((xv_2.time.C.a2 == t_0.C.a2) && (xv_2.time.C.a3 == t_0.C.a3))))) = true then some xv_2.in_.a0
 else rec_1 (IntKind.i64.wrap (i_1 + 1))))
 else some ([] : List GItem))
def f_backwashlaw15_at (l_0 : List GBackwashlaw15_came) (t_0 : GTime) : Option (List GItem) :=
 loopK (f_backwashlaw15_at_B1 l_0 t_0) rounds 0
theorem f_backwashlaw15_at_ok (l_0 : List GBackwashlaw15_came) (t_0 : GTime)  (r : List GItem) (h : f_backwashlaw15_at l_0 t_0 = some r) : PureS Try.prog 54 [.sl 7 (enc l_0), .agg [.v (.int .i64 t_0.D), .v (.int .i64 t_0.C.a0), .v (.int .i64 t_0.C.a1), .v (.int .i64 t_0.C.a2), .v (.int .i64 t_0.C.a3)]] 0 (.sl 3 (enc r)) := by
 unfold PureS
 refine Spec.of_vc Try.func54 rfl (by kernel_rfl) (by kernel_rfl) ?_
 rw [f_backwashlaw15_at] at h
 refine sg fun QQ1 hQ1 => ?_
 simp only [go_sem]
 refine seqQ_normal hQ1 ?_
 refine vc_join (by kernel_rfl) ?_
 refine seq_go_gen ?_
 intro QQ2 hQ2
 refine sg fun QQ3 hQ3 => ?_
 simp only [go_sem]
 refine seqQ_normal hQ3 ?_
 refine vc_block_gen ?_
 intro QQ4 hQ4
 refine vc_loop_of ?_
 refine loop_gen (ι := Nat × Int) (fun ((_, i_1) : Nat × Int) => (⟨0, [(0, .sl 7 (enc l_0)), (3, .ptr 0 0), (5, .v (.int .i64 i_1))], [(0, .box [.v (.int .i64 t_0.D), .v (.int .i64 t_0.C.a0), .v (.int .i64 t_0.C.a1), .v (.int .i64 t_0.C.a2), .v (.int .i64 t_0.C.a3)])], 1, 25⟩ : St)) (fun ((n_, i_1) : Nat × Int) => loopK (f_backwashlaw15_at_B1 l_0 t_0) n_ i_1 = some r) (fun p => p.1) (rounds, 0) [some 0] ?_ h ?_
 · simp only [go_sem, Le]
 ·
  rintro ⟨n_1, i_1⟩ h QQ5 hQ5
  dsimp only at h
  replace h := loopK_some h
  obtain ⟨m_1, rfl, h⟩ := h
  rw [f_backwashlaw15_at_B1] at h
  refine sg fun QQ6 hQ6 => ?_
  refine sg fun QQ7 hQ7 => ?_
  simp only [go_sem]
  refine seqQ_normal hQ7 ?_
  refine vc_cond_of (b := (decide (i_1 < (List.length l_0 : Int)))) (by (simp only [go_sem]; done)) (fun hb_4 => ?_) (fun hb_4 => ?_)
  ·
   replace h := if_t h hb_4
   simp only [bool_to_prop] at hb_4
   refine vc_skip_of ?_
   refine seqQ_normal hQ6 ?_
   refine sg fun QQ8 hQ8 => ?_
   refine vc_block_gen ?_
   intro QQ9 hQ9
   refine sg fun QQ10 hQ10 => ?_
   refine vc_draw ?_
   refine drawM_tail 6 [0, 0, 3, 7, 15, 0, 63] mixed (by kernel_rfl) (of_decide_eq_true (by kernel_rfl)) (by kernel_rfl) ?_
   obtain ⟨xv_2, exv_2, h⟩ := bindO_some h
   obtain ⟨fxv_2a, fxv_2b, fxv_2c⟩ := idx_spec exv_2
   simp only [go_sem, fxv_2a, fxv_2b, fxv_2c]
   refine And.intro (by omega) ?_
   refine seqQ_normal hQ10 ?_
   refine vc_cond_of (b := ((xv_2.time.D == t_0.D) && ((xv_2.time.C.a0 == t_0.C.a0) && ((xv_2.time.C.a1 == t_0.C.a1) && ((xv_2.time.C.a2 == t_0.C.a2) && (xv_2.time.C.a3 == t_0.C.a3)))))) (by (simp only [go_sem]; done)) (fun hb_5 => ?_) (fun hb_5 => ?_)
   ·
    replace h := if_t h hb_5
    simp only [bool_to_prop] at hb_5
    refine sg fun QQ11 hQ11 => ?_
    simp only [go_sem, fxv_2a, fxv_2b, fxv_2c]
    refine And.intro (by omega) ?_
    refine seqQ_normal hQ11 ?_
    refine vc_ret_of ?_
    refine blockQ_ret hQ9 ?_
    refine seqQ_ret hQ8 ?_
    refine thenQ_ret hQ5 ?_
    refine blockQ_ret hQ4 ?_
    refine seqQ_ret hQ2 ?_
    simp only [go_sem]
    obtain rfl := Option.some.inj h
    refine retW_pure rfl ?_
    simp only [go_sem, Le]
   ·
    replace h := if_f h hb_5
    simp only [bool_to_prop] at hb_5
    refine vc_skip_of ?_
    refine blockQ_normal hQ9 ?_
    refine seqQ_normal hQ8 ?_
    simp only [go_sem]
    refine thenQ_normal hQ5 ?_
    refine ⟨(m_1, IntKind.i64.wrap (i_1 + 1)), [some 0], ?_, h, Nat.lt_succ_self _⟩
    simp only [go_sem, Le]
  ·
   replace h := if_f h hb_4
   simp only [bool_to_prop] at hb_4
   refine vc_exit_of ?_
   refine seqQ_exit hQ6 ?_
   refine thenQ_exit hQ5 ?_
   refine blockQ_exit hQ4 ?_
   refine seqQ_normal hQ2 ?_
   refine sg fun QQ12 hQ12 => ?_
   simp only [go_sem]
   refine seqQ_normal hQ12 ?_
   refine vc_ret_of ?_
   simp only [go_sem]
   obtain rfl := Option.some.inj h
   refine retW_pure rfl ?_
   simp only [go_sem, Le]

def f_backwashlaw15_CellSettles_J2 (v_10 : (List GSlot) × (List GBackwashlaw15_came) × Bool) : Option Bool :=
 bindO (f_cell_Right v_10.1) (fun (v_21 : Bool) =>
 (if v_21 = true then bindO (f_cell_Stale v_10.1) (fun (v_22 : List GTime) =>
 some ((List.length v_22 : Int) == 0))
 else some false))
def f_backwashlaw15_CellSettles_B3 (xv_0 : GNode) (v_10 : (List GSlot) × (List GBackwashlaw15_came) × Bool) (rec_3 : (List GBackwashlaw15_came) × (List GBackwashlaw15_came) × Int → Option Bool) : (List GBackwashlaw15_came) × (List GBackwashlaw15_came) × Int → Option Bool :=
 fun (inv_3, sent_3, i_5) =>
 (if (decide (i_5 < (List.length inv_3 : Int))) = true then bindO (idx inv_3 i_5) (fun (xv_9 : GBackwashlaw15_came) =>
 bindO (f_backwashlaw15_makes xv_0 inv_3 xv_9.time) (fun (v_29 : (List GItem) × Bool) =>
 (if v_29.2 = true then bindO (f_backwashlaw15_at sent_3 xv_9.time) (fun (v_30 : List GItem) =>
 bindO (f_bag_Same v_30 v_29.1) (fun (v_31 : Bool) =>
 (if (!v_31) = true then some false
 else rec_3 (inv_3, sent_3, IntKind.i64.wrap (i_5 + 1)))))
 else some false)))
 else f_backwashlaw15_CellSettles_J2 v_10)
def f_backwashlaw15_CellSettles_J1 (xv_0 : GNode) (lazy_0 : Bool) (c_2 : List GSlot) (a_4 : List GBackwashlaw15_came) (a_5 : List GBackwashlaw15_came) : Option Bool :=
 bindO (f_backwashlaw15_settle_s3_0 c_2 xv_0 lazy_0 a_5 200) (fun (v_10 : (List GSlot) × (List GBackwashlaw15_came) × Bool) =>
 (if (!v_10.2.2) = true then bindO (f_backwashlaw15_roomless xv_0 a_4) (fun (v_11 : Bool) =>
 some v_11)
 else loopK (f_backwashlaw15_CellSettles_B3 xv_0 v_10) rounds (a_4, v_10.2.1, 0)))
def f_backwashlaw15_CellSettles_B4 (xv_0 : GNode) (lazy_0 : Bool) (l_0 : List GBackwashlaw15_Act) (rec_4 : (List GSlot) × Int × (List GBackwashlaw15_came) × (List GBackwashlaw15_came) → Option Bool) : (List GSlot) × Int × (List GBackwashlaw15_came) × (List GBackwashlaw15_came) → Option Bool :=
 fun (c_4, i_7, a_8, a_9) =>
 (if (decide (i_7 < (List.length l_0 : Int))) = true then bindO (idx l_0 i_7) (fun (xv_12 : GBackwashlaw15_Act) =>
 (if xv_12.Make = true then bindO (f_backwashlaw15_settle_s3_0 c_4 xv_0 lazy_0 a_9 1) (fun (v_38 : (List GSlot) × (List GBackwashlaw15_came) × Bool) =>
 rec_4 (v_38.1, IntKind.i64.wrap (i_7 + 1), a_8, v_38.2.1))
 else bindO (f_cell_Come c_4 xv_0.Kind (IntKind.i64.wrap (Int.tmod ((UInt8.toNat xv_12.Port : Nat) : Int) 2)) xv_12.Time xv_12.Rec (IntKind.i64.wrap xv_12.N.n)) (fun (v_39 : (List GSlot) × Bool × Bool) =>
 (if v_39.2.2 = true then bindO (f_backwashlaw15_more_s0_0 a_8 xv_12.Time (IntKind.i64.wrap (Int.tmod ((UInt8.toNat xv_12.Port : Nat) : Int) 2)) ([(⟨xv_12.Rec, IntKind.i64.wrap xv_12.N.n⟩ : GItem)] : List GItem)) (fun (v_40 : List GBackwashlaw15_came) =>
 rec_4 (v_39.1, IntKind.i64.wrap (i_7 + 1), v_40, a_9))
 else rec_4 (v_39.1, IntKind.i64.wrap (i_7 + 1), a_8, a_9)))))
 else f_backwashlaw15_CellSettles_J1 xv_0 lazy_0 c_4 a_8 a_9)
def f_backwashlaw15_CellSettles (xv_0 : GNode) (lazy_0 : Bool) (l_0 : List GBackwashlaw15_Act) : Option Bool :=
 bindO (f_backwashlaw15_awake) (fun (v_0 : Bool) =>
 (if (!v_0) = true then some false
 else (if ((decide (100 < (List.length xv_0.Prog : Int))) || (decide (100 < (List.length l_0 : Int)))) = true then some true
 else loopK (f_backwashlaw15_CellSettles_B4 xv_0 lazy_0 l_0) rounds ([], 0, [], []))))
theorem f_backwashlaw15_CellSettles_ok (xv_0 : GNode) (lazy_0 : Bool) (l_0 : List GBackwashlaw15_Act)  (r : Bool) (h : f_backwashlaw15_CellSettles xv_0 lazy_0 l_0 = some r) : PureS Try.prog 12 [.agg [.v (.int .i64 xv_0.Kind), .v (.int .i64 xv_0.Scope), .v (.int .i64 xv_0.Arg), .sl 2 (enc xv_0.Prog)], .v (.bool lazy_0), .sl 10 (enc l_0)] 0 (.v (.bool r)) := by
 unfold PureS
 refine Spec.of_vc Try.func12 rfl (by kernel_rfl) (by kernel_rfl) ?_
 rw [f_backwashlaw15_CellSettles] at h
 refine sg fun QQ1 hQ1 => ?_
 simp only [go_sem]
 refine seqQ_normal hQ1 ?_
 refine sg fun QQ2 hQ2 => ?_
 refine sg fun QQ3 hQ3 => ?_
 obtain ⟨v_0, ev_0, h⟩ := bindO_some h
 simp only [go_sem]
 refine call0 (f_backwashlaw15_awake_ok v_0 ev_0) (by rfl) (by rfl) ?_
 simp only [go_sem]
 refine seqQ_normal hQ3 ?_
 refine vc_cond_of (b := (!v_0)) (by (simp only [go_sem]; done)) (fun hb_0 => ?_) (fun hb_0 => ?_)
 ·
  replace h := if_t h hb_0
  simp only [bool_to_prop] at hb_0
  refine sg fun QQ4 hQ4 => ?_
  simp only [go_sem]
  refine seqQ_normal hQ4 ?_
  refine vc_ret_of ?_
  refine seqQ_ret hQ2 ?_
  simp only [go_sem]
  obtain rfl := Option.some.inj h
  refine retW_pure rfl ?_
  simp only [go_sem, Le]
 ·
  replace h := if_f h hb_0
  simp only [bool_to_prop] at hb_0
  refine vc_skip_of ?_
  refine seqQ_normal hQ2 ?_
  refine sg fun QQ5 hQ5 => ?_
  refine sg fun QQ6 hQ6 => ?_
  simp only [go_sem]
  refine seqQ_normal hQ6 ?_
  refine vc_cond_of (b := ((decide (100 < (List.length xv_0.Prog : Int))) || (decide (100 < (List.length l_0 : Int))))) (by (simp only [go_sem]; done)) (fun hb_1 => ?_) (fun hb_1 => ?_)
  ·
   replace h := if_t h hb_1
   simp only [bool_to_prop] at hb_1
   refine sg fun QQ7 hQ7 => ?_
   simp only [go_sem]
   refine seqQ_normal hQ7 ?_
   refine vc_ret_of ?_
   refine seqQ_ret hQ5 ?_
   simp only [go_sem]
   obtain rfl := Option.some.inj h
   refine retW_pure rfl ?_
   simp only [go_sem, Le]
  ·
   replace h := if_f h hb_1
   simp only [bool_to_prop] at hb_1
   refine vc_skip_of ?_
   refine seqQ_normal hQ5 ?_
   refine sg fun QQ8 hQ8 => ?_
   simp only [go_sem]
   refine seqQ_normal hQ8 ?_
   refine sg fun QQ9 hQ9 => ?_
   simp only [go_sem]
   refine seqQ_normal hQ9 ?_
   refine vc_join (by kernel_rfl) ?_
   refine seq_cut_gen (ι := (List GSlot) × (List GBackwashlaw15_came) × (List GBackwashlaw15_came)) (fun ((c_2, a_4, a_5) : (List GSlot) × (List GBackwashlaw15_came) × (List GBackwashlaw15_came)) => (⟨0, [(1, .v (.bool lazy_0)), (3, .ptr 0 0), (7, .sl 10 (enc c_2)), (8, .osl 1 7 (0) (List.length a_4)), (9, .osl 2 7 (0) (List.length a_5))], [(0, .box [.v (.int .i64 xv_0.Kind), .v (.int .i64 xv_0.Scope), .v (.int .i64 xv_0.Arg), .sl 2 (enc xv_0.Prog)]), (1, .arr 7 (enc a_4)), (2, .arr 7 (enc a_5))], 3, 146⟩ : St)) (fun ((c_2, a_4, a_5) : (List GSlot) × (List GBackwashlaw15_came) × (List GBackwashlaw15_came)) => f_backwashlaw15_CellSettles_J1 xv_0 lazy_0 c_2 a_4 a_5 = some r) ?_ ?_
   ·
    intro QQ27 hQ27
    refine sg fun QQ28 hQ28 => ?_
    simp only [go_sem]
    refine seqQ_normal hQ28 ?_
    refine vc_block_gen ?_
    intro QQ29 hQ29
    refine vc_loop_of ?_
    refine loop_gen (ι := Nat × (List GSlot) × Int × (List GBackwashlaw15_came) × (List GBackwashlaw15_came)) (fun ((_, c_4, i_7, a_8, a_9) : Nat × (List GSlot) × Int × (List GBackwashlaw15_came) × (List GBackwashlaw15_came)) => (⟨0, [(1, .v (.bool lazy_0)), (2, .sl 10 (enc l_0)), (3, .ptr 0 0), (7, .sl 10 (enc c_4)), (8, .osl 1 7 (0) (List.length a_8)), (9, .osl 2 7 (0) (List.length a_9)), (10, .v (.int .i64 i_7))], [(0, .box [.v (.int .i64 xv_0.Kind), .v (.int .i64 xv_0.Scope), .v (.int .i64 xv_0.Arg), .sl 2 (enc xv_0.Prog)]), (1, .arr 7 (enc a_8)), (2, .arr 7 (enc a_9))], 3, 146⟩ : St)) (fun ((n_, c_4, i_7, a_8, a_9) : Nat × (List GSlot) × Int × (List GBackwashlaw15_came) × (List GBackwashlaw15_came)) => loopK (f_backwashlaw15_CellSettles_B4 xv_0 lazy_0 l_0) n_ (c_4, i_7, a_8, a_9) = some r) (fun p => p.1) (rounds, [], 0, [], []) [some 0, none, none] ?_ h ?_
    · simp only [go_sem, Le] <;> (repeat' apply And.intro) <;> ((try with_reducible refine TL_eq ?_); (simp [go_sem]; done))
    ·
     rintro ⟨n_4, c_4, i_7, a_8, a_9⟩ h QQ30 hQ30
     dsimp only at h
     replace h := loopK_some h
     obtain ⟨m_4, rfl, h⟩ := h
     rw [f_backwashlaw15_CellSettles_B4] at h
     refine sg fun QQ31 hQ31 => ?_
     refine sg fun QQ32 hQ32 => ?_
     simp only [go_sem]
     refine seqQ_normal hQ32 ?_
     refine vc_cond_of (b := (decide (i_7 < (List.length l_0 : Int)))) (by (simp only [go_sem]; done)) (fun hb_37 => ?_) (fun hb_37 => ?_)
     ·
      replace h := if_t h hb_37
      simp only [bool_to_prop] at hb_37
      refine vc_skip_of ?_
      refine seqQ_normal hQ31 ?_
      refine vc_join (by kernel_rfl) ?_
      refine seq_go_gen ?_
      intro QQ33 hQ33
      refine vc_block_gen ?_
      intro QQ34 hQ34
      refine sg fun QQ35 hQ35 => ?_
      obtain ⟨xv_12, exv_12, h⟩ := bindO_some h
      obtain ⟨fxv_12a, fxv_12b, fxv_12c⟩ := idx_spec exv_12
      simp only [go_sem, fxv_12a, fxv_12b, fxv_12c]
      refine And.intro (by omega) ?_
      refine seqQ_normal hQ35 ?_
      refine sg fun QQ36 hQ36 => ?_
      refine sg fun QQ37 hQ37 => ?_
      simp only [go_sem]
      refine seqQ_normal hQ37 ?_
      refine vc_cond_of (b := xv_12.Make) (by (simp only [go_sem]; done)) (fun hb_38 => ?_) (fun hb_38 => ?_)
      ·
       replace h := if_t h hb_38
       refine sg fun QQ38 hQ38 => ?_
       obtain ⟨v_38, ev_38, h⟩ := bindO_some h
       simp only [go_sem]
       refine callD [2] (f_backwashlaw15_settle_s3_0_det c_4 xv_0 lazy_0 a_9 1 v_38 ev_38) (by simp) rfl ⟨rfl, trivial⟩ rfl rfl rfl rfl ?_
       simp only [go_sem]
       refine seqQ_normal hQ38 ?_
       refine sg fun QQ39 hQ39 => ?_
       simp only [go_sem]
       refine seqQ_normal hQ39 ?_
       refine sg fun QQ40 hQ40 => ?_
       simp only [go_sem]
       refine seqQ_normal hQ40 ?_
       refine vc_exit_of ?_
       refine seqQ_exit hQ36 ?_
       refine blockQ_exit hQ34 ?_
       refine seqQ_normal hQ33 ?_
       simp only [go_sem]
       refine thenQ_normal hQ30 ?_
       refine ⟨(m_4, v_38.1, IntKind.i64.wrap (i_7 + 1), a_8, v_38.2.1), [some 0, some 1, some 4], ?_, h, Nat.lt_succ_self _⟩
       simp only [go_sem, Le] <;> (repeat' apply And.intro) <;> first | ((try with_reducible refine TL_eq ?_); omega) | ((try with_reducible refine TL_eq ?_); (simp [go_sem]; done))
      ·
       replace h := if_f h hb_38
       refine vc_skip_of ?_
       refine seqQ_normal hQ36 ?_
       refine sg fun QQ41 hQ41 => ?_
       obtain ⟨v_39, ev_39, h⟩ := bindO_some h
       simp only [go_sem]
       refine callD [] (f_cell_Come_det c_4 xv_0.Kind (IntKind.i64.wrap (Int.tmod ((UInt8.toNat xv_12.Port : Nat) : Int) 2)) xv_12.Time xv_12.Rec (IntKind.i64.wrap xv_12.N.n) v_39 ev_39) (by simp) rfl trivial rfl rfl rfl rfl ?_
       simp only [go_sem]
       refine seqQ_normal hQ41 ?_
       refine vc_join (by kernel_rfl) ?_
       refine seq_go_gen ?_
       intro QQ42 hQ42
       refine sg fun QQ43 hQ43 => ?_
       simp only [go_sem]
       refine seqQ_normal hQ43 ?_
       refine vc_cond_of (b := v_39.2.2) (by (simp only [go_sem]; done)) (fun hb_39 => ?_) (fun hb_39 => ?_)
       ·
        replace h := if_t h hb_39
        have rf_5 : [[.v (.int .i64 xv_12.Rec.K), .v (.int .i64 xv_12.Rec.V), .v (.int .i64 (IntKind.i64.wrap xv_12.N.n))]] = enc ([(⟨xv_12.Rec, IntKind.i64.wrap xv_12.N.n⟩ : GItem)] : List GItem) := by rfl
        obtain ⟨v_40, ev_40, h⟩ := bindO_some h
        simp only [go_sem]
        simp only [rf_5]
        refine callF_weak (s' := (⟨0, [(1, .v (.bool lazy_0)), (2, .sl 10 (enc l_0)), (3, .ptr 0 0), (7, .sl 10 (enc c_4)), (8, .osl 1 7 (0) (List.length a_8)), (9, .osl 2 7 (0) (List.length a_9)), (10, .v (.int .i64 i_7)), (11, .ptr 3 0), (15, .osl 4 10 (0) (List.length v_39.1)), (16, .v (.bool v_39.2.1)), (17, .v (.bool v_39.2.2)), (33, .v (.int .i64 i_7)), (34, .sl 10 (enc l_0)), (35, .v (.int .i64 (List.length l_0 : Int))), (36, .v (.bool (decide (i_7 < (List.length l_0 : Int))))), (39, .sl 10 (enc l_0)), (40, .v (.int .i64 i_7)), (41, .el 10 (enc l_0) (Int.toNat i_7) 0), (42, .agg [.v (.bool xv_12.Make), .v (.int .u8 ((UInt8.toNat xv_12.Port : Nat) : Int)), .v (.int .i64 xv_12.Time.D), .v (.int .i64 xv_12.Time.C.a0), .v (.int .i64 xv_12.Time.C.a1), .v (.int .i64 xv_12.Time.C.a2), .v (.int .i64 xv_12.Time.C.a3), .v (.int .i64 xv_12.Rec.K), .v (.int .i64 xv_12.Rec.V), .v (.int .i8 xv_12.N.n)]), (43, .ptr 3 0), (44, .v (.bool xv_12.Make)), (57, .tup [.osl 4 10 (0) (List.length v_39.1), .v (.bool v_39.2.1), .v (.bool v_39.2.2)]), (58, .sl 10 (enc c_4)), (59, .ptr 0 0), (60, .v (.int .i64 xv_0.Kind)), (61, .ptr 3 1), (62, .v (.int .u8 ((UInt8.toNat xv_12.Port : Nat) : Int))), (63, .v (.int .u8 (Int.tmod ((UInt8.toNat xv_12.Port : Nat) : Int) 2))), (64, .v (.int .i64 (IntKind.i64.wrap (Int.tmod ((UInt8.toNat xv_12.Port : Nat) : Int) 2)))), (65, .ptr 3 2), (66, .agg [.v (.int .i64 xv_12.Time.D), .v (.int .i64 xv_12.Time.C.a0), .v (.int .i64 xv_12.Time.C.a1), .v (.int .i64 xv_12.Time.C.a2), .v (.int .i64 xv_12.Time.C.a3)]), (67, .ptr 3 7), (68, .agg [.v (.int .i64 xv_12.Rec.K), .v (.int .i64 xv_12.Rec.V)]), (69, .ptr 3 9), (70, .v (.int .i8 xv_12.N.n)), (71, .v (.int .i64 (IntKind.i64.wrap xv_12.N.n))), (72, .tup [.osl 4 10 (0) (List.length v_39.1), .v (.bool v_39.2.1), .v (.bool v_39.2.2)]), (73, .osl 4 10 (0) (List.length v_39.1)), (74, .v (.bool v_39.2.1)), (75, .v (.bool v_39.2.2)), (76, .v (.bool v_39.2.2)), (77, .osl 1 7 (0) (List.length a_8)), (78, .ptr 3 2), (79, .agg [.v (.int .i64 xv_12.Time.D), .v (.int .i64 xv_12.Time.C.a0), .v (.int .i64 xv_12.Time.C.a1), .v (.int .i64 xv_12.Time.C.a2), .v (.int .i64 xv_12.Time.C.a3)]), (80, .ptr 3 1), (81, .v (.int .u8 ((UInt8.toNat xv_12.Port : Nat) : Int))), (82, .v (.int .u8 (Int.tmod ((UInt8.toNat xv_12.Port : Nat) : Int) 2))), (83, .v (.int .i64 (IntKind.i64.wrap (Int.tmod ((UInt8.toNat xv_12.Port : Nat) : Int) 2)))), (84, .ptr 3 7), (85, .agg [.v (.int .i64 xv_12.Rec.K), .v (.int .i64 xv_12.Rec.V)]), (86, .ptr 3 9), (87, .v (.int .i8 xv_12.N.n)), (88, .v (.int .i64 (IntKind.i64.wrap xv_12.N.n))), (89, .agg [.v (.int .i64 xv_12.Rec.K), .v (.int .i64 xv_12.Rec.V), .v (.int .i64 (IntKind.i64.wrap xv_12.N.n))]), (90, .sl 3 (enc ([(⟨xv_12.Rec, IntKind.i64.wrap xv_12.N.n⟩ : GItem)] : List GItem)))], [(0, .box [.v (.int .i64 xv_0.Kind), .v (.int .i64 xv_0.Scope), .v (.int .i64 xv_0.Arg), .sl 2 (enc xv_0.Prog)]), (1, .arr 7 (enc a_8)), (2, .arr 7 (enc a_9)), (3, .box [.v (.bool xv_12.Make), .v (.int .u8 ((UInt8.toNat xv_12.Port : Nat) : Int)), .v (.int .i64 xv_12.Time.D), .v (.int .i64 xv_12.Time.C.a0), .v (.int .i64 xv_12.Time.C.a1), .v (.int .i64 xv_12.Time.C.a2), .v (.int .i64 xv_12.Time.C.a3), .v (.int .i64 xv_12.Rec.K), .v (.int .i64 xv_12.Rec.V), .v (.int .i8 xv_12.N.n)]), (4, .arr 10 (enc v_39.1))], 5, 146⟩ : St)) (l := [some 0, some 1, some 2, some 3, some 4]) (args' := [.osl 1 7 (0) (List.length a_8), .agg [.v (.int .i64 xv_12.Time.D), .v (.int .i64 xv_12.Time.C.a0), .v (.int .i64 xv_12.Time.C.a1), .v (.int .i64 xv_12.Time.C.a2), .v (.int .i64 xv_12.Time.C.a3)], .v (.int .i64 (IntKind.i64.wrap (Int.tmod ((UInt8.toNat xv_12.Port : Nat) : Int) 2))), .sl 3 (enc ([(⟨xv_12.Rec, IntKind.i64.wrap xv_12.N.n⟩ : GItem)] : List GItem))]) ?_ ?_ ?_
        · simp only [go_sem, Le] <;> (repeat' apply And.intro) <;> first | ((try with_reducible refine TL_eq ?_); omega) | ((try with_reducible refine TL_eq ?_); (simp [go_sem]; done)) | ((try with_reducible refine TL_eq ?_); (simp [enc_len, enc]; omega))
        · simp only [go_sem, Le] <;> (repeat' apply And.intro) <;> ((try with_reducible refine TL_eq ?_); (simp [go_sem]; done))
        refine callD [1] (f_backwashlaw15_more_s0_0_det a_8 xv_12.Time (IntKind.i64.wrap (Int.tmod ((UInt8.toNat xv_12.Port : Nat) : Int) 2)) ([(⟨xv_12.Rec, IntKind.i64.wrap xv_12.N.n⟩ : GItem)] : List GItem) v_40 ev_40) (by simp) rfl ⟨rfl, trivial⟩ rfl rfl rfl rfl ?_
        simp only [go_sem]
        refine seqQ_normal hQ42 ?_
        simp only [go_sem]
        refine blockQ_normal hQ34 ?_
        refine seqQ_normal hQ33 ?_
        simp only [go_sem]
        refine thenQ_normal hQ30 ?_
        refine ⟨(m_4, v_39.1, IntKind.i64.wrap (i_7 + 1), v_40, a_9), [some 0, some 5, some 2], ?_, h, Nat.lt_succ_self _⟩
        simp only [go_sem, Le] <;> (repeat' apply And.intro) <;> first | ((try with_reducible refine TL_eq ?_); omega) | ((try with_reducible refine TL_eq ?_); (simp [go_sem]; done))
       ·
        replace h := if_f h hb_39
        refine vc_skip_of ?_
        refine seqQ_normal hQ42 ?_
        simp only [go_sem]
        refine blockQ_normal hQ34 ?_
        refine seqQ_normal hQ33 ?_
        simp only [go_sem]
        refine thenQ_normal hQ30 ?_
        refine ⟨(m_4, v_39.1, IntKind.i64.wrap (i_7 + 1), a_8, a_9), [some 0, some 1, some 2], ?_, h, Nat.lt_succ_self _⟩
        simp only [go_sem, Le] <;> (repeat' apply And.intro) <;> first | ((try with_reducible refine TL_eq ?_); omega) | ((try with_reducible refine TL_eq ?_); (simp [go_sem]; done))
     ·
      replace h := if_f h hb_37
      simp only [bool_to_prop] at hb_37
      refine vc_exit_of ?_
      refine seqQ_exit hQ31 ?_
      refine thenQ_exit hQ30 ?_
      refine blockQ_exit hQ29 ?_
      refine thenQ_normal hQ27 ?_
      refine ⟨(c_4, a_8, a_9), [some 0, some 1, some 2], ?_, h⟩
      simp only [go_sem, Le] <;> (repeat' apply And.intro) <;> first | ((try with_reducible refine TL_eq ?_); omega) | ((try with_reducible refine TL_eq ?_); (simp [go_sem]; done))
   ·
    rintro ⟨c_2, a_4, a_5⟩ h
    try dsimp only at h
    rw [f_backwashlaw15_CellSettles_J1] at h
    refine sg fun QQ10 hQ10 => ?_
    obtain ⟨v_10, ev_10, h⟩ := bindO_some h
    simp only [go_sem]
    refine callD [2] (f_backwashlaw15_settle_s3_0_det c_2 xv_0 lazy_0 a_5 200 v_10 ev_10) (by simp) rfl ⟨rfl, trivial⟩ rfl rfl rfl rfl ?_
    simp only [go_sem]
    refine seqQ_normal hQ10 ?_
    refine sg fun QQ11 hQ11 => ?_
    refine sg fun QQ12 hQ12 => ?_
    simp only [go_sem]
    refine seqQ_normal hQ12 ?_
    refine vc_cond_of (b := (!v_10.2.2)) (by (simp only [go_sem]; done)) (fun hb_11 => ?_) (fun hb_11 => ?_)
    ·
     replace h := if_t h hb_11
     simp only [bool_to_prop] at hb_11
     refine sg fun QQ13 hQ13 => ?_
     obtain ⟨v_11, ev_11, h⟩ := bindO_some h
     simp only [go_sem]
     refine callB (s' := (⟨0, [(1, .v (.bool lazy_0)), (3, .ptr 0 0), (7, .sl 10 (enc v_10.1)), (8, .sl 7 (enc a_4)), (9, .osl 1 7 (0) (List.length v_10.2.1)), (18, .v (.bool v_10.2.2)), (93, .tup [.sl 10 (enc v_10.1), .osl 1 7 (0) (List.length v_10.2.1), .v (.bool v_10.2.2)]), (94, .sl 10 (enc c_2)), (95, .agg [.v (.int .i64 xv_0.Kind), .v (.int .i64 xv_0.Scope), .v (.int .i64 xv_0.Arg), .sl 2 (enc xv_0.Prog)]), (96, .v (.bool lazy_0)), (98, .tup [.sl 10 (enc v_10.1), .osl 1 7 (0) (List.length v_10.2.1), .v (.bool v_10.2.2)]), (99, .sl 10 (enc v_10.1)), (100, .osl 1 7 (0) (List.length v_10.2.1)), (101, .v (.bool v_10.2.2)), (102, .v (.bool v_10.2.2)), (103, .v (.bool (!v_10.2.2))), (104, .agg [.v (.int .i64 xv_0.Kind), .v (.int .i64 xv_0.Scope), .v (.int .i64 xv_0.Arg), .sl 2 (enc xv_0.Prog)]), (105, .sl 7 (enc a_4))], [(0, .box [.v (.int .i64 xv_0.Kind), .v (.int .i64 xv_0.Scope), .v (.int .i64 xv_0.Arg), .sl 2 (enc xv_0.Prog)]), (1, .arr 7 (enc v_10.2.1))], 2, 146⟩ : St)) (l := [some 0, some 3]) (args' := [.agg [.v (.int .i64 xv_0.Kind), .v (.int .i64 xv_0.Scope), .v (.int .i64 xv_0.Arg), .sl 2 (enc xv_0.Prog)], .sl 7 (enc a_4)]) ?_ ?_ (f_backwashlaw15_roomless_ok xv_0 a_4 v_11 ev_11) (by rfl) (by rfl) ?_
     · simp only [go_sem, Le] <;> (repeat' apply And.intro) <;> first | ((try with_reducible refine TL_eq ?_); omega) | ((try with_reducible refine TL_eq ?_); (simp [go_sem]; done))
     · simp only [go_sem, Le] <;> (repeat' apply And.intro) <;> ((try with_reducible refine TL_eq ?_); (simp [go_sem]; done))
     simp only [go_sem]
     refine seqQ_normal hQ13 ?_
     refine vc_ret_of ?_
     refine seqQ_ret hQ11 ?_
     simp only [go_sem]
     obtain rfl := Option.some.inj h
     refine retW_pure rfl ?_
     simp only [go_sem, Le]
    ·
     replace h := if_f h hb_11
     simp only [bool_to_prop] at hb_11
     refine vc_skip_of ?_
     refine seqQ_normal hQ11 ?_
     refine vc_join (by kernel_rfl) ?_
     refine seq_cut_gen (ι := Unit) (fun (_ : Unit) => (⟨0, [(7, .sl 10 (enc v_10.1))], [], 0, 146⟩ : St)) (fun (_ : Unit) => f_backwashlaw15_CellSettles_J2 v_10 = some r) ?_ ?_
     ·
      intro QQ15 hQ15
      refine sg fun QQ16 hQ16 => ?_
      simp only [go_sem]
      refine seqQ_normal hQ16 ?_
      refine vc_block_gen ?_
      intro QQ17 hQ17
      refine vc_loop_of ?_
      refine loop_gen (ι := Nat × (List GBackwashlaw15_came) × (List GBackwashlaw15_came) × Int) (fun ((_, inv_3, sent_3, i_5) : Nat × (List GBackwashlaw15_came) × (List GBackwashlaw15_came) × Int) => (⟨0, [(3, .ptr 0 0), (7, .sl 10 (enc v_10.1)), (8, .sl 7 (enc inv_3)), (9, .sl 7 (enc sent_3)), (19, .v (.int .i64 i_5))], [(0, .box [.v (.int .i64 xv_0.Kind), .v (.int .i64 xv_0.Scope), .v (.int .i64 xv_0.Arg), .sl 2 (enc xv_0.Prog)])], 1, 146⟩ : St)) (fun ((n_, inv_3, sent_3, i_5) : Nat × (List GBackwashlaw15_came) × (List GBackwashlaw15_came) × Int) => loopK (f_backwashlaw15_CellSettles_B3 xv_0 v_10) n_ (inv_3, sent_3, i_5) = some r) (fun p => p.1) (rounds, a_4, v_10.2.1, 0) [some 0] ?_ h ?_
      · simp only [go_sem, Le] <;> (repeat' apply And.intro) <;> ((try with_reducible refine TL_eq ?_); (simp [go_sem]; done))
      ·
       rintro ⟨n_3, inv_3, sent_3, i_5⟩ h QQ18 hQ18
       dsimp only at h
       replace h := loopK_some h
       obtain ⟨m_3, rfl, h⟩ := h
       rw [f_backwashlaw15_CellSettles_B3] at h
       refine sg fun QQ19 hQ19 => ?_
       refine sg fun QQ20 hQ20 => ?_
       simp only [go_sem]
       refine seqQ_normal hQ20 ?_
       refine vc_cond_of (b := (decide (i_5 < (List.length inv_3 : Int)))) (by (simp only [go_sem]; done)) (fun hb_28 => ?_) (fun hb_28 => ?_)
       ·
        replace h := if_t h hb_28
        simp only [bool_to_prop] at hb_28
        refine vc_skip_of ?_
        refine seqQ_normal hQ19 ?_
        refine sg fun QQ21 hQ21 => ?_
        refine vc_block_gen ?_
        intro QQ22 hQ22
        refine sg fun QQ23 hQ23 => ?_
        refine vc_draw ?_
        refine drawM_tail 12 [0, 0, 0, 0, 12, 28, 60, 127, 255, 511, 511, 1023, 4095] mixed (by kernel_rfl) (of_decide_eq_true (by kernel_rfl)) (by kernel_rfl) ?_
        obtain ⟨xv_9, exv_9, h⟩ := bindO_some h
        obtain ⟨fxv_9a, fxv_9b, fxv_9c⟩ := idx_spec exv_9
        obtain ⟨v_29, ev_29, h⟩ := bindO_some h
        simp only [go_sem, fxv_9a, fxv_9b, fxv_9c]
        refine And.intro (by omega) ?_
        refine callq (fun _ => (f_backwashlaw15_makes_ok xv_0 inv_3 xv_9.time v_29 ev_29)) (by rfl) (by rfl) ?_
        simp only [go_sem]
        refine seqQ_normal hQ23 ?_
        refine sg fun QQ24 hQ24 => ?_
        simp only [go_sem]
        rcases hb_29 : v_29.2 with _ | _
        ·
         replace h := if_f h hb_29
         simp only [go_sem, hb_29]
         refine seqQ_normal hQ24 ?_
         refine vc_cond_t (by (simp only [go_sem]; done)) ?_
         refine sg fun QQ25 hQ25 => ?_
         simp only [go_sem]
         refine seqQ_normal hQ25 ?_
         refine vc_ret_of ?_
         refine blockQ_ret hQ22 ?_
         refine seqQ_ret hQ21 ?_
         refine thenQ_ret hQ18 ?_
         refine blockQ_ret hQ17 ?_
         refine thenQ_ret hQ15 ?_
         simp only [go_sem]
         obtain rfl := Option.some.inj h
         refine retW_pure rfl ?_
         simp only [go_sem, Le]
        ·
         replace h := if_t h hb_29
         obtain ⟨v_30, ev_30, h⟩ := bindO_some h
         simp only [go_sem, hb_29, fxv_9a, fxv_9b, fxv_9c]
         refine And.intro (by omega) ?_
         refine call0 (f_backwashlaw15_at_ok sent_3 xv_9.time v_30 ev_30) (by rfl) (by rfl) ?_
         obtain ⟨v_31, ev_31, h⟩ := bindO_some h
         simp only [go_sem]
         refine call0 (f_bag_Same_ok v_30 v_29.1 v_31 ev_31) (by rfl) (by rfl) ?_
         simp only [go_sem]
         refine seqQ_normal hQ24 ?_
         refine vc_cond_of (b := (!v_31)) (by (simp only [go_sem]; done)) (fun hb_30 => ?_) (fun hb_30 => ?_)
         ·
          replace h := if_t h hb_30
          simp only [bool_to_prop] at hb_30
          refine sg fun QQ26 hQ26 => ?_
          simp only [go_sem]
          refine seqQ_normal hQ26 ?_
          refine vc_ret_of ?_
          refine blockQ_ret hQ22 ?_
          refine seqQ_ret hQ21 ?_
          refine thenQ_ret hQ18 ?_
          refine blockQ_ret hQ17 ?_
          refine thenQ_ret hQ15 ?_
          simp only [go_sem]
          obtain rfl := Option.some.inj h
          refine retW_pure rfl ?_
          simp only [go_sem, Le]
         ·
          replace h := if_f h hb_30
          simp only [bool_to_prop] at hb_30
          refine vc_skip_of ?_
          refine blockQ_normal hQ22 ?_
          refine seqQ_normal hQ21 ?_
          simp only [go_sem]
          refine thenQ_normal hQ18 ?_
          refine ⟨(m_3, inv_3, sent_3, IntKind.i64.wrap (i_5 + 1)), [some 0], ?_, h, Nat.lt_succ_self _⟩
          simp only [go_sem, Le]
       ·
        replace h := if_f h hb_28
        simp only [bool_to_prop] at hb_28
        refine vc_exit_of ?_
        refine seqQ_exit hQ19 ?_
        refine thenQ_exit hQ18 ?_
        refine blockQ_exit hQ17 ?_
        refine thenQ_normal hQ15 ?_
        refine ⟨(), [], ?_, h⟩
        simp only [go_sem, Le]
     ·
      rintro ⟨⟩ h
      try dsimp only at h
      rw [f_backwashlaw15_CellSettles_J2] at h
      refine sg fun QQ14 hQ14 => ?_
      obtain ⟨v_21, ev_21, h⟩ := bindO_some h
      simp only [go_sem]
      refine call0 (f_cell_Right_ok v_10.1 v_21 ev_21) (by rfl) (by rfl) ?_
      simp only [go_sem]
      rcases hb_21 : v_21 with _ | _
      ·
       replace h := if_f h hb_21
       simp only [go_sem, hb_21]
       refine seqQ_normal hQ14 ?_
       refine vc_ret_of ?_
       simp only [go_sem]
       obtain rfl := Option.some.inj h
       refine retW_pure rfl ?_
       simp only [go_sem, Le]
      ·
       replace h := if_t h hb_21
       obtain ⟨v_22, ev_22, h⟩ := bindO_some h
       simp only [go_sem, hb_21]
       refine callD [] (f_cell_Stale_det v_10.1 v_22 ev_22) (by simp) rfl trivial rfl rfl rfl rfl ?_
       simp only [go_sem]
       refine seqQ_normal hQ14 ?_
       refine vc_ret_of ?_
       simp only [go_sem]
       obtain rfl := Option.some.inj h
       refine retW_pure rfl ?_
       simp only [go_sem, Le]

end Go.Proofs.Ythpahhhdapdcpaa
