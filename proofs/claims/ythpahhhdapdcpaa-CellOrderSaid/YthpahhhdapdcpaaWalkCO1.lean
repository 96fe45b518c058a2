/-
  What functions of the program compute, each told as a plain function that may give nothing, with the proof that the code does so. No condition beyond those that each theorem names.
-/
import Derived.Test.YthpahhhdapdcpaaWalkCO0
import Derived.Test.YthpahhhdapdcpaaLibI
set_option linter.unusedSimpArgs false
set_option linter.unusedVariables false
set_option maxHeartbeats 2000000
set_option maxRecDepth 100000
namespace Go.Proofs.Ythpahhhdapdcpaa
open Go Go.RowKit
def f_slices_BinarySearchFunc_Time_J1 (xv_0 : List GSlot) (target_0 : GTime) (cmp_0 : GSlot → GTime → Option Int) (i_2 : Int) : Option (Int × Bool) :=
 (if (decide (i_2 < (List.length xv_0 : Int))) = true then bindO (idx xv_0 i_2) (fun (xv_4 : GSlot) =>
 bindO (cmp_0 xv_4 target_0) (fun (v_3 : Int) =>
 some (i_2, (v_3 == 0))))
 else some (i_2, false))
def f_slices_BinarySearchFunc_Time_B2 (xv_0 : List GSlot) (target_0 : GTime) (cmp_0 : GSlot → GTime → Option Int) (rec_2 : Int × Int → Option (Int × Bool)) : Int × Int → Option (Int × Bool) :=
 fun (i_4, j_3) =>
 (if (decide (i_4 < j_3)) = true then bindO (idx xv_0 (IntKind.i64.wrap (shrI .u64 (IntKind.u64.wrap (IntKind.i64.wrap (i_4 + j_3))) 1))) (fun (xv_7 : GSlot) =>
 bindO (cmp_0 xv_7 target_0) (fun (v_6 : Int) =>
 (if (decide (v_6 < 0)) = true then rec_2 (IntKind.i64.wrap ((IntKind.i64.wrap (shrI .u64 (IntKind.u64.wrap (IntKind.i64.wrap (i_4 + j_3))) 1)) + 1), j_3)
 else rec_2 (i_4, IntKind.i64.wrap (shrI .u64 (IntKind.u64.wrap (IntKind.i64.wrap (i_4 + j_3))) 1)))))
 else f_slices_BinarySearchFunc_Time_J1 xv_0 target_0 cmp_0 i_4)
def f_slices_BinarySearchFunc_Time (xv_0 : List GSlot) (target_0 : GTime) (cmp_0 : GSlot → GTime → Option Int) : Option (Int × Bool) :=
 loopK (f_slices_BinarySearchFunc_Time_B2 xv_0 target_0 cmp_0) rounds (0, (List.length xv_0 : Int))
theorem f_slices_BinarySearchFunc_Time_ok (xv_0 : List GSlot) (target_0 : GTime) (cmp_0 : GSlot → GTime → Option Int) (g_cmp_0 : FuncId) (c_cmp_0 : List AV) (F_cmp_0 : idFreeL c_cmp_0 = true) (E_cmp_0 : entB Try.prog g_cmp_0 = true) (H_cmp_0 : ∀ (x0 : GSlot) (x1 : GTime) (r : Int), cmp_0 x0 x1 = some r → PureS Try.prog g_cmp_0 ([.agg [.v (.int .i64 x0.Time.D), .v (.int .i64 x0.Time.C.a0), .v (.int .i64 x0.Time.C.a1), .v (.int .i64 x0.Time.C.a2), .v (.int .i64 x0.Time.C.a3), .sl 3 (enc x0.In.a0), .sl 3 (enc x0.In.a1), .sl 3 (enc x0.Sent), .v (.bool x0.Dirty), .v (.bool x0.Fired)], .agg [.v (.int .i64 x1.D), .v (.int .i64 x1.C.a0), .v (.int .i64 x1.C.a1), .v (.int .i64 x1.C.a2), .v (.int .i64 x1.C.a3)]] ++ c_cmp_0) 0 (.v (.int .i64 r))) (r : Int × Bool) (h : f_slices_BinarySearchFunc_Time xv_0 target_0 cmp_0 = some r) : PureS Try.prog 165 [.sl 10 (enc xv_0), .agg [.v (.int .i64 target_0.D), .v (.int .i64 target_0.C.a0), .v (.int .i64 target_0.C.a1), .v (.int .i64 target_0.C.a2), .v (.int .i64 target_0.C.a3)], .clo g_cmp_0 c_cmp_0] 0 (.tup [.v (.int .i64 r.1), .v (.bool r.2)]) := by
 unfold PureS
 refine Spec.of_vc Try.func165 rfl (by kernel_rfl) (by kernel_rfl) ?_
 rw [f_slices_BinarySearchFunc_Time] at h
 refine sg fun QQ1 hQ1 => ?_
 simp only [go_sem]
 refine seqQ_normal hQ1 ?_
 refine sg fun QQ2 hQ2 => ?_
 simp only [go_sem]
 refine seqQ_normal hQ2 ?_
 refine sg fun QQ3 hQ3 => ?_
 simp only [go_sem]
 refine seqQ_normal hQ3 ?_
 refine vc_join (by kernel_rfl) ?_
 refine seq_cut_gen (ι := Int) (fun (i_2 : Int) => (⟨0, [(0, .sl 10 (enc xv_0)), (2, .clo g_cmp_0 c_cmp_0), (4, .ptr 0 0), (8, .v (.int .i64 (List.length xv_0 : Int))), (9, .v (.int .i64 i_2))], [(0, .box [.v (.int .i64 target_0.D), .v (.int .i64 target_0.C.a0), .v (.int .i64 target_0.C.a1), .v (.int .i64 target_0.C.a2), .v (.int .i64 target_0.C.a3)])], 1, 49⟩ : St)) (fun (i_2 : Int) => f_slices_BinarySearchFunc_Time_J1 xv_0 target_0 cmp_0 i_2 = some r) ?_ ?_
 ·
  intro QQ5 hQ5
  refine vc_block_gen ?_
  intro QQ6 hQ6
  refine vc_loop_of ?_
  refine loop_gen (ι := Nat × Int × Int) (fun ((_, i_4, j_3) : Nat × Int × Int) => (⟨0, [(0, .sl 10 (enc xv_0)), (2, .clo g_cmp_0 c_cmp_0), (4, .ptr 0 0), (8, .v (.int .i64 (List.length xv_0 : Int))), (9, .v (.int .i64 i_4)), (10, .v (.int .i64 j_3))], [(0, .box [.v (.int .i64 target_0.D), .v (.int .i64 target_0.C.a0), .v (.int .i64 target_0.C.a1), .v (.int .i64 target_0.C.a2), .v (.int .i64 target_0.C.a3)])], 1, 49⟩ : St)) (fun ((n_, i_4, j_3) : Nat × Int × Int) => loopK (f_slices_BinarySearchFunc_Time_B2 xv_0 target_0 cmp_0) n_ (i_4, j_3) = some r) (fun p => p.1) (rounds, 0, (List.length xv_0 : Int)) [some 0] ?_ h ?_
  · simp only [go_sem, Le, AvLeL_free _ F_cmp_0]
  ·
   rintro ⟨n_2, i_4, j_3⟩ h QQ7 hQ7
   dsimp only at h
   replace h := loopK_some h
   obtain ⟨m_2, rfl, h⟩ := h
   rw [f_slices_BinarySearchFunc_Time_B2] at h
   refine sg fun QQ8 hQ8 => ?_
   refine sg fun QQ9 hQ9 => ?_
   simp only [go_sem]
   refine seqQ_normal hQ9 ?_
   refine vc_cond_of (b := (decide (i_4 < j_3))) (by (simp only [go_sem]; done)) (fun hb_11 => ?_) (fun hb_11 => ?_)
   ·
    replace h := if_t h hb_11
    simp only [bool_to_prop] at hb_11
    refine vc_skip_of ?_
    refine seqQ_normal hQ8 ?_
    refine vc_block_gen ?_
    intro QQ10 hQ10
    refine sg fun QQ11 hQ11 => ?_
    simp only [go_sem]
    refine seqQ_normal hQ11 ?_
    refine sg fun QQ12 hQ12 => ?_
    refine vc_draw ?_
    refine drawM_tail 6 [0, 0, 0, 6, 14, 0, 63, 127] mixed (by kernel_rfl) (of_decide_eq_true (by kernel_rfl)) (by kernel_rfl) ?_
    obtain ⟨xv_7, exv_7, h⟩ := bindO_some h
    obtain ⟨fxv_7a, fxv_7b, fxv_7c⟩ := idx_spec exv_7
    obtain ⟨v_6, ev_6, h⟩ := bindO_some h
    simp only [go_sem, fxv_7a, fxv_7b, fxv_7c, E_cmp_0]
    refine And.intro (by omega) ?_
    refine call0 (H_cmp_0 xv_7 target_0 v_6 ev_6) (by rfl) (by simp [idFreeL, idFree, F_cmp_0]) ?_
    simp only [go_sem]
    refine seqQ_normal hQ12 ?_
    refine vc_cond_of (b := (decide (v_6 < 0))) (by (simp only [go_sem]; done)) (fun hb_12 => ?_) (fun hb_12 => ?_)
    ·
     replace h := if_t h hb_12
     simp only [bool_to_prop] at hb_12
     simp only [go_sem]
     refine blockQ_normal hQ10 ?_
     refine thenQ_normal hQ7 ?_
     refine ⟨(m_2, IntKind.i64.wrap ((IntKind.i64.wrap (shrI .u64 (IntKind.u64.wrap (IntKind.i64.wrap (i_4 + j_3))) 1)) + 1), j_3), [some 0], ?_, h, Nat.lt_succ_self _⟩
     simp only [go_sem, Le, AvLeL_free _ F_cmp_0]
    ·
     replace h := if_f h hb_12
     simp only [bool_to_prop] at hb_12
     simp only [go_sem]
     refine blockQ_normal hQ10 ?_
     refine thenQ_normal hQ7 ?_
     refine ⟨(m_2, i_4, IntKind.i64.wrap (shrI .u64 (IntKind.u64.wrap (IntKind.i64.wrap (i_4 + j_3))) 1)), [some 0], ?_, h, Nat.lt_succ_self _⟩
     simp only [go_sem, Le, AvLeL_free _ F_cmp_0]
   ·
    replace h := if_f h hb_11
    simp only [bool_to_prop] at hb_11
    refine vc_exit_of ?_
    refine seqQ_exit hQ8 ?_
    refine thenQ_exit hQ7 ?_
    refine blockQ_exit hQ6 ?_
    refine thenQ_normal hQ5 ?_
    refine ⟨i_4, [some 0], ?_, h⟩
    simp only [go_sem, Le, AvLeL_free _ F_cmp_0]
 ·
  rintro i_2 h
  try dsimp only at h
  rw [f_slices_BinarySearchFunc_Time_J1] at h
  refine sg fun QQ4 hQ4 => ?_
  refine vc_draw ?_
  refine drawM_tail 15 [0, 0, 0, 6, 14, 30, 30, 30, 222, 478, 30, 2046, 4094, 8190, 4095, 32767] mixed (by kernel_rfl) (of_decide_eq_true (by kernel_rfl)) (by kernel_rfl) ?_
  simp only [go_sem]
  rcases hb_6 : (decide (i_2 < (List.length xv_0 : Int))) with _ | _
  ·
   replace h := if_f h hb_6
   simp only [go_sem, hb_6]
   refine seqQ_normal hQ4 ?_
   refine vc_ret_of ?_
   simp only [go_sem]
   obtain rfl := Option.some.inj h
   refine retW_pure rfl ?_
   simp only [go_sem, Le, AvLeL_free _ F_cmp_0]
  ·
   replace h := if_t h hb_6
   obtain ⟨xv_4, exv_4, h⟩ := bindO_some h
   obtain ⟨fxv_4a, fxv_4b, fxv_4c⟩ := idx_spec exv_4
   obtain ⟨v_3, ev_3, h⟩ := bindO_some h
   simp only [go_sem, hb_6, fxv_4a, fxv_4b, fxv_4c, E_cmp_0]
   refine And.intro (by omega) ?_
   refine And.intro (by omega) ?_
   refine callq (fun _ => (H_cmp_0 xv_4 target_0 v_3 ev_3)) (by rfl) (by simp [idFreeL, idFree, F_cmp_0]) ?_
   simp only [go_sem]
   refine seqQ_normal hQ4 ?_
   refine vc_ret_of ?_
   simp only [go_sem]
   obtain rfl := Option.some.inj h
   refine retW_pure rfl ?_
   simp only [go_sem, Le, AvLeL_free _ F_cmp_0]

def f_cell_find_1 (s_0 : GSlot) (t_0 : GTime) : Option Int :=
 (if ((s_0.Time.D == t_0.D) && ((s_0.Time.C.a0 == t_0.C.a0) && ((s_0.Time.C.a1 == t_0.C.a1) && ((s_0.Time.C.a2 == t_0.C.a2) && (s_0.Time.C.a3 == t_0.C.a3))))) = true then some 0
 else bindO (f_ts_Less s_0.Time t_0) (fun (v_0 : Bool) =>
 (if v_0 = true then some (-1)
 else some 1)))
theorem f_cell_find_1_ok (s_0 : GSlot) (t_0 : GTime)  (r : Int) (h : f_cell_find_1 s_0 t_0 = some r) : PureS Try.prog 166 [.agg [.v (.int .i64 s_0.Time.D), .v (.int .i64 s_0.Time.C.a0), .v (.int .i64 s_0.Time.C.a1), .v (.int .i64 s_0.Time.C.a2), .v (.int .i64 s_0.Time.C.a3), .sl 3 (enc s_0.In.a0), .sl 3 (enc s_0.In.a1), .sl 3 (enc s_0.Sent), .v (.bool s_0.Dirty), .v (.bool s_0.Fired)], .agg [.v (.int .i64 t_0.D), .v (.int .i64 t_0.C.a0), .v (.int .i64 t_0.C.a1), .v (.int .i64 t_0.C.a2), .v (.int .i64 t_0.C.a3)]] 0 (.v (.int .i64 r)) := by
 unfold PureS
 refine Spec.of_vc Try.func166 rfl (by kernel_rfl) (by kernel_rfl) ?_
 rw [f_cell_find_1] at h
 refine sg fun QQ1 hQ1 => ?_
 simp only [go_sem]
 refine seqQ_normal hQ1 ?_
 refine sg fun QQ2 hQ2 => ?_
 refine vc_block_gen ?_
 intro QQ3 hQ3
 refine sg fun QQ4 hQ4 => ?_
 simp only [go_sem]
 refine seqQ_normal hQ4 ?_
 refine vc_cond_of (b := ((s_0.Time.D == t_0.D) && ((s_0.Time.C.a0 == t_0.C.a0) && ((s_0.Time.C.a1 == t_0.C.a1) && ((s_0.Time.C.a2 == t_0.C.a2) && (s_0.Time.C.a3 == t_0.C.a3)))))) (by (simp only [go_sem]; done)) (fun hb_0 => ?_) (fun hb_0 => ?_)
 ·
  replace h := if_t h hb_0
  simp only [bool_to_prop] at hb_0
  refine sg fun QQ5 hQ5 => ?_
  simp only [go_sem]
  refine seqQ_normal hQ5 ?_
  refine vc_ret_of ?_
  refine blockQ_ret hQ3 ?_
  refine seqQ_ret hQ2 ?_
  simp only [go_sem]
  obtain rfl := Option.some.inj h
  refine retW_pure rfl ?_
  simp only [go_sem, Le]
 ·
  replace h := if_f h hb_0
  simp only [bool_to_prop] at hb_0
  refine sg fun QQ6 hQ6 => ?_
  obtain ⟨v_0, ev_0, h⟩ := bindO_some h
  simp only [go_sem]
  refine call0 (f_ts_Less_ok s_0.Time t_0 v_0 ev_0) (by rfl) (by rfl) ?_
  simp only [go_sem]
  refine seqQ_normal hQ6 ?_
  refine vc_cond_of (b := v_0) (by (simp only [go_sem]; done)) (fun hb_1 => ?_) (fun hb_1 => ?_)
  ·
   replace h := if_t h hb_1
   refine sg fun QQ7 hQ7 => ?_
   simp only [go_sem]
   refine seqQ_normal hQ7 ?_
   refine vc_ret_of ?_
   refine blockQ_ret hQ3 ?_
   refine seqQ_ret hQ2 ?_
   simp only [go_sem]
   obtain rfl := Option.some.inj h
   refine retW_pure rfl ?_
   simp only [go_sem, Le]
  ·
   replace h := if_f h hb_1
   refine vc_skip_of ?_
   refine blockQ_normal hQ3 ?_
   refine seqQ_normal hQ2 ?_
   refine sg fun QQ8 hQ8 => ?_
   simp only [go_sem]
   refine seqQ_normal hQ8 ?_
   refine vc_ret_of ?_
   simp only [go_sem]
   obtain rfl := Option.some.inj h
   refine retW_pure rfl ?_
   simp only [go_sem, Le]

def f_cell_find (c_0 : List GSlot) (t_0 : GTime) : Option (Int × Bool) :=
 bindO (f_slices_BinarySearchFunc_Time c_0 t_0 (fun x0_ x1_ => f_cell_find_1 x0_ x1_)) (fun (v_0 : Int × Bool) =>
 some (v_0.1, v_0.2))
theorem f_cell_find_ok (c_0 : List GSlot) (t_0 : GTime)  (r : Int × Bool) (h : f_cell_find c_0 t_0 = some r) : PureS Try.prog 92 [.sl 10 (enc c_0), .agg [.v (.int .i64 t_0.D), .v (.int .i64 t_0.C.a0), .v (.int .i64 t_0.C.a1), .v (.int .i64 t_0.C.a2), .v (.int .i64 t_0.C.a3)]] 0 (.tup [.v (.int .i64 r.1), .v (.bool r.2)]) := by
 unfold PureS
 refine Spec.of_vc Try.func92 rfl (by kernel_rfl) (by kernel_rfl) ?_
 rw [f_cell_find] at h
 refine sg fun QQ1 hQ1 => ?_
 simp only [go_sem]
 refine seqQ_normal hQ1 ?_
 refine sg fun QQ2 hQ2 => ?_
 obtain ⟨v_0, ev_0, h⟩ := bindO_some h
 simp only [go_sem]
 refine call0 (f_slices_BinarySearchFunc_Time_ok c_0 t_0 (fun x0_ x1_ => f_cell_find_1 x0_ x1_) 166 [] (by rfl) (by kernel_rfl) (fun y0 y1 r_ e_ => f_cell_find_1_ok y0 y1 r_ e_) v_0 ev_0) (by rfl) (by rfl) ?_
 simp only [go_sem]
 refine seqQ_normal hQ2 ?_
 refine vc_ret_of ?_
 simp only [go_sem]
 obtain rfl := Option.some.inj h
 refine retW_pure rfl ?_
 simp only [go_sem, Le]

def f_slices_Insert_Slot_s0_0_s2_0 (x_0 : List GSlot) (i_0 : Int) (v_0 : List GSlot) : Option (List GSlot) := insertF 120 x_0 i_0 v_0
theorem f_slices_Insert_Slot_s0_0_s2_0_lay : InsLay Try.prog (insRen 93 167 168 0 3 4 82 69) 10 120 (.agg #[.int .i64 0, .int .i64 0, .int .i64 0, .int .i64 0, .int .i64 0, .slice none 0 0, .slice none 0 0, .slice none 0 0, .bool false, .bool false] : Value) := { mixed := by kernel_rfl, t0 := Try.underlying0, a0 := Try.isAgg0, z0 := Try.sizeOf0, v0 := Try.zeroValue0, t3 := Try.underlying3, a3 := Try.isAgg3, z3 := Try.sizeOf3, v3 := Try.zeroValue3, t4 := Try.underlying4, a4 := Try.isAgg4, z4 := Try.sizeOf4, v4 := Try.zeroValue4, t24 := Try.underlying69, a24 := Try.isAgg69, z24 := Try.sizeOf69, v24 := Try.zeroValue69, z9 := Try.sizeOf82, i9 := info_ex (by kernel_rfl), f22 := ⟨"slices.Insert[[]backwash/api.Slot,backwash/api.Slot]", by decide, by kernel_rfl⟩, ov := ⟨_, Try.func167, by kernel_rfl, by kernel_rfl, by kernel_rfl, by kernel_rfl⟩ }
theorem f_slices_Insert_Slot_s0_0_s2_0_det (x_0 : List GSlot) (i_0 : Int) (v_0 : List GSlot) (r : List GSlot) (h : f_slices_Insert_Slot_s0_0_s2_0 x_0 i_0 v_0 = some r) : DetS Try.prog 93 [.osl 0 10 0 (List.length x_0), .v (.int .i64 i_0), .osl 1 10 0 (List.length v_0)] [(0, .arr 10 (enc x_0)), (1, .arr 10 (enc v_0))] 2 (.osl 2 10 0 (List.length r)) [(2, .arr 10 (enc r))] 3 :=
 insert_det f_slices_Insert_Slot_s0_0_s2_0_lay (by kernel_rfl) (by kernel_rfl) (by decide) (by rfl) (by decide) rfl (fun _ => rfl) h

def f_cell_mark_s0_0_B1 (c_0 : List GSlot) (kind_0 : Int) (atv_0 : Int) (rec_1 : Bool × Int × (List GSlot) → Option (Bool × (List GSlot))) : Bool × Int × (List GSlot) → Option (Bool × (List GSlot)) :=
 fun (straggler_1, t11_1, a_1) =>
 (if (decide (t11_1 < (List.length c_0 : Int))) = true then (if (t11_1 == atv_0) = true then (if straggler_1 = true then bindO (idx a_1 t11_1) (fun (xv_10 : GSlot) =>
 rec_1 (true, IntKind.i64.wrap (t11_1 + 1), (List.set a_1 (Int.toNat t11_1) (⟨xv_10.Time, xv_10.In, xv_10.Sent, true, xv_10.Fired⟩ : GSlot))))
 else bindO (idx a_1 t11_1) (fun (xv_9 : GSlot) =>
 (if xv_9.Fired = true then rec_1 ((!xv_9.Dirty), IntKind.i64.wrap (t11_1 + 1), (List.set a_1 (Int.toNat t11_1) (⟨xv_9.Time, xv_9.In, xv_9.Sent, true, xv_9.Fired⟩ : GSlot)))
 else rec_1 (false, IntKind.i64.wrap (t11_1 + 1), (List.set a_1 (Int.toNat t11_1) (⟨xv_9.Time, xv_9.In, xv_9.Sent, true, xv_9.Fired⟩ : GSlot))))))
 else (if (kind_0 == 14) = true then bindO (idx a_1 atv_0) (fun (xv_7 : GSlot) =>
 bindO (idx a_1 t11_1) (fun (xv_8 : GSlot) =>
 bindO (f_ts_Le xv_7.Time xv_8.Time) (fun (v_2 : Bool) =>
 (if (!v_2) = true then rec_1 (straggler_1, IntKind.i64.wrap (t11_1 + 1), a_1)
 else (if straggler_1 = true then rec_1 (true, IntKind.i64.wrap (t11_1 + 1), (List.set a_1 (Int.toNat t11_1) (⟨xv_8.Time, xv_8.In, xv_8.Sent, true, xv_8.Fired⟩ : GSlot)))
 else (if xv_8.Fired = true then rec_1 ((!xv_8.Dirty), IntKind.i64.wrap (t11_1 + 1), (List.set a_1 (Int.toNat t11_1) (⟨xv_8.Time, xv_8.In, xv_8.Sent, true, xv_8.Fired⟩ : GSlot)))
 else rec_1 (false, IntKind.i64.wrap (t11_1 + 1), (List.set a_1 (Int.toNat t11_1) (⟨xv_8.Time, xv_8.In, xv_8.Sent, true, xv_8.Fired⟩ : GSlot)))))))))
 else rec_1 (straggler_1, IntKind.i64.wrap (t11_1 + 1), a_1)))
 else some (straggler_1, a_1))
def f_cell_mark_s0_0 (c_0 : List GSlot) (kind_0 : Int) (atv_0 : Int) : Option (Bool × (List GSlot)) :=
 loopK (f_cell_mark_s0_0_B1 c_0 kind_0 atv_0) rounds (false, 0, c_0)
theorem f_cell_mark_s0_0_det (c_0 : List GSlot) (kind_0 : Int) (atv_0 : Int)  (r : Bool × (List GSlot)) (h : f_cell_mark_s0_0 c_0 kind_0 atv_0 = some r) : DetS Try.prog 95 [.osl 0 10 (0) (List.length c_0), .v (.int .i64 kind_0), .v (.int .i64 atv_0)] [(0, .arr 10 (enc c_0))] 1 (.v (.bool r.1)) [(0, .arr 10 (enc r.2))] 1 := by
 unfold DetS
 refine Spec.of_vc Try.func95 rfl (by kernel_rfl) (by kernel_rfl) ?_
 rw [f_cell_mark_s0_0] at h
 refine sg fun QQ1 hQ1 => ?_
 simp only [go_sem]
 refine seqQ_normal hQ1 ?_
 refine sg fun QQ2 hQ2 => ?_
 simp only [go_sem]
 refine seqQ_normal hQ2 ?_
 refine vc_join (by kernel_rfl) ?_
 refine seq_go_gen ?_
 intro QQ3 hQ3
 refine sg fun QQ4 hQ4 => ?_
 simp only [go_sem]
 refine seqQ_normal hQ4 ?_
 refine vc_block_gen ?_
 intro QQ5 hQ5
 refine vc_loop_of ?_
 refine loop_gen (ι := Nat × Bool × Int × (List GSlot)) (fun ((_, straggler_1, t11_1, a_1) : Nat × Bool × Int × (List GSlot)) => (⟨1, [(0, .osl 0 10 (0) (List.length a_1)), (1, .v (.int .i64 kind_0)), (2, .v (.int .i64 atv_0)), (7, .v (.bool straggler_1)), (10, .v (.int .i64 (List.length c_0 : Int))), (11, .v (.int .i64 t11_1))], [(0, .arr 10 (enc a_1))], 1, 57⟩ : St)) (fun ((n_, straggler_1, t11_1, a_1) : Nat × Bool × Int × (List GSlot)) => loopK (f_cell_mark_s0_0_B1 c_0 kind_0 atv_0) n_ (straggler_1, t11_1, a_1) = some r) (fun p => p.1) (rounds, false, 0, c_0) [] ?_ h ?_
 · simp only [go_sem, Le]
 ·
  rintro ⟨n_1, straggler_1, t11_1, a_1⟩ h QQ6 hQ6
  dsimp only at h
  replace h := loopK_some h
  obtain ⟨m_1, rfl, h⟩ := h
  rw [f_cell_mark_s0_0_B1] at h
  refine sg fun QQ7 hQ7 => ?_
  simp only [go_sem]
  refine seqQ_normal hQ7 ?_
  refine sg fun QQ8 hQ8 => ?_
  refine vc_cond_of (b := (decide (t11_1 < (List.length c_0 : Int)))) (by (simp only [go_sem]; done)) (fun hb_14 => ?_) (fun hb_14 => ?_)
  ·
   replace h := if_t h hb_14
   simp only [bool_to_prop] at hb_14
   refine vc_skip_of ?_
   refine seqQ_normal hQ8 ?_
   refine sg fun QQ9 hQ9 => ?_
   refine vc_block_gen ?_
   intro QQ10 hQ10
   refine sg fun QQ11 hQ11 => ?_
   simp only [go_sem]
   refine seqQ_normal hQ11 ?_
   refine sg fun QQ12 hQ12 => ?_
   refine sg fun QQ13 hQ13 => ?_
   refine vc_draw ?_
   refine drawM_tail 17 [0, 0, 3, 7, 15, 31, 63, 127, 127, 511, 1023, 2047, 127, 127, 12415, 28799, 61567, 131071, 262143, 524287, 1048575] mixed (by kernel_rfl) (of_decide_eq_true (by kernel_rfl)) (by kernel_rfl) ?_
   simp only [go_sem]
   rcases hb_15 : (t11_1 == atv_0) with _ | _
   ·
    replace h := if_f h hb_15
    simp only [go_sem, hb_15]
    rcases hb_16 : (kind_0 == 14) with _ | _
    ·
     replace h := if_f h hb_16
     simp only [go_sem, hb_16]
     refine seqQ_normal hQ13 ?_
     refine vc_cond_t (by (simp only [go_sem]; done)) ?_
     refine vc_exit_of ?_
     refine seqQ_exit hQ12 ?_
     refine blockQ_exit hQ10 ?_
     refine seqQ_normal hQ9 ?_
     simp only [go_sem]
     refine thenQ_normal hQ6 ?_
     refine ⟨(m_1, straggler_1, IntKind.i64.wrap (t11_1 + 1), a_1), [], ?_, h, Nat.lt_succ_self _⟩
     simp only [go_sem, Le]
    ·
     replace h := if_t h hb_16
     obtain ⟨xv_7, exv_7, h⟩ := bindO_some h
     obtain ⟨fxv_7a, fxv_7b, fxv_7c⟩ := idx_spec exv_7
     obtain ⟨xv_8, exv_8, h⟩ := bindO_some h
     obtain ⟨fxv_8a, fxv_8b, fxv_8c⟩ := idx_spec exv_8
     obtain ⟨v_2, ev_2, h⟩ := bindO_some h
     simp only [go_sem, hb_16, fxv_7a, fxv_7b, fxv_7c, fxv_8a, fxv_8b, fxv_8c]
     refine And.intro (by omega) ?_
     refine And.intro (by omega) ?_
     refine call0 (f_ts_Le_ok xv_7.Time xv_8.Time v_2 ev_2) (by rfl) (by rfl) ?_
     simp only [go_sem]
     refine seqQ_normal hQ13 ?_
     refine vc_cond_of (b := (!v_2)) (by (simp only [go_sem]; done)) (fun hb_17 => ?_) (fun hb_17 => ?_)
     ·
      replace h := if_t h hb_17
      simp only [bool_to_prop] at hb_17
      refine vc_exit_of ?_
      refine seqQ_exit hQ12 ?_
      refine blockQ_exit hQ10 ?_
      refine seqQ_normal hQ9 ?_
      simp only [go_sem]
      refine thenQ_normal hQ6 ?_
      refine ⟨(m_1, straggler_1, IntKind.i64.wrap (t11_1 + 1), a_1), [], ?_, h, Nat.lt_succ_self _⟩
      simp only [go_sem, Le]
     ·
      replace h := if_f h hb_17
      simp only [bool_to_prop] at hb_17
      refine vc_skip_of ?_
      refine seqQ_normal hQ12 ?_
      refine sg fun QQ14 hQ14 => ?_
      simp only [go_sem]
      rcases hb_18 : straggler_1 with _ | _
      ·
       replace h := if_f h hb_18
       simp only [go_sem, hb_18, fxv_8a, fxv_8b, fxv_8c]
       refine And.intro (by omega) ?_
       rcases hb_19 : xv_8.Fired with _ | _
       ·
        replace h := if_f h hb_19
        simp only [go_sem, hb_19]
        refine seqQ_normal hQ14 ?_
        have rf_10 : (enc a_1).set (Int.toNat t11_1) [.v (.int .i64 xv_8.Time.D), .v (.int .i64 xv_8.Time.C.a0), .v (.int .i64 xv_8.Time.C.a1), .v (.int .i64 xv_8.Time.C.a2), .v (.int .i64 xv_8.Time.C.a3), .sl 3 (enc xv_8.In.a0), .sl 3 (enc xv_8.In.a1), .sl 3 (enc xv_8.Sent), .v (.bool true), .v (.bool xv_8.Fired)] = enc (List.set a_1 (Int.toNat t11_1) (⟨xv_8.Time, xv_8.In, xv_8.Sent, true, xv_8.Fired⟩ : GSlot)) := by exact enc_set a_1 (Int.toNat t11_1) (⟨xv_8.Time, xv_8.In, xv_8.Sent, true, xv_8.Fired⟩ : GSlot)
        simp only [go_sem, fxv_8a, fxv_8b, fxv_8c, rf_10]
        refine And.intro (by omega) ?_
        refine blockQ_normal hQ10 ?_
        refine seqQ_normal hQ9 ?_
        simp only [go_sem]
        refine thenQ_normal hQ6 ?_
        refine ⟨(m_1, false, IntKind.i64.wrap (t11_1 + 1), (List.set a_1 (Int.toNat t11_1) (⟨xv_8.Time, xv_8.In, xv_8.Sent, true, xv_8.Fired⟩ : GSlot))), [], ?_, h, Nat.lt_succ_self _⟩
        simp only [go_sem, Le]
       ·
        replace h := if_t h hb_19
        simp only [go_sem, hb_19, fxv_8a, fxv_8b, fxv_8c]
        refine And.intro (by omega) ?_
        refine seqQ_normal hQ14 ?_
        have rf_11 : (enc a_1).set (Int.toNat t11_1) [.v (.int .i64 xv_8.Time.D), .v (.int .i64 xv_8.Time.C.a0), .v (.int .i64 xv_8.Time.C.a1), .v (.int .i64 xv_8.Time.C.a2), .v (.int .i64 xv_8.Time.C.a3), .sl 3 (enc xv_8.In.a0), .sl 3 (enc xv_8.In.a1), .sl 3 (enc xv_8.Sent), .v (.bool true), .v (.bool xv_8.Fired)] = enc (List.set a_1 (Int.toNat t11_1) (⟨xv_8.Time, xv_8.In, xv_8.Sent, true, xv_8.Fired⟩ : GSlot)) := by exact enc_set a_1 (Int.toNat t11_1) (⟨xv_8.Time, xv_8.In, xv_8.Sent, true, xv_8.Fired⟩ : GSlot)
        simp only [go_sem, fxv_8a, fxv_8b, fxv_8c, rf_11]
        refine And.intro (by omega) ?_
        refine blockQ_normal hQ10 ?_
        refine seqQ_normal hQ9 ?_
        simp only [go_sem]
        refine thenQ_normal hQ6 ?_
        refine ⟨(m_1, (!xv_8.Dirty), IntKind.i64.wrap (t11_1 + 1), (List.set a_1 (Int.toNat t11_1) (⟨xv_8.Time, xv_8.In, xv_8.Sent, true, xv_8.Fired⟩ : GSlot))), [], ?_, h, Nat.lt_succ_self _⟩
        simp only [go_sem, Le]
      ·
       replace h := if_t h hb_18
       simp only [go_sem, hb_18]
       refine seqQ_normal hQ14 ?_
       have rf_12 : (enc a_1).set (Int.toNat t11_1) [.v (.int .i64 xv_8.Time.D), .v (.int .i64 xv_8.Time.C.a0), .v (.int .i64 xv_8.Time.C.a1), .v (.int .i64 xv_8.Time.C.a2), .v (.int .i64 xv_8.Time.C.a3), .sl 3 (enc xv_8.In.a0), .sl 3 (enc xv_8.In.a1), .sl 3 (enc xv_8.Sent), .v (.bool true), .v (.bool xv_8.Fired)] = enc (List.set a_1 (Int.toNat t11_1) (⟨xv_8.Time, xv_8.In, xv_8.Sent, true, xv_8.Fired⟩ : GSlot)) := by exact enc_set a_1 (Int.toNat t11_1) (⟨xv_8.Time, xv_8.In, xv_8.Sent, true, xv_8.Fired⟩ : GSlot)
       simp only [go_sem, fxv_8a, fxv_8b, fxv_8c, rf_12]
       refine And.intro (by omega) ?_
       refine blockQ_normal hQ10 ?_
       refine seqQ_normal hQ9 ?_
       simp only [go_sem]
       refine thenQ_normal hQ6 ?_
       refine ⟨(m_1, true, IntKind.i64.wrap (t11_1 + 1), (List.set a_1 (Int.toNat t11_1) (⟨xv_8.Time, xv_8.In, xv_8.Sent, true, xv_8.Fired⟩ : GSlot))), [], ?_, h, Nat.lt_succ_self _⟩
       simp only [go_sem, Le]
   ·
    replace h := if_t h hb_15
    simp only [go_sem, hb_15]
    refine seqQ_normal hQ13 ?_
    refine vc_cond_f (by (simp only [go_sem]; done)) ?_
    refine vc_skip_of ?_
    refine seqQ_normal hQ12 ?_
    refine sg fun QQ15 hQ15 => ?_
    simp only [go_sem]
    rcases hb_20 : straggler_1 with _ | _
    ·
     replace h := if_f h hb_20
     obtain ⟨xv_9, exv_9, h⟩ := bindO_some h
     obtain ⟨fxv_9a, fxv_9b, fxv_9c⟩ := idx_spec exv_9
     simp only [go_sem, hb_20, fxv_9a, fxv_9b, fxv_9c]
     refine And.intro (by omega) ?_
     rcases hb_21 : xv_9.Fired with _ | _
     ·
      replace h := if_f h hb_21
      simp only [go_sem, hb_21]
      refine seqQ_normal hQ15 ?_
      have rf_13 : (enc a_1).set (Int.toNat t11_1) [.v (.int .i64 xv_9.Time.D), .v (.int .i64 xv_9.Time.C.a0), .v (.int .i64 xv_9.Time.C.a1), .v (.int .i64 xv_9.Time.C.a2), .v (.int .i64 xv_9.Time.C.a3), .sl 3 (enc xv_9.In.a0), .sl 3 (enc xv_9.In.a1), .sl 3 (enc xv_9.Sent), .v (.bool true), .v (.bool xv_9.Fired)] = enc (List.set a_1 (Int.toNat t11_1) (⟨xv_9.Time, xv_9.In, xv_9.Sent, true, xv_9.Fired⟩ : GSlot)) := by exact enc_set a_1 (Int.toNat t11_1) (⟨xv_9.Time, xv_9.In, xv_9.Sent, true, xv_9.Fired⟩ : GSlot)
      simp only [go_sem, fxv_9a, fxv_9b, fxv_9c, rf_13]
      refine And.intro (by omega) ?_
      refine blockQ_normal hQ10 ?_
      refine seqQ_normal hQ9 ?_
      simp only [go_sem]
      refine thenQ_normal hQ6 ?_
      refine ⟨(m_1, false, IntKind.i64.wrap (t11_1 + 1), (List.set a_1 (Int.toNat t11_1) (⟨xv_9.Time, xv_9.In, xv_9.Sent, true, xv_9.Fired⟩ : GSlot))), [], ?_, h, Nat.lt_succ_self _⟩
      simp only [go_sem, Le]
     ·
      replace h := if_t h hb_21
      simp only [go_sem, hb_21, fxv_9a, fxv_9b, fxv_9c]
      refine And.intro (by omega) ?_
      refine seqQ_normal hQ15 ?_
      have rf_14 : (enc a_1).set (Int.toNat t11_1) [.v (.int .i64 xv_9.Time.D), .v (.int .i64 xv_9.Time.C.a0), .v (.int .i64 xv_9.Time.C.a1), .v (.int .i64 xv_9.Time.C.a2), .v (.int .i64 xv_9.Time.C.a3), .sl 3 (enc xv_9.In.a0), .sl 3 (enc xv_9.In.a1), .sl 3 (enc xv_9.Sent), .v (.bool true), .v (.bool xv_9.Fired)] = enc (List.set a_1 (Int.toNat t11_1) (⟨xv_9.Time, xv_9.In, xv_9.Sent, true, xv_9.Fired⟩ : GSlot)) := by exact enc_set a_1 (Int.toNat t11_1) (⟨xv_9.Time, xv_9.In, xv_9.Sent, true, xv_9.Fired⟩ : GSlot)
      simp only [go_sem, fxv_9a, fxv_9b, fxv_9c, rf_14]
      refine And.intro (by omega) ?_
      refine blockQ_normal hQ10 ?_
      refine seqQ_normal hQ9 ?_
      simp only [go_sem]
      refine thenQ_normal hQ6 ?_
      refine ⟨(m_1, (!xv_9.Dirty), IntKind.i64.wrap (t11_1 + 1), (List.set a_1 (Int.toNat t11_1) (⟨xv_9.Time, xv_9.In, xv_9.Sent, true, xv_9.Fired⟩ : GSlot))), [], ?_, h, Nat.lt_succ_self _⟩
      simp only [go_sem, Le]
    ·
     replace h := if_t h hb_20
     simp only [go_sem, hb_20]
     refine seqQ_normal hQ15 ?_
     obtain ⟨xv_10, exv_10, h⟩ := bindO_some h
     obtain ⟨fxv_10a, fxv_10b, fxv_10c⟩ := idx_spec exv_10
     have rf_15 : (enc a_1).set (Int.toNat t11_1) [.v (.int .i64 xv_10.Time.D), .v (.int .i64 xv_10.Time.C.a0), .v (.int .i64 xv_10.Time.C.a1), .v (.int .i64 xv_10.Time.C.a2), .v (.int .i64 xv_10.Time.C.a3), .sl 3 (enc xv_10.In.a0), .sl 3 (enc xv_10.In.a1), .sl 3 (enc xv_10.Sent), .v (.bool true), .v (.bool xv_10.Fired)] = enc (List.set a_1 (Int.toNat t11_1) (⟨xv_10.Time, xv_10.In, xv_10.Sent, true, xv_10.Fired⟩ : GSlot)) := by exact enc_set a_1 (Int.toNat t11_1) (⟨xv_10.Time, xv_10.In, xv_10.Sent, true, xv_10.Fired⟩ : GSlot)
     simp only [go_sem, fxv_10a, fxv_10b, fxv_10c, rf_15]
     refine And.intro (by omega) ?_
     refine blockQ_normal hQ10 ?_
     refine seqQ_normal hQ9 ?_
     simp only [go_sem]
     refine thenQ_normal hQ6 ?_
     refine ⟨(m_1, true, IntKind.i64.wrap (t11_1 + 1), (List.set a_1 (Int.toNat t11_1) (⟨xv_10.Time, xv_10.In, xv_10.Sent, true, xv_10.Fired⟩ : GSlot))), [], ?_, h, Nat.lt_succ_self _⟩
     simp only [go_sem, Le]
  ·
   replace h := if_f h hb_14
   simp only [bool_to_prop] at hb_14
   refine vc_exit_of ?_
   refine seqQ_exit hQ8 ?_
   refine thenQ_exit hQ6 ?_
   refine blockQ_exit hQ5 ?_
   refine seqQ_normal hQ3 ?_
   refine sg fun QQ16 hQ16 => ?_
   simp only [go_sem]
   refine seqQ_normal hQ16 ?_
   refine vc_ret_of ?_
   simp only [go_sem]
   obtain rfl := Option.some.inj h
   refine retW_det [] ?_
   simp only [go_sem, Le]

def f_slices_Delete_Slot_s0_0 (x_0 : List GSlot) (i_0 : Int) (j_0 : Int) : Option (List GSlot) := deleteF x_0 i_0 j_0
theorem f_slices_Delete_Slot_s0_0_lay : DelLay Try.prog (insRen 169 0 0 0 3 4 82 69) 10 (.agg #[.int .i64 0, .int .i64 0, .int .i64 0, .int .i64 0, .int .i64 0, .slice none 0 0, .slice none 0 0, .slice none 0 0, .bool false, .bool false] : Value) := { mixed := by kernel_rfl, t0 := Try.underlying0, a0 := Try.isAgg0, z0 := Try.sizeOf0, v0 := Try.zeroValue0, t3 := Try.underlying3, a3 := Try.isAgg3, z3 := Try.sizeOf3, v3 := Try.zeroValue3, t4 := Try.underlying4, a4 := Try.isAgg4, z4 := Try.sizeOf4, v4 := Try.zeroValue4, t24 := Try.underlying69, a24 := Try.isAgg69, z24 := Try.sizeOf69, v24 := Try.zeroValue69, z9 := Try.sizeOf82, v9 := Try.zeroValue82, i9 := info_ex3 (b := 120) (by kernel_rfl), f24 := ⟨"slices.Delete[[]backwash/api.Slot,backwash/api.Slot]", by decide, by kernel_rfl⟩ }
theorem f_slices_Delete_Slot_s0_0_det (x_0 : List GSlot) (i_0 : Int) (j_0 : Int) (r : List GSlot) (h : f_slices_Delete_Slot_s0_0 x_0 i_0 j_0 = some r) : DetS Try.prog 169 [.osl 0 10 0 (List.length x_0), .v (.int .i64 i_0), .v (.int .i64 j_0)] [(0, .arr 10 (enc x_0))] 1 (.osl 1 10 0 (List.length r)) [(1, .arr 10 (enc r))] 2 :=
 delete_det f_slices_Delete_Slot_s0_0_lay (by kernel_rfl) (by decide) (by rfl) (by rfl) (fun _ => rfl) h

def f_cell_settled_s0_0 (c_0 : List GSlot) (atv_0 : Int) : Option (List GSlot) :=
 bindO (idx c_0 atv_0) (fun (xv_0 : GSlot) =>
 bindO (f_cell_empty xv_0) (fun (v_0 : Bool) =>
 (if v_0 = true then bindO (f_slices_Delete_Slot_s0_0 c_0 atv_0 (IntKind.i64.wrap (atv_0 + 1))) (fun (v_1 : List GSlot) =>
 some v_1)
 else some c_0)))
theorem f_cell_settled_s0_0_det (c_0 : List GSlot) (atv_0 : Int)  (r : List GSlot) (h : f_cell_settled_s0_0 c_0 atv_0 = some r) : DetS Try.prog 96 [.osl 0 10 (0) (List.length c_0), .v (.int .i64 atv_0)] [(0, .arr 10 (enc c_0))] 1 (.osl 1 10 (0) (List.length r)) [(1, .arr 10 (enc r))] 2 := by
 unfold DetS
 refine Spec.of_vc Try.func96 rfl (by kernel_rfl) (by kernel_rfl) ?_
 rw [f_cell_settled_s0_0] at h
 refine sg fun QQ1 hQ1 => ?_
 simp only [go_sem]
 refine seqQ_normal hQ1 ?_
 refine sg fun QQ2 hQ2 => ?_
 refine sg fun QQ3 hQ3 => ?_
 obtain ⟨xv_0, exv_0, h⟩ := bindO_some h
 obtain ⟨fxv_0a, fxv_0b, fxv_0c⟩ := idx_spec exv_0
 obtain ⟨v_0, ev_0, h⟩ := bindO_some h
 simp only [go_sem, fxv_0a, fxv_0b, fxv_0c]
 refine And.intro (by omega) ?_
 refine call0 (f_cell_empty_ok xv_0 v_0 ev_0) (by rfl) (by rfl) ?_
 simp only [go_sem]
 refine seqQ_normal hQ3 ?_
 refine vc_cond_of (b := v_0) (by (simp only [go_sem]; done)) (fun hb_0 => ?_) (fun hb_0 => ?_)
 ·
  replace h := if_t h hb_0
  refine sg fun QQ4 hQ4 => ?_
  obtain ⟨v_1, ev_1, h⟩ := bindO_some h
  simp only [go_sem]
  refine callD [0] (f_slices_Delete_Slot_s0_0_det c_0 atv_0 (IntKind.i64.wrap (atv_0 + 1)) v_1 ev_1) (by simp) rfl ⟨rfl, trivial⟩ rfl rfl rfl rfl ?_
  simp only [go_sem]
  refine seqQ_normal hQ4 ?_
  refine vc_ret_of ?_
  refine seqQ_ret hQ2 ?_
  simp only [go_sem]
  obtain rfl := Option.some.inj h
  refine retW_det [some 1] ?_
  simp only [go_sem, Le]
 ·
  replace h := if_f h hb_0
  refine vc_skip_of ?_
  refine seqQ_normal hQ2 ?_
  refine sg fun QQ5 hQ5 => ?_
  simp only [go_sem]
  refine seqQ_normal hQ5 ?_
  refine vc_ret_of ?_
  simp only [go_sem]
  obtain rfl := Option.some.inj h
  refine retW_det [some 0] ?_
  simp only [go_sem, Le]

def f_cell_Come_J1 (kind_0 : Int) (port_0 : Int) (rv_0 : GRec) (nv_0 : Int) (v_3 : Int × Bool) (a_0 : List GSlot) : Option ((List GSlot) × Bool × Bool) :=
 bindO (idx a_0 v_3.1) (fun (xv_0 : GSlot) =>
 guardO (0 ≤ port_0 ∧ port_0 < 2) (
 bindO (idx ([xv_0.In.a0, xv_0.In.a1] : List (List GItem)) port_0) (fun (xv_1 : List GItem) =>
 bindO (f_bag_Add xv_1 rv_0 nv_0) (fun (v_5 : List GItem) =>
 guardO (0 ≤ port_0 ∧ port_0 < 2) (
 bindO (some (if Int.toNat port_0 = 0 then v_5 else xv_0.In.a0)) (fun (w_0 : List GItem) =>
 bindO (some (if Int.toNat port_0 = 1 then v_5 else xv_0.In.a1)) (fun (w_1 : List GItem) =>
 bindO (f_cell_mark_s0_0 (List.set a_0 (Int.toNat v_3.1) (⟨xv_0.Time, (⟨w_0, w_1⟩ : Arr2 (List GItem)), xv_0.Sent, xv_0.Dirty, xv_0.Fired⟩ : GSlot)) kind_0 v_3.1) (fun (v_6 : Bool × (List GSlot)) =>
 guardO (List.length v_6.2 = List.length (List.set a_0 (Int.toNat v_3.1) (⟨xv_0.Time, (⟨w_0, w_1⟩ : Arr2 (List GItem)), xv_0.Sent, xv_0.Dirty, xv_0.Fired⟩ : GSlot))) (
 bindO (f_cell_settled_s0_0 v_6.2 v_3.1) (fun (v_7 : List GSlot) =>
 some (v_7, v_6.1, true)))))))))))
def f_cell_Come (c_0 : List GSlot) (kind_0 : Int) (port_0 : Int) (t_0 : GTime) (rv_0 : GRec) (nv_0 : Int) : Option ((List GSlot) × Bool × Bool) :=
 bindO (f_slices_Clone_Slot c_0) (fun (v_0 : List GSlot) =>
 bindO (f_cell_Right c_0) (fun (v_1 : Bool) =>
 (if (((!v_1) || (decide (port_0 < 0))) || (decide (1 < port_0))) = true then some (v_0, false, false)
 else bindO (f_ts_Right t_0) (fun (v_2 : Bool) =>
 (if ((((!v_2) || (nv_0 == 0)) || (decide (nv_0 < (-2147483648)))) || (decide (2147483648 < nv_0))) = true then some (v_0, false, false)
 else bindO (f_cell_find v_0 t_0) (fun (v_3 : Int × Bool) =>
 (if (!v_3.2) = true then bindO (f_slices_Insert_Slot_s0_0_s2_0 v_0 v_3.1 ([(⟨t_0, (⟨([] : List GItem), ([] : List GItem)⟩ : Arr2 (List GItem)), ([] : List GItem), false, false⟩ : GSlot)] : List GSlot)) (fun (v_8 : List GSlot) =>
 f_cell_Come_J1 kind_0 port_0 rv_0 nv_0 v_3 v_8)
 else f_cell_Come_J1 kind_0 port_0 rv_0 nv_0 v_3 v_0)))))))
theorem f_cell_Come_det (c_0 : List GSlot) (kind_0 : Int) (port_0 : Int) (t_0 : GTime) (rv_0 : GRec) (nv_0 : Int)  (r : (List GSlot) × Bool × Bool) (h : f_cell_Come c_0 kind_0 port_0 t_0 rv_0 nv_0 = some r) : DetS Try.prog 38 [.sl 10 (enc c_0), .v (.int .i64 kind_0), .v (.int .i64 port_0), .agg [.v (.int .i64 t_0.D), .v (.int .i64 t_0.C.a0), .v (.int .i64 t_0.C.a1), .v (.int .i64 t_0.C.a2), .v (.int .i64 t_0.C.a3)], .agg [.v (.int .i64 rv_0.K), .v (.int .i64 rv_0.V)], .v (.int .i64 nv_0)] [] 0 (.tup [.osl 0 10 (0) (List.length r.1), .v (.bool r.2.1), .v (.bool r.2.2)]) [(0, .arr 10 (enc r.1))] 1 := by
 unfold DetS
 refine Spec.of_vc Try.func38 rfl (by kernel_rfl) (by kernel_rfl) ?_
 rw [f_cell_Come] at h
 refine sg fun QQ1 hQ1 => ?_
 simp only [go_sem]
 refine seqQ_normal hQ1 ?_
 refine sg fun QQ2 hQ2 => ?_
 obtain ⟨v_0, ev_0, h⟩ := bindO_some h
 simp only [go_sem]
 refine callD [] (f_slices_Clone_Slot_det c_0 v_0 ev_0) (by simp) rfl trivial rfl rfl rfl rfl ?_
 simp only [go_sem]
 refine seqQ_normal hQ2 ?_
 refine sg fun QQ3 hQ3 => ?_
 refine sg fun QQ4 hQ4 => ?_
 obtain ⟨v_1, ev_1, h⟩ := bindO_some h
 simp only [go_sem]
 refine call0 (f_cell_Right_ok c_0 v_1 ev_1) (by rfl) (by rfl) ?_
 simp only [go_sem]
 rcases hb_0 : (((!v_1) || (decide (port_0 < 0))) || (decide (1 < port_0))) with _ | _
 ·
  replace h := if_f h hb_0
  obtain ⟨v_2, ev_2, h⟩ := bindO_some h
  simp only [go_sem, hb_0]
  refine call0 (f_ts_Right_ok t_0 v_2 ev_2) (by rfl) (by rfl) ?_
  simp only [go_sem]
  refine seqQ_normal hQ4 ?_
  refine vc_cond_of (b := ((((!v_2) || (nv_0 == 0)) || (decide (nv_0 < (-2147483648)))) || (decide (2147483648 < nv_0)))) (by (simp only [go_sem]; done)) (fun hb_1 => ?_) (fun hb_1 => ?_)
  ·
   replace h := if_t h hb_1
   simp only [bool_to_prop] at hb_1
   refine sg fun QQ5 hQ5 => ?_
   simp only [go_sem]
   refine seqQ_normal hQ5 ?_
   refine vc_ret_of ?_
   refine seqQ_ret hQ3 ?_
   simp only [go_sem]
   obtain rfl := Option.some.inj h
   refine retW_det [some 2] ?_
   simp only [go_sem, Le]
  ·
   replace h := if_f h hb_1
   simp only [bool_to_prop] at hb_1
   refine vc_skip_of ?_
   refine seqQ_normal hQ3 ?_
   refine sg fun QQ6 hQ6 => ?_
   obtain ⟨v_3, ev_3, h⟩ := bindO_some h
   simp only [go_sem]
   refine callB (s' := (⟨0, [(0, .sl 10 (enc c_0)), (1, .v (.int .i64 kind_0)), (2, .v (.int .i64 port_0)), (3, .agg [.v (.int .i64 t_0.D), .v (.int .i64 t_0.C.a0), .v (.int .i64 t_0.C.a1), .v (.int .i64 t_0.C.a2), .v (.int .i64 t_0.C.a3)]), (4, .agg [.v (.int .i64 rv_0.K), .v (.int .i64 rv_0.V)]), (5, .v (.int .i64 nv_0)), (9, .ptr 0 0), (10, .ptr 1 0), (12, .v (.slice none 0 0)), (13, .v (.bool false)), (14, .v (.bool false)), (15, .sl 10 (enc v_0)), (19, .sl 10 (enc c_0)), (20, .sl 10 (enc v_0)), (21, .sl 10 (enc c_0)), (22, .v (.bool v_1)), (23, .v (.bool (!v_1))), (24, .v (.bool (!v_1))), (27, .v (.bool ((!v_1) || (decide (port_0 < 0))))), (28, .v (.bool ((!v_1) || (decide (port_0 < 0))))), (31, .v (.bool false)), (32, .v (.bool false)), (33, .agg [.v (.int .i64 t_0.D), .v (.int .i64 t_0.C.a0), .v (.int .i64 t_0.C.a1), .v (.int .i64 t_0.C.a2), .v (.int .i64 t_0.C.a3)]), (34, .v (.bool v_2)), (35, .v (.bool (!v_2))), (36, .v (.bool (!v_2))), (37, .v (.bool (!v_2))), (40, .v (.bool ((!v_2) || (nv_0 == 0)))), (41, .v (.bool ((!v_2) || (nv_0 == 0)))), (44, .v (.bool (((!v_2) || (nv_0 == 0)) || (decide (nv_0 < (-2147483648)))))), (45, .v (.bool (((!v_2) || (nv_0 == 0)) || (decide (nv_0 < (-2147483648)))))), (48, .v (.bool ((((!v_2) || (nv_0 == 0)) || (decide (nv_0 < (-2147483648)))) || (decide (2147483648 < nv_0))))), (51, .sl 10 (enc v_0)), (52, .agg [.v (.int .i64 t_0.D), .v (.int .i64 t_0.C.a0), .v (.int .i64 t_0.C.a1), .v (.int .i64 t_0.C.a2), .v (.int .i64 t_0.C.a3)])], [(0, .box [.v (.int .i64 t_0.D), .v (.int .i64 t_0.C.a0), .v (.int .i64 t_0.C.a1), .v (.int .i64 t_0.C.a2), .v (.int .i64 t_0.C.a3)]), (1, .box [.v (.int .i64 rv_0.K), .v (.int .i64 rv_0.V)])], 2, 88⟩ : St)) (l := [some 0, some 1]) (args' := [.sl 10 (enc v_0), .agg [.v (.int .i64 t_0.D), .v (.int .i64 t_0.C.a0), .v (.int .i64 t_0.C.a1), .v (.int .i64 t_0.C.a2), .v (.int .i64 t_0.C.a3)]]) ?_ ?_ (f_cell_find_ok v_0 t_0 v_3 ev_3) (by rfl) (by rfl) ?_
   · simp only [go_sem, Le] <;> (repeat' apply And.intro) <;> first | ((try with_reducible refine TL_eq ?_); omega) | ((try with_reducible refine TL_eq ?_); (simp [go_sem]; done))
   · simp only [go_sem, Le] <;> (repeat' apply And.intro) <;> ((try with_reducible refine TL_eq ?_); (simp [go_sem]; done))
   simp only [go_sem]
   refine seqQ_normal hQ6 ?_
   refine vc_join (by kernel_rfl) ?_
   refine seq_cut_gen (ι := (List GSlot)) (fun (a_0 : (List GSlot)) => (⟨0, [(1, .v (.int .i64 kind_0)), (2, .v (.int .i64 port_0)), (5, .v (.int .i64 nv_0)), (10, .ptr 0 0), (15, .osl 1 10 (0) (List.length a_0)), (16, .v (.int .i64 v_3.1))], [(0, .box [.v (.int .i64 rv_0.K), .v (.int .i64 rv_0.V)]), (1, .arr 10 (enc a_0))], 2, 88⟩ : St)) (fun (a_0 : (List GSlot)) => f_cell_Come_J1 kind_0 port_0 rv_0 nv_0 v_3 a_0 = some r) ?_ ?_
   ·
    intro QQ10 hQ10
    refine sg fun QQ11 hQ11 => ?_
    simp only [go_sem]
    refine seqQ_normal hQ11 ?_
    refine vc_cond_of (b := (!v_3.2)) (by (simp only [go_sem]; done)) (fun hb_3 => ?_) (fun hb_3 => ?_)
    ·
     replace h := if_t h hb_3
     simp only [bool_to_prop] at hb_3
     have rf_2 : [[.v (.int .i64 t_0.D), .v (.int .i64 t_0.C.a0), .v (.int .i64 t_0.C.a1), .v (.int .i64 t_0.C.a2), .v (.int .i64 t_0.C.a3), .sl 3 (enc ([] : List GItem)), .sl 3 (enc ([] : List GItem)), .sl 3 (enc ([] : List GItem)), .v (.bool false), .v (.bool false)]] = enc ([(⟨t_0, (⟨([] : List GItem), ([] : List GItem)⟩ : Arr2 (List GItem)), ([] : List GItem), false, false⟩ : GSlot)] : List GSlot) := by rfl
     obtain ⟨v_8, ev_8, h⟩ := bindO_some h
     simp only [go_sem]
     refine callD [2, 3] (f_slices_Insert_Slot_s0_0_s2_0_det v_0 v_3.1 ([(⟨t_0, (⟨([] : List GItem), ([] : List GItem)⟩ : Arr2 (List GItem)), ([] : List GItem), false, false⟩ : GSlot)] : List GSlot) v_8 ev_8) (by simp) rfl ⟨rfl, ⟨rfl, trivial⟩⟩ rfl rfl rfl rfl ?_
     simp only [go_sem]
     refine thenQ_normal hQ10 ?_
     refine ⟨v_8, [some 1, some 4], ?_, h⟩
     simp only [go_sem, Le] <;> (repeat' apply And.intro) <;> first | ((try with_reducible refine TL_eq ?_); omega) | ((try with_reducible refine TL_eq ?_); (simp [go_sem]; done))
    ·
     replace h := if_f h hb_3
     simp only [bool_to_prop] at hb_3
     refine vc_skip_of ?_
     refine thenQ_normal hQ10 ?_
     refine ⟨v_0, [some 1, some 2], ?_, h⟩
     simp only [go_sem, Le] <;> (repeat' apply And.intro) <;> first | ((try with_reducible refine TL_eq ?_); omega) | ((try with_reducible refine TL_eq ?_); (simp [go_sem]; done))
   ·
    rintro a_0 h
    try dsimp only at h
    rw [f_cell_Come_J1] at h
    refine sg fun QQ7 hQ7 => ?_
    refine vc_draw ?_
    refine drawM_tail 15 [0, 0, 0, 0, 0, 0, 24, 88, 248, 504, 0, 0, 4088, 3, 8195, 32767, 65535] mixed (by kernel_rfl) (of_decide_eq_true (by kernel_rfl)) (by kernel_rfl) ?_
    obtain ⟨xv_0, exv_0, h⟩ := bindO_some h
    obtain ⟨fxv_0a, fxv_0b, fxv_0c⟩ := idx_spec exv_0
    obtain ⟨g_0, h⟩ := guardO_some h
    obtain ⟨xv_1, exv_1, h⟩ := bindO_some h
    obtain ⟨fxv_1a, fxv_1b, fxv_1c, fxv_1d⟩ := idx_at2 (f := (fun y => AV.sl 3 (enc y))) [.v (.int .i64 xv_0.Time.D), .v (.int .i64 xv_0.Time.C.a0), .v (.int .i64 xv_0.Time.C.a1), .v (.int .i64 xv_0.Time.C.a2), .v (.int .i64 xv_0.Time.C.a3)] [.sl 3 (enc xv_0.Sent), .v (.bool xv_0.Dirty), .v (.bool xv_0.Fired)] exv_1
    simp only [List.cons_append, List.nil_append, List.append_nil, List.map_cons, List.map_nil, List.length_cons, List.length_nil, Nat.zero_add, Nat.reduceAdd] at fxv_1b fxv_1c fxv_1d
    obtain ⟨v_5, ev_5, h⟩ := bindO_some h
    simp only [go_sem, fxv_0a, fxv_0b, fxv_0c, g_0, fxv_1a, fxv_1b, fxv_1c, fxv_1d]
    refine And.intro (by first | omega | (intros; simp_all; done)) ?_
    refine And.intro (by first | omega | (intros; simp_all; done)) ?_
    refine And.intro (by first | omega | (intros; simp_all; done)) ?_
    simp only [List.getD_eq_getElem?_getD, Nat.mul_one, fxv_1d, Option.map_some, Option.getD_some, true_and]
    simp only [go_sem, fxv_0a, fxv_0b, fxv_0c, g_0, fxv_1a, fxv_1b, fxv_1c, fxv_1d, List.getD_eq_getElem?_getD, Nat.mul_one, fxv_1d, Option.map_some, Option.getD_some, true_and]
    refine callq (fun _ => (f_bag_Add_ok xv_1 rv_0 nv_0 v_5 ev_5)) (by rfl) (by rfl) ?_
    obtain ⟨g_1, h⟩ := guardO_some h
    obtain ⟨w_0, ew_0, h⟩ := bindO_some h
    obtain ⟨w_1, ew_1, h⟩ := bindO_some h
    have sf_0 := pv_set (f := (fun y => AV.sl 3 (enc y))) [.v (.int .i64 xv_0.Time.D), .v (.int .i64 xv_0.Time.C.a0), .v (.int .i64 xv_0.Time.C.a1), .v (.int .i64 xv_0.Time.C.a2), .v (.int .i64 xv_0.Time.C.a3)] [.sl 3 (enc xv_0.Sent), .v (.bool xv_0.Dirty), .v (.bool xv_0.Fired)] [xv_0.In.a0, xv_0.In.a1] [w_0, w_1] (Int.toNat port_0) v_5 (by simp only [List.length_cons, List.length_nil]; omega) (by simp only [List.mapIdx_cons, List.mapIdx_nil, Nat.zero_add, Nat.reduceAdd, Option.some.inj ew_0, Option.some.inj ew_1])
    simp only [List.cons_append, List.nil_append, List.append_nil, List.map_cons, List.map_nil, List.length_cons, List.length_nil, Nat.zero_add, Nat.reduceAdd, setC, Nat.add_assoc, enc_nil] at sf_0
    have rf_1 : (enc a_0).set (Int.toNat v_3.1) [.v (.int .i64 xv_0.Time.D), .v (.int .i64 xv_0.Time.C.a0), .v (.int .i64 xv_0.Time.C.a1), .v (.int .i64 xv_0.Time.C.a2), .v (.int .i64 xv_0.Time.C.a3), .sl 3 (enc w_0), .sl 3 (enc w_1), .sl 3 (enc xv_0.Sent), .v (.bool xv_0.Dirty), .v (.bool xv_0.Fired)] = enc (List.set a_0 (Int.toNat v_3.1) (⟨xv_0.Time, (⟨w_0, w_1⟩ : Arr2 (List GItem)), xv_0.Sent, xv_0.Dirty, xv_0.Fired⟩ : GSlot)) := by exact enc_set a_0 (Int.toNat v_3.1) (⟨xv_0.Time, (⟨w_0, w_1⟩ : Arr2 (List GItem)), xv_0.Sent, xv_0.Dirty, xv_0.Fired⟩ : GSlot)
    simp only [go_sem, fxv_0a, fxv_0b, fxv_0c, g_1, sf_0, Nat.mul_one, rf_1]
    refine And.intro (by omega) ?_
    refine And.intro (by omega) ?_
    refine seqQ_normal hQ7 ?_
    refine sg fun QQ8 hQ8 => ?_
    obtain ⟨v_6, ev_6, h⟩ := bindO_some h
    simp only [go_sem]
    refine callF_weak (s' := (⟨0, [(1, .v (.int .i64 kind_0)), (2, .v (.int .i64 port_0)), (5, .v (.int .i64 nv_0)), (10, .ptr 0 0), (15, .osl 1 10 (0) (List.length a_0)), (16, .v (.int .i64 v_3.1)), (64, .osl 1 10 (0) (List.length a_0)), (65, .v (.int .i64 v_3.1)), (66, .v (.int .i64 port_0)), (67, .osl 1 10 (0) (List.length a_0)), (68, .v (.int .i64 v_3.1)), (69, .v (.int .i64 port_0)), (73, .sl 3 (enc xv_1)), (74, .agg [.v (.int .i64 rv_0.K), .v (.int .i64 rv_0.V)]), (75, .v (.int .i64 nv_0)), (76, .sl 3 (enc v_5)), (80, .osl 1 10 (0) (List.length a_0)), (81, .v (.int .i64 kind_0)), (82, .v (.int .i64 v_3.1))], [(0, .box [.v (.int .i64 rv_0.K), .v (.int .i64 rv_0.V)]), (1, .arr 10 (enc (List.set a_0 (Int.toNat v_3.1) (⟨xv_0.Time, (⟨w_0, w_1⟩ : Arr2 (List GItem)), xv_0.Sent, xv_0.Dirty, xv_0.Fired⟩ : GSlot))))], 2, 88⟩ : St)) (l := [some 0, some 1]) (args' := [.osl 1 10 (0) (List.length (List.set a_0 (Int.toNat v_3.1) (⟨xv_0.Time, (⟨w_0, w_1⟩ : Arr2 (List GItem)), xv_0.Sent, xv_0.Dirty, xv_0.Fired⟩ : GSlot))), .v (.int .i64 kind_0), .v (.int .i64 v_3.1)]) ?_ ?_ ?_
    · simp only [go_sem, Le] <;> (repeat' apply And.intro) <;> first | ((try with_reducible refine TL_eq ?_); omega) | ((try with_reducible refine TL_eq ?_); (simp [go_sem]; done))
    · simp only [go_sem, Le]
    refine callD [1] (f_cell_mark_s0_0_det (List.set a_0 (Int.toNat v_3.1) (⟨xv_0.Time, (⟨w_0, w_1⟩ : Arr2 (List GItem)), xv_0.Sent, xv_0.Dirty, xv_0.Fired⟩ : GSlot)) kind_0 v_3.1 v_6 ev_6) (by simp) rfl ⟨rfl, trivial⟩ rfl rfl rfl rfl ?_
    obtain ⟨g_2, h⟩ := guardO_some h
    simp only [List.length_set] at g_2
    simp only [go_sem, g_2]
    refine seqQ_normal hQ8 ?_
    refine sg fun QQ9 hQ9 => ?_
    obtain ⟨v_7, ev_7, h⟩ := bindO_some h
    simp only [go_sem]
    refine callF_weak (s' := (⟨0, [(1, .v (.int .i64 kind_0)), (2, .v (.int .i64 port_0)), (5, .v (.int .i64 nv_0)), (10, .ptr 0 0), (15, .osl 1 10 (0) (List.length v_6.2)), (16, .v (.int .i64 v_3.1)), (18, .v (.bool v_6.1)), (64, .osl 1 10 (0) (List.length v_6.2)), (65, .v (.int .i64 v_3.1)), (66, .v (.int .i64 port_0)), (67, .osl 1 10 (0) (List.length v_6.2)), (68, .v (.int .i64 v_3.1)), (69, .v (.int .i64 port_0)), (73, .sl 3 (enc xv_1)), (74, .agg [.v (.int .i64 rv_0.K), .v (.int .i64 rv_0.V)]), (75, .v (.int .i64 nv_0)), (76, .sl 3 (enc v_5)), (80, .osl 1 10 (0) (List.length v_6.2)), (81, .v (.int .i64 kind_0)), (82, .v (.int .i64 v_3.1)), (83, .v (.bool v_6.1)), (84, .osl 1 10 (0) (List.length v_6.2)), (85, .v (.int .i64 v_3.1))], [(0, .box [.v (.int .i64 rv_0.K), .v (.int .i64 rv_0.V)]), (1, .arr 10 (enc v_6.2))], 2, 88⟩ : St)) (l := [some 0, some 1]) (args' := [.osl 1 10 (0) (List.length v_6.2), .v (.int .i64 v_3.1)]) ?_ ?_ ?_
    · simp only [go_sem, Le] <;> (repeat' apply And.intro) <;> first | ((try with_reducible refine TL_eq ?_); omega) | ((try with_reducible refine TL_eq ?_); (simp [go_sem]; done))
    · simp only [go_sem, Le] <;> (repeat' apply And.intro) <;> ((try with_reducible refine TL_eq ?_); omega)
    refine callD [1] (f_cell_settled_s0_0_det v_6.2 v_3.1 v_7 ev_7) (by simp) rfl ⟨rfl, trivial⟩ rfl rfl rfl rfl ?_
    simp only [go_sem]
    refine seqQ_normal hQ9 ?_
    refine vc_ret_of ?_
    simp only [go_sem]
    obtain rfl := Option.some.inj h
    refine retW_det [some 2] ?_
    simp only [go_sem, Le]
 ·
  replace h := if_t h hb_0
  simp only [go_sem, hb_0]
  refine seqQ_normal hQ4 ?_
  refine vc_cond_t (by (simp only [go_sem]; done)) ?_
  refine sg fun QQ12 hQ12 => ?_
  simp only [go_sem]
  refine seqQ_normal hQ12 ?_
  refine vc_ret_of ?_
  refine seqQ_ret hQ3 ?_
  simp only [go_sem]
  obtain rfl := Option.some.inj h
  refine retW_det [some 2] ?_
  simp only [go_sem, Le]
def f_cell_At (c_0 : List GSlot) (t_0 : GTime) : Option (GSlot × Bool) :=
 bindO (f_cell_Right c_0) (fun (v_0 : Bool) =>
 (if (!v_0) = true then some ((⟨(⟨0, (⟨0, 0, 0, 0⟩ : Arr4 Int)⟩ : GTime), (⟨([] : List GItem), ([] : List GItem)⟩ : Arr2 (List GItem)), ([] : List GItem), false, false⟩ : GSlot), false)
 else bindO (f_cell_find c_0 t_0) (fun (v_1 : Int × Bool) =>
 (if (!v_1.2) = true then some ((⟨(⟨0, (⟨0, 0, 0, 0⟩ : Arr4 Int)⟩ : GTime), (⟨([] : List GItem), ([] : List GItem)⟩ : Arr2 (List GItem)), ([] : List GItem), false, false⟩ : GSlot), false)
 else bindO (idx c_0 v_1.1) (fun (xv_0 : GSlot) =>
 some (xv_0, true))))))
theorem f_cell_At_ok (c_0 : List GSlot) (t_0 : GTime)  (r : GSlot × Bool) (h : f_cell_At c_0 t_0 = some r) : PureS Try.prog 48 [.sl 10 (enc c_0), .agg [.v (.int .i64 t_0.D), .v (.int .i64 t_0.C.a0), .v (.int .i64 t_0.C.a1), .v (.int .i64 t_0.C.a2), .v (.int .i64 t_0.C.a3)]] 0 (.tup [.agg [.v (.int .i64 r.1.Time.D), .v (.int .i64 r.1.Time.C.a0), .v (.int .i64 r.1.Time.C.a1), .v (.int .i64 r.1.Time.C.a2), .v (.int .i64 r.1.Time.C.a3), .sl 3 (enc r.1.In.a0), .sl 3 (enc r.1.In.a1), .sl 3 (enc r.1.Sent), .v (.bool r.1.Dirty), .v (.bool r.1.Fired)], .v (.bool r.2)]) := by
 unfold PureS
 refine Spec.of_vc Try.func48 rfl (by kernel_rfl) (by kernel_rfl) ?_
 rw [f_cell_At] at h
 refine sg fun QQ1 hQ1 => ?_
 simp only [go_sem]
 refine seqQ_normal hQ1 ?_
 refine sg fun QQ2 hQ2 => ?_
 refine sg fun QQ3 hQ3 => ?_
 obtain ⟨v_0, ev_0, h⟩ := bindO_some h
 simp only [go_sem]
 refine call0 (f_cell_Right_ok c_0 v_0 ev_0) (by rfl) (by rfl) ?_
 simp only [go_sem]
 refine seqQ_normal hQ3 ?_
 refine vc_cond_of (b := (!v_0)) (by (simp only [go_sem]; done)) (fun hb_0 => ?_) (fun hb_0 => ?_)
 ·
  replace h := if_t h hb_0
  simp only [bool_to_prop] at hb_0
  refine sg fun QQ4 hQ4 => ?_
  simp only [go_sem]
  refine seqQ_normal hQ4 ?_
  refine vc_ret_of ?_
  refine seqQ_ret hQ2 ?_
  simp only [go_sem]
  obtain rfl := Option.some.inj h
  refine retW_pure rfl ?_
  simp only [go_sem, Le]
 ·
  replace h := if_f h hb_0
  simp only [bool_to_prop] at hb_0
  refine vc_skip_of ?_
  refine seqQ_normal hQ2 ?_
  refine sg fun QQ5 hQ5 => ?_
  obtain ⟨v_1, ev_1, h⟩ := bindO_some h
  simp only [go_sem]
  refine call0 (f_cell_find_ok c_0 t_0 v_1 ev_1) (by rfl) (by rfl) ?_
  simp only [go_sem]
  refine seqQ_normal hQ5 ?_
  refine sg fun QQ6 hQ6 => ?_
  refine sg fun QQ7 hQ7 => ?_
  simp only [go_sem]
  refine seqQ_normal hQ7 ?_
  refine vc_cond_of (b := (!v_1.2)) (by (simp only [go_sem]; done)) (fun hb_1 => ?_) (fun hb_1 => ?_)
  ·
   replace h := if_t h hb_1
   simp only [bool_to_prop] at hb_1
   refine sg fun QQ8 hQ8 => ?_
   simp only [go_sem]
   refine seqQ_normal hQ8 ?_
   refine vc_ret_of ?_
   refine seqQ_ret hQ6 ?_
   simp only [go_sem]
   obtain rfl := Option.some.inj h
   refine retW_pure rfl ?_
   simp only [go_sem, Le]
  ·
   replace h := if_f h hb_1
   simp only [bool_to_prop] at hb_1
   refine vc_skip_of ?_
   refine seqQ_normal hQ6 ?_
   refine sg fun QQ9 hQ9 => ?_
   obtain ⟨xv_0, exv_0, h⟩ := bindO_some h
   obtain ⟨fxv_0a, fxv_0b, fxv_0c⟩ := idx_spec exv_0
   simp only [go_sem, fxv_0a, fxv_0b, fxv_0c]
   refine And.intro (by omega) ?_
   refine seqQ_normal hQ9 ?_
   refine vc_ret_of ?_
   simp only [go_sem]
   obtain rfl := Option.some.inj h
   refine retW_pure rfl ?_
   simp only [go_sem, Le]

def f_cell_past_B1 (c_0 : List GSlot) (t_0 : GTime) (rec_1 : Int × (List GItem) → Option (List GItem)) : Int × (List GItem) → Option (List GItem) :=
 fun (t10_1, a_1) =>
 (if (decide (t10_1 < (List.length c_0 : Int))) = true then bindO (idx c_0 t10_1) (fun (xv_2 : GSlot) =>
 bindO (f_ts_Le xv_2.Time t_0) (fun (v_4 : Bool) =>
 (if v_4 = true then bindO (f_bag_Plus a_1 xv_2.In.a0) (fun (v_5 : List GItem) =>
 rec_1 (IntKind.i64.wrap (t10_1 + 1), v_5))
 else rec_1 (IntKind.i64.wrap (t10_1 + 1), a_1))))
 else some a_1)
def f_cell_past (c_0 : List GSlot) (t_0 : GTime) : Option (List GItem) :=
 loopK (f_cell_past_B1 c_0 t_0) rounds (0, [])
theorem f_cell_past_det (c_0 : List GSlot) (t_0 : GTime)  (r : List GItem) (h : f_cell_past c_0 t_0 = some r) : DetS Try.prog 162 [.sl 10 (enc c_0), .agg [.v (.int .i64 t_0.D), .v (.int .i64 t_0.C.a0), .v (.int .i64 t_0.C.a1), .v (.int .i64 t_0.C.a2), .v (.int .i64 t_0.C.a3)]] [] 0 (.osl 0 3 (0) (List.length r)) [(0, .arr 3 (enc r))] 1 := by
 unfold DetS
 refine Spec.of_vc Try.func162 rfl (by kernel_rfl) (by kernel_rfl) ?_
 rw [f_cell_past] at h
 refine sg fun QQ1 hQ1 => ?_
 simp only [go_sem]
 refine seqQ_normal hQ1 ?_
 refine sg fun QQ2 hQ2 => ?_
 simp only [go_sem]
 refine seqQ_normal hQ2 ?_
 refine vc_join (by kernel_rfl) ?_
 refine seq_go_gen ?_
 intro QQ3 hQ3
 refine sg fun QQ4 hQ4 => ?_
 simp only [go_sem]
 refine seqQ_normal hQ4 ?_
 refine vc_block_gen ?_
 intro QQ5 hQ5
 refine vc_loop_of ?_
 refine loop_gen (ι := Nat × Int × (List GItem)) (fun ((_, t10_1, a_1) : Nat × Int × (List GItem)) => (⟨0, [(3, .ptr 0 0), (5, .osl 1 3 (0) (List.length a_1)), (8, .sl 10 (enc c_0)), (9, .v (.int .i64 (List.length c_0 : Int))), (10, .v (.int .i64 t10_1))], [(0, .box [.v (.int .i64 t_0.D), .v (.int .i64 t_0.C.a0), .v (.int .i64 t_0.C.a1), .v (.int .i64 t_0.C.a2), .v (.int .i64 t_0.C.a3)]), (1, .arr 3 (enc a_1))], 2, 25⟩ : St)) (fun ((n_, t10_1, a_1) : Nat × Int × (List GItem)) => loopK (f_cell_past_B1 c_0 t_0) n_ (t10_1, a_1) = some r) (fun p => p.1) (rounds, 0, []) [some 0, none] ?_ h ?_
 · simp only [go_sem, Le] <;> (repeat' apply And.intro) <;> ((try with_reducible refine TL_eq ?_); (simp [go_sem]; done))
 ·
  rintro ⟨n_1, t10_1, a_1⟩ h QQ6 hQ6
  dsimp only at h
  replace h := loopK_some h
  obtain ⟨m_1, rfl, h⟩ := h
  rw [f_cell_past_B1] at h
  refine sg fun QQ7 hQ7 => ?_
  simp only [go_sem]
  refine seqQ_normal hQ7 ?_
  refine sg fun QQ8 hQ8 => ?_
  refine vc_cond_of (b := (decide (t10_1 < (List.length c_0 : Int)))) (by (simp only [go_sem]; done)) (fun hb_4 => ?_) (fun hb_4 => ?_)
  ·
   replace h := if_t h hb_4
   simp only [bool_to_prop] at hb_4
   refine vc_skip_of ?_
   refine seqQ_normal hQ8 ?_
   refine vc_join (by kernel_rfl) ?_
   refine seq_go_gen ?_
   intro QQ9 hQ9
   refine vc_block_gen ?_
   intro QQ10 hQ10
   refine sg fun QQ11 hQ11 => ?_
   obtain ⟨xv_2, exv_2, h⟩ := bindO_some h
   obtain ⟨fxv_2a, fxv_2b, fxv_2c⟩ := idx_spec exv_2
   simp only [go_sem, fxv_2a, fxv_2b, fxv_2c]
   refine And.intro (by omega) ?_
   refine seqQ_normal hQ11 ?_
   refine sg fun QQ12 hQ12 => ?_
   obtain ⟨v_4, ev_4, h⟩ := bindO_some h
   simp only [go_sem]
   refine call0 (f_ts_Le_ok xv_2.Time t_0 v_4 ev_4) (by rfl) (by rfl) ?_
   simp only [go_sem]
   refine seqQ_normal hQ12 ?_
   refine vc_cond_of (b := v_4) (by (simp only [go_sem]; done)) (fun hb_5 => ?_) (fun hb_5 => ?_)
   ·
    replace h := if_t h hb_5
    obtain ⟨v_5, ev_5, h⟩ := bindO_some h
    simp only [go_sem]
    refine callF_weak (s' := (⟨0, [(3, .ptr 0 0), (5, .sl 3 (enc a_1)), (7, .ptr 1 0), (8, .sl 10 (enc c_0)), (9, .v (.int .i64 (List.length c_0 : Int))), (10, .v (.int .i64 t10_1)), (11, .v (.bool (decide (t10_1 < (List.length c_0 : Int))))), (12, .el 10 (enc c_0) (Int.toNat t10_1) 0), (13, .agg [.v (.int .i64 xv_2.Time.D), .v (.int .i64 xv_2.Time.C.a0), .v (.int .i64 xv_2.Time.C.a1), .v (.int .i64 xv_2.Time.C.a2), .v (.int .i64 xv_2.Time.C.a3), .sl 3 (enc xv_2.In.a0), .sl 3 (enc xv_2.In.a1), .sl 3 (enc xv_2.Sent), .v (.bool xv_2.Dirty), .v (.bool xv_2.Fired)]), (14, .ptr 1 0), (15, .agg [.v (.int .i64 xv_2.Time.D), .v (.int .i64 xv_2.Time.C.a0), .v (.int .i64 xv_2.Time.C.a1), .v (.int .i64 xv_2.Time.C.a2), .v (.int .i64 xv_2.Time.C.a3)]), (16, .agg [.v (.int .i64 t_0.D), .v (.int .i64 t_0.C.a0), .v (.int .i64 t_0.C.a1), .v (.int .i64 t_0.C.a2), .v (.int .i64 t_0.C.a3)]), (17, .v (.bool v_4)), (18, .sl 3 (enc a_1)), (19, .ptr 1 5), (20, .ptr 1 5), (21, .sl 3 (enc xv_2.In.a0))], [(0, .box [.v (.int .i64 t_0.D), .v (.int .i64 t_0.C.a0), .v (.int .i64 t_0.C.a1), .v (.int .i64 t_0.C.a2), .v (.int .i64 t_0.C.a3)]), (1, .box [.v (.int .i64 xv_2.Time.D), .v (.int .i64 xv_2.Time.C.a0), .v (.int .i64 xv_2.Time.C.a1), .v (.int .i64 xv_2.Time.C.a2), .v (.int .i64 xv_2.Time.C.a3), .sl 3 (enc xv_2.In.a0), .sl 3 (enc xv_2.In.a1), .sl 3 (enc xv_2.Sent), .v (.bool xv_2.Dirty), .v (.bool xv_2.Fired)])], 2, 25⟩ : St)) (l := [some 0, some 2]) (args' := [.sl 3 (enc a_1), .sl 3 (enc xv_2.In.a0)]) ?_ ?_ ?_
    · simp only [go_sem, Le] <;> (repeat' apply And.intro) <;> first | ((try with_reducible refine TL_eq ?_); omega) | ((try with_reducible refine TL_eq ?_); (simp [go_sem]; done)) | ((try with_reducible refine TL_eq ?_); (simp [enc_len, enc]; omega))
    · simp only [go_sem, Le] <;> (repeat' apply And.intro) <;> ((try with_reducible refine TL_eq ?_); (simp [go_sem]; done))
    refine callD [] (f_bag_Plus_det a_1 xv_2.In.a0 v_5 ev_5) (by simp) rfl trivial rfl rfl rfl rfl ?_
    simp only [go_sem]
    refine blockQ_normal hQ10 ?_
    refine seqQ_normal hQ9 ?_
    simp only [go_sem]
    refine thenQ_normal hQ6 ?_
    refine ⟨(m_1, IntKind.i64.wrap (t10_1 + 1), v_5), [some 0, some 2], ?_, h, Nat.lt_succ_self _⟩
    simp only [go_sem, Le] <;> (repeat' apply And.intro) <;> first | ((try with_reducible refine TL_eq ?_); omega) | ((try with_reducible refine TL_eq ?_); (simp [go_sem]; done))
   ·
    replace h := if_f h hb_5
    refine vc_skip_of ?_
    refine blockQ_normal hQ10 ?_
    refine seqQ_normal hQ9 ?_
    simp only [go_sem]
    refine thenQ_normal hQ6 ?_
    refine ⟨(m_1, IntKind.i64.wrap (t10_1 + 1), a_1), [some 0, some 1], ?_, h, Nat.lt_succ_self _⟩
    simp only [go_sem, Le] <;> (repeat' apply And.intro) <;> first | ((try with_reducible refine TL_eq ?_); omega) | ((try with_reducible refine TL_eq ?_); (simp [go_sem]; done))
  ·
   replace h := if_f h hb_4
   simp only [bool_to_prop] at hb_4
   refine vc_exit_of ?_
   refine seqQ_exit hQ8 ?_
   refine thenQ_exit hQ6 ?_
   refine blockQ_exit hQ5 ?_
   refine seqQ_normal hQ3 ?_
   refine sg fun QQ13 hQ13 => ?_
   simp only [go_sem]
   refine seqQ_normal hQ13 ?_
   refine vc_ret_of ?_
   simp only [go_sem]
   obtain rfl := Option.some.inj h
   refine retW_det [some 1] ?_
   simp only [go_sem, Le]
def f_ops_Apply_1 (nv_0 : Int) (cap_0 : List (List GItem)) : Option (List GItem) :=
 (if (decide ((List.length cap_0 : Int) ≤ nv_0)) = true then some ([] : List GItem)
 else bindO (idx cap_0 nv_0) (fun (xv_0 : List GItem) =>
 bindO (f_bag_There xv_0) (fun (v_0 : List GItem) =>
 some v_0)))
theorem f_ops_Apply_1_det (nv_0 : Int) (cap_0 : List (List GItem))  (r : List GItem) (h : f_ops_Apply_1 nv_0 cap_0 = some r) : DetS Try.prog 66 [.v (.int .i64 nv_0), .el 1 [[.sl 1 (enc cap_0)]] 0 0] [] 0 (.osl 0 3 (0) (List.length r)) [(0, .arr 3 (enc r))] 1 := by
 unfold DetS
 refine Spec.of_vc Try.func66 rfl (by kernel_rfl) (by kernel_rfl) ?_
 rw [f_ops_Apply_1] at h
 refine sg fun QQ1 hQ1 => ?_
 simp only [go_sem]
 refine seqQ_normal hQ1 ?_
 refine sg fun QQ2 hQ2 => ?_
 refine sg fun QQ3 hQ3 => ?_
 simp only [go_sem]
 refine seqQ_normal hQ3 ?_
 refine vc_cond_of (b := (decide ((List.length cap_0 : Int) ≤ nv_0))) (by (simp only [go_sem]; done)) (fun hb_0 => ?_) (fun hb_0 => ?_)
 ·
  replace h := if_t h hb_0
  simp only [bool_to_prop] at hb_0
  refine sg fun QQ4 hQ4 => ?_
  simp only [go_sem]
  refine seqQ_normal hQ4 ?_
  refine vc_ret_of ?_
  refine seqQ_ret hQ2 ?_
  simp only [go_sem]
  obtain rfl := Option.some.inj h
  refine retW_det [none] ?_
  simp only [go_sem, Le] <;> (repeat' apply And.intro) <;> ((try with_reducible refine TL_eq ?_); (simp [go_sem]; done))
 ·
  replace h := if_f h hb_0
  simp only [bool_to_prop] at hb_0
  refine vc_skip_of ?_
  refine seqQ_normal hQ2 ?_
  refine sg fun QQ5 hQ5 => ?_
  obtain ⟨xv_0, exv_0, h⟩ := bindO_some h
  obtain ⟨fxv_0a, fxv_0b, fxv_0c⟩ := idx_spec exv_0
  obtain ⟨v_0, ev_0, h⟩ := bindO_some h
  simp only [go_sem, fxv_0a, fxv_0b, fxv_0c]
  refine And.intro (by omega) ?_
  refine callD [] (f_bag_There_det xv_0 v_0 ev_0) (by simp) rfl trivial rfl rfl rfl rfl ?_
  simp only [go_sem]
  refine seqQ_normal hQ5 ?_
  refine vc_ret_of ?_
  simp only [go_sem]
  obtain rfl := Option.some.inj h
  refine retW_det [some 0] ?_
  simp only [go_sem, Le]
def f_prog_jumps (op_0 : Int) : Option Bool :=
 some ((op_0 == 14) || (op_0 == 15))
theorem f_prog_jumps_ok (op_0 : Int)  (r : Bool) (h : f_prog_jumps op_0 = some r) : PureS Try.prog 208 [.v (.int .i64 op_0)] 0 (.v (.bool r)) := by
 unfold PureS
 refine Spec.of_vc Try.func208 rfl (by kernel_rfl) (by kernel_rfl) ?_
 rw [f_prog_jumps] at h
 refine sg fun QQ1 hQ1 => ?_
 simp only [go_sem]
 refine seqQ_normal hQ1 ?_
 refine sg fun QQ2 hQ2 => ?_
 simp only [go_sem]
 refine seqQ_normal hQ2 ?_
 refine vc_ret_of ?_
 simp only [go_sem]
 obtain rfl := Option.some.inj h
 refine retW_pure rfl ?_
 simp only [go_sem, Le]

def f_prog_Right_B1 (p_0 : List GIns) (rec_1 : Int → Option Bool) : Int → Option Bool :=
 fun t10_1 =>
 (if (decide (t10_1 < (List.length p_0 : Int))) = true then bindO (idx p_0 t10_1) (fun (xv_2 : GIns) =>
 (if ((decide (xv_2.Op < 1)) || (decide (16 < xv_2.Op))) = true then some false
 else bindO (f_prog_jumps xv_2.Op) (fun (v_2 : Bool) =>
 (if v_2 = true then (if ((decide (xv_2.N < 0)) || (decide ((List.length p_0 : Int) < xv_2.N))) = true then some false
 else rec_1 (IntKind.i64.wrap (t10_1 + 1)))
 else (if ((!(xv_2.Op == 1)) && (!(xv_2.N == 0))) = true then some false
 else rec_1 (IntKind.i64.wrap (t10_1 + 1)))))))
 else some true)
def f_prog_Right (p_0 : List GIns) : Option Bool :=
 (if (decide (64 < (List.length p_0 : Int))) = true then some false
 else loopK (f_prog_Right_B1 p_0) rounds 0)
theorem f_prog_Right_ok (p_0 : List GIns)  (r : Bool) (h : f_prog_Right p_0 = some r) : PureS Try.prog 154 [.sl 2 (enc p_0)] 0 (.v (.bool r)) := by
 unfold PureS
 refine Spec.of_vc Try.func154 rfl (by kernel_rfl) (by kernel_rfl) ?_
 rw [f_prog_Right] at h
 refine sg fun QQ1 hQ1 => ?_
 simp only [go_sem]
 refine seqQ_normal hQ1 ?_
 refine sg fun QQ2 hQ2 => ?_
 refine sg fun QQ3 hQ3 => ?_
 simp only [go_sem]
 refine seqQ_normal hQ3 ?_
 refine vc_cond_of (b := (decide (64 < (List.length p_0 : Int)))) (by (simp only [go_sem]; done)) (fun hb_0 => ?_) (fun hb_0 => ?_)
 ·
  replace h := if_t h hb_0
  simp only [bool_to_prop] at hb_0
  refine sg fun QQ4 hQ4 => ?_
  simp only [go_sem]
  refine seqQ_normal hQ4 ?_
  refine vc_ret_of ?_
  refine seqQ_ret hQ2 ?_
  simp only [go_sem]
  obtain rfl := Option.some.inj h
  refine retW_pure rfl ?_
  simp only [go_sem, Le]
 ·
  replace h := if_f h hb_0
  simp only [bool_to_prop] at hb_0
  refine vc_skip_of ?_
  refine seqQ_normal hQ2 ?_
  refine vc_join (by kernel_rfl) ?_
  refine seq_go_gen ?_
  intro QQ5 hQ5
  refine sg fun QQ6 hQ6 => ?_
  simp only [go_sem]
  refine seqQ_normal hQ6 ?_
  refine vc_block_gen ?_
  intro QQ7 hQ7
  refine vc_loop_of ?_
  refine loop_gen (ι := Nat × Int) (fun ((_, t10_1) : Nat × Int) => (⟨0, [(0, .sl 2 (enc p_0)), (8, .sl 2 (enc p_0)), (9, .v (.int .i64 (List.length p_0 : Int))), (10, .v (.int .i64 t10_1))], [], 0, 47⟩ : St)) (fun ((n_, t10_1) : Nat × Int) => loopK (f_prog_Right_B1 p_0) n_ t10_1 = some r) (fun p => p.1) (rounds, 0) [] ?_ h ?_
  · simp only [go_sem, Le]
  ·
   rintro ⟨n_1, t10_1⟩ h QQ8 hQ8
   dsimp only at h
   replace h := loopK_some h
   obtain ⟨m_1, rfl, h⟩ := h
   rw [f_prog_Right_B1] at h
   refine sg fun QQ9 hQ9 => ?_
   simp only [go_sem]
   refine seqQ_normal hQ9 ?_
   refine sg fun QQ10 hQ10 => ?_
   refine vc_cond_of (b := (decide (t10_1 < (List.length p_0 : Int)))) (by (simp only [go_sem]; done)) (fun hb_11 => ?_) (fun hb_11 => ?_)
   ·
    replace h := if_t h hb_11
    simp only [bool_to_prop] at hb_11
    refine vc_skip_of ?_
    refine seqQ_normal hQ10 ?_
    refine vc_join (by kernel_rfl) ?_
    refine seq_go_gen ?_
    intro QQ11 hQ11
    refine vc_block_gen ?_
    intro QQ12 hQ12
    refine sg fun QQ13 hQ13 => ?_
    obtain ⟨xv_2, exv_2, h⟩ := bindO_some h
    obtain ⟨fxv_2a, fxv_2b, fxv_2c⟩ := idx_spec exv_2
    simp only [go_sem, fxv_2a, fxv_2b, fxv_2c]
    refine And.intro (by omega) ?_
    refine seqQ_normal hQ13 ?_
    refine vc_block_gen ?_
    intro QQ14 hQ14
    refine sg fun QQ15 hQ15 => ?_
    simp only [go_sem]
    refine seqQ_normal hQ15 ?_
    refine vc_cond_of (b := ((decide (xv_2.Op < 1)) || (decide (16 < xv_2.Op)))) (by (simp only [go_sem]; done)) (fun hb_12 => ?_) (fun hb_12 => ?_)
    ·
     replace h := if_t h hb_12
     simp only [bool_to_prop] at hb_12
     refine sg fun QQ16 hQ16 => ?_
     simp only [go_sem]
     refine seqQ_normal hQ16 ?_
     refine vc_ret_of ?_
     refine blockQ_ret hQ14 ?_
     refine blockQ_ret hQ12 ?_
     refine seqQ_ret hQ11 ?_
     refine thenQ_ret hQ8 ?_
     refine blockQ_ret hQ7 ?_
     refine seqQ_ret hQ5 ?_
     simp only [go_sem]
     obtain rfl := Option.some.inj h
     refine retW_pure rfl ?_
     simp only [go_sem, Le]
    ·
     replace h := if_f h hb_12
     simp only [bool_to_prop] at hb_12
     refine sg fun QQ17 hQ17 => ?_
     obtain ⟨v_2, ev_2, h⟩ := bindO_some h
     simp only [go_sem]
     refine call0 (f_prog_jumps_ok xv_2.Op v_2 ev_2) (by rfl) (by rfl) ?_
     simp only [go_sem]
     refine seqQ_normal hQ17 ?_
     refine vc_cond_of (b := v_2) (by (simp only [go_sem]; done)) (fun hb_13 => ?_) (fun hb_13 => ?_)
     ·
      replace h := if_t h hb_13
      refine sg fun QQ18 hQ18 => ?_
      simp only [go_sem]
      refine seqQ_normal hQ18 ?_
      refine vc_cond_of (b := ((decide (xv_2.N < 0)) || (decide ((List.length p_0 : Int) < xv_2.N)))) (by (simp only [go_sem]; done)) (fun hb_14 => ?_) (fun hb_14 => ?_)
      ·
       replace h := if_t h hb_14
       simp only [bool_to_prop] at hb_14
       refine sg fun QQ19 hQ19 => ?_
       simp only [go_sem]
       refine seqQ_normal hQ19 ?_
       refine vc_ret_of ?_
       refine blockQ_ret hQ14 ?_
       refine blockQ_ret hQ12 ?_
       refine seqQ_ret hQ11 ?_
       refine thenQ_ret hQ8 ?_
       refine blockQ_ret hQ7 ?_
       refine seqQ_ret hQ5 ?_
       simp only [go_sem]
       obtain rfl := Option.some.inj h
       refine retW_pure rfl ?_
       simp only [go_sem, Le]
      ·
       replace h := if_f h hb_14
       simp only [bool_to_prop] at hb_14
       refine vc_skip_of ?_
       refine blockQ_normal hQ14 ?_
       refine blockQ_normal hQ12 ?_
       refine seqQ_normal hQ11 ?_
       simp only [go_sem]
       refine thenQ_normal hQ8 ?_
       refine ⟨(m_1, IntKind.i64.wrap (t10_1 + 1)), [], ?_, h, Nat.lt_succ_self _⟩
       simp only [go_sem, Le]
     ·
      replace h := if_f h hb_13
      refine sg fun QQ20 hQ20 => ?_
      simp only [go_sem]
      refine seqQ_normal hQ20 ?_
      refine vc_cond_of (b := ((!(xv_2.Op == 1)) && (!(xv_2.N == 0)))) (by (simp only [go_sem]; done)) (fun hb_15 => ?_) (fun hb_15 => ?_)
      ·
       replace h := if_t h hb_15
       simp only [bool_to_prop] at hb_15
       refine sg fun QQ21 hQ21 => ?_
       simp only [go_sem]
       refine seqQ_normal hQ21 ?_
       refine vc_ret_of ?_
       refine blockQ_ret hQ14 ?_
       refine blockQ_ret hQ12 ?_
       refine seqQ_ret hQ11 ?_
       refine thenQ_ret hQ8 ?_
       refine blockQ_ret hQ7 ?_
       refine seqQ_ret hQ5 ?_
       simp only [go_sem]
       obtain rfl := Option.some.inj h
       refine retW_pure rfl ?_
       simp only [go_sem, Le]
      ·
       replace h := if_f h hb_15
       simp only [bool_to_prop] at hb_15
       refine vc_skip_of ?_
       refine blockQ_normal hQ14 ?_
       refine blockQ_normal hQ12 ?_
       refine seqQ_normal hQ11 ?_
       simp only [go_sem]
       refine thenQ_normal hQ8 ?_
       refine ⟨(m_1, IntKind.i64.wrap (t10_1 + 1)), [], ?_, h, Nat.lt_succ_self _⟩
       simp only [go_sem, Le]
   ·
    replace h := if_f h hb_11
    simp only [bool_to_prop] at hb_11
    refine vc_exit_of ?_
    refine seqQ_exit hQ10 ?_
    refine thenQ_exit hQ8 ?_
    refine blockQ_exit hQ7 ?_
    refine seqQ_normal hQ5 ?_
    refine sg fun QQ22 hQ22 => ?_
    simp only [go_sem]
    refine seqQ_normal hQ22 ?_
    refine vc_ret_of ?_
    simp only [go_sem]
    obtain rfl := Option.some.inj h
    refine retW_pure rfl ?_
    simp only [go_sem, Le]

def f_prog_machine_push_p0_s0_2_s0_3 (mv_0 : GProg_machine) (nv_0 : Int) : Option GProg_machine :=
 (if ((List.length mv_0.stack : Int) == 8) = true then some (⟨mv_0.r, mv_0.stack, mv_0.out, mv_0.at_, 1⟩ : GProg_machine)
 else guardO ((List.length mv_0.stack + List.length ([nv_0] : List Int)) * 8 ≤ 140737488355328) (
 some (⟨mv_0.r, (mv_0.stack ++ ([nv_0] : List Int)), mv_0.out, mv_0.at_, mv_0.bad⟩ : GProg_machine)))
theorem f_prog_machine_push_p0_s0_2_s0_3_det (mv_0 : GProg_machine) (nv_0 : Int)  (r : GProg_machine) (h : f_prog_machine_push_p0_s0_2_s0_3 mv_0 nv_0 = some r) : DetS Try.prog 236 [.ptr 0 0, .v (.int .i64 nv_0)] [(0, .box [.v (.int .i64 mv_0.r.K), .v (.int .i64 mv_0.r.V), .osl 1 1 (0) (List.length mv_0.stack), .osl 2 2 (0) (List.length mv_0.out), .v (.int .i64 mv_0.at_), .v (.int .i64 mv_0.bad)]), (1, .arr 1 (enc mv_0.stack)), (2, .arr 2 (enc mv_0.out))] 3 (.tup []) [(0, .box [.v (.int .i64 r.r.K), .v (.int .i64 r.r.V), .osl 3 1 (0) (List.length r.stack), .osl 4 2 (0) (List.length r.out), .v (.int .i64 r.at_), .v (.int .i64 r.bad)]), (3, .arr 1 (enc r.stack)), (4, .arr 2 (enc r.out))] 5 := by
 unfold DetS
 refine Spec.of_vc Try.func236 rfl (by kernel_rfl) (by kernel_rfl) ?_
 rw [f_prog_machine_push_p0_s0_2_s0_3] at h
 refine sg fun QQ1 hQ1 => ?_
 refine sg fun QQ2 hQ2 => ?_
 simp only [go_sem]
 refine seqQ_normal hQ2 ?_
 refine vc_cond_of (b := ((List.length mv_0.stack : Int) == 8)) (by (simp only [go_sem]; done)) (fun hb_0 => ?_) (fun hb_0 => ?_)
 ·
  replace h := if_t h hb_0
  simp only [bool_to_prop] at hb_0
  refine sg fun QQ3 hQ3 => ?_
  simp only [go_sem]
  refine seqQ_normal hQ3 ?_
  refine vc_ret_of ?_
  refine seqQ_ret hQ1 ?_
  simp only [go_sem]
  obtain rfl := Option.some.inj h
  refine retW_det [some 1, some 2] ?_
  simp only [go_sem, Le] <;> (repeat' apply And.intro) <;> first | ((try with_reducible refine TL_eq ?_); omega) | ((try with_reducible refine TL_eq ?_); (simp [go_sem]; done))
 ·
  replace h := if_f h hb_0
  simp only [bool_to_prop] at hb_0
  refine vc_skip_of ?_
  refine seqQ_normal hQ1 ?_
  have rf_0 : [[.v (.int .i64 nv_0)]] = enc ([nv_0] : List Int) := by rfl
  obtain ⟨g_0, h⟩ := guardO_some h
  simp only [List.length_cons, List.length_nil, Nat.zero_add, List.length_append] at g_0
  have rf_1 : enc mv_0.stack ++ [[.v (.int .i64 nv_0)]] = enc (mv_0.stack ++ ([nv_0] : List Int)) := by exact (enc_app mv_0.stack ([nv_0] : List Int)).symm
  simp only [go_sem, g_0, rf_1]
  simp only [rf_0]
  obtain rfl := Option.some.inj h
  refine retW_det [some 4, some 2] ?_
  simp only [go_sem, Le] <;> (repeat' apply And.intro) <;> first | ((try with_reducible refine TL_eq ?_); omega) | ((try with_reducible refine TL_eq ?_); (simp [go_sem]; done))

def f_prog_machine_moves_p0_s0_2_s0_3 (mv_0 : GProg_machine) (xv_0 : GIns) : Option (Bool × GProg_machine) :=
 (if (xv_0.Op == 1) = true then bindO (f_prog_machine_push_p0_s0_2_s0_3 mv_0 xv_0.N) (fun (v_0 : GProg_machine) =>
 some (true, v_0))
 else (if (xv_0.Op == 2) = true then bindO (f_prog_machine_push_p0_s0_2_s0_3 mv_0 mv_0.r.K) (fun (v_1 : GProg_machine) =>
 some (true, v_1))
 else (if (xv_0.Op == 3) = true then bindO (f_prog_machine_push_p0_s0_2_s0_3 mv_0 mv_0.r.V) (fun (v_2 : GProg_machine) =>
 some (true, v_2))
 else (if (xv_0.Op == 11) = true then (if (decide ((IntKind.i64.wrap ((List.length mv_0.stack : Int) - 1)) < 0)) = true then some (true, (⟨mv_0.r, mv_0.stack, mv_0.out, mv_0.at_, 1⟩ : GProg_machine))
 else guardO (0 ≤ IntKind.i64.wrap ((List.length mv_0.stack : Int) - 1) ∧ IntKind.i64.wrap ((List.length mv_0.stack : Int) - 1) ≤ (List.length mv_0.stack : Int) ∧ (List.length mv_0.stack : Int) ≤ (List.length mv_0.stack : Int) ∧ (List.length mv_0.stack : Int) ≤ (List.length mv_0.stack : Int)) (
 guardO (0 ≤ 0 ∧ 0 ≤ IntKind.i64.wrap ((List.length mv_0.stack : Int) - 1) ∧ IntKind.i64.wrap ((List.length mv_0.stack : Int) - 1) ≤ (List.length mv_0.stack : Int)) (
 guardO (0 < Int.toNat (List.length mv_0.stack : Int) - Int.toNat (IntKind.i64.wrap ((List.length mv_0.stack : Int) - 1))) (
 bindO (idx (List.take (Int.toNat (List.length mv_0.stack : Int) - Int.toNat (IntKind.i64.wrap ((List.length mv_0.stack : Int) - 1))) (List.drop (Int.toNat (IntKind.i64.wrap ((List.length mv_0.stack : Int) - 1))) mv_0.stack)) 0) (fun (xv_1 : Int) =>
 bindO (f_prog_machine_push_p0_s0_2_s0_3 (⟨mv_0.r, (List.take (Int.toNat (IntKind.i64.wrap ((List.length mv_0.stack : Int) - 1))) mv_0.stack), mv_0.out, mv_0.at_, mv_0.bad⟩ : GProg_machine) xv_1) (fun (v_3 : GProg_machine) =>
 bindO (f_prog_machine_push_p0_s0_2_s0_3 v_3 xv_1) (fun (v_4 : GProg_machine) =>
 some (true, v_4))))))))
 else (if (xv_0.Op == 12) = true then (if (decide ((IntKind.i64.wrap ((List.length mv_0.stack : Int) - 2)) < 0)) = true then some (true, (⟨mv_0.r, mv_0.stack, mv_0.out, mv_0.at_, 1⟩ : GProg_machine))
 else guardO (0 ≤ IntKind.i64.wrap ((List.length mv_0.stack : Int) - 2) ∧ IntKind.i64.wrap ((List.length mv_0.stack : Int) - 2) ≤ (List.length mv_0.stack : Int) ∧ (List.length mv_0.stack : Int) ≤ (List.length mv_0.stack : Int) ∧ (List.length mv_0.stack : Int) ≤ (List.length mv_0.stack : Int)) (
 guardO (0 ≤ 0 ∧ 0 ≤ IntKind.i64.wrap ((List.length mv_0.stack : Int) - 2) ∧ IntKind.i64.wrap ((List.length mv_0.stack : Int) - 2) ≤ (List.length mv_0.stack : Int)) (
 guardO (0 < Int.toNat (List.length mv_0.stack : Int) - Int.toNat (IntKind.i64.wrap ((List.length mv_0.stack : Int) - 2))) (
 bindO (idx (List.take (Int.toNat (List.length mv_0.stack : Int) - Int.toNat (IntKind.i64.wrap ((List.length mv_0.stack : Int) - 2))) (List.drop (Int.toNat (IntKind.i64.wrap ((List.length mv_0.stack : Int) - 2))) mv_0.stack)) 0) (fun (xv_2 : Int) =>
 bindO (idx (List.take (Int.toNat (List.length mv_0.stack : Int) - Int.toNat (IntKind.i64.wrap ((List.length mv_0.stack : Int) - 2))) (List.drop (Int.toNat (IntKind.i64.wrap ((List.length mv_0.stack : Int) - 2))) mv_0.stack)) 1) (fun (xv_3 : Int) =>
 bindO (f_prog_machine_push_p0_s0_2_s0_3 (⟨mv_0.r, (List.take (Int.toNat (IntKind.i64.wrap ((List.length mv_0.stack : Int) - 2))) mv_0.stack), mv_0.out, mv_0.at_, mv_0.bad⟩ : GProg_machine) xv_3) (fun (v_5 : GProg_machine) =>
 bindO (f_prog_machine_push_p0_s0_2_s0_3 v_5 xv_2) (fun (v_6 : GProg_machine) =>
 some (true, v_6)))))))))
 else (if (xv_0.Op == 13) = true then (if (decide ((IntKind.i64.wrap ((List.length mv_0.stack : Int) - 1)) < 0)) = true then some (true, (⟨mv_0.r, mv_0.stack, mv_0.out, mv_0.at_, 1⟩ : GProg_machine))
 else guardO (0 ≤ IntKind.i64.wrap ((List.length mv_0.stack : Int) - 1) ∧ IntKind.i64.wrap ((List.length mv_0.stack : Int) - 1) ≤ (List.length mv_0.stack : Int) ∧ (List.length mv_0.stack : Int) ≤ (List.length mv_0.stack : Int) ∧ (List.length mv_0.stack : Int) ≤ (List.length mv_0.stack : Int)) (
 guardO (0 ≤ 0 ∧ 0 ≤ IntKind.i64.wrap ((List.length mv_0.stack : Int) - 1) ∧ IntKind.i64.wrap ((List.length mv_0.stack : Int) - 1) ≤ (List.length mv_0.stack : Int)) (
 some (true, (⟨mv_0.r, (List.take (Int.toNat (IntKind.i64.wrap ((List.length mv_0.stack : Int) - 1))) mv_0.stack), mv_0.out, mv_0.at_, mv_0.bad⟩ : GProg_machine)))))
 else some (false, mv_0)))))))
theorem f_prog_machine_moves_p0_s0_2_s0_3_det (mv_0 : GProg_machine) (xv_0 : GIns)  (r : Bool × GProg_machine) (h : f_prog_machine_moves_p0_s0_2_s0_3 mv_0 xv_0 = some r) : DetS Try.prog 233 [.ptr 0 0, .agg [.v (.int .i64 xv_0.Op), .v (.int .i64 xv_0.N)]] [(0, .box [.v (.int .i64 mv_0.r.K), .v (.int .i64 mv_0.r.V), .osl 1 1 (0) (List.length mv_0.stack), .osl 2 2 (0) (List.length mv_0.out), .v (.int .i64 mv_0.at_), .v (.int .i64 mv_0.bad)]), (1, .arr 1 (enc mv_0.stack)), (2, .arr 2 (enc mv_0.out))] 3 (.v (.bool r.1)) [(0, .box [.v (.int .i64 r.2.r.K), .v (.int .i64 r.2.r.V), .osl 3 1 (0) (List.length r.2.stack), .osl 4 2 (0) (List.length r.2.out), .v (.int .i64 r.2.at_), .v (.int .i64 r.2.bad)]), (3, .arr 1 (enc r.2.stack)), (4, .arr 2 (enc r.2.out))] 5 := by
 unfold DetS
 refine Spec.of_vc Try.func233 rfl (by kernel_rfl) (by kernel_rfl) ?_
 rw [f_prog_machine_moves_p0_s0_2_s0_3] at h
 refine sg fun QQ1 hQ1 => ?_
 simp only [go_sem]
 refine seqQ_normal hQ1 ?_
 refine vc_join (by kernel_rfl) ?_
 refine seq_go_gen ?_
 intro QQ2 hQ2
 refine sg fun QQ3 hQ3 => ?_
 simp only [go_sem]
 refine seqQ_normal hQ3 ?_
 refine vc_block_gen ?_
 intro QQ4 hQ4
 refine sg fun QQ5 hQ5 => ?_
 simp only [go_sem]
 refine seqQ_normal hQ5 ?_
 refine vc_cond_of (b := (xv_0.Op == 1)) (by (simp only [go_sem]; done)) (fun hb_0 => ?_) (fun hb_0 => ?_)
 ·
  replace h := if_t h hb_0
  simp only [bool_to_prop] at hb_0
  obtain ⟨v_0, ev_0, h⟩ := bindO_some h
  simp only [go_sem]
  refine callD [0, 1, 2] (f_prog_machine_push_p0_s0_2_s0_3_det mv_0 xv_0.N v_0 ev_0) (by simp) rfl ⟨rfl, ⟨rfl, ⟨rfl, trivial⟩⟩⟩ rfl rfl rfl rfl ?_
  simp only [go_sem]
  refine blockQ_normal hQ4 ?_
  refine seqQ_normal hQ2 ?_
  refine sg fun QQ6 hQ6 => ?_
  simp only [go_sem]
  refine seqQ_normal hQ6 ?_
  refine vc_ret_of ?_
  simp only [go_sem]
  obtain rfl := Option.some.inj h
  refine retW_det [some 4, some 5] ?_
  simp only [go_sem, Le] <;> (repeat' apply And.intro) <;> first | ((try with_reducible refine TL_eq ?_); omega) | ((try with_reducible refine TL_eq ?_); (simp [go_sem]; done))
 ·
  replace h := if_f h hb_0
  simp only [bool_to_prop] at hb_0
  refine sg fun QQ7 hQ7 => ?_
  simp only [go_sem]
  refine seqQ_normal hQ7 ?_
  refine vc_cond_of (b := (xv_0.Op == 2)) (by (simp only [go_sem]; done)) (fun hb_1 => ?_) (fun hb_1 => ?_)
  ·
   replace h := if_t h hb_1
   simp only [bool_to_prop] at hb_1
   obtain ⟨v_1, ev_1, h⟩ := bindO_some h
   simp only [go_sem]
   refine callD [0, 1, 2] (f_prog_machine_push_p0_s0_2_s0_3_det mv_0 mv_0.r.K v_1 ev_1) (by simp) rfl ⟨rfl, ⟨rfl, ⟨rfl, trivial⟩⟩⟩ rfl rfl rfl rfl ?_
   simp only [go_sem]
   refine blockQ_normal hQ4 ?_
   refine seqQ_normal hQ2 ?_
   refine sg fun QQ8 hQ8 => ?_
   simp only [go_sem]
   refine seqQ_normal hQ8 ?_
   refine vc_ret_of ?_
   simp only [go_sem]
   obtain rfl := Option.some.inj h
   refine retW_det [some 4, some 5] ?_
   simp only [go_sem, Le] <;> (repeat' apply And.intro) <;> first | ((try with_reducible refine TL_eq ?_); omega) | ((try with_reducible refine TL_eq ?_); (simp [go_sem]; done))
  ·
   replace h := if_f h hb_1
   simp only [bool_to_prop] at hb_1
   refine sg fun QQ9 hQ9 => ?_
   simp only [go_sem]
   refine seqQ_normal hQ9 ?_
   refine vc_cond_of (b := (xv_0.Op == 3)) (by (simp only [go_sem]; done)) (fun hb_2 => ?_) (fun hb_2 => ?_)
   ·
    replace h := if_t h hb_2
    simp only [bool_to_prop] at hb_2
    obtain ⟨v_2, ev_2, h⟩ := bindO_some h
    simp only [go_sem]
    refine callD [0, 1, 2] (f_prog_machine_push_p0_s0_2_s0_3_det mv_0 mv_0.r.V v_2 ev_2) (by simp) rfl ⟨rfl, ⟨rfl, ⟨rfl, trivial⟩⟩⟩ rfl rfl rfl rfl ?_
    simp only [go_sem]
    refine blockQ_normal hQ4 ?_
    refine seqQ_normal hQ2 ?_
    refine sg fun QQ10 hQ10 => ?_
    simp only [go_sem]
    refine seqQ_normal hQ10 ?_
    refine vc_ret_of ?_
    simp only [go_sem]
    obtain rfl := Option.some.inj h
    refine retW_det [some 4, some 5] ?_
    simp only [go_sem, Le] <;> (repeat' apply And.intro) <;> first | ((try with_reducible refine TL_eq ?_); omega) | ((try with_reducible refine TL_eq ?_); (simp [go_sem]; done))
   ·
    replace h := if_f h hb_2
    simp only [bool_to_prop] at hb_2
    refine sg fun QQ11 hQ11 => ?_
    simp only [go_sem]
    refine seqQ_normal hQ11 ?_
    refine vc_cond_of (b := (xv_0.Op == 11)) (by (simp only [go_sem]; done)) (fun hb_3 => ?_) (fun hb_3 => ?_)
    ·
     replace h := if_t h hb_3
     simp only [bool_to_prop] at hb_3
     refine sg fun QQ12 hQ12 => ?_
     simp only [go_sem]
     refine callF_inl Try.func234 rfl (by kernel_rfl) (by kernel_rfl) ?_
     refine sg fun QQ13 hQ13 => ?_
     simp only [go_sem]
     refine seqQ_normal hQ13 ?_
     refine sg fun QQ14 hQ14 => ?_
     simp only [go_sem]
     refine seqQ_normal hQ14 ?_
     refine sg fun QQ15 hQ15 => ?_
     refine sg fun QQ16 hQ16 => ?_
     simp only [go_sem]
     refine seqQ_normal hQ16 ?_
     refine vc_cond_of (b := (decide ((IntKind.i64.wrap ((List.length mv_0.stack : Int) - 1)) < 0))) (by (simp only [go_sem]; done)) (fun hb_4 => ?_) (fun hb_4 => ?_)
     ·
      replace h := if_t h hb_4
      simp only [bool_to_prop] at hb_4
      refine sg fun QQ17 hQ17 => ?_
      simp only [go_sem]
      refine seqQ_normal hQ17 ?_
      refine sg fun QQ18 hQ18 => ?_
      simp only [go_sem]
      refine seqQ_normal hQ18 ?_
      refine vc_ret_of ?_
      refine seqQ_ret hQ15 ?_
      simp only [go_sem]
      refine retW_inl [] [(0, .box [.v (.int .i64 mv_0.r.K), .v (.int .i64 mv_0.r.V), .osl 1 1 (0) (List.length mv_0.stack), .osl 2 2 (0) (List.length mv_0.out), .v (.int .i64 mv_0.at_), .v (.int .i64 1)]), (1, .arr 1 (enc mv_0.stack)), (2, .arr 2 (enc mv_0.out)), (3, .box [.v (.int .i64 xv_0.Op), .v (.int .i64 xv_0.N)])] 4 (.v (.slice none 0 0)) ?_ ?_
      · simp only [go_sem, Le] <;> (repeat' apply And.intro) <;> first | ((try with_reducible refine TL_eq ?_); omega) | ((try with_reducible refine TL_eq ?_); (simp [go_sem]; done))
      refine inlK_of ?_
      simp only [go_sem]
      refine seqQ_normal hQ12 ?_
      refine sg fun QQ19 hQ19 => ?_
      simp only [go_sem]
      refine seqQ_normal hQ19 ?_
      refine vc_cond_f (by (simp only [go_sem]; done)) ?_
      refine vc_skip_of ?_
      refine blockQ_normal hQ4 ?_
      refine seqQ_normal hQ2 ?_
      refine sg fun QQ20 hQ20 => ?_
      simp only [go_sem]
      refine seqQ_normal hQ20 ?_
      refine vc_ret_of ?_
      simp only [go_sem]
      obtain rfl := Option.some.inj h
      refine retW_det [some 1, some 2] ?_
      simp only [go_sem, Le] <;> (repeat' apply And.intro) <;> first | ((try with_reducible refine TL_eq ?_); omega) | ((try with_reducible refine TL_eq ?_); (simp [go_sem]; done))
     ·
      replace h := if_f h hb_4
      simp only [bool_to_prop] at hb_4
      refine vc_skip_of ?_
      refine seqQ_normal hQ15 ?_
      refine sg fun QQ21 hQ21 => ?_
      refine vc_draw ?_
      refine drawM_tail 15 [0, 1, 3, 7, 0, 0, 32, 96, 224, 480, 0, 1024, 3072, 7168, 15360, 32767, 65535] mixed (by kernel_rfl) (of_decide_eq_true (by kernel_rfl)) (by kernel_rfl) ?_
      obtain ⟨g_0, h⟩ := guardO_some h
      simp only [go_sem, g_0]
      refine seqQ_normal hQ21 ?_
      refine sg fun QQ22 hQ22 => ?_
      obtain ⟨g_1, h⟩ := guardO_some h
      simp only [go_sem, g_1]
      refine seqQ_normal hQ22 ?_
      refine sg fun QQ23 hQ23 => ?_
      simp only [go_sem]
      refine seqQ_normal hQ23 ?_
      refine vc_ret_of ?_
      simp only [go_sem]
      refine retW_inl [] [(0, .box [.v (.int .i64 mv_0.r.K), .v (.int .i64 mv_0.r.V), .osl 1 1 (0) (Int.toNat (IntKind.i64.wrap ((List.length mv_0.stack : Int) - 1))), .osl 2 2 (0) (List.length mv_0.out), .v (.int .i64 mv_0.at_), .v (.int .i64 mv_0.bad)]), (1, .arr 1 (enc mv_0.stack)), (2, .arr 2 (enc mv_0.out)), (3, .box [.v (.int .i64 xv_0.Op), .v (.int .i64 xv_0.N)])] 4 (.osl 1 1 (Int.toNat (IntKind.i64.wrap ((List.length mv_0.stack : Int) - 1))) (Int.toNat (List.length mv_0.stack : Int) - Int.toNat (IntKind.i64.wrap ((List.length mv_0.stack : Int) - 1)))) ?_ ?_
      · simp only [go_sem, Le] <;> (repeat' apply And.intro) <;> first | ((try with_reducible refine TL_eq ?_); omega) | ((try with_reducible refine TL_eq ?_); (simp [go_sem]; done))
      refine inlK_of ?_
      simp only [go_sem]
      refine seqQ_normal hQ12 ?_
      refine sg fun QQ24 hQ24 => ?_
      obtain ⟨g_2, h⟩ := guardO_some h
      simp only [go_sem, g_2]
      refine And.intro (by omega) ?_
      refine seqQ_normal hQ24 ?_
      refine vc_cond_t (by (simp only [go_sem]; done)) ?_
      refine sg fun QQ25 hQ25 => ?_
      obtain ⟨xv_1, exv_1, h⟩ := bindO_some h
      obtain ⟨fxv_1a, fxv_1b, fxv_1c, fxv_1d⟩ := idx_part exv_1
      simp only [Int.toNat_natCast, Int.reduceToNat, Nat.zero_add, Nat.add_zero] at fxv_1c fxv_1d
      simp only [go_sem, fxv_1a, fxv_1b, fxv_1c, fxv_1d]
      refine And.intro (by omega) ?_
      refine seqQ_normal hQ25 ?_
      refine sg fun QQ26 hQ26 => ?_
      obtain ⟨v_3, ev_3, h⟩ := bindO_some h
      simp only [go_sem]
      refine callF_weak (s' := (⟨3, [(0, .ptr 0 0), (1, .agg [.v (.int .i64 xv_0.Op), .v (.int .i64 xv_0.N)]), (3, .ptr 3 0), (4, .v (.bool false)), (5, .osl 1 1 (Int.toNat (IntKind.i64.wrap ((List.length mv_0.stack : Int) - 1))) (Int.toNat (List.length mv_0.stack : Int) - Int.toNat (IntKind.i64.wrap ((List.length mv_0.stack : Int) - 1)))), (6, .v (.int .i64 xv_1)), (10, .ptr 3 0), (11, .v (.int .i64 xv_0.Op)), (12, .v (.bool (xv_0.Op == 1))), (13, .v (.bool (xv_0.Op == 1))), (18, .v (.bool (xv_0.Op == 2))), (19, .v (.bool (xv_0.Op == 2))), (27, .v (.bool (xv_0.Op == 3))), (28, .v (.bool (xv_0.Op == 3))), (36, .v (.bool (xv_0.Op == 11))), (37, .v (.bool (xv_0.Op == 11))), (38, .ptr 0 0), (39, .osl 1 1 (Int.toNat (IntKind.i64.wrap ((List.length mv_0.stack : Int) - 1))) (Int.toNat (List.length mv_0.stack : Int) - Int.toNat (IntKind.i64.wrap ((List.length mv_0.stack : Int) - 1)))), (40, .osl 1 1 (Int.toNat (IntKind.i64.wrap ((List.length mv_0.stack : Int) - 1))) (Int.toNat (List.length mv_0.stack : Int) - Int.toNat (IntKind.i64.wrap ((List.length mv_0.stack : Int) - 1)))), (41, .v (.bool true)), (42, .osl 1 1 (Int.toNat (IntKind.i64.wrap ((List.length mv_0.stack : Int) - 1))) (Int.toNat (List.length mv_0.stack : Int) - Int.toNat (IntKind.i64.wrap ((List.length mv_0.stack : Int) - 1)))), (44, .v (.int .i64 xv_1)), (45, .ptr 0 0), (46, .v (.int .i64 xv_1))], [(0, .box [.v (.int .i64 mv_0.r.K), .v (.int .i64 mv_0.r.V), .osl 1 1 (0) (List.length (List.take (Int.toNat (IntKind.i64.wrap ((List.length mv_0.stack : Int) - 1))) mv_0.stack)), .osl 2 2 (0) (List.length mv_0.out), .v (.int .i64 mv_0.at_), .v (.int .i64 mv_0.bad)]), (1, .arr 1 (enc (List.take (Int.toNat (IntKind.i64.wrap ((List.length mv_0.stack : Int) - 1))) mv_0.stack))), (2, .arr 2 (enc mv_0.out)), (3, .box [.v (.int .i64 xv_0.Op), .v (.int .i64 xv_0.N)])], 4, 73⟩ : St)) (l := [some 3]) (args' := [.ptr 0 0, .v (.int .i64 xv_1)]) ?_ ?_ ?_
      · simp only [go_sem, Le] <;> (repeat' apply And.intro) <;> first | (with_reducible exact TL_enc _ _) | ((try with_reducible refine TL_eq ?_); omega) | ((try with_reducible refine TL_eq ?_); (simp [go_sem]; done)) | ((try with_reducible refine TL_eq ?_); (simp [enc_len, enc]; omega))
      · simp only [go_sem, Le]
      refine callD [0, 1, 2] (f_prog_machine_push_p0_s0_2_s0_3_det (⟨mv_0.r, (List.take (Int.toNat (IntKind.i64.wrap ((List.length mv_0.stack : Int) - 1))) mv_0.stack), mv_0.out, mv_0.at_, mv_0.bad⟩ : GProg_machine) xv_1 v_3 ev_3) (by simp) rfl ⟨rfl, ⟨rfl, ⟨rfl, trivial⟩⟩⟩ rfl rfl rfl rfl ?_
      simp only [go_sem]
      refine seqQ_normal hQ26 ?_
      obtain ⟨v_4, ev_4, h⟩ := bindO_some h
      simp only [go_sem]
      refine callD [0, 4, 5] (f_prog_machine_push_p0_s0_2_s0_3_det v_3 xv_1 v_4 ev_4) (by simp) rfl ⟨rfl, ⟨rfl, ⟨rfl, trivial⟩⟩⟩ rfl rfl rfl rfl ?_
      simp only [go_sem]
      refine blockQ_normal hQ4 ?_
      refine seqQ_normal hQ2 ?_
      refine sg fun QQ27 hQ27 => ?_
      simp only [go_sem]
      refine seqQ_normal hQ27 ?_
      refine vc_ret_of ?_
      simp only [go_sem]
      obtain rfl := Option.some.inj h
      refine retW_det [some 6, some 7] ?_
      simp only [go_sem, Le] <;> (repeat' apply And.intro) <;> first | ((try with_reducible refine TL_eq ?_); omega) | ((try with_reducible refine TL_eq ?_); (simp [go_sem]; done))
    ·
     replace h := if_f h hb_3
     simp only [bool_to_prop] at hb_3
     refine sg fun QQ28 hQ28 => ?_
     simp only [go_sem]
     refine seqQ_normal hQ28 ?_
     refine vc_cond_of (b := (xv_0.Op == 12)) (by (simp only [go_sem]; done)) (fun hb_5 => ?_) (fun hb_5 => ?_)
     ·
      replace h := if_t h hb_5
      simp only [bool_to_prop] at hb_5
      refine sg fun QQ29 hQ29 => ?_
      simp only [go_sem]
      refine callF_inl Try.func234 rfl (by kernel_rfl) (by kernel_rfl) ?_
      refine sg fun QQ30 hQ30 => ?_
      simp only [go_sem]
      refine seqQ_normal hQ30 ?_
      refine sg fun QQ31 hQ31 => ?_
      simp only [go_sem]
      refine seqQ_normal hQ31 ?_
      refine sg fun QQ32 hQ32 => ?_
      refine sg fun QQ33 hQ33 => ?_
      simp only [go_sem]
      refine seqQ_normal hQ33 ?_
      refine vc_cond_of (b := (decide ((IntKind.i64.wrap ((List.length mv_0.stack : Int) - 2)) < 0))) (by (simp only [go_sem]; done)) (fun hb_6 => ?_) (fun hb_6 => ?_)
      ·
       replace h := if_t h hb_6
       simp only [bool_to_prop] at hb_6
       refine sg fun QQ34 hQ34 => ?_
       simp only [go_sem]
       refine seqQ_normal hQ34 ?_
       refine sg fun QQ35 hQ35 => ?_
       simp only [go_sem]
       refine seqQ_normal hQ35 ?_
       refine vc_ret_of ?_
       refine seqQ_ret hQ32 ?_
       simp only [go_sem]
       refine retW_inl [] [(0, .box [.v (.int .i64 mv_0.r.K), .v (.int .i64 mv_0.r.V), .osl 1 1 (0) (List.length mv_0.stack), .osl 2 2 (0) (List.length mv_0.out), .v (.int .i64 mv_0.at_), .v (.int .i64 1)]), (1, .arr 1 (enc mv_0.stack)), (2, .arr 2 (enc mv_0.out)), (3, .box [.v (.int .i64 xv_0.Op), .v (.int .i64 xv_0.N)])] 4 (.v (.slice none 0 0)) ?_ ?_
       · simp only [go_sem, Le] <;> (repeat' apply And.intro) <;> first | ((try with_reducible refine TL_eq ?_); omega) | ((try with_reducible refine TL_eq ?_); (simp [go_sem]; done))
       refine inlK_of ?_
       simp only [go_sem]
       refine seqQ_normal hQ29 ?_
       refine sg fun QQ36 hQ36 => ?_
       simp only [go_sem]
       refine seqQ_normal hQ36 ?_
       refine vc_cond_f (by (simp only [go_sem]; done)) ?_
       refine vc_skip_of ?_
       refine blockQ_normal hQ4 ?_
       refine seqQ_normal hQ2 ?_
       refine sg fun QQ37 hQ37 => ?_
       simp only [go_sem]
       refine seqQ_normal hQ37 ?_
       refine vc_ret_of ?_
       simp only [go_sem]
       obtain rfl := Option.some.inj h
       refine retW_det [some 1, some 2] ?_
       simp only [go_sem, Le] <;> (repeat' apply And.intro) <;> first | ((try with_reducible refine TL_eq ?_); omega) | ((try with_reducible refine TL_eq ?_); (simp [go_sem]; done))
      ·
       replace h := if_f h hb_6
       simp only [bool_to_prop] at hb_6
       refine vc_skip_of ?_
       refine seqQ_normal hQ32 ?_
       refine sg fun QQ38 hQ38 => ?_
       refine vc_draw ?_
       refine drawM_tail 15 [0, 1, 3, 7, 0, 0, 32, 96, 224, 480, 0, 1024, 3072, 7168, 15360, 32767, 65535] mixed (by kernel_rfl) (of_decide_eq_true (by kernel_rfl)) (by kernel_rfl) ?_
       obtain ⟨g_3, h⟩ := guardO_some h
       simp only [go_sem, g_3]
       refine seqQ_normal hQ38 ?_
       refine sg fun QQ39 hQ39 => ?_
       obtain ⟨g_4, h⟩ := guardO_some h
       simp only [go_sem, g_4]
       refine seqQ_normal hQ39 ?_
       refine sg fun QQ40 hQ40 => ?_
       simp only [go_sem]
       refine seqQ_normal hQ40 ?_
       refine vc_ret_of ?_
       simp only [go_sem]
       refine retW_inl [] [(0, .box [.v (.int .i64 mv_0.r.K), .v (.int .i64 mv_0.r.V), .osl 1 1 (0) (Int.toNat (IntKind.i64.wrap ((List.length mv_0.stack : Int) - 2))), .osl 2 2 (0) (List.length mv_0.out), .v (.int .i64 mv_0.at_), .v (.int .i64 mv_0.bad)]), (1, .arr 1 (enc mv_0.stack)), (2, .arr 2 (enc mv_0.out)), (3, .box [.v (.int .i64 xv_0.Op), .v (.int .i64 xv_0.N)])] 4 (.osl 1 1 (Int.toNat (IntKind.i64.wrap ((List.length mv_0.stack : Int) - 2))) (Int.toNat (List.length mv_0.stack : Int) - Int.toNat (IntKind.i64.wrap ((List.length mv_0.stack : Int) - 2)))) ?_ ?_
       · simp only [go_sem, Le] <;> (repeat' apply And.intro) <;> first | ((try with_reducible refine TL_eq ?_); omega) | ((try with_reducible refine TL_eq ?_); (simp [go_sem]; done))
       refine inlK_of ?_
       simp only [go_sem]
       refine seqQ_normal hQ29 ?_
       refine sg fun QQ41 hQ41 => ?_
       obtain ⟨g_5, h⟩ := guardO_some h
       simp only [go_sem, g_5]
       refine And.intro (by omega) ?_
       refine seqQ_normal hQ41 ?_
       refine vc_cond_t (by (simp only [go_sem]; done)) ?_
       refine sg fun QQ42 hQ42 => ?_
       refine vc_draw ?_
       refine drawM_tail 7 [0, 1, 3, 0, 8, 24, 7, 127] mixed (by kernel_rfl) (of_decide_eq_true (by kernel_rfl)) (by kernel_rfl) ?_
       obtain ⟨xv_2, exv_2, h⟩ := bindO_some h
       obtain ⟨fxv_2a, fxv_2b, fxv_2c, fxv_2d⟩ := idx_part exv_2
       simp only [Int.toNat_natCast, Int.reduceToNat, Nat.zero_add, Nat.add_zero] at fxv_2c fxv_2d
       obtain ⟨xv_3, exv_3, h⟩ := bindO_some h
       obtain ⟨fxv_3a, fxv_3b, fxv_3c, fxv_3d⟩ := idx_part exv_3
       simp only [Int.toNat_natCast, Int.reduceToNat, Nat.zero_add, Nat.add_zero] at fxv_3c fxv_3d
       simp only [go_sem, fxv_2a, fxv_2b, fxv_2c, fxv_2d, fxv_3a, fxv_3b, fxv_3c, fxv_3d]
       refine And.intro (by omega) ?_
       refine And.intro (by omega) ?_
       refine seqQ_normal hQ42 ?_
       refine sg fun QQ43 hQ43 => ?_
       obtain ⟨v_5, ev_5, h⟩ := bindO_some h
       simp only [go_sem]
       refine callF_weak (s' := (⟨3, [(0, .ptr 0 0), (1, .agg [.v (.int .i64 xv_0.Op), .v (.int .i64 xv_0.N)]), (3, .ptr 3 0), (4, .v (.bool false)), (7, .osl 1 1 (Int.toNat (IntKind.i64.wrap ((List.length mv_0.stack : Int) - 2))) (Int.toNat (List.length mv_0.stack : Int) - Int.toNat (IntKind.i64.wrap ((List.length mv_0.stack : Int) - 2)))), (8, .v (.int .i64 xv_2)), (9, .v (.int .i64 xv_3)), (10, .ptr 3 0), (11, .v (.int .i64 xv_0.Op)), (12, .v (.bool (xv_0.Op == 1))), (13, .v (.bool (xv_0.Op == 1))), (18, .v (.bool (xv_0.Op == 2))), (19, .v (.bool (xv_0.Op == 2))), (27, .v (.bool (xv_0.Op == 3))), (28, .v (.bool (xv_0.Op == 3))), (36, .v (.bool (xv_0.Op == 11))), (37, .v (.bool (xv_0.Op == 11))), (51, .v (.bool (xv_0.Op == 12))), (52, .v (.bool (xv_0.Op == 12))), (53, .ptr 0 0), (54, .osl 1 1 (Int.toNat (IntKind.i64.wrap ((List.length mv_0.stack : Int) - 2))) (Int.toNat (List.length mv_0.stack : Int) - Int.toNat (IntKind.i64.wrap ((List.length mv_0.stack : Int) - 2)))), (55, .osl 1 1 (Int.toNat (IntKind.i64.wrap ((List.length mv_0.stack : Int) - 2))) (Int.toNat (List.length mv_0.stack : Int) - Int.toNat (IntKind.i64.wrap ((List.length mv_0.stack : Int) - 2)))), (56, .v (.bool true)), (57, .osl 1 1 (Int.toNat (IntKind.i64.wrap ((List.length mv_0.stack : Int) - 2))) (Int.toNat (List.length mv_0.stack : Int) - Int.toNat (IntKind.i64.wrap ((List.length mv_0.stack : Int) - 2)))), (59, .v (.int .i64 xv_2)), (60, .osl 1 1 (Int.toNat (IntKind.i64.wrap ((List.length mv_0.stack : Int) - 2))) (Int.toNat (List.length mv_0.stack : Int) - Int.toNat (IntKind.i64.wrap ((List.length mv_0.stack : Int) - 2)))), (62, .v (.int .i64 xv_3)), (63, .ptr 0 0), (64, .v (.int .i64 xv_3))], [(0, .box [.v (.int .i64 mv_0.r.K), .v (.int .i64 mv_0.r.V), .osl 1 1 (0) (List.length (List.take (Int.toNat (IntKind.i64.wrap ((List.length mv_0.stack : Int) - 2))) mv_0.stack)), .osl 2 2 (0) (List.length mv_0.out), .v (.int .i64 mv_0.at_), .v (.int .i64 mv_0.bad)]), (1, .arr 1 (enc (List.take (Int.toNat (IntKind.i64.wrap ((List.length mv_0.stack : Int) - 2))) mv_0.stack))), (2, .arr 2 (enc mv_0.out)), (3, .box [.v (.int .i64 xv_0.Op), .v (.int .i64 xv_0.N)])], 4, 73⟩ : St)) (l := [some 3]) (args' := [.ptr 0 0, .v (.int .i64 xv_3)]) ?_ ?_ ?_
       · simp only [go_sem, Le] <;> (repeat' apply And.intro) <;> first | (with_reducible exact TL_enc _ _) | ((try with_reducible refine TL_eq ?_); omega) | ((try with_reducible refine TL_eq ?_); (simp [go_sem]; done)) | ((try with_reducible refine TL_eq ?_); (simp [enc_len, enc]; omega))
       · simp only [go_sem, Le]
       refine callD [0, 1, 2] (f_prog_machine_push_p0_s0_2_s0_3_det (⟨mv_0.r, (List.take (Int.toNat (IntKind.i64.wrap ((List.length mv_0.stack : Int) - 2))) mv_0.stack), mv_0.out, mv_0.at_, mv_0.bad⟩ : GProg_machine) xv_3 v_5 ev_5) (by simp) rfl ⟨rfl, ⟨rfl, ⟨rfl, trivial⟩⟩⟩ rfl rfl rfl rfl ?_
       simp only [go_sem]
       refine seqQ_normal hQ43 ?_
       obtain ⟨v_6, ev_6, h⟩ := bindO_some h
       simp only [go_sem]
       refine callD [0, 4, 5] (f_prog_machine_push_p0_s0_2_s0_3_det v_5 xv_2 v_6 ev_6) (by simp) rfl ⟨rfl, ⟨rfl, ⟨rfl, trivial⟩⟩⟩ rfl rfl rfl rfl ?_
       simp only [go_sem]
       refine blockQ_normal hQ4 ?_
       refine seqQ_normal hQ2 ?_
       refine sg fun QQ44 hQ44 => ?_
       simp only [go_sem]
       refine seqQ_normal hQ44 ?_
       refine vc_ret_of ?_
       simp only [go_sem]
       obtain rfl := Option.some.inj h
       refine retW_det [some 6, some 7] ?_
       simp only [go_sem, Le] <;> (repeat' apply And.intro) <;> first | ((try with_reducible refine TL_eq ?_); omega) | ((try with_reducible refine TL_eq ?_); (simp [go_sem]; done))
     ·
      replace h := if_f h hb_5
      simp only [bool_to_prop] at hb_5
      refine sg fun QQ45 hQ45 => ?_
      simp only [go_sem]
      refine seqQ_normal hQ45 ?_
      refine vc_cond_of (b := (xv_0.Op == 13)) (by (simp only [go_sem]; done)) (fun hb_7 => ?_) (fun hb_7 => ?_)
      ·
       replace h := if_t h hb_7
       simp only [bool_to_prop] at hb_7
       simp only [go_sem]
       refine callF_inl Try.func234 rfl (by kernel_rfl) (by kernel_rfl) ?_
       refine sg fun QQ46 hQ46 => ?_
       simp only [go_sem]
       refine seqQ_normal hQ46 ?_
       refine sg fun QQ47 hQ47 => ?_
       simp only [go_sem]
       refine seqQ_normal hQ47 ?_
       refine sg fun QQ48 hQ48 => ?_
       refine sg fun QQ49 hQ49 => ?_
       simp only [go_sem]
       refine seqQ_normal hQ49 ?_
       refine vc_cond_of (b := (decide ((IntKind.i64.wrap ((List.length mv_0.stack : Int) - 1)) < 0))) (by (simp only [go_sem]; done)) (fun hb_8 => ?_) (fun hb_8 => ?_)
       ·
        replace h := if_t h hb_8
        simp only [bool_to_prop] at hb_8
        refine sg fun QQ50 hQ50 => ?_
        simp only [go_sem]
        refine seqQ_normal hQ50 ?_
        refine sg fun QQ51 hQ51 => ?_
        simp only [go_sem]
        refine seqQ_normal hQ51 ?_
        refine vc_ret_of ?_
        refine seqQ_ret hQ48 ?_
        simp only [go_sem]
        refine retW_inl [] [(0, .box [.v (.int .i64 mv_0.r.K), .v (.int .i64 mv_0.r.V), .osl 1 1 (0) (List.length mv_0.stack), .osl 2 2 (0) (List.length mv_0.out), .v (.int .i64 mv_0.at_), .v (.int .i64 1)]), (1, .arr 1 (enc mv_0.stack)), (2, .arr 2 (enc mv_0.out)), (3, .box [.v (.int .i64 xv_0.Op), .v (.int .i64 xv_0.N)])] 4 (.v (.slice none 0 0)) ?_ ?_
        · simp only [go_sem, Le] <;> (repeat' apply And.intro) <;> first | ((try with_reducible refine TL_eq ?_); omega) | ((try with_reducible refine TL_eq ?_); (simp [go_sem]; done))
        refine inlK_of ?_
        simp only [go_sem]
        refine blockQ_normal hQ4 ?_
        refine seqQ_normal hQ2 ?_
        refine sg fun QQ52 hQ52 => ?_
        simp only [go_sem]
        refine seqQ_normal hQ52 ?_
        refine vc_ret_of ?_
        simp only [go_sem]
        obtain rfl := Option.some.inj h
        refine retW_det [some 1, some 2] ?_
        simp only [go_sem, Le] <;> (repeat' apply And.intro) <;> first | ((try with_reducible refine TL_eq ?_); omega) | ((try with_reducible refine TL_eq ?_); (simp [go_sem]; done))
       ·
        replace h := if_f h hb_8
        simp only [bool_to_prop] at hb_8
        refine vc_skip_of ?_
        refine seqQ_normal hQ48 ?_
        refine sg fun QQ53 hQ53 => ?_
        refine vc_draw ?_
        refine drawM_tail 15 [0, 1, 3, 7, 0, 0, 32, 96, 224, 480, 0, 1024, 3072, 7168, 15360, 32767, 65535] mixed (by kernel_rfl) (of_decide_eq_true (by kernel_rfl)) (by kernel_rfl) ?_
        obtain ⟨g_6, h⟩ := guardO_some h
        simp only [go_sem, g_6]
        refine seqQ_normal hQ53 ?_
        refine sg fun QQ54 hQ54 => ?_
        obtain ⟨g_7, h⟩ := guardO_some h
        simp only [go_sem, g_7]
        refine seqQ_normal hQ54 ?_
        refine sg fun QQ55 hQ55 => ?_
        simp only [go_sem]
        refine seqQ_normal hQ55 ?_
        refine vc_ret_of ?_
        simp only [go_sem]
        refine retW_inl [] [(0, .box [.v (.int .i64 mv_0.r.K), .v (.int .i64 mv_0.r.V), .osl 1 1 (0) (Int.toNat (IntKind.i64.wrap ((List.length mv_0.stack : Int) - 1))), .osl 2 2 (0) (List.length mv_0.out), .v (.int .i64 mv_0.at_), .v (.int .i64 mv_0.bad)]), (1, .arr 1 (enc mv_0.stack)), (2, .arr 2 (enc mv_0.out)), (3, .box [.v (.int .i64 xv_0.Op), .v (.int .i64 xv_0.N)])] 4 (.osl 1 1 (Int.toNat (IntKind.i64.wrap ((List.length mv_0.stack : Int) - 1))) (Int.toNat (List.length mv_0.stack : Int) - Int.toNat (IntKind.i64.wrap ((List.length mv_0.stack : Int) - 1)))) ?_ ?_
        · simp only [go_sem, Le] <;> (repeat' apply And.intro) <;> first | ((try with_reducible refine TL_eq ?_); omega) | ((try with_reducible refine TL_eq ?_); (simp [go_sem]; done))
        refine inlK_of ?_
        simp only [go_sem]
        refine blockQ_normal hQ4 ?_
        refine seqQ_normal hQ2 ?_
        refine sg fun QQ56 hQ56 => ?_
        simp only [go_sem]
        refine seqQ_normal hQ56 ?_
        refine vc_ret_of ?_
        simp only [go_sem]
        obtain rfl := Option.some.inj h
        refine retW_det [some 1, some 2] ?_
        simp only [go_sem, Le] <;> (repeat' apply And.intro) <;> first | (with_reducible exact TL_enc _ _) | ((try with_reducible refine TL_eq ?_); omega) | ((try with_reducible refine TL_eq ?_); (simp [go_sem]; done)) | ((try with_reducible refine TL_eq ?_); (simp [enc_len, enc]; omega))
      ·
       replace h := if_f h hb_7
       simp only [bool_to_prop] at hb_7
       refine sg fun QQ57 hQ57 => ?_
       simp only [go_sem]
       refine seqQ_normal hQ57 ?_
       refine vc_ret_of ?_
       refine blockQ_ret hQ4 ?_
       refine seqQ_ret hQ2 ?_
       simp only [go_sem]
       obtain rfl := Option.some.inj h
       refine retW_det [some 1, some 2] ?_
       simp only [go_sem, Le] <;> (repeat' apply And.intro) <;> first | ((try with_reducible refine TL_eq ?_); omega) | ((try with_reducible refine TL_eq ?_); (simp [go_sem]; done))

def f_prog_times_1 (nv_0 : Int) : Option Int :=
 (if (decide (nv_0 < 0)) = true then some (IntKind.u64.wrap (0 - (IntKind.u64.wrap nv_0)))
 else some (IntKind.u64.wrap nv_0))
theorem f_prog_times_1_ok (nv_0 : Int)  (r : Int) (h : f_prog_times_1 nv_0 = some r) : PureS Try.prog 241 [.v (.int .i64 nv_0)] 0 (.v (.int .u64 r)) := by
 unfold PureS
 refine Spec.of_vc Try.func241 rfl (by kernel_rfl) (by kernel_rfl) ?_
 rw [f_prog_times_1] at h
 refine sg fun QQ1 hQ1 => ?_
 simp only [go_sem]
 refine seqQ_normal hQ1 ?_
 refine sg fun QQ2 hQ2 => ?_
 refine sg fun QQ3 hQ3 => ?_
 simp only [go_sem]
 refine seqQ_normal hQ3 ?_
 refine vc_cond_of (b := (decide (nv_0 < 0))) (by (simp only [go_sem]; done)) (fun hb_0 => ?_) (fun hb_0 => ?_)
 ·
  replace h := if_t h hb_0
  simp only [bool_to_prop] at hb_0
  refine sg fun QQ4 hQ4 => ?_
  simp only [go_sem]
  refine seqQ_normal hQ4 ?_
  refine vc_ret_of ?_
  refine seqQ_ret hQ2 ?_
  simp only [go_sem]
  obtain rfl := Option.some.inj h
  refine retW_pure rfl ?_
  simp only [go_sem, Le]
 ·
  replace h := if_f h hb_0
  simp only [bool_to_prop] at hb_0
  refine vc_skip_of ?_
  refine seqQ_normal hQ2 ?_
  refine sg fun QQ5 hQ5 => ?_
  simp only [go_sem]
  refine seqQ_normal hQ5 ?_
  refine vc_ret_of ?_
  simp only [go_sem]
  obtain rfl := Option.some.inj h
  refine retW_pure rfl ?_
  simp only [go_sem, Le]

def f_math_bits_Mul64 (xv_0 : Int) (y_0 : Int) : Option (Int × Int) :=
 some (IntKind.u64.wrap ((IntKind.u64.wrap ((IntKind.u64.wrap ((shrI .u64 xv_0 32) * (shrI .u64 y_0 32))) + (shrI .u64 (IntKind.u64.wrap ((IntKind.u64.wrap ((shrI .u64 xv_0 32) * (andI .u64 y_0 4294967295))) + (shrI .u64 (IntKind.u64.wrap ((andI .u64 xv_0 4294967295) * (andI .u64 y_0 4294967295))) 32))) 32))) + (shrI .u64 (IntKind.u64.wrap ((andI .u64 (IntKind.u64.wrap ((IntKind.u64.wrap ((shrI .u64 xv_0 32) * (andI .u64 y_0 4294967295))) + (shrI .u64 (IntKind.u64.wrap ((andI .u64 xv_0 4294967295) * (andI .u64 y_0 4294967295))) 32))) 4294967295) + (IntKind.u64.wrap ((andI .u64 xv_0 4294967295) * (shrI .u64 y_0 32))))) 32)), IntKind.u64.wrap (xv_0 * y_0))
theorem f_math_bits_Mul64_ok (xv_0 : Int) (y_0 : Int)  (r : Int × Int) (h : f_math_bits_Mul64 xv_0 y_0 = some r) : PureS Try.prog 224 [.v (.int .u64 xv_0), .v (.int .u64 y_0)] 0 (.tup [.v (.int .u64 r.1), .v (.int .u64 r.2)]) := by
 unfold PureS
 refine Spec.of_vc Try.func224 rfl (by kernel_rfl) (by kernel_rfl) ?_
 rw [f_math_bits_Mul64] at h
 refine sg fun QQ1 hQ1 => ?_
 simp only [go_sem]
 refine seqQ_normal hQ1 ?_
 refine sg fun QQ2 hQ2 => ?_
 simp only [go_sem]
 refine seqQ_normal hQ2 ?_
 refine sg fun QQ3 hQ3 => ?_
 simp only [go_sem]
 refine seqQ_normal hQ3 ?_
 refine sg fun QQ4 hQ4 => ?_
 simp only [go_sem]
 refine seqQ_normal hQ4 ?_
 refine sg fun QQ5 hQ5 => ?_
 simp only [go_sem]
 refine seqQ_normal hQ5 ?_
 refine sg fun QQ6 hQ6 => ?_
 simp only [go_sem]
 refine seqQ_normal hQ6 ?_
 refine sg fun QQ7 hQ7 => ?_
 simp only [go_sem]
 refine seqQ_normal hQ7 ?_
 refine sg fun QQ8 hQ8 => ?_
 simp only [go_sem]
 refine seqQ_normal hQ8 ?_
 refine sg fun QQ9 hQ9 => ?_
 simp only [go_sem]
 refine seqQ_normal hQ9 ?_
 refine sg fun QQ10 hQ10 => ?_
 simp only [go_sem]
 refine seqQ_normal hQ10 ?_
 refine sg fun QQ11 hQ11 => ?_
 simp only [go_sem]
 refine seqQ_normal hQ11 ?_
 refine sg fun QQ12 hQ12 => ?_
 simp only [go_sem]
 refine seqQ_normal hQ12 ?_
 refine vc_ret_of ?_
 simp only [go_sem]
 obtain rfl := Option.some.inj h
 refine retW_pure rfl ?_
 simp only [go_sem, Le]

def f_prog_times (a_0 : Int) (b_0 : Int) : Option (Int × Bool) :=
 bindO (f_prog_times_1 a_0) (fun (v_0 : Int) =>
 bindO (f_prog_times_1 b_0) (fun (v_1 : Int) =>
 bindO (f_math_bits_Mul64 v_0 v_1) (fun (v_2 : Int × Int) =>
 (if (!((decide (a_0 < 0)) == (decide (b_0 < 0)))) = true then some (IntKind.i64.wrap (0 - (IntKind.i64.wrap v_2.2)), ((v_2.1 == 0) && (decide (v_2.2 ≤ 9223372036854775808))))
 else some (IntKind.i64.wrap v_2.2, ((v_2.1 == 0) && (decide (v_2.2 < 9223372036854775808))))))))
theorem f_prog_times_ok (a_0 : Int) (b_0 : Int)  (r : Int × Bool) (h : f_prog_times a_0 b_0 = some r) : PureS Try.prog 239 [.v (.int .i64 a_0), .v (.int .i64 b_0)] 0 (.tup [.v (.int .i64 r.1), .v (.bool r.2)]) := by
 unfold PureS
 refine Spec.of_vc Try.func239 rfl (by kernel_rfl) (by kernel_rfl) ?_
 rw [f_prog_times] at h
 refine sg fun QQ1 hQ1 => ?_
 simp only [go_sem]
 refine seqQ_normal hQ1 ?_
 refine sg fun QQ2 hQ2 => ?_
 simp only [go_sem]
 refine seqQ_normal hQ2 ?_
 refine sg fun QQ3 hQ3 => ?_
 obtain ⟨v_0, ev_0, h⟩ := bindO_some h
 simp only [go_sem]
 refine call0 (f_prog_times_1_ok a_0 v_0 ev_0) (by rfl) (by rfl) ?_
 obtain ⟨v_1, ev_1, h⟩ := bindO_some h
 simp only [go_sem]
 refine call0 (f_prog_times_1_ok b_0 v_1 ev_1) (by rfl) (by rfl) ?_
 obtain ⟨v_2, ev_2, h⟩ := bindO_some h
 simp only [go_sem]
 refine call0 (f_math_bits_Mul64_ok v_0 v_1 v_2 ev_2) (by rfl) (by rfl) ?_
 simp only [go_sem]
 refine seqQ_normal hQ3 ?_
 refine sg fun QQ4 hQ4 => ?_
 refine sg fun QQ5 hQ5 => ?_
 simp only [go_sem]
 refine seqQ_normal hQ5 ?_
 refine vc_cond_of (b := (!((decide (a_0 < 0)) == (decide (b_0 < 0))))) (by (simp only [go_sem]; done)) (fun hb_0 => ?_) (fun hb_0 => ?_)
 ·
  replace h := if_t h hb_0
  simp only [bool_to_prop] at hb_0
  refine sg fun QQ6 hQ6 => ?_
  simp only [go_sem]
  refine seqQ_normal hQ6 ?_
  refine vc_ret_of ?_
  refine seqQ_ret hQ4 ?_
  simp only [go_sem]
  obtain rfl := Option.some.inj h
  refine retW_pure rfl ?_
  simp only [go_sem, Le]
 ·
  replace h := if_f h hb_0
  simp only [bool_to_prop] at hb_0
  refine vc_skip_of ?_
  refine seqQ_normal hQ4 ?_
  refine sg fun QQ7 hQ7 => ?_
  simp only [go_sem]
  refine seqQ_normal hQ7 ?_
  refine vc_ret_of ?_
  simp only [go_sem]
  obtain rfl := Option.some.inj h
  refine retW_pure rfl ?_
  simp only [go_sem, Le]

def f_prog_truth (ok_0 : Bool) : Option Int :=
 (if ok_0 = true then some 1
 else some 0)
theorem f_prog_truth_ok (ok_0 : Bool)  (r : Int) (h : f_prog_truth ok_0 = some r) : PureS Try.prog 240 [.v (.bool ok_0)] 0 (.v (.int .i64 r)) := by
 unfold PureS
 refine Spec.of_vc Try.func240 rfl (by kernel_rfl) (by kernel_rfl) ?_
 rw [f_prog_truth] at h
 refine sg fun QQ1 hQ1 => ?_
 simp only [go_sem]
 refine seqQ_normal hQ1 ?_
 refine sg fun QQ2 hQ2 => ?_
 refine sg fun QQ3 hQ3 => ?_
 simp only [go_sem]
 refine seqQ_normal hQ3 ?_
 refine vc_cond_of (b := ok_0) (by (simp only [go_sem]; done)) (fun hb_0 => ?_) (fun hb_0 => ?_)
 ·
  replace h := if_t h hb_0
  refine sg fun QQ4 hQ4 => ?_
  simp only [go_sem]
  refine seqQ_normal hQ4 ?_
  refine vc_ret_of ?_
  refine seqQ_ret hQ2 ?_
  simp only [go_sem]
  obtain rfl := Option.some.inj h
  refine retW_pure rfl ?_
  simp only [go_sem, Le]
 ·
  replace h := if_f h hb_0
  refine vc_skip_of ?_
  refine seqQ_normal hQ2 ?_
  refine sg fun QQ5 hQ5 => ?_
  simp only [go_sem]
  refine seqQ_normal hQ5 ?_
  refine vc_ret_of ?_
  simp only [go_sem]
  obtain rfl := Option.some.inj h
  refine retW_pure rfl ?_
  simp only [go_sem, Le]

def f_prog_two_J1 (nv_0 : Int) (ok_0 : Bool) : Option (Int × Int) :=
 (if (!ok_0) = true then some (0, 2)
 else some (nv_0, 0))
def f_prog_two_J2 (op_0 : Int) (a_0 : Int) (b_0 : Int) (t53_1 : Bool) : Option (Int × Int) :=
 (if t53_1 = true then (if (b_0 == 0) = true then some (0, 3)
 else (if ((b_0 == (-1)) && (op_0 == 8)) = true then f_prog_two_J1 0 true
 else (if (b_0 == (-1)) = true then f_prog_two_J1 (IntKind.i64.wrap (0 - a_0)) (!(a_0 == (-9223372036854775808)))
 else (if (op_0 == 7) = true then guardO (b_0 ≠ 0) (
 f_prog_two_J1 (IntKind.i64.wrap (Int.tdiv a_0 b_0)) true)
 else guardO (b_0 ≠ 0) (
 f_prog_two_J1 (Int.tmod a_0 b_0) true)))))
 else (if (op_0 == 9) = true then bindO (f_prog_truth (decide (a_0 < b_0))) (fun (v_4 : Int) =>
 f_prog_two_J1 v_4 true)
 else (if (op_0 == 10) = true then bindO (f_prog_truth (a_0 == b_0)) (fun (v_5 : Int) =>
 f_prog_two_J1 v_5 true)
 else f_prog_two_J1 0 true)))
def f_prog_two (op_0 : Int) (a_0 : Int) (b_0 : Int) : Option (Int × Int) :=
 (if (op_0 == 4) = true then f_prog_two_J1 (IntKind.i64.wrap (a_0 + b_0)) ((!((decide (a_0 < 0)) == (decide (b_0 < 0)))) || ((decide ((IntKind.i64.wrap (a_0 + b_0)) < 0)) == (decide (a_0 < 0))))
 else (if (op_0 == 5) = true then f_prog_two_J1 (IntKind.i64.wrap (a_0 - b_0)) (((decide (a_0 < 0)) == (decide (b_0 < 0))) || ((decide ((IntKind.i64.wrap (a_0 - b_0)) < 0)) == (decide (a_0 < 0))))
 else (if (op_0 == 6) = true then bindO (f_prog_times a_0 b_0) (fun (v_3 : Int × Bool) =>
 f_prog_two_J1 v_3.1 v_3.2)
 else (if (op_0 == 7) = true then f_prog_two_J2 op_0 a_0 b_0 (op_0 == 7)
 else f_prog_two_J2 op_0 a_0 b_0 (op_0 == 8)))))
theorem f_prog_two_ok (op_0 : Int) (a_0 : Int) (b_0 : Int)  (r : Int × Int) (h : f_prog_two op_0 a_0 b_0 = some r) : PureS Try.prog 235 [.v (.int .i64 op_0), .v (.int .i64 a_0), .v (.int .i64 b_0)] 0 (.tup [.v (.int .i64 r.1), .v (.int .i64 r.2)]) := by
 unfold PureS
 refine Spec.of_vc Try.func235 rfl (by kernel_rfl) (by kernel_rfl) ?_
 rw [f_prog_two] at h
 refine sg fun QQ1 hQ1 => ?_
 simp only [go_sem]
 refine seqQ_normal hQ1 ?_
 refine sg fun QQ2 hQ2 => ?_
 simp only [go_sem]
 refine seqQ_normal hQ2 ?_
 refine vc_join (by kernel_rfl) ?_
 refine seq_cut_gen (ι := Int × Bool) (fun ((nv_0, ok_0) : Int × Bool) => (⟨0, [(8, .v (.int .i64 nv_0)), (9, .v (.bool ok_0))], [], 0, 97⟩ : St)) (fun ((nv_0, ok_0) : Int × Bool) => f_prog_two_J1 nv_0 ok_0 = some r) ?_ ?_
 ·
  intro QQ7 hQ7
  refine sg fun QQ8 hQ8 => ?_
  simp only [go_sem]
  refine seqQ_normal hQ8 ?_
  refine vc_block_gen ?_
  intro QQ9 hQ9
  refine sg fun QQ10 hQ10 => ?_
  simp only [go_sem]
  refine seqQ_normal hQ10 ?_
  refine vc_cond_of (b := (op_0 == 4)) (by (simp only [go_sem]; done)) (fun hb_13 => ?_) (fun hb_13 => ?_)
  ·
   replace h := if_t h hb_13
   simp only [bool_to_prop] at hb_13
   refine sg fun QQ11 hQ11 => ?_
   simp only [go_sem]
   refine seqQ_normal hQ11 ?_
   simp only [go_sem]
   refine blockQ_normal hQ9 ?_
   refine thenQ_normal hQ7 ?_
   refine ⟨(IntKind.i64.wrap (a_0 + b_0), ((!((decide (a_0 < 0)) == (decide (b_0 < 0)))) || ((decide ((IntKind.i64.wrap (a_0 + b_0)) < 0)) == (decide (a_0 < 0))))), [], ?_, h⟩
   simp only [go_sem, Le]
  ·
   replace h := if_f h hb_13
   simp only [bool_to_prop] at hb_13
   refine sg fun QQ12 hQ12 => ?_
   simp only [go_sem]
   refine seqQ_normal hQ12 ?_
   refine vc_cond_of (b := (op_0 == 5)) (by (simp only [go_sem]; done)) (fun hb_14 => ?_) (fun hb_14 => ?_)
   ·
    replace h := if_t h hb_14
    simp only [bool_to_prop] at hb_14
    refine sg fun QQ13 hQ13 => ?_
    simp only [go_sem]
    refine seqQ_normal hQ13 ?_
    simp only [go_sem]
    refine blockQ_normal hQ9 ?_
    refine thenQ_normal hQ7 ?_
    refine ⟨(IntKind.i64.wrap (a_0 - b_0), (((decide (a_0 < 0)) == (decide (b_0 < 0))) || ((decide ((IntKind.i64.wrap (a_0 - b_0)) < 0)) == (decide (a_0 < 0))))), [], ?_, h⟩
    simp only [go_sem, Le]
   ·
    replace h := if_f h hb_14
    simp only [bool_to_prop] at hb_14
    refine sg fun QQ14 hQ14 => ?_
    simp only [go_sem]
    refine seqQ_normal hQ14 ?_
    refine vc_cond_of (b := (op_0 == 6)) (by (simp only [go_sem]; done)) (fun hb_15 => ?_) (fun hb_15 => ?_)
    ·
     replace h := if_t h hb_15
     simp only [bool_to_prop] at hb_15
     obtain ⟨v_3, ev_3, h⟩ := bindO_some h
     simp only [go_sem]
     refine call0 (f_prog_times_ok a_0 b_0 v_3 ev_3) (by rfl) (by rfl) ?_
     simp only [go_sem]
     refine blockQ_normal hQ9 ?_
     refine thenQ_normal hQ7 ?_
     refine ⟨(v_3.1, v_3.2), [], ?_, h⟩
     simp only [go_sem, Le]
    ·
     replace h := if_f h hb_15
     simp only [bool_to_prop] at hb_15
     refine vc_join (by kernel_rfl) ?_
     refine seq_cut_gen (ι := Bool) (fun (t53_1 : Bool) => (⟨0, [(0, .v (.int .i64 op_0)), (1, .v (.int .i64 a_0)), (2, .v (.int .i64 b_0)), (8, .v (.int .i64 0)), (9, .v (.bool true)), (10, .v (.int .i64 op_0)), (53, .v (.bool t53_1))], [], 0, 97⟩ : St)) (fun (t53_1 : Bool) => f_prog_two_J2 op_0 a_0 b_0 t53_1 = some r) ?_ ?_
     ·
      intro QQ23 hQ23
      refine sg fun QQ24 hQ24 => ?_
      simp only [go_sem]
      refine seqQ_normal hQ24 ?_
      refine vc_cond_of (b := (op_0 == 7)) (by (simp only [go_sem]; done)) (fun hb_24 => ?_) (fun hb_24 => ?_)
      ·
       replace h := if_t h hb_24
       simp only [bool_to_prop] at hb_24
       refine vc_skip_of ?_
       refine thenQ_normal hQ23 ?_
       refine ⟨(op_0 == 7), [], ?_, h⟩
       simp only [go_sem, Le]
      ·
       replace h := if_f h hb_24
       simp only [bool_to_prop] at hb_24
       simp only [go_sem]
       refine thenQ_normal hQ23 ?_
       refine ⟨(op_0 == 8), [], ?_, h⟩
       simp only [go_sem, Le]
     ·
      rintro t53_1 h
      try dsimp only at h
      rw [f_prog_two_J2] at h
      refine vc_cond_of (b := t53_1) (by (simp only [go_sem]; done)) (fun hb_17 => ?_) (fun hb_17 => ?_)
      ·
       replace h := if_t h hb_17
       refine vc_block_gen ?_
       intro QQ15 hQ15
       refine sg fun QQ16 hQ16 => ?_
       simp only [go_sem]
       refine seqQ_normal hQ16 ?_
       refine vc_cond_of (b := (b_0 == 0)) (by (simp only [go_sem]; done)) (fun hb_18 => ?_) (fun hb_18 => ?_)
       ·
        replace h := if_t h hb_18
        simp only [bool_to_prop] at hb_18
        refine sg fun QQ17 hQ17 => ?_
        simp only [go_sem]
        refine seqQ_normal hQ17 ?_
        refine vc_ret_of ?_
        refine blockQ_ret hQ15 ?_
        refine blockQ_ret hQ9 ?_
        refine thenQ_ret hQ7 ?_
        simp only [go_sem]
        obtain rfl := Option.some.inj h
        refine retW_pure rfl ?_
        simp only [go_sem, Le]
       ·
        replace h := if_f h hb_18
        simp only [bool_to_prop] at hb_18
        refine sg fun QQ18 hQ18 => ?_
        simp only [go_sem]
        refine seqQ_normal hQ18 ?_
        refine vc_cond_of (b := ((b_0 == (-1)) && (op_0 == 8))) (by (simp only [go_sem]; done)) (fun hb_19 => ?_) (fun hb_19 => ?_)
        ·
         replace h := if_t h hb_19
         simp only [bool_to_prop] at hb_19
         simp only [go_sem]
         refine blockQ_normal hQ15 ?_
         refine blockQ_normal hQ9 ?_
         refine thenQ_normal hQ7 ?_
         refine ⟨(0, true), [], ?_, h⟩
         simp only [go_sem, Le]
        ·
         replace h := if_f h hb_19
         simp only [bool_to_prop] at hb_19
         refine sg fun QQ19 hQ19 => ?_
         simp only [go_sem]
         refine seqQ_normal hQ19 ?_
         refine vc_cond_of (b := (b_0 == (-1))) (by (simp only [go_sem]; done)) (fun hb_20 => ?_) (fun hb_20 => ?_)
         ·
          replace h := if_t h hb_20
          simp only [bool_to_prop] at hb_20
          simp only [go_sem]
          refine blockQ_normal hQ15 ?_
          refine blockQ_normal hQ9 ?_
          refine thenQ_normal hQ7 ?_
          refine ⟨(IntKind.i64.wrap (0 - a_0), (!(a_0 == (-9223372036854775808)))), [], ?_, h⟩
          simp only [go_sem, Le]
         ·
          replace h := if_f h hb_20
          simp only [bool_to_prop] at hb_20
          refine sg fun QQ20 hQ20 => ?_
          simp only [go_sem]
          refine seqQ_normal hQ20 ?_
          refine vc_cond_of (b := (op_0 == 7)) (by (simp only [go_sem]; done)) (fun hb_21 => ?_) (fun hb_21 => ?_)
          ·
           replace h := if_t h hb_21
           simp only [bool_to_prop] at hb_21
           obtain ⟨g_2, h⟩ := guardO_some h
           simp only [go_sem, g_2]
           refine blockQ_normal hQ15 ?_
           refine blockQ_normal hQ9 ?_
           refine thenQ_normal hQ7 ?_
           refine ⟨(IntKind.i64.wrap (Int.tdiv a_0 b_0), true), [], ?_, h⟩
           simp only [go_sem, Le]
          ·
           replace h := if_f h hb_21
           simp only [bool_to_prop] at hb_21
           obtain ⟨g_3, h⟩ := guardO_some h
           simp only [go_sem, g_3]
           refine blockQ_normal hQ15 ?_
           refine blockQ_normal hQ9 ?_
           refine thenQ_normal hQ7 ?_
           refine ⟨(Int.tmod a_0 b_0, true), [], ?_, h⟩
           simp only [go_sem, Le]
      ·
       replace h := if_f h hb_17
       refine sg fun QQ21 hQ21 => ?_
       simp only [go_sem]
       refine seqQ_normal hQ21 ?_
       refine vc_cond_of (b := (op_0 == 9)) (by (simp only [go_sem]; done)) (fun hb_22 => ?_) (fun hb_22 => ?_)
       ·
        replace h := if_t h hb_22
        simp only [bool_to_prop] at hb_22
        obtain ⟨v_4, ev_4, h⟩ := bindO_some h
        simp only [go_sem]
        refine call0 (f_prog_truth_ok (decide (a_0 < b_0)) v_4 ev_4) (by rfl) (by rfl) ?_
        simp only [go_sem]
        refine blockQ_normal hQ9 ?_
        refine thenQ_normal hQ7 ?_
        refine ⟨(v_4, true), [], ?_, h⟩
        simp only [go_sem, Le]
       ·
        replace h := if_f h hb_22
        simp only [bool_to_prop] at hb_22
        refine sg fun QQ22 hQ22 => ?_
        simp only [go_sem]
        refine seqQ_normal hQ22 ?_
        refine vc_cond_of (b := (op_0 == 10)) (by (simp only [go_sem]; done)) (fun hb_23 => ?_) (fun hb_23 => ?_)
        ·
         replace h := if_t h hb_23
         simp only [bool_to_prop] at hb_23
         obtain ⟨v_5, ev_5, h⟩ := bindO_some h
         simp only [go_sem]
         refine call0 (f_prog_truth_ok (a_0 == b_0) v_5 ev_5) (by rfl) (by rfl) ?_
         simp only [go_sem]
         refine blockQ_normal hQ9 ?_
         refine thenQ_normal hQ7 ?_
         refine ⟨(v_5, true), [], ?_, h⟩
         simp only [go_sem, Le]
        ·
         replace h := if_f h hb_23
         simp only [bool_to_prop] at hb_23
         refine vc_skip_of ?_
         refine blockQ_normal hQ9 ?_
         refine thenQ_normal hQ7 ?_
         refine ⟨(0, true), [], ?_, h⟩
         simp only [go_sem, Le]
 ·
  rintro ⟨nv_0, ok_0⟩ h
  try dsimp only at h
  rw [f_prog_two_J1] at h
  refine sg fun QQ3 hQ3 => ?_
  refine sg fun QQ4 hQ4 => ?_
  simp only [go_sem]
  refine seqQ_normal hQ4 ?_
  refine vc_cond_of (b := (!ok_0)) (by (simp only [go_sem]; done)) (fun hb_12 => ?_) (fun hb_12 => ?_)
  ·
   replace h := if_t h hb_12
   simp only [bool_to_prop] at hb_12
   refine sg fun QQ5 hQ5 => ?_
   simp only [go_sem]
   refine seqQ_normal hQ5 ?_
   refine vc_ret_of ?_
   refine seqQ_ret hQ3 ?_
   simp only [go_sem]
   obtain rfl := Option.some.inj h
   refine retW_pure rfl ?_
   simp only [go_sem, Le]
  ·
   replace h := if_f h hb_12
   simp only [bool_to_prop] at hb_12
   refine vc_skip_of ?_
   refine seqQ_normal hQ3 ?_
   refine sg fun QQ6 hQ6 => ?_
   simp only [go_sem]
   refine seqQ_normal hQ6 ?_
   refine vc_ret_of ?_
   simp only [go_sem]
   obtain rfl := Option.some.inj h
   refine retW_pure rfl ?_
   simp only [go_sem, Le]

def f_prog_machine_step_p0_s0_2_s0_3 (mv_0 : GProg_machine) (xv_0 : GIns) : Option GProg_machine :=
 bindO (f_prog_machine_moves_p0_s0_2_s0_3 (⟨mv_0.r, mv_0.stack, mv_0.out, IntKind.i64.wrap (mv_0.at_ + 1), mv_0.bad⟩ : GProg_machine) xv_0) (fun (v_0 : Bool × GProg_machine) =>
 (if v_0.1 = true then some v_0.2
 else (if (xv_0.Op == 14) = true then some (⟨v_0.2.r, v_0.2.stack, v_0.2.out, xv_0.N, v_0.2.bad⟩ : GProg_machine)
 else (if (xv_0.Op == 15) = true then (if (decide ((IntKind.i64.wrap ((List.length v_0.2.stack : Int) - 1)) < 0)) = true then some (⟨v_0.2.r, v_0.2.stack, v_0.2.out, v_0.2.at_, 1⟩ : GProg_machine)
 else guardO (0 ≤ IntKind.i64.wrap ((List.length v_0.2.stack : Int) - 1) ∧ IntKind.i64.wrap ((List.length v_0.2.stack : Int) - 1) ≤ (List.length v_0.2.stack : Int) ∧ (List.length v_0.2.stack : Int) ≤ (List.length v_0.2.stack : Int) ∧ (List.length v_0.2.stack : Int) ≤ (List.length v_0.2.stack : Int)) (
 guardO (0 ≤ 0 ∧ 0 ≤ IntKind.i64.wrap ((List.length v_0.2.stack : Int) - 1) ∧ IntKind.i64.wrap ((List.length v_0.2.stack : Int) - 1) ≤ (List.length v_0.2.stack : Int)) (
 guardO (0 < Int.toNat (List.length v_0.2.stack : Int) - Int.toNat (IntKind.i64.wrap ((List.length v_0.2.stack : Int) - 1))) (
 bindO (idx (List.take (Int.toNat (List.length v_0.2.stack : Int) - Int.toNat (IntKind.i64.wrap ((List.length v_0.2.stack : Int) - 1))) (List.drop (Int.toNat (IntKind.i64.wrap ((List.length v_0.2.stack : Int) - 1))) v_0.2.stack)) 0) (fun (xv_1 : Int) =>
 (if (xv_1 == 0) = true then some (⟨v_0.2.r, (List.take (Int.toNat (IntKind.i64.wrap ((List.length v_0.2.stack : Int) - 1))) v_0.2.stack), v_0.2.out, xv_0.N, v_0.2.bad⟩ : GProg_machine)
 else some (⟨v_0.2.r, (List.take (Int.toNat (IntKind.i64.wrap ((List.length v_0.2.stack : Int) - 1))) v_0.2.stack), v_0.2.out, v_0.2.at_, v_0.2.bad⟩ : GProg_machine)))))))
 else (if (xv_0.Op == 16) = true then (if (decide ((IntKind.i64.wrap ((List.length v_0.2.stack : Int) - 2)) < 0)) = true then some (⟨v_0.2.r, v_0.2.stack, v_0.2.out, v_0.2.at_, 1⟩ : GProg_machine)
 else guardO (0 ≤ IntKind.i64.wrap ((List.length v_0.2.stack : Int) - 2) ∧ IntKind.i64.wrap ((List.length v_0.2.stack : Int) - 2) ≤ (List.length v_0.2.stack : Int) ∧ (List.length v_0.2.stack : Int) ≤ (List.length v_0.2.stack : Int) ∧ (List.length v_0.2.stack : Int) ≤ (List.length v_0.2.stack : Int)) (
 guardO (0 ≤ 0 ∧ 0 ≤ IntKind.i64.wrap ((List.length v_0.2.stack : Int) - 2) ∧ IntKind.i64.wrap ((List.length v_0.2.stack : Int) - 2) ≤ (List.length v_0.2.stack : Int)) (
 guardO (0 < Int.toNat (List.length v_0.2.stack : Int) - Int.toNat (IntKind.i64.wrap ((List.length v_0.2.stack : Int) - 2))) (
 (if ((List.length v_0.2.out : Int) == 8) = true then some (⟨v_0.2.r, (List.take (Int.toNat (IntKind.i64.wrap ((List.length v_0.2.stack : Int) - 2))) v_0.2.stack), v_0.2.out, v_0.2.at_, 5⟩ : GProg_machine)
 else bindO (idx (List.take (Int.toNat (List.length v_0.2.stack : Int) - Int.toNat (IntKind.i64.wrap ((List.length v_0.2.stack : Int) - 2))) (List.drop (Int.toNat (IntKind.i64.wrap ((List.length v_0.2.stack : Int) - 2))) v_0.2.stack)) 0) (fun (xv_2 : Int) =>
 bindO (idx (List.take (Int.toNat (List.length v_0.2.stack : Int) - Int.toNat (IntKind.i64.wrap ((List.length v_0.2.stack : Int) - 2))) (List.drop (Int.toNat (IntKind.i64.wrap ((List.length v_0.2.stack : Int) - 2))) v_0.2.stack)) 1) (fun (xv_3 : Int) =>
 guardO ((List.length v_0.2.out + List.length ([(⟨xv_2, xv_3⟩ : GRec)] : List GRec)) * 16 ≤ 140737488355328) (
 some (⟨v_0.2.r, (List.take (Int.toNat (IntKind.i64.wrap ((List.length v_0.2.stack : Int) - 2))) v_0.2.stack), (v_0.2.out ++ ([(⟨xv_2, xv_3⟩ : GRec)] : List GRec)), v_0.2.at_, v_0.2.bad⟩ : GProg_machine)))))))))
 else (if (decide ((IntKind.i64.wrap ((List.length v_0.2.stack : Int) - 2)) < 0)) = true then some (⟨v_0.2.r, v_0.2.stack, v_0.2.out, v_0.2.at_, 1⟩ : GProg_machine)
 else guardO (0 ≤ IntKind.i64.wrap ((List.length v_0.2.stack : Int) - 2) ∧ IntKind.i64.wrap ((List.length v_0.2.stack : Int) - 2) ≤ (List.length v_0.2.stack : Int) ∧ (List.length v_0.2.stack : Int) ≤ (List.length v_0.2.stack : Int) ∧ (List.length v_0.2.stack : Int) ≤ (List.length v_0.2.stack : Int)) (
 guardO (0 ≤ 0 ∧ 0 ≤ IntKind.i64.wrap ((List.length v_0.2.stack : Int) - 2) ∧ IntKind.i64.wrap ((List.length v_0.2.stack : Int) - 2) ≤ (List.length v_0.2.stack : Int)) (
 guardO (0 < Int.toNat (List.length v_0.2.stack : Int) - Int.toNat (IntKind.i64.wrap ((List.length v_0.2.stack : Int) - 2))) (
 bindO (idx (List.take (Int.toNat (List.length v_0.2.stack : Int) - Int.toNat (IntKind.i64.wrap ((List.length v_0.2.stack : Int) - 2))) (List.drop (Int.toNat (IntKind.i64.wrap ((List.length v_0.2.stack : Int) - 2))) v_0.2.stack)) 0) (fun (xv_4 : Int) =>
 bindO (idx (List.take (Int.toNat (List.length v_0.2.stack : Int) - Int.toNat (IntKind.i64.wrap ((List.length v_0.2.stack : Int) - 2))) (List.drop (Int.toNat (IntKind.i64.wrap ((List.length v_0.2.stack : Int) - 2))) v_0.2.stack)) 1) (fun (xv_5 : Int) =>
 bindO (f_prog_two xv_0.Op xv_4 xv_5) (fun (v_1 : Int × Int) =>
 bindO (f_prog_machine_push_p0_s0_2_s0_3 (⟨v_0.2.r, (List.take (Int.toNat (IntKind.i64.wrap ((List.length v_0.2.stack : Int) - 2))) v_0.2.stack), v_0.2.out, v_0.2.at_, v_1.2⟩ : GProg_machine) v_1.1) (fun (v_2 : GProg_machine) =>
 some v_2)))))))))))))
theorem f_prog_machine_step_p0_s0_2_s0_3_det (mv_0 : GProg_machine) (xv_0 : GIns)  (r : GProg_machine) (h : f_prog_machine_step_p0_s0_2_s0_3 mv_0 xv_0 = some r) : DetS Try.prog 223 [.ptr 0 0, .agg [.v (.int .i64 xv_0.Op), .v (.int .i64 xv_0.N)]] [(0, .box [.v (.int .i64 mv_0.r.K), .v (.int .i64 mv_0.r.V), .osl 1 1 (0) (List.length mv_0.stack), .osl 2 2 (0) (List.length mv_0.out), .v (.int .i64 mv_0.at_), .v (.int .i64 mv_0.bad)]), (1, .arr 1 (enc mv_0.stack)), (2, .arr 2 (enc mv_0.out))] 3 (.tup []) [(0, .box [.v (.int .i64 r.r.K), .v (.int .i64 r.r.V), .osl 3 1 (0) (List.length r.stack), .osl 4 2 (0) (List.length r.out), .v (.int .i64 r.at_), .v (.int .i64 r.bad)]), (3, .arr 1 (enc r.stack)), (4, .arr 2 (enc r.out))] 5 := by
 unfold DetS
 refine Spec.of_vc Try.func223 rfl (by kernel_rfl) (by kernel_rfl) ?_
 rw [f_prog_machine_step_p0_s0_2_s0_3] at h
 refine sg fun QQ1 hQ1 => ?_
 simp only [go_sem]
 refine seqQ_normal hQ1 ?_
 refine sg fun QQ2 hQ2 => ?_
 simp only [go_sem]
 refine seqQ_normal hQ2 ?_
 refine sg fun QQ3 hQ3 => ?_
 refine sg fun QQ4 hQ4 => ?_
 obtain ⟨v_0, ev_0, h⟩ := bindO_some h
 simp only [go_sem]
 refine callD [0, 1, 2] (f_prog_machine_moves_p0_s0_2_s0_3_det (⟨mv_0.r, mv_0.stack, mv_0.out, IntKind.i64.wrap (mv_0.at_ + 1), mv_0.bad⟩ : GProg_machine) xv_0 v_0 ev_0) (by simp) rfl ⟨rfl, ⟨rfl, ⟨rfl, trivial⟩⟩⟩ rfl rfl rfl rfl ?_
 simp only [go_sem]
 refine seqQ_normal hQ4 ?_
 refine vc_cond_of (b := v_0.1) (by (simp only [go_sem]; done)) (fun hb_0 => ?_) (fun hb_0 => ?_)
 ·
  replace h := if_t h hb_0
  refine vc_ret_of ?_
  refine seqQ_ret hQ3 ?_
  simp only [go_sem]
  obtain rfl := Option.some.inj h
  refine retW_det [some 4, some 5] ?_
  simp only [go_sem, Le] <;> (repeat' apply And.intro) <;> first | ((try with_reducible refine TL_eq ?_); omega) | ((try with_reducible refine TL_eq ?_); (simp [go_sem]; done))
 ·
  replace h := if_f h hb_0
  refine vc_skip_of ?_
  refine seqQ_normal hQ3 ?_
  refine sg fun QQ5 hQ5 => ?_
  simp only [go_sem]
  refine seqQ_normal hQ5 ?_
  refine vc_block_gen ?_
  intro QQ6 hQ6
  refine sg fun QQ7 hQ7 => ?_
  simp only [go_sem]
  refine seqQ_normal hQ7 ?_
  refine vc_cond_of (b := (xv_0.Op == 14)) (by (simp only [go_sem]; done)) (fun hb_1 => ?_) (fun hb_1 => ?_)
  ·
   replace h := if_t h hb_1
   simp only [bool_to_prop] at hb_1
   simp only [go_sem]
   refine blockQ_normal hQ6 ?_
   simp only [go_sem]
   obtain rfl := Option.some.inj h
   refine retW_det [some 4, some 5] ?_
   simp only [go_sem, Le] <;> (repeat' apply And.intro) <;> first | ((try with_reducible refine TL_eq ?_); omega) | ((try with_reducible refine TL_eq ?_); (simp [go_sem]; done))
  ·
   replace h := if_f h hb_1
   simp only [bool_to_prop] at hb_1
   refine sg fun QQ8 hQ8 => ?_
   simp only [go_sem]
   refine seqQ_normal hQ8 ?_
   refine vc_cond_of (b := (xv_0.Op == 15)) (by (simp only [go_sem]; done)) (fun hb_2 => ?_) (fun hb_2 => ?_)
   ·
    replace h := if_t h hb_2
    simp only [bool_to_prop] at hb_2
    refine sg fun QQ9 hQ9 => ?_
    simp only [go_sem]
    refine callF_inl Try.func234 rfl (by kernel_rfl) (by kernel_rfl) ?_
    refine sg fun QQ10 hQ10 => ?_
    simp only [go_sem]
    refine seqQ_normal hQ10 ?_
    refine sg fun QQ11 hQ11 => ?_
    simp only [go_sem]
    refine seqQ_normal hQ11 ?_
    refine sg fun QQ12 hQ12 => ?_
    refine sg fun QQ13 hQ13 => ?_
    simp only [go_sem]
    refine seqQ_normal hQ13 ?_
    refine vc_cond_of (b := (decide ((IntKind.i64.wrap ((List.length v_0.2.stack : Int) - 1)) < 0))) (by (simp only [go_sem]; done)) (fun hb_3 => ?_) (fun hb_3 => ?_)
    ·
     replace h := if_t h hb_3
     simp only [bool_to_prop] at hb_3
     refine sg fun QQ14 hQ14 => ?_
     simp only [go_sem]
     refine seqQ_normal hQ14 ?_
     refine sg fun QQ15 hQ15 => ?_
     simp only [go_sem]
     refine seqQ_normal hQ15 ?_
     refine vc_ret_of ?_
     refine seqQ_ret hQ12 ?_
     simp only [go_sem]
     refine retW_inl [] [(0, .box [.v (.int .i64 v_0.2.r.K), .v (.int .i64 v_0.2.r.V), .osl 4 1 (0) (List.length v_0.2.stack), .osl 5 2 (0) (List.length v_0.2.out), .v (.int .i64 v_0.2.at_), .v (.int .i64 1)]), (3, .box [.v (.int .i64 xv_0.Op), .v (.int .i64 xv_0.N)]), (4, .arr 1 (enc v_0.2.stack)), (5, .arr 2 (enc v_0.2.out))] 6 (.v (.slice none 0 0)) ?_ ?_
     · simp only [go_sem, Le] <;> (repeat' apply And.intro) <;> first | ((try with_reducible refine TL_eq ?_); omega) | ((try with_reducible refine TL_eq ?_); (simp [go_sem]; done))
     refine inlK_of ?_
     simp only [go_sem]
     refine seqQ_normal hQ9 ?_
     refine sg fun QQ16 hQ16 => ?_
     simp only [go_sem]
     refine seqQ_normal hQ16 ?_
     refine vc_cond_f (by (simp only [go_sem]; done)) ?_
     refine vc_skip_of ?_
     refine blockQ_normal hQ6 ?_
     simp only [go_sem]
     obtain rfl := Option.some.inj h
     refine retW_det [some 4, some 5] ?_
     simp only [go_sem, Le] <;> (repeat' apply And.intro) <;> first | ((try with_reducible refine TL_eq ?_); omega) | ((try with_reducible refine TL_eq ?_); (simp [go_sem]; done))
    ·
     replace h := if_f h hb_3
     simp only [bool_to_prop] at hb_3
     refine vc_skip_of ?_
     refine seqQ_normal hQ12 ?_
     refine sg fun QQ17 hQ17 => ?_
     refine vc_draw ?_
     refine drawM_tail 15 [0, 1, 3, 7, 0, 0, 32, 96, 224, 480, 0, 1024, 3072, 7168, 15360, 32767, 65535] mixed (by kernel_rfl) (of_decide_eq_true (by kernel_rfl)) (by kernel_rfl) ?_
     obtain ⟨g_0, h⟩ := guardO_some h
     simp only [go_sem, g_0]
     refine seqQ_normal hQ17 ?_
     refine sg fun QQ18 hQ18 => ?_
     obtain ⟨g_1, h⟩ := guardO_some h
     simp only [go_sem, g_1]
     refine seqQ_normal hQ18 ?_
     refine sg fun QQ19 hQ19 => ?_
     simp only [go_sem]
     refine seqQ_normal hQ19 ?_
     refine vc_ret_of ?_
     simp only [go_sem]
     refine retW_inl [] [(0, .box [.v (.int .i64 v_0.2.r.K), .v (.int .i64 v_0.2.r.V), .osl 4 1 (0) (Int.toNat (IntKind.i64.wrap ((List.length v_0.2.stack : Int) - 1))), .osl 5 2 (0) (List.length v_0.2.out), .v (.int .i64 v_0.2.at_), .v (.int .i64 v_0.2.bad)]), (3, .box [.v (.int .i64 xv_0.Op), .v (.int .i64 xv_0.N)]), (4, .arr 1 (enc v_0.2.stack)), (5, .arr 2 (enc v_0.2.out))] 6 (.osl 4 1 (Int.toNat (IntKind.i64.wrap ((List.length v_0.2.stack : Int) - 1))) (Int.toNat (List.length v_0.2.stack : Int) - Int.toNat (IntKind.i64.wrap ((List.length v_0.2.stack : Int) - 1)))) ?_ ?_
     · simp only [go_sem, Le] <;> (repeat' apply And.intro) <;> first | ((try with_reducible refine TL_eq ?_); omega) | ((try with_reducible refine TL_eq ?_); (simp [go_sem]; done))
     refine inlK_of ?_
     simp only [go_sem]
     refine seqQ_normal hQ9 ?_
     refine sg fun QQ20 hQ20 => ?_
     obtain ⟨g_2, h⟩ := guardO_some h
     obtain ⟨xv_1, exv_1, h⟩ := bindO_some h
     obtain ⟨fxv_1a, fxv_1b, fxv_1c, fxv_1d⟩ := idx_part exv_1
     simp only [Int.toNat_natCast, Int.reduceToNat, Nat.zero_add, Nat.add_zero] at fxv_1c fxv_1d
     simp only [go_sem, g_2, fxv_1a, fxv_1b, fxv_1c, fxv_1d]
     refine And.intro (by omega) ?_
     refine And.intro (by omega) ?_
     refine seqQ_normal hQ20 ?_
     refine vc_cond_of (b := (xv_1 == 0)) (by (simp only [go_sem]; done)) (fun hb_4 => ?_) (fun hb_4 => ?_)
     ·
      replace h := if_t h hb_4
      simp only [bool_to_prop] at hb_4
      simp only [go_sem]
      refine blockQ_normal hQ6 ?_
      simp only [go_sem]
      obtain rfl := Option.some.inj h
      refine retW_det [some 4, some 5] ?_
      simp only [go_sem, Le] <;> (repeat' apply And.intro) <;> first | (with_reducible exact TL_enc _ _) | ((try with_reducible refine TL_eq ?_); omega) | ((try with_reducible refine TL_eq ?_); (simp [go_sem]; done)) | ((try with_reducible refine TL_eq ?_); (simp [enc_len, enc]; omega))
     ·
      replace h := if_f h hb_4
      simp only [bool_to_prop] at hb_4
      refine vc_skip_of ?_
      refine blockQ_normal hQ6 ?_
      simp only [go_sem]
      obtain rfl := Option.some.inj h
      refine retW_det [some 4, some 5] ?_
      simp only [go_sem, Le] <;> (repeat' apply And.intro) <;> first | (with_reducible exact TL_enc _ _) | ((try with_reducible refine TL_eq ?_); omega) | ((try with_reducible refine TL_eq ?_); (simp [go_sem]; done)) | ((try with_reducible refine TL_eq ?_); (simp [enc_len, enc]; omega))
   ·
    replace h := if_f h hb_2
    simp only [bool_to_prop] at hb_2
    refine sg fun QQ21 hQ21 => ?_
    simp only [go_sem]
    refine seqQ_normal hQ21 ?_
    refine vc_cond_of (b := (xv_0.Op == 16)) (by (simp only [go_sem]; done)) (fun hb_5 => ?_) (fun hb_5 => ?_)
    ·
     replace h := if_t h hb_5
     simp only [bool_to_prop] at hb_5
     refine sg fun QQ22 hQ22 => ?_
     simp only [go_sem]
     refine callF_inl Try.func234 rfl (by kernel_rfl) (by kernel_rfl) ?_
     refine sg fun QQ23 hQ23 => ?_
     simp only [go_sem]
     refine seqQ_normal hQ23 ?_
     refine sg fun QQ24 hQ24 => ?_
     simp only [go_sem]
     refine seqQ_normal hQ24 ?_
     refine sg fun QQ25 hQ25 => ?_
     refine sg fun QQ26 hQ26 => ?_
     simp only [go_sem]
     refine seqQ_normal hQ26 ?_
     refine vc_cond_of (b := (decide ((IntKind.i64.wrap ((List.length v_0.2.stack : Int) - 2)) < 0))) (by (simp only [go_sem]; done)) (fun hb_6 => ?_) (fun hb_6 => ?_)
     ·
      replace h := if_t h hb_6
      simp only [bool_to_prop] at hb_6
      refine sg fun QQ27 hQ27 => ?_
      simp only [go_sem]
      refine seqQ_normal hQ27 ?_
      refine sg fun QQ28 hQ28 => ?_
      simp only [go_sem]
      refine seqQ_normal hQ28 ?_
      refine vc_ret_of ?_
      refine seqQ_ret hQ25 ?_
      simp only [go_sem]
      refine retW_inl [] [(0, .box [.v (.int .i64 v_0.2.r.K), .v (.int .i64 v_0.2.r.V), .osl 4 1 (0) (List.length v_0.2.stack), .osl 5 2 (0) (List.length v_0.2.out), .v (.int .i64 v_0.2.at_), .v (.int .i64 1)]), (3, .box [.v (.int .i64 xv_0.Op), .v (.int .i64 xv_0.N)]), (4, .arr 1 (enc v_0.2.stack)), (5, .arr 2 (enc v_0.2.out))] 6 (.v (.slice none 0 0)) ?_ ?_
      · simp only [go_sem, Le] <;> (repeat' apply And.intro) <;> first | ((try with_reducible refine TL_eq ?_); omega) | ((try with_reducible refine TL_eq ?_); (simp [go_sem]; done))
      refine inlK_of ?_
      simp only [go_sem]
      refine seqQ_normal hQ22 ?_
      refine vc_block_gen ?_
      intro QQ29 hQ29
      refine sg fun QQ30 hQ30 => ?_
      simp only [go_sem]
      refine seqQ_normal hQ30 ?_
      refine vc_cond_t (by (simp only [go_sem]; done)) ?_
      refine vc_skip_of ?_
      refine blockQ_normal hQ29 ?_
      refine blockQ_normal hQ6 ?_
      simp only [go_sem]
      obtain rfl := Option.some.inj h
      refine retW_det [some 4, some 5] ?_
      simp only [go_sem, Le] <;> (repeat' apply And.intro) <;> first | ((try with_reducible refine TL_eq ?_); omega) | ((try with_reducible refine TL_eq ?_); (simp [go_sem]; done))
     ·
      replace h := if_f h hb_6
      simp only [bool_to_prop] at hb_6
      refine vc_skip_of ?_
      refine seqQ_normal hQ25 ?_
      refine sg fun QQ31 hQ31 => ?_
      refine vc_draw ?_
      refine drawM_tail 15 [0, 1, 3, 7, 0, 0, 32, 96, 224, 480, 0, 1024, 3072, 7168, 15360, 32767, 65535] mixed (by kernel_rfl) (of_decide_eq_true (by kernel_rfl)) (by kernel_rfl) ?_
      obtain ⟨g_3, h⟩ := guardO_some h
      simp only [go_sem, g_3]
      refine seqQ_normal hQ31 ?_
      refine sg fun QQ32 hQ32 => ?_
      obtain ⟨g_4, h⟩ := guardO_some h
      simp only [go_sem, g_4]
      refine seqQ_normal hQ32 ?_
      refine sg fun QQ33 hQ33 => ?_
      simp only [go_sem]
      refine seqQ_normal hQ33 ?_
      refine vc_ret_of ?_
      simp only [go_sem]
      refine retW_inl [] [(0, .box [.v (.int .i64 v_0.2.r.K), .v (.int .i64 v_0.2.r.V), .osl 4 1 (0) (Int.toNat (IntKind.i64.wrap ((List.length v_0.2.stack : Int) - 2))), .osl 5 2 (0) (List.length v_0.2.out), .v (.int .i64 v_0.2.at_), .v (.int .i64 v_0.2.bad)]), (3, .box [.v (.int .i64 xv_0.Op), .v (.int .i64 xv_0.N)]), (4, .arr 1 (enc v_0.2.stack)), (5, .arr 2 (enc v_0.2.out))] 6 (.osl 4 1 (Int.toNat (IntKind.i64.wrap ((List.length v_0.2.stack : Int) - 2))) (Int.toNat (List.length v_0.2.stack : Int) - Int.toNat (IntKind.i64.wrap ((List.length v_0.2.stack : Int) - 2)))) ?_ ?_
      · simp only [go_sem, Le] <;> (repeat' apply And.intro) <;> first | ((try with_reducible refine TL_eq ?_); omega) | ((try with_reducible refine TL_eq ?_); (simp [go_sem]; done))
      refine inlK_of ?_
      simp only [go_sem]
      refine seqQ_normal hQ22 ?_
      refine vc_block_gen ?_
      intro QQ34 hQ34
      refine sg fun QQ35 hQ35 => ?_
      obtain ⟨g_5, h⟩ := guardO_some h
      simp only [go_sem, g_5]
      refine And.intro (by omega) ?_
      refine seqQ_normal hQ35 ?_
      refine vc_cond_f (by (simp only [go_sem]; done)) ?_
      refine sg fun QQ36 hQ36 => ?_
      simp only [go_sem]
      refine seqQ_normal hQ36 ?_
      refine vc_cond_of (b := ((List.length v_0.2.out : Int) == 8)) (by (simp only [go_sem]; done)) (fun hb_7 => ?_) (fun hb_7 => ?_)
      ·
       replace h := if_t h hb_7
       simp only [bool_to_prop] at hb_7
       simp only [go_sem]
       refine blockQ_normal hQ34 ?_
       refine blockQ_normal hQ6 ?_
       simp only [go_sem]
       obtain rfl := Option.some.inj h
       refine retW_det [some 4, some 5] ?_
       simp only [go_sem, Le] <;> (repeat' apply And.intro) <;> first | (with_reducible exact TL_enc _ _) | ((try with_reducible refine TL_eq ?_); omega) | ((try with_reducible refine TL_eq ?_); (simp [go_sem]; done)) | ((try with_reducible refine TL_eq ?_); (simp [enc_len, enc]; omega))
      ·
       replace h := if_f h hb_7
       simp only [bool_to_prop] at hb_7
       refine vc_draw ?_
       refine drawV_all 14 0 [0, 0, 2, 6, 14, 0, 32, 96, 0, 256, 768, 2016, 4064, 8190, 16383, 32767, 65535] [5, 6] [0] [13] [] mixed (by kernel_rfl) (of_decide_eq_true (by kernel_rfl)) (by kernel_rfl) (by kernel_rfl) (by rfl) ?_
       obtain ⟨xv_2, exv_2, h⟩ := bindO_some h
       obtain ⟨fxv_2a, fxv_2b, fxv_2c, fxv_2d⟩ := idx_part exv_2
       simp only [Int.toNat_natCast, Int.reduceToNat, Nat.zero_add, Nat.add_zero] at fxv_2c fxv_2d
       obtain ⟨xv_3, exv_3, h⟩ := bindO_some h
       obtain ⟨fxv_3a, fxv_3b, fxv_3c, fxv_3d⟩ := idx_part exv_3
       simp only [Int.toNat_natCast, Int.reduceToNat, Nat.zero_add, Nat.add_zero] at fxv_3c fxv_3d
       have rf_0 : [[.v (.int .i64 xv_2), .v (.int .i64 xv_3)]] = enc ([(⟨xv_2, xv_3⟩ : GRec)] : List GRec) := by rfl
       obtain ⟨g_6, h⟩ := guardO_some h
       simp only [List.length_cons, List.length_nil, Nat.zero_add, List.length_append] at g_6
       have rf_1 : enc v_0.2.out ++ [[.v (.int .i64 xv_2), .v (.int .i64 xv_3)]] = enc (v_0.2.out ++ ([(⟨xv_2, xv_3⟩ : GRec)] : List GRec)) := by exact (enc_app v_0.2.out ([(⟨xv_2, xv_3⟩ : GRec)] : List GRec)).symm
       simp only [go_sem, fxv_2a, fxv_2b, fxv_2c, fxv_2d, fxv_3a, fxv_3b, fxv_3c, fxv_3d, g_6, rf_1]
       refine And.intro (by omega) ?_
       refine And.intro (by omega) ?_
       simp only [rf_0]
       refine blockQ_normal hQ34 ?_
       refine blockQ_normal hQ6 ?_
       simp only [go_sem]
       obtain rfl := Option.some.inj h
       refine retW_det [some 4, some 6] ?_
       simp only [go_sem, Le] <;> (repeat' apply And.intro) <;> first | (with_reducible exact TL_enc _ _) | ((try with_reducible refine TL_eq ?_); omega) | ((try with_reducible refine TL_eq ?_); (simp [go_sem]; done)) | ((try with_reducible refine TL_eq ?_); (simp [enc_len, enc]; omega))
    ·
     replace h := if_f h hb_5
     simp only [bool_to_prop] at hb_5
     refine sg fun QQ37 hQ37 => ?_
     simp only [go_sem]
     refine callF_inl Try.func234 rfl (by kernel_rfl) (by kernel_rfl) ?_
     refine sg fun QQ38 hQ38 => ?_
     simp only [go_sem]
     refine seqQ_normal hQ38 ?_
     refine sg fun QQ39 hQ39 => ?_
     simp only [go_sem]
     refine seqQ_normal hQ39 ?_
     refine sg fun QQ40 hQ40 => ?_
     refine sg fun QQ41 hQ41 => ?_
     simp only [go_sem]
     refine seqQ_normal hQ41 ?_
     refine vc_cond_of (b := (decide ((IntKind.i64.wrap ((List.length v_0.2.stack : Int) - 2)) < 0))) (by (simp only [go_sem]; done)) (fun hb_8 => ?_) (fun hb_8 => ?_)
     ·
      replace h := if_t h hb_8
      simp only [bool_to_prop] at hb_8
      refine sg fun QQ42 hQ42 => ?_
      simp only [go_sem]
      refine seqQ_normal hQ42 ?_
      refine sg fun QQ43 hQ43 => ?_
      simp only [go_sem]
      refine seqQ_normal hQ43 ?_
      refine vc_ret_of ?_
      refine seqQ_ret hQ40 ?_
      simp only [go_sem]
      refine retW_inl [] [(0, .box [.v (.int .i64 v_0.2.r.K), .v (.int .i64 v_0.2.r.V), .osl 4 1 (0) (List.length v_0.2.stack), .osl 5 2 (0) (List.length v_0.2.out), .v (.int .i64 v_0.2.at_), .v (.int .i64 1)]), (3, .box [.v (.int .i64 xv_0.Op), .v (.int .i64 xv_0.N)]), (4, .arr 1 (enc v_0.2.stack)), (5, .arr 2 (enc v_0.2.out))] 6 (.v (.slice none 0 0)) ?_ ?_
      · simp only [go_sem, Le] <;> (repeat' apply And.intro) <;> first | ((try with_reducible refine TL_eq ?_); omega) | ((try with_reducible refine TL_eq ?_); (simp [go_sem]; done))
      refine inlK_of ?_
      simp only [go_sem]
      refine seqQ_normal hQ37 ?_
      refine sg fun QQ44 hQ44 => ?_
      simp only [go_sem]
      refine seqQ_normal hQ44 ?_
      refine vc_cond_f (by (simp only [go_sem]; done)) ?_
      refine vc_skip_of ?_
      refine blockQ_normal hQ6 ?_
      simp only [go_sem]
      obtain rfl := Option.some.inj h
      refine retW_det [some 4, some 5] ?_
      simp only [go_sem, Le] <;> (repeat' apply And.intro) <;> first | ((try with_reducible refine TL_eq ?_); omega) | ((try with_reducible refine TL_eq ?_); (simp [go_sem]; done))
     ·
      replace h := if_f h hb_8
      simp only [bool_to_prop] at hb_8
      refine vc_skip_of ?_
      refine seqQ_normal hQ40 ?_
      refine sg fun QQ45 hQ45 => ?_
      refine vc_draw ?_
      refine drawM_tail 15 [0, 1, 3, 7, 0, 0, 32, 96, 224, 480, 0, 1024, 3072, 7168, 15360, 32767, 65535] mixed (by kernel_rfl) (of_decide_eq_true (by kernel_rfl)) (by kernel_rfl) ?_
      obtain ⟨g_7, h⟩ := guardO_some h
      simp only [go_sem, g_7]
      refine seqQ_normal hQ45 ?_
      refine sg fun QQ46 hQ46 => ?_
      obtain ⟨g_8, h⟩ := guardO_some h
      simp only [go_sem, g_8]
      refine seqQ_normal hQ46 ?_
      refine sg fun QQ47 hQ47 => ?_
      simp only [go_sem]
      refine seqQ_normal hQ47 ?_
      refine vc_ret_of ?_
      simp only [go_sem]
      refine retW_inl [] [(0, .box [.v (.int .i64 v_0.2.r.K), .v (.int .i64 v_0.2.r.V), .osl 4 1 (0) (Int.toNat (IntKind.i64.wrap ((List.length v_0.2.stack : Int) - 2))), .osl 5 2 (0) (List.length v_0.2.out), .v (.int .i64 v_0.2.at_), .v (.int .i64 v_0.2.bad)]), (3, .box [.v (.int .i64 xv_0.Op), .v (.int .i64 xv_0.N)]), (4, .arr 1 (enc v_0.2.stack)), (5, .arr 2 (enc v_0.2.out))] 6 (.osl 4 1 (Int.toNat (IntKind.i64.wrap ((List.length v_0.2.stack : Int) - 2))) (Int.toNat (List.length v_0.2.stack : Int) - Int.toNat (IntKind.i64.wrap ((List.length v_0.2.stack : Int) - 2)))) ?_ ?_
      · simp only [go_sem, Le] <;> (repeat' apply And.intro) <;> first | ((try with_reducible refine TL_eq ?_); omega) | ((try with_reducible refine TL_eq ?_); (simp [go_sem]; done))
      refine inlK_of ?_
      simp only [go_sem]
      refine seqQ_normal hQ37 ?_
      refine sg fun QQ48 hQ48 => ?_
      obtain ⟨g_9, h⟩ := guardO_some h
      simp only [go_sem, g_9]
      refine And.intro (by omega) ?_
      refine seqQ_normal hQ48 ?_
      refine vc_cond_t (by (simp only [go_sem]; done)) ?_
      refine sg fun QQ49 hQ49 => ?_
      refine vc_draw ?_
      refine drawM_tail 13 [0, 1, 0, 4, 12, 0, 32, 96, 255, 511, 1023, 1023, 2047, 8191] mixed (by kernel_rfl) (of_decide_eq_true (by kernel_rfl)) (by kernel_rfl) ?_
      obtain ⟨xv_4, exv_4, h⟩ := bindO_some h
      obtain ⟨fxv_4a, fxv_4b, fxv_4c, fxv_4d⟩ := idx_part exv_4
      simp only [Int.toNat_natCast, Int.reduceToNat, Nat.zero_add, Nat.add_zero] at fxv_4c fxv_4d
      obtain ⟨xv_5, exv_5, h⟩ := bindO_some h
      obtain ⟨fxv_5a, fxv_5b, fxv_5c, fxv_5d⟩ := idx_part exv_5
      simp only [Int.toNat_natCast, Int.reduceToNat, Nat.zero_add, Nat.add_zero] at fxv_5c fxv_5d
      obtain ⟨v_1, ev_1, h⟩ := bindO_some h
      simp only [go_sem, fxv_4a, fxv_4b, fxv_4c, fxv_4d, fxv_5a, fxv_5b, fxv_5c, fxv_5d]
      refine And.intro (by omega) ?_
      refine And.intro (by omega) ?_
      refine callq (fun _ => (f_prog_two_ok xv_0.Op xv_4 xv_5 v_1 ev_1)) (by rfl) (by rfl) ?_
      simp only [go_sem]
      refine seqQ_normal hQ49 ?_
      refine sg fun QQ50 hQ50 => ?_
      simp only [go_sem]
      refine seqQ_normal hQ50 ?_
      obtain ⟨v_2, ev_2, h⟩ := bindO_some h
      simp only [go_sem]
      refine callF_weak (s' := (⟨3, [(0, .ptr 0 0), (1, .agg [.v (.int .i64 xv_0.Op), .v (.int .i64 xv_0.N)]), (3, .ptr 3 0), (6, .osl 4 1 (Int.toNat (IntKind.i64.wrap ((List.length v_0.2.stack : Int) - 2))) (Int.toNat (List.length v_0.2.stack : Int) - Int.toNat (IntKind.i64.wrap ((List.length v_0.2.stack : Int) - 2)))), (7, .v (.int .i64 v_1.1)), (8, .v (.int .i64 v_1.2)), (9, .ptr 0 0), (10, .ptr 0 0), (11, .ptr 0 4), (12, .v (.int .i64 mv_0.at_)), (13, .v (.int .i64 (IntKind.i64.wrap (mv_0.at_ + 1)))), (14, .ptr 0 0), (15, .ptr 0 4), (16, .ptr 0 0), (17, .agg [.v (.int .i64 xv_0.Op), .v (.int .i64 xv_0.N)]), (18, .v (.bool v_0.1)), (19, .ptr 3 0), (20, .v (.int .i64 xv_0.Op)), (21, .ptr 0 0), (22, .osl 4 1 (Int.toNat (IntKind.i64.wrap ((List.length v_0.2.stack : Int) - 2))) (Int.toNat (List.length v_0.2.stack : Int) - Int.toNat (IntKind.i64.wrap ((List.length v_0.2.stack : Int) - 2)))), (23, .osl 4 1 (Int.toNat (IntKind.i64.wrap ((List.length v_0.2.stack : Int) - 2))) (Int.toNat (List.length v_0.2.stack : Int) - Int.toNat (IntKind.i64.wrap ((List.length v_0.2.stack : Int) - 2)))), (24, .v (.bool true)), (25, .tup [.v (.int .i64 v_1.1), .v (.int .i64 v_1.2)]), (26, .ptr 3 0), (27, .v (.int .i64 xv_0.Op)), (28, .osl 4 1 (Int.toNat (IntKind.i64.wrap ((List.length v_0.2.stack : Int) - 2))) (Int.toNat (List.length v_0.2.stack : Int) - Int.toNat (IntKind.i64.wrap ((List.length v_0.2.stack : Int) - 2)))), (30, .v (.int .i64 xv_4)), (31, .osl 4 1 (Int.toNat (IntKind.i64.wrap ((List.length v_0.2.stack : Int) - 2))) (Int.toNat (List.length v_0.2.stack : Int) - Int.toNat (IntKind.i64.wrap ((List.length v_0.2.stack : Int) - 2)))), (33, .v (.int .i64 xv_5)), (34, .tup [.v (.int .i64 v_1.1), .v (.int .i64 v_1.2)]), (35, .v (.int .i64 v_1.1)), (36, .v (.int .i64 v_1.2)), (37, .ptr 0 0), (38, .v (.int .i64 v_1.2)), (39, .ptr 0 0), (40, .ptr 0 5), (41, .ptr 0 0), (42, .v (.int .i64 v_1.1)), (44, .v (.bool (xv_0.Op == 14))), (45, .v (.bool (xv_0.Op == 14))), (51, .v (.bool (xv_0.Op == 15))), (52, .v (.bool (xv_0.Op == 15))), (68, .v (.bool (xv_0.Op == 16))), (69, .v (.bool (xv_0.Op == 16)))], [(0, .box [.v (.int .i64 v_0.2.r.K), .v (.int .i64 v_0.2.r.V), .osl 4 1 (0) (List.length (List.take (Int.toNat (IntKind.i64.wrap ((List.length v_0.2.stack : Int) - 2))) v_0.2.stack)), .osl 5 2 (0) (List.length v_0.2.out), .v (.int .i64 v_0.2.at_), .v (.int .i64 v_1.2)]), (3, .box [.v (.int .i64 xv_0.Op), .v (.int .i64 xv_0.N)]), (4, .arr 1 (enc (List.take (Int.toNat (IntKind.i64.wrap ((List.length v_0.2.stack : Int) - 2))) v_0.2.stack))), (5, .arr 2 (enc v_0.2.out))], 6, 101⟩ : St)) (l := [some 3, some 4, some 5]) (args' := [.ptr 0 0, .v (.int .i64 v_1.1)]) ?_ ?_ ?_
      · simp only [go_sem, Le] <;> (repeat' apply And.intro) <;> first | (with_reducible exact TL_enc _ _) | ((try with_reducible refine TL_eq ?_); omega) | ((try with_reducible refine TL_eq ?_); (simp [go_sem]; done)) | ((try with_reducible refine TL_eq ?_); (simp [enc_len, enc]; omega))
      · simp only [go_sem, Le]
      refine callD [0, 4, 5] (f_prog_machine_push_p0_s0_2_s0_3_det (⟨v_0.2.r, (List.take (Int.toNat (IntKind.i64.wrap ((List.length v_0.2.stack : Int) - 2))) v_0.2.stack), v_0.2.out, v_0.2.at_, v_1.2⟩ : GProg_machine) v_1.1 v_2 ev_2) (by simp) rfl ⟨rfl, ⟨rfl, ⟨rfl, trivial⟩⟩⟩ rfl rfl rfl rfl ?_
      simp only [go_sem]
      refine blockQ_normal hQ6 ?_
      simp only [go_sem]
      obtain rfl := Option.some.inj h
      refine retW_det [some 6, some 7] ?_
      simp only [go_sem, Le] <;> (repeat' apply And.intro) <;> first | ((try with_reducible refine TL_eq ?_); omega) | ((try with_reducible refine TL_eq ?_); (simp [go_sem]; done))

def f_prog_Run_J1 (rv_0 : GRec) (b_8 : Int) (b_9 : Int) (b_10 : Int) (b_11 : Int) (a_4 : List Int) (a_5 : List GRec) : Option ((List GRec) × Int) :=
 (if (!(b_11 == 0)) = true then some (([(⟨rv_0.K, IntKind.i64.wrap ((-9223372036854775808) + b_11)⟩ : GRec)] : List GRec), b_11)
 else some (a_5, 0))
def f_prog_Run_B2 (p_0 : List GIns) (rv_0 : GRec) (rec_2 : Int × Int × Int × Int × Int × (List Int) × (List GRec) → Option ((List GRec) × Int)) : Int × Int × Int × Int × Int × (List Int) × (List GRec) → Option ((List GRec) × Int) :=
 fun (fuel_3, b_16, b_17, b_18, b_19, a_8, a_9) =>
 (if ((decide (b_18 < (List.length p_0 : Int))) && (b_19 == 0)) = true then (if (fuel_3 == 0) = true then f_prog_Run_J1 rv_0 b_16 b_17 b_18 4 a_8 a_9
 else bindO (idx p_0 b_18) (fun (xv_5 : GIns) =>
 bindO (f_prog_machine_step_p0_s0_2_s0_3 (⟨(⟨b_16, b_17⟩ : GRec), a_8, a_9, b_18, b_19⟩ : GProg_machine) xv_5) (fun (v_6 : GProg_machine) =>
 rec_2 (IntKind.i64.wrap (fuel_3 - 1), v_6.r.K, v_6.r.V, v_6.at_, v_6.bad, v_6.stack, v_6.out))))
 else f_prog_Run_J1 rv_0 b_16 b_17 b_18 b_19 a_8 a_9)
def f_prog_Run (p_0 : List GIns) (rv_0 : GRec) : Option ((List GRec) × Int) :=
 bindO (f_prog_Right p_0) (fun (v_0 : Bool) =>
 (if (!v_0) = true then some (([] : List GRec), 0)
 else loopK (f_prog_Run_B2 p_0 rv_0) rounds (256, rv_0.K, rv_0.V, 0, 0, [], [])))
theorem f_prog_Run_ok (p_0 : List GIns) (rv_0 : GRec)  (r : (List GRec) × Int) (h : f_prog_Run p_0 rv_0 = some r) : PureS Try.prog 194 [.sl 2 (enc p_0), .agg [.v (.int .i64 rv_0.K), .v (.int .i64 rv_0.V)]] 0 (.tup [.sl 2 (enc r.1), .v (.int .i64 r.2)]) := by
 unfold PureS
 refine Spec.of_vc Try.func194 rfl (by kernel_rfl) (by kernel_rfl) ?_
 rw [f_prog_Run] at h
 refine sg fun QQ1 hQ1 => ?_
 simp only [go_sem]
 refine seqQ_normal hQ1 ?_
 refine sg fun QQ2 hQ2 => ?_
 refine sg fun QQ3 hQ3 => ?_
 obtain ⟨v_0, ev_0, h⟩ := bindO_some h
 simp only [go_sem]
 refine call0 (f_prog_Right_ok p_0 v_0 ev_0) (by rfl) (by rfl) ?_
 simp only [go_sem]
 refine seqQ_normal hQ3 ?_
 refine vc_cond_of (b := (!v_0)) (by (simp only [go_sem]; done)) (fun hb_0 => ?_) (fun hb_0 => ?_)
 ·
  replace h := if_t h hb_0
  simp only [bool_to_prop] at hb_0
  refine sg fun QQ4 hQ4 => ?_
  simp only [go_sem]
  refine seqQ_normal hQ4 ?_
  refine vc_ret_of ?_
  refine seqQ_ret hQ2 ?_
  simp only [go_sem]
  obtain rfl := Option.some.inj h
  refine retW_pure rfl ?_
  simp only [go_sem, Le]
 ·
  replace h := if_f h hb_0
  simp only [bool_to_prop] at hb_0
  refine vc_skip_of ?_
  refine seqQ_normal hQ2 ?_
  refine sg fun QQ5 hQ5 => ?_
  simp only [go_sem]
  refine seqQ_normal hQ5 ?_
  refine vc_join (by kernel_rfl) ?_
  refine seq_cut_gen (ι := Int × Int × Int × Int × (List Int) × (List GRec)) (fun ((b_8, b_9, b_10, b_11, a_4, a_5) : Int × Int × Int × Int × (List Int) × (List GRec)) => (⟨0, [(3, .ptr 0 0), (6, .ptr 1 0)], [(0, .box [.v (.int .i64 rv_0.K), .v (.int .i64 rv_0.V)]), (1, .box [.v (.int .i64 b_8), .v (.int .i64 b_9), .osl 2 1 (0) (List.length a_4), .osl 3 2 (0) (List.length a_5), .v (.int .i64 b_10), .v (.int .i64 b_11)]), (2, .arr 1 (enc a_4)), (3, .arr 2 (enc a_5))], 4, 66⟩ : St)) (fun ((b_8, b_9, b_10, b_11, a_4, a_5) : Int × Int × Int × Int × (List Int) × (List GRec)) => f_prog_Run_J1 rv_0 b_8 b_9 b_10 b_11 a_4 a_5 = some r) ?_ ?_
  ·
   intro QQ10 hQ10
   refine sg fun QQ11 hQ11 => ?_
   simp only [go_sem]
   refine seqQ_normal hQ11 ?_
   refine vc_block_gen ?_
   intro QQ12 hQ12
   refine vc_loop_of ?_
   refine loop_gen (ι := Nat × Int × Int × Int × Int × Int × (List Int) × (List GRec)) (fun ((_, fuel_3, b_16, b_17, b_18, b_19, a_8, a_9) : Nat × Int × Int × Int × Int × Int × (List Int) × (List GRec)) => (⟨0, [(0, .sl 2 (enc p_0)), (3, .ptr 0 0), (6, .ptr 1 0), (7, .v (.int .i64 fuel_3))], [(0, .box [.v (.int .i64 rv_0.K), .v (.int .i64 rv_0.V)]), (1, .box [.v (.int .i64 b_16), .v (.int .i64 b_17), .osl 2 1 (0) (List.length a_8), .osl 3 2 (0) (List.length a_9), .v (.int .i64 b_18), .v (.int .i64 b_19)]), (2, .arr 1 (enc a_8)), (3, .arr 2 (enc a_9))], 4, 66⟩ : St)) (fun ((n_, fuel_3, b_16, b_17, b_18, b_19, a_8, a_9) : Nat × Int × Int × Int × Int × Int × (List Int) × (List GRec)) => loopK (f_prog_Run_B2 p_0 rv_0) n_ (fuel_3, b_16, b_17, b_18, b_19, a_8, a_9) = some r) (fun p => p.1) (rounds, 256, rv_0.K, rv_0.V, 0, 0, [], []) [some 0, some 1, none, none] ?_ h ?_
   · simp only [go_sem, Le] <;> (repeat' apply And.intro) <;> first | ((try with_reducible refine TL_eq ?_); omega) | ((try with_reducible refine TL_eq ?_); (simp [go_sem]; done))
   ·
    rintro ⟨n_2, fuel_3, b_16, b_17, b_18, b_19, a_8, a_9⟩ h QQ13 hQ13
    dsimp only at h
    replace h := loopK_some h
    obtain ⟨m_2, rfl, h⟩ := h
    rw [f_prog_Run_B2] at h
    refine sg fun QQ14 hQ14 => ?_
    refine sg fun QQ15 hQ15 => ?_
    simp only [go_sem]
    refine seqQ_normal hQ15 ?_
    refine vc_cond_of (b := ((decide (b_18 < (List.length p_0 : Int))) && (b_19 == 0))) (by (simp only [go_sem]; done)) (fun hb_10 => ?_) (fun hb_10 => ?_)
    ·
     replace h := if_t h hb_10
     simp only [bool_to_prop] at hb_10
     refine vc_skip_of ?_
     refine seqQ_normal hQ14 ?_
     refine sg fun QQ16 hQ16 => ?_
     refine vc_block_gen ?_
     intro QQ17 hQ17
     refine sg fun QQ18 hQ18 => ?_
     refine sg fun QQ19 hQ19 => ?_
     simp only [go_sem]
     refine seqQ_normal hQ19 ?_
     refine vc_cond_of (b := (fuel_3 == 0)) (by (simp only [go_sem]; done)) (fun hb_11 => ?_) (fun hb_11 => ?_)
     ·
      replace h := if_t h hb_11
      simp only [bool_to_prop] at hb_11
      refine sg fun QQ20 hQ20 => ?_
      simp only [go_sem]
      refine seqQ_normal hQ20 ?_
      refine vc_exit_of ?_
      refine seqQ_exit hQ18 ?_
      refine blockQ_other hQ17 (by decide) ?_
      refine seqQ_exit hQ16 ?_
      refine thenQ_exit hQ13 ?_
      refine blockQ_exit hQ12 ?_
      refine thenQ_normal hQ10 ?_
      refine ⟨(b_16, b_17, b_18, 4, a_8, a_9), [some 0, some 1, some 2, some 3], ?_, h⟩
      simp only [go_sem, Le] <;> (repeat' apply And.intro) <;> first | ((try with_reducible refine TL_eq ?_); omega) | ((try with_reducible refine TL_eq ?_); (simp [go_sem]; done))
     ·
      replace h := if_f h hb_11
      simp only [bool_to_prop] at hb_11
      refine vc_skip_of ?_
      refine seqQ_normal hQ18 ?_
      obtain ⟨xv_5, exv_5, h⟩ := bindO_some h
      obtain ⟨fxv_5a, fxv_5b, fxv_5c⟩ := idx_spec exv_5
      obtain ⟨v_6, ev_6, h⟩ := bindO_some h
      simp only [go_sem, fxv_5a, fxv_5b, fxv_5c]
      refine And.intro (by omega) ?_
      refine callD [1, 2, 3] (f_prog_machine_step_p0_s0_2_s0_3_det (⟨(⟨b_16, b_17⟩ : GRec), a_8, a_9, b_18, b_19⟩ : GProg_machine) xv_5 v_6 ev_6) (by simp) rfl ⟨rfl, ⟨rfl, ⟨rfl, trivial⟩⟩⟩ rfl rfl rfl rfl ?_
      simp only [go_sem]
      refine blockQ_normal hQ17 ?_
      refine seqQ_normal hQ16 ?_
      simp only [go_sem]
      refine thenQ_normal hQ13 ?_
      refine ⟨(m_2, IntKind.i64.wrap (fuel_3 - 1), v_6.r.K, v_6.r.V, v_6.at_, v_6.bad, v_6.stack, v_6.out), [some 0, some 1, some 4, some 5], ?_, h, Nat.lt_succ_self _⟩
      simp only [go_sem, Le] <;> (repeat' apply And.intro) <;> first | ((try with_reducible refine TL_eq ?_); omega) | ((try with_reducible refine TL_eq ?_); (simp [go_sem]; done))
    ·
     replace h := if_f h hb_10
     simp only [bool_to_prop] at hb_10
     refine vc_exit_of ?_
     refine seqQ_exit hQ14 ?_
     refine thenQ_exit hQ13 ?_
     refine blockQ_exit hQ12 ?_
     refine thenQ_normal hQ10 ?_
     refine ⟨(b_16, b_17, b_18, b_19, a_8, a_9), [some 0, some 1, some 2, some 3], ?_, h⟩
     simp only [go_sem, Le] <;> (repeat' apply And.intro) <;> first | ((try with_reducible refine TL_eq ?_); omega) | ((try with_reducible refine TL_eq ?_); (simp [go_sem]; done))
  ·
   rintro ⟨b_8, b_9, b_10, b_11, a_4, a_5⟩ h
   try dsimp only at h
   rw [f_prog_Run_J1] at h
   refine sg fun QQ6 hQ6 => ?_
   refine sg fun QQ7 hQ7 => ?_
   simp only [go_sem]
   refine seqQ_normal hQ7 ?_
   refine vc_cond_of (b := (!(b_11 == 0))) (by (simp only [go_sem]; done)) (fun hb_6 => ?_) (fun hb_6 => ?_)
   ·
    replace h := if_t h hb_6
    simp only [bool_to_prop] at hb_6
    refine sg fun QQ8 hQ8 => ?_
    refine vc_draw ?_
    refine drawM_tail 14 [0, 1, 0, 4, 12, 28, 60, 127, 255, 0, 512, 1536, 3584, 511, 16383] mixed (by kernel_rfl) (of_decide_eq_true (by kernel_rfl)) (by kernel_rfl) ?_
    have rf_0 : [[.v (.int .i64 rv_0.K), .v (.int .i64 (IntKind.i64.wrap ((-9223372036854775808) + b_11)))]] = enc ([(⟨rv_0.K, IntKind.i64.wrap ((-9223372036854775808) + b_11)⟩ : GRec)] : List GRec) := by rfl
    simp only [go_sem]
    simp only [rf_0]
    refine seqQ_normal hQ8 ?_
    refine vc_ret_of ?_
    refine seqQ_ret hQ6 ?_
    simp only [go_sem]
    obtain rfl := Option.some.inj h
    refine retW_pure rfl ?_
    simp only [go_sem, Le]
   ·
    replace h := if_f h hb_6
    simp only [bool_to_prop] at hb_6
    refine vc_skip_of ?_
    refine seqQ_normal hQ6 ?_
    refine sg fun QQ9 hQ9 => ?_
    simp only [go_sem]
    refine seqQ_normal hQ9 ?_
    refine vc_ret_of ?_
    simp only [go_sem]
    obtain rfl := Option.some.inj h
    refine retW_pure rfl ?_
    simp only [go_sem, Le] <;> (repeat' apply And.intro) <;> ((try with_reducible refine TL_eq ?_); (simp [go_sem]; done))

def f_ops_wrong (k_0 : Int) : Option GRec :=
 some (⟨k_0, -9223372036854775806⟩ : GRec)
theorem f_ops_wrong_ok (k_0 : Int)  (r : GRec) (h : f_ops_wrong k_0 = some r) : PureS Try.prog 195 [.v (.int .i64 k_0)] 0 (.agg [.v (.int .i64 r.K), .v (.int .i64 r.V)]) := by
 unfold PureS
 refine Spec.of_vc Try.func195 rfl (by kernel_rfl) (by kernel_rfl) ?_
 rw [f_ops_wrong] at h
 refine sg fun QQ1 hQ1 => ?_
 simp only [go_sem]
 refine seqQ_normal hQ1 ?_
 refine sg fun QQ2 hQ2 => ?_
 simp only [go_sem]
 refine seqQ_normal hQ2 ?_
 refine vc_ret_of ?_
 simp only [go_sem]
 obtain rfl := Option.some.inj h
 refine retW_pure rfl ?_
 simp only [go_sem, Le]

def f_ops_plus (k_0 : Int) (a_0 : Int) (b_0 : Int) : Option GRec :=
 (if (((decide (a_0 < 0)) == (decide (b_0 < 0))) && (!((decide ((IntKind.i64.wrap (a_0 + b_0)) < 0)) == (decide (a_0 < 0))))) = true then bindO (f_ops_wrong k_0) (fun (v_0 : GRec) =>
 some v_0)
 else some (⟨k_0, IntKind.i64.wrap (a_0 + b_0)⟩ : GRec))
theorem f_ops_plus_ok (k_0 : Int) (a_0 : Int) (b_0 : Int)  (r : GRec) (h : f_ops_plus k_0 a_0 b_0 = some r) : PureS Try.prog 122 [.v (.int .i64 k_0), .v (.int .i64 a_0), .v (.int .i64 b_0)] 0 (.agg [.v (.int .i64 r.K), .v (.int .i64 r.V)]) := by
 unfold PureS
 refine Spec.of_vc Try.func122 rfl (by kernel_rfl) (by kernel_rfl) ?_
 rw [f_ops_plus] at h
 refine sg fun QQ1 hQ1 => ?_
 simp only [go_sem]
 refine seqQ_normal hQ1 ?_
 refine sg fun QQ2 hQ2 => ?_
 simp only [go_sem]
 refine seqQ_normal hQ2 ?_
 refine sg fun QQ3 hQ3 => ?_
 refine sg fun QQ4 hQ4 => ?_
 simp only [go_sem]
 refine seqQ_normal hQ4 ?_
 refine vc_cond_of (b := (((decide (a_0 < 0)) == (decide (b_0 < 0))) && (!((decide ((IntKind.i64.wrap (a_0 + b_0)) < 0)) == (decide (a_0 < 0)))))) (by (simp only [go_sem]; done)) (fun hb_0 => ?_) (fun hb_0 => ?_)
 ·
  replace h := if_t h hb_0
  simp only [bool_to_prop] at hb_0
  refine sg fun QQ5 hQ5 => ?_
  obtain ⟨v_0, ev_0, h⟩ := bindO_some h
  simp only [go_sem]
  refine call0 (f_ops_wrong_ok k_0 v_0 ev_0) (by rfl) (by rfl) ?_
  simp only [go_sem]
  refine seqQ_normal hQ5 ?_
  refine vc_ret_of ?_
  refine seqQ_ret hQ3 ?_
  simp only [go_sem]
  obtain rfl := Option.some.inj h
  refine retW_pure rfl ?_
  simp only [go_sem, Le]
 ·
  replace h := if_f h hb_0
  simp only [bool_to_prop] at hb_0
  refine vc_skip_of ?_
  refine seqQ_normal hQ3 ?_
  refine sg fun QQ6 hQ6 => ?_
  simp only [go_sem]
  refine seqQ_normal hQ6 ?_
  refine vc_ret_of ?_
  simp only [go_sem]
  obtain rfl := Option.some.inj h
  refine retW_pure rfl ?_
  simp only [go_sem, Le]

def f_ops_single (xv_0 : GNode) (rv_0 : GRec) : Option (List GRec) :=
 (if (xv_0.Kind == 2) = true then bindO (f_prog_Run xv_0.Prog rv_0) (fun (v_0 : (List GRec) × Int) =>
 some v_0.1)
 else (if (xv_0.Kind == 3) = true then bindO (f_ops_plus rv_0.K rv_0.V xv_0.Arg) (fun (v_1 : GRec) =>
 some ([v_1] : List GRec))
 else (if (xv_0.Kind == 4) = true then (if (decide (xv_0.Arg < 1)) = true then some ([] : List GRec)
 else guardO (xv_0.Arg ≠ 0) (
 (if (!((Int.tmod rv_0.V xv_0.Arg) == 0)) = true then some ([] : List GRec)
 else some ([rv_0] : List GRec))))
 else some ([rv_0] : List GRec))))
theorem f_ops_single_ok (xv_0 : GNode) (rv_0 : GRec)  (r : List GRec) (h : f_ops_single xv_0 rv_0 = some r) : PureS Try.prog 119 [.agg [.v (.int .i64 xv_0.Kind), .v (.int .i64 xv_0.Scope), .v (.int .i64 xv_0.Arg), .sl 2 (enc xv_0.Prog)], .agg [.v (.int .i64 rv_0.K), .v (.int .i64 rv_0.V)]] 0 (.sl 2 (enc r)) := by
 unfold PureS
 refine Spec.of_vc Try.func119 rfl (by kernel_rfl) (by kernel_rfl) ?_
 rw [f_ops_single] at h
 refine sg fun QQ1 hQ1 => ?_
 simp only [go_sem]
 refine seqQ_normal hQ1 ?_
 refine vc_join (by kernel_rfl) ?_
 refine seq_go_gen ?_
 intro QQ2 hQ2
 refine sg fun QQ3 hQ3 => ?_
 simp only [go_sem]
 refine seqQ_normal hQ3 ?_
 refine vc_block_gen ?_
 intro QQ4 hQ4
 refine sg fun QQ5 hQ5 => ?_
 simp only [go_sem]
 refine seqQ_normal hQ5 ?_
 refine vc_cond_of (b := (xv_0.Kind == 2)) (by (simp only [go_sem]; done)) (fun hb_0 => ?_) (fun hb_0 => ?_)
 ·
  replace h := if_t h hb_0
  simp only [bool_to_prop] at hb_0
  refine sg fun QQ6 hQ6 => ?_
  obtain ⟨v_0, ev_0, h⟩ := bindO_some h
  simp only [go_sem]
  refine call0 (f_prog_Run_ok xv_0.Prog rv_0 v_0 ev_0) (by rfl) (by rfl) ?_
  simp only [go_sem]
  refine seqQ_normal hQ6 ?_
  refine sg fun QQ7 hQ7 => ?_
  simp only [go_sem]
  refine seqQ_normal hQ7 ?_
  refine vc_ret_of ?_
  refine blockQ_ret hQ4 ?_
  refine seqQ_ret hQ2 ?_
  simp only [go_sem]
  obtain rfl := Option.some.inj h
  refine retW_pure rfl ?_
  simp only [go_sem, Le]
 ·
  replace h := if_f h hb_0
  simp only [bool_to_prop] at hb_0
  refine sg fun QQ8 hQ8 => ?_
  simp only [go_sem]
  refine seqQ_normal hQ8 ?_
  refine vc_cond_of (b := (xv_0.Kind == 3)) (by (simp only [go_sem]; done)) (fun hb_1 => ?_) (fun hb_1 => ?_)
  ·
   replace h := if_t h hb_1
   simp only [bool_to_prop] at hb_1
   refine sg fun QQ9 hQ9 => ?_
   obtain ⟨v_1, ev_1, h⟩ := bindO_some h
   simp only [go_sem]
   refine call0 (f_ops_plus_ok rv_0.K rv_0.V xv_0.Arg v_1 ev_1) (by rfl) (by rfl) ?_
   have rf_0 : [[.v (.int .i64 v_1.K), .v (.int .i64 v_1.V)]] = enc ([v_1] : List GRec) := by rfl
   simp only [go_sem]
   simp only [rf_0]
   refine seqQ_normal hQ9 ?_
   refine vc_ret_of ?_
   refine blockQ_ret hQ4 ?_
   refine seqQ_ret hQ2 ?_
   simp only [go_sem]
   obtain rfl := Option.some.inj h
   refine retW_pure rfl ?_
   simp only [go_sem, Le] <;> (repeat' apply And.intro) <;> ((try with_reducible refine TL_eq ?_); (simp [go_sem]; done))
  ·
   replace h := if_f h hb_1
   simp only [bool_to_prop] at hb_1
   refine sg fun QQ10 hQ10 => ?_
   simp only [go_sem]
   refine seqQ_normal hQ10 ?_
   refine vc_cond_of (b := (xv_0.Kind == 4)) (by (simp only [go_sem]; done)) (fun hb_2 => ?_) (fun hb_2 => ?_)
   ·
    replace h := if_t h hb_2
    simp only [bool_to_prop] at hb_2
    refine sg fun QQ11 hQ11 => ?_
    simp only [go_sem]
    rcases hb_3 : (decide (xv_0.Arg < 1)) with _ | _
    ·
     replace h := if_f h hb_3
     obtain ⟨g_0, h⟩ := guardO_some h
     simp only [go_sem, hb_3, g_0]
     refine seqQ_normal hQ11 ?_
     refine vc_cond_of (b := (!((Int.tmod rv_0.V xv_0.Arg) == 0))) (by (simp only [go_sem]; done)) (fun hb_4 => ?_) (fun hb_4 => ?_)
     ·
      replace h := if_t h hb_4
      simp only [bool_to_prop] at hb_4
      refine sg fun QQ12 hQ12 => ?_
      simp only [go_sem]
      refine seqQ_normal hQ12 ?_
      refine vc_ret_of ?_
      refine blockQ_ret hQ4 ?_
      refine seqQ_ret hQ2 ?_
      simp only [go_sem]
      obtain rfl := Option.some.inj h
      refine retW_pure rfl ?_
      simp only [go_sem, Le]
     ·
      replace h := if_f h hb_4
      simp only [bool_to_prop] at hb_4
      refine vc_skip_of ?_
      refine blockQ_normal hQ4 ?_
      refine seqQ_normal hQ2 ?_
      refine sg fun QQ13 hQ13 => ?_
      have rf_1 : [[.v (.int .i64 rv_0.K), .v (.int .i64 rv_0.V)]] = enc ([rv_0] : List GRec) := by rfl
      simp only [go_sem]
      simp only [rf_1]
      refine seqQ_normal hQ13 ?_
      refine vc_ret_of ?_
      simp only [go_sem]
      obtain rfl := Option.some.inj h
      refine retW_pure rfl ?_
      simp only [go_sem, Le] <;> (repeat' apply And.intro) <;> ((try with_reducible refine TL_eq ?_); (simp [go_sem]; done))
    ·
     replace h := if_t h hb_3
     simp only [go_sem, hb_3]
     refine seqQ_normal hQ11 ?_
     refine vc_cond_t (by (simp only [go_sem]; done)) ?_
     refine sg fun QQ14 hQ14 => ?_
     simp only [go_sem]
     refine seqQ_normal hQ14 ?_
     refine vc_ret_of ?_
     refine blockQ_ret hQ4 ?_
     refine seqQ_ret hQ2 ?_
     simp only [go_sem]
     obtain rfl := Option.some.inj h
     refine retW_pure rfl ?_
     simp only [go_sem, Le]
   ·
    replace h := if_f h hb_2
    simp only [bool_to_prop] at hb_2
    refine vc_skip_of ?_
    refine blockQ_normal hQ4 ?_
    refine seqQ_normal hQ2 ?_
    refine sg fun QQ15 hQ15 => ?_
    have rf_2 : [[.v (.int .i64 rv_0.K), .v (.int .i64 rv_0.V)]] = enc ([rv_0] : List GRec) := by rfl
    simp only [go_sem]
    simp only [rf_2]
    refine seqQ_normal hQ15 ?_
    refine vc_ret_of ?_
    simp only [go_sem]
    obtain rfl := Option.some.inj h
    refine retW_pure rfl ?_
    simp only [go_sem, Le] <;> (repeat' apply And.intro) <;> ((try with_reducible refine TL_eq ?_); (simp [go_sem]; done))

def f_ops_maker_add_p0_s0_0 (mv_0 : GOps_maker) (rv_0 : GRec) (nv_0 : Int) : Option (Bool × GOps_maker) :=
 (if (decide ((IntKind.i64.wrap (65536 - mv_0.many)) < nv_0)) = true then some (false, mv_0)
 else guardO ((List.length mv_0.out + List.length ([(⟨rv_0, nv_0⟩ : GItem)] : List GItem)) * 24 ≤ 140737488355328) (
 some (true, (⟨(mv_0.out ++ ([(⟨rv_0, nv_0⟩ : GItem)] : List GItem)), IntKind.i64.wrap (mv_0.many + nv_0)⟩ : GOps_maker))))
theorem f_ops_maker_add_p0_s0_0_det (mv_0 : GOps_maker) (rv_0 : GRec) (nv_0 : Int)  (r : Bool × GOps_maker) (h : f_ops_maker_add_p0_s0_0 mv_0 rv_0 nv_0 = some r) : DetS Try.prog 68 [.ptr 0 0, .agg [.v (.int .i64 rv_0.K), .v (.int .i64 rv_0.V)], .v (.int .i64 nv_0)] [(0, .box [.osl 1 3 (0) (List.length mv_0.out), .v (.int .i64 mv_0.many)]), (1, .arr 3 (enc mv_0.out))] 2 (.v (.bool r.1)) [(0, .box [.osl 2 3 (0) (List.length r.2.out), .v (.int .i64 r.2.many)]), (2, .arr 3 (enc r.2.out))] 3 := by
 unfold DetS
 refine Spec.of_vc Try.func68 rfl (by kernel_rfl) (by kernel_rfl) ?_
 rw [f_ops_maker_add_p0_s0_0] at h
 refine sg fun QQ1 hQ1 => ?_
 simp only [go_sem]
 refine seqQ_normal hQ1 ?_
 refine sg fun QQ2 hQ2 => ?_
 refine sg fun QQ3 hQ3 => ?_
 simp only [go_sem]
 refine seqQ_normal hQ3 ?_
 refine vc_cond_of (b := (decide ((IntKind.i64.wrap (65536 - mv_0.many)) < nv_0))) (by (simp only [go_sem]; done)) (fun hb_0 => ?_) (fun hb_0 => ?_)
 ·
  replace h := if_t h hb_0
  simp only [bool_to_prop] at hb_0
  refine sg fun QQ4 hQ4 => ?_
  simp only [go_sem]
  refine seqQ_normal hQ4 ?_
  refine vc_ret_of ?_
  refine seqQ_ret hQ2 ?_
  simp only [go_sem]
  obtain rfl := Option.some.inj h
  refine retW_det [some 1] ?_
  simp only [go_sem, Le] <;> (repeat' apply And.intro) <;> first | ((try with_reducible refine TL_eq ?_); omega) | ((try with_reducible refine TL_eq ?_); (simp [go_sem]; done))
 ·
  replace h := if_f h hb_0
  simp only [bool_to_prop] at hb_0
  refine vc_skip_of ?_
  refine seqQ_normal hQ2 ?_
  refine sg fun QQ5 hQ5 => ?_
  simp only [go_sem]
  refine seqQ_normal hQ5 ?_
  refine sg fun QQ6 hQ6 => ?_
  refine vc_draw ?_
  refine drawV_all 10 0 [0, 0, 2, 6, 14, 0, 0, 96, 224, 510, 1023, 2047, 4095] [1, 3] [0] [9] [] mixed (by kernel_rfl) (of_decide_eq_true (by kernel_rfl)) (by kernel_rfl) (by kernel_rfl) (by rfl) ?_
  have rf_0 : [[.v (.int .i64 rv_0.K), .v (.int .i64 rv_0.V), .v (.int .i64 nv_0)]] = enc ([(⟨rv_0, nv_0⟩ : GItem)] : List GItem) := by rfl
  obtain ⟨g_0, h⟩ := guardO_some h
  simp only [List.length_cons, List.length_nil, Nat.zero_add, List.length_append] at g_0
  have rf_1 : enc mv_0.out ++ [[.v (.int .i64 rv_0.K), .v (.int .i64 rv_0.V), .v (.int .i64 nv_0)]] = enc (mv_0.out ++ ([(⟨rv_0, nv_0⟩ : GItem)] : List GItem)) := by exact (enc_app mv_0.out ([(⟨rv_0, nv_0⟩ : GItem)] : List GItem)).symm
  simp only [go_sem, g_0, rf_1]
  simp only [rf_0]
  refine seqQ_normal hQ6 ?_
  refine sg fun QQ7 hQ7 => ?_
  simp only [go_sem]
  refine seqQ_normal hQ7 ?_
  refine vc_ret_of ?_
  simp only [go_sem]
  obtain rfl := Option.some.inj h
  refine retW_det [some 3] ?_
  simp only [go_sem, Le] <;> (repeat' apply And.intro) <;> first | ((try with_reducible refine TL_eq ?_); omega) | ((try with_reducible refine TL_eq ?_); (simp [go_sem]; done))

def f_ops_maker_linear_p0_s0_0_B2 (t13_1 : Int) (rec_1 : (Int × Int × (List GItem) → Option (Bool × GOps_maker))) (xv_9 : GItem) (v_8 : List GRec) (rec_2 : Int × Int × (List GItem) → Option (Bool × GOps_maker)) : Int × Int × (List GItem) → Option (Bool × GOps_maker) :=
 fun (t22_5, b_8, a_7) =>
 (if (decide (t22_5 < (List.length v_8 : Int))) = true then bindO (idx v_8 t22_5) (fun (xv_12 : GRec) =>
 bindO (f_ops_maker_add_p0_s0_0 (⟨a_7, b_8⟩ : GOps_maker) xv_12 xv_9.N) (fun (v_11 : Bool × GOps_maker) =>
 (if (!v_11.1) = true then some (false, v_11.2)
 else rec_2 (IntKind.i64.wrap (t22_5 + 1), v_11.2.many, v_11.2.out))))
 else rec_1 (IntKind.i64.wrap (t13_1 + 1), b_8, a_7))
def f_ops_maker_linear_p0_s0_0_B1 (xv_0 : GNode) (b_0 : List GItem) (rec_1 : Int × Int × (List GItem) → Option (Bool × GOps_maker)) : Int × Int × (List GItem) → Option (Bool × GOps_maker) :=
 fun (t13_1, b_6, a_5) =>
 (if (decide (t13_1 < (List.length b_0 : Int))) = true then bindO (idx b_0 t13_1) (fun (xv_9 : GItem) =>
 bindO (f_ops_single xv_0 xv_9.Rec) (fun (v_8 : List GRec) =>
 loopK (f_ops_maker_linear_p0_s0_0_B2 t13_1 rec_1 xv_9 v_8) rounds (0, b_6, a_5)))
 else some (true, (⟨a_5, b_6⟩ : GOps_maker)))
def f_ops_maker_linear_p0_s0_0 (mv_0 : GOps_maker) (xv_0 : GNode) (b_0 : List GItem) : Option (Bool × GOps_maker) :=
 loopK (f_ops_maker_linear_p0_s0_0_B1 xv_0 b_0) rounds (0, mv_0.many, mv_0.out)
theorem f_ops_maker_linear_p0_s0_0_det (mv_0 : GOps_maker) (xv_0 : GNode) (b_0 : List GItem)  (r : Bool × GOps_maker) (h : f_ops_maker_linear_p0_s0_0 mv_0 xv_0 b_0 = some r) : DetS Try.prog 67 [.ptr 0 0, .agg [.v (.int .i64 xv_0.Kind), .v (.int .i64 xv_0.Scope), .v (.int .i64 xv_0.Arg), .sl 2 (enc xv_0.Prog)], .sl 3 (enc b_0)] [(0, .box [.osl 1 3 (0) (List.length mv_0.out), .v (.int .i64 mv_0.many)]), (1, .arr 3 (enc mv_0.out))] 2 (.v (.bool r.1)) [(0, .box [.osl 2 3 (0) (List.length r.2.out), .v (.int .i64 r.2.many)]), (2, .arr 3 (enc r.2.out))] 3 := by
 unfold DetS
 refine Spec.of_vc Try.func67 rfl (by kernel_rfl) (by kernel_rfl) ?_
 rw [f_ops_maker_linear_p0_s0_0] at h
 refine sg fun QQ1 hQ1 => ?_
 simp only [go_sem]
 refine seqQ_normal hQ1 ?_
 refine vc_join (by kernel_rfl) ?_
 refine seq_go_gen ?_
 intro QQ2 hQ2
 refine sg fun QQ3 hQ3 => ?_
 simp only [go_sem]
 refine seqQ_normal hQ3 ?_
 refine vc_block_gen ?_
 intro QQ4 hQ4
 refine vc_loop_of ?_
 refine loop_gen (ι := Nat × Int × Int × (List GItem)) (fun ((_, t13_1, b_6, a_5) : Nat × Int × Int × (List GItem)) => (⟨2, [(0, .ptr 0 0), (4, .ptr 2 0), (11, .sl 3 (enc b_0)), (12, .v (.int .i64 (List.length b_0 : Int))), (13, .v (.int .i64 t13_1))], [(0, .box [.osl 3 3 (0) (List.length a_5), .v (.int .i64 b_6)]), (2, .box [.v (.int .i64 xv_0.Kind), .v (.int .i64 xv_0.Scope), .v (.int .i64 xv_0.Arg), .sl 2 (enc xv_0.Prog)]), (3, .arr 3 (enc a_5))], 4, 34⟩ : St)) (fun ((n_, t13_1, b_6, a_5) : Nat × Int × Int × (List GItem)) => loopK (f_ops_maker_linear_p0_s0_0_B1 xv_0 b_0) n_ (t13_1, b_6, a_5) = some r) (fun p => p.1) (rounds, 0, mv_0.many, mv_0.out) [some 2, some 1] ?_ h ?_
 · simp only [go_sem, Le] <;> (repeat' apply And.intro) <;> first | ((try with_reducible refine TL_eq ?_); omega) | ((try with_reducible refine TL_eq ?_); (simp [go_sem]; done))
 ·
  rintro ⟨n_1, t13_1, b_6, a_5⟩ h QQ5 hQ5
  dsimp only at h
  replace h := loopK_some h
  obtain ⟨m_1, rfl, h⟩ := h
  rw [f_ops_maker_linear_p0_s0_0_B1] at h
  refine sg fun QQ6 hQ6 => ?_
  simp only [go_sem]
  refine seqQ_normal hQ6 ?_
  refine sg fun QQ7 hQ7 => ?_
  refine vc_cond_of (b := (decide (t13_1 < (List.length b_0 : Int)))) (by (simp only [go_sem]; done)) (fun hb_14 => ?_) (fun hb_14 => ?_)
  ·
   replace h := if_t h hb_14
   simp only [bool_to_prop] at hb_14
   refine vc_skip_of ?_
   refine seqQ_normal hQ7 ?_
   refine vc_join (by kernel_rfl) ?_
   refine seq_go_gen ?_
   intro QQ8 hQ8
   refine vc_block_gen ?_
   intro QQ9 hQ9
   refine sg fun QQ10 hQ10 => ?_
   obtain ⟨xv_9, exv_9, h⟩ := bindO_some h
   obtain ⟨fxv_9a, fxv_9b, fxv_9c⟩ := idx_spec exv_9
   simp only [go_sem, fxv_9a, fxv_9b, fxv_9c]
   refine And.intro (by omega) ?_
   refine seqQ_normal hQ10 ?_
   refine sg fun QQ11 hQ11 => ?_
   obtain ⟨v_8, ev_8, h⟩ := bindO_some h
   simp only [go_sem]
   refine call0 (f_ops_single_ok xv_0 xv_9.Rec v_8 ev_8) (by rfl) (by rfl) ?_
   simp only [go_sem]
   refine seqQ_normal hQ11 ?_
   refine vc_block_gen ?_
   intro QQ12 hQ12
   refine vc_loop_of ?_
   refine loop_gen (ι := Nat × Int × Int × (List GItem)) (fun ((_, t22_5, b_8, a_7) : Nat × Int × Int × (List GItem)) => (⟨2, [(0, .ptr 0 0), (4, .ptr 2 0), (8, .ptr 3 0), (11, .sl 3 (enc b_0)), (12, .v (.int .i64 (List.length b_0 : Int))), (13, .v (.int .i64 t13_1)), (20, .sl 2 (enc v_8)), (21, .v (.int .i64 (List.length v_8 : Int))), (22, .v (.int .i64 t22_5))], [(0, .box [.osl 4 3 (0) (List.length a_7), .v (.int .i64 b_8)]), (2, .box [.v (.int .i64 xv_0.Kind), .v (.int .i64 xv_0.Scope), .v (.int .i64 xv_0.Arg), .sl 2 (enc xv_0.Prog)]), (3, .box [.v (.int .i64 xv_9.Rec.K), .v (.int .i64 xv_9.Rec.V), .v (.int .i64 xv_9.N)]), (4, .arr 3 (enc a_7))], 5, 34⟩ : St)) (fun ((n_, t22_5, b_8, a_7) : Nat × Int × Int × (List GItem)) => loopK (f_ops_maker_linear_p0_s0_0_B2 t13_1 (loopK (f_ops_maker_linear_p0_s0_0_B1 xv_0 b_0) m_1) xv_9 v_8) n_ (t22_5, b_8, a_7) = some r) (fun p => p.1) (rounds, 0, b_6, a_5) [some 2, some 4, some 3] ?_ h ?_
   · simp only [go_sem, Le] <;> (repeat' apply And.intro) <;> first | ((try with_reducible refine TL_eq ?_); omega) | ((try with_reducible refine TL_eq ?_); (simp [go_sem]; done))
   ·
    rintro ⟨n_2, t22_5, b_8, a_7⟩ h QQ13 hQ13
    dsimp only at h
    replace h := loopK_some h
    obtain ⟨m_2, rfl, h⟩ := h
    rw [f_ops_maker_linear_p0_s0_0_B2] at h
    refine sg fun QQ14 hQ14 => ?_
    simp only [go_sem]
    refine seqQ_normal hQ14 ?_
    refine sg fun QQ15 hQ15 => ?_
    refine vc_cond_of (b := (decide (t22_5 < (List.length v_8 : Int)))) (by (simp only [go_sem]; done)) (fun hb_19 => ?_) (fun hb_19 => ?_)
    ·
     replace h := if_t h hb_19
     simp only [bool_to_prop] at hb_19
     refine vc_skip_of ?_
     refine seqQ_normal hQ15 ?_
     refine sg fun QQ16 hQ16 => ?_
     refine vc_block_gen ?_
     intro QQ17 hQ17
     refine sg fun QQ18 hQ18 => ?_
     obtain ⟨xv_12, exv_12, h⟩ := bindO_some h
     obtain ⟨fxv_12a, fxv_12b, fxv_12c⟩ := idx_spec exv_12
     simp only [go_sem, fxv_12a, fxv_12b, fxv_12c]
     refine And.intro (by omega) ?_
     refine seqQ_normal hQ18 ?_
     refine sg fun QQ19 hQ19 => ?_
     obtain ⟨v_11, ev_11, h⟩ := bindO_some h
     simp only [go_sem]
     refine callD [0, 4] (f_ops_maker_add_p0_s0_0_det (⟨a_7, b_8⟩ : GOps_maker) xv_12 xv_9.N v_11 ev_11) (by simp) rfl ⟨rfl, ⟨rfl, trivial⟩⟩ rfl rfl rfl rfl ?_
     simp only [go_sem]
     refine seqQ_normal hQ19 ?_
     refine vc_cond_of (b := (!v_11.1)) (by (simp only [go_sem]; done)) (fun hb_20 => ?_) (fun hb_20 => ?_)
     ·
      replace h := if_t h hb_20
      simp only [bool_to_prop] at hb_20
      refine sg fun QQ20 hQ20 => ?_
      simp only [go_sem]
      refine seqQ_normal hQ20 ?_
      refine vc_ret_of ?_
      refine blockQ_ret hQ17 ?_
      refine seqQ_ret hQ16 ?_
      refine thenQ_ret hQ13 ?_
      refine blockQ_ret hQ12 ?_
      refine blockQ_ret hQ9 ?_
      refine seqQ_ret hQ8 ?_
      refine thenQ_ret hQ5 ?_
      refine blockQ_ret hQ4 ?_
      refine seqQ_ret hQ2 ?_
      simp only [go_sem]
      obtain rfl := Option.some.inj h
      refine retW_det [some 6] ?_
      simp only [go_sem, Le] <;> (repeat' apply And.intro) <;> first | ((try with_reducible refine TL_eq ?_); omega) | ((try with_reducible refine TL_eq ?_); (simp [go_sem]; done))
     ·
      replace h := if_f h hb_20
      simp only [bool_to_prop] at hb_20
      refine vc_skip_of ?_
      refine blockQ_normal hQ17 ?_
      refine seqQ_normal hQ16 ?_
      simp only [go_sem]
      refine thenQ_normal hQ13 ?_
      refine ⟨(m_2, IntKind.i64.wrap (t22_5 + 1), v_11.2.many, v_11.2.out), [some 2, some 3, some 6], ?_, h, Nat.lt_succ_self _⟩
      simp only [go_sem, Le] <;> (repeat' apply And.intro) <;> first | ((try with_reducible refine TL_eq ?_); omega) | ((try with_reducible refine TL_eq ?_); (simp [go_sem]; done))
    ·
     replace h := if_f h hb_19
     simp only [bool_to_prop] at hb_19
     refine vc_exit_of ?_
     refine seqQ_exit hQ15 ?_
     refine thenQ_exit hQ13 ?_
     refine blockQ_exit hQ12 ?_
     refine blockQ_normal hQ9 ?_
     refine seqQ_normal hQ8 ?_
     simp only [go_sem]
     refine thenQ_normal hQ5 ?_
     refine ⟨(m_1, IntKind.i64.wrap (t13_1 + 1), b_8, a_7), [some 2, some 4], ?_, h, Nat.lt_succ_self _⟩
     simp only [go_sem, Le] <;> (repeat' apply And.intro) <;> first | ((try with_reducible refine TL_eq ?_); omega) | ((try with_reducible refine TL_eq ?_); (simp [go_sem]; done))
  ·
   replace h := if_f h hb_14
   simp only [bool_to_prop] at hb_14
   refine vc_exit_of ?_
   refine seqQ_exit hQ7 ?_
   refine thenQ_exit hQ5 ?_
   refine blockQ_exit hQ4 ?_
   refine seqQ_normal hQ2 ?_
   refine sg fun QQ21 hQ21 => ?_
   simp only [go_sem]
   refine seqQ_normal hQ21 ?_
   refine vc_ret_of ?_
   simp only [go_sem]
   obtain rfl := Option.some.inj h
   refine retW_det [some 3] ?_
   simp only [go_sem, Le] <;> (repeat' apply And.intro) <;> first | ((try with_reducible refine TL_eq ?_); omega) | ((try with_reducible refine TL_eq ?_); (simp [go_sem]; done))

def f_ops_Linear_J1 (t4_0 : Bool) : Option Bool :=
 (if t4_0 = true then some true
 else some false)
def f_ops_Linear (kind_0 : Int) : Option Bool :=
 (if (kind_0 == 1) = true then f_ops_Linear_J1 (kind_0 == 1)
 else (if (kind_0 == 2) = true then f_ops_Linear_J1 (kind_0 == 2)
 else (if (kind_0 == 3) = true then f_ops_Linear_J1 (kind_0 == 3)
 else (if (kind_0 == 4) = true then f_ops_Linear_J1 (kind_0 == 4)
 else (if (kind_0 == 5) = true then f_ops_Linear_J1 (kind_0 == 5)
 else (if (kind_0 == 10) = true then f_ops_Linear_J1 (kind_0 == 10)
 else (if (kind_0 == 11) = true then f_ops_Linear_J1 (kind_0 == 11)
 else (if (kind_0 == 12) = true then f_ops_Linear_J1 (kind_0 == 12)
 else (if (kind_0 == 13) = true then f_ops_Linear_J1 (kind_0 == 13)
 else f_ops_Linear_J1 (kind_0 == 15))))))))))
theorem f_ops_Linear_ok (kind_0 : Int)  (r : Bool) (h : f_ops_Linear kind_0 = some r) : PureS Try.prog 25 [.v (.int .i64 kind_0)] 0 (.v (.bool r)) := by
 unfold PureS
 refine Spec.of_vc Try.func25 rfl (by kernel_rfl) (by kernel_rfl) ?_
 rw [f_ops_Linear] at h
 refine sg fun QQ1 hQ1 => ?_
 simp only [go_sem]
 refine seqQ_normal hQ1 ?_
 refine vc_join (by kernel_rfl) ?_
 refine seq_go_gen ?_
 intro QQ2 hQ2
 refine sg fun QQ3 hQ3 => ?_
 simp only [go_sem]
 refine seqQ_normal hQ3 ?_
 refine vc_block_gen ?_
 intro QQ4 hQ4
 refine vc_join (by kernel_rfl) ?_
 refine seq_cut_gen (ι := Bool) (fun (t4_0 : Bool) => (⟨0, [(4, .v (.bool t4_0))], [], 0, 15⟩ : St)) (fun (t4_0 : Bool) => f_ops_Linear_J1 t4_0 = some r) ?_ ?_
 ·
  intro QQ7 hQ7
  refine sg fun QQ8 hQ8 => ?_
  simp only [go_sem]
  refine seqQ_normal hQ8 ?_
  refine vc_cond_of (b := (kind_0 == 1)) (by (simp only [go_sem]; done)) (fun hb_10 => ?_) (fun hb_10 => ?_)
  ·
   replace h := if_t h hb_10
   simp only [bool_to_prop] at hb_10
   refine vc_skip_of ?_
   refine thenQ_normal hQ7 ?_
   refine ⟨(kind_0 == 1), [], ?_, h⟩
   simp only [go_sem, Le]
  ·
   replace h := if_f h hb_10
   simp only [bool_to_prop] at hb_10
   refine sg fun QQ9 hQ9 => ?_
   simp only [go_sem]
   refine seqQ_normal hQ9 ?_
   refine vc_cond_of (b := (kind_0 == 2)) (by (simp only [go_sem]; done)) (fun hb_11 => ?_) (fun hb_11 => ?_)
   ·
    replace h := if_t h hb_11
    simp only [bool_to_prop] at hb_11
    refine vc_skip_of ?_
    refine thenQ_normal hQ7 ?_
    refine ⟨(kind_0 == 2), [], ?_, h⟩
    simp only [go_sem, Le]
   ·
    replace h := if_f h hb_11
    simp only [bool_to_prop] at hb_11
    refine sg fun QQ10 hQ10 => ?_
    simp only [go_sem]
    refine seqQ_normal hQ10 ?_
    refine vc_cond_of (b := (kind_0 == 3)) (by (simp only [go_sem]; done)) (fun hb_12 => ?_) (fun hb_12 => ?_)
    ·
     replace h := if_t h hb_12
     simp only [bool_to_prop] at hb_12
     refine vc_skip_of ?_
     refine thenQ_normal hQ7 ?_
     refine ⟨(kind_0 == 3), [], ?_, h⟩
     simp only [go_sem, Le]
    ·
     replace h := if_f h hb_12
     simp only [bool_to_prop] at hb_12
     refine sg fun QQ11 hQ11 => ?_
     simp only [go_sem]
     refine seqQ_normal hQ11 ?_
     refine vc_cond_of (b := (kind_0 == 4)) (by (simp only [go_sem]; done)) (fun hb_13 => ?_) (fun hb_13 => ?_)
     ·
      replace h := if_t h hb_13
      simp only [bool_to_prop] at hb_13
      refine vc_skip_of ?_
      refine thenQ_normal hQ7 ?_
      refine ⟨(kind_0 == 4), [], ?_, h⟩
      simp only [go_sem, Le]
     ·
      replace h := if_f h hb_13
      simp only [bool_to_prop] at hb_13
      refine sg fun QQ12 hQ12 => ?_
      simp only [go_sem]
      refine seqQ_normal hQ12 ?_
      refine vc_cond_of (b := (kind_0 == 5)) (by (simp only [go_sem]; done)) (fun hb_14 => ?_) (fun hb_14 => ?_)
      ·
       replace h := if_t h hb_14
       simp only [bool_to_prop] at hb_14
       refine vc_skip_of ?_
       refine thenQ_normal hQ7 ?_
       refine ⟨(kind_0 == 5), [], ?_, h⟩
       simp only [go_sem, Le]
      ·
       replace h := if_f h hb_14
       simp only [bool_to_prop] at hb_14
       refine sg fun QQ13 hQ13 => ?_
       simp only [go_sem]
       refine seqQ_normal hQ13 ?_
       refine vc_cond_of (b := (kind_0 == 10)) (by (simp only [go_sem]; done)) (fun hb_15 => ?_) (fun hb_15 => ?_)
       ·
        replace h := if_t h hb_15
        simp only [bool_to_prop] at hb_15
        refine vc_skip_of ?_
        refine thenQ_normal hQ7 ?_
        refine ⟨(kind_0 == 10), [], ?_, h⟩
        simp only [go_sem, Le]
       ·
        replace h := if_f h hb_15
        simp only [bool_to_prop] at hb_15
        refine sg fun QQ14 hQ14 => ?_
        simp only [go_sem]
        refine seqQ_normal hQ14 ?_
        refine vc_cond_of (b := (kind_0 == 11)) (by (simp only [go_sem]; done)) (fun hb_16 => ?_) (fun hb_16 => ?_)
        ·
         replace h := if_t h hb_16
         simp only [bool_to_prop] at hb_16
         refine vc_skip_of ?_
         refine thenQ_normal hQ7 ?_
         refine ⟨(kind_0 == 11), [], ?_, h⟩
         simp only [go_sem, Le]
        ·
         replace h := if_f h hb_16
         simp only [bool_to_prop] at hb_16
         refine sg fun QQ15 hQ15 => ?_
         simp only [go_sem]
         refine seqQ_normal hQ15 ?_
         refine vc_cond_of (b := (kind_0 == 12)) (by (simp only [go_sem]; done)) (fun hb_17 => ?_) (fun hb_17 => ?_)
         ·
          replace h := if_t h hb_17
          simp only [bool_to_prop] at hb_17
          refine vc_skip_of ?_
          refine thenQ_normal hQ7 ?_
          refine ⟨(kind_0 == 12), [], ?_, h⟩
          simp only [go_sem, Le]
         ·
          replace h := if_f h hb_17
          simp only [bool_to_prop] at hb_17
          refine sg fun QQ16 hQ16 => ?_
          simp only [go_sem]
          refine seqQ_normal hQ16 ?_
          refine vc_cond_of (b := (kind_0 == 13)) (by (simp only [go_sem]; done)) (fun hb_18 => ?_) (fun hb_18 => ?_)
          ·
           replace h := if_t h hb_18
           simp only [bool_to_prop] at hb_18
           refine vc_skip_of ?_
           refine thenQ_normal hQ7 ?_
           refine ⟨(kind_0 == 13), [], ?_, h⟩
           simp only [go_sem, Le]
          ·
           replace h := if_f h hb_18
           simp only [bool_to_prop] at hb_18
           simp only [go_sem]
           refine thenQ_normal hQ7 ?_
           refine ⟨(kind_0 == 15), [], ?_, h⟩
           simp only [go_sem, Le]
 ·
  rintro t4_0 h
  try dsimp only at h
  rw [f_ops_Linear_J1] at h
  refine vc_cond_of (b := t4_0) (by (simp only [go_sem]; done)) (fun hb_9 => ?_) (fun hb_9 => ?_)
  ·
   replace h := if_t h hb_9
   refine sg fun QQ5 hQ5 => ?_
   simp only [go_sem]
   refine seqQ_normal hQ5 ?_
   refine vc_ret_of ?_
   refine blockQ_ret hQ4 ?_
   refine seqQ_ret hQ2 ?_
   simp only [go_sem]
   obtain rfl := Option.some.inj h
   refine retW_pure rfl ?_
   simp only [go_sem, Le]
  ·
   replace h := if_f h hb_9
   refine vc_skip_of ?_
   refine blockQ_normal hQ4 ?_
   refine seqQ_normal hQ2 ?_
   refine sg fun QQ6 hQ6 => ?_
   simp only [go_sem]
   refine seqQ_normal hQ6 ?_
   refine vc_ret_of ?_
   simp only [go_sem]
   obtain rfl := Option.some.inj h
   refine retW_pure rfl ?_
   simp only [go_sem, Le]

end Go.Proofs.Ythpahhhdapdcpaa
