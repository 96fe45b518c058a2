/-
  What functions of the program compute, each told as a plain function that may give nothing, with the proof that the code does so. No condition beyond those that each theorem names.
-/
import Derived.Test.YthpahhhdapdcpaaWalkCS0
import Derived.Test.YthpahhhdapdcpaaWalkCS1
import Derived.Test.YthpahhhdapdcpaaLibI
set_option linter.unusedSimpArgs false
set_option linter.unusedVariables false
set_option maxHeartbeats 2000000
set_option maxRecDepth 100000
namespace Go.Proofs.Ythpahhhdapdcpaa
open Go Go.RowKit
def f_cell_Right_B1 (c_0 : List GSlot) (rec_1 : Int → Option Bool) : Int → Option Bool :=
 fun t7_1 =>
 (if (decide (t7_1 < (List.length c_0 : Int))) = true then bindO (idx c_0 t7_1) (fun (xv_4 : GSlot) =>
 bindO (f_ts_Right xv_4.Time) (fun (v_18 : Bool) =>
 (if v_18 = true then bindO (f_cell_empty xv_4) (fun (v_19 : Bool) =>
 (if v_19 = true then some false
 else (if (decide (0 < t7_1)) = true then bindO (idx c_0 (IntKind.i64.wrap (t7_1 - 1))) (fun (xv_5 : GSlot) =>
 bindO (f_ts_Less xv_5.Time xv_4.Time) (fun (v_23 : Bool) =>
 (if (!v_23) = true then some false
 else bindO (f_bag_Right xv_4.In.a0) (fun (v_24 : Bool) =>
 (if v_24 = true then bindO (f_bag_Right xv_4.In.a1) (fun (v_25 : Bool) =>
 (if v_25 = true then bindO (f_bag_Right xv_4.Sent) (fun (v_26 : Bool) =>
 (if (!v_26) = true then some false
 else rec_1 (IntKind.i64.wrap (t7_1 + 1))))
 else some false))
 else some false)))))
 else bindO (f_bag_Right xv_4.In.a0) (fun (v_20 : Bool) =>
 (if v_20 = true then bindO (f_bag_Right xv_4.In.a1) (fun (v_21 : Bool) =>
 (if v_21 = true then bindO (f_bag_Right xv_4.Sent) (fun (v_22 : Bool) =>
 (if (!v_22) = true then some false
 else rec_1 (IntKind.i64.wrap (t7_1 + 1))))
 else some false))
 else some false)))))
 else some false)))
 else some true)
def f_cell_Right (c_0 : List GSlot) : Option Bool :=
 loopK (f_cell_Right_B1 c_0) rounds 0
theorem f_cell_Right_ok (c_0 : List GSlot)  (r : Bool) (h : f_cell_Right c_0 = some r) : PureS Try.prog 43 [.sl 10 (enc c_0)] 0 (.v (.bool r)) := by
 unfold PureS
 refine Spec.of_vc Try.func43 rfl (by kernel_rfl) (by kernel_rfl) ?_
 rw [f_cell_Right] at h
 refine sg fun QQ1 hQ1 => ?_
 simp only [go_sem]
 refine seqQ_normal hQ1 ?_
 refine vc_join (by kernel_rfl) ?_
 refine seq_go_gen ?_
 intro QQ2 hQ2
 refine sg fun QQ3 hQ3 => ?_
 simp only [go_sem]
 refine seqQ_normal hQ3 ?_
 refine vc_block_gen ?_
 intro QQ4 hQ4
 refine vc_loop_of ?_
 refine loop_gen (ι := Nat × Int) (fun ((_, t7_1) : Nat × Int) => (⟨0, [(0, .sl 10 (enc c_0)), (5, .sl 10 (enc c_0)), (6, .v (.int .i64 (List.length c_0 : Int))), (7, .v (.int .i64 t7_1))], [], 0, 55⟩ : St)) (fun ((n_, t7_1) : Nat × Int) => loopK (f_cell_Right_B1 c_0) n_ t7_1 = some r) (fun p => p.1) (rounds, 0) [] ?_ h ?_
 · simp only [go_sem, Le]
 ·
  rintro ⟨n_1, t7_1⟩ h QQ5 hQ5
  dsimp only at h
  replace h := loopK_some h
  obtain ⟨m_1, rfl, h⟩ := h
  rw [f_cell_Right_B1] at h
  refine sg fun QQ6 hQ6 => ?_
  simp only [go_sem]
  refine seqQ_normal hQ6 ?_
  refine sg fun QQ7 hQ7 => ?_
  refine vc_cond_of (b := (decide (t7_1 < (List.length c_0 : Int)))) (by (simp only [go_sem]; done)) (fun hb_22 => ?_) (fun hb_22 => ?_)
  ·
   replace h := if_t h hb_22
   simp only [bool_to_prop] at hb_22
   refine vc_skip_of ?_
   refine seqQ_normal hQ7 ?_
   refine sg fun QQ8 hQ8 => ?_
   refine vc_block_gen ?_
   intro QQ9 hQ9
   refine sg fun QQ10 hQ10 => ?_
   obtain ⟨xv_4, exv_4, h⟩ := bindO_some h
   obtain ⟨fxv_4a, fxv_4b, fxv_4c⟩ := idx_spec exv_4
   simp only [go_sem, fxv_4a, fxv_4b, fxv_4c]
   refine And.intro (by omega) ?_
   refine seqQ_normal hQ10 ?_
   refine sg fun QQ11 hQ11 => ?_
   refine sg fun QQ12 hQ12 => ?_
   refine vc_draw ?_
   refine drawM_tail 20 [0, 1, 3, 7, 15, 31, 63, 127, 255, 511, 1023, 2047, 4095, 4095, 12287, 32767, 65535, 131071, 4095, 266239, 1048575, 2097151, 4194303, 8388607] mixed (by kernel_rfl) (of_decide_eq_true (by kernel_rfl)) (by kernel_rfl) ?_
   obtain ⟨v_18, ev_18, h⟩ := bindO_some h
   simp only [go_sem]
   refine callq (fun _ => (f_ts_Right_ok xv_4.Time v_18 ev_18)) (by rfl) (by rfl) ?_
   simp only [go_sem]
   rcases hb_23 : v_18 with _ | _
   ·
    replace h := if_f h hb_23
    simp only [go_sem, hb_23]
    refine seqQ_normal hQ12 ?_
    refine vc_cond_t (by (simp only [go_sem]; done)) ?_
    refine sg fun QQ13 hQ13 => ?_
    simp only [go_sem]
    refine seqQ_normal hQ13 ?_
    refine vc_ret_of ?_
    refine seqQ_ret hQ11 ?_
    refine blockQ_ret hQ9 ?_
    refine seqQ_ret hQ8 ?_
    refine thenQ_ret hQ5 ?_
    refine blockQ_ret hQ4 ?_
    refine seqQ_ret hQ2 ?_
    simp only [go_sem]
    obtain rfl := Option.some.inj h
    refine retW_pure rfl ?_
    simp only [go_sem, Le]
   ·
    replace h := if_t h hb_23
    obtain ⟨v_19, ev_19, h⟩ := bindO_some h
    simp only [go_sem, hb_23]
    refine callq (fun _ => (f_cell_empty_ok xv_4 v_19 ev_19)) (by rfl) (by rfl) ?_
    simp only [go_sem]
    rcases hb_24 : v_19 with _ | _
    ·
     replace h := if_f h hb_24
     simp only [go_sem, hb_24]
     rcases hb_25 : (decide (0 < t7_1)) with _ | _
     ·
      replace h := if_f h hb_25
      simp only [go_sem, hb_25]
      refine seqQ_normal hQ12 ?_
      refine vc_cond_f (by (simp only [go_sem]; done)) ?_
      refine vc_skip_of ?_
      refine seqQ_normal hQ11 ?_
      refine sg fun QQ14 hQ14 => ?_
      obtain ⟨v_20, ev_20, h⟩ := bindO_some h
      simp only [go_sem]
      refine call0 (f_bag_Right_ok xv_4.In.a0 v_20 ev_20) (by rfl) (by rfl) ?_
      simp only [go_sem]
      rcases hb_26 : v_20 with _ | _
      ·
       replace h := if_f h hb_26
       simp only [go_sem, hb_26]
       refine seqQ_normal hQ14 ?_
       refine vc_cond_t (by (simp only [go_sem]; done)) ?_
       refine sg fun QQ15 hQ15 => ?_
       simp only [go_sem]
       refine seqQ_normal hQ15 ?_
       refine vc_ret_of ?_
       refine blockQ_ret hQ9 ?_
       refine seqQ_ret hQ8 ?_
       refine thenQ_ret hQ5 ?_
       refine blockQ_ret hQ4 ?_
       refine seqQ_ret hQ2 ?_
       simp only [go_sem]
       obtain rfl := Option.some.inj h
       refine retW_pure rfl ?_
       simp only [go_sem, Le]
      ·
       replace h := if_t h hb_26
       obtain ⟨v_21, ev_21, h⟩ := bindO_some h
       simp only [go_sem, hb_26]
       refine call0 (f_bag_Right_ok xv_4.In.a1 v_21 ev_21) (by rfl) (by rfl) ?_
       simp only [go_sem]
       rcases hb_27 : v_21 with _ | _
       ·
        replace h := if_f h hb_27
        simp only [go_sem, hb_27]
        refine seqQ_normal hQ14 ?_
        refine vc_cond_t (by (simp only [go_sem]; done)) ?_
        refine sg fun QQ16 hQ16 => ?_
        simp only [go_sem]
        refine seqQ_normal hQ16 ?_
        refine vc_ret_of ?_
        refine blockQ_ret hQ9 ?_
        refine seqQ_ret hQ8 ?_
        refine thenQ_ret hQ5 ?_
        refine blockQ_ret hQ4 ?_
        refine seqQ_ret hQ2 ?_
        simp only [go_sem]
        obtain rfl := Option.some.inj h
        refine retW_pure rfl ?_
        simp only [go_sem, Le]
       ·
        replace h := if_t h hb_27
        obtain ⟨v_22, ev_22, h⟩ := bindO_some h
        simp only [go_sem, hb_27]
        refine call0 (f_bag_Right_ok xv_4.Sent v_22 ev_22) (by rfl) (by rfl) ?_
        simp only [go_sem]
        refine seqQ_normal hQ14 ?_
        refine vc_cond_of (b := (!v_22)) (by (simp only [go_sem]; done)) (fun hb_28 => ?_) (fun hb_28 => ?_)
        ·
         replace h := if_t h hb_28
         simp only [bool_to_prop] at hb_28
         refine sg fun QQ17 hQ17 => ?_
         simp only [go_sem]
         refine seqQ_normal hQ17 ?_
         refine vc_ret_of ?_
         refine blockQ_ret hQ9 ?_
         refine seqQ_ret hQ8 ?_
         refine thenQ_ret hQ5 ?_
         refine blockQ_ret hQ4 ?_
         refine seqQ_ret hQ2 ?_
         simp only [go_sem]
         obtain rfl := Option.some.inj h
         refine retW_pure rfl ?_
         simp only [go_sem, Le]
        ·
         replace h := if_f h hb_28
         simp only [bool_to_prop] at hb_28
         refine vc_skip_of ?_
         refine blockQ_normal hQ9 ?_
         refine seqQ_normal hQ8 ?_
         simp only [go_sem]
         refine thenQ_normal hQ5 ?_
         refine ⟨(m_1, IntKind.i64.wrap (t7_1 + 1)), [], ?_, h, Nat.lt_succ_self _⟩
         simp only [go_sem, Le]
     ·
      replace h := if_t h hb_25
      obtain ⟨xv_5, exv_5, h⟩ := bindO_some h
      obtain ⟨fxv_5a, fxv_5b, fxv_5c⟩ := idx_spec exv_5
      obtain ⟨v_23, ev_23, h⟩ := bindO_some h
      simp only [go_sem, hb_25, fxv_5a, fxv_5b, fxv_5c]
      refine And.intro (by omega) ?_
      refine call0 (f_ts_Less_ok xv_5.Time xv_4.Time v_23 ev_23) (by rfl) (by rfl) ?_
      simp only [go_sem]
      refine seqQ_normal hQ12 ?_
      refine vc_cond_of (b := (!v_23)) (by (simp only [go_sem]; done)) (fun hb_29 => ?_) (fun hb_29 => ?_)
      ·
       replace h := if_t h hb_29
       simp only [bool_to_prop] at hb_29
       refine sg fun QQ18 hQ18 => ?_
       simp only [go_sem]
       refine seqQ_normal hQ18 ?_
       refine vc_ret_of ?_
       refine seqQ_ret hQ11 ?_
       refine blockQ_ret hQ9 ?_
       refine seqQ_ret hQ8 ?_
       refine thenQ_ret hQ5 ?_
       refine blockQ_ret hQ4 ?_
       refine seqQ_ret hQ2 ?_
       simp only [go_sem]
       obtain rfl := Option.some.inj h
       refine retW_pure rfl ?_
       simp only [go_sem, Le]
      ·
       replace h := if_f h hb_29
       simp only [bool_to_prop] at hb_29
       refine vc_skip_of ?_
       refine seqQ_normal hQ11 ?_
       refine sg fun QQ19 hQ19 => ?_
       obtain ⟨v_24, ev_24, h⟩ := bindO_some h
       simp only [go_sem]
       refine call0 (f_bag_Right_ok xv_4.In.a0 v_24 ev_24) (by rfl) (by rfl) ?_
       simp only [go_sem]
       rcases hb_30 : v_24 with _ | _
       ·
        replace h := if_f h hb_30
        simp only [go_sem, hb_30]
        refine seqQ_normal hQ19 ?_
        refine vc_cond_t (by (simp only [go_sem]; done)) ?_
        refine sg fun QQ20 hQ20 => ?_
        simp only [go_sem]
        refine seqQ_normal hQ20 ?_
        refine vc_ret_of ?_
        refine blockQ_ret hQ9 ?_
        refine seqQ_ret hQ8 ?_
        refine thenQ_ret hQ5 ?_
        refine blockQ_ret hQ4 ?_
        refine seqQ_ret hQ2 ?_
        simp only [go_sem]
        obtain rfl := Option.some.inj h
        refine retW_pure rfl ?_
        simp only [go_sem, Le]
       ·
        replace h := if_t h hb_30
        obtain ⟨v_25, ev_25, h⟩ := bindO_some h
        simp only [go_sem, hb_30]
        refine call0 (f_bag_Right_ok xv_4.In.a1 v_25 ev_25) (by rfl) (by rfl) ?_
        simp only [go_sem]
        rcases hb_31 : v_25 with _ | _
        ·
         replace h := if_f h hb_31
         simp only [go_sem, hb_31]
         refine seqQ_normal hQ19 ?_
         refine vc_cond_t (by (simp only [go_sem]; done)) ?_
         refine sg fun QQ21 hQ21 => ?_
         simp only [go_sem]
         refine seqQ_normal hQ21 ?_
         refine vc_ret_of ?_
         refine blockQ_ret hQ9 ?_
         refine seqQ_ret hQ8 ?_
         refine thenQ_ret hQ5 ?_
         refine blockQ_ret hQ4 ?_
         refine seqQ_ret hQ2 ?_
         simp only [go_sem]
         obtain rfl := Option.some.inj h
         refine retW_pure rfl ?_
         simp only [go_sem, Le]
        ·
         replace h := if_t h hb_31
         obtain ⟨v_26, ev_26, h⟩ := bindO_some h
         simp only [go_sem, hb_31]
         refine call0 (f_bag_Right_ok xv_4.Sent v_26 ev_26) (by rfl) (by rfl) ?_
         simp only [go_sem]
         refine seqQ_normal hQ19 ?_
         refine vc_cond_of (b := (!v_26)) (by (simp only [go_sem]; done)) (fun hb_32 => ?_) (fun hb_32 => ?_)
         ·
          replace h := if_t h hb_32
          simp only [bool_to_prop] at hb_32
          refine sg fun QQ22 hQ22 => ?_
          simp only [go_sem]
          refine seqQ_normal hQ22 ?_
          refine vc_ret_of ?_
          refine blockQ_ret hQ9 ?_
          refine seqQ_ret hQ8 ?_
          refine thenQ_ret hQ5 ?_
          refine blockQ_ret hQ4 ?_
          refine seqQ_ret hQ2 ?_
          simp only [go_sem]
          obtain rfl := Option.some.inj h
          refine retW_pure rfl ?_
          simp only [go_sem, Le]
         ·
          replace h := if_f h hb_32
          simp only [bool_to_prop] at hb_32
          refine vc_skip_of ?_
          refine blockQ_normal hQ9 ?_
          refine seqQ_normal hQ8 ?_
          simp only [go_sem]
          refine thenQ_normal hQ5 ?_
          refine ⟨(m_1, IntKind.i64.wrap (t7_1 + 1)), [], ?_, h, Nat.lt_succ_self _⟩
          simp only [go_sem, Le]
    ·
     replace h := if_t h hb_24
     simp only [go_sem, hb_24]
     refine seqQ_normal hQ12 ?_
     refine vc_cond_t (by (simp only [go_sem]; done)) ?_
     refine sg fun QQ23 hQ23 => ?_
     simp only [go_sem]
     refine seqQ_normal hQ23 ?_
     refine vc_ret_of ?_
     refine seqQ_ret hQ11 ?_
     refine blockQ_ret hQ9 ?_
     refine seqQ_ret hQ8 ?_
     refine thenQ_ret hQ5 ?_
     refine blockQ_ret hQ4 ?_
     refine seqQ_ret hQ2 ?_
     simp only [go_sem]
     obtain rfl := Option.some.inj h
     refine retW_pure rfl ?_
     simp only [go_sem, Le]
  ·
   replace h := if_f h hb_22
   simp only [bool_to_prop] at hb_22
   refine vc_exit_of ?_
   refine seqQ_exit hQ7 ?_
   refine thenQ_exit hQ5 ?_
   refine blockQ_exit hQ4 ?_
   refine seqQ_normal hQ2 ?_
   refine sg fun QQ24 hQ24 => ?_
   simp only [go_sem]
   refine seqQ_normal hQ24 ?_
   refine vc_ret_of ?_
   simp only [go_sem]
   obtain rfl := Option.some.inj h
   refine retW_pure rfl ?_
   simp only [go_sem, Le]

def f_slices_BinarySearchFunc_Time_J1 (xv_0 : List GSlot) (target_0 : GTime) (cmp_0 : GSlot → GTime → Option Int) (i_2 : Int) : Option (Int × Bool) :=
 (if (decide (i_2 < (List.length xv_0 : Int))) = true then bindO (idx xv_0 i_2) (fun (xv_4 : GSlot) =>
 bindO (cmp_0 xv_4 target_0) (fun (v_3 : Int) =>
 some (i_2, (v_3 == 0))))
 else some (i_2, false))
def f_slices_BinarySearchFunc_Time_B2 (xv_0 : List GSlot) (target_0 : GTime) (cmp_0 : GSlot → GTime → Option Int) (rec_2 : Int × Int → Option (Int × Bool)) : Int × Int → Option (Int × Bool) :=
 fun (i_4, j_3) =>
 (if (decide (i_4 < j_3)) = true then bindO (idx xv_0 (IntKind.i64.wrap (shrI .u64 (IntKind.u64.wrap (IntKind.i64.wrap (i_4 + j_3))) 1))) (fun (xv_7 : GSlot) =>
 bindO (cmp_0 xv_7 target_0) (fun (v_6 : Int) =>
 (if (decide (v_6 < 0)) = true then rec_2 (IntKind.i64.wrap ((IntKind.i64.wrap (shrI .u64 (IntKind.u64.wrap (IntKind.i64.wrap (i_4 + j_3))) 1)) + 1), j_3)
 else rec_2 (i_4, IntKind.i64.wrap (shrI .u64 (IntKind.u64.wrap (IntKind.i64.wrap (i_4 + j_3))) 1)))))
 else f_slices_BinarySearchFunc_Time_J1 xv_0 target_0 cmp_0 i_4)
def f_slices_BinarySearchFunc_Time (xv_0 : List GSlot) (target_0 : GTime) (cmp_0 : GSlot → GTime → Option Int) : Option (Int × Bool) :=
 loopK (f_slices_BinarySearchFunc_Time_B2 xv_0 target_0 cmp_0) rounds (0, (List.length xv_0 : Int))
theorem f_slices_BinarySearchFunc_Time_ok (xv_0 : List GSlot) (target_0 : GTime) (cmp_0 : GSlot → GTime → Option Int) (g_cmp_0 : FuncId) (c_cmp_0 : List AV) (F_cmp_0 : idFreeL c_cmp_0 = true) (E_cmp_0 : entB Try.prog g_cmp_0 = true) (H_cmp_0 : ∀ (x0 : GSlot) (x1 : GTime) (r : Int), cmp_0 x0 x1 = some r → PureS Try.prog g_cmp_0 ([.agg [.v (.int .i64 x0.Time.D), .v (.int .i64 x0.Time.C.a0), .v (.int .i64 x0.Time.C.a1), .v (.int .i64 x0.Time.C.a2), .v (.int .i64 x0.Time.C.a3), .sl 3 (enc x0.In.a0), .sl 3 (enc x0.In.a1), .sl 3 (enc x0.Sent), .v (.bool x0.Dirty), .v (.bool x0.Fired)], .agg [.v (.int .i64 x1.D), .v (.int .i64 x1.C.a0), .v (.int .i64 x1.C.a1), .v (.int .i64 x1.C.a2), .v (.int .i64 x1.C.a3)]] ++ c_cmp_0) 0 (.v (.int .i64 r))) (r : Int × Bool) (h : f_slices_BinarySearchFunc_Time xv_0 target_0 cmp_0 = some r) : PureS Try.prog 165 [.sl 10 (enc xv_0), .agg [.v (.int .i64 target_0.D), .v (.int .i64 target_0.C.a0), .v (.int .i64 target_0.C.a1), .v (.int .i64 target_0.C.a2), .v (.int .i64 target_0.C.a3)], .clo g_cmp_0 c_cmp_0] 0 (.tup [.v (.int .i64 r.1), .v (.bool r.2)]) := by
 unfold PureS
 refine Spec.of_vc Try.func165 rfl (by kernel_rfl) (by kernel_rfl) ?_
 rw [f_slices_BinarySearchFunc_Time] at h
 refine sg fun QQ1 hQ1 => ?_
 simp only [go_sem]
 refine seqQ_normal hQ1 ?_
 refine sg fun QQ2 hQ2 => ?_
 simp only [go_sem]
 refine seqQ_normal hQ2 ?_
 refine sg fun QQ3 hQ3 => ?_
 simp only [go_sem]
 refine seqQ_normal hQ3 ?_
 refine vc_join (by kernel_rfl) ?_
 refine seq_cut_gen (ι := Int) (fun (i_2 : Int) => (⟨0, [(0, .sl 10 (enc xv_0)), (2, .clo g_cmp_0 c_cmp_0), (4, .ptr 0 0), (8, .v (.int .i64 (List.length xv_0 : Int))), (9, .v (.int .i64 i_2))], [(0, .box [.v (.int .i64 target_0.D), .v (.int .i64 target_0.C.a0), .v (.int .i64 target_0.C.a1), .v (.int .i64 target_0.C.a2), .v (.int .i64 target_0.C.a3)])], 1, 49⟩ : St)) (fun (i_2 : Int) => f_slices_BinarySearchFunc_Time_J1 xv_0 target_0 cmp_0 i_2 = some r) ?_ ?_
 ·
  intro QQ5 hQ5
  refine vc_block_gen ?_
  intro QQ6 hQ6
  refine vc_loop_of ?_
  refine loop_gen (ι := Nat × Int × Int) (fun ((_, i_4, j_3) : Nat × Int × Int) => (⟨0, [(0, .sl 10 (enc xv_0)), (2, .clo g_cmp_0 c_cmp_0), (4, .ptr 0 0), (8, .v (.int .i64 (List.length xv_0 : Int))), (9, .v (.int .i64 i_4)), (10, .v (.int .i64 j_3))], [(0, .box [.v (.int .i64 target_0.D), .v (.int .i64 target_0.C.a0), .v (.int .i64 target_0.C.a1), .v (.int .i64 target_0.C.a2), .v (.int .i64 target_0.C.a3)])], 1, 49⟩ : St)) (fun ((n_, i_4, j_3) : Nat × Int × Int) => loopK (f_slices_BinarySearchFunc_Time_B2 xv_0 target_0 cmp_0) n_ (i_4, j_3) = some r) (fun p => p.1) (rounds, 0, (List.length xv_0 : Int)) [some 0] ?_ h ?_
  · simp only [go_sem, Le, AvLeL_free _ F_cmp_0]
  ·
   rintro ⟨n_2, i_4, j_3⟩ h QQ7 hQ7
   dsimp only at h
   replace h := loopK_some h
   obtain ⟨m_2, rfl, h⟩ := h
   rw [f_slices_BinarySearchFunc_Time_B2] at h
   refine sg fun QQ8 hQ8 => ?_
   refine sg fun QQ9 hQ9 => ?_
   simp only [go_sem]
   refine seqQ_normal hQ9 ?_
   refine vc_cond_of (b := (decide (i_4 < j_3))) (by (simp only [go_sem]; done)) (fun hb_11 => ?_) (fun hb_11 => ?_)
   ·
    replace h := if_t h hb_11
    simp only [bool_to_prop] at hb_11
    refine vc_skip_of ?_
    refine seqQ_normal hQ8 ?_
    refine vc_block_gen ?_
    intro QQ10 hQ10
    refine sg fun QQ11 hQ11 => ?_
    simp only [go_sem]
    refine seqQ_normal hQ11 ?_
    refine sg fun QQ12 hQ12 => ?_
    refine vc_draw ?_
    refine drawM_tail 6 [0, 0, 0, 6, 14, 0, 63, 127] mixed (by kernel_rfl) (of_decide_eq_true (by kernel_rfl)) (by kernel_rfl) ?_
    obtain ⟨xv_7, exv_7, h⟩ := bindO_some h
    obtain ⟨fxv_7a, fxv_7b, fxv_7c⟩ := idx_spec exv_7
    obtain ⟨v_6, ev_6, h⟩ := bindO_some h
    simp only [go_sem, fxv_7a, fxv_7b, fxv_7c, E_cmp_0]
    refine And.intro (by omega) ?_
    refine call0 (H_cmp_0 xv_7 target_0 v_6 ev_6) (by rfl) (by simp [idFreeL, idFree, F_cmp_0]) ?_
    simp only [go_sem]
    refine seqQ_normal hQ12 ?_
    refine vc_cond_of (b := (decide (v_6 < 0))) (by (simp only [go_sem]; done)) (fun hb_12 => ?_) (fun hb_12 => ?_)
    ·
     replace h := if_t h hb_12
     simp only [bool_to_prop] at hb_12
     simp only [go_sem]
     refine blockQ_normal hQ10 ?_
     refine thenQ_normal hQ7 ?_
     refine ⟨(m_2, IntKind.i64.wrap ((IntKind.i64.wrap (shrI .u64 (IntKind.u64.wrap (IntKind.i64.wrap (i_4 + j_3))) 1)) + 1), j_3), [some 0], ?_, h, Nat.lt_succ_self _⟩
     simp only [go_sem, Le, AvLeL_free _ F_cmp_0]
    ·
     replace h := if_f h hb_12
     simp only [bool_to_prop] at hb_12
     simp only [go_sem]
     refine blockQ_normal hQ10 ?_
     refine thenQ_normal hQ7 ?_
     refine ⟨(m_2, i_4, IntKind.i64.wrap (shrI .u64 (IntKind.u64.wrap (IntKind.i64.wrap (i_4 + j_3))) 1)), [some 0], ?_, h, Nat.lt_succ_self _⟩
     simp only [go_sem, Le, AvLeL_free _ F_cmp_0]
   ·
    replace h := if_f h hb_11
    simp only [bool_to_prop] at hb_11
    refine vc_exit_of ?_
    refine seqQ_exit hQ8 ?_
    refine thenQ_exit hQ7 ?_
    refine blockQ_exit hQ6 ?_
    refine thenQ_normal hQ5 ?_
    refine ⟨i_4, [some 0], ?_, h⟩
    simp only [go_sem, Le, AvLeL_free _ F_cmp_0]
 ·
  rintro i_2 h
  try dsimp only at h
  rw [f_slices_BinarySearchFunc_Time_J1] at h
  refine sg fun QQ4 hQ4 => ?_
  refine vc_draw ?_
  refine drawM_tail 15 [0, 0, 0, 6, 14, 30, 30, 30, 222, 478, 30, 2046, 4094, 8190, 4095, 32767] mixed (by kernel_rfl) (of_decide_eq_true (by kernel_rfl)) (by kernel_rfl) ?_
  simp only [go_sem]
  rcases hb_6 : (decide (i_2 < (List.length xv_0 : Int))) with _ | _
  ·
   replace h := if_f h hb_6
   simp only [go_sem, hb_6]
   refine seqQ_normal hQ4 ?_
   refine vc_ret_of ?_
   simp only [go_sem]
   obtain rfl := Option.some.inj h
   refine retW_pure rfl ?_
   simp only [go_sem, Le, AvLeL_free _ F_cmp_0]
  ·
   replace h := if_t h hb_6
   obtain ⟨xv_4, exv_4, h⟩ := bindO_some h
   obtain ⟨fxv_4a, fxv_4b, fxv_4c⟩ := idx_spec exv_4
   obtain ⟨v_3, ev_3, h⟩ := bindO_some h
   simp only [go_sem, hb_6, fxv_4a, fxv_4b, fxv_4c, E_cmp_0]
   refine And.intro (by omega) ?_
   refine And.intro (by omega) ?_
   refine callq (fun _ => (H_cmp_0 xv_4 target_0 v_3 ev_3)) (by rfl) (by simp [idFreeL, idFree, F_cmp_0]) ?_
   simp only [go_sem]
   refine seqQ_normal hQ4 ?_
   refine vc_ret_of ?_
   simp only [go_sem]
   obtain rfl := Option.some.inj h
   refine retW_pure rfl ?_
   simp only [go_sem, Le, AvLeL_free _ F_cmp_0]

def f_cell_find_1 (s_0 : GSlot) (t_0 : GTime) : Option Int :=
 (if ((s_0.Time.D == t_0.D) && ((s_0.Time.C.a0 == t_0.C.a0) && ((s_0.Time.C.a1 == t_0.C.a1) && ((s_0.Time.C.a2 == t_0.C.a2) && (s_0.Time.C.a3 == t_0.C.a3))))) = true then some 0
 else bindO (f_ts_Less s_0.Time t_0) (fun (v_0 : Bool) =>
 (if v_0 = true then some (-1)
 else some 1)))
theorem f_cell_find_1_ok (s_0 : GSlot) (t_0 : GTime)  (r : Int) (h : f_cell_find_1 s_0 t_0 = some r) : PureS Try.prog 166 [.agg [.v (.int .i64 s_0.Time.D), .v (.int .i64 s_0.Time.C.a0), .v (.int .i64 s_0.Time.C.a1), .v (.int .i64 s_0.Time.C.a2), .v (.int .i64 s_0.Time.C.a3), .sl 3 (enc s_0.In.a0), .sl 3 (enc s_0.In.a1), .sl 3 (enc s_0.Sent), .v (.bool s_0.Dirty), .v (.bool s_0.Fired)], .agg [.v (.int .i64 t_0.D), .v (.int .i64 t_0.C.a0), .v (.int .i64 t_0.C.a1), .v (.int .i64 t_0.C.a2), .v (.int .i64 t_0.C.a3)]] 0 (.v (.int .i64 r)) := by
 unfold PureS
 refine Spec.of_vc Try.func166 rfl (by kernel_rfl) (by kernel_rfl) ?_
 rw [f_cell_find_1] at h
 refine sg fun QQ1 hQ1 => ?_
 simp only [go_sem]
 refine seqQ_normal hQ1 ?_
 refine sg fun QQ2 hQ2 => ?_
 refine vc_block_gen ?_
 intro QQ3 hQ3
 refine sg fun QQ4 hQ4 => ?_
 simp only [go_sem]
 refine seqQ_normal hQ4 ?_
 refine vc_cond_of (b := ((s_0.Time.D == t_0.D) && ((s_0.Time.C.a0 == t_0.C.a0) && ((s_0.Time.C.a1 == t_0.C.a1) && ((s_0.Time.C.a2 == t_0.C.a2) && (s_0.Time.C.a3 == t_0.C.a3)))))) (by (simp only [go_sem]; done)) (fun hb_0 => ?_) (fun hb_0 => ?_)
 ·
  replace h := if_t h hb_0
  simp only [bool_to_prop] at hb_0
  refine sg fun QQ5 hQ5 => ?_
  simp only [go_sem]
  refine seqQ_normal hQ5 ?_
  refine vc_ret_of ?_
  refine blockQ_ret hQ3 ?_
  refine seqQ_ret hQ2 ?_
  simp only [go_sem]
  obtain rfl := Option.some.inj h
  refine retW_pure rfl ?_
  simp only [go_sem, Le]
 ·
  replace h := if_f h hb_0
  simp only [bool_to_prop] at hb_0
  refine sg fun QQ6 hQ6 => ?_
  obtain ⟨v_0, ev_0, h⟩ := bindO_some h
  simp only [go_sem]
  refine call0 (f_ts_Less_ok s_0.Time t_0 v_0 ev_0) (by rfl) (by rfl) ?_
  simp only [go_sem]
  refine seqQ_normal hQ6 ?_
  refine vc_cond_of (b := v_0) (by (simp only [go_sem]; done)) (fun hb_1 => ?_) (fun hb_1 => ?_)
  ·
   replace h := if_t h hb_1
   refine sg fun QQ7 hQ7 => ?_
   simp only [go_sem]
   refine seqQ_normal hQ7 ?_
   refine vc_ret_of ?_
   refine blockQ_ret hQ3 ?_
   refine seqQ_ret hQ2 ?_
   simp only [go_sem]
   obtain rfl := Option.some.inj h
   refine retW_pure rfl ?_
   simp only [go_sem, Le]
  ·
   replace h := if_f h hb_1
   refine vc_skip_of ?_
   refine blockQ_normal hQ3 ?_
   refine seqQ_normal hQ2 ?_
   refine sg fun QQ8 hQ8 => ?_
   simp only [go_sem]
   refine seqQ_normal hQ8 ?_
   refine vc_ret_of ?_
   simp only [go_sem]
   obtain rfl := Option.some.inj h
   refine retW_pure rfl ?_
   simp only [go_sem, Le]

def f_cell_find (c_0 : List GSlot) (t_0 : GTime) : Option (Int × Bool) :=
 bindO (f_slices_BinarySearchFunc_Time c_0 t_0 (fun x0_ x1_ => f_cell_find_1 x0_ x1_)) (fun (v_0 : Int × Bool) =>
 some (v_0.1, v_0.2))
theorem f_cell_find_ok (c_0 : List GSlot) (t_0 : GTime)  (r : Int × Bool) (h : f_cell_find c_0 t_0 = some r) : PureS Try.prog 92 [.sl 10 (enc c_0), .agg [.v (.int .i64 t_0.D), .v (.int .i64 t_0.C.a0), .v (.int .i64 t_0.C.a1), .v (.int .i64 t_0.C.a2), .v (.int .i64 t_0.C.a3)]] 0 (.tup [.v (.int .i64 r.1), .v (.bool r.2)]) := by
 unfold PureS
 refine Spec.of_vc Try.func92 rfl (by kernel_rfl) (by kernel_rfl) ?_
 rw [f_cell_find] at h
 refine sg fun QQ1 hQ1 => ?_
 simp only [go_sem]
 refine seqQ_normal hQ1 ?_
 refine sg fun QQ2 hQ2 => ?_
 obtain ⟨v_0, ev_0, h⟩ := bindO_some h
 simp only [go_sem]
 refine call0 (f_slices_BinarySearchFunc_Time_ok c_0 t_0 (fun x0_ x1_ => f_cell_find_1 x0_ x1_) 166 [] (by rfl) (by kernel_rfl) (fun y0 y1 r_ e_ => f_cell_find_1_ok y0 y1 r_ e_) v_0 ev_0) (by rfl) (by rfl) ?_
 simp only [go_sem]
 refine seqQ_normal hQ2 ?_
 refine vc_ret_of ?_
 simp only [go_sem]
 obtain rfl := Option.some.inj h
 refine retW_pure rfl ?_
 simp only [go_sem, Le]

def f_slices_Insert_Slot_s0_0_s2_0 (x_0 : List GSlot) (i_0 : Int) (v_0 : List GSlot) : Option (List GSlot) := insertF 120 x_0 i_0 v_0
theorem f_slices_Insert_Slot_s0_0_s2_0_lay : InsLay Try.prog (insRen 93 167 168 0 3 4 82 69) 10 120 (.agg #[.int .i64 0, .int .i64 0, .int .i64 0, .int .i64 0, .int .i64 0, .slice none 0 0, .slice none 0 0, .slice none 0 0, .bool false, .bool false] : Value) := { mixed := by kernel_rfl, t0 := Try.underlying0, a0 := Try.isAgg0, z0 := Try.sizeOf0, v0 := Try.zeroValue0, t3 := Try.underlying3, a3 := Try.isAgg3, z3 := Try.sizeOf3, v3 := Try.zeroValue3, t4 := Try.underlying4, a4 := Try.isAgg4, z4 := Try.sizeOf4, v4 := Try.zeroValue4, t24 := Try.underlying69, a24 := Try.isAgg69, z24 := Try.sizeOf69, v24 := Try.zeroValue69, z9 := Try.sizeOf82, i9 := info_ex (by kernel_rfl), f22 := ⟨"slices.Insert[[]backwash/api.Slot,backwash/api.Slot]", by decide, by kernel_rfl⟩, ov := ⟨_, Try.func167, by kernel_rfl, by kernel_rfl, by kernel_rfl, by kernel_rfl⟩ }
theorem f_slices_Insert_Slot_s0_0_s2_0_det (x_0 : List GSlot) (i_0 : Int) (v_0 : List GSlot) (r : List GSlot) (h : f_slices_Insert_Slot_s0_0_s2_0 x_0 i_0 v_0 = some r) : DetS Try.prog 93 [.osl 0 10 0 (List.length x_0), .v (.int .i64 i_0), .osl 1 10 0 (List.length v_0)] [(0, .arr 10 (enc x_0)), (1, .arr 10 (enc v_0))] 2 (.osl 2 10 0 (List.length r)) [(2, .arr 10 (enc r))] 3 :=
 insert_det f_slices_Insert_Slot_s0_0_s2_0_lay (by kernel_rfl) (by kernel_rfl) (by decide) (by rfl) (by decide) rfl (fun _ => rfl) h

def f_cell_mark_s0_0_B1 (c_0 : List GSlot) (kind_0 : Int) (atv_0 : Int) (rec_1 : Bool × Int × (List GSlot) → Option (Bool × (List GSlot))) : Bool × Int × (List GSlot) → Option (Bool × (List GSlot)) :=
 fun (straggler_1, t11_1, a_1) =>
 (if (decide (t11_1 < (List.length c_0 : Int))) = true then (if (t11_1 == atv_0) = true then (if straggler_1 = true then bindO (idx a_1 t11_1) (fun (xv_10 : GSlot) =>
 rec_1 (true, IntKind.i64.wrap (t11_1 + 1), (List.set a_1 (Int.toNat t11_1) (⟨xv_10.Time, xv_10.In, xv_10.Sent, true, xv_10.Fired⟩ : GSlot))))
 else bindO (idx a_1 t11_1) (fun (xv_9 : GSlot) =>
 (if xv_9.Fired = true then rec_1 ((!xv_9.Dirty), IntKind.i64.wrap (t11_1 + 1), (List.set a_1 (Int.toNat t11_1) (⟨xv_9.Time, xv_9.In, xv_9.Sent, true, xv_9.Fired⟩ : GSlot)))
 else rec_1 (false, IntKind.i64.wrap (t11_1 + 1), (List.set a_1 (Int.toNat t11_1) (⟨xv_9.Time, xv_9.In, xv_9.Sent, true, xv_9.Fired⟩ : GSlot))))))
 else (if (kind_0 == 14) = true then bindO (idx a_1 atv_0) (fun (xv_7 : GSlot) =>
 bindO (idx a_1 t11_1) (fun (xv_8 : GSlot) =>
 bindO (f_ts_Le xv_7.Time xv_8.Time) (fun (v_2 : Bool) =>
 (if (!v_2) = true then rec_1 (straggler_1, IntKind.i64.wrap (t11_1 + 1), a_1)
 else (if straggler_1 = true then rec_1 (true, IntKind.i64.wrap (t11_1 + 1), (List.set a_1 (Int.toNat t11_1) (⟨xv_8.Time, xv_8.In, xv_8.Sent, true, xv_8.Fired⟩ : GSlot)))
 else (if xv_8.Fired = true then rec_1 ((!xv_8.Dirty), IntKind.i64.wrap (t11_1 + 1), (List.set a_1 (Int.toNat t11_1) (⟨xv_8.Time, xv_8.In, xv_8.Sent, true, xv_8.Fired⟩ : GSlot)))
 else rec_1 (false, IntKind.i64.wrap (t11_1 + 1), (List.set a_1 (Int.toNat t11_1) (⟨xv_8.Time, xv_8.In, xv_8.Sent, true, xv_8.Fired⟩ : GSlot)))))))))
 else rec_1 (straggler_1, IntKind.i64.wrap (t11_1 + 1), a_1)))
 else some (straggler_1, a_1))
def f_cell_mark_s0_0 (c_0 : List GSlot) (kind_0 : Int) (atv_0 : Int) : Option (Bool × (List GSlot)) :=
 loopK (f_cell_mark_s0_0_B1 c_0 kind_0 atv_0) rounds (false, 0, c_0)
theorem f_cell_mark_s0_0_det (c_0 : List GSlot) (kind_0 : Int) (atv_0 : Int)  (r : Bool × (List GSlot)) (h : f_cell_mark_s0_0 c_0 kind_0 atv_0 = some r) : DetS Try.prog 95 [.osl 0 10 (0) (List.length c_0), .v (.int .i64 kind_0), .v (.int .i64 atv_0)] [(0, .arr 10 (enc c_0))] 1 (.v (.bool r.1)) [(0, .arr 10 (enc r.2))] 1 := by
 unfold DetS
 refine Spec.of_vc Try.func95 rfl (by kernel_rfl) (by kernel_rfl) ?_
 rw [f_cell_mark_s0_0] at h
 refine sg fun QQ1 hQ1 => ?_
 simp only [go_sem]
 refine seqQ_normal hQ1 ?_
 refine sg fun QQ2 hQ2 => ?_
 simp only [go_sem]
 refine seqQ_normal hQ2 ?_
 refine vc_join (by kernel_rfl) ?_
 refine seq_go_gen ?_
 intro QQ3 hQ3
 refine sg fun QQ4 hQ4 => ?_
 simp only [go_sem]
 refine seqQ_normal hQ4 ?_
 refine vc_block_gen ?_
 intro QQ5 hQ5
 refine vc_loop_of ?_
 refine loop_gen (ι := Nat × Bool × Int × (List GSlot)) (fun ((_, straggler_1, t11_1, a_1) : Nat × Bool × Int × (List GSlot)) => (⟨1, [(0, .osl 0 10 (0) (List.length a_1)), (1, .v (.int .i64 kind_0)), (2, .v (.int .i64 atv_0)), (7, .v (.bool straggler_1)), (10, .v (.int .i64 (List.length c_0 : Int))), (11, .v (.int .i64 t11_1))], [(0, .arr 10 (enc a_1))], 1, 57⟩ : St)) (fun ((n_, straggler_1, t11_1, a_1) : Nat × Bool × Int × (List GSlot)) => loopK (f_cell_mark_s0_0_B1 c_0 kind_0 atv_0) n_ (straggler_1, t11_1, a_1) = some r) (fun p => p.1) (rounds, false, 0, c_0) [] ?_ h ?_
 · simp only [go_sem, Le]
 ·
  rintro ⟨n_1, straggler_1, t11_1, a_1⟩ h QQ6 hQ6
  dsimp only at h
  replace h := loopK_some h
  obtain ⟨m_1, rfl, h⟩ := h
  rw [f_cell_mark_s0_0_B1] at h
  refine sg fun QQ7 hQ7 => ?_
  simp only [go_sem]
  refine seqQ_normal hQ7 ?_
  refine sg fun QQ8 hQ8 => ?_
  refine vc_cond_of (b := (decide (t11_1 < (List.length c_0 : Int)))) (by (simp only [go_sem]; done)) (fun hb_14 => ?_) (fun hb_14 => ?_)
  ·
   replace h := if_t h hb_14
   simp only [bool_to_prop] at hb_14
   refine vc_skip_of ?_
   refine seqQ_normal hQ8 ?_
   refine sg fun QQ9 hQ9 => ?_
   refine vc_block_gen ?_
   intro QQ10 hQ10
   refine sg fun QQ11 hQ11 => ?_
   simp only [go_sem]
   refine seqQ_normal hQ11 ?_
   refine sg fun QQ12 hQ12 => ?_
   refine sg fun QQ13 hQ13 => ?_
   refine vc_draw ?_
   refine drawM_tail 17 [0, 0, 3, 7, 15, 31, 63, 127, 127, 511, 1023, 2047, 127, 127, 12415, 28799, 61567, 131071, 262143, 524287, 1048575] mixed (by kernel_rfl) (of_decide_eq_true (by kernel_rfl)) (by kernel_rfl) ?_
   simp only [go_sem]
   rcases hb_15 : (t11_1 == atv_0) with _ | _
   ·
    replace h := if_f h hb_15
    simp only [go_sem, hb_15]
    rcases hb_16 : (kind_0 == 14) with _ | _
    ·
     replace h := if_f h hb_16
     simp only [go_sem, hb_16]
     refine seqQ_normal hQ13 ?_
     refine vc_cond_t (by (simp only [go_sem]; done)) ?_
     refine vc_exit_of ?_
     refine seqQ_exit hQ12 ?_
     refine blockQ_exit hQ10 ?_
     refine seqQ_normal hQ9 ?_
     simp only [go_sem]
     refine thenQ_normal hQ6 ?_
     refine ⟨(m_1, straggler_1, IntKind.i64.wrap (t11_1 + 1), a_1), [], ?_, h, Nat.lt_succ_self _⟩
     simp only [go_sem, Le]
    ·
     replace h := if_t h hb_16
     obtain ⟨xv_7, exv_7, h⟩ := bindO_some h
     obtain ⟨fxv_7a, fxv_7b, fxv_7c⟩ := idx_spec exv_7
     obtain ⟨xv_8, exv_8, h⟩ := bindO_some h
     obtain ⟨fxv_8a, fxv_8b, fxv_8c⟩ := idx_spec exv_8
     obtain ⟨v_2, ev_2, h⟩ := bindO_some h
     simp only [go_sem, hb_16, fxv_7a, fxv_7b, fxv_7c, fxv_8a, fxv_8b, fxv_8c]
     refine And.intro (by omega) ?_
     refine And.intro (by omega) ?_
     refine call0 (f_ts_Le_ok xv_7.Time xv_8.Time v_2 ev_2) (by rfl) (by rfl) ?_
     simp only [go_sem]
     refine seqQ_normal hQ13 ?_
     refine vc_cond_of (b := (!v_2)) (by (simp only [go_sem]; done)) (fun hb_17 => ?_) (fun hb_17 => ?_)
     ·
      replace h := if_t h hb_17
      simp only [bool_to_prop] at hb_17
      refine vc_exit_of ?_
      refine seqQ_exit hQ12 ?_
      refine blockQ_exit hQ10 ?_
      refine seqQ_normal hQ9 ?_
      simp only [go_sem]
      refine thenQ_normal hQ6 ?_
      refine ⟨(m_1, straggler_1, IntKind.i64.wrap (t11_1 + 1), a_1), [], ?_, h, Nat.lt_succ_self _⟩
      simp only [go_sem, Le]
     ·
      replace h := if_f h hb_17
      simp only [bool_to_prop] at hb_17
      refine vc_skip_of ?_
      refine seqQ_normal hQ12 ?_
      refine sg fun QQ14 hQ14 => ?_
      simp only [go_sem]
      rcases hb_18 : straggler_1 with _ | _
      ·
       replace h := if_f h hb_18
       simp only [go_sem, hb_18, fxv_8a, fxv_8b, fxv_8c]
       refine And.intro (by omega) ?_
       rcases hb_19 : xv_8.Fired with _ | _
       ·
        replace h := if_f h hb_19
        simp only [go_sem, hb_19]
        refine seqQ_normal hQ14 ?_
        have rf_10 : (enc a_1).set (Int.toNat t11_1) [.v (.int .i64 xv_8.Time.D), .v (.int .i64 xv_8.Time.C.a0), .v (.int .i64 xv_8.Time.C.a1), .v (.int .i64 xv_8.Time.C.a2), .v (.int .i64 xv_8.Time.C.a3), .sl 3 (enc xv_8.In.a0), .sl 3 (enc xv_8.In.a1), .sl 3 (enc xv_8.Sent), .v (.bool true), .v (.bool xv_8.Fired)] = enc (List.set a_1 (Int.toNat t11_1) (⟨xv_8.Time, xv_8.In, xv_8.Sent, true, xv_8.Fired⟩ : GSlot)) := by exact enc_set a_1 (Int.toNat t11_1) (⟨xv_8.Time, xv_8.In, xv_8.Sent, true, xv_8.Fired⟩ : GSlot)
        simp only [go_sem, fxv_8a, fxv_8b, fxv_8c, rf_10]
        refine And.intro (by omega) ?_
        refine blockQ_normal hQ10 ?_
        refine seqQ_normal hQ9 ?_
        simp only [go_sem]
        refine thenQ_normal hQ6 ?_
        refine ⟨(m_1, false, IntKind.i64.wrap (t11_1 + 1), (List.set a_1 (Int.toNat t11_1) (⟨xv_8.Time, xv_8.In, xv_8.Sent, true, xv_8.Fired⟩ : GSlot))), [], ?_, h, Nat.lt_succ_self _⟩
        simp only [go_sem, Le]
       ·
        replace h := if_t h hb_19
        simp only [go_sem, hb_19, fxv_8a, fxv_8b, fxv_8c]
        refine And.intro (by omega) ?_
        refine seqQ_normal hQ14 ?_
        have rf_11 : (enc a_1).set (Int.toNat t11_1) [.v (.int .i64 xv_8.Time.D), .v (.int .i64 xv_8.Time.C.a0), .v (.int .i64 xv_8.Time.C.a1), .v (.int .i64 xv_8.Time.C.a2), .v (.int .i64 xv_8.Time.C.a3), .sl 3 (enc xv_8.In.a0), .sl 3 (enc xv_8.In.a1), .sl 3 (enc xv_8.Sent), .v (.bool true), .v (.bool xv_8.Fired)] = enc (List.set a_1 (Int.toNat t11_1) (⟨xv_8.Time, xv_8.In, xv_8.Sent, true, xv_8.Fired⟩ : GSlot)) := by exact enc_set a_1 (Int.toNat t11_1) (⟨xv_8.Time, xv_8.In, xv_8.Sent, true, xv_8.Fired⟩ : GSlot)
        simp only [go_sem, fxv_8a, fxv_8b, fxv_8c, rf_11]
        refine And.intro (by omega) ?_
        refine blockQ_normal hQ10 ?_
        refine seqQ_normal hQ9 ?_
        simp only [go_sem]
        refine thenQ_normal hQ6 ?_
        refine ⟨(m_1, (!xv_8.Dirty), IntKind.i64.wrap (t11_1 + 1), (List.set a_1 (Int.toNat t11_1) (⟨xv_8.Time, xv_8.In, xv_8.Sent, true, xv_8.Fired⟩ : GSlot))), [], ?_, h, Nat.lt_succ_self _⟩
        simp only [go_sem, Le]
      ·
       replace h := if_t h hb_18
       simp only [go_sem, hb_18]
       refine seqQ_normal hQ14 ?_
       have rf_12 : (enc a_1).set (Int.toNat t11_1) [.v (.int .i64 xv_8.Time.D), .v (.int .i64 xv_8.Time.C.a0), .v (.int .i64 xv_8.Time.C.a1), .v (.int .i64 xv_8.Time.C.a2), .v (.int .i64 xv_8.Time.C.a3), .sl 3 (enc xv_8.In.a0), .sl 3 (enc xv_8.In.a1), .sl 3 (enc xv_8.Sent), .v (.bool true), .v (.bool xv_8.Fired)] = enc (List.set a_1 (Int.toNat t11_1) (⟨xv_8.Time, xv_8.In, xv_8.Sent, true, xv_8.Fired⟩ : GSlot)) := by exact enc_set a_1 (Int.toNat t11_1) (⟨xv_8.Time, xv_8.In, xv_8.Sent, true, xv_8.Fired⟩ : GSlot)
       simp only [go_sem, fxv_8a, fxv_8b, fxv_8c, rf_12]
       refine And.intro (by omega) ?_
       refine blockQ_normal hQ10 ?_
       refine seqQ_normal hQ9 ?_
       simp only [go_sem]
       refine thenQ_normal hQ6 ?_
       refine ⟨(m_1, true, IntKind.i64.wrap (t11_1 + 1), (List.set a_1 (Int.toNat t11_1) (⟨xv_8.Time, xv_8.In, xv_8.Sent, true, xv_8.Fired⟩ : GSlot))), [], ?_, h, Nat.lt_succ_self _⟩
       simp only [go_sem, Le]
   ·
    replace h := if_t h hb_15
    simp only [go_sem, hb_15]
    refine seqQ_normal hQ13 ?_
    refine vc_cond_f (by (simp only [go_sem]; done)) ?_
    refine vc_skip_of ?_
    refine seqQ_normal hQ12 ?_
    refine sg fun QQ15 hQ15 => ?_
    simp only [go_sem]
    rcases hb_20 : straggler_1 with _ | _
    ·
     replace h := if_f h hb_20
     obtain ⟨xv_9, exv_9, h⟩ := bindO_some h
     obtain ⟨fxv_9a, fxv_9b, fxv_9c⟩ := idx_spec exv_9
     simp only [go_sem, hb_20, fxv_9a, fxv_9b, fxv_9c]
     refine And.intro (by omega) ?_
     rcases hb_21 : xv_9.Fired with _ | _
     ·
      replace h := if_f h hb_21
      simp only [go_sem, hb_21]
      refine seqQ_normal hQ15 ?_
      have rf_13 : (enc a_1).set (Int.toNat t11_1) [.v (.int .i64 xv_9.Time.D), .v (.int .i64 xv_9.Time.C.a0), .v (.int .i64 xv_9.Time.C.a1), .v (.int .i64 xv_9.Time.C.a2), .v (.int .i64 xv_9.Time.C.a3), .sl 3 (enc xv_9.In.a0), .sl 3 (enc xv_9.In.a1), .sl 3 (enc xv_9.Sent), .v (.bool true), .v (.bool xv_9.Fired)] = enc (List.set a_1 (Int.toNat t11_1) (⟨xv_9.Time, xv_9.In, xv_9.Sent, true, xv_9.Fired⟩ : GSlot)) := by exact enc_set a_1 (Int.toNat t11_1) (⟨xv_9.Time, xv_9.In, xv_9.Sent, true, xv_9.Fired⟩ : GSlot)
      simp only [go_sem, fxv_9a, fxv_9b, fxv_9c, rf_13]
      refine And.intro (by omega) ?_
      refine blockQ_normal hQ10 ?_
      refine seqQ_normal hQ9 ?_
      simp only [go_sem]
      refine thenQ_normal hQ6 ?_
      refine ⟨(m_1, false, IntKind.i64.wrap (t11_1 + 1), (List.set a_1 (Int.toNat t11_1) (⟨xv_9.Time, xv_9.In, xv_9.Sent, true, xv_9.Fired⟩ : GSlot))), [], ?_, h, Nat.lt_succ_self _⟩
      simp only [go_sem, Le]
     ·
      replace h := if_t h hb_21
      simp only [go_sem, hb_21, fxv_9a, fxv_9b, fxv_9c]
      refine And.intro (by omega) ?_
      refine seqQ_normal hQ15 ?_
      have rf_14 : (enc a_1).set (Int.toNat t11_1) [.v (.int .i64 xv_9.Time.D), .v (.int .i64 xv_9.Time.C.a0), .v (.int .i64 xv_9.Time.C.a1), .v (.int .i64 xv_9.Time.C.a2), .v (.int .i64 xv_9.Time.C.a3), .sl 3 (enc xv_9.In.a0), .sl 3 (enc xv_9.In.a1), .sl 3 (enc xv_9.Sent), .v (.bool true), .v (.bool xv_9.Fired)] = enc (List.set a_1 (Int.toNat t11_1) (⟨xv_9.Time, xv_9.In, xv_9.Sent, true, xv_9.Fired⟩ : GSlot)) := by exact enc_set a_1 (Int.toNat t11_1) (⟨xv_9.Time, xv_9.In, xv_9.Sent, true, xv_9.Fired⟩ : GSlot)
      simp only [go_sem, fxv_9a, fxv_9b, fxv_9c, rf_14]
      refine And.intro (by omega) ?_
      refine blockQ_normal hQ10 ?_
      refine seqQ_normal hQ9 ?_
      simp only [go_sem]
      refine thenQ_normal hQ6 ?_
      refine ⟨(m_1, (!xv_9.Dirty), IntKind.i64.wrap (t11_1 + 1), (List.set a_1 (Int.toNat t11_1) (⟨xv_9.Time, xv_9.In, xv_9.Sent, true, xv_9.Fired⟩ : GSlot))), [], ?_, h, Nat.lt_succ_self _⟩
      simp only [go_sem, Le]
    ·
     replace h := if_t h hb_20
     simp only [go_sem, hb_20]
     refine seqQ_normal hQ15 ?_
     obtain ⟨xv_10, exv_10, h⟩ := bindO_some h
     obtain ⟨fxv_10a, fxv_10b, fxv_10c⟩ := idx_spec exv_10
     have rf_15 : (enc a_1).set (Int.toNat t11_1) [.v (.int .i64 xv_10.Time.D), .v (.int .i64 xv_10.Time.C.a0), .v (.int .i64 xv_10.Time.C.a1), .v (.int .i64 xv_10.Time.C.a2), .v (.int .i64 xv_10.Time.C.a3), .sl 3 (enc xv_10.In.a0), .sl 3 (enc xv_10.In.a1), .sl 3 (enc xv_10.Sent), .v (.bool true), .v (.bool xv_10.Fired)] = enc (List.set a_1 (Int.toNat t11_1) (⟨xv_10.Time, xv_10.In, xv_10.Sent, true, xv_10.Fired⟩ : GSlot)) := by exact enc_set a_1 (Int.toNat t11_1) (⟨xv_10.Time, xv_10.In, xv_10.Sent, true, xv_10.Fired⟩ : GSlot)
     simp only [go_sem, fxv_10a, fxv_10b, fxv_10c, rf_15]
     refine And.intro (by omega) ?_
     refine blockQ_normal hQ10 ?_
     refine seqQ_normal hQ9 ?_
     simp only [go_sem]
     refine thenQ_normal hQ6 ?_
     refine ⟨(m_1, true, IntKind.i64.wrap (t11_1 + 1), (List.set a_1 (Int.toNat t11_1) (⟨xv_10.Time, xv_10.In, xv_10.Sent, true, xv_10.Fired⟩ : GSlot))), [], ?_, h, Nat.lt_succ_self _⟩
     simp only [go_sem, Le]
  ·
   replace h := if_f h hb_14
   simp only [bool_to_prop] at hb_14
   refine vc_exit_of ?_
   refine seqQ_exit hQ8 ?_
   refine thenQ_exit hQ6 ?_
   refine blockQ_exit hQ5 ?_
   refine seqQ_normal hQ3 ?_
   refine sg fun QQ16 hQ16 => ?_
   simp only [go_sem]
   refine seqQ_normal hQ16 ?_
   refine vc_ret_of ?_
   simp only [go_sem]
   obtain rfl := Option.some.inj h
   refine retW_det [] ?_
   simp only [go_sem, Le]

def f_slices_Delete_Slot_s0_0 (x_0 : List GSlot) (i_0 : Int) (j_0 : Int) : Option (List GSlot) := deleteF x_0 i_0 j_0
theorem f_slices_Delete_Slot_s0_0_lay : DelLay Try.prog (insRen 169 0 0 0 3 4 82 69) 10 (.agg #[.int .i64 0, .int .i64 0, .int .i64 0, .int .i64 0, .int .i64 0, .slice none 0 0, .slice none 0 0, .slice none 0 0, .bool false, .bool false] : Value) := { mixed := by kernel_rfl, t0 := Try.underlying0, a0 := Try.isAgg0, z0 := Try.sizeOf0, v0 := Try.zeroValue0, t3 := Try.underlying3, a3 := Try.isAgg3, z3 := Try.sizeOf3, v3 := Try.zeroValue3, t4 := Try.underlying4, a4 := Try.isAgg4, z4 := Try.sizeOf4, v4 := Try.zeroValue4, t24 := Try.underlying69, a24 := Try.isAgg69, z24 := Try.sizeOf69, v24 := Try.zeroValue69, z9 := Try.sizeOf82, v9 := Try.zeroValue82, i9 := info_ex3 (b := 120) (by kernel_rfl), f24 := ⟨"slices.Delete[[]backwash/api.Slot,backwash/api.Slot]", by decide, by kernel_rfl⟩ }
theorem f_slices_Delete_Slot_s0_0_det (x_0 : List GSlot) (i_0 : Int) (j_0 : Int) (r : List GSlot) (h : f_slices_Delete_Slot_s0_0 x_0 i_0 j_0 = some r) : DetS Try.prog 169 [.osl 0 10 0 (List.length x_0), .v (.int .i64 i_0), .v (.int .i64 j_0)] [(0, .arr 10 (enc x_0))] 1 (.osl 1 10 0 (List.length r)) [(1, .arr 10 (enc r))] 2 :=
 delete_det f_slices_Delete_Slot_s0_0_lay (by kernel_rfl) (by decide) (by rfl) (by rfl) (fun _ => rfl) h

def f_cell_settled_s0_0 (c_0 : List GSlot) (atv_0 : Int) : Option (List GSlot) :=
 bindO (idx c_0 atv_0) (fun (xv_0 : GSlot) =>
 bindO (f_cell_empty xv_0) (fun (v_0 : Bool) =>
 (if v_0 = true then bindO (f_slices_Delete_Slot_s0_0 c_0 atv_0 (IntKind.i64.wrap (atv_0 + 1))) (fun (v_1 : List GSlot) =>
 some v_1)
 else some c_0)))
theorem f_cell_settled_s0_0_det (c_0 : List GSlot) (atv_0 : Int)  (r : List GSlot) (h : f_cell_settled_s0_0 c_0 atv_0 = some r) : DetS Try.prog 96 [.osl 0 10 (0) (List.length c_0), .v (.int .i64 atv_0)] [(0, .arr 10 (enc c_0))] 1 (.osl 1 10 (0) (List.length r)) [(1, .arr 10 (enc r))] 2 := by
 unfold DetS
 refine Spec.of_vc Try.func96 rfl (by kernel_rfl) (by kernel_rfl) ?_
 rw [f_cell_settled_s0_0] at h
 refine sg fun QQ1 hQ1 => ?_
 simp only [go_sem]
 refine seqQ_normal hQ1 ?_
 refine sg fun QQ2 hQ2 => ?_
 refine sg fun QQ3 hQ3 => ?_
 obtain ⟨xv_0, exv_0, h⟩ := bindO_some h
 obtain ⟨fxv_0a, fxv_0b, fxv_0c⟩ := idx_spec exv_0
 obtain ⟨v_0, ev_0, h⟩ := bindO_some h
 simp only [go_sem, fxv_0a, fxv_0b, fxv_0c]
 refine And.intro (by omega) ?_
 refine call0 (f_cell_empty_ok xv_0 v_0 ev_0) (by rfl) (by rfl) ?_
 simp only [go_sem]
 refine seqQ_normal hQ3 ?_
 refine vc_cond_of (b := v_0) (by (simp only [go_sem]; done)) (fun hb_0 => ?_) (fun hb_0 => ?_)
 ·
  replace h := if_t h hb_0
  refine sg fun QQ4 hQ4 => ?_
  obtain ⟨v_1, ev_1, h⟩ := bindO_some h
  simp only [go_sem]
  refine callD [0] (f_slices_Delete_Slot_s0_0_det c_0 atv_0 (IntKind.i64.wrap (atv_0 + 1)) v_1 ev_1) (by simp) rfl ⟨rfl, trivial⟩ rfl rfl rfl rfl ?_
  simp only [go_sem]
  refine seqQ_normal hQ4 ?_
  refine vc_ret_of ?_
  refine seqQ_ret hQ2 ?_
  simp only [go_sem]
  obtain rfl := Option.some.inj h
  refine retW_det [some 1] ?_
  simp only [go_sem, Le]
 ·
  replace h := if_f h hb_0
  refine vc_skip_of ?_
  refine seqQ_normal hQ2 ?_
  refine sg fun QQ5 hQ5 => ?_
  simp only [go_sem]
  refine seqQ_normal hQ5 ?_
  refine vc_ret_of ?_
  simp only [go_sem]
  obtain rfl := Option.some.inj h
  refine retW_det [some 0] ?_
  simp only [go_sem, Le]

def f_cell_Come_J1 (kind_0 : Int) (port_0 : Int) (rv_0 : GRec) (nv_0 : Int) (v_3 : Int × Bool) (a_0 : List GSlot) : Option ((List GSlot) × Bool × Bool) :=
 bindO (idx a_0 v_3.1) (fun (xv_0 : GSlot) =>
 guardO (0 ≤ port_0 ∧ port_0 < 2) (
 bindO (idx ([xv_0.In.a0, xv_0.In.a1] : List (List GItem)) port_0) (fun (xv_1 : List GItem) =>
 bindO (f_bag_Add xv_1 rv_0 nv_0) (fun (v_5 : List GItem) =>
 guardO (0 ≤ port_0 ∧ port_0 < 2) (
 bindO (some (if Int.toNat port_0 = 0 then v_5 else xv_0.In.a0)) (fun (w_0 : List GItem) =>
 bindO (some (if Int.toNat port_0 = 1 then v_5 else xv_0.In.a1)) (fun (w_1 : List GItem) =>
 bindO (f_cell_mark_s0_0 (List.set a_0 (Int.toNat v_3.1) (⟨xv_0.Time, (⟨w_0, w_1⟩ : Arr2 (List GItem)), xv_0.Sent, xv_0.Dirty, xv_0.Fired⟩ : GSlot)) kind_0 v_3.1) (fun (v_6 : Bool × (List GSlot)) =>
 guardO (List.length v_6.2 = List.length (List.set a_0 (Int.toNat v_3.1) (⟨xv_0.Time, (⟨w_0, w_1⟩ : Arr2 (List GItem)), xv_0.Sent, xv_0.Dirty, xv_0.Fired⟩ : GSlot))) (
 bindO (f_cell_settled_s0_0 v_6.2 v_3.1) (fun (v_7 : List GSlot) =>
 some (v_7, v_6.1, true)))))))))))
def f_cell_Come (c_0 : List GSlot) (kind_0 : Int) (port_0 : Int) (t_0 : GTime) (rv_0 : GRec) (nv_0 : Int) : Option ((List GSlot) × Bool × Bool) :=
 bindO (f_slices_Clone_Slot c_0) (fun (v_0 : List GSlot) =>
 bindO (f_cell_Right c_0) (fun (v_1 : Bool) =>
 (if (((!v_1) || (decide (port_0 < 0))) || (decide (1 < port_0))) = true then some (v_0, false, false)
 else bindO (f_ts_Right t_0) (fun (v_2 : Bool) =>
 (if ((((!v_2) || (nv_0 == 0)) || (decide (nv_0 < (-2147483648)))) || (decide (2147483648 < nv_0))) = true then some (v_0, false, false)
 else bindO (f_cell_find v_0 t_0) (fun (v_3 : Int × Bool) =>
 (if (!v_3.2) = true then bindO (f_slices_Insert_Slot_s0_0_s2_0 v_0 v_3.1 ([(⟨t_0, (⟨([] : List GItem), ([] : List GItem)⟩ : Arr2 (List GItem)), ([] : List GItem), false, false⟩ : GSlot)] : List GSlot)) (fun (v_8 : List GSlot) =>
 f_cell_Come_J1 kind_0 port_0 rv_0 nv_0 v_3 v_8)
 else f_cell_Come_J1 kind_0 port_0 rv_0 nv_0 v_3 v_0)))))))
theorem f_cell_Come_det (c_0 : List GSlot) (kind_0 : Int) (port_0 : Int) (t_0 : GTime) (rv_0 : GRec) (nv_0 : Int)  (r : (List GSlot) × Bool × Bool) (h : f_cell_Come c_0 kind_0 port_0 t_0 rv_0 nv_0 = some r) : DetS Try.prog 38 [.sl 10 (enc c_0), .v (.int .i64 kind_0), .v (.int .i64 port_0), .agg [.v (.int .i64 t_0.D), .v (.int .i64 t_0.C.a0), .v (.int .i64 t_0.C.a1), .v (.int .i64 t_0.C.a2), .v (.int .i64 t_0.C.a3)], .agg [.v (.int .i64 rv_0.K), .v (.int .i64 rv_0.V)], .v (.int .i64 nv_0)] [] 0 (.tup [.osl 0 10 (0) (List.length r.1), .v (.bool r.2.1), .v (.bool r.2.2)]) [(0, .arr 10 (enc r.1))] 1 := by
 unfold DetS
 refine Spec.of_vc Try.func38 rfl (by kernel_rfl) (by kernel_rfl) ?_
 rw [f_cell_Come] at h
 refine sg fun QQ1 hQ1 => ?_
 simp only [go_sem]
 refine seqQ_normal hQ1 ?_
 refine sg fun QQ2 hQ2 => ?_
 obtain ⟨v_0, ev_0, h⟩ := bindO_some h
 simp only [go_sem]
 refine callD [] (f_slices_Clone_Slot_det c_0 v_0 ev_0) (by simp) rfl trivial rfl rfl rfl rfl ?_
 simp only [go_sem]
 refine seqQ_normal hQ2 ?_
 refine sg fun QQ3 hQ3 => ?_
 refine sg fun QQ4 hQ4 => ?_
 obtain ⟨v_1, ev_1, h⟩ := bindO_some h
 simp only [go_sem]
 refine call0 (f_cell_Right_ok c_0 v_1 ev_1) (by rfl) (by rfl) ?_
 simp only [go_sem]
 rcases hb_0 : (((!v_1) || (decide (port_0 < 0))) || (decide (1 < port_0))) with _ | _
 ·
  replace h := if_f h hb_0
  obtain ⟨v_2, ev_2, h⟩ := bindO_some h
  simp only [go_sem, hb_0]
  refine call0 (f_ts_Right_ok t_0 v_2 ev_2) (by rfl) (by rfl) ?_
  simp only [go_sem]
  refine seqQ_normal hQ4 ?_
  refine vc_cond_of (b := ((((!v_2) || (nv_0 == 0)) || (decide (nv_0 < (-2147483648)))) || (decide (2147483648 < nv_0)))) (by (simp only [go_sem]; done)) (fun hb_1 => ?_) (fun hb_1 => ?_)
  ·
   replace h := if_t h hb_1
   simp only [bool_to_prop] at hb_1
   refine sg fun QQ5 hQ5 => ?_
   simp only [go_sem]
   refine seqQ_normal hQ5 ?_
   refine vc_ret_of ?_
   refine seqQ_ret hQ3 ?_
   simp only [go_sem]
   obtain rfl := Option.some.inj h
   refine retW_det [some 2] ?_
   simp only [go_sem, Le]
  ·
   replace h := if_f h hb_1
   simp only [bool_to_prop] at hb_1
   refine vc_skip_of ?_
   refine seqQ_normal hQ3 ?_
   refine sg fun QQ6 hQ6 => ?_
   obtain ⟨v_3, ev_3, h⟩ := bindO_some h
   simp only [go_sem]
   refine callB (s' := (⟨0, [(0, .sl 10 (enc c_0)), (1, .v (.int .i64 kind_0)), (2, .v (.int .i64 port_0)), (3, .agg [.v (.int .i64 t_0.D), .v (.int .i64 t_0.C.a0), .v (.int .i64 t_0.C.a1), .v (.int .i64 t_0.C.a2), .v (.int .i64 t_0.C.a3)]), (4, .agg [.v (.int .i64 rv_0.K), .v (.int .i64 rv_0.V)]), (5, .v (.int .i64 nv_0)), (9, .ptr 0 0), (10, .ptr 1 0), (12, .v (.slice none 0 0)), (13, .v (.bool false)), (14, .v (.bool false)), (15, .sl 10 (enc v_0)), (19, .sl 10 (enc c_0)), (20, .sl 10 (enc v_0)), (21, .sl 10 (enc c_0)), (22, .v (.bool v_1)), (23, .v (.bool (!v_1))), (24, .v (.bool (!v_1))), (27, .v (.bool ((!v_1) || (decide (port_0 < 0))))), (28, .v (.bool ((!v_1) || (decide (port_0 < 0))))), (31, .v (.bool false)), (32, .v (.bool false)), (33, .agg [.v (.int .i64 t_0.D), .v (.int .i64 t_0.C.a0), .v (.int .i64 t_0.C.a1), .v (.int .i64 t_0.C.a2), .v (.int .i64 t_0.C.a3)]), (34, .v (.bool v_2)), (35, .v (.bool (!v_2))), (36, .v (.bool (!v_2))), (37, .v (.bool (!v_2))), (40, .v (.bool ((!v_2) || (nv_0 == 0)))), (41, .v (.bool ((!v_2) || (nv_0 == 0)))), (44, .v (.bool (((!v_2) || (nv_0 == 0)) || (decide (nv_0 < (-2147483648)))))), (45, .v (.bool (((!v_2) || (nv_0 == 0)) || (decide (nv_0 < (-2147483648)))))), (48, .v (.bool ((((!v_2) || (nv_0 == 0)) || (decide (nv_0 < (-2147483648)))) || (decide (2147483648 < nv_0))))), (51, .sl 10 (enc v_0)), (52, .agg [.v (.int .i64 t_0.D), .v (.int .i64 t_0.C.a0), .v (.int .i64 t_0.C.a1), .v (.int .i64 t_0.C.a2), .v (.int .i64 t_0.C.a3)])], [(0, .box [.v (.int .i64 t_0.D), .v (.int .i64 t_0.C.a0), .v (.int .i64 t_0.C.a1), .v (.int .i64 t_0.C.a2), .v (.int .i64 t_0.C.a3)]), (1, .box [.v (.int .i64 rv_0.K), .v (.int .i64 rv_0.V)])], 2, 88⟩ : St)) (l := [some 0, some 1]) (args' := [.sl 10 (enc v_0), .agg [.v (.int .i64 t_0.D), .v (.int .i64 t_0.C.a0), .v (.int .i64 t_0.C.a1), .v (.int .i64 t_0.C.a2), .v (.int .i64 t_0.C.a3)]]) ?_ ?_ (f_cell_find_ok v_0 t_0 v_3 ev_3) (by rfl) (by rfl) ?_
   · simp only [go_sem, Le] <;> (repeat' apply And.intro) <;> first | ((try with_reducible refine TL_eq ?_); omega) | ((try with_reducible refine TL_eq ?_); (simp [go_sem]; done))
   · simp only [go_sem, Le] <;> (repeat' apply And.intro) <;> ((try with_reducible refine TL_eq ?_); (simp [go_sem]; done))
   simp only [go_sem]
   refine seqQ_normal hQ6 ?_
   refine vc_join (by kernel_rfl) ?_
   refine seq_cut_gen (ι := (List GSlot)) (fun (a_0 : (List GSlot)) => (⟨0, [(1, .v (.int .i64 kind_0)), (2, .v (.int .i64 port_0)), (5, .v (.int .i64 nv_0)), (10, .ptr 0 0), (15, .osl 1 10 (0) (List.length a_0)), (16, .v (.int .i64 v_3.1))], [(0, .box [.v (.int .i64 rv_0.K), .v (.int .i64 rv_0.V)]), (1, .arr 10 (enc a_0))], 2, 88⟩ : St)) (fun (a_0 : (List GSlot)) => f_cell_Come_J1 kind_0 port_0 rv_0 nv_0 v_3 a_0 = some r) ?_ ?_
   ·
    intro QQ10 hQ10
    refine sg fun QQ11 hQ11 => ?_
    simp only [go_sem]
    refine seqQ_normal hQ11 ?_
    refine vc_cond_of (b := (!v_3.2)) (by (simp only [go_sem]; done)) (fun hb_3 => ?_) (fun hb_3 => ?_)
    ·
     replace h := if_t h hb_3
     simp only [bool_to_prop] at hb_3
     have rf_2 : [[.v (.int .i64 t_0.D), .v (.int .i64 t_0.C.a0), .v (.int .i64 t_0.C.a1), .v (.int .i64 t_0.C.a2), .v (.int .i64 t_0.C.a3), .sl 3 (enc ([] : List GItem)), .sl 3 (enc ([] : List GItem)), .sl 3 (enc ([] : List GItem)), .v (.bool false), .v (.bool false)]] = enc ([(⟨t_0, (⟨([] : List GItem), ([] : List GItem)⟩ : Arr2 (List GItem)), ([] : List GItem), false, false⟩ : GSlot)] : List GSlot) := by rfl
     obtain ⟨v_8, ev_8, h⟩ := bindO_some h
     simp only [go_sem]
     refine callD [2, 3] (f_slices_Insert_Slot_s0_0_s2_0_det v_0 v_3.1 ([(⟨t_0, (⟨([] : List GItem), ([] : List GItem)⟩ : Arr2 (List GItem)), ([] : List GItem), false, false⟩ : GSlot)] : List GSlot) v_8 ev_8) (by simp) rfl ⟨rfl, ⟨rfl, trivial⟩⟩ rfl rfl rfl rfl ?_
     simp only [go_sem]
     refine thenQ_normal hQ10 ?_
     refine ⟨v_8, [some 1, some 4], ?_, h⟩
     simp only [go_sem, Le] <;> (repeat' apply And.intro) <;> first | ((try with_reducible refine TL_eq ?_); omega) | ((try with_reducible refine TL_eq ?_); (simp [go_sem]; done))
    ·
     replace h := if_f h hb_3
     simp only [bool_to_prop] at hb_3
     refine vc_skip_of ?_
     refine thenQ_normal hQ10 ?_
     refine ⟨v_0, [some 1, some 2], ?_, h⟩
     simp only [go_sem, Le] <;> (repeat' apply And.intro) <;> first | ((try with_reducible refine TL_eq ?_); omega) | ((try with_reducible refine TL_eq ?_); (simp [go_sem]; done))
   ·
    rintro a_0 h
    try dsimp only at h
    rw [f_cell_Come_J1] at h
    refine sg fun QQ7 hQ7 => ?_
    refine vc_draw ?_
    refine drawM_tail 15 [0, 0, 0, 0, 0, 0, 24, 88, 248, 504, 0, 0, 4088, 3, 8195, 32767, 65535] mixed (by kernel_rfl) (of_decide_eq_true (by kernel_rfl)) (by kernel_rfl) ?_
    obtain ⟨xv_0, exv_0, h⟩ := bindO_some h
    obtain ⟨fxv_0a, fxv_0b, fxv_0c⟩ := idx_spec exv_0
    obtain ⟨g_0, h⟩ := guardO_some h
    obtain ⟨xv_1, exv_1, h⟩ := bindO_some h
    obtain ⟨fxv_1a, fxv_1b, fxv_1c, fxv_1d⟩ := idx_at2 (f := (fun y => AV.sl 3 (enc y))) [.v (.int .i64 xv_0.Time.D), .v (.int .i64 xv_0.Time.C.a0), .v (.int .i64 xv_0.Time.C.a1), .v (.int .i64 xv_0.Time.C.a2), .v (.int .i64 xv_0.Time.C.a3)] [.sl 3 (enc xv_0.Sent), .v (.bool xv_0.Dirty), .v (.bool xv_0.Fired)] exv_1
    simp only [List.cons_append, List.nil_append, List.append_nil, List.map_cons, List.map_nil, List.length_cons, List.length_nil, Nat.zero_add, Nat.reduceAdd] at fxv_1b fxv_1c fxv_1d
    obtain ⟨v_5, ev_5, h⟩ := bindO_some h
    simp only [go_sem, fxv_0a, fxv_0b, fxv_0c, g_0, fxv_1a, fxv_1b, fxv_1c, fxv_1d]
    refine And.intro (by first | omega | (intros; simp_all; done)) ?_
    refine And.intro (by first | omega | (intros; simp_all; done)) ?_
    refine And.intro (by first | omega | (intros; simp_all; done)) ?_
    simp only [List.getD_eq_getElem?_getD, Nat.mul_one, fxv_1d, Option.map_some, Option.getD_some, true_and]
    simp only [go_sem, fxv_0a, fxv_0b, fxv_0c, g_0, fxv_1a, fxv_1b, fxv_1c, fxv_1d, List.getD_eq_getElem?_getD, Nat.mul_one, fxv_1d, Option.map_some, Option.getD_some, true_and]
    refine callq (fun _ => (f_bag_Add_ok xv_1 rv_0 nv_0 v_5 ev_5)) (by rfl) (by rfl) ?_
    obtain ⟨g_1, h⟩ := guardO_some h
    obtain ⟨w_0, ew_0, h⟩ := bindO_some h
    obtain ⟨w_1, ew_1, h⟩ := bindO_some h
    have sf_0 := pv_set (f := (fun y => AV.sl 3 (enc y))) [.v (.int .i64 xv_0.Time.D), .v (.int .i64 xv_0.Time.C.a0), .v (.int .i64 xv_0.Time.C.a1), .v (.int .i64 xv_0.Time.C.a2), .v (.int .i64 xv_0.Time.C.a3)] [.sl 3 (enc xv_0.Sent), .v (.bool xv_0.Dirty), .v (.bool xv_0.Fired)] [xv_0.In.a0, xv_0.In.a1] [w_0, w_1] (Int.toNat port_0) v_5 (by simp only [List.length_cons, List.length_nil]; omega) (by simp only [List.mapIdx_cons, List.mapIdx_nil, Nat.zero_add, Nat.reduceAdd, Option.some.inj ew_0, Option.some.inj ew_1])
    simp only [List.cons_append, List.nil_append, List.append_nil, List.map_cons, List.map_nil, List.length_cons, List.length_nil, Nat.zero_add, Nat.reduceAdd, setC, Nat.add_assoc, enc_nil] at sf_0
    have rf_1 : (enc a_0).set (Int.toNat v_3.1) [.v (.int .i64 xv_0.Time.D), .v (.int .i64 xv_0.Time.C.a0), .v (.int .i64 xv_0.Time.C.a1), .v (.int .i64 xv_0.Time.C.a2), .v (.int .i64 xv_0.Time.C.a3), .sl 3 (enc w_0), .sl 3 (enc w_1), .sl 3 (enc xv_0.Sent), .v (.bool xv_0.Dirty), .v (.bool xv_0.Fired)] = enc (List.set a_0 (Int.toNat v_3.1) (⟨xv_0.Time, (⟨w_0, w_1⟩ : Arr2 (List GItem)), xv_0.Sent, xv_0.Dirty, xv_0.Fired⟩ : GSlot)) := by exact enc_set a_0 (Int.toNat v_3.1) (⟨xv_0.Time, (⟨w_0, w_1⟩ : Arr2 (List GItem)), xv_0.Sent, xv_0.Dirty, xv_0.Fired⟩ : GSlot)
    simp only [go_sem, fxv_0a, fxv_0b, fxv_0c, g_1, sf_0, Nat.mul_one, rf_1]
    refine And.intro (by omega) ?_
    refine And.intro (by omega) ?_
    refine seqQ_normal hQ7 ?_
    refine sg fun QQ8 hQ8 => ?_
    obtain ⟨v_6, ev_6, h⟩ := bindO_some h
    simp only [go_sem]
    refine callF_weak (s' := (⟨0, [(1, .v (.int .i64 kind_0)), (2, .v (.int .i64 port_0)), (5, .v (.int .i64 nv_0)), (10, .ptr 0 0), (15, .osl 1 10 (0) (List.length a_0)), (16, .v (.int .i64 v_3.1)), (64, .osl 1 10 (0) (List.length a_0)), (65, .v (.int .i64 v_3.1)), (66, .v (.int .i64 port_0)), (67, .osl 1 10 (0) (List.length a_0)), (68, .v (.int .i64 v_3.1)), (69, .v (.int .i64 port_0)), (73, .sl 3 (enc xv_1)), (74, .agg [.v (.int .i64 rv_0.K), .v (.int .i64 rv_0.V)]), (75, .v (.int .i64 nv_0)), (76, .sl 3 (enc v_5)), (80, .osl 1 10 (0) (List.length a_0)), (81, .v (.int .i64 kind_0)), (82, .v (.int .i64 v_3.1))], [(0, .box [.v (.int .i64 rv_0.K), .v (.int .i64 rv_0.V)]), (1, .arr 10 (enc (List.set a_0 (Int.toNat v_3.1) (⟨xv_0.Time, (⟨w_0, w_1⟩ : Arr2 (List GItem)), xv_0.Sent, xv_0.Dirty, xv_0.Fired⟩ : GSlot))))], 2, 88⟩ : St)) (l := [some 0, some 1]) (args' := [.osl 1 10 (0) (List.length (List.set a_0 (Int.toNat v_3.1) (⟨xv_0.Time, (⟨w_0, w_1⟩ : Arr2 (List GItem)), xv_0.Sent, xv_0.Dirty, xv_0.Fired⟩ : GSlot))), .v (.int .i64 kind_0), .v (.int .i64 v_3.1)]) ?_ ?_ ?_
    · simp only [go_sem, Le] <;> (repeat' apply And.intro) <;> first | ((try with_reducible refine TL_eq ?_); omega) | ((try with_reducible refine TL_eq ?_); (simp [go_sem]; done))
    · simp only [go_sem, Le]
    refine callD [1] (f_cell_mark_s0_0_det (List.set a_0 (Int.toNat v_3.1) (⟨xv_0.Time, (⟨w_0, w_1⟩ : Arr2 (List GItem)), xv_0.Sent, xv_0.Dirty, xv_0.Fired⟩ : GSlot)) kind_0 v_3.1 v_6 ev_6) (by simp) rfl ⟨rfl, trivial⟩ rfl rfl rfl rfl ?_
    obtain ⟨g_2, h⟩ := guardO_some h
    simp only [List.length_set] at g_2
    simp only [go_sem, g_2]
    refine seqQ_normal hQ8 ?_
    refine sg fun QQ9 hQ9 => ?_
    obtain ⟨v_7, ev_7, h⟩ := bindO_some h
    simp only [go_sem]
    refine callF_weak (s' := (⟨0, [(1, .v (.int .i64 kind_0)), (2, .v (.int .i64 port_0)), (5, .v (.int .i64 nv_0)), (10, .ptr 0 0), (15, .osl 1 10 (0) (List.length v_6.2)), (16, .v (.int .i64 v_3.1)), (18, .v (.bool v_6.1)), (64, .osl 1 10 (0) (List.length v_6.2)), (65, .v (.int .i64 v_3.1)), (66, .v (.int .i64 port_0)), (67, .osl 1 10 (0) (List.length v_6.2)), (68, .v (.int .i64 v_3.1)), (69, .v (.int .i64 port_0)), (73, .sl 3 (enc xv_1)), (74, .agg [.v (.int .i64 rv_0.K), .v (.int .i64 rv_0.V)]), (75, .v (.int .i64 nv_0)), (76, .sl 3 (enc v_5)), (80, .osl 1 10 (0) (List.length v_6.2)), (81, .v (.int .i64 kind_0)), (82, .v (.int .i64 v_3.1)), (83, .v (.bool v_6.1)), (84, .osl 1 10 (0) (List.length v_6.2)), (85, .v (.int .i64 v_3.1))], [(0, .box [.v (.int .i64 rv_0.K), .v (.int .i64 rv_0.V)]), (1, .arr 10 (enc v_6.2))], 2, 88⟩ : St)) (l := [some 0, some 1]) (args' := [.osl 1 10 (0) (List.length v_6.2), .v (.int .i64 v_3.1)]) ?_ ?_ ?_
    · simp only [go_sem, Le] <;> (repeat' apply And.intro) <;> first | ((try with_reducible refine TL_eq ?_); omega) | ((try with_reducible refine TL_eq ?_); (simp [go_sem]; done))
    · simp only [go_sem, Le] <;> (repeat' apply And.intro) <;> ((try with_reducible refine TL_eq ?_); omega)
    refine callD [1] (f_cell_settled_s0_0_det v_6.2 v_3.1 v_7 ev_7) (by simp) rfl ⟨rfl, trivial⟩ rfl rfl rfl rfl ?_
    simp only [go_sem]
    refine seqQ_normal hQ9 ?_
    refine vc_ret_of ?_
    simp only [go_sem]
    obtain rfl := Option.some.inj h
    refine retW_det [some 2] ?_
    simp only [go_sem, Le]
 ·
  replace h := if_t h hb_0
  simp only [go_sem, hb_0]
  refine seqQ_normal hQ4 ?_
  refine vc_cond_t (by (simp only [go_sem]; done)) ?_
  refine sg fun QQ12 hQ12 => ?_
  simp only [go_sem]
  refine seqQ_normal hQ12 ?_
  refine vc_ret_of ?_
  refine seqQ_ret hQ3 ?_
  simp only [go_sem]
  obtain rfl := Option.some.inj h
  refine retW_det [some 2] ?_
  simp only [go_sem, Le]
def f_backwashref15_Empty (s_0 : GSlot) : Option Bool :=
 (if ((List.length s_0.In.a0 : Int) == 0) = true then some (((List.length s_0.In.a1 : Int) == 0) && ((List.length s_0.Sent : Int) == 0))
 else some false)
def f_backwashref15_Right_B1 (c_0 : List GSlot) (rec_1 : Int → Option Bool) : Int → Option Bool :=
 fun i_1 =>
 (if (decide (i_1 < (List.length c_0 : Int))) = true then bindO (idx c_0 i_1) (fun (xv_4 : GSlot) =>
 bindO (f_backwashref01_List xv_4.Time) (fun (v_12 : (List Int) × Bool) =>
 (if v_12.2 = true then bindO (f_backwashref15_Empty xv_4) (fun (v_13 : Bool) =>
 (if v_13 = true then some false
 else bindO (f_backwashref05_Right xv_4.In.a0) (fun (v_14 : Bool) =>
 (if v_14 = true then bindO (f_backwashref05_Right xv_4.In.a1) (fun (v_15 : Bool) =>
 (if v_15 = true then bindO (f_backwashref05_Right xv_4.Sent) (fun (v_16 : Bool) =>
 (if (!v_16) = true then some false
 else (if (decide (0 < i_1)) = true then bindO (idx c_0 (IntKind.i64.wrap (i_1 - 1))) (fun (xv_5 : GSlot) =>
 bindO (f_backwashref01_Less xv_5.Time xv_4.Time) (fun (v_17 : Bool) =>
 (if (!v_17) = true then some false
 else rec_1 (IntKind.i64.wrap (i_1 + 1)))))
 else rec_1 (IntKind.i64.wrap (i_1 + 1)))))
 else some false))
 else some false))))
 else some false)))
 else some true)
def f_backwashref15_Right (c_0 : List GSlot) : Option Bool :=
 loopK (f_backwashref15_Right_B1 c_0) rounds 0
def f_backwashref15_Come_J2 (b_2 : GSlot) (w_0 : List GItem) (w_1 : List GItem) (straggler_5 : Bool) (done_2 : Bool) (a_2 : List GSlot) : Option ((List GSlot) × Bool × Bool) :=
 (if (!done_2) = true then guardO ((List.length a_2 + List.length ([(⟨b_2.Time, (⟨w_0, w_1⟩ : Arr2 (List GItem)), b_2.Sent, true, b_2.Fired⟩ : GSlot)] : List GSlot)) * 120 ≤ 140737488355328) (
 some ((a_2 ++ ([(⟨b_2.Time, (⟨w_0, w_1⟩ : Arr2 (List GItem)), b_2.Sent, true, b_2.Fired⟩ : GSlot)] : List GSlot)), straggler_5, true))
 else some (a_2, straggler_5, true))
def f_backwashref15_Come_J4 (t_0 : GTime) (b_2 : GSlot) (w_0 : List GItem) (w_1 : List GItem) (done_4 : Bool) (i_5 : Int) (a_4 : List GSlot) (rec_3 : (Bool × Bool × Int × (List GSlot) → Option ((List GSlot) × Bool × Bool))) (straggler_10 : Bool) (b_8 : GSlot) : Option ((List GSlot) × Bool × Bool) :=
 (if done_4 = true then guardO ((List.length a_4 + List.length ([b_8] : List GSlot)) * 120 ≤ 140737488355328) (
 rec_3 (straggler_10, true, IntKind.i64.wrap (i_5 + 1), (a_4 ++ ([b_8] : List GSlot))))
 else bindO (f_backwashref01_Less t_0 b_8.Time) (fun (v_20 : Bool) =>
 (if v_20 = true then guardO ((List.length a_4 + List.length ([(⟨b_2.Time, (⟨w_0, w_1⟩ : Arr2 (List GItem)), b_2.Sent, true, b_2.Fired⟩ : GSlot)] : List GSlot)) * 120 ≤ 140737488355328) (
 guardO ((List.length (a_4 ++ ([(⟨b_2.Time, (⟨w_0, w_1⟩ : Arr2 (List GItem)), b_2.Sent, true, b_2.Fired⟩ : GSlot)] : List GSlot)) + List.length ([b_8] : List GSlot)) * 120 ≤ 140737488355328) (
 rec_3 (straggler_10, true, IntKind.i64.wrap (i_5 + 1), ((a_4 ++ ([(⟨b_2.Time, (⟨w_0, w_1⟩ : Arr2 (List GItem)), b_2.Sent, true, b_2.Fired⟩ : GSlot)] : List GSlot)) ++ ([b_8] : List GSlot)))))
 else guardO ((List.length a_4 + List.length ([b_8] : List GSlot)) * 120 ≤ 140737488355328) (
 rec_3 (straggler_10, false, IntKind.i64.wrap (i_5 + 1), (a_4 ++ ([b_8] : List GSlot)))))))
def f_backwashref15_Come_B3 (c_0 : List GSlot) (kind_0 : Int) (t_0 : GTime) (b_2 : GSlot) (w_0 : List GItem) (w_1 : List GItem) (rec_3 : Bool × Bool × Int × (List GSlot) → Option ((List GSlot) × Bool × Bool)) : Bool × Bool × Int × (List GSlot) → Option ((List GSlot) × Bool × Bool) :=
 fun (straggler_9, done_4, i_5, a_4) =>
 (if (decide (i_5 < (List.length c_0 : Int))) = true then bindO (idx c_0 i_5) (fun (xv_9 : GSlot) =>
 (if ((xv_9.Time.D == t_0.D) && ((xv_9.Time.C.a0 == t_0.C.a0) && ((xv_9.Time.C.a1 == t_0.C.a1) && ((xv_9.Time.C.a2 == t_0.C.a2) && (xv_9.Time.C.a3 == t_0.C.a3))))) = true then rec_3 (straggler_9, done_4, IntKind.i64.wrap (i_5 + 1), a_4)
 else (if (kind_0 == 14) = true then bindO (f_backwashref01_Le t_0 xv_9.Time) (fun (v_21 : Bool) =>
 (if v_21 = true then f_backwashref15_Come_J4 t_0 b_2 w_0 w_1 done_4 i_5 a_4 rec_3 (straggler_9 || (xv_9.Fired && (!xv_9.Dirty))) (⟨xv_9.Time, xv_9.In, xv_9.Sent, true, xv_9.Fired⟩ : GSlot)
 else f_backwashref15_Come_J4 t_0 b_2 w_0 w_1 done_4 i_5 a_4 rec_3 straggler_9 xv_9))
 else f_backwashref15_Come_J4 t_0 b_2 w_0 w_1 done_4 i_5 a_4 rec_3 straggler_9 xv_9)))
 else f_backwashref15_Come_J2 b_2 w_0 w_1 straggler_9 done_4 a_4)
def f_backwashref15_Come_J1 (c_0 : List GSlot) (kind_0 : Int) (port_0 : Int) (t_0 : GTime) (rv_0 : GRec) (nv_0 : Int) (b_2 : GSlot) : Option ((List GSlot) × Bool × Bool) :=
 guardO (0 ≤ port_0 ∧ port_0 < 2) (
 bindO (idx ([b_2.In.a0, b_2.In.a1] : List (List GItem)) port_0) (fun (xv_3 : List GItem) =>
 bindO (f_backwashref05_Add xv_3 rv_0 nv_0) (fun (v_2 : List GItem) =>
 guardO (0 ≤ port_0 ∧ port_0 < 2) (
 bindO (some (if Int.toNat port_0 = 0 then v_2 else b_2.In.a0)) (fun (w_0 : List GItem) =>
 bindO (some (if Int.toNat port_0 = 1 then v_2 else b_2.In.a1)) (fun (w_1 : List GItem) =>
 bindO (f_backwashref15_Empty (⟨b_2.Time, (⟨w_0, w_1⟩ : Arr2 (List GItem)), b_2.Sent, true, b_2.Fired⟩ : GSlot)) (fun (v_3 : Bool) =>
 loopK (f_backwashref15_Come_B3 c_0 kind_0 t_0 b_2 w_0 w_1) rounds ((b_2.Fired && (!b_2.Dirty)), v_3, 0, []))))))))
def f_backwashref15_Come_B5 (c_0 : List GSlot) (kind_0 : Int) (port_0 : Int) (t_0 : GTime) (rv_0 : GRec) (nv_0 : Int) (rec_5 : Int × GSlot → Option ((List GSlot) × Bool × Bool)) : Int × GSlot → Option ((List GSlot) × Bool × Bool) :=
 fun (i_7, b_10) =>
 (if (decide (i_7 < (List.length c_0 : Int))) = true then bindO (idx c_0 i_7) (fun (xv_12 : GSlot) =>
 (if ((xv_12.Time.D == t_0.D) && ((xv_12.Time.C.a0 == t_0.C.a0) && ((xv_12.Time.C.a1 == t_0.C.a1) && ((xv_12.Time.C.a2 == t_0.C.a2) && (xv_12.Time.C.a3 == t_0.C.a3))))) = true then rec_5 (IntKind.i64.wrap (i_7 + 1), xv_12)
 else rec_5 (IntKind.i64.wrap (i_7 + 1), b_10)))
 else f_backwashref15_Come_J1 c_0 kind_0 port_0 t_0 rv_0 nv_0 b_10)
def f_backwashref15_Come (c_0 : List GSlot) (kind_0 : Int) (port_0 : Int) (t_0 : GTime) (rv_0 : GRec) (nv_0 : Int) : Option ((List GSlot) × Bool × Bool) :=
 guardO ((List.length ([] : List GSlot) + List.length c_0) * 120 ≤ 140737488355328) (
 bindO (f_backwashref01_List t_0) (fun (v_0 : (List Int) × Bool) =>
 (if v_0.2 = true then bindO (f_backwashref15_Right c_0) (fun (v_1 : Bool) =>
 (if (((((!v_1) || ((!(port_0 == 0)) && (!(port_0 == 1)))) || (nv_0 == 0)) || (decide (2147483648 < nv_0))) || (decide (nv_0 < (-2147483648)))) = true then some ((([] : List GSlot) ++ c_0), false, false)
 else loopK (f_backwashref15_Come_B5 c_0 kind_0 port_0 t_0 rv_0 nv_0) rounds (0, (⟨t_0, (⟨([] : List GItem), ([] : List GItem)⟩ : Arr2 (List GItem)), ([] : List GItem), false, false⟩ : GSlot))))
 else some ((([] : List GSlot) ++ c_0), false, false))))
def f_cell_At (c_0 : List GSlot) (t_0 : GTime) : Option (GSlot × Bool) :=
 bindO (f_cell_Right c_0) (fun (v_0 : Bool) =>
 (if (!v_0) = true then some ((⟨(⟨0, (⟨0, 0, 0, 0⟩ : Arr4 Int)⟩ : GTime), (⟨([] : List GItem), ([] : List GItem)⟩ : Arr2 (List GItem)), ([] : List GItem), false, false⟩ : GSlot), false)
 else bindO (f_cell_find c_0 t_0) (fun (v_1 : Int × Bool) =>
 (if (!v_1.2) = true then some ((⟨(⟨0, (⟨0, 0, 0, 0⟩ : Arr4 Int)⟩ : GTime), (⟨([] : List GItem), ([] : List GItem)⟩ : Arr2 (List GItem)), ([] : List GItem), false, false⟩ : GSlot), false)
 else bindO (idx c_0 v_1.1) (fun (xv_0 : GSlot) =>
 some (xv_0, true))))))
theorem f_cell_At_ok (c_0 : List GSlot) (t_0 : GTime)  (r : GSlot × Bool) (h : f_cell_At c_0 t_0 = some r) : PureS Try.prog 48 [.sl 10 (enc c_0), .agg [.v (.int .i64 t_0.D), .v (.int .i64 t_0.C.a0), .v (.int .i64 t_0.C.a1), .v (.int .i64 t_0.C.a2), .v (.int .i64 t_0.C.a3)]] 0 (.tup [.agg [.v (.int .i64 r.1.Time.D), .v (.int .i64 r.1.Time.C.a0), .v (.int .i64 r.1.Time.C.a1), .v (.int .i64 r.1.Time.C.a2), .v (.int .i64 r.1.Time.C.a3), .sl 3 (enc r.1.In.a0), .sl 3 (enc r.1.In.a1), .sl 3 (enc r.1.Sent), .v (.bool r.1.Dirty), .v (.bool r.1.Fired)], .v (.bool r.2)]) := by
 unfold PureS
 refine Spec.of_vc Try.func48 rfl (by kernel_rfl) (by kernel_rfl) ?_
 rw [f_cell_At] at h
 refine sg fun QQ1 hQ1 => ?_
 simp only [go_sem]
 refine seqQ_normal hQ1 ?_
 refine sg fun QQ2 hQ2 => ?_
 refine sg fun QQ3 hQ3 => ?_
 obtain ⟨v_0, ev_0, h⟩ := bindO_some h
 simp only [go_sem]
 refine call0 (f_cell_Right_ok c_0 v_0 ev_0) (by rfl) (by rfl) ?_
 simp only [go_sem]
 refine seqQ_normal hQ3 ?_
 refine vc_cond_of (b := (!v_0)) (by (simp only [go_sem]; done)) (fun hb_0 => ?_) (fun hb_0 => ?_)
 ·
  replace h := if_t h hb_0
  simp only [bool_to_prop] at hb_0
  refine sg fun QQ4 hQ4 => ?_
  simp only [go_sem]
  refine seqQ_normal hQ4 ?_
  refine vc_ret_of ?_
  refine seqQ_ret hQ2 ?_
  simp only [go_sem]
  obtain rfl := Option.some.inj h
  refine retW_pure rfl ?_
  simp only [go_sem, Le]
 ·
  replace h := if_f h hb_0
  simp only [bool_to_prop] at hb_0
  refine vc_skip_of ?_
  refine seqQ_normal hQ2 ?_
  refine sg fun QQ5 hQ5 => ?_
  obtain ⟨v_1, ev_1, h⟩ := bindO_some h
  simp only [go_sem]
  refine call0 (f_cell_find_ok c_0 t_0 v_1 ev_1) (by rfl) (by rfl) ?_
  simp only [go_sem]
  refine seqQ_normal hQ5 ?_
  refine sg fun QQ6 hQ6 => ?_
  refine sg fun QQ7 hQ7 => ?_
  simp only [go_sem]
  refine seqQ_normal hQ7 ?_
  refine vc_cond_of (b := (!v_1.2)) (by (simp only [go_sem]; done)) (fun hb_1 => ?_) (fun hb_1 => ?_)
  ·
   replace h := if_t h hb_1
   simp only [bool_to_prop] at hb_1
   refine sg fun QQ8 hQ8 => ?_
   simp only [go_sem]
   refine seqQ_normal hQ8 ?_
   refine vc_ret_of ?_
   refine seqQ_ret hQ6 ?_
   simp only [go_sem]
   obtain rfl := Option.some.inj h
   refine retW_pure rfl ?_
   simp only [go_sem, Le]
  ·
   replace h := if_f h hb_1
   simp only [bool_to_prop] at hb_1
   refine vc_skip_of ?_
   refine seqQ_normal hQ6 ?_
   refine sg fun QQ9 hQ9 => ?_
   obtain ⟨xv_0, exv_0, h⟩ := bindO_some h
   obtain ⟨fxv_0a, fxv_0b, fxv_0c⟩ := idx_spec exv_0
   simp only [go_sem, fxv_0a, fxv_0b, fxv_0c]
   refine And.intro (by omega) ?_
   refine seqQ_normal hQ9 ?_
   refine vc_ret_of ?_
   simp only [go_sem]
   obtain rfl := Option.some.inj h
   refine retW_pure rfl ?_
   simp only [go_sem, Le]

def f_cell_past_B1 (c_0 : List GSlot) (t_0 : GTime) (rec_1 : Int × (List GItem) → Option (List GItem)) : Int × (List GItem) → Option (List GItem) :=
 fun (t10_1, a_1) =>
 (if (decide (t10_1 < (List.length c_0 : Int))) = true then bindO (idx c_0 t10_1) (fun (xv_2 : GSlot) =>
 bindO (f_ts_Le xv_2.Time t_0) (fun (v_4 : Bool) =>
 (if v_4 = true then bindO (f_bag_Plus a_1 xv_2.In.a0) (fun (v_5 : List GItem) =>
 rec_1 (IntKind.i64.wrap (t10_1 + 1), v_5))
 else rec_1 (IntKind.i64.wrap (t10_1 + 1), a_1))))
 else some a_1)
def f_cell_past (c_0 : List GSlot) (t_0 : GTime) : Option (List GItem) :=
 loopK (f_cell_past_B1 c_0 t_0) rounds (0, [])
theorem f_cell_past_det (c_0 : List GSlot) (t_0 : GTime)  (r : List GItem) (h : f_cell_past c_0 t_0 = some r) : DetS Try.prog 162 [.sl 10 (enc c_0), .agg [.v (.int .i64 t_0.D), .v (.int .i64 t_0.C.a0), .v (.int .i64 t_0.C.a1), .v (.int .i64 t_0.C.a2), .v (.int .i64 t_0.C.a3)]] [] 0 (.osl 0 3 (0) (List.length r)) [(0, .arr 3 (enc r))] 1 := by
 unfold DetS
 refine Spec.of_vc Try.func162 rfl (by kernel_rfl) (by kernel_rfl) ?_
 rw [f_cell_past] at h
 refine sg fun QQ1 hQ1 => ?_
 simp only [go_sem]
 refine seqQ_normal hQ1 ?_
 refine sg fun QQ2 hQ2 => ?_
 simp only [go_sem]
 refine seqQ_normal hQ2 ?_
 refine vc_join (by kernel_rfl) ?_
 refine seq_go_gen ?_
 intro QQ3 hQ3
 refine sg fun QQ4 hQ4 => ?_
 simp only [go_sem]
 refine seqQ_normal hQ4 ?_
 refine vc_block_gen ?_
 intro QQ5 hQ5
 refine vc_loop_of ?_
 refine loop_gen (ι := Nat × Int × (List GItem)) (fun ((_, t10_1, a_1) : Nat × Int × (List GItem)) => (⟨0, [(3, .ptr 0 0), (5, .osl 1 3 (0) (List.length a_1)), (8, .sl 10 (enc c_0)), (9, .v (.int .i64 (List.length c_0 : Int))), (10, .v (.int .i64 t10_1))], [(0, .box [.v (.int .i64 t_0.D), .v (.int .i64 t_0.C.a0), .v (.int .i64 t_0.C.a1), .v (.int .i64 t_0.C.a2), .v (.int .i64 t_0.C.a3)]), (1, .arr 3 (enc a_1))], 2, 25⟩ : St)) (fun ((n_, t10_1, a_1) : Nat × Int × (List GItem)) => loopK (f_cell_past_B1 c_0 t_0) n_ (t10_1, a_1) = some r) (fun p => p.1) (rounds, 0, []) [some 0, none] ?_ h ?_
 · simp only [go_sem, Le] <;> (repeat' apply And.intro) <;> ((try with_reducible refine TL_eq ?_); (simp [go_sem]; done))
 ·
  rintro ⟨n_1, t10_1, a_1⟩ h QQ6 hQ6
  dsimp only at h
  replace h := loopK_some h
  obtain ⟨m_1, rfl, h⟩ := h
  rw [f_cell_past_B1] at h
  refine sg fun QQ7 hQ7 => ?_
  simp only [go_sem]
  refine seqQ_normal hQ7 ?_
  refine sg fun QQ8 hQ8 => ?_
  refine vc_cond_of (b := (decide (t10_1 < (List.length c_0 : Int)))) (by (simp only [go_sem]; done)) (fun hb_4 => ?_) (fun hb_4 => ?_)
  ·
   replace h := if_t h hb_4
   simp only [bool_to_prop] at hb_4
   refine vc_skip_of ?_
   refine seqQ_normal hQ8 ?_
   refine vc_join (by kernel_rfl) ?_
   refine seq_go_gen ?_
   intro QQ9 hQ9
   refine vc_block_gen ?_
   intro QQ10 hQ10
   refine sg fun QQ11 hQ11 => ?_
   obtain ⟨xv_2, exv_2, h⟩ := bindO_some h
   obtain ⟨fxv_2a, fxv_2b, fxv_2c⟩ := idx_spec exv_2
   simp only [go_sem, fxv_2a, fxv_2b, fxv_2c]
   refine And.intro (by omega) ?_
   refine seqQ_normal hQ11 ?_
   refine sg fun QQ12 hQ12 => ?_
   obtain ⟨v_4, ev_4, h⟩ := bindO_some h
   simp only [go_sem]
   refine call0 (f_ts_Le_ok xv_2.Time t_0 v_4 ev_4) (by rfl) (by rfl) ?_
   simp only [go_sem]
   refine seqQ_normal hQ12 ?_
   refine vc_cond_of (b := v_4) (by (simp only [go_sem]; done)) (fun hb_5 => ?_) (fun hb_5 => ?_)
   ·
    replace h := if_t h hb_5
    obtain ⟨v_5, ev_5, h⟩ := bindO_some h
    simp only [go_sem]
    refine callF_weak (s' := (⟨0, [(3, .ptr 0 0), (5, .sl 3 (enc a_1)), (7, .ptr 1 0), (8, .sl 10 (enc c_0)), (9, .v (.int .i64 (List.length c_0 : Int))), (10, .v (.int .i64 t10_1)), (11, .v (.bool (decide (t10_1 < (List.length c_0 : Int))))), (12, .el 10 (enc c_0) (Int.toNat t10_1) 0), (13, .agg [.v (.int .i64 xv_2.Time.D), .v (.int .i64 xv_2.Time.C.a0), .v (.int .i64 xv_2.Time.C.a1), .v (.int .i64 xv_2.Time.C.a2), .v (.int .i64 xv_2.Time.C.a3), .sl 3 (enc xv_2.In.a0), .sl 3 (enc xv_2.In.a1), .sl 3 (enc xv_2.Sent), .v (.bool xv_2.Dirty), .v (.bool xv_2.Fired)]), (14, .ptr 1 0), (15, .agg [.v (.int .i64 xv_2.Time.D), .v (.int .i64 xv_2.Time.C.a0), .v (.int .i64 xv_2.Time.C.a1), .v (.int .i64 xv_2.Time.C.a2), .v (.int .i64 xv_2.Time.C.a3)]), (16, .agg [.v (.int .i64 t_0.D), .v (.int .i64 t_0.C.a0), .v (.int .i64 t_0.C.a1), .v (.int .i64 t_0.C.a2), .v (.int .i64 t_0.C.a3)]), (17, .v (.bool v_4)), (18, .sl 3 (enc a_1)), (19, .ptr 1 5), (20, .ptr 1 5), (21, .sl 3 (enc xv_2.In.a0))], [(0, .box [.v (.int .i64 t_0.D), .v (.int .i64 t_0.C.a0), .v (.int .i64 t_0.C.a1), .v (.int .i64 t_0.C.a2), .v (.int .i64 t_0.C.a3)]), (1, .box [.v (.int .i64 xv_2.Time.D), .v (.int .i64 xv_2.Time.C.a0), .v (.int .i64 xv_2.Time.C.a1), .v (.int .i64 xv_2.Time.C.a2), .v (.int .i64 xv_2.Time.C.a3), .sl 3 (enc xv_2.In.a0), .sl 3 (enc xv_2.In.a1), .sl 3 (enc xv_2.Sent), .v (.bool xv_2.Dirty), .v (.bool xv_2.Fired)])], 2, 25⟩ : St)) (l := [some 0, some 2]) (args' := [.sl 3 (enc a_1), .sl 3 (enc xv_2.In.a0)]) ?_ ?_ ?_
    · simp only [go_sem, Le] <;> (repeat' apply And.intro) <;> first | ((try with_reducible refine TL_eq ?_); omega) | ((try with_reducible refine TL_eq ?_); (simp [go_sem]; done)) | ((try with_reducible refine TL_eq ?_); (simp [enc_len, enc]; omega))
    · simp only [go_sem, Le] <;> (repeat' apply And.intro) <;> ((try with_reducible refine TL_eq ?_); (simp [go_sem]; done))
    refine callD [] (f_bag_Plus_det a_1 xv_2.In.a0 v_5 ev_5) (by simp) rfl trivial rfl rfl rfl rfl ?_
    simp only [go_sem]
    refine blockQ_normal hQ10 ?_
    refine seqQ_normal hQ9 ?_
    simp only [go_sem]
    refine thenQ_normal hQ6 ?_
    refine ⟨(m_1, IntKind.i64.wrap (t10_1 + 1), v_5), [some 0, some 2], ?_, h, Nat.lt_succ_self _⟩
    simp only [go_sem, Le] <;> (repeat' apply And.intro) <;> first | ((try with_reducible refine TL_eq ?_); omega) | ((try with_reducible refine TL_eq ?_); (simp [go_sem]; done))
   ·
    replace h := if_f h hb_5
    refine vc_skip_of ?_
    refine blockQ_normal hQ10 ?_
    refine seqQ_normal hQ9 ?_
    simp only [go_sem]
    refine thenQ_normal hQ6 ?_
    refine ⟨(m_1, IntKind.i64.wrap (t10_1 + 1), a_1), [some 0, some 1], ?_, h, Nat.lt_succ_self _⟩
    simp only [go_sem, Le] <;> (repeat' apply And.intro) <;> first | ((try with_reducible refine TL_eq ?_); omega) | ((try with_reducible refine TL_eq ?_); (simp [go_sem]; done))
  ·
   replace h := if_f h hb_4
   simp only [bool_to_prop] at hb_4
   refine vc_exit_of ?_
   refine seqQ_exit hQ8 ?_
   refine thenQ_exit hQ6 ?_
   refine blockQ_exit hQ5 ?_
   refine seqQ_normal hQ3 ?_
   refine sg fun QQ13 hQ13 => ?_
   simp only [go_sem]
   refine seqQ_normal hQ13 ?_
   refine vc_ret_of ?_
   simp only [go_sem]
   obtain rfl := Option.some.inj h
   refine retW_det [some 1] ?_
   simp only [go_sem, Le]
def f_bag_Minus (a_0 : List GItem) (b_0 : List GItem) : Option (List GItem) :=
 bindO (f_bag_joined a_0 b_0 (-1)) (fun (v_0 : List GItem) =>
 some v_0)
theorem f_bag_Minus_det (a_0 : List GItem) (b_0 : List GItem)  (r : List GItem) (h : f_bag_Minus a_0 b_0 = some r) : DetS Try.prog 105 [.sl 3 (enc a_0), .sl 3 (enc b_0)] [] 0 (.osl 0 3 (0) (List.length r)) [(0, .arr 3 (enc r))] 1 := by
 unfold DetS
 refine Spec.of_vc Try.func105 rfl (by kernel_rfl) (by kernel_rfl) ?_
 rw [f_bag_Minus] at h
 refine sg fun QQ1 hQ1 => ?_
 simp only [go_sem]
 refine seqQ_normal hQ1 ?_
 refine sg fun QQ2 hQ2 => ?_
 obtain ⟨v_0, ev_0, h⟩ := bindO_some h
 simp only [go_sem]
 refine callD [] (f_bag_joined_det a_0 b_0 (-1) v_0 ev_0) (by simp) rfl trivial rfl rfl rfl rfl ?_
 simp only [go_sem]
 refine seqQ_normal hQ2 ?_
 refine vc_ret_of ?_
 simp only [go_sem]
 obtain rfl := Option.some.inj h
 refine retW_det [some 0] ?_
 simp only [go_sem, Le]
theorem f_bag_Minus_ok (a_0 : List GItem) (b_0 : List GItem)  (r : List GItem) (h : f_bag_Minus a_0 b_0 = some r) : PureS Try.prog 105 [.sl 3 (enc a_0), .sl 3 (enc b_0)] 0 (.sl 3 (enc r)) := by
 refine (f_bag_Minus_det a_0 b_0  r h).pure ?_
 simp only [go_sem, Le] <;> (repeat' apply And.intro) <;> ((try with_reducible refine TL_eq ?_); (simp [go_sem]; done))

def f_cell_change (old_0 : List GItem) (now_0 : List GItem) (lazy_0 : Bool) : Option ((List GItem) × (List GItem)) :=
 (if lazy_0 = true then bindO (f_bag_Minus old_0 now_0) (fun (v_0 : List GItem) =>
 bindO (f_bag_There v_0) (fun (v_1 : List GItem) =>
 bindO (f_bag_Minus now_0 old_0) (fun (v_2 : List GItem) =>
 bindO (f_bag_There v_2) (fun (v_3 : List GItem) =>
 some (v_1, v_3)))))
 else bindO (f_bag_Same old_0 now_0) (fun (v_4 : Bool) =>
 (if v_4 = true then some (([] : List GItem), ([] : List GItem))
 else bindO (f_bag_There old_0) (fun (v_5 : List GItem) =>
 bindO (f_bag_There now_0) (fun (v_6 : List GItem) =>
 some (v_5, v_6))))))
theorem f_cell_change_det (old_0 : List GItem) (now_0 : List GItem) (lazy_0 : Bool)  (r : (List GItem) × (List GItem)) (h : f_cell_change old_0 now_0 lazy_0 = some r) : DetS Try.prog 163 [.sl 3 (enc old_0), .sl 3 (enc now_0), .v (.bool lazy_0)] [] 0 (.tup [.osl 0 3 (0) (List.length r.1), .osl 1 3 (0) (List.length r.2)]) [(0, .arr 3 (enc r.1)), (1, .arr 3 (enc r.2))] 2 := by
 unfold DetS
 refine Spec.of_vc Try.func163 rfl (by kernel_rfl) (by kernel_rfl) ?_
 rw [f_cell_change] at h
 refine sg fun QQ1 hQ1 => ?_
 simp only [go_sem]
 refine seqQ_normal hQ1 ?_
 refine sg fun QQ2 hQ2 => ?_
 refine vc_block_gen ?_
 intro QQ3 hQ3
 refine sg fun QQ4 hQ4 => ?_
 simp only [go_sem]
 refine seqQ_normal hQ4 ?_
 refine vc_cond_of (b := lazy_0) (by (simp only [go_sem]; done)) (fun hb_0 => ?_) (fun hb_0 => ?_)
 ·
  replace h := if_t h hb_0
  refine sg fun QQ5 hQ5 => ?_
  obtain ⟨v_0, ev_0, h⟩ := bindO_some h
  simp only [go_sem]
  refine callD [] (f_bag_Minus_det old_0 now_0 v_0 ev_0) (by simp) rfl trivial rfl rfl rfl rfl ?_
  obtain ⟨v_1, ev_1, h⟩ := bindO_some h
  simp only [go_sem]
  refine callF_weak (s' := (⟨0, [(0, .sl 3 (enc old_0)), (1, .sl 3 (enc now_0)), (2, .v (.bool lazy_0)), (6, .v (.slice none 0 0)), (7, .v (.slice none 0 0)), (8, .v (.bool lazy_0)), (9, .v (.bool lazy_0)), (10, .sl 3 (enc old_0)), (11, .sl 3 (enc now_0)), (12, .sl 3 (enc v_0))], [], 0, 26⟩ : St)) (l := []) (args' := [.sl 3 (enc v_0)]) ?_ ?_ ?_
  · simp only [go_sem, Le] <;> (repeat' apply And.intro) <;> ((try with_reducible refine TL_eq ?_); (simp [go_sem]; done))
  · simp only [go_sem, Le] <;> (repeat' apply And.intro) <;> ((try with_reducible refine TL_eq ?_); (simp [go_sem]; done))
  refine callD [] (f_bag_There_det v_0 v_1 ev_1) (by simp) rfl trivial rfl rfl rfl rfl ?_
  obtain ⟨v_2, ev_2, h⟩ := bindO_some h
  simp only [go_sem]
  refine callD [] (f_bag_Minus_det now_0 old_0 v_2 ev_2) (by simp) rfl trivial rfl rfl rfl rfl ?_
  obtain ⟨v_3, ev_3, h⟩ := bindO_some h
  simp only [go_sem]
  refine callF_weak (s' := (⟨0, [(0, .sl 3 (enc old_0)), (1, .sl 3 (enc now_0)), (2, .v (.bool lazy_0)), (6, .v (.slice none 0 0)), (7, .v (.slice none 0 0)), (8, .v (.bool lazy_0)), (9, .v (.bool lazy_0)), (10, .sl 3 (enc old_0)), (11, .sl 3 (enc now_0)), (12, .sl 3 (enc v_0)), (13, .osl 0 3 (0) (List.length v_1)), (14, .sl 3 (enc now_0)), (15, .sl 3 (enc old_0)), (16, .sl 3 (enc v_2))], [(0, .arr 3 (enc v_1))], 1, 26⟩ : St)) (l := [some 0]) (args' := [.sl 3 (enc v_2)]) ?_ ?_ ?_
  · simp only [go_sem, Le] <;> (repeat' apply And.intro) <;> ((try with_reducible refine TL_eq ?_); (simp [go_sem]; done))
  · simp only [go_sem, Le] <;> (repeat' apply And.intro) <;> ((try with_reducible refine TL_eq ?_); (simp [go_sem]; done))
  refine callD [] (f_bag_There_det v_2 v_3 ev_3) (by simp) rfl trivial rfl rfl rfl rfl ?_
  simp only [go_sem]
  refine seqQ_normal hQ5 ?_
  refine vc_ret_of ?_
  refine blockQ_ret hQ3 ?_
  refine seqQ_ret hQ2 ?_
  simp only [go_sem]
  obtain rfl := Option.some.inj h
  refine retW_det [some 0, some 1] ?_
  simp only [go_sem, Le] <;> (repeat' apply And.intro) <;> first | ((try with_reducible refine TL_eq ?_); omega) | ((try with_reducible refine TL_eq ?_); (simp [go_sem]; done))
 ·
  replace h := if_f h hb_0
  refine sg fun QQ6 hQ6 => ?_
  obtain ⟨v_4, ev_4, h⟩ := bindO_some h
  simp only [go_sem]
  refine call0 (f_bag_Same_ok old_0 now_0 v_4 ev_4) (by rfl) (by rfl) ?_
  simp only [go_sem]
  refine seqQ_normal hQ6 ?_
  refine vc_cond_of (b := v_4) (by (simp only [go_sem]; done)) (fun hb_1 => ?_) (fun hb_1 => ?_)
  ·
   replace h := if_t h hb_1
   refine sg fun QQ7 hQ7 => ?_
   simp only [go_sem]
   refine seqQ_normal hQ7 ?_
   refine vc_ret_of ?_
   refine blockQ_ret hQ3 ?_
   refine seqQ_ret hQ2 ?_
   simp only [go_sem]
   obtain rfl := Option.some.inj h
   refine retW_det [none, none] ?_
   simp only [go_sem, Le] <;> (repeat' apply And.intro) <;> ((try with_reducible refine TL_eq ?_); (simp [go_sem]; done))
  ·
   replace h := if_f h hb_1
   refine vc_skip_of ?_
   refine blockQ_normal hQ3 ?_
   refine seqQ_normal hQ2 ?_
   refine sg fun QQ8 hQ8 => ?_
   obtain ⟨v_5, ev_5, h⟩ := bindO_some h
   simp only [go_sem]
   refine callD [] (f_bag_There_det old_0 v_5 ev_5) (by simp) rfl trivial rfl rfl rfl rfl ?_
   obtain ⟨v_6, ev_6, h⟩ := bindO_some h
   simp only [go_sem]
   refine callD [] (f_bag_There_det now_0 v_6 ev_6) (by simp) rfl trivial rfl rfl rfl rfl ?_
   simp only [go_sem]
   refine seqQ_normal hQ8 ?_
   refine vc_ret_of ?_
   simp only [go_sem]
   obtain rfl := Option.some.inj h
   refine retW_det [some 0, some 1] ?_
   simp only [go_sem, Le] <;> (repeat' apply And.intro) <;> first | ((try with_reducible refine TL_eq ?_); omega) | ((try with_reducible refine TL_eq ?_); (simp [go_sem]; done))
def f_cell_Make_J1 (xv_0 : GNode) (t_0 : GTime) (lazy_0 : Bool) (v_0 : List GSlot) (v_1 : GSlot × Bool) (a_0 : List (List GItem)) : Option ((List GSlot) × (List GItem) × (List GItem) × Bool) :=
 bindO (f_ops_Apply xv_0 a_0) (fun (v_3 : (List GItem) × Bool) =>
 (if (!v_3.2) = true then some (v_0, ([] : List GItem), ([] : List GItem), false)
 else bindO (f_cell_change v_1.1.Sent v_3.1 lazy_0) (fun (v_4 : (List GItem) × (List GItem)) =>
 bindO (f_cell_find v_0 t_0) (fun (v_5 : Int × Bool) =>
 bindO (idx v_0 v_5.1) (fun (xv_2 : GSlot) =>
 bindO (idx (List.set v_0 (Int.toNat v_5.1) (⟨xv_2.Time, xv_2.In, v_3.1, xv_2.Dirty, xv_2.Fired⟩ : GSlot)) v_5.1) (fun (xv_3 : GSlot) =>
 bindO (idx (List.set (List.set v_0 (Int.toNat v_5.1) (⟨xv_2.Time, xv_2.In, v_3.1, xv_2.Dirty, xv_2.Fired⟩ : GSlot)) (Int.toNat v_5.1) (⟨xv_3.Time, xv_3.In, xv_3.Sent, false, xv_3.Fired⟩ : GSlot)) v_5.1) (fun (xv_4 : GSlot) =>
 bindO (f_cell_settled_s0_0 (List.set (List.set (List.set v_0 (Int.toNat v_5.1) (⟨xv_2.Time, xv_2.In, v_3.1, xv_2.Dirty, xv_2.Fired⟩ : GSlot)) (Int.toNat v_5.1) (⟨xv_3.Time, xv_3.In, xv_3.Sent, false, xv_3.Fired⟩ : GSlot)) (Int.toNat v_5.1) (⟨xv_4.Time, xv_4.In, xv_4.Sent, xv_4.Dirty, true⟩ : GSlot)) v_5.1) (fun (v_6 : List GSlot) =>
 some (v_6, v_4.1, v_4.2, true)))))))))
def f_cell_Make (c_0 : List GSlot) (xv_0 : GNode) (t_0 : GTime) (lazy_0 : Bool) : Option ((List GSlot) × (List GItem) × (List GItem) × Bool) :=
 bindO (f_slices_Clone_Slot c_0) (fun (v_0 : List GSlot) =>
 bindO (f_cell_At c_0 t_0) (fun (v_1 : GSlot × Bool) =>
 (if ((!v_1.2) || (!v_1.1.Dirty)) = true then some (v_0, ([] : List GItem), ([] : List GItem), false)
 else (if (xv_0.Kind == 14) = true then bindO (f_cell_past c_0 t_0) (fun (v_7 : List GItem) =>
 bindO (idx ([v_1.1.In.a0, v_1.1.In.a1] : List (List GItem)) 1) (fun (xv_5 : List GItem) =>
 f_cell_Make_J1 xv_0 t_0 lazy_0 v_0 v_1 (List.set ([v_1.1.In.a0, v_1.1.In.a1] : List (List GItem)) (Int.toNat 1) v_7)))
 else f_cell_Make_J1 xv_0 t_0 lazy_0 v_0 v_1 ([v_1.1.In.a0, v_1.1.In.a1] : List (List GItem))))))
theorem f_cell_Make_det (c_0 : List GSlot) (xv_0 : GNode) (t_0 : GTime) (lazy_0 : Bool)  (r : (List GSlot) × (List GItem) × (List GItem) × Bool) (h : f_cell_Make c_0 xv_0 t_0 lazy_0 = some r) : DetS Try.prog 89 [.sl 10 (enc c_0), .agg [.v (.int .i64 xv_0.Kind), .v (.int .i64 xv_0.Scope), .v (.int .i64 xv_0.Arg), .sl 2 (enc xv_0.Prog)], .agg [.v (.int .i64 t_0.D), .v (.int .i64 t_0.C.a0), .v (.int .i64 t_0.C.a1), .v (.int .i64 t_0.C.a2), .v (.int .i64 t_0.C.a3)], .v (.bool lazy_0)] [] 0 (.tup [.osl 0 10 (0) (List.length r.1), .osl 1 3 (0) (List.length r.2.1), .osl 2 3 (0) (List.length r.2.2.1), .v (.bool r.2.2.2)]) [(0, .arr 10 (enc r.1)), (1, .arr 3 (enc r.2.1)), (2, .arr 3 (enc r.2.2.1))] 3 := by
 unfold DetS
 refine Spec.of_vc Try.func89 rfl (by kernel_rfl) (by kernel_rfl) ?_
 rw [f_cell_Make] at h
 refine sg fun QQ1 hQ1 => ?_
 simp only [go_sem]
 refine seqQ_normal hQ1 ?_
 refine sg fun QQ2 hQ2 => ?_
 obtain ⟨v_0, ev_0, h⟩ := bindO_some h
 simp only [go_sem]
 refine callD [] (f_slices_Clone_Slot_det c_0 v_0 ev_0) (by simp) rfl trivial rfl rfl rfl rfl ?_
 simp only [go_sem]
 refine seqQ_normal hQ2 ?_
 refine sg fun QQ3 hQ3 => ?_
 obtain ⟨v_1, ev_1, h⟩ := bindO_some h
 simp only [go_sem]
 refine call0 (f_cell_At_ok c_0 t_0 v_1 ev_1) (by rfl) (by rfl) ?_
 simp only [go_sem]
 refine seqQ_normal hQ3 ?_
 refine sg fun QQ4 hQ4 => ?_
 refine sg fun QQ5 hQ5 => ?_
 simp only [go_sem]
 refine seqQ_normal hQ5 ?_
 refine vc_cond_of (b := ((!v_1.2) || (!v_1.1.Dirty))) (by (simp only [go_sem]; done)) (fun hb_0 => ?_) (fun hb_0 => ?_)
 ·
  replace h := if_t h hb_0
  simp only [bool_to_prop] at hb_0
  refine sg fun QQ6 hQ6 => ?_
  simp only [go_sem]
  refine seqQ_normal hQ6 ?_
  refine vc_ret_of ?_
  refine seqQ_ret hQ4 ?_
  simp only [go_sem]
  obtain rfl := Option.some.inj h
  refine retW_det [some 2, none, none] ?_
  simp only [go_sem, Le] <;> (repeat' apply And.intro) <;> ((try with_reducible refine TL_eq ?_); (simp [go_sem]; done))
 ·
  replace h := if_f h hb_0
  simp only [bool_to_prop] at hb_0
  refine vc_skip_of ?_
  refine seqQ_normal hQ4 ?_
  refine sg fun QQ7 hQ7 => ?_
  have rf_0 : [[.sl 3 (enc v_1.1.In.a0)], [.sl 3 (enc v_1.1.In.a1)]] = enc ([v_1.1.In.a0, v_1.1.In.a1] : List (List GItem)) := by rfl
  simp only [go_sem]
  simp only [rf_0]
  refine seqQ_normal hQ7 ?_
  refine vc_join (by kernel_rfl) ?_
  refine seq_cut_gen (ι := (List (List GItem))) (fun (a_0 : (List (List GItem))) => (⟨0, [(3, .v (.bool lazy_0)), (5, .ptr 0 0), (6, .ptr 1 0), (12, .osl 2 10 (0) (List.length v_0)), (13, .ptr 3 0), (15, .osl 4 1 (0) (List.length a_0))], [(0, .box [.v (.int .i64 xv_0.Kind), .v (.int .i64 xv_0.Scope), .v (.int .i64 xv_0.Arg), .sl 2 (enc xv_0.Prog)]), (1, .box [.v (.int .i64 t_0.D), .v (.int .i64 t_0.C.a0), .v (.int .i64 t_0.C.a1), .v (.int .i64 t_0.C.a2), .v (.int .i64 t_0.C.a3)]), (2, .arr 10 (enc v_0)), (3, .box [.v (.int .i64 v_1.1.Time.D), .v (.int .i64 v_1.1.Time.C.a0), .v (.int .i64 v_1.1.Time.C.a1), .v (.int .i64 v_1.1.Time.C.a2), .v (.int .i64 v_1.1.Time.C.a3), .sl 3 (enc v_1.1.In.a0), .sl 3 (enc v_1.1.In.a1), .sl 3 (enc v_1.1.Sent), .v (.bool v_1.1.Dirty), .v (.bool v_1.1.Fired)]), (4, .arr 1 (enc a_0))], 5, 93⟩ : St)) (fun (a_0 : (List (List GItem))) => f_cell_Make_J1 xv_0 t_0 lazy_0 v_0 v_1 a_0 = some r) ?_ ?_
  ·
   intro QQ16 hQ16
   refine sg fun QQ17 hQ17 => ?_
   simp only [go_sem]
   refine seqQ_normal hQ17 ?_
   refine vc_cond_of (b := (xv_0.Kind == 14)) (by (simp only [go_sem]; done)) (fun hb_3 => ?_) (fun hb_3 => ?_)
   ·
    replace h := if_t h hb_3
    simp only [bool_to_prop] at hb_3
    obtain ⟨v_7, ev_7, h⟩ := bindO_some h
    simp only [go_sem]
    refine callD [] (f_cell_past_det c_0 t_0 v_7 ev_7) (by simp) rfl trivial rfl rfl rfl rfl ?_
    obtain ⟨xv_5, exv_5, h⟩ := bindO_some h
    obtain ⟨fxv_5a, fxv_5b, fxv_5c⟩ := idx_spec exv_5
    simp only [Int.toNat_natCast, Int.reduceToNat] at fxv_5c
    have rf_5 : (enc ([v_1.1.In.a0, v_1.1.In.a1] : List (List GItem))).set (Int.toNat 1) [.sl 3 (enc v_7)] = enc (List.set ([v_1.1.In.a0, v_1.1.In.a1] : List (List GItem)) (Int.toNat 1) v_7) := by exact enc_set _ _ _
    simp only [Int.toNat_natCast, Int.reduceToNat] at rf_5
    simp only [go_sem, fxv_5a, fxv_5b, fxv_5c, rf_5]
    refine thenQ_normal hQ16 ?_
    refine ⟨(List.set ([v_1.1.In.a0, v_1.1.In.a1] : List (List GItem)) (Int.toNat 1) v_7), [some 0, some 1, some 2, some 3, some 4], ?_, h⟩
    simp only [go_sem, Le] <;> (repeat' apply And.intro) <;> first | ((try with_reducible refine TL_eq ?_); omega) | ((try with_reducible refine TL_eq ?_); (simp [go_sem]; done)) | ((try with_reducible refine TL_eq ?_); (simp [enc]; rfl))
   ·
    replace h := if_f h hb_3
    simp only [bool_to_prop] at hb_3
    refine vc_skip_of ?_
    refine thenQ_normal hQ16 ?_
    refine ⟨([v_1.1.In.a0, v_1.1.In.a1] : List (List GItem)), [some 0, some 1, some 2, some 3, some 4], ?_, h⟩
    simp only [go_sem, Le] <;> (repeat' apply And.intro) <;> first | ((try with_reducible refine TL_eq ?_); omega) | ((try with_reducible refine TL_eq ?_); (simp [go_sem]; done))
  ·
   rintro a_0 h
   try dsimp only at h
   rw [f_cell_Make_J1] at h
   refine sg fun QQ8 hQ8 => ?_
   obtain ⟨v_3, ev_3, h⟩ := bindO_some h
   simp only [go_sem]
   refine callF_weak (s' := (⟨0, [(3, .v (.bool lazy_0)), (5, .ptr 0 0), (6, .ptr 1 0), (12, .osl 2 10 (0) (List.length v_0)), (13, .ptr 3 0), (15, .sl 1 (enc a_0)), (53, .agg [.v (.int .i64 xv_0.Kind), .v (.int .i64 xv_0.Scope), .v (.int .i64 xv_0.Arg), .sl 2 (enc xv_0.Prog)]), (54, .sl 1 (enc a_0))], [(0, .box [.v (.int .i64 xv_0.Kind), .v (.int .i64 xv_0.Scope), .v (.int .i64 xv_0.Arg), .sl 2 (enc xv_0.Prog)]), (1, .box [.v (.int .i64 t_0.D), .v (.int .i64 t_0.C.a0), .v (.int .i64 t_0.C.a1), .v (.int .i64 t_0.C.a2), .v (.int .i64 t_0.C.a3)]), (2, .arr 10 (enc v_0)), (3, .box [.v (.int .i64 v_1.1.Time.D), .v (.int .i64 v_1.1.Time.C.a0), .v (.int .i64 v_1.1.Time.C.a1), .v (.int .i64 v_1.1.Time.C.a2), .v (.int .i64 v_1.1.Time.C.a3), .sl 3 (enc v_1.1.In.a0), .sl 3 (enc v_1.1.In.a1), .sl 3 (enc v_1.1.Sent), .v (.bool v_1.1.Dirty), .v (.bool v_1.1.Fired)])], 4, 93⟩ : St)) (l := [some 0, some 1, some 2, some 3]) (args' := [.agg [.v (.int .i64 xv_0.Kind), .v (.int .i64 xv_0.Scope), .v (.int .i64 xv_0.Arg), .sl 2 (enc xv_0.Prog)], .sl 1 (enc a_0)]) ?_ ?_ ?_
   · simp only [go_sem, Le] <;> (repeat' apply And.intro) <;> first | ((try with_reducible refine TL_eq ?_); omega) | ((try with_reducible refine TL_eq ?_); (simp [go_sem]; done))
   · simp only [go_sem, Le] <;> (repeat' apply And.intro) <;> ((try with_reducible refine TL_eq ?_); (simp [go_sem]; done))
   refine callD [] (f_ops_Apply_det xv_0 a_0 v_3 ev_3) (by simp) rfl trivial rfl rfl rfl rfl ?_
   simp only [go_sem]
   refine seqQ_normal hQ8 ?_
   refine sg fun QQ9 hQ9 => ?_
   refine sg fun QQ10 hQ10 => ?_
   simp only [go_sem]
   refine seqQ_normal hQ10 ?_
   refine vc_cond_of (b := (!v_3.2)) (by (simp only [go_sem]; done)) (fun hb_2 => ?_) (fun hb_2 => ?_)
   ·
    replace h := if_t h hb_2
    simp only [bool_to_prop] at hb_2
    refine sg fun QQ11 hQ11 => ?_
    simp only [go_sem]
    refine seqQ_normal hQ11 ?_
    refine vc_ret_of ?_
    refine seqQ_ret hQ9 ?_
    simp only [go_sem]
    obtain rfl := Option.some.inj h
    refine retW_det [some 2, none, none] ?_
    simp only [go_sem, Le] <;> (repeat' apply And.intro) <;> ((try with_reducible refine TL_eq ?_); (simp [go_sem]; done))
   ·
    replace h := if_f h hb_2
    simp only [bool_to_prop] at hb_2
    refine vc_skip_of ?_
    refine seqQ_normal hQ9 ?_
    refine sg fun QQ12 hQ12 => ?_
    obtain ⟨v_4, ev_4, h⟩ := bindO_some h
    simp only [go_sem]
    refine callF_weak (s' := (⟨0, [(3, .v (.bool lazy_0)), (5, .ptr 0 0), (6, .ptr 1 0), (12, .osl 2 10 (0) (List.length v_0)), (13, .ptr 3 0), (14, .v (.bool v_3.2)), (15, .sl 1 (enc a_0)), (16, .sl 3 (enc v_3.1)), (52, .tup [.sl 3 (enc v_3.1), .v (.bool v_3.2)]), (53, .agg [.v (.int .i64 xv_0.Kind), .v (.int .i64 xv_0.Scope), .v (.int .i64 xv_0.Arg), .sl 2 (enc xv_0.Prog)]), (54, .sl 1 (enc a_0)), (55, .tup [.sl 3 (enc v_3.1), .v (.bool v_3.2)]), (56, .sl 3 (enc v_3.1)), (57, .v (.bool v_3.2)), (58, .v (.bool v_3.2)), (59, .v (.bool (!v_3.2))), (62, .ptr 3 7), (63, .sl 3 (enc v_1.1.Sent)), (64, .sl 3 (enc v_3.1)), (65, .v (.bool lazy_0))], [(0, .box [.v (.int .i64 xv_0.Kind), .v (.int .i64 xv_0.Scope), .v (.int .i64 xv_0.Arg), .sl 2 (enc xv_0.Prog)]), (1, .box [.v (.int .i64 t_0.D), .v (.int .i64 t_0.C.a0), .v (.int .i64 t_0.C.a1), .v (.int .i64 t_0.C.a2), .v (.int .i64 t_0.C.a3)]), (2, .arr 10 (enc v_0)), (3, .box [.v (.int .i64 v_1.1.Time.D), .v (.int .i64 v_1.1.Time.C.a0), .v (.int .i64 v_1.1.Time.C.a1), .v (.int .i64 v_1.1.Time.C.a2), .v (.int .i64 v_1.1.Time.C.a3), .sl 3 (enc v_1.1.In.a0), .sl 3 (enc v_1.1.In.a1), .sl 3 (enc v_1.1.Sent), .v (.bool v_1.1.Dirty), .v (.bool v_1.1.Fired)])], 4, 93⟩ : St)) (l := [some 0, some 1, some 2, some 3]) (args' := [.sl 3 (enc v_1.1.Sent), .sl 3 (enc v_3.1), .v (.bool lazy_0)]) ?_ ?_ ?_
    · simp only [go_sem, Le] <;> (repeat' apply And.intro) <;> first | ((try with_reducible refine TL_eq ?_); omega) | ((try with_reducible refine TL_eq ?_); (simp [go_sem]; done))
    · simp only [go_sem, Le] <;> (repeat' apply And.intro) <;> ((try with_reducible refine TL_eq ?_); (simp [go_sem]; done))
    refine callD [] (f_cell_change_det v_1.1.Sent v_3.1 lazy_0 v_4 ev_4) (by simp) rfl trivial rfl rfl rfl rfl ?_
    simp only [go_sem]
    refine seqQ_normal hQ12 ?_
    refine sg fun QQ13 hQ13 => ?_
    obtain ⟨v_5, ev_5, h⟩ := bindO_some h
    simp only [go_sem]
    refine callB (s' := (⟨0, [(3, .v (.bool lazy_0)), (5, .ptr 0 0), (6, .ptr 1 0), (12, .sl 10 (enc v_0)), (13, .ptr 2 0), (14, .v (.bool v_3.2)), (15, .sl 1 (enc a_0)), (16, .sl 3 (enc v_3.1)), (17, .osl 3 3 (0) (List.length v_4.1)), (18, .osl 4 3 (0) (List.length v_4.2)), (52, .tup [.sl 3 (enc v_3.1), .v (.bool v_3.2)]), (53, .agg [.v (.int .i64 xv_0.Kind), .v (.int .i64 xv_0.Scope), .v (.int .i64 xv_0.Arg), .sl 2 (enc xv_0.Prog)]), (54, .sl 1 (enc a_0)), (55, .tup [.sl 3 (enc v_3.1), .v (.bool v_3.2)]), (56, .sl 3 (enc v_3.1)), (57, .v (.bool v_3.2)), (58, .v (.bool v_3.2)), (59, .v (.bool (!v_3.2))), (61, .tup [.osl 3 3 (0) (List.length v_4.1), .osl 4 3 (0) (List.length v_4.2)]), (62, .ptr 2 7), (63, .sl 3 (enc v_1.1.Sent)), (64, .sl 3 (enc v_3.1)), (65, .v (.bool lazy_0)), (66, .tup [.osl 3 3 (0) (List.length v_4.1), .osl 4 3 (0) (List.length v_4.2)]), (67, .osl 3 3 (0) (List.length v_4.1)), (68, .osl 4 3 (0) (List.length v_4.2)), (70, .sl 10 (enc v_0)), (71, .agg [.v (.int .i64 t_0.D), .v (.int .i64 t_0.C.a0), .v (.int .i64 t_0.C.a1), .v (.int .i64 t_0.C.a2), .v (.int .i64 t_0.C.a3)])], [(0, .box [.v (.int .i64 xv_0.Kind), .v (.int .i64 xv_0.Scope), .v (.int .i64 xv_0.Arg), .sl 2 (enc xv_0.Prog)]), (1, .box [.v (.int .i64 t_0.D), .v (.int .i64 t_0.C.a0), .v (.int .i64 t_0.C.a1), .v (.int .i64 t_0.C.a2), .v (.int .i64 t_0.C.a3)]), (2, .box [.v (.int .i64 v_1.1.Time.D), .v (.int .i64 v_1.1.Time.C.a0), .v (.int .i64 v_1.1.Time.C.a1), .v (.int .i64 v_1.1.Time.C.a2), .v (.int .i64 v_1.1.Time.C.a3), .sl 3 (enc v_1.1.In.a0), .sl 3 (enc v_1.1.In.a1), .sl 3 (enc v_1.1.Sent), .v (.bool v_1.1.Dirty), .v (.bool v_1.1.Fired)]), (3, .arr 3 (enc v_4.1)), (4, .arr 3 (enc v_4.2))], 5, 93⟩ : St)) (l := [some 0, some 1, some 3, some 4, some 5]) (args' := [.sl 10 (enc v_0), .agg [.v (.int .i64 t_0.D), .v (.int .i64 t_0.C.a0), .v (.int .i64 t_0.C.a1), .v (.int .i64 t_0.C.a2), .v (.int .i64 t_0.C.a3)]]) ?_ ?_ (f_cell_find_ok v_0 t_0 v_5 ev_5) (by rfl) (by rfl) ?_
    · simp only [go_sem, Le] <;> (repeat' apply And.intro) <;> first | ((try with_reducible refine TL_eq ?_); omega) | ((try with_reducible refine TL_eq ?_); (simp [go_sem]; done))
    · simp only [go_sem, Le] <;> (repeat' apply And.intro) <;> ((try with_reducible refine TL_eq ?_); (simp [go_sem]; done))
    simp only [go_sem]
    refine seqQ_normal hQ13 ?_
    refine sg fun QQ14 hQ14 => ?_
    obtain ⟨xv_2, exv_2, h⟩ := bindO_some h
    obtain ⟨fxv_2a, fxv_2b, fxv_2c⟩ := idx_spec exv_2
    have rf_2 : (enc v_0).set (Int.toNat v_5.1) [.v (.int .i64 xv_2.Time.D), .v (.int .i64 xv_2.Time.C.a0), .v (.int .i64 xv_2.Time.C.a1), .v (.int .i64 xv_2.Time.C.a2), .v (.int .i64 xv_2.Time.C.a3), .sl 3 (enc xv_2.In.a0), .sl 3 (enc xv_2.In.a1), .sl 3 (enc v_3.1), .v (.bool xv_2.Dirty), .v (.bool xv_2.Fired)] = enc (List.set v_0 (Int.toNat v_5.1) (⟨xv_2.Time, xv_2.In, v_3.1, xv_2.Dirty, xv_2.Fired⟩ : GSlot)) := by exact enc_set v_0 (Int.toNat v_5.1) (⟨xv_2.Time, xv_2.In, v_3.1, xv_2.Dirty, xv_2.Fired⟩ : GSlot)
    obtain ⟨xv_3, exv_3, h⟩ := bindO_some h
    obtain ⟨fxv_3a, fxv_3b, fxv_3c⟩ := idx_spec exv_3
    have rf_3 : (enc (List.set v_0 (Int.toNat v_5.1) (⟨xv_2.Time, xv_2.In, v_3.1, xv_2.Dirty, xv_2.Fired⟩ : GSlot))).set (Int.toNat v_5.1) [.v (.int .i64 xv_3.Time.D), .v (.int .i64 xv_3.Time.C.a0), .v (.int .i64 xv_3.Time.C.a1), .v (.int .i64 xv_3.Time.C.a2), .v (.int .i64 xv_3.Time.C.a3), .sl 3 (enc xv_3.In.a0), .sl 3 (enc xv_3.In.a1), .sl 3 (enc xv_3.Sent), .v (.bool false), .v (.bool xv_3.Fired)] = enc (List.set (List.set v_0 (Int.toNat v_5.1) (⟨xv_2.Time, xv_2.In, v_3.1, xv_2.Dirty, xv_2.Fired⟩ : GSlot)) (Int.toNat v_5.1) (⟨xv_3.Time, xv_3.In, xv_3.Sent, false, xv_3.Fired⟩ : GSlot)) := by exact enc_set (List.set v_0 (Int.toNat v_5.1) (⟨xv_2.Time, xv_2.In, v_3.1, xv_2.Dirty, xv_2.Fired⟩ : GSlot)) (Int.toNat v_5.1) (⟨xv_3.Time, xv_3.In, xv_3.Sent, false, xv_3.Fired⟩ : GSlot)
    obtain ⟨xv_4, exv_4, h⟩ := bindO_some h
    obtain ⟨fxv_4a, fxv_4b, fxv_4c⟩ := idx_spec exv_4
    have rf_4 : (enc (List.set (List.set v_0 (Int.toNat v_5.1) (⟨xv_2.Time, xv_2.In, v_3.1, xv_2.Dirty, xv_2.Fired⟩ : GSlot)) (Int.toNat v_5.1) (⟨xv_3.Time, xv_3.In, xv_3.Sent, false, xv_3.Fired⟩ : GSlot))).set (Int.toNat v_5.1) [.v (.int .i64 xv_4.Time.D), .v (.int .i64 xv_4.Time.C.a0), .v (.int .i64 xv_4.Time.C.a1), .v (.int .i64 xv_4.Time.C.a2), .v (.int .i64 xv_4.Time.C.a3), .sl 3 (enc xv_4.In.a0), .sl 3 (enc xv_4.In.a1), .sl 3 (enc xv_4.Sent), .v (.bool xv_4.Dirty), .v (.bool true)] = enc (List.set (List.set (List.set v_0 (Int.toNat v_5.1) (⟨xv_2.Time, xv_2.In, v_3.1, xv_2.Dirty, xv_2.Fired⟩ : GSlot)) (Int.toNat v_5.1) (⟨xv_3.Time, xv_3.In, xv_3.Sent, false, xv_3.Fired⟩ : GSlot)) (Int.toNat v_5.1) (⟨xv_4.Time, xv_4.In, xv_4.Sent, xv_4.Dirty, true⟩ : GSlot)) := by exact enc_set (List.set (List.set v_0 (Int.toNat v_5.1) (⟨xv_2.Time, xv_2.In, v_3.1, xv_2.Dirty, xv_2.Fired⟩ : GSlot)) (Int.toNat v_5.1) (⟨xv_3.Time, xv_3.In, xv_3.Sent, false, xv_3.Fired⟩ : GSlot)) (Int.toNat v_5.1) (⟨xv_4.Time, xv_4.In, xv_4.Sent, xv_4.Dirty, true⟩ : GSlot)
    simp only [go_sem, fxv_2a, fxv_2b, fxv_2c, rf_2, fxv_3a, fxv_3b, fxv_3c, rf_3, fxv_4a, fxv_4b, fxv_4c, rf_4]
    refine And.intro (by omega) ?_
    refine And.intro (by omega) ?_
    refine And.intro (by omega) ?_
    refine seqQ_normal hQ14 ?_
    refine sg fun QQ15 hQ15 => ?_
    obtain ⟨v_6, ev_6, h⟩ := bindO_some h
    simp only [go_sem]
    refine callF_weak (s' := (⟨0, [(3, .v (.bool lazy_0)), (5, .ptr 0 0), (6, .ptr 1 0), (12, .osl 2 10 (0) (List.length v_0)), (13, .ptr 3 0), (14, .v (.bool v_3.2)), (15, .sl 1 (enc a_0)), (16, .sl 3 (enc v_3.1)), (17, .osl 4 3 (0) (List.length v_4.1)), (18, .osl 5 3 (0) (List.length v_4.2)), (19, .v (.int .i64 v_5.1)), (20, .v (.bool v_5.2)), (52, .tup [.sl 3 (enc v_3.1), .v (.bool v_3.2)]), (53, .agg [.v (.int .i64 xv_0.Kind), .v (.int .i64 xv_0.Scope), .v (.int .i64 xv_0.Arg), .sl 2 (enc xv_0.Prog)]), (54, .sl 1 (enc a_0)), (55, .tup [.sl 3 (enc v_3.1), .v (.bool v_3.2)]), (56, .sl 3 (enc v_3.1)), (57, .v (.bool v_3.2)), (58, .v (.bool v_3.2)), (59, .v (.bool (!v_3.2))), (61, .tup [.osl 4 3 (0) (List.length v_4.1), .osl 5 3 (0) (List.length v_4.2)]), (62, .ptr 3 7), (63, .sl 3 (enc v_1.1.Sent)), (64, .sl 3 (enc v_3.1)), (65, .v (.bool lazy_0)), (66, .tup [.osl 4 3 (0) (List.length v_4.1), .osl 5 3 (0) (List.length v_4.2)]), (67, .osl 4 3 (0) (List.length v_4.1)), (68, .osl 5 3 (0) (List.length v_4.2)), (69, .tup [.v (.int .i64 v_5.1), .v (.bool v_5.2)]), (70, .osl 2 10 (0) (List.length v_0)), (71, .agg [.v (.int .i64 t_0.D), .v (.int .i64 t_0.C.a0), .v (.int .i64 t_0.C.a1), .v (.int .i64 t_0.C.a2), .v (.int .i64 t_0.C.a3)]), (72, .tup [.v (.int .i64 v_5.1), .v (.bool v_5.2)]), (73, .v (.int .i64 v_5.1)), (74, .v (.bool v_5.2)), (75, .osl 2 10 (0) (List.length v_0)), (76, .v (.int .i64 v_5.1)), (77, .osl 2 10 (0) (List.length v_0)), (78, .v (.int .i64 v_5.1)), (79, .osl 2 10 (0) (List.length v_0)), (80, .v (.int .i64 v_5.1)), (81, .sl 3 (enc v_3.1)), (88, .osl 2 10 (0) (List.length v_0)), (89, .v (.int .i64 v_5.1))], [(0, .box [.v (.int .i64 xv_0.Kind), .v (.int .i64 xv_0.Scope), .v (.int .i64 xv_0.Arg), .sl 2 (enc xv_0.Prog)]), (1, .box [.v (.int .i64 t_0.D), .v (.int .i64 t_0.C.a0), .v (.int .i64 t_0.C.a1), .v (.int .i64 t_0.C.a2), .v (.int .i64 t_0.C.a3)]), (2, .arr 10 (enc (List.set (List.set (List.set v_0 (Int.toNat v_5.1) (⟨xv_2.Time, xv_2.In, v_3.1, xv_2.Dirty, xv_2.Fired⟩ : GSlot)) (Int.toNat v_5.1) (⟨xv_3.Time, xv_3.In, xv_3.Sent, false, xv_3.Fired⟩ : GSlot)) (Int.toNat v_5.1) (⟨xv_4.Time, xv_4.In, xv_4.Sent, xv_4.Dirty, true⟩ : GSlot)))), (3, .box [.v (.int .i64 v_1.1.Time.D), .v (.int .i64 v_1.1.Time.C.a0), .v (.int .i64 v_1.1.Time.C.a1), .v (.int .i64 v_1.1.Time.C.a2), .v (.int .i64 v_1.1.Time.C.a3), .sl 3 (enc v_1.1.In.a0), .sl 3 (enc v_1.1.In.a1), .sl 3 (enc v_1.1.Sent), .v (.bool v_1.1.Dirty), .v (.bool v_1.1.Fired)]), (4, .arr 3 (enc v_4.1)), (5, .arr 3 (enc v_4.2))], 6, 93⟩ : St)) (l := [some 0, some 1, some 2, some 3, some 4, some 5]) (args' := [.osl 2 10 (0) (List.length (List.set (List.set (List.set v_0 (Int.toNat v_5.1) (⟨xv_2.Time, xv_2.In, v_3.1, xv_2.Dirty, xv_2.Fired⟩ : GSlot)) (Int.toNat v_5.1) (⟨xv_3.Time, xv_3.In, xv_3.Sent, false, xv_3.Fired⟩ : GSlot)) (Int.toNat v_5.1) (⟨xv_4.Time, xv_4.In, xv_4.Sent, xv_4.Dirty, true⟩ : GSlot))), .v (.int .i64 v_5.1)]) ?_ ?_ ?_
    · simp only [go_sem, Le] <;> (repeat' apply And.intro) <;> first | ((try with_reducible refine TL_eq ?_); omega) | ((try with_reducible refine TL_eq ?_); (simp [go_sem]; done))
    · simp only [go_sem, Le]
    refine callD [2] (f_cell_settled_s0_0_det (List.set (List.set (List.set v_0 (Int.toNat v_5.1) (⟨xv_2.Time, xv_2.In, v_3.1, xv_2.Dirty, xv_2.Fired⟩ : GSlot)) (Int.toNat v_5.1) (⟨xv_3.Time, xv_3.In, xv_3.Sent, false, xv_3.Fired⟩ : GSlot)) (Int.toNat v_5.1) (⟨xv_4.Time, xv_4.In, xv_4.Sent, xv_4.Dirty, true⟩ : GSlot)) v_5.1 v_6 ev_6) (by simp) rfl ⟨rfl, trivial⟩ rfl rfl rfl rfl ?_
    simp only [go_sem]
    refine seqQ_normal hQ15 ?_
    refine vc_ret_of ?_
    simp only [go_sem]
    obtain rfl := Option.some.inj h
    refine retW_det [some 6, some 4, some 5] ?_
    simp only [go_sem, Le] <;> (repeat' apply And.intro) <;> first | ((try with_reducible refine TL_eq ?_); omega) | ((try with_reducible refine TL_eq ?_); (simp [go_sem]; done))
def f_backwashlaw15_awake  : Option Bool :=
 bindO (f_cell_Come ([] : List GSlot) 6 0 (⟨1, (⟨0, 0, 0, 0⟩ : Arr4 Int)⟩ : GTime) (⟨1, 2⟩ : GRec) 1) (fun (v_0 : (List GSlot) × Bool × Bool) =>
 bindO (f_cell_Make v_0.1 (⟨6, 0, 0, ([] : List GIns)⟩ : GNode) (⟨1, (⟨0, 0, 0, 0⟩ : Arr4 Int)⟩ : GTime) true) (fun (v_1 : (List GSlot) × (List GItem) × (List GItem) × Bool) =>
 bindO (f_cell_Come v_1.1 6 0 (⟨1, (⟨0, 0, 0, 0⟩ : Arr4 Int)⟩ : GTime) (⟨1, 3⟩ : GRec) 1) (fun (v_2 : (List GSlot) × Bool × Bool) =>
 bindO (f_cell_Make v_2.1 (⟨6, 0, 0, ([] : List GIns)⟩ : GNode) (⟨1, (⟨0, 0, 0, 0⟩ : Arr4 Int)⟩ : GTime) true) (fun (v_3 : (List GSlot) × (List GItem) × (List GItem) × Bool) =>
 (if ((((((((v_0.2.2 && v_1.2.2.2) && v_2.2.2) && v_2.2.1) && v_3.2.2.2) && ((List.length v_1.2.1 : Int) == 0)) && ((List.length v_1.2.2.1 : Int) == 1)) && ((List.length v_3.2.1 : Int) == 1)) && ((List.length v_3.2.2.1 : Int) == 1)) = true then bindO (idx v_3.2.2.1 0) (fun (xv_0 : GItem) =>
 some (xv_0.Rec.V == 5))
 else some false)))))
theorem f_backwashlaw15_awake_ok   (r : Bool) (h : f_backwashlaw15_awake  = some r) : PureS Try.prog 35 [] 0 (.v (.bool r)) := by
 unfold PureS
 refine Spec.of_vc Try.func35 rfl (by kernel_rfl) (by kernel_rfl) ?_
 rw [f_backwashlaw15_awake] at h
 refine sg fun QQ1 hQ1 => ?_
 simp only [go_sem]
 refine seqQ_normal hQ1 ?_
 refine sg fun QQ2 hQ2 => ?_
 simp only [go_sem]
 refine seqQ_normal hQ2 ?_
 refine sg fun QQ3 hQ3 => ?_
 simp only [go_sem]
 refine seqQ_normal hQ3 ?_
 refine sg fun QQ4 hQ4 => ?_
 obtain ⟨v_0, ev_0, h⟩ := bindO_some h
 simp only [go_sem]
 refine callF_weak (s' := (⟨0, [(0, .v (.bool false)), (1, .ptr 0 0), (2, .ptr 1 0), (15, .agg [.v (.int .i64 1), .v (.int .i64 0), .v (.int .i64 0), .v (.int .i64 0), .v (.int .i64 0)]), (16, .agg [.v (.int .i64 6), .v (.int .i64 0), .v (.int .i64 0), .v (.slice none 0 0)]), (18, .ptr 1 0), (19, .v (.int .i64 6)), (20, .agg [.v (.int .i64 1), .v (.int .i64 0), .v (.int .i64 0), .v (.int .i64 0), .v (.int .i64 0)]), (21, .agg [.v (.int .i64 1), .v (.int .i64 2)])], [(0, .box [.v (.int .i64 1), .v (.int .i64 0), .v (.int .i64 0), .v (.int .i64 0), .v (.int .i64 0)]), (1, .box [.v (.int .i64 6), .v (.int .i64 0), .v (.int .i64 0), .v (.slice none 0 0)])], 2, 95⟩ : St)) (l := [some 0, some 1]) (args' := [.sl 10 (enc ([] : List GSlot)), .v (.int .i64 6), .v (.int .i64 0), .agg [.v (.int .i64 1), .v (.int .i64 0), .v (.int .i64 0), .v (.int .i64 0), .v (.int .i64 0)], .agg [.v (.int .i64 1), .v (.int .i64 2)], .v (.int .i64 1)]) ?_ ?_ ?_
 · simp only [go_sem, Le] <;> (repeat' apply And.intro) <;> first | ((try with_reducible refine TL_eq ?_); omega) | ((try with_reducible refine TL_eq ?_); (simp [go_sem]; done))
 · simp only [go_sem, Le]
 refine callD [] (f_cell_Come_det ([] : List GSlot) 6 0 (⟨1, (⟨0, 0, 0, 0⟩ : Arr4 Int)⟩ : GTime) (⟨1, 2⟩ : GRec) 1 v_0 ev_0) (by simp) rfl trivial rfl rfl rfl rfl ?_
 simp only [go_sem]
 refine seqQ_normal hQ4 ?_
 refine sg fun QQ5 hQ5 => ?_
 obtain ⟨v_1, ev_1, h⟩ := bindO_some h
 simp only [go_sem]
 refine callF_weak (s' := (⟨0, [(0, .v (.bool false)), (1, .ptr 0 0), (2, .ptr 1 0), (3, .sl 10 (enc v_0.1)), (4, .v (.bool v_0.2.1)), (5, .v (.bool v_0.2.2)), (15, .agg [.v (.int .i64 1), .v (.int .i64 0), .v (.int .i64 0), .v (.int .i64 0), .v (.int .i64 0)]), (16, .agg [.v (.int .i64 6), .v (.int .i64 0), .v (.int .i64 0), .v (.slice none 0 0)]), (17, .tup [.sl 10 (enc v_0.1), .v (.bool v_0.2.1), .v (.bool v_0.2.2)]), (18, .ptr 1 0), (19, .v (.int .i64 6)), (20, .agg [.v (.int .i64 1), .v (.int .i64 0), .v (.int .i64 0), .v (.int .i64 0), .v (.int .i64 0)]), (21, .agg [.v (.int .i64 1), .v (.int .i64 2)]), (22, .tup [.sl 10 (enc v_0.1), .v (.bool v_0.2.1), .v (.bool v_0.2.2)]), (23, .sl 10 (enc v_0.1)), (24, .v (.bool v_0.2.1)), (25, .v (.bool v_0.2.2)), (27, .sl 10 (enc v_0.1)), (28, .agg [.v (.int .i64 6), .v (.int .i64 0), .v (.int .i64 0), .v (.slice none 0 0)]), (29, .agg [.v (.int .i64 1), .v (.int .i64 0), .v (.int .i64 0), .v (.int .i64 0), .v (.int .i64 0)])], [(0, .box [.v (.int .i64 1), .v (.int .i64 0), .v (.int .i64 0), .v (.int .i64 0), .v (.int .i64 0)]), (1, .box [.v (.int .i64 6), .v (.int .i64 0), .v (.int .i64 0), .v (.slice none 0 0)])], 2, 95⟩ : St)) (l := [some 0, some 1]) (args' := [.sl 10 (enc v_0.1), .agg [.v (.int .i64 6), .v (.int .i64 0), .v (.int .i64 0), .sl 2 (enc ([] : List GIns))], .agg [.v (.int .i64 1), .v (.int .i64 0), .v (.int .i64 0), .v (.int .i64 0), .v (.int .i64 0)], .v (.bool true)]) ?_ ?_ ?_
 · simp only [go_sem, Le] <;> (repeat' apply And.intro) <;> first | ((try with_reducible refine TL_eq ?_); omega) | ((try with_reducible refine TL_eq ?_); (simp [go_sem]; done))
 · simp only [go_sem, Le] <;> (repeat' apply And.intro) <;> ((try with_reducible refine TL_eq ?_); (simp [go_sem]; done))
 refine callD [] (f_cell_Make_det v_0.1 (⟨6, 0, 0, ([] : List GIns)⟩ : GNode) (⟨1, (⟨0, 0, 0, 0⟩ : Arr4 Int)⟩ : GTime) true v_1 ev_1) (by simp) rfl trivial rfl rfl rfl rfl ?_
 simp only [go_sem]
 refine seqQ_normal hQ5 ?_
 refine sg fun QQ6 hQ6 => ?_
 obtain ⟨v_2, ev_2, h⟩ := bindO_some h
 simp only [go_sem]
 refine callF_weak (s' := (⟨0, [(0, .v (.bool false)), (1, .ptr 0 0), (2, .ptr 1 0), (3, .sl 10 (enc v_1.1)), (4, .v (.bool v_0.2.1)), (5, .v (.bool v_0.2.2)), (6, .osl 2 3 (0) (List.length v_1.2.1)), (7, .osl 3 3 (0) (List.length v_1.2.2.1)), (8, .v (.bool v_1.2.2.2)), (15, .agg [.v (.int .i64 1), .v (.int .i64 0), .v (.int .i64 0), .v (.int .i64 0), .v (.int .i64 0)]), (16, .agg [.v (.int .i64 6), .v (.int .i64 0), .v (.int .i64 0), .v (.slice none 0 0)]), (17, .tup [.sl 10 (enc v_0.1), .v (.bool v_0.2.1), .v (.bool v_0.2.2)]), (18, .ptr 1 0), (19, .v (.int .i64 6)), (20, .agg [.v (.int .i64 1), .v (.int .i64 0), .v (.int .i64 0), .v (.int .i64 0), .v (.int .i64 0)]), (21, .agg [.v (.int .i64 1), .v (.int .i64 2)]), (22, .tup [.sl 10 (enc v_0.1), .v (.bool v_0.2.1), .v (.bool v_0.2.2)]), (23, .sl 10 (enc v_0.1)), (24, .v (.bool v_0.2.1)), (25, .v (.bool v_0.2.2)), (26, .tup [.sl 10 (enc v_1.1), .osl 2 3 (0) (List.length v_1.2.1), .osl 3 3 (0) (List.length v_1.2.2.1), .v (.bool v_1.2.2.2)]), (27, .sl 10 (enc v_0.1)), (28, .agg [.v (.int .i64 6), .v (.int .i64 0), .v (.int .i64 0), .v (.slice none 0 0)]), (29, .agg [.v (.int .i64 1), .v (.int .i64 0), .v (.int .i64 0), .v (.int .i64 0), .v (.int .i64 0)]), (30, .tup [.sl 10 (enc v_1.1), .osl 2 3 (0) (List.length v_1.2.1), .osl 3 3 (0) (List.length v_1.2.2.1), .v (.bool v_1.2.2.2)]), (31, .sl 10 (enc v_1.1)), (32, .osl 2 3 (0) (List.length v_1.2.1)), (33, .osl 3 3 (0) (List.length v_1.2.2.1)), (34, .v (.bool v_1.2.2.2)), (36, .sl 10 (enc v_1.1)), (37, .ptr 1 0), (38, .v (.int .i64 6)), (39, .agg [.v (.int .i64 1), .v (.int .i64 0), .v (.int .i64 0), .v (.int .i64 0), .v (.int .i64 0)]), (40, .agg [.v (.int .i64 1), .v (.int .i64 3)])], [(0, .box [.v (.int .i64 1), .v (.int .i64 0), .v (.int .i64 0), .v (.int .i64 0), .v (.int .i64 0)]), (1, .box [.v (.int .i64 6), .v (.int .i64 0), .v (.int .i64 0), .v (.slice none 0 0)]), (2, .arr 3 (enc v_1.2.1)), (3, .arr 3 (enc v_1.2.2.1))], 4, 95⟩ : St)) (l := [some 0, some 1, some 3, some 4]) (args' := [.sl 10 (enc v_1.1), .v (.int .i64 6), .v (.int .i64 0), .agg [.v (.int .i64 1), .v (.int .i64 0), .v (.int .i64 0), .v (.int .i64 0), .v (.int .i64 0)], .agg [.v (.int .i64 1), .v (.int .i64 3)], .v (.int .i64 1)]) ?_ ?_ ?_
 · simp only [go_sem, Le] <;> (repeat' apply And.intro) <;> first | ((try with_reducible refine TL_eq ?_); omega) | ((try with_reducible refine TL_eq ?_); (simp [go_sem]; done))
 · simp only [go_sem, Le] <;> (repeat' apply And.intro) <;> ((try with_reducible refine TL_eq ?_); (simp [go_sem]; done))
 refine callD [] (f_cell_Come_det v_1.1 6 0 (⟨1, (⟨0, 0, 0, 0⟩ : Arr4 Int)⟩ : GTime) (⟨1, 3⟩ : GRec) 1 v_2 ev_2) (by simp) rfl trivial rfl rfl rfl rfl ?_
 simp only [go_sem]
 refine seqQ_normal hQ6 ?_
 refine sg fun QQ7 hQ7 => ?_
 obtain ⟨v_3, ev_3, h⟩ := bindO_some h
 simp only [go_sem]
 refine callF_weak (s' := (⟨0, [(0, .v (.bool false)), (1, .ptr 0 0), (2, .ptr 1 0), (3, .sl 10 (enc v_2.1)), (4, .v (.bool v_0.2.1)), (5, .v (.bool v_0.2.2)), (6, .osl 2 3 (0) (List.length v_1.2.1)), (7, .osl 3 3 (0) (List.length v_1.2.2.1)), (8, .v (.bool v_1.2.2.2)), (9, .v (.bool v_2.2.1)), (10, .v (.bool v_2.2.2)), (15, .agg [.v (.int .i64 1), .v (.int .i64 0), .v (.int .i64 0), .v (.int .i64 0), .v (.int .i64 0)]), (16, .agg [.v (.int .i64 6), .v (.int .i64 0), .v (.int .i64 0), .v (.slice none 0 0)]), (17, .tup [.sl 10 (enc v_0.1), .v (.bool v_0.2.1), .v (.bool v_0.2.2)]), (18, .ptr 1 0), (19, .v (.int .i64 6)), (20, .agg [.v (.int .i64 1), .v (.int .i64 0), .v (.int .i64 0), .v (.int .i64 0), .v (.int .i64 0)]), (21, .agg [.v (.int .i64 1), .v (.int .i64 2)]), (22, .tup [.sl 10 (enc v_0.1), .v (.bool v_0.2.1), .v (.bool v_0.2.2)]), (23, .sl 10 (enc v_0.1)), (24, .v (.bool v_0.2.1)), (25, .v (.bool v_0.2.2)), (26, .tup [.sl 10 (enc v_1.1), .osl 2 3 (0) (List.length v_1.2.1), .osl 3 3 (0) (List.length v_1.2.2.1), .v (.bool v_1.2.2.2)]), (27, .sl 10 (enc v_0.1)), (28, .agg [.v (.int .i64 6), .v (.int .i64 0), .v (.int .i64 0), .v (.slice none 0 0)]), (29, .agg [.v (.int .i64 1), .v (.int .i64 0), .v (.int .i64 0), .v (.int .i64 0), .v (.int .i64 0)]), (30, .tup [.sl 10 (enc v_1.1), .osl 2 3 (0) (List.length v_1.2.1), .osl 3 3 (0) (List.length v_1.2.2.1), .v (.bool v_1.2.2.2)]), (31, .sl 10 (enc v_1.1)), (32, .osl 2 3 (0) (List.length v_1.2.1)), (33, .osl 3 3 (0) (List.length v_1.2.2.1)), (34, .v (.bool v_1.2.2.2)), (35, .tup [.sl 10 (enc v_2.1), .v (.bool v_2.2.1), .v (.bool v_2.2.2)]), (36, .sl 10 (enc v_1.1)), (37, .ptr 1 0), (38, .v (.int .i64 6)), (39, .agg [.v (.int .i64 1), .v (.int .i64 0), .v (.int .i64 0), .v (.int .i64 0), .v (.int .i64 0)]), (40, .agg [.v (.int .i64 1), .v (.int .i64 3)]), (41, .tup [.sl 10 (enc v_2.1), .v (.bool v_2.2.1), .v (.bool v_2.2.2)]), (42, .sl 10 (enc v_2.1)), (43, .v (.bool v_2.2.1)), (44, .v (.bool v_2.2.2)), (46, .sl 10 (enc v_2.1)), (47, .agg [.v (.int .i64 6), .v (.int .i64 0), .v (.int .i64 0), .v (.slice none 0 0)]), (48, .agg [.v (.int .i64 1), .v (.int .i64 0), .v (.int .i64 0), .v (.int .i64 0), .v (.int .i64 0)])], [(0, .box [.v (.int .i64 1), .v (.int .i64 0), .v (.int .i64 0), .v (.int .i64 0), .v (.int .i64 0)]), (1, .box [.v (.int .i64 6), .v (.int .i64 0), .v (.int .i64 0), .v (.slice none 0 0)]), (2, .arr 3 (enc v_1.2.1)), (3, .arr 3 (enc v_1.2.2.1))], 4, 95⟩ : St)) (l := [some 0, some 1, some 2, some 3]) (args' := [.sl 10 (enc v_2.1), .agg [.v (.int .i64 6), .v (.int .i64 0), .v (.int .i64 0), .sl 2 (enc ([] : List GIns))], .agg [.v (.int .i64 1), .v (.int .i64 0), .v (.int .i64 0), .v (.int .i64 0), .v (.int .i64 0)], .v (.bool true)]) ?_ ?_ ?_
 · simp only [go_sem, Le] <;> (repeat' apply And.intro) <;> first | ((try with_reducible refine TL_eq ?_); omega) | ((try with_reducible refine TL_eq ?_); (simp [go_sem]; done))
 · simp only [go_sem, Le] <;> (repeat' apply And.intro) <;> ((try with_reducible refine TL_eq ?_); (simp [go_sem]; done))
 refine callD [] (f_cell_Make_det v_2.1 (⟨6, 0, 0, ([] : List GIns)⟩ : GNode) (⟨1, (⟨0, 0, 0, 0⟩ : Arr4 Int)⟩ : GTime) true v_3 ev_3) (by simp) rfl trivial rfl rfl rfl rfl ?_
 simp only [go_sem]
 refine seqQ_normal hQ7 ?_
 refine sg fun QQ8 hQ8 => ?_
 simp only [go_sem]
 rcases hb_0 : ((((((((v_0.2.2 && v_1.2.2.2) && v_2.2.2) && v_2.2.1) && v_3.2.2.2) && ((List.length v_1.2.1 : Int) == 0)) && ((List.length v_1.2.2.1 : Int) == 1)) && ((List.length v_3.2.1 : Int) == 1)) && ((List.length v_3.2.2.1 : Int) == 1)) with _ | _
 ·
  replace h := if_f h hb_0
  simp only [go_sem, hb_0]
  refine seqQ_normal hQ8 ?_
  refine vc_ret_of ?_
  simp only [go_sem]
  obtain rfl := Option.some.inj h
  refine retW_pure rfl ?_
  simp only [go_sem, Le]
 ·
  replace h := if_t h hb_0
  obtain ⟨xv_0, exv_0, h⟩ := bindO_some h
  obtain ⟨fxv_0a, fxv_0b, fxv_0c⟩ := idx_spec exv_0
  simp only [Int.toNat_natCast, Int.reduceToNat] at fxv_0c
  simp only [go_sem, hb_0, fxv_0a, fxv_0b, fxv_0c]
  refine And.intro (by omega) ?_
  refine seqQ_normal hQ8 ?_
  refine vc_ret_of ?_
  simp only [go_sem]
  obtain rfl := Option.some.inj h
  refine retW_pure rfl ?_
  simp only [go_sem, Le]

def f_backwashref15_Same_B1 (a_0 : List GSlot) (b_0 : List GSlot) (rec_1 : Int → Option Bool) : Int → Option Bool :=
 fun i_1 =>
 (if (decide (i_1 < (List.length a_0 : Int))) = true then bindO (idx a_0 i_1) (fun (xv_4 : GSlot) =>
 bindO (idx b_0 i_1) (fun (xv_5 : GSlot) =>
 (if (((!((xv_4.Time.D == xv_5.Time.D) && ((xv_4.Time.C.a0 == xv_5.Time.C.a0) && ((xv_4.Time.C.a1 == xv_5.Time.C.a1) && ((xv_4.Time.C.a2 == xv_5.Time.C.a2) && (xv_4.Time.C.a3 == xv_5.Time.C.a3)))))) || (!(xv_4.Dirty == xv_5.Dirty))) || (!(xv_4.Fired == xv_5.Fired))) = true then some false
 else bindO (f_backwashref05_Same xv_4.In.a0 xv_5.In.a0) (fun (v_6 : Bool) =>
 (if v_6 = true then bindO (f_backwashref05_Same xv_4.In.a1 xv_5.In.a1) (fun (v_7 : Bool) =>
 (if v_7 = true then bindO (f_backwashref05_Same xv_4.Sent xv_5.Sent) (fun (v_8 : Bool) =>
 (if (!v_8) = true then some false
 else rec_1 (IntKind.i64.wrap (i_1 + 1))))
 else some false))
 else some false)))))
 else some true)
def f_backwashref15_Same (a_0 : List GSlot) (b_0 : List GSlot) : Option Bool :=
 (if (!((List.length a_0 : Int) == (List.length b_0 : Int))) = true then some false
 else loopK (f_backwashref15_Same_B1 a_0 b_0) rounds 0)
def f_cell_Stale_B1 (c_0 : List GSlot) (rec_1 : Int × (List GTime) → Option (List GTime)) : Int × (List GTime) → Option (List GTime) :=
 fun (t11_1, a_1) =>
 (if (decide (t11_1 < (List.length c_0 : Int))) = true then bindO (idx c_0 t11_1) (fun (xv_2 : GSlot) =>
 (if xv_2.Dirty = true then guardO ((List.length a_1 + List.length ([xv_2.Time] : List GTime)) * 40 ≤ 140737488355328) (
 rec_1 (IntKind.i64.wrap (t11_1 + 1), (a_1 ++ ([xv_2.Time] : List GTime))))
 else rec_1 (IntKind.i64.wrap (t11_1 + 1), a_1)))
 else some a_1)
def f_cell_Stale (c_0 : List GSlot) : Option (List GTime) :=
 bindO (f_cell_Right c_0) (fun (v_0 : Bool) =>
 (if (!v_0) = true then some ([] : List GTime)
 else loopK (f_cell_Stale_B1 c_0) rounds (0, [])))
theorem f_cell_Stale_det (c_0 : List GSlot)  (r : List GTime) (h : f_cell_Stale c_0 = some r) : DetS Try.prog 40 [.sl 10 (enc c_0)] [] 0 (.osl 0 5 (0) (List.length r)) [(0, .arr 5 (enc r))] 1 := by
 unfold DetS
 refine Spec.of_vc Try.func40 rfl (by kernel_rfl) (by kernel_rfl) ?_
 rw [f_cell_Stale] at h
 refine sg fun QQ1 hQ1 => ?_
 simp only [go_sem]
 refine seqQ_normal hQ1 ?_
 refine sg fun QQ2 hQ2 => ?_
 simp only [go_sem]
 refine seqQ_normal hQ2 ?_
 refine sg fun QQ3 hQ3 => ?_
 refine sg fun QQ4 hQ4 => ?_
 obtain ⟨v_0, ev_0, h⟩ := bindO_some h
 simp only [go_sem]
 refine call0 (f_cell_Right_ok c_0 v_0 ev_0) (by rfl) (by rfl) ?_
 simp only [go_sem]
 refine seqQ_normal hQ4 ?_
 refine vc_cond_of (b := (!v_0)) (by (simp only [go_sem]; done)) (fun hb_0 => ?_) (fun hb_0 => ?_)
 ·
  replace h := if_t h hb_0
  simp only [bool_to_prop] at hb_0
  refine sg fun QQ5 hQ5 => ?_
  simp only [go_sem]
  refine seqQ_normal hQ5 ?_
  refine vc_ret_of ?_
  refine seqQ_ret hQ3 ?_
  simp only [go_sem]
  obtain rfl := Option.some.inj h
  refine retW_det [none] ?_
  simp only [go_sem, Le] <;> (repeat' apply And.intro) <;> ((try with_reducible refine TL_eq ?_); (simp [go_sem]; done))
 ·
  replace h := if_f h hb_0
  simp only [bool_to_prop] at hb_0
  refine vc_skip_of ?_
  refine seqQ_normal hQ3 ?_
  refine vc_join (by kernel_rfl) ?_
  refine seq_go_gen ?_
  intro QQ6 hQ6
  refine sg fun QQ7 hQ7 => ?_
  simp only [go_sem]
  refine seqQ_normal hQ7 ?_
  refine vc_block_gen ?_
  intro QQ8 hQ8
  refine vc_loop_of ?_
  refine loop_gen (ι := Nat × Int × (List GTime)) (fun ((_, t11_1, a_1) : Nat × Int × (List GTime)) => (⟨0, [(3, .osl 0 5 (0) (List.length a_1)), (9, .sl 10 (enc c_0)), (10, .v (.int .i64 (List.length c_0 : Int))), (11, .v (.int .i64 t11_1))], [(0, .arr 5 (enc a_1))], 1, 24⟩ : St)) (fun ((n_, t11_1, a_1) : Nat × Int × (List GTime)) => loopK (f_cell_Stale_B1 c_0) n_ (t11_1, a_1) = some r) (fun p => p.1) (rounds, 0, []) [none] ?_ h ?_
  · simp only [go_sem, Le] <;> (repeat' apply And.intro) <;> ((try with_reducible refine TL_eq ?_); (simp [go_sem]; done))
  ·
   rintro ⟨n_1, t11_1, a_1⟩ h QQ9 hQ9
   dsimp only at h
   replace h := loopK_some h
   obtain ⟨m_1, rfl, h⟩ := h
   rw [f_cell_Stale_B1] at h
   refine sg fun QQ10 hQ10 => ?_
   simp only [go_sem]
   refine seqQ_normal hQ10 ?_
   refine sg fun QQ11 hQ11 => ?_
   refine vc_cond_of (b := (decide (t11_1 < (List.length c_0 : Int)))) (by (simp only [go_sem]; done)) (fun hb_5 => ?_) (fun hb_5 => ?_)
   ·
    replace h := if_t h hb_5
    simp only [bool_to_prop] at hb_5
    refine vc_skip_of ?_
    refine seqQ_normal hQ11 ?_
    refine vc_join (by kernel_rfl) ?_
    refine seq_go_gen ?_
    intro QQ12 hQ12
    refine vc_block_gen ?_
    intro QQ13 hQ13
    refine sg fun QQ14 hQ14 => ?_
    obtain ⟨xv_2, exv_2, h⟩ := bindO_some h
    obtain ⟨fxv_2a, fxv_2b, fxv_2c⟩ := idx_spec exv_2
    simp only [go_sem, fxv_2a, fxv_2b, fxv_2c]
    refine And.intro (by omega) ?_
    refine seqQ_normal hQ14 ?_
    refine sg fun QQ15 hQ15 => ?_
    simp only [go_sem]
    refine seqQ_normal hQ15 ?_
    refine vc_cond_of (b := xv_2.Dirty) (by (simp only [go_sem]; done)) (fun hb_6 => ?_) (fun hb_6 => ?_)
    ·
     replace h := if_t h hb_6
     have rf_3 : [[.v (.int .i64 xv_2.Time.D), .v (.int .i64 xv_2.Time.C.a0), .v (.int .i64 xv_2.Time.C.a1), .v (.int .i64 xv_2.Time.C.a2), .v (.int .i64 xv_2.Time.C.a3)]] = enc ([xv_2.Time] : List GTime) := by rfl
     obtain ⟨g_2, h⟩ := guardO_some h
     simp only [List.length_cons, List.length_nil, Nat.zero_add, List.length_append] at g_2
     have rf_4 : enc a_1 ++ [[.v (.int .i64 xv_2.Time.D), .v (.int .i64 xv_2.Time.C.a0), .v (.int .i64 xv_2.Time.C.a1), .v (.int .i64 xv_2.Time.C.a2), .v (.int .i64 xv_2.Time.C.a3)]] = enc (a_1 ++ ([xv_2.Time] : List GTime)) := by exact (enc_app a_1 ([xv_2.Time] : List GTime)).symm
     simp only [go_sem, g_2, rf_4]
     simp only [rf_3]
     refine blockQ_normal hQ13 ?_
     refine seqQ_normal hQ12 ?_
     simp only [go_sem]
     refine thenQ_normal hQ9 ?_
     refine ⟨(m_1, IntKind.i64.wrap (t11_1 + 1), (a_1 ++ ([xv_2.Time] : List GTime))), [some 3], ?_, h, Nat.lt_succ_self _⟩
     simp only [go_sem, Le] <;> (repeat' apply And.intro) <;> ((try with_reducible refine TL_eq ?_); (simp [go_sem]; done))
    ·
     replace h := if_f h hb_6
     refine vc_skip_of ?_
     refine blockQ_normal hQ13 ?_
     refine seqQ_normal hQ12 ?_
     simp only [go_sem]
     refine thenQ_normal hQ9 ?_
     refine ⟨(m_1, IntKind.i64.wrap (t11_1 + 1), a_1), [some 0], ?_, h, Nat.lt_succ_self _⟩
     simp only [go_sem, Le]
   ·
    replace h := if_f h hb_5
    simp only [bool_to_prop] at hb_5
    refine vc_exit_of ?_
    refine seqQ_exit hQ11 ?_
    refine thenQ_exit hQ9 ?_
    refine blockQ_exit hQ8 ?_
    refine seqQ_normal hQ6 ?_
    refine sg fun QQ16 hQ16 => ?_
    simp only [go_sem]
    refine seqQ_normal hQ16 ?_
    refine vc_ret_of ?_
    simp only [go_sem]
    obtain rfl := Option.some.inj h
    refine retW_det [some 0] ?_
    simp only [go_sem, Le]
def f_cell_Next (c_0 : List GSlot) : Option (GTime × Bool) :=
 bindO (f_cell_Stale c_0) (fun (v_0 : List GTime) =>
 (if ((List.length v_0 : Int) == 0) = true then some ((⟨0, (⟨0, 0, 0, 0⟩ : Arr4 Int)⟩ : GTime), false)
 else bindO (idx v_0 0) (fun (xv_0 : GTime) =>
 some (xv_0, true))))
theorem f_cell_Next_ok (c_0 : List GSlot)  (r : GTime × Bool) (h : f_cell_Next c_0 = some r) : PureS Try.prog 47 [.sl 10 (enc c_0)] 0 (.tup [.agg [.v (.int .i64 r.1.D), .v (.int .i64 r.1.C.a0), .v (.int .i64 r.1.C.a1), .v (.int .i64 r.1.C.a2), .v (.int .i64 r.1.C.a3)], .v (.bool r.2)]) := by
 unfold PureS
 refine Spec.of_vc Try.func47 rfl (by kernel_rfl) (by kernel_rfl) ?_
 rw [f_cell_Next] at h
 refine sg fun QQ1 hQ1 => ?_
 simp only [go_sem]
 refine seqQ_normal hQ1 ?_
 refine sg fun QQ2 hQ2 => ?_
 obtain ⟨v_0, ev_0, h⟩ := bindO_some h
 simp only [go_sem]
 refine callD [] (f_cell_Stale_det c_0 v_0 ev_0) (by simp) rfl trivial rfl rfl rfl rfl ?_
 simp only [go_sem]
 refine seqQ_normal hQ2 ?_
 refine sg fun QQ3 hQ3 => ?_
 refine sg fun QQ4 hQ4 => ?_
 simp only [go_sem]
 refine seqQ_normal hQ4 ?_
 refine vc_cond_of (b := ((List.length v_0 : Int) == 0)) (by (simp only [go_sem]; done)) (fun hb_0 => ?_) (fun hb_0 => ?_)
 ·
  replace h := if_t h hb_0
  simp only [bool_to_prop] at hb_0
  refine sg fun QQ5 hQ5 => ?_
  simp only [go_sem]
  refine seqQ_normal hQ5 ?_
  refine vc_ret_of ?_
  refine seqQ_ret hQ3 ?_
  simp only [go_sem]
  obtain rfl := Option.some.inj h
  refine retW_pure rfl ?_
  simp only [go_sem, Le]
 ·
  replace h := if_f h hb_0
  simp only [bool_to_prop] at hb_0
  refine vc_skip_of ?_
  refine seqQ_normal hQ3 ?_
  refine sg fun QQ6 hQ6 => ?_
  obtain ⟨xv_0, exv_0, h⟩ := bindO_some h
  obtain ⟨fxv_0a, fxv_0b, fxv_0c⟩ := idx_spec exv_0
  simp only [Int.toNat_natCast, Int.reduceToNat] at fxv_0c
  simp only [go_sem, fxv_0a, fxv_0b, fxv_0c]
  refine And.intro (by omega) ?_
  refine seqQ_normal hQ6 ?_
  refine vc_ret_of ?_
  simp only [go_sem]
  obtain rfl := Option.some.inj h
  refine retW_pure rfl ?_
  simp only [go_sem, Le]

end Go.Proofs.Ythpahhhdapdcpaa
