/-
  What functions of the program compute, each told as a plain function that may give nothing, with the proof that the code does so. No condition beyond those that each theorem names.
-/
import Derived.Test.YtngeldeahafcfaaWalk0
set_option linter.unusedSimpArgs false
set_option linter.unusedVariables false
namespace Go.Proofs.Ytngeldeahafcfaa
open Go Go.RowKit
set_option maxHeartbeats 2000000
set_option maxRecDepth 100000
set_option linter.unusedSimpArgs false
set_option linter.unusedVariables false
def f_slices_IndexFunc_Ins_B1 (s_0 : List GIns) (f_0 : GIns → Option Bool) (rec_1 : Int → Option Int) : Int → Option Int :=
  fun t8_1 =>
  (if (decide (t8_1 < (List.length s_0 : Int))) = true then bindO (idx s_0 t8_1) (fun (xv_2 : GIns) =>
  bindO (f_0 xv_2) (fun (v_2 : Bool) =>
  (if v_2 = true then some t8_1
  else rec_1 (IntKind.i64.wrap (t8_1 + 1)))))
  else some (-1))
def f_slices_IndexFunc_Ins (s_0 : List GIns) (f_0 : GIns → Option Bool) : Option Int :=
  loopK (f_slices_IndexFunc_Ins_B1 s_0 f_0) rounds 0
theorem f_slices_IndexFunc_Ins_ok (s_0 : List GIns) (f_0 : GIns → Option Bool) (g_f_0 : FuncId) (c_f_0 : List AV) (F_f_0 : idFreeL c_f_0 = true) (E_f_0 : entB Try.prog g_f_0 = true) (H_f_0 : ∀ (x0 : GIns) (r : Bool), f_0 x0 = some r → PureS Try.prog g_f_0 ([.agg [.v (.int .i64 x0.Op), .v (.int .i64 x0.N)]] ++ c_f_0) 0 (.v (.bool r))) (r : Int) (h : f_slices_IndexFunc_Ins s_0 f_0 = some r) : PureS Try.prog 118 [.sl 2 (enc s_0), .clo g_f_0 c_f_0] 0 (.v (.int .i64 r)) := by
  unfold PureS
  refine Spec.of_vc Try.func118 rfl (by kernel_rfl) (by kernel_rfl) ?_
  rw [f_slices_IndexFunc_Ins] at h
  refine vc_seq_gen (by kernel_rfl) ?_
  intro QQ1 hQ1
  simp only [go_sem, Try.ntmps118, Try.results118]
  refine seqQ_normal hQ1 ?_
  refine vc_join (by kernel_rfl) ?_
  refine seq_go_gen ?_
  intro QQ2 hQ2
  refine vc_seq_gen (by kernel_rfl) ?_
  intro QQ3 hQ3
  simp only [go_sem, Try.ntmps118, Try.results118]
  refine seqQ_normal hQ3 ?_
  refine vc_block_gen ?_
  intro QQ4 hQ4
  refine vc_loop_of ?_
  refine loop_gen (ι := Nat × Int) (fun ((_, t8_1) : Nat × Int) => (⟨0, [(0, .sl 2 (enc s_0)), (1, .clo g_f_0 c_f_0), (7, .v (.int .i64 (List.length s_0 : Int))), (8, .v (.int .i64 t8_1))], [], 0, 19⟩ : St)) (fun ((n_, t8_1) : Nat × Int) => loopK (f_slices_IndexFunc_Ins_B1 s_0 f_0) n_ t8_1 = some r) (fun p => p.1) (rounds, 0) [] ?_ h ?_
  · simp only [go_sem, Le, AvLeL_free _ F_f_0]
  · rintro ⟨n_1, t8_1⟩ h QQ5 hQ5
    dsimp only at h
    replace h := loopK_some h
    obtain ⟨m_1, rfl, h⟩ := h
    rw [f_slices_IndexFunc_Ins_B1] at h
    refine vc_seq_gen (by kernel_rfl) ?_
    intro QQ6 hQ6
    simp only [go_sem, Try.ntmps118, Try.results118]
    refine seqQ_normal hQ6 ?_
    refine vc_seq_gen (by kernel_rfl) ?_
    intro QQ7 hQ7
    refine vc_cond_of (b := (decide (t8_1 < (List.length s_0 : Int)))) (by (simp only [go_sem]; done)) (fun hb_4 => ?_) (fun hb_4 => ?_)
    ·
      replace h := if_t h hb_4
      simp only [decide_eq_true_eq, decide_eq_false_iff_not, Bool.not_eq_true', Bool.not_eq_false', beq_iff_eq, beq_eq_false_iff_ne, ne_eq, Bool.and_eq_true, Bool.or_eq_true, Int.not_lt, Int.not_le] at hb_4
      refine vc_skip_of ?_
      refine seqQ_normal hQ7 ?_
      refine vc_seq_gen (by kernel_rfl) ?_
      intro QQ8 hQ8
      refine vc_block_gen ?_
      intro QQ9 hQ9
      refine vc_seq_gen (by kernel_rfl) ?_
      intro QQ10 hQ10
      simp only [go_sem, Try.ntmps118, Try.results118]
      refine seqQ_normal hQ10 ?_
      refine vc_seq_gen (by kernel_rfl) ?_
      intro QQ11 hQ11
      obtain ⟨xv_2, exv_2, h⟩ := bindO_some h
      obtain ⟨fxv_2a, fxv_2b, fxv_2c⟩ := idx_spec exv_2
      obtain ⟨v_2, ev_2, h⟩ := bindO_some h
      simp only [go_sem, Try.ntmps118, Try.results118, fxv_2a, fxv_2b, fxv_2c, E_f_0]
      refine And.intro (by omega) ?_
      refine call0 (H_f_0 xv_2 v_2 ev_2) (by rfl) (by simp [idFreeL, idFree, F_f_0]) ?_
      simp only [go_sem, Try.ntmps118, Try.results118]
      refine seqQ_normal hQ11 ?_
      refine vc_cond_of (b := v_2) (by (simp only [go_sem]; done)) (fun hb_5 => ?_) (fun hb_5 => ?_)
      ·
        replace h := if_t h hb_5
        refine vc_seq_gen (by kernel_rfl) ?_
        intro QQ12 hQ12
        simp only [go_sem, Try.ntmps118, Try.results118]
        refine seqQ_normal hQ12 ?_
        refine vc_ret_of ?_
        refine blockQ_ret hQ9 ?_
        refine seqQ_ret hQ8 ?_
        refine thenQ_ret hQ5 ?_
        refine blockQ_ret hQ4 ?_
        refine seqQ_ret hQ2 ?_
        simp only [go_sem, Try.ntmps118, Try.results118]
        obtain rfl := Option.some.inj h
        refine retW_pure rfl ?_
        simp only [go_sem, Le, AvLeL_free _ F_f_0]
      ·
        replace h := if_f h hb_5
        refine vc_skip_of ?_
        refine blockQ_normal hQ9 ?_
        refine seqQ_normal hQ8 ?_
        simp only [go_sem, Try.ntmps118, Try.results118]
        refine thenQ_normal hQ5 ?_
        refine ⟨(m_1, IntKind.i64.wrap (t8_1 + 1)), [], ?_, h, Nat.lt_succ_self _⟩
        simp only [go_sem, Le, AvLeL_free _ F_f_0]
    ·
      replace h := if_f h hb_4
      simp only [decide_eq_true_eq, decide_eq_false_iff_not, Bool.not_eq_true', Bool.not_eq_false', beq_iff_eq, beq_eq_false_iff_ne, ne_eq, Bool.and_eq_true, Bool.or_eq_true, Int.not_lt, Int.not_le] at hb_4
      refine vc_exit_of ?_
      refine seqQ_exit hQ7 ?_
      refine thenQ_exit hQ5 ?_
      refine blockQ_exit hQ4 ?_
      refine seqQ_normal hQ2 ?_
      refine vc_seq_gen (by kernel_rfl) ?_
      intro QQ13 hQ13
      simp only [go_sem, Try.ntmps118, Try.results118]
      refine seqQ_normal hQ13 ?_
      refine vc_ret_of ?_
      simp only [go_sem, Try.ntmps118, Try.results118]
      obtain rfl := Option.some.inj h
      refine retW_pure rfl ?_
      simp only [go_sem, Le, AvLeL_free _ F_f_0]
end Go.Proofs.Ytngeldeahafcfaa

namespace Go.Proofs.Ytngeldeahafcfaa
open Go Go.RowKit
set_option maxHeartbeats 2000000
set_option maxRecDepth 100000
set_option linter.unusedSimpArgs false
set_option linter.unusedVariables false
def f_slices_ContainsFunc_Ins (s_0 : List GIns) (f_0 : GIns → Option Bool) : Option Bool :=
  bindO (f_slices_IndexFunc_Ins s_0 f_0) (fun (v_0 : Int) =>
  some (decide (0 ≤ v_0)))
theorem f_slices_ContainsFunc_Ins_ok (s_0 : List GIns) (f_0 : GIns → Option Bool) (g_f_0 : FuncId) (c_f_0 : List AV) (F_f_0 : idFreeL c_f_0 = true) (E_f_0 : entB Try.prog g_f_0 = true) (H_f_0 : ∀ (x0 : GIns) (r : Bool), f_0 x0 = some r → PureS Try.prog g_f_0 ([.agg [.v (.int .i64 x0.Op), .v (.int .i64 x0.N)]] ++ c_f_0) 0 (.v (.bool r))) (r : Bool) (h : f_slices_ContainsFunc_Ins s_0 f_0 = some r) : PureS Try.prog 80 [.sl 2 (enc s_0), .clo g_f_0 c_f_0] 0 (.v (.bool r)) := by
  unfold PureS
  refine Spec.of_vc Try.func80 rfl (by kernel_rfl) (by kernel_rfl) ?_
  rw [f_slices_ContainsFunc_Ins] at h
  refine vc_seq_gen (by kernel_rfl) ?_
  intro QQ1 hQ1
  simp only [go_sem, Try.ntmps80, Try.results80]
  refine seqQ_normal hQ1 ?_
  refine vc_seq_gen (by kernel_rfl) ?_
  intro QQ2 hQ2
  obtain ⟨v_0, ev_0, h⟩ := bindO_some h
  simp only [go_sem, Try.ntmps80, Try.results80]
  refine call0 (f_slices_IndexFunc_Ins_ok s_0 f_0 g_f_0 c_f_0 F_f_0 E_f_0 H_f_0 v_0 ev_0) (by rfl) (by simp [idFreeL, idFree, F_f_0]) ?_
  simp only [go_sem, Try.ntmps80, Try.results80]
  refine seqQ_normal hQ2 ?_
  refine vc_ret_of ?_
  simp only [go_sem, Try.ntmps80, Try.results80]
  obtain rfl := Option.some.inj h
  refine retW_pure rfl ?_
  simp only [go_sem, Le, AvLeL_free _ F_f_0]
end Go.Proofs.Ytngeldeahafcfaa

namespace Go.Proofs.Ytngeldeahafcfaa
open Go Go.RowKit
set_option maxHeartbeats 2000000
set_option maxRecDepth 100000
set_option linter.unusedSimpArgs false
set_option linter.unusedVariables false
def f_graph_fits_1 (i_0 : GIns) : Option Bool :=
  bindO (f_graph_small ([i_0.Op] : List Int)) (fun (v_0 : Bool) =>
  some (!v_0))
theorem f_graph_fits_1_ok (i_0 : GIns)  (r : Bool) (h : f_graph_fits_1 i_0 = some r) : PureS Try.prog 81 [.agg [.v (.int .i64 i_0.Op), .v (.int .i64 i_0.N)]] 0 (.v (.bool r)) := by
  unfold PureS
  refine Spec.of_vc Try.func81 rfl (by kernel_rfl) (by kernel_rfl) ?_
  rw [f_graph_fits_1] at h
  refine vc_seq_gen (by kernel_rfl) ?_
  intro QQ1 hQ1
  simp only [go_sem, Try.ntmps81, Try.results81]
  refine seqQ_normal hQ1 ?_
  refine vc_seq_gen (by kernel_rfl) ?_
  intro QQ2 hQ2
  have rf_0 : [[.v (.int .i64 i_0.Op)]] = enc ([i_0.Op] : List Int) := by rfl
  obtain ⟨v_0, ev_0, h⟩ := bindO_some h
  simp only [go_sem, Try.ntmps81, Try.results81]
  simp only [rf_0]
  refine callF_weak (s' := (⟨0, [(0, .agg [.v (.int .i64 i_0.Op), .v (.int .i64 i_0.N)]), (1, .ptr 0 0), (2, .v (.bool false)), (3, .ptr 0 0), (4, .v (.int .i64 i_0.Op)), (5, .sl 1 (enc ([i_0.Op] : List Int)))], [(0, .box [.v (.int .i64 i_0.Op), .v (.int .i64 i_0.N)])], 1, 8⟩ : St)) (l := [some 0]) (args' := [.sl 1 (enc ([i_0.Op] : List Int))]) ?_ ?_ (call0 (f_graph_small_ok ([i_0.Op] : List Int) v_0 ev_0) (by rfl) (by rfl) ?_)
  · simp only [go_sem, Le] <;> (repeat' apply And.intro) <;> (simp [go_sem]; done)
  · simp only [go_sem, Le] <;> (repeat' apply And.intro) <;> (simp [go_sem]; done)
  simp only [go_sem, Try.ntmps81, Try.results81]
  refine seqQ_normal hQ2 ?_
  refine vc_ret_of ?_
  simp only [go_sem, Try.ntmps81, Try.results81]
  obtain rfl := Option.some.inj h
  refine retW_pure rfl ?_
  simp only [go_sem, Le]
end Go.Proofs.Ytngeldeahafcfaa

namespace Go.Proofs.Ytngeldeahafcfaa
open Go Go.RowKit
set_option maxHeartbeats 2000000
set_option maxRecDepth 100000
set_option linter.unusedSimpArgs false
set_option linter.unusedVariables false
def f_slices_IndexFunc_Edge_B1 (s_0 : List GEdge) (f_0 : GEdge → Option Bool) (rec_1 : Int → Option Int) : Int → Option Int :=
  fun t8_1 =>
  (if (decide (t8_1 < (List.length s_0 : Int))) = true then bindO (idx s_0 t8_1) (fun (xv_2 : GEdge) =>
  bindO (f_0 xv_2) (fun (v_2 : Bool) =>
  (if v_2 = true then some t8_1
  else rec_1 (IntKind.i64.wrap (t8_1 + 1)))))
  else some (-1))
def f_slices_IndexFunc_Edge (s_0 : List GEdge) (f_0 : GEdge → Option Bool) : Option Int :=
  loopK (f_slices_IndexFunc_Edge_B1 s_0 f_0) rounds 0
theorem f_slices_IndexFunc_Edge_ok (s_0 : List GEdge) (f_0 : GEdge → Option Bool) (g_f_0 : FuncId) (c_f_0 : List AV) (F_f_0 : idFreeL c_f_0 = true) (E_f_0 : entB Try.prog g_f_0 = true) (H_f_0 : ∀ (x0 : GEdge) (r : Bool), f_0 x0 = some r → PureS Try.prog g_f_0 ([.agg [.v (.int .i64 x0.From), .v (.int .i64 x0.To), .v (.int .i64 x0.Port), .v (.bool x0.Exchange)]] ++ c_f_0) 0 (.v (.bool r))) (r : Int) (h : f_slices_IndexFunc_Edge s_0 f_0 = some r) : PureS Try.prog 119 [.sl 4 (enc s_0), .clo g_f_0 c_f_0] 0 (.v (.int .i64 r)) := by
  unfold PureS
  refine Spec.of_vc Try.func119 rfl (by kernel_rfl) (by kernel_rfl) ?_
  rw [f_slices_IndexFunc_Edge] at h
  refine vc_seq_gen (by kernel_rfl) ?_
  intro QQ1 hQ1
  simp only [go_sem, Try.ntmps119, Try.results119]
  refine seqQ_normal hQ1 ?_
  refine vc_join (by kernel_rfl) ?_
  refine seq_go_gen ?_
  intro QQ2 hQ2
  refine vc_seq_gen (by kernel_rfl) ?_
  intro QQ3 hQ3
  simp only [go_sem, Try.ntmps119, Try.results119]
  refine seqQ_normal hQ3 ?_
  refine vc_block_gen ?_
  intro QQ4 hQ4
  refine vc_loop_of ?_
  refine loop_gen (ι := Nat × Int) (fun ((_, t8_1) : Nat × Int) => (⟨0, [(0, .sl 4 (enc s_0)), (1, .clo g_f_0 c_f_0), (7, .v (.int .i64 (List.length s_0 : Int))), (8, .v (.int .i64 t8_1))], [], 0, 19⟩ : St)) (fun ((n_, t8_1) : Nat × Int) => loopK (f_slices_IndexFunc_Edge_B1 s_0 f_0) n_ t8_1 = some r) (fun p => p.1) (rounds, 0) [] ?_ h ?_
  · simp only [go_sem, Le, AvLeL_free _ F_f_0]
  · rintro ⟨n_1, t8_1⟩ h QQ5 hQ5
    dsimp only at h
    replace h := loopK_some h
    obtain ⟨m_1, rfl, h⟩ := h
    rw [f_slices_IndexFunc_Edge_B1] at h
    refine vc_seq_gen (by kernel_rfl) ?_
    intro QQ6 hQ6
    simp only [go_sem, Try.ntmps119, Try.results119]
    refine seqQ_normal hQ6 ?_
    refine vc_seq_gen (by kernel_rfl) ?_
    intro QQ7 hQ7
    refine vc_cond_of (b := (decide (t8_1 < (List.length s_0 : Int)))) (by (simp only [go_sem]; done)) (fun hb_4 => ?_) (fun hb_4 => ?_)
    ·
      replace h := if_t h hb_4
      simp only [decide_eq_true_eq, decide_eq_false_iff_not, Bool.not_eq_true', Bool.not_eq_false', beq_iff_eq, beq_eq_false_iff_ne, ne_eq, Bool.and_eq_true, Bool.or_eq_true, Int.not_lt, Int.not_le] at hb_4
      refine vc_skip_of ?_
      refine seqQ_normal hQ7 ?_
      refine vc_seq_gen (by kernel_rfl) ?_
      intro QQ8 hQ8
      refine vc_block_gen ?_
      intro QQ9 hQ9
      refine vc_seq_gen (by kernel_rfl) ?_
      intro QQ10 hQ10
      simp only [go_sem, Try.ntmps119, Try.results119]
      refine seqQ_normal hQ10 ?_
      refine vc_seq_gen (by kernel_rfl) ?_
      intro QQ11 hQ11
      obtain ⟨xv_2, exv_2, h⟩ := bindO_some h
      obtain ⟨fxv_2a, fxv_2b, fxv_2c⟩ := idx_spec exv_2
      obtain ⟨v_2, ev_2, h⟩ := bindO_some h
      simp only [go_sem, Try.ntmps119, Try.results119, fxv_2a, fxv_2b, fxv_2c, E_f_0]
      refine And.intro (by omega) ?_
      refine call0 (H_f_0 xv_2 v_2 ev_2) (by rfl) (by simp [idFreeL, idFree, F_f_0]) ?_
      simp only [go_sem, Try.ntmps119, Try.results119]
      refine seqQ_normal hQ11 ?_
      refine vc_cond_of (b := v_2) (by (simp only [go_sem]; done)) (fun hb_5 => ?_) (fun hb_5 => ?_)
      ·
        replace h := if_t h hb_5
        refine vc_seq_gen (by kernel_rfl) ?_
        intro QQ12 hQ12
        simp only [go_sem, Try.ntmps119, Try.results119]
        refine seqQ_normal hQ12 ?_
        refine vc_ret_of ?_
        refine blockQ_ret hQ9 ?_
        refine seqQ_ret hQ8 ?_
        refine thenQ_ret hQ5 ?_
        refine blockQ_ret hQ4 ?_
        refine seqQ_ret hQ2 ?_
        simp only [go_sem, Try.ntmps119, Try.results119]
        obtain rfl := Option.some.inj h
        refine retW_pure rfl ?_
        simp only [go_sem, Le, AvLeL_free _ F_f_0]
      ·
        replace h := if_f h hb_5
        refine vc_skip_of ?_
        refine blockQ_normal hQ9 ?_
        refine seqQ_normal hQ8 ?_
        simp only [go_sem, Try.ntmps119, Try.results119]
        refine thenQ_normal hQ5 ?_
        refine ⟨(m_1, IntKind.i64.wrap (t8_1 + 1)), [], ?_, h, Nat.lt_succ_self _⟩
        simp only [go_sem, Le, AvLeL_free _ F_f_0]
    ·
      replace h := if_f h hb_4
      simp only [decide_eq_true_eq, decide_eq_false_iff_not, Bool.not_eq_true', Bool.not_eq_false', beq_iff_eq, beq_eq_false_iff_ne, ne_eq, Bool.and_eq_true, Bool.or_eq_true, Int.not_lt, Int.not_le] at hb_4
      refine vc_exit_of ?_
      refine seqQ_exit hQ7 ?_
      refine thenQ_exit hQ5 ?_
      refine blockQ_exit hQ4 ?_
      refine seqQ_normal hQ2 ?_
      refine vc_seq_gen (by kernel_rfl) ?_
      intro QQ13 hQ13
      simp only [go_sem, Try.ntmps119, Try.results119]
      refine seqQ_normal hQ13 ?_
      refine vc_ret_of ?_
      simp only [go_sem, Try.ntmps119, Try.results119]
      obtain rfl := Option.some.inj h
      refine retW_pure rfl ?_
      simp only [go_sem, Le, AvLeL_free _ F_f_0]
end Go.Proofs.Ytngeldeahafcfaa

namespace Go.Proofs.Ytngeldeahafcfaa
open Go Go.RowKit
set_option maxHeartbeats 2000000
set_option maxRecDepth 100000
set_option linter.unusedSimpArgs false
set_option linter.unusedVariables false
def f_slices_ContainsFunc_Edge (s_0 : List GEdge) (f_0 : GEdge → Option Bool) : Option Bool :=
  bindO (f_slices_IndexFunc_Edge s_0 f_0) (fun (v_0 : Int) =>
  some (decide (0 ≤ v_0)))
theorem f_slices_ContainsFunc_Edge_ok (s_0 : List GEdge) (f_0 : GEdge → Option Bool) (g_f_0 : FuncId) (c_f_0 : List AV) (F_f_0 : idFreeL c_f_0 = true) (E_f_0 : entB Try.prog g_f_0 = true) (H_f_0 : ∀ (x0 : GEdge) (r : Bool), f_0 x0 = some r → PureS Try.prog g_f_0 ([.agg [.v (.int .i64 x0.From), .v (.int .i64 x0.To), .v (.int .i64 x0.Port), .v (.bool x0.Exchange)]] ++ c_f_0) 0 (.v (.bool r))) (r : Bool) (h : f_slices_ContainsFunc_Edge s_0 f_0 = some r) : PureS Try.prog 82 [.sl 4 (enc s_0), .clo g_f_0 c_f_0] 0 (.v (.bool r)) := by
  unfold PureS
  refine Spec.of_vc Try.func82 rfl (by kernel_rfl) (by kernel_rfl) ?_
  rw [f_slices_ContainsFunc_Edge] at h
  refine vc_seq_gen (by kernel_rfl) ?_
  intro QQ1 hQ1
  simp only [go_sem, Try.ntmps82, Try.results82]
  refine seqQ_normal hQ1 ?_
  refine vc_seq_gen (by kernel_rfl) ?_
  intro QQ2 hQ2
  obtain ⟨v_0, ev_0, h⟩ := bindO_some h
  simp only [go_sem, Try.ntmps82, Try.results82]
  refine call0 (f_slices_IndexFunc_Edge_ok s_0 f_0 g_f_0 c_f_0 F_f_0 E_f_0 H_f_0 v_0 ev_0) (by rfl) (by simp [idFreeL, idFree, F_f_0]) ?_
  simp only [go_sem, Try.ntmps82, Try.results82]
  refine seqQ_normal hQ2 ?_
  refine vc_ret_of ?_
  simp only [go_sem, Try.ntmps82, Try.results82]
  obtain rfl := Option.some.inj h
  refine retW_pure rfl ?_
  simp only [go_sem, Le, AvLeL_free _ F_f_0]
end Go.Proofs.Ytngeldeahafcfaa

namespace Go.Proofs.Ytngeldeahafcfaa
open Go Go.RowKit
set_option maxHeartbeats 2000000
set_option maxRecDepth 100000
set_option linter.unusedSimpArgs false
set_option linter.unusedVariables false
def f_graph_fits_2 (e_0 : GEdge) : Option Bool :=
  bindO (f_graph_small ([e_0.From, e_0.To, e_0.Port] : List Int)) (fun (v_0 : Bool) =>
  some (!v_0))
theorem f_graph_fits_2_ok (e_0 : GEdge)  (r : Bool) (h : f_graph_fits_2 e_0 = some r) : PureS Try.prog 83 [.agg [.v (.int .i64 e_0.From), .v (.int .i64 e_0.To), .v (.int .i64 e_0.Port), .v (.bool e_0.Exchange)]] 0 (.v (.bool r)) := by
  unfold PureS
  refine Spec.of_vc Try.func83 rfl (by kernel_rfl) (by kernel_rfl) ?_
  rw [f_graph_fits_2] at h
  refine vc_seq_gen (by kernel_rfl) ?_
  intro QQ1 hQ1
  simp only [go_sem, Try.ntmps83, Try.results83]
  refine seqQ_normal hQ1 ?_
  refine vc_seq_gen (by kernel_rfl) ?_
  intro QQ2 hQ2
  have rf_0 : [[.v (.int .i64 e_0.From)], [.v (.int .i64 e_0.To)], [.v (.int .i64 e_0.Port)]] = enc ([e_0.From, e_0.To, e_0.Port] : List Int) := by rfl
  obtain ⟨v_0, ev_0, h⟩ := bindO_some h
  simp only [go_sem, Try.ntmps83, Try.results83]
  refine And.intro (by omega) ?_
  simp only [rf_0]
  refine callF_weak (s' := (⟨0, [(0, .agg [.v (.int .i64 e_0.From), .v (.int .i64 e_0.To), .v (.int .i64 e_0.Port), .v (.bool e_0.Exchange)]), (1, .ptr 0 0), (2, .v (.bool false)), (3, .ptr 0 0), (4, .v (.int .i64 e_0.From)), (5, .ptr 0 1), (6, .v (.int .i64 e_0.To)), (7, .ptr 0 2), (8, .v (.int .i64 e_0.Port)), (9, .sl 1 (enc ([e_0.From, e_0.To, e_0.Port] : List Int)))], [(0, .box [.v (.int .i64 e_0.From), .v (.int .i64 e_0.To), .v (.int .i64 e_0.Port), .v (.bool e_0.Exchange)])], 1, 12⟩ : St)) (l := [some 0]) (args' := [.sl 1 (enc ([e_0.From, e_0.To, e_0.Port] : List Int))]) ?_ ?_ (call0 (f_graph_small_ok ([e_0.From, e_0.To, e_0.Port] : List Int) v_0 ev_0) (by rfl) (by rfl) ?_)
  · simp only [go_sem, Le] <;> (repeat' apply And.intro) <;> (simp [go_sem]; done)
  · simp only [go_sem, Le] <;> (repeat' apply And.intro) <;> (simp [go_sem]; done)
  simp only [go_sem, Try.ntmps83, Try.results83]
  refine seqQ_normal hQ2 ?_
  refine vc_ret_of ?_
  simp only [go_sem, Try.ntmps83, Try.results83]
  obtain rfl := Option.some.inj h
  refine retW_pure rfl ?_
  simp only [go_sem, Le]
end Go.Proofs.Ytngeldeahafcfaa

namespace Go.Proofs.Ytngeldeahafcfaa
open Go Go.RowKit
set_option maxHeartbeats 2000000
set_option maxRecDepth 100000
set_option linter.unusedSimpArgs false
set_option linter.unusedVariables false
def f_graph_fits_J1 (g_0 : GGraph) : Option Bool :=
  bindO (f_slices_ContainsFunc_Edge g_0.Edges (fun x0_ => f_graph_fits_2 x0_)) (fun (v_8 : Bool) =>
  some (!v_8))
def f_graph_fits_B2 (g_0 : GGraph) (rec_2 : Int → Option Bool) : Int → Option Bool :=
  fun t62_3 =>
  (if (decide (t62_3 < (List.length g_0.Nodes : Int))) = true then bindO (idx g_0.Nodes t62_3) (fun (xv_7 : GNode) =>
  bindO (f_graph_small ([xv_7.Kind, xv_7.Scope] : List Int)) (fun (v_13 : Bool) =>
  (if ((!v_13) || (decide (64 < (List.length xv_7.Prog : Int)))) = true then some false
  else bindO (f_slices_ContainsFunc_Ins xv_7.Prog (fun x0_ => f_graph_fits_1 x0_)) (fun (v_14 : Bool) =>
  (if v_14 = true then some false
  else rec_2 (IntKind.i64.wrap (t62_3 + 1)))))))
  else f_graph_fits_J1 g_0)
def f_graph_fits (g_0 : GGraph) : Option Bool :=
  (if (((decide ((List.length g_0.Parent : Int) < 1)) || (decide (8 < (List.length g_0.Parent : Int)))) || (!((List.length g_0.Bound : Int) == (List.length g_0.Parent : Int)))) = true then some false
  else bindO (idx g_0.Parent 0) (fun (xv_0 : Int) =>
  (if (xv_0 == (-1)) = true then bindO (idx g_0.Bound 0) (fun (xv_1 : Int) =>
  (if (xv_1 == 0) = true then guardO (0 ≤ 1 ∧ 1 ≤ (List.length g_0.Parent : Int) ∧ (List.length g_0.Parent : Int) ≤ (List.length g_0.Parent : Int)) (
  bindO (f_graph_small (List.drop (Int.toNat 1) (List.take (List.length g_0.Parent) g_0.Parent))) (fun (v_0 : Bool) =>
  (if v_0 = true then bindO (f_graph_small g_0.Bound) (fun (v_1 : Bool) =>
  (if (!v_1) = true then some false
  else (if ((decide (32 < (List.length g_0.Nodes : Int))) || (decide (64 < (List.length g_0.Edges : Int)))) = true then some false
  else loopK (f_graph_fits_B2 g_0) rounds 0)))
  else some false)))
  else some false))
  else some false)))
theorem f_graph_fits_ok (g_0 : GGraph)  (r : Bool) (h : f_graph_fits g_0 = some r) : PureS Try.prog 54 [.agg [.sl 1 (enc g_0.Parent), .sl 1 (enc g_0.Bound), .sl 4 (enc g_0.Nodes), .sl 4 (enc g_0.Edges)]] 0 (.v (.bool r)) := by
  unfold PureS
  refine Spec.of_vc Try.func54 rfl (by kernel_rfl) (by kernel_rfl) ?_
  rw [f_graph_fits] at h
  refine vc_seq_gen (by kernel_rfl) ?_
  intro QQ1 hQ1
  simp only [go_sem, Try.ntmps54, Try.results54]
  refine seqQ_normal hQ1 ?_
  refine vc_seq_gen (by kernel_rfl) ?_
  intro QQ2 hQ2
  simp only [go_sem, Try.ntmps54, Try.results54]
  refine And.intro (by omega) ?_
  refine seqQ_normal hQ2 ?_
  refine vc_seq_gen (by kernel_rfl) ?_
  intro QQ3 hQ3
  refine vc_seq_gen (by kernel_rfl) ?_
  intro QQ4 hQ4
  simp only [go_sem, Try.ntmps54, Try.results54]
  refine And.intro (by (intros; (repeat' apply And.intro) <;> first | assumption | omega)) ?_
  rcases hb_0 : (((decide ((List.length g_0.Parent : Int) < 1)) || (decide (8 < (List.length g_0.Parent : Int)))) || (!((List.length g_0.Bound : Int) == (List.length g_0.Parent : Int)))) with _ | _
  ·
    replace h := if_f h hb_0
    obtain ⟨xv_0, exv_0, h⟩ := bindO_some h
    obtain ⟨fxv_0a, fxv_0b, fxv_0c⟩ := idx_spec exv_0
    simp only [Int.toNat_natCast, Int.reduceToNat] at fxv_0c
    simp only [go_sem, Try.ntmps54, Try.results54, hb_0, fxv_0a, fxv_0b, fxv_0c]
    refine And.intro (by omega) ?_
    rcases hb_1 : (xv_0 == (-1)) with _ | _
    ·
      replace h := if_f h hb_1
      simp only [go_sem, Try.ntmps54, Try.results54, hb_1]
      refine seqQ_normal hQ4 ?_
      refine vc_cond_t (by (simp only [go_sem]; done)) ?_
      refine vc_seq_gen (by kernel_rfl) ?_
      intro QQ5 hQ5
      simp only [go_sem, Try.ntmps54, Try.results54]
      refine seqQ_normal hQ5 ?_
      refine vc_ret_of ?_
      refine seqQ_ret hQ3 ?_
      simp only [go_sem, Try.ntmps54, Try.results54]
      obtain rfl := Option.some.inj h
      refine retW_pure rfl ?_
      simp only [go_sem, Le]
    ·
      replace h := if_t h hb_1
      obtain ⟨xv_1, exv_1, h⟩ := bindO_some h
      obtain ⟨fxv_1a, fxv_1b, fxv_1c⟩ := idx_spec exv_1
      simp only [Int.toNat_natCast, Int.reduceToNat] at fxv_1c
      simp only [go_sem, Try.ntmps54, Try.results54, hb_1, fxv_1a, fxv_1b, fxv_1c]
      refine And.intro (by omega) ?_
      refine And.intro (by omega) ?_
      rcases hb_2 : (xv_1 == 0) with _ | _
      ·
        replace h := if_f h hb_2
        simp only [go_sem, Try.ntmps54, Try.results54, hb_2]
        refine seqQ_normal hQ4 ?_
        refine vc_cond_t (by (simp only [go_sem]; done)) ?_
        refine vc_seq_gen (by kernel_rfl) ?_
        intro QQ6 hQ6
        simp only [go_sem, Try.ntmps54, Try.results54]
        refine seqQ_normal hQ6 ?_
        refine vc_ret_of ?_
        refine seqQ_ret hQ3 ?_
        simp only [go_sem, Try.ntmps54, Try.results54]
        obtain rfl := Option.some.inj h
        refine retW_pure rfl ?_
        simp only [go_sem, Le]
      ·
        replace h := if_t h hb_2
        obtain ⟨g_1, h⟩ := guardO_some h
        obtain ⟨v_0, ev_0, h⟩ := bindO_some h
        simp only [go_sem, Try.ntmps54, Try.results54, hb_2, g_1]
        refine call0 (f_graph_small_ok (List.drop (Int.toNat 1) (List.take (List.length g_0.Parent) g_0.Parent)) v_0 ev_0) (by rfl) (by rfl) ?_
        simp only [go_sem, Try.ntmps54, Try.results54]
        rcases hb_3 : v_0 with _ | _
        ·
          replace h := if_f h hb_3
          simp only [go_sem, Try.ntmps54, Try.results54, hb_3]
          refine seqQ_normal hQ4 ?_
          refine vc_cond_t (by (simp only [go_sem]; done)) ?_
          refine vc_seq_gen (by kernel_rfl) ?_
          intro QQ7 hQ7
          simp only [go_sem, Try.ntmps54, Try.results54]
          refine seqQ_normal hQ7 ?_
          refine vc_ret_of ?_
          refine seqQ_ret hQ3 ?_
          simp only [go_sem, Try.ntmps54, Try.results54]
          obtain rfl := Option.some.inj h
          refine retW_pure rfl ?_
          simp only [go_sem, Le]
        ·
          replace h := if_t h hb_3
          obtain ⟨v_1, ev_1, h⟩ := bindO_some h
          simp only [go_sem, Try.ntmps54, Try.results54, hb_3]
          refine call0 (f_graph_small_ok g_0.Bound v_1 ev_1) (by rfl) (by rfl) ?_
          simp only [go_sem, Try.ntmps54, Try.results54]
          refine seqQ_normal hQ4 ?_
          refine vc_cond_of (b := (!v_1)) (by (simp only [go_sem]; done)) (fun hb_4 => ?_) (fun hb_4 => ?_)
          ·
            replace h := if_t h hb_4
            simp only [decide_eq_true_eq, decide_eq_false_iff_not, Bool.not_eq_true', Bool.not_eq_false', beq_iff_eq, beq_eq_false_iff_ne, ne_eq, Bool.and_eq_true, Bool.or_eq_true, Int.not_lt, Int.not_le] at hb_4
            refine vc_seq_gen (by kernel_rfl) ?_
            intro QQ8 hQ8
            simp only [go_sem, Try.ntmps54, Try.results54]
            refine seqQ_normal hQ8 ?_
            refine vc_ret_of ?_
            refine seqQ_ret hQ3 ?_
            simp only [go_sem, Try.ntmps54, Try.results54]
            obtain rfl := Option.some.inj h
            refine retW_pure rfl ?_
            simp only [go_sem, Le]
          ·
            replace h := if_f h hb_4
            simp only [decide_eq_true_eq, decide_eq_false_iff_not, Bool.not_eq_true', Bool.not_eq_false', beq_iff_eq, beq_eq_false_iff_ne, ne_eq, Bool.and_eq_true, Bool.or_eq_true, Int.not_lt, Int.not_le] at hb_4
            refine vc_skip_of ?_
            refine seqQ_normal hQ3 ?_
            refine vc_seq_gen (by kernel_rfl) ?_
            intro QQ9 hQ9
            refine vc_seq_gen (by kernel_rfl) ?_
            intro QQ10 hQ10
            simp only [go_sem, Try.ntmps54, Try.results54]
            refine seqQ_normal hQ10 ?_
            refine vc_cond_of (b := ((decide (32 < (List.length g_0.Nodes : Int))) || (decide (64 < (List.length g_0.Edges : Int))))) (by (simp only [go_sem]; done)) (fun hb_5 => ?_) (fun hb_5 => ?_)
            ·
              replace h := if_t h hb_5
              simp only [decide_eq_true_eq, decide_eq_false_iff_not, Bool.not_eq_true', Bool.not_eq_false', beq_iff_eq, beq_eq_false_iff_ne, ne_eq, Bool.and_eq_true, Bool.or_eq_true, Int.not_lt, Int.not_le] at hb_5
              refine vc_seq_gen (by kernel_rfl) ?_
              intro QQ11 hQ11
              simp only [go_sem, Try.ntmps54, Try.results54]
              refine seqQ_normal hQ11 ?_
              refine vc_ret_of ?_
              refine seqQ_ret hQ9 ?_
              simp only [go_sem, Try.ntmps54, Try.results54]
              obtain rfl := Option.some.inj h
              refine retW_pure rfl ?_
              simp only [go_sem, Le]
            ·
              replace h := if_f h hb_5
              refine vc_skip_of ?_
              refine seqQ_normal hQ9 ?_
              refine vc_join (by kernel_rfl) ?_
              refine seq_cut_gen (ι := Unit) (fun (_ : Unit) => (⟨0, [(1, .ptr 0 0)], [(0, .box [.sl 1 (enc g_0.Parent), .sl 1 (enc g_0.Bound), .sl 4 (enc g_0.Nodes), .sl 4 (enc g_0.Edges)])], 1, 89⟩ : St)) (fun (_ : Unit) => f_graph_fits_J1 g_0 = some r) ?_ ?_
              ·
                intro QQ13 hQ13
                refine vc_seq_gen (by kernel_rfl) ?_
                intro QQ14 hQ14
                simp only [go_sem, Try.ntmps54, Try.results54]
                refine seqQ_normal hQ14 ?_
                refine vc_block_gen ?_
                intro QQ15 hQ15
                refine vc_loop_of ?_
                refine loop_gen (ι := Nat × Int) (fun ((_, t62_3) : Nat × Int) => (⟨0, [(1, .ptr 0 0), (60, .sl 4 (enc g_0.Nodes)), (61, .v (.int .i64 (List.length g_0.Nodes : Int))), (62, .v (.int .i64 t62_3))], [(0, .box [.sl 1 (enc g_0.Parent), .sl 1 (enc g_0.Bound), .sl 4 (enc g_0.Nodes), .sl 4 (enc g_0.Edges)])], 1, 89⟩ : St)) (fun ((n_, t62_3) : Nat × Int) => loopK (f_graph_fits_B2 g_0) n_ t62_3 = some r) (fun p => p.1) (rounds, 0) [some 0] ?_ h ?_
                · simp only [go_sem, Le]
                · rintro ⟨n_2, t62_3⟩ h QQ16 hQ16
                  dsimp only at h
                  replace h := loopK_some h
                  obtain ⟨m_2, rfl, h⟩ := h
                  rw [f_graph_fits_B2] at h
                  refine vc_seq_gen (by kernel_rfl) ?_
                  intro QQ17 hQ17
                  simp only [go_sem, Try.ntmps54, Try.results54]
                  refine seqQ_normal hQ17 ?_
                  refine vc_seq_gen (by kernel_rfl) ?_
                  intro QQ18 hQ18
                  refine vc_cond_of (b := (decide (t62_3 < (List.length g_0.Nodes : Int)))) (by (simp only [go_sem]; done)) (fun hb_21 => ?_) (fun hb_21 => ?_)
                  ·
                    replace h := if_t h hb_21
                    simp only [decide_eq_true_eq, decide_eq_false_iff_not, Bool.not_eq_true', Bool.not_eq_false', beq_iff_eq, beq_eq_false_iff_ne, ne_eq, Bool.and_eq_true, Bool.or_eq_true, Int.not_lt, Int.not_le] at hb_21
                    refine vc_skip_of ?_
                    refine seqQ_normal hQ18 ?_
                    refine vc_seq_gen (by kernel_rfl) ?_
                    intro QQ19 hQ19
                    refine vc_block_gen ?_
                    intro QQ20 hQ20
                    refine vc_seq_gen (by kernel_rfl) ?_
                    intro QQ21 hQ21
                    obtain ⟨xv_7, exv_7, h⟩ := bindO_some h
                    obtain ⟨fxv_7a, fxv_7b, fxv_7c⟩ := idx_spec exv_7
                    simp only [go_sem, Try.ntmps54, Try.results54, fxv_7a, fxv_7b, fxv_7c]
                    refine And.intro (by omega) ?_
                    refine seqQ_normal hQ21 ?_
                    refine vc_seq_gen (by kernel_rfl) ?_
                    intro QQ22 hQ22
                    have rf_5 : [[.v (.int .i64 xv_7.Kind)], [.v (.int .i64 xv_7.Scope)]] = enc ([xv_7.Kind, xv_7.Scope] : List Int) := by rfl
                    obtain ⟨v_13, ev_13, h⟩ := bindO_some h
                    simp only [go_sem, Try.ntmps54, Try.results54]
                    refine And.intro (by omega) ?_
                    simp only [rf_5]
                    refine callF_weak (s' := (⟨0, [(1, .ptr 0 0), (5, .ptr 1 0), (60, .sl 4 (enc g_0.Nodes)), (61, .v (.int .i64 (List.length g_0.Nodes : Int))), (62, .v (.int .i64 t62_3)), (63, .v (.bool (decide (t62_3 < (List.length g_0.Nodes : Int))))), (64, .el 4 (enc g_0.Nodes) (Int.toNat t62_3) 0), (65, .agg [.v (.int .i64 xv_7.Kind), .v (.int .i64 xv_7.Scope), .v (.int .i64 xv_7.Arg), .sl 2 (enc xv_7.Prog)]), (66, .ptr 1 0), (67, .v (.int .i64 xv_7.Kind)), (68, .ptr 1 1), (69, .v (.int .i64 xv_7.Scope)), (70, .sl 1 (enc ([xv_7.Kind, xv_7.Scope] : List Int)))], [(0, .box [.sl 1 (enc g_0.Parent), .sl 1 (enc g_0.Bound), .sl 4 (enc g_0.Nodes), .sl 4 (enc g_0.Edges)]), (1, .box [.v (.int .i64 xv_7.Kind), .v (.int .i64 xv_7.Scope), .v (.int .i64 xv_7.Arg), .sl 2 (enc xv_7.Prog)])], 2, 89⟩ : St)) (l := [some 0, some 1]) (args' := [.sl 1 (enc ([xv_7.Kind, xv_7.Scope] : List Int))]) ?_ ?_ (call0 (f_graph_small_ok ([xv_7.Kind, xv_7.Scope] : List Int) v_13 ev_13) (by rfl) (by rfl) ?_)
                    · simp only [go_sem, Le] <;> (repeat' apply And.intro) <;> first | rfl | (simp [go_sem]; done) | (simp [enc_len, enc]; omega)
                    · simp only [go_sem, Le] <;> (repeat' apply And.intro) <;> (simp [go_sem]; done)
                    simp only [go_sem, Try.ntmps54, Try.results54]
                    rcases hb_22 : ((!v_13) || (decide (64 < (List.length xv_7.Prog : Int)))) with _ | _
                    ·
                      replace h := if_f h hb_22
                      obtain ⟨v_14, ev_14, h⟩ := bindO_some h
                      simp only [go_sem, Try.ntmps54, Try.results54, hb_22]
                      refine call0 (f_slices_ContainsFunc_Ins_ok xv_7.Prog (fun x0_ => f_graph_fits_1 x0_) 81 [] (by rfl) (by kernel_rfl) (fun y0 r_ e_ => f_graph_fits_1_ok y0 r_ e_) v_14 ev_14) (by rfl) (by rfl) ?_
                      simp only [go_sem, Try.ntmps54, Try.results54]
                      refine seqQ_normal hQ22 ?_
                      refine vc_cond_of (b := v_14) (by (simp only [go_sem]; done)) (fun hb_23 => ?_) (fun hb_23 => ?_)
                      ·
                        replace h := if_t h hb_23
                        refine vc_seq_gen (by kernel_rfl) ?_
                        intro QQ23 hQ23
                        simp only [go_sem, Try.ntmps54, Try.results54]
                        refine seqQ_normal hQ23 ?_
                        refine vc_ret_of ?_
                        refine blockQ_ret hQ20 ?_
                        refine seqQ_ret hQ19 ?_
                        refine thenQ_ret hQ16 ?_
                        refine blockQ_ret hQ15 ?_
                        refine thenQ_ret hQ13 ?_
                        simp only [go_sem, Try.ntmps54, Try.results54]
                        obtain rfl := Option.some.inj h
                        refine retW_pure rfl ?_
                        simp only [go_sem, Le]
                      ·
                        replace h := if_f h hb_23
                        refine vc_skip_of ?_
                        refine blockQ_normal hQ20 ?_
                        refine seqQ_normal hQ19 ?_
                        simp only [go_sem, Try.ntmps54, Try.results54]
                        refine thenQ_normal hQ16 ?_
                        refine ⟨(m_2, IntKind.i64.wrap (t62_3 + 1)), [some 0], ?_, h, Nat.lt_succ_self _⟩
                        simp only [go_sem, Le]
                    ·
                      replace h := if_t h hb_22
                      simp only [go_sem, Try.ntmps54, Try.results54, hb_22]
                      refine seqQ_normal hQ22 ?_
                      refine vc_cond_t (by (simp only [go_sem]; done)) ?_
                      refine vc_seq_gen (by kernel_rfl) ?_
                      intro QQ24 hQ24
                      simp only [go_sem, Try.ntmps54, Try.results54]
                      refine seqQ_normal hQ24 ?_
                      refine vc_ret_of ?_
                      refine blockQ_ret hQ20 ?_
                      refine seqQ_ret hQ19 ?_
                      refine thenQ_ret hQ16 ?_
                      refine blockQ_ret hQ15 ?_
                      refine thenQ_ret hQ13 ?_
                      simp only [go_sem, Try.ntmps54, Try.results54]
                      obtain rfl := Option.some.inj h
                      refine retW_pure rfl ?_
                      simp only [go_sem, Le]
                  ·
                    replace h := if_f h hb_21
                    simp only [decide_eq_true_eq, decide_eq_false_iff_not, Bool.not_eq_true', Bool.not_eq_false', beq_iff_eq, beq_eq_false_iff_ne, ne_eq, Bool.and_eq_true, Bool.or_eq_true, Int.not_lt, Int.not_le] at hb_21
                    refine vc_exit_of ?_
                    refine seqQ_exit hQ18 ?_
                    refine thenQ_exit hQ16 ?_
                    refine blockQ_exit hQ15 ?_
                    refine thenQ_normal hQ13 ?_
                    refine ⟨(), [some 0], ?_, h⟩
                    simp only [go_sem, Le]
              · rintro ⟨⟩ h
                try dsimp only at h
                rw [f_graph_fits_J1] at h
                refine vc_seq_gen (by kernel_rfl) ?_
                intro QQ12 hQ12
                obtain ⟨v_8, ev_8, h⟩ := bindO_some h
                simp only [go_sem, Try.ntmps54, Try.results54]
                refine call0 (f_slices_ContainsFunc_Edge_ok g_0.Edges (fun x0_ => f_graph_fits_2 x0_) 83 [] (by rfl) (by kernel_rfl) (fun y0 r_ e_ => f_graph_fits_2_ok y0 r_ e_) v_8 ev_8) (by rfl) (by rfl) ?_
                simp only [go_sem, Try.ntmps54, Try.results54]
                refine seqQ_normal hQ12 ?_
                refine vc_ret_of ?_
                simp only [go_sem, Try.ntmps54, Try.results54]
                obtain rfl := Option.some.inj h
                refine retW_pure rfl ?_
                simp only [go_sem, Le]
  ·
    replace h := if_t h hb_0
    simp only [go_sem, Try.ntmps54, Try.results54, hb_0]
    refine seqQ_normal hQ4 ?_
    refine vc_cond_t (by (simp only [go_sem]; done)) ?_
    refine vc_seq_gen (by kernel_rfl) ?_
    intro QQ25 hQ25
    simp only [go_sem, Try.ntmps54, Try.results54]
    refine seqQ_normal hQ25 ?_
    refine vc_ret_of ?_
    refine seqQ_ret hQ3 ?_
    simp only [go_sem, Try.ntmps54, Try.results54]
    obtain rfl := Option.some.inj h
    refine retW_pure rfl ?_
    simp only [go_sem, Le]
end Go.Proofs.Ytngeldeahafcfaa

namespace Go.Proofs.Ytngeldeahafcfaa
open Go Go.RowKit
set_option maxHeartbeats 2000000
set_option maxRecDepth 100000
set_option linter.unusedSimpArgs false
set_option linter.unusedVariables false
def f_graph_writer_add_B1 (l_0 : List Int) (rec_1 : Int × (List UInt8) → Option GGraph_writer) : Int × (List UInt8) → Option GGraph_writer :=
  fun (t8_1, b_1) =>
  (if (decide (t8_1 < (List.length l_0 : Int))) = true then bindO (idx l_0 t8_1) (fun (xv_2 : Int) =>
  bindO (f_wire_Uint b_1 (IntKind.u64.wrap xv_2)) (fun (v_2 : List UInt8) =>
  rec_1 (IntKind.i64.wrap (t8_1 + 1), v_2)))
  else some (⟨b_1⟩ : GGraph_writer))
def f_graph_writer_add (w_0 : GGraph_writer) (l_0 : List Int) : Option GGraph_writer :=
  loopK (f_graph_writer_add_B1 l_0) rounds (0, w_0.b)
theorem f_graph_writer_add_ok (w_0 : GGraph_writer) (l_0 : List Int)  (r : GGraph_writer) (h : f_graph_writer_add w_0 l_0 = some r) : MutS Try.prog 55 (fun i_ => [.ptr i_ 0, .sl 1 (enc l_0)]) [.sl 1 (enc w_0.b)] (.tup []) [.sl 1 (enc r.b)] := by
  unfold MutS; dsimp only
  refine Spec.of_vc Try.func55 rfl (by kernel_rfl) (by kernel_rfl) ?_
  rw [f_graph_writer_add] at h
  refine vc_seq_gen (by kernel_rfl) ?_
  intro QQ1 hQ1
  simp only [go_sem, Try.ntmps55, Try.results55]
  refine seqQ_normal hQ1 ?_
  refine vc_block_gen ?_
  intro QQ2 hQ2
  refine vc_loop_of ?_
  refine loop_gen (ι := Nat × Int × (List UInt8)) (fun ((_, t8_1, b_1) : Nat × Int × (List UInt8)) => (⟨1, [(0, .ptr 0 0), (6, .sl 1 (enc l_0)), (7, .v (.int .i64 (List.length l_0 : Int))), (8, .v (.int .i64 t8_1))], [(0, .box [.sl 1 (enc b_1)])], 1, 23⟩ : St)) (fun ((n_, t8_1, b_1) : Nat × Int × (List UInt8)) => loopK (f_graph_writer_add_B1 l_0) n_ (t8_1, b_1) = some r) (fun p => p.1) (rounds, 0, w_0.b) [] ?_ h ?_
  · simp only [go_sem, Le]
  · rintro ⟨n_1, t8_1, b_1⟩ h QQ3 hQ3
    dsimp only at h
    replace h := loopK_some h
    obtain ⟨m_1, rfl, h⟩ := h
    rw [f_graph_writer_add_B1] at h
    refine vc_seq_gen (by kernel_rfl) ?_
    intro QQ4 hQ4
    simp only [go_sem, Try.ntmps55, Try.results55]
    refine seqQ_normal hQ4 ?_
    refine vc_seq_gen (by kernel_rfl) ?_
    intro QQ5 hQ5
    refine vc_cond_of (b := (decide (t8_1 < (List.length l_0 : Int)))) (by (simp only [go_sem]; done)) (fun hb_2 => ?_) (fun hb_2 => ?_)
    ·
      replace h := if_t h hb_2
      simp only [decide_eq_true_eq, decide_eq_false_iff_not, Bool.not_eq_true', Bool.not_eq_false', beq_iff_eq, beq_eq_false_iff_ne, ne_eq, Bool.and_eq_true, Bool.or_eq_true, Int.not_lt, Int.not_le] at hb_2
      refine vc_skip_of ?_
      refine seqQ_normal hQ5 ?_
      refine vc_seq_gen (by kernel_rfl) ?_
      intro QQ6 hQ6
      refine vc_block_gen ?_
      intro QQ7 hQ7
      refine vc_seq_gen (by kernel_rfl) ?_
      intro QQ8 hQ8
      obtain ⟨xv_2, exv_2, h⟩ := bindO_some h
      obtain ⟨fxv_2a, fxv_2b, fxv_2c⟩ := idx_spec exv_2
      simp only [go_sem, Try.ntmps55, Try.results55, fxv_2a, fxv_2b, fxv_2c]
      refine And.intro (by omega) ?_
      refine seqQ_normal hQ8 ?_
      obtain ⟨v_2, ev_2, h⟩ := bindO_some h
      simp only [go_sem, Try.ntmps55, Try.results55]
      refine callo (f_wire_Uint_own b_1 (IntKind.u64.wrap xv_2) v_2 ev_2) (by rfl) (by rfl) ?_
      simp only [go_sem, Try.ntmps55, Try.results55]
      refine blockQ_normal hQ7 ?_
      refine seqQ_normal hQ6 ?_
      simp only [go_sem, Try.ntmps55, Try.results55]
      refine thenQ_normal hQ3 ?_
      refine ⟨(m_1, IntKind.i64.wrap (t8_1 + 1), v_2), [], ?_, h, Nat.lt_succ_self _⟩
      simp only [go_sem, Le] <;> (repeat' apply And.intro) <;> (simp [go_sem]; done)
    ·
      replace h := if_f h hb_2
      simp only [decide_eq_true_eq, decide_eq_false_iff_not, Bool.not_eq_true', Bool.not_eq_false', beq_iff_eq, beq_eq_false_iff_ne, ne_eq, Bool.and_eq_true, Bool.or_eq_true, Int.not_lt, Int.not_le] at hb_2
      refine vc_exit_of ?_
      refine seqQ_exit hQ5 ?_
      refine thenQ_exit hQ3 ?_
      refine blockQ_exit hQ2 ?_
      simp only [go_sem, Try.ntmps55, Try.results55]
      obtain rfl := Option.some.inj h
      refine retW_mut rfl ?_
      simp only [go_sem, Le]
end Go.Proofs.Ytngeldeahafcfaa

namespace Go.Proofs.Ytngeldeahafcfaa
open Go Go.RowKit
set_option maxHeartbeats 2000000
set_option maxRecDepth 100000
set_option linter.unusedSimpArgs false
set_option linter.unusedVariables false
def f_graph_writer_sign (w_0 : GGraph_writer) (nv_0 : Int) : Option GGraph_writer :=
  bindO (f_wire_Int w_0.b nv_0) (fun (v_0 : List UInt8) =>
  some (⟨v_0⟩ : GGraph_writer))
theorem f_graph_writer_sign_ok (w_0 : GGraph_writer) (nv_0 : Int)  (r : GGraph_writer) (h : f_graph_writer_sign w_0 nv_0 = some r) : MutS Try.prog 56 (fun i_ => [.ptr i_ 0, .v (.int .i64 nv_0)]) [.sl 1 (enc w_0.b)] (.tup []) [.sl 1 (enc r.b)] := by
  unfold MutS; dsimp only
  refine Spec.of_vc Try.func56 rfl (by kernel_rfl) (by kernel_rfl) ?_
  rw [f_graph_writer_sign] at h
  obtain ⟨v_0, ev_0, h⟩ := bindO_some h
  simp only [go_sem, Try.ntmps56, Try.results56]
  refine callo (f_wire_Int_own w_0.b nv_0 v_0 ev_0) (by rfl) (by rfl) ?_
  simp only [go_sem, Try.ntmps56, Try.results56]
  obtain rfl := Option.some.inj h
  refine retW_mut rfl ?_
  simp only [go_sem, Le] <;> (repeat' apply And.intro) <;> (simp [go_sem]; done)
end Go.Proofs.Ytngeldeahafcfaa

namespace Go.Proofs.Ytngeldeahafcfaa
open Go Go.RowKit
set_option maxHeartbeats 2000000
set_option maxRecDepth 100000
set_option linter.unusedSimpArgs false
set_option linter.unusedVariables false
def f_graph_Put_J4 (t106_1 : Int) (b_13 : GGraph_writer) (rec_3 : (Int × GGraph_writer → Option ((List UInt8) × Int))) (xv_20 : GEdge) (flag_2 : Int) : Option ((List UInt8) × Int) :=
  bindO (f_graph_writer_add b_13 ([xv_20.From, xv_20.To, xv_20.Port, flag_2] : List Int)) (fun (v_36 : GGraph_writer) =>
  rec_3 (IntKind.i64.wrap (t106_1 + 1), v_36))
def f_graph_Put_B3 (g_0 : GGraph) (rec_3 : Int × GGraph_writer → Option ((List UInt8) × Int)) : Int × GGraph_writer → Option ((List UInt8) × Int) :=
  fun (t106_1, b_13) =>
  (if (decide (t106_1 < (List.length g_0.Edges : Int))) = true then bindO (idx g_0.Edges t106_1) (fun (xv_20 : GEdge) =>
  (if xv_20.Exchange = true then f_graph_Put_J4 t106_1 b_13 rec_3 xv_20 1
  else f_graph_Put_J4 t106_1 b_13 rec_3 xv_20 0))
  else some (b_13.b, 0))
def f_graph_Put_J2 (g_0 : GGraph) (b_11 : GGraph_writer) : Option ((List UInt8) × Int) :=
  bindO (f_graph_writer_add b_11 ([(List.length g_0.Edges : Int)] : List Int)) (fun (v_33 : GGraph_writer) =>
  loopK (f_graph_Put_B3 g_0) rounds (0, v_33))
def f_graph_Put_B6 (t58_3 : Int) (rec_5 : (Int × GGraph_writer → Option ((List UInt8) × Int))) (xv_29 : GNode) (rec_6 : Int × GGraph_writer → Option ((List UInt8) × Int)) : Int × GGraph_writer → Option ((List UInt8) × Int) :=
  fun (t82_11, b_21) =>
  (if (decide (t82_11 < (List.length xv_29.Prog : Int))) = true then bindO (idx xv_29.Prog t82_11) (fun (xv_32 : GIns) =>
  bindO (f_graph_writer_add b_21 ([xv_32.Op] : List Int)) (fun (v_62 : GGraph_writer) =>
  bindO (f_graph_writer_sign v_62 xv_32.N) (fun (v_63 : GGraph_writer) =>
  rec_6 (IntKind.i64.wrap (t82_11 + 1), v_63))))
  else rec_5 (IntKind.i64.wrap (t58_3 + 1), b_21))
def f_graph_Put_B5 (g_0 : GGraph) (rec_5 : Int × GGraph_writer → Option ((List UInt8) × Int)) : Int × GGraph_writer → Option ((List UInt8) × Int) :=
  fun (t58_3, b_19) =>
  (if (decide (t58_3 < (List.length g_0.Nodes : Int))) = true then bindO (idx g_0.Nodes t58_3) (fun (xv_29 : GNode) =>
  bindO (f_graph_writer_add b_19 ([xv_29.Kind, xv_29.Scope] : List Int)) (fun (v_55 : GGraph_writer) =>
  bindO (f_graph_writer_sign v_55 xv_29.Arg) (fun (v_56 : GGraph_writer) =>
  bindO (f_graph_writer_add v_56 ([(List.length xv_29.Prog : Int)] : List Int)) (fun (v_57 : GGraph_writer) =>
  loopK (f_graph_Put_B6 t58_3 rec_5 xv_29) rounds (0, v_57)))))
  else f_graph_Put_J2 g_0 b_19)
def f_graph_Put_J1 (g_0 : GGraph) (b_2 : GGraph_writer) : Option ((List UInt8) × Int) :=
  bindO (f_graph_writer_add b_2 ([(List.length g_0.Nodes : Int)] : List Int)) (fun (v_5 : GGraph_writer) =>
  loopK (f_graph_Put_B5 g_0) rounds (0, v_5))
def f_graph_Put_B7 (g_0 : GGraph) (rec_7 : Int × GGraph_writer → Option ((List UInt8) × Int)) : Int × GGraph_writer → Option ((List UInt8) × Int) :=
  fun (t30_3, b_23) =>
  (if (decide (t30_3 < (List.length (List.drop (Int.toNat 1) (List.take (List.length g_0.Parent) g_0.Parent)) : Int))) = true then bindO (idx g_0.Parent (IntKind.i64.wrap (1 + t30_3))) (fun (xv_37 : Int) =>
  bindO (idx g_0.Bound (IntKind.i64.wrap (1 + t30_3))) (fun (xv_38 : Int) =>
  bindO (f_graph_writer_add b_23 ([xv_37, xv_38] : List Int)) (fun (v_66 : GGraph_writer) =>
  rec_7 (IntKind.i64.wrap (t30_3 + 1), v_66))))
  else f_graph_Put_J1 g_0 b_23)
def f_graph_Put (g_0 : GGraph) : Option ((List UInt8) × Int) :=
  bindO (f_graph_fits g_0) (fun (v_0 : Bool) =>
  (if (!v_0) = true then some (([] : List UInt8), 1)
  else guardO (0 ≤ 66 ∧ 66 < 256) (
  guardO (0 ≤ 87 ∧ 87 < 256) (
  guardO (0 ≤ 49 ∧ 49 < 256) (
  bindO (f_graph_writer_add (⟨([toB 66, toB 87, toB 49] : List UInt8)⟩ : GGraph_writer) ([(List.length g_0.Parent : Int)] : List Int)) (fun (v_1 : GGraph_writer) =>
  guardO (0 ≤ 1 ∧ 1 ≤ (List.length g_0.Parent : Int) ∧ (List.length g_0.Parent : Int) ≤ (List.length g_0.Parent : Int)) (
  loopK (f_graph_Put_B7 g_0) rounds (0, v_1))))))))
theorem f_graph_Put_ok (g_0 : GGraph)  (r : (List UInt8) × Int) (h : f_graph_Put g_0 = some r) : PureS Try.prog 31 [.agg [.sl 1 (enc g_0.Parent), .sl 1 (enc g_0.Bound), .sl 4 (enc g_0.Nodes), .sl 4 (enc g_0.Edges)]] 0 (.tup [.sl 1 (enc r.1), .v (.int .i64 r.2)]) := by
  unfold PureS
  refine Spec.of_vc Try.func31 rfl (by kernel_rfl) (by kernel_rfl) ?_
  rw [f_graph_Put] at h
  refine vc_seq_gen (by kernel_rfl) ?_
  intro QQ1 hQ1
  simp only [go_sem, Try.ntmps31, Try.results31]
  refine seqQ_normal hQ1 ?_
  refine vc_seq_gen (by kernel_rfl) ?_
  intro QQ2 hQ2
  refine vc_seq_gen (by kernel_rfl) ?_
  intro QQ3 hQ3
  obtain ⟨v_0, ev_0, h⟩ := bindO_some h
  simp only [go_sem, Try.ntmps31, Try.results31]
  refine call0 (f_graph_fits_ok g_0 v_0 ev_0) (by rfl) (by rfl) ?_
  simp only [go_sem, Try.ntmps31, Try.results31]
  refine seqQ_normal hQ3 ?_
  refine vc_cond_of (b := (!v_0)) (by (simp only [go_sem]; done)) (fun hb_0 => ?_) (fun hb_0 => ?_)
  ·
    replace h := if_t h hb_0
    simp only [decide_eq_true_eq, decide_eq_false_iff_not, Bool.not_eq_true', Bool.not_eq_false', beq_iff_eq, beq_eq_false_iff_ne, ne_eq, Bool.and_eq_true, Bool.or_eq_true, Int.not_lt, Int.not_le] at hb_0
    refine vc_seq_gen (by kernel_rfl) ?_
    intro QQ4 hQ4
    simp only [go_sem, Try.ntmps31, Try.results31]
    refine seqQ_normal hQ4 ?_
    refine vc_ret_of ?_
    refine seqQ_ret hQ2 ?_
    simp only [go_sem, Try.ntmps31, Try.results31]
    obtain rfl := Option.some.inj h
    refine retW_pure rfl ?_
    simp only [go_sem, Le]
  ·
    replace h := if_f h hb_0
    simp only [decide_eq_true_eq, decide_eq_false_iff_not, Bool.not_eq_true', Bool.not_eq_false', beq_iff_eq, beq_eq_false_iff_ne, ne_eq, Bool.and_eq_true, Bool.or_eq_true, Int.not_lt, Int.not_le] at hb_0
    refine vc_skip_of ?_
    refine seqQ_normal hQ2 ?_
    refine vc_seq_gen (by kernel_rfl) ?_
    intro QQ5 hQ5
    obtain ⟨g_1, h⟩ := guardO_some h
    obtain ⟨g_2, h⟩ := guardO_some h
    obtain ⟨g_3, h⟩ := guardO_some h
    have rf_0 : [[.v (.int .u8 66)], [.v (.int .u8 87)], [.v (.int .u8 49)]] = enc ([toB 66, toB 87, toB 49] : List UInt8) := by rfl
    simp only [go_sem, Try.ntmps31, Try.results31, g_1, g_2, g_3]
    simp only [rf_0]
    refine seqQ_normal hQ5 ?_
    refine vc_seq_gen (by kernel_rfl) ?_
    intro QQ6 hQ6
    have rf_1 : [[.v (.int .i64 (List.length g_0.Parent : Int))]] = enc ([(List.length g_0.Parent : Int)] : List Int) := by rfl
    obtain ⟨v_1, ev_1, h⟩ := bindO_some h
    simp only [go_sem, Try.ntmps31, Try.results31]
    refine And.intro (by omega) ?_
    simp only [rf_1]
    refine callF_weak (s' := (⟨0, [(0, .agg [.sl 1 (enc g_0.Parent), .sl 1 (enc g_0.Bound), .sl 4 (enc g_0.Nodes), .sl 4 (enc g_0.Edges)]), (1, .ptr 0 0), (2, .v (.slice none 0 0)), (3, .v (.int .i64 0)), (4, .ptr 1 0), (13, .agg [.sl 1 (enc g_0.Parent), .sl 1 (enc g_0.Bound), .sl 4 (enc g_0.Nodes), .sl 4 (enc g_0.Edges)]), (14, .v (.bool v_0)), (15, .v (.bool (!v_0))), (17, .sl 1 (enc ([toB 66, toB 87, toB 49] : List UInt8))), (18, .agg [.sl 1 (enc ([toB 66, toB 87, toB 49] : List UInt8))]), (19, .ptr 1 0), (20, .ptr 1 0), (21, .ptr 0 0), (22, .sl 1 (enc g_0.Parent)), (23, .v (.int .i64 (List.length g_0.Parent : Int))), (24, .sl 1 (enc ([(List.length g_0.Parent : Int)] : List Int)))], [(0, .box [.sl 1 (enc g_0.Parent), .sl 1 (enc g_0.Bound), .sl 4 (enc g_0.Nodes), .sl 4 (enc g_0.Edges)]), (1, .box [.sl 1 (enc ([toB 66, toB 87, toB 49] : List UInt8))])], 2, 127⟩ : St)) (l := [some 0, some 2]) (args' := [.ptr 1 0, .sl 1 (enc ([(List.length g_0.Parent : Int)] : List Int))]) ?_ ?_ ?_
    · simp only [go_sem, Le] <;> (repeat' apply And.intro) <;> first | rfl | (simp [go_sem]; done)
    · simp only [go_sem, Le] <;> (repeat' apply And.intro) <;> first | rfl | (simp [go_sem]; done)
    refine callm (id := 1) (f_graph_writer_add_ok (⟨([toB 66, toB 87, toB 49] : List UInt8)⟩ : GGraph_writer) ([(List.length g_0.Parent : Int)] : List Int) v_1 ev_1) rfl (by simp) (by simp) rfl rfl rfl rfl rfl rfl ?_
    simp only [go_sem, Try.ntmps31, Try.results31]
    refine seqQ_normal hQ6 ?_
    refine vc_join (by kernel_rfl) ?_
    refine seq_cut_gen (ι := GGraph_writer) (fun (b_2 : GGraph_writer) => (⟨0, [(1, .ptr 0 0), (4, .ptr 1 0)], [(0, .box [.sl 1 (enc g_0.Parent), .sl 1 (enc g_0.Bound), .sl 4 (enc g_0.Nodes), .sl 4 (enc g_0.Edges)]), (1, .box [.sl 1 (enc b_2.b)])], 2, 127⟩ : St)) (fun (b_2 : GGraph_writer) => f_graph_Put_J1 g_0 b_2 = some r) ?_ ?_
    ·
      intro QQ43 hQ43
      refine vc_seq_gen (by kernel_rfl) ?_
      intro QQ44 hQ44
      obtain ⟨g_5, h⟩ := guardO_some h
      simp only [go_sem, Try.ntmps31, Try.results31, g_5]
      refine And.intro (by omega) ?_
      refine seqQ_normal hQ44 ?_
      refine vc_block_gen ?_
      intro QQ45 hQ45
      refine vc_loop_of ?_
      refine loop_gen (ι := Nat × Int × GGraph_writer) (fun ((_, t30_3, b_23) : Nat × Int × GGraph_writer) => (⟨0, [(1, .ptr 0 0), (4, .ptr 1 0), (29, .v (.int .i64 (List.length (List.drop (Int.toNat 1) (List.take (List.length g_0.Parent) g_0.Parent)) : Int))), (30, .v (.int .i64 t30_3))], [(0, .box [.sl 1 (enc g_0.Parent), .sl 1 (enc g_0.Bound), .sl 4 (enc g_0.Nodes), .sl 4 (enc g_0.Edges)]), (1, .box [.sl 1 (enc b_23.b)])], 2, 127⟩ : St)) (fun ((n_, t30_3, b_23) : Nat × Int × GGraph_writer) => loopK (f_graph_Put_B7 g_0) n_ (t30_3, b_23) = some r) (fun p => p.1) (rounds, 0, v_1) [some 0, some 1] ?_ h ?_
      · simp only [go_sem, Le] <;> (repeat' apply And.intro) <;> first | rfl | (simp [go_sem]; done)
      · rintro ⟨n_7, t30_3, b_23⟩ h QQ46 hQ46
        dsimp only at h
        replace h := loopK_some h
        obtain ⟨m_7, rfl, h⟩ := h
        rw [f_graph_Put_B7] at h
        refine vc_seq_gen (by kernel_rfl) ?_
        intro QQ47 hQ47
        simp only [go_sem, Try.ntmps31, Try.results31]
        refine seqQ_normal hQ47 ?_
        refine vc_seq_gen (by kernel_rfl) ?_
        intro QQ48 hQ48
        refine vc_cond_of (b := (decide (t30_3 < (List.length (List.drop (Int.toNat 1) (List.take (List.length g_0.Parent) g_0.Parent)) : Int)))) (by (simp only [go_sem]; done)) (fun hb_39 => ?_) (fun hb_39 => ?_)
        ·
          replace h := if_t h hb_39
          simp only [decide_eq_true_eq, decide_eq_false_iff_not, Bool.not_eq_true', Bool.not_eq_false', beq_iff_eq, beq_eq_false_iff_ne, ne_eq, Bool.and_eq_true, Bool.or_eq_true, Int.not_lt, Int.not_le] at hb_39
          refine vc_skip_of ?_
          refine seqQ_normal hQ48 ?_
          refine vc_seq_gen (by kernel_rfl) ?_
          intro QQ49 hQ49
          refine vc_block_gen ?_
          intro QQ50 hQ50
          refine vc_seq_gen (by kernel_rfl) ?_
          intro QQ51 hQ51
          simp only [go_sem, Try.ntmps31, Try.results31]
          refine seqQ_normal hQ51 ?_
          refine vc_draw ?_
          refine drawM_tail 14 [0, 0, 2, 0, 8, 30, 62, 0, 128, 0, 512, 1920, 3968, 8190, 16383] mixed (by kernel_rfl) (of_decide_eq_true (by kernel_rfl)) (by kernel_rfl) ?_
          obtain ⟨xv_37, exv_37, h⟩ := bindO_some h
          obtain ⟨fxv_37a, fxv_37b, fxv_37c⟩ := idx_spec exv_37
          obtain ⟨xv_38, exv_38, h⟩ := bindO_some h
          obtain ⟨fxv_38a, fxv_38b, fxv_38c⟩ := idx_spec exv_38
          have rf_42 : [[.v (.int .i64 xv_37)], [.v (.int .i64 xv_38)]] = enc ([xv_37, xv_38] : List Int) := by rfl
          obtain ⟨v_66, ev_66, h⟩ := bindO_some h
          simp only [go_sem, Try.ntmps31, Try.results31, fxv_37a, fxv_37b, fxv_37c, fxv_38a, fxv_38b, fxv_38c]
          refine And.intro (by omega) ?_
          refine And.intro (by omega) ?_
          refine And.intro (by omega) ?_
          simp only [rf_42]
          refine callm (id := 1) (f_graph_writer_add_ok b_23 ([xv_37, xv_38] : List Int) v_66 ev_66) rfl (by simp) (by simp) rfl rfl rfl rfl rfl rfl ?_
          simp only [go_sem, Try.ntmps31, Try.results31]
          refine blockQ_normal hQ50 ?_
          refine seqQ_normal hQ49 ?_
          simp only [go_sem, Try.ntmps31, Try.results31]
          refine thenQ_normal hQ46 ?_
          refine ⟨(m_7, IntKind.i64.wrap (t30_3 + 1), v_66), [some 0, some 1], ?_, h, Nat.lt_succ_self _⟩
          simp only [go_sem, Le] <;> (repeat' apply And.intro) <;> first | rfl | (simp [go_sem]; done)
        ·
          replace h := if_f h hb_39
          simp only [decide_eq_true_eq, decide_eq_false_iff_not, Bool.not_eq_true', Bool.not_eq_false', beq_iff_eq, beq_eq_false_iff_ne, ne_eq, Bool.and_eq_true, Bool.or_eq_true, Int.not_lt, Int.not_le] at hb_39
          refine vc_exit_of ?_
          refine seqQ_exit hQ48 ?_
          refine thenQ_exit hQ46 ?_
          refine blockQ_exit hQ45 ?_
          refine thenQ_normal hQ43 ?_
          refine ⟨b_23, [some 0, some 1], ?_, h⟩
          simp only [go_sem, Le] <;> (repeat' apply And.intro) <;> first | rfl | (simp [go_sem]; done)
    · rintro b_2 h
      try dsimp only at h
      rw [f_graph_Put_J1] at h
      refine vc_seq_gen (by kernel_rfl) ?_
      intro QQ7 hQ7
      have rf_5 : [[.v (.int .i64 (List.length g_0.Nodes : Int))]] = enc ([(List.length g_0.Nodes : Int)] : List Int) := by rfl
      obtain ⟨v_5, ev_5, h⟩ := bindO_some h
      simp only [go_sem, Try.ntmps31, Try.results31]
      simp only [rf_5]
      refine callF_weak (s' := (⟨0, [(1, .ptr 0 0), (4, .ptr 1 0), (49, .ptr 1 0), (50, .ptr 0 2), (51, .sl 4 (enc g_0.Nodes)), (52, .v (.int .i64 (List.length g_0.Nodes : Int))), (53, .sl 1 (enc ([(List.length g_0.Nodes : Int)] : List Int)))], [(0, .box [.sl 1 (enc g_0.Parent), .sl 1 (enc g_0.Bound), .sl 4 (enc g_0.Nodes), .sl 4 (enc g_0.Edges)]), (1, .box [.sl 1 (enc b_2.b)])], 2, 127⟩ : St)) (l := [some 0, some 1]) (args' := [.ptr 1 0, .sl 1 (enc ([(List.length g_0.Nodes : Int)] : List Int))]) ?_ ?_ ?_
      · simp only [go_sem, Le] <;> (repeat' apply And.intro) <;> first | rfl | (simp [go_sem]; done)
      · simp only [go_sem, Le] <;> (repeat' apply And.intro) <;> first | rfl | (simp [go_sem]; done)
      refine callm (id := 1) (f_graph_writer_add_ok b_2 ([(List.length g_0.Nodes : Int)] : List Int) v_5 ev_5) rfl (by simp) (by simp) rfl rfl rfl rfl rfl rfl ?_
      simp only [go_sem, Try.ntmps31, Try.results31]
      refine seqQ_normal hQ7 ?_
      refine vc_join (by kernel_rfl) ?_
      refine seq_cut_gen (ι := GGraph_writer) (fun (b_11 : GGraph_writer) => (⟨0, [(1, .ptr 0 0), (4, .ptr 1 0)], [(0, .box [.sl 1 (enc g_0.Parent), .sl 1 (enc g_0.Bound), .sl 4 (enc g_0.Nodes), .sl 4 (enc g_0.Edges)]), (1, .box [.sl 1 (enc b_11.b)])], 2, 127⟩ : St)) (fun (b_11 : GGraph_writer) => f_graph_Put_J2 g_0 b_11 = some r) ?_ ?_
      ·
        intro QQ22 hQ22
        refine vc_seq_gen (by kernel_rfl) ?_
        intro QQ23 hQ23
        simp only [go_sem, Try.ntmps31, Try.results31]
        refine seqQ_normal hQ23 ?_
        refine vc_block_gen ?_
        intro QQ24 hQ24
        refine vc_loop_of ?_
        refine loop_gen (ι := Nat × Int × GGraph_writer) (fun ((_, t58_3, b_19) : Nat × Int × GGraph_writer) => (⟨0, [(1, .ptr 0 0), (4, .ptr 1 0), (56, .sl 4 (enc g_0.Nodes)), (57, .v (.int .i64 (List.length g_0.Nodes : Int))), (58, .v (.int .i64 t58_3))], [(0, .box [.sl 1 (enc g_0.Parent), .sl 1 (enc g_0.Bound), .sl 4 (enc g_0.Nodes), .sl 4 (enc g_0.Edges)]), (1, .box [.sl 1 (enc b_19.b)])], 2, 127⟩ : St)) (fun ((n_, t58_3, b_19) : Nat × Int × GGraph_writer) => loopK (f_graph_Put_B5 g_0) n_ (t58_3, b_19) = some r) (fun p => p.1) (rounds, 0, v_5) [some 0, some 1] ?_ h ?_
        · simp only [go_sem, Le] <;> (repeat' apply And.intro) <;> first | rfl | (simp [go_sem]; done)
        · rintro ⟨n_5, t58_3, b_19⟩ h QQ25 hQ25
          dsimp only at h
          replace h := loopK_some h
          obtain ⟨m_5, rfl, h⟩ := h
          rw [f_graph_Put_B5] at h
          refine vc_seq_gen (by kernel_rfl) ?_
          intro QQ26 hQ26
          simp only [go_sem, Try.ntmps31, Try.results31]
          refine seqQ_normal hQ26 ?_
          refine vc_seq_gen (by kernel_rfl) ?_
          intro QQ27 hQ27
          refine vc_cond_of (b := (decide (t58_3 < (List.length g_0.Nodes : Int)))) (by (simp only [go_sem]; done)) (fun hb_33 => ?_) (fun hb_33 => ?_)
          ·
            replace h := if_t h hb_33
            simp only [decide_eq_true_eq, decide_eq_false_iff_not, Bool.not_eq_true', Bool.not_eq_false', beq_iff_eq, beq_eq_false_iff_ne, ne_eq, Bool.and_eq_true, Bool.or_eq_true, Int.not_lt, Int.not_le] at hb_33
            refine vc_skip_of ?_
            refine seqQ_normal hQ27 ?_
            refine vc_join (by kernel_rfl) ?_
            refine seq_go_gen ?_
            intro QQ28 hQ28
            refine vc_block_gen ?_
            intro QQ29 hQ29
            refine vc_seq_gen (by kernel_rfl) ?_
            intro QQ30 hQ30
            obtain ⟨xv_29, exv_29, h⟩ := bindO_some h
            obtain ⟨fxv_29a, fxv_29b, fxv_29c⟩ := idx_spec exv_29
            simp only [go_sem, Try.ntmps31, Try.results31, fxv_29a, fxv_29b, fxv_29c]
            refine And.intro (by omega) ?_
            refine seqQ_normal hQ30 ?_
            refine vc_seq_gen (by kernel_rfl) ?_
            intro QQ31 hQ31
            have rf_35 : [[.v (.int .i64 xv_29.Kind)], [.v (.int .i64 xv_29.Scope)]] = enc ([xv_29.Kind, xv_29.Scope] : List Int) := by rfl
            obtain ⟨v_55, ev_55, h⟩ := bindO_some h
            simp only [go_sem, Try.ntmps31, Try.results31]
            refine And.intro (by omega) ?_
            simp only [rf_35]
            refine callF_weak (s' := (⟨0, [(1, .ptr 0 0), (4, .ptr 1 0), (7, .ptr 2 0), (56, .sl 4 (enc g_0.Nodes)), (57, .v (.int .i64 (List.length g_0.Nodes : Int))), (58, .v (.int .i64 t58_3)), (59, .v (.bool (decide (t58_3 < (List.length g_0.Nodes : Int))))), (60, .el 4 (enc g_0.Nodes) (Int.toNat t58_3) 0), (61, .agg [.v (.int .i64 xv_29.Kind), .v (.int .i64 xv_29.Scope), .v (.int .i64 xv_29.Arg), .sl 2 (enc xv_29.Prog)]), (62, .ptr 1 0), (63, .ptr 2 0), (64, .v (.int .i64 xv_29.Kind)), (65, .ptr 2 1), (66, .v (.int .i64 xv_29.Scope)), (67, .sl 1 (enc ([xv_29.Kind, xv_29.Scope] : List Int)))], [(0, .box [.sl 1 (enc g_0.Parent), .sl 1 (enc g_0.Bound), .sl 4 (enc g_0.Nodes), .sl 4 (enc g_0.Edges)]), (1, .box [.sl 1 (enc b_19.b)]), (2, .box [.v (.int .i64 xv_29.Kind), .v (.int .i64 xv_29.Scope), .v (.int .i64 xv_29.Arg), .sl 2 (enc xv_29.Prog)])], 3, 127⟩ : St)) (l := [some 0, some 1, some 2]) (args' := [.ptr 1 0, .sl 1 (enc ([xv_29.Kind, xv_29.Scope] : List Int))]) ?_ ?_ ?_
            · simp only [go_sem, Le] <;> (repeat' apply And.intro) <;> first | rfl | (simp [go_sem]; done) | (simp [enc_len, enc]; omega)
            · simp only [go_sem, Le] <;> (repeat' apply And.intro) <;> first | rfl | (simp [go_sem]; done)
            refine callm (id := 1) (f_graph_writer_add_ok b_19 ([xv_29.Kind, xv_29.Scope] : List Int) v_55 ev_55) rfl (by simp) (by simp) rfl rfl rfl rfl rfl rfl ?_
            simp only [go_sem, Try.ntmps31, Try.results31]
            refine seqQ_normal hQ31 ?_
            refine vc_seq_gen (by kernel_rfl) ?_
            intro QQ32 hQ32
            obtain ⟨v_56, ev_56, h⟩ := bindO_some h
            simp only [go_sem, Try.ntmps31, Try.results31]
            refine callm (id := 1) (f_graph_writer_sign_ok v_55 xv_29.Arg v_56 ev_56) rfl (by simp) (by simp) rfl rfl rfl rfl rfl rfl ?_
            simp only [go_sem, Try.ntmps31, Try.results31]
            refine seqQ_normal hQ32 ?_
            refine vc_seq_gen (by kernel_rfl) ?_
            intro QQ33 hQ33
            have rf_36 : [[.v (.int .i64 (List.length xv_29.Prog : Int))]] = enc ([(List.length xv_29.Prog : Int)] : List Int) := by rfl
            obtain ⟨v_57, ev_57, h⟩ := bindO_some h
            simp only [go_sem, Try.ntmps31, Try.results31]
            simp only [rf_36]
            refine callF_weak (s' := (⟨0, [(1, .ptr 0 0), (4, .ptr 1 0), (7, .ptr 2 0), (56, .sl 4 (enc g_0.Nodes)), (57, .v (.int .i64 (List.length g_0.Nodes : Int))), (58, .v (.int .i64 t58_3)), (59, .v (.bool (decide (t58_3 < (List.length g_0.Nodes : Int))))), (60, .el 4 (enc g_0.Nodes) (Int.toNat t58_3) 0), (61, .agg [.v (.int .i64 xv_29.Kind), .v (.int .i64 xv_29.Scope), .v (.int .i64 xv_29.Arg), .sl 2 (enc xv_29.Prog)]), (62, .ptr 1 0), (63, .ptr 2 0), (64, .v (.int .i64 xv_29.Kind)), (65, .ptr 2 1), (66, .v (.int .i64 xv_29.Scope)), (67, .sl 1 (enc ([xv_29.Kind, xv_29.Scope] : List Int))), (68, .tup []), (69, .ptr 1 0), (70, .ptr 2 2), (71, .v (.int .i64 xv_29.Arg)), (72, .tup []), (73, .ptr 1 0), (74, .ptr 2 3), (75, .sl 2 (enc xv_29.Prog)), (76, .v (.int .i64 (List.length xv_29.Prog : Int))), (77, .sl 1 (enc ([(List.length xv_29.Prog : Int)] : List Int)))], [(0, .box [.sl 1 (enc g_0.Parent), .sl 1 (enc g_0.Bound), .sl 4 (enc g_0.Nodes), .sl 4 (enc g_0.Edges)]), (1, .box [.sl 1 (enc v_56.b)]), (2, .box [.v (.int .i64 xv_29.Kind), .v (.int .i64 xv_29.Scope), .v (.int .i64 xv_29.Arg), .sl 2 (enc xv_29.Prog)])], 3, 127⟩ : St)) (l := [some 0, some 1, some 2]) (args' := [.ptr 1 0, .sl 1 (enc ([(List.length xv_29.Prog : Int)] : List Int))]) ?_ ?_ ?_
            · simp only [go_sem, Le] <;> (repeat' apply And.intro) <;> first | rfl | (simp [go_sem]; done)
            · simp only [go_sem, Le] <;> (repeat' apply And.intro) <;> first | rfl | (simp [go_sem]; done)
            refine callm (id := 1) (f_graph_writer_add_ok v_56 ([(List.length xv_29.Prog : Int)] : List Int) v_57 ev_57) rfl (by simp) (by simp) rfl rfl rfl rfl rfl rfl ?_
            simp only [go_sem, Try.ntmps31, Try.results31]
            refine seqQ_normal hQ33 ?_
            refine vc_seq_gen (by kernel_rfl) ?_
            intro QQ34 hQ34
            simp only [go_sem, Try.ntmps31, Try.results31]
            refine seqQ_normal hQ34 ?_
            refine vc_block_gen ?_
            intro QQ35 hQ35
            refine vc_loop_of ?_
            refine loop_gen (ι := Nat × Int × GGraph_writer) (fun ((_, t82_11, b_21) : Nat × Int × GGraph_writer) => (⟨0, [(1, .ptr 0 0), (4, .ptr 1 0), (56, .sl 4 (enc g_0.Nodes)), (57, .v (.int .i64 (List.length g_0.Nodes : Int))), (58, .v (.int .i64 t58_3)), (80, .sl 2 (enc xv_29.Prog)), (81, .v (.int .i64 (List.length xv_29.Prog : Int))), (82, .v (.int .i64 t82_11))], [(0, .box [.sl 1 (enc g_0.Parent), .sl 1 (enc g_0.Bound), .sl 4 (enc g_0.Nodes), .sl 4 (enc g_0.Edges)]), (1, .box [.sl 1 (enc b_21.b)])], 2, 127⟩ : St)) (fun ((n_, t82_11, b_21) : Nat × Int × GGraph_writer) => loopK (f_graph_Put_B6 t58_3 (loopK (f_graph_Put_B5 g_0) m_5) xv_29) n_ (t82_11, b_21) = some r) (fun p => p.1) (rounds, 0, v_57) [some 0, some 1] ?_ h ?_
            · simp only [go_sem, Le] <;> (repeat' apply And.intro) <;> first | rfl | (simp [go_sem]; done)
            · rintro ⟨n_6, t82_11, b_21⟩ h QQ36 hQ36
              dsimp only at h
              replace h := loopK_some h
              obtain ⟨m_6, rfl, h⟩ := h
              rw [f_graph_Put_B6] at h
              refine vc_seq_gen (by kernel_rfl) ?_
              intro QQ37 hQ37
              simp only [go_sem, Try.ntmps31, Try.results31]
              refine seqQ_normal hQ37 ?_
              refine vc_seq_gen (by kernel_rfl) ?_
              intro QQ38 hQ38
              refine vc_cond_of (b := (decide (t82_11 < (List.length xv_29.Prog : Int)))) (by (simp only [go_sem]; done)) (fun hb_36 => ?_) (fun hb_36 => ?_)
              ·
                replace h := if_t h hb_36
                simp only [decide_eq_true_eq, decide_eq_false_iff_not, Bool.not_eq_true', Bool.not_eq_false', beq_iff_eq, beq_eq_false_iff_ne, ne_eq, Bool.and_eq_true, Bool.or_eq_true, Int.not_lt, Int.not_le] at hb_36
                refine vc_skip_of ?_
                refine seqQ_normal hQ38 ?_
                refine vc_seq_gen (by kernel_rfl) ?_
                intro QQ39 hQ39
                refine vc_block_gen ?_
                intro QQ40 hQ40
                refine vc_seq_gen (by kernel_rfl) ?_
                intro QQ41 hQ41
                obtain ⟨xv_32, exv_32, h⟩ := bindO_some h
                obtain ⟨fxv_32a, fxv_32b, fxv_32c⟩ := idx_spec exv_32
                simp only [go_sem, Try.ntmps31, Try.results31, fxv_32a, fxv_32b, fxv_32c]
                refine And.intro (by omega) ?_
                refine seqQ_normal hQ41 ?_
                refine vc_seq_gen (by kernel_rfl) ?_
                intro QQ42 hQ42
                have rf_39 : [[.v (.int .i64 xv_32.Op)]] = enc ([xv_32.Op] : List Int) := by rfl
                obtain ⟨v_62, ev_62, h⟩ := bindO_some h
                simp only [go_sem, Try.ntmps31, Try.results31]
                simp only [rf_39]
                refine callF_weak (s' := (⟨0, [(1, .ptr 0 0), (4, .ptr 1 0), (9, .ptr 2 0), (56, .sl 4 (enc g_0.Nodes)), (57, .v (.int .i64 (List.length g_0.Nodes : Int))), (58, .v (.int .i64 t58_3)), (80, .sl 2 (enc xv_29.Prog)), (81, .v (.int .i64 (List.length xv_29.Prog : Int))), (82, .v (.int .i64 t82_11)), (83, .v (.bool (decide (t82_11 < (List.length xv_29.Prog : Int))))), (84, .el 2 (enc xv_29.Prog) (Int.toNat t82_11) 0), (85, .agg [.v (.int .i64 xv_32.Op), .v (.int .i64 xv_32.N)]), (86, .ptr 1 0), (87, .ptr 2 0), (88, .v (.int .i64 xv_32.Op)), (89, .sl 1 (enc ([xv_32.Op] : List Int)))], [(0, .box [.sl 1 (enc g_0.Parent), .sl 1 (enc g_0.Bound), .sl 4 (enc g_0.Nodes), .sl 4 (enc g_0.Edges)]), (1, .box [.sl 1 (enc b_21.b)]), (2, .box [.v (.int .i64 xv_32.Op), .v (.int .i64 xv_32.N)])], 3, 127⟩ : St)) (l := [some 0, some 1, some 2]) (args' := [.ptr 1 0, .sl 1 (enc ([xv_32.Op] : List Int))]) ?_ ?_ ?_
                · simp only [go_sem, Le] <;> (repeat' apply And.intro) <;> first | rfl | (simp [go_sem]; done) | (simp [enc_len, enc]; omega)
                · simp only [go_sem, Le] <;> (repeat' apply And.intro) <;> first | rfl | (simp [go_sem]; done)
                refine callm (id := 1) (f_graph_writer_add_ok b_21 ([xv_32.Op] : List Int) v_62 ev_62) rfl (by simp) (by simp) rfl rfl rfl rfl rfl rfl ?_
                simp only [go_sem, Try.ntmps31, Try.results31]
                refine seqQ_normal hQ42 ?_
                obtain ⟨v_63, ev_63, h⟩ := bindO_some h
                simp only [go_sem, Try.ntmps31, Try.results31]
                refine callm (id := 1) (f_graph_writer_sign_ok v_62 xv_32.N v_63 ev_63) rfl (by simp) (by simp) rfl rfl rfl rfl rfl rfl ?_
                simp only [go_sem, Try.ntmps31, Try.results31]
                refine blockQ_normal hQ40 ?_
                refine seqQ_normal hQ39 ?_
                simp only [go_sem, Try.ntmps31, Try.results31]
                refine thenQ_normal hQ36 ?_
                refine ⟨(m_6, IntKind.i64.wrap (t82_11 + 1), v_63), [some 0, some 1], ?_, h, Nat.lt_succ_self _⟩
                simp only [go_sem, Le] <;> (repeat' apply And.intro) <;> first | rfl | (simp [go_sem]; done)
              ·
                replace h := if_f h hb_36
                simp only [decide_eq_true_eq, decide_eq_false_iff_not, Bool.not_eq_true', Bool.not_eq_false', beq_iff_eq, beq_eq_false_iff_ne, ne_eq, Bool.and_eq_true, Bool.or_eq_true, Int.not_lt, Int.not_le] at hb_36
                refine vc_exit_of ?_
                refine seqQ_exit hQ38 ?_
                refine thenQ_exit hQ36 ?_
                refine blockQ_exit hQ35 ?_
                refine blockQ_normal hQ29 ?_
                refine seqQ_normal hQ28 ?_
                simp only [go_sem, Try.ntmps31, Try.results31]
                refine thenQ_normal hQ25 ?_
                refine ⟨(m_5, IntKind.i64.wrap (t58_3 + 1), b_21), [some 0, some 1], ?_, h, Nat.lt_succ_self _⟩
                simp only [go_sem, Le] <;> (repeat' apply And.intro) <;> first | rfl | (simp [go_sem]; done)
          ·
            replace h := if_f h hb_33
            simp only [decide_eq_true_eq, decide_eq_false_iff_not, Bool.not_eq_true', Bool.not_eq_false', beq_iff_eq, beq_eq_false_iff_ne, ne_eq, Bool.and_eq_true, Bool.or_eq_true, Int.not_lt, Int.not_le] at hb_33
            refine vc_exit_of ?_
            refine seqQ_exit hQ27 ?_
            refine thenQ_exit hQ25 ?_
            refine blockQ_exit hQ24 ?_
            refine thenQ_normal hQ22 ?_
            refine ⟨b_19, [some 0, some 1], ?_, h⟩
            simp only [go_sem, Le] <;> (repeat' apply And.intro) <;> first | rfl | (simp [go_sem]; done)
      · rintro b_11 h
        try dsimp only at h
        rw [f_graph_Put_J2] at h
        refine vc_seq_gen (by kernel_rfl) ?_
        intro QQ8 hQ8
        have rf_21 : [[.v (.int .i64 (List.length g_0.Edges : Int))]] = enc ([(List.length g_0.Edges : Int)] : List Int) := by rfl
        obtain ⟨v_33, ev_33, h⟩ := bindO_some h
        simp only [go_sem, Try.ntmps31, Try.results31]
        simp only [rf_21]
        refine callF_weak (s' := (⟨0, [(1, .ptr 0 0), (4, .ptr 1 0), (97, .ptr 1 0), (98, .ptr 0 3), (99, .sl 4 (enc g_0.Edges)), (100, .v (.int .i64 (List.length g_0.Edges : Int))), (101, .sl 1 (enc ([(List.length g_0.Edges : Int)] : List Int)))], [(0, .box [.sl 1 (enc g_0.Parent), .sl 1 (enc g_0.Bound), .sl 4 (enc g_0.Nodes), .sl 4 (enc g_0.Edges)]), (1, .box [.sl 1 (enc b_11.b)])], 2, 127⟩ : St)) (l := [some 0, some 1]) (args' := [.ptr 1 0, .sl 1 (enc ([(List.length g_0.Edges : Int)] : List Int))]) ?_ ?_ ?_
        · simp only [go_sem, Le] <;> (repeat' apply And.intro) <;> first | rfl | (simp [go_sem]; done)
        · simp only [go_sem, Le] <;> (repeat' apply And.intro) <;> first | rfl | (simp [go_sem]; done)
        refine callm (id := 1) (f_graph_writer_add_ok b_11 ([(List.length g_0.Edges : Int)] : List Int) v_33 ev_33) rfl (by simp) (by simp) rfl rfl rfl rfl rfl rfl ?_
        simp only [go_sem, Try.ntmps31, Try.results31]
        refine seqQ_normal hQ8 ?_
        refine vc_join (by kernel_rfl) ?_
        refine seq_go_gen ?_
        intro QQ9 hQ9
        refine vc_seq_gen (by kernel_rfl) ?_
        intro QQ10 hQ10
        simp only [go_sem, Try.ntmps31, Try.results31]
        refine seqQ_normal hQ10 ?_
        refine vc_block_gen ?_
        intro QQ11 hQ11
        refine vc_loop_of ?_
        refine loop_gen (ι := Nat × Int × GGraph_writer) (fun ((_, t106_1, b_13) : Nat × Int × GGraph_writer) => (⟨0, [(4, .ptr 0 0), (104, .sl 4 (enc g_0.Edges)), (105, .v (.int .i64 (List.length g_0.Edges : Int))), (106, .v (.int .i64 t106_1))], [(0, .box [.sl 1 (enc b_13.b)])], 1, 127⟩ : St)) (fun ((n_, t106_1, b_13) : Nat × Int × GGraph_writer) => loopK (f_graph_Put_B3 g_0) n_ (t106_1, b_13) = some r) (fun p => p.1) (rounds, 0, v_33) [some 1] ?_ h ?_
        · simp only [go_sem, Le]
        · rintro ⟨n_3, t106_1, b_13⟩ h QQ12 hQ12
          dsimp only at h
          replace h := loopK_some h
          obtain ⟨m_3, rfl, h⟩ := h
          rw [f_graph_Put_B3] at h
          refine vc_seq_gen (by kernel_rfl) ?_
          intro QQ13 hQ13
          simp only [go_sem, Try.ntmps31, Try.results31]
          refine seqQ_normal hQ13 ?_
          refine vc_seq_gen (by kernel_rfl) ?_
          intro QQ14 hQ14
          refine vc_cond_of (b := (decide (t106_1 < (List.length g_0.Edges : Int)))) (by (simp only [go_sem]; done)) (fun hb_22 => ?_) (fun hb_22 => ?_)
          ·
            replace h := if_t h hb_22
            simp only [decide_eq_true_eq, decide_eq_false_iff_not, Bool.not_eq_true', Bool.not_eq_false', beq_iff_eq, beq_eq_false_iff_ne, ne_eq, Bool.and_eq_true, Bool.or_eq_true, Int.not_lt, Int.not_le] at hb_22
            refine vc_skip_of ?_
            refine seqQ_normal hQ14 ?_
            refine vc_join (by kernel_rfl) ?_
            refine seq_go_gen ?_
            intro QQ15 hQ15
            refine vc_block_gen ?_
            intro QQ16 hQ16
            refine vc_seq_gen (by kernel_rfl) ?_
            intro QQ17 hQ17
            obtain ⟨xv_20, exv_20, h⟩ := bindO_some h
            obtain ⟨fxv_20a, fxv_20b, fxv_20c⟩ := idx_spec exv_20
            simp only [go_sem, Try.ntmps31, Try.results31, fxv_20a, fxv_20b, fxv_20c]
            refine And.intro (by omega) ?_
            refine seqQ_normal hQ17 ?_
            refine vc_seq_gen (by kernel_rfl) ?_
            intro QQ18 hQ18
            simp only [go_sem, Try.ntmps31, Try.results31]
            refine seqQ_normal hQ18 ?_
            refine vc_join (by kernel_rfl) ?_
            refine seq_cut_gen (ι := Int) (fun (flag_2 : Int) => (⟨0, [(4, .ptr 0 0), (11, .ptr 1 0), (12, .v (.int .i64 flag_2)), (104, .sl 4 (enc g_0.Edges)), (105, .v (.int .i64 (List.length g_0.Edges : Int))), (106, .v (.int .i64 t106_1))], [(0, .box [.sl 1 (enc b_13.b)]), (1, .box [.v (.int .i64 xv_20.From), .v (.int .i64 xv_20.To), .v (.int .i64 xv_20.Port), .v (.bool xv_20.Exchange)])], 2, 127⟩ : St)) (fun (flag_2 : Int) => f_graph_Put_J4 t106_1 b_13 (loopK (f_graph_Put_B3 g_0) m_3) xv_20 flag_2 = some r) ?_ ?_
            ·
              intro QQ19 hQ19
              refine vc_seq_gen (by kernel_rfl) ?_
              intro QQ20 hQ20
              simp only [go_sem, Try.ntmps31, Try.results31]
              refine seqQ_normal hQ20 ?_
              refine vc_cond_of (b := xv_20.Exchange) (by (simp only [go_sem]; done)) (fun hb_24 => ?_) (fun hb_24 => ?_)
              ·
                replace h := if_t h hb_24
                simp only [go_sem, Try.ntmps31, Try.results31]
                refine thenQ_normal hQ19 ?_
                refine ⟨1, [some 0, some 1], ?_, h⟩
                simp only [go_sem, Le] <;> (repeat' apply And.intro) <;> first | rfl | (simp [go_sem]; done)
              ·
                replace h := if_f h hb_24
                refine vc_skip_of ?_
                refine thenQ_normal hQ19 ?_
                refine ⟨0, [some 0, some 1], ?_, h⟩
                simp only [go_sem, Le] <;> (repeat' apply And.intro) <;> first | rfl | (simp [go_sem]; done)
            · rintro flag_2 h
              try dsimp only at h
              rw [f_graph_Put_J4] at h
              have rf_24 : [[.v (.int .i64 xv_20.From)], [.v (.int .i64 xv_20.To)], [.v (.int .i64 xv_20.Port)], [.v (.int .i64 flag_2)]] = enc ([xv_20.From, xv_20.To, xv_20.Port, flag_2] : List Int) := by rfl
              obtain ⟨v_36, ev_36, h⟩ := bindO_some h
              simp only [go_sem, Try.ntmps31, Try.results31]
              refine And.intro (by omega) ?_
              simp only [rf_24]
              refine callF_weak (s' := (⟨0, [(4, .ptr 0 0), (11, .ptr 1 0), (12, .v (.int .i64 flag_2)), (104, .sl 4 (enc g_0.Edges)), (105, .v (.int .i64 (List.length g_0.Edges : Int))), (106, .v (.int .i64 t106_1)), (112, .ptr 0 0), (113, .ptr 1 0), (114, .v (.int .i64 xv_20.From)), (115, .ptr 1 1), (116, .v (.int .i64 xv_20.To)), (117, .ptr 1 2), (118, .v (.int .i64 xv_20.Port)), (119, .v (.int .i64 flag_2)), (120, .sl 1 (enc ([xv_20.From, xv_20.To, xv_20.Port, flag_2] : List Int)))], [(0, .box [.sl 1 (enc b_13.b)]), (1, .box [.v (.int .i64 xv_20.From), .v (.int .i64 xv_20.To), .v (.int .i64 xv_20.Port), .v (.bool xv_20.Exchange)])], 2, 127⟩ : St)) (l := [some 0, some 1]) (args' := [.ptr 0 0, .sl 1 (enc ([xv_20.From, xv_20.To, xv_20.Port, flag_2] : List Int))]) ?_ ?_ ?_
              · simp only [go_sem, Le] <;> (repeat' apply And.intro) <;> first | rfl | (simp [go_sem]; done)
              · simp only [go_sem, Le] <;> (repeat' apply And.intro) <;> (simp [go_sem]; done)
              refine callm (id := 0) (f_graph_writer_add_ok b_13 ([xv_20.From, xv_20.To, xv_20.Port, flag_2] : List Int) v_36 ev_36) rfl (by simp) (by simp) rfl rfl rfl rfl rfl rfl ?_
              simp only [go_sem, Try.ntmps31, Try.results31]
              refine blockQ_normal hQ16 ?_
              refine seqQ_normal hQ15 ?_
              simp only [go_sem, Try.ntmps31, Try.results31]
              refine thenQ_normal hQ12 ?_
              refine ⟨(m_3, IntKind.i64.wrap (t106_1 + 1), v_36), [some 0], ?_, h, Nat.lt_succ_self _⟩
              simp only [go_sem, Le]
          ·
            replace h := if_f h hb_22
            simp only [decide_eq_true_eq, decide_eq_false_iff_not, Bool.not_eq_true', Bool.not_eq_false', beq_iff_eq, beq_eq_false_iff_ne, ne_eq, Bool.and_eq_true, Bool.or_eq_true, Int.not_lt, Int.not_le] at hb_22
            refine vc_exit_of ?_
            refine seqQ_exit hQ14 ?_
            refine thenQ_exit hQ12 ?_
            refine blockQ_exit hQ11 ?_
            refine seqQ_normal hQ9 ?_
            refine vc_seq_gen (by kernel_rfl) ?_
            intro QQ21 hQ21
            simp only [go_sem, Try.ntmps31, Try.results31]
            refine seqQ_normal hQ21 ?_
            refine vc_ret_of ?_
            simp only [go_sem, Try.ntmps31, Try.results31]
            obtain rfl := Option.some.inj h
            refine retW_pure rfl ?_
            simp only [go_sem, Le]
end Go.Proofs.Ytngeldeahafcfaa

namespace Go.Proofs.Ytngeldeahafcfaa
open Go Go.RowKit
set_option maxHeartbeats 2000000
set_option maxRecDepth 100000
set_option linter.unusedSimpArgs false
set_option linter.unusedVariables false
def f_backwashlaw08_awake  : Option Bool :=
  bindO (f_graph_Put (⟨([-1] : List Int), ([0] : List Int), ([(⟨1, 0, 0, ([] : List GIns)⟩ : GNode)] : List GNode), ([] : List GEdge)⟩ : GGraph)) (fun (v_0 : (List UInt8) × Int) =>
  bindO (f_graph_Read v_0.1) (fun (v_1 : GGraph × Int) =>
  (if ((v_0.2 == 0) && ((List.length v_0.1 : Int) == 10)) = true then bindO (idx v_0.1 5) (fun (xv_0 : UInt8) =>
  (if (((((UInt8.toNat xv_0 : Nat) : Int) == 1) && (v_1.2 == 0)) && ((List.length v_1.1.Nodes : Int) == 1)) = true then bindO (idx v_1.1.Nodes 0) (fun (xv_1 : GNode) =>
  some (xv_1.Kind == 1))
  else some false))
  else some false)))
theorem f_backwashlaw08_awake_ok   (r : Bool) (h : f_backwashlaw08_awake  = some r) : PureS Try.prog 27 [] 0 (.v (.bool r)) := by
  unfold PureS
  refine Spec.of_vc Try.func27 rfl (by kernel_rfl) (by kernel_rfl) ?_
  rw [f_backwashlaw08_awake] at h
  refine vc_seq_gen (by kernel_rfl) ?_
  intro QQ1 hQ1
  simp only [go_sem, Try.ntmps27, Try.results27]
  refine seqQ_normal hQ1 ?_
  refine vc_seq_gen (by kernel_rfl) ?_
  intro QQ2 hQ2
  have rf_0 : [[.v (.int .i64 (-1))]] = enc ([-1] : List Int) := by rfl
  have rf_1 : [[.v (.int .i64 0)]] = enc ([0] : List Int) := by rfl
  have rf_2 : [[.v (.int .i64 1), .v (.int .i64 0), .v (.int .i64 0), .sl 2 (enc ([] : List GIns))]] = enc ([(⟨1, 0, 0, ([] : List GIns)⟩ : GNode)] : List GNode) := by rfl
  obtain ⟨v_0, ev_0, h⟩ := bindO_some h
  simp only [go_sem, Try.ntmps27, Try.results27]
  refine And.intro (by omega) ?_
  simp only [rf_0, rf_1, rf_2]
  refine callF_weak (s' := (⟨0, [(0, .v (.bool false)), (6, .sl 1 (enc ([-1] : List Int))), (7, .sl 1 (enc ([0] : List Int))), (8, .agg [.v (.int .i64 1), .v (.int .i64 0), .v (.int .i64 0), .v (.slice none 0 0)]), (9, .sl 4 (enc ([(⟨1, 0, 0, ([] : List GIns)⟩ : GNode)] : List GNode))), (10, .agg [.sl 1 (enc ([-1] : List Int)), .sl 1 (enc ([0] : List Int)), .sl 4 (enc ([(⟨1, 0, 0, ([] : List GIns)⟩ : GNode)] : List GNode)), .v (.slice none 0 0)])], [], 0, 50⟩ : St)) (l := []) (args' := [.agg [.sl 1 (enc ([-1] : List Int)), .sl 1 (enc ([0] : List Int)), .sl 4 (enc ([(⟨1, 0, 0, ([] : List GIns)⟩ : GNode)] : List GNode)), .sl 4 (enc ([] : List GEdge))]]) ?_ ?_ (call0 (f_graph_Put_ok (⟨([-1] : List Int), ([0] : List Int), ([(⟨1, 0, 0, ([] : List GIns)⟩ : GNode)] : List GNode), ([] : List GEdge)⟩ : GGraph) v_0 ev_0) (by rfl) (by rfl) ?_)
  · simp only [go_sem, Le] <;> (repeat' apply And.intro) <;> first | (simp [go_sem]; done) | (simp [enc]; rfl)
  · simp only [go_sem, Le] <;> (repeat' apply And.intro) <;> first | (simp [go_sem]; done) | (simp [enc]; rfl)
  simp only [go_sem, Try.ntmps27, Try.results27]
  refine seqQ_normal hQ2 ?_
  refine vc_seq_gen (by kernel_rfl) ?_
  intro QQ3 hQ3
  obtain ⟨v_1, ev_1, h⟩ := bindO_some h
  simp only [go_sem, Try.ntmps27, Try.results27]
  refine call0 (f_graph_Read_ok v_0.1 v_1 ev_1) (by rfl) (by rfl) ?_
  simp only [go_sem, Try.ntmps27, Try.results27]
  refine seqQ_normal hQ3 ?_
  refine vc_seq_gen (by kernel_rfl) ?_
  intro QQ4 hQ4
  simp only [go_sem, Try.ntmps27, Try.results27]
  rcases hb_0 : ((v_0.2 == 0) && ((List.length v_0.1 : Int) == 10)) with _ | _
  ·
    replace h := if_f h hb_0
    simp only [go_sem, Try.ntmps27, Try.results27, hb_0]
    refine seqQ_normal hQ4 ?_
    refine vc_ret_of ?_
    simp only [go_sem, Try.ntmps27, Try.results27]
    obtain rfl := Option.some.inj h
    refine retW_pure rfl ?_
    simp only [go_sem, Le]
  ·
    replace h := if_t h hb_0
    obtain ⟨xv_0, exv_0, h⟩ := bindO_some h
    obtain ⟨fxv_0a, fxv_0b, fxv_0c⟩ := idx_spec exv_0
    simp only [Int.toNat_natCast, Int.reduceToNat] at fxv_0c
    simp only [go_sem, Try.ntmps27, Try.results27, hb_0, fxv_0a, fxv_0b, fxv_0c]
    refine And.intro (by omega) ?_
    rcases hb_1 : (((((UInt8.toNat xv_0 : Nat) : Int) == 1) && (v_1.2 == 0)) && ((List.length v_1.1.Nodes : Int) == 1)) with _ | _
    ·
      replace h := if_f h hb_1
      simp only [go_sem, Try.ntmps27, Try.results27, hb_1]
      refine seqQ_normal hQ4 ?_
      refine vc_ret_of ?_
      simp only [go_sem, Try.ntmps27, Try.results27]
      obtain rfl := Option.some.inj h
      refine retW_pure rfl ?_
      simp only [go_sem, Le]
    ·
      replace h := if_t h hb_1
      obtain ⟨xv_1, exv_1, h⟩ := bindO_some h
      obtain ⟨fxv_1a, fxv_1b, fxv_1c⟩ := idx_spec exv_1
      simp only [Int.toNat_natCast, Int.reduceToNat] at fxv_1c
      simp only [go_sem, Try.ntmps27, Try.results27, hb_1, fxv_1a, fxv_1b, fxv_1c]
      refine And.intro (by omega) ?_
      refine And.intro (by omega) ?_
      refine seqQ_normal hQ4 ?_
      refine vc_ret_of ?_
      simp only [go_sem, Try.ntmps27, Try.results27]
      obtain rfl := Option.some.inj h
      refine retW_pure rfl ?_
      simp only [go_sem, Le]
end Go.Proofs.Ytngeldeahafcfaa

namespace Go.Proofs.Ytngeldeahafcfaa
open Go Go.RowKit
set_option maxHeartbeats 2000000
set_option maxRecDepth 100000
set_option linter.unusedSimpArgs false
set_option linter.unusedVariables false
def f_backwashlaw08_GraphReads (b_0 : List UInt8) : Option Bool :=
  bindO (f_backwashlaw08_awake) (fun (v_0 : Bool) =>
  (if (!v_0) = true then some false
  else guardO (0 ≤ 0 ∧ 0 ≤ (min (List.length b_0 : Int) 9000) ∧ (min (List.length b_0 : Int) 9000) ≤ (List.length b_0 : Int)) (
  bindO (f_graph_Read (List.take (Int.toNat (min (List.length b_0 : Int) 9000)) b_0)) (fun (v_1 : GGraph × Int) =>
  bindO (f_backwashref08_Read (List.take (Int.toNat (min (List.length b_0 : Int) 9000)) b_0)) (fun (v_2 : GGraph × Int) =>
  bindO (f_backwashref08_Same v_1.1 v_2.1) (fun (v_3 : Bool) =>
  some (v_3 && (v_1.2 == v_2.2))))))))
theorem f_backwashlaw08_GraphReads_ok (b_0 : List UInt8)  (r : Bool) (h : f_backwashlaw08_GraphReads b_0 = some r) : PureS Try.prog 8 [.sl 1 (enc b_0)] 0 (.v (.bool r)) := by
  unfold PureS
  refine Spec.of_vc Try.func8 rfl (by kernel_rfl) (by kernel_rfl) ?_
  rw [f_backwashlaw08_GraphReads] at h
  refine vc_seq_gen (by kernel_rfl) ?_
  intro QQ1 hQ1
  simp only [go_sem, Try.ntmps8, Try.results8]
  refine seqQ_normal hQ1 ?_
  refine vc_seq_gen (by kernel_rfl) ?_
  intro QQ2 hQ2
  refine vc_seq_gen (by kernel_rfl) ?_
  intro QQ3 hQ3
  obtain ⟨v_0, ev_0, h⟩ := bindO_some h
  simp only [go_sem, Try.ntmps8, Try.results8]
  refine call0 (f_backwashlaw08_awake_ok v_0 ev_0) (by rfl) (by rfl) ?_
  simp only [go_sem, Try.ntmps8, Try.results8]
  refine seqQ_normal hQ3 ?_
  refine vc_cond_of (b := (!v_0)) (by (simp only [go_sem]; done)) (fun hb_0 => ?_) (fun hb_0 => ?_)
  ·
    replace h := if_t h hb_0
    simp only [decide_eq_true_eq, decide_eq_false_iff_not, Bool.not_eq_true', Bool.not_eq_false', beq_iff_eq, beq_eq_false_iff_ne, ne_eq, Bool.and_eq_true, Bool.or_eq_true, Int.not_lt, Int.not_le] at hb_0
    refine vc_seq_gen (by kernel_rfl) ?_
    intro QQ4 hQ4
    simp only [go_sem, Try.ntmps8, Try.results8]
    refine seqQ_normal hQ4 ?_
    refine vc_ret_of ?_
    refine seqQ_ret hQ2 ?_
    simp only [go_sem, Try.ntmps8, Try.results8]
    obtain rfl := Option.some.inj h
    refine retW_pure rfl ?_
    simp only [go_sem, Le]
  ·
    replace h := if_f h hb_0
    simp only [decide_eq_true_eq, decide_eq_false_iff_not, Bool.not_eq_true', Bool.not_eq_false', beq_iff_eq, beq_eq_false_iff_ne, ne_eq, Bool.and_eq_true, Bool.or_eq_true, Int.not_lt, Int.not_le] at hb_0
    refine vc_skip_of ?_
    refine seqQ_normal hQ2 ?_
    refine vc_seq_gen (by kernel_rfl) ?_
    intro QQ5 hQ5
    obtain ⟨g_0, h⟩ := guardO_some h
    simp only [go_sem, Try.ntmps8, Try.results8, g_0]
    refine seqQ_normal hQ5 ?_
    refine vc_seq_gen (by kernel_rfl) ?_
    intro QQ6 hQ6
    obtain ⟨v_1, ev_1, h⟩ := bindO_some h
    simp only [go_sem, Try.ntmps8, Try.results8]
    refine call0 (f_graph_Read_ok (List.take (Int.toNat (min (List.length b_0 : Int) 9000)) b_0) v_1 ev_1) (by rfl) (by rfl) ?_
    simp only [go_sem, Try.ntmps8, Try.results8]
    refine seqQ_normal hQ6 ?_
    refine vc_seq_gen (by kernel_rfl) ?_
    intro QQ7 hQ7
    obtain ⟨v_2, ev_2, h⟩ := bindO_some h
    simp only [go_sem, Try.ntmps8, Try.results8]
    refine call0 (f_backwashref08_Read_ok (List.take (Int.toNat (min (List.length b_0 : Int) 9000)) b_0) v_2 ev_2) (by rfl) (by rfl) ?_
    simp only [go_sem, Try.ntmps8, Try.results8]
    refine seqQ_normal hQ7 ?_
    refine vc_seq_gen (by kernel_rfl) ?_
    intro QQ8 hQ8
    obtain ⟨v_3, ev_3, h⟩ := bindO_some h
    simp only [go_sem, Try.ntmps8, Try.results8]
    refine call0 (f_backwashref08_Same_ok v_1.1 v_2.1 v_3 ev_3) (by rfl) (by rfl) ?_
    simp only [go_sem, Try.ntmps8, Try.results8]
    refine seqQ_normal hQ8 ?_
    refine vc_ret_of ?_
    simp only [go_sem, Try.ntmps8, Try.results8]
    obtain rfl := Option.some.inj h
    refine retW_pure rfl ?_
    simp only [go_sem, Le]
end Go.Proofs.Ytngeldeahafcfaa

namespace Go.Proofs.Ytngeldeahafcfaa
open Go Go.RowKit
set_option maxHeartbeats 2000000
set_option maxRecDepth 100000
set_option linter.unusedSimpArgs false
set_option linter.unusedVariables false
def f_backwashref08_low (nv_0 : Int) : Option Bool :=
  some ((decide (0 ≤ nv_0)) && (decide (nv_0 ≤ 2147483647)))
theorem f_backwashref08_low_ok (nv_0 : Int)  (r : Bool) (h : f_backwashref08_low nv_0 = some r) : PureS Try.prog 84 [.v (.int .i64 nv_0)] 0 (.v (.bool r)) := by
  unfold PureS
  refine Spec.of_vc Try.func84 rfl (by kernel_rfl) (by kernel_rfl) ?_
  rw [f_backwashref08_low] at h
  refine vc_seq_gen (by kernel_rfl) ?_
  intro QQ1 hQ1
  simp only [go_sem, Try.ntmps84, Try.results84]
  refine seqQ_normal hQ1 ?_
  refine vc_seq_gen (by kernel_rfl) ?_
  intro QQ2 hQ2
  simp only [go_sem, Try.ntmps84, Try.results84]
  refine seqQ_normal hQ2 ?_
  refine vc_ret_of ?_
  simp only [go_sem, Try.ntmps84, Try.results84]
  obtain rfl := Option.some.inj h
  refine retW_pure rfl ?_
  simp only [go_sem, Le]
end Go.Proofs.Ytngeldeahafcfaa

namespace Go.Proofs.Ytngeldeahafcfaa
open Go Go.RowKit
set_option maxHeartbeats 2000000
set_option maxRecDepth 100000
set_option linter.unusedSimpArgs false
set_option linter.unusedVariables false
def f_backwashref08_Fits_B3 (g_0 : GGraph) (rec_3 : Int → Option Bool) : Int → Option Bool :=
  fun i_5 =>
  (if (decide (i_5 < (List.length g_0.Edges : Int))) = true then bindO (idx g_0.Edges i_5) (fun (xv_30 : GEdge) =>
  bindO (f_backwashref08_low xv_30.From) (fun (v_31 : Bool) =>
  (if v_31 = true then bindO (f_backwashref08_low xv_30.To) (fun (v_32 : Bool) =>
  (if v_32 = true then bindO (f_backwashref08_low xv_30.Port) (fun (v_33 : Bool) =>
  (if (!v_33) = true then some false
  else rec_3 (IntKind.i64.wrap (i_5 + 1))))
  else some false))
  else some false)))
  else some true)
def f_backwashref08_Fits_J2 (g_0 : GGraph) : Option Bool :=
  loopK (f_backwashref08_Fits_B3 g_0) rounds 0
def f_backwashref08_Fits_B5 (i_7 : Int) (rec_4 : (Int → Option Bool)) (xv_39 : GNode) (rec_5 : Int → Option Bool) : Int → Option Bool :=
  fun k_11 =>
  (if (decide (k_11 < (List.length xv_39.Prog : Int))) = true then bindO (idx xv_39.Prog k_11) (fun (xv_42 : GIns) =>
  bindO (f_backwashref08_low xv_42.Op) (fun (v_48 : Bool) =>
  (if (!v_48) = true then some false
  else rec_5 (IntKind.i64.wrap (k_11 + 1)))))
  else rec_4 (IntKind.i64.wrap (i_7 + 1)))
def f_backwashref08_Fits_B4 (g_0 : GGraph) (rec_4 : Int → Option Bool) : Int → Option Bool :=
  fun i_7 =>
  (if (decide (i_7 < (List.length g_0.Nodes : Int))) = true then bindO (idx g_0.Nodes i_7) (fun (xv_39 : GNode) =>
  bindO (f_backwashref08_low xv_39.Kind) (fun (v_44 : Bool) =>
  (if v_44 = true then bindO (f_backwashref08_low xv_39.Scope) (fun (v_45 : Bool) =>
  (if ((!v_45) || (decide (64 < (List.length xv_39.Prog : Int)))) = true then some false
  else loopK (f_backwashref08_Fits_B5 i_7 rec_4 xv_39) rounds 0))
  else some false)))
  else f_backwashref08_Fits_J2 g_0)
def f_backwashref08_Fits_J1 (g_0 : GGraph) : Option Bool :=
  loopK (f_backwashref08_Fits_B4 g_0) rounds 0
def f_backwashref08_Fits_B6 (g_0 : GGraph) (rec_6 : Int → Option Bool) : Int → Option Bool :=
  fun i_9 =>
  (if (decide (i_9 < (List.length g_0.Parent : Int))) = true then (if (i_9 == 0) = true then bindO (idx g_0.Parent i_9) (fun (xv_55 : Int) =>
  (if (xv_55 == (-1)) = true then bindO (idx g_0.Bound i_9) (fun (xv_56 : Int) =>
  (if (xv_56 == 0) = true then (if (decide (0 < i_9)) = true then bindO (idx g_0.Parent i_9) (fun (xv_57 : Int) =>
  bindO (f_backwashref08_low xv_57) (fun (v_57 : Bool) =>
  (if v_57 = true then bindO (idx g_0.Bound i_9) (fun (xv_58 : Int) =>
  bindO (f_backwashref08_low xv_58) (fun (v_58 : Bool) =>
  (if (!v_58) = true then some false
  else rec_6 (IntKind.i64.wrap (i_9 + 1)))))
  else some false)))
  else rec_6 (IntKind.i64.wrap (i_9 + 1)))
  else some false))
  else some false))
  else (if (decide (0 < i_9)) = true then bindO (idx g_0.Parent i_9) (fun (xv_53 : Int) =>
  bindO (f_backwashref08_low xv_53) (fun (v_55 : Bool) =>
  (if v_55 = true then bindO (idx g_0.Bound i_9) (fun (xv_54 : Int) =>
  bindO (f_backwashref08_low xv_54) (fun (v_56 : Bool) =>
  (if (!v_56) = true then some false
  else rec_6 (IntKind.i64.wrap (i_9 + 1)))))
  else some false)))
  else rec_6 (IntKind.i64.wrap (i_9 + 1))))
  else f_backwashref08_Fits_J1 g_0)
def f_backwashref08_Fits (g_0 : GGraph) : Option Bool :=
  (if (((((decide ((List.length g_0.Parent : Int) < 1)) || (decide (8 < (List.length g_0.Parent : Int)))) || (!((List.length g_0.Parent : Int) == (List.length g_0.Bound : Int)))) || (decide (32 < (List.length g_0.Nodes : Int)))) || (decide (64 < (List.length g_0.Edges : Int)))) = true then some false
  else loopK (f_backwashref08_Fits_B6 g_0) rounds 0)
theorem f_backwashref08_Fits_ok (g_0 : GGraph)  (r : Bool) (h : f_backwashref08_Fits g_0 = some r) : PureS Try.prog 57 [.agg [.sl 1 (enc g_0.Parent), .sl 1 (enc g_0.Bound), .sl 4 (enc g_0.Nodes), .sl 4 (enc g_0.Edges)]] 0 (.v (.bool r)) := by
  unfold PureS
  refine Spec.of_vc Try.func57 rfl (by kernel_rfl) (by kernel_rfl) ?_
  rw [f_backwashref08_Fits] at h
  refine vc_seq_gen (by kernel_rfl) ?_
  intro QQ1 hQ1
  simp only [go_sem, Try.ntmps57, Try.results57]
  refine seqQ_normal hQ1 ?_
  refine vc_seq_gen (by kernel_rfl) ?_
  intro QQ2 hQ2
  refine vc_seq_gen (by kernel_rfl) ?_
  intro QQ3 hQ3
  simp only [go_sem, Try.ntmps57, Try.results57]
  refine And.intro (by omega) ?_
  refine And.intro (by omega) ?_
  refine And.intro (by (intros; (repeat' apply And.intro) <;> first | assumption | omega)) ?_
  refine seqQ_normal hQ3 ?_
  refine vc_cond_of (b := (((((decide ((List.length g_0.Parent : Int) < 1)) || (decide (8 < (List.length g_0.Parent : Int)))) || (!((List.length g_0.Parent : Int) == (List.length g_0.Bound : Int)))) || (decide (32 < (List.length g_0.Nodes : Int)))) || (decide (64 < (List.length g_0.Edges : Int))))) (by (simp only [go_sem]; done)) (fun hb_0 => ?_) (fun hb_0 => ?_)
  ·
    replace h := if_t h hb_0
    simp only [decide_eq_true_eq, decide_eq_false_iff_not, Bool.not_eq_true', Bool.not_eq_false', beq_iff_eq, beq_eq_false_iff_ne, ne_eq, Bool.and_eq_true, Bool.or_eq_true, Int.not_lt, Int.not_le] at hb_0
    refine vc_seq_gen (by kernel_rfl) ?_
    intro QQ4 hQ4
    simp only [go_sem, Try.ntmps57, Try.results57]
    refine seqQ_normal hQ4 ?_
    refine vc_ret_of ?_
    refine seqQ_ret hQ2 ?_
    simp only [go_sem, Try.ntmps57, Try.results57]
    obtain rfl := Option.some.inj h
    refine retW_pure rfl ?_
    simp only [go_sem, Le]
  ·
    replace h := if_f h hb_0
    refine vc_skip_of ?_
    refine seqQ_normal hQ2 ?_
    refine vc_join (by kernel_rfl) ?_
    refine seq_cut_gen (ι := Unit) (fun (_ : Unit) => (⟨0, [(1, .ptr 0 0)], [(0, .box [.sl 1 (enc g_0.Parent), .sl 1 (enc g_0.Bound), .sl 4 (enc g_0.Nodes), .sl 4 (enc g_0.Edges)])], 1, 158⟩ : St)) (fun (_ : Unit) => f_backwashref08_Fits_J1 g_0 = some r) ?_ ?_
    ·
      intro QQ41 hQ41
      refine vc_seq_gen (by kernel_rfl) ?_
      intro QQ42 hQ42
      simp only [go_sem, Try.ntmps57, Try.results57]
      refine seqQ_normal hQ42 ?_
      refine vc_block_gen ?_
      intro QQ43 hQ43
      refine vc_loop_of ?_
      refine loop_gen (ι := Nat × Int) (fun ((_, i_9) : Nat × Int) => (⟨0, [(1, .ptr 0 0), (3, .v (.int .i64 i_9))], [(0, .box [.sl 1 (enc g_0.Parent), .sl 1 (enc g_0.Bound), .sl 4 (enc g_0.Nodes), .sl 4 (enc g_0.Edges)])], 1, 158⟩ : St)) (fun ((n_, i_9) : Nat × Int) => loopK (f_backwashref08_Fits_B6 g_0) n_ i_9 = some r) (fun p => p.1) (rounds, 0) [some 0] ?_ h ?_
      · simp only [go_sem, Le]
      · rintro ⟨n_6, i_9⟩ h QQ44 hQ44
        dsimp only at h
        replace h := loopK_some h
        obtain ⟨m_6, rfl, h⟩ := h
        rw [f_backwashref08_Fits_B6] at h
        refine vc_seq_gen (by kernel_rfl) ?_
        intro QQ45 hQ45
        refine vc_seq_gen (by kernel_rfl) ?_
        intro QQ46 hQ46
        simp only [go_sem, Try.ntmps57, Try.results57]
        refine And.intro (by omega) ?_
        refine seqQ_normal hQ46 ?_
        refine vc_cond_of (b := (decide (i_9 < (List.length g_0.Parent : Int)))) (by (simp only [go_sem]; done)) (fun hb_109 => ?_) (fun hb_109 => ?_)
        ·
          replace h := if_t h hb_109
          simp only [decide_eq_true_eq, decide_eq_false_iff_not, Bool.not_eq_true', Bool.not_eq_false', beq_iff_eq, beq_eq_false_iff_ne, ne_eq, Bool.and_eq_true, Bool.or_eq_true, Int.not_lt, Int.not_le] at hb_109
          refine vc_skip_of ?_
          refine seqQ_normal hQ45 ?_
          refine vc_seq_gen (by kernel_rfl) ?_
          intro QQ47 hQ47
          refine vc_block_gen ?_
          intro QQ48 hQ48
          refine vc_seq_gen (by kernel_rfl) ?_
          intro QQ49 hQ49
          simp only [go_sem, Try.ntmps57, Try.results57]
          refine And.intro (by omega) ?_
          rcases hb_110 : (i_9 == 0) with _ | _
          ·
            replace h := if_f h hb_110
            simp only [go_sem, Try.ntmps57, Try.results57, hb_110]
            refine And.intro (by omega) ?_
            rcases hb_111 : (decide (0 < i_9)) with _ | _
            ·
              replace h := if_f h hb_111
              simp only [go_sem, Try.ntmps57, Try.results57, hb_111]
              refine seqQ_normal hQ49 ?_
              refine vc_cond_f (by (simp only [go_sem]; done)) ?_
              refine vc_skip_of ?_
              refine blockQ_normal hQ48 ?_
              refine seqQ_normal hQ47 ?_
              simp only [go_sem, Try.ntmps57, Try.results57]
              refine thenQ_normal hQ44 ?_
              refine ⟨(m_6, IntKind.i64.wrap (i_9 + 1)), [some 0], ?_, h, Nat.lt_succ_self _⟩
              simp only [go_sem, Le]
            ·
              replace h := if_t h hb_111
              obtain ⟨xv_53, exv_53, h⟩ := bindO_some h
              obtain ⟨fxv_53a, fxv_53b, fxv_53c⟩ := idx_spec exv_53
              obtain ⟨v_55, ev_55, h⟩ := bindO_some h
              simp only [go_sem, Try.ntmps57, Try.results57, hb_111, fxv_53a, fxv_53b, fxv_53c]
              refine And.intro (by omega) ?_
              refine call0 (f_backwashref08_low_ok xv_53 v_55 ev_55) (by rfl) (by rfl) ?_
              simp only [go_sem, Try.ntmps57, Try.results57]
              rcases hb_112 : v_55 with _ | _
              ·
                replace h := if_f h hb_112
                simp only [go_sem, Try.ntmps57, Try.results57, hb_112]
                refine seqQ_normal hQ49 ?_
                refine vc_cond_t (by (simp only [go_sem]; done)) ?_
                refine vc_seq_gen (by kernel_rfl) ?_
                intro QQ50 hQ50
                simp only [go_sem, Try.ntmps57, Try.results57]
                refine seqQ_normal hQ50 ?_
                refine vc_ret_of ?_
                refine blockQ_ret hQ48 ?_
                refine seqQ_ret hQ47 ?_
                refine thenQ_ret hQ44 ?_
                refine blockQ_ret hQ43 ?_
                refine thenQ_ret hQ41 ?_
                simp only [go_sem, Try.ntmps57, Try.results57]
                obtain rfl := Option.some.inj h
                refine retW_pure rfl ?_
                simp only [go_sem, Le]
              ·
                replace h := if_t h hb_112
                obtain ⟨xv_54, exv_54, h⟩ := bindO_some h
                obtain ⟨fxv_54a, fxv_54b, fxv_54c⟩ := idx_spec exv_54
                obtain ⟨v_56, ev_56, h⟩ := bindO_some h
                simp only [go_sem, Try.ntmps57, Try.results57, hb_112, fxv_54a, fxv_54b, fxv_54c]
                refine And.intro (by omega) ?_
                refine call0 (f_backwashref08_low_ok xv_54 v_56 ev_56) (by rfl) (by rfl) ?_
                simp only [go_sem, Try.ntmps57, Try.results57]
                refine seqQ_normal hQ49 ?_
                refine vc_cond_of (b := (!v_56)) (by (simp only [go_sem]; done)) (fun hb_113 => ?_) (fun hb_113 => ?_)
                ·
                  replace h := if_t h hb_113
                  simp only [decide_eq_true_eq, decide_eq_false_iff_not, Bool.not_eq_true', Bool.not_eq_false', beq_iff_eq, beq_eq_false_iff_ne, ne_eq, Bool.and_eq_true, Bool.or_eq_true, Int.not_lt, Int.not_le] at hb_113
                  refine vc_seq_gen (by kernel_rfl) ?_
                  intro QQ51 hQ51
                  simp only [go_sem, Try.ntmps57, Try.results57]
                  refine seqQ_normal hQ51 ?_
                  refine vc_ret_of ?_
                  refine blockQ_ret hQ48 ?_
                  refine seqQ_ret hQ47 ?_
                  refine thenQ_ret hQ44 ?_
                  refine blockQ_ret hQ43 ?_
                  refine thenQ_ret hQ41 ?_
                  simp only [go_sem, Try.ntmps57, Try.results57]
                  obtain rfl := Option.some.inj h
                  refine retW_pure rfl ?_
                  simp only [go_sem, Le]
                ·
                  replace h := if_f h hb_113
                  simp only [decide_eq_true_eq, decide_eq_false_iff_not, Bool.not_eq_true', Bool.not_eq_false', beq_iff_eq, beq_eq_false_iff_ne, ne_eq, Bool.and_eq_true, Bool.or_eq_true, Int.not_lt, Int.not_le] at hb_113
                  refine vc_skip_of ?_
                  refine blockQ_normal hQ48 ?_
                  refine seqQ_normal hQ47 ?_
                  simp only [go_sem, Try.ntmps57, Try.results57]
                  refine thenQ_normal hQ44 ?_
                  refine ⟨(m_6, IntKind.i64.wrap (i_9 + 1)), [some 0], ?_, h, Nat.lt_succ_self _⟩
                  simp only [go_sem, Le]
          ·
            replace h := if_t h hb_110
            obtain ⟨xv_55, exv_55, h⟩ := bindO_some h
            obtain ⟨fxv_55a, fxv_55b, fxv_55c⟩ := idx_spec exv_55
            simp only [go_sem, Try.ntmps57, Try.results57, hb_110, fxv_55a, fxv_55b, fxv_55c]
            refine And.intro (by omega) ?_
            rcases hb_114 : (xv_55 == (-1)) with _ | _
            ·
              replace h := if_f h hb_114
              simp only [go_sem, Try.ntmps57, Try.results57, hb_114]
              refine seqQ_normal hQ49 ?_
              refine vc_cond_t (by (simp only [go_sem]; done)) ?_
              refine vc_seq_gen (by kernel_rfl) ?_
              intro QQ52 hQ52
              simp only [go_sem, Try.ntmps57, Try.results57]
              refine seqQ_normal hQ52 ?_
              refine vc_ret_of ?_
              refine blockQ_ret hQ48 ?_
              refine seqQ_ret hQ47 ?_
              refine thenQ_ret hQ44 ?_
              refine blockQ_ret hQ43 ?_
              refine thenQ_ret hQ41 ?_
              simp only [go_sem, Try.ntmps57, Try.results57]
              obtain rfl := Option.some.inj h
              refine retW_pure rfl ?_
              simp only [go_sem, Le]
            ·
              replace h := if_t h hb_114
              obtain ⟨xv_56, exv_56, h⟩ := bindO_some h
              obtain ⟨fxv_56a, fxv_56b, fxv_56c⟩ := idx_spec exv_56
              simp only [go_sem, Try.ntmps57, Try.results57, hb_114, fxv_56a, fxv_56b, fxv_56c]
              refine And.intro (by omega) ?_
              refine And.intro (by omega) ?_
              rcases hb_115 : (xv_56 == 0) with _ | _
              ·
                replace h := if_f h hb_115
                simp only [go_sem, Try.ntmps57, Try.results57, hb_115]
                refine seqQ_normal hQ49 ?_
                refine vc_cond_t (by (simp only [go_sem]; done)) ?_
                refine vc_seq_gen (by kernel_rfl) ?_
                intro QQ53 hQ53
                simp only [go_sem, Try.ntmps57, Try.results57]
                refine seqQ_normal hQ53 ?_
                refine vc_ret_of ?_
                refine blockQ_ret hQ48 ?_
                refine seqQ_ret hQ47 ?_
                refine thenQ_ret hQ44 ?_
                refine blockQ_ret hQ43 ?_
                refine thenQ_ret hQ41 ?_
                simp only [go_sem, Try.ntmps57, Try.results57]
                obtain rfl := Option.some.inj h
                refine retW_pure rfl ?_
                simp only [go_sem, Le]
              ·
                replace h := if_t h hb_115
                simp only [go_sem, Try.ntmps57, Try.results57, hb_115]
                rcases hb_116 : (decide (0 < i_9)) with _ | _
                ·
                  replace h := if_f h hb_116
                  simp only [go_sem, Try.ntmps57, Try.results57, hb_116]
                  refine seqQ_normal hQ49 ?_
                  refine vc_cond_f (by (simp only [go_sem]; done)) ?_
                  refine vc_skip_of ?_
                  refine blockQ_normal hQ48 ?_
                  refine seqQ_normal hQ47 ?_
                  simp only [go_sem, Try.ntmps57, Try.results57]
                  refine thenQ_normal hQ44 ?_
                  refine ⟨(m_6, IntKind.i64.wrap (i_9 + 1)), [some 0], ?_, h, Nat.lt_succ_self _⟩
                  simp only [go_sem, Le]
                ·
                  replace h := if_t h hb_116
                  obtain ⟨xv_57, exv_57, h⟩ := bindO_some h
                  obtain ⟨fxv_57a, fxv_57b, fxv_57c⟩ := idx_spec exv_57
                  obtain ⟨v_57, ev_57, h⟩ := bindO_some h
                  simp only [go_sem, Try.ntmps57, Try.results57, hb_116, fxv_57a, fxv_57b, fxv_57c]
                  refine And.intro (by omega) ?_
                  refine call0 (f_backwashref08_low_ok xv_57 v_57 ev_57) (by rfl) (by rfl) ?_
                  simp only [go_sem, Try.ntmps57, Try.results57]
                  rcases hb_117 : v_57 with _ | _
                  ·
                    replace h := if_f h hb_117
                    simp only [go_sem, Try.ntmps57, Try.results57, hb_117]
                    refine seqQ_normal hQ49 ?_
                    refine vc_cond_t (by (simp only [go_sem]; done)) ?_
                    refine vc_seq_gen (by kernel_rfl) ?_
                    intro QQ54 hQ54
                    simp only [go_sem, Try.ntmps57, Try.results57]
                    refine seqQ_normal hQ54 ?_
                    refine vc_ret_of ?_
                    refine blockQ_ret hQ48 ?_
                    refine seqQ_ret hQ47 ?_
                    refine thenQ_ret hQ44 ?_
                    refine blockQ_ret hQ43 ?_
                    refine thenQ_ret hQ41 ?_
                    simp only [go_sem, Try.ntmps57, Try.results57]
                    obtain rfl := Option.some.inj h
                    refine retW_pure rfl ?_
                    simp only [go_sem, Le]
                  ·
                    replace h := if_t h hb_117
                    obtain ⟨xv_58, exv_58, h⟩ := bindO_some h
                    obtain ⟨fxv_58a, fxv_58b, fxv_58c⟩ := idx_spec exv_58
                    obtain ⟨v_58, ev_58, h⟩ := bindO_some h
                    simp only [go_sem, Try.ntmps57, Try.results57, hb_117, fxv_58a, fxv_58b, fxv_58c]
                    refine And.intro (by omega) ?_
                    refine call0 (f_backwashref08_low_ok xv_58 v_58 ev_58) (by rfl) (by rfl) ?_
                    simp only [go_sem, Try.ntmps57, Try.results57]
                    refine seqQ_normal hQ49 ?_
                    refine vc_cond_of (b := (!v_58)) (by (simp only [go_sem]; done)) (fun hb_118 => ?_) (fun hb_118 => ?_)
                    ·
                      replace h := if_t h hb_118
                      simp only [decide_eq_true_eq, decide_eq_false_iff_not, Bool.not_eq_true', Bool.not_eq_false', beq_iff_eq, beq_eq_false_iff_ne, ne_eq, Bool.and_eq_true, Bool.or_eq_true, Int.not_lt, Int.not_le] at hb_118
                      refine vc_seq_gen (by kernel_rfl) ?_
                      intro QQ55 hQ55
                      simp only [go_sem, Try.ntmps57, Try.results57]
                      refine seqQ_normal hQ55 ?_
                      refine vc_ret_of ?_
                      refine blockQ_ret hQ48 ?_
                      refine seqQ_ret hQ47 ?_
                      refine thenQ_ret hQ44 ?_
                      refine blockQ_ret hQ43 ?_
                      refine thenQ_ret hQ41 ?_
                      simp only [go_sem, Try.ntmps57, Try.results57]
                      obtain rfl := Option.some.inj h
                      refine retW_pure rfl ?_
                      simp only [go_sem, Le]
                    ·
                      replace h := if_f h hb_118
                      simp only [decide_eq_true_eq, decide_eq_false_iff_not, Bool.not_eq_true', Bool.not_eq_false', beq_iff_eq, beq_eq_false_iff_ne, ne_eq, Bool.and_eq_true, Bool.or_eq_true, Int.not_lt, Int.not_le] at hb_118
                      refine vc_skip_of ?_
                      refine blockQ_normal hQ48 ?_
                      refine seqQ_normal hQ47 ?_
                      simp only [go_sem, Try.ntmps57, Try.results57]
                      refine thenQ_normal hQ44 ?_
                      refine ⟨(m_6, IntKind.i64.wrap (i_9 + 1)), [some 0], ?_, h, Nat.lt_succ_self _⟩
                      simp only [go_sem, Le]
        ·
          replace h := if_f h hb_109
          simp only [decide_eq_true_eq, decide_eq_false_iff_not, Bool.not_eq_true', Bool.not_eq_false', beq_iff_eq, beq_eq_false_iff_ne, ne_eq, Bool.and_eq_true, Bool.or_eq_true, Int.not_lt, Int.not_le] at hb_109
          refine vc_exit_of ?_
          refine seqQ_exit hQ45 ?_
          refine thenQ_exit hQ44 ?_
          refine blockQ_exit hQ43 ?_
          refine thenQ_normal hQ41 ?_
          refine ⟨(), [some 0], ?_, h⟩
          simp only [go_sem, Le]
    · rintro ⟨⟩ h
      try dsimp only at h
      rw [f_backwashref08_Fits_J1] at h
      refine vc_join (by kernel_rfl) ?_
      refine seq_cut_gen (ι := Unit) (fun (_ : Unit) => (⟨0, [(1, .ptr 0 0)], [(0, .box [.sl 1 (enc g_0.Parent), .sl 1 (enc g_0.Bound), .sl 4 (enc g_0.Nodes), .sl 4 (enc g_0.Edges)])], 1, 158⟩ : St)) (fun (_ : Unit) => f_backwashref08_Fits_J2 g_0 = some r) ?_ ?_
      ·
        intro QQ19 hQ19
        refine vc_seq_gen (by kernel_rfl) ?_
        intro QQ20 hQ20
        simp only [go_sem, Try.ntmps57, Try.results57]
        refine seqQ_normal hQ20 ?_
        refine vc_block_gen ?_
        intro QQ21 hQ21
        refine vc_loop_of ?_
        refine loop_gen (ι := Nat × Int) (fun ((_, i_7) : Nat × Int) => (⟨0, [(1, .ptr 0 0), (4, .v (.int .i64 i_7))], [(0, .box [.sl 1 (enc g_0.Parent), .sl 1 (enc g_0.Bound), .sl 4 (enc g_0.Nodes), .sl 4 (enc g_0.Edges)])], 1, 158⟩ : St)) (fun ((n_, i_7) : Nat × Int) => loopK (f_backwashref08_Fits_B4 g_0) n_ i_7 = some r) (fun p => p.1) (rounds, 0) [some 0] ?_ h ?_
        · simp only [go_sem, Le]
        · rintro ⟨n_4, i_7⟩ h QQ22 hQ22
          dsimp only at h
          replace h := loopK_some h
          obtain ⟨m_4, rfl, h⟩ := h
          rw [f_backwashref08_Fits_B4] at h
          refine vc_seq_gen (by kernel_rfl) ?_
          intro QQ23 hQ23
          refine vc_seq_gen (by kernel_rfl) ?_
          intro QQ24 hQ24
          simp only [go_sem, Try.ntmps57, Try.results57]
          refine seqQ_normal hQ24 ?_
          refine vc_cond_of (b := (decide (i_7 < (List.length g_0.Nodes : Int)))) (by (simp only [go_sem]; done)) (fun hb_84 => ?_) (fun hb_84 => ?_)
          ·
            replace h := if_t h hb_84
            simp only [decide_eq_true_eq, decide_eq_false_iff_not, Bool.not_eq_true', Bool.not_eq_false', beq_iff_eq, beq_eq_false_iff_ne, ne_eq, Bool.and_eq_true, Bool.or_eq_true, Int.not_lt, Int.not_le] at hb_84
            refine vc_skip_of ?_
            refine seqQ_normal hQ23 ?_
            refine vc_join (by kernel_rfl) ?_
            refine seq_go_gen ?_
            intro QQ25 hQ25
            refine vc_block_gen ?_
            intro QQ26 hQ26
            refine vc_seq_gen (by kernel_rfl) ?_
            intro QQ27 hQ27
            obtain ⟨xv_39, exv_39, h⟩ := bindO_some h
            obtain ⟨fxv_39a, fxv_39b, fxv_39c⟩ := idx_spec exv_39
            simp only [go_sem, Try.ntmps57, Try.results57, fxv_39a, fxv_39b, fxv_39c]
            refine And.intro (by omega) ?_
            refine seqQ_normal hQ27 ?_
            refine vc_seq_gen (by kernel_rfl) ?_
            intro QQ28 hQ28
            refine vc_seq_gen (by kernel_rfl) ?_
            intro QQ29 hQ29
            obtain ⟨v_44, ev_44, h⟩ := bindO_some h
            simp only [go_sem, Try.ntmps57, Try.results57]
            refine And.intro (by omega) ?_
            refine call0 (f_backwashref08_low_ok xv_39.Kind v_44 ev_44) (by rfl) (by rfl) ?_
            simp only [go_sem, Try.ntmps57, Try.results57]
            rcases hb_85 : v_44 with _ | _
            ·
              replace h := if_f h hb_85
              simp only [go_sem, Try.ntmps57, Try.results57, hb_85]
              refine seqQ_normal hQ29 ?_
              refine vc_cond_t (by (simp only [go_sem]; done)) ?_
              refine vc_seq_gen (by kernel_rfl) ?_
              intro QQ30 hQ30
              simp only [go_sem, Try.ntmps57, Try.results57]
              refine seqQ_normal hQ30 ?_
              refine vc_ret_of ?_
              refine seqQ_ret hQ28 ?_
              refine blockQ_ret hQ26 ?_
              refine seqQ_ret hQ25 ?_
              refine thenQ_ret hQ22 ?_
              refine blockQ_ret hQ21 ?_
              refine thenQ_ret hQ19 ?_
              simp only [go_sem, Try.ntmps57, Try.results57]
              obtain rfl := Option.some.inj h
              refine retW_pure rfl ?_
              simp only [go_sem, Le]
            ·
              replace h := if_t h hb_85
              obtain ⟨v_45, ev_45, h⟩ := bindO_some h
              simp only [go_sem, Try.ntmps57, Try.results57, hb_85]
              refine call0 (f_backwashref08_low_ok xv_39.Scope v_45 ev_45) (by rfl) (by rfl) ?_
              simp only [go_sem, Try.ntmps57, Try.results57]
              refine seqQ_normal hQ29 ?_
              refine vc_cond_of (b := ((!v_45) || (decide (64 < (List.length xv_39.Prog : Int))))) (by (simp only [go_sem]; done)) (fun hb_86 => ?_) (fun hb_86 => ?_)
              ·
                replace h := if_t h hb_86
                simp only [decide_eq_true_eq, decide_eq_false_iff_not, Bool.not_eq_true', Bool.not_eq_false', beq_iff_eq, beq_eq_false_iff_ne, ne_eq, Bool.and_eq_true, Bool.or_eq_true, Int.not_lt, Int.not_le] at hb_86
                refine vc_seq_gen (by kernel_rfl) ?_
                intro QQ31 hQ31
                simp only [go_sem, Try.ntmps57, Try.results57]
                refine seqQ_normal hQ31 ?_
                refine vc_ret_of ?_
                refine seqQ_ret hQ28 ?_
                refine blockQ_ret hQ26 ?_
                refine seqQ_ret hQ25 ?_
                refine thenQ_ret hQ22 ?_
                refine blockQ_ret hQ21 ?_
                refine thenQ_ret hQ19 ?_
                simp only [go_sem, Try.ntmps57, Try.results57]
                obtain rfl := Option.some.inj h
                refine retW_pure rfl ?_
                simp only [go_sem, Le]
              ·
                replace h := if_f h hb_86
                refine vc_skip_of ?_
                refine seqQ_normal hQ28 ?_
                refine vc_seq_gen (by kernel_rfl) ?_
                intro QQ32 hQ32
                simp only [go_sem, Try.ntmps57, Try.results57]
                refine seqQ_normal hQ32 ?_
                refine vc_block_gen ?_
                intro QQ33 hQ33
                refine vc_loop_of ?_
                refine loop_gen (ι := Nat × Int) (fun ((_, k_11) : Nat × Int) => (⟨0, [(1, .ptr 0 0), (4, .v (.int .i64 i_7)), (5, .ptr 1 0), (6, .v (.int .i64 k_11)), (104, .ptr 1 1), (105, .v (.int .i64 xv_39.Scope)), (106, .v (.bool v_45)), (107, .v (.bool (!v_45)))], [(0, .box [.sl 1 (enc g_0.Parent), .sl 1 (enc g_0.Bound), .sl 4 (enc g_0.Nodes), .sl 4 (enc g_0.Edges)]), (1, .box [.v (.int .i64 xv_39.Kind), .v (.int .i64 xv_39.Scope), .v (.int .i64 xv_39.Arg), .sl 2 (enc xv_39.Prog)])], 2, 158⟩ : St)) (fun ((n_, k_11) : Nat × Int) => loopK (f_backwashref08_Fits_B5 i_7 (loopK (f_backwashref08_Fits_B4 g_0) m_4) xv_39) n_ k_11 = some r) (fun p => p.1) (rounds, 0) [some 0, some 1] ?_ h ?_
                · simp only [go_sem, Le] <;> (repeat' apply And.intro) <;> first | rfl | (simp [go_sem]; done)
                · rintro ⟨n_5, k_11⟩ h QQ34 hQ34
                  dsimp only at h
                  replace h := loopK_some h
                  obtain ⟨m_5, rfl, h⟩ := h
                  rw [f_backwashref08_Fits_B5] at h
                  refine vc_seq_gen (by kernel_rfl) ?_
                  intro QQ35 hQ35
                  refine vc_seq_gen (by kernel_rfl) ?_
                  intro QQ36 hQ36
                  simp only [go_sem, Try.ntmps57, Try.results57]
                  refine seqQ_normal hQ36 ?_
                  refine vc_cond_of (b := (decide (k_11 < (List.length xv_39.Prog : Int)))) (by (simp only [go_sem]; done)) (fun hb_91 => ?_) (fun hb_91 => ?_)
                  ·
                    replace h := if_t h hb_91
                    simp only [decide_eq_true_eq, decide_eq_false_iff_not, Bool.not_eq_true', Bool.not_eq_false', beq_iff_eq, beq_eq_false_iff_ne, ne_eq, Bool.and_eq_true, Bool.or_eq_true, Int.not_lt, Int.not_le] at hb_91
                    refine vc_skip_of ?_
                    refine seqQ_normal hQ35 ?_
                    refine vc_seq_gen (by kernel_rfl) ?_
                    intro QQ37 hQ37
                    refine vc_block_gen ?_
                    intro QQ38 hQ38
                    refine vc_seq_gen (by kernel_rfl) ?_
                    intro QQ39 hQ39
                    obtain ⟨xv_42, exv_42, h⟩ := bindO_some h
                    obtain ⟨fxv_42a, fxv_42b, fxv_42c⟩ := idx_spec exv_42
                    obtain ⟨v_48, ev_48, h⟩ := bindO_some h
                    simp only [go_sem, Try.ntmps57, Try.results57, fxv_42a, fxv_42b, fxv_42c]
                    refine And.intro (by omega) ?_
                    refine call0 (f_backwashref08_low_ok xv_42.Op v_48 ev_48) (by rfl) (by rfl) ?_
                    simp only [go_sem, Try.ntmps57, Try.results57]
                    refine seqQ_normal hQ39 ?_
                    refine vc_cond_of (b := (!v_48)) (by (simp only [go_sem]; done)) (fun hb_92 => ?_) (fun hb_92 => ?_)
                    ·
                      replace h := if_t h hb_92
                      simp only [decide_eq_true_eq, decide_eq_false_iff_not, Bool.not_eq_true', Bool.not_eq_false', beq_iff_eq, beq_eq_false_iff_ne, ne_eq, Bool.and_eq_true, Bool.or_eq_true, Int.not_lt, Int.not_le] at hb_92
                      refine vc_seq_gen (by kernel_rfl) ?_
                      intro QQ40 hQ40
                      simp only [go_sem, Try.ntmps57, Try.results57]
                      refine seqQ_normal hQ40 ?_
                      refine vc_ret_of ?_
                      refine blockQ_ret hQ38 ?_
                      refine seqQ_ret hQ37 ?_
                      refine thenQ_ret hQ34 ?_
                      refine blockQ_ret hQ33 ?_
                      refine blockQ_ret hQ26 ?_
                      refine seqQ_ret hQ25 ?_
                      refine thenQ_ret hQ22 ?_
                      refine blockQ_ret hQ21 ?_
                      refine thenQ_ret hQ19 ?_
                      simp only [go_sem, Try.ntmps57, Try.results57]
                      obtain rfl := Option.some.inj h
                      refine retW_pure rfl ?_
                      simp only [go_sem, Le]
                    ·
                      replace h := if_f h hb_92
                      simp only [decide_eq_true_eq, decide_eq_false_iff_not, Bool.not_eq_true', Bool.not_eq_false', beq_iff_eq, beq_eq_false_iff_ne, ne_eq, Bool.and_eq_true, Bool.or_eq_true, Int.not_lt, Int.not_le] at hb_92
                      refine vc_skip_of ?_
                      refine blockQ_normal hQ38 ?_
                      refine seqQ_normal hQ37 ?_
                      simp only [go_sem, Try.ntmps57, Try.results57]
                      refine thenQ_normal hQ34 ?_
                      refine ⟨(m_5, IntKind.i64.wrap (k_11 + 1)), [some 0, some 1], ?_, h, Nat.lt_succ_self _⟩
                      simp only [go_sem, Le] <;> (repeat' apply And.intro) <;> first | rfl | (simp [go_sem]; done)
                  ·
                    replace h := if_f h hb_91
                    simp only [decide_eq_true_eq, decide_eq_false_iff_not, Bool.not_eq_true', Bool.not_eq_false', beq_iff_eq, beq_eq_false_iff_ne, ne_eq, Bool.and_eq_true, Bool.or_eq_true, Int.not_lt, Int.not_le] at hb_91
                    refine vc_exit_of ?_
                    refine seqQ_exit hQ35 ?_
                    refine thenQ_exit hQ34 ?_
                    refine blockQ_exit hQ33 ?_
                    refine blockQ_normal hQ26 ?_
                    refine seqQ_normal hQ25 ?_
                    simp only [go_sem, Try.ntmps57, Try.results57]
                    refine thenQ_normal hQ22 ?_
                    refine ⟨(m_4, IntKind.i64.wrap (i_7 + 1)), [some 0], ?_, h, Nat.lt_succ_self _⟩
                    simp only [go_sem, Le]
          ·
            replace h := if_f h hb_84
            simp only [decide_eq_true_eq, decide_eq_false_iff_not, Bool.not_eq_true', Bool.not_eq_false', beq_iff_eq, beq_eq_false_iff_ne, ne_eq, Bool.and_eq_true, Bool.or_eq_true, Int.not_lt, Int.not_le] at hb_84
            refine vc_exit_of ?_
            refine seqQ_exit hQ23 ?_
            refine thenQ_exit hQ22 ?_
            refine blockQ_exit hQ21 ?_
            refine thenQ_normal hQ19 ?_
            refine ⟨(), [some 0], ?_, h⟩
            simp only [go_sem, Le]
      · rintro ⟨⟩ h
        try dsimp only at h
        rw [f_backwashref08_Fits_J2] at h
        refine vc_join (by kernel_rfl) ?_
        refine seq_go_gen ?_
        intro QQ5 hQ5
        refine vc_seq_gen (by kernel_rfl) ?_
        intro QQ6 hQ6
        simp only [go_sem, Try.ntmps57, Try.results57]
        refine seqQ_normal hQ6 ?_
        refine vc_block_gen ?_
        intro QQ7 hQ7
        refine vc_loop_of ?_
        refine loop_gen (ι := Nat × Int) (fun ((_, i_5) : Nat × Int) => (⟨0, [(1, .ptr 0 0), (7, .v (.int .i64 i_5))], [(0, .box [.sl 1 (enc g_0.Parent), .sl 1 (enc g_0.Bound), .sl 4 (enc g_0.Nodes), .sl 4 (enc g_0.Edges)])], 1, 158⟩ : St)) (fun ((n_, i_5) : Nat × Int) => loopK (f_backwashref08_Fits_B3 g_0) n_ i_5 = some r) (fun p => p.1) (rounds, 0) [some 0] ?_ h ?_
        · simp only [go_sem, Le]
        · rintro ⟨n_3, i_5⟩ h QQ8 hQ8
          dsimp only at h
          replace h := loopK_some h
          obtain ⟨m_3, rfl, h⟩ := h
          rw [f_backwashref08_Fits_B3] at h
          refine vc_seq_gen (by kernel_rfl) ?_
          intro QQ9 hQ9
          refine vc_seq_gen (by kernel_rfl) ?_
          intro QQ10 hQ10
          simp only [go_sem, Try.ntmps57, Try.results57]
          refine seqQ_normal hQ10 ?_
          refine vc_cond_of (b := (decide (i_5 < (List.length g_0.Edges : Int)))) (by (simp only [go_sem]; done)) (fun hb_62 => ?_) (fun hb_62 => ?_)
          ·
            replace h := if_t h hb_62
            simp only [decide_eq_true_eq, decide_eq_false_iff_not, Bool.not_eq_true', Bool.not_eq_false', beq_iff_eq, beq_eq_false_iff_ne, ne_eq, Bool.and_eq_true, Bool.or_eq_true, Int.not_lt, Int.not_le] at hb_62
            refine vc_skip_of ?_
            refine seqQ_normal hQ9 ?_
            refine vc_seq_gen (by kernel_rfl) ?_
            intro QQ11 hQ11
            refine vc_block_gen ?_
            intro QQ12 hQ12
            refine vc_seq_gen (by kernel_rfl) ?_
            intro QQ13 hQ13
            obtain ⟨xv_30, exv_30, h⟩ := bindO_some h
            obtain ⟨fxv_30a, fxv_30b, fxv_30c⟩ := idx_spec exv_30
            simp only [go_sem, Try.ntmps57, Try.results57, fxv_30a, fxv_30b, fxv_30c]
            refine And.intro (by omega) ?_
            refine seqQ_normal hQ13 ?_
            refine vc_seq_gen (by kernel_rfl) ?_
            intro QQ14 hQ14
            obtain ⟨v_31, ev_31, h⟩ := bindO_some h
            simp only [go_sem, Try.ntmps57, Try.results57]
            refine And.intro (by omega) ?_
            refine call0 (f_backwashref08_low_ok xv_30.From v_31 ev_31) (by rfl) (by rfl) ?_
            simp only [go_sem, Try.ntmps57, Try.results57]
            rcases hb_63 : v_31 with _ | _
            ·
              replace h := if_f h hb_63
              simp only [go_sem, Try.ntmps57, Try.results57, hb_63]
              refine seqQ_normal hQ14 ?_
              refine vc_cond_t (by (simp only [go_sem]; done)) ?_
              refine vc_seq_gen (by kernel_rfl) ?_
              intro QQ15 hQ15
              simp only [go_sem, Try.ntmps57, Try.results57]
              refine seqQ_normal hQ15 ?_
              refine vc_ret_of ?_
              refine blockQ_ret hQ12 ?_
              refine seqQ_ret hQ11 ?_
              refine thenQ_ret hQ8 ?_
              refine blockQ_ret hQ7 ?_
              refine seqQ_ret hQ5 ?_
              simp only [go_sem, Try.ntmps57, Try.results57]
              obtain rfl := Option.some.inj h
              refine retW_pure rfl ?_
              simp only [go_sem, Le]
            ·
              replace h := if_t h hb_63
              obtain ⟨v_32, ev_32, h⟩ := bindO_some h
              simp only [go_sem, Try.ntmps57, Try.results57, hb_63]
              refine call0 (f_backwashref08_low_ok xv_30.To v_32 ev_32) (by rfl) (by rfl) ?_
              simp only [go_sem, Try.ntmps57, Try.results57]
              rcases hb_64 : v_32 with _ | _
              ·
                replace h := if_f h hb_64
                simp only [go_sem, Try.ntmps57, Try.results57, hb_64]
                refine seqQ_normal hQ14 ?_
                refine vc_cond_t (by (simp only [go_sem]; done)) ?_
                refine vc_seq_gen (by kernel_rfl) ?_
                intro QQ16 hQ16
                simp only [go_sem, Try.ntmps57, Try.results57]
                refine seqQ_normal hQ16 ?_
                refine vc_ret_of ?_
                refine blockQ_ret hQ12 ?_
                refine seqQ_ret hQ11 ?_
                refine thenQ_ret hQ8 ?_
                refine blockQ_ret hQ7 ?_
                refine seqQ_ret hQ5 ?_
                simp only [go_sem, Try.ntmps57, Try.results57]
                obtain rfl := Option.some.inj h
                refine retW_pure rfl ?_
                simp only [go_sem, Le]
              ·
                replace h := if_t h hb_64
                obtain ⟨v_33, ev_33, h⟩ := bindO_some h
                simp only [go_sem, Try.ntmps57, Try.results57, hb_64]
                refine call0 (f_backwashref08_low_ok xv_30.Port v_33 ev_33) (by rfl) (by rfl) ?_
                simp only [go_sem, Try.ntmps57, Try.results57]
                refine seqQ_normal hQ14 ?_
                refine vc_cond_of (b := (!v_33)) (by (simp only [go_sem]; done)) (fun hb_65 => ?_) (fun hb_65 => ?_)
                ·
                  replace h := if_t h hb_65
                  simp only [decide_eq_true_eq, decide_eq_false_iff_not, Bool.not_eq_true', Bool.not_eq_false', beq_iff_eq, beq_eq_false_iff_ne, ne_eq, Bool.and_eq_true, Bool.or_eq_true, Int.not_lt, Int.not_le] at hb_65
                  refine vc_seq_gen (by kernel_rfl) ?_
                  intro QQ17 hQ17
                  simp only [go_sem, Try.ntmps57, Try.results57]
                  refine seqQ_normal hQ17 ?_
                  refine vc_ret_of ?_
                  refine blockQ_ret hQ12 ?_
                  refine seqQ_ret hQ11 ?_
                  refine thenQ_ret hQ8 ?_
                  refine blockQ_ret hQ7 ?_
                  refine seqQ_ret hQ5 ?_
                  simp only [go_sem, Try.ntmps57, Try.results57]
                  obtain rfl := Option.some.inj h
                  refine retW_pure rfl ?_
                  simp only [go_sem, Le]
                ·
                  replace h := if_f h hb_65
                  simp only [decide_eq_true_eq, decide_eq_false_iff_not, Bool.not_eq_true', Bool.not_eq_false', beq_iff_eq, beq_eq_false_iff_ne, ne_eq, Bool.and_eq_true, Bool.or_eq_true, Int.not_lt, Int.not_le] at hb_65
                  refine vc_skip_of ?_
                  refine blockQ_normal hQ12 ?_
                  refine seqQ_normal hQ11 ?_
                  simp only [go_sem, Try.ntmps57, Try.results57]
                  refine thenQ_normal hQ8 ?_
                  refine ⟨(m_3, IntKind.i64.wrap (i_5 + 1)), [some 0], ?_, h, Nat.lt_succ_self _⟩
                  simp only [go_sem, Le]
          ·
            replace h := if_f h hb_62
            simp only [decide_eq_true_eq, decide_eq_false_iff_not, Bool.not_eq_true', Bool.not_eq_false', beq_iff_eq, beq_eq_false_iff_ne, ne_eq, Bool.and_eq_true, Bool.or_eq_true, Int.not_lt, Int.not_le] at hb_62
            refine vc_exit_of ?_
            refine seqQ_exit hQ9 ?_
            refine thenQ_exit hQ8 ?_
            refine blockQ_exit hQ7 ?_
            refine seqQ_normal hQ5 ?_
            refine vc_seq_gen (by kernel_rfl) ?_
            intro QQ18 hQ18
            simp only [go_sem, Try.ntmps57, Try.results57]
            refine seqQ_normal hQ18 ?_
            refine vc_ret_of ?_
            simp only [go_sem, Try.ntmps57, Try.results57]
            obtain rfl := Option.some.inj h
            refine retW_pure rfl ?_
            simp only [go_sem, Le]
end Go.Proofs.Ytngeldeahafcfaa

namespace Go.Proofs.Ytngeldeahafcfaa
open Go Go.RowKit
set_option maxHeartbeats 2000000
set_option maxRecDepth 100000
set_option linter.unusedSimpArgs false
set_option linter.unusedVariables false
def f_backwashref08_Put_B3 (g_0 : GGraph) (rec_3 : Int × (List UInt8) → Option ((List UInt8) × Int)) : Int × (List UInt8) → Option ((List UInt8) × Int) :=
  fun (i_5, a_13) =>
  (if (decide (i_5 < (List.length g_0.Edges : Int))) = true then bindO (idx g_0.Edges i_5) (fun (xv_29 : GEdge) =>
  bindO (f_backwashref06_Uint a_13 (IntKind.u64.wrap xv_29.From)) (fun (v_46 : List UInt8) =>
  bindO (f_backwashref06_Uint v_46 (IntKind.u64.wrap xv_29.To)) (fun (v_47 : List UInt8) =>
  bindO (f_backwashref06_Uint v_47 (IntKind.u64.wrap xv_29.Port)) (fun (v_48 : List UInt8) =>
  (if xv_29.Exchange = true then guardO (0 ≤ 1 ∧ 1 < 256) (
  guardO ((List.length v_48 + List.length ([toB 1] : List UInt8)) * 1 ≤ 140737488355328) (
  rec_3 (IntKind.i64.wrap (i_5 + 1), (v_48 ++ ([toB 1] : List UInt8)))))
  else guardO (0 ≤ 0 ∧ 0 < 256) (
  guardO ((List.length v_48 + List.length ([toB 0] : List UInt8)) * 1 ≤ 140737488355328) (
  rec_3 (IntKind.i64.wrap (i_5 + 1), (v_48 ++ ([toB 0] : List UInt8))))))))))
  else some (a_13, 0))
def f_backwashref08_Put_J2 (g_0 : GGraph) (a_11 : List UInt8) : Option ((List UInt8) × Int) :=
  bindO (f_backwashref06_Uint a_11 (IntKind.u64.wrap (List.length g_0.Edges : Int))) (fun (v_39 : List UInt8) =>
  loopK (f_backwashref08_Put_B3 g_0) rounds (0, v_39))
def f_backwashref08_Put_B5 (i_7 : Int) (rec_4 : (Int × (List UInt8) → Option ((List UInt8) × Int))) (xv_44 : GNode) (rec_5 : Int × (List UInt8) → Option ((List UInt8) × Int)) : Int × (List UInt8) → Option ((List UInt8) × Int) :=
  fun (k_11, a_21) =>
  (if (decide (k_11 < (List.length xv_44.Prog : Int))) = true then bindO (idx xv_44.Prog k_11) (fun (xv_49 : GIns) =>
  bindO (f_backwashref06_Uint a_21 (IntKind.u64.wrap xv_49.Op)) (fun (v_77 : List UInt8) =>
  bindO (idx xv_44.Prog k_11) (fun (xv_50 : GIns) =>
  bindO (f_backwashref06_Int v_77 xv_50.N) (fun (v_78 : List UInt8) =>
  rec_5 (IntKind.i64.wrap (k_11 + 1), v_78)))))
  else rec_4 (IntKind.i64.wrap (i_7 + 1), a_21))
def f_backwashref08_Put_B4 (g_0 : GGraph) (rec_4 : Int × (List UInt8) → Option ((List UInt8) × Int)) : Int × (List UInt8) → Option ((List UInt8) × Int) :=
  fun (i_7, a_19) =>
  (if (decide (i_7 < (List.length g_0.Nodes : Int))) = true then bindO (idx g_0.Nodes i_7) (fun (xv_44 : GNode) =>
  bindO (f_backwashref06_Uint a_19 (IntKind.u64.wrap xv_44.Kind)) (fun (v_69 : List UInt8) =>
  bindO (f_backwashref06_Uint v_69 (IntKind.u64.wrap xv_44.Scope)) (fun (v_70 : List UInt8) =>
  bindO (f_backwashref06_Int v_70 xv_44.Arg) (fun (v_71 : List UInt8) =>
  bindO (f_backwashref06_Uint v_71 (IntKind.u64.wrap (List.length xv_44.Prog : Int))) (fun (v_72 : List UInt8) =>
  loopK (f_backwashref08_Put_B5 i_7 rec_4 xv_44) rounds (0, v_72))))))
  else f_backwashref08_Put_J2 g_0 a_19)
def f_backwashref08_Put_J1 (g_0 : GGraph) (a_2 : List UInt8) : Option ((List UInt8) × Int) :=
  bindO (f_backwashref06_Uint a_2 (IntKind.u64.wrap (List.length g_0.Nodes : Int))) (fun (v_8 : List UInt8) =>
  loopK (f_backwashref08_Put_B4 g_0) rounds (0, v_8))
def f_backwashref08_Put_B6 (g_0 : GGraph) (rec_6 : Int × (List UInt8) → Option ((List UInt8) × Int)) : Int × (List UInt8) → Option ((List UInt8) × Int) :=
  fun (i_9, a_23) =>
  (if (decide (i_9 < (List.length g_0.Parent : Int))) = true then bindO (idx g_0.Parent i_9) (fun (xv_55 : Int) =>
  bindO (f_backwashref06_Uint a_23 (IntKind.u64.wrap xv_55)) (fun (v_83 : List UInt8) =>
  bindO (idx g_0.Bound i_9) (fun (xv_56 : Int) =>
  bindO (f_backwashref06_Uint v_83 (IntKind.u64.wrap xv_56)) (fun (v_84 : List UInt8) =>
  rec_6 (IntKind.i64.wrap (i_9 + 1), v_84)))))
  else f_backwashref08_Put_J1 g_0 a_23)
def f_backwashref08_Put (g_0 : GGraph) : Option ((List UInt8) × Int) :=
  bindO (f_backwashref08_Fits g_0) (fun (v_0 : Bool) =>
  (if (!v_0) = true then some (([] : List UInt8), 1)
  else guardO (0 ≤ 66 ∧ 66 < 256) (
  guardO (0 ≤ 87 ∧ 87 < 256) (
  guardO (0 ≤ 49 ∧ 49 < 256) (
  bindO (f_backwashref06_Uint ([toB 66, toB 87, toB 49] : List UInt8) (IntKind.u64.wrap (List.length g_0.Parent : Int))) (fun (v_1 : List UInt8) =>
  loopK (f_backwashref08_Put_B6 g_0) rounds (1, v_1)))))))
theorem f_backwashref08_Put_ok (g_0 : GGraph)  (r : (List UInt8) × Int) (h : f_backwashref08_Put g_0 = some r) : PureS Try.prog 33 [.agg [.sl 1 (enc g_0.Parent), .sl 1 (enc g_0.Bound), .sl 4 (enc g_0.Nodes), .sl 4 (enc g_0.Edges)]] 0 (.tup [.sl 1 (enc r.1), .v (.int .i64 r.2)]) := by
  unfold PureS
  refine Spec.of_vc Try.func33 rfl (by kernel_rfl) (by kernel_rfl) ?_
  rw [f_backwashref08_Put] at h
  refine vc_seq_gen (by kernel_rfl) ?_
  intro QQ1 hQ1
  simp only [go_sem, Try.ntmps33, Try.results33]
  refine seqQ_normal hQ1 ?_
  refine vc_seq_gen (by kernel_rfl) ?_
  intro QQ2 hQ2
  refine vc_seq_gen (by kernel_rfl) ?_
  intro QQ3 hQ3
  obtain ⟨v_0, ev_0, h⟩ := bindO_some h
  simp only [go_sem, Try.ntmps33, Try.results33]
  refine call0 (f_backwashref08_Fits_ok g_0 v_0 ev_0) (by rfl) (by rfl) ?_
  simp only [go_sem, Try.ntmps33, Try.results33]
  refine seqQ_normal hQ3 ?_
  refine vc_cond_of (b := (!v_0)) (by (simp only [go_sem]; done)) (fun hb_0 => ?_) (fun hb_0 => ?_)
  ·
    replace h := if_t h hb_0
    simp only [decide_eq_true_eq, decide_eq_false_iff_not, Bool.not_eq_true', Bool.not_eq_false', beq_iff_eq, beq_eq_false_iff_ne, ne_eq, Bool.and_eq_true, Bool.or_eq_true, Int.not_lt, Int.not_le] at hb_0
    refine vc_seq_gen (by kernel_rfl) ?_
    intro QQ4 hQ4
    simp only [go_sem, Try.ntmps33, Try.results33]
    refine seqQ_normal hQ4 ?_
    refine vc_ret_of ?_
    refine seqQ_ret hQ2 ?_
    simp only [go_sem, Try.ntmps33, Try.results33]
    obtain rfl := Option.some.inj h
    refine retW_pure rfl ?_
    simp only [go_sem, Le]
  ·
    replace h := if_f h hb_0
    simp only [decide_eq_true_eq, decide_eq_false_iff_not, Bool.not_eq_true', Bool.not_eq_false', beq_iff_eq, beq_eq_false_iff_ne, ne_eq, Bool.and_eq_true, Bool.or_eq_true, Int.not_lt, Int.not_le] at hb_0
    refine vc_skip_of ?_
    refine seqQ_normal hQ2 ?_
    refine vc_seq_gen (by kernel_rfl) ?_
    intro QQ5 hQ5
    obtain ⟨g_1, h⟩ := guardO_some h
    obtain ⟨g_2, h⟩ := guardO_some h
    obtain ⟨g_3, h⟩ := guardO_some h
    have rf_0 : [[.v (.int .u8 66)], [.v (.int .u8 87)], [.v (.int .u8 49)]] = enc ([toB 66, toB 87, toB 49] : List UInt8) := by rfl
    obtain ⟨v_1, ev_1, h⟩ := bindO_some h
    simp only [go_sem, Try.ntmps33, Try.results33, g_1, g_2, g_3]
    refine And.intro (by omega) ?_
    simp only [rf_0]
    refine callo (f_backwashref06_Uint_own ([toB 66, toB 87, toB 49] : List UInt8) (IntKind.u64.wrap (List.length g_0.Parent : Int)) v_1 ev_1) (by rfl) (by rfl) ?_
    simp only [go_sem, Try.ntmps33, Try.results33]
    refine seqQ_normal hQ5 ?_
    refine vc_join (by kernel_rfl) ?_
    refine seq_cut_gen (ι := (List UInt8)) (fun (a_2 : (List UInt8)) => (⟨0, [(1, .ptr 0 0), (4, .osl 1 1 (0) (List.length a_2))], [(0, .box [.sl 1 (enc g_0.Parent), .sl 1 (enc g_0.Bound), .sl 4 (enc g_0.Nodes), .sl 4 (enc g_0.Edges)]), (1, .arr 1 (enc a_2))], 2, 142⟩ : St)) (fun (a_2 : (List UInt8)) => f_backwashref08_Put_J1 g_0 a_2 = some r) ?_ ?_
    ·
      intro QQ38 hQ38
      refine vc_seq_gen (by kernel_rfl) ?_
      intro QQ39 hQ39
      simp only [go_sem, Try.ntmps33, Try.results33]
      refine seqQ_normal hQ39 ?_
      refine vc_block_gen ?_
      intro QQ40 hQ40
      refine vc_loop_of ?_
      refine loop_gen (ι := Nat × Int × (List UInt8)) (fun ((_, i_9, a_23) : Nat × Int × (List UInt8)) => (⟨0, [(1, .ptr 0 0), (4, .osl 1 1 (0) (List.length a_23)), (5, .v (.int .i64 i_9))], [(0, .box [.sl 1 (enc g_0.Parent), .sl 1 (enc g_0.Bound), .sl 4 (enc g_0.Nodes), .sl 4 (enc g_0.Edges)]), (1, .arr 1 (enc a_23))], 2, 142⟩ : St)) (fun ((n_, i_9, a_23) : Nat × Int × (List UInt8)) => loopK (f_backwashref08_Put_B6 g_0) n_ (i_9, a_23) = some r) (fun p => p.1) (rounds, 1, v_1) [some 0, some 2] ?_ h ?_
      · simp only [go_sem, Le] <;> (repeat' apply And.intro) <;> first | rfl | (simp [go_sem]; done)
      · rintro ⟨n_6, i_9, a_23⟩ h QQ41 hQ41
        dsimp only at h
        replace h := loopK_some h
        obtain ⟨m_6, rfl, h⟩ := h
        rw [f_backwashref08_Put_B6] at h
        refine vc_seq_gen (by kernel_rfl) ?_
        intro QQ42 hQ42
        refine vc_seq_gen (by kernel_rfl) ?_
        intro QQ43 hQ43
        simp only [go_sem, Try.ntmps33, Try.results33]
        refine And.intro (by omega) ?_
        refine seqQ_normal hQ43 ?_
        refine vc_cond_of (b := (decide (i_9 < (List.length g_0.Parent : Int)))) (by (simp only [go_sem]; done)) (fun hb_36 => ?_) (fun hb_36 => ?_)
        ·
          replace h := if_t h hb_36
          simp only [decide_eq_true_eq, decide_eq_false_iff_not, Bool.not_eq_true', Bool.not_eq_false', beq_iff_eq, beq_eq_false_iff_ne, ne_eq, Bool.and_eq_true, Bool.or_eq_true, Int.not_lt, Int.not_le] at hb_36
          refine vc_skip_of ?_
          refine seqQ_normal hQ42 ?_
          refine vc_seq_gen (by kernel_rfl) ?_
          intro QQ44 hQ44
          refine vc_block_gen ?_
          intro QQ45 hQ45
          refine vc_draw ?_
          refine drawV_weak (s' := (⟨0, [(1, .ptr 0 0), (4, .sl 1 (enc a_23)), (5, .v (.int .i64 i_9)), (21, .v (.int .i64 i_9)), (22, .ptr 0 0), (23, .sl 1 (enc g_0.Parent)), (24, .v (.int .i64 (List.length g_0.Parent : Int))), (25, .v (.bool (decide (i_9 < (List.length g_0.Parent : Int)))))], [(0, .box [.sl 1 (enc g_0.Parent), .sl 1 (enc g_0.Bound), .sl 4 (enc g_0.Nodes), .sl 4 (enc g_0.Edges)])], 1, 142⟩ : St)) (l := [some 0]) ?_ ?_
          · simp only [go_sem, Le] <;> (repeat' apply And.intro) <;> (simp [go_sem]; done)
          refine drawM_tail 14 [0, 0, 2, 0, 14, 30, 62, 127, 0, 256, 0, 1792, 3840, 7936, 16383, 32767] mixed (by kernel_rfl) (of_decide_eq_true (by kernel_rfl)) (by kernel_rfl) ?_
          obtain ⟨xv_55, exv_55, h⟩ := bindO_some h
          obtain ⟨fxv_55a, fxv_55b, fxv_55c⟩ := idx_spec exv_55
          obtain ⟨v_83, ev_83, h⟩ := bindO_some h
          simp only [go_sem, Try.ntmps33, Try.results33, fxv_55a, fxv_55b, fxv_55c]
          refine And.intro (by omega) ?_
          refine And.intro (by omega) ?_
          refine callq (fun _ => (f_backwashref06_Uint_ok a_23 (IntKind.u64.wrap xv_55) v_83 ev_83)) (by rfl) (by rfl) ?_
          obtain ⟨xv_56, exv_56, h⟩ := bindO_some h
          obtain ⟨fxv_56a, fxv_56b, fxv_56c⟩ := idx_spec exv_56
          obtain ⟨v_84, ev_84, h⟩ := bindO_some h
          simp only [go_sem, Try.ntmps33, Try.results33, fxv_56a, fxv_56b, fxv_56c]
          refine And.intro (by omega) ?_
          refine callo (f_backwashref06_Uint_own v_83 (IntKind.u64.wrap xv_56) v_84 ev_84) (by rfl) (by rfl) ?_
          simp only [go_sem, Try.ntmps33, Try.results33]
          refine blockQ_normal hQ45 ?_
          refine seqQ_normal hQ44 ?_
          simp only [go_sem, Try.ntmps33, Try.results33]
          refine thenQ_normal hQ41 ?_
          refine ⟨(m_6, IntKind.i64.wrap (i_9 + 1), v_84), [some 0, some 1], ?_, h, Nat.lt_succ_self _⟩
          simp only [go_sem, Le] <;> (repeat' apply And.intro) <;> first | rfl | (simp [go_sem]; done)
        ·
          replace h := if_f h hb_36
          simp only [decide_eq_true_eq, decide_eq_false_iff_not, Bool.not_eq_true', Bool.not_eq_false', beq_iff_eq, beq_eq_false_iff_ne, ne_eq, Bool.and_eq_true, Bool.or_eq_true, Int.not_lt, Int.not_le] at hb_36
          refine vc_exit_of ?_
          refine seqQ_exit hQ42 ?_
          refine thenQ_exit hQ41 ?_
          refine blockQ_exit hQ40 ?_
          refine thenQ_normal hQ38 ?_
          refine ⟨a_23, [some 0, some 1], ?_, h⟩
          simp only [go_sem, Le] <;> (repeat' apply And.intro) <;> first | rfl | (simp [go_sem]; done)
    · rintro a_2 h
      try dsimp only at h
      rw [f_backwashref08_Put_J1] at h
      refine vc_seq_gen (by kernel_rfl) ?_
      intro QQ6 hQ6
      obtain ⟨v_8, ev_8, h⟩ := bindO_some h
      simp only [go_sem, Try.ntmps33, Try.results33]
      refine callF_weak (s' := (⟨0, [(1, .ptr 0 0), (4, .sl 1 (enc a_2)), (43, .sl 1 (enc a_2)), (44, .ptr 0 2), (45, .sl 4 (enc g_0.Nodes)), (46, .v (.int .i64 (List.length g_0.Nodes : Int))), (47, .v (.int .u64 (IntKind.u64.wrap (List.length g_0.Nodes : Int))))], [(0, .box [.sl 1 (enc g_0.Parent), .sl 1 (enc g_0.Bound), .sl 4 (enc g_0.Nodes), .sl 4 (enc g_0.Edges)])], 1, 142⟩ : St)) (l := [some 0]) (args' := [.sl 1 (enc a_2), .v (.int .u64 (IntKind.u64.wrap (List.length g_0.Nodes : Int)))]) ?_ ?_ (callo (f_backwashref06_Uint_own a_2 (IntKind.u64.wrap (List.length g_0.Nodes : Int)) v_8 ev_8) (by rfl) (by rfl) ?_)
      · simp only [go_sem, Le] <;> (repeat' apply And.intro) <;> (simp [go_sem]; done)
      · simp only [go_sem, Le] <;> (repeat' apply And.intro) <;> (simp [go_sem]; done)
      simp only [go_sem, Try.ntmps33, Try.results33]
      refine seqQ_normal hQ6 ?_
      refine vc_join (by kernel_rfl) ?_
      refine seq_cut_gen (ι := (List UInt8)) (fun (a_11 : (List UInt8)) => (⟨0, [(1, .ptr 0 0), (4, .osl 1 1 (0) (List.length a_11))], [(0, .box [.sl 1 (enc g_0.Parent), .sl 1 (enc g_0.Bound), .sl 4 (enc g_0.Nodes), .sl 4 (enc g_0.Edges)]), (1, .arr 1 (enc a_11))], 2, 142⟩ : St)) (fun (a_11 : (List UInt8)) => f_backwashref08_Put_J2 g_0 a_11 = some r) ?_ ?_
      ·
        intro QQ20 hQ20
        refine vc_seq_gen (by kernel_rfl) ?_
        intro QQ21 hQ21
        simp only [go_sem, Try.ntmps33, Try.results33]
        refine seqQ_normal hQ21 ?_
        refine vc_block_gen ?_
        intro QQ22 hQ22
        refine vc_loop_of ?_
        refine loop_gen (ι := Nat × Int × (List UInt8)) (fun ((_, i_7, a_19) : Nat × Int × (List UInt8)) => (⟨0, [(1, .ptr 0 0), (4, .osl 1 1 (0) (List.length a_19)), (6, .v (.int .i64 i_7))], [(0, .box [.sl 1 (enc g_0.Parent), .sl 1 (enc g_0.Bound), .sl 4 (enc g_0.Nodes), .sl 4 (enc g_0.Edges)]), (1, .arr 1 (enc a_19))], 2, 142⟩ : St)) (fun ((n_, i_7, a_19) : Nat × Int × (List UInt8)) => loopK (f_backwashref08_Put_B4 g_0) n_ (i_7, a_19) = some r) (fun p => p.1) (rounds, 0, v_8) [some 0, some 1] ?_ h ?_
        · simp only [go_sem, Le] <;> (repeat' apply And.intro) <;> first | rfl | (simp [go_sem]; done)
        · rintro ⟨n_4, i_7, a_19⟩ h QQ23 hQ23
          dsimp only at h
          replace h := loopK_some h
          obtain ⟨m_4, rfl, h⟩ := h
          rw [f_backwashref08_Put_B4] at h
          refine vc_seq_gen (by kernel_rfl) ?_
          intro QQ24 hQ24
          refine vc_seq_gen (by kernel_rfl) ?_
          intro QQ25 hQ25
          simp only [go_sem, Try.ntmps33, Try.results33]
          refine seqQ_normal hQ25 ?_
          refine vc_cond_of (b := (decide (i_7 < (List.length g_0.Nodes : Int)))) (by (simp only [go_sem]; done)) (fun hb_30 => ?_) (fun hb_30 => ?_)
          ·
            replace h := if_t h hb_30
            simp only [decide_eq_true_eq, decide_eq_false_iff_not, Bool.not_eq_true', Bool.not_eq_false', beq_iff_eq, beq_eq_false_iff_ne, ne_eq, Bool.and_eq_true, Bool.or_eq_true, Int.not_lt, Int.not_le] at hb_30
            refine vc_skip_of ?_
            refine seqQ_normal hQ24 ?_
            refine vc_join (by kernel_rfl) ?_
            refine seq_go_gen ?_
            intro QQ26 hQ26
            refine vc_block_gen ?_
            intro QQ27 hQ27
            refine vc_seq_gen (by kernel_rfl) ?_
            intro QQ28 hQ28
            obtain ⟨xv_44, exv_44, h⟩ := bindO_some h
            obtain ⟨fxv_44a, fxv_44b, fxv_44c⟩ := idx_spec exv_44
            simp only [go_sem, Try.ntmps33, Try.results33, fxv_44a, fxv_44b, fxv_44c]
            refine And.intro (by omega) ?_
            refine seqQ_normal hQ28 ?_
            refine vc_seq_gen (by kernel_rfl) ?_
            intro QQ29 hQ29
            refine vc_draw ?_
            refine drawV_weak (s' := (⟨0, [(1, .ptr 0 0), (4, .sl 1 (enc a_19)), (6, .v (.int .i64 i_7)), (7, .ptr 1 0), (49, .v (.int .i64 i_7)), (50, .ptr 0 2), (51, .sl 4 (enc g_0.Nodes)), (52, .v (.int .i64 (List.length g_0.Nodes : Int))), (53, .v (.bool (decide (i_7 < (List.length g_0.Nodes : Int))))), (56, .ptr 0 2), (57, .sl 4 (enc g_0.Nodes)), (58, .v (.int .i64 i_7)), (59, .el 4 (enc g_0.Nodes) (Int.toNat i_7) 0), (60, .agg [.v (.int .i64 xv_44.Kind), .v (.int .i64 xv_44.Scope), .v (.int .i64 xv_44.Arg), .sl 2 (enc xv_44.Prog)])], [(0, .box [.sl 1 (enc g_0.Parent), .sl 1 (enc g_0.Bound), .sl 4 (enc g_0.Nodes), .sl 4 (enc g_0.Edges)]), (1, .box [.v (.int .i64 xv_44.Kind), .v (.int .i64 xv_44.Scope), .v (.int .i64 xv_44.Arg), .sl 2 (enc xv_44.Prog)])], 2, 142⟩ : St)) (l := [some 0, some 2]) ?_ ?_
            · simp only [go_sem, Le] <;> (repeat' apply And.intro) <;> first | rfl | (simp [go_sem]; done) | (simp [enc_len, enc]; omega)
            refine drawM_tail 8 [0, 0, 2, 6, 15, 0, 32, 96, 255, 511] mixed (by kernel_rfl) (of_decide_eq_true (by kernel_rfl)) (by kernel_rfl) ?_
            obtain ⟨v_69, ev_69, h⟩ := bindO_some h
            simp only [go_sem, Try.ntmps33, Try.results33]
            refine And.intro (by omega) ?_
            refine callq (fun _ => (f_backwashref06_Uint_ok a_19 (IntKind.u64.wrap xv_44.Kind) v_69 ev_69)) (by rfl) (by rfl) ?_
            obtain ⟨v_70, ev_70, h⟩ := bindO_some h
            simp only [go_sem, Try.ntmps33, Try.results33]
            refine callo (f_backwashref06_Uint_own v_69 (IntKind.u64.wrap xv_44.Scope) v_70 ev_70) (by rfl) (by rfl) ?_
            simp only [go_sem, Try.ntmps33, Try.results33]
            refine seqQ_normal hQ29 ?_
            refine vc_seq_gen (by kernel_rfl) ?_
            intro QQ30 hQ30
            refine vc_draw ?_
            refine drawV_weak (s' := (⟨0, [(1, .ptr 0 0), (4, .sl 1 (enc v_70)), (6, .v (.int .i64 i_7)), (7, .ptr 1 0), (49, .v (.int .i64 i_7)), (50, .ptr 0 2), (51, .sl 4 (enc g_0.Nodes)), (52, .v (.int .i64 (List.length g_0.Nodes : Int))), (53, .v (.bool (decide (i_7 < (List.length g_0.Nodes : Int))))), (56, .ptr 0 2), (57, .sl 4 (enc g_0.Nodes)), (58, .v (.int .i64 i_7)), (59, .el 4 (enc g_0.Nodes) (Int.toNat i_7) 0), (60, .agg [.v (.int .i64 xv_44.Kind), .v (.int .i64 xv_44.Scope), .v (.int .i64 xv_44.Arg), .sl 2 (enc xv_44.Prog)]), (61, .sl 1 (enc a_19)), (62, .ptr 1 0), (63, .v (.int .i64 xv_44.Kind)), (64, .v (.int .u64 (IntKind.u64.wrap xv_44.Kind))), (65, .sl 1 (enc v_69)), (66, .ptr 1 1), (67, .v (.int .i64 xv_44.Scope)), (68, .v (.int .u64 (IntKind.u64.wrap xv_44.Scope))), (69, .sl 1 (enc v_70))], [(0, .box [.sl 1 (enc g_0.Parent), .sl 1 (enc g_0.Bound), .sl 4 (enc g_0.Nodes), .sl 4 (enc g_0.Edges)]), (1, .box [.v (.int .i64 xv_44.Kind), .v (.int .i64 xv_44.Scope), .v (.int .i64 xv_44.Arg), .sl 2 (enc xv_44.Prog)])], 2, 142⟩ : St)) (l := [some 0, some 1]) ?_ ?_
            · simp only [go_sem, Le] <;> (repeat' apply And.intro) <;> first | rfl | (simp [go_sem]; done)
            refine drawM_tail 8 [0, 0, 2, 7, 0, 16, 48, 112, 255, 511] mixed (by kernel_rfl) (of_decide_eq_true (by kernel_rfl)) (by kernel_rfl) ?_
            obtain ⟨v_71, ev_71, h⟩ := bindO_some h
            simp only [go_sem, Try.ntmps33, Try.results33]
            refine callq (fun _ => (f_backwashref06_Int_ok v_70 xv_44.Arg v_71 ev_71)) (by rfl) (by rfl) ?_
            obtain ⟨v_72, ev_72, h⟩ := bindO_some h
            simp only [go_sem, Try.ntmps33, Try.results33]
            refine callo (f_backwashref06_Uint_own v_71 (IntKind.u64.wrap (List.length xv_44.Prog : Int)) v_72 ev_72) (by rfl) (by rfl) ?_
            simp only [go_sem, Try.ntmps33, Try.results33]
            refine seqQ_normal hQ30 ?_
            refine vc_seq_gen (by kernel_rfl) ?_
            intro QQ31 hQ31
            simp only [go_sem, Try.ntmps33, Try.results33]
            refine seqQ_normal hQ31 ?_
            refine vc_block_gen ?_
            intro QQ32 hQ32
            refine vc_loop_of ?_
            refine loop_gen (ι := Nat × Int × (List UInt8)) (fun ((_, k_11, a_21) : Nat × Int × (List UInt8)) => (⟨0, [(1, .ptr 0 0), (4, .osl 1 1 (0) (List.length a_21)), (6, .v (.int .i64 i_7)), (7, .ptr 2 0), (8, .v (.int .i64 k_11))], [(0, .box [.sl 1 (enc g_0.Parent), .sl 1 (enc g_0.Bound), .sl 4 (enc g_0.Nodes), .sl 4 (enc g_0.Edges)]), (1, .arr 1 (enc a_21)), (2, .box [.v (.int .i64 xv_44.Kind), .v (.int .i64 xv_44.Scope), .v (.int .i64 xv_44.Arg), .sl 2 (enc xv_44.Prog)])], 3, 142⟩ : St)) (fun ((n_, k_11, a_21) : Nat × Int × (List UInt8)) => loopK (f_backwashref08_Put_B5 i_7 (loopK (f_backwashref08_Put_B4 g_0) m_4) xv_44) n_ (k_11, a_21) = some r) (fun p => p.1) (rounds, 0, v_72) [some 0, some 2, some 1] ?_ h ?_
            · simp only [go_sem, Le] <;> (repeat' apply And.intro) <;> first | rfl | (simp [go_sem]; done)
            · rintro ⟨n_5, k_11, a_21⟩ h QQ33 hQ33
              dsimp only at h
              replace h := loopK_some h
              obtain ⟨m_5, rfl, h⟩ := h
              rw [f_backwashref08_Put_B5] at h
              refine vc_seq_gen (by kernel_rfl) ?_
              intro QQ34 hQ34
              refine vc_seq_gen (by kernel_rfl) ?_
              intro QQ35 hQ35
              simp only [go_sem, Try.ntmps33, Try.results33]
              refine seqQ_normal hQ35 ?_
              refine vc_cond_of (b := (decide (k_11 < (List.length xv_44.Prog : Int)))) (by (simp only [go_sem]; done)) (fun hb_33 => ?_) (fun hb_33 => ?_)
              ·
                replace h := if_t h hb_33
                simp only [decide_eq_true_eq, decide_eq_false_iff_not, Bool.not_eq_true', Bool.not_eq_false', beq_iff_eq, beq_eq_false_iff_ne, ne_eq, Bool.and_eq_true, Bool.or_eq_true, Int.not_lt, Int.not_le] at hb_33
                refine vc_skip_of ?_
                refine seqQ_normal hQ34 ?_
                refine vc_seq_gen (by kernel_rfl) ?_
                intro QQ36 hQ36
                refine vc_block_gen ?_
                intro QQ37 hQ37
                refine vc_draw ?_
                refine drawV_weak (s' := (⟨0, [(1, .ptr 0 0), (4, .sl 1 (enc a_21)), (6, .v (.int .i64 i_7)), (7, .ptr 1 0), (8, .v (.int .i64 k_11)), (79, .v (.int .i64 k_11)), (80, .ptr 1 3), (81, .sl 2 (enc xv_44.Prog)), (82, .v (.int .i64 (List.length xv_44.Prog : Int))), (83, .v (.bool (decide (k_11 < (List.length xv_44.Prog : Int)))))], [(0, .box [.sl 1 (enc g_0.Parent), .sl 1 (enc g_0.Bound), .sl 4 (enc g_0.Nodes), .sl 4 (enc g_0.Edges)]), (1, .box [.v (.int .i64 xv_44.Kind), .v (.int .i64 xv_44.Scope), .v (.int .i64 xv_44.Arg), .sl 2 (enc xv_44.Prog)])], 2, 142⟩ : St)) (l := [some 0, some 2]) ?_ ?_
                · simp only [go_sem, Le] <;> (repeat' apply And.intro) <;> first | rfl | (simp [go_sem]; done)
                refine drawM_tail 15 [0, 0, 2, 0, 14, 30, 62, 126, 255, 0, 512, 0, 3584, 7680, 15872, 32767, 65535] mixed (by kernel_rfl) (of_decide_eq_true (by kernel_rfl)) (by kernel_rfl) ?_
                obtain ⟨xv_49, exv_49, h⟩ := bindO_some h
                obtain ⟨fxv_49a, fxv_49b, fxv_49c⟩ := idx_spec exv_49
                obtain ⟨v_77, ev_77, h⟩ := bindO_some h
                simp only [go_sem, Try.ntmps33, Try.results33, fxv_49a, fxv_49b, fxv_49c]
                refine And.intro (by omega) ?_
                refine callq (fun _ => (f_backwashref06_Uint_ok a_21 (IntKind.u64.wrap xv_49.Op) v_77 ev_77)) (by rfl) (by rfl) ?_
                obtain ⟨xv_50, exv_50, h⟩ := bindO_some h
                obtain ⟨fxv_50a, fxv_50b, fxv_50c⟩ := idx_spec exv_50
                obtain ⟨v_78, ev_78, h⟩ := bindO_some h
                simp only [go_sem, Try.ntmps33, Try.results33, fxv_50a, fxv_50b, fxv_50c]
                refine And.intro (by omega) ?_
                refine callo (f_backwashref06_Int_own v_77 xv_50.N v_78 ev_78) (by rfl) (by rfl) ?_
                simp only [go_sem, Try.ntmps33, Try.results33]
                refine blockQ_normal hQ37 ?_
                refine seqQ_normal hQ36 ?_
                simp only [go_sem, Try.ntmps33, Try.results33]
                refine thenQ_normal hQ33 ?_
                refine ⟨(m_5, IntKind.i64.wrap (k_11 + 1), v_78), [some 0, some 2, some 1], ?_, h, Nat.lt_succ_self _⟩
                simp only [go_sem, Le] <;> (repeat' apply And.intro) <;> first | rfl | (simp [go_sem]; done)
              ·
                replace h := if_f h hb_33
                simp only [decide_eq_true_eq, decide_eq_false_iff_not, Bool.not_eq_true', Bool.not_eq_false', beq_iff_eq, beq_eq_false_iff_ne, ne_eq, Bool.and_eq_true, Bool.or_eq_true, Int.not_lt, Int.not_le] at hb_33
                refine vc_exit_of ?_
                refine seqQ_exit hQ34 ?_
                refine thenQ_exit hQ33 ?_
                refine blockQ_exit hQ32 ?_
                refine blockQ_normal hQ27 ?_
                refine seqQ_normal hQ26 ?_
                simp only [go_sem, Try.ntmps33, Try.results33]
                refine thenQ_normal hQ23 ?_
                refine ⟨(m_4, IntKind.i64.wrap (i_7 + 1), a_21), [some 0, some 1], ?_, h, Nat.lt_succ_self _⟩
                simp only [go_sem, Le] <;> (repeat' apply And.intro) <;> first | rfl | (simp [go_sem]; done)
          ·
            replace h := if_f h hb_30
            simp only [decide_eq_true_eq, decide_eq_false_iff_not, Bool.not_eq_true', Bool.not_eq_false', beq_iff_eq, beq_eq_false_iff_ne, ne_eq, Bool.and_eq_true, Bool.or_eq_true, Int.not_lt, Int.not_le] at hb_30
            refine vc_exit_of ?_
            refine seqQ_exit hQ24 ?_
            refine thenQ_exit hQ23 ?_
            refine blockQ_exit hQ22 ?_
            refine thenQ_normal hQ20 ?_
            refine ⟨a_19, [some 0, some 1], ?_, h⟩
            simp only [go_sem, Le] <;> (repeat' apply And.intro) <;> first | rfl | (simp [go_sem]; done)
      · rintro a_11 h
        try dsimp only at h
        rw [f_backwashref08_Put_J2] at h
        refine vc_seq_gen (by kernel_rfl) ?_
        intro QQ7 hQ7
        obtain ⟨v_39, ev_39, h⟩ := bindO_some h
        simp only [go_sem, Try.ntmps33, Try.results33]
        refine callF_weak (s' := (⟨0, [(1, .ptr 0 0), (4, .sl 1 (enc a_11)), (102, .sl 1 (enc a_11)), (103, .ptr 0 3), (104, .sl 4 (enc g_0.Edges)), (105, .v (.int .i64 (List.length g_0.Edges : Int))), (106, .v (.int .u64 (IntKind.u64.wrap (List.length g_0.Edges : Int))))], [(0, .box [.sl 1 (enc g_0.Parent), .sl 1 (enc g_0.Bound), .sl 4 (enc g_0.Nodes), .sl 4 (enc g_0.Edges)])], 1, 142⟩ : St)) (l := [some 0]) (args' := [.sl 1 (enc a_11), .v (.int .u64 (IntKind.u64.wrap (List.length g_0.Edges : Int)))]) ?_ ?_ (callo (f_backwashref06_Uint_own a_11 (IntKind.u64.wrap (List.length g_0.Edges : Int)) v_39 ev_39) (by rfl) (by rfl) ?_)
        · simp only [go_sem, Le] <;> (repeat' apply And.intro) <;> (simp [go_sem]; done)
        · simp only [go_sem, Le] <;> (repeat' apply And.intro) <;> (simp [go_sem]; done)
        simp only [go_sem, Try.ntmps33, Try.results33]
        refine seqQ_normal hQ7 ?_
        refine vc_join (by kernel_rfl) ?_
        refine seq_go_gen ?_
        intro QQ8 hQ8
        refine vc_seq_gen (by kernel_rfl) ?_
        intro QQ9 hQ9
        simp only [go_sem, Try.ntmps33, Try.results33]
        refine seqQ_normal hQ9 ?_
        refine vc_block_gen ?_
        intro QQ10 hQ10
        refine vc_loop_of ?_
        refine loop_gen (ι := Nat × Int × (List UInt8)) (fun ((_, i_5, a_13) : Nat × Int × (List UInt8)) => (⟨0, [(1, .ptr 0 0), (4, .osl 1 1 (0) (List.length a_13)), (9, .v (.int .i64 i_5))], [(0, .box [.sl 1 (enc g_0.Parent), .sl 1 (enc g_0.Bound), .sl 4 (enc g_0.Nodes), .sl 4 (enc g_0.Edges)]), (1, .arr 1 (enc a_13))], 2, 142⟩ : St)) (fun ((n_, i_5, a_13) : Nat × Int × (List UInt8)) => loopK (f_backwashref08_Put_B3 g_0) n_ (i_5, a_13) = some r) (fun p => p.1) (rounds, 0, v_39) [some 0, some 1] ?_ h ?_
        · simp only [go_sem, Le] <;> (repeat' apply And.intro) <;> first | rfl | (simp [go_sem]; done)
        · rintro ⟨n_3, i_5, a_13⟩ h QQ11 hQ11
          dsimp only at h
          replace h := loopK_some h
          obtain ⟨m_3, rfl, h⟩ := h
          rw [f_backwashref08_Put_B3] at h
          refine vc_seq_gen (by kernel_rfl) ?_
          intro QQ12 hQ12
          refine vc_seq_gen (by kernel_rfl) ?_
          intro QQ13 hQ13
          simp only [go_sem, Try.ntmps33, Try.results33]
          refine seqQ_normal hQ13 ?_
          refine vc_cond_of (b := (decide (i_5 < (List.length g_0.Edges : Int)))) (by (simp only [go_sem]; done)) (fun hb_20 => ?_) (fun hb_20 => ?_)
          ·
            replace h := if_t h hb_20
            simp only [decide_eq_true_eq, decide_eq_false_iff_not, Bool.not_eq_true', Bool.not_eq_false', beq_iff_eq, beq_eq_false_iff_ne, ne_eq, Bool.and_eq_true, Bool.or_eq_true, Int.not_lt, Int.not_le] at hb_20
            refine vc_skip_of ?_
            refine seqQ_normal hQ12 ?_
            refine vc_join (by kernel_rfl) ?_
            refine seq_go_gen ?_
            intro QQ14 hQ14
            refine vc_block_gen ?_
            intro QQ15 hQ15
            refine vc_seq_gen (by kernel_rfl) ?_
            intro QQ16 hQ16
            obtain ⟨xv_29, exv_29, h⟩ := bindO_some h
            obtain ⟨fxv_29a, fxv_29b, fxv_29c⟩ := idx_spec exv_29
            simp only [go_sem, Try.ntmps33, Try.results33, fxv_29a, fxv_29b, fxv_29c]
            refine And.intro (by omega) ?_
            refine seqQ_normal hQ16 ?_
            refine vc_seq_gen (by kernel_rfl) ?_
            intro QQ17 hQ17
            refine vc_draw ?_
            refine drawV_weak (s' := (⟨0, [(1, .ptr 0 0), (4, .sl 1 (enc a_13)), (9, .v (.int .i64 i_5)), (10, .ptr 1 0), (108, .v (.int .i64 i_5)), (109, .ptr 0 3), (110, .sl 4 (enc g_0.Edges)), (111, .v (.int .i64 (List.length g_0.Edges : Int))), (112, .v (.bool (decide (i_5 < (List.length g_0.Edges : Int))))), (115, .ptr 0 3), (116, .sl 4 (enc g_0.Edges)), (117, .v (.int .i64 i_5)), (118, .el 4 (enc g_0.Edges) (Int.toNat i_5) 0), (119, .agg [.v (.int .i64 xv_29.From), .v (.int .i64 xv_29.To), .v (.int .i64 xv_29.Port), .v (.bool xv_29.Exchange)])], [(0, .box [.sl 1 (enc g_0.Parent), .sl 1 (enc g_0.Bound), .sl 4 (enc g_0.Nodes), .sl 4 (enc g_0.Edges)]), (1, .box [.v (.int .i64 xv_29.From), .v (.int .i64 xv_29.To), .v (.int .i64 xv_29.Port), .v (.bool xv_29.Exchange)])], 2, 142⟩ : St)) (l := [some 0, some 2]) ?_ ?_
            · simp only [go_sem, Le] <;> (repeat' apply And.intro) <;> first | rfl | (simp [go_sem]; done) | (simp [enc_len, enc]; omega)
            refine drawM_tail 12 [0, 0, 2, 6, 15, 0, 32, 96, 255, 0, 512, 1536, 4095, 8191] mixed (by kernel_rfl) (of_decide_eq_true (by kernel_rfl)) (by kernel_rfl) ?_
            obtain ⟨v_46, ev_46, h⟩ := bindO_some h
            simp only [go_sem, Try.ntmps33, Try.results33]
            refine And.intro (by omega) ?_
            refine callq (fun _ => (f_backwashref06_Uint_ok a_13 (IntKind.u64.wrap xv_29.From) v_46 ev_46)) (by rfl) (by rfl) ?_
            obtain ⟨v_47, ev_47, h⟩ := bindO_some h
            simp only [go_sem, Try.ntmps33, Try.results33]
            refine callq (fun _ => (f_backwashref06_Uint_ok v_46 (IntKind.u64.wrap xv_29.To) v_47 ev_47)) (by rfl) (by rfl) ?_
            obtain ⟨v_48, ev_48, h⟩ := bindO_some h
            simp only [go_sem, Try.ntmps33, Try.results33]
            refine callo (f_backwashref06_Uint_own v_47 (IntKind.u64.wrap xv_29.Port) v_48 ev_48) (by rfl) (by rfl) ?_
            simp only [go_sem, Try.ntmps33, Try.results33]
            refine seqQ_normal hQ17 ?_
            refine vc_seq_gen (by kernel_rfl) ?_
            intro QQ18 hQ18
            simp only [go_sem, Try.ntmps33, Try.results33]
            refine seqQ_normal hQ18 ?_
            refine vc_cond_of (b := xv_29.Exchange) (by (simp only [go_sem]; done)) (fun hb_21 => ?_) (fun hb_21 => ?_)
            ·
              replace h := if_t h hb_21
              obtain ⟨g_12, h⟩ := guardO_some h
              have rf_9 : [[.v (.int .u8 1)]] = enc ([toB 1] : List UInt8) := by rfl
              obtain ⟨g_13, h⟩ := guardO_some h
              simp only [List.length_cons, List.length_nil, Nat.zero_add, List.length_append] at g_13
              have rf_10 : enc v_48 ++ [[.v (.int .u8 1)]] = enc (v_48 ++ ([toB 1] : List UInt8)) := by exact (enc_app v_48 ([toB 1] : List UInt8)).symm
              simp only [go_sem, Try.ntmps33, Try.results33, g_12, g_13, rf_10]
              simp only [rf_9]
              refine blockQ_normal hQ15 ?_
              refine seqQ_normal hQ14 ?_
              simp only [go_sem, Try.ntmps33, Try.results33]
              refine thenQ_normal hQ11 ?_
              refine ⟨(m_3, IntKind.i64.wrap (i_5 + 1), (v_48 ++ ([toB 1] : List UInt8))), [some 0, some 4], ?_, h, Nat.lt_succ_self _⟩
              simp only [go_sem, Le] <;> (repeat' apply And.intro) <;> first | rfl | (simp [go_sem]; done)
            ·
              replace h := if_f h hb_21
              obtain ⟨g_14, h⟩ := guardO_some h
              have rf_11 : [[.v (.int .u8 0)]] = enc ([toB 0] : List UInt8) := by rfl
              obtain ⟨g_15, h⟩ := guardO_some h
              simp only [List.length_cons, List.length_nil, Nat.zero_add, List.length_append] at g_15
              have rf_12 : enc v_48 ++ [[.v (.int .u8 0)]] = enc (v_48 ++ ([toB 0] : List UInt8)) := by exact (enc_app v_48 ([toB 0] : List UInt8)).symm
              simp only [go_sem, Try.ntmps33, Try.results33, g_14, g_15, rf_12]
              simp only [rf_11]
              refine blockQ_normal hQ15 ?_
              refine seqQ_normal hQ14 ?_
              simp only [go_sem, Try.ntmps33, Try.results33]
              refine thenQ_normal hQ11 ?_
              refine ⟨(m_3, IntKind.i64.wrap (i_5 + 1), (v_48 ++ ([toB 0] : List UInt8))), [some 0, some 4], ?_, h, Nat.lt_succ_self _⟩
              simp only [go_sem, Le] <;> (repeat' apply And.intro) <;> first | rfl | (simp [go_sem]; done)
          ·
            replace h := if_f h hb_20
            simp only [decide_eq_true_eq, decide_eq_false_iff_not, Bool.not_eq_true', Bool.not_eq_false', beq_iff_eq, beq_eq_false_iff_ne, ne_eq, Bool.and_eq_true, Bool.or_eq_true, Int.not_lt, Int.not_le] at hb_20
            refine vc_exit_of ?_
            refine seqQ_exit hQ12 ?_
            refine thenQ_exit hQ11 ?_
            refine blockQ_exit hQ10 ?_
            refine seqQ_normal hQ8 ?_
            refine vc_seq_gen (by kernel_rfl) ?_
            intro QQ19 hQ19
            simp only [go_sem, Try.ntmps33, Try.results33]
            refine seqQ_normal hQ19 ?_
            refine vc_ret_of ?_
            simp only [go_sem, Try.ntmps33, Try.results33]
            obtain rfl := Option.some.inj h
            refine retW_pure rfl ?_
            simp only [go_sem, Le] <;> (repeat' apply And.intro) <;> (simp [go_sem]; done)
end Go.Proofs.Ytngeldeahafcfaa

namespace Go.Proofs.Ytngeldeahafcfaa
open Go Go.RowKit
set_option maxHeartbeats 2000000
set_option maxRecDepth 100000
set_option linter.unusedSimpArgs false
set_option linter.unusedVariables false
def f_backwashref08_Short_B1 (g_0 : GGraph) (rec_1 : Int → Option Bool) : Int → Option Bool :=
  fun i_1 =>
  (if (decide (i_1 < (List.length g_0.Nodes : Int))) = true then bindO (idx g_0.Nodes i_1) (fun (xv_2 : GNode) =>
  (if (decide (100 < (List.length xv_2.Prog : Int))) = true then some false
  else rec_1 (IntKind.i64.wrap (i_1 + 1))))
  else some true)
def f_backwashref08_Short (g_0 : GGraph) : Option Bool :=
  (if ((((decide (20 < (List.length g_0.Parent : Int))) || (decide (20 < (List.length g_0.Bound : Int)))) || (decide (60 < (List.length g_0.Nodes : Int)))) || (decide (100 < (List.length g_0.Edges : Int)))) = true then some false
  else loopK (f_backwashref08_Short_B1 g_0) rounds 0)
theorem f_backwashref08_Short_ok (g_0 : GGraph)  (r : Bool) (h : f_backwashref08_Short g_0 = some r) : PureS Try.prog 32 [.agg [.sl 1 (enc g_0.Parent), .sl 1 (enc g_0.Bound), .sl 4 (enc g_0.Nodes), .sl 4 (enc g_0.Edges)]] 0 (.v (.bool r)) := by
  unfold PureS
  refine Spec.of_vc Try.func32 rfl (by kernel_rfl) (by kernel_rfl) ?_
  rw [f_backwashref08_Short] at h
  refine vc_seq_gen (by kernel_rfl) ?_
  intro QQ1 hQ1
  simp only [go_sem, Try.ntmps32, Try.results32]
  refine seqQ_normal hQ1 ?_
  refine vc_seq_gen (by kernel_rfl) ?_
  intro QQ2 hQ2
  refine vc_seq_gen (by kernel_rfl) ?_
  intro QQ3 hQ3
  simp only [go_sem, Try.ntmps32, Try.results32]
  refine And.intro (by omega) ?_
  refine seqQ_normal hQ3 ?_
  refine vc_cond_of (b := ((((decide (20 < (List.length g_0.Parent : Int))) || (decide (20 < (List.length g_0.Bound : Int)))) || (decide (60 < (List.length g_0.Nodes : Int)))) || (decide (100 < (List.length g_0.Edges : Int))))) (by (simp only [go_sem]; done)) (fun hb_0 => ?_) (fun hb_0 => ?_)
  ·
    replace h := if_t h hb_0
    simp only [decide_eq_true_eq, decide_eq_false_iff_not, Bool.not_eq_true', Bool.not_eq_false', beq_iff_eq, beq_eq_false_iff_ne, ne_eq, Bool.and_eq_true, Bool.or_eq_true, Int.not_lt, Int.not_le] at hb_0
    refine vc_seq_gen (by kernel_rfl) ?_
    intro QQ4 hQ4
    simp only [go_sem, Try.ntmps32, Try.results32]
    refine seqQ_normal hQ4 ?_
    refine vc_ret_of ?_
    refine seqQ_ret hQ2 ?_
    simp only [go_sem, Try.ntmps32, Try.results32]
    obtain rfl := Option.some.inj h
    refine retW_pure rfl ?_
    simp only [go_sem, Le]
  ·
    replace h := if_f h hb_0
    refine vc_skip_of ?_
    refine seqQ_normal hQ2 ?_
    refine vc_join (by kernel_rfl) ?_
    refine seq_go_gen ?_
    intro QQ5 hQ5
    refine vc_seq_gen (by kernel_rfl) ?_
    intro QQ6 hQ6
    simp only [go_sem, Try.ntmps32, Try.results32]
    refine seqQ_normal hQ6 ?_
    refine vc_block_gen ?_
    intro QQ7 hQ7
    refine vc_loop_of ?_
    refine loop_gen (ι := Nat × Int) (fun ((_, i_1) : Nat × Int) => (⟨0, [(1, .ptr 0 0), (3, .v (.int .i64 i_1))], [(0, .box [.sl 1 (enc g_0.Parent), .sl 1 (enc g_0.Bound), .sl 4 (enc g_0.Nodes), .sl 4 (enc g_0.Edges)])], 1, 41⟩ : St)) (fun ((n_, i_1) : Nat × Int) => loopK (f_backwashref08_Short_B1 g_0) n_ i_1 = some r) (fun p => p.1) (rounds, 0) [some 0] ?_ h ?_
    · simp only [go_sem, Le]
    · rintro ⟨n_1, i_1⟩ h QQ8 hQ8
      dsimp only at h
      replace h := loopK_some h
      obtain ⟨m_1, rfl, h⟩ := h
      rw [f_backwashref08_Short_B1] at h
      refine vc_seq_gen (by kernel_rfl) ?_
      intro QQ9 hQ9
      refine vc_seq_gen (by kernel_rfl) ?_
      intro QQ10 hQ10
      simp only [go_sem, Try.ntmps32, Try.results32]
      refine seqQ_normal hQ10 ?_
      refine vc_cond_of (b := (decide (i_1 < (List.length g_0.Nodes : Int)))) (by (simp only [go_sem]; done)) (fun hb_5 => ?_) (fun hb_5 => ?_)
      ·
        replace h := if_t h hb_5
        simp only [decide_eq_true_eq, decide_eq_false_iff_not, Bool.not_eq_true', Bool.not_eq_false', beq_iff_eq, beq_eq_false_iff_ne, ne_eq, Bool.and_eq_true, Bool.or_eq_true, Int.not_lt, Int.not_le] at hb_5
        refine vc_skip_of ?_
        refine seqQ_normal hQ9 ?_
        refine vc_seq_gen (by kernel_rfl) ?_
        intro QQ11 hQ11
        refine vc_block_gen ?_
        intro QQ12 hQ12
        refine vc_seq_gen (by kernel_rfl) ?_
        intro QQ13 hQ13
        obtain ⟨xv_2, exv_2, h⟩ := bindO_some h
        obtain ⟨fxv_2a, fxv_2b, fxv_2c⟩ := idx_spec exv_2
        simp only [go_sem, Try.ntmps32, Try.results32, fxv_2a, fxv_2b, fxv_2c]
        refine And.intro (by omega) ?_
        refine seqQ_normal hQ13 ?_
        refine vc_cond_of (b := (decide (100 < (List.length xv_2.Prog : Int)))) (by (simp only [go_sem]; done)) (fun hb_6 => ?_) (fun hb_6 => ?_)
        ·
          replace h := if_t h hb_6
          simp only [decide_eq_true_eq, decide_eq_false_iff_not, Bool.not_eq_true', Bool.not_eq_false', beq_iff_eq, beq_eq_false_iff_ne, ne_eq, Bool.and_eq_true, Bool.or_eq_true, Int.not_lt, Int.not_le] at hb_6
          refine vc_seq_gen (by kernel_rfl) ?_
          intro QQ14 hQ14
          simp only [go_sem, Try.ntmps32, Try.results32]
          refine seqQ_normal hQ14 ?_
          refine vc_ret_of ?_
          refine blockQ_ret hQ12 ?_
          refine seqQ_ret hQ11 ?_
          refine thenQ_ret hQ8 ?_
          refine blockQ_ret hQ7 ?_
          refine seqQ_ret hQ5 ?_
          simp only [go_sem, Try.ntmps32, Try.results32]
          obtain rfl := Option.some.inj h
          refine retW_pure rfl ?_
          simp only [go_sem, Le]
        ·
          replace h := if_f h hb_6
          simp only [decide_eq_true_eq, decide_eq_false_iff_not, Bool.not_eq_true', Bool.not_eq_false', beq_iff_eq, beq_eq_false_iff_ne, ne_eq, Bool.and_eq_true, Bool.or_eq_true, Int.not_lt, Int.not_le] at hb_6
          refine vc_skip_of ?_
          refine blockQ_normal hQ12 ?_
          refine seqQ_normal hQ11 ?_
          simp only [go_sem, Try.ntmps32, Try.results32]
          refine thenQ_normal hQ8 ?_
          refine ⟨(m_1, IntKind.i64.wrap (i_1 + 1)), [some 0], ?_, h, Nat.lt_succ_self _⟩
          simp only [go_sem, Le]
      ·
        replace h := if_f h hb_5
        simp only [decide_eq_true_eq, decide_eq_false_iff_not, Bool.not_eq_true', Bool.not_eq_false', beq_iff_eq, beq_eq_false_iff_ne, ne_eq, Bool.and_eq_true, Bool.or_eq_true, Int.not_lt, Int.not_le] at hb_5
        refine vc_exit_of ?_
        refine seqQ_exit hQ9 ?_
        refine thenQ_exit hQ8 ?_
        refine blockQ_exit hQ7 ?_
        refine seqQ_normal hQ5 ?_
        refine vc_seq_gen (by kernel_rfl) ?_
        intro QQ15 hQ15
        simp only [go_sem, Try.ntmps32, Try.results32]
        refine seqQ_normal hQ15 ?_
        refine vc_ret_of ?_
        simp only [go_sem, Try.ntmps32, Try.results32]
        obtain rfl := Option.some.inj h
        refine retW_pure rfl ?_
        simp only [go_sem, Le]
end Go.Proofs.Ytngeldeahafcfaa

namespace Go.Proofs.Ytngeldeahafcfaa
open Go Go.RowKit
set_option maxHeartbeats 2000000
set_option maxRecDepth 100000
set_option linter.unusedSimpArgs false
set_option linter.unusedVariables false
def f_slices_EqualFunc_Node_B1 (s1_0 : List GNode) (s2_0 : List GNode) (eq_0 : GNode → GNode → Option Bool) (rec_1 : Int → Option Bool) : Int → Option Bool :=
  fun t17_1 =>
  (if (decide (t17_1 < (List.length s1_0 : Int))) = true then bindO (idx s1_0 t17_1) (fun (xv_4 : GNode) =>
  bindO (idx s2_0 t17_1) (fun (xv_5 : GNode) =>
  bindO (eq_0 xv_4 xv_5) (fun (v_2 : Bool) =>
  (if (!v_2) = true then some false
  else rec_1 (IntKind.i64.wrap (t17_1 + 1))))))
  else some true)
def f_slices_EqualFunc_Node (s1_0 : List GNode) (s2_0 : List GNode) (eq_0 : GNode → GNode → Option Bool) : Option Bool :=
  (if (!((List.length s1_0 : Int) == (List.length s2_0 : Int))) = true then some false
  else loopK (f_slices_EqualFunc_Node_B1 s1_0 s2_0 eq_0) rounds 0)
theorem f_slices_EqualFunc_Node_ok (s1_0 : List GNode) (s2_0 : List GNode) (eq_0 : GNode → GNode → Option Bool) (g_eq_0 : FuncId) (c_eq_0 : List AV) (F_eq_0 : idFreeL c_eq_0 = true) (E_eq_0 : entB Try.prog g_eq_0 = true) (H_eq_0 : ∀ (x0 : GNode) (x1 : GNode) (r : Bool), eq_0 x0 x1 = some r → PureS Try.prog g_eq_0 ([.agg [.v (.int .i64 x0.Kind), .v (.int .i64 x0.Scope), .v (.int .i64 x0.Arg), .sl 2 (enc x0.Prog)], .agg [.v (.int .i64 x1.Kind), .v (.int .i64 x1.Scope), .v (.int .i64 x1.Arg), .sl 2 (enc x1.Prog)]] ++ c_eq_0) 0 (.v (.bool r))) (r : Bool) (h : f_slices_EqualFunc_Node s1_0 s2_0 eq_0 = some r) : PureS Try.prog 58 [.sl 4 (enc s1_0), .sl 4 (enc s2_0), .clo g_eq_0 c_eq_0] 0 (.v (.bool r)) := by
  unfold PureS
  refine Spec.of_vc Try.func58 rfl (by kernel_rfl) (by kernel_rfl) ?_
  rw [f_slices_EqualFunc_Node] at h
  refine vc_seq_gen (by kernel_rfl) ?_
  intro QQ1 hQ1
  simp only [go_sem, Try.ntmps58, Try.results58]
  refine seqQ_normal hQ1 ?_
  refine vc_seq_gen (by kernel_rfl) ?_
  intro QQ2 hQ2
  refine vc_seq_gen (by kernel_rfl) ?_
  intro QQ3 hQ3
  simp only [go_sem, Try.ntmps58, Try.results58]
  refine seqQ_normal hQ3 ?_
  refine vc_cond_of (b := (!((List.length s1_0 : Int) == (List.length s2_0 : Int)))) (by (simp only [go_sem]; done)) (fun hb_0 => ?_) (fun hb_0 => ?_)
  ·
    replace h := if_t h hb_0
    simp only [decide_eq_true_eq, decide_eq_false_iff_not, Bool.not_eq_true', Bool.not_eq_false', beq_iff_eq, beq_eq_false_iff_ne, ne_eq, Bool.and_eq_true, Bool.or_eq_true, Int.not_lt, Int.not_le] at hb_0
    refine vc_seq_gen (by kernel_rfl) ?_
    intro QQ4 hQ4
    simp only [go_sem, Try.ntmps58, Try.results58]
    refine seqQ_normal hQ4 ?_
    refine vc_ret_of ?_
    refine seqQ_ret hQ2 ?_
    simp only [go_sem, Try.ntmps58, Try.results58]
    obtain rfl := Option.some.inj h
    refine retW_pure rfl ?_
    simp only [go_sem, Le, AvLeL_free _ F_eq_0]
  ·
    replace h := if_f h hb_0
    simp only [decide_eq_true_eq, decide_eq_false_iff_not, Bool.not_eq_true', Bool.not_eq_false', beq_iff_eq, beq_eq_false_iff_ne, ne_eq, Bool.and_eq_true, Bool.or_eq_true, Int.not_lt, Int.not_le] at hb_0
    refine vc_skip_of ?_
    refine seqQ_normal hQ2 ?_
    refine vc_join (by kernel_rfl) ?_
    refine seq_go_gen ?_
    intro QQ5 hQ5
    refine vc_seq_gen (by kernel_rfl) ?_
    intro QQ6 hQ6
    simp only [go_sem, Try.ntmps58, Try.results58]
    refine seqQ_normal hQ6 ?_
    refine vc_block_gen ?_
    intro QQ7 hQ7
    refine vc_loop_of ?_
    refine loop_gen (ι := Nat × Int) (fun ((_, t17_1) : Nat × Int) => (⟨0, [(1, .sl 4 (enc s2_0)), (2, .clo g_eq_0 c_eq_0), (15, .sl 4 (enc s1_0)), (16, .v (.int .i64 (List.length s1_0 : Int))), (17, .v (.int .i64 t17_1))], [], 0, 32⟩ : St)) (fun ((n_, t17_1) : Nat × Int) => loopK (f_slices_EqualFunc_Node_B1 s1_0 s2_0 eq_0) n_ t17_1 = some r) (fun p => p.1) (rounds, 0) [] ?_ h ?_
    · simp only [go_sem, Le, AvLeL_free _ F_eq_0]
    · rintro ⟨n_1, t17_1⟩ h QQ8 hQ8
      dsimp only at h
      replace h := loopK_some h
      obtain ⟨m_1, rfl, h⟩ := h
      rw [f_slices_EqualFunc_Node_B1] at h
      refine vc_seq_gen (by kernel_rfl) ?_
      intro QQ9 hQ9
      simp only [go_sem, Try.ntmps58, Try.results58]
      refine seqQ_normal hQ9 ?_
      refine vc_seq_gen (by kernel_rfl) ?_
      intro QQ10 hQ10
      refine vc_cond_of (b := (decide (t17_1 < (List.length s1_0 : Int)))) (by (simp only [go_sem]; done)) (fun hb_5 => ?_) (fun hb_5 => ?_)
      ·
        replace h := if_t h hb_5
        simp only [decide_eq_true_eq, decide_eq_false_iff_not, Bool.not_eq_true', Bool.not_eq_false', beq_iff_eq, beq_eq_false_iff_ne, ne_eq, Bool.and_eq_true, Bool.or_eq_true, Int.not_lt, Int.not_le] at hb_5
        refine vc_skip_of ?_
        refine seqQ_normal hQ10 ?_
        refine vc_seq_gen (by kernel_rfl) ?_
        intro QQ11 hQ11
        refine vc_block_gen ?_
        intro QQ12 hQ12
        refine vc_seq_gen (by kernel_rfl) ?_
        intro QQ13 hQ13
        obtain ⟨xv_4, exv_4, h⟩ := bindO_some h
        obtain ⟨fxv_4a, fxv_4b, fxv_4c⟩ := idx_spec exv_4
        simp only [go_sem, Try.ntmps58, Try.results58, fxv_4a, fxv_4b, fxv_4c]
        refine And.intro (by omega) ?_
        refine seqQ_normal hQ13 ?_
        refine vc_seq_gen (by kernel_rfl) ?_
        intro QQ14 hQ14
        obtain ⟨xv_5, exv_5, h⟩ := bindO_some h
        obtain ⟨fxv_5a, fxv_5b, fxv_5c⟩ := idx_spec exv_5
        simp only [go_sem, Try.ntmps58, Try.results58, fxv_5a, fxv_5b, fxv_5c]
        refine And.intro (by omega) ?_
        refine seqQ_normal hQ14 ?_
        refine vc_seq_gen (by kernel_rfl) ?_
        intro QQ15 hQ15
        obtain ⟨v_2, ev_2, h⟩ := bindO_some h
        simp only [go_sem, Try.ntmps58, Try.results58, E_eq_0]
        refine call0 (H_eq_0 xv_4 xv_5 v_2 ev_2) (by rfl) (by simp [idFreeL, idFree, F_eq_0]) ?_
        simp only [go_sem, Try.ntmps58, Try.results58]
        refine seqQ_normal hQ15 ?_
        refine vc_cond_of (b := (!v_2)) (by (simp only [go_sem]; done)) (fun hb_6 => ?_) (fun hb_6 => ?_)
        ·
          replace h := if_t h hb_6
          simp only [decide_eq_true_eq, decide_eq_false_iff_not, Bool.not_eq_true', Bool.not_eq_false', beq_iff_eq, beq_eq_false_iff_ne, ne_eq, Bool.and_eq_true, Bool.or_eq_true, Int.not_lt, Int.not_le] at hb_6
          refine vc_seq_gen (by kernel_rfl) ?_
          intro QQ16 hQ16
          simp only [go_sem, Try.ntmps58, Try.results58]
          refine seqQ_normal hQ16 ?_
          refine vc_ret_of ?_
          refine blockQ_ret hQ12 ?_
          refine seqQ_ret hQ11 ?_
          refine thenQ_ret hQ8 ?_
          refine blockQ_ret hQ7 ?_
          refine seqQ_ret hQ5 ?_
          simp only [go_sem, Try.ntmps58, Try.results58]
          obtain rfl := Option.some.inj h
          refine retW_pure rfl ?_
          simp only [go_sem, Le, AvLeL_free _ F_eq_0]
        ·
          replace h := if_f h hb_6
          simp only [decide_eq_true_eq, decide_eq_false_iff_not, Bool.not_eq_true', Bool.not_eq_false', beq_iff_eq, beq_eq_false_iff_ne, ne_eq, Bool.and_eq_true, Bool.or_eq_true, Int.not_lt, Int.not_le] at hb_6
          refine vc_skip_of ?_
          refine blockQ_normal hQ12 ?_
          refine seqQ_normal hQ11 ?_
          simp only [go_sem, Try.ntmps58, Try.results58]
          refine thenQ_normal hQ8 ?_
          refine ⟨(m_1, IntKind.i64.wrap (t17_1 + 1)), [], ?_, h, Nat.lt_succ_self _⟩
          simp only [go_sem, Le, AvLeL_free _ F_eq_0]
      ·
        replace h := if_f h hb_5
        simp only [decide_eq_true_eq, decide_eq_false_iff_not, Bool.not_eq_true', Bool.not_eq_false', beq_iff_eq, beq_eq_false_iff_ne, ne_eq, Bool.and_eq_true, Bool.or_eq_true, Int.not_lt, Int.not_le] at hb_5
        refine vc_exit_of ?_
        refine seqQ_exit hQ10 ?_
        refine thenQ_exit hQ8 ?_
        refine blockQ_exit hQ7 ?_
        refine seqQ_normal hQ5 ?_
        refine vc_seq_gen (by kernel_rfl) ?_
        intro QQ17 hQ17
        simp only [go_sem, Try.ntmps58, Try.results58]
        refine seqQ_normal hQ17 ?_
        refine vc_ret_of ?_
        simp only [go_sem, Try.ntmps58, Try.results58]
        obtain rfl := Option.some.inj h
        refine retW_pure rfl ?_
        simp only [go_sem, Le, AvLeL_free _ F_eq_0]
end Go.Proofs.Ytngeldeahafcfaa

namespace Go.Proofs.Ytngeldeahafcfaa
open Go Go.RowKit
set_option maxHeartbeats 2000000
set_option maxRecDepth 100000
set_option linter.unusedSimpArgs false
set_option linter.unusedVariables false
def f_slices_Equal_Ins_B1 (s1_0 : List GIns) (s2_0 : List GIns) (rec_1 : Int → Option Bool) : Int → Option Bool :=
  fun t13_1 =>
  (if (decide (t13_1 < (List.length s1_0 : Int))) = true then bindO (idx s1_0 t13_1) (fun (xv_4 : GIns) =>
  bindO (idx s2_0 t13_1) (fun (xv_5 : GIns) =>
  (if (!((xv_4.Op == xv_5.Op) && (xv_4.N == xv_5.N))) = true then some false
  else rec_1 (IntKind.i64.wrap (t13_1 + 1)))))
  else some true)
def f_slices_Equal_Ins (s1_0 : List GIns) (s2_0 : List GIns) : Option Bool :=
  (if (!((List.length s1_0 : Int) == (List.length s2_0 : Int))) = true then some false
  else loopK (f_slices_Equal_Ins_B1 s1_0 s2_0) rounds 0)
theorem f_slices_Equal_Ins_ok (s1_0 : List GIns) (s2_0 : List GIns)  (r : Bool) (h : f_slices_Equal_Ins s1_0 s2_0 = some r) : PureS Try.prog 60 [.sl 2 (enc s1_0), .sl 2 (enc s2_0)] 0 (.v (.bool r)) := by
  unfold PureS
  refine Spec.of_vc Try.func60 rfl (by kernel_rfl) (by kernel_rfl) ?_
  rw [f_slices_Equal_Ins] at h
  refine vc_seq_gen (by kernel_rfl) ?_
  intro QQ1 hQ1
  simp only [go_sem, Try.ntmps60, Try.results60]
  refine seqQ_normal hQ1 ?_
  refine vc_seq_gen (by kernel_rfl) ?_
  intro QQ2 hQ2
  refine vc_seq_gen (by kernel_rfl) ?_
  intro QQ3 hQ3
  simp only [go_sem, Try.ntmps60, Try.results60]
  refine seqQ_normal hQ3 ?_
  refine vc_cond_of (b := (!((List.length s1_0 : Int) == (List.length s2_0 : Int)))) (by (simp only [go_sem]; done)) (fun hb_0 => ?_) (fun hb_0 => ?_)
  ·
    replace h := if_t h hb_0
    simp only [decide_eq_true_eq, decide_eq_false_iff_not, Bool.not_eq_true', Bool.not_eq_false', beq_iff_eq, beq_eq_false_iff_ne, ne_eq, Bool.and_eq_true, Bool.or_eq_true, Int.not_lt, Int.not_le] at hb_0
    refine vc_seq_gen (by kernel_rfl) ?_
    intro QQ4 hQ4
    simp only [go_sem, Try.ntmps60, Try.results60]
    refine seqQ_normal hQ4 ?_
    refine vc_ret_of ?_
    refine seqQ_ret hQ2 ?_
    simp only [go_sem, Try.ntmps60, Try.results60]
    obtain rfl := Option.some.inj h
    refine retW_pure rfl ?_
    simp only [go_sem, Le]
  ·
    replace h := if_f h hb_0
    simp only [decide_eq_true_eq, decide_eq_false_iff_not, Bool.not_eq_true', Bool.not_eq_false', beq_iff_eq, beq_eq_false_iff_ne, ne_eq, Bool.and_eq_true, Bool.or_eq_true, Int.not_lt, Int.not_le] at hb_0
    refine vc_skip_of ?_
    refine seqQ_normal hQ2 ?_
    refine vc_join (by kernel_rfl) ?_
    refine seq_go_gen ?_
    intro QQ5 hQ5
    refine vc_seq_gen (by kernel_rfl) ?_
    intro QQ6 hQ6
    simp only [go_sem, Try.ntmps60, Try.results60]
    refine seqQ_normal hQ6 ?_
    refine vc_block_gen ?_
    intro QQ7 hQ7
    refine vc_loop_of ?_
    refine loop_gen (ι := Nat × Int) (fun ((_, t13_1) : Nat × Int) => (⟨0, [(0, .sl 2 (enc s1_0)), (1, .sl 2 (enc s2_0)), (12, .v (.int .i64 (List.length s1_0 : Int))), (13, .v (.int .i64 t13_1))], [], 0, 26⟩ : St)) (fun ((n_, t13_1) : Nat × Int) => loopK (f_slices_Equal_Ins_B1 s1_0 s2_0) n_ t13_1 = some r) (fun p => p.1) (rounds, 0) [] ?_ h ?_
    · simp only [go_sem, Le]
    · rintro ⟨n_1, t13_1⟩ h QQ8 hQ8
      dsimp only at h
      replace h := loopK_some h
      obtain ⟨m_1, rfl, h⟩ := h
      rw [f_slices_Equal_Ins_B1] at h
      refine vc_seq_gen (by kernel_rfl) ?_
      intro QQ9 hQ9
      simp only [go_sem, Try.ntmps60, Try.results60]
      refine seqQ_normal hQ9 ?_
      refine vc_seq_gen (by kernel_rfl) ?_
      intro QQ10 hQ10
      refine vc_cond_of (b := (decide (t13_1 < (List.length s1_0 : Int)))) (by (simp only [go_sem]; done)) (fun hb_5 => ?_) (fun hb_5 => ?_)
      ·
        replace h := if_t h hb_5
        simp only [decide_eq_true_eq, decide_eq_false_iff_not, Bool.not_eq_true', Bool.not_eq_false', beq_iff_eq, beq_eq_false_iff_ne, ne_eq, Bool.and_eq_true, Bool.or_eq_true, Int.not_lt, Int.not_le] at hb_5
        refine vc_skip_of ?_
        refine seqQ_normal hQ10 ?_
        refine vc_seq_gen (by kernel_rfl) ?_
        intro QQ11 hQ11
        refine vc_block_gen ?_
        intro QQ12 hQ12
        refine vc_seq_gen (by kernel_rfl) ?_
        intro QQ13 hQ13
        simp only [go_sem, Try.ntmps60, Try.results60]
        refine seqQ_normal hQ13 ?_
        refine vc_seq_gen (by kernel_rfl) ?_
        intro QQ14 hQ14
        refine vc_draw ?_
        refine drawM_tail 8 [0, 0, 3, 7, 0, 0, 48, 112, 255] mixed (by kernel_rfl) (of_decide_eq_true (by kernel_rfl)) (by kernel_rfl) ?_
        obtain ⟨xv_4, exv_4, h⟩ := bindO_some h
        obtain ⟨fxv_4a, fxv_4b, fxv_4c⟩ := idx_spec exv_4
        obtain ⟨xv_5, exv_5, h⟩ := bindO_some h
        obtain ⟨fxv_5a, fxv_5b, fxv_5c⟩ := idx_spec exv_5
        simp only [go_sem, Try.ntmps60, Try.results60, fxv_4a, fxv_4b, fxv_4c, fxv_5a, fxv_5b, fxv_5c]
        refine And.intro (by omega) ?_
        refine And.intro (by omega) ?_
        refine seqQ_normal hQ14 ?_
        refine vc_cond_of (b := (!((xv_4.Op == xv_5.Op) && (xv_4.N == xv_5.N)))) (by (simp only [go_sem]; done)) (fun hb_6 => ?_) (fun hb_6 => ?_)
        ·
          replace h := if_t h hb_6
          simp only [decide_eq_true_eq, decide_eq_false_iff_not, Bool.not_eq_true', Bool.not_eq_false', beq_iff_eq, beq_eq_false_iff_ne, ne_eq, Bool.and_eq_true, Bool.or_eq_true, Int.not_lt, Int.not_le] at hb_6
          refine vc_seq_gen (by kernel_rfl) ?_
          intro QQ15 hQ15
          simp only [go_sem, Try.ntmps60, Try.results60]
          refine seqQ_normal hQ15 ?_
          refine vc_ret_of ?_
          refine blockQ_ret hQ12 ?_
          refine seqQ_ret hQ11 ?_
          refine thenQ_ret hQ8 ?_
          refine blockQ_ret hQ7 ?_
          refine seqQ_ret hQ5 ?_
          simp only [go_sem, Try.ntmps60, Try.results60]
          obtain rfl := Option.some.inj h
          refine retW_pure rfl ?_
          simp only [go_sem, Le]
        ·
          replace h := if_f h hb_6
          simp only [decide_eq_true_eq, decide_eq_false_iff_not, Bool.not_eq_true', Bool.not_eq_false', beq_iff_eq, beq_eq_false_iff_ne, ne_eq, Bool.and_eq_true, Bool.or_eq_true, Int.not_lt, Int.not_le] at hb_6
          refine vc_skip_of ?_
          refine blockQ_normal hQ12 ?_
          refine seqQ_normal hQ11 ?_
          simp only [go_sem, Try.ntmps60, Try.results60]
          refine thenQ_normal hQ8 ?_
          refine ⟨(m_1, IntKind.i64.wrap (t13_1 + 1)), [], ?_, h, Nat.lt_succ_self _⟩
          simp only [go_sem, Le]
      ·
        replace h := if_f h hb_5
        simp only [decide_eq_true_eq, decide_eq_false_iff_not, Bool.not_eq_true', Bool.not_eq_false', beq_iff_eq, beq_eq_false_iff_ne, ne_eq, Bool.and_eq_true, Bool.or_eq_true, Int.not_lt, Int.not_le] at hb_5
        refine vc_exit_of ?_
        refine seqQ_exit hQ10 ?_
        refine thenQ_exit hQ8 ?_
        refine blockQ_exit hQ7 ?_
        refine seqQ_normal hQ5 ?_
        refine vc_seq_gen (by kernel_rfl) ?_
        intro QQ16 hQ16
        simp only [go_sem, Try.ntmps60, Try.results60]
        refine seqQ_normal hQ16 ?_
        refine vc_ret_of ?_
        simp only [go_sem, Try.ntmps60, Try.results60]
        obtain rfl := Option.some.inj h
        refine retW_pure rfl ?_
        simp only [go_sem, Le]
end Go.Proofs.Ytngeldeahafcfaa

namespace Go.Proofs.Ytngeldeahafcfaa
open Go Go.RowKit
set_option maxHeartbeats 2000000
set_option maxRecDepth 100000
set_option linter.unusedSimpArgs false
set_option linter.unusedVariables false
def f_graph_Same_1 (xv_0 : GNode) (y_0 : GNode) : Option Bool :=
  (if (((xv_0.Kind == y_0.Kind) && (xv_0.Scope == y_0.Scope)) && (xv_0.Arg == y_0.Arg)) = true then bindO (f_slices_Equal_Ins xv_0.Prog y_0.Prog) (fun (v_0 : Bool) =>
  some v_0)
  else some false)
theorem f_graph_Same_1_ok (xv_0 : GNode) (y_0 : GNode)  (r : Bool) (h : f_graph_Same_1 xv_0 y_0 = some r) : PureS Try.prog 59 [.agg [.v (.int .i64 xv_0.Kind), .v (.int .i64 xv_0.Scope), .v (.int .i64 xv_0.Arg), .sl 2 (enc xv_0.Prog)], .agg [.v (.int .i64 y_0.Kind), .v (.int .i64 y_0.Scope), .v (.int .i64 y_0.Arg), .sl 2 (enc y_0.Prog)]] 0 (.v (.bool r)) := by
  unfold PureS
  refine Spec.of_vc Try.func59 rfl (by kernel_rfl) (by kernel_rfl) ?_
  rw [f_graph_Same_1] at h
  refine vc_seq_gen (by kernel_rfl) ?_
  intro QQ1 hQ1
  simp only [go_sem, Try.ntmps59, Try.results59]
  refine seqQ_normal hQ1 ?_
  refine vc_seq_gen (by kernel_rfl) ?_
  intro QQ2 hQ2
  simp only [go_sem, Try.ntmps59, Try.results59]
  refine And.intro (by omega) ?_
  refine And.intro (by omega) ?_
  refine And.intro (by omega) ?_
  rcases hb_0 : (((xv_0.Kind == y_0.Kind) && (xv_0.Scope == y_0.Scope)) && (xv_0.Arg == y_0.Arg)) with _ | _
  ·
    replace h := if_f h hb_0
    simp only [go_sem, Try.ntmps59, Try.results59, hb_0]
    refine seqQ_normal hQ2 ?_
    refine vc_ret_of ?_
    simp only [go_sem, Try.ntmps59, Try.results59]
    obtain rfl := Option.some.inj h
    refine retW_pure rfl ?_
    simp only [go_sem, Le]
  ·
    replace h := if_t h hb_0
    obtain ⟨v_0, ev_0, h⟩ := bindO_some h
    simp only [go_sem, Try.ntmps59, Try.results59, hb_0]
    refine call0 (f_slices_Equal_Ins_ok xv_0.Prog y_0.Prog v_0 ev_0) (by rfl) (by rfl) ?_
    simp only [go_sem, Try.ntmps59, Try.results59]
    refine seqQ_normal hQ2 ?_
    refine vc_ret_of ?_
    simp only [go_sem, Try.ntmps59, Try.results59]
    obtain rfl := Option.some.inj h
    refine retW_pure rfl ?_
    simp only [go_sem, Le]
end Go.Proofs.Ytngeldeahafcfaa

namespace Go.Proofs.Ytngeldeahafcfaa
open Go Go.RowKit
set_option maxHeartbeats 2000000
set_option maxRecDepth 100000
set_option linter.unusedSimpArgs false
set_option linter.unusedVariables false
def f_slices_Equal_int_B1 (s1_0 : List Int) (s2_0 : List Int) (rec_1 : Int → Option Bool) : Int → Option Bool :=
  fun t13_1 =>
  (if (decide (t13_1 < (List.length s1_0 : Int))) = true then bindO (idx s1_0 t13_1) (fun (xv_4 : Int) =>
  bindO (idx s2_0 t13_1) (fun (xv_5 : Int) =>
  (if (!(xv_4 == xv_5)) = true then some false
  else rec_1 (IntKind.i64.wrap (t13_1 + 1)))))
  else some true)
def f_slices_Equal_int (s1_0 : List Int) (s2_0 : List Int) : Option Bool :=
  (if (!((List.length s1_0 : Int) == (List.length s2_0 : Int))) = true then some false
  else loopK (f_slices_Equal_int_B1 s1_0 s2_0) rounds 0)
theorem f_slices_Equal_int_ok (s1_0 : List Int) (s2_0 : List Int)  (r : Bool) (h : f_slices_Equal_int s1_0 s2_0 = some r) : PureS Try.prog 61 [.sl 1 (enc s1_0), .sl 1 (enc s2_0)] 0 (.v (.bool r)) := by
  unfold PureS
  refine Spec.of_vc Try.func61 rfl (by kernel_rfl) (by kernel_rfl) ?_
  rw [f_slices_Equal_int] at h
  refine vc_seq_gen (by kernel_rfl) ?_
  intro QQ1 hQ1
  simp only [go_sem, Try.ntmps61, Try.results61]
  refine seqQ_normal hQ1 ?_
  refine vc_seq_gen (by kernel_rfl) ?_
  intro QQ2 hQ2
  refine vc_seq_gen (by kernel_rfl) ?_
  intro QQ3 hQ3
  simp only [go_sem, Try.ntmps61, Try.results61]
  refine seqQ_normal hQ3 ?_
  refine vc_cond_of (b := (!((List.length s1_0 : Int) == (List.length s2_0 : Int)))) (by (simp only [go_sem]; done)) (fun hb_0 => ?_) (fun hb_0 => ?_)
  ·
    replace h := if_t h hb_0
    simp only [decide_eq_true_eq, decide_eq_false_iff_not, Bool.not_eq_true', Bool.not_eq_false', beq_iff_eq, beq_eq_false_iff_ne, ne_eq, Bool.and_eq_true, Bool.or_eq_true, Int.not_lt, Int.not_le] at hb_0
    refine vc_seq_gen (by kernel_rfl) ?_
    intro QQ4 hQ4
    simp only [go_sem, Try.ntmps61, Try.results61]
    refine seqQ_normal hQ4 ?_
    refine vc_ret_of ?_
    refine seqQ_ret hQ2 ?_
    simp only [go_sem, Try.ntmps61, Try.results61]
    obtain rfl := Option.some.inj h
    refine retW_pure rfl ?_
    simp only [go_sem, Le]
  ·
    replace h := if_f h hb_0
    simp only [decide_eq_true_eq, decide_eq_false_iff_not, Bool.not_eq_true', Bool.not_eq_false', beq_iff_eq, beq_eq_false_iff_ne, ne_eq, Bool.and_eq_true, Bool.or_eq_true, Int.not_lt, Int.not_le] at hb_0
    refine vc_skip_of ?_
    refine seqQ_normal hQ2 ?_
    refine vc_join (by kernel_rfl) ?_
    refine seq_go_gen ?_
    intro QQ5 hQ5
    refine vc_seq_gen (by kernel_rfl) ?_
    intro QQ6 hQ6
    simp only [go_sem, Try.ntmps61, Try.results61]
    refine seqQ_normal hQ6 ?_
    refine vc_block_gen ?_
    intro QQ7 hQ7
    refine vc_loop_of ?_
    refine loop_gen (ι := Nat × Int) (fun ((_, t13_1) : Nat × Int) => (⟨0, [(0, .sl 1 (enc s1_0)), (1, .sl 1 (enc s2_0)), (12, .v (.int .i64 (List.length s1_0 : Int))), (13, .v (.int .i64 t13_1))], [], 0, 26⟩ : St)) (fun ((n_, t13_1) : Nat × Int) => loopK (f_slices_Equal_int_B1 s1_0 s2_0) n_ t13_1 = some r) (fun p => p.1) (rounds, 0) [] ?_ h ?_
    · simp only [go_sem, Le]
    · rintro ⟨n_1, t13_1⟩ h QQ8 hQ8
      dsimp only at h
      replace h := loopK_some h
      obtain ⟨m_1, rfl, h⟩ := h
      rw [f_slices_Equal_int_B1] at h
      refine vc_seq_gen (by kernel_rfl) ?_
      intro QQ9 hQ9
      simp only [go_sem, Try.ntmps61, Try.results61]
      refine seqQ_normal hQ9 ?_
      refine vc_seq_gen (by kernel_rfl) ?_
      intro QQ10 hQ10
      refine vc_cond_of (b := (decide (t13_1 < (List.length s1_0 : Int)))) (by (simp only [go_sem]; done)) (fun hb_5 => ?_) (fun hb_5 => ?_)
      ·
        replace h := if_t h hb_5
        simp only [decide_eq_true_eq, decide_eq_false_iff_not, Bool.not_eq_true', Bool.not_eq_false', beq_iff_eq, beq_eq_false_iff_ne, ne_eq, Bool.and_eq_true, Bool.or_eq_true, Int.not_lt, Int.not_le] at hb_5
        refine vc_skip_of ?_
        refine seqQ_normal hQ10 ?_
        refine vc_seq_gen (by kernel_rfl) ?_
        intro QQ11 hQ11
        refine vc_block_gen ?_
        intro QQ12 hQ12
        refine vc_seq_gen (by kernel_rfl) ?_
        intro QQ13 hQ13
        simp only [go_sem, Try.ntmps61, Try.results61]
        refine seqQ_normal hQ13 ?_
        refine vc_seq_gen (by kernel_rfl) ?_
        intro QQ14 hQ14
        refine vc_draw ?_
        refine drawM_tail 8 [0, 0, 3, 7, 0, 0, 48, 112, 255] mixed (by kernel_rfl) (of_decide_eq_true (by kernel_rfl)) (by kernel_rfl) ?_
        obtain ⟨xv_4, exv_4, h⟩ := bindO_some h
        obtain ⟨fxv_4a, fxv_4b, fxv_4c⟩ := idx_spec exv_4
        obtain ⟨xv_5, exv_5, h⟩ := bindO_some h
        obtain ⟨fxv_5a, fxv_5b, fxv_5c⟩ := idx_spec exv_5
        simp only [go_sem, Try.ntmps61, Try.results61, fxv_4a, fxv_4b, fxv_4c, fxv_5a, fxv_5b, fxv_5c]
        refine And.intro (by omega) ?_
        refine And.intro (by omega) ?_
        refine seqQ_normal hQ14 ?_
        refine vc_cond_of (b := (!(xv_4 == xv_5))) (by (simp only [go_sem]; done)) (fun hb_6 => ?_) (fun hb_6 => ?_)
        ·
          replace h := if_t h hb_6
          simp only [decide_eq_true_eq, decide_eq_false_iff_not, Bool.not_eq_true', Bool.not_eq_false', beq_iff_eq, beq_eq_false_iff_ne, ne_eq, Bool.and_eq_true, Bool.or_eq_true, Int.not_lt, Int.not_le] at hb_6
          refine vc_seq_gen (by kernel_rfl) ?_
          intro QQ15 hQ15
          simp only [go_sem, Try.ntmps61, Try.results61]
          refine seqQ_normal hQ15 ?_
          refine vc_ret_of ?_
          refine blockQ_ret hQ12 ?_
          refine seqQ_ret hQ11 ?_
          refine thenQ_ret hQ8 ?_
          refine blockQ_ret hQ7 ?_
          refine seqQ_ret hQ5 ?_
          simp only [go_sem, Try.ntmps61, Try.results61]
          obtain rfl := Option.some.inj h
          refine retW_pure rfl ?_
          simp only [go_sem, Le]
        ·
          replace h := if_f h hb_6
          simp only [decide_eq_true_eq, decide_eq_false_iff_not, Bool.not_eq_true', Bool.not_eq_false', beq_iff_eq, beq_eq_false_iff_ne, ne_eq, Bool.and_eq_true, Bool.or_eq_true, Int.not_lt, Int.not_le] at hb_6
          refine vc_skip_of ?_
          refine blockQ_normal hQ12 ?_
          refine seqQ_normal hQ11 ?_
          simp only [go_sem, Try.ntmps61, Try.results61]
          refine thenQ_normal hQ8 ?_
          refine ⟨(m_1, IntKind.i64.wrap (t13_1 + 1)), [], ?_, h, Nat.lt_succ_self _⟩
          simp only [go_sem, Le]
      ·
        replace h := if_f h hb_5
        simp only [decide_eq_true_eq, decide_eq_false_iff_not, Bool.not_eq_true', Bool.not_eq_false', beq_iff_eq, beq_eq_false_iff_ne, ne_eq, Bool.and_eq_true, Bool.or_eq_true, Int.not_lt, Int.not_le] at hb_5
        refine vc_exit_of ?_
        refine seqQ_exit hQ10 ?_
        refine thenQ_exit hQ8 ?_
        refine blockQ_exit hQ7 ?_
        refine seqQ_normal hQ5 ?_
        refine vc_seq_gen (by kernel_rfl) ?_
        intro QQ16 hQ16
        simp only [go_sem, Try.ntmps61, Try.results61]
        refine seqQ_normal hQ16 ?_
        refine vc_ret_of ?_
        simp only [go_sem, Try.ntmps61, Try.results61]
        obtain rfl := Option.some.inj h
        refine retW_pure rfl ?_
        simp only [go_sem, Le]
end Go.Proofs.Ytngeldeahafcfaa

namespace Go.Proofs.Ytngeldeahafcfaa
open Go Go.RowKit
set_option maxHeartbeats 2000000
set_option maxRecDepth 100000
set_option linter.unusedSimpArgs false
set_option linter.unusedVariables false
def f_slices_Equal_Edge_B1 (s1_0 : List GEdge) (s2_0 : List GEdge) (rec_1 : Int → Option Bool) : Int → Option Bool :=
  fun t13_1 =>
  (if (decide (t13_1 < (List.length s1_0 : Int))) = true then bindO (idx s1_0 t13_1) (fun (xv_4 : GEdge) =>
  bindO (idx s2_0 t13_1) (fun (xv_5 : GEdge) =>
  (if (!((xv_4.From == xv_5.From) && ((xv_4.To == xv_5.To) && ((xv_4.Port == xv_5.Port) && (xv_4.Exchange == xv_5.Exchange))))) = true then some false
  else rec_1 (IntKind.i64.wrap (t13_1 + 1)))))
  else some true)
def f_slices_Equal_Edge (s1_0 : List GEdge) (s2_0 : List GEdge) : Option Bool :=
  (if (!((List.length s1_0 : Int) == (List.length s2_0 : Int))) = true then some false
  else loopK (f_slices_Equal_Edge_B1 s1_0 s2_0) rounds 0)
theorem f_slices_Equal_Edge_ok (s1_0 : List GEdge) (s2_0 : List GEdge)  (r : Bool) (h : f_slices_Equal_Edge s1_0 s2_0 = some r) : PureS Try.prog 62 [.sl 4 (enc s1_0), .sl 4 (enc s2_0)] 0 (.v (.bool r)) := by
  unfold PureS
  refine Spec.of_vc Try.func62 rfl (by kernel_rfl) (by kernel_rfl) ?_
  rw [f_slices_Equal_Edge] at h
  refine vc_seq_gen (by kernel_rfl) ?_
  intro QQ1 hQ1
  simp only [go_sem, Try.ntmps62, Try.results62]
  refine seqQ_normal hQ1 ?_
  refine vc_seq_gen (by kernel_rfl) ?_
  intro QQ2 hQ2
  refine vc_seq_gen (by kernel_rfl) ?_
  intro QQ3 hQ3
  simp only [go_sem, Try.ntmps62, Try.results62]
  refine seqQ_normal hQ3 ?_
  refine vc_cond_of (b := (!((List.length s1_0 : Int) == (List.length s2_0 : Int)))) (by (simp only [go_sem]; done)) (fun hb_0 => ?_) (fun hb_0 => ?_)
  ·
    replace h := if_t h hb_0
    simp only [decide_eq_true_eq, decide_eq_false_iff_not, Bool.not_eq_true', Bool.not_eq_false', beq_iff_eq, beq_eq_false_iff_ne, ne_eq, Bool.and_eq_true, Bool.or_eq_true, Int.not_lt, Int.not_le] at hb_0
    refine vc_seq_gen (by kernel_rfl) ?_
    intro QQ4 hQ4
    simp only [go_sem, Try.ntmps62, Try.results62]
    refine seqQ_normal hQ4 ?_
    refine vc_ret_of ?_
    refine seqQ_ret hQ2 ?_
    simp only [go_sem, Try.ntmps62, Try.results62]
    obtain rfl := Option.some.inj h
    refine retW_pure rfl ?_
    simp only [go_sem, Le]
  ·
    replace h := if_f h hb_0
    simp only [decide_eq_true_eq, decide_eq_false_iff_not, Bool.not_eq_true', Bool.not_eq_false', beq_iff_eq, beq_eq_false_iff_ne, ne_eq, Bool.and_eq_true, Bool.or_eq_true, Int.not_lt, Int.not_le] at hb_0
    refine vc_skip_of ?_
    refine seqQ_normal hQ2 ?_
    refine vc_join (by kernel_rfl) ?_
    refine seq_go_gen ?_
    intro QQ5 hQ5
    refine vc_seq_gen (by kernel_rfl) ?_
    intro QQ6 hQ6
    simp only [go_sem, Try.ntmps62, Try.results62]
    refine seqQ_normal hQ6 ?_
    refine vc_block_gen ?_
    intro QQ7 hQ7
    refine vc_loop_of ?_
    refine loop_gen (ι := Nat × Int) (fun ((_, t13_1) : Nat × Int) => (⟨0, [(0, .sl 4 (enc s1_0)), (1, .sl 4 (enc s2_0)), (12, .v (.int .i64 (List.length s1_0 : Int))), (13, .v (.int .i64 t13_1))], [], 0, 26⟩ : St)) (fun ((n_, t13_1) : Nat × Int) => loopK (f_slices_Equal_Edge_B1 s1_0 s2_0) n_ t13_1 = some r) (fun p => p.1) (rounds, 0) [] ?_ h ?_
    · simp only [go_sem, Le]
    · rintro ⟨n_1, t13_1⟩ h QQ8 hQ8
      dsimp only at h
      replace h := loopK_some h
      obtain ⟨m_1, rfl, h⟩ := h
      rw [f_slices_Equal_Edge_B1] at h
      refine vc_seq_gen (by kernel_rfl) ?_
      intro QQ9 hQ9
      simp only [go_sem, Try.ntmps62, Try.results62]
      refine seqQ_normal hQ9 ?_
      refine vc_seq_gen (by kernel_rfl) ?_
      intro QQ10 hQ10
      refine vc_cond_of (b := (decide (t13_1 < (List.length s1_0 : Int)))) (by (simp only [go_sem]; done)) (fun hb_5 => ?_) (fun hb_5 => ?_)
      ·
        replace h := if_t h hb_5
        simp only [decide_eq_true_eq, decide_eq_false_iff_not, Bool.not_eq_true', Bool.not_eq_false', beq_iff_eq, beq_eq_false_iff_ne, ne_eq, Bool.and_eq_true, Bool.or_eq_true, Int.not_lt, Int.not_le] at hb_5
        refine vc_skip_of ?_
        refine seqQ_normal hQ10 ?_
        refine vc_seq_gen (by kernel_rfl) ?_
        intro QQ11 hQ11
        refine vc_block_gen ?_
        intro QQ12 hQ12
        refine vc_seq_gen (by kernel_rfl) ?_
        intro QQ13 hQ13
        simp only [go_sem, Try.ntmps62, Try.results62]
        refine seqQ_normal hQ13 ?_
        refine vc_seq_gen (by kernel_rfl) ?_
        intro QQ14 hQ14
        refine vc_draw ?_
        refine drawM_tail 8 [0, 0, 3, 7, 0, 0, 48, 112, 255] mixed (by kernel_rfl) (of_decide_eq_true (by kernel_rfl)) (by kernel_rfl) ?_
        obtain ⟨xv_4, exv_4, h⟩ := bindO_some h
        obtain ⟨fxv_4a, fxv_4b, fxv_4c⟩ := idx_spec exv_4
        obtain ⟨xv_5, exv_5, h⟩ := bindO_some h
        obtain ⟨fxv_5a, fxv_5b, fxv_5c⟩ := idx_spec exv_5
        simp only [go_sem, Try.ntmps62, Try.results62, fxv_4a, fxv_4b, fxv_4c, fxv_5a, fxv_5b, fxv_5c]
        refine And.intro (by omega) ?_
        refine And.intro (by omega) ?_
        refine seqQ_normal hQ14 ?_
        refine vc_cond_of (b := (!((xv_4.From == xv_5.From) && ((xv_4.To == xv_5.To) && ((xv_4.Port == xv_5.Port) && (xv_4.Exchange == xv_5.Exchange)))))) (by (simp only [go_sem]; done)) (fun hb_6 => ?_) (fun hb_6 => ?_)
        ·
          replace h := if_t h hb_6
          simp only [decide_eq_true_eq, decide_eq_false_iff_not, Bool.not_eq_true', Bool.not_eq_false', beq_iff_eq, beq_eq_false_iff_ne, ne_eq, Bool.and_eq_true, Bool.or_eq_true, Int.not_lt, Int.not_le] at hb_6
          refine vc_seq_gen (by kernel_rfl) ?_
          intro QQ15 hQ15
          simp only [go_sem, Try.ntmps62, Try.results62]
          refine seqQ_normal hQ15 ?_
          refine vc_ret_of ?_
          refine blockQ_ret hQ12 ?_
          refine seqQ_ret hQ11 ?_
          refine thenQ_ret hQ8 ?_
          refine blockQ_ret hQ7 ?_
          refine seqQ_ret hQ5 ?_
          simp only [go_sem, Try.ntmps62, Try.results62]
          obtain rfl := Option.some.inj h
          refine retW_pure rfl ?_
          simp only [go_sem, Le]
        ·
          replace h := if_f h hb_6
          simp only [decide_eq_true_eq, decide_eq_false_iff_not, Bool.not_eq_true', Bool.not_eq_false', beq_iff_eq, beq_eq_false_iff_ne, ne_eq, Bool.and_eq_true, Bool.or_eq_true, Int.not_lt, Int.not_le] at hb_6
          refine vc_skip_of ?_
          refine blockQ_normal hQ12 ?_
          refine seqQ_normal hQ11 ?_
          simp only [go_sem, Try.ntmps62, Try.results62]
          refine thenQ_normal hQ8 ?_
          refine ⟨(m_1, IntKind.i64.wrap (t13_1 + 1)), [], ?_, h, Nat.lt_succ_self _⟩
          simp only [go_sem, Le]
      ·
        replace h := if_f h hb_5
        simp only [decide_eq_true_eq, decide_eq_false_iff_not, Bool.not_eq_true', Bool.not_eq_false', beq_iff_eq, beq_eq_false_iff_ne, ne_eq, Bool.and_eq_true, Bool.or_eq_true, Int.not_lt, Int.not_le] at hb_5
        refine vc_exit_of ?_
        refine seqQ_exit hQ10 ?_
        refine thenQ_exit hQ8 ?_
        refine blockQ_exit hQ7 ?_
        refine seqQ_normal hQ5 ?_
        refine vc_seq_gen (by kernel_rfl) ?_
        intro QQ16 hQ16
        simp only [go_sem, Try.ntmps62, Try.results62]
        refine seqQ_normal hQ16 ?_
        refine vc_ret_of ?_
        simp only [go_sem, Try.ntmps62, Try.results62]
        obtain rfl := Option.some.inj h
        refine retW_pure rfl ?_
        simp only [go_sem, Le]
end Go.Proofs.Ytngeldeahafcfaa

namespace Go.Proofs.Ytngeldeahafcfaa
open Go Go.RowKit
set_option maxHeartbeats 2000000
set_option maxRecDepth 100000
set_option linter.unusedSimpArgs false
set_option linter.unusedVariables false
def f_graph_Same (a_0 : GGraph) (b_0 : GGraph) : Option Bool :=
  bindO (f_slices_EqualFunc_Node a_0.Nodes b_0.Nodes (fun x0_ x1_ => f_graph_Same_1 x0_ x1_)) (fun (v_0 : Bool) =>
  (if v_0 = true then bindO (f_slices_Equal_int a_0.Parent b_0.Parent) (fun (v_1 : Bool) =>
  (if v_1 = true then bindO (f_slices_Equal_int a_0.Bound b_0.Bound) (fun (v_2 : Bool) =>
  (if v_2 = true then bindO (f_slices_Equal_Edge a_0.Edges b_0.Edges) (fun (v_3 : Bool) =>
  some v_3)
  else some false))
  else some false))
  else some false))
theorem f_graph_Same_ok (a_0 : GGraph) (b_0 : GGraph)  (r : Bool) (h : f_graph_Same a_0 b_0 = some r) : PureS Try.prog 34 [.agg [.sl 1 (enc a_0.Parent), .sl 1 (enc a_0.Bound), .sl 4 (enc a_0.Nodes), .sl 4 (enc a_0.Edges)], .agg [.sl 1 (enc b_0.Parent), .sl 1 (enc b_0.Bound), .sl 4 (enc b_0.Nodes), .sl 4 (enc b_0.Edges)]] 0 (.v (.bool r)) := by
  unfold PureS
  refine Spec.of_vc Try.func34 rfl (by kernel_rfl) (by kernel_rfl) ?_
  rw [f_graph_Same] at h
  refine vc_seq_gen (by kernel_rfl) ?_
  intro QQ1 hQ1
  simp only [go_sem, Try.ntmps34, Try.results34]
  refine seqQ_normal hQ1 ?_
  refine vc_seq_gen (by kernel_rfl) ?_
  intro QQ2 hQ2
  obtain ⟨v_0, ev_0, h⟩ := bindO_some h
  simp only [go_sem, Try.ntmps34, Try.results34]
  refine call0 (f_slices_EqualFunc_Node_ok a_0.Nodes b_0.Nodes (fun x0_ x1_ => f_graph_Same_1 x0_ x1_) 59 [] (by rfl) (by kernel_rfl) (fun y0 y1 r_ e_ => f_graph_Same_1_ok y0 y1 r_ e_) v_0 ev_0) (by rfl) (by rfl) ?_
  simp only [go_sem, Try.ntmps34, Try.results34]
  refine seqQ_normal hQ2 ?_
  refine vc_seq_gen (by kernel_rfl) ?_
  intro QQ3 hQ3
  simp only [go_sem, Try.ntmps34, Try.results34]
  refine And.intro (by (intros; (repeat' apply And.intro) <;> first | assumption | omega)) ?_
  refine And.intro (by (intros; (repeat' apply And.intro) <;> first | assumption | omega)) ?_
  rcases hb_0 : v_0 with _ | _
  ·
    replace h := if_f h hb_0
    simp only [go_sem, Try.ntmps34, Try.results34, hb_0]
    refine seqQ_normal hQ3 ?_
    refine vc_ret_of ?_
    simp only [go_sem, Try.ntmps34, Try.results34]
    obtain rfl := Option.some.inj h
    refine retW_pure rfl ?_
    simp only [go_sem, Le]
  ·
    replace h := if_t h hb_0
    obtain ⟨v_1, ev_1, h⟩ := bindO_some h
    simp only [go_sem, Try.ntmps34, Try.results34, hb_0]
    refine call0 (f_slices_Equal_int_ok a_0.Parent b_0.Parent v_1 ev_1) (by rfl) (by rfl) ?_
    simp only [go_sem, Try.ntmps34, Try.results34]
    rcases hb_1 : v_1 with _ | _
    ·
      replace h := if_f h hb_1
      simp only [go_sem, Try.ntmps34, Try.results34, hb_1]
      refine seqQ_normal hQ3 ?_
      refine vc_ret_of ?_
      simp only [go_sem, Try.ntmps34, Try.results34]
      obtain rfl := Option.some.inj h
      refine retW_pure rfl ?_
      simp only [go_sem, Le]
    ·
      replace h := if_t h hb_1
      obtain ⟨v_2, ev_2, h⟩ := bindO_some h
      simp only [go_sem, Try.ntmps34, Try.results34, hb_1]
      refine call0 (f_slices_Equal_int_ok a_0.Bound b_0.Bound v_2 ev_2) (by rfl) (by rfl) ?_
      simp only [go_sem, Try.ntmps34, Try.results34]
      rcases hb_2 : v_2 with _ | _
      ·
        replace h := if_f h hb_2
        simp only [go_sem, Try.ntmps34, Try.results34, hb_2]
        refine seqQ_normal hQ3 ?_
        refine vc_ret_of ?_
        simp only [go_sem, Try.ntmps34, Try.results34]
        obtain rfl := Option.some.inj h
        refine retW_pure rfl ?_
        simp only [go_sem, Le]
      ·
        replace h := if_t h hb_2
        obtain ⟨v_3, ev_3, h⟩ := bindO_some h
        simp only [go_sem, Try.ntmps34, Try.results34, hb_2]
        refine call0 (f_slices_Equal_Edge_ok a_0.Edges b_0.Edges v_3 ev_3) (by rfl) (by rfl) ?_
        simp only [go_sem, Try.ntmps34, Try.results34]
        refine seqQ_normal hQ3 ?_
        refine vc_ret_of ?_
        simp only [go_sem, Try.ntmps34, Try.results34]
        obtain rfl := Option.some.inj h
        refine retW_pure rfl ?_
        simp only [go_sem, Le]
end Go.Proofs.Ytngeldeahafcfaa

namespace Go.Proofs.Ytngeldeahafcfaa
open Go Go.RowKit
set_option maxHeartbeats 2000000
set_option maxRecDepth 100000
set_option linter.unusedSimpArgs false
set_option linter.unusedVariables false
def f_backwashlaw08_GraphBack_J1 (g_0 : GGraph) : Option Bool :=
  bindO (f_backwashref08_Short g_0) (fun (v_4 : Bool) =>
  (if (!v_4) = true then some true
  else bindO (f_graph_Put g_0) (fun (v_5 : (List UInt8) × Int) =>
  (if (!(v_5.2 == 0)) = true then some ((List.length v_5.1 : Int) == 0)
  else bindO (f_graph_Read v_5.1) (fun (v_6 : GGraph × Int) =>
  (if (decide (8192 < (List.length v_5.1 : Int))) = true then some (v_6.2 == 11)
  else (if (v_6.2 == 0) = true then bindO (f_backwashref08_Same g_0 v_6.1) (fun (v_7 : Bool) =>
  some v_7)
  else some false)))))))
def f_backwashlaw08_GraphBack (g_0 : GGraph) (b_0 : List UInt8) : Option Bool :=
  bindO (f_backwashlaw08_awake) (fun (v_0 : Bool) =>
  (if (!v_0) = true then some false
  else guardO (0 ≤ 0 ∧ 0 ≤ (min (List.length b_0 : Int) 9000) ∧ (min (List.length b_0 : Int) 9000) ≤ (List.length b_0 : Int)) (
  bindO (f_graph_Read (List.take (Int.toNat (min (List.length b_0 : Int) 9000)) b_0)) (fun (v_8 : GGraph × Int) =>
  (if (v_8.2 == 0) = true then bindO (f_graph_Put v_8.1) (fun (v_9 : (List UInt8) × Int) =>
  (if (v_9.2 == 0) = true then bindO (f_backwashref06_Same v_9.1 (List.take (Int.toNat (min (List.length b_0 : Int) 9000)) b_0)) (fun (v_10 : Bool) =>
  (if (!v_10) = true then some false
  else f_backwashlaw08_GraphBack_J1 g_0))
  else some false))
  else f_backwashlaw08_GraphBack_J1 g_0)))))
theorem f_backwashlaw08_GraphBack_ok (g_0 : GGraph) (b_0 : List UInt8)  (r : Bool) (h : f_backwashlaw08_GraphBack g_0 b_0 = some r) : PureS Try.prog 9 [.agg [.sl 1 (enc g_0.Parent), .sl 1 (enc g_0.Bound), .sl 4 (enc g_0.Nodes), .sl 4 (enc g_0.Edges)], .sl 1 (enc b_0)] 0 (.v (.bool r)) := by
  unfold PureS
  refine Spec.of_vc Try.func9 rfl (by kernel_rfl) (by kernel_rfl) ?_
  rw [f_backwashlaw08_GraphBack] at h
  refine vc_seq_gen (by kernel_rfl) ?_
  intro QQ1 hQ1
  simp only [go_sem, Try.ntmps9, Try.results9]
  refine seqQ_normal hQ1 ?_
  refine vc_seq_gen (by kernel_rfl) ?_
  intro QQ2 hQ2
  refine vc_seq_gen (by kernel_rfl) ?_
  intro QQ3 hQ3
  obtain ⟨v_0, ev_0, h⟩ := bindO_some h
  simp only [go_sem, Try.ntmps9, Try.results9]
  refine call0 (f_backwashlaw08_awake_ok v_0 ev_0) (by rfl) (by rfl) ?_
  simp only [go_sem, Try.ntmps9, Try.results9]
  refine seqQ_normal hQ3 ?_
  refine vc_cond_of (b := (!v_0)) (by (simp only [go_sem]; done)) (fun hb_0 => ?_) (fun hb_0 => ?_)
  ·
    replace h := if_t h hb_0
    simp only [decide_eq_true_eq, decide_eq_false_iff_not, Bool.not_eq_true', Bool.not_eq_false', beq_iff_eq, beq_eq_false_iff_ne, ne_eq, Bool.and_eq_true, Bool.or_eq_true, Int.not_lt, Int.not_le] at hb_0
    refine vc_seq_gen (by kernel_rfl) ?_
    intro QQ4 hQ4
    simp only [go_sem, Try.ntmps9, Try.results9]
    refine seqQ_normal hQ4 ?_
    refine vc_ret_of ?_
    refine seqQ_ret hQ2 ?_
    simp only [go_sem, Try.ntmps9, Try.results9]
    obtain rfl := Option.some.inj h
    refine retW_pure rfl ?_
    simp only [go_sem, Le]
  ·
    replace h := if_f h hb_0
    simp only [decide_eq_true_eq, decide_eq_false_iff_not, Bool.not_eq_true', Bool.not_eq_false', beq_iff_eq, beq_eq_false_iff_ne, ne_eq, Bool.and_eq_true, Bool.or_eq_true, Int.not_lt, Int.not_le] at hb_0
    refine vc_skip_of ?_
    refine seqQ_normal hQ2 ?_
    refine vc_seq_gen (by kernel_rfl) ?_
    intro QQ5 hQ5
    obtain ⟨g_1, h⟩ := guardO_some h
    simp only [go_sem, Try.ntmps9, Try.results9, g_1]
    refine seqQ_normal hQ5 ?_
    refine vc_join (by kernel_rfl) ?_
    refine seq_cut_gen (ι := Unit) (fun (_ : Unit) => (⟨0, [(2, .ptr 0 0)], [(0, .box [.sl 1 (enc g_0.Parent), .sl 1 (enc g_0.Bound), .sl 4 (enc g_0.Nodes), .sl 4 (enc g_0.Edges)])], 1, 70⟩ : St)) (fun (_ : Unit) => f_backwashlaw08_GraphBack_J1 g_0 = some r) ?_ ?_
    ·
      intro QQ18 hQ18
      refine vc_seq_gen (by kernel_rfl) ?_
      intro QQ19 hQ19
      obtain ⟨v_8, ev_8, h⟩ := bindO_some h
      simp only [go_sem, Try.ntmps9, Try.results9]
      refine call0 (f_graph_Read_ok (List.take (Int.toNat (min (List.length b_0 : Int) 9000)) b_0) v_8 ev_8) (by rfl) (by rfl) ?_
      simp only [go_sem, Try.ntmps9, Try.results9]
      refine seqQ_normal hQ19 ?_
      refine vc_seq_gen (by kernel_rfl) ?_
      intro QQ20 hQ20
      simp only [go_sem, Try.ntmps9, Try.results9]
      refine seqQ_normal hQ20 ?_
      refine vc_cond_of (b := (v_8.2 == 0)) (by (simp only [go_sem]; done)) (fun hb_8 => ?_) (fun hb_8 => ?_)
      ·
        replace h := if_t h hb_8
        simp only [decide_eq_true_eq, decide_eq_false_iff_not, Bool.not_eq_true', Bool.not_eq_false', beq_iff_eq, beq_eq_false_iff_ne, ne_eq, Bool.and_eq_true, Bool.or_eq_true, Int.not_lt, Int.not_le] at hb_8
        refine vc_seq_gen (by kernel_rfl) ?_
        intro QQ21 hQ21
        obtain ⟨v_9, ev_9, h⟩ := bindO_some h
        simp only [go_sem, Try.ntmps9, Try.results9]
        refine call0 (f_graph_Put_ok v_8.1 v_9 ev_9) (by rfl) (by rfl) ?_
        simp only [go_sem, Try.ntmps9, Try.results9]
        refine seqQ_normal hQ21 ?_
        refine vc_seq_gen (by kernel_rfl) ?_
        intro QQ22 hQ22
        simp only [go_sem, Try.ntmps9, Try.results9]
        rcases hb_9 : (v_9.2 == 0) with _ | _
        ·
          replace h := if_f h hb_9
          simp only [go_sem, Try.ntmps9, Try.results9, hb_9]
          refine seqQ_normal hQ22 ?_
          refine vc_cond_t (by (simp only [go_sem]; done)) ?_
          refine vc_seq_gen (by kernel_rfl) ?_
          intro QQ23 hQ23
          simp only [go_sem, Try.ntmps9, Try.results9]
          refine seqQ_normal hQ23 ?_
          refine vc_ret_of ?_
          refine thenQ_ret hQ18 ?_
          simp only [go_sem, Try.ntmps9, Try.results9]
          obtain rfl := Option.some.inj h
          refine retW_pure rfl ?_
          simp only [go_sem, Le]
        ·
          replace h := if_t h hb_9
          obtain ⟨v_10, ev_10, h⟩ := bindO_some h
          simp only [go_sem, Try.ntmps9, Try.results9, hb_9]
          refine call0 (f_backwashref06_Same_ok v_9.1 (List.take (Int.toNat (min (List.length b_0 : Int) 9000)) b_0) v_10 ev_10) (by rfl) (by rfl) ?_
          simp only [go_sem, Try.ntmps9, Try.results9]
          refine seqQ_normal hQ22 ?_
          refine vc_cond_of (b := (!v_10)) (by (simp only [go_sem]; done)) (fun hb_10 => ?_) (fun hb_10 => ?_)
          ·
            replace h := if_t h hb_10
            simp only [decide_eq_true_eq, decide_eq_false_iff_not, Bool.not_eq_true', Bool.not_eq_false', beq_iff_eq, beq_eq_false_iff_ne, ne_eq, Bool.and_eq_true, Bool.or_eq_true, Int.not_lt, Int.not_le] at hb_10
            refine vc_seq_gen (by kernel_rfl) ?_
            intro QQ24 hQ24
            simp only [go_sem, Try.ntmps9, Try.results9]
            refine seqQ_normal hQ24 ?_
            refine vc_ret_of ?_
            refine thenQ_ret hQ18 ?_
            simp only [go_sem, Try.ntmps9, Try.results9]
            obtain rfl := Option.some.inj h
            refine retW_pure rfl ?_
            simp only [go_sem, Le]
          ·
            replace h := if_f h hb_10
            simp only [decide_eq_true_eq, decide_eq_false_iff_not, Bool.not_eq_true', Bool.not_eq_false', beq_iff_eq, beq_eq_false_iff_ne, ne_eq, Bool.and_eq_true, Bool.or_eq_true, Int.not_lt, Int.not_le] at hb_10
            refine vc_skip_of ?_
            refine thenQ_normal hQ18 ?_
            refine ⟨(), [some 0], ?_, h⟩
            simp only [go_sem, Le]
      ·
        replace h := if_f h hb_8
        simp only [decide_eq_true_eq, decide_eq_false_iff_not, Bool.not_eq_true', Bool.not_eq_false', beq_iff_eq, beq_eq_false_iff_ne, ne_eq, Bool.and_eq_true, Bool.or_eq_true, Int.not_lt, Int.not_le] at hb_8
        refine vc_skip_of ?_
        refine thenQ_normal hQ18 ?_
        refine ⟨(), [some 0], ?_, h⟩
        simp only [go_sem, Le]
    · rintro ⟨⟩ h
      try dsimp only at h
      rw [f_backwashlaw08_GraphBack_J1] at h
      refine vc_seq_gen (by kernel_rfl) ?_
      intro QQ6 hQ6
      refine vc_seq_gen (by kernel_rfl) ?_
      intro QQ7 hQ7
      obtain ⟨v_4, ev_4, h⟩ := bindO_some h
      simp only [go_sem, Try.ntmps9, Try.results9]
      refine call0 (f_backwashref08_Short_ok g_0 v_4 ev_4) (by rfl) (by rfl) ?_
      simp only [go_sem, Try.ntmps9, Try.results9]
      refine seqQ_normal hQ7 ?_
      refine vc_cond_of (b := (!v_4)) (by (simp only [go_sem]; done)) (fun hb_4 => ?_) (fun hb_4 => ?_)
      ·
        replace h := if_t h hb_4
        simp only [decide_eq_true_eq, decide_eq_false_iff_not, Bool.not_eq_true', Bool.not_eq_false', beq_iff_eq, beq_eq_false_iff_ne, ne_eq, Bool.and_eq_true, Bool.or_eq_true, Int.not_lt, Int.not_le] at hb_4
        refine vc_seq_gen (by kernel_rfl) ?_
        intro QQ8 hQ8
        simp only [go_sem, Try.ntmps9, Try.results9]
        refine seqQ_normal hQ8 ?_
        refine vc_ret_of ?_
        refine seqQ_ret hQ6 ?_
        simp only [go_sem, Try.ntmps9, Try.results9]
        obtain rfl := Option.some.inj h
        refine retW_pure rfl ?_
        simp only [go_sem, Le]
      ·
        replace h := if_f h hb_4
        simp only [decide_eq_true_eq, decide_eq_false_iff_not, Bool.not_eq_true', Bool.not_eq_false', beq_iff_eq, beq_eq_false_iff_ne, ne_eq, Bool.and_eq_true, Bool.or_eq_true, Int.not_lt, Int.not_le] at hb_4
        refine vc_skip_of ?_
        refine seqQ_normal hQ6 ?_
        refine vc_seq_gen (by kernel_rfl) ?_
        intro QQ9 hQ9
        obtain ⟨v_5, ev_5, h⟩ := bindO_some h
        simp only [go_sem, Try.ntmps9, Try.results9]
        refine call0 (f_graph_Put_ok g_0 v_5 ev_5) (by rfl) (by rfl) ?_
        simp only [go_sem, Try.ntmps9, Try.results9]
        refine seqQ_normal hQ9 ?_
        refine vc_seq_gen (by kernel_rfl) ?_
        intro QQ10 hQ10
        refine vc_seq_gen (by kernel_rfl) ?_
        intro QQ11 hQ11
        simp only [go_sem, Try.ntmps9, Try.results9]
        refine seqQ_normal hQ11 ?_
        refine vc_cond_of (b := (!(v_5.2 == 0))) (by (simp only [go_sem]; done)) (fun hb_5 => ?_) (fun hb_5 => ?_)
        ·
          replace h := if_t h hb_5
          simp only [decide_eq_true_eq, decide_eq_false_iff_not, Bool.not_eq_true', Bool.not_eq_false', beq_iff_eq, beq_eq_false_iff_ne, ne_eq, Bool.and_eq_true, Bool.or_eq_true, Int.not_lt, Int.not_le] at hb_5
          refine vc_seq_gen (by kernel_rfl) ?_
          intro QQ12 hQ12
          simp only [go_sem, Try.ntmps9, Try.results9]
          refine seqQ_normal hQ12 ?_
          refine vc_ret_of ?_
          refine seqQ_ret hQ10 ?_
          simp only [go_sem, Try.ntmps9, Try.results9]
          obtain rfl := Option.some.inj h
          refine retW_pure rfl ?_
          simp only [go_sem, Le]
        ·
          replace h := if_f h hb_5
          simp only [decide_eq_true_eq, decide_eq_false_iff_not, Bool.not_eq_true', Bool.not_eq_false', beq_iff_eq, beq_eq_false_iff_ne, ne_eq, Bool.and_eq_true, Bool.or_eq_true, Int.not_lt, Int.not_le] at hb_5
          refine vc_skip_of ?_
          refine seqQ_normal hQ10 ?_
          refine vc_seq_gen (by kernel_rfl) ?_
          intro QQ13 hQ13
          obtain ⟨v_6, ev_6, h⟩ := bindO_some h
          simp only [go_sem, Try.ntmps9, Try.results9]
          refine call0 (f_graph_Read_ok v_5.1 v_6 ev_6) (by rfl) (by rfl) ?_
          simp only [go_sem, Try.ntmps9, Try.results9]
          refine seqQ_normal hQ13 ?_
          refine vc_seq_gen (by kernel_rfl) ?_
          intro QQ14 hQ14
          refine vc_seq_gen (by kernel_rfl) ?_
          intro QQ15 hQ15
          simp only [go_sem, Try.ntmps9, Try.results9]
          refine seqQ_normal hQ15 ?_
          refine vc_cond_of (b := (decide (8192 < (List.length v_5.1 : Int)))) (by (simp only [go_sem]; done)) (fun hb_6 => ?_) (fun hb_6 => ?_)
          ·
            replace h := if_t h hb_6
            simp only [decide_eq_true_eq, decide_eq_false_iff_not, Bool.not_eq_true', Bool.not_eq_false', beq_iff_eq, beq_eq_false_iff_ne, ne_eq, Bool.and_eq_true, Bool.or_eq_true, Int.not_lt, Int.not_le] at hb_6
            refine vc_seq_gen (by kernel_rfl) ?_
            intro QQ16 hQ16
            simp only [go_sem, Try.ntmps9, Try.results9]
            refine seqQ_normal hQ16 ?_
            refine vc_ret_of ?_
            refine seqQ_ret hQ14 ?_
            simp only [go_sem, Try.ntmps9, Try.results9]
            obtain rfl := Option.some.inj h
            refine retW_pure rfl ?_
            simp only [go_sem, Le]
          ·
            replace h := if_f h hb_6
            simp only [decide_eq_true_eq, decide_eq_false_iff_not, Bool.not_eq_true', Bool.not_eq_false', beq_iff_eq, beq_eq_false_iff_ne, ne_eq, Bool.and_eq_true, Bool.or_eq_true, Int.not_lt, Int.not_le] at hb_6
            refine vc_skip_of ?_
            refine seqQ_normal hQ14 ?_
            refine vc_seq_gen (by kernel_rfl) ?_
            intro QQ17 hQ17
            simp only [go_sem, Try.ntmps9, Try.results9]
            rcases hb_7 : (v_6.2 == 0) with _ | _
            ·
              replace h := if_f h hb_7
              simp only [go_sem, Try.ntmps9, Try.results9, hb_7]
              refine seqQ_normal hQ17 ?_
              refine vc_ret_of ?_
              simp only [go_sem, Try.ntmps9, Try.results9]
              obtain rfl := Option.some.inj h
              refine retW_pure rfl ?_
              simp only [go_sem, Le]
            ·
              replace h := if_t h hb_7
              obtain ⟨v_7, ev_7, h⟩ := bindO_some h
              simp only [go_sem, Try.ntmps9, Try.results9, hb_7]
              refine call0 (f_backwashref08_Same_ok g_0 v_6.1 v_7 ev_7) (by rfl) (by rfl) ?_
              simp only [go_sem, Try.ntmps9, Try.results9]
              refine seqQ_normal hQ17 ?_
              refine vc_ret_of ?_
              simp only [go_sem, Try.ntmps9, Try.results9]
              obtain rfl := Option.some.inj h
              refine retW_pure rfl ?_
              simp only [go_sem, Le]
end Go.Proofs.Ytngeldeahafcfaa

namespace Go.Proofs.Ytngeldeahafcfaa
open Go Go.RowKit
set_option maxHeartbeats 2000000
set_option maxRecDepth 100000
set_option linter.unusedSimpArgs false
set_option linter.unusedVariables false
def f_backwashlaw08_GraphCut (g_0 : GGraph) (atv_0 : Int) (more_0 : Int) : Option Bool :=
  bindO (f_backwashlaw08_awake) (fun (v_0 : Bool) =>
  (if (!v_0) = true then some false
  else bindO (f_backwashref08_Short g_0) (fun (v_1 : Bool) =>
  (if (!v_1) = true then some true
  else bindO (f_graph_Put g_0) (fun (v_2 : (List UInt8) × Int) =>
  (if ((((!(v_2.2 == 0)) || (decide (8192 ≤ (List.length v_2.1 : Int)))) || (decide (atv_0 < 0))) || (decide ((List.length v_2.1 : Int) ≤ atv_0))) = true then some true
  else guardO (0 ≤ 0 ∧ 0 ≤ atv_0 ∧ atv_0 ≤ (List.length v_2.1 : Int)) (
  bindO (f_graph_Read (List.take (Int.toNat atv_0) v_2.1)) (fun (v_3 : GGraph × Int) =>
  guardO ((List.length ([] : List UInt8) + List.length v_2.1) * 1 ≤ 140737488355328) (
  guardO (0 ≤ more_0 ∧ more_0 < 256) (
  guardO ((List.length (([] : List UInt8) ++ v_2.1) + List.length ([toB more_0] : List UInt8)) * 1 ≤ 140737488355328) (
  bindO (f_graph_Read ((([] : List UInt8) ++ v_2.1) ++ ([toB more_0] : List UInt8))) (fun (v_4 : GGraph × Int) =>
  some (((v_3.2 == 3) && ((List.length v_3.1.Parent : Int) == 0)) && (v_4.2 == 4))))))))))))))
theorem f_backwashlaw08_GraphCut_ok (g_0 : GGraph) (atv_0 : Int) (more_0 : Int)  (r : Bool) (h : f_backwashlaw08_GraphCut g_0 atv_0 more_0 = some r) : PureS Try.prog 10 [.agg [.sl 1 (enc g_0.Parent), .sl 1 (enc g_0.Bound), .sl 4 (enc g_0.Nodes), .sl 4 (enc g_0.Edges)], .v (.int .i64 atv_0), .v (.int .u8 more_0)] 0 (.v (.bool r)) := by
  unfold PureS
  refine Spec.of_vc Try.func10 rfl (by kernel_rfl) (by kernel_rfl) ?_
  rw [f_backwashlaw08_GraphCut] at h
  refine vc_seq_gen (by kernel_rfl) ?_
  intro QQ1 hQ1
  simp only [go_sem, Try.ntmps10, Try.results10]
  refine seqQ_normal hQ1 ?_
  refine vc_seq_gen (by kernel_rfl) ?_
  intro QQ2 hQ2
  refine vc_seq_gen (by kernel_rfl) ?_
  intro QQ3 hQ3
  obtain ⟨v_0, ev_0, h⟩ := bindO_some h
  simp only [go_sem, Try.ntmps10, Try.results10]
  refine call0 (f_backwashlaw08_awake_ok v_0 ev_0) (by rfl) (by rfl) ?_
  simp only [go_sem, Try.ntmps10, Try.results10]
  refine seqQ_normal hQ3 ?_
  refine vc_cond_of (b := (!v_0)) (by (simp only [go_sem]; done)) (fun hb_0 => ?_) (fun hb_0 => ?_)
  ·
    replace h := if_t h hb_0
    simp only [decide_eq_true_eq, decide_eq_false_iff_not, Bool.not_eq_true', Bool.not_eq_false', beq_iff_eq, beq_eq_false_iff_ne, ne_eq, Bool.and_eq_true, Bool.or_eq_true, Int.not_lt, Int.not_le] at hb_0
    refine vc_seq_gen (by kernel_rfl) ?_
    intro QQ4 hQ4
    simp only [go_sem, Try.ntmps10, Try.results10]
    refine seqQ_normal hQ4 ?_
    refine vc_ret_of ?_
    refine seqQ_ret hQ2 ?_
    simp only [go_sem, Try.ntmps10, Try.results10]
    obtain rfl := Option.some.inj h
    refine retW_pure rfl ?_
    simp only [go_sem, Le]
  ·
    replace h := if_f h hb_0
    simp only [decide_eq_true_eq, decide_eq_false_iff_not, Bool.not_eq_true', Bool.not_eq_false', beq_iff_eq, beq_eq_false_iff_ne, ne_eq, Bool.and_eq_true, Bool.or_eq_true, Int.not_lt, Int.not_le] at hb_0
    refine vc_skip_of ?_
    refine seqQ_normal hQ2 ?_
    refine vc_seq_gen (by kernel_rfl) ?_
    intro QQ5 hQ5
    refine vc_seq_gen (by kernel_rfl) ?_
    intro QQ6 hQ6
    obtain ⟨v_1, ev_1, h⟩ := bindO_some h
    simp only [go_sem, Try.ntmps10, Try.results10]
    refine call0 (f_backwashref08_Short_ok g_0 v_1 ev_1) (by rfl) (by rfl) ?_
    simp only [go_sem, Try.ntmps10, Try.results10]
    refine seqQ_normal hQ6 ?_
    refine vc_cond_of (b := (!v_1)) (by (simp only [go_sem]; done)) (fun hb_1 => ?_) (fun hb_1 => ?_)
    ·
      replace h := if_t h hb_1
      simp only [decide_eq_true_eq, decide_eq_false_iff_not, Bool.not_eq_true', Bool.not_eq_false', beq_iff_eq, beq_eq_false_iff_ne, ne_eq, Bool.and_eq_true, Bool.or_eq_true, Int.not_lt, Int.not_le] at hb_1
      refine vc_seq_gen (by kernel_rfl) ?_
      intro QQ7 hQ7
      simp only [go_sem, Try.ntmps10, Try.results10]
      refine seqQ_normal hQ7 ?_
      refine vc_ret_of ?_
      refine seqQ_ret hQ5 ?_
      simp only [go_sem, Try.ntmps10, Try.results10]
      obtain rfl := Option.some.inj h
      refine retW_pure rfl ?_
      simp only [go_sem, Le]
    ·
      replace h := if_f h hb_1
      simp only [decide_eq_true_eq, decide_eq_false_iff_not, Bool.not_eq_true', Bool.not_eq_false', beq_iff_eq, beq_eq_false_iff_ne, ne_eq, Bool.and_eq_true, Bool.or_eq_true, Int.not_lt, Int.not_le] at hb_1
      refine vc_skip_of ?_
      refine seqQ_normal hQ5 ?_
      refine vc_seq_gen (by kernel_rfl) ?_
      intro QQ8 hQ8
      obtain ⟨v_2, ev_2, h⟩ := bindO_some h
      simp only [go_sem, Try.ntmps10, Try.results10]
      refine call0 (f_graph_Put_ok g_0 v_2 ev_2) (by rfl) (by rfl) ?_
      simp only [go_sem, Try.ntmps10, Try.results10]
      refine seqQ_normal hQ8 ?_
      refine vc_seq_gen (by kernel_rfl) ?_
      intro QQ9 hQ9
      refine vc_seq_gen (by kernel_rfl) ?_
      intro QQ10 hQ10
      simp only [go_sem, Try.ntmps10, Try.results10]
      refine seqQ_normal hQ10 ?_
      refine vc_cond_of (b := ((((!(v_2.2 == 0)) || (decide (8192 ≤ (List.length v_2.1 : Int)))) || (decide (atv_0 < 0))) || (decide ((List.length v_2.1 : Int) ≤ atv_0)))) (by (simp only [go_sem]; done)) (fun hb_2 => ?_) (fun hb_2 => ?_)
      ·
        replace h := if_t h hb_2
        simp only [decide_eq_true_eq, decide_eq_false_iff_not, Bool.not_eq_true', Bool.not_eq_false', beq_iff_eq, beq_eq_false_iff_ne, ne_eq, Bool.and_eq_true, Bool.or_eq_true, Int.not_lt, Int.not_le] at hb_2
        refine vc_seq_gen (by kernel_rfl) ?_
        intro QQ11 hQ11
        simp only [go_sem, Try.ntmps10, Try.results10]
        refine seqQ_normal hQ11 ?_
        refine vc_ret_of ?_
        refine seqQ_ret hQ9 ?_
        simp only [go_sem, Try.ntmps10, Try.results10]
        obtain rfl := Option.some.inj h
        refine retW_pure rfl ?_
        simp only [go_sem, Le]
      ·
        replace h := if_f h hb_2
        refine vc_skip_of ?_
        refine seqQ_normal hQ9 ?_
        refine vc_seq_gen (by kernel_rfl) ?_
        intro QQ12 hQ12
        obtain ⟨g_1, h⟩ := guardO_some h
        obtain ⟨v_3, ev_3, h⟩ := bindO_some h
        simp only [go_sem, Try.ntmps10, Try.results10, g_1]
        refine call0 (f_graph_Read_ok (List.take (Int.toNat atv_0) v_2.1) v_3 ev_3) (by rfl) (by rfl) ?_
        simp only [go_sem, Try.ntmps10, Try.results10]
        refine seqQ_normal hQ12 ?_
        refine vc_seq_gen (by kernel_rfl) ?_
        intro QQ13 hQ13
        obtain ⟨g_2, h⟩ := guardO_some h
        simp only [List.length_cons, List.length_nil, Nat.zero_add, List.length_append] at g_2
        have rf_0 : enc ([] : List UInt8) ++ enc v_2.1 = enc (([] : List UInt8) ++ v_2.1) := by exact (enc_app ([] : List UInt8) v_2.1).symm
        obtain ⟨g_3, h⟩ := guardO_some h
        have rf_1 : [[.v (.int .u8 more_0)]] = enc ([toB more_0] : List UInt8) := by simp [enc, row_int, row_bool, row_u8, row_list, sz_int, sz_bool, sz_u8, sz_list, toB_nat _ g_3]
        obtain ⟨g_4, h⟩ := guardO_some h
        simp only [List.length_cons, List.length_nil, Nat.zero_add, List.length_append] at g_4
        have rf_2 : enc (([] : List UInt8) ++ v_2.1) ++ [[.v (.int .u8 more_0)]] = enc ((([] : List UInt8) ++ v_2.1) ++ ([toB more_0] : List UInt8)) := by (rw [rf_1]; exact (enc_app (([] : List UInt8) ++ v_2.1) ([toB more_0] : List UInt8)).symm)
        obtain ⟨v_4, ev_4, h⟩ := bindO_some h
        simp only [go_sem, Try.ntmps10, Try.results10, g_2, rf_0, g_3, g_4, rf_2]
        simp only [rf_1]
        refine callF_weak (s' := (⟨0, [(0, .agg [.sl 1 (enc g_0.Parent), .sl 1 (enc g_0.Bound), .sl 4 (enc g_0.Nodes), .sl 4 (enc g_0.Edges)]), (1, .v (.int .i64 atv_0)), (2, .v (.int .u8 more_0)), (3, .ptr 0 0), (6, .v (.bool false)), (7, .sl 1 (enc v_2.1)), (8, .v (.int .i64 v_2.2)), (9, .ptr 1 0), (10, .v (.int .i64 v_3.2)), (13, .v (.bool v_0)), (14, .v (.bool (!v_0))), (15, .agg [.sl 1 (enc g_0.Parent), .sl 1 (enc g_0.Bound), .sl 4 (enc g_0.Nodes), .sl 4 (enc g_0.Edges)]), (16, .v (.bool v_1)), (17, .v (.bool (!v_1))), (18, .tup [.sl 1 (enc v_2.1), .v (.int .i64 v_2.2)]), (19, .agg [.sl 1 (enc g_0.Parent), .sl 1 (enc g_0.Bound), .sl 4 (enc g_0.Nodes), .sl 4 (enc g_0.Edges)]), (20, .tup [.sl 1 (enc v_2.1), .v (.int .i64 v_2.2)]), (21, .sl 1 (enc v_2.1)), (22, .v (.int .i64 v_2.2)), (23, .v (.int .i64 v_2.2)), (24, .v (.bool (!(v_2.2 == 0)))), (25, .v (.bool (!(v_2.2 == 0)))), (29, .v (.bool ((!(v_2.2 == 0)) || (decide (8192 ≤ (List.length v_2.1 : Int)))))), (30, .v (.bool ((!(v_2.2 == 0)) || (decide (8192 ≤ (List.length v_2.1 : Int)))))), (33, .v (.bool (((!(v_2.2 == 0)) || (decide (8192 ≤ (List.length v_2.1 : Int)))) || (decide (atv_0 < 0))))), (34, .v (.bool (((!(v_2.2 == 0)) || (decide (8192 ≤ (List.length v_2.1 : Int)))) || (decide (atv_0 < 0))))), (39, .v (.bool ((((!(v_2.2 == 0)) || (decide (8192 ≤ (List.length v_2.1 : Int)))) || (decide (atv_0 < 0))) || (decide ((List.length v_2.1 : Int) ≤ atv_0))))), (40, .tup [.agg [.sl 1 (enc v_3.1.Parent), .sl 1 (enc v_3.1.Bound), .sl 4 (enc v_3.1.Nodes), .sl 4 (enc v_3.1.Edges)], .v (.int .i64 v_3.2)]), (41, .sl 1 (enc v_2.1)), (42, .v (.int .i64 atv_0)), (43, .sl 1 (enc (List.take (Int.toNat atv_0) v_2.1))), (44, .tup [.agg [.sl 1 (enc v_3.1.Parent), .sl 1 (enc v_3.1.Bound), .sl 4 (enc v_3.1.Nodes), .sl 4 (enc v_3.1.Edges)], .v (.int .i64 v_3.2)]), (45, .agg [.sl 1 (enc v_3.1.Parent), .sl 1 (enc v_3.1.Bound), .sl 4 (enc v_3.1.Nodes), .sl 4 (enc v_3.1.Edges)]), (46, .v (.int .i64 v_3.2)), (49, .sl 1 (enc v_2.1)), (51, .v (.int .u8 more_0)), (52, .osl 2 1 (0) (List.length ([toB more_0] : List UInt8))), (53, .sl 1 (enc ((([] : List UInt8) ++ v_2.1) ++ ([toB more_0] : List UInt8))))], [(0, .box [.sl 1 (enc g_0.Parent), .sl 1 (enc g_0.Bound), .sl 4 (enc g_0.Nodes), .sl 4 (enc g_0.Edges)]), (1, .box [.sl 1 (enc v_3.1.Parent), .sl 1 (enc v_3.1.Bound), .sl 4 (enc v_3.1.Nodes), .sl 4 (enc v_3.1.Edges)]), (2, .arr 1 (enc ([toB more_0] : List UInt8)))], 3, 69⟩ : St)) (l := [some 0, some 1, some 4]) (args' := [.sl 1 (enc ((([] : List UInt8) ++ v_2.1) ++ ([toB more_0] : List UInt8)))]) ?_ ?_ (call0 (f_graph_Read_ok ((([] : List UInt8) ++ v_2.1) ++ ([toB more_0] : List UInt8)) v_4 ev_4) (by rfl) (by rfl) ?_)
        · simp only [go_sem, Le] <;> (repeat' apply And.intro) <;> first | rfl | (simp [go_sem]; done) | (simp [enc]; rw [List.take_of_length_le (by simp)])
        · simp only [go_sem, Le] <;> (repeat' apply And.intro) <;> first | (simp [go_sem]; done) | (simp [enc]; rw [List.take_of_length_le (by simp)])
        simp only [go_sem, Try.ntmps10, Try.results10]
        refine seqQ_normal hQ13 ?_
        refine vc_seq_gen (by kernel_rfl) ?_
        intro QQ14 hQ14
        simp only [go_sem, Try.ntmps10, Try.results10]
        refine And.intro (by omega) ?_
        refine seqQ_normal hQ14 ?_
        refine vc_ret_of ?_
        simp only [go_sem, Try.ntmps10, Try.results10]
        obtain rfl := Option.some.inj h
        refine retW_pure rfl ?_
        simp only [go_sem, Le]
end Go.Proofs.Ytngeldeahafcfaa

namespace Go.Proofs.Ytngeldeahafcfaa
open Go Go.RowKit
set_option maxHeartbeats 2000000
set_option maxRecDepth 100000
set_option linter.unusedSimpArgs false
set_option linter.unusedVariables false
def f_backwashlaw08_GraphPuts (a_0 : GGraph) (b_0 : GGraph) : Option Bool :=
  bindO (f_backwashlaw08_awake) (fun (v_0 : Bool) =>
  (if (!v_0) = true then some false
  else bindO (f_backwashref08_Short a_0) (fun (v_1 : Bool) =>
  (if v_1 = true then bindO (f_backwashref08_Short b_0) (fun (v_2 : Bool) =>
  (if (!v_2) = true then some true
  else bindO (f_graph_Put a_0) (fun (v_3 : (List UInt8) × Int) =>
  bindO (f_backwashref08_Put a_0) (fun (v_4 : (List UInt8) × Int) =>
  bindO (f_backwashref06_Same v_3.1 v_4.1) (fun (v_5 : Bool) =>
  (if (v_5 && (v_3.2 == v_4.2)) = true then bindO (f_graph_Same a_0 b_0) (fun (v_6 : Bool) =>
  bindO (f_backwashref08_Same a_0 b_0) (fun (v_7 : Bool) =>
  some (v_6 == v_7)))
  else some false))))))
  else some true))))
theorem f_backwashlaw08_GraphPuts_ok (a_0 : GGraph) (b_0 : GGraph)  (r : Bool) (h : f_backwashlaw08_GraphPuts a_0 b_0 = some r) : PureS Try.prog 11 [.agg [.sl 1 (enc a_0.Parent), .sl 1 (enc a_0.Bound), .sl 4 (enc a_0.Nodes), .sl 4 (enc a_0.Edges)], .agg [.sl 1 (enc b_0.Parent), .sl 1 (enc b_0.Bound), .sl 4 (enc b_0.Nodes), .sl 4 (enc b_0.Edges)]] 0 (.v (.bool r)) := by
  unfold PureS
  refine Spec.of_vc Try.func11 rfl (by kernel_rfl) (by kernel_rfl) ?_
  rw [f_backwashlaw08_GraphPuts] at h
  refine vc_seq_gen (by kernel_rfl) ?_
  intro QQ1 hQ1
  simp only [go_sem, Try.ntmps11, Try.results11]
  refine seqQ_normal hQ1 ?_
  refine vc_seq_gen (by kernel_rfl) ?_
  intro QQ2 hQ2
  refine vc_seq_gen (by kernel_rfl) ?_
  intro QQ3 hQ3
  obtain ⟨v_0, ev_0, h⟩ := bindO_some h
  simp only [go_sem, Try.ntmps11, Try.results11]
  refine call0 (f_backwashlaw08_awake_ok v_0 ev_0) (by rfl) (by rfl) ?_
  simp only [go_sem, Try.ntmps11, Try.results11]
  refine seqQ_normal hQ3 ?_
  refine vc_cond_of (b := (!v_0)) (by (simp only [go_sem]; done)) (fun hb_0 => ?_) (fun hb_0 => ?_)
  ·
    replace h := if_t h hb_0
    simp only [decide_eq_true_eq, decide_eq_false_iff_not, Bool.not_eq_true', Bool.not_eq_false', beq_iff_eq, beq_eq_false_iff_ne, ne_eq, Bool.and_eq_true, Bool.or_eq_true, Int.not_lt, Int.not_le] at hb_0
    refine vc_seq_gen (by kernel_rfl) ?_
    intro QQ4 hQ4
    simp only [go_sem, Try.ntmps11, Try.results11]
    refine seqQ_normal hQ4 ?_
    refine vc_ret_of ?_
    refine seqQ_ret hQ2 ?_
    simp only [go_sem, Try.ntmps11, Try.results11]
    obtain rfl := Option.some.inj h
    refine retW_pure rfl ?_
    simp only [go_sem, Le]
  ·
    replace h := if_f h hb_0
    simp only [decide_eq_true_eq, decide_eq_false_iff_not, Bool.not_eq_true', Bool.not_eq_false', beq_iff_eq, beq_eq_false_iff_ne, ne_eq, Bool.and_eq_true, Bool.or_eq_true, Int.not_lt, Int.not_le] at hb_0
    refine vc_skip_of ?_
    refine seqQ_normal hQ2 ?_
    refine vc_seq_gen (by kernel_rfl) ?_
    intro QQ5 hQ5
    refine vc_seq_gen (by kernel_rfl) ?_
    intro QQ6 hQ6
    obtain ⟨v_1, ev_1, h⟩ := bindO_some h
    simp only [go_sem, Try.ntmps11, Try.results11]
    refine call0 (f_backwashref08_Short_ok a_0 v_1 ev_1) (by rfl) (by rfl) ?_
    simp only [go_sem, Try.ntmps11, Try.results11]
    rcases hb_1 : v_1 with _ | _
    ·
      replace h := if_f h hb_1
      simp only [go_sem, Try.ntmps11, Try.results11, hb_1]
      refine seqQ_normal hQ6 ?_
      refine vc_cond_t (by (simp only [go_sem]; done)) ?_
      refine vc_seq_gen (by kernel_rfl) ?_
      intro QQ7 hQ7
      simp only [go_sem, Try.ntmps11, Try.results11]
      refine seqQ_normal hQ7 ?_
      refine vc_ret_of ?_
      refine seqQ_ret hQ5 ?_
      simp only [go_sem, Try.ntmps11, Try.results11]
      obtain rfl := Option.some.inj h
      refine retW_pure rfl ?_
      simp only [go_sem, Le]
    ·
      replace h := if_t h hb_1
      obtain ⟨v_2, ev_2, h⟩ := bindO_some h
      simp only [go_sem, Try.ntmps11, Try.results11, hb_1]
      refine call0 (f_backwashref08_Short_ok b_0 v_2 ev_2) (by rfl) (by rfl) ?_
      simp only [go_sem, Try.ntmps11, Try.results11]
      refine seqQ_normal hQ6 ?_
      refine vc_cond_of (b := (!v_2)) (by (simp only [go_sem]; done)) (fun hb_2 => ?_) (fun hb_2 => ?_)
      ·
        replace h := if_t h hb_2
        simp only [decide_eq_true_eq, decide_eq_false_iff_not, Bool.not_eq_true', Bool.not_eq_false', beq_iff_eq, beq_eq_false_iff_ne, ne_eq, Bool.and_eq_true, Bool.or_eq_true, Int.not_lt, Int.not_le] at hb_2
        refine vc_seq_gen (by kernel_rfl) ?_
        intro QQ8 hQ8
        simp only [go_sem, Try.ntmps11, Try.results11]
        refine seqQ_normal hQ8 ?_
        refine vc_ret_of ?_
        refine seqQ_ret hQ5 ?_
        simp only [go_sem, Try.ntmps11, Try.results11]
        obtain rfl := Option.some.inj h
        refine retW_pure rfl ?_
        simp only [go_sem, Le]
      ·
        replace h := if_f h hb_2
        simp only [decide_eq_true_eq, decide_eq_false_iff_not, Bool.not_eq_true', Bool.not_eq_false', beq_iff_eq, beq_eq_false_iff_ne, ne_eq, Bool.and_eq_true, Bool.or_eq_true, Int.not_lt, Int.not_le] at hb_2
        refine vc_skip_of ?_
        refine seqQ_normal hQ5 ?_
        refine vc_seq_gen (by kernel_rfl) ?_
        intro QQ9 hQ9
        obtain ⟨v_3, ev_3, h⟩ := bindO_some h
        simp only [go_sem, Try.ntmps11, Try.results11]
        refine call0 (f_graph_Put_ok a_0 v_3 ev_3) (by rfl) (by rfl) ?_
        simp only [go_sem, Try.ntmps11, Try.results11]
        refine seqQ_normal hQ9 ?_
        refine vc_seq_gen (by kernel_rfl) ?_
        intro QQ10 hQ10
        obtain ⟨v_4, ev_4, h⟩ := bindO_some h
        simp only [go_sem, Try.ntmps11, Try.results11]
        refine call0 (f_backwashref08_Put_ok a_0 v_4 ev_4) (by rfl) (by rfl) ?_
        simp only [go_sem, Try.ntmps11, Try.results11]
        refine seqQ_normal hQ10 ?_
        refine vc_seq_gen (by kernel_rfl) ?_
        intro QQ11 hQ11
        refine vc_draw ?_
        refine drawM_tail 14 [0, 0, 3, 7, 15, 15, 63, 127, 255, 511, 511, 2047, 511, 511, 16383, 32767, 65535, 131071] mixed (by kernel_rfl) (of_decide_eq_true (by kernel_rfl)) (by kernel_rfl) ?_
        obtain ⟨v_5, ev_5, h⟩ := bindO_some h
        simp only [go_sem, Try.ntmps11, Try.results11]
        refine callq (fun _ => (f_backwashref06_Same_ok v_3.1 v_4.1 v_5 ev_5)) (by rfl) (by rfl) ?_
        simp only [go_sem, Try.ntmps11, Try.results11]
        rcases hb_3 : (v_5 && (v_3.2 == v_4.2)) with _ | _
        ·
          replace h := if_f h hb_3
          simp only [go_sem, Try.ntmps11, Try.results11, hb_3]
          refine seqQ_normal hQ11 ?_
          refine vc_ret_of ?_
          simp only [go_sem, Try.ntmps11, Try.results11]
          obtain rfl := Option.some.inj h
          refine retW_pure rfl ?_
          simp only [go_sem, Le]
        ·
          replace h := if_t h hb_3
          obtain ⟨v_6, ev_6, h⟩ := bindO_some h
          simp only [go_sem, Try.ntmps11, Try.results11, hb_3]
          refine callq (fun _ => (f_graph_Same_ok a_0 b_0 v_6 ev_6)) (by rfl) (by rfl) ?_
          obtain ⟨v_7, ev_7, h⟩ := bindO_some h
          simp only [go_sem, Try.ntmps11, Try.results11]
          refine call0 (f_backwashref08_Same_ok a_0 b_0 v_7 ev_7) (by rfl) (by rfl) ?_
          simp only [go_sem, Try.ntmps11, Try.results11]
          refine seqQ_normal hQ11 ?_
          refine vc_ret_of ?_
          simp only [go_sem, Try.ntmps11, Try.results11]
          obtain rfl := Option.some.inj h
          refine retW_pure rfl ?_
          simp only [go_sem, Le]
end Go.Proofs.Ytngeldeahafcfaa

