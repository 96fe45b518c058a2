/-
  What functions of the program compute, each told as a plain function that may give nothing, with the proof that the code does so. No condition beyond those that each theorem names.
-/
import Derived.Test.YtngeldeahafcfaaWalk0
set_option linter.unusedSimpArgs false
set_option linter.unusedVariables false
namespace Go.Proofs.Ytngeldeahafcfaa
open Go Go.RowKit
set_option maxHeartbeats 2000000
set_option maxRecDepth 100000
set_option linter.unusedSimpArgs false
set_option linter.unusedVariables false
def f_slices_IndexFunc_Ins_B1 (s_0 : List GIns) (f_0 : GIns → Option Bool) (rec_1 : Int → Option Int) : Int → Option Int :=
  fun t8_1 =>
  (if (decide (t8_1 < (List.length s_0 : Int))) = true then bindO (idx s_0 t8_1) (fun (xv_2 : GIns) =>
  bindO (f_0 xv_2) (fun (v_2 : Bool) =>
  (if v_2 = true then some t8_1
  else rec_1 (IntKind.i64.wrap (t8_1 + 1)))))
  else some (-1))
def f_slices_IndexFunc_Ins (s_0 : List GIns) (f_0 : GIns → Option Bool) : Option Int :=
  loopK (f_slices_IndexFunc_Ins_B1 s_0 f_0) rounds 0
theorem f_slices_IndexFunc_Ins_ok (s_0 : List GIns) (f_0 : GIns → Option Bool) (g_f_0 : FuncId) (c_f_0 : List AV) (F_f_0 : idFreeL c_f_0 = true) (E_f_0 : entB Try.prog g_f_0 = true) (H_f_0 : ∀ (x0 : GIns) (r : Bool), f_0 x0 = some r → PureS Try.prog g_f_0 ([.agg [.v (.int .i64 x0.Op), .v (.int .i64 x0.N)]] ++ c_f_0) 0 (.v (.bool r))) (r : Int) (h : f_slices_IndexFunc_Ins s_0 f_0 = some r) : PureS Try.prog 118 [.sl 2 (enc s_0), .clo g_f_0 c_f_0] 0 (.v (.int .i64 r)) := by
  unfold PureS
  refine Spec.of_vc Try.func118 rfl (by kernel_rfl) (by kernel_rfl) ?_
  rw [f_slices_IndexFunc_Ins] at h
  refine vc_seq_gen (by kernel_rfl) ?_
  intro QQ1 hQ1
  simp only [go_sem, Try.ntmps118, Try.results118]
  refine seqQ_normal hQ1 ?_
  refine vc_join (by kernel_rfl) ?_
  refine seq_go_gen ?_
  intro QQ2 hQ2
  refine vc_seq_gen (by kernel_rfl) ?_
  intro QQ3 hQ3
  simp only [go_sem, Try.ntmps118, Try.results118]
  refine seqQ_normal hQ3 ?_
  refine vc_block_gen ?_
  intro QQ4 hQ4
  refine vc_loop_of ?_
  refine loop_gen (ι := Nat × Int) (fun ((_, t8_1) : Nat × Int) => (⟨0, [(0, .sl 2 (enc s_0)), (1, .clo g_f_0 c_f_0), (7, .v (.int .i64 (List.length s_0 : Int))), (8, .v (.int .i64 t8_1))], [], 0, 19⟩ : St)) (fun ((n_, t8_1) : Nat × Int) => loopK (f_slices_IndexFunc_Ins_B1 s_0 f_0) n_ t8_1 = some r) (fun p => p.1) (rounds, 0) [] ?_ h ?_
  · simp only [go_sem, Le, AvLeL_free _ F_f_0]
  · rintro ⟨n_1, t8_1⟩ h QQ5 hQ5
    dsimp only at h
    replace h := loopK_some h
    obtain ⟨m_1, rfl, h⟩ := h
    rw [f_slices_IndexFunc_Ins_B1] at h
    refine vc_seq_gen (by kernel_rfl) ?_
    intro QQ6 hQ6
    simp only [go_sem, Try.ntmps118, Try.results118]
    refine seqQ_normal hQ6 ?_
    refine vc_seq_gen (by kernel_rfl) ?_
    intro QQ7 hQ7
    refine vc_cond_of (b := (decide (t8_1 < (List.length s_0 : Int)))) (by (simp only [go_sem]; done)) (fun hb_4 => ?_) (fun hb_4 => ?_)
    ·
      replace h := if_t h hb_4
      simp only [decide_eq_true_eq, decide_eq_false_iff_not, Bool.not_eq_true', Bool.not_eq_false', beq_iff_eq, beq_eq_false_iff_ne, ne_eq, Bool.and_eq_true, Bool.or_eq_true, Int.not_lt, Int.not_le] at hb_4
      refine vc_skip_of ?_
      refine seqQ_normal hQ7 ?_
      refine vc_seq_gen (by kernel_rfl) ?_
      intro QQ8 hQ8
      refine vc_block_gen ?_
      intro QQ9 hQ9
      refine vc_seq_gen (by kernel_rfl) ?_
      intro QQ10 hQ10
      simp only [go_sem, Try.ntmps118, Try.results118]
      refine seqQ_normal hQ10 ?_
      refine vc_seq_gen (by kernel_rfl) ?_
      intro QQ11 hQ11
      obtain ⟨xv_2, exv_2, h⟩ := bindO_some h
      obtain ⟨fxv_2a, fxv_2b, fxv_2c⟩ := idx_spec exv_2
      obtain ⟨v_2, ev_2, h⟩ := bindO_some h
      simp only [go_sem, Try.ntmps118, Try.results118, fxv_2a, fxv_2b, fxv_2c, E_f_0]
      refine And.intro (by omega) ?_
      refine call0 (H_f_0 xv_2 v_2 ev_2) (by rfl) (by simp [idFreeL, idFree, F_f_0]) ?_
      simp only [go_sem, Try.ntmps118, Try.results118]
      refine seqQ_normal hQ11 ?_
      refine vc_cond_of (b := v_2) (by (simp only [go_sem]; done)) (fun hb_5 => ?_) (fun hb_5 => ?_)
      ·
        replace h := if_t h hb_5
        refine vc_seq_gen (by kernel_rfl) ?_
        intro QQ12 hQ12
        simp only [go_sem, Try.ntmps118, Try.results118]
        refine seqQ_normal hQ12 ?_
        refine vc_ret_of ?_
        refine blockQ_ret hQ9 ?_
        refine seqQ_ret hQ8 ?_
        refine thenQ_ret hQ5 ?_
        refine blockQ_ret hQ4 ?_
        refine seqQ_ret hQ2 ?_
        simp only [go_sem, Try.ntmps118, Try.results118]
        obtain rfl := Option.some.inj h
        refine retW_pure rfl ?_
        simp only [go_sem, Le, AvLeL_free _ F_f_0]
      ·
        replace h := if_f h hb_5
        refine vc_skip_of ?_
        refine blockQ_normal hQ9 ?_
        refine seqQ_normal hQ8 ?_
        simp only [go_sem, Try.ntmps118, Try.results118]
        refine thenQ_normal hQ5 ?_
        refine ⟨(m_1, IntKind.i64.wrap (t8_1 + 1)), [], ?_, h, Nat.lt_succ_self _⟩
        simp only [go_sem, Le, AvLeL_free _ F_f_0]
    ·
      replace h := if_f h hb_4
      simp only [decide_eq_true_eq, decide_eq_false_iff_not, Bool.not_eq_true', Bool.not_eq_false', beq_iff_eq, beq_eq_false_iff_ne, ne_eq, Bool.and_eq_true, Bool.or_eq_true, Int.not_lt, Int.not_le] at hb_4
      refine vc_exit_of ?_
      refine seqQ_exit hQ7 ?_
      refine thenQ_exit hQ5 ?_
      refine blockQ_exit hQ4 ?_
      refine seqQ_normal hQ2 ?_
      refine vc_seq_gen (by kernel_rfl) ?_
      intro QQ13 hQ13
      simp only [go_sem, Try.ntmps118, Try.results118]
      refine seqQ_normal hQ13 ?_
      refine vc_ret_of ?_
      simp only [go_sem, Try.ntmps118, Try.results118]
      obtain rfl := Option.some.inj h
      refine retW_pure rfl ?_
      simp only [go_sem, Le, AvLeL_free _ F_f_0]
end Go.Proofs.Ytngeldeahafcfaa

namespace Go.Proofs.Ytngeldeahafcfaa
open Go Go.RowKit
set_option maxHeartbeats 2000000
set_option maxRecDepth 100000
set_option linter.unusedSimpArgs false
set_option linter.unusedVariables false
def f_slices_ContainsFunc_Ins (s_0 : List GIns) (f_0 : GIns → Option Bool) : Option Bool :=
  bindO (f_slices_IndexFunc_Ins s_0 f_0) (fun (v_0 : Int) =>
  some (decide (0 ≤ v_0)))
theorem f_slices_ContainsFunc_Ins_ok (s_0 : List GIns) (f_0 : GIns → Option Bool) (g_f_0 : FuncId) (c_f_0 : List AV) (F_f_0 : idFreeL c_f_0 = true) (E_f_0 : entB Try.prog g_f_0 = true) (H_f_0 : ∀ (x0 : GIns) (r : Bool), f_0 x0 = some r → PureS Try.prog g_f_0 ([.agg [.v (.int .i64 x0.Op), .v (.int .i64 x0.N)]] ++ c_f_0) 0 (.v (.bool r))) (r : Bool) (h : f_slices_ContainsFunc_Ins s_0 f_0 = some r) : PureS Try.prog 80 [.sl 2 (enc s_0), .clo g_f_0 c_f_0] 0 (.v (.bool r)) := by
  unfold PureS
  refine Spec.of_vc Try.func80 rfl (by kernel_rfl) (by kernel_rfl) ?_
  rw [f_slices_ContainsFunc_Ins] at h
  refine vc_seq_gen (by kernel_rfl) ?_
  intro QQ1 hQ1
  simp only [go_sem, Try.ntmps80, Try.results80]
  refine seqQ_normal hQ1 ?_
  refine vc_seq_gen (by kernel_rfl) ?_
  intro QQ2 hQ2
  obtain ⟨v_0, ev_0, h⟩ := bindO_some h
  simp only [go_sem, Try.ntmps80, Try.results80]
  refine call0 (f_slices_IndexFunc_Ins_ok s_0 f_0 g_f_0 c_f_0 F_f_0 E_f_0 H_f_0 v_0 ev_0) (by rfl) (by simp [idFreeL, idFree, F_f_0]) ?_
  simp only [go_sem, Try.ntmps80, Try.results80]
  refine seqQ_normal hQ2 ?_
  refine vc_ret_of ?_
  simp only [go_sem, Try.ntmps80, Try.results80]
  obtain rfl := Option.some.inj h
  refine retW_pure rfl ?_
  simp only [go_sem, Le, AvLeL_free _ F_f_0]
end Go.Proofs.Ytngeldeahafcfaa

namespace Go.Proofs.Ytngeldeahafcfaa
open Go Go.RowKit
set_option maxHeartbeats 2000000
set_option maxRecDepth 100000
set_option linter.unusedSimpArgs false
set_option linter.unusedVariables false
def f_graph_fits_1 (i_0 : GIns) : Option Bool :=
  bindO (f_graph_small ([i_0.Op] : List Int)) (fun (v_0 : Bool) =>
  some (!v_0))
theorem f_graph_fits_1_ok (i_0 : GIns)  (r : Bool) (h : f_graph_fits_1 i_0 = some r) : PureS Try.prog 81 [.agg [.v (.int .i64 i_0.Op), .v (.int .i64 i_0.N)]] 0 (.v (.bool r)) := by
  unfold PureS
  refine Spec.of_vc Try.func81 rfl (by kernel_rfl) (by kernel_rfl) ?_
  rw [f_graph_fits_1] at h
  refine vc_seq_gen (by kernel_rfl) ?_
  intro QQ1 hQ1
  simp only [go_sem, Try.ntmps81, Try.results81]
  refine seqQ_normal hQ1 ?_
  refine vc_seq_gen (by kernel_rfl) ?_
  intro QQ2 hQ2
  have rf_0 : [[.v (.int .i64 i_0.Op)]] = enc ([i_0.Op] : List Int) := by rfl
  obtain ⟨v_0, ev_0, h⟩ := bindO_some h
  simp only [go_sem, Try.ntmps81, Try.results81]
  simp only [rf_0]
  refine callF_weak (s' := (⟨0, [(0, .agg [.v (.int .i64 i_0.Op), .v (.int .i64 i_0.N)]), (1, .ptr 0 0), (2, .v (.bool false)), (3, .ptr 0 0), (4, .v (.int .i64 i_0.Op)), (5, .sl 1 (enc ([i_0.Op] : List Int)))], [(0, .box [.v (.int .i64 i_0.Op), .v (.int .i64 i_0.N)])], 1, 8⟩ : St)) (l := [some 0]) (args' := [.sl 1 (enc ([i_0.Op] : List Int))]) ?_ ?_ (call0 (f_graph_small_ok ([i_0.Op] : List Int) v_0 ev_0) (by rfl) (by rfl) ?_)
  · simp only [go_sem, Le] <;> (repeat' apply And.intro) <;> (simp [go_sem]; done)
  · simp only [go_sem, Le] <;> (repeat' apply And.intro) <;> (simp [go_sem]; done)
  simp only [go_sem, Try.ntmps81, Try.results81]
  refine seqQ_normal hQ2 ?_
  refine vc_ret_of ?_
  simp only [go_sem, Try.ntmps81, Try.results81]
  obtain rfl := Option.some.inj h
  refine retW_pure rfl ?_
  simp only [go_sem, Le]
end Go.Proofs.Ytngeldeahafcfaa

namespace Go.Proofs.Ytngeldeahafcfaa
open Go Go.RowKit
set_option maxHeartbeats 2000000
set_option maxRecDepth 100000
set_option linter.unusedSimpArgs false
set_option linter.unusedVariables false
def f_slices_IndexFunc_Edge_B1 (s_0 : List GEdge) (f_0 : GEdge → Option Bool) (rec_1 : Int → Option Int) : Int → Option Int :=
  fun t8_1 =>
  (if (decide (t8_1 < (List.length s_0 : Int))) = true then bindO (idx s_0 t8_1) (fun (xv_2 : GEdge) =>
  bindO (f_0 xv_2) (fun (v_2 : Bool) =>
  (if v_2 = true then some t8_1
  else rec_1 (IntKind.i64.wrap (t8_1 + 1)))))
  else some (-1))
def f_slices_IndexFunc_Edge (s_0 : List GEdge) (f_0 : GEdge → Option Bool) : Option Int :=
  loopK (f_slices_IndexFunc_Edge_B1 s_0 f_0) rounds 0
theorem f_slices_IndexFunc_Edge_ok (s_0 : List GEdge) (f_0 : GEdge → Option Bool) (g_f_0 : FuncId) (c_f_0 : List AV) (F_f_0 : idFreeL c_f_0 = true) (E_f_0 : entB Try.prog g_f_0 = true) (H_f_0 : ∀ (x0 : GEdge) (r : Bool), f_0 x0 = some r → PureS Try.prog g_f_0 ([.agg [.v (.int .i64 x0.From), .v (.int .i64 x0.To), .v (.int .i64 x0.Port), .v (.bool x0.Exchange)]] ++ c_f_0) 0 (.v (.bool r))) (r : Int) (h : f_slices_IndexFunc_Edge s_0 f_0 = some r) : PureS Try.prog 119 [.sl 4 (enc s_0), .clo g_f_0 c_f_0] 0 (.v (.int .i64 r)) := by
  unfold PureS
  refine Spec.of_vc Try.func119 rfl (by kernel_rfl) (by kernel_rfl) ?_
  rw [f_slices_IndexFunc_Edge] at h
  refine vc_seq_gen (by kernel_rfl) ?_
  intro QQ1 hQ1
  simp only [go_sem, Try.ntmps119, Try.results119]
  refine seqQ_normal hQ1 ?_
  refine vc_join (by kernel_rfl) ?_
  refine seq_go_gen ?_
  intro QQ2 hQ2
  refine vc_seq_gen (by kernel_rfl) ?_
  intro QQ3 hQ3
  simp only [go_sem, Try.ntmps119, Try.results119]
  refine seqQ_normal hQ3 ?_
  refine vc_block_gen ?_
  intro QQ4 hQ4
  refine vc_loop_of ?_
  refine loop_gen (ι := Nat × Int) (fun ((_, t8_1) : Nat × Int) => (⟨0, [(0, .sl 4 (enc s_0)), (1, .clo g_f_0 c_f_0), (7, .v (.int .i64 (List.length s_0 : Int))), (8, .v (.int .i64 t8_1))], [], 0, 19⟩ : St)) (fun ((n_, t8_1) : Nat × Int) => loopK (f_slices_IndexFunc_Edge_B1 s_0 f_0) n_ t8_1 = some r) (fun p => p.1) (rounds, 0) [] ?_ h ?_
  · simp only [go_sem, Le, AvLeL_free _ F_f_0]
  · rintro ⟨n_1, t8_1⟩ h QQ5 hQ5
    dsimp only at h
    replace h := loopK_some h
    obtain ⟨m_1, rfl, h⟩ := h
    rw [f_slices_IndexFunc_Edge_B1] at h
    refine vc_seq_gen (by kernel_rfl) ?_
    intro QQ6 hQ6
    simp only [go_sem, Try.ntmps119, Try.results119]
    refine seqQ_normal hQ6 ?_
    refine vc_seq_gen (by kernel_rfl) ?_
    intro QQ7 hQ7
    refine vc_cond_of (b := (decide (t8_1 < (List.length s_0 : Int)))) (by (simp only [go_sem]; done)) (fun hb_4 => ?_) (fun hb_4 => ?_)
    ·
      replace h := if_t h hb_4
      simp only [decide_eq_true_eq, decide_eq_false_iff_not, Bool.not_eq_true', Bool.not_eq_false', beq_iff_eq, beq_eq_false_iff_ne, ne_eq, Bool.and_eq_true, Bool.or_eq_true, Int.not_lt, Int.not_le] at hb_4
      refine vc_skip_of ?_
      refine seqQ_normal hQ7 ?_
      refine vc_seq_gen (by kernel_rfl) ?_
      intro QQ8 hQ8
      refine vc_block_gen ?_
      intro QQ9 hQ9
      refine vc_seq_gen (by kernel_rfl) ?_
      intro QQ10 hQ10
      simp only [go_sem, Try.ntmps119, Try.results119]
      refine seqQ_normal hQ10 ?_
      refine vc_seq_gen (by kernel_rfl) ?_
      intro QQ11 hQ11
      obtain ⟨xv_2, exv_2, h⟩ := bindO_some h
      obtain ⟨fxv_2a, fxv_2b, fxv_2c⟩ := idx_spec exv_2
      obtain ⟨v_2, ev_2, h⟩ := bindO_some h
      simp only [go_sem, Try.ntmps119, Try.results119, fxv_2a, fxv_2b, fxv_2c, E_f_0]
      refine And.intro (by omega) ?_
      refine call0 (H_f_0 xv_2 v_2 ev_2) (by rfl) (by simp [idFreeL, idFree, F_f_0]) ?_
      simp only [go_sem, Try.ntmps119, Try.results119]
      refine seqQ_normal hQ11 ?_
      refine vc_cond_of (b := v_2) (by (simp only [go_sem]; done)) (fun hb_5 => ?_) (fun hb_5 => ?_)
      ·
        replace h := if_t h hb_5
        refine vc_seq_gen (by kernel_rfl) ?_
        intro QQ12 hQ12
        simp only [go_sem, Try.ntmps119, Try.results119]
        refine seqQ_normal hQ12 ?_
        refine vc_ret_of ?_
        refine blockQ_ret hQ9 ?_
        refine seqQ_ret hQ8 ?_
        refine thenQ_ret hQ5 ?_
        refine blockQ_ret hQ4 ?_
        refine seqQ_ret hQ2 ?_
        simp only [go_sem, Try.ntmps119, Try.results119]
        obtain rfl := Option.some.inj h
        refine retW_pure rfl ?_
        simp only [go_sem, Le, AvLeL_free _ F_f_0]
      ·
        replace h := if_f h hb_5
        refine vc_skip_of ?_
        refine blockQ_normal hQ9 ?_
        refine seqQ_normal hQ8 ?_
        simp only [go_sem, Try.ntmps119, Try.results119]
        refine thenQ_normal hQ5 ?_
        refine ⟨(m_1, IntKind.i64.wrap (t8_1 + 1)), [], ?_, h, Nat.lt_succ_self _⟩
        simp only [go_sem, Le, AvLeL_free _ F_f_0]
    ·
      replace h := if_f h hb_4
      simp only [decide_eq_true_eq, decide_eq_false_iff_not, Bool.not_eq_true', Bool.not_eq_false', beq_iff_eq, beq_eq_false_iff_ne, ne_eq, Bool.and_eq_true, Bool.or_eq_true, Int.not_lt, Int.not_le] at hb_4
      refine vc_exit_of ?_
      refine seqQ_exit hQ7 ?_
      refine thenQ_exit hQ5 ?_
      refine blockQ_exit hQ4 ?_
      refine seqQ_normal hQ2 ?_
      refine vc_seq_gen (by kernel_rfl) ?_
      intro QQ13 hQ13
      simp only [go_sem, Try.ntmps119, Try.results119]
      refine seqQ_normal hQ13 ?_
      refine vc_ret_of ?_
      simp only [go_sem, Try.ntmps119, Try.results119]
      obtain rfl := Option.some.inj h
      refine retW_pure rfl ?_
      simp only [go_sem, Le, AvLeL_free _ F_f_0]
end Go.Proofs.Ytngeldeahafcfaa

namespace Go.Proofs.Ytngeldeahafcfaa
open Go Go.RowKit
set_option maxHeartbeats 2000000
set_option maxRecDepth 100000
set_option linter.unusedSimpArgs false
set_option linter.unusedVariables false
def f_slices_ContainsFunc_Edge (s_0 : List GEdge) (f_0 : GEdge → Option Bool) : Option Bool :=
  bindO (f_slices_IndexFunc_Edge s_0 f_0) (fun (v_0 : Int) =>
  some (decide (0 ≤ v_0)))
theorem f_slices_ContainsFunc_Edge_ok (s_0 : List GEdge) (f_0 : GEdge → Option Bool) (g_f_0 : FuncId) (c_f_0 : List AV) (F_f_0 : idFreeL c_f_0 = true) (E_f_0 : entB Try.prog g_f_0 = true) (H_f_0 : ∀ (x0 : GEdge) (r : Bool), f_0 x0 = some r → PureS Try.prog g_f_0 ([.agg [.v (.int .i64 x0.From), .v (.int .i64 x0.To), .v (.int .i64 x0.Port), .v (.bool x0.Exchange)]] ++ c_f_0) 0 (.v (.bool r))) (r : Bool) (h : f_slices_ContainsFunc_Edge s_0 f_0 = some r) : PureS Try.prog 82 [.sl 4 (enc s_0), .clo g_f_0 c_f_0] 0 (.v (.bool r)) := by
  unfold PureS
  refine Spec.of_vc Try.func82 rfl (by kernel_rfl) (by kernel_rfl) ?_
  rw [f_slices_ContainsFunc_Edge] at h
  refine vc_seq_gen (by kernel_rfl) ?_
  intro QQ1 hQ1
  simp only [go_sem, Try.ntmps82, Try.results82]
  refine seqQ_normal hQ1 ?_
  refine vc_seq_gen (by kernel_rfl) ?_
  intro QQ2 hQ2
  obtain ⟨v_0, ev_0, h⟩ := bindO_some h
  simp only [go_sem, Try.ntmps82, Try.results82]
  refine call0 (f_slices_IndexFunc_Edge_ok s_0 f_0 g_f_0 c_f_0 F_f_0 E_f_0 H_f_0 v_0 ev_0) (by rfl) (by simp [idFreeL, idFree, F_f_0]) ?_
  simp only [go_sem, Try.ntmps82, Try.results82]
  refine seqQ_normal hQ2 ?_
  refine vc_ret_of ?_
  simp only [go_sem, Try.ntmps82, Try.results82]
  obtain rfl := Option.some.inj h
  refine retW_pure rfl ?_
  simp only [go_sem, Le, AvLeL_free _ F_f_0]
end Go.Proofs.Ytngeldeahafcfaa

namespace Go.Proofs.Ytngeldeahafcfaa
open Go Go.RowKit
set_option maxHeartbeats 2000000
set_option maxRecDepth 100000
set_option linter.unusedSimpArgs false
set_option linter.unusedVariables false
def f_graph_fits_2 (e_0 : GEdge) : Option Bool :=
  bindO (f_graph_small ([e_0.From, e_0.To, e_0.Port] : List Int)) (fun (v_0 : Bool) =>
  some (!v_0))
theorem f_graph_fits_2_ok (e_0 : GEdge)  (r : Bool) (h : f_graph_fits_2 e_0 = some r) : PureS Try.prog 83 [.agg [.v (.int .i64 e_0.From), .v (.int .i64 e_0.To), .v (.int .i64 e_0.Port), .v (.bool e_0.Exchange)]] 0 (.v (.bool r)) := by
  unfold PureS
  refine Spec.of_vc Try.func83 rfl (by kernel_rfl) (by kernel_rfl) ?_
  rw [f_graph_fits_2] at h
  refine vc_seq_gen (by kernel_rfl) ?_
  intro QQ1 hQ1
  simp only [go_sem, Try.ntmps83, Try.results83]
  refine seqQ_normal hQ1 ?_
  refine vc_seq_gen (by kernel_rfl) ?_
  intro QQ2 hQ2
  have rf_0 : [[.v (.int .i64 e_0.From)], [.v (.int .i64 e_0.To)], [.v (.int .i64 e_0.Port)]] = enc ([e_0.From, e_0.To, e_0.Port] : List Int) := by rfl
  obtain ⟨v_0, ev_0, h⟩ := bindO_some h
  simp only [go_sem, Try.ntmps83, Try.results83]
  refine And.intro (by omega) ?_
  simp only [rf_0]
  refine callF_weak (s' := (⟨0, [(0, .agg [.v (.int .i64 e_0.From), .v (.int .i64 e_0.To), .v (.int .i64 e_0.Port), .v (.bool e_0.Exchange)]), (1, .ptr 0 0), (2, .v (.bool false)), (3, .ptr 0 0), (4, .v (.int .i64 e_0.From)), (5, .ptr 0 1), (6, .v (.int .i64 e_0.To)), (7, .ptr 0 2), (8, .v (.int .i64 e_0.Port)), (9, .sl 1 (enc ([e_0.From, e_0.To, e_0.Port] : List Int)))], [(0, .box [.v (.int .i64 e_0.From), .v (.int .i64 e_0.To), .v (.int .i64 e_0.Port), .v (.bool e_0.Exchange)])], 1, 12⟩ : St)) (l := [some 0]) (args' := [.sl 1 (enc ([e_0.From, e_0.To, e_0.Port] : List Int))]) ?_ ?_ (call0 (f_graph_small_ok ([e_0.From, e_0.To, e_0.Port] : List Int) v_0 ev_0) (by rfl) (by rfl) ?_)
  · simp only [go_sem, Le] <;> (repeat' apply And.intro) <;> (simp [go_sem]; done)
  · simp only [go_sem, Le] <;> (repeat' apply And.intro) <;> (simp [go_sem]; done)
  simp only [go_sem, Try.ntmps83, Try.results83]
  refine seqQ_normal hQ2 ?_
  refine vc_ret_of ?_
  simp only [go_sem, Try.ntmps83, Try.results83]
  obtain rfl := Option.some.inj h
  refine retW_pure rfl ?_
  simp only [go_sem, Le]
end Go.Proofs.Ytngeldeahafcfaa

namespace Go.Proofs.Ytngeldeahafcfaa
open Go Go.RowKit
set_option maxHeartbeats 2000000
set_option maxRecDepth 100000
set_option linter.unusedSimpArgs false
set_option linter.unusedVariables false
def f_graph_fits_J1 (g_0 : GGraph) : Option Bool :=
  bindO (f_slices_ContainsFunc_Edge g_0.Edges (fun x0_ => f_graph_fits_2 x0_)) (fun (v_8 : Bool) =>
  some (!v_8))
def f_graph_fits_B2 (g_0 : GGraph) (rec_2 : Int → Option Bool) : Int → Option Bool :=
  fun t62_3 =>
  (if (decide (t62_3 < (List.length g_0.Nodes : Int))) = true then bindO (idx g_0.Nodes t62_3) (fun (xv_7 : GNode) =>
  bindO (f_graph_small ([xv_7.Kind, xv_7.Scope] : List Int)) (fun (v_13 : Bool) =>
  (if ((!v_13) || (decide (64 < (List.length xv_7.Prog : Int)))) = true then some false
  else bindO (f_slices_ContainsFunc_Ins xv_7.Prog (fun x0_ => f_graph_fits_1 x0_)) (fun (v_14 : Bool) =>
  (if v_14 = true then some false
  else rec_2 (IntKind.i64.wrap (t62_3 + 1)))))))
  else f_graph_fits_J1 g_0)
def f_graph_fits (g_0 : GGraph) : Option Bool :=
  (if (((decide ((List.length g_0.Parent : Int) < 1)) || (decide (8 < (List.length g_0.Parent : Int)))) || (!((List.length g_0.Bound : Int) == (List.length g_0.Parent : Int)))) = true then some false
  else bindO (idx g_0.Parent 0) (fun (xv_0 : Int) =>
  (if (xv_0 == (-1)) = true then bindO (idx g_0.Bound 0) (fun (xv_1 : Int) =>
  (if (xv_1 == 0) = true then guardO (0 ≤ 1 ∧ 1 ≤ (List.length g_0.Parent : Int) ∧ (List.length g_0.Parent : Int) ≤ (List.length g_0.Parent : Int)) (
  bindO (f_graph_small (List.drop (Int.toNat 1) (List.take (List.length g_0.Parent) g_0.Parent))) (fun (v_0 : Bool) =>
  (if v_0 = true then bindO (f_graph_small g_0.Bound) (fun (v_1 : Bool) =>
  (if (!v_1) = true then some false
  else (if ((decide (32 < (List.length g_0.Nodes : Int))) || (decide (64 < (List.length g_0.Edges : Int)))) = true then some false
  else loopK (f_graph_fits_B2 g_0) rounds 0)))
  else some false)))
  else some false))
  else some false)))
theorem f_graph_fits_ok (g_0 : GGraph)  (r : Bool) (h : f_graph_fits g_0 = some r) : PureS Try.prog 54 [.agg [.sl 1 (enc g_0.Parent), .sl 1 (enc g_0.Bound), .sl 4 (enc g_0.Nodes), .sl 4 (enc g_0.Edges)]] 0 (.v (.bool r)) := by
  unfold PureS
  refine Spec.of_vc Try.func54 rfl (by kernel_rfl) (by kernel_rfl) ?_
  rw [f_graph_fits] at h
  refine vc_seq_gen (by kernel_rfl) ?_
  intro QQ1 hQ1
  simp only [go_sem, Try.ntmps54, Try.results54]
  refine seqQ_normal hQ1 ?_
  refine vc_seq_gen (by kernel_rfl) ?_
  intro QQ2 hQ2
  simp only [go_sem, Try.ntmps54, Try.results54]
  refine And.intro (by omega) ?_
  refine seqQ_normal hQ2 ?_
  refine vc_seq_gen (by kernel_rfl) ?_
  intro QQ3 hQ3
  refine vc_seq_gen (by kernel_rfl) ?_
  intro QQ4 hQ4
  simp only [go_sem, Try.ntmps54, Try.results54]
  refine And.intro (by (intros; (repeat' apply And.intro) <;> first | assumption | omega)) ?_
  rcases hb_0 : (((decide ((List.length g_0.Parent : Int) < 1)) || (decide (8 < (List.length g_0.Parent : Int)))) || (!((List.length g_0.Bound : Int) == (List.length g_0.Parent : Int)))) with _ | _
  ·
    replace h := if_f h hb_0
    obtain ⟨xv_0, exv_0, h⟩ := bindO_some h
    obtain ⟨fxv_0a, fxv_0b, fxv_0c⟩ := idx_spec exv_0
    simp only [Int.toNat_natCast, Int.reduceToNat] at fxv_0c
    simp only [go_sem, Try.ntmps54, Try.results54, hb_0, fxv_0a, fxv_0b, fxv_0c]
    refine And.intro (by omega) ?_
    rcases hb_1 : (xv_0 == (-1)) with _ | _
    ·
      replace h := if_f h hb_1
      simp only [go_sem, Try.ntmps54, Try.results54, hb_1]
      refine seqQ_normal hQ4 ?_
      refine vc_cond_t (by (simp only [go_sem]; done)) ?_
      refine vc_seq_gen (by kernel_rfl) ?_
      intro QQ5 hQ5
      simp only [go_sem, Try.ntmps54, Try.results54]
      refine seqQ_normal hQ5 ?_
      refine vc_ret_of ?_
      refine seqQ_ret hQ3 ?_
      simp only [go_sem, Try.ntmps54, Try.results54]
      obtain rfl := Option.some.inj h
      refine retW_pure rfl ?_
      simp only [go_sem, Le]
    ·
      replace h := if_t h hb_1
      obtain ⟨xv_1, exv_1, h⟩ := bindO_some h
      obtain ⟨fxv_1a, fxv_1b, fxv_1c⟩ := idx_spec exv_1
      simp only [Int.toNat_natCast, Int.reduceToNat] at fxv_1c
      simp only [go_sem, Try.ntmps54, Try.results54, hb_1, fxv_1a, fxv_1b, fxv_1c]
      refine And.intro (by omega) ?_
      refine And.intro (by omega) ?_
      rcases hb_2 : (xv_1 == 0) with _ | _
      ·
        replace h := if_f h hb_2
        simp only [go_sem, Try.ntmps54, Try.results54, hb_2]
        refine seqQ_normal hQ4 ?_
        refine vc_cond_t (by (simp only [go_sem]; done)) ?_
        refine vc_seq_gen (by kernel_rfl) ?_
        intro QQ6 hQ6
        simp only [go_sem, Try.ntmps54, Try.results54]
        refine seqQ_normal hQ6 ?_
        refine vc_ret_of ?_
        refine seqQ_ret hQ3 ?_
        simp only [go_sem, Try.ntmps54, Try.results54]
        obtain rfl := Option.some.inj h
        refine retW_pure rfl ?_
        simp only [go_sem, Le]
      ·
        replace h := if_t h hb_2
        obtain ⟨g_1, h⟩ := guardO_some h
        obtain ⟨v_0, ev_0, h⟩ := bindO_some h
        simp only [go_sem, Try.ntmps54, Try.results54, hb_2, g_1]
        refine call0 (f_graph_small_ok (List.drop (Int.toNat 1) (List.take (List.length g_0.Parent) g_0.Parent)) v_0 ev_0) (by rfl) (by rfl) ?_
        simp only [go_sem, Try.ntmps54, Try.results54]
        rcases hb_3 : v_0 with _ | _
        ·
          replace h := if_f h hb_3
          simp only [go_sem, Try.ntmps54, Try.results54, hb_3]
          refine seqQ_normal hQ4 ?_
          refine vc_cond_t (by (simp only [go_sem]; done)) ?_
          refine vc_seq_gen (by kernel_rfl) ?_
          intro QQ7 hQ7
          simp only [go_sem, Try.ntmps54, Try.results54]
          refine seqQ_normal hQ7 ?_
          refine vc_ret_of ?_
          refine seqQ_ret hQ3 ?_
          simp only [go_sem, Try.ntmps54, Try.results54]
          obtain rfl := Option.some.inj h
          refine retW_pure rfl ?_
          simp only [go_sem, Le]
        ·
          replace h := if_t h hb_3
          obtain ⟨v_1, ev_1, h⟩ := bindO_some h
          simp only [go_sem, Try.ntmps54, Try.results54, hb_3]
          refine call0 (f_graph_small_ok g_0.Bound v_1 ev_1) (by rfl) (by rfl) ?_
          simp only [go_sem, Try.ntmps54, Try.results54]
          refine seqQ_normal hQ4 ?_
          refine vc_cond_of (b := (!v_1)) (by (simp only [go_sem]; done)) (fun hb_4 => ?_) (fun hb_4 => ?_)
          ·
            replace h := if_t h hb_4
            simp only [decide_eq_true_eq, decide_eq_false_iff_not, Bool.not_eq_true', Bool.not_eq_false', beq_iff_eq, beq_eq_false_iff_ne, ne_eq, Bool.and_eq_true, Bool.or_eq_true, Int.not_lt, Int.not_le] at hb_4
            refine vc_seq_gen (by kernel_rfl) ?_
            intro QQ8 hQ8
            simp only [go_sem, Try.ntmps54, Try.results54]
            refine seqQ_normal hQ8 ?_
            refine vc_ret_of ?_
            refine seqQ_ret hQ3 ?_
            simp only [go_sem, Try.ntmps54, Try.results54]
            obtain rfl := Option.some.inj h
            refine retW_pure rfl ?_
            simp only [go_sem, Le]
          ·
            replace h := if_f h hb_4
            simp only [decide_eq_true_eq, decide_eq_false_iff_not, Bool.not_eq_true', Bool.not_eq_false', beq_iff_eq, beq_eq_false_iff_ne, ne_eq, Bool.and_eq_true, Bool.or_eq_true, Int.not_lt, Int.not_le] at hb_4
            refine vc_skip_of ?_
            refine seqQ_normal hQ3 ?_
            refine vc_seq_gen (by kernel_rfl) ?_
            intro QQ9 hQ9
            refine vc_seq_gen (by kernel_rfl) ?_
            intro QQ10 hQ10
            simp only [go_sem, Try.ntmps54, Try.results54]
            refine seqQ_normal hQ10 ?_
            refine vc_cond_of (b := ((decide (32 < (List.length g_0.Nodes : Int))) || (decide (64 < (List.length g_0.Edges : Int))))) (by (simp only [go_sem]; done)) (fun hb_5 => ?_) (fun hb_5 => ?_)
            ·
              replace h := if_t h hb_5
              simp only [decide_eq_true_eq, decide_eq_false_iff_not, Bool.not_eq_true', Bool.not_eq_false', beq_iff_eq, beq_eq_false_iff_ne, ne_eq, Bool.and_eq_true, Bool.or_eq_true, Int.not_lt, Int.not_le] at hb_5
              refine vc_seq_gen (by kernel_rfl) ?_
              intro QQ11 hQ11
              simp only [go_sem, Try.ntmps54, Try.results54]
              refine seqQ_normal hQ11 ?_
              refine vc_ret_of ?_
              refine seqQ_ret hQ9 ?_
              simp only [go_sem, Try.ntmps54, Try.results54]
              obtain rfl := Option.some.inj h
              refine retW_pure rfl ?_
              simp only [go_sem, Le]
            ·
              replace h := if_f h hb_5
              refine vc_skip_of ?_
              refine seqQ_normal hQ9 ?_
              refine vc_join (by kernel_rfl) ?_
              refine seq_cut_gen (ι := Unit) (fun (_ : Unit) => (⟨0, [(1, .ptr 0 0)], [(0, .box [.sl 1 (enc g_0.Parent), .sl 1 (enc g_0.Bound), .sl 4 (enc g_0.Nodes), .sl 4 (enc g_0.Edges)])], 1, 89⟩ : St)) (fun (_ : Unit) => f_graph_fits_J1 g_0 = some r) ?_ ?_
              ·
                intro QQ13 hQ13
                refine vc_seq_gen (by kernel_rfl) ?_
                intro QQ14 hQ14
                simp only [go_sem, Try.ntmps54, Try.results54]
                refine seqQ_normal hQ14 ?_
                refine vc_block_gen ?_
                intro QQ15 hQ15
                refine vc_loop_of ?_
                refine loop_gen (ι := Nat × Int) (fun ((_, t62_3) : Nat × Int) => (⟨0, [(1, .ptr 0 0), (60, .sl 4 (enc g_0.Nodes)), (61, .v (.int .i64 (List.length g_0.Nodes : Int))), (62, .v (.int .i64 t62_3))], [(0, .box [.sl 1 (enc g_0.Parent), .sl 1 (enc g_0.Bound), .sl 4 (enc g_0.Nodes), .sl 4 (enc g_0.Edges)])], 1, 89⟩ : St)) (fun ((n_, t62_3) : Nat × Int) => loopK (f_graph_fits_B2 g_0) n_ t62_3 = some r) (fun p => p.1) (rounds, 0) [some 0] ?_ h ?_
                · simp only [go_sem, Le]
                · rintro ⟨n_2, t62_3⟩ h QQ16 hQ16
                  dsimp only at h
                  replace h := loopK_some h
                  obtain ⟨m_2, rfl, h⟩ := h
                  rw [f_graph_fits_B2] at h
                  refine vc_seq_gen (by kernel_rfl) ?_
                  intro QQ17 hQ17
                  simp only [go_sem, Try.ntmps54, Try.results54]
                  refine seqQ_normal hQ17 ?_
                  refine vc_seq_gen (by kernel_rfl) ?_
                  intro QQ18 hQ18
                  refine vc_cond_of (b := (decide (t62_3 < (List.length g_0.Nodes : Int)))) (by (simp only [go_sem]; done)) (fun hb_21 => ?_) (fun hb_21 => ?_)
                  ·
                    replace h := if_t h hb_21
                    simp only [decide_eq_true_eq, decide_eq_false_iff_not, Bool.not_eq_true', Bool.not_eq_false', beq_iff_eq, beq_eq_false_iff_ne, ne_eq, Bool.and_eq_true, Bool.or_eq_true, Int.not_lt, Int.not_le] at hb_21
                    refine vc_skip_of ?_
                    refine seqQ_normal hQ18 ?_
                    refine vc_seq_gen (by kernel_rfl) ?_
                    intro QQ19 hQ19
                    refine vc_block_gen ?_
                    intro QQ20 hQ20
                    refine vc_seq_gen (by kernel_rfl) ?_
                    intro QQ21 hQ21
                    obtain ⟨xv_7, exv_7, h⟩ := bindO_some h
                    obtain ⟨fxv_7a, fxv_7b, fxv_7c⟩ := idx_spec exv_7
                    simp only [go_sem, Try.ntmps54, Try.results54, fxv_7a, fxv_7b, fxv_7c]
                    refine And.intro (by omega) ?_
                    refine seqQ_normal hQ21 ?_
                    refine vc_seq_gen (by kernel_rfl) ?_
                    intro QQ22 hQ22
                    have rf_5 : [[.v (.int .i64 xv_7.Kind)], [.v (.int .i64 xv_7.Scope)]] = enc ([xv_7.Kind, xv_7.Scope] : List Int) := by rfl
                    obtain ⟨v_13, ev_13, h⟩ := bindO_some h
                    simp only [go_sem, Try.ntmps54, Try.results54]
                    refine And.intro (by omega) ?_
                    simp only [rf_5]
                    refine callF_weak (s' := (⟨0, [(1, .ptr 0 0), (5, .ptr 1 0), (60, .sl 4 (enc g_0.Nodes)), (61, .v (.int .i64 (List.length g_0.Nodes : Int))), (62, .v (.int .i64 t62_3)), (63, .v (.bool (decide (t62_3 < (List.length g_0.Nodes : Int))))), (64, .el 4 (enc g_0.Nodes) (Int.toNat t62_3) 0), (65, .agg [.v (.int .i64 xv_7.Kind), .v (.int .i64 xv_7.Scope), .v (.int .i64 xv_7.Arg), .sl 2 (enc xv_7.Prog)]), (66, .ptr 1 0), (67, .v (.int .i64 xv_7.Kind)), (68, .ptr 1 1), (69, .v (.int .i64 xv_7.Scope)), (70, .sl 1 (enc ([xv_7.Kind, xv_7.Scope] : List Int)))], [(0, .box [.sl 1 (enc g_0.Parent), .sl 1 (enc g_0.Bound), .sl 4 (enc g_0.Nodes), .sl 4 (enc g_0.Edges)]), (1, .box [.v (.int .i64 xv_7.Kind), .v (.int .i64 xv_7.Scope), .v (.int .i64 xv_7.Arg), .sl 2 (enc xv_7.Prog)])], 2, 89⟩ : St)) (l := [some 0, some 1]) (args' := [.sl 1 (enc ([xv_7.Kind, xv_7.Scope] : List Int))]) ?_ ?_ (call0 (f_graph_small_ok ([xv_7.Kind, xv_7.Scope] : List Int) v_13 ev_13) (by rfl) (by rfl) ?_)
                    · simp only [go_sem, Le] <;> (repeat' apply And.intro) <;> first | rfl | (simp [go_sem]; done) | (simp [enc_len, enc]; omega)
                    · simp only [go_sem, Le] <;> (repeat' apply And.intro) <;> (simp [go_sem]; done)
                    simp only [go_sem, Try.ntmps54, Try.results54]
                    rcases hb_22 : ((!v_13) || (decide (64 < (List.length xv_7.Prog : Int)))) with _ | _
                    ·
                      replace h := if_f h hb_22
                      obtain ⟨v_14, ev_14, h⟩ := bindO_some h
                      simp only [go_sem, Try.ntmps54, Try.results54, hb_22]
                      refine call0 (f_slices_ContainsFunc_Ins_ok xv_7.Prog (fun x0_ => f_graph_fits_1 x0_) 81 [] (by rfl) (by kernel_rfl) (fun y0 r_ e_ => f_graph_fits_1_ok y0 r_ e_) v_14 ev_14) (by rfl) (by rfl) ?_
                      simp only [go_sem, Try.ntmps54, Try.results54]
                      refine seqQ_normal hQ22 ?_
                      refine vc_cond_of (b := v_14) (by (simp only [go_sem]; done)) (fun hb_23 => ?_) (fun hb_23 => ?_)
                      ·
                        replace h := if_t h hb_23
                        refine vc_seq_gen (by kernel_rfl) ?_
                        intro QQ23 hQ23
                        simp only [go_sem, Try.ntmps54, Try.results54]
                        refine seqQ_normal hQ23 ?_
                        refine vc_ret_of ?_
                        refine blockQ_ret hQ20 ?_
                        refine seqQ_ret hQ19 ?_
                        refine thenQ_ret hQ16 ?_
                        refine blockQ_ret hQ15 ?_
                        refine thenQ_ret hQ13 ?_
                        simp only [go_sem, Try.ntmps54, Try.results54]
                        obtain rfl := Option.some.inj h
                        refine retW_pure rfl ?_
                        simp only [go_sem, Le]
                      ·
                        replace h := if_f h hb_23
                        refine vc_skip_of ?_
                        refine blockQ_normal hQ20 ?_
                        refine seqQ_normal hQ19 ?_
                        simp only [go_sem, Try.ntmps54, Try.results54]
                        refine thenQ_normal hQ16 ?_
                        refine ⟨(m_2, IntKind.i64.wrap (t62_3 + 1)), [some 0], ?_, h, Nat.lt_succ_self _⟩
                        simp only [go_sem, Le]
                    ·
                      replace h := if_t h hb_22
                      simp only [go_sem, Try.ntmps54, Try.results54, hb_22]
                      refine seqQ_normal hQ22 ?_
                      refine vc_cond_t (by (simp only [go_sem]; done)) ?_
                      refine vc_seq_gen (by kernel_rfl) ?_
                      intro QQ24 hQ24
                      simp only [go_sem, Try.ntmps54, Try.results54]
                      refine seqQ_normal hQ24 ?_
                      refine vc_ret_of ?_
                      refine blockQ_ret hQ20 ?_
                      refine seqQ_ret hQ19 ?_
                      refine thenQ_ret hQ16 ?_
                      refine blockQ_ret hQ15 ?_
                      refine thenQ_ret hQ13 ?_
                      simp only [go_sem, Try.ntmps54, Try.results54]
                      obtain rfl := Option.some.inj h
                      refine retW_pure rfl ?_
                      simp only [go_sem, Le]
                  ·
                    replace h := if_f h hb_21
                    simp only [decide_eq_true_eq, decide_eq_false_iff_not, Bool.not_eq_true', Bool.not_eq_false', beq_iff_eq, beq_eq_false_iff_ne, ne_eq, Bool.and_eq_true, Bool.or_eq_true, Int.not_lt, Int.not_le] at hb_21
                    refine vc_exit_of ?_
                    refine seqQ_exit hQ18 ?_
                    refine thenQ_exit hQ16 ?_
                    refine blockQ_exit hQ15 ?_
                    refine thenQ_normal hQ13 ?_
                    refine ⟨(), [some 0], ?_, h⟩
                    simp only [go_sem, Le]
              · rintro ⟨⟩ h
                try dsimp only at h
                rw [f_graph_fits_J1] at h
                refine vc_seq_gen (by kernel_rfl) ?_
                intro QQ12 hQ12
                obtain ⟨v_8, ev_8, h⟩ := bindO_some h
                simp only [go_sem, Try.ntmps54, Try.results54]
                refine call0 (f_slices_ContainsFunc_Edge_ok g_0.Edges (fun x0_ => f_graph_fits_2 x0_) 83 [] (by rfl) (by kernel_rfl) (fun y0 r_ e_ => f_graph_fits_2_ok y0 r_ e_) v_8 ev_8) (by rfl) (by rfl) ?_
                simp only [go_sem, Try.ntmps54, Try.results54]
                refine seqQ_normal hQ12 ?_
                refine vc_ret_of ?_
                simp only [go_sem, Try.ntmps54, Try.results54]
                obtain rfl := Option.some.inj h
                refine retW_pure rfl ?_
                simp only [go_sem, Le]
  ·
    replace h := if_t h hb_0
    simp only [go_sem, Try.ntmps54, Try.results54, hb_0]
    refine seqQ_normal hQ4 ?_
    refine vc_cond_t (by (simp only [go_sem]; done)) ?_
    refine vc_seq_gen (by kernel_rfl) ?_
    intro QQ25 hQ25
    simp only [go_sem, Try.ntmps54, Try.results54]
    refine seqQ_normal hQ25 ?_
    refine vc_ret_of ?_
    refine seqQ_ret hQ3 ?_
    simp only [go_sem, Try.ntmps54, Try.results54]
    obtain rfl := Option.some.inj h
    refine retW_pure rfl ?_
    simp only [go_sem, Le]
end Go.Proofs.Ytngeldeahafcfaa

namespace Go.Proofs.Ytngeldeahafcfaa
open Go Go.RowKit
set_option maxHeartbeats 2000000
set_option maxRecDepth 100000
set_option linter.unusedSimpArgs false
set_option linter.unusedVariables false
def f_graph_writer_add_B1 (l_0 : List Int) (rec_1 : Int × (List UInt8) → Option GGraph_writer) : Int × (List UInt8) → Option GGraph_writer :=
  fun (t8_1, b_1) =>
  (if (decide (t8_1 < (List.length l_0 : Int))) = true then bindO (idx l_0 t8_1) (fun (xv_2 : Int) =>
  bindO (f_wire_Uint b_1 (IntKind.u64.wrap xv_2)) (fun (v_2 : List UInt8) =>
  rec_1 (IntKind.i64.wrap (t8_1 + 1), v_2)))
  else some (⟨b_1⟩ : GGraph_writer))
def f_graph_writer_add (w_0 : GGraph_writer) (l_0 : List Int) : Option GGraph_writer :=
  loopK (f_graph_writer_add_B1 l_0) rounds (0, w_0.b)
theorem f_graph_writer_add_ok (w_0 : GGraph_writer) (l_0 : List Int)  (r : GGraph_writer) (h : f_graph_writer_add w_0 l_0 = some r) : MutS Try.prog 55 (fun i_ => [.ptr i_ 0, .sl 1 (enc l_0)]) [.sl 1 (enc w_0.b)] (.tup []) [.sl 1 (enc r.b)] := by
  unfold MutS; dsimp only
  refine Spec.of_vc Try.func55 rfl (by kernel_rfl) (by kernel_rfl) ?_
  rw [f_graph_writer_add] at h
  refine vc_seq_gen (by kernel_rfl) ?_
  intro QQ1 hQ1
  simp only [go_sem, Try.ntmps55, Try.results55]
  refine seqQ_normal hQ1 ?_
  refine vc_block_gen ?_
  intro QQ2 hQ2
  refine vc_loop_of ?_
  refine loop_gen (ι := Nat × Int × (List UInt8)) (fun ((_, t8_1, b_1) : Nat × Int × (List UInt8)) => (⟨1, [(0, .ptr 0 0), (6, .sl 1 (enc l_0)), (7, .v (.int .i64 (List.length l_0 : Int))), (8, .v (.int .i64 t8_1))], [(0, .box [.sl 1 (enc b_1)])], 1, 23⟩ : St)) (fun ((n_, t8_1, b_1) : Nat × Int × (List UInt8)) => loopK (f_graph_writer_add_B1 l_0) n_ (t8_1, b_1) = some r) (fun p => p.1) (rounds, 0, w_0.b) [] ?_ h ?_
  · simp only [go_sem, Le]
  · rintro ⟨n_1, t8_1, b_1⟩ h QQ3 hQ3
    dsimp only at h
    replace h := loopK_some h
    obtain ⟨m_1, rfl, h⟩ := h
    rw [f_graph_writer_add_B1] at h
    refine vc_seq_gen (by kernel_rfl) ?_
    intro QQ4 hQ4
    simp only [go_sem, Try.ntmps55, Try.results55]
    refine seqQ_normal hQ4 ?_
    refine vc_seq_gen (by kernel_rfl) ?_
    intro QQ5 hQ5
    refine vc_cond_of (b := (decide (t8_1 < (List.length l_0 : Int)))) (by (simp only [go_sem]; done)) (fun hb_2 => ?_) (fun hb_2 => ?_)
    ·
      replace h := if_t h hb_2
      simp only [decide_eq_true_eq, decide_eq_false_iff_not, Bool.not_eq_true', Bool.not_eq_false', beq_iff_eq, beq_eq_false_iff_ne, ne_eq, Bool.and_eq_true, Bool.or_eq_true, Int.not_lt, Int.not_le] at hb_2
      refine vc_skip_of ?_
      refine seqQ_normal hQ5 ?_
      refine vc_seq_gen (by kernel_rfl) ?_
      intro QQ6 hQ6
      refine vc_block_gen ?_
      intro QQ7 hQ7
      refine vc_seq_gen (by kernel_rfl) ?_
      intro QQ8 hQ8
      obtain ⟨xv_2, exv_2, h⟩ := bindO_some h
      obtain ⟨fxv_2a, fxv_2b, fxv_2c⟩ := idx_spec exv_2
      simp only [go_sem, Try.ntmps55, Try.results55, fxv_2a, fxv_2b, fxv_2c]
      refine And.intro (by omega) ?_
      refine seqQ_normal hQ8 ?_
      obtain ⟨v_2, ev_2, h⟩ := bindO_some h
      simp only [go_sem, Try.ntmps55, Try.results55]
      refine callo (f_wire_Uint_own b_1 (IntKind.u64.wrap xv_2) v_2 ev_2) (by rfl) (by rfl) ?_
      simp only [go_sem, Try.ntmps55, Try.results55]
      refine blockQ_normal hQ7 ?_
      refine seqQ_normal hQ6 ?_
      simp only [go_sem, Try.ntmps55, Try.results55]
      refine thenQ_normal hQ3 ?_
      refine ⟨(m_1, IntKind.i64.wrap (t8_1 + 1), v_2), [], ?_, h, Nat.lt_succ_self _⟩
      simp only [go_sem, Le] <;> (repeat' apply And.intro) <;> (simp [go_sem]; done)
    ·
      replace h := if_f h hb_2
      simp only [decide_eq_true_eq, decide_eq_false_iff_not, Bool.not_eq_true', Bool.not_eq_false', beq_iff_eq, beq_eq_false_iff_ne, ne_eq, Bool.and_eq_true, Bool.or_eq_true, Int.not_lt, Int.not_le] at hb_2
      refine vc_exit_of ?_
      refine seqQ_exit hQ5 ?_
      refine thenQ_exit hQ3 ?_
      refine blockQ_exit hQ2 ?_
      simp only [go_sem, Try.ntmps55, Try.results55]
      obtain rfl := Option.some.inj h
      refine retW_mut rfl ?_
      simp only [go_sem, Le]
end Go.Proofs.Ytngeldeahafcfaa

namespace Go.Proofs.Ytngeldeahafcfaa
open Go Go.RowKit
set_option maxHeartbeats 2000000
set_option maxRecDepth 100000
set_option linter.unusedSimpArgs false
set_option linter.unusedVariables false
def f_graph_writer_sign (w_0 : GGraph_writer) (nv_0 : Int) : Option GGraph_writer :=
  bindO (f_wire_Int w_0.b nv_0) (fun (v_0 : List UInt8) =>
  some (⟨v_0⟩ : GGraph_writer))
theorem f_graph_writer_sign_ok (w_0 : GGraph_writer) (nv_0 : Int)  (r : GGraph_writer) (h : f_graph_writer_sign w_0 nv_0 = some r) : MutS Try.prog 56 (fun i_ => [.ptr i_ 0, .v (.int .i64 nv_0)]) [.sl 1 (enc w_0.b)] (.tup []) [.sl 1 (enc r.b)] := by
  unfold MutS; dsimp only
  refine Spec.of_vc Try.func56 rfl (by kernel_rfl) (by kernel_rfl) ?_
  rw [f_graph_writer_sign] at h
  obtain ⟨v_0, ev_0, h⟩ := bindO_some h
  simp only [go_sem, Try.ntmps56, Try.results56]
  refine callo (f_wire_Int_own w_0.b nv_0 v_0 ev_0) (by rfl) (by rfl) ?_
  simp only [go_sem, Try.ntmps56, Try.results56]
  obtain rfl := Option.some.inj h
  refine retW_mut rfl ?_
  simp only [go_sem, Le] <;> (repeat' apply And.intro) <;> (simp [go_sem]; done)
end Go.Proofs.Ytngeldeahafcfaa

namespace Go.Proofs.Ytngeldeahafcfaa
open Go Go.RowKit
set_option maxHeartbeats 2000000
set_option maxRecDepth 100000
set_option linter.unusedSimpArgs false
set_option linter.unusedVariables false
def f_graph_Put_J4 (t106_1 : Int) (b_13 : GGraph_writer) (rec_3 : (Int × GGraph_writer → Option ((List UInt8) × Int))) (xv_20 : GEdge) (flag_2 : Int) : Option ((List UInt8) × Int) :=
  bindO (f_graph_writer_add b_13 ([xv_20.From, xv_20.To, xv_20.Port, flag_2] : List Int)) (fun (v_36 : GGraph_writer) =>
  rec_3 (IntKind.i64.wrap (t106_1 + 1), v_36))
def f_graph_Put_B3 (g_0 : GGraph) (rec_3 : Int × GGraph_writer → Option ((List UInt8) × Int)) : Int × GGraph_writer → Option ((List UInt8) × Int) :=
  fun (t106_1, b_13) =>
  (if (decide (t106_1 < (List.length g_0.Edges : Int))) = true then bindO (idx g_0.Edges t106_1) (fun (xv_20 : GEdge) =>
  (if xv_20.Exchange = true then f_graph_Put_J4 t106_1 b_13 rec_3 xv_20 1
  else f_graph_Put_J4 t106_1 b_13 rec_3 xv_20 0))
  else some (b_13.b, 0))
def f_graph_Put_J2 (g_0 : GGraph) (b_11 : GGraph_writer) : Option ((List UInt8) × Int) :=
  bindO (f_graph_writer_add b_11 ([(List.length g_0.Edges : Int)] : List Int)) (fun (v_33 : GGraph_writer) =>
  loopK (f_graph_Put_B3 g_0) rounds (0, v_33))
def f_graph_Put_B6 (t58_3 : Int) (rec_5 : (Int × GGraph_writer → Option ((List UInt8) × Int))) (xv_29 : GNode) (rec_6 : Int × GGraph_writer → Option ((List UInt8) × Int)) : Int × GGraph_writer → Option ((List UInt8) × Int) :=
  fun (t82_11, b_21) =>
  (if (decide (t82_11 < (List.length xv_29.Prog : Int))) = true then bindO (idx xv_29.Prog t82_11) (fun (xv_32 : GIns) =>
  bindO (f_graph_writer_add b_21 ([xv_32.Op] : List Int)) (fun (v_62 : GGraph_writer) =>
  bindO (f_graph_writer_sign v_62 xv_32.N) (fun (v_63 : GGraph_writer) =>
  rec_6 (IntKind.i64.wrap (t82_11 + 1), v_63))))
  else rec_5 (IntKind.i64.wrap (t58_3 + 1), b_21))
def f_graph_Put_B5 (g_0 : GGraph) (rec_5 : Int × GGraph_writer → Option ((List UInt8) × Int)) : Int × GGraph_writer → Option ((List UInt8) × Int) :=
  fun (t58_3, b_19) =>
  (if (decide (t58_3 < (List.length g_0.Nodes : Int))) = true then bindO (idx g_0.Nodes t58_3) (fun (xv_29 : GNode) =>
  bindO (f_graph_writer_add b_19 ([xv_29.Kind, xv_29.Scope] : List Int)) (fun (v_55 : GGraph_writer) =>
  bindO (f_graph_writer_sign v_55 xv_29.Arg) (fun (v_56 : GGraph_writer) =>
  bindO (f_graph_writer_add v_56 ([(List.length xv_29.Prog : Int)] : List Int)) (fun (v_57 : GGraph_writer) =>
  loopK (f_graph_Put_B6 t58_3 rec_5 xv_29) rounds (0, v_57)))))
  else f_graph_Put_J2 g_0 b_19)
def f_graph_Put_J1 (g_0 : GGraph) (b_2 : GGraph_writer) : Option ((List UInt8) × Int) :=
  bindO (f_graph_writer_add b_2 ([(List.length g_0.Nodes : Int)] : List Int)) (fun (v_5 : GGraph_writer) =>
  loopK (f_graph_Put_B5 g_0) rounds (0, v_5))
def f_graph_Put_B7 (g_0 : GGraph) (rec_7 : Int × GGraph_writer → Option ((List UInt8) × Int)) : Int × GGraph_writer → Option ((List UInt8) × Int) :=
  fun (t30_3, b_23) =>
  (if (decide (t30_3 < (List.length (List.drop (Int.toNat 1) (List.take (List.length g_0.Parent) g_0.Parent)) : Int))) = true then bindO (idx g_0.Parent (IntKind.i64.wrap (1 + t30_3))) (fun (xv_37 : Int) =>
  bindO (idx g_0.Bound (IntKind.i64.wrap (1 + t30_3))) (fun (xv_38 : Int) =>
  bindO (f_graph_writer_add b_23 ([xv_37, xv_38] : List Int)) (fun (v_66 : GGraph_writer) =>
  rec_7 (IntKind.i64.wrap (t30_3 + 1), v_66))))
  else f_graph_Put_J1 g_0 b_23)
def f_graph_Put (g_0 : GGraph) : Option ((List UInt8) × Int) :=
  bindO (f_graph_fits g_0) (fun (v_0 : Bool) =>
  (if (!v_0) = true then some (([] : List UInt8), 1)
  else guardO (0 ≤ 66 ∧ 66 < 256) (
  guardO (0 ≤ 87 ∧ 87 < 256) (
  guardO (0 ≤ 49 ∧ 49 < 256) (
  bindO (f_graph_writer_add (⟨([toB 66, toB 87, toB 49] : List UInt8)⟩ : GGraph_writer) ([(List.length g_0.Parent : Int)] : List Int)) (fun (v_1 : GGraph_writer) =>
  guardO (0 ≤ 1 ∧ 1 ≤ (List.length g_0.Parent : Int) ∧ (List.length g_0.Parent : Int) ≤ (List.length g_0.Parent : Int)) (
  loopK (f_graph_Put_B7 g_0) rounds (0, v_1))))))))
theorem f_graph_Put_ok (g_0 : GGraph)  (r : (List UInt8) × Int) (h : f_graph_Put g_0 = some r) : PureS Try.prog 31 [.agg [.sl 1 (enc g_0.Parent), .sl 1 (enc g_0.Bound), .sl 4 (enc g_0.Nodes), .sl 4 (enc g_0.Edges)]] 0 (.tup [.sl 1 (enc r.1), .v (.int .i64 r.2)]) := by
  unfold PureS
  refine Spec.of_vc Try.func31 rfl (by kernel_rfl) (by kernel_rfl) ?_
  rw [f_graph_Put] at h
  refine vc_seq_gen (by kernel_rfl) ?_
  intro QQ1 hQ1
  simp only [go_sem, Try.ntmps31, Try.results31]
  refine seqQ_normal hQ1 ?_
  refine vc_seq_gen (by kernel_rfl) ?_
  intro QQ2 hQ2
  refine vc_seq_gen (by kernel_rfl) ?_
  intro QQ3 hQ3
  obtain ⟨v_0, ev_0, h⟩ := bindO_some h
  simp only [go_sem, Try.ntmps31, Try.results31]
  refine call0 (f_graph_fits_ok g_0 v_0 ev_0) (by rfl) (by rfl) ?_
  simp only [go_sem, Try.ntmps31, Try.results31]
  refine seqQ_normal hQ3 ?_
  refine vc_cond_of (b := (!v_0)) (by (simp only [go_sem]; done)) (fun hb_0 => ?_) (fun hb_0 => ?_)
  ·
    replace h := if_t h hb_0
    simp only [decide_eq_true_eq, decide_eq_false_iff_not, Bool.not_eq_true', Bool.not_eq_false', beq_iff_eq, beq_eq_false_iff_ne, ne_eq, Bool.and_eq_true, Bool.or_eq_true, Int.not_lt, Int.not_le] at hb_0
    refine vc_seq_gen (by kernel_rfl) ?_
    intro QQ4 hQ4
    simp only [go_sem, Try.ntmps31, Try.results31]
    refine seqQ_normal hQ4 ?_
    refine vc_ret_of ?_
    refine seqQ_ret hQ2 ?_
    simp only [go_sem, Try.ntmps31, Try.results31]
    obtain rfl := Option.some.inj h
    refine retW_pure rfl ?_
    simp only [go_sem, Le]
  ·
    replace h := if_f h hb_0
    simp only [decide_eq_true_eq, decide_eq_false_iff_not, Bool.not_eq_true', Bool.not_eq_false', beq_iff_eq, beq_eq_false_iff_ne, ne_eq, Bool.and_eq_true, Bool.or_eq_true, Int.not_lt, Int.not_le] at hb_0
    refine vc_skip_of ?_
    refine seqQ_normal hQ2 ?_
    refine vc_seq_gen (by kernel_rfl) ?_
    intro QQ5 hQ5
    obtain ⟨g_1, h⟩ := guardO_some h
    obtain ⟨g_2, h⟩ := guardO_some h
    obtain ⟨g_3, h⟩ := guardO_some h
    have rf_0 : [[.v (.int .u8 66)], [.v (.int .u8 87)], [.v (.int .u8 49)]] = enc ([toB 66, toB 87, toB 49] : List UInt8) := by rfl
    simp only [go_sem, Try.ntmps31, Try.results31, g_1, g_2, g_3]
    simp only [rf_0]
    refine seqQ_normal hQ5 ?_
    refine vc_seq_gen (by kernel_rfl) ?_
    intro QQ6 hQ6
    have rf_1 : [[.v (.int .i64 (List.length g_0.Parent : Int))]] = enc ([(List.length g_0.Parent : Int)] : List Int) := by rfl
    obtain ⟨v_1, ev_1, h⟩ := bindO_some h
    simp only [go_sem, Try.ntmps31, Try.results31]
    refine And.intro (by omega) ?_
    simp only [rf_1]
    refine callF_weak (s' := (⟨0, [(0, .agg [.sl 1 (enc g_0.Parent), .sl 1 (enc g_0.Bound), .sl 4 (enc g_0.Nodes), .sl 4 (enc g_0.Edges)]), (1, .ptr 0 0), (2, .v (.slice none 0 0)), (3, .v (.int .i64 0)), (4, .ptr 1 0), (13, .agg [.sl 1 (enc g_0.Parent), .sl 1 (enc g_0.Bound), .sl 4 (enc g_0.Nodes), .sl 4 (enc g_0.Edges)]), (14, .v (.bool v_0)), (15, .v (.bool (!v_0))), (17, .sl 1 (enc ([toB 66, toB 87, toB 49] : List UInt8))), (18, .agg [.sl 1 (enc ([toB 66, toB 87, toB 49] : List UInt8))]), (19, .ptr 1 0), (20, .ptr 1 0), (21, .ptr 0 0), (22, .sl 1 (enc g_0.Parent)), (23, .v (.int .i64 (List.length g_0.Parent : Int))), (24, .sl 1 (enc ([(List.length g_0.Parent : Int)] : List Int)))], [(0, .box [.sl 1 (enc g_0.Parent), .sl 1 (enc g_0.Bound), .sl 4 (enc g_0.Nodes), .sl 4 (enc g_0.Edges)]), (1, .box [.sl 1 (enc ([toB 66, toB 87, toB 49] : List UInt8))])], 2, 127⟩ : St)) (l := [some 0, some 2]) (args' := [.ptr 1 0, .sl 1 (enc ([(List.length g_0.Parent : Int)] : List Int))]) ?_ ?_ ?_
    · simp only [go_sem, Le] <;> (repeat' apply And.intro) <;> first | rfl | (simp [go_sem]; done)
    · simp only [go_sem, Le] <;> (repeat' apply And.intro) <;> first | rfl | (simp [go_sem]; done)
    refine callm (id := 1) (f_graph_writer_add_ok (⟨([toB 66, toB 87, toB 49] : List UInt8)⟩ : GGraph_writer) ([(List.length g_0.Parent : Int)] : List Int) v_1 ev_1) rfl (by simp) (by simp) rfl rfl rfl rfl rfl rfl ?_
    simp only [go_sem, Try.ntmps31, Try.results31]
    refine seqQ_normal hQ6 ?_
    refine vc_join (by kernel_rfl) ?_
    refine seq_cut_gen (ι := GGraph_writer) (fun (b_2 : GGraph_writer) => (⟨0, [(1, .ptr 0 0), (4, .ptr 1 0)], [(0, .box [.sl 1 (enc g_0.Parent), .sl 1 (enc g_0.Bound), .sl 4 (enc g_0.Nodes), .sl 4 (enc g_0.Edges)]), (1, .box [.sl 1 (enc b_2.b)])], 2, 127⟩ : St)) (fun (b_2 : GGraph_writer) => f_graph_Put_J1 g_0 b_2 = some r) ?_ ?_
    ·
      intro QQ43 hQ43
      refine vc_seq_gen (by kernel_rfl) ?_
      intro QQ44 hQ44
      obtain ⟨g_5, h⟩ := guardO_some h
      simp only [go_sem, Try.ntmps31, Try.results31, g_5]
      refine And.intro (by omega) ?_
      refine seqQ_normal hQ44 ?_
      refine vc_block_gen ?_
      intro QQ45 hQ45
      refine vc_loop_of ?_
      refine loop_gen (ι := Nat × Int × GGraph_writer) (fun ((_, t30_3, b_23) : Nat × Int × GGraph_writer) => (⟨0, [(1, .ptr 0 0), (4, .ptr 1 0), (29, .v (.int .i64 (List.length (List.drop (Int.toNat 1) (List.take (List.length g_0.Parent) g_0.Parent)) : Int))), (30, .v (.int .i64 t30_3))], [(0, .box [.sl 1 (enc g_0.Parent), .sl 1 (enc g_0.Bound), .sl 4 (enc g_0.Nodes), .sl 4 (enc g_0.Edges)]), (1, .box [.sl 1 (enc b_23.b)])], 2, 127⟩ : St)) (fun ((n_, t30_3, b_23) : Nat × Int × GGraph_writer) => loopK (f_graph_Put_B7 g_0) n_ (t30_3, b_23) = some r) (fun p => p.1) (rounds, 0, v_1) [some 0, some 1] ?_ h ?_
      · simp only [go_sem, Le] <;> (repeat' apply And.intro) <;> first | rfl | (simp [go_sem]; done)
      · rintro ⟨n_7, t30_3, b_23⟩ h QQ46 hQ46
        dsimp only at h
        replace h := loopK_some h
        obtain ⟨m_7, rfl, h⟩ := h
        rw [f_graph_Put_B7] at h
        refine vc_seq_gen (by kernel_rfl) ?_
        intro QQ47 hQ47
        simp only [go_sem, Try.ntmps31, Try.results31]
        refine seqQ_normal hQ47 ?_
        refine vc_seq_gen (by kernel_rfl) ?_
        intro QQ48 hQ48
        refine vc_cond_of (b := (decide (t30_3 < (List.length (List.drop (Int.toNat 1) (List.take (List.length g_0.Parent) g_0.Parent)) : Int)))) (by (simp only [go_sem]; done)) (fun hb_39 => ?_) (fun hb_39 => ?_)
        ·
          replace h := if_t h hb_39
          simp only [decide_eq_true_eq, decide_eq_false_iff_not, Bool.not_eq_true', Bool.not_eq_false', beq_iff_eq, beq_eq_false_iff_ne, ne_eq, Bool.and_eq_true, Bool.or_eq_true, Int.not_lt, Int.not_le] at hb_39
          refine vc_skip_of ?_
          refine seqQ_normal hQ48 ?_
          refine vc_seq_gen (by kernel_rfl) ?_
          intro QQ49 hQ49
          refine vc_block_gen ?_
          intro QQ50 hQ50
          refine vc_seq_gen (by kernel_rfl) ?_
          intro QQ51 hQ51
          simp only [go_sem, Try.ntmps31, Try.results31]
          refine seqQ_normal hQ51 ?_
          refine vc_draw ?_
          refine drawM_tail 14 [0, 0, 2, 0, 8, 30, 62, 0, 128, 0, 512, 1920, 3968, 8190, 16383] mixed (by kernel_rfl) (of_decide_eq_true (by kernel_rfl)) (by kernel_rfl) ?_
          obtain ⟨xv_37, exv_37, h⟩ := bindO_some h
          obtain ⟨fxv_37a, fxv_37b, fxv_37c⟩ := idx_spec exv_37
          obtain ⟨xv_38, exv_38, h⟩ := bindO_some h
          obtain ⟨fxv_38a, fxv_38b, fxv_38c⟩ := idx_spec exv_38
          have rf_42 : [[.v (.int .i64 xv_37)], [.v (.int .i64 xv_38)]] = enc ([xv_37, xv_38] : List Int) := by rfl
          obtain ⟨v_66, ev_66, h⟩ := bindO_some h
          simp only [go_sem, Try.ntmps31, Try.results31, fxv_37a, fxv_37b, fxv_37c, fxv_38a, fxv_38b, fxv_38c]
          refine And.intro (by omega) ?_
          refine And.intro (by omega) ?_
          refine And.intro (by omega) ?_
          simp only [rf_42]
          refine callm (id := 1) (f_graph_writer_add_ok b_23 ([xv_37, xv_38] : List Int) v_66 ev_66) rfl (by simp) (by simp) rfl rfl rfl rfl rfl rfl ?_
          simp only [go_sem, Try.ntmps31, Try.results31]
          refine blockQ_normal hQ50 ?_
          refine seqQ_normal hQ49 ?_
          simp only [go_sem, Try.ntmps31, Try.results31]
          refine thenQ_normal hQ46 ?_
          refine ⟨(m_7, IntKind.i64.wrap (t30_3 + 1), v_66), [some 0, some 1], ?_, h, Nat.lt_succ_self _⟩
          simp only [go_sem, Le] <;> (repeat' apply And.intro) <;> first | rfl | (simp [go_sem]; done)
        ·
          replace h := if_f h hb_39
          simp only [decide_eq_true_eq, decide_eq_false_iff_not, Bool.not_eq_true', Bool.not_eq_false', beq_iff_eq, beq_eq_false_iff_ne, ne_eq, Bool.and_eq_true, Bool.or_eq_true, Int.not_lt, Int.not_le] at hb_39
          refine vc_exit_of ?_
          refine seqQ_exit hQ48 ?_
          refine thenQ_exit hQ46 ?_
          refine blockQ_exit hQ45 ?_
          refine thenQ_normal hQ43 ?_
          refine ⟨b_23, [some 0, some 1], ?_, h⟩
          simp only [go_sem, Le] <;> (repeat' apply And.intro) <;> first | rfl | (simp [go_sem]; done)
    · rintro b_2 h
      try dsimp only at h
      rw [f_graph_Put_J1] at h
      refine vc_seq_gen (by kernel_rfl) ?_
      intro QQ7 hQ7
      have rf_5 : [[.v (.int .i64 (List.length g_0.Nodes : Int))]] = enc ([(List.length g_0.Nodes : Int)] : List Int) := by rfl
      obtain ⟨v_5, ev_5, h⟩ := bindO_some h
      simp only [go_sem, Try.ntmps31, Try.results31]
      simp only [rf_5]
      refine callF_weak (s' := (⟨0, [(1, .ptr 0 0), (4, .ptr 1 0), (49, .ptr 1 0), (50, .ptr 0 2), (51, .sl 4 (enc g_0.Nodes)), (52, .v (.int .i64 (List.length g_0.Nodes : Int))), (53, .sl 1 (enc ([(List.length g_0.Nodes : Int)] : List Int)))], [(0, .box [.sl 1 (enc g_0.Parent), .sl 1 (enc g_0.Bound), .sl 4 (enc g_0.Nodes), .sl 4 (enc g_0.Edges)]), (1, .box [.sl 1 (enc b_2.b)])], 2, 127⟩ : St)) (l := [some 0, some 1]) (args' := [.ptr 1 0, .sl 1 (enc ([(List.length g_0.Nodes : Int)] : List Int))]) ?_ ?_ ?_
      · simp only [go_sem, Le] <;> (repeat' apply And.intro) <;> first | rfl | (simp [go_sem]; done)
      · simp only [go_sem, Le] <;> (repeat' apply And.intro) <;> first | rfl | (simp [go_sem]; done)
      refine callm (id := 1) (f_graph_writer_add_ok b_2 ([(List.length g_0.Nodes : Int)] : List Int) v_5 ev_5) rfl (by simp) (by simp) rfl rfl rfl rfl rfl rfl ?_
      simp only [go_sem, Try.ntmps31, Try.results31]
      refine seqQ_normal hQ7 ?_
      refine vc_join (by kernel_rfl) ?_
      refine seq_cut_gen (ι := GGraph_writer) (fun (b_11 : GGraph_writer) => (⟨0, [(1, .ptr 0 0), (4, .ptr 1 0)], [(0, .box [.sl 1 (enc g_0.Parent), .sl 1 (enc g_0.Bound), .sl 4 (enc g_0.Nodes), .sl 4 (enc g_0.Edges)]), (1, .box [.sl 1 (enc b_11.b)])], 2, 127⟩ : St)) (fun (b_11 : GGraph_writer) => f_graph_Put_J2 g_0 b_11 = some r) ?_ ?_
      ·
        intro QQ22 hQ22
        refine vc_seq_gen (by kernel_rfl) ?_
        intro QQ23 hQ23
        simp only [go_sem, Try.ntmps31, Try.results31]
        refine seqQ_normal hQ23 ?_
        refine vc_block_gen ?_
        intro QQ24 hQ24
        refine vc_loop_of ?_
        refine loop_gen (ι := Nat × Int × GGraph_writer) (fun ((_, t58_3, b_19) : Nat × Int × GGraph_writer) => (⟨0, [(1, .ptr 0 0), (4, .ptr 1 0), (56, .sl 4 (enc g_0.Nodes)), (57, .v (.int .i64 (List.length g_0.Nodes : Int))), (58, .v (.int .i64 t58_3))], [(0, .box [.sl 1 (enc g_0.Parent), .sl 1 (enc g_0.Bound), .sl 4 (enc g_0.Nodes), .sl 4 (enc g_0.Edges)]), (1, .box [.sl 1 (enc b_19.b)])], 2, 127⟩ : St)) (fun ((n_, t58_3, b_19) : Nat × Int × GGraph_writer) => loopK (f_graph_Put_B5 g_0) n_ (t58_3, b_19) = some r) (fun p => p.1) (rounds, 0, v_5) [some 0, some 1] ?_ h ?_
        · simp only [go_sem, Le] <;> (repeat' apply And.intro) <;> first | rfl | (simp [go_sem]; done)
        · rintro ⟨n_5, t58_3, b_19⟩ h QQ25 hQ25
          dsimp only at h
          replace h := loopK_some h
          obtain ⟨m_5, rfl, h⟩ := h
          rw [f_graph_Put_B5] at h
          refine vc_seq_gen (by kernel_rfl) ?_
          intro QQ26 hQ26
          simp only [go_sem, Try.ntmps31, Try.results31]
          refine seqQ_normal hQ26 ?_
          refine vc_seq_gen (by kernel_rfl) ?_
          intro QQ27 hQ27
          refine vc_cond_of (b := (decide (t58_3 < (List.length g_0.Nodes : Int)))) (by (simp only [go_sem]; done)) (fun hb_33 => ?_) (fun hb_33 => ?_)
          ·
            replace h := if_t h hb_33
            simp only [decide_eq_true_eq, decide_eq_false_iff_not, Bool.not_eq_true', Bool.not_eq_false', beq_iff_eq, beq_eq_false_iff_ne, ne_eq, Bool.and_eq_true, Bool.or_eq_true, Int.not_lt, Int.not_le] at hb_33
            refine vc_skip_of ?_
            refine seqQ_normal hQ27 ?_
            refine vc_join (by kernel_rfl) ?_
            refine seq_go_gen ?_
            intro QQ28 hQ28
            refine vc_block_gen ?_
            intro QQ29 hQ29
            refine vc_seq_gen (by kernel_rfl) ?_
            intro QQ30 hQ30
            obtain ⟨xv_29, exv_29, h⟩ := bindO_some h
            obtain ⟨fxv_29a, fxv_29b, fxv_29c⟩ := idx_spec exv_29
            simp only [go_sem, Try.ntmps31, Try.results31, fxv_29a, fxv_29b, fxv_29c]
            refine And.intro (by omega) ?_
            refine seqQ_normal hQ30 ?_
            refine vc_seq_gen (by kernel_rfl) ?_
            intro QQ31 hQ31
            have rf_35 : [[.v (.int .i64 xv_29.Kind)], [.v (.int .i64 xv_29.Scope)]] = enc ([xv_29.Kind, xv_29.Scope] : List Int) := by rfl
            obtain ⟨v_55, ev_55, h⟩ := bindO_some h
            simp only [go_sem, Try.ntmps31, Try.results31]
            refine And.intro (by omega) ?_
            simp only [rf_35]
            refine callF_weak (s' := (⟨0, [(1, .ptr 0 0), (4, .ptr 1 0), (7, .ptr 2 0), (56, .sl 4 (enc g_0.Nodes)), (57, .v (.int .i64 (List.length g_0.Nodes : Int))), (58, .v (.int .i64 t58_3)), (59, .v (.bool (decide (t58_3 < (List.length g_0.Nodes : Int))))), (60, .el 4 (enc g_0.Nodes) (Int.toNat t58_3) 0), (61, .agg [.v (.int .i64 xv_29.Kind), .v (.int .i64 xv_29.Scope), .v (.int .i64 xv_29.Arg), .sl 2 (enc xv_29.Prog)]), (62, .ptr 1 0), (63, .ptr 2 0), (64, .v (.int .i64 xv_29.Kind)), (65, .ptr 2 1), (66, .v (.int .i64 xv_29.Scope)), (67, .sl 1 (enc ([xv_29.Kind, xv_29.Scope] : List Int)))], [(0, .box [.sl 1 (enc g_0.Parent), .sl 1 (enc g_0.Bound), .sl 4 (enc g_0.Nodes), .sl 4 (enc g_0.Edges)]), (1, .box [.sl 1 (enc b_19.b)]), (2, .box [.v (.int .i64 xv_29.Kind), .v (.int .i64 xv_29.Scope), .v (.int .i64 xv_29.Arg), .sl 2 (enc xv_29.Prog)])], 3, 127⟩ : St)) (l := [some 0, some 1, some 2]) (args' := [.ptr 1 0, .sl 1 (enc ([xv_29.Kind, xv_29.Scope] : List Int))]) ?_ ?_ ?_
            · simp only [go_sem, Le] <;> (repeat' apply And.intro) <;> first | rfl | (simp [go_sem]; done) | (simp [enc_len, enc]; omega)
            · simp only [go_sem, Le] <;> (repeat' apply And.intro) <;> first | rfl | (simp [go_sem]; done)
            refine callm (id := 1) (f_graph_writer_add_ok b_19 ([xv_29.Kind, xv_29.Scope] : List Int) v_55 ev_55) rfl (by simp) (by simp) rfl rfl rfl rfl rfl rfl ?_
            simp only [go_sem, Try.ntmps31, Try.results31]
            refine seqQ_normal hQ31 ?_
            refine vc_seq_gen (by kernel_rfl) ?_
            intro QQ32 hQ32
            obtain ⟨v_56, ev_56, h⟩ := bindO_some h
            simp only [go_sem, Try.ntmps31, Try.results31]
            refine callm (id := 1) (f_graph_writer_sign_ok v_55 xv_29.Arg v_56 ev_56) rfl (by simp) (by simp) rfl rfl rfl rfl rfl rfl ?_
            simp only [go_sem, Try.ntmps31, Try.results31]
            refine seqQ_normal hQ32 ?_
            refine vc_seq_gen (by kernel_rfl) ?_
            intro QQ33 hQ33
            have rf_36 : [[.v (.int .i64 (List.length xv_29.Prog : Int))]] = enc ([(List.length xv_29.Prog : Int)] : List Int) := by rfl
            obtain ⟨v_57, ev_57, h⟩ := bindO_some h
            simp only [go_sem, Try.ntmps31, Try.results31]
            simp only [rf_36]
            refine callF_weak (s' := (⟨0, [(1, .ptr 0 0), (4, .ptr 1 0), (7, .ptr 2 0), (56, .sl 4 (enc g_0.Nodes)), (57, .v (.int .i64 (List.length g_0.Nodes : Int))), (58, .v (.int .i64 t58_3)), (59, .v (.bool (decide (t58_3 < (List.length g_0.Nodes : Int))))), (60, .el 4 (enc g_0.Nodes) (Int.toNat t58_3) 0), (61, .agg [.v (.int .i64 xv_29.Kind), .v (.int .i64 xv_29.Scope), .v (.int .i64 xv_29.Arg), .sl 2 (enc xv_29.Prog)]), (62, .ptr 1 0), (63, .ptr 2 0), (64, .v (.int .i64 xv_29.Kind)), (65, .ptr 2 1), (66, .v (.int .i64 xv_29.Scope)), (67, .sl 1 (enc ([xv_29.Kind, xv_29.Scope] : List Int))), (68, .tup []), (69, .ptr 1 0), (70, .ptr 2 2), (71, .v (.int .i64 xv_29.Arg)), (72, .tup []), (73, .ptr 1 0), (74, .ptr 2 3), (75, .sl 2 (enc xv_29.Prog)), (76, .v (.int .i64 (List.length xv_29.Prog : Int))), (77, .sl 1 (enc ([(List.length xv_29.Prog : Int)] : List Int)))], [(0, .box [.sl 1 (enc g_0.Parent), .sl 1 (enc g_0.Bound), .sl 4 (enc g_0.Nodes), .sl 4 (enc g_0.Edges)]), (1, .box [.sl 1 (enc v_56.b)]), (2, .box [.v (.int .i64 xv_29.Kind), .v (.int .i64 xv_29.Scope), .v (.int .i64 xv_29.Arg), .sl 2 (enc xv_29.Prog)])], 3, 127⟩ : St)) (l := [some 0, some 1, some 2]) (args' := [.ptr 1 0, .sl 1 (enc ([(List.length xv_29.Prog : Int)] : List Int))]) ?_ ?_ ?_
            · simp only [go_sem, Le] <;> (repeat' apply And.intro) <;> first | rfl | (simp [go_sem]; done)
            · simp only [go_sem, Le] <;> (repeat' apply And.intro) <;> first | rfl | (simp [go_sem]; done)
            refine callm (id := 1) (f_graph_writer_add_ok v_56 ([(List.length xv_29.Prog : Int)] : List Int) v_57 ev_57) rfl (by simp) (by simp) rfl rfl rfl rfl rfl rfl ?_
            simp only [go_sem, Try.ntmps31, Try.results31]
            refine seqQ_normal hQ33 ?_
            refine vc_seq_gen (by kernel_rfl) ?_
            intro QQ34 hQ34
            simp only [go_sem, Try.ntmps31, Try.results31]
            refine seqQ_normal hQ34 ?_
            refine vc_block_gen ?_
            intro QQ35 hQ35
            refine vc_loop_of ?_
            refine loop_gen (ι := Nat × Int × GGraph_writer) (fun ((_, t82_11, b_21) : Nat × Int × GGraph_writer) => (⟨0, [(1, .ptr 0 0), (4, .ptr 1 0), (56, .sl 4 (enc g_0.Nodes)), (57, .v (.int .i64 (List.length g_0.Nodes : Int))), (58, .v (.int .i64 t58_3)), (80, .sl 2 (enc xv_29.Prog)), (81, .v (.int .i64 (List.length xv_29.Prog : Int))), (82, .v (.int .i64 t82_11))], [(0, .box [.sl 1 (enc g_0.Parent), .sl 1 (enc g_0.Bound), .sl 4 (enc g_0.Nodes), .sl 4 (enc g_0.Edges)]), (1, .box [.sl 1 (enc b_21.b)])], 2, 127⟩ : St)) (fun ((n_, t82_11, b_21) : Nat × Int × GGraph_writer) => loopK (f_graph_Put_B6 t58_3 (loopK (f_graph_Put_B5 g_0) m_5) xv_29) n_ (t82_11, b_21) = some r) (fun p => p.1) (rounds, 0, v_57) [some 0, some 1] ?_ h ?_
            · simp only [go_sem, Le] <;> (repeat' apply And.intro) <;> first | rfl | (simp [go_sem]; done)
            · rintro ⟨n_6, t82_11, b_21⟩ h QQ36 hQ36
              dsimp only at h
              replace h := loopK_some h
              obtain ⟨m_6, rfl, h⟩ := h
              rw [f_graph_Put_B6] at h
              refine vc_seq_gen (by kernel_rfl) ?_
              intro QQ37 hQ37
              simp only [go_sem, Try.ntmps31, Try.results31]
              refine seqQ_normal hQ37 ?_
              refine vc_seq_gen (by kernel_rfl) ?_
              intro QQ38 hQ38
              refine vc_cond_of (b := (decide (t82_11 < (List.length xv_29.Prog : Int)))) (by (simp only [go_sem]; done)) (fun hb_36 => ?_) (fun hb_36 => ?_)
              ·
                replace h := if_t h hb_36
                simp only [decide_eq_true_eq, decide_eq_false_iff_not, Bool.not_eq_true', Bool.not_eq_false', beq_iff_eq, beq_eq_false_iff_ne, ne_eq, Bool.and_eq_true, Bool.or_eq_true, Int.not_lt, Int.not_le] at hb_36
                refine vc_skip_of ?_
                refine seqQ_normal hQ38 ?_
                refine vc_seq_gen (by kernel_rfl) ?_
                intro QQ39 hQ39
                refine vc_block_gen ?_
                intro QQ40 hQ40
                refine vc_seq_gen (by kernel_rfl) ?_
                intro QQ41 hQ41
                obtain ⟨xv_32, exv_32, h⟩ := bindO_some h
                obtain ⟨fxv_32a, fxv_32b, fxv_32c⟩ := idx_spec exv_32
                simp only [go_sem, Try.ntmps31, Try.results31, fxv_32a, fxv_32b, fxv_32c]
                refine And.intro (by omega) ?_
                refine seqQ_normal hQ41 ?_
                refine vc_seq_gen (by kernel_rfl) ?_
                intro QQ42 hQ42
                have rf_39 : [[.v (.int .i64 xv_32.Op)]] = enc ([xv_32.Op] : List Int) := by rfl
                obtain ⟨v_62, ev_62, h⟩ := bindO_some h
                simp only [go_sem, Try.ntmps31, Try.results31]
                simp only [rf_39]
                refine callF_weak (s' := (⟨0, [(1, .ptr 0 0), (4, .ptr 1 0), (9, .ptr 2 0), (56, .sl 4 (enc g_0.Nodes)), (57, .v (.int .i64 (List.length g_0.Nodes : Int))), (58, .v (.int .i64 t58_3)), (80, .sl 2 (enc xv_29.Prog)), (81, .v (.int .i64 (List.length xv_29.Prog : Int))), (82, .v (.int .i64 t82_11)), (83, .v (.bool (decide (t82_11 < (List.length xv_29.Prog : Int))))), (84, .el 2 (enc xv_29.Prog) (Int.toNat t82_11) 0), (85, .agg [.v (.int .i64 xv_32.Op), .v (.int .i64 xv_32.N)]), (86, .ptr 1 0), (87, .ptr 2 0), (88, .v (.int .i64 xv_32.Op)), (89, .sl 1 (enc ([xv_32.Op] : List Int)))], [(0, .box [.sl 1 (enc g_0.Parent), .sl 1 (enc g_0.Bound), .sl 4 (enc g_0.Nodes), .sl 4 (enc g_0.Edges)]), (1, .box [.sl 1 (enc b_21.b)]), (2, .box [.v (.int .i64 xv_32.Op), .v (.int .i64 xv_32.N)])], 3, 127⟩ : St)) (l := [some 0, some 1, some 2]) (args' := [.ptr 1 0, .sl 1 (enc ([xv_32.Op] : List Int))]) ?_ ?_ ?_
                · simp only [go_sem, Le] <;> (repeat' apply And.intro) <;> first | rfl | (simp [go_sem]; done) | (simp [enc_len, enc]; omega)
                · simp only [go_sem, Le] <;> (repeat' apply And.intro) <;> first | rfl | (simp [go_sem]; done)
                refine callm (id := 1) (f_graph_writer_add_ok b_21 ([xv_32.Op] : List Int) v_62 ev_62) rfl (by simp) (by simp) rfl rfl rfl rfl rfl rfl ?_
                simp only [go_sem, Try.ntmps31, Try.results31]
                refine seqQ_normal hQ42 ?_
                obtain ⟨v_63, ev_63, h⟩ := bindO_some h
                simp only [go_sem, Try.ntmps31, Try.results31]
                refine callm (id := 1) (f_graph_writer_sign_ok v_62 xv_32.N v_63 ev_63) rfl (by simp) (by simp) rfl rfl rfl rfl rfl rfl ?_
                simp only [go_sem, Try.ntmps31, Try.results31]
                refine blockQ_normal hQ40 ?_
                refine seqQ_normal hQ39 ?_
                simp only [go_sem, Try.ntmps31, Try.results31]
                refine thenQ_normal hQ36 ?_
                refine ⟨(m_6, IntKind.i64.wrap (t82_11 + 1), v_63), [some 0, some 1], ?_, h, Nat.lt_succ_self _⟩
                simp only [go_sem, Le] <;> (repeat' apply And.intro) <;> first | rfl | (simp [go_sem]; done)
              ·
                replace h := if_f h hb_36
                simp only [decide_eq_true_eq, decide_eq_false_iff_not, Bool.not_eq_true', Bool.not_eq_false', beq_iff_eq, beq_eq_false_iff_ne, ne_eq, Bool.and_eq_true, Bool.or_eq_true, Int.not_lt, Int.not_le] at hb_36
                refine vc_exit_of ?_
                refine seqQ_exit hQ38 ?_
                refine thenQ_exit hQ36 ?_
                refine blockQ_exit hQ35 ?_
                refine blockQ_normal hQ29 ?_
                refine seqQ_normal hQ28 ?_
                simp only [go_sem, Try.ntmps31, Try.results31]
                refine thenQ_normal hQ25 ?_
                refine ⟨(m_5, IntKind.i64.wrap (t58_3 + 1), b_21), [some 0, some 1], ?_, h, Nat.lt_succ_self _⟩
                simp only [go_sem, Le] <;> (repeat' apply And.intro) <;> first | rfl | (simp [go_sem]; done)
          ·
            replace h := if_f h hb_33
            simp only [decide_eq_true_eq, decide_eq_false_iff_not, Bool.not_eq_true', Bool.not_eq_false', beq_iff_eq, beq_eq_false_iff_ne, ne_eq, Bool.and_eq_true, Bool.or_eq_true, Int.not_lt, Int.not_le] at hb_33
            refine vc_exit_of ?_
            refine seqQ_exit hQ27 ?_
            refine thenQ_exit hQ25 ?_
            refine blockQ_exit hQ24 ?_
            refine thenQ_normal hQ22 ?_
            refine ⟨b_19, [some 0, some 1], ?_, h⟩
            simp only [go_sem, Le] <;> (repeat' apply And.intro) <;> first | rfl | (simp [go_sem]; done)
      · rintro b_11 h
        try dsimp only at h
        rw [f_graph_Put_J2] at h
        refine vc_seq_gen (by kernel_rfl) ?_
        intro QQ8 hQ8
        have rf_21 : [[.v (.int .i64 (List.length g_0.Edges : Int))]] = enc ([(List.length g_0.Edges : Int)] : List Int) := by rfl
        obtain ⟨v_33, ev_33, h⟩ := bindO_some h
        simp only [go_sem, Try.ntmps31, Try.results31]
        simp only [rf_21]
        refine callF_weak (s' := (⟨0, [(1, .ptr 0 0), (4, .ptr 1 0), (97, .ptr 1 0), (98, .ptr 0 3), (99, .sl 4 (enc g_0.Edges)), (100, .v (.int .i64 (List.length g_0.Edges : Int))), (101, .sl 1 (enc ([(List.length g_0.Edges : Int)] : List Int)))], [(0, .box [.sl 1 (enc g_0.Parent), .sl 1 (enc g_0.Bound), .sl 4 (enc g_0.Nodes), .sl 4 (enc g_0.Edges)]), (1, .box [.sl 1 (enc b_11.b)])], 2, 127⟩ : St)) (l := [some 0, some 1]) (args' := [.ptr 1 0, .sl 1 (enc ([(List.length g_0.Edges : Int)] : List Int))]) ?_ ?_ ?_
        · simp only [go_sem, Le] <;> (repeat' apply And.intro) <;> first | rfl | (simp [go_sem]; done)
        · simp only [go_sem, Le] <;> (repeat' apply And.intro) <;> first | rfl | (simp [go_sem]; done)
        refine callm (id := 1) (f_graph_writer_add_ok b_11 ([(List.length g_0.Edges : Int)] : List Int) v_33 ev_33) rfl (by simp) (by simp) rfl rfl rfl rfl rfl rfl ?_
        simp only [go_sem, Try.ntmps31, Try.results31]
        refine seqQ_normal hQ8 ?_
        refine vc_join (by kernel_rfl) ?_
        refine seq_go_gen ?_
        intro QQ9 hQ9
        refine vc_seq_gen (by kernel_rfl) ?_
        intro QQ10 hQ10
        simp only [go_sem, Try.ntmps31, Try.results31]
        refine seqQ_normal hQ10 ?_
        refine vc_block_gen ?_
        intro QQ11 hQ11
        refine vc_loop_of ?_
        refine loop_gen (ι := Nat × Int × GGraph_writer) (fun ((_, t106_1, b_13) : Nat × Int × GGraph_writer) => (⟨0, [(4, .ptr 0 0), (104, .sl 4 (enc g_0.Edges)), (105, .v (.int .i64 (List.length g_0.Edges : Int))), (106, .v (.int .i64 t106_1))], [(0, .box [.sl 1 (enc b_13.b)])], 1, 127⟩ : St)) (fun ((n_, t106_1, b_13) : Nat × Int × GGraph_writer) => loopK (f_graph_Put_B3 g_0) n_ (t106_1, b_13) = some r) (fun p => p.1) (rounds, 0, v_33) [some 1] ?_ h ?_
        · simp only [go_sem, Le]
        · rintro ⟨n_3, t106_1, b_13⟩ h QQ12 hQ12
          dsimp only at h
          replace h := loopK_some h
          obtain ⟨m_3, rfl, h⟩ := h
          rw [f_graph_Put_B3] at h
          refine vc_seq_gen (by kernel_rfl) ?_
          intro QQ13 hQ13
          simp only [go_sem, Try.ntmps31, Try.results31]
          refine seqQ_normal hQ13 ?_
          refine vc_seq_gen (by kernel_rfl) ?_
          intro QQ14 hQ14
          refine vc_cond_of (b := (decide (t106_1 < (List.length g_0.Edges : Int)))) (by (simp only [go_sem]; done)) (fun hb_22 => ?_) (fun hb_22 => ?_)
          ·
            replace h := if_t h hb_22
            simp only [decide_eq_true_eq, decide_eq_false_iff_not, Bool.not_eq_true', Bool.not_eq_false', beq_iff_eq, beq_eq_false_iff_ne, ne_eq, Bool.and_eq_true, Bool.or_eq_true, Int.not_lt, Int.not_le] at hb_22
            refine vc_skip_of ?_
            refine seqQ_normal hQ14 ?_
            refine vc_join (by kernel_rfl) ?_
            refine seq_go_gen ?_
            intro QQ15 hQ15
            refine vc_block_gen ?_
            intro QQ16 hQ16
            refine vc_seq_gen (by kernel_rfl) ?_
            intro QQ17 hQ17
            obtain ⟨xv_20, exv_20, h⟩ := bindO_some h
            obtain ⟨fxv_20a, fxv_20b, fxv_20c⟩ := idx_spec exv_20
            simp only [go_sem, Try.ntmps31, Try.results31, fxv_20a, fxv_20b, fxv_20c]
            refine And.intro (by omega) ?_
            refine seqQ_normal hQ17 ?_
            refine vc_seq_gen (by kernel_rfl) ?_
            intro QQ18 hQ18
            simp only [go_sem, Try.ntmps31, Try.results31]
            refine seqQ_normal hQ18 ?_
            refine vc_join (by kernel_rfl) ?_
            refine seq_cut_gen (ι := Int) (fun (flag_2 : Int) => (⟨0, [(4, .ptr 0 0), (11, .ptr 1 0), (12, .v (.int .i64 flag_2)), (104, .sl 4 (enc g_0.Edges)), (105, .v (.int .i64 (List.length g_0.Edges : Int))), (106, .v (.int .i64 t106_1))], [(0, .box [.sl 1 (enc b_13.b)]), (1, .box [.v (.int .i64 xv_20.From), .v (.int .i64 xv_20.To), .v (.int .i64 xv_20.Port), .v (.bool xv_20.Exchange)])], 2, 127⟩ : St)) (fun (flag_2 : Int) => f_graph_Put_J4 t106_1 b_13 (loopK (f_graph_Put_B3 g_0) m_3) xv_20 flag_2 = some r) ?_ ?_
            ·
              intro QQ19 hQ19
              refine vc_seq_gen (by kernel_rfl) ?_
              intro QQ20 hQ20
              simp only [go_sem, Try.ntmps31, Try.results31]
              refine seqQ_normal hQ20 ?_
              refine vc_cond_of (b := xv_20.Exchange) (by (simp only [go_sem]; done)) (fun hb_24 => ?_) (fun hb_24 => ?_)
              ·
                replace h := if_t h hb_24
                simp only [go_sem, Try.ntmps31, Try.results31]
                refine thenQ_normal hQ19 ?_
                refine ⟨1, [some 0, some 1], ?_, h⟩
                simp only [go_sem, Le] <;> (repeat' apply And.intro) <;> first | rfl | (simp [go_sem]; done)
              ·
                replace h := if_f h hb_24
                refine vc_skip_of ?_
                refine thenQ_normal hQ19 ?_
                refine ⟨0, [some 0, some 1], ?_, h⟩
                simp only [go_sem, Le] <;> (repeat' apply And.intro) <;> first | rfl | (simp [go_sem]; done)
            · rintro flag_2 h
              try dsimp only at h
              rw [f_graph_Put_J4] at h
              have rf_24 : [[.v (.int .i64 xv_20.From)], [.v (.int .i64 xv_20.To)], [.v (.int .i64 xv_20.Port)], [.v (.int .i64 flag_2)]] = enc ([xv_20.From, xv_20.To, xv_20.Port, flag_2] : List Int) := by rfl
              obtain ⟨v_36, ev_36, h⟩ := bindO_some h
              simp only [go_sem, Try.ntmps31, Try.results31]
              refine And.intro (by omega) ?_
              simp only [rf_24]
              refine callF_weak (s' := (⟨0, [(4, .ptr 0 0), (11, .ptr 1 0), (12, .v (.int .i64 flag_2)), (104, .sl 4 (enc g_0.Edges)), (105, .v (.int .i64 (List.length g_0.Edges : Int))), (106, .v (.int .i64 t106_1)), (112, .ptr 0 0), (113, .ptr 1 0), (114, .v (.int .i64 xv_20.From)), (115, .ptr 1 1), (116, .v (.int .i64 xv_20.To)), (117, .ptr 1 2), (118, .v (.int .i64 xv_20.Port)), (119, .v (.int .i64 flag_2)), (120, .sl 1 (enc ([xv_20.From, xv_20.To, xv_20.Port, flag_2] : List Int)))], [(0, .box [.sl 1 (enc b_13.b)]), (1, .box [.v (.int .i64 xv_20.From), .v (.int .i64 xv_20.To), .v (.int .i64 xv_20.Port), .v (.bool xv_20.Exchange)])], 2, 127⟩ : St)) (l := [some 0, some 1]) (args' := [.ptr 0 0, .sl 1 (enc ([xv_20.From, xv_20.To, xv_20.Port, flag_2] : List Int))]) ?_ ?_ ?_
              · simp only [go_sem, Le] <;> (repeat' apply And.intro) <;> first | rfl | (simp [go_sem]; done)
              · simp only [go_sem, Le] <;> (repeat' apply And.intro) <;> (simp [go_sem]; done)
              refine callm (id := 0) (f_graph_writer_add_ok b_13 ([xv_20.From, xv_20.To, xv_20.Port, flag_2] : List Int) v_36 ev_36) rfl (by simp) (by simp) rfl rfl rfl rfl rfl rfl ?_
              simp only [go_sem, Try.ntmps31, Try.results31]
              refine blockQ_normal hQ16 ?_
              refine seqQ_normal hQ15 ?_
              simp only [go_sem, Try.ntmps31, Try.results31]
              refine thenQ_normal hQ12 ?_
              refine ⟨(m_3, IntKind.i64.wrap (t106_1 + 1), v_36), [some 0], ?_, h, Nat.lt_succ_self _⟩
              simp only [go_sem, Le]
          ·
            replace h := if_f h hb_22
            simp only [decide_eq_true_eq, decide_eq_false_iff_not, Bool.not_eq_true', Bool.not_eq_false', beq_iff_eq, beq_eq_false_iff_ne, ne_eq, Bool.and_eq_true, Bool.or_eq_true, Int.not_lt, Int.not_le] at hb_22
            refine vc_exit_of ?_
            refine seqQ_exit hQ14 ?_
            refine thenQ_exit hQ12 ?_
            refine blockQ_exit hQ11 ?_
            refine seqQ_normal hQ9 ?_
            refine vc_seq_gen (by kernel_rfl) ?_
            intro QQ21 hQ21
            simp only [go_sem, Try.ntmps31, Try.results31]
            refine seqQ_normal hQ21 ?_
            refine vc_ret_of ?_
            simp only [go_sem, Try.ntmps31, Try.results31]
            obtain rfl := Option.some.inj h
            refine retW_pure rfl ?_
            simp only [go_sem, Le]
end Go.Proofs.Ytngeldeahafcfaa

namespace Go.Proofs.Ytngeldeahafcfaa
open Go Go.RowKit
set_option maxHeartbeats 2000000
set_option maxRecDepth 100000
set_option linter.unusedSimpArgs false
set_option linter.unusedVariables false
def f_backwashlaw08_awake  : Option Bool :=
  bindO (f_graph_Put (⟨([-1] : List Int), ([0] : List Int), ([(⟨1, 0, 0, ([] : List GIns)⟩ : GNode)] : List GNode), ([] : List GEdge)⟩ : GGraph)) (fun (v_0 : (List UInt8) × Int) =>
  bindO (f_graph_Read v_0.1) (fun (v_1 : GGraph × Int) =>
  (if ((v_0.2 == 0) && ((List.length v_0.1 : Int) == 10)) = true then bindO (idx v_0.1 5) (fun (xv_0 : UInt8) =>
  (if (((((UInt8.toNat xv_0 : Nat) : Int) == 1) && (v_1.2 == 0)) && ((List.length v_1.1.Nodes : Int) == 1)) = true then bindO (idx v_1.1.Nodes 0) (fun (xv_1 : GNode) =>
  some (xv_1.Kind == 1))
  else some false))
  else some false)))
theorem f_backwashlaw08_awake_ok   (r : Bool) (h : f_backwashlaw08_awake  = some r) : PureS Try.prog 27 [] 0 (.v (.bool r)) := by
  unfold PureS
  refine Spec.of_vc Try.func27 rfl (by kernel_rfl) (by kernel_rfl) ?_
  rw [f_backwashlaw08_awake] at h
  refine vc_seq_gen (by kernel_rfl) ?_
  intro QQ1 hQ1
  simp only [go_sem, Try.ntmps27, Try.results27]
  refine seqQ_normal hQ1 ?_
  refine vc_seq_gen (by kernel_rfl) ?_
  intro QQ2 hQ2
  have rf_0 : [[.v (.int .i64 (-1))]] = enc ([-1] : List Int) := by rfl
  have rf_1 : [[.v (.int .i64 0)]] = enc ([0] : List Int) := by rfl
  have rf_2 : [[.v (.int .i64 1), .v (.int .i64 0), .v (.int .i64 0), .sl 2 (enc ([] : List GIns))]] = enc ([(⟨1, 0, 0, ([] : List GIns)⟩ : GNode)] : List GNode) := by rfl
  obtain ⟨v_0, ev_0, h⟩ := bindO_some h
  simp only [go_sem, Try.ntmps27, Try.results27]
  refine And.intro (by omega) ?_
  simp only [rf_0, rf_1, rf_2]
  refine callF_weak (s' := (⟨0, [(0, .v (.bool false)), (6, .sl 1 (enc ([-1] : List Int))), (7, .sl 1 (enc ([0] : List Int))), (8, .agg [.v (.int .i64 1), .v (.int .i64 0), .v (.int .i64 0), .v (.slice none 0 0)]), (9, .sl 4 (enc ([(⟨1, 0, 0, ([] : List GIns)⟩ : GNode)] : List GNode))), (10, .agg [.sl 1 (enc ([-1] : List Int)), .sl 1 (enc ([0] : List Int)), .sl 4 (enc ([(⟨1, 0, 0, ([] : List GIns)⟩ : GNode)] : List GNode)), .v (.slice none 0 0)])], [], 0, 50⟩ : St)) (l := []) (args' := [.agg [.sl 1 (enc ([-1] : List Int)), .sl 1 (enc ([0] : List Int)), .sl 4 (enc ([(⟨1, 0, 0, ([] : List GIns)⟩ : GNode)] : List GNode)), .sl 4 (enc ([] : List GEdge))]]) ?_ ?_ (call0 (f_graph_Put_ok (⟨([-1] : List Int), ([0] : List Int), ([(⟨1, 0, 0, ([] : List GIns)⟩ : GNode)] : List GNode), ([] : List GEdge)⟩ : GGraph) v_0 ev_0) (by rfl) (by rfl) ?_)
  · simp only [go_sem, Le] <;> (repeat' apply And.intro) <;> first | (simp [go_sem]; done) | (simp [enc]; rfl)
  · simp only [go_sem, Le] <;> (repeat' apply And.intro) <;> first | (simp [go_sem]; done) | (simp [enc]; rfl)
  simp only [go_sem, Try.ntmps27, Try.results27]
  refine seqQ_normal hQ2 ?_
  refine vc_seq_gen (by kernel_rfl) ?_
  intro QQ3 hQ3
  obtain ⟨v_1, ev_1, h⟩ := bindO_some h
  simp only [go_sem, Try.ntmps27, Try.results27]
  refine call0 (f_graph_Read_ok v_0.1 v_1 ev_1) (by rfl) (by rfl) ?_
  simp only [go_sem, Try.ntmps27, Try.results27]
  refine seqQ_normal hQ3 ?_
  refine vc_seq_gen (by kernel_rfl) ?_
  intro QQ4 hQ4
  simp only [go_sem, Try.ntmps27, Try.results27]
  rcases hb_0 : ((v_0.2 == 0) && ((List.length v_0.1 : Int) == 10)) with _ | _
  ·
    replace h := if_f h hb_0
    simp only [go_sem, Try.ntmps27, Try.results27, hb_0]
    refine seqQ_normal hQ4 ?_
    refine vc_ret_of ?_
    simp only [go_sem, Try.ntmps27, Try.results27]
    obtain rfl := Option.some.inj h
    refine retW_pure rfl ?_
    simp only [go_sem, Le]
  ·
    replace h := if_t h hb_0
    obtain ⟨xv_0, exv_0, h⟩ := bindO_some h
    obtain ⟨fxv_0a, fxv_0b, fxv_0c⟩ := idx_spec exv_0
    simp only [Int.toNat_natCast, Int.reduceToNat] at fxv_0c
    simp only [go_sem, Try.ntmps27, Try.results27, hb_0, fxv_0a, fxv_0b, fxv_0c]
    refine And.intro (by omega) ?_
    rcases hb_1 : (((((UInt8.toNat xv_0 : Nat) : Int) == 1) && (v_1.2 == 0)) && ((List.length v_1.1.Nodes : Int) == 1)) with _ | _
    ·
      replace h := if_f h hb_1
      simp only [go_sem, Try.ntmps27, Try.results27, hb_1]
      refine seqQ_normal hQ4 ?_
      refine vc_ret_of ?_
      simp only [go_sem, Try.ntmps27, Try.results27]
      obtain rfl := Option.some.inj h
      refine retW_pure rfl ?_
      simp only [go_sem, Le]
    ·
      replace h := if_t h hb_1
      obtain ⟨xv_1, exv_1, h⟩ := bindO_some h
      obtain ⟨fxv_1a, fxv_1b, fxv_1c⟩ := idx_spec exv_1
      simp only [Int.toNat_natCast, Int.reduceToNat] at fxv_1c
      simp only [go_sem, Try.ntmps27, Try.results27, hb_1, fxv_1a, fxv_1b, fxv_1c]
      refine And.intro (by omega) ?_
      refine And.intro (by omega) ?_
      refine seqQ_normal hQ4 ?_
      refine vc_ret_of ?_
      simp only [go_sem, Try.ntmps27, Try.results27]
      obtain rfl := Option.some.inj h
      refine retW_pure rfl ?_
      simp only [go_sem, Le]
end Go.Proofs.Ytngeldeahafcfaa

namespace Go.Proofs.Ytngeldeahafcfaa
open Go Go.RowKit
set_option maxHeartbeats 2000000
set_option maxRecDepth 100000
set_option linter.unusedSimpArgs false
set_option linter.unusedVariables false
def f_backwashlaw08_GraphReads (b_0 : List UInt8) : Option Bool :=
  bindO (f_backwashlaw08_awake) (fun (v_0 : Bool) =>
  (if (!v_0) = true then some false
  else guardO (0 ≤ 0 ∧ 0 ≤ (min (List.length b_0 : Int) 9000) ∧ (min (List.length b_0 : Int) 9000) ≤ (List.length b_0 : Int)) (
  bindO (f_graph_Read (List.take (Int.toNat (min (List.length b_0 : Int) 9000)) b_0)) (fun (v_1 : GGraph × Int) =>
  bindO (f_backwashref08_Read (List.take (Int.toNat (min (List.length b_0 : Int) 9000)) b_0)) (fun (v_2 : GGraph × Int) =>
  bindO (f_backwashref08_Same v_1.1 v_2.1) (fun (v_3 : Bool) =>
  some (v_3 && (v_1.2 == v_2.2))))))))
theorem f_backwashlaw08_GraphReads_ok (b_0 : List UInt8)  (r : Bool) (h : f_backwashlaw08_GraphReads b_0 = some r) : PureS Try.prog 8 [.sl 1 (enc b_0)] 0 (.v (.bool r)) := by
  unfold PureS
  refine Spec.of_vc Try.func8 rfl (by kernel_rfl) (by kernel_rfl) ?_
  rw [f_backwashlaw08_GraphReads] at h
  refine vc_seq_gen (by kernel_rfl) ?_
  intro QQ1 hQ1
  simp only [go_sem, Try.ntmps8, Try.results8]
  refine seqQ_normal hQ1 ?_
  refine vc_seq_gen (by kernel_rfl) ?_
  intro QQ2 hQ2
  refine vc_seq_gen (by kernel_rfl) ?_
  intro QQ3 hQ3
  obtain ⟨v_0, ev_0, h⟩ := bindO_some h
  simp only [go_sem, Try.ntmps8, Try.results8]
  refine call0 (f_backwashlaw08_awake_ok v_0 ev_0) (by rfl) (by rfl) ?_
  simp only [go_sem, Try.ntmps8, Try.results8]
  refine seqQ_normal hQ3 ?_
  refine vc_cond_of (b := (!v_0)) (by (simp only [go_sem]; done)) (fun hb_0 => ?_) (fun hb_0 => ?_)
  ·
    replace h := if_t h hb_0
    simp only [decide_eq_true_eq, decide_eq_false_iff_not, Bool.not_eq_true', Bool.not_eq_false', beq_iff_eq, beq_eq_false_iff_ne, ne_eq, Bool.and_eq_true, Bool.or_eq_true, Int.not_lt, Int.not_le] at hb_0
    refine vc_seq_gen (by kernel_rfl) ?_
    intro QQ4 hQ4
    simp only [go_sem, Try.ntmps8, Try.results8]
    refine seqQ_normal hQ4 ?_
    refine vc_ret_of ?_
    refine seqQ_ret hQ2 ?_
    simp only [go_sem, Try.ntmps8, Try.results8]
    obtain rfl := Option.some.inj h
    refine retW_pure rfl ?_
    simp only [go_sem, Le]
  ·
    replace h := if_f h hb_0
    simp only [decide_eq_true_eq, decide_eq_false_iff_not, Bool.not_eq_true', Bool.not_eq_false', beq_iff_eq, beq_eq_false_iff_ne, ne_eq, Bool.and_eq_true, Bool.or_eq_true, Int.not_lt, Int.not_le] at hb_0
    refine vc_skip_of ?_
    refine seqQ_normal hQ2 ?_
    refine vc_seq_gen (by kernel_rfl) ?_
    intro QQ5 hQ5
    obtain ⟨g_0, h⟩ := guardO_some h
    simp only [go_sem, Try.ntmps8, Try.results8, g_0]
    refine seqQ_normal hQ5 ?_
    refine vc_seq_gen (by kernel_rfl) ?_
    intro QQ6 hQ6
    obtain ⟨v_1, ev_1, h⟩ := bindO_some h
    simp only [go_sem, Try.ntmps8, Try.results8]
    refine call0 (f_graph_Read_ok (List.take (Int.toNat (min (List.length b_0 : Int) 9000)) b_0) v_1 ev_1) (by rfl) (by rfl) ?_
    simp only [go_sem, Try.ntmps8, Try.results8]
    refine seqQ_normal hQ6 ?_
    refine vc_seq_gen (by kernel_rfl) ?_
    intro QQ7 hQ7
    obtain ⟨v_2, ev_2, h⟩ := bindO_some h
    simp only [go_sem, Try.ntmps8, Try.results8]
    refine call0 (f_backwashref08_Read_ok (List.take (Int.toNat (min (List.length b_0 : Int) 9000)) b_0) v_2 ev_2) (by rfl) (by rfl) ?_
    simp only [go_sem, Try.ntmps8, Try.results8]
    refine seqQ_normal hQ7 ?_
    refine vc_seq_gen (by kernel_rfl) ?_
    intro QQ8 hQ8
    obtain ⟨v_3, ev_3, h⟩ := bindO_some h
    simp only [go_sem, Try.ntmps8, Try.results8]
    refine call0 (f_backwashref08_Same_ok v_1.1 v_2.1 v_3 ev_3) (by rfl) (by rfl) ?_
    simp only [go_sem, Try.ntmps8, Try.results8]
    refine seqQ_normal hQ8 ?_
    refine vc_ret_of ?_
    simp only [go_sem, Try.ntmps8, Try.results8]
    obtain rfl := Option.some.inj h
    refine retW_pure rfl ?_
    simp only [go_sem, Le]
end Go.Proofs.Ytngeldeahafcfaa

