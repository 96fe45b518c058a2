/-
  What functions of the program compute, each told as a plain function that may give nothing, with the proof that the code does so. No condition beyond those that each theorem names.
-/
import Derived.Test.YtfjjpdjnpmajlaaWalkQO0
set_option linter.unusedSimpArgs false
set_option linter.unusedVariables false
namespace Go.Proofs.Ytfjjpdjnpmajlaa
open Go Go.RowKit
set_option maxHeartbeats 2000000
set_option maxRecDepth 100000
set_option linter.unusedSimpArgs false
set_option linter.unusedVariables false
noncomputable def f_backwashlaw32_QueryOrder_J3 (rows_0 : List GRow) (measure_0 : Int) (v_1 : List GRow) (k_49 : Int) (rec_2 : (Int → Option Bool)) (found_12 : Bool) : Option Bool :=
  (if found_12 = true then rec_2 (IntKind.i64.wrap (k_49 + 1))
  else bindO (idx (List.take (Int.toNat (min (List.length rows_0 : Int) 100)) rows_0) k_49) (fun (xv_144 : GRow) =>
  bindO (f_backwashref32_Measure xv_144 measure_0) (fun (v_12 : Int) =>
  bindO (idx v_1 (IntKind.i64.wrap ((List.length v_1 : Int) - 1))) (fun (xv_145 : GRow) =>
  bindO (f_backwashref32_Measure xv_145 measure_0) (fun (v_13 : Int) =>
  (if (decide (v_13 < v_12)) = true then some false
  else rec_2 (IntKind.i64.wrap (k_49 + 1))))))))
noncomputable def f_backwashlaw32_QueryOrder_B4 (rows_0 : List GRow) (measure_0 : Int) (v_1 : List GRow) (k_49 : Int) (rec_2 : (Int → Option Bool)) (rec_4 : Bool × Int → Option Bool) : Bool × Int → Option Bool :=
  fun (found_14, i_13) =>
  (if (decide (i_13 < (List.length v_1 : Int))) = true then (if found_14 = true then rec_4 (true, IntKind.i64.wrap (i_13 + 1))
  else bindO (idx v_1 i_13) (fun (xv_150 : GRow) =>
  bindO (idx (List.take (Int.toNat (min (List.length rows_0 : Int) 100)) rows_0) k_49) (fun (xv_151 : GRow) =>
  rec_4 (((xv_150.K == xv_151.K) && ((xv_150.Many == xv_151.Many) && ((xv_150.Least == xv_151.Least) && ((xv_150.Top == xv_151.Top) && ((xv_150.Sum == xv_151.Sum) && (xv_150.Sure == xv_151.Sure)))))), IntKind.i64.wrap (i_13 + 1)))))
  else f_backwashlaw32_QueryOrder_J3 rows_0 measure_0 v_1 k_49 rec_2 found_14)
noncomputable def f_backwashlaw32_QueryOrder_B2 (rows_0 : List GRow) (measure_0 : Int) (v_1 : List GRow) (rec_2 : Int → Option Bool) : Int → Option Bool :=
  fun k_49 =>
  (if ((decide (k_49 < (List.length (List.take (Int.toNat (min (List.length rows_0 : Int) 100)) rows_0) : Int))) && (decide (0 < (List.length v_1 : Int)))) = true then loopK (f_backwashlaw32_QueryOrder_B4 rows_0 measure_0 v_1 k_49 rec_2) rounds (false, 0)
  else some true)
noncomputable def f_backwashlaw32_QueryOrder_J1 (rows_0 : List GRow) (measure_0 : Int) (v_1 : List GRow) : Option Bool :=
  loopK (f_backwashlaw32_QueryOrder_B2 rows_0 measure_0 v_1) rounds 0
noncomputable def f_backwashlaw32_QueryOrder_J7 (i_15 : Int) (rec_5 : (Int → Option Bool)) (inv_52 : Int) (out_52 : Int) : Option Bool :=
  (if (decide (inv_52 < out_52)) = true then some false
  else rec_5 (IntKind.i64.wrap (i_15 + 1)))
noncomputable def f_backwashlaw32_QueryOrder_B8 (v_1 : List GRow) (i_15 : Int) (rec_5 : (Int → Option Bool)) (inv_52 : Int) (rec_8 : Int × Int → Option Bool) : Int × Int → Option Bool :=
  fun (out_54, k_87) =>
  (if (decide (k_87 < (List.length v_1 : Int))) = true then bindO (idx v_1 k_87) (fun (xv_240 : GRow) =>
  bindO (idx v_1 i_15) (fun (xv_241 : GRow) =>
  (if ((xv_240.K == xv_241.K) && ((xv_240.Many == xv_241.Many) && ((xv_240.Least == xv_241.Least) && ((xv_240.Top == xv_241.Top) && ((xv_240.Sum == xv_241.Sum) && (xv_240.Sure == xv_241.Sure)))))) = true then rec_8 (IntKind.i64.wrap (out_54 + 1), IntKind.i64.wrap (k_87 + 1))
  else rec_8 (out_54, IntKind.i64.wrap (k_87 + 1)))))
  else f_backwashlaw32_QueryOrder_J7 i_15 rec_5 inv_52 out_54)
noncomputable def f_backwashlaw32_QueryOrder_J6 (v_1 : List GRow) (i_15 : Int) (rec_5 : (Int → Option Bool)) (inv_52 : Int) : Option Bool :=
  loopK (f_backwashlaw32_QueryOrder_B8 v_1 i_15 rec_5 inv_52) rounds (0, 0)
noncomputable def f_backwashlaw32_QueryOrder_B9 (rows_0 : List GRow) (v_1 : List GRow) (i_15 : Int) (rec_5 : (Int → Option Bool)) (rec_9 : Int × Int → Option Bool) : Int × Int → Option Bool :=
  fun (inv_54, k_89) =>
  (if (decide (k_89 < (List.length (List.take (Int.toNat (min (List.length rows_0 : Int) 100)) rows_0) : Int))) = true then bindO (idx (List.take (Int.toNat (min (List.length rows_0 : Int) 100)) rows_0) k_89) (fun (xv_246 : GRow) =>
  bindO (idx v_1 i_15) (fun (xv_247 : GRow) =>
  (if ((xv_246.K == xv_247.K) && ((xv_246.Many == xv_247.Many) && ((xv_246.Least == xv_247.Least) && ((xv_246.Top == xv_247.Top) && ((xv_246.Sum == xv_247.Sum) && (xv_246.Sure == xv_247.Sure)))))) = true then rec_9 (IntKind.i64.wrap (inv_54 + 1), IntKind.i64.wrap (k_89 + 1))
  else rec_9 (inv_54, IntKind.i64.wrap (k_89 + 1)))))
  else f_backwashlaw32_QueryOrder_J6 v_1 i_15 rec_5 inv_54)
noncomputable def f_backwashlaw32_QueryOrder_J11 (i_15 : Int) (rec_5 : (Int → Option Bool)) (inv_57 : Int) (out_57 : Int) : Option Bool :=
  (if (decide (inv_57 < out_57)) = true then some false
  else rec_5 (IntKind.i64.wrap (i_15 + 1)))
noncomputable def f_backwashlaw32_QueryOrder_B12 (v_1 : List GRow) (i_15 : Int) (rec_5 : (Int → Option Bool)) (xv_249 : GRow) (inv_57 : Int) (rec_12 : Int × Int → Option Bool) : Int × Int → Option Bool :=
  fun (out_59, k_95) =>
  (if (decide (k_95 < (List.length v_1 : Int))) = true then bindO (idx v_1 k_95) (fun (xv_258 : GRow) =>
  (if ((xv_258.K == xv_249.K) && ((xv_258.Many == xv_249.Many) && ((xv_258.Least == xv_249.Least) && ((xv_258.Top == xv_249.Top) && ((xv_258.Sum == xv_249.Sum) && (xv_258.Sure == xv_249.Sure)))))) = true then rec_12 (IntKind.i64.wrap (out_59 + 1), IntKind.i64.wrap (k_95 + 1))
  else rec_12 (out_59, IntKind.i64.wrap (k_95 + 1))))
  else f_backwashlaw32_QueryOrder_J11 i_15 rec_5 inv_57 out_59)
noncomputable def f_backwashlaw32_QueryOrder_J10 (v_1 : List GRow) (i_15 : Int) (rec_5 : (Int → Option Bool)) (xv_249 : GRow) (inv_57 : Int) : Option Bool :=
  loopK (f_backwashlaw32_QueryOrder_B12 v_1 i_15 rec_5 xv_249 inv_57) rounds (0, 0)
noncomputable def f_backwashlaw32_QueryOrder_B13 (rows_0 : List GRow) (v_1 : List GRow) (i_15 : Int) (rec_5 : (Int → Option Bool)) (xv_249 : GRow) (rec_13 : Int × Int → Option Bool) : Int × Int → Option Bool :=
  fun (inv_59, k_97) =>
  (if (decide (k_97 < (List.length (List.take (Int.toNat (min (List.length rows_0 : Int) 100)) rows_0) : Int))) = true then bindO (idx (List.take (Int.toNat (min (List.length rows_0 : Int) 100)) rows_0) k_97) (fun (xv_261 : GRow) =>
  (if ((xv_261.K == xv_249.K) && ((xv_261.Many == xv_249.Many) && ((xv_261.Least == xv_249.Least) && ((xv_261.Top == xv_249.Top) && ((xv_261.Sum == xv_249.Sum) && (xv_261.Sure == xv_249.Sure)))))) = true then rec_13 (IntKind.i64.wrap (inv_59 + 1), IntKind.i64.wrap (k_97 + 1))
  else rec_13 (inv_59, IntKind.i64.wrap (k_97 + 1))))
  else f_backwashlaw32_QueryOrder_J10 v_1 i_15 rec_5 xv_249 inv_59)
noncomputable def f_backwashlaw32_QueryOrder_B5 (rows_0 : List GRow) (measure_0 : Int) (v_1 : List GRow) (rec_5 : Int → Option Bool) : Int → Option Bool :=
  fun i_15 =>
  (if (decide (i_15 < (List.length v_1 : Int))) = true then (if (decide (0 < i_15)) = true then bindO (idx v_1 (IntKind.i64.wrap (i_15 - 1))) (fun (xv_248 : GRow) =>
  bindO (f_backwashref32_Measure xv_248 measure_0) (fun (v_18 : Int) =>
  bindO (idx v_1 i_15) (fun (xv_249 : GRow) =>
  bindO (f_backwashref32_Measure xv_249 measure_0) (fun (v_19 : Int) =>
  (if (decide (v_18 < v_19)) = true then some false
  else loopK (f_backwashlaw32_QueryOrder_B13 rows_0 v_1 i_15 rec_5 xv_249) rounds (0, 0))))))
  else loopK (f_backwashlaw32_QueryOrder_B9 rows_0 v_1 i_15 rec_5) rounds (0, 0))
  else f_backwashlaw32_QueryOrder_J1 rows_0 measure_0 v_1)
noncomputable def f_backwashlaw32_QueryOrder (rows_0 : List GRow) (measure_0 : Int) (many_0 : Int) : Option Bool :=
  bindO (f_backwashlaw32_awake) (fun (v_0 : Bool) =>
  (if (!v_0) = true then some false
  else guardO (0 ≤ 0 ∧ 0 ≤ (min (List.length rows_0 : Int) 100) ∧ (min (List.length rows_0 : Int) 100) ≤ (List.length rows_0 : Int)) (
  bindO (f_query_First (List.take (Int.toNat (min (List.length rows_0 : Int) 100)) rows_0) measure_0 many_0) (fun (v_1 : List GRow) =>
  (if (((decide (measure_0 < 0)) || (decide (3 < measure_0))) || (decide (many_0 < 1))) = true then some ((List.length v_1 : Int) == 0)
  else (if (!((List.length v_1 : Int) == (min (List.length (List.take (Int.toNat (min (List.length rows_0 : Int) 100)) rows_0) : Int) many_0))) = true then some false
  else loopK (f_backwashlaw32_QueryOrder_B5 rows_0 measure_0 v_1) rounds 0))))))
theorem f_backwashlaw32_QueryOrder_ok (rows_0 : List GRow) (measure_0 : Int) (many_0 : Int)  (r : Bool) (h : f_backwashlaw32_QueryOrder rows_0 measure_0 many_0 = some r) : PureS Try.prog 7 [.sl 6 (enc rows_0), .v (.int .i64 measure_0), .v (.int .i64 many_0)] 0 (.v (.bool r)) := by
  unfold PureS
  refine Spec.of_vc Try.func7 rfl (by kernel_rfl) (by kernel_rfl) ?_
  rw [f_backwashlaw32_QueryOrder] at h
  refine vc_seq_gen (by kernel_rfl) ?_
  intro QQ1 hQ1
  simp only [go_sem, Try.ntmps7, Try.results7]
  refine seqQ_normal hQ1 ?_
  refine vc_seq_gen (by kernel_rfl) ?_
  intro QQ2 hQ2
  refine vc_seq_gen (by kernel_rfl) ?_
  intro QQ3 hQ3
  obtain ⟨v_0, ev_0, h⟩ := bindO_some h
  simp only [go_sem, Try.ntmps7, Try.results7]
  refine call0 (f_backwashlaw32_awake_ok v_0 ev_0) (by rfl) (by rfl) ?_
  simp only [go_sem, Try.ntmps7, Try.results7]
  refine seqQ_normal hQ3 ?_
  refine vc_cond_of (b := (!v_0)) (by (simp only [go_sem]; done)) (fun hb_0 => ?_) (fun hb_0 => ?_)
  ·
    replace h := if_t h hb_0
    simp only [decide_eq_true_eq, decide_eq_false_iff_not, Bool.not_eq_true', Bool.not_eq_false', beq_iff_eq, beq_eq_false_iff_ne, ne_eq, Bool.and_eq_true, Bool.or_eq_true, Int.not_lt, Int.not_le] at hb_0
    refine vc_seq_gen (by kernel_rfl) ?_
    intro QQ4 hQ4
    simp only [go_sem, Try.ntmps7, Try.results7]
    refine seqQ_normal hQ4 ?_
    refine vc_ret_of ?_
    refine seqQ_ret hQ2 ?_
    simp only [go_sem, Try.ntmps7, Try.results7]
    obtain rfl := Option.some.inj h
    refine retW_pure rfl ?_
    simp only [go_sem, Le]
  ·
    replace h := if_f h hb_0
    simp only [decide_eq_true_eq, decide_eq_false_iff_not, Bool.not_eq_true', Bool.not_eq_false', beq_iff_eq, beq_eq_false_iff_ne, ne_eq, Bool.and_eq_true, Bool.or_eq_true, Int.not_lt, Int.not_le] at hb_0
    refine vc_skip_of ?_
    refine seqQ_normal hQ2 ?_
    refine vc_seq_gen (by kernel_rfl) ?_
    intro QQ5 hQ5
    obtain ⟨g_0, h⟩ := guardO_some h
    simp only [go_sem, Try.ntmps7, Try.results7, g_0]
    refine seqQ_normal hQ5 ?_
    refine vc_seq_gen (by kernel_rfl) ?_
    intro QQ6 hQ6
    obtain ⟨v_1, ev_1, h⟩ := bindO_some h
    simp only [go_sem, Try.ntmps7, Try.results7]
    refine call0 (f_query_First_ok (List.take (Int.toNat (min (List.length rows_0 : Int) 100)) rows_0) measure_0 many_0 v_1 ev_1) (by rfl) (by rfl) ?_
    simp only [go_sem, Try.ntmps7, Try.results7]
    refine seqQ_normal hQ6 ?_
    refine vc_seq_gen (by kernel_rfl) ?_
    intro QQ7 hQ7
    refine vc_seq_gen (by kernel_rfl) ?_
    intro QQ8 hQ8
    simp only [go_sem, Try.ntmps7, Try.results7]
    refine seqQ_normal hQ8 ?_
    refine vc_cond_of (b := (((decide (measure_0 < 0)) || (decide (3 < measure_0))) || (decide (many_0 < 1)))) (by (simp only [go_sem]; done)) (fun hb_1 => ?_) (fun hb_1 => ?_)
    ·
      replace h := if_t h hb_1
      simp only [decide_eq_true_eq, decide_eq_false_iff_not, Bool.not_eq_true', Bool.not_eq_false', beq_iff_eq, beq_eq_false_iff_ne, ne_eq, Bool.and_eq_true, Bool.or_eq_true, Int.not_lt, Int.not_le] at hb_1
      refine vc_seq_gen (by kernel_rfl) ?_
      intro QQ9 hQ9
      simp only [go_sem, Try.ntmps7, Try.results7]
      refine seqQ_normal hQ9 ?_
      refine vc_ret_of ?_
      refine seqQ_ret hQ7 ?_
      simp only [go_sem, Try.ntmps7, Try.results7]
      obtain rfl := Option.some.inj h
      refine retW_pure rfl ?_
      simp only [go_sem, Le]
    ·
      replace h := if_f h hb_1
      refine vc_skip_of ?_
      refine seqQ_normal hQ7 ?_
      refine vc_seq_gen (by kernel_rfl) ?_
      intro QQ10 hQ10
      refine vc_seq_gen (by kernel_rfl) ?_
      intro QQ11 hQ11
      simp only [go_sem, Try.ntmps7, Try.results7]
      refine seqQ_normal hQ11 ?_
      refine vc_cond_of (b := (!((List.length v_1 : Int) == (min (List.length (List.take (Int.toNat (min (List.length rows_0 : Int) 100)) rows_0) : Int) many_0)))) (by (simp only [go_sem]; done)) (fun hb_2 => ?_) (fun hb_2 => ?_)
      ·
        replace h := if_t h hb_2
        simp only [decide_eq_true_eq, decide_eq_false_iff_not, Bool.not_eq_true', Bool.not_eq_false', beq_iff_eq, beq_eq_false_iff_ne, ne_eq, Bool.and_eq_true, Bool.or_eq_true, Int.not_lt, Int.not_le] at hb_2
        refine vc_seq_gen (by kernel_rfl) ?_
        intro QQ12 hQ12
        simp only [go_sem, Try.ntmps7, Try.results7]
        refine seqQ_normal hQ12 ?_
        refine vc_ret_of ?_
        refine seqQ_ret hQ10 ?_
        simp only [go_sem, Try.ntmps7, Try.results7]
        obtain rfl := Option.some.inj h
        refine retW_pure rfl ?_
        simp only [go_sem, Le]
      ·
        replace h := if_f h hb_2
        simp only [decide_eq_true_eq, decide_eq_false_iff_not, Bool.not_eq_true', Bool.not_eq_false', beq_iff_eq, beq_eq_false_iff_ne, ne_eq, Bool.and_eq_true, Bool.or_eq_true, Int.not_lt, Int.not_le] at hb_2
        refine vc_skip_of ?_
        refine seqQ_normal hQ10 ?_
        refine vc_join (by kernel_rfl) ?_
        refine seq_cut_gen (ι := Unit) (fun (_ : Unit) => (⟨0, [(0, .sl 6 (enc (List.take (Int.toNat (min (List.length rows_0 : Int) 100)) rows_0))), (1, .v (.int .i64 measure_0)), (7, .sl 6 (enc v_1))], [], 0, 156⟩ : St)) (fun (_ : Unit) => f_backwashlaw32_QueryOrder_J1 rows_0 measure_0 v_1 = some r) ?_ ?_
        ·
          intro QQ33 hQ33
          refine vc_seq_gen (by kernel_rfl) ?_
          intro QQ34 hQ34
          simp only [go_sem, Try.ntmps7, Try.results7]
          refine seqQ_normal hQ34 ?_
          refine vc_block_gen ?_
          intro QQ35 hQ35
          refine vc_loop_of ?_
          refine loop_gen (ι := Nat × Int) (fun ((_, i_15) : Nat × Int) => (⟨0, [(0, .sl 6 (enc (List.take (Int.toNat (min (List.length rows_0 : Int) 100)) rows_0))), (1, .v (.int .i64 measure_0)), (7, .sl 6 (enc v_1)), (8, .v (.int .i64 i_15))], [], 0, 156⟩ : St)) (fun ((n_, i_15) : Nat × Int) => loopK (f_backwashlaw32_QueryOrder_B5 rows_0 measure_0 v_1) n_ i_15 = some r) (fun p => p.1) (rounds, 0) [] ?_ h ?_
          · simp only [go_sem, Le]
          · rintro ⟨n_5, i_15⟩ h QQ36 hQ36
            dsimp only at h
            replace h := loopK_some h
            obtain ⟨m_5, rfl, h⟩ := h
            rw [f_backwashlaw32_QueryOrder_B5] at h
            refine vc_seq_gen (by kernel_rfl) ?_
            intro QQ37 hQ37
            refine vc_seq_gen (by kernel_rfl) ?_
            intro QQ38 hQ38
            simp only [go_sem, Try.ntmps7, Try.results7]
            refine seqQ_normal hQ38 ?_
            refine vc_cond_of (b := (decide (i_15 < (List.length v_1 : Int)))) (by (simp only [go_sem]; done)) (fun hb_307 => ?_) (fun hb_307 => ?_)
            ·
              replace h := if_t h hb_307
              simp only [decide_eq_true_eq, decide_eq_false_iff_not, Bool.not_eq_true', Bool.not_eq_false', beq_iff_eq, beq_eq_false_iff_ne, ne_eq, Bool.and_eq_true, Bool.or_eq_true, Int.not_lt, Int.not_le] at hb_307
              refine vc_skip_of ?_
              refine seqQ_normal hQ37 ?_
              refine vc_join (by kernel_rfl) ?_
              refine seq_go_gen ?_
              intro QQ39 hQ39
              refine vc_block_gen ?_
              intro QQ40 hQ40
              refine vc_seq_gen (by kernel_rfl) ?_
              intro QQ41 hQ41
              refine vc_seq_gen (by kernel_rfl) ?_
              intro QQ42 hQ42
              refine vc_draw ?_
              refine drawM_tail 15 [0, 1, 3, 7, 7, 23, 63, 127, 7, 511, 7, 7, 3079, 7175, 7, 32767, 65535, 131071] mixed (by kernel_rfl) (of_decide_eq_true (by kernel_rfl)) (by kernel_rfl) ?_
              simp only [go_sem, Try.ntmps7, Try.results7]
              rcases hb_308 : (decide (0 < i_15)) with _ | _
              ·
                replace h := if_f h hb_308
                simp only [go_sem, Try.ntmps7, Try.results7, hb_308]
                refine seqQ_normal hQ42 ?_
                refine vc_cond_f (by (simp only [go_sem]; done)) ?_
                refine vc_skip_of ?_
                refine seqQ_normal hQ41 ?_
                refine vc_seq_gen (by kernel_rfl) ?_
                intro QQ43 hQ43
                simp only [go_sem, Try.ntmps7, Try.results7]
                refine seqQ_normal hQ43 ?_
                refine vc_join (by kernel_rfl) ?_
                refine seq_cut_gen (ι := Int) (fun (inv_52 : Int) => (⟨0, [(0, .sl 6 (enc (List.take (Int.toNat (min (List.length rows_0 : Int) 100)) rows_0))), (1, .v (.int .i64 measure_0)), (7, .sl 6 (enc v_1)), (8, .v (.int .i64 i_15)), (9, .v (.int .i64 inv_52)), (10, .v (.int .i64 0))], [], 0, 156⟩ : St)) (fun (inv_52 : Int) => f_backwashlaw32_QueryOrder_J6 v_1 i_15 (loopK (f_backwashlaw32_QueryOrder_B5 rows_0 measure_0 v_1) m_5) inv_52 = some r) ?_ ?_
                ·
                  intro QQ55 hQ55
                  refine vc_seq_gen (by kernel_rfl) ?_
                  intro QQ56 hQ56
                  simp only [go_sem, Try.ntmps7, Try.results7]
                  refine seqQ_normal hQ56 ?_
                  refine vc_block_gen ?_
                  intro QQ57 hQ57
                  refine vc_loop_of ?_
                  refine loop_gen (ι := Nat × Int × Int) (fun ((_, inv_54, k_89) : Nat × Int × Int) => (⟨0, [(0, .sl 6 (enc (List.take (Int.toNat (min (List.length rows_0 : Int) 100)) rows_0))), (1, .v (.int .i64 measure_0)), (7, .sl 6 (enc v_1)), (8, .v (.int .i64 i_15)), (9, .v (.int .i64 inv_54)), (10, .v (.int .i64 0)), (11, .v (.int .i64 k_89))], [], 0, 156⟩ : St)) (fun ((n_, inv_54, k_89) : Nat × Int × Int) => loopK (f_backwashlaw32_QueryOrder_B9 rows_0 v_1 i_15 (loopK (f_backwashlaw32_QueryOrder_B5 rows_0 measure_0 v_1) m_5)) n_ (inv_54, k_89) = some r) (fun p => p.1) (rounds, 0, 0) [] ?_ h ?_
                  · simp only [go_sem, Le]
                  · rintro ⟨n_9, inv_54, k_89⟩ h QQ58 hQ58
                    dsimp only at h
                    replace h := loopK_some h
                    obtain ⟨m_9, rfl, h⟩ := h
                    rw [f_backwashlaw32_QueryOrder_B9] at h
                    refine vc_seq_gen (by kernel_rfl) ?_
                    intro QQ59 hQ59
                    refine vc_seq_gen (by kernel_rfl) ?_
                    intro QQ60 hQ60
                    simp only [go_sem, Try.ntmps7, Try.results7]
                    refine seqQ_normal hQ60 ?_
                    refine vc_cond_of (b := (decide (k_89 < (List.length (List.take (Int.toNat (min (List.length rows_0 : Int) 100)) rows_0) : Int)))) (by (simp only [go_sem]; done)) (fun hb_332 => ?_) (fun hb_332 => ?_)
                    ·
                      replace h := if_t h hb_332
                      simp only [decide_eq_true_eq, decide_eq_false_iff_not, Bool.not_eq_true', Bool.not_eq_false', beq_iff_eq, beq_eq_false_iff_ne, ne_eq, Bool.and_eq_true, Bool.or_eq_true, Int.not_lt, Int.not_le] at hb_332
                      refine vc_skip_of ?_
                      refine seqQ_normal hQ59 ?_
                      refine vc_join (by kernel_rfl) ?_
                      refine seq_go_gen ?_
                      intro QQ61 hQ61
                      refine vc_block_gen ?_
                      intro QQ62 hQ62
                      refine vc_seq_gen (by kernel_rfl) ?_
                      intro QQ63 hQ63
                      refine vc_draw ?_
                      refine drawM_tail 8 [0, 0, 3, 7, 0, 0, 48, 112, 255] mixed (by kernel_rfl) (of_decide_eq_true (by kernel_rfl)) (by kernel_rfl) ?_
                      obtain ⟨xv_246, exv_246, h⟩ := bindO_some h
                      obtain ⟨fxv_246a, fxv_246b, fxv_246c⟩ := idx_spec exv_246
                      obtain ⟨xv_247, exv_247, h⟩ := bindO_some h
                      obtain ⟨fxv_247a, fxv_247b, fxv_247c⟩ := idx_spec exv_247
                      simp only [go_sem, Try.ntmps7, Try.results7, fxv_246a, fxv_246b, fxv_246c, fxv_247a, fxv_247b, fxv_247c]
                      refine And.intro (by omega) ?_
                      refine And.intro (by omega) ?_
                      refine seqQ_normal hQ63 ?_
                      refine vc_cond_of (b := ((xv_246.K == xv_247.K) && ((xv_246.Many == xv_247.Many) && ((xv_246.Least == xv_247.Least) && ((xv_246.Top == xv_247.Top) && ((xv_246.Sum == xv_247.Sum) && (xv_246.Sure == xv_247.Sure))))))) (by (simp only [go_sem]; done)) (fun hb_333 => ?_) (fun hb_333 => ?_)
                      ·
                        replace h := if_t h hb_333
                        simp only [decide_eq_true_eq, decide_eq_false_iff_not, Bool.not_eq_true', Bool.not_eq_false', beq_iff_eq, beq_eq_false_iff_ne, ne_eq, Bool.and_eq_true, Bool.or_eq_true, Int.not_lt, Int.not_le] at hb_333
                        simp only [go_sem, Try.ntmps7, Try.results7]
                        refine blockQ_normal hQ62 ?_
                        refine seqQ_normal hQ61 ?_
                        simp only [go_sem, Try.ntmps7, Try.results7]
                        refine thenQ_normal hQ58 ?_
                        refine ⟨(m_9, IntKind.i64.wrap (inv_54 + 1), IntKind.i64.wrap (k_89 + 1)), [], ?_, h, Nat.lt_succ_self _⟩
                        simp only [go_sem, Le]
                      ·
                        replace h := if_f h hb_333
                        refine vc_skip_of ?_
                        refine blockQ_normal hQ62 ?_
                        refine seqQ_normal hQ61 ?_
                        simp only [go_sem, Try.ntmps7, Try.results7]
                        refine thenQ_normal hQ58 ?_
                        refine ⟨(m_9, inv_54, IntKind.i64.wrap (k_89 + 1)), [], ?_, h, Nat.lt_succ_self _⟩
                        simp only [go_sem, Le]
                    ·
                      replace h := if_f h hb_332
                      simp only [decide_eq_true_eq, decide_eq_false_iff_not, Bool.not_eq_true', Bool.not_eq_false', beq_iff_eq, beq_eq_false_iff_ne, ne_eq, Bool.and_eq_true, Bool.or_eq_true, Int.not_lt, Int.not_le] at hb_332
                      refine vc_exit_of ?_
                      refine seqQ_exit hQ59 ?_
                      refine thenQ_exit hQ58 ?_
                      refine blockQ_exit hQ57 ?_
                      refine thenQ_normal hQ55 ?_
                      refine ⟨inv_54, [], ?_, h⟩
                      simp only [go_sem, Le]
                · rintro inv_52 h
                  try dsimp only at h
                  rw [f_backwashlaw32_QueryOrder_J6] at h
                  refine vc_join (by kernel_rfl) ?_
                  refine seq_cut_gen (ι := Int) (fun (out_52 : Int) => (⟨0, [(0, .sl 6 (enc (List.take (Int.toNat (min (List.length rows_0 : Int) 100)) rows_0))), (1, .v (.int .i64 measure_0)), (7, .sl 6 (enc v_1)), (8, .v (.int .i64 i_15)), (9, .v (.int .i64 inv_52)), (10, .v (.int .i64 out_52))], [], 0, 156⟩ : St)) (fun (out_52 : Int) => f_backwashlaw32_QueryOrder_J7 i_15 (loopK (f_backwashlaw32_QueryOrder_B5 rows_0 measure_0 v_1) m_5) inv_52 out_52 = some r) ?_ ?_
                  ·
                    intro QQ46 hQ46
                    refine vc_seq_gen (by kernel_rfl) ?_
                    intro QQ47 hQ47
                    simp only [go_sem, Try.ntmps7, Try.results7]
                    refine seqQ_normal hQ47 ?_
                    refine vc_block_gen ?_
                    intro QQ48 hQ48
                    refine vc_loop_of ?_
                    refine loop_gen (ι := Nat × Int × Int) (fun ((_, out_54, k_87) : Nat × Int × Int) => (⟨0, [(0, .sl 6 (enc (List.take (Int.toNat (min (List.length rows_0 : Int) 100)) rows_0))), (1, .v (.int .i64 measure_0)), (7, .sl 6 (enc v_1)), (8, .v (.int .i64 i_15)), (9, .v (.int .i64 inv_52)), (10, .v (.int .i64 out_54)), (12, .v (.int .i64 k_87))], [], 0, 156⟩ : St)) (fun ((n_, out_54, k_87) : Nat × Int × Int) => loopK (f_backwashlaw32_QueryOrder_B8 v_1 i_15 (loopK (f_backwashlaw32_QueryOrder_B5 rows_0 measure_0 v_1) m_5) inv_52) n_ (out_54, k_87) = some r) (fun p => p.1) (rounds, 0, 0) [] ?_ h ?_
                    · simp only [go_sem, Le]
                    · rintro ⟨n_8, out_54, k_87⟩ h QQ49 hQ49
                      dsimp only at h
                      replace h := loopK_some h
                      obtain ⟨m_8, rfl, h⟩ := h
                      rw [f_backwashlaw32_QueryOrder_B8] at h
                      refine vc_seq_gen (by kernel_rfl) ?_
                      intro QQ50 hQ50
                      refine vc_seq_gen (by kernel_rfl) ?_
                      intro QQ51 hQ51
                      simp only [go_sem, Try.ntmps7, Try.results7]
                      refine seqQ_normal hQ51 ?_
                      refine vc_cond_of (b := (decide (k_87 < (List.length v_1 : Int)))) (by (simp only [go_sem]; done)) (fun hb_326 => ?_) (fun hb_326 => ?_)
                      ·
                        replace h := if_t h hb_326
                        simp only [decide_eq_true_eq, decide_eq_false_iff_not, Bool.not_eq_true', Bool.not_eq_false', beq_iff_eq, beq_eq_false_iff_ne, ne_eq, Bool.and_eq_true, Bool.or_eq_true, Int.not_lt, Int.not_le] at hb_326
                        refine vc_skip_of ?_
                        refine seqQ_normal hQ50 ?_
                        refine vc_join (by kernel_rfl) ?_
                        refine seq_go_gen ?_
                        intro QQ52 hQ52
                        refine vc_block_gen ?_
                        intro QQ53 hQ53
                        refine vc_seq_gen (by kernel_rfl) ?_
                        intro QQ54 hQ54
                        refine vc_draw ?_
                        refine drawM_tail 8 [0, 0, 3, 7, 0, 0, 48, 112, 255] mixed (by kernel_rfl) (of_decide_eq_true (by kernel_rfl)) (by kernel_rfl) ?_
                        obtain ⟨xv_240, exv_240, h⟩ := bindO_some h
                        obtain ⟨fxv_240a, fxv_240b, fxv_240c⟩ := idx_spec exv_240
                        obtain ⟨xv_241, exv_241, h⟩ := bindO_some h
                        obtain ⟨fxv_241a, fxv_241b, fxv_241c⟩ := idx_spec exv_241
                        simp only [go_sem, Try.ntmps7, Try.results7, fxv_240a, fxv_240b, fxv_240c, fxv_241a, fxv_241b, fxv_241c]
                        refine And.intro (by omega) ?_
                        refine And.intro (by omega) ?_
                        refine seqQ_normal hQ54 ?_
                        refine vc_cond_of (b := ((xv_240.K == xv_241.K) && ((xv_240.Many == xv_241.Many) && ((xv_240.Least == xv_241.Least) && ((xv_240.Top == xv_241.Top) && ((xv_240.Sum == xv_241.Sum) && (xv_240.Sure == xv_241.Sure))))))) (by (simp only [go_sem]; done)) (fun hb_327 => ?_) (fun hb_327 => ?_)
                        ·
                          replace h := if_t h hb_327
                          simp only [decide_eq_true_eq, decide_eq_false_iff_not, Bool.not_eq_true', Bool.not_eq_false', beq_iff_eq, beq_eq_false_iff_ne, ne_eq, Bool.and_eq_true, Bool.or_eq_true, Int.not_lt, Int.not_le] at hb_327
                          simp only [go_sem, Try.ntmps7, Try.results7]
                          refine blockQ_normal hQ53 ?_
                          refine seqQ_normal hQ52 ?_
                          simp only [go_sem, Try.ntmps7, Try.results7]
                          refine thenQ_normal hQ49 ?_
                          refine ⟨(m_8, IntKind.i64.wrap (out_54 + 1), IntKind.i64.wrap (k_87 + 1)), [], ?_, h, Nat.lt_succ_self _⟩
                          simp only [go_sem, Le]
                        ·
                          replace h := if_f h hb_327
                          refine vc_skip_of ?_
                          refine blockQ_normal hQ53 ?_
                          refine seqQ_normal hQ52 ?_
                          simp only [go_sem, Try.ntmps7, Try.results7]
                          refine thenQ_normal hQ49 ?_
                          refine ⟨(m_8, out_54, IntKind.i64.wrap (k_87 + 1)), [], ?_, h, Nat.lt_succ_self _⟩
                          simp only [go_sem, Le]
                      ·
                        replace h := if_f h hb_326
                        simp only [decide_eq_true_eq, decide_eq_false_iff_not, Bool.not_eq_true', Bool.not_eq_false', beq_iff_eq, beq_eq_false_iff_ne, ne_eq, Bool.and_eq_true, Bool.or_eq_true, Int.not_lt, Int.not_le] at hb_326
                        refine vc_exit_of ?_
                        refine seqQ_exit hQ50 ?_
                        refine thenQ_exit hQ49 ?_
                        refine blockQ_exit hQ48 ?_
                        refine thenQ_normal hQ46 ?_
                        refine ⟨out_54, [], ?_, h⟩
                        simp only [go_sem, Le]
                  · rintro out_52 h
                    try dsimp only at h
                    rw [f_backwashlaw32_QueryOrder_J7] at h
                    refine vc_seq_gen (by kernel_rfl) ?_
                    intro QQ44 hQ44
                    simp only [go_sem, Try.ntmps7, Try.results7]
                    refine seqQ_normal hQ44 ?_
                    refine vc_cond_of (b := (decide (inv_52 < out_52))) (by (simp only [go_sem]; done)) (fun hb_321 => ?_) (fun hb_321 => ?_)
                    ·
                      replace h := if_t h hb_321
                      simp only [decide_eq_true_eq, decide_eq_false_iff_not, Bool.not_eq_true', Bool.not_eq_false', beq_iff_eq, beq_eq_false_iff_ne, ne_eq, Bool.and_eq_true, Bool.or_eq_true, Int.not_lt, Int.not_le] at hb_321
                      refine vc_seq_gen (by kernel_rfl) ?_
                      intro QQ45 hQ45
                      simp only [go_sem, Try.ntmps7, Try.results7]
                      refine seqQ_normal hQ45 ?_
                      refine vc_ret_of ?_
                      refine blockQ_ret hQ40 ?_
                      refine seqQ_ret hQ39 ?_
                      refine thenQ_ret hQ36 ?_
                      refine blockQ_ret hQ35 ?_
                      refine thenQ_ret hQ33 ?_
                      simp only [go_sem, Try.ntmps7, Try.results7]
                      obtain rfl := Option.some.inj h
                      refine retW_pure rfl ?_
                      simp only [go_sem, Le]
                    ·
                      replace h := if_f h hb_321
                      simp only [decide_eq_true_eq, decide_eq_false_iff_not, Bool.not_eq_true', Bool.not_eq_false', beq_iff_eq, beq_eq_false_iff_ne, ne_eq, Bool.and_eq_true, Bool.or_eq_true, Int.not_lt, Int.not_le] at hb_321
                      refine vc_skip_of ?_
                      refine blockQ_normal hQ40 ?_
                      refine seqQ_normal hQ39 ?_
                      simp only [go_sem, Try.ntmps7, Try.results7]
                      refine thenQ_normal hQ36 ?_
                      refine ⟨(m_5, IntKind.i64.wrap (i_15 + 1)), [], ?_, h, Nat.lt_succ_self _⟩
                      simp only [go_sem, Le]
              ·
                replace h := if_t h hb_308
                obtain ⟨xv_248, exv_248, h⟩ := bindO_some h
                obtain ⟨fxv_248a, fxv_248b, fxv_248c⟩ := idx_spec exv_248
                obtain ⟨v_18, ev_18, h⟩ := bindO_some h
                simp only [go_sem, Try.ntmps7, Try.results7, hb_308, fxv_248a, fxv_248b, fxv_248c]
                refine And.intro (by omega) ?_
                refine callq (fun _ => (f_backwashref32_Measure_ok xv_248 measure_0 v_18 ev_18)) (by rfl) (by rfl) ?_
                obtain ⟨xv_249, exv_249, h⟩ := bindO_some h
                obtain ⟨fxv_249a, fxv_249b, fxv_249c⟩ := idx_spec exv_249
                obtain ⟨v_19, ev_19, h⟩ := bindO_some h
                simp only [go_sem, Try.ntmps7, Try.results7, fxv_249a, fxv_249b, fxv_249c]
                refine And.intro (by omega) ?_
                refine call0 (f_backwashref32_Measure_ok xv_249 measure_0 v_19 ev_19) (by rfl) (by rfl) ?_
                simp only [go_sem, Try.ntmps7, Try.results7]
                refine seqQ_normal hQ42 ?_
                refine vc_cond_of (b := (decide (v_18 < v_19))) (by (simp only [go_sem]; done)) (fun hb_334 => ?_) (fun hb_334 => ?_)
                ·
                  replace h := if_t h hb_334
                  simp only [decide_eq_true_eq, decide_eq_false_iff_not, Bool.not_eq_true', Bool.not_eq_false', beq_iff_eq, beq_eq_false_iff_ne, ne_eq, Bool.and_eq_true, Bool.or_eq_true, Int.not_lt, Int.not_le] at hb_334
                  refine vc_seq_gen (by kernel_rfl) ?_
                  intro QQ64 hQ64
                  simp only [go_sem, Try.ntmps7, Try.results7]
                  refine seqQ_normal hQ64 ?_
                  refine vc_ret_of ?_
                  refine seqQ_ret hQ41 ?_
                  refine blockQ_ret hQ40 ?_
                  refine seqQ_ret hQ39 ?_
                  refine thenQ_ret hQ36 ?_
                  refine blockQ_ret hQ35 ?_
                  refine thenQ_ret hQ33 ?_
                  simp only [go_sem, Try.ntmps7, Try.results7]
                  obtain rfl := Option.some.inj h
                  refine retW_pure rfl ?_
                  simp only [go_sem, Le]
                ·
                  replace h := if_f h hb_334
                  simp only [decide_eq_true_eq, decide_eq_false_iff_not, Bool.not_eq_true', Bool.not_eq_false', beq_iff_eq, beq_eq_false_iff_ne, ne_eq, Bool.and_eq_true, Bool.or_eq_true, Int.not_lt, Int.not_le] at hb_334
                  refine vc_skip_of ?_
                  refine seqQ_normal hQ41 ?_
                  refine vc_seq_gen (by kernel_rfl) ?_
                  intro QQ65 hQ65
                  simp only [go_sem, Try.ntmps7, Try.results7]
                  refine seqQ_normal hQ65 ?_
                  refine vc_join (by kernel_rfl) ?_
                  refine seq_cut_gen (ι := Int) (fun (inv_57 : Int) => (⟨0, [(0, .sl 6 (enc (List.take (Int.toNat (min (List.length rows_0 : Int) 100)) rows_0))), (1, .v (.int .i64 measure_0)), (7, .sl 6 (enc v_1)), (8, .v (.int .i64 i_15)), (9, .v (.int .i64 inv_57)), (10, .v (.int .i64 0)), (56, .sl 6 (enc v_1)), (57, .v (.int .i64 i_15)), (58, .v (.int .i64 (IntKind.i64.wrap (i_15 - 1)))), (60, .agg [.v (.int .i64 xv_248.K), .v (.int .i64 xv_248.Many), .v (.int .i64 xv_248.Least), .v (.int .i64 xv_248.Top), .v (.int .i64 xv_248.Sum), .v (.bool xv_248.Sure)]), (61, .v (.int .i64 measure_0)), (62, .v (.int .i64 v_18)), (63, .sl 6 (enc v_1)), (64, .v (.int .i64 i_15)), (66, .agg [.v (.int .i64 xv_249.K), .v (.int .i64 xv_249.Many), .v (.int .i64 xv_249.Least), .v (.int .i64 xv_249.Top), .v (.int .i64 xv_249.Sum), .v (.bool xv_249.Sure)]), (67, .v (.int .i64 measure_0)), (68, .v (.int .i64 v_19)), (69, .v (.bool (decide (v_18 < v_19))))], [], 0, 156⟩ : St)) (fun (inv_57 : Int) => f_backwashlaw32_QueryOrder_J10 v_1 i_15 (loopK (f_backwashlaw32_QueryOrder_B5 rows_0 measure_0 v_1) m_5) xv_249 inv_57 = some r) ?_ ?_
                  ·
                    intro QQ77 hQ77
                    refine vc_seq_gen (by kernel_rfl) ?_
                    intro QQ78 hQ78
                    simp only [go_sem, Try.ntmps7, Try.results7]
                    refine seqQ_normal hQ78 ?_
                    refine vc_block_gen ?_
                    intro QQ79 hQ79
                    refine vc_loop_of ?_
                    refine loop_gen (ι := Nat × Int × Int) (fun ((_, inv_59, k_97) : Nat × Int × Int) => (⟨0, [(0, .sl 6 (enc (List.take (Int.toNat (min (List.length rows_0 : Int) 100)) rows_0))), (1, .v (.int .i64 measure_0)), (7, .sl 6 (enc v_1)), (8, .v (.int .i64 i_15)), (9, .v (.int .i64 inv_59)), (10, .v (.int .i64 0)), (11, .v (.int .i64 k_97)), (56, .sl 6 (enc v_1)), (57, .v (.int .i64 i_15)), (58, .v (.int .i64 (IntKind.i64.wrap (i_15 - 1)))), (60, .agg [.v (.int .i64 xv_248.K), .v (.int .i64 xv_248.Many), .v (.int .i64 xv_248.Least), .v (.int .i64 xv_248.Top), .v (.int .i64 xv_248.Sum), .v (.bool xv_248.Sure)]), (61, .v (.int .i64 measure_0)), (62, .v (.int .i64 v_18)), (63, .sl 6 (enc v_1)), (64, .v (.int .i64 i_15)), (66, .agg [.v (.int .i64 xv_249.K), .v (.int .i64 xv_249.Many), .v (.int .i64 xv_249.Least), .v (.int .i64 xv_249.Top), .v (.int .i64 xv_249.Sum), .v (.bool xv_249.Sure)]), (67, .v (.int .i64 measure_0)), (68, .v (.int .i64 v_19)), (69, .v (.bool (decide (v_18 < v_19))))], [], 0, 156⟩ : St)) (fun ((n_, inv_59, k_97) : Nat × Int × Int) => loopK (f_backwashlaw32_QueryOrder_B13 rows_0 v_1 i_15 (loopK (f_backwashlaw32_QueryOrder_B5 rows_0 measure_0 v_1) m_5) xv_249) n_ (inv_59, k_97) = some r) (fun p => p.1) (rounds, 0, 0) [] ?_ h ?_
                    · simp only [go_sem, Le]
                    · rintro ⟨n_13, inv_59, k_97⟩ h QQ80 hQ80
                      dsimp only at h
                      replace h := loopK_some h
                      obtain ⟨m_13, rfl, h⟩ := h
                      rw [f_backwashlaw32_QueryOrder_B13] at h
                      refine vc_seq_gen (by kernel_rfl) ?_
                      intro QQ81 hQ81
                      refine vc_seq_gen (by kernel_rfl) ?_
                      intro QQ82 hQ82
                      simp only [go_sem, Try.ntmps7, Try.results7]
                      refine seqQ_normal hQ82 ?_
                      refine vc_cond_of (b := (decide (k_97 < (List.length (List.take (Int.toNat (min (List.length rows_0 : Int) 100)) rows_0) : Int)))) (by (simp only [go_sem]; done)) (fun hb_358 => ?_) (fun hb_358 => ?_)
                      ·
                        replace h := if_t h hb_358
                        simp only [decide_eq_true_eq, decide_eq_false_iff_not, Bool.not_eq_true', Bool.not_eq_false', beq_iff_eq, beq_eq_false_iff_ne, ne_eq, Bool.and_eq_true, Bool.or_eq_true, Int.not_lt, Int.not_le] at hb_358
                        refine vc_skip_of ?_
                        refine seqQ_normal hQ81 ?_
                        refine vc_join (by kernel_rfl) ?_
                        refine seq_go_gen ?_
                        intro QQ83 hQ83
                        refine vc_block_gen ?_
                        intro QQ84 hQ84
                        refine vc_seq_gen (by kernel_rfl) ?_
                        intro QQ85 hQ85
                        refine vc_draw ?_
                        refine drawM_tail 8 [0, 0, 3, 7, 0, 0, 48, 112, 255] mixed (by kernel_rfl) (of_decide_eq_true (by kernel_rfl)) (by kernel_rfl) ?_
                        obtain ⟨xv_261, exv_261, h⟩ := bindO_some h
                        obtain ⟨fxv_261a, fxv_261b, fxv_261c⟩ := idx_spec exv_261
                        simp only [go_sem, Try.ntmps7, Try.results7, fxv_261a, fxv_261b, fxv_261c, fxv_249a, fxv_249b, fxv_249c]
                        refine And.intro (by omega) ?_
                        refine And.intro (by omega) ?_
                        refine seqQ_normal hQ85 ?_
                        refine vc_cond_of (b := ((xv_261.K == xv_249.K) && ((xv_261.Many == xv_249.Many) && ((xv_261.Least == xv_249.Least) && ((xv_261.Top == xv_249.Top) && ((xv_261.Sum == xv_249.Sum) && (xv_261.Sure == xv_249.Sure))))))) (by (simp only [go_sem]; done)) (fun hb_359 => ?_) (fun hb_359 => ?_)
                        ·
                          replace h := if_t h hb_359
                          simp only [decide_eq_true_eq, decide_eq_false_iff_not, Bool.not_eq_true', Bool.not_eq_false', beq_iff_eq, beq_eq_false_iff_ne, ne_eq, Bool.and_eq_true, Bool.or_eq_true, Int.not_lt, Int.not_le] at hb_359
                          simp only [go_sem, Try.ntmps7, Try.results7]
                          refine blockQ_normal hQ84 ?_
                          refine seqQ_normal hQ83 ?_
                          simp only [go_sem, Try.ntmps7, Try.results7]
                          refine thenQ_normal hQ80 ?_
                          refine ⟨(m_13, IntKind.i64.wrap (inv_59 + 1), IntKind.i64.wrap (k_97 + 1)), [], ?_, h, Nat.lt_succ_self _⟩
                          simp only [go_sem, Le]
                        ·
                          replace h := if_f h hb_359
                          refine vc_skip_of ?_
                          refine blockQ_normal hQ84 ?_
                          refine seqQ_normal hQ83 ?_
                          simp only [go_sem, Try.ntmps7, Try.results7]
                          refine thenQ_normal hQ80 ?_
                          refine ⟨(m_13, inv_59, IntKind.i64.wrap (k_97 + 1)), [], ?_, h, Nat.lt_succ_self _⟩
                          simp only [go_sem, Le]
                      ·
                        replace h := if_f h hb_358
                        simp only [decide_eq_true_eq, decide_eq_false_iff_not, Bool.not_eq_true', Bool.not_eq_false', beq_iff_eq, beq_eq_false_iff_ne, ne_eq, Bool.and_eq_true, Bool.or_eq_true, Int.not_lt, Int.not_le] at hb_358
                        refine vc_exit_of ?_
                        refine seqQ_exit hQ81 ?_
                        refine thenQ_exit hQ80 ?_
                        refine blockQ_exit hQ79 ?_
                        refine thenQ_normal hQ77 ?_
                        refine ⟨inv_59, [], ?_, h⟩
                        simp only [go_sem, Le]
                  · rintro inv_57 h
                    try dsimp only at h
                    rw [f_backwashlaw32_QueryOrder_J10] at h
                    refine vc_join (by kernel_rfl) ?_
                    refine seq_cut_gen (ι := Int) (fun (out_57 : Int) => (⟨0, [(0, .sl 6 (enc (List.take (Int.toNat (min (List.length rows_0 : Int) 100)) rows_0))), (1, .v (.int .i64 measure_0)), (7, .sl 6 (enc v_1)), (8, .v (.int .i64 i_15)), (9, .v (.int .i64 inv_57)), (10, .v (.int .i64 out_57)), (56, .sl 6 (enc v_1)), (57, .v (.int .i64 i_15)), (58, .v (.int .i64 (IntKind.i64.wrap (i_15 - 1)))), (60, .agg [.v (.int .i64 xv_248.K), .v (.int .i64 xv_248.Many), .v (.int .i64 xv_248.Least), .v (.int .i64 xv_248.Top), .v (.int .i64 xv_248.Sum), .v (.bool xv_248.Sure)]), (61, .v (.int .i64 measure_0)), (62, .v (.int .i64 v_18)), (63, .sl 6 (enc v_1)), (64, .v (.int .i64 i_15)), (66, .agg [.v (.int .i64 xv_249.K), .v (.int .i64 xv_249.Many), .v (.int .i64 xv_249.Least), .v (.int .i64 xv_249.Top), .v (.int .i64 xv_249.Sum), .v (.bool xv_249.Sure)]), (67, .v (.int .i64 measure_0)), (68, .v (.int .i64 v_19)), (69, .v (.bool (decide (v_18 < v_19))))], [], 0, 156⟩ : St)) (fun (out_57 : Int) => f_backwashlaw32_QueryOrder_J11 i_15 (loopK (f_backwashlaw32_QueryOrder_B5 rows_0 measure_0 v_1) m_5) inv_57 out_57 = some r) ?_ ?_
                    ·
                      intro QQ68 hQ68
                      refine vc_seq_gen (by kernel_rfl) ?_
                      intro QQ69 hQ69
                      simp only [go_sem, Try.ntmps7, Try.results7]
                      refine seqQ_normal hQ69 ?_
                      refine vc_block_gen ?_
                      intro QQ70 hQ70
                      refine vc_loop_of ?_
                      refine loop_gen (ι := Nat × Int × Int) (fun ((_, out_59, k_95) : Nat × Int × Int) => (⟨0, [(0, .sl 6 (enc (List.take (Int.toNat (min (List.length rows_0 : Int) 100)) rows_0))), (1, .v (.int .i64 measure_0)), (7, .sl 6 (enc v_1)), (8, .v (.int .i64 i_15)), (9, .v (.int .i64 inv_57)), (10, .v (.int .i64 out_59)), (12, .v (.int .i64 k_95)), (56, .sl 6 (enc v_1)), (57, .v (.int .i64 i_15)), (58, .v (.int .i64 (IntKind.i64.wrap (i_15 - 1)))), (60, .agg [.v (.int .i64 xv_248.K), .v (.int .i64 xv_248.Many), .v (.int .i64 xv_248.Least), .v (.int .i64 xv_248.Top), .v (.int .i64 xv_248.Sum), .v (.bool xv_248.Sure)]), (61, .v (.int .i64 measure_0)), (62, .v (.int .i64 v_18)), (63, .sl 6 (enc v_1)), (64, .v (.int .i64 i_15)), (66, .agg [.v (.int .i64 xv_249.K), .v (.int .i64 xv_249.Many), .v (.int .i64 xv_249.Least), .v (.int .i64 xv_249.Top), .v (.int .i64 xv_249.Sum), .v (.bool xv_249.Sure)]), (67, .v (.int .i64 measure_0)), (68, .v (.int .i64 v_19)), (69, .v (.bool (decide (v_18 < v_19))))], [], 0, 156⟩ : St)) (fun ((n_, out_59, k_95) : Nat × Int × Int) => loopK (f_backwashlaw32_QueryOrder_B12 v_1 i_15 (loopK (f_backwashlaw32_QueryOrder_B5 rows_0 measure_0 v_1) m_5) xv_249 inv_57) n_ (out_59, k_95) = some r) (fun p => p.1) (rounds, 0, 0) [] ?_ h ?_
                      · simp only [go_sem, Le]
                      · rintro ⟨n_12, out_59, k_95⟩ h QQ71 hQ71
                        dsimp only at h
                        replace h := loopK_some h
                        obtain ⟨m_12, rfl, h⟩ := h
                        rw [f_backwashlaw32_QueryOrder_B12] at h
                        refine vc_seq_gen (by kernel_rfl) ?_
                        intro QQ72 hQ72
                        refine vc_seq_gen (by kernel_rfl) ?_
                        intro QQ73 hQ73
                        simp only [go_sem, Try.ntmps7, Try.results7]
                        refine seqQ_normal hQ73 ?_
                        refine vc_cond_of (b := (decide (k_95 < (List.length v_1 : Int)))) (by (simp only [go_sem]; done)) (fun hb_352 => ?_) (fun hb_352 => ?_)
                        ·
                          replace h := if_t h hb_352
                          simp only [decide_eq_true_eq, decide_eq_false_iff_not, Bool.not_eq_true', Bool.not_eq_false', beq_iff_eq, beq_eq_false_iff_ne, ne_eq, Bool.and_eq_true, Bool.or_eq_true, Int.not_lt, Int.not_le] at hb_352
                          refine vc_skip_of ?_
                          refine seqQ_normal hQ72 ?_
                          refine vc_join (by kernel_rfl) ?_
                          refine seq_go_gen ?_
                          intro QQ74 hQ74
                          refine vc_block_gen ?_
                          intro QQ75 hQ75
                          refine vc_seq_gen (by kernel_rfl) ?_
                          intro QQ76 hQ76
                          refine vc_draw ?_
                          refine drawM_tail 8 [0, 0, 3, 7, 0, 0, 48, 112, 255] mixed (by kernel_rfl) (of_decide_eq_true (by kernel_rfl)) (by kernel_rfl) ?_
                          obtain ⟨xv_258, exv_258, h⟩ := bindO_some h
                          obtain ⟨fxv_258a, fxv_258b, fxv_258c⟩ := idx_spec exv_258
                          simp only [go_sem, Try.ntmps7, Try.results7, fxv_258a, fxv_258b, fxv_258c, fxv_249a, fxv_249b, fxv_249c]
                          refine And.intro (by omega) ?_
                          refine And.intro (by omega) ?_
                          refine seqQ_normal hQ76 ?_
                          refine vc_cond_of (b := ((xv_258.K == xv_249.K) && ((xv_258.Many == xv_249.Many) && ((xv_258.Least == xv_249.Least) && ((xv_258.Top == xv_249.Top) && ((xv_258.Sum == xv_249.Sum) && (xv_258.Sure == xv_249.Sure))))))) (by (simp only [go_sem]; done)) (fun hb_353 => ?_) (fun hb_353 => ?_)
                          ·
                            replace h := if_t h hb_353
                            simp only [decide_eq_true_eq, decide_eq_false_iff_not, Bool.not_eq_true', Bool.not_eq_false', beq_iff_eq, beq_eq_false_iff_ne, ne_eq, Bool.and_eq_true, Bool.or_eq_true, Int.not_lt, Int.not_le] at hb_353
                            simp only [go_sem, Try.ntmps7, Try.results7]
                            refine blockQ_normal hQ75 ?_
                            refine seqQ_normal hQ74 ?_
                            simp only [go_sem, Try.ntmps7, Try.results7]
                            refine thenQ_normal hQ71 ?_
                            refine ⟨(m_12, IntKind.i64.wrap (out_59 + 1), IntKind.i64.wrap (k_95 + 1)), [], ?_, h, Nat.lt_succ_self _⟩
                            simp only [go_sem, Le]
                          ·
                            replace h := if_f h hb_353
                            refine vc_skip_of ?_
                            refine blockQ_normal hQ75 ?_
                            refine seqQ_normal hQ74 ?_
                            simp only [go_sem, Try.ntmps7, Try.results7]
                            refine thenQ_normal hQ71 ?_
                            refine ⟨(m_12, out_59, IntKind.i64.wrap (k_95 + 1)), [], ?_, h, Nat.lt_succ_self _⟩
                            simp only [go_sem, Le]
                        ·
                          replace h := if_f h hb_352
                          simp only [decide_eq_true_eq, decide_eq_false_iff_not, Bool.not_eq_true', Bool.not_eq_false', beq_iff_eq, beq_eq_false_iff_ne, ne_eq, Bool.and_eq_true, Bool.or_eq_true, Int.not_lt, Int.not_le] at hb_352
                          refine vc_exit_of ?_
                          refine seqQ_exit hQ72 ?_
                          refine thenQ_exit hQ71 ?_
                          refine blockQ_exit hQ70 ?_
                          refine thenQ_normal hQ68 ?_
                          refine ⟨out_59, [], ?_, h⟩
                          simp only [go_sem, Le]
                    · rintro out_57 h
                      try dsimp only at h
                      rw [f_backwashlaw32_QueryOrder_J11] at h
                      refine vc_seq_gen (by kernel_rfl) ?_
                      intro QQ66 hQ66
                      simp only [go_sem, Try.ntmps7, Try.results7]
                      refine seqQ_normal hQ66 ?_
                      refine vc_cond_of (b := (decide (inv_57 < out_57))) (by (simp only [go_sem]; done)) (fun hb_347 => ?_) (fun hb_347 => ?_)
                      ·
                        replace h := if_t h hb_347
                        simp only [decide_eq_true_eq, decide_eq_false_iff_not, Bool.not_eq_true', Bool.not_eq_false', beq_iff_eq, beq_eq_false_iff_ne, ne_eq, Bool.and_eq_true, Bool.or_eq_true, Int.not_lt, Int.not_le] at hb_347
                        refine vc_seq_gen (by kernel_rfl) ?_
                        intro QQ67 hQ67
                        simp only [go_sem, Try.ntmps7, Try.results7]
                        refine seqQ_normal hQ67 ?_
                        refine vc_ret_of ?_
                        refine blockQ_ret hQ40 ?_
                        refine seqQ_ret hQ39 ?_
                        refine thenQ_ret hQ36 ?_
                        refine blockQ_ret hQ35 ?_
                        refine thenQ_ret hQ33 ?_
                        simp only [go_sem, Try.ntmps7, Try.results7]
                        obtain rfl := Option.some.inj h
                        refine retW_pure rfl ?_
                        simp only [go_sem, Le]
                      ·
                        replace h := if_f h hb_347
                        simp only [decide_eq_true_eq, decide_eq_false_iff_not, Bool.not_eq_true', Bool.not_eq_false', beq_iff_eq, beq_eq_false_iff_ne, ne_eq, Bool.and_eq_true, Bool.or_eq_true, Int.not_lt, Int.not_le] at hb_347
                        refine vc_skip_of ?_
                        refine blockQ_normal hQ40 ?_
                        refine seqQ_normal hQ39 ?_
                        simp only [go_sem, Try.ntmps7, Try.results7]
                        refine thenQ_normal hQ36 ?_
                        refine ⟨(m_5, IntKind.i64.wrap (i_15 + 1)), [], ?_, h, Nat.lt_succ_self _⟩
                        simp only [go_sem, Le]
            ·
              replace h := if_f h hb_307
              simp only [decide_eq_true_eq, decide_eq_false_iff_not, Bool.not_eq_true', Bool.not_eq_false', beq_iff_eq, beq_eq_false_iff_ne, ne_eq, Bool.and_eq_true, Bool.or_eq_true, Int.not_lt, Int.not_le] at hb_307
              refine vc_exit_of ?_
              refine seqQ_exit hQ37 ?_
              refine thenQ_exit hQ36 ?_
              refine blockQ_exit hQ35 ?_
              refine thenQ_normal hQ33 ?_
              refine ⟨(), [], ?_, h⟩
              simp only [go_sem, Le]
        · rintro ⟨⟩ h
          try dsimp only at h
          rw [f_backwashlaw32_QueryOrder_J1] at h
          refine vc_join (by kernel_rfl) ?_
          refine seq_go_gen ?_
          intro QQ13 hQ13
          refine vc_seq_gen (by kernel_rfl) ?_
          intro QQ14 hQ14
          simp only [go_sem, Try.ntmps7, Try.results7]
          refine seqQ_normal hQ14 ?_
          refine vc_block_gen ?_
          intro QQ15 hQ15
          refine vc_loop_of ?_
          refine loop_gen (ι := Nat × Int) (fun ((_, k_49) : Nat × Int) => (⟨0, [(0, .sl 6 (enc (List.take (Int.toNat (min (List.length rows_0 : Int) 100)) rows_0))), (1, .v (.int .i64 measure_0)), (7, .sl 6 (enc v_1)), (13, .v (.int .i64 k_49))], [], 0, 156⟩ : St)) (fun ((n_, k_49) : Nat × Int) => loopK (f_backwashlaw32_QueryOrder_B2 rows_0 measure_0 v_1) n_ k_49 = some r) (fun p => p.1) (rounds, 0) [] ?_ h ?_
          · simp only [go_sem, Le]
          · rintro ⟨n_2, k_49⟩ h QQ16 hQ16
            dsimp only at h
            replace h := loopK_some h
            obtain ⟨m_2, rfl, h⟩ := h
            rw [f_backwashlaw32_QueryOrder_B2] at h
            refine vc_seq_gen (by kernel_rfl) ?_
            intro QQ17 hQ17
            refine vc_seq_gen (by kernel_rfl) ?_
            intro QQ18 hQ18
            simp only [go_sem, Try.ntmps7, Try.results7]
            refine seqQ_normal hQ18 ?_
            refine vc_cond_of (b := ((decide (k_49 < (List.length (List.take (Int.toNat (min (List.length rows_0 : Int) 100)) rows_0) : Int))) && (decide (0 < (List.length v_1 : Int))))) (by (simp only [go_sem]; done)) (fun hb_188 => ?_) (fun hb_188 => ?_)
            ·
              replace h := if_t h hb_188
              simp only [decide_eq_true_eq, decide_eq_false_iff_not, Bool.not_eq_true', Bool.not_eq_false', beq_iff_eq, beq_eq_false_iff_ne, ne_eq, Bool.and_eq_true, Bool.or_eq_true, Int.not_lt, Int.not_le] at hb_188
              refine vc_skip_of ?_
              refine seqQ_normal hQ17 ?_
              refine vc_join (by kernel_rfl) ?_
              refine seq_go_gen ?_
              intro QQ19 hQ19
              refine vc_block_gen ?_
              intro QQ20 hQ20
              refine vc_seq_gen (by kernel_rfl) ?_
              intro QQ21 hQ21
              simp only [go_sem, Try.ntmps7, Try.results7]
              refine seqQ_normal hQ21 ?_
              refine vc_join (by kernel_rfl) ?_
              refine seq_cut_gen (ι := Bool) (fun (found_12 : Bool) => (⟨0, [(0, .sl 6 (enc (List.take (Int.toNat (min (List.length rows_0 : Int) 100)) rows_0))), (1, .v (.int .i64 measure_0)), (7, .sl 6 (enc v_1)), (13, .v (.int .i64 k_49)), (14, .v (.bool found_12))], [], 0, 156⟩ : St)) (fun (found_12 : Bool) => f_backwashlaw32_QueryOrder_J3 rows_0 measure_0 v_1 k_49 (loopK (f_backwashlaw32_QueryOrder_B2 rows_0 measure_0 v_1) m_2) found_12 = some r) ?_ ?_
              ·
                intro QQ24 hQ24
                refine vc_seq_gen (by kernel_rfl) ?_
                intro QQ25 hQ25
                simp only [go_sem, Try.ntmps7, Try.results7]
                refine seqQ_normal hQ25 ?_
                refine vc_block_gen ?_
                intro QQ26 hQ26
                refine vc_loop_of ?_
                refine loop_gen (ι := Nat × Bool × Int) (fun ((_, found_14, i_13) : Nat × Bool × Int) => (⟨0, [(0, .sl 6 (enc (List.take (Int.toNat (min (List.length rows_0 : Int) 100)) rows_0))), (1, .v (.int .i64 measure_0)), (7, .sl 6 (enc v_1)), (13, .v (.int .i64 k_49)), (14, .v (.bool found_14)), (15, .v (.int .i64 i_13))], [], 0, 156⟩ : St)) (fun ((n_, found_14, i_13) : Nat × Bool × Int) => loopK (f_backwashlaw32_QueryOrder_B4 rows_0 measure_0 v_1 k_49 (loopK (f_backwashlaw32_QueryOrder_B2 rows_0 measure_0 v_1) m_2)) n_ (found_14, i_13) = some r) (fun p => p.1) (rounds, false, 0) [] ?_ h ?_
                · simp only [go_sem, Le]
                · rintro ⟨n_4, found_14, i_13⟩ h QQ27 hQ27
                  dsimp only at h
                  replace h := loopK_some h
                  obtain ⟨m_4, rfl, h⟩ := h
                  rw [f_backwashlaw32_QueryOrder_B4] at h
                  refine vc_seq_gen (by kernel_rfl) ?_
                  intro QQ28 hQ28
                  refine vc_seq_gen (by kernel_rfl) ?_
                  intro QQ29 hQ29
                  simp only [go_sem, Try.ntmps7, Try.results7]
                  refine seqQ_normal hQ29 ?_
                  refine vc_cond_of (b := (decide (i_13 < (List.length v_1 : Int)))) (by (simp only [go_sem]; done)) (fun hb_199 => ?_) (fun hb_199 => ?_)
                  ·
                    replace h := if_t h hb_199
                    simp only [decide_eq_true_eq, decide_eq_false_iff_not, Bool.not_eq_true', Bool.not_eq_false', beq_iff_eq, beq_eq_false_iff_ne, ne_eq, Bool.and_eq_true, Bool.or_eq_true, Int.not_lt, Int.not_le] at hb_199
                    refine vc_skip_of ?_
                    refine seqQ_normal hQ28 ?_
                    refine vc_seq_gen (by kernel_rfl) ?_
                    intro QQ30 hQ30
                    refine vc_block_gen ?_
                    intro QQ31 hQ31
                    refine vc_draw ?_
                    refine drawM_tail 10 [0, 1, 3, 3, 15, 31, 3, 3, 195, 451, 1023, 2047, 4095] mixed (by kernel_rfl) (of_decide_eq_true (by kernel_rfl)) (by kernel_rfl) ?_
                    simp only [go_sem, Try.ntmps7, Try.results7]
                    rcases hb_200 : found_14 with _ | _
                    ·
                      replace h := if_f h hb_200
                      obtain ⟨xv_150, exv_150, h⟩ := bindO_some h
                      obtain ⟨fxv_150a, fxv_150b, fxv_150c⟩ := idx_spec exv_150
                      obtain ⟨xv_151, exv_151, h⟩ := bindO_some h
                      obtain ⟨fxv_151a, fxv_151b, fxv_151c⟩ := idx_spec exv_151
                      simp only [go_sem, Try.ntmps7, Try.results7, hb_200, fxv_150a, fxv_150b, fxv_150c, fxv_151a, fxv_151b, fxv_151c]
                      refine And.intro (by omega) ?_
                      refine And.intro (by omega) ?_
                      refine blockQ_normal hQ31 ?_
                      refine seqQ_normal hQ30 ?_
                      simp only [go_sem, Try.ntmps7, Try.results7]
                      refine thenQ_normal hQ27 ?_
                      refine ⟨(m_4, ((xv_150.K == xv_151.K) && ((xv_150.Many == xv_151.Many) && ((xv_150.Least == xv_151.Least) && ((xv_150.Top == xv_151.Top) && ((xv_150.Sum == xv_151.Sum) && (xv_150.Sure == xv_151.Sure)))))), IntKind.i64.wrap (i_13 + 1)), [], ?_, h, Nat.lt_succ_self _⟩
                      simp only [go_sem, Le]
                    ·
                      replace h := if_t h hb_200
                      simp only [go_sem, Try.ntmps7, Try.results7, hb_200]
                      refine blockQ_normal hQ31 ?_
                      refine seqQ_normal hQ30 ?_
                      simp only [go_sem, Try.ntmps7, Try.results7]
                      refine thenQ_normal hQ27 ?_
                      refine ⟨(m_4, true, IntKind.i64.wrap (i_13 + 1)), [], ?_, h, Nat.lt_succ_self _⟩
                      simp only [go_sem, Le]
                  ·
                    replace h := if_f h hb_199
                    simp only [decide_eq_true_eq, decide_eq_false_iff_not, Bool.not_eq_true', Bool.not_eq_false', beq_iff_eq, beq_eq_false_iff_ne, ne_eq, Bool.and_eq_true, Bool.or_eq_true, Int.not_lt, Int.not_le] at hb_199
                    refine vc_exit_of ?_
                    refine seqQ_exit hQ28 ?_
                    refine thenQ_exit hQ27 ?_
                    refine blockQ_exit hQ26 ?_
                    refine thenQ_normal hQ24 ?_
                    refine ⟨found_14, [], ?_, h⟩
                    simp only [go_sem, Le]
              · rintro found_12 h
                try dsimp only at h
                rw [f_backwashlaw32_QueryOrder_J3] at h
                refine vc_seq_gen (by kernel_rfl) ?_
                intro QQ22 hQ22
                refine vc_draw ?_
                refine drawM_tail 16 [0, 1, 3, 7, 7, 31, 63, 7, 255, 7, 7, 1031, 3079, 7687, 15879, 7, 65535, 131071, 262143] mixed (by kernel_rfl) (of_decide_eq_true (by kernel_rfl)) (by kernel_rfl) ?_
                simp only [go_sem, Try.ntmps7, Try.results7]
                rcases hb_194 : found_12 with _ | _
                ·
                  replace h := if_f h hb_194
                  obtain ⟨xv_144, exv_144, h⟩ := bindO_some h
                  obtain ⟨fxv_144a, fxv_144b, fxv_144c⟩ := idx_spec exv_144
                  obtain ⟨v_12, ev_12, h⟩ := bindO_some h
                  simp only [go_sem, Try.ntmps7, Try.results7, hb_194, fxv_144a, fxv_144b, fxv_144c]
                  refine And.intro (by omega) ?_
                  refine callq (fun _ => (f_backwashref32_Measure_ok xv_144 measure_0 v_12 ev_12)) (by rfl) (by rfl) ?_
                  obtain ⟨xv_145, exv_145, h⟩ := bindO_some h
                  obtain ⟨fxv_145a, fxv_145b, fxv_145c⟩ := idx_spec exv_145
                  obtain ⟨v_13, ev_13, h⟩ := bindO_some h
                  simp only [go_sem, Try.ntmps7, Try.results7, fxv_145a, fxv_145b, fxv_145c]
                  refine And.intro (by omega) ?_
                  refine call0 (f_backwashref32_Measure_ok xv_145 measure_0 v_13 ev_13) (by rfl) (by rfl) ?_
                  simp only [go_sem, Try.ntmps7, Try.results7]
                  refine seqQ_normal hQ22 ?_
                  refine vc_cond_of (b := (decide (v_13 < v_12))) (by (simp only [go_sem]; done)) (fun hb_195 => ?_) (fun hb_195 => ?_)
                  ·
                    replace h := if_t h hb_195
                    simp only [decide_eq_true_eq, decide_eq_false_iff_not, Bool.not_eq_true', Bool.not_eq_false', beq_iff_eq, beq_eq_false_iff_ne, ne_eq, Bool.and_eq_true, Bool.or_eq_true, Int.not_lt, Int.not_le] at hb_195
                    refine vc_seq_gen (by kernel_rfl) ?_
                    intro QQ23 hQ23
                    simp only [go_sem, Try.ntmps7, Try.results7]
                    refine seqQ_normal hQ23 ?_
                    refine vc_ret_of ?_
                    refine blockQ_ret hQ20 ?_
                    refine seqQ_ret hQ19 ?_
                    refine thenQ_ret hQ16 ?_
                    refine blockQ_ret hQ15 ?_
                    refine seqQ_ret hQ13 ?_
                    simp only [go_sem, Try.ntmps7, Try.results7]
                    obtain rfl := Option.some.inj h
                    refine retW_pure rfl ?_
                    simp only [go_sem, Le]
                  ·
                    replace h := if_f h hb_195
                    simp only [decide_eq_true_eq, decide_eq_false_iff_not, Bool.not_eq_true', Bool.not_eq_false', beq_iff_eq, beq_eq_false_iff_ne, ne_eq, Bool.and_eq_true, Bool.or_eq_true, Int.not_lt, Int.not_le] at hb_195
                    refine vc_skip_of ?_
                    refine blockQ_normal hQ20 ?_
                    refine seqQ_normal hQ19 ?_
                    simp only [go_sem, Try.ntmps7, Try.results7]
                    refine thenQ_normal hQ16 ?_
                    refine ⟨(m_2, IntKind.i64.wrap (k_49 + 1)), [], ?_, h, Nat.lt_succ_self _⟩
                    simp only [go_sem, Le]
                ·
                  replace h := if_t h hb_194
                  simp only [go_sem, Try.ntmps7, Try.results7, hb_194]
                  refine seqQ_normal hQ22 ?_
                  refine vc_cond_f (by (simp only [go_sem]; done)) ?_
                  refine vc_skip_of ?_
                  refine blockQ_normal hQ20 ?_
                  refine seqQ_normal hQ19 ?_
                  simp only [go_sem, Try.ntmps7, Try.results7]
                  refine thenQ_normal hQ16 ?_
                  refine ⟨(m_2, IntKind.i64.wrap (k_49 + 1)), [], ?_, h, Nat.lt_succ_self _⟩
                  simp only [go_sem, Le]
            ·
              replace h := if_f h hb_188
              refine vc_exit_of ?_
              refine seqQ_exit hQ17 ?_
              refine thenQ_exit hQ16 ?_
              refine blockQ_exit hQ15 ?_
              refine seqQ_normal hQ13 ?_
              refine vc_seq_gen (by kernel_rfl) ?_
              intro QQ32 hQ32
              simp only [go_sem, Try.ntmps7, Try.results7]
              refine seqQ_normal hQ32 ?_
              refine vc_ret_of ?_
              simp only [go_sem, Try.ntmps7, Try.results7]
              obtain rfl := Option.some.inj h
              refine retW_pure rfl ?_
              simp only [go_sem, Le]
end Go.Proofs.Ytfjjpdjnpmajlaa

