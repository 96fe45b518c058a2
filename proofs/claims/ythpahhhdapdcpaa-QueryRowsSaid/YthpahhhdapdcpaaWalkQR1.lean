/-
  What functions of the program compute, each told as a plain function that may give nothing, with the proof that the code does so. No condition beyond those that each theorem names.
-/
import Derived.Test.YthpahhhdapdcpaaWalkQR0
set_option linter.unusedSimpArgs false
set_option linter.unusedVariables false
namespace Go.Proofs.Ythpahhhdapdcpaa
open Go Go.RowKit
set_option maxHeartbeats 2000000
set_option maxRecDepth 100000
set_option linter.unusedSimpArgs false
set_option linter.unusedVariables false
def f_backwashref32_Epochs_B3 (i_1 : Int) (rec_1 : (Int × (List Int) → Option (List Int))) (rec_3 : Int × (List Int) → Option (List Int)) : Int × (List Int) → Option (List Int) :=
  fun (k_15, a_7) =>
  (if (decide (0 < k_15)) = true then bindO (idx a_7 k_15) (fun (xv_42 : Int) =>
  bindO (idx a_7 (IntKind.i64.wrap (k_15 - 1))) (fun (xv_43 : Int) =>
  (if (decide (xv_42 < xv_43)) = true then bindO (idx (List.set a_7 (Int.toNat k_15) xv_43) (IntKind.i64.wrap (k_15 - 1))) (fun (xv_44 : Int) =>
  rec_3 (IntKind.i64.wrap (k_15 - 1), (List.set (List.set a_7 (Int.toNat k_15) xv_43) (Int.toNat (IntKind.i64.wrap (k_15 - 1))) xv_42)))
  else rec_1 (IntKind.i64.wrap (i_1 + 1), a_7))))
  else rec_1 (IntKind.i64.wrap (i_1 + 1), a_7))
def f_backwashref32_Epochs_J2 (i_1 : Int) (a_5 : List Int) (rec_1 : (Int × (List Int) → Option (List Int))) (xv_32 : GOut) (known_12 : Bool) : Option (List Int) :=
  (if (!known_12) = true then guardO ((List.length a_5 + List.length ([xv_32.Epoch] : List Int)) * 8 ≤ 140737488355328) (
  loopK (f_backwashref32_Epochs_B3 i_1 rec_1) rounds (IntKind.i64.wrap ((List.length (a_5 ++ ([xv_32.Epoch] : List Int)) : Int) - 1), (a_5 ++ ([xv_32.Epoch] : List Int))))
  else rec_1 (IntKind.i64.wrap (i_1 + 1), a_5))
def f_backwashref32_Epochs_B4 (i_1 : Int) (a_5 : List Int) (rec_1 : (Int × (List Int) → Option (List Int))) (xv_32 : GOut) (rec_4 : Bool × Int → Option (List Int)) : Bool × Int → Option (List Int) :=
  fun (known_14, k_17) =>
  (if (decide (k_17 < (List.length a_5 : Int))) = true then (if known_14 = true then rec_4 (true, IntKind.i64.wrap (k_17 + 1))
  else bindO (idx a_5 k_17) (fun (xv_47 : Int) =>
  rec_4 ((xv_47 == xv_32.Epoch), IntKind.i64.wrap (k_17 + 1))))
  else f_backwashref32_Epochs_J2 i_1 a_5 rec_1 xv_32 known_14)
def f_backwashref32_Epochs_B1 (l_0 : List GOut) (node_0 : Int) (rec_1 : Int × (List Int) → Option (List Int)) : Int × (List Int) → Option (List Int) :=
  fun (i_1, a_5) =>
  (if (decide (i_1 < (List.length l_0 : Int))) = true then bindO (idx l_0 i_1) (fun (xv_32 : GOut) =>
  (if (!(xv_32.Node == node_0)) = true then rec_1 (IntKind.i64.wrap (i_1 + 1), a_5)
  else loopK (f_backwashref32_Epochs_B4 i_1 a_5 rec_1 xv_32) rounds (false, 0)))
  else some a_5)
def f_backwashref32_Epochs (l_0 : List GOut) (node_0 : Int) : Option (List Int) :=
  loopK (f_backwashref32_Epochs_B1 l_0 node_0) rounds (0, [])
theorem f_backwashref32_Epochs_det (l_0 : List GOut) (node_0 : Int)  (r : List Int) (h : f_backwashref32_Epochs l_0 node_0 = some r) : DetS Try.prog 15 [.sl 4 (enc l_0), .v (.int .i64 node_0)] [] 0 (.osl 0 1 (0) (List.length r)) [(0, .arr 1 (enc r))] 1 := by
  unfold DetS
  refine Spec.of_vc Try.func15 rfl (by kernel_rfl) (by kernel_rfl) ?_
  rw [f_backwashref32_Epochs] at h
  refine vc_seq_gen (by kernel_rfl) ?_
  intro QQ1 hQ1
  simp only [go_sem, Try.ntmps15, Try.results15]
  refine seqQ_normal hQ1 ?_
  refine vc_seq_gen (by kernel_rfl) ?_
  intro QQ2 hQ2
  simp only [go_sem, Try.ntmps15, Try.results15]
  refine seqQ_normal hQ2 ?_
  refine vc_join (by kernel_rfl) ?_
  refine seq_go_gen ?_
  intro QQ3 hQ3
  refine vc_seq_gen (by kernel_rfl) ?_
  intro QQ4 hQ4
  simp only [go_sem, Try.ntmps15, Try.results15]
  refine seqQ_normal hQ4 ?_
  refine vc_block_gen ?_
  intro QQ5 hQ5
  refine vc_loop_of ?_
  refine loop_gen (ι := Nat × Int × (List Int)) (fun ((_, i_1, a_5) : Nat × Int × (List Int)) => (⟨0, [(0, .sl 4 (enc l_0)), (1, .v (.int .i64 node_0)), (5, .osl 0 1 (0) (List.length a_5)), (6, .v (.int .i64 i_1))], [(0, .arr 1 (enc a_5))], 1, 88⟩ : St)) (fun ((n_, i_1, a_5) : Nat × Int × (List Int)) => loopK (f_backwashref32_Epochs_B1 l_0 node_0) n_ (i_1, a_5) = some r) (fun p => p.1) (rounds, 0, []) [none] ?_ h ?_
  · simp only [go_sem, Le] <;> (repeat' apply And.intro) <;> ((try with_reducible refine TL_eq ?_); (simp [go_sem]; done))
  · rintro ⟨n_1, i_1, a_5⟩ h QQ6 hQ6
    dsimp only at h
    replace h := loopK_some h
    obtain ⟨m_1, rfl, h⟩ := h
    rw [f_backwashref32_Epochs_B1] at h
    refine vc_seq_gen (by kernel_rfl) ?_
    intro QQ7 hQ7
    refine vc_seq_gen (by kernel_rfl) ?_
    intro QQ8 hQ8
    simp only [go_sem, Try.ntmps15, Try.results15]
    refine seqQ_normal hQ8 ?_
    refine vc_cond_of (b := (decide (i_1 < (List.length l_0 : Int)))) (by (simp only [go_sem]; done)) (fun hb_38 => ?_) (fun hb_38 => ?_)
    ·
      replace h := if_t h hb_38
      simp only [decide_eq_true_eq, decide_eq_false_iff_not, Bool.not_eq_true', Bool.not_eq_false', beq_iff_eq, beq_eq_false_iff_ne, ne_eq, Bool.and_eq_true, Bool.or_eq_true, Int.not_lt, Int.not_le] at hb_38
      refine vc_skip_of ?_
      refine seqQ_normal hQ7 ?_
      refine vc_join (by kernel_rfl) ?_
      refine seq_go_gen ?_
      intro QQ9 hQ9
      refine vc_block_gen ?_
      intro QQ10 hQ10
      refine vc_seq_gen (by kernel_rfl) ?_
      intro QQ11 hQ11
      refine vc_seq_gen (by kernel_rfl) ?_
      intro QQ12 hQ12
      obtain ⟨xv_32, exv_32, h⟩ := bindO_some h
      obtain ⟨fxv_32a, fxv_32b, fxv_32c⟩ := idx_spec exv_32
      simp only [go_sem, Try.ntmps15, Try.results15, fxv_32a, fxv_32b, fxv_32c]
      refine And.intro (by omega) ?_
      refine seqQ_normal hQ12 ?_
      refine vc_cond_of (b := (!(xv_32.Node == node_0))) (by (simp only [go_sem]; done)) (fun hb_39 => ?_) (fun hb_39 => ?_)
      ·
        replace h := if_t h hb_39
        simp only [decide_eq_true_eq, decide_eq_false_iff_not, Bool.not_eq_true', Bool.not_eq_false', beq_iff_eq, beq_eq_false_iff_ne, ne_eq, Bool.and_eq_true, Bool.or_eq_true, Int.not_lt, Int.not_le] at hb_39
        refine vc_exit_of ?_
        refine seqQ_exit hQ11 ?_
        refine blockQ_exit hQ10 ?_
        refine seqQ_normal hQ9 ?_
        simp only [go_sem, Try.ntmps15, Try.results15]
        refine thenQ_normal hQ6 ?_
        refine ⟨(m_1, IntKind.i64.wrap (i_1 + 1), a_5), [some 0], ?_, h, Nat.lt_succ_self _⟩
        simp only [go_sem, Le]
      ·
        replace h := if_f h hb_39
        simp only [decide_eq_true_eq, decide_eq_false_iff_not, Bool.not_eq_true', Bool.not_eq_false', beq_iff_eq, beq_eq_false_iff_ne, ne_eq, Bool.and_eq_true, Bool.or_eq_true, Int.not_lt, Int.not_le] at hb_39
        refine vc_skip_of ?_
        refine seqQ_normal hQ11 ?_
        refine vc_seq_gen (by kernel_rfl) ?_
        intro QQ13 hQ13
        simp only [go_sem, Try.ntmps15, Try.results15]
        refine seqQ_normal hQ13 ?_
        refine vc_join (by kernel_rfl) ?_
        refine seq_cut_gen (ι := Bool) (fun (known_12 : Bool) => (⟨0, [(0, .sl 4 (enc l_0)), (1, .v (.int .i64 node_0)), (5, .osl 0 1 (0) (List.length a_5)), (6, .v (.int .i64 i_1)), (7, .v (.bool known_12))], [(0, .arr 1 (enc a_5))], 1, 88⟩ : St)) (fun (known_12 : Bool) => f_backwashref32_Epochs_J2 i_1 a_5 (loopK (f_backwashref32_Epochs_B1 l_0 node_0) m_1) xv_32 known_12 = some r) ?_ ?_
        ·
          intro QQ23 hQ23
          refine vc_seq_gen (by kernel_rfl) ?_
          intro QQ24 hQ24
          simp only [go_sem, Try.ntmps15, Try.results15]
          refine seqQ_normal hQ24 ?_
          refine vc_block_gen ?_
          intro QQ25 hQ25
          refine vc_loop_of ?_
          refine loop_gen (ι := Nat × Bool × Int) (fun ((_, known_14, k_17) : Nat × Bool × Int) => (⟨0, [(0, .sl 4 (enc l_0)), (1, .v (.int .i64 node_0)), (5, .osl 0 1 (0) (List.length a_5)), (6, .v (.int .i64 i_1)), (7, .v (.bool known_14)), (8, .v (.int .i64 k_17))], [(0, .arr 1 (enc a_5))], 1, 88⟩ : St)) (fun ((n_, known_14, k_17) : Nat × Bool × Int) => loopK (f_backwashref32_Epochs_B4 i_1 a_5 (loopK (f_backwashref32_Epochs_B1 l_0 node_0) m_1) xv_32) n_ (known_14, k_17) = some r) (fun p => p.1) (rounds, false, 0) [some 0] ?_ h ?_
          · simp only [go_sem, Le]
          · rintro ⟨n_4, known_14, k_17⟩ h QQ26 hQ26
            dsimp only at h
            replace h := loopK_some h
            obtain ⟨m_4, rfl, h⟩ := h
            rw [f_backwashref32_Epochs_B4] at h
            refine vc_seq_gen (by kernel_rfl) ?_
            intro QQ27 hQ27
            refine vc_seq_gen (by kernel_rfl) ?_
            intro QQ28 hQ28
            simp only [go_sem, Try.ntmps15, Try.results15]
            refine seqQ_normal hQ28 ?_
            refine vc_cond_of (b := (decide (k_17 < (List.length a_5 : Int)))) (by (simp only [go_sem]; done)) (fun hb_55 => ?_) (fun hb_55 => ?_)
            ·
              replace h := if_t h hb_55
              simp only [decide_eq_true_eq, decide_eq_false_iff_not, Bool.not_eq_true', Bool.not_eq_false', beq_iff_eq, beq_eq_false_iff_ne, ne_eq, Bool.and_eq_true, Bool.or_eq_true, Int.not_lt, Int.not_le] at hb_55
              refine vc_skip_of ?_
              refine seqQ_normal hQ27 ?_
              refine vc_seq_gen (by kernel_rfl) ?_
              intro QQ29 hQ29
              refine vc_block_gen ?_
              intro QQ30 hQ30
              refine vc_draw ?_
              refine drawM_tail 11 [0, 1, 3, 3, 15, 31, 3, 3, 195, 451, 963, 2047, 4095, 8191] mixed (by kernel_rfl) (of_decide_eq_true (by kernel_rfl)) (by kernel_rfl) ?_
              simp only [go_sem, Try.ntmps15, Try.results15]
              rcases hb_56 : known_14 with _ | _
              ·
                replace h := if_f h hb_56
                obtain ⟨xv_47, exv_47, h⟩ := bindO_some h
                obtain ⟨fxv_47a, fxv_47b, fxv_47c⟩ := idx_spec exv_47
                simp only [go_sem, Try.ntmps15, Try.results15, hb_56, fxv_47a, fxv_47b, fxv_47c, fxv_32a, fxv_32b, fxv_32c]
                refine And.intro (by omega) ?_
                refine And.intro (by omega) ?_
                refine blockQ_normal hQ30 ?_
                refine seqQ_normal hQ29 ?_
                simp only [go_sem, Try.ntmps15, Try.results15]
                refine thenQ_normal hQ26 ?_
                refine ⟨(m_4, (xv_47 == xv_32.Epoch), IntKind.i64.wrap (k_17 + 1)), [some 0], ?_, h, Nat.lt_succ_self _⟩
                simp only [go_sem, Le]
              ·
                replace h := if_t h hb_56
                simp only [go_sem, Try.ntmps15, Try.results15, hb_56]
                refine blockQ_normal hQ30 ?_
                refine seqQ_normal hQ29 ?_
                simp only [go_sem, Try.ntmps15, Try.results15]
                refine thenQ_normal hQ26 ?_
                refine ⟨(m_4, true, IntKind.i64.wrap (k_17 + 1)), [some 0], ?_, h, Nat.lt_succ_self _⟩
                simp only [go_sem, Le]
            ·
              replace h := if_f h hb_55
              simp only [decide_eq_true_eq, decide_eq_false_iff_not, Bool.not_eq_true', Bool.not_eq_false', beq_iff_eq, beq_eq_false_iff_ne, ne_eq, Bool.and_eq_true, Bool.or_eq_true, Int.not_lt, Int.not_le] at hb_55
              refine vc_exit_of ?_
              refine seqQ_exit hQ27 ?_
              refine thenQ_exit hQ26 ?_
              refine blockQ_exit hQ25 ?_
              refine thenQ_normal hQ23 ?_
              refine ⟨known_14, [some 0], ?_, h⟩
              simp only [go_sem, Le]
        · rintro known_12 h
          try dsimp only at h
          rw [f_backwashref32_Epochs_J2] at h
          refine vc_seq_gen (by kernel_rfl) ?_
          intro QQ14 hQ14
          simp only [go_sem, Try.ntmps15, Try.results15]
          refine seqQ_normal hQ14 ?_
          refine vc_cond_of (b := (!known_12)) (by (simp only [go_sem]; done)) (fun hb_45 => ?_) (fun hb_45 => ?_)
          ·
            replace h := if_t h hb_45
            simp only [decide_eq_true_eq, decide_eq_false_iff_not, Bool.not_eq_true', Bool.not_eq_false', beq_iff_eq, beq_eq_false_iff_ne, ne_eq, Bool.and_eq_true, Bool.or_eq_true, Int.not_lt, Int.not_le] at hb_45
            refine vc_seq_gen (by kernel_rfl) ?_
            intro QQ15 hQ15
            have rf_15 : [[.v (.int .i64 xv_32.Epoch)]] = enc ([xv_32.Epoch] : List Int) := by rfl
            obtain ⟨g_2, h⟩ := guardO_some h
            simp only [List.length_cons, List.length_nil, Nat.zero_add, List.length_append] at g_2
            have rf_16 : enc a_5 ++ [[.v (.int .i64 xv_32.Epoch)]] = enc (a_5 ++ ([xv_32.Epoch] : List Int)) := by exact (enc_app a_5 ([xv_32.Epoch] : List Int)).symm
            simp only [go_sem, Try.ntmps15, Try.results15, fxv_32a, fxv_32b, fxv_32c, g_2, rf_16]
            refine And.intro (by omega) ?_
            simp only [rf_15]
            refine seqQ_normal hQ15 ?_
            refine vc_seq_gen (by kernel_rfl) ?_
            intro QQ16 hQ16
            simp only [go_sem, Try.ntmps15, Try.results15]
            refine seqQ_normal hQ16 ?_
            refine vc_block_gen ?_
            intro QQ17 hQ17
            refine vc_loop_of ?_
            refine loop_gen (ι := Nat × Int × (List Int)) (fun ((_, k_15, a_7) : Nat × Int × (List Int)) => (⟨0, [(0, .sl 4 (enc l_0)), (1, .v (.int .i64 node_0)), (5, .osl 0 1 (0) (List.length a_7)), (6, .v (.int .i64 i_1)), (9, .v (.int .i64 k_15))], [(0, .arr 1 (enc a_7))], 1, 88⟩ : St)) (fun ((n_, k_15, a_7) : Nat × Int × (List Int)) => loopK (f_backwashref32_Epochs_B3 i_1 (loopK (f_backwashref32_Epochs_B1 l_0 node_0) m_1)) n_ (k_15, a_7) = some r) (fun p => p.1) (rounds, IntKind.i64.wrap ((List.length (a_5 ++ ([xv_32.Epoch] : List Int)) : Int) - 1), (a_5 ++ ([xv_32.Epoch] : List Int))) [some 2] ?_ h ?_
            · simp only [go_sem, Le] <;> (repeat' apply And.intro) <;> ((try with_reducible refine TL_eq ?_); (simp [go_sem]; done))
            · rintro ⟨n_3, k_15, a_7⟩ h QQ18 hQ18
              dsimp only at h
              replace h := loopK_some h
              obtain ⟨m_3, rfl, h⟩ := h
              rw [f_backwashref32_Epochs_B3] at h
              refine vc_seq_gen (by kernel_rfl) ?_
              intro QQ19 hQ19
              refine vc_seq_gen (by kernel_rfl) ?_
              intro QQ20 hQ20
              refine vc_draw ?_
              refine drawM_tail 12 [0, 1, 3, 7, 7, 31, 63, 7, 7, 263, 903, 1927, 4095, 8191] mixed (by kernel_rfl) (of_decide_eq_true (by kernel_rfl)) (by kernel_rfl) ?_
              simp only [go_sem, Try.ntmps15, Try.results15]
              rcases hb_50 : (decide (0 < k_15)) with _ | _
              ·
                replace h := if_f h hb_50
                simp only [go_sem, Try.ntmps15, Try.results15, hb_50]
                refine seqQ_normal hQ20 ?_
                refine vc_cond_f (by (simp only [go_sem]; done)) ?_
                refine vc_exit_of ?_
                refine seqQ_exit hQ19 ?_
                refine thenQ_exit hQ18 ?_
                refine blockQ_exit hQ17 ?_
                refine blockQ_normal hQ10 ?_
                refine seqQ_normal hQ9 ?_
                simp only [go_sem, Try.ntmps15, Try.results15]
                refine thenQ_normal hQ6 ?_
                refine ⟨(m_1, IntKind.i64.wrap (i_1 + 1), a_7), [some 0], ?_, h, Nat.lt_succ_self _⟩
                simp only [go_sem, Le]
              ·
                replace h := if_t h hb_50
                obtain ⟨xv_42, exv_42, h⟩ := bindO_some h
                obtain ⟨fxv_42a, fxv_42b, fxv_42c⟩ := idx_spec exv_42
                obtain ⟨xv_43, exv_43, h⟩ := bindO_some h
                obtain ⟨fxv_43a, fxv_43b, fxv_43c⟩ := idx_spec exv_43
                simp only [go_sem, Try.ntmps15, Try.results15, hb_50, fxv_42a, fxv_42b, fxv_42c, fxv_43a, fxv_43b, fxv_43c]
                refine And.intro (by omega) ?_
                refine And.intro (by omega) ?_
                refine seqQ_normal hQ20 ?_
                refine vc_cond_of (b := (decide (xv_42 < xv_43))) (by (simp only [go_sem]; done)) (fun hb_51 => ?_) (fun hb_51 => ?_)
                ·
                  replace h := if_t h hb_51
                  simp only [decide_eq_true_eq, decide_eq_false_iff_not, Bool.not_eq_true', Bool.not_eq_false', beq_iff_eq, beq_eq_false_iff_ne, ne_eq, Bool.and_eq_true, Bool.or_eq_true, Int.not_lt, Int.not_le] at hb_51
                  refine vc_skip_of ?_
                  refine seqQ_normal hQ19 ?_
                  refine vc_seq_gen (by kernel_rfl) ?_
                  intro QQ21 hQ21
                  refine vc_block_gen ?_
                  intro QQ22 hQ22
                  refine vc_draw ?_
                  refine drawV_all 16 0 [0, 0, 0, 0, 8, 0, 0, 64, 224, 480, 0, 0, 3072, 7168, 16355, 32739, 65535, 131071] [0] [2, 3, 4] [15] [] mixed (by kernel_rfl) (of_decide_eq_true (by kernel_rfl)) (by kernel_rfl) (by kernel_rfl) (by rfl) ?_
                  have rf_21 : (enc a_7).set (Int.toNat k_15) [.v (.int .i64 xv_43)] = enc (List.set a_7 (Int.toNat k_15) xv_43) := by exact enc_set _ _ _
                  obtain ⟨xv_44, exv_44, h⟩ := bindO_some h
                  obtain ⟨fxv_44a, fxv_44b, fxv_44c⟩ := idx_spec exv_44
                  have rf_22 : (enc (List.set a_7 (Int.toNat k_15) xv_43)).set (Int.toNat (IntKind.i64.wrap (k_15 - 1))) [.v (.int .i64 xv_42)] = enc (List.set (List.set a_7 (Int.toNat k_15) xv_43) (Int.toNat (IntKind.i64.wrap (k_15 - 1))) xv_42) := by exact enc_set _ _ _
                  simp only [go_sem, Try.ntmps15, Try.results15, fxv_43a, fxv_43b, fxv_43c, fxv_42a, fxv_42b, fxv_42c, rf_21, fxv_44a, fxv_44b, fxv_44c, rf_22]
                  refine And.intro (by omega) ?_
                  refine And.intro (by omega) ?_
                  refine And.intro (by omega) ?_
                  refine And.intro (by omega) ?_
                  refine blockQ_normal hQ22 ?_
                  refine seqQ_normal hQ21 ?_
                  simp only [go_sem, Try.ntmps15, Try.results15]
                  refine thenQ_normal hQ18 ?_
                  refine ⟨(m_3, IntKind.i64.wrap (k_15 - 1), (List.set (List.set a_7 (Int.toNat k_15) xv_43) (Int.toNat (IntKind.i64.wrap (k_15 - 1))) xv_42)), [some 0], ?_, h, Nat.lt_succ_self _⟩
                  simp only [go_sem, Le]
                ·
                  replace h := if_f h hb_51
                  simp only [decide_eq_true_eq, decide_eq_false_iff_not, Bool.not_eq_true', Bool.not_eq_false', beq_iff_eq, beq_eq_false_iff_ne, ne_eq, Bool.and_eq_true, Bool.or_eq_true, Int.not_lt, Int.not_le] at hb_51
                  refine vc_exit_of ?_
                  refine seqQ_exit hQ19 ?_
                  refine thenQ_exit hQ18 ?_
                  refine blockQ_exit hQ17 ?_
                  refine blockQ_normal hQ10 ?_
                  refine seqQ_normal hQ9 ?_
                  simp only [go_sem, Try.ntmps15, Try.results15]
                  refine thenQ_normal hQ6 ?_
                  refine ⟨(m_1, IntKind.i64.wrap (i_1 + 1), a_7), [some 0], ?_, h, Nat.lt_succ_self _⟩
                  simp only [go_sem, Le]
          ·
            replace h := if_f h hb_45
            simp only [decide_eq_true_eq, decide_eq_false_iff_not, Bool.not_eq_true', Bool.not_eq_false', beq_iff_eq, beq_eq_false_iff_ne, ne_eq, Bool.and_eq_true, Bool.or_eq_true, Int.not_lt, Int.not_le] at hb_45
            refine vc_skip_of ?_
            refine blockQ_normal hQ10 ?_
            refine seqQ_normal hQ9 ?_
            simp only [go_sem, Try.ntmps15, Try.results15]
            refine thenQ_normal hQ6 ?_
            refine ⟨(m_1, IntKind.i64.wrap (i_1 + 1), a_5), [some 0], ?_, h, Nat.lt_succ_self _⟩
            simp only [go_sem, Le]
    ·
      replace h := if_f h hb_38
      simp only [decide_eq_true_eq, decide_eq_false_iff_not, Bool.not_eq_true', Bool.not_eq_false', beq_iff_eq, beq_eq_false_iff_ne, ne_eq, Bool.and_eq_true, Bool.or_eq_true, Int.not_lt, Int.not_le] at hb_38
      refine vc_exit_of ?_
      refine seqQ_exit hQ7 ?_
      refine thenQ_exit hQ6 ?_
      refine blockQ_exit hQ5 ?_
      refine seqQ_normal hQ3 ?_
      refine vc_seq_gen (by kernel_rfl) ?_
      intro QQ31 hQ31
      simp only [go_sem, Try.ntmps15, Try.results15]
      refine seqQ_normal hQ31 ?_
      refine vc_ret_of ?_
      simp only [go_sem, Try.ntmps15, Try.results15]
      obtain rfl := Option.some.inj h
      refine retW_det [some 0] ?_
      simp only [go_sem, Le]
theorem f_backwashref32_Epochs_ok (l_0 : List GOut) (node_0 : Int)  (r : List Int) (h : f_backwashref32_Epochs l_0 node_0 = some r) : PureS Try.prog 15 [.sl 4 (enc l_0), .v (.int .i64 node_0)] 0 (.sl 1 (enc r)) := by
  refine (f_backwashref32_Epochs_det l_0 node_0  r h).pure ?_
  simp only [go_sem, Le] <;> (repeat' apply And.intro) <;> ((try with_reducible refine TL_eq ?_); (simp [go_sem]; done))
end Go.Proofs.Ythpahhhdapdcpaa

namespace Go.Proofs.Ythpahhhdapdcpaa
open Go Go.RowKit
set_option maxHeartbeats 2000000
set_option maxRecDepth 100000
set_option linter.unusedSimpArgs false
set_option linter.unusedVariables false
def f_backwashref32_in (o_0 : GOut) (node_0 : Int) (fromv_0 : Int) (tov_0 : Int) : Option Bool :=
  some (((o_0.Node == node_0) && (decide (fromv_0 ≤ o_0.Epoch))) && (decide (o_0.Epoch ≤ tov_0)))
theorem f_backwashref32_in_ok (o_0 : GOut) (node_0 : Int) (fromv_0 : Int) (tov_0 : Int)  (r : Bool) (h : f_backwashref32_in o_0 node_0 fromv_0 tov_0 = some r) : PureS Try.prog 64 [.agg [.v (.int .i64 o_0.Node), .v (.int .i64 o_0.Epoch), .v (.int .i64 o_0.Rec.K), .v (.int .i64 o_0.Rec.V)], .v (.int .i64 node_0), .v (.int .i64 fromv_0), .v (.int .i64 tov_0)] 0 (.v (.bool r)) := by
  unfold PureS
  refine Spec.of_vc Try.func64 rfl (by kernel_rfl) (by kernel_rfl) ?_
  rw [f_backwashref32_in] at h
  refine vc_seq_gen (by kernel_rfl) ?_
  intro QQ1 hQ1
  simp only [go_sem, Try.ntmps64, Try.results64]
  refine seqQ_normal hQ1 ?_
  refine vc_seq_gen (by kernel_rfl) ?_
  intro QQ2 hQ2
  simp only [go_sem, Try.ntmps64, Try.results64]
  refine And.intro (by omega) ?_
  refine seqQ_normal hQ2 ?_
  refine vc_ret_of ?_
  simp only [go_sem, Try.ntmps64, Try.results64]
  obtain rfl := Option.some.inj h
  refine retW_pure rfl ?_
  simp only [go_sem, Le]
end Go.Proofs.Ythpahhhdapdcpaa

namespace Go.Proofs.Ythpahhhdapdcpaa
open Go Go.RowKit
set_option maxHeartbeats 2000000
set_option maxRecDepth 100000
set_option linter.unusedSimpArgs false
set_option linter.unusedVariables false
def f_backwashref32_row_J1 (high_2 : Int) (mid_2 : Int) (low_2 : Int) (b_4 : GRow) : Option GRow :=
  (if ((decide ((-2097152) ≤ (IntKind.i64.wrap (high_2 + (shrI .i64 (IntKind.i64.wrap (mid_2 + (shrI .i64 low_2 21))) 21))))) && (decide ((IntKind.i64.wrap (high_2 + (shrI .i64 (IntKind.i64.wrap (mid_2 + (shrI .i64 low_2 21))) 21))) ≤ 2097151))) = true then some (⟨b_4.K, b_4.Many, b_4.Least, b_4.Top, IntKind.i64.wrap ((IntKind.i64.wrap ((shlI .i64 (IntKind.i64.wrap (high_2 + (shrI .i64 (IntKind.i64.wrap (mid_2 + (shrI .i64 low_2 21))) 21))) 42) + (shlI .i64 (andI .i64 (IntKind.i64.wrap (mid_2 + (shrI .i64 low_2 21))) 2097151) 21))) + (andI .i64 low_2 2097151)), true⟩ : GRow)
  else some b_4)
def f_backwashref32_row_J3 (high_4 : Int) (mid_4 : Int) (low_4 : Int) (i_3 : Int) (rec_2 : (Int × Int × Int × Int × GRow → Option GRow)) (xv_5 : GOut) (b_8 : GRow) : Option GRow :=
  (if ((b_8.Many == 0) || (decide (b_8.Top < xv_5.Rec.V))) = true then rec_2 (IntKind.i64.wrap (high_4 + (shrI .i64 xv_5.Rec.V 42)), IntKind.i64.wrap (mid_4 + (andI .i64 (shrI .i64 xv_5.Rec.V 21) 2097151)), IntKind.i64.wrap (low_4 + (andI .i64 xv_5.Rec.V 2097151)), IntKind.i64.wrap (i_3 + 1), (⟨b_8.K, IntKind.i64.wrap (b_8.Many + 1), b_8.Least, xv_5.Rec.V, b_8.Sum, b_8.Sure⟩ : GRow))
  else rec_2 (IntKind.i64.wrap (high_4 + (shrI .i64 xv_5.Rec.V 42)), IntKind.i64.wrap (mid_4 + (andI .i64 (shrI .i64 xv_5.Rec.V 21) 2097151)), IntKind.i64.wrap (low_4 + (andI .i64 xv_5.Rec.V 2097151)), IntKind.i64.wrap (i_3 + 1), (⟨b_8.K, IntKind.i64.wrap (b_8.Many + 1), b_8.Least, b_8.Top, b_8.Sum, b_8.Sure⟩ : GRow)))
def f_backwashref32_row_B2 (l_0 : List GOut) (key_0 : Int) (node_0 : Int) (fromv_0 : Int) (tov_0 : Int) (rec_2 : Int × Int × Int × Int × GRow → Option GRow) : Int × Int × Int × Int × GRow → Option GRow :=
  fun (high_4, mid_4, low_4, i_3, b_7) =>
  (if (decide (i_3 < (List.length l_0 : Int))) = true then bindO (idx l_0 i_3) (fun (xv_5 : GOut) =>
  bindO (f_backwashref32_in xv_5 node_0 fromv_0 tov_0) (fun (v_5 : Bool) =>
  (if v_5 = true then (if (!(xv_5.Rec.K == key_0)) = true then rec_2 (high_4, mid_4, low_4, IntKind.i64.wrap (i_3 + 1), b_7)
  else (if ((b_7.Many == 0) || (decide (xv_5.Rec.V < b_7.Least))) = true then f_backwashref32_row_J3 high_4 mid_4 low_4 i_3 rec_2 xv_5 (⟨b_7.K, b_7.Many, xv_5.Rec.V, b_7.Top, b_7.Sum, b_7.Sure⟩ : GRow)
  else f_backwashref32_row_J3 high_4 mid_4 low_4 i_3 rec_2 xv_5 b_7))
  else rec_2 (high_4, mid_4, low_4, IntKind.i64.wrap (i_3 + 1), b_7))))
  else f_backwashref32_row_J1 high_4 mid_4 low_4 b_7)
def f_backwashref32_row (l_0 : List GOut) (key_0 : Int) (node_0 : Int) (fromv_0 : Int) (tov_0 : Int) : Option GRow :=
  loopK (f_backwashref32_row_B2 l_0 key_0 node_0 fromv_0 tov_0) rounds (0, 0, 0, 0, (⟨key_0, 0, 0, 0, 0, false⟩ : GRow))
theorem f_backwashref32_row_ok (l_0 : List GOut) (key_0 : Int) (node_0 : Int) (fromv_0 : Int) (tov_0 : Int)  (r : GRow) (h : f_backwashref32_row l_0 key_0 node_0 fromv_0 tov_0 = some r) : PureS Try.prog 65 [.sl 4 (enc l_0), .v (.int .i64 key_0), .v (.int .i64 node_0), .v (.int .i64 fromv_0), .v (.int .i64 tov_0)] 0 (.agg [.v (.int .i64 r.K), .v (.int .i64 r.Many), .v (.int .i64 r.Least), .v (.int .i64 r.Top), .v (.int .i64 r.Sum), .v (.bool r.Sure)]) := by
  unfold PureS
  refine Spec.of_vc Try.func65 rfl (by kernel_rfl) (by kernel_rfl) ?_
  rw [f_backwashref32_row] at h
  refine vc_seq_gen (by kernel_rfl) ?_
  intro QQ1 hQ1
  simp only [go_sem, Try.ntmps65, Try.results65]
  refine seqQ_normal hQ1 ?_
  refine vc_seq_gen (by kernel_rfl) ?_
  intro QQ2 hQ2
  simp only [go_sem, Try.ntmps65, Try.results65]
  refine seqQ_normal hQ2 ?_
  refine vc_seq_gen (by kernel_rfl) ?_
  intro QQ3 hQ3
  simp only [go_sem, Try.ntmps65, Try.results65]
  refine seqQ_normal hQ3 ?_
  refine vc_join (by kernel_rfl) ?_
  refine seq_cut_gen (ι := Int × Int × Int × GRow) (fun ((high_2, mid_2, low_2, b_4) : Int × Int × Int × GRow) => (⟨0, [(10, .ptr 0 0), (11, .ptr 1 0), (12, .v (.int .i64 high_2)), (13, .v (.int .i64 mid_2)), (14, .v (.int .i64 low_2))], [(0, .box [.v (.int .i64 0), .v (.int .i64 0), .v (.int .i64 0), .v (.int .i64 0), .v (.int .i64 0), .v (.bool false)]), (1, .box [.v (.int .i64 b_4.K), .v (.int .i64 b_4.Many), .v (.int .i64 b_4.Least), .v (.int .i64 b_4.Top), .v (.int .i64 b_4.Sum), .v (.bool b_4.Sure)])], 2, 115⟩ : St)) (fun ((high_2, mid_2, low_2, b_4) : Int × Int × Int × GRow) => f_backwashref32_row_J1 high_2 mid_2 low_2 b_4 = some r) ?_ ?_
  ·
    intro QQ11 hQ11
    refine vc_seq_gen (by kernel_rfl) ?_
    intro QQ12 hQ12
    simp only [go_sem, Try.ntmps65, Try.results65]
    refine seqQ_normal hQ12 ?_
    refine vc_block_gen ?_
    intro QQ13 hQ13
    refine vc_loop_of ?_
    refine loop_gen (ι := Nat × Int × Int × Int × Int × GRow) (fun ((_, high_4, mid_4, low_4, i_3, b_7) : Nat × Int × Int × Int × Int × GRow) => (⟨0, [(0, .sl 4 (enc l_0)), (1, .v (.int .i64 key_0)), (2, .v (.int .i64 node_0)), (3, .v (.int .i64 fromv_0)), (4, .v (.int .i64 tov_0)), (10, .ptr 0 0), (11, .ptr 1 0), (12, .v (.int .i64 high_4)), (13, .v (.int .i64 mid_4)), (14, .v (.int .i64 low_4)), (15, .v (.int .i64 i_3))], [(0, .box [.v (.int .i64 0), .v (.int .i64 0), .v (.int .i64 0), .v (.int .i64 0), .v (.int .i64 0), .v (.bool false)]), (1, .box [.v (.int .i64 b_7.K), .v (.int .i64 b_7.Many), .v (.int .i64 b_7.Least), .v (.int .i64 b_7.Top), .v (.int .i64 b_7.Sum), .v (.bool b_7.Sure)])], 2, 115⟩ : St)) (fun ((n_, high_4, mid_4, low_4, i_3, b_7) : Nat × Int × Int × Int × Int × GRow) => loopK (f_backwashref32_row_B2 l_0 key_0 node_0 fromv_0 tov_0) n_ (high_4, mid_4, low_4, i_3, b_7) = some r) (fun p => p.1) (rounds, 0, 0, 0, 0, (⟨key_0, 0, 0, 0, 0, false⟩ : GRow)) [some 0, some 1] ?_ h ?_
    · simp only [go_sem, Le] <;> (repeat' apply And.intro) <;> first | ((try with_reducible refine TL_eq ?_); omega) | ((try with_reducible refine TL_eq ?_); (simp [go_sem]; done))
    · rintro ⟨n_2, high_4, mid_4, low_4, i_3, b_7⟩ h QQ14 hQ14
      dsimp only at h
      replace h := loopK_some h
      obtain ⟨m_2, rfl, h⟩ := h
      rw [f_backwashref32_row_B2] at h
      refine vc_seq_gen (by kernel_rfl) ?_
      intro QQ15 hQ15
      refine vc_seq_gen (by kernel_rfl) ?_
      intro QQ16 hQ16
      simp only [go_sem, Try.ntmps65, Try.results65]
      refine seqQ_normal hQ16 ?_
      refine vc_cond_of (b := (decide (i_3 < (List.length l_0 : Int)))) (by (simp only [go_sem]; done)) (fun hb_25 => ?_) (fun hb_25 => ?_)
      ·
        replace h := if_t h hb_25
        simp only [decide_eq_true_eq, decide_eq_false_iff_not, Bool.not_eq_true', Bool.not_eq_false', beq_iff_eq, beq_eq_false_iff_ne, ne_eq, Bool.and_eq_true, Bool.or_eq_true, Int.not_lt, Int.not_le] at hb_25
        refine vc_skip_of ?_
        refine seqQ_normal hQ15 ?_
        refine vc_join (by kernel_rfl) ?_
        refine seq_go_gen ?_
        intro QQ17 hQ17
        refine vc_block_gen ?_
        intro QQ18 hQ18
        refine vc_seq_gen (by kernel_rfl) ?_
        intro QQ19 hQ19
        refine vc_seq_gen (by kernel_rfl) ?_
        intro QQ20 hQ20
        obtain ⟨xv_5, exv_5, h⟩ := bindO_some h
        obtain ⟨fxv_5a, fxv_5b, fxv_5c⟩ := idx_spec exv_5
        obtain ⟨v_5, ev_5, h⟩ := bindO_some h
        simp only [go_sem, Try.ntmps65, Try.results65, fxv_5a, fxv_5b, fxv_5c]
        refine And.intro (by omega) ?_
        refine call0 (f_backwashref32_in_ok xv_5 node_0 fromv_0 tov_0 v_5 ev_5) (by rfl) (by rfl) ?_
        simp only [go_sem, Try.ntmps65, Try.results65]
        rcases hb_26 : v_5 with _ | _
        ·
          replace h := if_f h hb_26
          simp only [go_sem, Try.ntmps65, Try.results65, hb_26]
          refine seqQ_normal hQ20 ?_
          refine vc_cond_t (by (simp only [go_sem]; done)) ?_
          refine vc_exit_of ?_
          refine seqQ_exit hQ19 ?_
          refine blockQ_exit hQ18 ?_
          refine seqQ_normal hQ17 ?_
          simp only [go_sem, Try.ntmps65, Try.results65]
          refine thenQ_normal hQ14 ?_
          refine ⟨(m_2, high_4, mid_4, low_4, IntKind.i64.wrap (i_3 + 1), b_7), [some 0, some 1], ?_, h, Nat.lt_succ_self _⟩
          simp only [go_sem, Le] <;> (repeat' apply And.intro) <;> first | ((try with_reducible refine TL_eq ?_); omega) | ((try with_reducible refine TL_eq ?_); (simp [go_sem]; done))
        ·
          replace h := if_t h hb_26
          simp only [go_sem, Try.ntmps65, Try.results65, hb_26, fxv_5a, fxv_5b, fxv_5c]
          refine And.intro (by omega) ?_
          refine seqQ_normal hQ20 ?_
          refine vc_cond_of (b := (!(xv_5.Rec.K == key_0))) (by (simp only [go_sem]; done)) (fun hb_27 => ?_) (fun hb_27 => ?_)
          ·
            replace h := if_t h hb_27
            simp only [decide_eq_true_eq, decide_eq_false_iff_not, Bool.not_eq_true', Bool.not_eq_false', beq_iff_eq, beq_eq_false_iff_ne, ne_eq, Bool.and_eq_true, Bool.or_eq_true, Int.not_lt, Int.not_le] at hb_27
            refine vc_exit_of ?_
            refine seqQ_exit hQ19 ?_
            refine blockQ_exit hQ18 ?_
            refine seqQ_normal hQ17 ?_
            simp only [go_sem, Try.ntmps65, Try.results65]
            refine thenQ_normal hQ14 ?_
            refine ⟨(m_2, high_4, mid_4, low_4, IntKind.i64.wrap (i_3 + 1), b_7), [some 0, some 1], ?_, h, Nat.lt_succ_self _⟩
            simp only [go_sem, Le] <;> (repeat' apply And.intro) <;> first | ((try with_reducible refine TL_eq ?_); omega) | ((try with_reducible refine TL_eq ?_); (simp [go_sem]; done))
          ·
            replace h := if_f h hb_27
            simp only [decide_eq_true_eq, decide_eq_false_iff_not, Bool.not_eq_true', Bool.not_eq_false', beq_iff_eq, beq_eq_false_iff_ne, ne_eq, Bool.and_eq_true, Bool.or_eq_true, Int.not_lt, Int.not_le] at hb_27
            refine vc_skip_of ?_
            refine seqQ_normal hQ19 ?_
            refine vc_seq_gen (by kernel_rfl) ?_
            intro QQ21 hQ21
            simp only [go_sem, Try.ntmps65, Try.results65, fxv_5a, fxv_5b, fxv_5c]
            refine And.intro (by omega) ?_
            refine seqQ_normal hQ21 ?_
            refine vc_join (by kernel_rfl) ?_
            refine seq_cut_gen (ι := GRow) (fun (b_8 : GRow) => (⟨0, [(0, .sl 4 (enc l_0)), (1, .v (.int .i64 key_0)), (2, .v (.int .i64 node_0)), (3, .v (.int .i64 fromv_0)), (4, .v (.int .i64 tov_0)), (10, .ptr 0 0), (11, .ptr 1 0), (12, .v (.int .i64 high_4)), (13, .v (.int .i64 mid_4)), (14, .v (.int .i64 low_4)), (15, .v (.int .i64 i_3)), (16, .v (.int .i64 xv_5.Rec.V)), (35, .sl 4 (enc l_0)), (36, .v (.int .i64 i_3)), (40, .v (.int .i64 xv_5.Rec.K)), (41, .v (.int .i64 key_0)), (42, .v (.bool (!(xv_5.Rec.K == key_0))))], [(0, .box [.v (.int .i64 0), .v (.int .i64 0), .v (.int .i64 0), .v (.int .i64 0), .v (.int .i64 0), .v (.bool false)]), (1, .box [.v (.int .i64 b_8.K), .v (.int .i64 b_8.Many), .v (.int .i64 b_8.Least), .v (.int .i64 b_8.Top), .v (.int .i64 b_8.Sum), .v (.bool b_8.Sure)])], 2, 115⟩ : St)) (fun (b_8 : GRow) => f_backwashref32_row_J3 high_4 mid_4 low_4 i_3 (loopK (f_backwashref32_row_B2 l_0 key_0 node_0 fromv_0 tov_0) m_2) xv_5 b_8 = some r) ?_ ?_
            ·
              intro QQ30 hQ30
              refine vc_seq_gen (by kernel_rfl) ?_
              intro QQ31 hQ31
              simp only [go_sem, Try.ntmps65, Try.results65]
              refine seqQ_normal hQ31 ?_
              refine vc_cond_of (b := ((b_7.Many == 0) || (decide (xv_5.Rec.V < b_7.Least)))) (by (simp only [go_sem]; done)) (fun hb_30 => ?_) (fun hb_30 => ?_)
              ·
                replace h := if_t h hb_30
                simp only [decide_eq_true_eq, decide_eq_false_iff_not, Bool.not_eq_true', Bool.not_eq_false', beq_iff_eq, beq_eq_false_iff_ne, ne_eq, Bool.and_eq_true, Bool.or_eq_true, Int.not_lt, Int.not_le] at hb_30
                simp only [go_sem, Try.ntmps65, Try.results65]
                refine thenQ_normal hQ30 ?_
                refine ⟨(⟨b_7.K, b_7.Many, xv_5.Rec.V, b_7.Top, b_7.Sum, b_7.Sure⟩ : GRow), [some 0, some 1], ?_, h⟩
                simp only [go_sem, Le] <;> (repeat' apply And.intro) <;> first | ((try with_reducible refine TL_eq ?_); omega) | ((try with_reducible refine TL_eq ?_); (simp [go_sem]; done))
              ·
                replace h := if_f h hb_30
                refine vc_skip_of ?_
                refine thenQ_normal hQ30 ?_
                refine ⟨b_7, [some 0, some 1], ?_, h⟩
                simp only [go_sem, Le] <;> (repeat' apply And.intro) <;> first | ((try with_reducible refine TL_eq ?_); omega) | ((try with_reducible refine TL_eq ?_); (simp [go_sem]; done))
            · rintro b_8 h
              try dsimp only at h
              rw [f_backwashref32_row_J3] at h
              refine vc_join (by kernel_rfl) ?_
              refine seq_go_gen ?_
              intro QQ22 hQ22
              refine vc_seq_gen (by kernel_rfl) ?_
              intro QQ23 hQ23
              simp only [go_sem, Try.ntmps65, Try.results65]
              refine seqQ_normal hQ23 ?_
              refine vc_cond_of (b := ((b_8.Many == 0) || (decide (b_8.Top < xv_5.Rec.V)))) (by (simp only [go_sem]; done)) (fun hb_29 => ?_) (fun hb_29 => ?_)
              ·
                replace h := if_t h hb_29
                simp only [decide_eq_true_eq, decide_eq_false_iff_not, Bool.not_eq_true', Bool.not_eq_false', beq_iff_eq, beq_eq_false_iff_ne, ne_eq, Bool.and_eq_true, Bool.or_eq_true, Int.not_lt, Int.not_le] at hb_29
                simp only [go_sem, Try.ntmps65, Try.results65]
                refine seqQ_normal hQ22 ?_
                refine vc_seq_gen (by kernel_rfl) ?_
                intro QQ24 hQ24
                simp only [go_sem, Try.ntmps65, Try.results65]
                refine seqQ_normal hQ24 ?_
                refine vc_seq_gen (by kernel_rfl) ?_
                intro QQ25 hQ25
                simp only [go_sem, Try.ntmps65, Try.results65]
                refine seqQ_normal hQ25 ?_
                refine vc_seq_gen (by kernel_rfl) ?_
                intro QQ26 hQ26
                simp only [go_sem, Try.ntmps65, Try.results65]
                refine seqQ_normal hQ26 ?_
                simp only [go_sem, Try.ntmps65, Try.results65]
                refine blockQ_normal hQ18 ?_
                refine seqQ_normal hQ17 ?_
                simp only [go_sem, Try.ntmps65, Try.results65]
                refine thenQ_normal hQ14 ?_
                refine ⟨(m_2, IntKind.i64.wrap (high_4 + (shrI .i64 xv_5.Rec.V 42)), IntKind.i64.wrap (mid_4 + (andI .i64 (shrI .i64 xv_5.Rec.V 21) 2097151)), IntKind.i64.wrap (low_4 + (andI .i64 xv_5.Rec.V 2097151)), IntKind.i64.wrap (i_3 + 1), (⟨b_8.K, IntKind.i64.wrap (b_8.Many + 1), b_8.Least, xv_5.Rec.V, b_8.Sum, b_8.Sure⟩ : GRow)), [some 0, some 1], ?_, h, Nat.lt_succ_self _⟩
                simp only [go_sem, Le] <;> (repeat' apply And.intro) <;> first | ((try with_reducible refine TL_eq ?_); omega) | ((try with_reducible refine TL_eq ?_); (simp [go_sem]; done))
              ·
                replace h := if_f h hb_29
                refine vc_skip_of ?_
                refine seqQ_normal hQ22 ?_
                refine vc_seq_gen (by kernel_rfl) ?_
                intro QQ27 hQ27
                simp only [go_sem, Try.ntmps65, Try.results65]
                refine seqQ_normal hQ27 ?_
                refine vc_seq_gen (by kernel_rfl) ?_
                intro QQ28 hQ28
                simp only [go_sem, Try.ntmps65, Try.results65]
                refine seqQ_normal hQ28 ?_
                refine vc_seq_gen (by kernel_rfl) ?_
                intro QQ29 hQ29
                simp only [go_sem, Try.ntmps65, Try.results65]
                refine seqQ_normal hQ29 ?_
                simp only [go_sem, Try.ntmps65, Try.results65]
                refine blockQ_normal hQ18 ?_
                refine seqQ_normal hQ17 ?_
                simp only [go_sem, Try.ntmps65, Try.results65]
                refine thenQ_normal hQ14 ?_
                refine ⟨(m_2, IntKind.i64.wrap (high_4 + (shrI .i64 xv_5.Rec.V 42)), IntKind.i64.wrap (mid_4 + (andI .i64 (shrI .i64 xv_5.Rec.V 21) 2097151)), IntKind.i64.wrap (low_4 + (andI .i64 xv_5.Rec.V 2097151)), IntKind.i64.wrap (i_3 + 1), (⟨b_8.K, IntKind.i64.wrap (b_8.Many + 1), b_8.Least, b_8.Top, b_8.Sum, b_8.Sure⟩ : GRow)), [some 0, some 1], ?_, h, Nat.lt_succ_self _⟩
                simp only [go_sem, Le] <;> (repeat' apply And.intro) <;> first | ((try with_reducible refine TL_eq ?_); omega) | ((try with_reducible refine TL_eq ?_); (simp [go_sem]; done))
      ·
        replace h := if_f h hb_25
        simp only [decide_eq_true_eq, decide_eq_false_iff_not, Bool.not_eq_true', Bool.not_eq_false', beq_iff_eq, beq_eq_false_iff_ne, ne_eq, Bool.and_eq_true, Bool.or_eq_true, Int.not_lt, Int.not_le] at hb_25
        refine vc_exit_of ?_
        refine seqQ_exit hQ15 ?_
        refine thenQ_exit hQ14 ?_
        refine blockQ_exit hQ13 ?_
        refine thenQ_normal hQ11 ?_
        refine ⟨(high_4, mid_4, low_4, b_7), [some 0, some 1], ?_, h⟩
        simp only [go_sem, Le] <;> (repeat' apply And.intro) <;> first | ((try with_reducible refine TL_eq ?_); omega) | ((try with_reducible refine TL_eq ?_); (simp [go_sem]; done))
  · rintro ⟨high_2, mid_2, low_2, b_4⟩ h
    try dsimp only at h
    rw [f_backwashref32_row_J1] at h
    refine vc_seq_gen (by kernel_rfl) ?_
    intro QQ4 hQ4
    simp only [go_sem, Try.ntmps65, Try.results65]
    refine seqQ_normal hQ4 ?_
    refine vc_seq_gen (by kernel_rfl) ?_
    intro QQ5 hQ5
    simp only [go_sem, Try.ntmps65, Try.results65]
    refine seqQ_normal hQ5 ?_
    refine vc_join (by kernel_rfl) ?_
    refine seq_go_gen ?_
    intro QQ6 hQ6
    refine vc_seq_gen (by kernel_rfl) ?_
    intro QQ7 hQ7
    simp only [go_sem, Try.ntmps65, Try.results65]
    refine seqQ_normal hQ7 ?_
    refine vc_cond_of (b := ((decide ((-2097152) ≤ (IntKind.i64.wrap (high_2 + (shrI .i64 (IntKind.i64.wrap (mid_2 + (shrI .i64 low_2 21))) 21))))) && (decide ((IntKind.i64.wrap (high_2 + (shrI .i64 (IntKind.i64.wrap (mid_2 + (shrI .i64 low_2 21))) 21))) ≤ 2097151)))) (by (simp only [go_sem]; done)) (fun hb_15 => ?_) (fun hb_15 => ?_)
    ·
      replace h := if_t h hb_15
      simp only [decide_eq_true_eq, decide_eq_false_iff_not, Bool.not_eq_true', Bool.not_eq_false', beq_iff_eq, beq_eq_false_iff_ne, ne_eq, Bool.and_eq_true, Bool.or_eq_true, Int.not_lt, Int.not_le] at hb_15
      refine vc_seq_gen (by kernel_rfl) ?_
      intro QQ8 hQ8
      simp only [go_sem, Try.ntmps65, Try.results65]
      refine seqQ_normal hQ8 ?_
      simp only [go_sem, Try.ntmps65, Try.results65]
      refine seqQ_normal hQ6 ?_
      refine vc_seq_gen (by kernel_rfl) ?_
      intro QQ9 hQ9
      simp only [go_sem, Try.ntmps65, Try.results65]
      refine seqQ_normal hQ9 ?_
      refine vc_ret_of ?_
      simp only [go_sem, Try.ntmps65, Try.results65]
      obtain rfl := Option.some.inj h
      refine retW_pure rfl ?_
      simp only [go_sem, Le]
    ·
      replace h := if_f h hb_15
      refine vc_skip_of ?_
      refine seqQ_normal hQ6 ?_
      refine vc_seq_gen (by kernel_rfl) ?_
      intro QQ10 hQ10
      simp only [go_sem, Try.ntmps65, Try.results65]
      refine seqQ_normal hQ10 ?_
      refine vc_ret_of ?_
      simp only [go_sem, Try.ntmps65, Try.results65]
      obtain rfl := Option.some.inj h
      refine retW_pure rfl ?_
      simp only [go_sem, Le]
end Go.Proofs.Ythpahhhdapdcpaa

namespace Go.Proofs.Ythpahhhdapdcpaa
open Go Go.RowKit
set_option maxHeartbeats 2000000
set_option maxRecDepth 100000
set_option linter.unusedSimpArgs false
set_option linter.unusedVariables false
def f_backwashref32_Rows_B3 (i_1 : Int) (rec_1 : (Int × (List GRow) → Option (List GRow))) (rec_3 : Int × (List GRow) → Option (List GRow)) : Int × (List GRow) → Option (List GRow) :=
  fun (k_15, a_7) =>
  (if (decide (0 < k_15)) = true then bindO (idx a_7 k_15) (fun (xv_42 : GRow) =>
  bindO (idx a_7 (IntKind.i64.wrap (k_15 - 1))) (fun (xv_43 : GRow) =>
  (if (decide (xv_42.K < xv_43.K)) = true then bindO (idx (List.set a_7 (Int.toNat k_15) xv_43) (IntKind.i64.wrap (k_15 - 1))) (fun (xv_44 : GRow) =>
  rec_3 (IntKind.i64.wrap (k_15 - 1), (List.set (List.set a_7 (Int.toNat k_15) xv_43) (Int.toNat (IntKind.i64.wrap (k_15 - 1))) xv_42)))
  else rec_1 (IntKind.i64.wrap (i_1 + 1), a_7))))
  else rec_1 (IntKind.i64.wrap (i_1 + 1), a_7))
def f_backwashref32_Rows_J2 (l_0 : List GOut) (node_0 : Int) (fromv_0 : Int) (tov_0 : Int) (i_1 : Int) (a_5 : List GRow) (rec_1 : (Int × (List GRow) → Option (List GRow))) (xv_32 : GOut) (known_12 : Bool) : Option (List GRow) :=
  (if (!known_12) = true then bindO (f_backwashref32_row l_0 xv_32.Rec.K node_0 fromv_0 tov_0) (fun (v_5 : GRow) =>
  guardO ((List.length a_5 + List.length ([v_5] : List GRow)) * 48 ≤ 140737488355328) (
  loopK (f_backwashref32_Rows_B3 i_1 rec_1) rounds (IntKind.i64.wrap ((List.length (a_5 ++ ([v_5] : List GRow)) : Int) - 1), (a_5 ++ ([v_5] : List GRow)))))
  else rec_1 (IntKind.i64.wrap (i_1 + 1), a_5))
def f_backwashref32_Rows_B4 (l_0 : List GOut) (node_0 : Int) (fromv_0 : Int) (tov_0 : Int) (i_1 : Int) (a_5 : List GRow) (rec_1 : (Int × (List GRow) → Option (List GRow))) (xv_32 : GOut) (rec_4 : Bool × Int → Option (List GRow)) : Bool × Int → Option (List GRow) :=
  fun (known_14, k_17) =>
  (if (decide (k_17 < (List.length a_5 : Int))) = true then (if known_14 = true then rec_4 (true, IntKind.i64.wrap (k_17 + 1))
  else bindO (idx a_5 k_17) (fun (xv_47 : GRow) =>
  rec_4 ((xv_47.K == xv_32.Rec.K), IntKind.i64.wrap (k_17 + 1))))
  else f_backwashref32_Rows_J2 l_0 node_0 fromv_0 tov_0 i_1 a_5 rec_1 xv_32 known_14)
def f_backwashref32_Rows_B1 (l_0 : List GOut) (node_0 : Int) (fromv_0 : Int) (tov_0 : Int) (rec_1 : Int × (List GRow) → Option (List GRow)) : Int × (List GRow) → Option (List GRow) :=
  fun (i_1, a_5) =>
  (if (decide (i_1 < (List.length l_0 : Int))) = true then bindO (idx l_0 i_1) (fun (xv_32 : GOut) =>
  bindO (f_backwashref32_in xv_32 node_0 fromv_0 tov_0) (fun (v_4 : Bool) =>
  (if (!v_4) = true then rec_1 (IntKind.i64.wrap (i_1 + 1), a_5)
  else loopK (f_backwashref32_Rows_B4 l_0 node_0 fromv_0 tov_0 i_1 a_5 rec_1 xv_32) rounds (false, 0))))
  else some a_5)
def f_backwashref32_Rows (l_0 : List GOut) (node_0 : Int) (fromv_0 : Int) (tov_0 : Int) : Option (List GRow) :=
  loopK (f_backwashref32_Rows_B1 l_0 node_0 fromv_0 tov_0) rounds (0, [])
theorem f_backwashref32_Rows_det (l_0 : List GOut) (node_0 : Int) (fromv_0 : Int) (tov_0 : Int)  (r : List GRow) (h : f_backwashref32_Rows l_0 node_0 fromv_0 tov_0 = some r) : DetS Try.prog 18 [.sl 4 (enc l_0), .v (.int .i64 node_0), .v (.int .i64 fromv_0), .v (.int .i64 tov_0)] [] 0 (.osl 0 6 (0) (List.length r)) [(0, .arr 6 (enc r))] 1 := by
  unfold DetS
  refine Spec.of_vc Try.func18 rfl (by kernel_rfl) (by kernel_rfl) ?_
  rw [f_backwashref32_Rows] at h
  refine vc_seq_gen (by kernel_rfl) ?_
  intro QQ1 hQ1
  simp only [go_sem, Try.ntmps18, Try.results18]
  refine seqQ_normal hQ1 ?_
  refine vc_seq_gen (by kernel_rfl) ?_
  intro QQ2 hQ2
  simp only [go_sem, Try.ntmps18, Try.results18]
  refine seqQ_normal hQ2 ?_
  refine vc_join (by kernel_rfl) ?_
  refine seq_go_gen ?_
  intro QQ3 hQ3
  refine vc_seq_gen (by kernel_rfl) ?_
  intro QQ4 hQ4
  simp only [go_sem, Try.ntmps18, Try.results18]
  refine seqQ_normal hQ4 ?_
  refine vc_block_gen ?_
  intro QQ5 hQ5
  refine vc_loop_of ?_
  refine loop_gen (ι := Nat × Int × (List GRow)) (fun ((_, i_1, a_5) : Nat × Int × (List GRow)) => (⟨0, [(0, .sl 4 (enc l_0)), (1, .v (.int .i64 node_0)), (2, .v (.int .i64 fromv_0)), (3, .v (.int .i64 tov_0)), (9, .osl 0 6 (0) (List.length a_5)), (10, .v (.int .i64 i_1))], [(0, .arr 6 (enc a_5))], 1, 104⟩ : St)) (fun ((n_, i_1, a_5) : Nat × Int × (List GRow)) => loopK (f_backwashref32_Rows_B1 l_0 node_0 fromv_0 tov_0) n_ (i_1, a_5) = some r) (fun p => p.1) (rounds, 0, []) [none] ?_ h ?_
  · simp only [go_sem, Le] <;> (repeat' apply And.intro) <;> ((try with_reducible refine TL_eq ?_); (simp [go_sem]; done))
  · rintro ⟨n_1, i_1, a_5⟩ h QQ6 hQ6
    dsimp only at h
    replace h := loopK_some h
    obtain ⟨m_1, rfl, h⟩ := h
    rw [f_backwashref32_Rows_B1] at h
    refine vc_seq_gen (by kernel_rfl) ?_
    intro QQ7 hQ7
    refine vc_seq_gen (by kernel_rfl) ?_
    intro QQ8 hQ8
    simp only [go_sem, Try.ntmps18, Try.results18]
    refine seqQ_normal hQ8 ?_
    refine vc_cond_of (b := (decide (i_1 < (List.length l_0 : Int)))) (by (simp only [go_sem]; done)) (fun hb_38 => ?_) (fun hb_38 => ?_)
    ·
      replace h := if_t h hb_38
      simp only [decide_eq_true_eq, decide_eq_false_iff_not, Bool.not_eq_true', Bool.not_eq_false', beq_iff_eq, beq_eq_false_iff_ne, ne_eq, Bool.and_eq_true, Bool.or_eq_true, Int.not_lt, Int.not_le] at hb_38
      refine vc_skip_of ?_
      refine seqQ_normal hQ7 ?_
      refine vc_join (by kernel_rfl) ?_
      refine seq_go_gen ?_
      intro QQ9 hQ9
      refine vc_block_gen ?_
      intro QQ10 hQ10
      refine vc_seq_gen (by kernel_rfl) ?_
      intro QQ11 hQ11
      refine vc_seq_gen (by kernel_rfl) ?_
      intro QQ12 hQ12
      obtain ⟨xv_32, exv_32, h⟩ := bindO_some h
      obtain ⟨fxv_32a, fxv_32b, fxv_32c⟩ := idx_spec exv_32
      obtain ⟨v_4, ev_4, h⟩ := bindO_some h
      simp only [go_sem, Try.ntmps18, Try.results18, fxv_32a, fxv_32b, fxv_32c]
      refine And.intro (by omega) ?_
      refine call0 (f_backwashref32_in_ok xv_32 node_0 fromv_0 tov_0 v_4 ev_4) (by rfl) (by rfl) ?_
      simp only [go_sem, Try.ntmps18, Try.results18]
      refine seqQ_normal hQ12 ?_
      refine vc_cond_of (b := (!v_4)) (by (simp only [go_sem]; done)) (fun hb_39 => ?_) (fun hb_39 => ?_)
      ·
        replace h := if_t h hb_39
        simp only [decide_eq_true_eq, decide_eq_false_iff_not, Bool.not_eq_true', Bool.not_eq_false', beq_iff_eq, beq_eq_false_iff_ne, ne_eq, Bool.and_eq_true, Bool.or_eq_true, Int.not_lt, Int.not_le] at hb_39
        refine vc_exit_of ?_
        refine seqQ_exit hQ11 ?_
        refine blockQ_exit hQ10 ?_
        refine seqQ_normal hQ9 ?_
        simp only [go_sem, Try.ntmps18, Try.results18]
        refine thenQ_normal hQ6 ?_
        refine ⟨(m_1, IntKind.i64.wrap (i_1 + 1), a_5), [some 0], ?_, h, Nat.lt_succ_self _⟩
        simp only [go_sem, Le]
      ·
        replace h := if_f h hb_39
        simp only [decide_eq_true_eq, decide_eq_false_iff_not, Bool.not_eq_true', Bool.not_eq_false', beq_iff_eq, beq_eq_false_iff_ne, ne_eq, Bool.and_eq_true, Bool.or_eq_true, Int.not_lt, Int.not_le] at hb_39
        refine vc_skip_of ?_
        refine seqQ_normal hQ11 ?_
        refine vc_seq_gen (by kernel_rfl) ?_
        intro QQ13 hQ13
        simp only [go_sem, Try.ntmps18, Try.results18]
        refine seqQ_normal hQ13 ?_
        refine vc_join (by kernel_rfl) ?_
        refine seq_cut_gen (ι := Bool) (fun (known_12 : Bool) => (⟨0, [(0, .sl 4 (enc l_0)), (1, .v (.int .i64 node_0)), (2, .v (.int .i64 fromv_0)), (3, .v (.int .i64 tov_0)), (9, .osl 0 6 (0) (List.length a_5)), (10, .v (.int .i64 i_1)), (11, .v (.bool known_12))], [(0, .arr 6 (enc a_5))], 1, 104⟩ : St)) (fun (known_12 : Bool) => f_backwashref32_Rows_J2 l_0 node_0 fromv_0 tov_0 i_1 a_5 (loopK (f_backwashref32_Rows_B1 l_0 node_0 fromv_0 tov_0) m_1) xv_32 known_12 = some r) ?_ ?_
        ·
          intro QQ23 hQ23
          refine vc_seq_gen (by kernel_rfl) ?_
          intro QQ24 hQ24
          simp only [go_sem, Try.ntmps18, Try.results18]
          refine seqQ_normal hQ24 ?_
          refine vc_block_gen ?_
          intro QQ25 hQ25
          refine vc_loop_of ?_
          refine loop_gen (ι := Nat × Bool × Int) (fun ((_, known_14, k_17) : Nat × Bool × Int) => (⟨0, [(0, .sl 4 (enc l_0)), (1, .v (.int .i64 node_0)), (2, .v (.int .i64 fromv_0)), (3, .v (.int .i64 tov_0)), (9, .osl 0 6 (0) (List.length a_5)), (10, .v (.int .i64 i_1)), (11, .v (.bool known_14)), (12, .v (.int .i64 k_17))], [(0, .arr 6 (enc a_5))], 1, 104⟩ : St)) (fun ((n_, known_14, k_17) : Nat × Bool × Int) => loopK (f_backwashref32_Rows_B4 l_0 node_0 fromv_0 tov_0 i_1 a_5 (loopK (f_backwashref32_Rows_B1 l_0 node_0 fromv_0 tov_0) m_1) xv_32) n_ (known_14, k_17) = some r) (fun p => p.1) (rounds, false, 0) [some 0] ?_ h ?_
          · simp only [go_sem, Le]
          · rintro ⟨n_4, known_14, k_17⟩ h QQ26 hQ26
            dsimp only at h
            replace h := loopK_some h
            obtain ⟨m_4, rfl, h⟩ := h
            rw [f_backwashref32_Rows_B4] at h
            refine vc_seq_gen (by kernel_rfl) ?_
            intro QQ27 hQ27
            refine vc_seq_gen (by kernel_rfl) ?_
            intro QQ28 hQ28
            simp only [go_sem, Try.ntmps18, Try.results18]
            refine seqQ_normal hQ28 ?_
            refine vc_cond_of (b := (decide (k_17 < (List.length a_5 : Int)))) (by (simp only [go_sem]; done)) (fun hb_55 => ?_) (fun hb_55 => ?_)
            ·
              replace h := if_t h hb_55
              simp only [decide_eq_true_eq, decide_eq_false_iff_not, Bool.not_eq_true', Bool.not_eq_false', beq_iff_eq, beq_eq_false_iff_ne, ne_eq, Bool.and_eq_true, Bool.or_eq_true, Int.not_lt, Int.not_le] at hb_55
              refine vc_skip_of ?_
              refine seqQ_normal hQ27 ?_
              refine vc_seq_gen (by kernel_rfl) ?_
              intro QQ29 hQ29
              refine vc_block_gen ?_
              intro QQ30 hQ30
              refine vc_draw ?_
              refine drawM_tail 13 [0, 1, 3, 3, 15, 31, 63, 3, 3, 387, 899, 1923, 3971, 8191, 16383, 32767] mixed (by kernel_rfl) (of_decide_eq_true (by kernel_rfl)) (by kernel_rfl) ?_
              simp only [go_sem, Try.ntmps18, Try.results18]
              rcases hb_56 : known_14 with _ | _
              ·
                replace h := if_f h hb_56
                obtain ⟨xv_47, exv_47, h⟩ := bindO_some h
                obtain ⟨fxv_47a, fxv_47b, fxv_47c⟩ := idx_spec exv_47
                simp only [go_sem, Try.ntmps18, Try.results18, hb_56, fxv_47a, fxv_47b, fxv_47c, fxv_32a, fxv_32b, fxv_32c]
                refine And.intro (by omega) ?_
                refine And.intro (by omega) ?_
                refine blockQ_normal hQ30 ?_
                refine seqQ_normal hQ29 ?_
                simp only [go_sem, Try.ntmps18, Try.results18]
                refine thenQ_normal hQ26 ?_
                refine ⟨(m_4, (xv_47.K == xv_32.Rec.K), IntKind.i64.wrap (k_17 + 1)), [some 0], ?_, h, Nat.lt_succ_self _⟩
                simp only [go_sem, Le]
              ·
                replace h := if_t h hb_56
                simp only [go_sem, Try.ntmps18, Try.results18, hb_56]
                refine blockQ_normal hQ30 ?_
                refine seqQ_normal hQ29 ?_
                simp only [go_sem, Try.ntmps18, Try.results18]
                refine thenQ_normal hQ26 ?_
                refine ⟨(m_4, true, IntKind.i64.wrap (k_17 + 1)), [some 0], ?_, h, Nat.lt_succ_self _⟩
                simp only [go_sem, Le]
            ·
              replace h := if_f h hb_55
              simp only [decide_eq_true_eq, decide_eq_false_iff_not, Bool.not_eq_true', Bool.not_eq_false', beq_iff_eq, beq_eq_false_iff_ne, ne_eq, Bool.and_eq_true, Bool.or_eq_true, Int.not_lt, Int.not_le] at hb_55
              refine vc_exit_of ?_
              refine seqQ_exit hQ27 ?_
              refine thenQ_exit hQ26 ?_
              refine blockQ_exit hQ25 ?_
              refine thenQ_normal hQ23 ?_
              refine ⟨known_14, [some 0], ?_, h⟩
              simp only [go_sem, Le]
        · rintro known_12 h
          try dsimp only at h
          rw [f_backwashref32_Rows_J2] at h
          refine vc_seq_gen (by kernel_rfl) ?_
          intro QQ14 hQ14
          simp only [go_sem, Try.ntmps18, Try.results18]
          refine seqQ_normal hQ14 ?_
          refine vc_cond_of (b := (!known_12)) (by (simp only [go_sem]; done)) (fun hb_45 => ?_) (fun hb_45 => ?_)
          ·
            replace h := if_t h hb_45
            simp only [decide_eq_true_eq, decide_eq_false_iff_not, Bool.not_eq_true', Bool.not_eq_false', beq_iff_eq, beq_eq_false_iff_ne, ne_eq, Bool.and_eq_true, Bool.or_eq_true, Int.not_lt, Int.not_le] at hb_45
            refine vc_seq_gen (by kernel_rfl) ?_
            intro QQ15 hQ15
            obtain ⟨v_5, ev_5, h⟩ := bindO_some h
            simp only [go_sem, Try.ntmps18, Try.results18, fxv_32a, fxv_32b, fxv_32c]
            refine And.intro (by omega) ?_
            refine call0 (f_backwashref32_row_ok l_0 xv_32.Rec.K node_0 fromv_0 tov_0 v_5 ev_5) (by rfl) (by rfl) ?_
            have rf_15 : [[.v (.int .i64 v_5.K), .v (.int .i64 v_5.Many), .v (.int .i64 v_5.Least), .v (.int .i64 v_5.Top), .v (.int .i64 v_5.Sum), .v (.bool v_5.Sure)]] = enc ([v_5] : List GRow) := by rfl
            obtain ⟨g_2, h⟩ := guardO_some h
            simp only [List.length_cons, List.length_nil, Nat.zero_add, List.length_append] at g_2
            have rf_16 : enc a_5 ++ [[.v (.int .i64 v_5.K), .v (.int .i64 v_5.Many), .v (.int .i64 v_5.Least), .v (.int .i64 v_5.Top), .v (.int .i64 v_5.Sum), .v (.bool v_5.Sure)]] = enc (a_5 ++ ([v_5] : List GRow)) := by exact (enc_app a_5 ([v_5] : List GRow)).symm
            simp only [go_sem, Try.ntmps18, Try.results18, g_2, rf_16]
            simp only [rf_15]
            refine seqQ_normal hQ15 ?_
            refine vc_seq_gen (by kernel_rfl) ?_
            intro QQ16 hQ16
            simp only [go_sem, Try.ntmps18, Try.results18]
            refine seqQ_normal hQ16 ?_
            refine vc_block_gen ?_
            intro QQ17 hQ17
            refine vc_loop_of ?_
            refine loop_gen (ι := Nat × Int × (List GRow)) (fun ((_, k_15, a_7) : Nat × Int × (List GRow)) => (⟨0, [(0, .sl 4 (enc l_0)), (1, .v (.int .i64 node_0)), (2, .v (.int .i64 fromv_0)), (3, .v (.int .i64 tov_0)), (9, .osl 0 6 (0) (List.length a_7)), (10, .v (.int .i64 i_1)), (13, .v (.int .i64 k_15))], [(0, .arr 6 (enc a_7))], 1, 104⟩ : St)) (fun ((n_, k_15, a_7) : Nat × Int × (List GRow)) => loopK (f_backwashref32_Rows_B3 i_1 (loopK (f_backwashref32_Rows_B1 l_0 node_0 fromv_0 tov_0) m_1)) n_ (k_15, a_7) = some r) (fun p => p.1) (rounds, IntKind.i64.wrap ((List.length (a_5 ++ ([v_5] : List GRow)) : Int) - 1), (a_5 ++ ([v_5] : List GRow))) [some 2] ?_ h ?_
            · simp only [go_sem, Le] <;> (repeat' apply And.intro) <;> ((try with_reducible refine TL_eq ?_); (simp [go_sem]; done))
            · rintro ⟨n_3, k_15, a_7⟩ h QQ18 hQ18
              dsimp only at h
              replace h := loopK_some h
              obtain ⟨m_3, rfl, h⟩ := h
              rw [f_backwashref32_Rows_B3] at h
              refine vc_seq_gen (by kernel_rfl) ?_
              intro QQ19 hQ19
              refine vc_seq_gen (by kernel_rfl) ?_
              intro QQ20 hQ20
              refine vc_draw ?_
              refine drawM_tail 14 [0, 1, 3, 7, 7, 31, 63, 127, 7, 7, 519, 1799, 3847, 7943, 16383, 32767] mixed (by kernel_rfl) (of_decide_eq_true (by kernel_rfl)) (by kernel_rfl) ?_
              simp only [go_sem, Try.ntmps18, Try.results18]
              rcases hb_50 : (decide (0 < k_15)) with _ | _
              ·
                replace h := if_f h hb_50
                simp only [go_sem, Try.ntmps18, Try.results18, hb_50]
                refine seqQ_normal hQ20 ?_
                refine vc_cond_f (by (simp only [go_sem]; done)) ?_
                refine vc_exit_of ?_
                refine seqQ_exit hQ19 ?_
                refine thenQ_exit hQ18 ?_
                refine blockQ_exit hQ17 ?_
                refine blockQ_normal hQ10 ?_
                refine seqQ_normal hQ9 ?_
                simp only [go_sem, Try.ntmps18, Try.results18]
                refine thenQ_normal hQ6 ?_
                refine ⟨(m_1, IntKind.i64.wrap (i_1 + 1), a_7), [some 0], ?_, h, Nat.lt_succ_self _⟩
                simp only [go_sem, Le]
              ·
                replace h := if_t h hb_50
                obtain ⟨xv_42, exv_42, h⟩ := bindO_some h
                obtain ⟨fxv_42a, fxv_42b, fxv_42c⟩ := idx_spec exv_42
                obtain ⟨xv_43, exv_43, h⟩ := bindO_some h
                obtain ⟨fxv_43a, fxv_43b, fxv_43c⟩ := idx_spec exv_43
                simp only [go_sem, Try.ntmps18, Try.results18, hb_50, fxv_42a, fxv_42b, fxv_42c, fxv_43a, fxv_43b, fxv_43c]
                refine And.intro (by omega) ?_
                refine And.intro (by omega) ?_
                refine seqQ_normal hQ20 ?_
                refine vc_cond_of (b := (decide (xv_42.K < xv_43.K))) (by (simp only [go_sem]; done)) (fun hb_51 => ?_) (fun hb_51 => ?_)
                ·
                  replace h := if_t h hb_51
                  simp only [decide_eq_true_eq, decide_eq_false_iff_not, Bool.not_eq_true', Bool.not_eq_false', beq_iff_eq, beq_eq_false_iff_ne, ne_eq, Bool.and_eq_true, Bool.or_eq_true, Int.not_lt, Int.not_le] at hb_51
                  refine vc_skip_of ?_
                  refine seqQ_normal hQ19 ?_
                  refine vc_seq_gen (by kernel_rfl) ?_
                  intro QQ21 hQ21
                  refine vc_block_gen ?_
                  intro QQ22 hQ22
                  refine vc_draw ?_
                  refine drawV_all 16 0 [0, 0, 0, 0, 8, 0, 0, 64, 224, 480, 0, 0, 3072, 7168, 16355, 32739, 65535, 131071] [0] [2, 3, 4] [15] [] mixed (by kernel_rfl) (of_decide_eq_true (by kernel_rfl)) (by kernel_rfl) (by kernel_rfl) (by rfl) ?_
                  have rf_21 : (enc a_7).set (Int.toNat k_15) [.v (.int .i64 xv_43.K), .v (.int .i64 xv_43.Many), .v (.int .i64 xv_43.Least), .v (.int .i64 xv_43.Top), .v (.int .i64 xv_43.Sum), .v (.bool xv_43.Sure)] = enc (List.set a_7 (Int.toNat k_15) xv_43) := by exact enc_set _ _ _
                  obtain ⟨xv_44, exv_44, h⟩ := bindO_some h
                  obtain ⟨fxv_44a, fxv_44b, fxv_44c⟩ := idx_spec exv_44
                  have rf_22 : (enc (List.set a_7 (Int.toNat k_15) xv_43)).set (Int.toNat (IntKind.i64.wrap (k_15 - 1))) [.v (.int .i64 xv_42.K), .v (.int .i64 xv_42.Many), .v (.int .i64 xv_42.Least), .v (.int .i64 xv_42.Top), .v (.int .i64 xv_42.Sum), .v (.bool xv_42.Sure)] = enc (List.set (List.set a_7 (Int.toNat k_15) xv_43) (Int.toNat (IntKind.i64.wrap (k_15 - 1))) xv_42) := by exact enc_set _ _ _
                  simp only [go_sem, Try.ntmps18, Try.results18, fxv_43a, fxv_43b, fxv_43c, fxv_42a, fxv_42b, fxv_42c, rf_21, fxv_44a, fxv_44b, fxv_44c, rf_22]
                  refine And.intro (by omega) ?_
                  refine And.intro (by omega) ?_
                  refine And.intro (by omega) ?_
                  refine And.intro (by omega) ?_
                  refine blockQ_normal hQ22 ?_
                  refine seqQ_normal hQ21 ?_
                  simp only [go_sem, Try.ntmps18, Try.results18]
                  refine thenQ_normal hQ18 ?_
                  refine ⟨(m_3, IntKind.i64.wrap (k_15 - 1), (List.set (List.set a_7 (Int.toNat k_15) xv_43) (Int.toNat (IntKind.i64.wrap (k_15 - 1))) xv_42)), [some 0], ?_, h, Nat.lt_succ_self _⟩
                  simp only [go_sem, Le]
                ·
                  replace h := if_f h hb_51
                  simp only [decide_eq_true_eq, decide_eq_false_iff_not, Bool.not_eq_true', Bool.not_eq_false', beq_iff_eq, beq_eq_false_iff_ne, ne_eq, Bool.and_eq_true, Bool.or_eq_true, Int.not_lt, Int.not_le] at hb_51
                  refine vc_exit_of ?_
                  refine seqQ_exit hQ19 ?_
                  refine thenQ_exit hQ18 ?_
                  refine blockQ_exit hQ17 ?_
                  refine blockQ_normal hQ10 ?_
                  refine seqQ_normal hQ9 ?_
                  simp only [go_sem, Try.ntmps18, Try.results18]
                  refine thenQ_normal hQ6 ?_
                  refine ⟨(m_1, IntKind.i64.wrap (i_1 + 1), a_7), [some 0], ?_, h, Nat.lt_succ_self _⟩
                  simp only [go_sem, Le]
          ·
            replace h := if_f h hb_45
            simp only [decide_eq_true_eq, decide_eq_false_iff_not, Bool.not_eq_true', Bool.not_eq_false', beq_iff_eq, beq_eq_false_iff_ne, ne_eq, Bool.and_eq_true, Bool.or_eq_true, Int.not_lt, Int.not_le] at hb_45
            refine vc_skip_of ?_
            refine blockQ_normal hQ10 ?_
            refine seqQ_normal hQ9 ?_
            simp only [go_sem, Try.ntmps18, Try.results18]
            refine thenQ_normal hQ6 ?_
            refine ⟨(m_1, IntKind.i64.wrap (i_1 + 1), a_5), [some 0], ?_, h, Nat.lt_succ_self _⟩
            simp only [go_sem, Le]
    ·
      replace h := if_f h hb_38
      simp only [decide_eq_true_eq, decide_eq_false_iff_not, Bool.not_eq_true', Bool.not_eq_false', beq_iff_eq, beq_eq_false_iff_ne, ne_eq, Bool.and_eq_true, Bool.or_eq_true, Int.not_lt, Int.not_le] at hb_38
      refine vc_exit_of ?_
      refine seqQ_exit hQ7 ?_
      refine thenQ_exit hQ6 ?_
      refine blockQ_exit hQ5 ?_
      refine seqQ_normal hQ3 ?_
      refine vc_seq_gen (by kernel_rfl) ?_
      intro QQ31 hQ31
      simp only [go_sem, Try.ntmps18, Try.results18]
      refine seqQ_normal hQ31 ?_
      refine vc_ret_of ?_
      simp only [go_sem, Try.ntmps18, Try.results18]
      obtain rfl := Option.some.inj h
      refine retW_det [some 0] ?_
      simp only [go_sem, Le]
theorem f_backwashref32_Rows_ok (l_0 : List GOut) (node_0 : Int) (fromv_0 : Int) (tov_0 : Int)  (r : List GRow) (h : f_backwashref32_Rows l_0 node_0 fromv_0 tov_0 = some r) : PureS Try.prog 18 [.sl 4 (enc l_0), .v (.int .i64 node_0), .v (.int .i64 fromv_0), .v (.int .i64 tov_0)] 0 (.sl 6 (enc r)) := by
  refine (f_backwashref32_Rows_det l_0 node_0 fromv_0 tov_0  r h).pure ?_
  simp only [go_sem, Le] <;> (repeat' apply And.intro) <;> ((try with_reducible refine TL_eq ?_); (simp [go_sem]; done))
end Go.Proofs.Ythpahhhdapdcpaa

namespace Go.Proofs.Ythpahhhdapdcpaa
open Go Go.RowKit
set_option maxHeartbeats 2000000
set_option maxRecDepth 100000
set_option linter.unusedSimpArgs false
set_option linter.unusedVariables false
def f_backwashref32_Same_B1 (a_0 : List GRow) (b_0 : List GRow) (rec_1 : Int → Option Bool) : Int → Option Bool :=
  fun i_1 =>
  (if (decide (i_1 < (List.length a_0 : Int))) = true then bindO (idx a_0 i_1) (fun (xv_4 : GRow) =>
  bindO (idx b_0 i_1) (fun (xv_5 : GRow) =>
  (if (!((xv_4.K == xv_5.K) && ((xv_4.Many == xv_5.Many) && ((xv_4.Least == xv_5.Least) && ((xv_4.Top == xv_5.Top) && ((xv_4.Sum == xv_5.Sum) && (xv_4.Sure == xv_5.Sure))))))) = true then some false
  else rec_1 (IntKind.i64.wrap (i_1 + 1)))))
  else some true)
def f_backwashref32_Same (a_0 : List GRow) (b_0 : List GRow) : Option Bool :=
  (if (!((List.length a_0 : Int) == (List.length b_0 : Int))) = true then some false
  else loopK (f_backwashref32_Same_B1 a_0 b_0) rounds 0)
theorem f_backwashref32_Same_ok (a_0 : List GRow) (b_0 : List GRow)  (r : Bool) (h : f_backwashref32_Same a_0 b_0 = some r) : PureS Try.prog 16 [.sl 6 (enc a_0), .sl 6 (enc b_0)] 0 (.v (.bool r)) := by
  unfold PureS
  refine Spec.of_vc Try.func16 rfl (by kernel_rfl) (by kernel_rfl) ?_
  rw [f_backwashref32_Same] at h
  refine vc_seq_gen (by kernel_rfl) ?_
  intro QQ1 hQ1
  simp only [go_sem, Try.ntmps16, Try.results16]
  refine seqQ_normal hQ1 ?_
  refine vc_seq_gen (by kernel_rfl) ?_
  intro QQ2 hQ2
  refine vc_seq_gen (by kernel_rfl) ?_
  intro QQ3 hQ3
  simp only [go_sem, Try.ntmps16, Try.results16]
  refine seqQ_normal hQ3 ?_
  refine vc_cond_of (b := (!((List.length a_0 : Int) == (List.length b_0 : Int)))) (by (simp only [go_sem]; done)) (fun hb_0 => ?_) (fun hb_0 => ?_)
  ·
    replace h := if_t h hb_0
    simp only [decide_eq_true_eq, decide_eq_false_iff_not, Bool.not_eq_true', Bool.not_eq_false', beq_iff_eq, beq_eq_false_iff_ne, ne_eq, Bool.and_eq_true, Bool.or_eq_true, Int.not_lt, Int.not_le] at hb_0
    refine vc_seq_gen (by kernel_rfl) ?_
    intro QQ4 hQ4
    simp only [go_sem, Try.ntmps16, Try.results16]
    refine seqQ_normal hQ4 ?_
    refine vc_ret_of ?_
    refine seqQ_ret hQ2 ?_
    simp only [go_sem, Try.ntmps16, Try.results16]
    obtain rfl := Option.some.inj h
    refine retW_pure rfl ?_
    simp only [go_sem, Le]
  ·
    replace h := if_f h hb_0
    simp only [decide_eq_true_eq, decide_eq_false_iff_not, Bool.not_eq_true', Bool.not_eq_false', beq_iff_eq, beq_eq_false_iff_ne, ne_eq, Bool.and_eq_true, Bool.or_eq_true, Int.not_lt, Int.not_le] at hb_0
    refine vc_skip_of ?_
    refine seqQ_normal hQ2 ?_
    refine vc_join (by kernel_rfl) ?_
    refine seq_go_gen ?_
    intro QQ5 hQ5
    refine vc_seq_gen (by kernel_rfl) ?_
    intro QQ6 hQ6
    simp only [go_sem, Try.ntmps16, Try.results16]
    refine seqQ_normal hQ6 ?_
    refine vc_block_gen ?_
    intro QQ7 hQ7
    refine vc_loop_of ?_
    refine loop_gen (ι := Nat × Int) (fun ((_, i_1) : Nat × Int) => (⟨0, [(0, .sl 6 (enc a_0)), (1, .sl 6 (enc b_0)), (5, .v (.int .i64 i_1))], [], 0, 26⟩ : St)) (fun ((n_, i_1) : Nat × Int) => loopK (f_backwashref32_Same_B1 a_0 b_0) n_ i_1 = some r) (fun p => p.1) (rounds, 0) [] ?_ h ?_
    · simp only [go_sem, Le]
    · rintro ⟨n_1, i_1⟩ h QQ8 hQ8
      dsimp only at h
      replace h := loopK_some h
      obtain ⟨m_1, rfl, h⟩ := h
      rw [f_backwashref32_Same_B1] at h
      refine vc_seq_gen (by kernel_rfl) ?_
      intro QQ9 hQ9
      refine vc_seq_gen (by kernel_rfl) ?_
      intro QQ10 hQ10
      simp only [go_sem, Try.ntmps16, Try.results16]
      refine seqQ_normal hQ10 ?_
      refine vc_cond_of (b := (decide (i_1 < (List.length a_0 : Int)))) (by (simp only [go_sem]; done)) (fun hb_5 => ?_) (fun hb_5 => ?_)
      ·
        replace h := if_t h hb_5
        simp only [decide_eq_true_eq, decide_eq_false_iff_not, Bool.not_eq_true', Bool.not_eq_false', beq_iff_eq, beq_eq_false_iff_ne, ne_eq, Bool.and_eq_true, Bool.or_eq_true, Int.not_lt, Int.not_le] at hb_5
        refine vc_skip_of ?_
        refine seqQ_normal hQ9 ?_
        refine vc_seq_gen (by kernel_rfl) ?_
        intro QQ11 hQ11
        refine vc_block_gen ?_
        intro QQ12 hQ12
        refine vc_seq_gen (by kernel_rfl) ?_
        intro QQ13 hQ13
        refine vc_draw ?_
        refine drawM_tail 8 [0, 0, 3, 7, 0, 0, 48, 112, 255] mixed (by kernel_rfl) (of_decide_eq_true (by kernel_rfl)) (by kernel_rfl) ?_
        obtain ⟨xv_4, exv_4, h⟩ := bindO_some h
        obtain ⟨fxv_4a, fxv_4b, fxv_4c⟩ := idx_spec exv_4
        obtain ⟨xv_5, exv_5, h⟩ := bindO_some h
        obtain ⟨fxv_5a, fxv_5b, fxv_5c⟩ := idx_spec exv_5
        simp only [go_sem, Try.ntmps16, Try.results16, fxv_4a, fxv_4b, fxv_4c, fxv_5a, fxv_5b, fxv_5c]
        refine And.intro (by omega) ?_
        refine And.intro (by omega) ?_
        refine seqQ_normal hQ13 ?_
        refine vc_cond_of (b := (!((xv_4.K == xv_5.K) && ((xv_4.Many == xv_5.Many) && ((xv_4.Least == xv_5.Least) && ((xv_4.Top == xv_5.Top) && ((xv_4.Sum == xv_5.Sum) && (xv_4.Sure == xv_5.Sure)))))))) (by (simp only [go_sem]; done)) (fun hb_6 => ?_) (fun hb_6 => ?_)
        ·
          replace h := if_t h hb_6
          simp only [decide_eq_true_eq, decide_eq_false_iff_not, Bool.not_eq_true', Bool.not_eq_false', beq_iff_eq, beq_eq_false_iff_ne, ne_eq, Bool.and_eq_true, Bool.or_eq_true, Int.not_lt, Int.not_le] at hb_6
          refine vc_seq_gen (by kernel_rfl) ?_
          intro QQ14 hQ14
          simp only [go_sem, Try.ntmps16, Try.results16]
          refine seqQ_normal hQ14 ?_
          refine vc_ret_of ?_
          refine blockQ_ret hQ12 ?_
          refine seqQ_ret hQ11 ?_
          refine thenQ_ret hQ8 ?_
          refine blockQ_ret hQ7 ?_
          refine seqQ_ret hQ5 ?_
          simp only [go_sem, Try.ntmps16, Try.results16]
          obtain rfl := Option.some.inj h
          refine retW_pure rfl ?_
          simp only [go_sem, Le]
        ·
          replace h := if_f h hb_6
          simp only [decide_eq_true_eq, decide_eq_false_iff_not, Bool.not_eq_true', Bool.not_eq_false', beq_iff_eq, beq_eq_false_iff_ne, ne_eq, Bool.and_eq_true, Bool.or_eq_true, Int.not_lt, Int.not_le] at hb_6
          refine vc_skip_of ?_
          refine blockQ_normal hQ12 ?_
          refine seqQ_normal hQ11 ?_
          simp only [go_sem, Try.ntmps16, Try.results16]
          refine thenQ_normal hQ8 ?_
          refine ⟨(m_1, IntKind.i64.wrap (i_1 + 1)), [], ?_, h, Nat.lt_succ_self _⟩
          simp only [go_sem, Le]
      ·
        replace h := if_f h hb_5
        simp only [decide_eq_true_eq, decide_eq_false_iff_not, Bool.not_eq_true', Bool.not_eq_false', beq_iff_eq, beq_eq_false_iff_ne, ne_eq, Bool.and_eq_true, Bool.or_eq_true, Int.not_lt, Int.not_le] at hb_5
        refine vc_exit_of ?_
        refine seqQ_exit hQ9 ?_
        refine thenQ_exit hQ8 ?_
        refine blockQ_exit hQ7 ?_
        refine seqQ_normal hQ5 ?_
        refine vc_seq_gen (by kernel_rfl) ?_
        intro QQ15 hQ15
        simp only [go_sem, Try.ntmps16, Try.results16]
        refine seqQ_normal hQ15 ?_
        refine vc_ret_of ?_
        simp only [go_sem, Try.ntmps16, Try.results16]
        obtain rfl := Option.some.inj h
        refine retW_pure rfl ?_
        simp only [go_sem, Le]
end Go.Proofs.Ythpahhhdapdcpaa

namespace Go.Proofs.Ythpahhhdapdcpaa
open Go Go.RowKit
set_option maxHeartbeats 2000000
set_option maxRecDepth 100000
set_option linter.unusedSimpArgs false
set_option linter.unusedVariables false
noncomputable def f_backwashlaw32_QueryRows_B1 (v_1 : List Int) (v_2 : List Int) (rec_1 : Int → Option Bool) : Int → Option Bool :=
  fun i_1 =>
  (if (decide (i_1 < (List.length v_1 : Int))) = true then bindO (idx v_1 i_1) (fun (xv_4 : Int) =>
  bindO (idx v_2 i_1) (fun (xv_5 : Int) =>
  (if (!(xv_4 == xv_5)) = true then some false
  else rec_1 (IntKind.i64.wrap (i_1 + 1)))))
  else some true)
noncomputable def f_backwashlaw32_QueryRows (l_0 : List GOut) (node_0 : Int) (fromv_0 : Int) (tov_0 : Int) : Option Bool :=
  bindO (f_backwashlaw32_awake) (fun (v_0 : Bool) =>
  (if (!v_0) = true then some false
  else guardO (0 ≤ 0 ∧ 0 ≤ (min (List.length l_0 : Int) 200) ∧ (min (List.length l_0 : Int) 200) ≤ (List.length l_0 : Int)) (
  bindO (f_query_Epochs (List.take (Int.toNat (min (List.length l_0 : Int) 200)) l_0) node_0) (fun (v_1 : List Int) =>
  bindO (f_backwashref32_Epochs (List.take (Int.toNat (min (List.length l_0 : Int) 200)) l_0) node_0) (fun (v_2 : List Int) =>
  (if ((List.length v_1 : Int) == (List.length v_2 : Int)) = true then bindO (f_query_Rows (List.take (Int.toNat (min (List.length l_0 : Int) 200)) l_0) node_0 fromv_0 tov_0) (fun (v_3 : List GRow) =>
  bindO (f_backwashref32_Rows (List.take (Int.toNat (min (List.length l_0 : Int) 200)) l_0) node_0 fromv_0 tov_0) (fun (v_4 : List GRow) =>
  bindO (f_backwashref32_Same v_3 v_4) (fun (v_5 : Bool) =>
  (if (!v_5) = true then some false
  else loopK (f_backwashlaw32_QueryRows_B1 v_1 v_2) rounds 0))))
  else some false))))))
theorem f_backwashlaw32_QueryRows_ok (l_0 : List GOut) (node_0 : Int) (fromv_0 : Int) (tov_0 : Int)  (r : Bool) (h : f_backwashlaw32_QueryRows l_0 node_0 fromv_0 tov_0 = some r) : PureS Try.prog 3 [.sl 4 (enc l_0), .v (.int .i64 node_0), .v (.int .i64 fromv_0), .v (.int .i64 tov_0)] 0 (.v (.bool r)) := by
  unfold PureS
  refine Spec.of_vc Try.func3 rfl (by kernel_rfl) (by kernel_rfl) ?_
  rw [f_backwashlaw32_QueryRows] at h
  refine vc_seq_gen (by kernel_rfl) ?_
  intro QQ1 hQ1
  simp only [go_sem, Try.ntmps3, Try.results3]
  refine seqQ_normal hQ1 ?_
  refine vc_seq_gen (by kernel_rfl) ?_
  intro QQ2 hQ2
  refine vc_seq_gen (by kernel_rfl) ?_
  intro QQ3 hQ3
  obtain ⟨v_0, ev_0, h⟩ := bindO_some h
  simp only [go_sem, Try.ntmps3, Try.results3]
  refine call0 (f_backwashlaw32_awake_ok v_0 ev_0) (by rfl) (by rfl) ?_
  simp only [go_sem, Try.ntmps3, Try.results3]
  refine seqQ_normal hQ3 ?_
  refine vc_cond_of (b := (!v_0)) (by (simp only [go_sem]; done)) (fun hb_0 => ?_) (fun hb_0 => ?_)
  ·
    replace h := if_t h hb_0
    simp only [decide_eq_true_eq, decide_eq_false_iff_not, Bool.not_eq_true', Bool.not_eq_false', beq_iff_eq, beq_eq_false_iff_ne, ne_eq, Bool.and_eq_true, Bool.or_eq_true, Int.not_lt, Int.not_le] at hb_0
    refine vc_seq_gen (by kernel_rfl) ?_
    intro QQ4 hQ4
    simp only [go_sem, Try.ntmps3, Try.results3]
    refine seqQ_normal hQ4 ?_
    refine vc_ret_of ?_
    refine seqQ_ret hQ2 ?_
    simp only [go_sem, Try.ntmps3, Try.results3]
    obtain rfl := Option.some.inj h
    refine retW_pure rfl ?_
    simp only [go_sem, Le]
  ·
    replace h := if_f h hb_0
    simp only [decide_eq_true_eq, decide_eq_false_iff_not, Bool.not_eq_true', Bool.not_eq_false', beq_iff_eq, beq_eq_false_iff_ne, ne_eq, Bool.and_eq_true, Bool.or_eq_true, Int.not_lt, Int.not_le] at hb_0
    refine vc_skip_of ?_
    refine seqQ_normal hQ2 ?_
    refine vc_seq_gen (by kernel_rfl) ?_
    intro QQ5 hQ5
    obtain ⟨g_0, h⟩ := guardO_some h
    simp only [go_sem, Try.ntmps3, Try.results3, g_0]
    refine seqQ_normal hQ5 ?_
    refine vc_seq_gen (by kernel_rfl) ?_
    intro QQ6 hQ6
    obtain ⟨v_1, ev_1, h⟩ := bindO_some h
    simp only [go_sem, Try.ntmps3, Try.results3]
    refine callD [] (f_query_Epochs_det (List.take (Int.toNat (min (List.length l_0 : Int) 200)) l_0) node_0 v_1 ev_1) (by simp) rfl trivial rfl rfl rfl rfl ?_
    obtain ⟨v_2, ev_2, h⟩ := bindO_some h
    simp only [go_sem, Try.ntmps3, Try.results3]
    refine callD [] (f_backwashref32_Epochs_det (List.take (Int.toNat (min (List.length l_0 : Int) 200)) l_0) node_0 v_2 ev_2) (by simp) rfl trivial rfl rfl rfl rfl ?_
    simp only [go_sem, Try.ntmps3, Try.results3]
    refine seqQ_normal hQ6 ?_
    refine vc_seq_gen (by kernel_rfl) ?_
    intro QQ7 hQ7
    refine vc_seq_gen (by kernel_rfl) ?_
    intro QQ8 hQ8
    simp only [go_sem, Try.ntmps3, Try.results3]
    rcases hb_1 : ((List.length v_1 : Int) == (List.length v_2 : Int)) with _ | _
    ·
      replace h := if_f h hb_1
      simp only [go_sem, Try.ntmps3, Try.results3, hb_1]
      refine seqQ_normal hQ8 ?_
      refine vc_cond_t (by (simp only [go_sem]; done)) ?_
      refine vc_seq_gen (by kernel_rfl) ?_
      intro QQ9 hQ9
      simp only [go_sem, Try.ntmps3, Try.results3]
      refine seqQ_normal hQ9 ?_
      refine vc_ret_of ?_
      refine seqQ_ret hQ7 ?_
      simp only [go_sem, Try.ntmps3, Try.results3]
      obtain rfl := Option.some.inj h
      refine retW_pure rfl ?_
      simp only [go_sem, Le]
    ·
      replace h := if_t h hb_1
      obtain ⟨v_3, ev_3, h⟩ := bindO_some h
      simp only [go_sem, Try.ntmps3, Try.results3, hb_1]
      refine callD [] (f_query_Rows_det (List.take (Int.toNat (min (List.length l_0 : Int) 200)) l_0) node_0 fromv_0 tov_0 v_3 ev_3) (by simp) rfl trivial rfl rfl rfl rfl ?_
      obtain ⟨v_4, ev_4, h⟩ := bindO_some h
      simp only [go_sem, Try.ntmps3, Try.results3]
      refine callD [] (f_backwashref32_Rows_det (List.take (Int.toNat (min (List.length l_0 : Int) 200)) l_0) node_0 fromv_0 tov_0 v_4 ev_4) (by simp) rfl trivial rfl rfl rfl rfl ?_
      obtain ⟨v_5, ev_5, h⟩ := bindO_some h
      simp only [go_sem, Try.ntmps3, Try.results3]
      refine callB (s' := (⟨0, [(0, .sl 4 (enc (List.take (Int.toNat (min (List.length l_0 : Int) 200)) l_0))), (1, .v (.int .i64 node_0)), (2, .v (.int .i64 fromv_0)), (3, .v (.int .i64 tov_0)), (8, .v (.bool false)), (9, .osl 0 1 (0) (List.length v_1)), (10, .osl 1 1 (0) (List.length v_2)), (12, .v (.bool v_0)), (13, .v (.bool (!v_0))), (14, .sl 4 (enc l_0)), (15, .sl 4 (enc l_0)), (16, .v (.int .i64 (List.length l_0 : Int))), (17, .v (.int .i64 (min (List.length l_0 : Int) 200))), (18, .sl 4 (enc (List.take (Int.toNat (min (List.length l_0 : Int) 200)) l_0))), (19, .sl 4 (enc (List.take (Int.toNat (min (List.length l_0 : Int) 200)) l_0))), (20, .v (.int .i64 node_0)), (21, .osl 0 1 (0) (List.length v_1)), (22, .sl 4 (enc (List.take (Int.toNat (min (List.length l_0 : Int) 200)) l_0))), (23, .v (.int .i64 node_0)), (24, .osl 1 1 (0) (List.length v_2)), (25, .osl 0 1 (0) (List.length v_1)), (26, .v (.int .i64 (List.length v_1 : Int))), (27, .osl 1 1 (0) (List.length v_2)), (28, .v (.int .i64 (List.length v_2 : Int))), (29, .v (.bool false)), (30, .v (.bool false)), (31, .sl 4 (enc (List.take (Int.toNat (min (List.length l_0 : Int) 200)) l_0))), (32, .v (.int .i64 node_0)), (33, .v (.int .i64 fromv_0)), (34, .v (.int .i64 tov_0)), (35, .sl 6 (enc v_3)), (36, .sl 4 (enc (List.take (Int.toNat (min (List.length l_0 : Int) 200)) l_0))), (37, .v (.int .i64 node_0)), (38, .v (.int .i64 fromv_0)), (39, .v (.int .i64 tov_0)), (40, .sl 6 (enc v_4))], [(0, .arr 1 (enc v_1)), (1, .arr 1 (enc v_2))], 2, 59⟩ : St)) (l := [some 0, some 1]) (args' := [.sl 6 (enc v_3), .sl 6 (enc v_4)]) ?_ ?_ (f_backwashref32_Same_ok v_3 v_4 v_5 ev_5) (by rfl) (by rfl) ?_
      · simp only [go_sem, Le] <;> (repeat' apply And.intro) <;> first | ((try with_reducible refine TL_eq ?_); omega) | ((try with_reducible refine TL_eq ?_); (simp [go_sem]; done))
      · simp only [go_sem, Le] <;> (repeat' apply And.intro) <;> ((try with_reducible refine TL_eq ?_); (simp [go_sem]; done))
      simp only [go_sem, Try.ntmps3, Try.results3]
      refine seqQ_normal hQ8 ?_
      refine vc_cond_of (b := (!v_5)) (by (simp only [go_sem]; done)) (fun hb_2 => ?_) (fun hb_2 => ?_)
      ·
        replace h := if_t h hb_2
        simp only [decide_eq_true_eq, decide_eq_false_iff_not, Bool.not_eq_true', Bool.not_eq_false', beq_iff_eq, beq_eq_false_iff_ne, ne_eq, Bool.and_eq_true, Bool.or_eq_true, Int.not_lt, Int.not_le] at hb_2
        refine vc_seq_gen (by kernel_rfl) ?_
        intro QQ10 hQ10
        simp only [go_sem, Try.ntmps3, Try.results3]
        refine seqQ_normal hQ10 ?_
        refine vc_ret_of ?_
        refine seqQ_ret hQ7 ?_
        simp only [go_sem, Try.ntmps3, Try.results3]
        obtain rfl := Option.some.inj h
        refine retW_pure rfl ?_
        simp only [go_sem, Le]
      ·
        replace h := if_f h hb_2
        simp only [decide_eq_true_eq, decide_eq_false_iff_not, Bool.not_eq_true', Bool.not_eq_false', beq_iff_eq, beq_eq_false_iff_ne, ne_eq, Bool.and_eq_true, Bool.or_eq_true, Int.not_lt, Int.not_le] at hb_2
        refine vc_skip_of ?_
        refine seqQ_normal hQ7 ?_
        refine vc_join (by kernel_rfl) ?_
        refine seq_go_gen ?_
        intro QQ11 hQ11
        refine vc_seq_gen (by kernel_rfl) ?_
        intro QQ12 hQ12
        simp only [go_sem, Try.ntmps3, Try.results3]
        refine seqQ_normal hQ12 ?_
        refine vc_block_gen ?_
        intro QQ13 hQ13
        refine vc_loop_of ?_
        refine loop_gen (ι := Nat × Int) (fun ((_, i_1) : Nat × Int) => (⟨0, [(9, .osl 0 1 (0) (List.length v_1)), (10, .osl 1 1 (0) (List.length v_2)), (11, .v (.int .i64 i_1))], [(0, .arr 1 (enc v_1)), (1, .arr 1 (enc v_2))], 2, 59⟩ : St)) (fun ((n_, i_1) : Nat × Int) => loopK (f_backwashlaw32_QueryRows_B1 v_1 v_2) n_ i_1 = some r) (fun p => p.1) (rounds, 0) [some 0, some 1] ?_ h ?_
        · simp only [go_sem, Le] <;> (repeat' apply And.intro) <;> first | ((try with_reducible refine TL_eq ?_); omega) | ((try with_reducible refine TL_eq ?_); (simp [go_sem]; done))
        · rintro ⟨n_1, i_1⟩ h QQ14 hQ14
          dsimp only at h
          replace h := loopK_some h
          obtain ⟨m_1, rfl, h⟩ := h
          rw [f_backwashlaw32_QueryRows_B1] at h
          refine vc_seq_gen (by kernel_rfl) ?_
          intro QQ15 hQ15
          refine vc_seq_gen (by kernel_rfl) ?_
          intro QQ16 hQ16
          simp only [go_sem, Try.ntmps3, Try.results3]
          refine seqQ_normal hQ16 ?_
          refine vc_cond_of (b := (decide (i_1 < (List.length v_1 : Int)))) (by (simp only [go_sem]; done)) (fun hb_7 => ?_) (fun hb_7 => ?_)
          ·
            replace h := if_t h hb_7
            simp only [decide_eq_true_eq, decide_eq_false_iff_not, Bool.not_eq_true', Bool.not_eq_false', beq_iff_eq, beq_eq_false_iff_ne, ne_eq, Bool.and_eq_true, Bool.or_eq_true, Int.not_lt, Int.not_le] at hb_7
            refine vc_skip_of ?_
            refine seqQ_normal hQ15 ?_
            refine vc_seq_gen (by kernel_rfl) ?_
            intro QQ17 hQ17
            refine vc_block_gen ?_
            intro QQ18 hQ18
            refine vc_seq_gen (by kernel_rfl) ?_
            intro QQ19 hQ19
            refine vc_draw ?_
            refine drawM_tail 8 [0, 0, 3, 7, 0, 0, 48, 112, 255] mixed (by kernel_rfl) (of_decide_eq_true (by kernel_rfl)) (by kernel_rfl) ?_
            obtain ⟨xv_4, exv_4, h⟩ := bindO_some h
            obtain ⟨fxv_4a, fxv_4b, fxv_4c⟩ := idx_spec exv_4
            obtain ⟨xv_5, exv_5, h⟩ := bindO_some h
            obtain ⟨fxv_5a, fxv_5b, fxv_5c⟩ := idx_spec exv_5
            simp only [go_sem, Try.ntmps3, Try.results3, fxv_4a, fxv_4b, fxv_4c, fxv_5a, fxv_5b, fxv_5c]
            refine And.intro (by omega) ?_
            refine And.intro (by omega) ?_
            refine seqQ_normal hQ19 ?_
            refine vc_cond_of (b := (!(xv_4 == xv_5))) (by (simp only [go_sem]; done)) (fun hb_8 => ?_) (fun hb_8 => ?_)
            ·
              replace h := if_t h hb_8
              simp only [decide_eq_true_eq, decide_eq_false_iff_not, Bool.not_eq_true', Bool.not_eq_false', beq_iff_eq, beq_eq_false_iff_ne, ne_eq, Bool.and_eq_true, Bool.or_eq_true, Int.not_lt, Int.not_le] at hb_8
              refine vc_seq_gen (by kernel_rfl) ?_
              intro QQ20 hQ20
              simp only [go_sem, Try.ntmps3, Try.results3]
              refine seqQ_normal hQ20 ?_
              refine vc_ret_of ?_
              refine blockQ_ret hQ18 ?_
              refine seqQ_ret hQ17 ?_
              refine thenQ_ret hQ14 ?_
              refine blockQ_ret hQ13 ?_
              refine seqQ_ret hQ11 ?_
              simp only [go_sem, Try.ntmps3, Try.results3]
              obtain rfl := Option.some.inj h
              refine retW_pure rfl ?_
              simp only [go_sem, Le]
            ·
              replace h := if_f h hb_8
              simp only [decide_eq_true_eq, decide_eq_false_iff_not, Bool.not_eq_true', Bool.not_eq_false', beq_iff_eq, beq_eq_false_iff_ne, ne_eq, Bool.and_eq_true, Bool.or_eq_true, Int.not_lt, Int.not_le] at hb_8
              refine vc_skip_of ?_
              refine blockQ_normal hQ18 ?_
              refine seqQ_normal hQ17 ?_
              simp only [go_sem, Try.ntmps3, Try.results3]
              refine thenQ_normal hQ14 ?_
              refine ⟨(m_1, IntKind.i64.wrap (i_1 + 1)), [some 0, some 1], ?_, h, Nat.lt_succ_self _⟩
              simp only [go_sem, Le] <;> (repeat' apply And.intro) <;> first | ((try with_reducible refine TL_eq ?_); omega) | ((try with_reducible refine TL_eq ?_); (simp [go_sem]; done))
          ·
            replace h := if_f h hb_7
            simp only [decide_eq_true_eq, decide_eq_false_iff_not, Bool.not_eq_true', Bool.not_eq_false', beq_iff_eq, beq_eq_false_iff_ne, ne_eq, Bool.and_eq_true, Bool.or_eq_true, Int.not_lt, Int.not_le] at hb_7
            refine vc_exit_of ?_
            refine seqQ_exit hQ15 ?_
            refine thenQ_exit hQ14 ?_
            refine blockQ_exit hQ13 ?_
            refine seqQ_normal hQ11 ?_
            refine vc_seq_gen (by kernel_rfl) ?_
            intro QQ21 hQ21
            simp only [go_sem, Try.ntmps3, Try.results3]
            refine seqQ_normal hQ21 ?_
            refine vc_ret_of ?_
            simp only [go_sem, Try.ntmps3, Try.results3]
            obtain rfl := Option.some.inj h
            refine retW_pure rfl ?_
            simp only [go_sem, Le]
end Go.Proofs.Ythpahhhdapdcpaa

