/-
  What functions of the program compute, each told as a plain partial function, with the proof that the code does so. No condition beyond those that each theorem names.
-/
import Derived.Test.YtngeldeahafcfaaWalk0
set_option linter.unusedSimpArgs false
set_option linter.unusedVariables false
namespace Go.Proofs.Ytngeldeahafcfaa
open Go Go.RowKit
set_option maxHeartbeats 2000000
set_option maxRecDepth 100000
set_option linter.unusedSimpArgs false
set_option linter.unusedVariables false
def f_backwashlaw33_WindowHolds_J1 (l_0 : List GFeed) (size_0 : Int) : Option Bool :=
  bindO (f_window_Tumble (List.take (Int.toNat (min (List.length l_0 : Int) 50)) l_0) size_0) (fun (v_4 : (List GFeed) × Int) =>
  some ((!(v_4.2 == 0)) || ((List.length v_4.1 : Int) == (List.length (List.take (Int.toNat (min (List.length l_0 : Int) 50)) l_0) : Int))))
def f_backwashlaw33_WindowHolds_B3 (l_0 : List GFeed) (size_0 : Int) (step_0 : Int) (i_3 : Int) (rec_2 : (Int → Option Bool)) (v_7 : (List GFeed) × Int) (rec_3 : Int → Option Bool) : Int → Option Bool :=
  fun k_11 =>
  (if (decide (k_11 < (List.length v_7.1 : Int))) = true then bindO (idx v_7.1 k_11) (fun (xv_204 : GFeed) =>
  (if (decide (xv_204.Epoch < 0)) = true then some false
  else bindO (idx (List.take (Int.toNat (min (List.length l_0 : Int) 50)) l_0) i_3) (fun (xv_205 : GFeed) =>
  (if (decide (xv_205.Epoch < (IntKind.i64.wrap (xv_204.Epoch * step_0)))) = true then some false
  else bindO (idx (List.take (Int.toNat (min (List.length l_0 : Int) 50)) l_0) i_3) (fun (xv_206 : GFeed) =>
  (if (decide ((IntKind.i64.wrap ((IntKind.i64.wrap (xv_204.Epoch * step_0)) + size_0)) ≤ xv_206.Epoch)) = true then some false
  else (if (decide (0 < k_11)) = true then bindO (idx v_7.1 (IntKind.i64.wrap (k_11 - 1))) (fun (xv_211 : GFeed) =>
  (if (decide (xv_204.Epoch ≤ xv_211.Epoch)) = true then some false
  else bindO (idx v_7.1 k_11) (fun (xv_212 : GFeed) =>
  bindO (idx (List.take (Int.toNat (min (List.length l_0 : Int) 50)) l_0) i_3) (fun (xv_213 : GFeed) =>
  (if (xv_212.Node == xv_213.Node) = true then bindO (idx v_7.1 k_11) (fun (xv_214 : GFeed) =>
  bindO (idx (List.take (Int.toNat (min (List.length l_0 : Int) 50)) l_0) i_3) (fun (xv_215 : GFeed) =>
  (if (!((xv_214.Rec.K == xv_215.Rec.K) && (xv_214.Rec.V == xv_215.Rec.V))) = true then some false
  else rec_3 (IntKind.i64.wrap (k_11 + 1)))))
  else some false)))))
  else bindO (idx v_7.1 k_11) (fun (xv_207 : GFeed) =>
  bindO (idx (List.take (Int.toNat (min (List.length l_0 : Int) 50)) l_0) i_3) (fun (xv_208 : GFeed) =>
  (if (xv_207.Node == xv_208.Node) = true then bindO (idx v_7.1 k_11) (fun (xv_209 : GFeed) =>
  bindO (idx (List.take (Int.toNat (min (List.length l_0 : Int) 50)) l_0) i_3) (fun (xv_210 : GFeed) =>
  (if (!((xv_209.Rec.K == xv_210.Rec.K) && (xv_209.Rec.V == xv_210.Rec.V))) = true then some false
  else rec_3 (IntKind.i64.wrap (k_11 + 1)))))
  else some false))))))))))
  else rec_2 (IntKind.i64.wrap (i_3 + 1)))
def f_backwashlaw33_WindowHolds_B2 (l_0 : List GFeed) (size_0 : Int) (step_0 : Int) (rec_2 : Int → Option Bool) : Int → Option Bool :=
  fun i_3 =>
  (if (decide (i_3 < (List.length (List.take (Int.toNat (min (List.length l_0 : Int) 50)) l_0) : Int))) = true then guardO (0 ≤ i_3 ∧ i_3 ≤ IntKind.i64.wrap (i_3 + 1) ∧ IntKind.i64.wrap (i_3 + 1) ≤ (List.length (List.take (Int.toNat (min (List.length l_0 : Int) 50)) l_0) : Int)) (
  bindO (f_window_Slide (List.drop (Int.toNat i_3) (List.take (Int.toNat (IntKind.i64.wrap (i_3 + 1))) (List.take (Int.toNat (min (List.length l_0 : Int) 50)) l_0))) size_0 step_0) (fun (v_7 : (List GFeed) × Int) =>
  (if (!(v_7.2 == 0)) = true then some ((List.length v_7.1 : Int) == 0)
  else guardO (step_0 ≠ 0) (
  (if (decide ((IntKind.i64.wrap (Int.tdiv (IntKind.i64.wrap ((IntKind.i64.wrap (size_0 + step_0)) - 1)) step_0)) < (List.length v_7.1 : Int))) = true then some false
  else loopK (f_backwashlaw33_WindowHolds_B3 l_0 size_0 step_0 i_3 rec_2 v_7) rounds 0)))))
  else f_backwashlaw33_WindowHolds_J1 l_0 size_0)
def f_backwashlaw33_WindowHolds (l_0 : List GFeed) (size_0 : Int) (step_0 : Int) : Option Bool :=
  bindO (f_backwashlaw33_awake) (fun (v_0 : Bool) =>
  (if (!v_0) = true then some false
  else guardO (0 ≤ 0 ∧ 0 ≤ (min (List.length l_0 : Int) 50) ∧ (min (List.length l_0 : Int) 50) ≤ (List.length l_0 : Int)) (
  loopK (f_backwashlaw33_WindowHolds_B2 l_0 size_0 step_0) rounds 0)))
theorem f_backwashlaw33_WindowHolds_ok (l_0 : List GFeed) (size_0 : Int) (step_0 : Int)  (r : Bool) (h : f_backwashlaw33_WindowHolds l_0 size_0 step_0 = some r) : PureS Try.prog 7 [.sl 4 (enc l_0), .v (.int .i64 size_0), .v (.int .i64 step_0)] 0 (.v (.bool r)) := by
  unfold PureS
  refine Spec.of_vc Try.func7 rfl (by kernel_rfl) (by kernel_rfl) ?_
  rw [f_backwashlaw33_WindowHolds] at h
  refine vc_seq_gen (by kernel_rfl) ?_
  intro QQ1 hQ1
  try simp only [go_sem, Int.reduceToNat, Int.reduceLT, Int.reduceLE, Int.reduceBEq, Int.reduceEq, Int.reduceNeg, Int.reduceNegSucc, Int.reduceSub, Int.reduceAdd, Int.reduceMul, Int.natCast_zero, Int.natCast_one, UInt8.reduceToNat, Nat.reduceEqDiff, Nat.reduceAdd, Nat.reduceMul, Nat.reduceSub, Nat.reduceLeDiff, Nat.reduceBEq, ↓reduceIte, reduceCtorEq, Try.ntmps7, Try.results7]
  repeat ((with_reducible refine And.intro ?_ ?_); · (first | omega | assumption | (simp +contextual only [and_self, implies_true, true_and, and_true, imp_self]; done) | (intros; (repeat' apply And.intro) <;> first | assumption | omega) | (simp +contextual; done) | (intros; simp_all; done)))
  refine seqQ_normal hQ1 ?_
  refine vc_seq_gen (by kernel_rfl) ?_
  intro QQ2 hQ2
  refine vc_seq_gen (by kernel_rfl) ?_
  intro QQ3 hQ3
  obtain ⟨v_0, ev_0, h⟩ := bindO_some h
  simp only [go_sem, Int.reduceToNat, Int.reduceLT, Int.reduceLE, Int.reduceBEq, Int.reduceEq, Int.reduceNeg, Int.reduceNegSucc, Int.reduceSub, Int.reduceAdd, Int.reduceMul, Int.natCast_zero, Int.natCast_one, UInt8.reduceToNat, Nat.reduceEqDiff, Nat.reduceAdd, Nat.reduceMul, Nat.reduceSub, Nat.reduceLeDiff, Nat.reduceBEq, ↓reduceIte, reduceCtorEq, Try.ntmps7, Try.results7]
  repeat ((with_reducible refine And.intro ?_ ?_); · (first | omega | assumption | (simp +contextual only [and_self, implies_true, true_and, and_true, imp_self]; done) | (intros; (repeat' apply And.intro) <;> first | assumption | omega) | (simp +contextual; done) | (intros; simp_all; done)))
  refine call0 (f_backwashlaw33_awake_ok v_0 ev_0) (by rfl) (by rfl) ?_
  try simp only [go_sem, Int.reduceToNat, Int.reduceLT, Int.reduceLE, Int.reduceBEq, Int.reduceEq, Int.reduceNeg, Int.reduceNegSucc, Int.reduceSub, Int.reduceAdd, Int.reduceMul, Int.natCast_zero, Int.natCast_one, UInt8.reduceToNat, Nat.reduceEqDiff, Nat.reduceAdd, Nat.reduceMul, Nat.reduceSub, Nat.reduceLeDiff, Nat.reduceBEq, ↓reduceIte, reduceCtorEq, Try.ntmps7, Try.results7]
  repeat ((with_reducible refine And.intro ?_ ?_); · (first | omega | assumption | (simp +contextual only [and_self, implies_true, true_and, and_true, imp_self]; done) | (intros; (repeat' apply And.intro) <;> first | assumption | omega) | (simp +contextual; done) | (intros; simp_all; done)))
  refine seqQ_normal hQ3 ?_
  refine vc_cond_of (b := (!v_0)) (by first | (simp only [go_sem, Int.reduceToNat, Int.reduceLT, Int.reduceLE, Int.reduceBEq, Int.reduceEq, Int.reduceNeg, Int.reduceNegSucc, Int.reduceSub, Int.reduceAdd, Int.reduceMul, Int.natCast_zero, Int.natCast_one, UInt8.reduceToNat, Nat.reduceEqDiff, Nat.reduceAdd, Nat.reduceMul, Nat.reduceSub, Nat.reduceLeDiff, Nat.reduceBEq, ↓reduceIte, reduceCtorEq]; done) | (simp [go_sem]; done) | (simp only [go_sem, Int.reduceToNat, Int.reduceLT, Int.reduceLE, Int.reduceBEq, Int.reduceEq, Int.reduceNeg, Int.reduceNegSucc, Int.reduceSub, Int.reduceAdd, Int.reduceMul, Int.natCast_zero, Int.natCast_one, UInt8.reduceToNat, Nat.reduceEqDiff, Nat.reduceAdd, Nat.reduceMul, Nat.reduceSub, Nat.reduceLeDiff, Nat.reduceBEq, ↓reduceIte, reduceCtorEq]; congr 2; (first | grind | (simp_all; done))) | (simp [go_sem]; (first | grind | (simp_all; done)))) (fun hb_0 => ?_) (fun hb_0 => ?_)
  ·
    replace h := if_t h hb_0
    try simp only [decide_eq_true_eq, decide_eq_false_iff_not, Bool.not_eq_true', Bool.not_eq_false', beq_iff_eq, beq_eq_false_iff_ne, ne_eq, Bool.and_eq_true, Bool.or_eq_true, Int.not_lt, Int.not_le] at hb_0
    refine vc_seq_gen (by kernel_rfl) ?_
    intro QQ4 hQ4
    try simp only [go_sem, Int.reduceToNat, Int.reduceLT, Int.reduceLE, Int.reduceBEq, Int.reduceEq, Int.reduceNeg, Int.reduceNegSucc, Int.reduceSub, Int.reduceAdd, Int.reduceMul, Int.natCast_zero, Int.natCast_one, UInt8.reduceToNat, Nat.reduceEqDiff, Nat.reduceAdd, Nat.reduceMul, Nat.reduceSub, Nat.reduceLeDiff, Nat.reduceBEq, ↓reduceIte, reduceCtorEq, Try.ntmps7, Try.results7]
    repeat ((with_reducible refine And.intro ?_ ?_); · (first | omega | assumption | (simp +contextual only [and_self, implies_true, true_and, and_true, imp_self]; done) | (intros; (repeat' apply And.intro) <;> first | assumption | omega) | (simp +contextual; done) | (intros; simp_all; done)))
    refine seqQ_normal hQ4 ?_
    refine vc_ret_of ?_
    refine seqQ_ret hQ2 ?_
    try simp only [go_sem, Int.reduceToNat, Int.reduceLT, Int.reduceLE, Int.reduceBEq, Int.reduceEq, Int.reduceNeg, Int.reduceNegSucc, Int.reduceSub, Int.reduceAdd, Int.reduceMul, Int.natCast_zero, Int.natCast_one, UInt8.reduceToNat, Nat.reduceEqDiff, Nat.reduceAdd, Nat.reduceMul, Nat.reduceSub, Nat.reduceLeDiff, Nat.reduceBEq, ↓reduceIte, reduceCtorEq, Try.ntmps7, Try.results7]
    repeat ((with_reducible refine And.intro ?_ ?_); · (first | omega | assumption | (simp +contextual only [and_self, implies_true, true_and, and_true, imp_self]; done) | (intros; (repeat' apply And.intro) <;> first | assumption | omega) | (simp +contextual; done) | (intros; simp_all; done)))
    obtain rfl := Option.some.inj h
    refine retW_pure rfl ?_
    simp only [go_sem, Le, Int.reduceToNat, Int.reduceLT, Int.reduceLE, Int.reduceBEq, Int.reduceEq, Int.reduceNeg, Int.reduceNegSucc, Int.reduceSub, Int.reduceAdd, Int.reduceMul, Int.natCast_zero, Int.natCast_one, UInt8.reduceToNat, Nat.reduceEqDiff, Nat.reduceAdd, Nat.reduceMul, Nat.reduceSub, Nat.reduceLeDiff, Nat.reduceBEq, ↓reduceIte, reduceCtorEq] <;> (repeat' apply And.intro) <;> first | rfl | assumption | omega | (simp only [go_sem, Int.reduceToNat, Int.reduceLT, Int.reduceLE, Int.reduceBEq, Int.reduceEq, Int.reduceNeg, Int.reduceNegSucc, Int.reduceSub, Int.reduceAdd, Int.reduceMul, Int.natCast_zero, Int.natCast_one, UInt8.reduceToNat, Nat.reduceEqDiff, Nat.reduceAdd, Nat.reduceMul, Nat.reduceSub, Nat.reduceLeDiff, Nat.reduceBEq, ↓reduceIte, reduceCtorEq]; done) | (simp [go_sem]; done) | (simp [enc_len, enc]; done) | (simp [enc_len, enc]; omega) | (simp [enc, row_int, row_bool, row_u8, row_list, sz_int, sz_bool, sz_u8, sz_list]; done) | (simp [enc]; rw [List.take_of_length_le (by simp)])
  ·
    replace h := if_f h hb_0
    try simp only [decide_eq_true_eq, decide_eq_false_iff_not, Bool.not_eq_true', Bool.not_eq_false', beq_iff_eq, beq_eq_false_iff_ne, ne_eq, Bool.and_eq_true, Bool.or_eq_true, Int.not_lt, Int.not_le] at hb_0
    refine vc_skip_of ?_
    refine seqQ_normal hQ2 ?_
    refine vc_seq_gen (by kernel_rfl) ?_
    intro QQ5 hQ5
    obtain ⟨g_0, h⟩ := guardO_some h
    try simp only [go_sem, Int.reduceToNat, Int.reduceLT, Int.reduceLE, Int.reduceBEq, Int.reduceEq, Int.reduceNeg, Int.reduceNegSucc, Int.reduceSub, Int.reduceAdd, Int.reduceMul, Int.natCast_zero, Int.natCast_one, UInt8.reduceToNat, Nat.reduceEqDiff, Nat.reduceAdd, Nat.reduceMul, Nat.reduceSub, Nat.reduceLeDiff, Nat.reduceBEq, ↓reduceIte, reduceCtorEq, Try.ntmps7, Try.results7, g_0]
    repeat ((with_reducible refine And.intro ?_ ?_); · (first | omega | assumption | (simp +contextual only [and_self, implies_true, true_and, and_true, imp_self]; done) | (intros; (repeat' apply And.intro) <;> first | assumption | omega) | (simp +contextual; done) | (intros; simp_all; done)))
    refine seqQ_normal hQ5 ?_
    refine vc_join (by kernel_rfl) ?_
    refine seq_cut_gen (ι := Unit) (fun (_ : Unit) => (⟨0, [(0, .sl 4 (enc (List.take (Int.toNat (min (List.length l_0 : Int) 50)) l_0))), (1, .v (.int .i64 size_0))], [], 0, 144⟩ : St)) (fun (_ : Unit) => f_backwashlaw33_WindowHolds_J1 l_0 size_0 = some r) ?_ ?_
    ·
      intro QQ8 hQ8
      refine vc_seq_gen (by kernel_rfl) ?_
      intro QQ9 hQ9
      try simp only [go_sem, Int.reduceToNat, Int.reduceLT, Int.reduceLE, Int.reduceBEq, Int.reduceEq, Int.reduceNeg, Int.reduceNegSucc, Int.reduceSub, Int.reduceAdd, Int.reduceMul, Int.natCast_zero, Int.natCast_one, UInt8.reduceToNat, Nat.reduceEqDiff, Nat.reduceAdd, Nat.reduceMul, Nat.reduceSub, Nat.reduceLeDiff, Nat.reduceBEq, ↓reduceIte, reduceCtorEq, Try.ntmps7, Try.results7]
      repeat ((with_reducible refine And.intro ?_ ?_); · (first | omega | assumption | (simp +contextual only [and_self, implies_true, true_and, and_true, imp_self]; done) | (intros; (repeat' apply And.intro) <;> first | assumption | omega) | (simp +contextual; done) | (intros; simp_all; done)))
      refine seqQ_normal hQ9 ?_
      refine vc_block_gen ?_
      intro QQ10 hQ10
      refine vc_loop_of ?_
      refine loop_gen (ι := Nat × Int) (fun ((_, i_3) : Nat × Int) => (⟨0, [(0, .sl 4 (enc (List.take (Int.toNat (min (List.length l_0 : Int) 50)) l_0))), (1, .v (.int .i64 size_0)), (2, .v (.int .i64 step_0)), (7, .v (.int .i64 i_3))], [], 0, 144⟩ : St)) (fun ((n_, i_3) : Nat × Int) => loopK (f_backwashlaw33_WindowHolds_B2 l_0 size_0 step_0) n_ i_3 = some r) (fun p => p.1) (rounds, 0) [] ?_ h ?_
      · simp only [go_sem, Le, Int.reduceToNat, Int.reduceLT, Int.reduceLE, Int.reduceBEq, Int.reduceEq, Int.reduceNeg, Int.reduceNegSucc, Int.reduceSub, Int.reduceAdd, Int.reduceMul, Int.natCast_zero, Int.natCast_one, UInt8.reduceToNat, Nat.reduceEqDiff, Nat.reduceAdd, Nat.reduceMul, Nat.reduceSub, Nat.reduceLeDiff, Nat.reduceBEq, ↓reduceIte, reduceCtorEq] <;> (repeat' apply And.intro) <;> first | rfl | assumption | omega | (simp only [go_sem, Int.reduceToNat, Int.reduceLT, Int.reduceLE, Int.reduceBEq, Int.reduceEq, Int.reduceNeg, Int.reduceNegSucc, Int.reduceSub, Int.reduceAdd, Int.reduceMul, Int.natCast_zero, Int.natCast_one, UInt8.reduceToNat, Nat.reduceEqDiff, Nat.reduceAdd, Nat.reduceMul, Nat.reduceSub, Nat.reduceLeDiff, Nat.reduceBEq, ↓reduceIte, reduceCtorEq]; done) | (simp [go_sem]; done) | (simp [enc_len, enc]; done) | (simp [enc_len, enc]; omega) | (simp [enc, row_int, row_bool, row_u8, row_list, sz_int, sz_bool, sz_u8, sz_list]; done) | (simp [enc]; rw [List.take_of_length_le (by simp)])
      · rintro ⟨n_2, i_3⟩ h QQ11 hQ11
        dsimp only at h
        replace h := loopK_some h
        obtain ⟨m_2, rfl, h⟩ := h
        rw [f_backwashlaw33_WindowHolds_B2] at h
        refine vc_seq_gen (by kernel_rfl) ?_
        intro QQ12 hQ12
        refine vc_seq_gen (by kernel_rfl) ?_
        intro QQ13 hQ13
        try simp only [go_sem, Int.reduceToNat, Int.reduceLT, Int.reduceLE, Int.reduceBEq, Int.reduceEq, Int.reduceNeg, Int.reduceNegSucc, Int.reduceSub, Int.reduceAdd, Int.reduceMul, Int.natCast_zero, Int.natCast_one, UInt8.reduceToNat, Nat.reduceEqDiff, Nat.reduceAdd, Nat.reduceMul, Nat.reduceSub, Nat.reduceLeDiff, Nat.reduceBEq, ↓reduceIte, reduceCtorEq, Try.ntmps7, Try.results7]
        repeat ((with_reducible refine And.intro ?_ ?_); · (first | omega | assumption | (simp +contextual only [and_self, implies_true, true_and, and_true, imp_self]; done) | (intros; (repeat' apply And.intro) <;> first | assumption | omega) | (simp +contextual; done) | (intros; simp_all; done)))
        refine seqQ_normal hQ13 ?_
        refine vc_cond_of (b := (decide (i_3 < (List.length (List.take (Int.toNat (min (List.length l_0 : Int) 50)) l_0) : Int)))) (by first | (simp only [go_sem, Int.reduceToNat, Int.reduceLT, Int.reduceLE, Int.reduceBEq, Int.reduceEq, Int.reduceNeg, Int.reduceNegSucc, Int.reduceSub, Int.reduceAdd, Int.reduceMul, Int.natCast_zero, Int.natCast_one, UInt8.reduceToNat, Nat.reduceEqDiff, Nat.reduceAdd, Nat.reduceMul, Nat.reduceSub, Nat.reduceLeDiff, Nat.reduceBEq, ↓reduceIte, reduceCtorEq]; done) | (simp [go_sem]; done) | (simp only [go_sem, Int.reduceToNat, Int.reduceLT, Int.reduceLE, Int.reduceBEq, Int.reduceEq, Int.reduceNeg, Int.reduceNegSucc, Int.reduceSub, Int.reduceAdd, Int.reduceMul, Int.natCast_zero, Int.natCast_one, UInt8.reduceToNat, Nat.reduceEqDiff, Nat.reduceAdd, Nat.reduceMul, Nat.reduceSub, Nat.reduceLeDiff, Nat.reduceBEq, ↓reduceIte, reduceCtorEq]; congr 2; (first | grind | (simp_all; done))) | (simp [go_sem]; (first | grind | (simp_all; done)))) (fun hb_166 => ?_) (fun hb_166 => ?_)
        ·
          replace h := if_t h hb_166
          try simp only [decide_eq_true_eq, decide_eq_false_iff_not, Bool.not_eq_true', Bool.not_eq_false', beq_iff_eq, beq_eq_false_iff_ne, ne_eq, Bool.and_eq_true, Bool.or_eq_true, Int.not_lt, Int.not_le] at hb_166
          refine vc_skip_of ?_
          refine seqQ_normal hQ12 ?_
          refine vc_join (by kernel_rfl) ?_
          refine seq_go_gen ?_
          intro QQ14 hQ14
          refine vc_block_gen ?_
          intro QQ15 hQ15
          refine vc_seq_gen (by kernel_rfl) ?_
          intro QQ16 hQ16
          obtain ⟨g_11, h⟩ := guardO_some h
          obtain ⟨v_7, ev_7, h⟩ := bindO_some h
          simp only [go_sem, Int.reduceToNat, Int.reduceLT, Int.reduceLE, Int.reduceBEq, Int.reduceEq, Int.reduceNeg, Int.reduceNegSucc, Int.reduceSub, Int.reduceAdd, Int.reduceMul, Int.natCast_zero, Int.natCast_one, UInt8.reduceToNat, Nat.reduceEqDiff, Nat.reduceAdd, Nat.reduceMul, Nat.reduceSub, Nat.reduceLeDiff, Nat.reduceBEq, ↓reduceIte, reduceCtorEq, Try.ntmps7, Try.results7, g_11]
          repeat ((with_reducible refine And.intro ?_ ?_); · (first | omega | assumption | (simp +contextual only [and_self, implies_true, true_and, and_true, imp_self]; done) | (intros; (repeat' apply And.intro) <;> first | assumption | omega) | (simp +contextual; done) | (intros; simp_all; done)))
          refine call0 (f_window_Slide_ok (List.drop (Int.toNat i_3) (List.take (Int.toNat (IntKind.i64.wrap (i_3 + 1))) (List.take (Int.toNat (min (List.length l_0 : Int) 50)) l_0))) size_0 step_0 v_7 ev_7) (by rfl) (by rfl) ?_
          try simp only [go_sem, Int.reduceToNat, Int.reduceLT, Int.reduceLE, Int.reduceBEq, Int.reduceEq, Int.reduceNeg, Int.reduceNegSucc, Int.reduceSub, Int.reduceAdd, Int.reduceMul, Int.natCast_zero, Int.natCast_one, UInt8.reduceToNat, Nat.reduceEqDiff, Nat.reduceAdd, Nat.reduceMul, Nat.reduceSub, Nat.reduceLeDiff, Nat.reduceBEq, ↓reduceIte, reduceCtorEq, Try.ntmps7, Try.results7]
          repeat ((with_reducible refine And.intro ?_ ?_); · (first | omega | assumption | (simp +contextual only [and_self, implies_true, true_and, and_true, imp_self]; done) | (intros; (repeat' apply And.intro) <;> first | assumption | omega) | (simp +contextual; done) | (intros; simp_all; done)))
          refine seqQ_normal hQ16 ?_
          refine vc_seq_gen (by kernel_rfl) ?_
          intro QQ17 hQ17
          refine vc_seq_gen (by kernel_rfl) ?_
          intro QQ18 hQ18
          try simp only [go_sem, Int.reduceToNat, Int.reduceLT, Int.reduceLE, Int.reduceBEq, Int.reduceEq, Int.reduceNeg, Int.reduceNegSucc, Int.reduceSub, Int.reduceAdd, Int.reduceMul, Int.natCast_zero, Int.natCast_one, UInt8.reduceToNat, Nat.reduceEqDiff, Nat.reduceAdd, Nat.reduceMul, Nat.reduceSub, Nat.reduceLeDiff, Nat.reduceBEq, ↓reduceIte, reduceCtorEq, Try.ntmps7, Try.results7]
          repeat ((with_reducible refine And.intro ?_ ?_); · (first | omega | assumption | (simp +contextual only [and_self, implies_true, true_and, and_true, imp_self]; done) | (intros; (repeat' apply And.intro) <;> first | assumption | omega) | (simp +contextual; done) | (intros; simp_all; done)))
          refine seqQ_normal hQ18 ?_
          refine vc_cond_of (b := (!(v_7.2 == 0))) (by first | (simp only [go_sem, Int.reduceToNat, Int.reduceLT, Int.reduceLE, Int.reduceBEq, Int.reduceEq, Int.reduceNeg, Int.reduceNegSucc, Int.reduceSub, Int.reduceAdd, Int.reduceMul, Int.natCast_zero, Int.natCast_one, UInt8.reduceToNat, Nat.reduceEqDiff, Nat.reduceAdd, Nat.reduceMul, Nat.reduceSub, Nat.reduceLeDiff, Nat.reduceBEq, ↓reduceIte, reduceCtorEq]; done) | (simp [go_sem]; done) | (simp only [go_sem, Int.reduceToNat, Int.reduceLT, Int.reduceLE, Int.reduceBEq, Int.reduceEq, Int.reduceNeg, Int.reduceNegSucc, Int.reduceSub, Int.reduceAdd, Int.reduceMul, Int.natCast_zero, Int.natCast_one, UInt8.reduceToNat, Nat.reduceEqDiff, Nat.reduceAdd, Nat.reduceMul, Nat.reduceSub, Nat.reduceLeDiff, Nat.reduceBEq, ↓reduceIte, reduceCtorEq]; congr 2; (first | grind | (simp_all; done))) | (simp [go_sem]; (first | grind | (simp_all; done)))) (fun hb_167 => ?_) (fun hb_167 => ?_)
          ·
            replace h := if_t h hb_167
            try simp only [decide_eq_true_eq, decide_eq_false_iff_not, Bool.not_eq_true', Bool.not_eq_false', beq_iff_eq, beq_eq_false_iff_ne, ne_eq, Bool.and_eq_true, Bool.or_eq_true, Int.not_lt, Int.not_le] at hb_167
            refine vc_seq_gen (by kernel_rfl) ?_
            intro QQ19 hQ19
            try simp only [go_sem, Int.reduceToNat, Int.reduceLT, Int.reduceLE, Int.reduceBEq, Int.reduceEq, Int.reduceNeg, Int.reduceNegSucc, Int.reduceSub, Int.reduceAdd, Int.reduceMul, Int.natCast_zero, Int.natCast_one, UInt8.reduceToNat, Nat.reduceEqDiff, Nat.reduceAdd, Nat.reduceMul, Nat.reduceSub, Nat.reduceLeDiff, Nat.reduceBEq, ↓reduceIte, reduceCtorEq, Try.ntmps7, Try.results7]
            repeat ((with_reducible refine And.intro ?_ ?_); · (first | omega | assumption | (simp +contextual only [and_self, implies_true, true_and, and_true, imp_self]; done) | (intros; (repeat' apply And.intro) <;> first | assumption | omega) | (simp +contextual; done) | (intros; simp_all; done)))
            refine seqQ_normal hQ19 ?_
            refine vc_ret_of ?_
            refine seqQ_ret hQ17 ?_
            refine blockQ_ret hQ15 ?_
            refine seqQ_ret hQ14 ?_
            refine thenQ_ret hQ11 ?_
            refine blockQ_ret hQ10 ?_
            refine thenQ_ret hQ8 ?_
            try simp only [go_sem, Int.reduceToNat, Int.reduceLT, Int.reduceLE, Int.reduceBEq, Int.reduceEq, Int.reduceNeg, Int.reduceNegSucc, Int.reduceSub, Int.reduceAdd, Int.reduceMul, Int.natCast_zero, Int.natCast_one, UInt8.reduceToNat, Nat.reduceEqDiff, Nat.reduceAdd, Nat.reduceMul, Nat.reduceSub, Nat.reduceLeDiff, Nat.reduceBEq, ↓reduceIte, reduceCtorEq, Try.ntmps7, Try.results7]
            repeat ((with_reducible refine And.intro ?_ ?_); · (first | omega | assumption | (simp +contextual only [and_self, implies_true, true_and, and_true, imp_self]; done) | (intros; (repeat' apply And.intro) <;> first | assumption | omega) | (simp +contextual; done) | (intros; simp_all; done)))
            obtain rfl := Option.some.inj h
            refine retW_pure rfl ?_
            simp only [go_sem, Le, Int.reduceToNat, Int.reduceLT, Int.reduceLE, Int.reduceBEq, Int.reduceEq, Int.reduceNeg, Int.reduceNegSucc, Int.reduceSub, Int.reduceAdd, Int.reduceMul, Int.natCast_zero, Int.natCast_one, UInt8.reduceToNat, Nat.reduceEqDiff, Nat.reduceAdd, Nat.reduceMul, Nat.reduceSub, Nat.reduceLeDiff, Nat.reduceBEq, ↓reduceIte, reduceCtorEq] <;> (repeat' apply And.intro) <;> first | rfl | assumption | omega | (simp only [go_sem, Int.reduceToNat, Int.reduceLT, Int.reduceLE, Int.reduceBEq, Int.reduceEq, Int.reduceNeg, Int.reduceNegSucc, Int.reduceSub, Int.reduceAdd, Int.reduceMul, Int.natCast_zero, Int.natCast_one, UInt8.reduceToNat, Nat.reduceEqDiff, Nat.reduceAdd, Nat.reduceMul, Nat.reduceSub, Nat.reduceLeDiff, Nat.reduceBEq, ↓reduceIte, reduceCtorEq]; done) | (simp [go_sem]; done) | (simp [enc_len, enc]; done) | (simp [enc_len, enc]; omega) | (simp [enc, row_int, row_bool, row_u8, row_list, sz_int, sz_bool, sz_u8, sz_list]; done) | (simp [enc]; rw [List.take_of_length_le (by simp)])
          ·
            replace h := if_f h hb_167
            try simp only [decide_eq_true_eq, decide_eq_false_iff_not, Bool.not_eq_true', Bool.not_eq_false', beq_iff_eq, beq_eq_false_iff_ne, ne_eq, Bool.and_eq_true, Bool.or_eq_true, Int.not_lt, Int.not_le] at hb_167
            refine vc_skip_of ?_
            refine seqQ_normal hQ17 ?_
            refine vc_seq_gen (by kernel_rfl) ?_
            intro QQ20 hQ20
            refine vc_seq_gen (by kernel_rfl) ?_
            intro QQ21 hQ21
            obtain ⟨g_12, h⟩ := guardO_some h
            try simp only [go_sem, Int.reduceToNat, Int.reduceLT, Int.reduceLE, Int.reduceBEq, Int.reduceEq, Int.reduceNeg, Int.reduceNegSucc, Int.reduceSub, Int.reduceAdd, Int.reduceMul, Int.natCast_zero, Int.natCast_one, UInt8.reduceToNat, Nat.reduceEqDiff, Nat.reduceAdd, Nat.reduceMul, Nat.reduceSub, Nat.reduceLeDiff, Nat.reduceBEq, ↓reduceIte, reduceCtorEq, Try.ntmps7, Try.results7, g_12]
            repeat ((with_reducible refine And.intro ?_ ?_); · (first | omega | assumption | (simp +contextual only [and_self, implies_true, true_and, and_true, imp_self]; done) | (intros; (repeat' apply And.intro) <;> first | assumption | omega) | (simp +contextual; done) | (intros; simp_all; done)))
            refine seqQ_normal hQ21 ?_
            refine vc_cond_of (b := (decide ((IntKind.i64.wrap (Int.tdiv (IntKind.i64.wrap ((IntKind.i64.wrap (size_0 + step_0)) - 1)) step_0)) < (List.length v_7.1 : Int)))) (by first | (simp only [go_sem, Int.reduceToNat, Int.reduceLT, Int.reduceLE, Int.reduceBEq, Int.reduceEq, Int.reduceNeg, Int.reduceNegSucc, Int.reduceSub, Int.reduceAdd, Int.reduceMul, Int.natCast_zero, Int.natCast_one, UInt8.reduceToNat, Nat.reduceEqDiff, Nat.reduceAdd, Nat.reduceMul, Nat.reduceSub, Nat.reduceLeDiff, Nat.reduceBEq, ↓reduceIte, reduceCtorEq]; done) | (simp [go_sem]; done) | (simp only [go_sem, Int.reduceToNat, Int.reduceLT, Int.reduceLE, Int.reduceBEq, Int.reduceEq, Int.reduceNeg, Int.reduceNegSucc, Int.reduceSub, Int.reduceAdd, Int.reduceMul, Int.natCast_zero, Int.natCast_one, UInt8.reduceToNat, Nat.reduceEqDiff, Nat.reduceAdd, Nat.reduceMul, Nat.reduceSub, Nat.reduceLeDiff, Nat.reduceBEq, ↓reduceIte, reduceCtorEq]; congr 2; (first | grind | (simp_all; done))) | (simp [go_sem]; (first | grind | (simp_all; done)))) (fun hb_168 => ?_) (fun hb_168 => ?_)
            ·
              replace h := if_t h hb_168
              try simp only [decide_eq_true_eq, decide_eq_false_iff_not, Bool.not_eq_true', Bool.not_eq_false', beq_iff_eq, beq_eq_false_iff_ne, ne_eq, Bool.and_eq_true, Bool.or_eq_true, Int.not_lt, Int.not_le] at hb_168
              refine vc_seq_gen (by kernel_rfl) ?_
              intro QQ22 hQ22
              try simp only [go_sem, Int.reduceToNat, Int.reduceLT, Int.reduceLE, Int.reduceBEq, Int.reduceEq, Int.reduceNeg, Int.reduceNegSucc, Int.reduceSub, Int.reduceAdd, Int.reduceMul, Int.natCast_zero, Int.natCast_one, UInt8.reduceToNat, Nat.reduceEqDiff, Nat.reduceAdd, Nat.reduceMul, Nat.reduceSub, Nat.reduceLeDiff, Nat.reduceBEq, ↓reduceIte, reduceCtorEq, Try.ntmps7, Try.results7]
              repeat ((with_reducible refine And.intro ?_ ?_); · (first | omega | assumption | (simp +contextual only [and_self, implies_true, true_and, and_true, imp_self]; done) | (intros; (repeat' apply And.intro) <;> first | assumption | omega) | (simp +contextual; done) | (intros; simp_all; done)))
              refine seqQ_normal hQ22 ?_
              refine vc_ret_of ?_
              refine seqQ_ret hQ20 ?_
              refine blockQ_ret hQ15 ?_
              refine seqQ_ret hQ14 ?_
              refine thenQ_ret hQ11 ?_
              refine blockQ_ret hQ10 ?_
              refine thenQ_ret hQ8 ?_
              try simp only [go_sem, Int.reduceToNat, Int.reduceLT, Int.reduceLE, Int.reduceBEq, Int.reduceEq, Int.reduceNeg, Int.reduceNegSucc, Int.reduceSub, Int.reduceAdd, Int.reduceMul, Int.natCast_zero, Int.natCast_one, UInt8.reduceToNat, Nat.reduceEqDiff, Nat.reduceAdd, Nat.reduceMul, Nat.reduceSub, Nat.reduceLeDiff, Nat.reduceBEq, ↓reduceIte, reduceCtorEq, Try.ntmps7, Try.results7]
              repeat ((with_reducible refine And.intro ?_ ?_); · (first | omega | assumption | (simp +contextual only [and_self, implies_true, true_and, and_true, imp_self]; done) | (intros; (repeat' apply And.intro) <;> first | assumption | omega) | (simp +contextual; done) | (intros; simp_all; done)))
              obtain rfl := Option.some.inj h
              refine retW_pure rfl ?_
              simp only [go_sem, Le, Int.reduceToNat, Int.reduceLT, Int.reduceLE, Int.reduceBEq, Int.reduceEq, Int.reduceNeg, Int.reduceNegSucc, Int.reduceSub, Int.reduceAdd, Int.reduceMul, Int.natCast_zero, Int.natCast_one, UInt8.reduceToNat, Nat.reduceEqDiff, Nat.reduceAdd, Nat.reduceMul, Nat.reduceSub, Nat.reduceLeDiff, Nat.reduceBEq, ↓reduceIte, reduceCtorEq] <;> (repeat' apply And.intro) <;> first | rfl | assumption | omega | (simp only [go_sem, Int.reduceToNat, Int.reduceLT, Int.reduceLE, Int.reduceBEq, Int.reduceEq, Int.reduceNeg, Int.reduceNegSucc, Int.reduceSub, Int.reduceAdd, Int.reduceMul, Int.natCast_zero, Int.natCast_one, UInt8.reduceToNat, Nat.reduceEqDiff, Nat.reduceAdd, Nat.reduceMul, Nat.reduceSub, Nat.reduceLeDiff, Nat.reduceBEq, ↓reduceIte, reduceCtorEq]; done) | (simp [go_sem]; done) | (simp [enc_len, enc]; done) | (simp [enc_len, enc]; omega) | (simp [enc, row_int, row_bool, row_u8, row_list, sz_int, sz_bool, sz_u8, sz_list]; done) | (simp [enc]; rw [List.take_of_length_le (by simp)])
            ·
              replace h := if_f h hb_168
              try simp only [decide_eq_true_eq, decide_eq_false_iff_not, Bool.not_eq_true', Bool.not_eq_false', beq_iff_eq, beq_eq_false_iff_ne, ne_eq, Bool.and_eq_true, Bool.or_eq_true, Int.not_lt, Int.not_le] at hb_168
              refine vc_skip_of ?_
              refine seqQ_normal hQ20 ?_
              refine vc_seq_gen (by kernel_rfl) ?_
              intro QQ23 hQ23
              try simp only [go_sem, Int.reduceToNat, Int.reduceLT, Int.reduceLE, Int.reduceBEq, Int.reduceEq, Int.reduceNeg, Int.reduceNegSucc, Int.reduceSub, Int.reduceAdd, Int.reduceMul, Int.natCast_zero, Int.natCast_one, UInt8.reduceToNat, Nat.reduceEqDiff, Nat.reduceAdd, Nat.reduceMul, Nat.reduceSub, Nat.reduceLeDiff, Nat.reduceBEq, ↓reduceIte, reduceCtorEq, Try.ntmps7, Try.results7]
              repeat ((with_reducible refine And.intro ?_ ?_); · (first | omega | assumption | (simp +contextual only [and_self, implies_true, true_and, and_true, imp_self]; done) | (intros; (repeat' apply And.intro) <;> first | assumption | omega) | (simp +contextual; done) | (intros; simp_all; done)))
              refine seqQ_normal hQ23 ?_
              refine vc_block_gen ?_
              intro QQ24 hQ24
              refine vc_loop_of ?_
              refine loop_gen (ι := Nat × Int) (fun ((_, k_11) : Nat × Int) => (⟨0, [(0, .sl 4 (enc (List.take (Int.toNat (min (List.length l_0 : Int) 50)) l_0))), (1, .v (.int .i64 size_0)), (2, .v (.int .i64 step_0)), (7, .v (.int .i64 i_3)), (8, .sl 4 (enc v_7.1)), (10, .v (.int .i64 k_11))], [], 0, 144⟩ : St)) (fun ((n_, k_11) : Nat × Int) => loopK (f_backwashlaw33_WindowHolds_B3 l_0 size_0 step_0 i_3 (loopK (f_backwashlaw33_WindowHolds_B2 l_0 size_0 step_0) m_2) v_7) n_ k_11 = some r) (fun p => p.1) (rounds, 0) [] ?_ h ?_
              · simp only [go_sem, Le, Int.reduceToNat, Int.reduceLT, Int.reduceLE, Int.reduceBEq, Int.reduceEq, Int.reduceNeg, Int.reduceNegSucc, Int.reduceSub, Int.reduceAdd, Int.reduceMul, Int.natCast_zero, Int.natCast_one, UInt8.reduceToNat, Nat.reduceEqDiff, Nat.reduceAdd, Nat.reduceMul, Nat.reduceSub, Nat.reduceLeDiff, Nat.reduceBEq, ↓reduceIte, reduceCtorEq] <;> (repeat' apply And.intro) <;> first | rfl | assumption | omega | (simp only [go_sem, Int.reduceToNat, Int.reduceLT, Int.reduceLE, Int.reduceBEq, Int.reduceEq, Int.reduceNeg, Int.reduceNegSucc, Int.reduceSub, Int.reduceAdd, Int.reduceMul, Int.natCast_zero, Int.natCast_one, UInt8.reduceToNat, Nat.reduceEqDiff, Nat.reduceAdd, Nat.reduceMul, Nat.reduceSub, Nat.reduceLeDiff, Nat.reduceBEq, ↓reduceIte, reduceCtorEq]; done) | (simp [go_sem]; done) | (simp [enc_len, enc]; done) | (simp [enc_len, enc]; omega) | (simp [enc, row_int, row_bool, row_u8, row_list, sz_int, sz_bool, sz_u8, sz_list]; done) | (simp [enc]; rw [List.take_of_length_le (by simp)])
              · rintro ⟨n_3, k_11⟩ h QQ25 hQ25
                dsimp only at h
                replace h := loopK_some h
                obtain ⟨m_3, rfl, h⟩ := h
                rw [f_backwashlaw33_WindowHolds_B3] at h
                refine vc_seq_gen (by kernel_rfl) ?_
                intro QQ26 hQ26
                refine vc_seq_gen (by kernel_rfl) ?_
                intro QQ27 hQ27
                try simp only [go_sem, Int.reduceToNat, Int.reduceLT, Int.reduceLE, Int.reduceBEq, Int.reduceEq, Int.reduceNeg, Int.reduceNegSucc, Int.reduceSub, Int.reduceAdd, Int.reduceMul, Int.natCast_zero, Int.natCast_one, UInt8.reduceToNat, Nat.reduceEqDiff, Nat.reduceAdd, Nat.reduceMul, Nat.reduceSub, Nat.reduceLeDiff, Nat.reduceBEq, ↓reduceIte, reduceCtorEq, Try.ntmps7, Try.results7]
                repeat ((with_reducible refine And.intro ?_ ?_); · (first | omega | assumption | (simp +contextual only [and_self, implies_true, true_and, and_true, imp_self]; done) | (intros; (repeat' apply And.intro) <;> first | assumption | omega) | (simp +contextual; done) | (intros; simp_all; done)))
                refine seqQ_normal hQ27 ?_
                refine vc_cond_of (b := (decide (k_11 < (List.length v_7.1 : Int)))) (by first | (simp only [go_sem, Int.reduceToNat, Int.reduceLT, Int.reduceLE, Int.reduceBEq, Int.reduceEq, Int.reduceNeg, Int.reduceNegSucc, Int.reduceSub, Int.reduceAdd, Int.reduceMul, Int.natCast_zero, Int.natCast_one, UInt8.reduceToNat, Nat.reduceEqDiff, Nat.reduceAdd, Nat.reduceMul, Nat.reduceSub, Nat.reduceLeDiff, Nat.reduceBEq, ↓reduceIte, reduceCtorEq]; done) | (simp [go_sem]; done) | (simp only [go_sem, Int.reduceToNat, Int.reduceLT, Int.reduceLE, Int.reduceBEq, Int.reduceEq, Int.reduceNeg, Int.reduceNegSucc, Int.reduceSub, Int.reduceAdd, Int.reduceMul, Int.natCast_zero, Int.natCast_one, UInt8.reduceToNat, Nat.reduceEqDiff, Nat.reduceAdd, Nat.reduceMul, Nat.reduceSub, Nat.reduceLeDiff, Nat.reduceBEq, ↓reduceIte, reduceCtorEq]; congr 2; (first | grind | (simp_all; done))) | (simp [go_sem]; (first | grind | (simp_all; done)))) (fun hb_189 => ?_) (fun hb_189 => ?_)
                ·
                  replace h := if_t h hb_189
                  try simp only [decide_eq_true_eq, decide_eq_false_iff_not, Bool.not_eq_true', Bool.not_eq_false', beq_iff_eq, beq_eq_false_iff_ne, ne_eq, Bool.and_eq_true, Bool.or_eq_true, Int.not_lt, Int.not_le] at hb_189
                  refine vc_skip_of ?_
                  refine seqQ_normal hQ26 ?_
                  refine vc_seq_gen (by kernel_rfl) ?_
                  intro QQ28 hQ28
                  refine vc_block_gen ?_
                  intro QQ29 hQ29
                  refine vc_seq_gen (by kernel_rfl) ?_
                  intro QQ30 hQ30
                  obtain ⟨xv_204, exv_204, h⟩ := bindO_some h
                  obtain ⟨fxv_204a, fxv_204b, fxv_204c⟩ := idx_spec exv_204
                  try simp only [Int.toNat_natCast, Int.reduceToNat] at fxv_204c
                  try simp only [go_sem, Int.reduceToNat, Int.reduceLT, Int.reduceLE, Int.reduceBEq, Int.reduceEq, Int.reduceNeg, Int.reduceNegSucc, Int.reduceSub, Int.reduceAdd, Int.reduceMul, Int.natCast_zero, Int.natCast_one, UInt8.reduceToNat, Nat.reduceEqDiff, Nat.reduceAdd, Nat.reduceMul, Nat.reduceSub, Nat.reduceLeDiff, Nat.reduceBEq, ↓reduceIte, reduceCtorEq, Try.ntmps7, Try.results7, fxv_204a, fxv_204b, fxv_204c]
                  repeat ((with_reducible refine And.intro ?_ ?_); · (first | omega | assumption | (simp +contextual only [and_self, implies_true, true_and, and_true, imp_self]; done) | (intros; (repeat' apply And.intro) <;> first | assumption | omega) | (simp +contextual; done) | (intros; simp_all; done)))
                  refine seqQ_normal hQ30 ?_
                  refine vc_seq_gen (by kernel_rfl) ?_
                  intro QQ31 hQ31
                  refine vc_draw ?_
                  refine drawM_tail 64 [0, 1, 3, 7, 7, 31, 7, 7, 199, 455, 967, 2047, 4095, 8191, 16383, 16383, 65535, 131071, 262143, 16383, 16383, 1589247, 16383, 7880703, 16777215, 33554431, 67108863, 134217727, 268435455, 536870911, 1073741823, 1073741823, 1073741823, 5368709119, 16106127359, 33285996543, 67645734911, 137438953471, 274877906943, 549755813887, 1099511627775, 2199023255551, 2199023255551, 8796093022207, 17592186044415, 35184372088831, 2199023255551, 2199023255551, 213305255788543, 494780232499199, 1057730185920511, 2251799813685247, 4503599627370495, 9007199254740991, 18014398509481983, 18014398509481983, 72057594037927935, 144115188075855871, 288230376151711743, 18014398509481983, 18014398509481983, 1747396655419752447, 4053239664633446399, 8664925683060834303, 18446744073709551615, 36893488147419103231] mixed (by kernel_rfl) (of_decide_eq_true (by kernel_rfl)) (by kernel_rfl) ?_
                  try simp only [go_sem, Int.reduceToNat, Int.reduceLT, Int.reduceLE, Int.reduceBEq, Int.reduceEq, Int.reduceNeg, Int.reduceNegSucc, Int.reduceSub, Int.reduceAdd, Int.reduceMul, Int.natCast_zero, Int.natCast_one, UInt8.reduceToNat, Nat.reduceEqDiff, Nat.reduceAdd, Nat.reduceMul, Nat.reduceSub, Nat.reduceLeDiff, Nat.reduceBEq, ↓reduceIte, reduceCtorEq, Try.ntmps7, Try.results7]
                  repeat ((with_reducible refine And.intro ?_ ?_); · (first | omega | assumption | (simp +contextual only [and_self, implies_true, true_and, and_true, imp_self]; done) | (intros; (repeat' apply And.intro) <;> first | assumption | omega) | (simp +contextual; done) | (intros; simp_all; done)))
                  rcases hb_190 : (decide (xv_204.Epoch < 0)) with _ | _
                  ·
                    replace h := if_f h hb_190
                    obtain ⟨xv_205, exv_205, h⟩ := bindO_some h
                    obtain ⟨fxv_205a, fxv_205b, fxv_205c⟩ := idx_spec exv_205
                    try simp only [Int.toNat_natCast, Int.reduceToNat] at fxv_205c
                    try simp only [go_sem, Int.reduceToNat, Int.reduceLT, Int.reduceLE, Int.reduceBEq, Int.reduceEq, Int.reduceNeg, Int.reduceNegSucc, Int.reduceSub, Int.reduceAdd, Int.reduceMul, Int.natCast_zero, Int.natCast_one, UInt8.reduceToNat, Nat.reduceEqDiff, Nat.reduceAdd, Nat.reduceMul, Nat.reduceSub, Nat.reduceLeDiff, Nat.reduceBEq, ↓reduceIte, reduceCtorEq, Try.ntmps7, Try.results7, hb_190, fxv_205a, fxv_205b, fxv_205c]
                    repeat ((with_reducible refine And.intro ?_ ?_); · (first | omega | assumption | (simp +contextual only [and_self, implies_true, true_and, and_true, imp_self]; done) | (intros; (repeat' apply And.intro) <;> first | assumption | omega) | (simp +contextual; done) | (intros; simp_all; done)))
                    rcases hb_191 : (decide (xv_205.Epoch < (IntKind.i64.wrap (xv_204.Epoch * step_0)))) with _ | _
                    ·
                      replace h := if_f h hb_191
                      obtain ⟨xv_206, exv_206, h⟩ := bindO_some h
                      obtain ⟨fxv_206a, fxv_206b, fxv_206c⟩ := idx_spec exv_206
                      try simp only [Int.toNat_natCast, Int.reduceToNat] at fxv_206c
                      try simp only [go_sem, Int.reduceToNat, Int.reduceLT, Int.reduceLE, Int.reduceBEq, Int.reduceEq, Int.reduceNeg, Int.reduceNegSucc, Int.reduceSub, Int.reduceAdd, Int.reduceMul, Int.natCast_zero, Int.natCast_one, UInt8.reduceToNat, Nat.reduceEqDiff, Nat.reduceAdd, Nat.reduceMul, Nat.reduceSub, Nat.reduceLeDiff, Nat.reduceBEq, ↓reduceIte, reduceCtorEq, Try.ntmps7, Try.results7, hb_191, fxv_206a, fxv_206b, fxv_206c]
                      repeat ((with_reducible refine And.intro ?_ ?_); · (first | omega | assumption | (simp +contextual only [and_self, implies_true, true_and, and_true, imp_self]; done) | (intros; (repeat' apply And.intro) <;> first | assumption | omega) | (simp +contextual; done) | (intros; simp_all; done)))
                      rcases hb_192 : (decide ((IntKind.i64.wrap ((IntKind.i64.wrap (xv_204.Epoch * step_0)) + size_0)) ≤ xv_206.Epoch)) with _ | _
                      ·
                        replace h := if_f h hb_192
                        try simp only [go_sem, Int.reduceToNat, Int.reduceLT, Int.reduceLE, Int.reduceBEq, Int.reduceEq, Int.reduceNeg, Int.reduceNegSucc, Int.reduceSub, Int.reduceAdd, Int.reduceMul, Int.natCast_zero, Int.natCast_one, UInt8.reduceToNat, Nat.reduceEqDiff, Nat.reduceAdd, Nat.reduceMul, Nat.reduceSub, Nat.reduceLeDiff, Nat.reduceBEq, ↓reduceIte, reduceCtorEq, Try.ntmps7, Try.results7, hb_192]
                        repeat ((with_reducible refine And.intro ?_ ?_); · (first | omega | assumption | (simp +contextual only [and_self, implies_true, true_and, and_true, imp_self]; done) | (intros; (repeat' apply And.intro) <;> first | assumption | omega) | (simp +contextual; done) | (intros; simp_all; done)))
                        rcases hb_193 : (decide (0 < k_11)) with _ | _
                        ·
                          replace h := if_f h hb_193
                          obtain ⟨xv_207, exv_207, h⟩ := bindO_some h
                          obtain ⟨fxv_207a, fxv_207b, fxv_207c⟩ := idx_spec exv_207
                          try simp only [Int.toNat_natCast, Int.reduceToNat] at fxv_207c
                          obtain ⟨xv_208, exv_208, h⟩ := bindO_some h
                          obtain ⟨fxv_208a, fxv_208b, fxv_208c⟩ := idx_spec exv_208
                          try simp only [Int.toNat_natCast, Int.reduceToNat] at fxv_208c
                          try simp only [go_sem, Int.reduceToNat, Int.reduceLT, Int.reduceLE, Int.reduceBEq, Int.reduceEq, Int.reduceNeg, Int.reduceNegSucc, Int.reduceSub, Int.reduceAdd, Int.reduceMul, Int.natCast_zero, Int.natCast_one, UInt8.reduceToNat, Nat.reduceEqDiff, Nat.reduceAdd, Nat.reduceMul, Nat.reduceSub, Nat.reduceLeDiff, Nat.reduceBEq, ↓reduceIte, reduceCtorEq, Try.ntmps7, Try.results7, hb_193, fxv_207a, fxv_207b, fxv_207c, fxv_208a, fxv_208b, fxv_208c]
                          repeat ((with_reducible refine And.intro ?_ ?_); · (first | omega | assumption | (simp +contextual only [and_self, implies_true, true_and, and_true, imp_self]; done) | (intros; (repeat' apply And.intro) <;> first | assumption | omega) | (simp +contextual; done) | (intros; simp_all; done)))
                          rcases hb_194 : (xv_207.Node == xv_208.Node) with _ | _
                          ·
                            replace h := if_f h hb_194
                            try simp only [go_sem, Int.reduceToNat, Int.reduceLT, Int.reduceLE, Int.reduceBEq, Int.reduceEq, Int.reduceNeg, Int.reduceNegSucc, Int.reduceSub, Int.reduceAdd, Int.reduceMul, Int.natCast_zero, Int.natCast_one, UInt8.reduceToNat, Nat.reduceEqDiff, Nat.reduceAdd, Nat.reduceMul, Nat.reduceSub, Nat.reduceLeDiff, Nat.reduceBEq, ↓reduceIte, reduceCtorEq, Try.ntmps7, Try.results7, hb_194]
                            repeat ((with_reducible refine And.intro ?_ ?_); · (first | omega | assumption | (simp +contextual only [and_self, implies_true, true_and, and_true, imp_self]; done) | (intros; (repeat' apply And.intro) <;> first | assumption | omega) | (simp +contextual; done) | (intros; simp_all; done)))
                            refine seqQ_normal hQ31 ?_
                            refine vc_cond_t (by first | (simp only [go_sem, Int.reduceToNat, Int.reduceLT, Int.reduceLE, Int.reduceBEq, Int.reduceEq, Int.reduceNeg, Int.reduceNegSucc, Int.reduceSub, Int.reduceAdd, Int.reduceMul, Int.natCast_zero, Int.natCast_one, UInt8.reduceToNat, Nat.reduceEqDiff, Nat.reduceAdd, Nat.reduceMul, Nat.reduceSub, Nat.reduceLeDiff, Nat.reduceBEq, ↓reduceIte, reduceCtorEq]; done) | (simp [go_sem]; done) | (simp only [go_sem, Int.reduceToNat, Int.reduceLT, Int.reduceLE, Int.reduceBEq, Int.reduceEq, Int.reduceNeg, Int.reduceNegSucc, Int.reduceSub, Int.reduceAdd, Int.reduceMul, Int.natCast_zero, Int.natCast_one, UInt8.reduceToNat, Nat.reduceEqDiff, Nat.reduceAdd, Nat.reduceMul, Nat.reduceSub, Nat.reduceLeDiff, Nat.reduceBEq, ↓reduceIte, reduceCtorEq]; congr 2; (first | grind | (simp_all; done))) | (simp [go_sem]; (first | grind | (simp_all; done)))) ?_
                            refine vc_seq_gen (by kernel_rfl) ?_
                            intro QQ32 hQ32
                            try simp only [go_sem, Int.reduceToNat, Int.reduceLT, Int.reduceLE, Int.reduceBEq, Int.reduceEq, Int.reduceNeg, Int.reduceNegSucc, Int.reduceSub, Int.reduceAdd, Int.reduceMul, Int.natCast_zero, Int.natCast_one, UInt8.reduceToNat, Nat.reduceEqDiff, Nat.reduceAdd, Nat.reduceMul, Nat.reduceSub, Nat.reduceLeDiff, Nat.reduceBEq, ↓reduceIte, reduceCtorEq, Try.ntmps7, Try.results7]
                            repeat ((with_reducible refine And.intro ?_ ?_); · (first | omega | assumption | (simp +contextual only [and_self, implies_true, true_and, and_true, imp_self]; done) | (intros; (repeat' apply And.intro) <;> first | assumption | omega) | (simp +contextual; done) | (intros; simp_all; done)))
                            refine seqQ_normal hQ32 ?_
                            refine vc_ret_of ?_
                            refine blockQ_ret hQ29 ?_
                            refine seqQ_ret hQ28 ?_
                            refine thenQ_ret hQ25 ?_
                            refine blockQ_ret hQ24 ?_
                            refine blockQ_ret hQ15 ?_
                            refine seqQ_ret hQ14 ?_
                            refine thenQ_ret hQ11 ?_
                            refine blockQ_ret hQ10 ?_
                            refine thenQ_ret hQ8 ?_
                            try simp only [go_sem, Int.reduceToNat, Int.reduceLT, Int.reduceLE, Int.reduceBEq, Int.reduceEq, Int.reduceNeg, Int.reduceNegSucc, Int.reduceSub, Int.reduceAdd, Int.reduceMul, Int.natCast_zero, Int.natCast_one, UInt8.reduceToNat, Nat.reduceEqDiff, Nat.reduceAdd, Nat.reduceMul, Nat.reduceSub, Nat.reduceLeDiff, Nat.reduceBEq, ↓reduceIte, reduceCtorEq, Try.ntmps7, Try.results7]
                            repeat ((with_reducible refine And.intro ?_ ?_); · (first | omega | assumption | (simp +contextual only [and_self, implies_true, true_and, and_true, imp_self]; done) | (intros; (repeat' apply And.intro) <;> first | assumption | omega) | (simp +contextual; done) | (intros; simp_all; done)))
                            obtain rfl := Option.some.inj h
                            refine retW_pure rfl ?_
                            simp only [go_sem, Le, Int.reduceToNat, Int.reduceLT, Int.reduceLE, Int.reduceBEq, Int.reduceEq, Int.reduceNeg, Int.reduceNegSucc, Int.reduceSub, Int.reduceAdd, Int.reduceMul, Int.natCast_zero, Int.natCast_one, UInt8.reduceToNat, Nat.reduceEqDiff, Nat.reduceAdd, Nat.reduceMul, Nat.reduceSub, Nat.reduceLeDiff, Nat.reduceBEq, ↓reduceIte, reduceCtorEq] <;> (repeat' apply And.intro) <;> first | rfl | assumption | omega | (simp only [go_sem, Int.reduceToNat, Int.reduceLT, Int.reduceLE, Int.reduceBEq, Int.reduceEq, Int.reduceNeg, Int.reduceNegSucc, Int.reduceSub, Int.reduceAdd, Int.reduceMul, Int.natCast_zero, Int.natCast_one, UInt8.reduceToNat, Nat.reduceEqDiff, Nat.reduceAdd, Nat.reduceMul, Nat.reduceSub, Nat.reduceLeDiff, Nat.reduceBEq, ↓reduceIte, reduceCtorEq]; done) | (simp [go_sem]; done) | (simp [enc_len, enc]; done) | (simp [enc_len, enc]; omega) | (simp [enc, row_int, row_bool, row_u8, row_list, sz_int, sz_bool, sz_u8, sz_list]; done) | (simp [enc]; rw [List.take_of_length_le (by simp)])
                          ·
                            replace h := if_t h hb_194
                            obtain ⟨xv_209, exv_209, h⟩ := bindO_some h
                            obtain ⟨fxv_209a, fxv_209b, fxv_209c⟩ := idx_spec exv_209
                            try simp only [Int.toNat_natCast, Int.reduceToNat] at fxv_209c
                            obtain ⟨xv_210, exv_210, h⟩ := bindO_some h
                            obtain ⟨fxv_210a, fxv_210b, fxv_210c⟩ := idx_spec exv_210
                            try simp only [Int.toNat_natCast, Int.reduceToNat] at fxv_210c
                            try simp only [go_sem, Int.reduceToNat, Int.reduceLT, Int.reduceLE, Int.reduceBEq, Int.reduceEq, Int.reduceNeg, Int.reduceNegSucc, Int.reduceSub, Int.reduceAdd, Int.reduceMul, Int.natCast_zero, Int.natCast_one, UInt8.reduceToNat, Nat.reduceEqDiff, Nat.reduceAdd, Nat.reduceMul, Nat.reduceSub, Nat.reduceLeDiff, Nat.reduceBEq, ↓reduceIte, reduceCtorEq, Try.ntmps7, Try.results7, hb_194, fxv_209a, fxv_209b, fxv_209c, fxv_210a, fxv_210b, fxv_210c]
                            repeat ((with_reducible refine And.intro ?_ ?_); · (first | omega | assumption | (simp +contextual only [and_self, implies_true, true_and, and_true, imp_self]; done) | (intros; (repeat' apply And.intro) <;> first | assumption | omega) | (simp +contextual; done) | (intros; simp_all; done)))
                            refine seqQ_normal hQ31 ?_
                            refine vc_cond_of (b := (!((xv_209.Rec.K == xv_210.Rec.K) && (xv_209.Rec.V == xv_210.Rec.V)))) (by first | (simp only [go_sem, Int.reduceToNat, Int.reduceLT, Int.reduceLE, Int.reduceBEq, Int.reduceEq, Int.reduceNeg, Int.reduceNegSucc, Int.reduceSub, Int.reduceAdd, Int.reduceMul, Int.natCast_zero, Int.natCast_one, UInt8.reduceToNat, Nat.reduceEqDiff, Nat.reduceAdd, Nat.reduceMul, Nat.reduceSub, Nat.reduceLeDiff, Nat.reduceBEq, ↓reduceIte, reduceCtorEq]; done) | (simp [go_sem]; done) | (simp only [go_sem, Int.reduceToNat, Int.reduceLT, Int.reduceLE, Int.reduceBEq, Int.reduceEq, Int.reduceNeg, Int.reduceNegSucc, Int.reduceSub, Int.reduceAdd, Int.reduceMul, Int.natCast_zero, Int.natCast_one, UInt8.reduceToNat, Nat.reduceEqDiff, Nat.reduceAdd, Nat.reduceMul, Nat.reduceSub, Nat.reduceLeDiff, Nat.reduceBEq, ↓reduceIte, reduceCtorEq]; congr 2; (first | grind | (simp_all; done))) | (simp [go_sem]; (first | grind | (simp_all; done)))) (fun hb_195 => ?_) (fun hb_195 => ?_)
                            ·
                              replace h := if_t h hb_195
                              try simp only [decide_eq_true_eq, decide_eq_false_iff_not, Bool.not_eq_true', Bool.not_eq_false', beq_iff_eq, beq_eq_false_iff_ne, ne_eq, Bool.and_eq_true, Bool.or_eq_true, Int.not_lt, Int.not_le] at hb_195
                              refine vc_seq_gen (by kernel_rfl) ?_
                              intro QQ33 hQ33
                              try simp only [go_sem, Int.reduceToNat, Int.reduceLT, Int.reduceLE, Int.reduceBEq, Int.reduceEq, Int.reduceNeg, Int.reduceNegSucc, Int.reduceSub, Int.reduceAdd, Int.reduceMul, Int.natCast_zero, Int.natCast_one, UInt8.reduceToNat, Nat.reduceEqDiff, Nat.reduceAdd, Nat.reduceMul, Nat.reduceSub, Nat.reduceLeDiff, Nat.reduceBEq, ↓reduceIte, reduceCtorEq, Try.ntmps7, Try.results7]
                              repeat ((with_reducible refine And.intro ?_ ?_); · (first | omega | assumption | (simp +contextual only [and_self, implies_true, true_and, and_true, imp_self]; done) | (intros; (repeat' apply And.intro) <;> first | assumption | omega) | (simp +contextual; done) | (intros; simp_all; done)))
                              refine seqQ_normal hQ33 ?_
                              refine vc_ret_of ?_
                              refine blockQ_ret hQ29 ?_
                              refine seqQ_ret hQ28 ?_
                              refine thenQ_ret hQ25 ?_
                              refine blockQ_ret hQ24 ?_
                              refine blockQ_ret hQ15 ?_
                              refine seqQ_ret hQ14 ?_
                              refine thenQ_ret hQ11 ?_
                              refine blockQ_ret hQ10 ?_
                              refine thenQ_ret hQ8 ?_
                              try simp only [go_sem, Int.reduceToNat, Int.reduceLT, Int.reduceLE, Int.reduceBEq, Int.reduceEq, Int.reduceNeg, Int.reduceNegSucc, Int.reduceSub, Int.reduceAdd, Int.reduceMul, Int.natCast_zero, Int.natCast_one, UInt8.reduceToNat, Nat.reduceEqDiff, Nat.reduceAdd, Nat.reduceMul, Nat.reduceSub, Nat.reduceLeDiff, Nat.reduceBEq, ↓reduceIte, reduceCtorEq, Try.ntmps7, Try.results7]
                              repeat ((with_reducible refine And.intro ?_ ?_); · (first | omega | assumption | (simp +contextual only [and_self, implies_true, true_and, and_true, imp_self]; done) | (intros; (repeat' apply And.intro) <;> first | assumption | omega) | (simp +contextual; done) | (intros; simp_all; done)))
                              obtain rfl := Option.some.inj h
                              refine retW_pure rfl ?_
                              simp only [go_sem, Le, Int.reduceToNat, Int.reduceLT, Int.reduceLE, Int.reduceBEq, Int.reduceEq, Int.reduceNeg, Int.reduceNegSucc, Int.reduceSub, Int.reduceAdd, Int.reduceMul, Int.natCast_zero, Int.natCast_one, UInt8.reduceToNat, Nat.reduceEqDiff, Nat.reduceAdd, Nat.reduceMul, Nat.reduceSub, Nat.reduceLeDiff, Nat.reduceBEq, ↓reduceIte, reduceCtorEq] <;> (repeat' apply And.intro) <;> first | rfl | assumption | omega | (simp only [go_sem, Int.reduceToNat, Int.reduceLT, Int.reduceLE, Int.reduceBEq, Int.reduceEq, Int.reduceNeg, Int.reduceNegSucc, Int.reduceSub, Int.reduceAdd, Int.reduceMul, Int.natCast_zero, Int.natCast_one, UInt8.reduceToNat, Nat.reduceEqDiff, Nat.reduceAdd, Nat.reduceMul, Nat.reduceSub, Nat.reduceLeDiff, Nat.reduceBEq, ↓reduceIte, reduceCtorEq]; done) | (simp [go_sem]; done) | (simp [enc_len, enc]; done) | (simp [enc_len, enc]; omega) | (simp [enc, row_int, row_bool, row_u8, row_list, sz_int, sz_bool, sz_u8, sz_list]; done) | (simp [enc]; rw [List.take_of_length_le (by simp)])
                            ·
                              replace h := if_f h hb_195
                              try simp only [decide_eq_true_eq, decide_eq_false_iff_not, Bool.not_eq_true', Bool.not_eq_false', beq_iff_eq, beq_eq_false_iff_ne, ne_eq, Bool.and_eq_true, Bool.or_eq_true, Int.not_lt, Int.not_le] at hb_195
                              refine vc_skip_of ?_
                              refine blockQ_normal hQ29 ?_
                              refine seqQ_normal hQ28 ?_
                              try simp only [go_sem, Int.reduceToNat, Int.reduceLT, Int.reduceLE, Int.reduceBEq, Int.reduceEq, Int.reduceNeg, Int.reduceNegSucc, Int.reduceSub, Int.reduceAdd, Int.reduceMul, Int.natCast_zero, Int.natCast_one, UInt8.reduceToNat, Nat.reduceEqDiff, Nat.reduceAdd, Nat.reduceMul, Nat.reduceSub, Nat.reduceLeDiff, Nat.reduceBEq, ↓reduceIte, reduceCtorEq, Try.ntmps7, Try.results7]
                              repeat ((with_reducible refine And.intro ?_ ?_); · (first | omega | assumption | (simp +contextual only [and_self, implies_true, true_and, and_true, imp_self]; done) | (intros; (repeat' apply And.intro) <;> first | assumption | omega) | (simp +contextual; done) | (intros; simp_all; done)))
                              refine thenQ_normal hQ25 ?_
                              refine ⟨(m_3, IntKind.i64.wrap (k_11 + 1)), [], ?_, h, Nat.lt_succ_self _⟩
                              simp only [go_sem, Le, Int.reduceToNat, Int.reduceLT, Int.reduceLE, Int.reduceBEq, Int.reduceEq, Int.reduceNeg, Int.reduceNegSucc, Int.reduceSub, Int.reduceAdd, Int.reduceMul, Int.natCast_zero, Int.natCast_one, UInt8.reduceToNat, Nat.reduceEqDiff, Nat.reduceAdd, Nat.reduceMul, Nat.reduceSub, Nat.reduceLeDiff, Nat.reduceBEq, ↓reduceIte, reduceCtorEq] <;> (repeat' apply And.intro) <;> first | rfl | assumption | omega | (simp only [go_sem, Int.reduceToNat, Int.reduceLT, Int.reduceLE, Int.reduceBEq, Int.reduceEq, Int.reduceNeg, Int.reduceNegSucc, Int.reduceSub, Int.reduceAdd, Int.reduceMul, Int.natCast_zero, Int.natCast_one, UInt8.reduceToNat, Nat.reduceEqDiff, Nat.reduceAdd, Nat.reduceMul, Nat.reduceSub, Nat.reduceLeDiff, Nat.reduceBEq, ↓reduceIte, reduceCtorEq]; done) | (simp [go_sem]; done) | (simp [enc_len, enc]; done) | (simp [enc_len, enc]; omega) | (simp [enc, row_int, row_bool, row_u8, row_list, sz_int, sz_bool, sz_u8, sz_list]; done) | (simp [enc]; rw [List.take_of_length_le (by simp)])
                        ·
                          replace h := if_t h hb_193
                          obtain ⟨xv_211, exv_211, h⟩ := bindO_some h
                          obtain ⟨fxv_211a, fxv_211b, fxv_211c⟩ := idx_spec exv_211
                          try simp only [Int.toNat_natCast, Int.reduceToNat] at fxv_211c
                          try simp only [go_sem, Int.reduceToNat, Int.reduceLT, Int.reduceLE, Int.reduceBEq, Int.reduceEq, Int.reduceNeg, Int.reduceNegSucc, Int.reduceSub, Int.reduceAdd, Int.reduceMul, Int.natCast_zero, Int.natCast_one, UInt8.reduceToNat, Nat.reduceEqDiff, Nat.reduceAdd, Nat.reduceMul, Nat.reduceSub, Nat.reduceLeDiff, Nat.reduceBEq, ↓reduceIte, reduceCtorEq, Try.ntmps7, Try.results7, hb_193, fxv_211a, fxv_211b, fxv_211c]
                          repeat ((with_reducible refine And.intro ?_ ?_); · (first | omega | assumption | (simp +contextual only [and_self, implies_true, true_and, and_true, imp_self]; done) | (intros; (repeat' apply And.intro) <;> first | assumption | omega) | (simp +contextual; done) | (intros; simp_all; done)))
                          rcases hb_196 : (decide (xv_204.Epoch ≤ xv_211.Epoch)) with _ | _
                          ·
                            replace h := if_f h hb_196
                            obtain ⟨xv_212, exv_212, h⟩ := bindO_some h
                            obtain ⟨fxv_212a, fxv_212b, fxv_212c⟩ := idx_spec exv_212
                            try simp only [Int.toNat_natCast, Int.reduceToNat] at fxv_212c
                            obtain ⟨xv_213, exv_213, h⟩ := bindO_some h
                            obtain ⟨fxv_213a, fxv_213b, fxv_213c⟩ := idx_spec exv_213
                            try simp only [Int.toNat_natCast, Int.reduceToNat] at fxv_213c
                            try simp only [go_sem, Int.reduceToNat, Int.reduceLT, Int.reduceLE, Int.reduceBEq, Int.reduceEq, Int.reduceNeg, Int.reduceNegSucc, Int.reduceSub, Int.reduceAdd, Int.reduceMul, Int.natCast_zero, Int.natCast_one, UInt8.reduceToNat, Nat.reduceEqDiff, Nat.reduceAdd, Nat.reduceMul, Nat.reduceSub, Nat.reduceLeDiff, Nat.reduceBEq, ↓reduceIte, reduceCtorEq, Try.ntmps7, Try.results7, hb_196, fxv_212a, fxv_212b, fxv_212c, fxv_213a, fxv_213b, fxv_213c]
                            repeat ((with_reducible refine And.intro ?_ ?_); · (first | omega | assumption | (simp +contextual only [and_self, implies_true, true_and, and_true, imp_self]; done) | (intros; (repeat' apply And.intro) <;> first | assumption | omega) | (simp +contextual; done) | (intros; simp_all; done)))
                            rcases hb_197 : (xv_212.Node == xv_213.Node) with _ | _
                            ·
                              replace h := if_f h hb_197
                              try simp only [go_sem, Int.reduceToNat, Int.reduceLT, Int.reduceLE, Int.reduceBEq, Int.reduceEq, Int.reduceNeg, Int.reduceNegSucc, Int.reduceSub, Int.reduceAdd, Int.reduceMul, Int.natCast_zero, Int.natCast_one, UInt8.reduceToNat, Nat.reduceEqDiff, Nat.reduceAdd, Nat.reduceMul, Nat.reduceSub, Nat.reduceLeDiff, Nat.reduceBEq, ↓reduceIte, reduceCtorEq, Try.ntmps7, Try.results7, hb_197]
                              repeat ((with_reducible refine And.intro ?_ ?_); · (first | omega | assumption | (simp +contextual only [and_self, implies_true, true_and, and_true, imp_self]; done) | (intros; (repeat' apply And.intro) <;> first | assumption | omega) | (simp +contextual; done) | (intros; simp_all; done)))
                              refine seqQ_normal hQ31 ?_
                              refine vc_cond_t (by first | (simp only [go_sem, Int.reduceToNat, Int.reduceLT, Int.reduceLE, Int.reduceBEq, Int.reduceEq, Int.reduceNeg, Int.reduceNegSucc, Int.reduceSub, Int.reduceAdd, Int.reduceMul, Int.natCast_zero, Int.natCast_one, UInt8.reduceToNat, Nat.reduceEqDiff, Nat.reduceAdd, Nat.reduceMul, Nat.reduceSub, Nat.reduceLeDiff, Nat.reduceBEq, ↓reduceIte, reduceCtorEq]; done) | (simp [go_sem]; done) | (simp only [go_sem, Int.reduceToNat, Int.reduceLT, Int.reduceLE, Int.reduceBEq, Int.reduceEq, Int.reduceNeg, Int.reduceNegSucc, Int.reduceSub, Int.reduceAdd, Int.reduceMul, Int.natCast_zero, Int.natCast_one, UInt8.reduceToNat, Nat.reduceEqDiff, Nat.reduceAdd, Nat.reduceMul, Nat.reduceSub, Nat.reduceLeDiff, Nat.reduceBEq, ↓reduceIte, reduceCtorEq]; congr 2; (first | grind | (simp_all; done))) | (simp [go_sem]; (first | grind | (simp_all; done)))) ?_
                              refine vc_seq_gen (by kernel_rfl) ?_
                              intro QQ34 hQ34
                              try simp only [go_sem, Int.reduceToNat, Int.reduceLT, Int.reduceLE, Int.reduceBEq, Int.reduceEq, Int.reduceNeg, Int.reduceNegSucc, Int.reduceSub, Int.reduceAdd, Int.reduceMul, Int.natCast_zero, Int.natCast_one, UInt8.reduceToNat, Nat.reduceEqDiff, Nat.reduceAdd, Nat.reduceMul, Nat.reduceSub, Nat.reduceLeDiff, Nat.reduceBEq, ↓reduceIte, reduceCtorEq, Try.ntmps7, Try.results7]
                              repeat ((with_reducible refine And.intro ?_ ?_); · (first | omega | assumption | (simp +contextual only [and_self, implies_true, true_and, and_true, imp_self]; done) | (intros; (repeat' apply And.intro) <;> first | assumption | omega) | (simp +contextual; done) | (intros; simp_all; done)))
                              refine seqQ_normal hQ34 ?_
                              refine vc_ret_of ?_
                              refine blockQ_ret hQ29 ?_
                              refine seqQ_ret hQ28 ?_
                              refine thenQ_ret hQ25 ?_
                              refine blockQ_ret hQ24 ?_
                              refine blockQ_ret hQ15 ?_
                              refine seqQ_ret hQ14 ?_
                              refine thenQ_ret hQ11 ?_
                              refine blockQ_ret hQ10 ?_
                              refine thenQ_ret hQ8 ?_
                              try simp only [go_sem, Int.reduceToNat, Int.reduceLT, Int.reduceLE, Int.reduceBEq, Int.reduceEq, Int.reduceNeg, Int.reduceNegSucc, Int.reduceSub, Int.reduceAdd, Int.reduceMul, Int.natCast_zero, Int.natCast_one, UInt8.reduceToNat, Nat.reduceEqDiff, Nat.reduceAdd, Nat.reduceMul, Nat.reduceSub, Nat.reduceLeDiff, Nat.reduceBEq, ↓reduceIte, reduceCtorEq, Try.ntmps7, Try.results7]
                              repeat ((with_reducible refine And.intro ?_ ?_); · (first | omega | assumption | (simp +contextual only [and_self, implies_true, true_and, and_true, imp_self]; done) | (intros; (repeat' apply And.intro) <;> first | assumption | omega) | (simp +contextual; done) | (intros; simp_all; done)))
                              obtain rfl := Option.some.inj h
                              refine retW_pure rfl ?_
                              simp only [go_sem, Le, Int.reduceToNat, Int.reduceLT, Int.reduceLE, Int.reduceBEq, Int.reduceEq, Int.reduceNeg, Int.reduceNegSucc, Int.reduceSub, Int.reduceAdd, Int.reduceMul, Int.natCast_zero, Int.natCast_one, UInt8.reduceToNat, Nat.reduceEqDiff, Nat.reduceAdd, Nat.reduceMul, Nat.reduceSub, Nat.reduceLeDiff, Nat.reduceBEq, ↓reduceIte, reduceCtorEq] <;> (repeat' apply And.intro) <;> first | rfl | assumption | omega | (simp only [go_sem, Int.reduceToNat, Int.reduceLT, Int.reduceLE, Int.reduceBEq, Int.reduceEq, Int.reduceNeg, Int.reduceNegSucc, Int.reduceSub, Int.reduceAdd, Int.reduceMul, Int.natCast_zero, Int.natCast_one, UInt8.reduceToNat, Nat.reduceEqDiff, Nat.reduceAdd, Nat.reduceMul, Nat.reduceSub, Nat.reduceLeDiff, Nat.reduceBEq, ↓reduceIte, reduceCtorEq]; done) | (simp [go_sem]; done) | (simp [enc_len, enc]; done) | (simp [enc_len, enc]; omega) | (simp [enc, row_int, row_bool, row_u8, row_list, sz_int, sz_bool, sz_u8, sz_list]; done) | (simp [enc]; rw [List.take_of_length_le (by simp)])
                            ·
                              replace h := if_t h hb_197
                              obtain ⟨xv_214, exv_214, h⟩ := bindO_some h
                              obtain ⟨fxv_214a, fxv_214b, fxv_214c⟩ := idx_spec exv_214
                              try simp only [Int.toNat_natCast, Int.reduceToNat] at fxv_214c
                              obtain ⟨xv_215, exv_215, h⟩ := bindO_some h
                              obtain ⟨fxv_215a, fxv_215b, fxv_215c⟩ := idx_spec exv_215
                              try simp only [Int.toNat_natCast, Int.reduceToNat] at fxv_215c
                              try simp only [go_sem, Int.reduceToNat, Int.reduceLT, Int.reduceLE, Int.reduceBEq, Int.reduceEq, Int.reduceNeg, Int.reduceNegSucc, Int.reduceSub, Int.reduceAdd, Int.reduceMul, Int.natCast_zero, Int.natCast_one, UInt8.reduceToNat, Nat.reduceEqDiff, Nat.reduceAdd, Nat.reduceMul, Nat.reduceSub, Nat.reduceLeDiff, Nat.reduceBEq, ↓reduceIte, reduceCtorEq, Try.ntmps7, Try.results7, hb_197, fxv_214a, fxv_214b, fxv_214c, fxv_215a, fxv_215b, fxv_215c]
                              repeat ((with_reducible refine And.intro ?_ ?_); · (first | omega | assumption | (simp +contextual only [and_self, implies_true, true_and, and_true, imp_self]; done) | (intros; (repeat' apply And.intro) <;> first | assumption | omega) | (simp +contextual; done) | (intros; simp_all; done)))
                              refine seqQ_normal hQ31 ?_
                              refine vc_cond_of (b := (!((xv_214.Rec.K == xv_215.Rec.K) && (xv_214.Rec.V == xv_215.Rec.V)))) (by first | (simp only [go_sem, Int.reduceToNat, Int.reduceLT, Int.reduceLE, Int.reduceBEq, Int.reduceEq, Int.reduceNeg, Int.reduceNegSucc, Int.reduceSub, Int.reduceAdd, Int.reduceMul, Int.natCast_zero, Int.natCast_one, UInt8.reduceToNat, Nat.reduceEqDiff, Nat.reduceAdd, Nat.reduceMul, Nat.reduceSub, Nat.reduceLeDiff, Nat.reduceBEq, ↓reduceIte, reduceCtorEq]; done) | (simp [go_sem]; done) | (simp only [go_sem, Int.reduceToNat, Int.reduceLT, Int.reduceLE, Int.reduceBEq, Int.reduceEq, Int.reduceNeg, Int.reduceNegSucc, Int.reduceSub, Int.reduceAdd, Int.reduceMul, Int.natCast_zero, Int.natCast_one, UInt8.reduceToNat, Nat.reduceEqDiff, Nat.reduceAdd, Nat.reduceMul, Nat.reduceSub, Nat.reduceLeDiff, Nat.reduceBEq, ↓reduceIte, reduceCtorEq]; congr 2; (first | grind | (simp_all; done))) | (simp [go_sem]; (first | grind | (simp_all; done)))) (fun hb_198 => ?_) (fun hb_198 => ?_)
                              ·
                                replace h := if_t h hb_198
                                try simp only [decide_eq_true_eq, decide_eq_false_iff_not, Bool.not_eq_true', Bool.not_eq_false', beq_iff_eq, beq_eq_false_iff_ne, ne_eq, Bool.and_eq_true, Bool.or_eq_true, Int.not_lt, Int.not_le] at hb_198
                                refine vc_seq_gen (by kernel_rfl) ?_
                                intro QQ35 hQ35
                                try simp only [go_sem, Int.reduceToNat, Int.reduceLT, Int.reduceLE, Int.reduceBEq, Int.reduceEq, Int.reduceNeg, Int.reduceNegSucc, Int.reduceSub, Int.reduceAdd, Int.reduceMul, Int.natCast_zero, Int.natCast_one, UInt8.reduceToNat, Nat.reduceEqDiff, Nat.reduceAdd, Nat.reduceMul, Nat.reduceSub, Nat.reduceLeDiff, Nat.reduceBEq, ↓reduceIte, reduceCtorEq, Try.ntmps7, Try.results7]
                                repeat ((with_reducible refine And.intro ?_ ?_); · (first | omega | assumption | (simp +contextual only [and_self, implies_true, true_and, and_true, imp_self]; done) | (intros; (repeat' apply And.intro) <;> first | assumption | omega) | (simp +contextual; done) | (intros; simp_all; done)))
                                refine seqQ_normal hQ35 ?_
                                refine vc_ret_of ?_
                                refine blockQ_ret hQ29 ?_
                                refine seqQ_ret hQ28 ?_
                                refine thenQ_ret hQ25 ?_
                                refine blockQ_ret hQ24 ?_
                                refine blockQ_ret hQ15 ?_
                                refine seqQ_ret hQ14 ?_
                                refine thenQ_ret hQ11 ?_
                                refine blockQ_ret hQ10 ?_
                                refine thenQ_ret hQ8 ?_
                                try simp only [go_sem, Int.reduceToNat, Int.reduceLT, Int.reduceLE, Int.reduceBEq, Int.reduceEq, Int.reduceNeg, Int.reduceNegSucc, Int.reduceSub, Int.reduceAdd, Int.reduceMul, Int.natCast_zero, Int.natCast_one, UInt8.reduceToNat, Nat.reduceEqDiff, Nat.reduceAdd, Nat.reduceMul, Nat.reduceSub, Nat.reduceLeDiff, Nat.reduceBEq, ↓reduceIte, reduceCtorEq, Try.ntmps7, Try.results7]
                                repeat ((with_reducible refine And.intro ?_ ?_); · (first | omega | assumption | (simp +contextual only [and_self, implies_true, true_and, and_true, imp_self]; done) | (intros; (repeat' apply And.intro) <;> first | assumption | omega) | (simp +contextual; done) | (intros; simp_all; done)))
                                obtain rfl := Option.some.inj h
                                refine retW_pure rfl ?_
                                simp only [go_sem, Le, Int.reduceToNat, Int.reduceLT, Int.reduceLE, Int.reduceBEq, Int.reduceEq, Int.reduceNeg, Int.reduceNegSucc, Int.reduceSub, Int.reduceAdd, Int.reduceMul, Int.natCast_zero, Int.natCast_one, UInt8.reduceToNat, Nat.reduceEqDiff, Nat.reduceAdd, Nat.reduceMul, Nat.reduceSub, Nat.reduceLeDiff, Nat.reduceBEq, ↓reduceIte, reduceCtorEq] <;> (repeat' apply And.intro) <;> first | rfl | assumption | omega | (simp only [go_sem, Int.reduceToNat, Int.reduceLT, Int.reduceLE, Int.reduceBEq, Int.reduceEq, Int.reduceNeg, Int.reduceNegSucc, Int.reduceSub, Int.reduceAdd, Int.reduceMul, Int.natCast_zero, Int.natCast_one, UInt8.reduceToNat, Nat.reduceEqDiff, Nat.reduceAdd, Nat.reduceMul, Nat.reduceSub, Nat.reduceLeDiff, Nat.reduceBEq, ↓reduceIte, reduceCtorEq]; done) | (simp [go_sem]; done) | (simp [enc_len, enc]; done) | (simp [enc_len, enc]; omega) | (simp [enc, row_int, row_bool, row_u8, row_list, sz_int, sz_bool, sz_u8, sz_list]; done) | (simp [enc]; rw [List.take_of_length_le (by simp)])
                              ·
                                replace h := if_f h hb_198
                                try simp only [decide_eq_true_eq, decide_eq_false_iff_not, Bool.not_eq_true', Bool.not_eq_false', beq_iff_eq, beq_eq_false_iff_ne, ne_eq, Bool.and_eq_true, Bool.or_eq_true, Int.not_lt, Int.not_le] at hb_198
                                refine vc_skip_of ?_
                                refine blockQ_normal hQ29 ?_
                                refine seqQ_normal hQ28 ?_
                                try simp only [go_sem, Int.reduceToNat, Int.reduceLT, Int.reduceLE, Int.reduceBEq, Int.reduceEq, Int.reduceNeg, Int.reduceNegSucc, Int.reduceSub, Int.reduceAdd, Int.reduceMul, Int.natCast_zero, Int.natCast_one, UInt8.reduceToNat, Nat.reduceEqDiff, Nat.reduceAdd, Nat.reduceMul, Nat.reduceSub, Nat.reduceLeDiff, Nat.reduceBEq, ↓reduceIte, reduceCtorEq, Try.ntmps7, Try.results7]
                                repeat ((with_reducible refine And.intro ?_ ?_); · (first | omega | assumption | (simp +contextual only [and_self, implies_true, true_and, and_true, imp_self]; done) | (intros; (repeat' apply And.intro) <;> first | assumption | omega) | (simp +contextual; done) | (intros; simp_all; done)))
                                refine thenQ_normal hQ25 ?_
                                refine ⟨(m_3, IntKind.i64.wrap (k_11 + 1)), [], ?_, h, Nat.lt_succ_self _⟩
                                simp only [go_sem, Le, Int.reduceToNat, Int.reduceLT, Int.reduceLE, Int.reduceBEq, Int.reduceEq, Int.reduceNeg, Int.reduceNegSucc, Int.reduceSub, Int.reduceAdd, Int.reduceMul, Int.natCast_zero, Int.natCast_one, UInt8.reduceToNat, Nat.reduceEqDiff, Nat.reduceAdd, Nat.reduceMul, Nat.reduceSub, Nat.reduceLeDiff, Nat.reduceBEq, ↓reduceIte, reduceCtorEq] <;> (repeat' apply And.intro) <;> first | rfl | assumption | omega | (simp only [go_sem, Int.reduceToNat, Int.reduceLT, Int.reduceLE, Int.reduceBEq, Int.reduceEq, Int.reduceNeg, Int.reduceNegSucc, Int.reduceSub, Int.reduceAdd, Int.reduceMul, Int.natCast_zero, Int.natCast_one, UInt8.reduceToNat, Nat.reduceEqDiff, Nat.reduceAdd, Nat.reduceMul, Nat.reduceSub, Nat.reduceLeDiff, Nat.reduceBEq, ↓reduceIte, reduceCtorEq]; done) | (simp [go_sem]; done) | (simp [enc_len, enc]; done) | (simp [enc_len, enc]; omega) | (simp [enc, row_int, row_bool, row_u8, row_list, sz_int, sz_bool, sz_u8, sz_list]; done) | (simp [enc]; rw [List.take_of_length_le (by simp)])
                          ·
                            replace h := if_t h hb_196
                            try simp only [go_sem, Int.reduceToNat, Int.reduceLT, Int.reduceLE, Int.reduceBEq, Int.reduceEq, Int.reduceNeg, Int.reduceNegSucc, Int.reduceSub, Int.reduceAdd, Int.reduceMul, Int.natCast_zero, Int.natCast_one, UInt8.reduceToNat, Nat.reduceEqDiff, Nat.reduceAdd, Nat.reduceMul, Nat.reduceSub, Nat.reduceLeDiff, Nat.reduceBEq, ↓reduceIte, reduceCtorEq, Try.ntmps7, Try.results7, hb_196]
                            repeat ((with_reducible refine And.intro ?_ ?_); · (first | omega | assumption | (simp +contextual only [and_self, implies_true, true_and, and_true, imp_self]; done) | (intros; (repeat' apply And.intro) <;> first | assumption | omega) | (simp +contextual; done) | (intros; simp_all; done)))
                            refine seqQ_normal hQ31 ?_
                            refine vc_cond_t (by first | (simp only [go_sem, Int.reduceToNat, Int.reduceLT, Int.reduceLE, Int.reduceBEq, Int.reduceEq, Int.reduceNeg, Int.reduceNegSucc, Int.reduceSub, Int.reduceAdd, Int.reduceMul, Int.natCast_zero, Int.natCast_one, UInt8.reduceToNat, Nat.reduceEqDiff, Nat.reduceAdd, Nat.reduceMul, Nat.reduceSub, Nat.reduceLeDiff, Nat.reduceBEq, ↓reduceIte, reduceCtorEq]; done) | (simp [go_sem]; done) | (simp only [go_sem, Int.reduceToNat, Int.reduceLT, Int.reduceLE, Int.reduceBEq, Int.reduceEq, Int.reduceNeg, Int.reduceNegSucc, Int.reduceSub, Int.reduceAdd, Int.reduceMul, Int.natCast_zero, Int.natCast_one, UInt8.reduceToNat, Nat.reduceEqDiff, Nat.reduceAdd, Nat.reduceMul, Nat.reduceSub, Nat.reduceLeDiff, Nat.reduceBEq, ↓reduceIte, reduceCtorEq]; congr 2; (first | grind | (simp_all; done))) | (simp [go_sem]; (first | grind | (simp_all; done)))) ?_
                            refine vc_seq_gen (by kernel_rfl) ?_
                            intro QQ36 hQ36
                            try simp only [go_sem, Int.reduceToNat, Int.reduceLT, Int.reduceLE, Int.reduceBEq, Int.reduceEq, Int.reduceNeg, Int.reduceNegSucc, Int.reduceSub, Int.reduceAdd, Int.reduceMul, Int.natCast_zero, Int.natCast_one, UInt8.reduceToNat, Nat.reduceEqDiff, Nat.reduceAdd, Nat.reduceMul, Nat.reduceSub, Nat.reduceLeDiff, Nat.reduceBEq, ↓reduceIte, reduceCtorEq, Try.ntmps7, Try.results7]
                            repeat ((with_reducible refine And.intro ?_ ?_); · (first | omega | assumption | (simp +contextual only [and_self, implies_true, true_and, and_true, imp_self]; done) | (intros; (repeat' apply And.intro) <;> first | assumption | omega) | (simp +contextual; done) | (intros; simp_all; done)))
                            refine seqQ_normal hQ36 ?_
                            refine vc_ret_of ?_
                            refine blockQ_ret hQ29 ?_
                            refine seqQ_ret hQ28 ?_
                            refine thenQ_ret hQ25 ?_
                            refine blockQ_ret hQ24 ?_
                            refine blockQ_ret hQ15 ?_
                            refine seqQ_ret hQ14 ?_
                            refine thenQ_ret hQ11 ?_
                            refine blockQ_ret hQ10 ?_
                            refine thenQ_ret hQ8 ?_
                            try simp only [go_sem, Int.reduceToNat, Int.reduceLT, Int.reduceLE, Int.reduceBEq, Int.reduceEq, Int.reduceNeg, Int.reduceNegSucc, Int.reduceSub, Int.reduceAdd, Int.reduceMul, Int.natCast_zero, Int.natCast_one, UInt8.reduceToNat, Nat.reduceEqDiff, Nat.reduceAdd, Nat.reduceMul, Nat.reduceSub, Nat.reduceLeDiff, Nat.reduceBEq, ↓reduceIte, reduceCtorEq, Try.ntmps7, Try.results7]
                            repeat ((with_reducible refine And.intro ?_ ?_); · (first | omega | assumption | (simp +contextual only [and_self, implies_true, true_and, and_true, imp_self]; done) | (intros; (repeat' apply And.intro) <;> first | assumption | omega) | (simp +contextual; done) | (intros; simp_all; done)))
                            obtain rfl := Option.some.inj h
                            refine retW_pure rfl ?_
                            simp only [go_sem, Le, Int.reduceToNat, Int.reduceLT, Int.reduceLE, Int.reduceBEq, Int.reduceEq, Int.reduceNeg, Int.reduceNegSucc, Int.reduceSub, Int.reduceAdd, Int.reduceMul, Int.natCast_zero, Int.natCast_one, UInt8.reduceToNat, Nat.reduceEqDiff, Nat.reduceAdd, Nat.reduceMul, Nat.reduceSub, Nat.reduceLeDiff, Nat.reduceBEq, ↓reduceIte, reduceCtorEq] <;> (repeat' apply And.intro) <;> first | rfl | assumption | omega | (simp only [go_sem, Int.reduceToNat, Int.reduceLT, Int.reduceLE, Int.reduceBEq, Int.reduceEq, Int.reduceNeg, Int.reduceNegSucc, Int.reduceSub, Int.reduceAdd, Int.reduceMul, Int.natCast_zero, Int.natCast_one, UInt8.reduceToNat, Nat.reduceEqDiff, Nat.reduceAdd, Nat.reduceMul, Nat.reduceSub, Nat.reduceLeDiff, Nat.reduceBEq, ↓reduceIte, reduceCtorEq]; done) | (simp [go_sem]; done) | (simp [enc_len, enc]; done) | (simp [enc_len, enc]; omega) | (simp [enc, row_int, row_bool, row_u8, row_list, sz_int, sz_bool, sz_u8, sz_list]; done) | (simp [enc]; rw [List.take_of_length_le (by simp)])
                      ·
                        replace h := if_t h hb_192
                        try simp only [go_sem, Int.reduceToNat, Int.reduceLT, Int.reduceLE, Int.reduceBEq, Int.reduceEq, Int.reduceNeg, Int.reduceNegSucc, Int.reduceSub, Int.reduceAdd, Int.reduceMul, Int.natCast_zero, Int.natCast_one, UInt8.reduceToNat, Nat.reduceEqDiff, Nat.reduceAdd, Nat.reduceMul, Nat.reduceSub, Nat.reduceLeDiff, Nat.reduceBEq, ↓reduceIte, reduceCtorEq, Try.ntmps7, Try.results7, hb_192]
                        repeat ((with_reducible refine And.intro ?_ ?_); · (first | omega | assumption | (simp +contextual only [and_self, implies_true, true_and, and_true, imp_self]; done) | (intros; (repeat' apply And.intro) <;> first | assumption | omega) | (simp +contextual; done) | (intros; simp_all; done)))
                        refine seqQ_normal hQ31 ?_
                        refine vc_cond_t (by first | (simp only [go_sem, Int.reduceToNat, Int.reduceLT, Int.reduceLE, Int.reduceBEq, Int.reduceEq, Int.reduceNeg, Int.reduceNegSucc, Int.reduceSub, Int.reduceAdd, Int.reduceMul, Int.natCast_zero, Int.natCast_one, UInt8.reduceToNat, Nat.reduceEqDiff, Nat.reduceAdd, Nat.reduceMul, Nat.reduceSub, Nat.reduceLeDiff, Nat.reduceBEq, ↓reduceIte, reduceCtorEq]; done) | (simp [go_sem]; done) | (simp only [go_sem, Int.reduceToNat, Int.reduceLT, Int.reduceLE, Int.reduceBEq, Int.reduceEq, Int.reduceNeg, Int.reduceNegSucc, Int.reduceSub, Int.reduceAdd, Int.reduceMul, Int.natCast_zero, Int.natCast_one, UInt8.reduceToNat, Nat.reduceEqDiff, Nat.reduceAdd, Nat.reduceMul, Nat.reduceSub, Nat.reduceLeDiff, Nat.reduceBEq, ↓reduceIte, reduceCtorEq]; congr 2; (first | grind | (simp_all; done))) | (simp [go_sem]; (first | grind | (simp_all; done)))) ?_
                        refine vc_seq_gen (by kernel_rfl) ?_
                        intro QQ37 hQ37
                        try simp only [go_sem, Int.reduceToNat, Int.reduceLT, Int.reduceLE, Int.reduceBEq, Int.reduceEq, Int.reduceNeg, Int.reduceNegSucc, Int.reduceSub, Int.reduceAdd, Int.reduceMul, Int.natCast_zero, Int.natCast_one, UInt8.reduceToNat, Nat.reduceEqDiff, Nat.reduceAdd, Nat.reduceMul, Nat.reduceSub, Nat.reduceLeDiff, Nat.reduceBEq, ↓reduceIte, reduceCtorEq, Try.ntmps7, Try.results7]
                        repeat ((with_reducible refine And.intro ?_ ?_); · (first | omega | assumption | (simp +contextual only [and_self, implies_true, true_and, and_true, imp_self]; done) | (intros; (repeat' apply And.intro) <;> first | assumption | omega) | (simp +contextual; done) | (intros; simp_all; done)))
                        refine seqQ_normal hQ37 ?_
                        refine vc_ret_of ?_
                        refine blockQ_ret hQ29 ?_
                        refine seqQ_ret hQ28 ?_
                        refine thenQ_ret hQ25 ?_
                        refine blockQ_ret hQ24 ?_
                        refine blockQ_ret hQ15 ?_
                        refine seqQ_ret hQ14 ?_
                        refine thenQ_ret hQ11 ?_
                        refine blockQ_ret hQ10 ?_
                        refine thenQ_ret hQ8 ?_
                        try simp only [go_sem, Int.reduceToNat, Int.reduceLT, Int.reduceLE, Int.reduceBEq, Int.reduceEq, Int.reduceNeg, Int.reduceNegSucc, Int.reduceSub, Int.reduceAdd, Int.reduceMul, Int.natCast_zero, Int.natCast_one, UInt8.reduceToNat, Nat.reduceEqDiff, Nat.reduceAdd, Nat.reduceMul, Nat.reduceSub, Nat.reduceLeDiff, Nat.reduceBEq, ↓reduceIte, reduceCtorEq, Try.ntmps7, Try.results7]
                        repeat ((with_reducible refine And.intro ?_ ?_); · (first | omega | assumption | (simp +contextual only [and_self, implies_true, true_and, and_true, imp_self]; done) | (intros; (repeat' apply And.intro) <;> first | assumption | omega) | (simp +contextual; done) | (intros; simp_all; done)))
                        obtain rfl := Option.some.inj h
                        refine retW_pure rfl ?_
                        simp only [go_sem, Le, Int.reduceToNat, Int.reduceLT, Int.reduceLE, Int.reduceBEq, Int.reduceEq, Int.reduceNeg, Int.reduceNegSucc, Int.reduceSub, Int.reduceAdd, Int.reduceMul, Int.natCast_zero, Int.natCast_one, UInt8.reduceToNat, Nat.reduceEqDiff, Nat.reduceAdd, Nat.reduceMul, Nat.reduceSub, Nat.reduceLeDiff, Nat.reduceBEq, ↓reduceIte, reduceCtorEq] <;> (repeat' apply And.intro) <;> first | rfl | assumption | omega | (simp only [go_sem, Int.reduceToNat, Int.reduceLT, Int.reduceLE, Int.reduceBEq, Int.reduceEq, Int.reduceNeg, Int.reduceNegSucc, Int.reduceSub, Int.reduceAdd, Int.reduceMul, Int.natCast_zero, Int.natCast_one, UInt8.reduceToNat, Nat.reduceEqDiff, Nat.reduceAdd, Nat.reduceMul, Nat.reduceSub, Nat.reduceLeDiff, Nat.reduceBEq, ↓reduceIte, reduceCtorEq]; done) | (simp [go_sem]; done) | (simp [enc_len, enc]; done) | (simp [enc_len, enc]; omega) | (simp [enc, row_int, row_bool, row_u8, row_list, sz_int, sz_bool, sz_u8, sz_list]; done) | (simp [enc]; rw [List.take_of_length_le (by simp)])
                    ·
                      replace h := if_t h hb_191
                      try simp only [go_sem, Int.reduceToNat, Int.reduceLT, Int.reduceLE, Int.reduceBEq, Int.reduceEq, Int.reduceNeg, Int.reduceNegSucc, Int.reduceSub, Int.reduceAdd, Int.reduceMul, Int.natCast_zero, Int.natCast_one, UInt8.reduceToNat, Nat.reduceEqDiff, Nat.reduceAdd, Nat.reduceMul, Nat.reduceSub, Nat.reduceLeDiff, Nat.reduceBEq, ↓reduceIte, reduceCtorEq, Try.ntmps7, Try.results7, hb_191]
                      repeat ((with_reducible refine And.intro ?_ ?_); · (first | omega | assumption | (simp +contextual only [and_self, implies_true, true_and, and_true, imp_self]; done) | (intros; (repeat' apply And.intro) <;> first | assumption | omega) | (simp +contextual; done) | (intros; simp_all; done)))
                      refine seqQ_normal hQ31 ?_
                      refine vc_cond_t (by first | (simp only [go_sem, Int.reduceToNat, Int.reduceLT, Int.reduceLE, Int.reduceBEq, Int.reduceEq, Int.reduceNeg, Int.reduceNegSucc, Int.reduceSub, Int.reduceAdd, Int.reduceMul, Int.natCast_zero, Int.natCast_one, UInt8.reduceToNat, Nat.reduceEqDiff, Nat.reduceAdd, Nat.reduceMul, Nat.reduceSub, Nat.reduceLeDiff, Nat.reduceBEq, ↓reduceIte, reduceCtorEq]; done) | (simp [go_sem]; done) | (simp only [go_sem, Int.reduceToNat, Int.reduceLT, Int.reduceLE, Int.reduceBEq, Int.reduceEq, Int.reduceNeg, Int.reduceNegSucc, Int.reduceSub, Int.reduceAdd, Int.reduceMul, Int.natCast_zero, Int.natCast_one, UInt8.reduceToNat, Nat.reduceEqDiff, Nat.reduceAdd, Nat.reduceMul, Nat.reduceSub, Nat.reduceLeDiff, Nat.reduceBEq, ↓reduceIte, reduceCtorEq]; congr 2; (first | grind | (simp_all; done))) | (simp [go_sem]; (first | grind | (simp_all; done)))) ?_
                      refine vc_seq_gen (by kernel_rfl) ?_
                      intro QQ38 hQ38
                      try simp only [go_sem, Int.reduceToNat, Int.reduceLT, Int.reduceLE, Int.reduceBEq, Int.reduceEq, Int.reduceNeg, Int.reduceNegSucc, Int.reduceSub, Int.reduceAdd, Int.reduceMul, Int.natCast_zero, Int.natCast_one, UInt8.reduceToNat, Nat.reduceEqDiff, Nat.reduceAdd, Nat.reduceMul, Nat.reduceSub, Nat.reduceLeDiff, Nat.reduceBEq, ↓reduceIte, reduceCtorEq, Try.ntmps7, Try.results7]
                      repeat ((with_reducible refine And.intro ?_ ?_); · (first | omega | assumption | (simp +contextual only [and_self, implies_true, true_and, and_true, imp_self]; done) | (intros; (repeat' apply And.intro) <;> first | assumption | omega) | (simp +contextual; done) | (intros; simp_all; done)))
                      refine seqQ_normal hQ38 ?_
                      refine vc_ret_of ?_
                      refine blockQ_ret hQ29 ?_
                      refine seqQ_ret hQ28 ?_
                      refine thenQ_ret hQ25 ?_
                      refine blockQ_ret hQ24 ?_
                      refine blockQ_ret hQ15 ?_
                      refine seqQ_ret hQ14 ?_
                      refine thenQ_ret hQ11 ?_
                      refine blockQ_ret hQ10 ?_
                      refine thenQ_ret hQ8 ?_
                      try simp only [go_sem, Int.reduceToNat, Int.reduceLT, Int.reduceLE, Int.reduceBEq, Int.reduceEq, Int.reduceNeg, Int.reduceNegSucc, Int.reduceSub, Int.reduceAdd, Int.reduceMul, Int.natCast_zero, Int.natCast_one, UInt8.reduceToNat, Nat.reduceEqDiff, Nat.reduceAdd, Nat.reduceMul, Nat.reduceSub, Nat.reduceLeDiff, Nat.reduceBEq, ↓reduceIte, reduceCtorEq, Try.ntmps7, Try.results7]
                      repeat ((with_reducible refine And.intro ?_ ?_); · (first | omega | assumption | (simp +contextual only [and_self, implies_true, true_and, and_true, imp_self]; done) | (intros; (repeat' apply And.intro) <;> first | assumption | omega) | (simp +contextual; done) | (intros; simp_all; done)))
                      obtain rfl := Option.some.inj h
                      refine retW_pure rfl ?_
                      simp only [go_sem, Le, Int.reduceToNat, Int.reduceLT, Int.reduceLE, Int.reduceBEq, Int.reduceEq, Int.reduceNeg, Int.reduceNegSucc, Int.reduceSub, Int.reduceAdd, Int.reduceMul, Int.natCast_zero, Int.natCast_one, UInt8.reduceToNat, Nat.reduceEqDiff, Nat.reduceAdd, Nat.reduceMul, Nat.reduceSub, Nat.reduceLeDiff, Nat.reduceBEq, ↓reduceIte, reduceCtorEq] <;> (repeat' apply And.intro) <;> first | rfl | assumption | omega | (simp only [go_sem, Int.reduceToNat, Int.reduceLT, Int.reduceLE, Int.reduceBEq, Int.reduceEq, Int.reduceNeg, Int.reduceNegSucc, Int.reduceSub, Int.reduceAdd, Int.reduceMul, Int.natCast_zero, Int.natCast_one, UInt8.reduceToNat, Nat.reduceEqDiff, Nat.reduceAdd, Nat.reduceMul, Nat.reduceSub, Nat.reduceLeDiff, Nat.reduceBEq, ↓reduceIte, reduceCtorEq]; done) | (simp [go_sem]; done) | (simp [enc_len, enc]; done) | (simp [enc_len, enc]; omega) | (simp [enc, row_int, row_bool, row_u8, row_list, sz_int, sz_bool, sz_u8, sz_list]; done) | (simp [enc]; rw [List.take_of_length_le (by simp)])
                  ·
                    replace h := if_t h hb_190
                    try simp only [go_sem, Int.reduceToNat, Int.reduceLT, Int.reduceLE, Int.reduceBEq, Int.reduceEq, Int.reduceNeg, Int.reduceNegSucc, Int.reduceSub, Int.reduceAdd, Int.reduceMul, Int.natCast_zero, Int.natCast_one, UInt8.reduceToNat, Nat.reduceEqDiff, Nat.reduceAdd, Nat.reduceMul, Nat.reduceSub, Nat.reduceLeDiff, Nat.reduceBEq, ↓reduceIte, reduceCtorEq, Try.ntmps7, Try.results7, hb_190]
                    repeat ((with_reducible refine And.intro ?_ ?_); · (first | omega | assumption | (simp +contextual only [and_self, implies_true, true_and, and_true, imp_self]; done) | (intros; (repeat' apply And.intro) <;> first | assumption | omega) | (simp +contextual; done) | (intros; simp_all; done)))
                    refine seqQ_normal hQ31 ?_
                    refine vc_cond_t (by first | (simp only [go_sem, Int.reduceToNat, Int.reduceLT, Int.reduceLE, Int.reduceBEq, Int.reduceEq, Int.reduceNeg, Int.reduceNegSucc, Int.reduceSub, Int.reduceAdd, Int.reduceMul, Int.natCast_zero, Int.natCast_one, UInt8.reduceToNat, Nat.reduceEqDiff, Nat.reduceAdd, Nat.reduceMul, Nat.reduceSub, Nat.reduceLeDiff, Nat.reduceBEq, ↓reduceIte, reduceCtorEq]; done) | (simp [go_sem]; done) | (simp only [go_sem, Int.reduceToNat, Int.reduceLT, Int.reduceLE, Int.reduceBEq, Int.reduceEq, Int.reduceNeg, Int.reduceNegSucc, Int.reduceSub, Int.reduceAdd, Int.reduceMul, Int.natCast_zero, Int.natCast_one, UInt8.reduceToNat, Nat.reduceEqDiff, Nat.reduceAdd, Nat.reduceMul, Nat.reduceSub, Nat.reduceLeDiff, Nat.reduceBEq, ↓reduceIte, reduceCtorEq]; congr 2; (first | grind | (simp_all; done))) | (simp [go_sem]; (first | grind | (simp_all; done)))) ?_
                    refine vc_seq_gen (by kernel_rfl) ?_
                    intro QQ39 hQ39
                    try simp only [go_sem, Int.reduceToNat, Int.reduceLT, Int.reduceLE, Int.reduceBEq, Int.reduceEq, Int.reduceNeg, Int.reduceNegSucc, Int.reduceSub, Int.reduceAdd, Int.reduceMul, Int.natCast_zero, Int.natCast_one, UInt8.reduceToNat, Nat.reduceEqDiff, Nat.reduceAdd, Nat.reduceMul, Nat.reduceSub, Nat.reduceLeDiff, Nat.reduceBEq, ↓reduceIte, reduceCtorEq, Try.ntmps7, Try.results7]
                    repeat ((with_reducible refine And.intro ?_ ?_); · (first | omega | assumption | (simp +contextual only [and_self, implies_true, true_and, and_true, imp_self]; done) | (intros; (repeat' apply And.intro) <;> first | assumption | omega) | (simp +contextual; done) | (intros; simp_all; done)))
                    refine seqQ_normal hQ39 ?_
                    refine vc_ret_of ?_
                    refine blockQ_ret hQ29 ?_
                    refine seqQ_ret hQ28 ?_
                    refine thenQ_ret hQ25 ?_
                    refine blockQ_ret hQ24 ?_
                    refine blockQ_ret hQ15 ?_
                    refine seqQ_ret hQ14 ?_
                    refine thenQ_ret hQ11 ?_
                    refine blockQ_ret hQ10 ?_
                    refine thenQ_ret hQ8 ?_
                    try simp only [go_sem, Int.reduceToNat, Int.reduceLT, Int.reduceLE, Int.reduceBEq, Int.reduceEq, Int.reduceNeg, Int.reduceNegSucc, Int.reduceSub, Int.reduceAdd, Int.reduceMul, Int.natCast_zero, Int.natCast_one, UInt8.reduceToNat, Nat.reduceEqDiff, Nat.reduceAdd, Nat.reduceMul, Nat.reduceSub, Nat.reduceLeDiff, Nat.reduceBEq, ↓reduceIte, reduceCtorEq, Try.ntmps7, Try.results7]
                    repeat ((with_reducible refine And.intro ?_ ?_); · (first | omega | assumption | (simp +contextual only [and_self, implies_true, true_and, and_true, imp_self]; done) | (intros; (repeat' apply And.intro) <;> first | assumption | omega) | (simp +contextual; done) | (intros; simp_all; done)))
                    obtain rfl := Option.some.inj h
                    refine retW_pure rfl ?_
                    simp only [go_sem, Le, Int.reduceToNat, Int.reduceLT, Int.reduceLE, Int.reduceBEq, Int.reduceEq, Int.reduceNeg, Int.reduceNegSucc, Int.reduceSub, Int.reduceAdd, Int.reduceMul, Int.natCast_zero, Int.natCast_one, UInt8.reduceToNat, Nat.reduceEqDiff, Nat.reduceAdd, Nat.reduceMul, Nat.reduceSub, Nat.reduceLeDiff, Nat.reduceBEq, ↓reduceIte, reduceCtorEq] <;> (repeat' apply And.intro) <;> first | rfl | assumption | omega | (simp only [go_sem, Int.reduceToNat, Int.reduceLT, Int.reduceLE, Int.reduceBEq, Int.reduceEq, Int.reduceNeg, Int.reduceNegSucc, Int.reduceSub, Int.reduceAdd, Int.reduceMul, Int.natCast_zero, Int.natCast_one, UInt8.reduceToNat, Nat.reduceEqDiff, Nat.reduceAdd, Nat.reduceMul, Nat.reduceSub, Nat.reduceLeDiff, Nat.reduceBEq, ↓reduceIte, reduceCtorEq]; done) | (simp [go_sem]; done) | (simp [enc_len, enc]; done) | (simp [enc_len, enc]; omega) | (simp [enc, row_int, row_bool, row_u8, row_list, sz_int, sz_bool, sz_u8, sz_list]; done) | (simp [enc]; rw [List.take_of_length_le (by simp)])
                ·
                  replace h := if_f h hb_189
                  try simp only [decide_eq_true_eq, decide_eq_false_iff_not, Bool.not_eq_true', Bool.not_eq_false', beq_iff_eq, beq_eq_false_iff_ne, ne_eq, Bool.and_eq_true, Bool.or_eq_true, Int.not_lt, Int.not_le] at hb_189
                  refine vc_exit_of ?_
                  refine seqQ_exit hQ26 ?_
                  refine thenQ_exit hQ25 ?_
                  refine blockQ_exit hQ24 ?_
                  refine blockQ_normal hQ15 ?_
                  refine seqQ_normal hQ14 ?_
                  try simp only [go_sem, Int.reduceToNat, Int.reduceLT, Int.reduceLE, Int.reduceBEq, Int.reduceEq, Int.reduceNeg, Int.reduceNegSucc, Int.reduceSub, Int.reduceAdd, Int.reduceMul, Int.natCast_zero, Int.natCast_one, UInt8.reduceToNat, Nat.reduceEqDiff, Nat.reduceAdd, Nat.reduceMul, Nat.reduceSub, Nat.reduceLeDiff, Nat.reduceBEq, ↓reduceIte, reduceCtorEq, Try.ntmps7, Try.results7]
                  repeat ((with_reducible refine And.intro ?_ ?_); · (first | omega | assumption | (simp +contextual only [and_self, implies_true, true_and, and_true, imp_self]; done) | (intros; (repeat' apply And.intro) <;> first | assumption | omega) | (simp +contextual; done) | (intros; simp_all; done)))
                  refine thenQ_normal hQ11 ?_
                  refine ⟨(m_2, IntKind.i64.wrap (i_3 + 1)), [], ?_, h, Nat.lt_succ_self _⟩
                  simp only [go_sem, Le, Int.reduceToNat, Int.reduceLT, Int.reduceLE, Int.reduceBEq, Int.reduceEq, Int.reduceNeg, Int.reduceNegSucc, Int.reduceSub, Int.reduceAdd, Int.reduceMul, Int.natCast_zero, Int.natCast_one, UInt8.reduceToNat, Nat.reduceEqDiff, Nat.reduceAdd, Nat.reduceMul, Nat.reduceSub, Nat.reduceLeDiff, Nat.reduceBEq, ↓reduceIte, reduceCtorEq] <;> (repeat' apply And.intro) <;> first | rfl | assumption | omega | (simp only [go_sem, Int.reduceToNat, Int.reduceLT, Int.reduceLE, Int.reduceBEq, Int.reduceEq, Int.reduceNeg, Int.reduceNegSucc, Int.reduceSub, Int.reduceAdd, Int.reduceMul, Int.natCast_zero, Int.natCast_one, UInt8.reduceToNat, Nat.reduceEqDiff, Nat.reduceAdd, Nat.reduceMul, Nat.reduceSub, Nat.reduceLeDiff, Nat.reduceBEq, ↓reduceIte, reduceCtorEq]; done) | (simp [go_sem]; done) | (simp [enc_len, enc]; done) | (simp [enc_len, enc]; omega) | (simp [enc, row_int, row_bool, row_u8, row_list, sz_int, sz_bool, sz_u8, sz_list]; done) | (simp [enc]; rw [List.take_of_length_le (by simp)])
        ·
          replace h := if_f h hb_166
          try simp only [decide_eq_true_eq, decide_eq_false_iff_not, Bool.not_eq_true', Bool.not_eq_false', beq_iff_eq, beq_eq_false_iff_ne, ne_eq, Bool.and_eq_true, Bool.or_eq_true, Int.not_lt, Int.not_le] at hb_166
          refine vc_exit_of ?_
          refine seqQ_exit hQ12 ?_
          refine thenQ_exit hQ11 ?_
          refine blockQ_exit hQ10 ?_
          refine thenQ_normal hQ8 ?_
          refine ⟨(), [], ?_, h⟩
          simp only [go_sem, Le, Int.reduceToNat, Int.reduceLT, Int.reduceLE, Int.reduceBEq, Int.reduceEq, Int.reduceNeg, Int.reduceNegSucc, Int.reduceSub, Int.reduceAdd, Int.reduceMul, Int.natCast_zero, Int.natCast_one, UInt8.reduceToNat, Nat.reduceEqDiff, Nat.reduceAdd, Nat.reduceMul, Nat.reduceSub, Nat.reduceLeDiff, Nat.reduceBEq, ↓reduceIte, reduceCtorEq] <;> (repeat' apply And.intro) <;> first | rfl | assumption | omega | (simp only [go_sem, Int.reduceToNat, Int.reduceLT, Int.reduceLE, Int.reduceBEq, Int.reduceEq, Int.reduceNeg, Int.reduceNegSucc, Int.reduceSub, Int.reduceAdd, Int.reduceMul, Int.natCast_zero, Int.natCast_one, UInt8.reduceToNat, Nat.reduceEqDiff, Nat.reduceAdd, Nat.reduceMul, Nat.reduceSub, Nat.reduceLeDiff, Nat.reduceBEq, ↓reduceIte, reduceCtorEq]; done) | (simp [go_sem]; done) | (simp [enc_len, enc]; done) | (simp [enc_len, enc]; omega) | (simp [enc, row_int, row_bool, row_u8, row_list, sz_int, sz_bool, sz_u8, sz_list]; done) | (simp [enc]; rw [List.take_of_length_le (by simp)])
    · rintro ⟨⟩ h
      try dsimp only at h
      rw [f_backwashlaw33_WindowHolds_J1] at h
      refine vc_seq_gen (by kernel_rfl) ?_
      intro QQ6 hQ6
      obtain ⟨v_4, ev_4, h⟩ := bindO_some h
      simp only [go_sem, Int.reduceToNat, Int.reduceLT, Int.reduceLE, Int.reduceBEq, Int.reduceEq, Int.reduceNeg, Int.reduceNegSucc, Int.reduceSub, Int.reduceAdd, Int.reduceMul, Int.natCast_zero, Int.natCast_one, UInt8.reduceToNat, Nat.reduceEqDiff, Nat.reduceAdd, Nat.reduceMul, Nat.reduceSub, Nat.reduceLeDiff, Nat.reduceBEq, ↓reduceIte, reduceCtorEq, Try.ntmps7, Try.results7]
      repeat ((with_reducible refine And.intro ?_ ?_); · (first | omega | assumption | (simp +contextual only [and_self, implies_true, true_and, and_true, imp_self]; done) | (intros; (repeat' apply And.intro) <;> first | assumption | omega) | (simp +contextual; done) | (intros; simp_all; done)))
      refine call0 (f_window_Tumble_ok (List.take (Int.toNat (min (List.length l_0 : Int) 50)) l_0) size_0 v_4 ev_4) (by rfl) (by rfl) ?_
      try simp only [go_sem, Int.reduceToNat, Int.reduceLT, Int.reduceLE, Int.reduceBEq, Int.reduceEq, Int.reduceNeg, Int.reduceNegSucc, Int.reduceSub, Int.reduceAdd, Int.reduceMul, Int.natCast_zero, Int.natCast_one, UInt8.reduceToNat, Nat.reduceEqDiff, Nat.reduceAdd, Nat.reduceMul, Nat.reduceSub, Nat.reduceLeDiff, Nat.reduceBEq, ↓reduceIte, reduceCtorEq, Try.ntmps7, Try.results7]
      repeat ((with_reducible refine And.intro ?_ ?_); · (first | omega | assumption | (simp +contextual only [and_self, implies_true, true_and, and_true, imp_self]; done) | (intros; (repeat' apply And.intro) <;> first | assumption | omega) | (simp +contextual; done) | (intros; simp_all; done)))
      refine seqQ_normal hQ6 ?_
      refine vc_seq_gen (by kernel_rfl) ?_
      intro QQ7 hQ7
      try simp only [go_sem, Int.reduceToNat, Int.reduceLT, Int.reduceLE, Int.reduceBEq, Int.reduceEq, Int.reduceNeg, Int.reduceNegSucc, Int.reduceSub, Int.reduceAdd, Int.reduceMul, Int.natCast_zero, Int.natCast_one, UInt8.reduceToNat, Nat.reduceEqDiff, Nat.reduceAdd, Nat.reduceMul, Nat.reduceSub, Nat.reduceLeDiff, Nat.reduceBEq, ↓reduceIte, reduceCtorEq, Try.ntmps7, Try.results7]
      repeat ((with_reducible refine And.intro ?_ ?_); · (first | omega | assumption | (simp +contextual only [and_self, implies_true, true_and, and_true, imp_self]; done) | (intros; (repeat' apply And.intro) <;> first | assumption | omega) | (simp +contextual; done) | (intros; simp_all; done)))
      refine seqQ_normal hQ7 ?_
      refine vc_ret_of ?_
      try simp only [go_sem, Int.reduceToNat, Int.reduceLT, Int.reduceLE, Int.reduceBEq, Int.reduceEq, Int.reduceNeg, Int.reduceNegSucc, Int.reduceSub, Int.reduceAdd, Int.reduceMul, Int.natCast_zero, Int.natCast_one, UInt8.reduceToNat, Nat.reduceEqDiff, Nat.reduceAdd, Nat.reduceMul, Nat.reduceSub, Nat.reduceLeDiff, Nat.reduceBEq, ↓reduceIte, reduceCtorEq, Try.ntmps7, Try.results7]
      repeat ((with_reducible refine And.intro ?_ ?_); · (first | omega | assumption | (simp +contextual only [and_self, implies_true, true_and, and_true, imp_self]; done) | (intros; (repeat' apply And.intro) <;> first | assumption | omega) | (simp +contextual; done) | (intros; simp_all; done)))
      obtain rfl := Option.some.inj h
      refine retW_pure rfl ?_
      simp only [go_sem, Le, Int.reduceToNat, Int.reduceLT, Int.reduceLE, Int.reduceBEq, Int.reduceEq, Int.reduceNeg, Int.reduceNegSucc, Int.reduceSub, Int.reduceAdd, Int.reduceMul, Int.natCast_zero, Int.natCast_one, UInt8.reduceToNat, Nat.reduceEqDiff, Nat.reduceAdd, Nat.reduceMul, Nat.reduceSub, Nat.reduceLeDiff, Nat.reduceBEq, ↓reduceIte, reduceCtorEq] <;> (repeat' apply And.intro) <;> first | rfl | assumption | omega | (simp only [go_sem, Int.reduceToNat, Int.reduceLT, Int.reduceLE, Int.reduceBEq, Int.reduceEq, Int.reduceNeg, Int.reduceNegSucc, Int.reduceSub, Int.reduceAdd, Int.reduceMul, Int.natCast_zero, Int.natCast_one, UInt8.reduceToNat, Nat.reduceEqDiff, Nat.reduceAdd, Nat.reduceMul, Nat.reduceSub, Nat.reduceLeDiff, Nat.reduceBEq, ↓reduceIte, reduceCtorEq]; done) | (simp [go_sem]; done) | (simp [enc_len, enc]; done) | (simp [enc_len, enc]; omega) | (simp [enc, row_int, row_bool, row_u8, row_list, sz_int, sz_bool, sz_u8, sz_list]; done) | (simp [enc]; rw [List.take_of_length_le (by simp)])
end Go.Proofs.Ytngeldeahafcfaa

