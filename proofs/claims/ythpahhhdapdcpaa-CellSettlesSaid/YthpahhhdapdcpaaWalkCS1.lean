/-
  What functions of the program compute, each told as a plain function that may give nothing, with the proof that the code does so. No condition beyond those that each theorem names.
-/
import Derived.Test.YthpahhhdapdcpaaWalkCS0
import Derived.Test.YthpahhhdapdcpaaLibD
set_option linter.unusedSimpArgs false
set_option linter.unusedVariables false
set_option maxHeartbeats 2000000
set_option maxRecDepth 100000
namespace Go.Proofs.Ythpahhhdapdcpaa
open Go Go.RowKit
def f_prog_machine_moves_p0_s0_2_s0_3 (mv_0 : GProg_machine) (xv_0 : GIns) : Option (Bool × GProg_machine) :=
 (if (xv_0.Op == 1) = true then bindO (f_prog_machine_push_p0_s0_2_s0_3 mv_0 xv_0.N) (fun (v_0 : GProg_machine) =>
 some (true, v_0))
 else (if (xv_0.Op == 2) = true then bindO (f_prog_machine_push_p0_s0_2_s0_3 mv_0 mv_0.r.K) (fun (v_1 : GProg_machine) =>
 some (true, v_1))
 else (if (xv_0.Op == 3) = true then bindO (f_prog_machine_push_p0_s0_2_s0_3 mv_0 mv_0.r.V) (fun (v_2 : GProg_machine) =>
 some (true, v_2))
 else (if (xv_0.Op == 11) = true then (if (decide ((IntKind.i64.wrap ((List.length mv_0.stack : Int) - 1)) < 0)) = true then some (true, (⟨mv_0.r, mv_0.stack, mv_0.out, mv_0.at_, 1⟩ : GProg_machine))
 else guardO (0 ≤ IntKind.i64.wrap ((List.length mv_0.stack : Int) - 1) ∧ IntKind.i64.wrap ((List.length mv_0.stack : Int) - 1) ≤ (List.length mv_0.stack : Int) ∧ (List.length mv_0.stack : Int) ≤ (List.length mv_0.stack : Int) ∧ (List.length mv_0.stack : Int) ≤ (List.length mv_0.stack : Int)) (
 guardO (0 ≤ 0 ∧ 0 ≤ IntKind.i64.wrap ((List.length mv_0.stack : Int) - 1) ∧ IntKind.i64.wrap ((List.length mv_0.stack : Int) - 1) ≤ (List.length mv_0.stack : Int)) (
 guardO (0 < Int.toNat (List.length mv_0.stack : Int) - Int.toNat (IntKind.i64.wrap ((List.length mv_0.stack : Int) - 1))) (
 bindO (idx (List.take (Int.toNat (List.length mv_0.stack : Int) - Int.toNat (IntKind.i64.wrap ((List.length mv_0.stack : Int) - 1))) (List.drop (Int.toNat (IntKind.i64.wrap ((List.length mv_0.stack : Int) - 1))) mv_0.stack)) 0) (fun (xv_1 : Int) =>
 bindO (f_prog_machine_push_p0_s0_2_s0_3 (⟨mv_0.r, (List.take (Int.toNat (IntKind.i64.wrap ((List.length mv_0.stack : Int) - 1))) mv_0.stack), mv_0.out, mv_0.at_, mv_0.bad⟩ : GProg_machine) xv_1) (fun (v_3 : GProg_machine) =>
 bindO (f_prog_machine_push_p0_s0_2_s0_3 v_3 xv_1) (fun (v_4 : GProg_machine) =>
 some (true, v_4))))))))
 else (if (xv_0.Op == 12) = true then (if (decide ((IntKind.i64.wrap ((List.length mv_0.stack : Int) - 2)) < 0)) = true then some (true, (⟨mv_0.r, mv_0.stack, mv_0.out, mv_0.at_, 1⟩ : GProg_machine))
 else guardO (0 ≤ IntKind.i64.wrap ((List.length mv_0.stack : Int) - 2) ∧ IntKind.i64.wrap ((List.length mv_0.stack : Int) - 2) ≤ (List.length mv_0.stack : Int) ∧ (List.length mv_0.stack : Int) ≤ (List.length mv_0.stack : Int) ∧ (List.length mv_0.stack : Int) ≤ (List.length mv_0.stack : Int)) (
 guardO (0 ≤ 0 ∧ 0 ≤ IntKind.i64.wrap ((List.length mv_0.stack : Int) - 2) ∧ IntKind.i64.wrap ((List.length mv_0.stack : Int) - 2) ≤ (List.length mv_0.stack : Int)) (
 guardO (0 < Int.toNat (List.length mv_0.stack : Int) - Int.toNat (IntKind.i64.wrap ((List.length mv_0.stack : Int) - 2))) (
 bindO (idx (List.take (Int.toNat (List.length mv_0.stack : Int) - Int.toNat (IntKind.i64.wrap ((List.length mv_0.stack : Int) - 2))) (List.drop (Int.toNat (IntKind.i64.wrap ((List.length mv_0.stack : Int) - 2))) mv_0.stack)) 0) (fun (xv_2 : Int) =>
 bindO (idx (List.take (Int.toNat (List.length mv_0.stack : Int) - Int.toNat (IntKind.i64.wrap ((List.length mv_0.stack : Int) - 2))) (List.drop (Int.toNat (IntKind.i64.wrap ((List.length mv_0.stack : Int) - 2))) mv_0.stack)) 1) (fun (xv_3 : Int) =>
 bindO (f_prog_machine_push_p0_s0_2_s0_3 (⟨mv_0.r, (List.take (Int.toNat (IntKind.i64.wrap ((List.length mv_0.stack : Int) - 2))) mv_0.stack), mv_0.out, mv_0.at_, mv_0.bad⟩ : GProg_machine) xv_3) (fun (v_5 : GProg_machine) =>
 bindO (f_prog_machine_push_p0_s0_2_s0_3 v_5 xv_2) (fun (v_6 : GProg_machine) =>
 some (true, v_6)))))))))
 else (if (xv_0.Op == 13) = true then (if (decide ((IntKind.i64.wrap ((List.length mv_0.stack : Int) - 1)) < 0)) = true then some (true, (⟨mv_0.r, mv_0.stack, mv_0.out, mv_0.at_, 1⟩ : GProg_machine))
 else guardO (0 ≤ IntKind.i64.wrap ((List.length mv_0.stack : Int) - 1) ∧ IntKind.i64.wrap ((List.length mv_0.stack : Int) - 1) ≤ (List.length mv_0.stack : Int) ∧ (List.length mv_0.stack : Int) ≤ (List.length mv_0.stack : Int) ∧ (List.length mv_0.stack : Int) ≤ (List.length mv_0.stack : Int)) (
 guardO (0 ≤ 0 ∧ 0 ≤ IntKind.i64.wrap ((List.length mv_0.stack : Int) - 1) ∧ IntKind.i64.wrap ((List.length mv_0.stack : Int) - 1) ≤ (List.length mv_0.stack : Int)) (
 some (true, (⟨mv_0.r, (List.take (Int.toNat (IntKind.i64.wrap ((List.length mv_0.stack : Int) - 1))) mv_0.stack), mv_0.out, mv_0.at_, mv_0.bad⟩ : GProg_machine)))))
 else some (false, mv_0)))))))
theorem f_prog_machine_moves_p0_s0_2_s0_3_det (mv_0 : GProg_machine) (xv_0 : GIns)  (r : Bool × GProg_machine) (h : f_prog_machine_moves_p0_s0_2_s0_3 mv_0 xv_0 = some r) : DetS Try.prog 233 [.ptr 0 0, .agg [.v (.int .i64 xv_0.Op), .v (.int .i64 xv_0.N)]] [(0, .box [.v (.int .i64 mv_0.r.K), .v (.int .i64 mv_0.r.V), .osl 1 1 (0) (List.length mv_0.stack), .osl 2 2 (0) (List.length mv_0.out), .v (.int .i64 mv_0.at_), .v (.int .i64 mv_0.bad)]), (1, .arr 1 (enc mv_0.stack)), (2, .arr 2 (enc mv_0.out))] 3 (.v (.bool r.1)) [(0, .box [.v (.int .i64 r.2.r.K), .v (.int .i64 r.2.r.V), .osl 3 1 (0) (List.length r.2.stack), .osl 4 2 (0) (List.length r.2.out), .v (.int .i64 r.2.at_), .v (.int .i64 r.2.bad)]), (3, .arr 1 (enc r.2.stack)), (4, .arr 2 (enc r.2.out))] 5 := by
 unfold DetS
 refine Spec.of_vc Try.func233 rfl (by kernel_rfl) (by kernel_rfl) ?_
 rw [f_prog_machine_moves_p0_s0_2_s0_3] at h
 refine sg fun QQ1 hQ1 => ?_
 simp only [go_sem]
 refine seqQ_normal hQ1 ?_
 refine vc_join (by kernel_rfl) ?_
 refine seq_go_gen ?_
 intro QQ2 hQ2
 refine sg fun QQ3 hQ3 => ?_
 simp only [go_sem]
 refine seqQ_normal hQ3 ?_
 refine vc_block_gen ?_
 intro QQ4 hQ4
 refine sg fun QQ5 hQ5 => ?_
 simp only [go_sem]
 refine seqQ_normal hQ5 ?_
 refine vc_cond_of (b := (xv_0.Op == 1)) (by (simp only [go_sem]; done)) (fun hb_0 => ?_) (fun hb_0 => ?_)
 ·
  replace h := if_t h hb_0
  simp only [bool_to_prop] at hb_0
  obtain ⟨v_0, ev_0, h⟩ := bindO_some h
  simp only [go_sem]
  refine callD [0, 1, 2] (f_prog_machine_push_p0_s0_2_s0_3_det mv_0 xv_0.N v_0 ev_0) (by simp) rfl ⟨rfl, ⟨rfl, ⟨rfl, trivial⟩⟩⟩ rfl rfl rfl rfl ?_
  simp only [go_sem]
  refine blockQ_normal hQ4 ?_
  refine seqQ_normal hQ2 ?_
  refine sg fun QQ6 hQ6 => ?_
  simp only [go_sem]
  refine seqQ_normal hQ6 ?_
  refine vc_ret_of ?_
  simp only [go_sem]
  obtain rfl := Option.some.inj h
  refine retW_det [some 4, some 5] ?_
  simp only [go_sem, Le] <;> (repeat' apply And.intro) <;> first | ((try with_reducible refine TL_eq ?_); omega) | ((try with_reducible refine TL_eq ?_); (simp [go_sem]; done))
 ·
  replace h := if_f h hb_0
  simp only [bool_to_prop] at hb_0
  refine sg fun QQ7 hQ7 => ?_
  simp only [go_sem]
  refine seqQ_normal hQ7 ?_
  refine vc_cond_of (b := (xv_0.Op == 2)) (by (simp only [go_sem]; done)) (fun hb_1 => ?_) (fun hb_1 => ?_)
  ·
   replace h := if_t h hb_1
   simp only [bool_to_prop] at hb_1
   obtain ⟨v_1, ev_1, h⟩ := bindO_some h
   simp only [go_sem]
   refine callD [0, 1, 2] (f_prog_machine_push_p0_s0_2_s0_3_det mv_0 mv_0.r.K v_1 ev_1) (by simp) rfl ⟨rfl, ⟨rfl, ⟨rfl, trivial⟩⟩⟩ rfl rfl rfl rfl ?_
   simp only [go_sem]
   refine blockQ_normal hQ4 ?_
   refine seqQ_normal hQ2 ?_
   refine sg fun QQ8 hQ8 => ?_
   simp only [go_sem]
   refine seqQ_normal hQ8 ?_
   refine vc_ret_of ?_
   simp only [go_sem]
   obtain rfl := Option.some.inj h
   refine retW_det [some 4, some 5] ?_
   simp only [go_sem, Le] <;> (repeat' apply And.intro) <;> first | ((try with_reducible refine TL_eq ?_); omega) | ((try with_reducible refine TL_eq ?_); (simp [go_sem]; done))
  ·
   replace h := if_f h hb_1
   simp only [bool_to_prop] at hb_1
   refine sg fun QQ9 hQ9 => ?_
   simp only [go_sem]
   refine seqQ_normal hQ9 ?_
   refine vc_cond_of (b := (xv_0.Op == 3)) (by (simp only [go_sem]; done)) (fun hb_2 => ?_) (fun hb_2 => ?_)
   ·
    replace h := if_t h hb_2
    simp only [bool_to_prop] at hb_2
    obtain ⟨v_2, ev_2, h⟩ := bindO_some h
    simp only [go_sem]
    refine callD [0, 1, 2] (f_prog_machine_push_p0_s0_2_s0_3_det mv_0 mv_0.r.V v_2 ev_2) (by simp) rfl ⟨rfl, ⟨rfl, ⟨rfl, trivial⟩⟩⟩ rfl rfl rfl rfl ?_
    simp only [go_sem]
    refine blockQ_normal hQ4 ?_
    refine seqQ_normal hQ2 ?_
    refine sg fun QQ10 hQ10 => ?_
    simp only [go_sem]
    refine seqQ_normal hQ10 ?_
    refine vc_ret_of ?_
    simp only [go_sem]
    obtain rfl := Option.some.inj h
    refine retW_det [some 4, some 5] ?_
    simp only [go_sem, Le] <;> (repeat' apply And.intro) <;> first | ((try with_reducible refine TL_eq ?_); omega) | ((try with_reducible refine TL_eq ?_); (simp [go_sem]; done))
   ·
    replace h := if_f h hb_2
    simp only [bool_to_prop] at hb_2
    refine sg fun QQ11 hQ11 => ?_
    simp only [go_sem]
    refine seqQ_normal hQ11 ?_
    refine vc_cond_of (b := (xv_0.Op == 11)) (by (simp only [go_sem]; done)) (fun hb_3 => ?_) (fun hb_3 => ?_)
    ·
     replace h := if_t h hb_3
     simp only [bool_to_prop] at hb_3
     refine sg fun QQ12 hQ12 => ?_
     simp only [go_sem]
     refine callF_inl Try.func234 rfl (by kernel_rfl) (by kernel_rfl) ?_
     refine sg fun QQ13 hQ13 => ?_
     simp only [go_sem]
     refine seqQ_normal hQ13 ?_
     refine sg fun QQ14 hQ14 => ?_
     simp only [go_sem]
     refine seqQ_normal hQ14 ?_
     refine sg fun QQ15 hQ15 => ?_
     refine sg fun QQ16 hQ16 => ?_
     simp only [go_sem]
     refine seqQ_normal hQ16 ?_
     refine vc_cond_of (b := (decide ((IntKind.i64.wrap ((List.length mv_0.stack : Int) - 1)) < 0))) (by (simp only [go_sem]; done)) (fun hb_4 => ?_) (fun hb_4 => ?_)
     ·
      replace h := if_t h hb_4
      simp only [bool_to_prop] at hb_4
      refine sg fun QQ17 hQ17 => ?_
      simp only [go_sem]
      refine seqQ_normal hQ17 ?_
      refine sg fun QQ18 hQ18 => ?_
      simp only [go_sem]
      refine seqQ_normal hQ18 ?_
      refine vc_ret_of ?_
      refine seqQ_ret hQ15 ?_
      simp only [go_sem]
      refine retW_inl [] [(0, .box [.v (.int .i64 mv_0.r.K), .v (.int .i64 mv_0.r.V), .osl 1 1 (0) (List.length mv_0.stack), .osl 2 2 (0) (List.length mv_0.out), .v (.int .i64 mv_0.at_), .v (.int .i64 1)]), (1, .arr 1 (enc mv_0.stack)), (2, .arr 2 (enc mv_0.out)), (3, .box [.v (.int .i64 xv_0.Op), .v (.int .i64 xv_0.N)])] 4 (.v (.slice none 0 0)) ?_ ?_
      · simp only [go_sem, Le] <;> (repeat' apply And.intro) <;> first | ((try with_reducible refine TL_eq ?_); omega) | ((try with_reducible refine TL_eq ?_); (simp [go_sem]; done))
      refine inlK_of ?_
      simp only [go_sem]
      refine seqQ_normal hQ12 ?_
      refine sg fun QQ19 hQ19 => ?_
      simp only [go_sem]
      refine seqQ_normal hQ19 ?_
      refine vc_cond_f (by (simp only [go_sem]; done)) ?_
      refine vc_skip_of ?_
      refine blockQ_normal hQ4 ?_
      refine seqQ_normal hQ2 ?_
      refine sg fun QQ20 hQ20 => ?_
      simp only [go_sem]
      refine seqQ_normal hQ20 ?_
      refine vc_ret_of ?_
      simp only [go_sem]
      obtain rfl := Option.some.inj h
      refine retW_det [some 1, some 2] ?_
      simp only [go_sem, Le] <;> (repeat' apply And.intro) <;> first | ((try with_reducible refine TL_eq ?_); omega) | ((try with_reducible refine TL_eq ?_); (simp [go_sem]; done))
     ·
      replace h := if_f h hb_4
      simp only [bool_to_prop] at hb_4
      refine vc_skip_of ?_
      refine seqQ_normal hQ15 ?_
      refine sg fun QQ21 hQ21 => ?_
      refine vc_draw ?_
      refine drawM_tail 15 [0, 1, 3, 7, 0, 0, 32, 96, 224, 480, 0, 1024, 3072, 7168, 15360, 32767, 65535] mixed (by kernel_rfl) (of_decide_eq_true (by kernel_rfl)) (by kernel_rfl) ?_
      obtain ⟨g_0, h⟩ := guardO_some h
      simp only [go_sem, g_0]
      refine seqQ_normal hQ21 ?_
      refine sg fun QQ22 hQ22 => ?_
      obtain ⟨g_1, h⟩ := guardO_some h
      simp only [go_sem, g_1]
      refine seqQ_normal hQ22 ?_
      refine sg fun QQ23 hQ23 => ?_
      simp only [go_sem]
      refine seqQ_normal hQ23 ?_
      refine vc_ret_of ?_
      simp only [go_sem]
      refine retW_inl [] [(0, .box [.v (.int .i64 mv_0.r.K), .v (.int .i64 mv_0.r.V), .osl 1 1 (0) (Int.toNat (IntKind.i64.wrap ((List.length mv_0.stack : Int) - 1))), .osl 2 2 (0) (List.length mv_0.out), .v (.int .i64 mv_0.at_), .v (.int .i64 mv_0.bad)]), (1, .arr 1 (enc mv_0.stack)), (2, .arr 2 (enc mv_0.out)), (3, .box [.v (.int .i64 xv_0.Op), .v (.int .i64 xv_0.N)])] 4 (.osl 1 1 (Int.toNat (IntKind.i64.wrap ((List.length mv_0.stack : Int) - 1))) (Int.toNat (List.length mv_0.stack : Int) - Int.toNat (IntKind.i64.wrap ((List.length mv_0.stack : Int) - 1)))) ?_ ?_
      · simp only [go_sem, Le] <;> (repeat' apply And.intro) <;> first | ((try with_reducible refine TL_eq ?_); omega) | ((try with_reducible refine TL_eq ?_); (simp [go_sem]; done))
      refine inlK_of ?_
      simp only [go_sem]
      refine seqQ_normal hQ12 ?_
      refine sg fun QQ24 hQ24 => ?_
      obtain ⟨g_2, h⟩ := guardO_some h
      simp only [go_sem, g_2]
      refine And.intro (by omega) ?_
      refine seqQ_normal hQ24 ?_
      refine vc_cond_t (by (simp only [go_sem]; done)) ?_
      refine sg fun QQ25 hQ25 => ?_
      obtain ⟨xv_1, exv_1, h⟩ := bindO_some h
      obtain ⟨fxv_1a, fxv_1b, fxv_1c, fxv_1d⟩ := idx_part exv_1
      simp only [Int.toNat_natCast, Int.reduceToNat, Nat.zero_add, Nat.add_zero] at fxv_1c fxv_1d
      simp only [go_sem, fxv_1a, fxv_1b, fxv_1c, fxv_1d]
      refine And.intro (by omega) ?_
      refine seqQ_normal hQ25 ?_
      refine sg fun QQ26 hQ26 => ?_
      obtain ⟨v_3, ev_3, h⟩ := bindO_some h
      simp only [go_sem]
      refine callF_weak (s' := (⟨3, [(0, .ptr 0 0), (1, .agg [.v (.int .i64 xv_0.Op), .v (.int .i64 xv_0.N)]), (3, .ptr 3 0), (4, .v (.bool false)), (5, .osl 1 1 (Int.toNat (IntKind.i64.wrap ((List.length mv_0.stack : Int) - 1))) (Int.toNat (List.length mv_0.stack : Int) - Int.toNat (IntKind.i64.wrap ((List.length mv_0.stack : Int) - 1)))), (6, .v (.int .i64 xv_1)), (10, .ptr 3 0), (11, .v (.int .i64 xv_0.Op)), (12, .v (.bool (xv_0.Op == 1))), (13, .v (.bool (xv_0.Op == 1))), (18, .v (.bool (xv_0.Op == 2))), (19, .v (.bool (xv_0.Op == 2))), (27, .v (.bool (xv_0.Op == 3))), (28, .v (.bool (xv_0.Op == 3))), (36, .v (.bool (xv_0.Op == 11))), (37, .v (.bool (xv_0.Op == 11))), (38, .ptr 0 0), (39, .osl 1 1 (Int.toNat (IntKind.i64.wrap ((List.length mv_0.stack : Int) - 1))) (Int.toNat (List.length mv_0.stack : Int) - Int.toNat (IntKind.i64.wrap ((List.length mv_0.stack : Int) - 1)))), (40, .osl 1 1 (Int.toNat (IntKind.i64.wrap ((List.length mv_0.stack : Int) - 1))) (Int.toNat (List.length mv_0.stack : Int) - Int.toNat (IntKind.i64.wrap ((List.length mv_0.stack : Int) - 1)))), (41, .v (.bool true)), (42, .osl 1 1 (Int.toNat (IntKind.i64.wrap ((List.length mv_0.stack : Int) - 1))) (Int.toNat (List.length mv_0.stack : Int) - Int.toNat (IntKind.i64.wrap ((List.length mv_0.stack : Int) - 1)))), (44, .v (.int .i64 xv_1)), (45, .ptr 0 0), (46, .v (.int .i64 xv_1))], [(0, .box [.v (.int .i64 mv_0.r.K), .v (.int .i64 mv_0.r.V), .osl 1 1 (0) (List.length (List.take (Int.toNat (IntKind.i64.wrap ((List.length mv_0.stack : Int) - 1))) mv_0.stack)), .osl 2 2 (0) (List.length mv_0.out), .v (.int .i64 mv_0.at_), .v (.int .i64 mv_0.bad)]), (1, .arr 1 (enc (List.take (Int.toNat (IntKind.i64.wrap ((List.length mv_0.stack : Int) - 1))) mv_0.stack))), (2, .arr 2 (enc mv_0.out)), (3, .box [.v (.int .i64 xv_0.Op), .v (.int .i64 xv_0.N)])], 4, 73⟩ : St)) (l := [some 3]) (args' := [.ptr 0 0, .v (.int .i64 xv_1)]) ?_ ?_ ?_
      · simp only [go_sem, Le] <;> (repeat' apply And.intro) <;> first | (with_reducible exact TL_enc _ _) | ((try with_reducible refine TL_eq ?_); omega) | ((try with_reducible refine TL_eq ?_); (simp [go_sem]; done)) | ((try with_reducible refine TL_eq ?_); (simp [enc_len, enc]; omega))
      · simp only [go_sem, Le]
      refine callD [0, 1, 2] (f_prog_machine_push_p0_s0_2_s0_3_det (⟨mv_0.r, (List.take (Int.toNat (IntKind.i64.wrap ((List.length mv_0.stack : Int) - 1))) mv_0.stack), mv_0.out, mv_0.at_, mv_0.bad⟩ : GProg_machine) xv_1 v_3 ev_3) (by simp) rfl ⟨rfl, ⟨rfl, ⟨rfl, trivial⟩⟩⟩ rfl rfl rfl rfl ?_
      simp only [go_sem]
      refine seqQ_normal hQ26 ?_
      obtain ⟨v_4, ev_4, h⟩ := bindO_some h
      simp only [go_sem]
      refine callD [0, 4, 5] (f_prog_machine_push_p0_s0_2_s0_3_det v_3 xv_1 v_4 ev_4) (by simp) rfl ⟨rfl, ⟨rfl, ⟨rfl, trivial⟩⟩⟩ rfl rfl rfl rfl ?_
      simp only [go_sem]
      refine blockQ_normal hQ4 ?_
      refine seqQ_normal hQ2 ?_
      refine sg fun QQ27 hQ27 => ?_
      simp only [go_sem]
      refine seqQ_normal hQ27 ?_
      refine vc_ret_of ?_
      simp only [go_sem]
      obtain rfl := Option.some.inj h
      refine retW_det [some 6, some 7] ?_
      simp only [go_sem, Le] <;> (repeat' apply And.intro) <;> first | ((try with_reducible refine TL_eq ?_); omega) | ((try with_reducible refine TL_eq ?_); (simp [go_sem]; done))
    ·
     replace h := if_f h hb_3
     simp only [bool_to_prop] at hb_3
     refine sg fun QQ28 hQ28 => ?_
     simp only [go_sem]
     refine seqQ_normal hQ28 ?_
     refine vc_cond_of (b := (xv_0.Op == 12)) (by (simp only [go_sem]; done)) (fun hb_5 => ?_) (fun hb_5 => ?_)
     ·
      replace h := if_t h hb_5
      simp only [bool_to_prop] at hb_5
      refine sg fun QQ29 hQ29 => ?_
      simp only [go_sem]
      refine callF_inl Try.func234 rfl (by kernel_rfl) (by kernel_rfl) ?_
      refine sg fun QQ30 hQ30 => ?_
      simp only [go_sem]
      refine seqQ_normal hQ30 ?_
      refine sg fun QQ31 hQ31 => ?_
      simp only [go_sem]
      refine seqQ_normal hQ31 ?_
      refine sg fun QQ32 hQ32 => ?_
      refine sg fun QQ33 hQ33 => ?_
      simp only [go_sem]
      refine seqQ_normal hQ33 ?_
      refine vc_cond_of (b := (decide ((IntKind.i64.wrap ((List.length mv_0.stack : Int) - 2)) < 0))) (by (simp only [go_sem]; done)) (fun hb_6 => ?_) (fun hb_6 => ?_)
      ·
       replace h := if_t h hb_6
       simp only [bool_to_prop] at hb_6
       refine sg fun QQ34 hQ34 => ?_
       simp only [go_sem]
       refine seqQ_normal hQ34 ?_
       refine sg fun QQ35 hQ35 => ?_
       simp only [go_sem]
       refine seqQ_normal hQ35 ?_
       refine vc_ret_of ?_
       refine seqQ_ret hQ32 ?_
       simp only [go_sem]
       refine retW_inl [] [(0, .box [.v (.int .i64 mv_0.r.K), .v (.int .i64 mv_0.r.V), .osl 1 1 (0) (List.length mv_0.stack), .osl 2 2 (0) (List.length mv_0.out), .v (.int .i64 mv_0.at_), .v (.int .i64 1)]), (1, .arr 1 (enc mv_0.stack)), (2, .arr 2 (enc mv_0.out)), (3, .box [.v (.int .i64 xv_0.Op), .v (.int .i64 xv_0.N)])] 4 (.v (.slice none 0 0)) ?_ ?_
       · simp only [go_sem, Le] <;> (repeat' apply And.intro) <;> first | ((try with_reducible refine TL_eq ?_); omega) | ((try with_reducible refine TL_eq ?_); (simp [go_sem]; done))
       refine inlK_of ?_
       simp only [go_sem]
       refine seqQ_normal hQ29 ?_
       refine sg fun QQ36 hQ36 => ?_
       simp only [go_sem]
       refine seqQ_normal hQ36 ?_
       refine vc_cond_f (by (simp only [go_sem]; done)) ?_
       refine vc_skip_of ?_
       refine blockQ_normal hQ4 ?_
       refine seqQ_normal hQ2 ?_
       refine sg fun QQ37 hQ37 => ?_
       simp only [go_sem]
       refine seqQ_normal hQ37 ?_
       refine vc_ret_of ?_
       simp only [go_sem]
       obtain rfl := Option.some.inj h
       refine retW_det [some 1, some 2] ?_
       simp only [go_sem, Le] <;> (repeat' apply And.intro) <;> first | ((try with_reducible refine TL_eq ?_); omega) | ((try with_reducible refine TL_eq ?_); (simp [go_sem]; done))
      ·
       replace h := if_f h hb_6
       simp only [bool_to_prop] at hb_6
       refine vc_skip_of ?_
       refine seqQ_normal hQ32 ?_
       refine sg fun QQ38 hQ38 => ?_
       refine vc_draw ?_
       refine drawM_tail 15 [0, 1, 3, 7, 0, 0, 32, 96, 224, 480, 0, 1024, 3072, 7168, 15360, 32767, 65535] mixed (by kernel_rfl) (of_decide_eq_true (by kernel_rfl)) (by kernel_rfl) ?_
       obtain ⟨g_3, h⟩ := guardO_some h
       simp only [go_sem, g_3]
       refine seqQ_normal hQ38 ?_
       refine sg fun QQ39 hQ39 => ?_
       obtain ⟨g_4, h⟩ := guardO_some h
       simp only [go_sem, g_4]
       refine seqQ_normal hQ39 ?_
       refine sg fun QQ40 hQ40 => ?_
       simp only [go_sem]
       refine seqQ_normal hQ40 ?_
       refine vc_ret_of ?_
       simp only [go_sem]
       refine retW_inl [] [(0, .box [.v (.int .i64 mv_0.r.K), .v (.int .i64 mv_0.r.V), .osl 1 1 (0) (Int.toNat (IntKind.i64.wrap ((List.length mv_0.stack : Int) - 2))), .osl 2 2 (0) (List.length mv_0.out), .v (.int .i64 mv_0.at_), .v (.int .i64 mv_0.bad)]), (1, .arr 1 (enc mv_0.stack)), (2, .arr 2 (enc mv_0.out)), (3, .box [.v (.int .i64 xv_0.Op), .v (.int .i64 xv_0.N)])] 4 (.osl 1 1 (Int.toNat (IntKind.i64.wrap ((List.length mv_0.stack : Int) - 2))) (Int.toNat (List.length mv_0.stack : Int) - Int.toNat (IntKind.i64.wrap ((List.length mv_0.stack : Int) - 2)))) ?_ ?_
       · simp only [go_sem, Le] <;> (repeat' apply And.intro) <;> first | ((try with_reducible refine TL_eq ?_); omega) | ((try with_reducible refine TL_eq ?_); (simp [go_sem]; done))
       refine inlK_of ?_
       simp only [go_sem]
       refine seqQ_normal hQ29 ?_
       refine sg fun QQ41 hQ41 => ?_
       obtain ⟨g_5, h⟩ := guardO_some h
       simp only [go_sem, g_5]
       refine And.intro (by omega) ?_
       refine seqQ_normal hQ41 ?_
       refine vc_cond_t (by (simp only [go_sem]; done)) ?_
       refine sg fun QQ42 hQ42 => ?_
       refine vc_draw ?_
       refine drawM_tail 7 [0, 1, 3, 0, 8, 24, 7, 127] mixed (by kernel_rfl) (of_decide_eq_true (by kernel_rfl)) (by kernel_rfl) ?_
       obtain ⟨xv_2, exv_2, h⟩ := bindO_some h
       obtain ⟨fxv_2a, fxv_2b, fxv_2c, fxv_2d⟩ := idx_part exv_2
       simp only [Int.toNat_natCast, Int.reduceToNat, Nat.zero_add, Nat.add_zero] at fxv_2c fxv_2d
       obtain ⟨xv_3, exv_3, h⟩ := bindO_some h
       obtain ⟨fxv_3a, fxv_3b, fxv_3c, fxv_3d⟩ := idx_part exv_3
       simp only [Int.toNat_natCast, Int.reduceToNat, Nat.zero_add, Nat.add_zero] at fxv_3c fxv_3d
       simp only [go_sem, fxv_2a, fxv_2b, fxv_2c, fxv_2d, fxv_3a, fxv_3b, fxv_3c, fxv_3d]
       refine And.intro (by omega) ?_
       refine And.intro (by omega) ?_
       refine seqQ_normal hQ42 ?_
       refine sg fun QQ43 hQ43 => ?_
       obtain ⟨v_5, ev_5, h⟩ := bindO_some h
       simp only [go_sem]
       refine callF_weak (s' := (⟨3, [(0, .ptr 0 0), (1, .agg [.v (.int .i64 xv_0.Op), .v (.int .i64 xv_0.N)]), (3, .ptr 3 0), (4, .v (.bool false)), (7, .osl 1 1 (Int.toNat (IntKind.i64.wrap ((List.length mv_0.stack : Int) - 2))) (Int.toNat (List.length mv_0.stack : Int) - Int.toNat (IntKind.i64.wrap ((List.length mv_0.stack : Int) - 2)))), (8, .v (.int .i64 xv_2)), (9, .v (.int .i64 xv_3)), (10, .ptr 3 0), (11, .v (.int .i64 xv_0.Op)), (12, .v (.bool (xv_0.Op == 1))), (13, .v (.bool (xv_0.Op == 1))), (18, .v (.bool (xv_0.Op == 2))), (19, .v (.bool (xv_0.Op == 2))), (27, .v (.bool (xv_0.Op == 3))), (28, .v (.bool (xv_0.Op == 3))), (36, .v (.bool (xv_0.Op == 11))), (37, .v (.bool (xv_0.Op == 11))), (51, .v (.bool (xv_0.Op == 12))), (52, .v (.bool (xv_0.Op == 12))), (53, .ptr 0 0), (54, .osl 1 1 (Int.toNat (IntKind.i64.wrap ((List.length mv_0.stack : Int) - 2))) (Int.toNat (List.length mv_0.stack : Int) - Int.toNat (IntKind.i64.wrap ((List.length mv_0.stack : Int) - 2)))), (55, .osl 1 1 (Int.toNat (IntKind.i64.wrap ((List.length mv_0.stack : Int) - 2))) (Int.toNat (List.length mv_0.stack : Int) - Int.toNat (IntKind.i64.wrap ((List.length mv_0.stack : Int) - 2)))), (56, .v (.bool true)), (57, .osl 1 1 (Int.toNat (IntKind.i64.wrap ((List.length mv_0.stack : Int) - 2))) (Int.toNat (List.length mv_0.stack : Int) - Int.toNat (IntKind.i64.wrap ((List.length mv_0.stack : Int) - 2)))), (59, .v (.int .i64 xv_2)), (60, .osl 1 1 (Int.toNat (IntKind.i64.wrap ((List.length mv_0.stack : Int) - 2))) (Int.toNat (List.length mv_0.stack : Int) - Int.toNat (IntKind.i64.wrap ((List.length mv_0.stack : Int) - 2)))), (62, .v (.int .i64 xv_3)), (63, .ptr 0 0), (64, .v (.int .i64 xv_3))], [(0, .box [.v (.int .i64 mv_0.r.K), .v (.int .i64 mv_0.r.V), .osl 1 1 (0) (List.length (List.take (Int.toNat (IntKind.i64.wrap ((List.length mv_0.stack : Int) - 2))) mv_0.stack)), .osl 2 2 (0) (List.length mv_0.out), .v (.int .i64 mv_0.at_), .v (.int .i64 mv_0.bad)]), (1, .arr 1 (enc (List.take (Int.toNat (IntKind.i64.wrap ((List.length mv_0.stack : Int) - 2))) mv_0.stack))), (2, .arr 2 (enc mv_0.out)), (3, .box [.v (.int .i64 xv_0.Op), .v (.int .i64 xv_0.N)])], 4, 73⟩ : St)) (l := [some 3]) (args' := [.ptr 0 0, .v (.int .i64 xv_3)]) ?_ ?_ ?_
       · simp only [go_sem, Le] <;> (repeat' apply And.intro) <;> first | (with_reducible exact TL_enc _ _) | ((try with_reducible refine TL_eq ?_); omega) | ((try with_reducible refine TL_eq ?_); (simp [go_sem]; done)) | ((try with_reducible refine TL_eq ?_); (simp [enc_len, enc]; omega))
       · simp only [go_sem, Le]
       refine callD [0, 1, 2] (f_prog_machine_push_p0_s0_2_s0_3_det (⟨mv_0.r, (List.take (Int.toNat (IntKind.i64.wrap ((List.length mv_0.stack : Int) - 2))) mv_0.stack), mv_0.out, mv_0.at_, mv_0.bad⟩ : GProg_machine) xv_3 v_5 ev_5) (by simp) rfl ⟨rfl, ⟨rfl, ⟨rfl, trivial⟩⟩⟩ rfl rfl rfl rfl ?_
       simp only [go_sem]
       refine seqQ_normal hQ43 ?_
       obtain ⟨v_6, ev_6, h⟩ := bindO_some h
       simp only [go_sem]
       refine callD [0, 4, 5] (f_prog_machine_push_p0_s0_2_s0_3_det v_5 xv_2 v_6 ev_6) (by simp) rfl ⟨rfl, ⟨rfl, ⟨rfl, trivial⟩⟩⟩ rfl rfl rfl rfl ?_
       simp only [go_sem]
       refine blockQ_normal hQ4 ?_
       refine seqQ_normal hQ2 ?_
       refine sg fun QQ44 hQ44 => ?_
       simp only [go_sem]
       refine seqQ_normal hQ44 ?_
       refine vc_ret_of ?_
       simp only [go_sem]
       obtain rfl := Option.some.inj h
       refine retW_det [some 6, some 7] ?_
       simp only [go_sem, Le] <;> (repeat' apply And.intro) <;> first | ((try with_reducible refine TL_eq ?_); omega) | ((try with_reducible refine TL_eq ?_); (simp [go_sem]; done))
     ·
      replace h := if_f h hb_5
      simp only [bool_to_prop] at hb_5
      refine sg fun QQ45 hQ45 => ?_
      simp only [go_sem]
      refine seqQ_normal hQ45 ?_
      refine vc_cond_of (b := (xv_0.Op == 13)) (by (simp only [go_sem]; done)) (fun hb_7 => ?_) (fun hb_7 => ?_)
      ·
       replace h := if_t h hb_7
       simp only [bool_to_prop] at hb_7
       simp only [go_sem]
       refine callF_inl Try.func234 rfl (by kernel_rfl) (by kernel_rfl) ?_
       refine sg fun QQ46 hQ46 => ?_
       simp only [go_sem]
       refine seqQ_normal hQ46 ?_
       refine sg fun QQ47 hQ47 => ?_
       simp only [go_sem]
       refine seqQ_normal hQ47 ?_
       refine sg fun QQ48 hQ48 => ?_
       refine sg fun QQ49 hQ49 => ?_
       simp only [go_sem]
       refine seqQ_normal hQ49 ?_
       refine vc_cond_of (b := (decide ((IntKind.i64.wrap ((List.length mv_0.stack : Int) - 1)) < 0))) (by (simp only [go_sem]; done)) (fun hb_8 => ?_) (fun hb_8 => ?_)
       ·
        replace h := if_t h hb_8
        simp only [bool_to_prop] at hb_8
        refine sg fun QQ50 hQ50 => ?_
        simp only [go_sem]
        refine seqQ_normal hQ50 ?_
        refine sg fun QQ51 hQ51 => ?_
        simp only [go_sem]
        refine seqQ_normal hQ51 ?_
        refine vc_ret_of ?_
        refine seqQ_ret hQ48 ?_
        simp only [go_sem]
        refine retW_inl [] [(0, .box [.v (.int .i64 mv_0.r.K), .v (.int .i64 mv_0.r.V), .osl 1 1 (0) (List.length mv_0.stack), .osl 2 2 (0) (List.length mv_0.out), .v (.int .i64 mv_0.at_), .v (.int .i64 1)]), (1, .arr 1 (enc mv_0.stack)), (2, .arr 2 (enc mv_0.out)), (3, .box [.v (.int .i64 xv_0.Op), .v (.int .i64 xv_0.N)])] 4 (.v (.slice none 0 0)) ?_ ?_
        · simp only [go_sem, Le] <;> (repeat' apply And.intro) <;> first | ((try with_reducible refine TL_eq ?_); omega) | ((try with_reducible refine TL_eq ?_); (simp [go_sem]; done))
        refine inlK_of ?_
        simp only [go_sem]
        refine blockQ_normal hQ4 ?_
        refine seqQ_normal hQ2 ?_
        refine sg fun QQ52 hQ52 => ?_
        simp only [go_sem]
        refine seqQ_normal hQ52 ?_
        refine vc_ret_of ?_
        simp only [go_sem]
        obtain rfl := Option.some.inj h
        refine retW_det [some 1, some 2] ?_
        simp only [go_sem, Le] <;> (repeat' apply And.intro) <;> first | ((try with_reducible refine TL_eq ?_); omega) | ((try with_reducible refine TL_eq ?_); (simp [go_sem]; done))
       ·
        replace h := if_f h hb_8
        simp only [bool_to_prop] at hb_8
        refine vc_skip_of ?_
        refine seqQ_normal hQ48 ?_
        refine sg fun QQ53 hQ53 => ?_
        refine vc_draw ?_
        refine drawM_tail 15 [0, 1, 3, 7, 0, 0, 32, 96, 224, 480, 0, 1024, 3072, 7168, 15360, 32767, 65535] mixed (by kernel_rfl) (of_decide_eq_true (by kernel_rfl)) (by kernel_rfl) ?_
        obtain ⟨g_6, h⟩ := guardO_some h
        simp only [go_sem, g_6]
        refine seqQ_normal hQ53 ?_
        refine sg fun QQ54 hQ54 => ?_
        obtain ⟨g_7, h⟩ := guardO_some h
        simp only [go_sem, g_7]
        refine seqQ_normal hQ54 ?_
        refine sg fun QQ55 hQ55 => ?_
        simp only [go_sem]
        refine seqQ_normal hQ55 ?_
        refine vc_ret_of ?_
        simp only [go_sem]
        refine retW_inl [] [(0, .box [.v (.int .i64 mv_0.r.K), .v (.int .i64 mv_0.r.V), .osl 1 1 (0) (Int.toNat (IntKind.i64.wrap ((List.length mv_0.stack : Int) - 1))), .osl 2 2 (0) (List.length mv_0.out), .v (.int .i64 mv_0.at_), .v (.int .i64 mv_0.bad)]), (1, .arr 1 (enc mv_0.stack)), (2, .arr 2 (enc mv_0.out)), (3, .box [.v (.int .i64 xv_0.Op), .v (.int .i64 xv_0.N)])] 4 (.osl 1 1 (Int.toNat (IntKind.i64.wrap ((List.length mv_0.stack : Int) - 1))) (Int.toNat (List.length mv_0.stack : Int) - Int.toNat (IntKind.i64.wrap ((List.length mv_0.stack : Int) - 1)))) ?_ ?_
        · simp only [go_sem, Le] <;> (repeat' apply And.intro) <;> first | ((try with_reducible refine TL_eq ?_); omega) | ((try with_reducible refine TL_eq ?_); (simp [go_sem]; done))
        refine inlK_of ?_
        simp only [go_sem]
        refine blockQ_normal hQ4 ?_
        refine seqQ_normal hQ2 ?_
        refine sg fun QQ56 hQ56 => ?_
        simp only [go_sem]
        refine seqQ_normal hQ56 ?_
        refine vc_ret_of ?_
        simp only [go_sem]
        obtain rfl := Option.some.inj h
        refine retW_det [some 1, some 2] ?_
        simp only [go_sem, Le] <;> (repeat' apply And.intro) <;> first | (with_reducible exact TL_enc _ _) | ((try with_reducible refine TL_eq ?_); omega) | ((try with_reducible refine TL_eq ?_); (simp [go_sem]; done)) | ((try with_reducible refine TL_eq ?_); (simp [enc_len, enc]; omega))
      ·
       replace h := if_f h hb_7
       simp only [bool_to_prop] at hb_7
       refine sg fun QQ57 hQ57 => ?_
       simp only [go_sem]
       refine seqQ_normal hQ57 ?_
       refine vc_ret_of ?_
       refine blockQ_ret hQ4 ?_
       refine seqQ_ret hQ2 ?_
       simp only [go_sem]
       obtain rfl := Option.some.inj h
       refine retW_det [some 1, some 2] ?_
       simp only [go_sem, Le] <;> (repeat' apply And.intro) <;> first | ((try with_reducible refine TL_eq ?_); omega) | ((try with_reducible refine TL_eq ?_); (simp [go_sem]; done))

def f_prog_times_1 (nv_0 : Int) : Option Int :=
 (if (decide (nv_0 < 0)) = true then some (IntKind.u64.wrap (0 - (IntKind.u64.wrap nv_0)))
 else some (IntKind.u64.wrap nv_0))
theorem f_prog_times_1_ok (nv_0 : Int)  (r : Int) (h : f_prog_times_1 nv_0 = some r) : PureS Try.prog 241 [.v (.int .i64 nv_0)] 0 (.v (.int .u64 r)) := by
 unfold PureS
 refine Spec.of_vc Try.func241 rfl (by kernel_rfl) (by kernel_rfl) ?_
 rw [f_prog_times_1] at h
 refine sg fun QQ1 hQ1 => ?_
 simp only [go_sem]
 refine seqQ_normal hQ1 ?_
 refine sg fun QQ2 hQ2 => ?_
 refine sg fun QQ3 hQ3 => ?_
 simp only [go_sem]
 refine seqQ_normal hQ3 ?_
 refine vc_cond_of (b := (decide (nv_0 < 0))) (by (simp only [go_sem]; done)) (fun hb_0 => ?_) (fun hb_0 => ?_)
 ·
  replace h := if_t h hb_0
  simp only [bool_to_prop] at hb_0
  refine sg fun QQ4 hQ4 => ?_
  simp only [go_sem]
  refine seqQ_normal hQ4 ?_
  refine vc_ret_of ?_
  refine seqQ_ret hQ2 ?_
  simp only [go_sem]
  obtain rfl := Option.some.inj h
  refine retW_pure rfl ?_
  simp only [go_sem, Le]
 ·
  replace h := if_f h hb_0
  simp only [bool_to_prop] at hb_0
  refine vc_skip_of ?_
  refine seqQ_normal hQ2 ?_
  refine sg fun QQ5 hQ5 => ?_
  simp only [go_sem]
  refine seqQ_normal hQ5 ?_
  refine vc_ret_of ?_
  simp only [go_sem]
  obtain rfl := Option.some.inj h
  refine retW_pure rfl ?_
  simp only [go_sem, Le]

def f_math_bits_Mul64 (xv_0 : Int) (y_0 : Int) : Option (Int × Int) :=
 some (IntKind.u64.wrap ((IntKind.u64.wrap ((IntKind.u64.wrap ((shrI .u64 xv_0 32) * (shrI .u64 y_0 32))) + (shrI .u64 (IntKind.u64.wrap ((IntKind.u64.wrap ((shrI .u64 xv_0 32) * (andI .u64 y_0 4294967295))) + (shrI .u64 (IntKind.u64.wrap ((andI .u64 xv_0 4294967295) * (andI .u64 y_0 4294967295))) 32))) 32))) + (shrI .u64 (IntKind.u64.wrap ((andI .u64 (IntKind.u64.wrap ((IntKind.u64.wrap ((shrI .u64 xv_0 32) * (andI .u64 y_0 4294967295))) + (shrI .u64 (IntKind.u64.wrap ((andI .u64 xv_0 4294967295) * (andI .u64 y_0 4294967295))) 32))) 4294967295) + (IntKind.u64.wrap ((andI .u64 xv_0 4294967295) * (shrI .u64 y_0 32))))) 32)), IntKind.u64.wrap (xv_0 * y_0))
theorem f_math_bits_Mul64_ok (xv_0 : Int) (y_0 : Int)  (r : Int × Int) (h : f_math_bits_Mul64 xv_0 y_0 = some r) : PureS Try.prog 224 [.v (.int .u64 xv_0), .v (.int .u64 y_0)] 0 (.tup [.v (.int .u64 r.1), .v (.int .u64 r.2)]) := by
 unfold PureS
 refine Spec.of_vc Try.func224 rfl (by kernel_rfl) (by kernel_rfl) ?_
 rw [f_math_bits_Mul64] at h
 refine sg fun QQ1 hQ1 => ?_
 simp only [go_sem]
 refine seqQ_normal hQ1 ?_
 refine sg fun QQ2 hQ2 => ?_
 simp only [go_sem]
 refine seqQ_normal hQ2 ?_
 refine sg fun QQ3 hQ3 => ?_
 simp only [go_sem]
 refine seqQ_normal hQ3 ?_
 refine sg fun QQ4 hQ4 => ?_
 simp only [go_sem]
 refine seqQ_normal hQ4 ?_
 refine sg fun QQ5 hQ5 => ?_
 simp only [go_sem]
 refine seqQ_normal hQ5 ?_
 refine sg fun QQ6 hQ6 => ?_
 simp only [go_sem]
 refine seqQ_normal hQ6 ?_
 refine sg fun QQ7 hQ7 => ?_
 simp only [go_sem]
 refine seqQ_normal hQ7 ?_
 refine sg fun QQ8 hQ8 => ?_
 simp only [go_sem]
 refine seqQ_normal hQ8 ?_
 refine sg fun QQ9 hQ9 => ?_
 simp only [go_sem]
 refine seqQ_normal hQ9 ?_
 refine sg fun QQ10 hQ10 => ?_
 simp only [go_sem]
 refine seqQ_normal hQ10 ?_
 refine sg fun QQ11 hQ11 => ?_
 simp only [go_sem]
 refine seqQ_normal hQ11 ?_
 refine sg fun QQ12 hQ12 => ?_
 simp only [go_sem]
 refine seqQ_normal hQ12 ?_
 refine vc_ret_of ?_
 simp only [go_sem]
 obtain rfl := Option.some.inj h
 refine retW_pure rfl ?_
 simp only [go_sem, Le]

def f_prog_times (a_0 : Int) (b_0 : Int) : Option (Int × Bool) :=
 bindO (f_prog_times_1 a_0) (fun (v_0 : Int) =>
 bindO (f_prog_times_1 b_0) (fun (v_1 : Int) =>
 bindO (f_math_bits_Mul64 v_0 v_1) (fun (v_2 : Int × Int) =>
 (if (!((decide (a_0 < 0)) == (decide (b_0 < 0)))) = true then some (IntKind.i64.wrap (0 - (IntKind.i64.wrap v_2.2)), ((v_2.1 == 0) && (decide (v_2.2 ≤ 9223372036854775808))))
 else some (IntKind.i64.wrap v_2.2, ((v_2.1 == 0) && (decide (v_2.2 < 9223372036854775808))))))))
theorem f_prog_times_ok (a_0 : Int) (b_0 : Int)  (r : Int × Bool) (h : f_prog_times a_0 b_0 = some r) : PureS Try.prog 239 [.v (.int .i64 a_0), .v (.int .i64 b_0)] 0 (.tup [.v (.int .i64 r.1), .v (.bool r.2)]) := by
 unfold PureS
 refine Spec.of_vc Try.func239 rfl (by kernel_rfl) (by kernel_rfl) ?_
 rw [f_prog_times] at h
 refine sg fun QQ1 hQ1 => ?_
 simp only [go_sem]
 refine seqQ_normal hQ1 ?_
 refine sg fun QQ2 hQ2 => ?_
 simp only [go_sem]
 refine seqQ_normal hQ2 ?_
 refine sg fun QQ3 hQ3 => ?_
 obtain ⟨v_0, ev_0, h⟩ := bindO_some h
 simp only [go_sem]
 refine call0 (f_prog_times_1_ok a_0 v_0 ev_0) (by rfl) (by rfl) ?_
 obtain ⟨v_1, ev_1, h⟩ := bindO_some h
 simp only [go_sem]
 refine call0 (f_prog_times_1_ok b_0 v_1 ev_1) (by rfl) (by rfl) ?_
 obtain ⟨v_2, ev_2, h⟩ := bindO_some h
 simp only [go_sem]
 refine call0 (f_math_bits_Mul64_ok v_0 v_1 v_2 ev_2) (by rfl) (by rfl) ?_
 simp only [go_sem]
 refine seqQ_normal hQ3 ?_
 refine sg fun QQ4 hQ4 => ?_
 refine sg fun QQ5 hQ5 => ?_
 simp only [go_sem]
 refine seqQ_normal hQ5 ?_
 refine vc_cond_of (b := (!((decide (a_0 < 0)) == (decide (b_0 < 0))))) (by (simp only [go_sem]; done)) (fun hb_0 => ?_) (fun hb_0 => ?_)
 ·
  replace h := if_t h hb_0
  simp only [bool_to_prop] at hb_0
  refine sg fun QQ6 hQ6 => ?_
  simp only [go_sem]
  refine seqQ_normal hQ6 ?_
  refine vc_ret_of ?_
  refine seqQ_ret hQ4 ?_
  simp only [go_sem]
  obtain rfl := Option.some.inj h
  refine retW_pure rfl ?_
  simp only [go_sem, Le]
 ·
  replace h := if_f h hb_0
  simp only [bool_to_prop] at hb_0
  refine vc_skip_of ?_
  refine seqQ_normal hQ4 ?_
  refine sg fun QQ7 hQ7 => ?_
  simp only [go_sem]
  refine seqQ_normal hQ7 ?_
  refine vc_ret_of ?_
  simp only [go_sem]
  obtain rfl := Option.some.inj h
  refine retW_pure rfl ?_
  simp only [go_sem, Le]

def f_prog_truth (ok_0 : Bool) : Option Int :=
 (if ok_0 = true then some 1
 else some 0)
theorem f_prog_truth_ok (ok_0 : Bool)  (r : Int) (h : f_prog_truth ok_0 = some r) : PureS Try.prog 240 [.v (.bool ok_0)] 0 (.v (.int .i64 r)) := by
 unfold PureS
 refine Spec.of_vc Try.func240 rfl (by kernel_rfl) (by kernel_rfl) ?_
 rw [f_prog_truth] at h
 refine sg fun QQ1 hQ1 => ?_
 simp only [go_sem]
 refine seqQ_normal hQ1 ?_
 refine sg fun QQ2 hQ2 => ?_
 refine sg fun QQ3 hQ3 => ?_
 simp only [go_sem]
 refine seqQ_normal hQ3 ?_
 refine vc_cond_of (b := ok_0) (by (simp only [go_sem]; done)) (fun hb_0 => ?_) (fun hb_0 => ?_)
 ·
  replace h := if_t h hb_0
  refine sg fun QQ4 hQ4 => ?_
  simp only [go_sem]
  refine seqQ_normal hQ4 ?_
  refine vc_ret_of ?_
  refine seqQ_ret hQ2 ?_
  simp only [go_sem]
  obtain rfl := Option.some.inj h
  refine retW_pure rfl ?_
  simp only [go_sem, Le]
 ·
  replace h := if_f h hb_0
  refine vc_skip_of ?_
  refine seqQ_normal hQ2 ?_
  refine sg fun QQ5 hQ5 => ?_
  simp only [go_sem]
  refine seqQ_normal hQ5 ?_
  refine vc_ret_of ?_
  simp only [go_sem]
  obtain rfl := Option.some.inj h
  refine retW_pure rfl ?_
  simp only [go_sem, Le]

def f_prog_two_J1 (nv_0 : Int) (ok_0 : Bool) : Option (Int × Int) :=
 (if (!ok_0) = true then some (0, 2)
 else some (nv_0, 0))
def f_prog_two_J2 (op_0 : Int) (a_0 : Int) (b_0 : Int) (t53_1 : Bool) : Option (Int × Int) :=
 (if t53_1 = true then (if (b_0 == 0) = true then some (0, 3)
 else (if ((b_0 == (-1)) && (op_0 == 8)) = true then f_prog_two_J1 0 true
 else (if (b_0 == (-1)) = true then f_prog_two_J1 (IntKind.i64.wrap (0 - a_0)) (!(a_0 == (-9223372036854775808)))
 else (if (op_0 == 7) = true then guardO (b_0 ≠ 0) (
 f_prog_two_J1 (IntKind.i64.wrap (Int.tdiv a_0 b_0)) true)
 else guardO (b_0 ≠ 0) (
 f_prog_two_J1 (Int.tmod a_0 b_0) true)))))
 else (if (op_0 == 9) = true then bindO (f_prog_truth (decide (a_0 < b_0))) (fun (v_4 : Int) =>
 f_prog_two_J1 v_4 true)
 else (if (op_0 == 10) = true then bindO (f_prog_truth (a_0 == b_0)) (fun (v_5 : Int) =>
 f_prog_two_J1 v_5 true)
 else f_prog_two_J1 0 true)))
def f_prog_two (op_0 : Int) (a_0 : Int) (b_0 : Int) : Option (Int × Int) :=
 (if (op_0 == 4) = true then f_prog_two_J1 (IntKind.i64.wrap (a_0 + b_0)) ((!((decide (a_0 < 0)) == (decide (b_0 < 0)))) || ((decide ((IntKind.i64.wrap (a_0 + b_0)) < 0)) == (decide (a_0 < 0))))
 else (if (op_0 == 5) = true then f_prog_two_J1 (IntKind.i64.wrap (a_0 - b_0)) (((decide (a_0 < 0)) == (decide (b_0 < 0))) || ((decide ((IntKind.i64.wrap (a_0 - b_0)) < 0)) == (decide (a_0 < 0))))
 else (if (op_0 == 6) = true then bindO (f_prog_times a_0 b_0) (fun (v_3 : Int × Bool) =>
 f_prog_two_J1 v_3.1 v_3.2)
 else (if (op_0 == 7) = true then f_prog_two_J2 op_0 a_0 b_0 (op_0 == 7)
 else f_prog_two_J2 op_0 a_0 b_0 (op_0 == 8)))))
theorem f_prog_two_ok (op_0 : Int) (a_0 : Int) (b_0 : Int)  (r : Int × Int) (h : f_prog_two op_0 a_0 b_0 = some r) : PureS Try.prog 235 [.v (.int .i64 op_0), .v (.int .i64 a_0), .v (.int .i64 b_0)] 0 (.tup [.v (.int .i64 r.1), .v (.int .i64 r.2)]) := by
 unfold PureS
 refine Spec.of_vc Try.func235 rfl (by kernel_rfl) (by kernel_rfl) ?_
 rw [f_prog_two] at h
 refine sg fun QQ1 hQ1 => ?_
 simp only [go_sem]
 refine seqQ_normal hQ1 ?_
 refine sg fun QQ2 hQ2 => ?_
 simp only [go_sem]
 refine seqQ_normal hQ2 ?_
 refine vc_join (by kernel_rfl) ?_
 refine seq_cut_gen (ι := Int × Bool) (fun ((nv_0, ok_0) : Int × Bool) => (⟨0, [(8, .v (.int .i64 nv_0)), (9, .v (.bool ok_0))], [], 0, 97⟩ : St)) (fun ((nv_0, ok_0) : Int × Bool) => f_prog_two_J1 nv_0 ok_0 = some r) ?_ ?_
 ·
  intro QQ7 hQ7
  refine sg fun QQ8 hQ8 => ?_
  simp only [go_sem]
  refine seqQ_normal hQ8 ?_
  refine vc_block_gen ?_
  intro QQ9 hQ9
  refine sg fun QQ10 hQ10 => ?_
  simp only [go_sem]
  refine seqQ_normal hQ10 ?_
  refine vc_cond_of (b := (op_0 == 4)) (by (simp only [go_sem]; done)) (fun hb_13 => ?_) (fun hb_13 => ?_)
  ·
   replace h := if_t h hb_13
   simp only [bool_to_prop] at hb_13
   refine sg fun QQ11 hQ11 => ?_
   simp only [go_sem]
   refine seqQ_normal hQ11 ?_
   simp only [go_sem]
   refine blockQ_normal hQ9 ?_
   refine thenQ_normal hQ7 ?_
   refine ⟨(IntKind.i64.wrap (a_0 + b_0), ((!((decide (a_0 < 0)) == (decide (b_0 < 0)))) || ((decide ((IntKind.i64.wrap (a_0 + b_0)) < 0)) == (decide (a_0 < 0))))), [], ?_, h⟩
   simp only [go_sem, Le]
  ·
   replace h := if_f h hb_13
   simp only [bool_to_prop] at hb_13
   refine sg fun QQ12 hQ12 => ?_
   simp only [go_sem]
   refine seqQ_normal hQ12 ?_
   refine vc_cond_of (b := (op_0 == 5)) (by (simp only [go_sem]; done)) (fun hb_14 => ?_) (fun hb_14 => ?_)
   ·
    replace h := if_t h hb_14
    simp only [bool_to_prop] at hb_14
    refine sg fun QQ13 hQ13 => ?_
    simp only [go_sem]
    refine seqQ_normal hQ13 ?_
    simp only [go_sem]
    refine blockQ_normal hQ9 ?_
    refine thenQ_normal hQ7 ?_
    refine ⟨(IntKind.i64.wrap (a_0 - b_0), (((decide (a_0 < 0)) == (decide (b_0 < 0))) || ((decide ((IntKind.i64.wrap (a_0 - b_0)) < 0)) == (decide (a_0 < 0))))), [], ?_, h⟩
    simp only [go_sem, Le]
   ·
    replace h := if_f h hb_14
    simp only [bool_to_prop] at hb_14
    refine sg fun QQ14 hQ14 => ?_
    simp only [go_sem]
    refine seqQ_normal hQ14 ?_
    refine vc_cond_of (b := (op_0 == 6)) (by (simp only [go_sem]; done)) (fun hb_15 => ?_) (fun hb_15 => ?_)
    ·
     replace h := if_t h hb_15
     simp only [bool_to_prop] at hb_15
     obtain ⟨v_3, ev_3, h⟩ := bindO_some h
     simp only [go_sem]
     refine call0 (f_prog_times_ok a_0 b_0 v_3 ev_3) (by rfl) (by rfl) ?_
     simp only [go_sem]
     refine blockQ_normal hQ9 ?_
     refine thenQ_normal hQ7 ?_
     refine ⟨(v_3.1, v_3.2), [], ?_, h⟩
     simp only [go_sem, Le]
    ·
     replace h := if_f h hb_15
     simp only [bool_to_prop] at hb_15
     refine vc_join (by kernel_rfl) ?_
     refine seq_cut_gen (ι := Bool) (fun (t53_1 : Bool) => (⟨0, [(0, .v (.int .i64 op_0)), (1, .v (.int .i64 a_0)), (2, .v (.int .i64 b_0)), (8, .v (.int .i64 0)), (9, .v (.bool true)), (10, .v (.int .i64 op_0)), (53, .v (.bool t53_1))], [], 0, 97⟩ : St)) (fun (t53_1 : Bool) => f_prog_two_J2 op_0 a_0 b_0 t53_1 = some r) ?_ ?_
     ·
      intro QQ23 hQ23
      refine sg fun QQ24 hQ24 => ?_
      simp only [go_sem]
      refine seqQ_normal hQ24 ?_
      refine vc_cond_of (b := (op_0 == 7)) (by (simp only [go_sem]; done)) (fun hb_24 => ?_) (fun hb_24 => ?_)
      ·
       replace h := if_t h hb_24
       simp only [bool_to_prop] at hb_24
       refine vc_skip_of ?_
       refine thenQ_normal hQ23 ?_
       refine ⟨(op_0 == 7), [], ?_, h⟩
       simp only [go_sem, Le]
      ·
       replace h := if_f h hb_24
       simp only [bool_to_prop] at hb_24
       simp only [go_sem]
       refine thenQ_normal hQ23 ?_
       refine ⟨(op_0 == 8), [], ?_, h⟩
       simp only [go_sem, Le]
     ·
      rintro t53_1 h
      try dsimp only at h
      rw [f_prog_two_J2] at h
      refine vc_cond_of (b := t53_1) (by (simp only [go_sem]; done)) (fun hb_17 => ?_) (fun hb_17 => ?_)
      ·
       replace h := if_t h hb_17
       refine vc_block_gen ?_
       intro QQ15 hQ15
       refine sg fun QQ16 hQ16 => ?_
       simp only [go_sem]
       refine seqQ_normal hQ16 ?_
       refine vc_cond_of (b := (b_0 == 0)) (by (simp only [go_sem]; done)) (fun hb_18 => ?_) (fun hb_18 => ?_)
       ·
        replace h := if_t h hb_18
        simp only [bool_to_prop] at hb_18
        refine sg fun QQ17 hQ17 => ?_
        simp only [go_sem]
        refine seqQ_normal hQ17 ?_
        refine vc_ret_of ?_
        refine blockQ_ret hQ15 ?_
        refine blockQ_ret hQ9 ?_
        refine thenQ_ret hQ7 ?_
        simp only [go_sem]
        obtain rfl := Option.some.inj h
        refine retW_pure rfl ?_
        simp only [go_sem, Le]
       ·
        replace h := if_f h hb_18
        simp only [bool_to_prop] at hb_18
        refine sg fun QQ18 hQ18 => ?_
        simp only [go_sem]
        refine seqQ_normal hQ18 ?_
        refine vc_cond_of (b := ((b_0 == (-1)) && (op_0 == 8))) (by (simp only [go_sem]; done)) (fun hb_19 => ?_) (fun hb_19 => ?_)
        ·
         replace h := if_t h hb_19
         simp only [bool_to_prop] at hb_19
         simp only [go_sem]
         refine blockQ_normal hQ15 ?_
         refine blockQ_normal hQ9 ?_
         refine thenQ_normal hQ7 ?_
         refine ⟨(0, true), [], ?_, h⟩
         simp only [go_sem, Le]
        ·
         replace h := if_f h hb_19
         simp only [bool_to_prop] at hb_19
         refine sg fun QQ19 hQ19 => ?_
         simp only [go_sem]
         refine seqQ_normal hQ19 ?_
         refine vc_cond_of (b := (b_0 == (-1))) (by (simp only [go_sem]; done)) (fun hb_20 => ?_) (fun hb_20 => ?_)
         ·
          replace h := if_t h hb_20
          simp only [bool_to_prop] at hb_20
          simp only [go_sem]
          refine blockQ_normal hQ15 ?_
          refine blockQ_normal hQ9 ?_
          refine thenQ_normal hQ7 ?_
          refine ⟨(IntKind.i64.wrap (0 - a_0), (!(a_0 == (-9223372036854775808)))), [], ?_, h⟩
          simp only [go_sem, Le]
         ·
          replace h := if_f h hb_20
          simp only [bool_to_prop] at hb_20
          refine sg fun QQ20 hQ20 => ?_
          simp only [go_sem]
          refine seqQ_normal hQ20 ?_
          refine vc_cond_of (b := (op_0 == 7)) (by (simp only [go_sem]; done)) (fun hb_21 => ?_) (fun hb_21 => ?_)
          ·
           replace h := if_t h hb_21
           simp only [bool_to_prop] at hb_21
           obtain ⟨g_2, h⟩ := guardO_some h
           simp only [go_sem, g_2]
           refine blockQ_normal hQ15 ?_
           refine blockQ_normal hQ9 ?_
           refine thenQ_normal hQ7 ?_
           refine ⟨(IntKind.i64.wrap (Int.tdiv a_0 b_0), true), [], ?_, h⟩
           simp only [go_sem, Le]
          ·
           replace h := if_f h hb_21
           simp only [bool_to_prop] at hb_21
           obtain ⟨g_3, h⟩ := guardO_some h
           simp only [go_sem, g_3]
           refine blockQ_normal hQ15 ?_
           refine blockQ_normal hQ9 ?_
           refine thenQ_normal hQ7 ?_
           refine ⟨(Int.tmod a_0 b_0, true), [], ?_, h⟩
           simp only [go_sem, Le]
      ·
       replace h := if_f h hb_17
       refine sg fun QQ21 hQ21 => ?_
       simp only [go_sem]
       refine seqQ_normal hQ21 ?_
       refine vc_cond_of (b := (op_0 == 9)) (by (simp only [go_sem]; done)) (fun hb_22 => ?_) (fun hb_22 => ?_)
       ·
        replace h := if_t h hb_22
        simp only [bool_to_prop] at hb_22
        obtain ⟨v_4, ev_4, h⟩ := bindO_some h
        simp only [go_sem]
        refine call0 (f_prog_truth_ok (decide (a_0 < b_0)) v_4 ev_4) (by rfl) (by rfl) ?_
        simp only [go_sem]
        refine blockQ_normal hQ9 ?_
        refine thenQ_normal hQ7 ?_
        refine ⟨(v_4, true), [], ?_, h⟩
        simp only [go_sem, Le]
       ·
        replace h := if_f h hb_22
        simp only [bool_to_prop] at hb_22
        refine sg fun QQ22 hQ22 => ?_
        simp only [go_sem]
        refine seqQ_normal hQ22 ?_
        refine vc_cond_of (b := (op_0 == 10)) (by (simp only [go_sem]; done)) (fun hb_23 => ?_) (fun hb_23 => ?_)
        ·
         replace h := if_t h hb_23
         simp only [bool_to_prop] at hb_23
         obtain ⟨v_5, ev_5, h⟩ := bindO_some h
         simp only [go_sem]
         refine call0 (f_prog_truth_ok (a_0 == b_0) v_5 ev_5) (by rfl) (by rfl) ?_
         simp only [go_sem]
         refine blockQ_normal hQ9 ?_
         refine thenQ_normal hQ7 ?_
         refine ⟨(v_5, true), [], ?_, h⟩
         simp only [go_sem, Le]
        ·
         replace h := if_f h hb_23
         simp only [bool_to_prop] at hb_23
         refine vc_skip_of ?_
         refine blockQ_normal hQ9 ?_
         refine thenQ_normal hQ7 ?_
         refine ⟨(0, true), [], ?_, h⟩
         simp only [go_sem, Le]
 ·
  rintro ⟨nv_0, ok_0⟩ h
  try dsimp only at h
  rw [f_prog_two_J1] at h
  refine sg fun QQ3 hQ3 => ?_
  refine sg fun QQ4 hQ4 => ?_
  simp only [go_sem]
  refine seqQ_normal hQ4 ?_
  refine vc_cond_of (b := (!ok_0)) (by (simp only [go_sem]; done)) (fun hb_12 => ?_) (fun hb_12 => ?_)
  ·
   replace h := if_t h hb_12
   simp only [bool_to_prop] at hb_12
   refine sg fun QQ5 hQ5 => ?_
   simp only [go_sem]
   refine seqQ_normal hQ5 ?_
   refine vc_ret_of ?_
   refine seqQ_ret hQ3 ?_
   simp only [go_sem]
   obtain rfl := Option.some.inj h
   refine retW_pure rfl ?_
   simp only [go_sem, Le]
  ·
   replace h := if_f h hb_12
   simp only [bool_to_prop] at hb_12
   refine vc_skip_of ?_
   refine seqQ_normal hQ3 ?_
   refine sg fun QQ6 hQ6 => ?_
   simp only [go_sem]
   refine seqQ_normal hQ6 ?_
   refine vc_ret_of ?_
   simp only [go_sem]
   obtain rfl := Option.some.inj h
   refine retW_pure rfl ?_
   simp only [go_sem, Le]

def f_prog_machine_step_p0_s0_2_s0_3 (mv_0 : GProg_machine) (xv_0 : GIns) : Option GProg_machine :=
 bindO (f_prog_machine_moves_p0_s0_2_s0_3 (⟨mv_0.r, mv_0.stack, mv_0.out, IntKind.i64.wrap (mv_0.at_ + 1), mv_0.bad⟩ : GProg_machine) xv_0) (fun (v_0 : Bool × GProg_machine) =>
 (if v_0.1 = true then some v_0.2
 else (if (xv_0.Op == 14) = true then some (⟨v_0.2.r, v_0.2.stack, v_0.2.out, xv_0.N, v_0.2.bad⟩ : GProg_machine)
 else (if (xv_0.Op == 15) = true then (if (decide ((IntKind.i64.wrap ((List.length v_0.2.stack : Int) - 1)) < 0)) = true then some (⟨v_0.2.r, v_0.2.stack, v_0.2.out, v_0.2.at_, 1⟩ : GProg_machine)
 else guardO (0 ≤ IntKind.i64.wrap ((List.length v_0.2.stack : Int) - 1) ∧ IntKind.i64.wrap ((List.length v_0.2.stack : Int) - 1) ≤ (List.length v_0.2.stack : Int) ∧ (List.length v_0.2.stack : Int) ≤ (List.length v_0.2.stack : Int) ∧ (List.length v_0.2.stack : Int) ≤ (List.length v_0.2.stack : Int)) (
 guardO (0 ≤ 0 ∧ 0 ≤ IntKind.i64.wrap ((List.length v_0.2.stack : Int) - 1) ∧ IntKind.i64.wrap ((List.length v_0.2.stack : Int) - 1) ≤ (List.length v_0.2.stack : Int)) (
 guardO (0 < Int.toNat (List.length v_0.2.stack : Int) - Int.toNat (IntKind.i64.wrap ((List.length v_0.2.stack : Int) - 1))) (
 bindO (idx (List.take (Int.toNat (List.length v_0.2.stack : Int) - Int.toNat (IntKind.i64.wrap ((List.length v_0.2.stack : Int) - 1))) (List.drop (Int.toNat (IntKind.i64.wrap ((List.length v_0.2.stack : Int) - 1))) v_0.2.stack)) 0) (fun (xv_1 : Int) =>
 (if (xv_1 == 0) = true then some (⟨v_0.2.r, (List.take (Int.toNat (IntKind.i64.wrap ((List.length v_0.2.stack : Int) - 1))) v_0.2.stack), v_0.2.out, xv_0.N, v_0.2.bad⟩ : GProg_machine)
 else some (⟨v_0.2.r, (List.take (Int.toNat (IntKind.i64.wrap ((List.length v_0.2.stack : Int) - 1))) v_0.2.stack), v_0.2.out, v_0.2.at_, v_0.2.bad⟩ : GProg_machine)))))))
 else (if (xv_0.Op == 16) = true then (if (decide ((IntKind.i64.wrap ((List.length v_0.2.stack : Int) - 2)) < 0)) = true then some (⟨v_0.2.r, v_0.2.stack, v_0.2.out, v_0.2.at_, 1⟩ : GProg_machine)
 else guardO (0 ≤ IntKind.i64.wrap ((List.length v_0.2.stack : Int) - 2) ∧ IntKind.i64.wrap ((List.length v_0.2.stack : Int) - 2) ≤ (List.length v_0.2.stack : Int) ∧ (List.length v_0.2.stack : Int) ≤ (List.length v_0.2.stack : Int) ∧ (List.length v_0.2.stack : Int) ≤ (List.length v_0.2.stack : Int)) (
 guardO (0 ≤ 0 ∧ 0 ≤ IntKind.i64.wrap ((List.length v_0.2.stack : Int) - 2) ∧ IntKind.i64.wrap ((List.length v_0.2.stack : Int) - 2) ≤ (List.length v_0.2.stack : Int)) (
 guardO (0 < Int.toNat (List.length v_0.2.stack : Int) - Int.toNat (IntKind.i64.wrap ((List.length v_0.2.stack : Int) - 2))) (
 (if ((List.length v_0.2.out : Int) == 8) = true then some (⟨v_0.2.r, (List.take (Int.toNat (IntKind.i64.wrap ((List.length v_0.2.stack : Int) - 2))) v_0.2.stack), v_0.2.out, v_0.2.at_, 5⟩ : GProg_machine)
 else bindO (idx (List.take (Int.toNat (List.length v_0.2.stack : Int) - Int.toNat (IntKind.i64.wrap ((List.length v_0.2.stack : Int) - 2))) (List.drop (Int.toNat (IntKind.i64.wrap ((List.length v_0.2.stack : Int) - 2))) v_0.2.stack)) 0) (fun (xv_2 : Int) =>
 bindO (idx (List.take (Int.toNat (List.length v_0.2.stack : Int) - Int.toNat (IntKind.i64.wrap ((List.length v_0.2.stack : Int) - 2))) (List.drop (Int.toNat (IntKind.i64.wrap ((List.length v_0.2.stack : Int) - 2))) v_0.2.stack)) 1) (fun (xv_3 : Int) =>
 guardO ((List.length v_0.2.out + List.length ([(⟨xv_2, xv_3⟩ : GRec)] : List GRec)) * 16 ≤ 140737488355328) (
 some (⟨v_0.2.r, (List.take (Int.toNat (IntKind.i64.wrap ((List.length v_0.2.stack : Int) - 2))) v_0.2.stack), (v_0.2.out ++ ([(⟨xv_2, xv_3⟩ : GRec)] : List GRec)), v_0.2.at_, v_0.2.bad⟩ : GProg_machine)))))))))
 else (if (decide ((IntKind.i64.wrap ((List.length v_0.2.stack : Int) - 2)) < 0)) = true then some (⟨v_0.2.r, v_0.2.stack, v_0.2.out, v_0.2.at_, 1⟩ : GProg_machine)
 else guardO (0 ≤ IntKind.i64.wrap ((List.length v_0.2.stack : Int) - 2) ∧ IntKind.i64.wrap ((List.length v_0.2.stack : Int) - 2) ≤ (List.length v_0.2.stack : Int) ∧ (List.length v_0.2.stack : Int) ≤ (List.length v_0.2.stack : Int) ∧ (List.length v_0.2.stack : Int) ≤ (List.length v_0.2.stack : Int)) (
 guardO (0 ≤ 0 ∧ 0 ≤ IntKind.i64.wrap ((List.length v_0.2.stack : Int) - 2) ∧ IntKind.i64.wrap ((List.length v_0.2.stack : Int) - 2) ≤ (List.length v_0.2.stack : Int)) (
 guardO (0 < Int.toNat (List.length v_0.2.stack : Int) - Int.toNat (IntKind.i64.wrap ((List.length v_0.2.stack : Int) - 2))) (
 bindO (idx (List.take (Int.toNat (List.length v_0.2.stack : Int) - Int.toNat (IntKind.i64.wrap ((List.length v_0.2.stack : Int) - 2))) (List.drop (Int.toNat (IntKind.i64.wrap ((List.length v_0.2.stack : Int) - 2))) v_0.2.stack)) 0) (fun (xv_4 : Int) =>
 bindO (idx (List.take (Int.toNat (List.length v_0.2.stack : Int) - Int.toNat (IntKind.i64.wrap ((List.length v_0.2.stack : Int) - 2))) (List.drop (Int.toNat (IntKind.i64.wrap ((List.length v_0.2.stack : Int) - 2))) v_0.2.stack)) 1) (fun (xv_5 : Int) =>
 bindO (f_prog_two xv_0.Op xv_4 xv_5) (fun (v_1 : Int × Int) =>
 bindO (f_prog_machine_push_p0_s0_2_s0_3 (⟨v_0.2.r, (List.take (Int.toNat (IntKind.i64.wrap ((List.length v_0.2.stack : Int) - 2))) v_0.2.stack), v_0.2.out, v_0.2.at_, v_1.2⟩ : GProg_machine) v_1.1) (fun (v_2 : GProg_machine) =>
 some v_2)))))))))))))
theorem f_prog_machine_step_p0_s0_2_s0_3_det (mv_0 : GProg_machine) (xv_0 : GIns)  (r : GProg_machine) (h : f_prog_machine_step_p0_s0_2_s0_3 mv_0 xv_0 = some r) : DetS Try.prog 223 [.ptr 0 0, .agg [.v (.int .i64 xv_0.Op), .v (.int .i64 xv_0.N)]] [(0, .box [.v (.int .i64 mv_0.r.K), .v (.int .i64 mv_0.r.V), .osl 1 1 (0) (List.length mv_0.stack), .osl 2 2 (0) (List.length mv_0.out), .v (.int .i64 mv_0.at_), .v (.int .i64 mv_0.bad)]), (1, .arr 1 (enc mv_0.stack)), (2, .arr 2 (enc mv_0.out))] 3 (.tup []) [(0, .box [.v (.int .i64 r.r.K), .v (.int .i64 r.r.V), .osl 3 1 (0) (List.length r.stack), .osl 4 2 (0) (List.length r.out), .v (.int .i64 r.at_), .v (.int .i64 r.bad)]), (3, .arr 1 (enc r.stack)), (4, .arr 2 (enc r.out))] 5 := by
 unfold DetS
 refine Spec.of_vc Try.func223 rfl (by kernel_rfl) (by kernel_rfl) ?_
 rw [f_prog_machine_step_p0_s0_2_s0_3] at h
 refine sg fun QQ1 hQ1 => ?_
 simp only [go_sem]
 refine seqQ_normal hQ1 ?_
 refine sg fun QQ2 hQ2 => ?_
 simp only [go_sem]
 refine seqQ_normal hQ2 ?_
 refine sg fun QQ3 hQ3 => ?_
 refine sg fun QQ4 hQ4 => ?_
 obtain ⟨v_0, ev_0, h⟩ := bindO_some h
 simp only [go_sem]
 refine callD [0, 1, 2] (f_prog_machine_moves_p0_s0_2_s0_3_det (⟨mv_0.r, mv_0.stack, mv_0.out, IntKind.i64.wrap (mv_0.at_ + 1), mv_0.bad⟩ : GProg_machine) xv_0 v_0 ev_0) (by simp) rfl ⟨rfl, ⟨rfl, ⟨rfl, trivial⟩⟩⟩ rfl rfl rfl rfl ?_
 simp only [go_sem]
 refine seqQ_normal hQ4 ?_
 refine vc_cond_of (b := v_0.1) (by (simp only [go_sem]; done)) (fun hb_0 => ?_) (fun hb_0 => ?_)
 ·
  replace h := if_t h hb_0
  refine vc_ret_of ?_
  refine seqQ_ret hQ3 ?_
  simp only [go_sem]
  obtain rfl := Option.some.inj h
  refine retW_det [some 4, some 5] ?_
  simp only [go_sem, Le] <;> (repeat' apply And.intro) <;> first | ((try with_reducible refine TL_eq ?_); omega) | ((try with_reducible refine TL_eq ?_); (simp [go_sem]; done))
 ·
  replace h := if_f h hb_0
  refine vc_skip_of ?_
  refine seqQ_normal hQ3 ?_
  refine sg fun QQ5 hQ5 => ?_
  simp only [go_sem]
  refine seqQ_normal hQ5 ?_
  refine vc_block_gen ?_
  intro QQ6 hQ6
  refine sg fun QQ7 hQ7 => ?_
  simp only [go_sem]
  refine seqQ_normal hQ7 ?_
  refine vc_cond_of (b := (xv_0.Op == 14)) (by (simp only [go_sem]; done)) (fun hb_1 => ?_) (fun hb_1 => ?_)
  ·
   replace h := if_t h hb_1
   simp only [bool_to_prop] at hb_1
   simp only [go_sem]
   refine blockQ_normal hQ6 ?_
   simp only [go_sem]
   obtain rfl := Option.some.inj h
   refine retW_det [some 4, some 5] ?_
   simp only [go_sem, Le] <;> (repeat' apply And.intro) <;> first | ((try with_reducible refine TL_eq ?_); omega) | ((try with_reducible refine TL_eq ?_); (simp [go_sem]; done))
  ·
   replace h := if_f h hb_1
   simp only [bool_to_prop] at hb_1
   refine sg fun QQ8 hQ8 => ?_
   simp only [go_sem]
   refine seqQ_normal hQ8 ?_
   refine vc_cond_of (b := (xv_0.Op == 15)) (by (simp only [go_sem]; done)) (fun hb_2 => ?_) (fun hb_2 => ?_)
   ·
    replace h := if_t h hb_2
    simp only [bool_to_prop] at hb_2
    refine sg fun QQ9 hQ9 => ?_
    simp only [go_sem]
    refine callF_inl Try.func234 rfl (by kernel_rfl) (by kernel_rfl) ?_
    refine sg fun QQ10 hQ10 => ?_
    simp only [go_sem]
    refine seqQ_normal hQ10 ?_
    refine sg fun QQ11 hQ11 => ?_
    simp only [go_sem]
    refine seqQ_normal hQ11 ?_
    refine sg fun QQ12 hQ12 => ?_
    refine sg fun QQ13 hQ13 => ?_
    simp only [go_sem]
    refine seqQ_normal hQ13 ?_
    refine vc_cond_of (b := (decide ((IntKind.i64.wrap ((List.length v_0.2.stack : Int) - 1)) < 0))) (by (simp only [go_sem]; done)) (fun hb_3 => ?_) (fun hb_3 => ?_)
    ·
     replace h := if_t h hb_3
     simp only [bool_to_prop] at hb_3
     refine sg fun QQ14 hQ14 => ?_
     simp only [go_sem]
     refine seqQ_normal hQ14 ?_
     refine sg fun QQ15 hQ15 => ?_
     simp only [go_sem]
     refine seqQ_normal hQ15 ?_
     refine vc_ret_of ?_
     refine seqQ_ret hQ12 ?_
     simp only [go_sem]
     refine retW_inl [] [(0, .box [.v (.int .i64 v_0.2.r.K), .v (.int .i64 v_0.2.r.V), .osl 4 1 (0) (List.length v_0.2.stack), .osl 5 2 (0) (List.length v_0.2.out), .v (.int .i64 v_0.2.at_), .v (.int .i64 1)]), (3, .box [.v (.int .i64 xv_0.Op), .v (.int .i64 xv_0.N)]), (4, .arr 1 (enc v_0.2.stack)), (5, .arr 2 (enc v_0.2.out))] 6 (.v (.slice none 0 0)) ?_ ?_
     · simp only [go_sem, Le] <;> (repeat' apply And.intro) <;> first | ((try with_reducible refine TL_eq ?_); omega) | ((try with_reducible refine TL_eq ?_); (simp [go_sem]; done))
     refine inlK_of ?_
     simp only [go_sem]
     refine seqQ_normal hQ9 ?_
     refine sg fun QQ16 hQ16 => ?_
     simp only [go_sem]
     refine seqQ_normal hQ16 ?_
     refine vc_cond_f (by (simp only [go_sem]; done)) ?_
     refine vc_skip_of ?_
     refine blockQ_normal hQ6 ?_
     simp only [go_sem]
     obtain rfl := Option.some.inj h
     refine retW_det [some 4, some 5] ?_
     simp only [go_sem, Le] <;> (repeat' apply And.intro) <;> first | ((try with_reducible refine TL_eq ?_); omega) | ((try with_reducible refine TL_eq ?_); (simp [go_sem]; done))
    ·
     replace h := if_f h hb_3
     simp only [bool_to_prop] at hb_3
     refine vc_skip_of ?_
     refine seqQ_normal hQ12 ?_
     refine sg fun QQ17 hQ17 => ?_
     refine vc_draw ?_
     refine drawM_tail 15 [0, 1, 3, 7, 0, 0, 32, 96, 224, 480, 0, 1024, 3072, 7168, 15360, 32767, 65535] mixed (by kernel_rfl) (of_decide_eq_true (by kernel_rfl)) (by kernel_rfl) ?_
     obtain ⟨g_0, h⟩ := guardO_some h
     simp only [go_sem, g_0]
     refine seqQ_normal hQ17 ?_
     refine sg fun QQ18 hQ18 => ?_
     obtain ⟨g_1, h⟩ := guardO_some h
     simp only [go_sem, g_1]
     refine seqQ_normal hQ18 ?_
     refine sg fun QQ19 hQ19 => ?_
     simp only [go_sem]
     refine seqQ_normal hQ19 ?_
     refine vc_ret_of ?_
     simp only [go_sem]
     refine retW_inl [] [(0, .box [.v (.int .i64 v_0.2.r.K), .v (.int .i64 v_0.2.r.V), .osl 4 1 (0) (Int.toNat (IntKind.i64.wrap ((List.length v_0.2.stack : Int) - 1))), .osl 5 2 (0) (List.length v_0.2.out), .v (.int .i64 v_0.2.at_), .v (.int .i64 v_0.2.bad)]), (3, .box [.v (.int .i64 xv_0.Op), .v (.int .i64 xv_0.N)]), (4, .arr 1 (enc v_0.2.stack)), (5, .arr 2 (enc v_0.2.out))] 6 (.osl 4 1 (Int.toNat (IntKind.i64.wrap ((List.length v_0.2.stack : Int) - 1))) (Int.toNat (List.length v_0.2.stack : Int) - Int.toNat (IntKind.i64.wrap ((List.length v_0.2.stack : Int) - 1)))) ?_ ?_
     · simp only [go_sem, Le] <;> (repeat' apply And.intro) <;> first | ((try with_reducible refine TL_eq ?_); omega) | ((try with_reducible refine TL_eq ?_); (simp [go_sem]; done))
     refine inlK_of ?_
     simp only [go_sem]
     refine seqQ_normal hQ9 ?_
     refine sg fun QQ20 hQ20 => ?_
     obtain ⟨g_2, h⟩ := guardO_some h
     obtain ⟨xv_1, exv_1, h⟩ := bindO_some h
     obtain ⟨fxv_1a, fxv_1b, fxv_1c, fxv_1d⟩ := idx_part exv_1
     simp only [Int.toNat_natCast, Int.reduceToNat, Nat.zero_add, Nat.add_zero] at fxv_1c fxv_1d
     simp only [go_sem, g_2, fxv_1a, fxv_1b, fxv_1c, fxv_1d]
     refine And.intro (by omega) ?_
     refine And.intro (by omega) ?_
     refine seqQ_normal hQ20 ?_
     refine vc_cond_of (b := (xv_1 == 0)) (by (simp only [go_sem]; done)) (fun hb_4 => ?_) (fun hb_4 => ?_)
     ·
      replace h := if_t h hb_4
      simp only [bool_to_prop] at hb_4
      simp only [go_sem]
      refine blockQ_normal hQ6 ?_
      simp only [go_sem]
      obtain rfl := Option.some.inj h
      refine retW_det [some 4, some 5] ?_
      simp only [go_sem, Le] <;> (repeat' apply And.intro) <;> first | (with_reducible exact TL_enc _ _) | ((try with_reducible refine TL_eq ?_); omega) | ((try with_reducible refine TL_eq ?_); (simp [go_sem]; done)) | ((try with_reducible refine TL_eq ?_); (simp [enc_len, enc]; omega))
     ·
      replace h := if_f h hb_4
      simp only [bool_to_prop] at hb_4
      refine vc_skip_of ?_
      refine blockQ_normal hQ6 ?_
      simp only [go_sem]
      obtain rfl := Option.some.inj h
      refine retW_det [some 4, some 5] ?_
      simp only [go_sem, Le] <;> (repeat' apply And.intro) <;> first | (with_reducible exact TL_enc _ _) | ((try with_reducible refine TL_eq ?_); omega) | ((try with_reducible refine TL_eq ?_); (simp [go_sem]; done)) | ((try with_reducible refine TL_eq ?_); (simp [enc_len, enc]; omega))
   ·
    replace h := if_f h hb_2
    simp only [bool_to_prop] at hb_2
    refine sg fun QQ21 hQ21 => ?_
    simp only [go_sem]
    refine seqQ_normal hQ21 ?_
    refine vc_cond_of (b := (xv_0.Op == 16)) (by (simp only [go_sem]; done)) (fun hb_5 => ?_) (fun hb_5 => ?_)
    ·
     replace h := if_t h hb_5
     simp only [bool_to_prop] at hb_5
     refine sg fun QQ22 hQ22 => ?_
     simp only [go_sem]
     refine callF_inl Try.func234 rfl (by kernel_rfl) (by kernel_rfl) ?_
     refine sg fun QQ23 hQ23 => ?_
     simp only [go_sem]
     refine seqQ_normal hQ23 ?_
     refine sg fun QQ24 hQ24 => ?_
     simp only [go_sem]
     refine seqQ_normal hQ24 ?_
     refine sg fun QQ25 hQ25 => ?_
     refine sg fun QQ26 hQ26 => ?_
     simp only [go_sem]
     refine seqQ_normal hQ26 ?_
     refine vc_cond_of (b := (decide ((IntKind.i64.wrap ((List.length v_0.2.stack : Int) - 2)) < 0))) (by (simp only [go_sem]; done)) (fun hb_6 => ?_) (fun hb_6 => ?_)
     ·
      replace h := if_t h hb_6
      simp only [bool_to_prop] at hb_6
      refine sg fun QQ27 hQ27 => ?_
      simp only [go_sem]
      refine seqQ_normal hQ27 ?_
      refine sg fun QQ28 hQ28 => ?_
      simp only [go_sem]
      refine seqQ_normal hQ28 ?_
      refine vc_ret_of ?_
      refine seqQ_ret hQ25 ?_
      simp only [go_sem]
      refine retW_inl [] [(0, .box [.v (.int .i64 v_0.2.r.K), .v (.int .i64 v_0.2.r.V), .osl 4 1 (0) (List.length v_0.2.stack), .osl 5 2 (0) (List.length v_0.2.out), .v (.int .i64 v_0.2.at_), .v (.int .i64 1)]), (3, .box [.v (.int .i64 xv_0.Op), .v (.int .i64 xv_0.N)]), (4, .arr 1 (enc v_0.2.stack)), (5, .arr 2 (enc v_0.2.out))] 6 (.v (.slice none 0 0)) ?_ ?_
      · simp only [go_sem, Le] <;> (repeat' apply And.intro) <;> first | ((try with_reducible refine TL_eq ?_); omega) | ((try with_reducible refine TL_eq ?_); (simp [go_sem]; done))
      refine inlK_of ?_
      simp only [go_sem]
      refine seqQ_normal hQ22 ?_
      refine vc_block_gen ?_
      intro QQ29 hQ29
      refine sg fun QQ30 hQ30 => ?_
      simp only [go_sem]
      refine seqQ_normal hQ30 ?_
      refine vc_cond_t (by (simp only [go_sem]; done)) ?_
      refine vc_skip_of ?_
      refine blockQ_normal hQ29 ?_
      refine blockQ_normal hQ6 ?_
      simp only [go_sem]
      obtain rfl := Option.some.inj h
      refine retW_det [some 4, some 5] ?_
      simp only [go_sem, Le] <;> (repeat' apply And.intro) <;> first | ((try with_reducible refine TL_eq ?_); omega) | ((try with_reducible refine TL_eq ?_); (simp [go_sem]; done))
     ·
      replace h := if_f h hb_6
      simp only [bool_to_prop] at hb_6
      refine vc_skip_of ?_
      refine seqQ_normal hQ25 ?_
      refine sg fun QQ31 hQ31 => ?_
      refine vc_draw ?_
      refine drawM_tail 15 [0, 1, 3, 7, 0, 0, 32, 96, 224, 480, 0, 1024, 3072, 7168, 15360, 32767, 65535] mixed (by kernel_rfl) (of_decide_eq_true (by kernel_rfl)) (by kernel_rfl) ?_
      obtain ⟨g_3, h⟩ := guardO_some h
      simp only [go_sem, g_3]
      refine seqQ_normal hQ31 ?_
      refine sg fun QQ32 hQ32 => ?_
      obtain ⟨g_4, h⟩ := guardO_some h
      simp only [go_sem, g_4]
      refine seqQ_normal hQ32 ?_
      refine sg fun QQ33 hQ33 => ?_
      simp only [go_sem]
      refine seqQ_normal hQ33 ?_
      refine vc_ret_of ?_
      simp only [go_sem]
      refine retW_inl [] [(0, .box [.v (.int .i64 v_0.2.r.K), .v (.int .i64 v_0.2.r.V), .osl 4 1 (0) (Int.toNat (IntKind.i64.wrap ((List.length v_0.2.stack : Int) - 2))), .osl 5 2 (0) (List.length v_0.2.out), .v (.int .i64 v_0.2.at_), .v (.int .i64 v_0.2.bad)]), (3, .box [.v (.int .i64 xv_0.Op), .v (.int .i64 xv_0.N)]), (4, .arr 1 (enc v_0.2.stack)), (5, .arr 2 (enc v_0.2.out))] 6 (.osl 4 1 (Int.toNat (IntKind.i64.wrap ((List.length v_0.2.stack : Int) - 2))) (Int.toNat (List.length v_0.2.stack : Int) - Int.toNat (IntKind.i64.wrap ((List.length v_0.2.stack : Int) - 2)))) ?_ ?_
      · simp only [go_sem, Le] <;> (repeat' apply And.intro) <;> first | ((try with_reducible refine TL_eq ?_); omega) | ((try with_reducible refine TL_eq ?_); (simp [go_sem]; done))
      refine inlK_of ?_
      simp only [go_sem]
      refine seqQ_normal hQ22 ?_
      refine vc_block_gen ?_
      intro QQ34 hQ34
      refine sg fun QQ35 hQ35 => ?_
      obtain ⟨g_5, h⟩ := guardO_some h
      simp only [go_sem, g_5]
      refine And.intro (by omega) ?_
      refine seqQ_normal hQ35 ?_
      refine vc_cond_f (by (simp only [go_sem]; done)) ?_
      refine sg fun QQ36 hQ36 => ?_
      simp only [go_sem]
      refine seqQ_normal hQ36 ?_
      refine vc_cond_of (b := ((List.length v_0.2.out : Int) == 8)) (by (simp only [go_sem]; done)) (fun hb_7 => ?_) (fun hb_7 => ?_)
      ·
       replace h := if_t h hb_7
       simp only [bool_to_prop] at hb_7
       simp only [go_sem]
       refine blockQ_normal hQ34 ?_
       refine blockQ_normal hQ6 ?_
       simp only [go_sem]
       obtain rfl := Option.some.inj h
       refine retW_det [some 4, some 5] ?_
       simp only [go_sem, Le] <;> (repeat' apply And.intro) <;> first | (with_reducible exact TL_enc _ _) | ((try with_reducible refine TL_eq ?_); omega) | ((try with_reducible refine TL_eq ?_); (simp [go_sem]; done)) | ((try with_reducible refine TL_eq ?_); (simp [enc_len, enc]; omega))
      ·
       replace h := if_f h hb_7
       simp only [bool_to_prop] at hb_7
       refine vc_draw ?_
       refine drawV_all 14 0 [0, 0, 2, 6, 14, 0, 32, 96, 0, 256, 768, 2016, 4064, 8190, 16383, 32767, 65535] [5, 6] [0] [13] [] mixed (by kernel_rfl) (of_decide_eq_true (by kernel_rfl)) (by kernel_rfl) (by kernel_rfl) (by rfl) ?_
       obtain ⟨xv_2, exv_2, h⟩ := bindO_some h
       obtain ⟨fxv_2a, fxv_2b, fxv_2c, fxv_2d⟩ := idx_part exv_2
       simp only [Int.toNat_natCast, Int.reduceToNat, Nat.zero_add, Nat.add_zero] at fxv_2c fxv_2d
       obtain ⟨xv_3, exv_3, h⟩ := bindO_some h
       obtain ⟨fxv_3a, fxv_3b, fxv_3c, fxv_3d⟩ := idx_part exv_3
       simp only [Int.toNat_natCast, Int.reduceToNat, Nat.zero_add, Nat.add_zero] at fxv_3c fxv_3d
       have rf_0 : [[.v (.int .i64 xv_2), .v (.int .i64 xv_3)]] = enc ([(⟨xv_2, xv_3⟩ : GRec)] : List GRec) := by rfl
       obtain ⟨g_6, h⟩ := guardO_some h
       simp only [List.length_cons, List.length_nil, Nat.zero_add, List.length_append] at g_6
       have rf_1 : enc v_0.2.out ++ [[.v (.int .i64 xv_2), .v (.int .i64 xv_3)]] = enc (v_0.2.out ++ ([(⟨xv_2, xv_3⟩ : GRec)] : List GRec)) := by exact (enc_app v_0.2.out ([(⟨xv_2, xv_3⟩ : GRec)] : List GRec)).symm
       simp only [go_sem, fxv_2a, fxv_2b, fxv_2c, fxv_2d, fxv_3a, fxv_3b, fxv_3c, fxv_3d, g_6, rf_1]
       refine And.intro (by omega) ?_
       refine And.intro (by omega) ?_
       simp only [rf_0]
       refine blockQ_normal hQ34 ?_
       refine blockQ_normal hQ6 ?_
       simp only [go_sem]
       obtain rfl := Option.some.inj h
       refine retW_det [some 4, some 6] ?_
       simp only [go_sem, Le] <;> (repeat' apply And.intro) <;> first | (with_reducible exact TL_enc _ _) | ((try with_reducible refine TL_eq ?_); omega) | ((try with_reducible refine TL_eq ?_); (simp [go_sem]; done)) | ((try with_reducible refine TL_eq ?_); (simp [enc_len, enc]; omega))
    ·
     replace h := if_f h hb_5
     simp only [bool_to_prop] at hb_5
     refine sg fun QQ37 hQ37 => ?_
     simp only [go_sem]
     refine callF_inl Try.func234 rfl (by kernel_rfl) (by kernel_rfl) ?_
     refine sg fun QQ38 hQ38 => ?_
     simp only [go_sem]
     refine seqQ_normal hQ38 ?_
     refine sg fun QQ39 hQ39 => ?_
     simp only [go_sem]
     refine seqQ_normal hQ39 ?_
     refine sg fun QQ40 hQ40 => ?_
     refine sg fun QQ41 hQ41 => ?_
     simp only [go_sem]
     refine seqQ_normal hQ41 ?_
     refine vc_cond_of (b := (decide ((IntKind.i64.wrap ((List.length v_0.2.stack : Int) - 2)) < 0))) (by (simp only [go_sem]; done)) (fun hb_8 => ?_) (fun hb_8 => ?_)
     ·
      replace h := if_t h hb_8
      simp only [bool_to_prop] at hb_8
      refine sg fun QQ42 hQ42 => ?_
      simp only [go_sem]
      refine seqQ_normal hQ42 ?_
      refine sg fun QQ43 hQ43 => ?_
      simp only [go_sem]
      refine seqQ_normal hQ43 ?_
      refine vc_ret_of ?_
      refine seqQ_ret hQ40 ?_
      simp only [go_sem]
      refine retW_inl [] [(0, .box [.v (.int .i64 v_0.2.r.K), .v (.int .i64 v_0.2.r.V), .osl 4 1 (0) (List.length v_0.2.stack), .osl 5 2 (0) (List.length v_0.2.out), .v (.int .i64 v_0.2.at_), .v (.int .i64 1)]), (3, .box [.v (.int .i64 xv_0.Op), .v (.int .i64 xv_0.N)]), (4, .arr 1 (enc v_0.2.stack)), (5, .arr 2 (enc v_0.2.out))] 6 (.v (.slice none 0 0)) ?_ ?_
      · simp only [go_sem, Le] <;> (repeat' apply And.intro) <;> first | ((try with_reducible refine TL_eq ?_); omega) | ((try with_reducible refine TL_eq ?_); (simp [go_sem]; done))
      refine inlK_of ?_
      simp only [go_sem]
      refine seqQ_normal hQ37 ?_
      refine sg fun QQ44 hQ44 => ?_
      simp only [go_sem]
      refine seqQ_normal hQ44 ?_
      refine vc_cond_f (by (simp only [go_sem]; done)) ?_
      refine vc_skip_of ?_
      refine blockQ_normal hQ6 ?_
      simp only [go_sem]
      obtain rfl := Option.some.inj h
      refine retW_det [some 4, some 5] ?_
      simp only [go_sem, Le] <;> (repeat' apply And.intro) <;> first | ((try with_reducible refine TL_eq ?_); omega) | ((try with_reducible refine TL_eq ?_); (simp [go_sem]; done))
     ·
      replace h := if_f h hb_8
      simp only [bool_to_prop] at hb_8
      refine vc_skip_of ?_
      refine seqQ_normal hQ40 ?_
      refine sg fun QQ45 hQ45 => ?_
      refine vc_draw ?_
      refine drawM_tail 15 [0, 1, 3, 7, 0, 0, 32, 96, 224, 480, 0, 1024, 3072, 7168, 15360, 32767, 65535] mixed (by kernel_rfl) (of_decide_eq_true (by kernel_rfl)) (by kernel_rfl) ?_
      obtain ⟨g_7, h⟩ := guardO_some h
      simp only [go_sem, g_7]
      refine seqQ_normal hQ45 ?_
      refine sg fun QQ46 hQ46 => ?_
      obtain ⟨g_8, h⟩ := guardO_some h
      simp only [go_sem, g_8]
      refine seqQ_normal hQ46 ?_
      refine sg fun QQ47 hQ47 => ?_
      simp only [go_sem]
      refine seqQ_normal hQ47 ?_
      refine vc_ret_of ?_
      simp only [go_sem]
      refine retW_inl [] [(0, .box [.v (.int .i64 v_0.2.r.K), .v (.int .i64 v_0.2.r.V), .osl 4 1 (0) (Int.toNat (IntKind.i64.wrap ((List.length v_0.2.stack : Int) - 2))), .osl 5 2 (0) (List.length v_0.2.out), .v (.int .i64 v_0.2.at_), .v (.int .i64 v_0.2.bad)]), (3, .box [.v (.int .i64 xv_0.Op), .v (.int .i64 xv_0.N)]), (4, .arr 1 (enc v_0.2.stack)), (5, .arr 2 (enc v_0.2.out))] 6 (.osl 4 1 (Int.toNat (IntKind.i64.wrap ((List.length v_0.2.stack : Int) - 2))) (Int.toNat (List.length v_0.2.stack : Int) - Int.toNat (IntKind.i64.wrap ((List.length v_0.2.stack : Int) - 2)))) ?_ ?_
      · simp only [go_sem, Le] <;> (repeat' apply And.intro) <;> first | ((try with_reducible refine TL_eq ?_); omega) | ((try with_reducible refine TL_eq ?_); (simp [go_sem]; done))
      refine inlK_of ?_
      simp only [go_sem]
      refine seqQ_normal hQ37 ?_
      refine sg fun QQ48 hQ48 => ?_
      obtain ⟨g_9, h⟩ := guardO_some h
      simp only [go_sem, g_9]
      refine And.intro (by omega) ?_
      refine seqQ_normal hQ48 ?_
      refine vc_cond_t (by (simp only [go_sem]; done)) ?_
      refine sg fun QQ49 hQ49 => ?_
      refine vc_draw ?_
      refine drawM_tail 13 [0, 1, 0, 4, 12, 0, 32, 96, 255, 511, 1023, 1023, 2047, 8191] mixed (by kernel_rfl) (of_decide_eq_true (by kernel_rfl)) (by kernel_rfl) ?_
      obtain ⟨xv_4, exv_4, h⟩ := bindO_some h
      obtain ⟨fxv_4a, fxv_4b, fxv_4c, fxv_4d⟩ := idx_part exv_4
      simp only [Int.toNat_natCast, Int.reduceToNat, Nat.zero_add, Nat.add_zero] at fxv_4c fxv_4d
      obtain ⟨xv_5, exv_5, h⟩ := bindO_some h
      obtain ⟨fxv_5a, fxv_5b, fxv_5c, fxv_5d⟩ := idx_part exv_5
      simp only [Int.toNat_natCast, Int.reduceToNat, Nat.zero_add, Nat.add_zero] at fxv_5c fxv_5d
      obtain ⟨v_1, ev_1, h⟩ := bindO_some h
      simp only [go_sem, fxv_4a, fxv_4b, fxv_4c, fxv_4d, fxv_5a, fxv_5b, fxv_5c, fxv_5d]
      refine And.intro (by omega) ?_
      refine And.intro (by omega) ?_
      refine callq (fun _ => (f_prog_two_ok xv_0.Op xv_4 xv_5 v_1 ev_1)) (by rfl) (by rfl) ?_
      simp only [go_sem]
      refine seqQ_normal hQ49 ?_
      refine sg fun QQ50 hQ50 => ?_
      simp only [go_sem]
      refine seqQ_normal hQ50 ?_
      obtain ⟨v_2, ev_2, h⟩ := bindO_some h
      simp only [go_sem]
      refine callF_weak (s' := (⟨3, [(0, .ptr 0 0), (1, .agg [.v (.int .i64 xv_0.Op), .v (.int .i64 xv_0.N)]), (3, .ptr 3 0), (6, .osl 4 1 (Int.toNat (IntKind.i64.wrap ((List.length v_0.2.stack : Int) - 2))) (Int.toNat (List.length v_0.2.stack : Int) - Int.toNat (IntKind.i64.wrap ((List.length v_0.2.stack : Int) - 2)))), (7, .v (.int .i64 v_1.1)), (8, .v (.int .i64 v_1.2)), (9, .ptr 0 0), (10, .ptr 0 0), (11, .ptr 0 4), (12, .v (.int .i64 mv_0.at_)), (13, .v (.int .i64 (IntKind.i64.wrap (mv_0.at_ + 1)))), (14, .ptr 0 0), (15, .ptr 0 4), (16, .ptr 0 0), (17, .agg [.v (.int .i64 xv_0.Op), .v (.int .i64 xv_0.N)]), (18, .v (.bool v_0.1)), (19, .ptr 3 0), (20, .v (.int .i64 xv_0.Op)), (21, .ptr 0 0), (22, .osl 4 1 (Int.toNat (IntKind.i64.wrap ((List.length v_0.2.stack : Int) - 2))) (Int.toNat (List.length v_0.2.stack : Int) - Int.toNat (IntKind.i64.wrap ((List.length v_0.2.stack : Int) - 2)))), (23, .osl 4 1 (Int.toNat (IntKind.i64.wrap ((List.length v_0.2.stack : Int) - 2))) (Int.toNat (List.length v_0.2.stack : Int) - Int.toNat (IntKind.i64.wrap ((List.length v_0.2.stack : Int) - 2)))), (24, .v (.bool true)), (25, .tup [.v (.int .i64 v_1.1), .v (.int .i64 v_1.2)]), (26, .ptr 3 0), (27, .v (.int .i64 xv_0.Op)), (28, .osl 4 1 (Int.toNat (IntKind.i64.wrap ((List.length v_0.2.stack : Int) - 2))) (Int.toNat (List.length v_0.2.stack : Int) - Int.toNat (IntKind.i64.wrap ((List.length v_0.2.stack : Int) - 2)))), (30, .v (.int .i64 xv_4)), (31, .osl 4 1 (Int.toNat (IntKind.i64.wrap ((List.length v_0.2.stack : Int) - 2))) (Int.toNat (List.length v_0.2.stack : Int) - Int.toNat (IntKind.i64.wrap ((List.length v_0.2.stack : Int) - 2)))), (33, .v (.int .i64 xv_5)), (34, .tup [.v (.int .i64 v_1.1), .v (.int .i64 v_1.2)]), (35, .v (.int .i64 v_1.1)), (36, .v (.int .i64 v_1.2)), (37, .ptr 0 0), (38, .v (.int .i64 v_1.2)), (39, .ptr 0 0), (40, .ptr 0 5), (41, .ptr 0 0), (42, .v (.int .i64 v_1.1)), (44, .v (.bool (xv_0.Op == 14))), (45, .v (.bool (xv_0.Op == 14))), (51, .v (.bool (xv_0.Op == 15))), (52, .v (.bool (xv_0.Op == 15))), (68, .v (.bool (xv_0.Op == 16))), (69, .v (.bool (xv_0.Op == 16)))], [(0, .box [.v (.int .i64 v_0.2.r.K), .v (.int .i64 v_0.2.r.V), .osl 4 1 (0) (List.length (List.take (Int.toNat (IntKind.i64.wrap ((List.length v_0.2.stack : Int) - 2))) v_0.2.stack)), .osl 5 2 (0) (List.length v_0.2.out), .v (.int .i64 v_0.2.at_), .v (.int .i64 v_1.2)]), (3, .box [.v (.int .i64 xv_0.Op), .v (.int .i64 xv_0.N)]), (4, .arr 1 (enc (List.take (Int.toNat (IntKind.i64.wrap ((List.length v_0.2.stack : Int) - 2))) v_0.2.stack))), (5, .arr 2 (enc v_0.2.out))], 6, 101⟩ : St)) (l := [some 3, some 4, some 5]) (args' := [.ptr 0 0, .v (.int .i64 v_1.1)]) ?_ ?_ ?_
      · simp only [go_sem, Le] <;> (repeat' apply And.intro) <;> first | (with_reducible exact TL_enc _ _) | ((try with_reducible refine TL_eq ?_); omega) | ((try with_reducible refine TL_eq ?_); (simp [go_sem]; done)) | ((try with_reducible refine TL_eq ?_); (simp [enc_len, enc]; omega))
      · simp only [go_sem, Le]
      refine callD [0, 4, 5] (f_prog_machine_push_p0_s0_2_s0_3_det (⟨v_0.2.r, (List.take (Int.toNat (IntKind.i64.wrap ((List.length v_0.2.stack : Int) - 2))) v_0.2.stack), v_0.2.out, v_0.2.at_, v_1.2⟩ : GProg_machine) v_1.1 v_2 ev_2) (by simp) rfl ⟨rfl, ⟨rfl, ⟨rfl, trivial⟩⟩⟩ rfl rfl rfl rfl ?_
      simp only [go_sem]
      refine blockQ_normal hQ6 ?_
      simp only [go_sem]
      obtain rfl := Option.some.inj h
      refine retW_det [some 6, some 7] ?_
      simp only [go_sem, Le] <;> (repeat' apply And.intro) <;> first | ((try with_reducible refine TL_eq ?_); omega) | ((try with_reducible refine TL_eq ?_); (simp [go_sem]; done))

def f_prog_Run_J1 (rv_0 : GRec) (b_8 : Int) (b_9 : Int) (b_10 : Int) (b_11 : Int) (a_4 : List Int) (a_5 : List GRec) : Option ((List GRec) × Int) :=
 (if (!(b_11 == 0)) = true then some (([(⟨rv_0.K, IntKind.i64.wrap ((-9223372036854775808) + b_11)⟩ : GRec)] : List GRec), b_11)
 else some (a_5, 0))
def f_prog_Run_B2 (p_0 : List GIns) (rv_0 : GRec) (rec_2 : Int × Int × Int × Int × Int × (List Int) × (List GRec) → Option ((List GRec) × Int)) : Int × Int × Int × Int × Int × (List Int) × (List GRec) → Option ((List GRec) × Int) :=
 fun (fuel_3, b_16, b_17, b_18, b_19, a_8, a_9) =>
 (if ((decide (b_18 < (List.length p_0 : Int))) && (b_19 == 0)) = true then (if (fuel_3 == 0) = true then f_prog_Run_J1 rv_0 b_16 b_17 b_18 4 a_8 a_9
 else bindO (idx p_0 b_18) (fun (xv_5 : GIns) =>
 bindO (f_prog_machine_step_p0_s0_2_s0_3 (⟨(⟨b_16, b_17⟩ : GRec), a_8, a_9, b_18, b_19⟩ : GProg_machine) xv_5) (fun (v_6 : GProg_machine) =>
 rec_2 (IntKind.i64.wrap (fuel_3 - 1), v_6.r.K, v_6.r.V, v_6.at_, v_6.bad, v_6.stack, v_6.out))))
 else f_prog_Run_J1 rv_0 b_16 b_17 b_18 b_19 a_8 a_9)
def f_prog_Run (p_0 : List GIns) (rv_0 : GRec) : Option ((List GRec) × Int) :=
 bindO (f_prog_Right p_0) (fun (v_0 : Bool) =>
 (if (!v_0) = true then some (([] : List GRec), 0)
 else loopK (f_prog_Run_B2 p_0 rv_0) rounds (256, rv_0.K, rv_0.V, 0, 0, [], [])))
theorem f_prog_Run_ok (p_0 : List GIns) (rv_0 : GRec)  (r : (List GRec) × Int) (h : f_prog_Run p_0 rv_0 = some r) : PureS Try.prog 194 [.sl 2 (enc p_0), .agg [.v (.int .i64 rv_0.K), .v (.int .i64 rv_0.V)]] 0 (.tup [.sl 2 (enc r.1), .v (.int .i64 r.2)]) := by
 unfold PureS
 refine Spec.of_vc Try.func194 rfl (by kernel_rfl) (by kernel_rfl) ?_
 rw [f_prog_Run] at h
 refine sg fun QQ1 hQ1 => ?_
 simp only [go_sem]
 refine seqQ_normal hQ1 ?_
 refine sg fun QQ2 hQ2 => ?_
 refine sg fun QQ3 hQ3 => ?_
 obtain ⟨v_0, ev_0, h⟩ := bindO_some h
 simp only [go_sem]
 refine call0 (f_prog_Right_ok p_0 v_0 ev_0) (by rfl) (by rfl) ?_
 simp only [go_sem]
 refine seqQ_normal hQ3 ?_
 refine vc_cond_of (b := (!v_0)) (by (simp only [go_sem]; done)) (fun hb_0 => ?_) (fun hb_0 => ?_)
 ·
  replace h := if_t h hb_0
  simp only [bool_to_prop] at hb_0
  refine sg fun QQ4 hQ4 => ?_
  simp only [go_sem]
  refine seqQ_normal hQ4 ?_
  refine vc_ret_of ?_
  refine seqQ_ret hQ2 ?_
  simp only [go_sem]
  obtain rfl := Option.some.inj h
  refine retW_pure rfl ?_
  simp only [go_sem, Le]
 ·
  replace h := if_f h hb_0
  simp only [bool_to_prop] at hb_0
  refine vc_skip_of ?_
  refine seqQ_normal hQ2 ?_
  refine sg fun QQ5 hQ5 => ?_
  simp only [go_sem]
  refine seqQ_normal hQ5 ?_
  refine vc_join (by kernel_rfl) ?_
  refine seq_cut_gen (ι := Int × Int × Int × Int × (List Int) × (List GRec)) (fun ((b_8, b_9, b_10, b_11, a_4, a_5) : Int × Int × Int × Int × (List Int) × (List GRec)) => (⟨0, [(3, .ptr 0 0), (6, .ptr 1 0)], [(0, .box [.v (.int .i64 rv_0.K), .v (.int .i64 rv_0.V)]), (1, .box [.v (.int .i64 b_8), .v (.int .i64 b_9), .osl 2 1 (0) (List.length a_4), .osl 3 2 (0) (List.length a_5), .v (.int .i64 b_10), .v (.int .i64 b_11)]), (2, .arr 1 (enc a_4)), (3, .arr 2 (enc a_5))], 4, 66⟩ : St)) (fun ((b_8, b_9, b_10, b_11, a_4, a_5) : Int × Int × Int × Int × (List Int) × (List GRec)) => f_prog_Run_J1 rv_0 b_8 b_9 b_10 b_11 a_4 a_5 = some r) ?_ ?_
  ·
   intro QQ10 hQ10
   refine sg fun QQ11 hQ11 => ?_
   simp only [go_sem]
   refine seqQ_normal hQ11 ?_
   refine vc_block_gen ?_
   intro QQ12 hQ12
   refine vc_loop_of ?_
   refine loop_gen (ι := Nat × Int × Int × Int × Int × Int × (List Int) × (List GRec)) (fun ((_, fuel_3, b_16, b_17, b_18, b_19, a_8, a_9) : Nat × Int × Int × Int × Int × Int × (List Int) × (List GRec)) => (⟨0, [(0, .sl 2 (enc p_0)), (3, .ptr 0 0), (6, .ptr 1 0), (7, .v (.int .i64 fuel_3))], [(0, .box [.v (.int .i64 rv_0.K), .v (.int .i64 rv_0.V)]), (1, .box [.v (.int .i64 b_16), .v (.int .i64 b_17), .osl 2 1 (0) (List.length a_8), .osl 3 2 (0) (List.length a_9), .v (.int .i64 b_18), .v (.int .i64 b_19)]), (2, .arr 1 (enc a_8)), (3, .arr 2 (enc a_9))], 4, 66⟩ : St)) (fun ((n_, fuel_3, b_16, b_17, b_18, b_19, a_8, a_9) : Nat × Int × Int × Int × Int × Int × (List Int) × (List GRec)) => loopK (f_prog_Run_B2 p_0 rv_0) n_ (fuel_3, b_16, b_17, b_18, b_19, a_8, a_9) = some r) (fun p => p.1) (rounds, 256, rv_0.K, rv_0.V, 0, 0, [], []) [some 0, some 1, none, none] ?_ h ?_
   · simp only [go_sem, Le] <;> (repeat' apply And.intro) <;> first | ((try with_reducible refine TL_eq ?_); omega) | ((try with_reducible refine TL_eq ?_); (simp [go_sem]; done))
   ·
    rintro ⟨n_2, fuel_3, b_16, b_17, b_18, b_19, a_8, a_9⟩ h QQ13 hQ13
    dsimp only at h
    replace h := loopK_some h
    obtain ⟨m_2, rfl, h⟩ := h
    rw [f_prog_Run_B2] at h
    refine sg fun QQ14 hQ14 => ?_
    refine sg fun QQ15 hQ15 => ?_
    simp only [go_sem]
    refine seqQ_normal hQ15 ?_
    refine vc_cond_of (b := ((decide (b_18 < (List.length p_0 : Int))) && (b_19 == 0))) (by (simp only [go_sem]; done)) (fun hb_10 => ?_) (fun hb_10 => ?_)
    ·
     replace h := if_t h hb_10
     simp only [bool_to_prop] at hb_10
     refine vc_skip_of ?_
     refine seqQ_normal hQ14 ?_
     refine sg fun QQ16 hQ16 => ?_
     refine vc_block_gen ?_
     intro QQ17 hQ17
     refine sg fun QQ18 hQ18 => ?_
     refine sg fun QQ19 hQ19 => ?_
     simp only [go_sem]
     refine seqQ_normal hQ19 ?_
     refine vc_cond_of (b := (fuel_3 == 0)) (by (simp only [go_sem]; done)) (fun hb_11 => ?_) (fun hb_11 => ?_)
     ·
      replace h := if_t h hb_11
      simp only [bool_to_prop] at hb_11
      refine sg fun QQ20 hQ20 => ?_
      simp only [go_sem]
      refine seqQ_normal hQ20 ?_
      refine vc_exit_of ?_
      refine seqQ_exit hQ18 ?_
      refine blockQ_other hQ17 (by decide) ?_
      refine seqQ_exit hQ16 ?_
      refine thenQ_exit hQ13 ?_
      refine blockQ_exit hQ12 ?_
      refine thenQ_normal hQ10 ?_
      refine ⟨(b_16, b_17, b_18, 4, a_8, a_9), [some 0, some 1, some 2, some 3], ?_, h⟩
      simp only [go_sem, Le] <;> (repeat' apply And.intro) <;> first | ((try with_reducible refine TL_eq ?_); omega) | ((try with_reducible refine TL_eq ?_); (simp [go_sem]; done))
     ·
      replace h := if_f h hb_11
      simp only [bool_to_prop] at hb_11
      refine vc_skip_of ?_
      refine seqQ_normal hQ18 ?_
      obtain ⟨xv_5, exv_5, h⟩ := bindO_some h
      obtain ⟨fxv_5a, fxv_5b, fxv_5c⟩ := idx_spec exv_5
      obtain ⟨v_6, ev_6, h⟩ := bindO_some h
      simp only [go_sem, fxv_5a, fxv_5b, fxv_5c]
      refine And.intro (by omega) ?_
      refine callD [1, 2, 3] (f_prog_machine_step_p0_s0_2_s0_3_det (⟨(⟨b_16, b_17⟩ : GRec), a_8, a_9, b_18, b_19⟩ : GProg_machine) xv_5 v_6 ev_6) (by simp) rfl ⟨rfl, ⟨rfl, ⟨rfl, trivial⟩⟩⟩ rfl rfl rfl rfl ?_
      simp only [go_sem]
      refine blockQ_normal hQ17 ?_
      refine seqQ_normal hQ16 ?_
      simp only [go_sem]
      refine thenQ_normal hQ13 ?_
      refine ⟨(m_2, IntKind.i64.wrap (fuel_3 - 1), v_6.r.K, v_6.r.V, v_6.at_, v_6.bad, v_6.stack, v_6.out), [some 0, some 1, some 4, some 5], ?_, h, Nat.lt_succ_self _⟩
      simp only [go_sem, Le] <;> (repeat' apply And.intro) <;> first | ((try with_reducible refine TL_eq ?_); omega) | ((try with_reducible refine TL_eq ?_); (simp [go_sem]; done))
    ·
     replace h := if_f h hb_10
     simp only [bool_to_prop] at hb_10
     refine vc_exit_of ?_
     refine seqQ_exit hQ14 ?_
     refine thenQ_exit hQ13 ?_
     refine blockQ_exit hQ12 ?_
     refine thenQ_normal hQ10 ?_
     refine ⟨(b_16, b_17, b_18, b_19, a_8, a_9), [some 0, some 1, some 2, some 3], ?_, h⟩
     simp only [go_sem, Le] <;> (repeat' apply And.intro) <;> first | ((try with_reducible refine TL_eq ?_); omega) | ((try with_reducible refine TL_eq ?_); (simp [go_sem]; done))
  ·
   rintro ⟨b_8, b_9, b_10, b_11, a_4, a_5⟩ h
   try dsimp only at h
   rw [f_prog_Run_J1] at h
   refine sg fun QQ6 hQ6 => ?_
   refine sg fun QQ7 hQ7 => ?_
   simp only [go_sem]
   refine seqQ_normal hQ7 ?_
   refine vc_cond_of (b := (!(b_11 == 0))) (by (simp only [go_sem]; done)) (fun hb_6 => ?_) (fun hb_6 => ?_)
   ·
    replace h := if_t h hb_6
    simp only [bool_to_prop] at hb_6
    refine sg fun QQ8 hQ8 => ?_
    refine vc_draw ?_
    refine drawM_tail 14 [0, 1, 0, 4, 12, 28, 60, 127, 255, 0, 512, 1536, 3584, 511, 16383] mixed (by kernel_rfl) (of_decide_eq_true (by kernel_rfl)) (by kernel_rfl) ?_
    have rf_0 : [[.v (.int .i64 rv_0.K), .v (.int .i64 (IntKind.i64.wrap ((-9223372036854775808) + b_11)))]] = enc ([(⟨rv_0.K, IntKind.i64.wrap ((-9223372036854775808) + b_11)⟩ : GRec)] : List GRec) := by rfl
    simp only [go_sem]
    simp only [rf_0]
    refine seqQ_normal hQ8 ?_
    refine vc_ret_of ?_
    refine seqQ_ret hQ6 ?_
    simp only [go_sem]
    obtain rfl := Option.some.inj h
    refine retW_pure rfl ?_
    simp only [go_sem, Le]
   ·
    replace h := if_f h hb_6
    simp only [bool_to_prop] at hb_6
    refine vc_skip_of ?_
    refine seqQ_normal hQ6 ?_
    refine sg fun QQ9 hQ9 => ?_
    simp only [go_sem]
    refine seqQ_normal hQ9 ?_
    refine vc_ret_of ?_
    simp only [go_sem]
    obtain rfl := Option.some.inj h
    refine retW_pure rfl ?_
    simp only [go_sem, Le] <;> (repeat' apply And.intro) <;> ((try with_reducible refine TL_eq ?_); (simp [go_sem]; done))

def f_ops_wrong (k_0 : Int) : Option GRec :=
 some (⟨k_0, -9223372036854775806⟩ : GRec)
theorem f_ops_wrong_ok (k_0 : Int)  (r : GRec) (h : f_ops_wrong k_0 = some r) : PureS Try.prog 195 [.v (.int .i64 k_0)] 0 (.agg [.v (.int .i64 r.K), .v (.int .i64 r.V)]) := by
 unfold PureS
 refine Spec.of_vc Try.func195 rfl (by kernel_rfl) (by kernel_rfl) ?_
 rw [f_ops_wrong] at h
 refine sg fun QQ1 hQ1 => ?_
 simp only [go_sem]
 refine seqQ_normal hQ1 ?_
 refine sg fun QQ2 hQ2 => ?_
 simp only [go_sem]
 refine seqQ_normal hQ2 ?_
 refine vc_ret_of ?_
 simp only [go_sem]
 obtain rfl := Option.some.inj h
 refine retW_pure rfl ?_
 simp only [go_sem, Le]

def f_ops_plus (k_0 : Int) (a_0 : Int) (b_0 : Int) : Option GRec :=
 (if (((decide (a_0 < 0)) == (decide (b_0 < 0))) && (!((decide ((IntKind.i64.wrap (a_0 + b_0)) < 0)) == (decide (a_0 < 0))))) = true then bindO (f_ops_wrong k_0) (fun (v_0 : GRec) =>
 some v_0)
 else some (⟨k_0, IntKind.i64.wrap (a_0 + b_0)⟩ : GRec))
theorem f_ops_plus_ok (k_0 : Int) (a_0 : Int) (b_0 : Int)  (r : GRec) (h : f_ops_plus k_0 a_0 b_0 = some r) : PureS Try.prog 122 [.v (.int .i64 k_0), .v (.int .i64 a_0), .v (.int .i64 b_0)] 0 (.agg [.v (.int .i64 r.K), .v (.int .i64 r.V)]) := by
 unfold PureS
 refine Spec.of_vc Try.func122 rfl (by kernel_rfl) (by kernel_rfl) ?_
 rw [f_ops_plus] at h
 refine sg fun QQ1 hQ1 => ?_
 simp only [go_sem]
 refine seqQ_normal hQ1 ?_
 refine sg fun QQ2 hQ2 => ?_
 simp only [go_sem]
 refine seqQ_normal hQ2 ?_
 refine sg fun QQ3 hQ3 => ?_
 refine sg fun QQ4 hQ4 => ?_
 simp only [go_sem]
 refine seqQ_normal hQ4 ?_
 refine vc_cond_of (b := (((decide (a_0 < 0)) == (decide (b_0 < 0))) && (!((decide ((IntKind.i64.wrap (a_0 + b_0)) < 0)) == (decide (a_0 < 0)))))) (by (simp only [go_sem]; done)) (fun hb_0 => ?_) (fun hb_0 => ?_)
 ·
  replace h := if_t h hb_0
  simp only [bool_to_prop] at hb_0
  refine sg fun QQ5 hQ5 => ?_
  obtain ⟨v_0, ev_0, h⟩ := bindO_some h
  simp only [go_sem]
  refine call0 (f_ops_wrong_ok k_0 v_0 ev_0) (by rfl) (by rfl) ?_
  simp only [go_sem]
  refine seqQ_normal hQ5 ?_
  refine vc_ret_of ?_
  refine seqQ_ret hQ3 ?_
  simp only [go_sem]
  obtain rfl := Option.some.inj h
  refine retW_pure rfl ?_
  simp only [go_sem, Le]
 ·
  replace h := if_f h hb_0
  simp only [bool_to_prop] at hb_0
  refine vc_skip_of ?_
  refine seqQ_normal hQ3 ?_
  refine sg fun QQ6 hQ6 => ?_
  simp only [go_sem]
  refine seqQ_normal hQ6 ?_
  refine vc_ret_of ?_
  simp only [go_sem]
  obtain rfl := Option.some.inj h
  refine retW_pure rfl ?_
  simp only [go_sem, Le]

def f_ops_single (xv_0 : GNode) (rv_0 : GRec) : Option (List GRec) :=
 (if (xv_0.Kind == 2) = true then bindO (f_prog_Run xv_0.Prog rv_0) (fun (v_0 : (List GRec) × Int) =>
 some v_0.1)
 else (if (xv_0.Kind == 3) = true then bindO (f_ops_plus rv_0.K rv_0.V xv_0.Arg) (fun (v_1 : GRec) =>
 some ([v_1] : List GRec))
 else (if (xv_0.Kind == 4) = true then (if (decide (xv_0.Arg < 1)) = true then some ([] : List GRec)
 else guardO (xv_0.Arg ≠ 0) (
 (if (!((Int.tmod rv_0.V xv_0.Arg) == 0)) = true then some ([] : List GRec)
 else some ([rv_0] : List GRec))))
 else some ([rv_0] : List GRec))))
theorem f_ops_single_ok (xv_0 : GNode) (rv_0 : GRec)  (r : List GRec) (h : f_ops_single xv_0 rv_0 = some r) : PureS Try.prog 119 [.agg [.v (.int .i64 xv_0.Kind), .v (.int .i64 xv_0.Scope), .v (.int .i64 xv_0.Arg), .sl 2 (enc xv_0.Prog)], .agg [.v (.int .i64 rv_0.K), .v (.int .i64 rv_0.V)]] 0 (.sl 2 (enc r)) := by
 unfold PureS
 refine Spec.of_vc Try.func119 rfl (by kernel_rfl) (by kernel_rfl) ?_
 rw [f_ops_single] at h
 refine sg fun QQ1 hQ1 => ?_
 simp only [go_sem]
 refine seqQ_normal hQ1 ?_
 refine vc_join (by kernel_rfl) ?_
 refine seq_go_gen ?_
 intro QQ2 hQ2
 refine sg fun QQ3 hQ3 => ?_
 simp only [go_sem]
 refine seqQ_normal hQ3 ?_
 refine vc_block_gen ?_
 intro QQ4 hQ4
 refine sg fun QQ5 hQ5 => ?_
 simp only [go_sem]
 refine seqQ_normal hQ5 ?_
 refine vc_cond_of (b := (xv_0.Kind == 2)) (by (simp only [go_sem]; done)) (fun hb_0 => ?_) (fun hb_0 => ?_)
 ·
  replace h := if_t h hb_0
  simp only [bool_to_prop] at hb_0
  refine sg fun QQ6 hQ6 => ?_
  obtain ⟨v_0, ev_0, h⟩ := bindO_some h
  simp only [go_sem]
  refine call0 (f_prog_Run_ok xv_0.Prog rv_0 v_0 ev_0) (by rfl) (by rfl) ?_
  simp only [go_sem]
  refine seqQ_normal hQ6 ?_
  refine sg fun QQ7 hQ7 => ?_
  simp only [go_sem]
  refine seqQ_normal hQ7 ?_
  refine vc_ret_of ?_
  refine blockQ_ret hQ4 ?_
  refine seqQ_ret hQ2 ?_
  simp only [go_sem]
  obtain rfl := Option.some.inj h
  refine retW_pure rfl ?_
  simp only [go_sem, Le]
 ·
  replace h := if_f h hb_0
  simp only [bool_to_prop] at hb_0
  refine sg fun QQ8 hQ8 => ?_
  simp only [go_sem]
  refine seqQ_normal hQ8 ?_
  refine vc_cond_of (b := (xv_0.Kind == 3)) (by (simp only [go_sem]; done)) (fun hb_1 => ?_) (fun hb_1 => ?_)
  ·
   replace h := if_t h hb_1
   simp only [bool_to_prop] at hb_1
   refine sg fun QQ9 hQ9 => ?_
   obtain ⟨v_1, ev_1, h⟩ := bindO_some h
   simp only [go_sem]
   refine call0 (f_ops_plus_ok rv_0.K rv_0.V xv_0.Arg v_1 ev_1) (by rfl) (by rfl) ?_
   have rf_0 : [[.v (.int .i64 v_1.K), .v (.int .i64 v_1.V)]] = enc ([v_1] : List GRec) := by rfl
   simp only [go_sem]
   simp only [rf_0]
   refine seqQ_normal hQ9 ?_
   refine vc_ret_of ?_
   refine blockQ_ret hQ4 ?_
   refine seqQ_ret hQ2 ?_
   simp only [go_sem]
   obtain rfl := Option.some.inj h
   refine retW_pure rfl ?_
   simp only [go_sem, Le] <;> (repeat' apply And.intro) <;> ((try with_reducible refine TL_eq ?_); (simp [go_sem]; done))
  ·
   replace h := if_f h hb_1
   simp only [bool_to_prop] at hb_1
   refine sg fun QQ10 hQ10 => ?_
   simp only [go_sem]
   refine seqQ_normal hQ10 ?_
   refine vc_cond_of (b := (xv_0.Kind == 4)) (by (simp only [go_sem]; done)) (fun hb_2 => ?_) (fun hb_2 => ?_)
   ·
    replace h := if_t h hb_2
    simp only [bool_to_prop] at hb_2
    refine sg fun QQ11 hQ11 => ?_
    simp only [go_sem]
    rcases hb_3 : (decide (xv_0.Arg < 1)) with _ | _
    ·
     replace h := if_f h hb_3
     obtain ⟨g_0, h⟩ := guardO_some h
     simp only [go_sem, hb_3, g_0]
     refine seqQ_normal hQ11 ?_
     refine vc_cond_of (b := (!((Int.tmod rv_0.V xv_0.Arg) == 0))) (by (simp only [go_sem]; done)) (fun hb_4 => ?_) (fun hb_4 => ?_)
     ·
      replace h := if_t h hb_4
      simp only [bool_to_prop] at hb_4
      refine sg fun QQ12 hQ12 => ?_
      simp only [go_sem]
      refine seqQ_normal hQ12 ?_
      refine vc_ret_of ?_
      refine blockQ_ret hQ4 ?_
      refine seqQ_ret hQ2 ?_
      simp only [go_sem]
      obtain rfl := Option.some.inj h
      refine retW_pure rfl ?_
      simp only [go_sem, Le]
     ·
      replace h := if_f h hb_4
      simp only [bool_to_prop] at hb_4
      refine vc_skip_of ?_
      refine blockQ_normal hQ4 ?_
      refine seqQ_normal hQ2 ?_
      refine sg fun QQ13 hQ13 => ?_
      have rf_1 : [[.v (.int .i64 rv_0.K), .v (.int .i64 rv_0.V)]] = enc ([rv_0] : List GRec) := by rfl
      simp only [go_sem]
      simp only [rf_1]
      refine seqQ_normal hQ13 ?_
      refine vc_ret_of ?_
      simp only [go_sem]
      obtain rfl := Option.some.inj h
      refine retW_pure rfl ?_
      simp only [go_sem, Le] <;> (repeat' apply And.intro) <;> ((try with_reducible refine TL_eq ?_); (simp [go_sem]; done))
    ·
     replace h := if_t h hb_3
     simp only [go_sem, hb_3]
     refine seqQ_normal hQ11 ?_
     refine vc_cond_t (by (simp only [go_sem]; done)) ?_
     refine sg fun QQ14 hQ14 => ?_
     simp only [go_sem]
     refine seqQ_normal hQ14 ?_
     refine vc_ret_of ?_
     refine blockQ_ret hQ4 ?_
     refine seqQ_ret hQ2 ?_
     simp only [go_sem]
     obtain rfl := Option.some.inj h
     refine retW_pure rfl ?_
     simp only [go_sem, Le]
   ·
    replace h := if_f h hb_2
    simp only [bool_to_prop] at hb_2
    refine vc_skip_of ?_
    refine blockQ_normal hQ4 ?_
    refine seqQ_normal hQ2 ?_
    refine sg fun QQ15 hQ15 => ?_
    have rf_2 : [[.v (.int .i64 rv_0.K), .v (.int .i64 rv_0.V)]] = enc ([rv_0] : List GRec) := by rfl
    simp only [go_sem]
    simp only [rf_2]
    refine seqQ_normal hQ15 ?_
    refine vc_ret_of ?_
    simp only [go_sem]
    obtain rfl := Option.some.inj h
    refine retW_pure rfl ?_
    simp only [go_sem, Le] <;> (repeat' apply And.intro) <;> ((try with_reducible refine TL_eq ?_); (simp [go_sem]; done))

def f_ops_Apply_1 (nv_0 : Int) (cap_0 : List (List GItem)) : Option (List GItem) :=
 (if (decide ((List.length cap_0 : Int) ≤ nv_0)) = true then some ([] : List GItem)
 else bindO (idx cap_0 nv_0) (fun (xv_0 : List GItem) =>
 bindO (f_bag_There xv_0) (fun (v_0 : List GItem) =>
 some v_0)))
theorem f_ops_Apply_1_det (nv_0 : Int) (cap_0 : List (List GItem))  (r : List GItem) (h : f_ops_Apply_1 nv_0 cap_0 = some r) : DetS Try.prog 66 [.v (.int .i64 nv_0), .el 1 [[.sl 1 (enc cap_0)]] 0 0] [] 0 (.osl 0 3 (0) (List.length r)) [(0, .arr 3 (enc r))] 1 := by
 unfold DetS
 refine Spec.of_vc Try.func66 rfl (by kernel_rfl) (by kernel_rfl) ?_
 rw [f_ops_Apply_1] at h
 refine sg fun QQ1 hQ1 => ?_
 simp only [go_sem]
 refine seqQ_normal hQ1 ?_
 refine sg fun QQ2 hQ2 => ?_
 refine sg fun QQ3 hQ3 => ?_
 simp only [go_sem]
 refine seqQ_normal hQ3 ?_
 refine vc_cond_of (b := (decide ((List.length cap_0 : Int) ≤ nv_0))) (by (simp only [go_sem]; done)) (fun hb_0 => ?_) (fun hb_0 => ?_)
 ·
  replace h := if_t h hb_0
  simp only [bool_to_prop] at hb_0
  refine sg fun QQ4 hQ4 => ?_
  simp only [go_sem]
  refine seqQ_normal hQ4 ?_
  refine vc_ret_of ?_
  refine seqQ_ret hQ2 ?_
  simp only [go_sem]
  obtain rfl := Option.some.inj h
  refine retW_det [none] ?_
  simp only [go_sem, Le] <;> (repeat' apply And.intro) <;> ((try with_reducible refine TL_eq ?_); (simp [go_sem]; done))
 ·
  replace h := if_f h hb_0
  simp only [bool_to_prop] at hb_0
  refine vc_skip_of ?_
  refine seqQ_normal hQ2 ?_
  refine sg fun QQ5 hQ5 => ?_
  obtain ⟨xv_0, exv_0, h⟩ := bindO_some h
  obtain ⟨fxv_0a, fxv_0b, fxv_0c⟩ := idx_spec exv_0
  obtain ⟨v_0, ev_0, h⟩ := bindO_some h
  simp only [go_sem, fxv_0a, fxv_0b, fxv_0c]
  refine And.intro (by omega) ?_
  refine callD [] (f_bag_There_det xv_0 v_0 ev_0) (by simp) rfl trivial rfl rfl rfl rfl ?_
  simp only [go_sem]
  refine seqQ_normal hQ5 ?_
  refine vc_ret_of ?_
  simp only [go_sem]
  obtain rfl := Option.some.inj h
  refine retW_det [some 0] ?_
  simp only [go_sem, Le]
def f_ops_maker_add_p0_s0_0 (mv_0 : GOps_maker) (rv_0 : GRec) (nv_0 : Int) : Option (Bool × GOps_maker) :=
 (if (decide ((IntKind.i64.wrap (65536 - mv_0.many)) < nv_0)) = true then some (false, mv_0)
 else guardO ((List.length mv_0.out + List.length ([(⟨rv_0, nv_0⟩ : GItem)] : List GItem)) * 24 ≤ 140737488355328) (
 some (true, (⟨(mv_0.out ++ ([(⟨rv_0, nv_0⟩ : GItem)] : List GItem)), IntKind.i64.wrap (mv_0.many + nv_0)⟩ : GOps_maker))))
theorem f_ops_maker_add_p0_s0_0_det (mv_0 : GOps_maker) (rv_0 : GRec) (nv_0 : Int)  (r : Bool × GOps_maker) (h : f_ops_maker_add_p0_s0_0 mv_0 rv_0 nv_0 = some r) : DetS Try.prog 68 [.ptr 0 0, .agg [.v (.int .i64 rv_0.K), .v (.int .i64 rv_0.V)], .v (.int .i64 nv_0)] [(0, .box [.osl 1 3 (0) (List.length mv_0.out), .v (.int .i64 mv_0.many)]), (1, .arr 3 (enc mv_0.out))] 2 (.v (.bool r.1)) [(0, .box [.osl 2 3 (0) (List.length r.2.out), .v (.int .i64 r.2.many)]), (2, .arr 3 (enc r.2.out))] 3 := by
 unfold DetS
 refine Spec.of_vc Try.func68 rfl (by kernel_rfl) (by kernel_rfl) ?_
 rw [f_ops_maker_add_p0_s0_0] at h
 refine sg fun QQ1 hQ1 => ?_
 simp only [go_sem]
 refine seqQ_normal hQ1 ?_
 refine sg fun QQ2 hQ2 => ?_
 refine sg fun QQ3 hQ3 => ?_
 simp only [go_sem]
 refine seqQ_normal hQ3 ?_
 refine vc_cond_of (b := (decide ((IntKind.i64.wrap (65536 - mv_0.many)) < nv_0))) (by (simp only [go_sem]; done)) (fun hb_0 => ?_) (fun hb_0 => ?_)
 ·
  replace h := if_t h hb_0
  simp only [bool_to_prop] at hb_0
  refine sg fun QQ4 hQ4 => ?_
  simp only [go_sem]
  refine seqQ_normal hQ4 ?_
  refine vc_ret_of ?_
  refine seqQ_ret hQ2 ?_
  simp only [go_sem]
  obtain rfl := Option.some.inj h
  refine retW_det [some 1] ?_
  simp only [go_sem, Le] <;> (repeat' apply And.intro) <;> first | ((try with_reducible refine TL_eq ?_); omega) | ((try with_reducible refine TL_eq ?_); (simp [go_sem]; done))
 ·
  replace h := if_f h hb_0
  simp only [bool_to_prop] at hb_0
  refine vc_skip_of ?_
  refine seqQ_normal hQ2 ?_
  refine sg fun QQ5 hQ5 => ?_
  simp only [go_sem]
  refine seqQ_normal hQ5 ?_
  refine sg fun QQ6 hQ6 => ?_
  refine vc_draw ?_
  refine drawV_all 10 0 [0, 0, 2, 6, 14, 0, 0, 96, 224, 510, 1023, 2047, 4095] [1, 3] [0] [9] [] mixed (by kernel_rfl) (of_decide_eq_true (by kernel_rfl)) (by kernel_rfl) (by kernel_rfl) (by rfl) ?_
  have rf_0 : [[.v (.int .i64 rv_0.K), .v (.int .i64 rv_0.V), .v (.int .i64 nv_0)]] = enc ([(⟨rv_0, nv_0⟩ : GItem)] : List GItem) := by rfl
  obtain ⟨g_0, h⟩ := guardO_some h
  simp only [List.length_cons, List.length_nil, Nat.zero_add, List.length_append] at g_0
  have rf_1 : enc mv_0.out ++ [[.v (.int .i64 rv_0.K), .v (.int .i64 rv_0.V), .v (.int .i64 nv_0)]] = enc (mv_0.out ++ ([(⟨rv_0, nv_0⟩ : GItem)] : List GItem)) := by exact (enc_app mv_0.out ([(⟨rv_0, nv_0⟩ : GItem)] : List GItem)).symm
  simp only [go_sem, g_0, rf_1]
  simp only [rf_0]
  refine seqQ_normal hQ6 ?_
  refine sg fun QQ7 hQ7 => ?_
  simp only [go_sem]
  refine seqQ_normal hQ7 ?_
  refine vc_ret_of ?_
  simp only [go_sem]
  obtain rfl := Option.some.inj h
  refine retW_det [some 3] ?_
  simp only [go_sem, Le] <;> (repeat' apply And.intro) <;> first | ((try with_reducible refine TL_eq ?_); omega) | ((try with_reducible refine TL_eq ?_); (simp [go_sem]; done))

def f_ops_maker_linear_p0_s0_0_B2 (t13_1 : Int) (rec_1 : (Int × Int × (List GItem) → Option (Bool × GOps_maker))) (xv_9 : GItem) (v_8 : List GRec) (rec_2 : Int × Int × (List GItem) → Option (Bool × GOps_maker)) : Int × Int × (List GItem) → Option (Bool × GOps_maker) :=
 fun (t22_5, b_8, a_7) =>
 (if (decide (t22_5 < (List.length v_8 : Int))) = true then bindO (idx v_8 t22_5) (fun (xv_12 : GRec) =>
 bindO (f_ops_maker_add_p0_s0_0 (⟨a_7, b_8⟩ : GOps_maker) xv_12 xv_9.N) (fun (v_11 : Bool × GOps_maker) =>
 (if (!v_11.1) = true then some (false, v_11.2)
 else rec_2 (IntKind.i64.wrap (t22_5 + 1), v_11.2.many, v_11.2.out))))
 else rec_1 (IntKind.i64.wrap (t13_1 + 1), b_8, a_7))
def f_ops_maker_linear_p0_s0_0_B1 (xv_0 : GNode) (b_0 : List GItem) (rec_1 : Int × Int × (List GItem) → Option (Bool × GOps_maker)) : Int × Int × (List GItem) → Option (Bool × GOps_maker) :=
 fun (t13_1, b_6, a_5) =>
 (if (decide (t13_1 < (List.length b_0 : Int))) = true then bindO (idx b_0 t13_1) (fun (xv_9 : GItem) =>
 bindO (f_ops_single xv_0 xv_9.Rec) (fun (v_8 : List GRec) =>
 loopK (f_ops_maker_linear_p0_s0_0_B2 t13_1 rec_1 xv_9 v_8) rounds (0, b_6, a_5)))
 else some (true, (⟨a_5, b_6⟩ : GOps_maker)))
def f_ops_maker_linear_p0_s0_0 (mv_0 : GOps_maker) (xv_0 : GNode) (b_0 : List GItem) : Option (Bool × GOps_maker) :=
 loopK (f_ops_maker_linear_p0_s0_0_B1 xv_0 b_0) rounds (0, mv_0.many, mv_0.out)
theorem f_ops_maker_linear_p0_s0_0_det (mv_0 : GOps_maker) (xv_0 : GNode) (b_0 : List GItem)  (r : Bool × GOps_maker) (h : f_ops_maker_linear_p0_s0_0 mv_0 xv_0 b_0 = some r) : DetS Try.prog 67 [.ptr 0 0, .agg [.v (.int .i64 xv_0.Kind), .v (.int .i64 xv_0.Scope), .v (.int .i64 xv_0.Arg), .sl 2 (enc xv_0.Prog)], .sl 3 (enc b_0)] [(0, .box [.osl 1 3 (0) (List.length mv_0.out), .v (.int .i64 mv_0.many)]), (1, .arr 3 (enc mv_0.out))] 2 (.v (.bool r.1)) [(0, .box [.osl 2 3 (0) (List.length r.2.out), .v (.int .i64 r.2.many)]), (2, .arr 3 (enc r.2.out))] 3 := by
 unfold DetS
 refine Spec.of_vc Try.func67 rfl (by kernel_rfl) (by kernel_rfl) ?_
 rw [f_ops_maker_linear_p0_s0_0] at h
 refine sg fun QQ1 hQ1 => ?_
 simp only [go_sem]
 refine seqQ_normal hQ1 ?_
 refine vc_join (by kernel_rfl) ?_
 refine seq_go_gen ?_
 intro QQ2 hQ2
 refine sg fun QQ3 hQ3 => ?_
 simp only [go_sem]
 refine seqQ_normal hQ3 ?_
 refine vc_block_gen ?_
 intro QQ4 hQ4
 refine vc_loop_of ?_
 refine loop_gen (ι := Nat × Int × Int × (List GItem)) (fun ((_, t13_1, b_6, a_5) : Nat × Int × Int × (List GItem)) => (⟨2, [(0, .ptr 0 0), (4, .ptr 2 0), (11, .sl 3 (enc b_0)), (12, .v (.int .i64 (List.length b_0 : Int))), (13, .v (.int .i64 t13_1))], [(0, .box [.osl 3 3 (0) (List.length a_5), .v (.int .i64 b_6)]), (2, .box [.v (.int .i64 xv_0.Kind), .v (.int .i64 xv_0.Scope), .v (.int .i64 xv_0.Arg), .sl 2 (enc xv_0.Prog)]), (3, .arr 3 (enc a_5))], 4, 34⟩ : St)) (fun ((n_, t13_1, b_6, a_5) : Nat × Int × Int × (List GItem)) => loopK (f_ops_maker_linear_p0_s0_0_B1 xv_0 b_0) n_ (t13_1, b_6, a_5) = some r) (fun p => p.1) (rounds, 0, mv_0.many, mv_0.out) [some 2, some 1] ?_ h ?_
 · simp only [go_sem, Le] <;> (repeat' apply And.intro) <;> first | ((try with_reducible refine TL_eq ?_); omega) | ((try with_reducible refine TL_eq ?_); (simp [go_sem]; done))
 ·
  rintro ⟨n_1, t13_1, b_6, a_5⟩ h QQ5 hQ5
  dsimp only at h
  replace h := loopK_some h
  obtain ⟨m_1, rfl, h⟩ := h
  rw [f_ops_maker_linear_p0_s0_0_B1] at h
  refine sg fun QQ6 hQ6 => ?_
  simp only [go_sem]
  refine seqQ_normal hQ6 ?_
  refine sg fun QQ7 hQ7 => ?_
  refine vc_cond_of (b := (decide (t13_1 < (List.length b_0 : Int)))) (by (simp only [go_sem]; done)) (fun hb_14 => ?_) (fun hb_14 => ?_)
  ·
   replace h := if_t h hb_14
   simp only [bool_to_prop] at hb_14
   refine vc_skip_of ?_
   refine seqQ_normal hQ7 ?_
   refine vc_join (by kernel_rfl) ?_
   refine seq_go_gen ?_
   intro QQ8 hQ8
   refine vc_block_gen ?_
   intro QQ9 hQ9
   refine sg fun QQ10 hQ10 => ?_
   obtain ⟨xv_9, exv_9, h⟩ := bindO_some h
   obtain ⟨fxv_9a, fxv_9b, fxv_9c⟩ := idx_spec exv_9
   simp only [go_sem, fxv_9a, fxv_9b, fxv_9c]
   refine And.intro (by omega) ?_
   refine seqQ_normal hQ10 ?_
   refine sg fun QQ11 hQ11 => ?_
   obtain ⟨v_8, ev_8, h⟩ := bindO_some h
   simp only [go_sem]
   refine call0 (f_ops_single_ok xv_0 xv_9.Rec v_8 ev_8) (by rfl) (by rfl) ?_
   simp only [go_sem]
   refine seqQ_normal hQ11 ?_
   refine vc_block_gen ?_
   intro QQ12 hQ12
   refine vc_loop_of ?_
   refine loop_gen (ι := Nat × Int × Int × (List GItem)) (fun ((_, t22_5, b_8, a_7) : Nat × Int × Int × (List GItem)) => (⟨2, [(0, .ptr 0 0), (4, .ptr 2 0), (8, .ptr 3 0), (11, .sl 3 (enc b_0)), (12, .v (.int .i64 (List.length b_0 : Int))), (13, .v (.int .i64 t13_1)), (20, .sl 2 (enc v_8)), (21, .v (.int .i64 (List.length v_8 : Int))), (22, .v (.int .i64 t22_5))], [(0, .box [.osl 4 3 (0) (List.length a_7), .v (.int .i64 b_8)]), (2, .box [.v (.int .i64 xv_0.Kind), .v (.int .i64 xv_0.Scope), .v (.int .i64 xv_0.Arg), .sl 2 (enc xv_0.Prog)]), (3, .box [.v (.int .i64 xv_9.Rec.K), .v (.int .i64 xv_9.Rec.V), .v (.int .i64 xv_9.N)]), (4, .arr 3 (enc a_7))], 5, 34⟩ : St)) (fun ((n_, t22_5, b_8, a_7) : Nat × Int × Int × (List GItem)) => loopK (f_ops_maker_linear_p0_s0_0_B2 t13_1 (loopK (f_ops_maker_linear_p0_s0_0_B1 xv_0 b_0) m_1) xv_9 v_8) n_ (t22_5, b_8, a_7) = some r) (fun p => p.1) (rounds, 0, b_6, a_5) [some 2, some 4, some 3] ?_ h ?_
   · simp only [go_sem, Le] <;> (repeat' apply And.intro) <;> first | ((try with_reducible refine TL_eq ?_); omega) | ((try with_reducible refine TL_eq ?_); (simp [go_sem]; done))
   ·
    rintro ⟨n_2, t22_5, b_8, a_7⟩ h QQ13 hQ13
    dsimp only at h
    replace h := loopK_some h
    obtain ⟨m_2, rfl, h⟩ := h
    rw [f_ops_maker_linear_p0_s0_0_B2] at h
    refine sg fun QQ14 hQ14 => ?_
    simp only [go_sem]
    refine seqQ_normal hQ14 ?_
    refine sg fun QQ15 hQ15 => ?_
    refine vc_cond_of (b := (decide (t22_5 < (List.length v_8 : Int)))) (by (simp only [go_sem]; done)) (fun hb_19 => ?_) (fun hb_19 => ?_)
    ·
     replace h := if_t h hb_19
     simp only [bool_to_prop] at hb_19
     refine vc_skip_of ?_
     refine seqQ_normal hQ15 ?_
     refine sg fun QQ16 hQ16 => ?_
     refine vc_block_gen ?_
     intro QQ17 hQ17
     refine sg fun QQ18 hQ18 => ?_
     obtain ⟨xv_12, exv_12, h⟩ := bindO_some h
     obtain ⟨fxv_12a, fxv_12b, fxv_12c⟩ := idx_spec exv_12
     simp only [go_sem, fxv_12a, fxv_12b, fxv_12c]
     refine And.intro (by omega) ?_
     refine seqQ_normal hQ18 ?_
     refine sg fun QQ19 hQ19 => ?_
     obtain ⟨v_11, ev_11, h⟩ := bindO_some h
     simp only [go_sem]
     refine callD [0, 4] (f_ops_maker_add_p0_s0_0_det (⟨a_7, b_8⟩ : GOps_maker) xv_12 xv_9.N v_11 ev_11) (by simp) rfl ⟨rfl, ⟨rfl, trivial⟩⟩ rfl rfl rfl rfl ?_
     simp only [go_sem]
     refine seqQ_normal hQ19 ?_
     refine vc_cond_of (b := (!v_11.1)) (by (simp only [go_sem]; done)) (fun hb_20 => ?_) (fun hb_20 => ?_)
     ·
      replace h := if_t h hb_20
      simp only [bool_to_prop] at hb_20
      refine sg fun QQ20 hQ20 => ?_
      simp only [go_sem]
      refine seqQ_normal hQ20 ?_
      refine vc_ret_of ?_
      refine blockQ_ret hQ17 ?_
      refine seqQ_ret hQ16 ?_
      refine thenQ_ret hQ13 ?_
      refine blockQ_ret hQ12 ?_
      refine blockQ_ret hQ9 ?_
      refine seqQ_ret hQ8 ?_
      refine thenQ_ret hQ5 ?_
      refine blockQ_ret hQ4 ?_
      refine seqQ_ret hQ2 ?_
      simp only [go_sem]
      obtain rfl := Option.some.inj h
      refine retW_det [some 6] ?_
      simp only [go_sem, Le] <;> (repeat' apply And.intro) <;> first | ((try with_reducible refine TL_eq ?_); omega) | ((try with_reducible refine TL_eq ?_); (simp [go_sem]; done))
     ·
      replace h := if_f h hb_20
      simp only [bool_to_prop] at hb_20
      refine vc_skip_of ?_
      refine blockQ_normal hQ17 ?_
      refine seqQ_normal hQ16 ?_
      simp only [go_sem]
      refine thenQ_normal hQ13 ?_
      refine ⟨(m_2, IntKind.i64.wrap (t22_5 + 1), v_11.2.many, v_11.2.out), [some 2, some 3, some 6], ?_, h, Nat.lt_succ_self _⟩
      simp only [go_sem, Le] <;> (repeat' apply And.intro) <;> first | ((try with_reducible refine TL_eq ?_); omega) | ((try with_reducible refine TL_eq ?_); (simp [go_sem]; done))
    ·
     replace h := if_f h hb_19
     simp only [bool_to_prop] at hb_19
     refine vc_exit_of ?_
     refine seqQ_exit hQ15 ?_
     refine thenQ_exit hQ13 ?_
     refine blockQ_exit hQ12 ?_
     refine blockQ_normal hQ9 ?_
     refine seqQ_normal hQ8 ?_
     simp only [go_sem]
     refine thenQ_normal hQ5 ?_
     refine ⟨(m_1, IntKind.i64.wrap (t13_1 + 1), b_8, a_7), [some 2, some 4], ?_, h, Nat.lt_succ_self _⟩
     simp only [go_sem, Le] <;> (repeat' apply And.intro) <;> first | ((try with_reducible refine TL_eq ?_); omega) | ((try with_reducible refine TL_eq ?_); (simp [go_sem]; done))
  ·
   replace h := if_f h hb_14
   simp only [bool_to_prop] at hb_14
   refine vc_exit_of ?_
   refine seqQ_exit hQ7 ?_
   refine thenQ_exit hQ5 ?_
   refine blockQ_exit hQ4 ?_
   refine seqQ_normal hQ2 ?_
   refine sg fun QQ21 hQ21 => ?_
   simp only [go_sem]
   refine seqQ_normal hQ21 ?_
   refine vc_ret_of ?_
   simp only [go_sem]
   obtain rfl := Option.some.inj h
   refine retW_det [some 3] ?_
   simp only [go_sem, Le] <;> (repeat' apply And.intro) <;> first | ((try with_reducible refine TL_eq ?_); omega) | ((try with_reducible refine TL_eq ?_); (simp [go_sem]; done))

def f_ops_Linear_J1 (t4_0 : Bool) : Option Bool :=
 (if t4_0 = true then some true
 else some false)
def f_ops_Linear (kind_0 : Int) : Option Bool :=
 (if (kind_0 == 1) = true then f_ops_Linear_J1 (kind_0 == 1)
 else (if (kind_0 == 2) = true then f_ops_Linear_J1 (kind_0 == 2)
 else (if (kind_0 == 3) = true then f_ops_Linear_J1 (kind_0 == 3)
 else (if (kind_0 == 4) = true then f_ops_Linear_J1 (kind_0 == 4)
 else (if (kind_0 == 5) = true then f_ops_Linear_J1 (kind_0 == 5)
 else (if (kind_0 == 10) = true then f_ops_Linear_J1 (kind_0 == 10)
 else (if (kind_0 == 11) = true then f_ops_Linear_J1 (kind_0 == 11)
 else (if (kind_0 == 12) = true then f_ops_Linear_J1 (kind_0 == 12)
 else (if (kind_0 == 13) = true then f_ops_Linear_J1 (kind_0 == 13)
 else f_ops_Linear_J1 (kind_0 == 15))))))))))
theorem f_ops_Linear_ok (kind_0 : Int)  (r : Bool) (h : f_ops_Linear kind_0 = some r) : PureS Try.prog 25 [.v (.int .i64 kind_0)] 0 (.v (.bool r)) := by
 unfold PureS
 refine Spec.of_vc Try.func25 rfl (by kernel_rfl) (by kernel_rfl) ?_
 rw [f_ops_Linear] at h
 refine sg fun QQ1 hQ1 => ?_
 simp only [go_sem]
 refine seqQ_normal hQ1 ?_
 refine vc_join (by kernel_rfl) ?_
 refine seq_go_gen ?_
 intro QQ2 hQ2
 refine sg fun QQ3 hQ3 => ?_
 simp only [go_sem]
 refine seqQ_normal hQ3 ?_
 refine vc_block_gen ?_
 intro QQ4 hQ4
 refine vc_join (by kernel_rfl) ?_
 refine seq_cut_gen (ι := Bool) (fun (t4_0 : Bool) => (⟨0, [(4, .v (.bool t4_0))], [], 0, 15⟩ : St)) (fun (t4_0 : Bool) => f_ops_Linear_J1 t4_0 = some r) ?_ ?_
 ·
  intro QQ7 hQ7
  refine sg fun QQ8 hQ8 => ?_
  simp only [go_sem]
  refine seqQ_normal hQ8 ?_
  refine vc_cond_of (b := (kind_0 == 1)) (by (simp only [go_sem]; done)) (fun hb_10 => ?_) (fun hb_10 => ?_)
  ·
   replace h := if_t h hb_10
   simp only [bool_to_prop] at hb_10
   refine vc_skip_of ?_
   refine thenQ_normal hQ7 ?_
   refine ⟨(kind_0 == 1), [], ?_, h⟩
   simp only [go_sem, Le]
  ·
   replace h := if_f h hb_10
   simp only [bool_to_prop] at hb_10
   refine sg fun QQ9 hQ9 => ?_
   simp only [go_sem]
   refine seqQ_normal hQ9 ?_
   refine vc_cond_of (b := (kind_0 == 2)) (by (simp only [go_sem]; done)) (fun hb_11 => ?_) (fun hb_11 => ?_)
   ·
    replace h := if_t h hb_11
    simp only [bool_to_prop] at hb_11
    refine vc_skip_of ?_
    refine thenQ_normal hQ7 ?_
    refine ⟨(kind_0 == 2), [], ?_, h⟩
    simp only [go_sem, Le]
   ·
    replace h := if_f h hb_11
    simp only [bool_to_prop] at hb_11
    refine sg fun QQ10 hQ10 => ?_
    simp only [go_sem]
    refine seqQ_normal hQ10 ?_
    refine vc_cond_of (b := (kind_0 == 3)) (by (simp only [go_sem]; done)) (fun hb_12 => ?_) (fun hb_12 => ?_)
    ·
     replace h := if_t h hb_12
     simp only [bool_to_prop] at hb_12
     refine vc_skip_of ?_
     refine thenQ_normal hQ7 ?_
     refine ⟨(kind_0 == 3), [], ?_, h⟩
     simp only [go_sem, Le]
    ·
     replace h := if_f h hb_12
     simp only [bool_to_prop] at hb_12
     refine sg fun QQ11 hQ11 => ?_
     simp only [go_sem]
     refine seqQ_normal hQ11 ?_
     refine vc_cond_of (b := (kind_0 == 4)) (by (simp only [go_sem]; done)) (fun hb_13 => ?_) (fun hb_13 => ?_)
     ·
      replace h := if_t h hb_13
      simp only [bool_to_prop] at hb_13
      refine vc_skip_of ?_
      refine thenQ_normal hQ7 ?_
      refine ⟨(kind_0 == 4), [], ?_, h⟩
      simp only [go_sem, Le]
     ·
      replace h := if_f h hb_13
      simp only [bool_to_prop] at hb_13
      refine sg fun QQ12 hQ12 => ?_
      simp only [go_sem]
      refine seqQ_normal hQ12 ?_
      refine vc_cond_of (b := (kind_0 == 5)) (by (simp only [go_sem]; done)) (fun hb_14 => ?_) (fun hb_14 => ?_)
      ·
       replace h := if_t h hb_14
       simp only [bool_to_prop] at hb_14
       refine vc_skip_of ?_
       refine thenQ_normal hQ7 ?_
       refine ⟨(kind_0 == 5), [], ?_, h⟩
       simp only [go_sem, Le]
      ·
       replace h := if_f h hb_14
       simp only [bool_to_prop] at hb_14
       refine sg fun QQ13 hQ13 => ?_
       simp only [go_sem]
       refine seqQ_normal hQ13 ?_
       refine vc_cond_of (b := (kind_0 == 10)) (by (simp only [go_sem]; done)) (fun hb_15 => ?_) (fun hb_15 => ?_)
       ·
        replace h := if_t h hb_15
        simp only [bool_to_prop] at hb_15
        refine vc_skip_of ?_
        refine thenQ_normal hQ7 ?_
        refine ⟨(kind_0 == 10), [], ?_, h⟩
        simp only [go_sem, Le]
       ·
        replace h := if_f h hb_15
        simp only [bool_to_prop] at hb_15
        refine sg fun QQ14 hQ14 => ?_
        simp only [go_sem]
        refine seqQ_normal hQ14 ?_
        refine vc_cond_of (b := (kind_0 == 11)) (by (simp only [go_sem]; done)) (fun hb_16 => ?_) (fun hb_16 => ?_)
        ·
         replace h := if_t h hb_16
         simp only [bool_to_prop] at hb_16
         refine vc_skip_of ?_
         refine thenQ_normal hQ7 ?_
         refine ⟨(kind_0 == 11), [], ?_, h⟩
         simp only [go_sem, Le]
        ·
         replace h := if_f h hb_16
         simp only [bool_to_prop] at hb_16
         refine sg fun QQ15 hQ15 => ?_
         simp only [go_sem]
         refine seqQ_normal hQ15 ?_
         refine vc_cond_of (b := (kind_0 == 12)) (by (simp only [go_sem]; done)) (fun hb_17 => ?_) (fun hb_17 => ?_)
         ·
          replace h := if_t h hb_17
          simp only [bool_to_prop] at hb_17
          refine vc_skip_of ?_
          refine thenQ_normal hQ7 ?_
          refine ⟨(kind_0 == 12), [], ?_, h⟩
          simp only [go_sem, Le]
         ·
          replace h := if_f h hb_17
          simp only [bool_to_prop] at hb_17
          refine sg fun QQ16 hQ16 => ?_
          simp only [go_sem]
          refine seqQ_normal hQ16 ?_
          refine vc_cond_of (b := (kind_0 == 13)) (by (simp only [go_sem]; done)) (fun hb_18 => ?_) (fun hb_18 => ?_)
          ·
           replace h := if_t h hb_18
           simp only [bool_to_prop] at hb_18
           refine vc_skip_of ?_
           refine thenQ_normal hQ7 ?_
           refine ⟨(kind_0 == 13), [], ?_, h⟩
           simp only [go_sem, Le]
          ·
           replace h := if_f h hb_18
           simp only [bool_to_prop] at hb_18
           simp only [go_sem]
           refine thenQ_normal hQ7 ?_
           refine ⟨(kind_0 == 15), [], ?_, h⟩
           simp only [go_sem, Le]
 ·
  rintro t4_0 h
  try dsimp only at h
  rw [f_ops_Linear_J1] at h
  refine vc_cond_of (b := t4_0) (by (simp only [go_sem]; done)) (fun hb_9 => ?_) (fun hb_9 => ?_)
  ·
   replace h := if_t h hb_9
   refine sg fun QQ5 hQ5 => ?_
   simp only [go_sem]
   refine seqQ_normal hQ5 ?_
   refine vc_ret_of ?_
   refine blockQ_ret hQ4 ?_
   refine seqQ_ret hQ2 ?_
   simp only [go_sem]
   obtain rfl := Option.some.inj h
   refine retW_pure rfl ?_
   simp only [go_sem, Le]
  ·
   replace h := if_f h hb_9
   refine vc_skip_of ?_
   refine blockQ_normal hQ4 ?_
   refine seqQ_normal hQ2 ?_
   refine sg fun QQ6 hQ6 => ?_
   simp only [go_sem]
   refine seqQ_normal hQ6 ?_
   refine vc_ret_of ?_
   simp only [go_sem]
   obtain rfl := Option.some.inj h
   refine retW_pure rfl ?_
   simp only [go_sem, Le]

def f_ops_maker_join_p0_s0_0_B4 (b_0 : List GItem) (xv_51 : GItem) (t13_5 : Int) (rec_3 : (Int × Int × (List GItem) → Option (Bool × GOps_maker))) (xv_60 : GItem) (rec_4 : Int × Int × (List GItem) → Option (Bool × GOps_maker)) : Int × Int × (List GItem) → Option (Bool × GOps_maker) :=
 fun (t19_17, b_26, a_26) =>
 (if (decide (t19_17 < (List.length b_0 : Int))) = true then bindO (idx b_0 t19_17) (fun (xv_63 : GItem) =>
 (if (!(xv_63.Rec.K == xv_51.Rec.K)) = true then rec_4 (IntKind.i64.wrap (t19_17 + 1), b_26, a_26)
 else (if ((decide (65536 < xv_60.N)) || (decide (65536 < xv_63.N))) = true then some (false, (⟨a_26, b_26⟩ : GOps_maker))
 else bindO (f_ops_plus xv_51.Rec.K xv_60.Rec.V xv_63.Rec.V) (fun (v_52 : GRec) =>
 bindO (f_ops_maker_add_p0_s0_0 (⟨a_26, b_26⟩ : GOps_maker) v_52 (IntKind.i64.wrap (xv_60.N * xv_63.N))) (fun (v_53 : Bool × GOps_maker) =>
 (if (!v_53.1) = true then some (false, v_53.2)
 else rec_4 (IntKind.i64.wrap (t19_17 + 1), v_53.2.many, v_53.2.out)))))))
 else rec_3 (IntKind.i64.wrap (t13_5 + 1), b_26, a_26))
def f_ops_maker_join_p0_s0_0_B3 (a_0 : List GItem) (b_0 : List GItem) (fromv_1 : Int) (rec_1 : (Int × Int × (List GItem) → Option (Bool × GOps_maker))) (tov_12 : Int) (xv_51 : GItem) (rec_3 : Int × Int × (List GItem) → Option (Bool × GOps_maker)) : Int × Int × (List GItem) → Option (Bool × GOps_maker) :=
 fun (t13_5, b_24, a_24) =>
 (if (decide (t13_5 < (List.length (List.drop (Int.toNat fromv_1) (List.take (Int.toNat tov_12) a_0)) : Int))) = true then bindO (idx (List.drop (Int.toNat fromv_1) (List.take (Int.toNat tov_12) a_0)) t13_5) (fun (xv_60 : GItem) =>
 loopK (f_ops_maker_join_p0_s0_0_B4 b_0 xv_51 t13_5 rec_3 xv_60) rounds (0, b_24, a_24))
 else rec_1 (tov_12, b_24, a_24))
def f_ops_maker_join_p0_s0_0_J2 (a_0 : List GItem) (b_0 : List GItem) (fromv_1 : Int) (b_18 : Int) (a_18 : List GItem) (rec_1 : (Int × Int × (List GItem) → Option (Bool × GOps_maker))) (tov_12 : Int) : Option (Bool × GOps_maker) :=
 bindO (idx a_0 fromv_1) (fun (xv_51 : GItem) =>
 guardO (0 ≤ fromv_1 ∧ fromv_1 ≤ tov_12 ∧ tov_12 ≤ (List.length a_0 : Int)) (
 loopK (f_ops_maker_join_p0_s0_0_B3 a_0 b_0 fromv_1 rec_1 tov_12 xv_51) rounds (0, b_18, a_18)))
def f_ops_maker_join_p0_s0_0_B5 (a_0 : List GItem) (b_0 : List GItem) (fromv_1 : Int) (b_18 : Int) (a_18 : List GItem) (rec_1 : (Int × Int × (List GItem) → Option (Bool × GOps_maker))) (rec_5 : Int → Option (Bool × GOps_maker)) : Int → Option (Bool × GOps_maker) :=
 fun tov_14 =>
 (if (decide (tov_14 < (List.length a_0 : Int))) = true then bindO (idx a_0 tov_14) (fun (xv_67 : GItem) =>
 bindO (idx a_0 fromv_1) (fun (xv_68 : GItem) =>
 (if (xv_67.Rec.K == xv_68.Rec.K) = true then rec_5 (IntKind.i64.wrap (tov_14 + 1))
 else f_ops_maker_join_p0_s0_0_J2 a_0 b_0 fromv_1 b_18 a_18 rec_1 tov_14)))
 else f_ops_maker_join_p0_s0_0_J2 a_0 b_0 fromv_1 b_18 a_18 rec_1 tov_14)
def f_ops_maker_join_p0_s0_0_B1 (a_0 : List GItem) (b_0 : List GItem) (rec_1 : Int × Int × (List GItem) → Option (Bool × GOps_maker)) : Int × Int × (List GItem) → Option (Bool × GOps_maker) :=
 fun (fromv_1, b_18, a_18) =>
 (if (decide (fromv_1 < (List.length a_0 : Int))) = true then loopK (f_ops_maker_join_p0_s0_0_B5 a_0 b_0 fromv_1 b_18 a_18 rec_1) rounds fromv_1
 else some (true, (⟨a_18, b_18⟩ : GOps_maker)))
def f_ops_maker_join_p0_s0_0 (mv_0 : GOps_maker) (a_0 : List GItem) (b_0 : List GItem) : Option (Bool × GOps_maker) :=
 loopK (f_ops_maker_join_p0_s0_0_B1 a_0 b_0) rounds (0, mv_0.many, mv_0.out)
theorem f_ops_maker_join_p0_s0_0_det (mv_0 : GOps_maker) (a_0 : List GItem) (b_0 : List GItem)  (r : Bool × GOps_maker) (h : f_ops_maker_join_p0_s0_0 mv_0 a_0 b_0 = some r) : DetS Try.prog 69 [.ptr 0 0, .sl 3 (enc a_0), .sl 3 (enc b_0)] [(0, .box [.osl 1 3 (0) (List.length mv_0.out), .v (.int .i64 mv_0.many)]), (1, .arr 3 (enc mv_0.out))] 2 (.v (.bool r.1)) [(0, .box [.osl 2 3 (0) (List.length r.2.out), .v (.int .i64 r.2.many)]), (2, .arr 3 (enc r.2.out))] 3 := by
 unfold DetS
 refine Spec.of_vc Try.func69 rfl (by kernel_rfl) (by kernel_rfl) ?_
 rw [f_ops_maker_join_p0_s0_0] at h
 refine sg fun QQ1 hQ1 => ?_
 simp only [go_sem]
 refine seqQ_normal hQ1 ?_
 refine sg fun QQ2 hQ2 => ?_
 simp only [go_sem]
 refine callF_inl Try.func120 rfl (by kernel_rfl) (by kernel_rfl) ?_
 refine sg fun QQ3 hQ3 => ?_
 simp only [go_sem]
 refine seqQ_normal hQ3 ?_
 refine vc_join (by kernel_rfl) ?_
 refine seq_go_gen ?_
 intro QQ4 hQ4
 refine sg fun QQ5 hQ5 => ?_
 simp only [go_sem]
 refine seqQ_normal hQ5 ?_
 refine vc_block_gen ?_
 intro QQ6 hQ6
 refine vc_loop_of ?_
 refine loop_gen (ι := Nat × Int × Int × (List GItem)) (fun ((_, fromv_1, b_18, a_18) : Nat × Int × Int × (List GItem)) => (⟨4, [(0, .sl 3 (enc a_0)), (1, .clo 121 [.ptr 3 0, .ptr 2 0]), (5, .v (.int .i64 fromv_1))], [(0, .box [.osl 4 3 (0) (List.length a_18), .v (.int .i64 b_18)]), (2, .box [.ptr 0 0]), (3, .box [.sl 3 (enc b_0)]), (4, .arr 3 (enc a_18))], 5, 47⟩ : St)) (fun ((n_, fromv_1, b_18, a_18) : Nat × Int × Int × (List GItem)) => loopK (f_ops_maker_join_p0_s0_0_B1 a_0 b_0) n_ (fromv_1, b_18, a_18) = some r) (fun p => p.1) (rounds, 0, mv_0.many, mv_0.out) [some 1] ?_ h ?_
 · simp only [go_sem, Le] <;> (repeat' apply And.intro) <;> first | ((try with_reducible refine TL_eq ?_); omega) | ((try with_reducible refine TL_eq ?_); (simp [go_sem]; done))
 ·
  rintro ⟨n_1, fromv_1, b_18, a_18⟩ h QQ7 hQ7
  dsimp only at h
  replace h := loopK_some h
  obtain ⟨m_1, rfl, h⟩ := h
  rw [f_ops_maker_join_p0_s0_0_B1] at h
  refine sg fun QQ8 hQ8 => ?_
  refine sg fun QQ9 hQ9 => ?_
  simp only [go_sem]
  refine seqQ_normal hQ9 ?_
  refine vc_cond_of (b := (decide (fromv_1 < (List.length a_0 : Int)))) (by (simp only [go_sem]; done)) (fun hb_104 => ?_) (fun hb_104 => ?_)
  ·
   replace h := if_t h hb_104
   simp only [bool_to_prop] at hb_104
   refine vc_skip_of ?_
   refine seqQ_normal hQ8 ?_
   refine vc_block_gen ?_
   intro QQ10 hQ10
   refine sg fun QQ11 hQ11 => ?_
   simp only [go_sem]
   refine seqQ_normal hQ11 ?_
   refine vc_join (by kernel_rfl) ?_
   refine seq_cut_gen (ι := Int) (fun (tov_12 : Int) => (⟨4, [(0, .sl 3 (enc a_0)), (1, .clo 121 [.ptr 3 0, .ptr 2 0]), (5, .v (.int .i64 fromv_1)), (6, .v (.int .i64 tov_12))], [(0, .box [.osl 4 3 (0) (List.length a_18), .v (.int .i64 b_18)]), (2, .box [.ptr 0 0]), (3, .box [.sl 3 (enc b_0)]), (4, .arr 3 (enc a_18))], 5, 47⟩ : St)) (fun (tov_12 : Int) => f_ops_maker_join_p0_s0_0_J2 a_0 b_0 fromv_1 b_18 a_18 (loopK (f_ops_maker_join_p0_s0_0_B1 a_0 b_0) m_1) tov_12 = some r) ?_ ?_
   ·
    intro QQ40 hQ40
    refine vc_block_gen ?_
    intro QQ41 hQ41
    refine vc_loop_of ?_
    refine loop_gen (ι := Nat × Int) (fun ((_, tov_14) : Nat × Int) => (⟨4, [(0, .sl 3 (enc a_0)), (1, .clo 121 [.ptr 3 0, .ptr 2 0]), (5, .v (.int .i64 fromv_1)), (6, .v (.int .i64 tov_14))], [(0, .box [.osl 4 3 (0) (List.length a_18), .v (.int .i64 b_18)]), (2, .box [.ptr 0 0]), (3, .box [.sl 3 (enc b_0)]), (4, .arr 3 (enc a_18))], 5, 47⟩ : St)) (fun ((n_, tov_14) : Nat × Int) => loopK (f_ops_maker_join_p0_s0_0_B5 a_0 b_0 fromv_1 b_18 a_18 (loopK (f_ops_maker_join_p0_s0_0_B1 a_0 b_0) m_1)) n_ tov_14 = some r) (fun p => p.1) (rounds, fromv_1) [some 4] ?_ h ?_
    · simp only [go_sem, Le] <;> (repeat' apply And.intro) <;> first | ((try with_reducible refine TL_eq ?_); omega) | ((try with_reducible refine TL_eq ?_); (simp [go_sem]; done))
    ·
     rintro ⟨n_5, tov_14⟩ h QQ42 hQ42
     dsimp only at h
     replace h := loopK_some h
     obtain ⟨m_5, rfl, h⟩ := h
     rw [f_ops_maker_join_p0_s0_0_B5] at h
     refine sg fun QQ43 hQ43 => ?_
     refine sg fun QQ44 hQ44 => ?_
     refine vc_draw ?_
     refine drawM_tail 17 [0, 0, 2, 7, 15, 31, 31, 127, 255, 511, 1023, 31, 31, 6175, 14367, 30751, 63519, 131071, 262143] mixed (by kernel_rfl) (of_decide_eq_true (by kernel_rfl)) (by kernel_rfl) ?_
     simp only [go_sem]
     rcases hb_154 : (decide (tov_14 < (List.length a_0 : Int))) with _ | _
     ·
      replace h := if_f h hb_154
      simp only [go_sem, hb_154]
      refine seqQ_normal hQ44 ?_
      refine vc_cond_f (by (simp only [go_sem]; done)) ?_
      refine vc_exit_of ?_
      refine seqQ_exit hQ43 ?_
      refine thenQ_exit hQ42 ?_
      refine blockQ_exit hQ41 ?_
      refine thenQ_normal hQ40 ?_
      refine ⟨tov_14, [some 4], ?_, h⟩
      simp only [go_sem, Le] <;> (repeat' apply And.intro) <;> first | ((try with_reducible refine TL_eq ?_); omega) | ((try with_reducible refine TL_eq ?_); (simp [go_sem]; done))
     ·
      replace h := if_t h hb_154
      obtain ⟨xv_67, exv_67, h⟩ := bindO_some h
      obtain ⟨fxv_67a, fxv_67b, fxv_67c⟩ := idx_spec exv_67
      obtain ⟨xv_68, exv_68, h⟩ := bindO_some h
      obtain ⟨fxv_68a, fxv_68b, fxv_68c⟩ := idx_spec exv_68
      simp only [go_sem, hb_154, fxv_67a, fxv_67b, fxv_67c, fxv_68a, fxv_68b, fxv_68c]
      refine And.intro (by omega) ?_
      refine And.intro (by omega) ?_
      refine seqQ_normal hQ44 ?_
      refine vc_cond_of (b := (xv_67.Rec.K == xv_68.Rec.K)) (by (simp only [go_sem]; done)) (fun hb_155 => ?_) (fun hb_155 => ?_)
      ·
       replace h := if_t h hb_155
       simp only [bool_to_prop] at hb_155
       refine vc_skip_of ?_
       refine seqQ_normal hQ43 ?_
       refine vc_block_gen ?_
       intro QQ45 hQ45
       simp only [go_sem]
       refine blockQ_normal hQ45 ?_
       refine thenQ_normal hQ42 ?_
       refine ⟨(m_5, IntKind.i64.wrap (tov_14 + 1)), [some 4], ?_, h, Nat.lt_succ_self _⟩
       simp only [go_sem, Le] <;> (repeat' apply And.intro) <;> first | ((try with_reducible refine TL_eq ?_); omega) | ((try with_reducible refine TL_eq ?_); (simp [go_sem]; done))
      ·
       replace h := if_f h hb_155
       simp only [bool_to_prop] at hb_155
       refine vc_exit_of ?_
       refine seqQ_exit hQ43 ?_
       refine thenQ_exit hQ42 ?_
       refine blockQ_exit hQ41 ?_
       refine thenQ_normal hQ40 ?_
       refine ⟨tov_14, [some 4], ?_, h⟩
       simp only [go_sem, Le] <;> (repeat' apply And.intro) <;> first | ((try with_reducible refine TL_eq ?_); omega) | ((try with_reducible refine TL_eq ?_); (simp [go_sem]; done))
   ·
    rintro tov_12 h
    try dsimp only at h
    rw [f_ops_maker_join_p0_s0_0_J2] at h
    refine sg fun QQ12 hQ12 => ?_
    refine sg fun QQ13 hQ13 => ?_
    refine vc_draw ?_
    refine drawM_tail 11 [0, 0, 0, 6, 14, 30, 62, 0, 0, 0, 896, 2047, 4095] mixed (by kernel_rfl) (of_decide_eq_true (by kernel_rfl)) (by kernel_rfl) ?_
    obtain ⟨xv_51, exv_51, h⟩ := bindO_some h
    obtain ⟨fxv_51a, fxv_51b, fxv_51c⟩ := idx_spec exv_51
    obtain ⟨g_2, h⟩ := guardO_some h
    simp only [go_sem, fxv_51a, fxv_51b, fxv_51c, g_2]
    refine And.intro (by omega) ?_
    refine callF_inl Try.func121 rfl (by kernel_rfl) (by kernel_rfl) ?_
    refine sg fun QQ14 hQ14 => ?_
    simp only [go_sem]
    refine seqQ_normal hQ14 ?_
    refine vc_join (by kernel_rfl) ?_
    refine seq_go_gen ?_
    intro QQ15 hQ15
    refine sg fun QQ16 hQ16 => ?_
    simp only [go_sem]
    refine seqQ_normal hQ16 ?_
    refine vc_block_gen ?_
    intro QQ17 hQ17
    refine vc_loop_of ?_
    refine loop_gen (ι := Nat × Int × Int × (List GItem)) (fun ((_, t13_5, b_24, a_24) : Nat × Int × Int × (List GItem)) => (⟨5, [(0, .v (.int .i64 xv_51.Rec.K)), (2, .ptr 3 0), (3, .ptr 2 0), (11, .sl 3 (enc (List.drop (Int.toNat fromv_1) (List.take (Int.toNat tov_12) a_0)))), (12, .v (.int .i64 (List.length (List.drop (Int.toNat fromv_1) (List.take (Int.toNat tov_12) a_0)) : Int))), (13, .v (.int .i64 t13_5))], [(0, .box [.osl 5 3 (0) (List.length a_24), .v (.int .i64 b_24)]), (2, .box [.ptr 0 0]), (3, .box [.sl 3 (enc b_0)]), (5, .arr 3 (enc a_24))], 6, 56⟩ : St)) (fun ((n_, t13_5, b_24, a_24) : Nat × Int × Int × (List GItem)) => loopK (f_ops_maker_join_p0_s0_0_B3 a_0 b_0 fromv_1 (loopK (f_ops_maker_join_p0_s0_0_B1 a_0 b_0) m_1) tov_12 xv_51) n_ (t13_5, b_24, a_24) = some r) (fun p => p.1) (rounds, 0, b_18, a_18) [some 4] ?_ h ?_
    · simp only [go_sem, Le] <;> (repeat' apply And.intro) <;> first | ((try with_reducible refine TL_eq ?_); omega) | ((try with_reducible refine TL_eq ?_); (simp [go_sem]; done))
    ·
     rintro ⟨n_3, t13_5, b_24, a_24⟩ h QQ18 hQ18
     dsimp only at h
     replace h := loopK_some h
     obtain ⟨m_3, rfl, h⟩ := h
     rw [f_ops_maker_join_p0_s0_0_B3] at h
     refine sg fun QQ19 hQ19 => ?_
     simp only [go_sem]
     refine seqQ_normal hQ19 ?_
     refine sg fun QQ20 hQ20 => ?_
     refine vc_cond_of (b := (decide (t13_5 < (List.length (List.drop (Int.toNat fromv_1) (List.take (Int.toNat tov_12) a_0)) : Int)))) (by (simp only [go_sem]; done)) (fun hb_137 => ?_) (fun hb_137 => ?_)
     ·
      replace h := if_t h hb_137
      simp only [bool_to_prop] at hb_137
      refine vc_skip_of ?_
      refine seqQ_normal hQ20 ?_
      refine vc_join (by kernel_rfl) ?_
      refine seq_go_gen ?_
      intro QQ21 hQ21
      refine vc_block_gen ?_
      intro QQ22 hQ22
      refine sg fun QQ23 hQ23 => ?_
      obtain ⟨xv_60, exv_60, h⟩ := bindO_some h
      obtain ⟨fxv_60a, fxv_60b, fxv_60c⟩ := idx_spec exv_60
      simp only [go_sem, fxv_60a, fxv_60b, fxv_60c]
      refine And.intro (by omega) ?_
      refine seqQ_normal hQ23 ?_
      refine sg fun QQ24 hQ24 => ?_
      simp only [go_sem]
      refine seqQ_normal hQ24 ?_
      refine vc_block_gen ?_
      intro QQ25 hQ25
      refine vc_loop_of ?_
      refine loop_gen (ι := Nat × Int × Int × (List GItem)) (fun ((_, t19_17, b_26, a_26) : Nat × Int × Int × (List GItem)) => (⟨5, [(0, .v (.int .i64 xv_51.Rec.K)), (2, .ptr 3 0), (3, .ptr 2 0), (8, .ptr 5 0), (11, .sl 3 (enc (List.drop (Int.toNat fromv_1) (List.take (Int.toNat tov_12) a_0)))), (12, .v (.int .i64 (List.length (List.drop (Int.toNat fromv_1) (List.take (Int.toNat tov_12) a_0)) : Int))), (13, .v (.int .i64 t13_5)), (17, .sl 3 (enc b_0)), (18, .v (.int .i64 (List.length b_0 : Int))), (19, .v (.int .i64 t19_17))], [(0, .box [.osl 6 3 (0) (List.length a_26), .v (.int .i64 b_26)]), (2, .box [.ptr 0 0]), (3, .box [.sl 3 (enc b_0)]), (5, .box [.v (.int .i64 xv_60.Rec.K), .v (.int .i64 xv_60.Rec.V), .v (.int .i64 xv_60.N)]), (6, .arr 3 (enc a_26))], 7, 56⟩ : St)) (fun ((n_, t19_17, b_26, a_26) : Nat × Int × Int × (List GItem)) => loopK (f_ops_maker_join_p0_s0_0_B4 b_0 xv_51 t13_5 (loopK (f_ops_maker_join_p0_s0_0_B3 a_0 b_0 fromv_1 (loopK (f_ops_maker_join_p0_s0_0_B1 a_0 b_0) m_1) tov_12 xv_51) m_3) xv_60) n_ (t19_17, b_26, a_26) = some r) (fun p => p.1) (rounds, 0, b_24, a_24) [some 6, some 5] ?_ h ?_
      · simp only [go_sem, Le] <;> (repeat' apply And.intro) <;> first | ((try with_reducible refine TL_eq ?_); omega) | ((try with_reducible refine TL_eq ?_); (simp [go_sem]; done))
      ·
       rintro ⟨n_4, t19_17, b_26, a_26⟩ h QQ26 hQ26
       dsimp only at h
       replace h := loopK_some h
       obtain ⟨m_4, rfl, h⟩ := h
       rw [f_ops_maker_join_p0_s0_0_B4] at h
       refine sg fun QQ27 hQ27 => ?_
       simp only [go_sem]
       refine seqQ_normal hQ27 ?_
       refine sg fun QQ28 hQ28 => ?_
       refine vc_cond_of (b := (decide (t19_17 < (List.length b_0 : Int)))) (by (simp only [go_sem]; done)) (fun hb_146 => ?_) (fun hb_146 => ?_)
       ·
        replace h := if_t h hb_146
        simp only [bool_to_prop] at hb_146
        refine vc_skip_of ?_
        refine seqQ_normal hQ28 ?_
        refine sg fun QQ29 hQ29 => ?_
        refine vc_block_gen ?_
        intro QQ30 hQ30
        refine sg fun QQ31 hQ31 => ?_
        obtain ⟨xv_63, exv_63, h⟩ := bindO_some h
        obtain ⟨fxv_63a, fxv_63b, fxv_63c⟩ := idx_spec exv_63
        simp only [go_sem, fxv_63a, fxv_63b, fxv_63c]
        refine And.intro (by omega) ?_
        refine seqQ_normal hQ31 ?_
        refine sg fun QQ32 hQ32 => ?_
        refine sg fun QQ33 hQ33 => ?_
        simp only [go_sem]
        refine seqQ_normal hQ33 ?_
        refine vc_cond_of (b := (!(xv_63.Rec.K == xv_51.Rec.K))) (by (simp only [go_sem]; done)) (fun hb_147 => ?_) (fun hb_147 => ?_)
        ·
         replace h := if_t h hb_147
         simp only [bool_to_prop] at hb_147
         refine vc_exit_of ?_
         refine seqQ_exit hQ32 ?_
         refine blockQ_exit hQ30 ?_
         refine seqQ_normal hQ29 ?_
         simp only [go_sem]
         refine thenQ_normal hQ26 ?_
         refine ⟨(m_4, IntKind.i64.wrap (t19_17 + 1), b_26, a_26), [some 5, some 6], ?_, h, Nat.lt_succ_self _⟩
         simp only [go_sem, Le] <;> (repeat' apply And.intro) <;> first | ((try with_reducible refine TL_eq ?_); omega) | ((try with_reducible refine TL_eq ?_); (simp [go_sem]; done))
        ·
         replace h := if_f h hb_147
         simp only [bool_to_prop] at hb_147
         refine vc_skip_of ?_
         refine seqQ_normal hQ32 ?_
         refine sg fun QQ34 hQ34 => ?_
         refine vc_draw ?_
         refine drawM_tail 23 [0, 1, 3, 7, 15, 31, 63, 127, 255, 511, 511, 511, 2559, 6655, 511, 16895, 49663, 130559, 511, 262655, 511, 1049087, 3932671, 8388607, 16777215, 33554431] mixed (by kernel_rfl) (of_decide_eq_true (by kernel_rfl)) (by kernel_rfl) ?_
         simp only [go_sem]
         rcases hb_148 : ((decide (65536 < xv_60.N)) || (decide (65536 < xv_63.N))) with _ | _
         ·
          replace h := if_f h hb_148
          obtain ⟨v_52, ev_52, h⟩ := bindO_some h
          simp only [go_sem, hb_148]
          refine callq (fun _ => (f_ops_plus_ok xv_51.Rec.K xv_60.Rec.V xv_63.Rec.V v_52 ev_52)) (by rfl) (by rfl) ?_
          obtain ⟨v_53, ev_53, h⟩ := bindO_some h
          simp only [go_sem]
          refine callD [0, 6] (f_ops_maker_add_p0_s0_0_det (⟨a_26, b_26⟩ : GOps_maker) v_52 (IntKind.i64.wrap (xv_60.N * xv_63.N)) v_53 ev_53) (by simp) rfl ⟨rfl, ⟨rfl, trivial⟩⟩ rfl rfl rfl rfl ?_
          simp only [go_sem]
          refine seqQ_normal hQ34 ?_
          refine vc_cond_of (b := (!v_53.1)) (by (simp only [go_sem]; done)) (fun hb_149 => ?_) (fun hb_149 => ?_)
          ·
           replace h := if_t h hb_149
           simp only [bool_to_prop] at hb_149
           refine sg fun QQ35 hQ35 => ?_
           simp only [go_sem]
           refine seqQ_normal hQ35 ?_
           refine vc_ret_of ?_
           refine blockQ_ret hQ30 ?_
           refine seqQ_ret hQ29 ?_
           refine thenQ_ret hQ26 ?_
           refine blockQ_ret hQ25 ?_
           refine blockQ_ret hQ22 ?_
           refine seqQ_ret hQ21 ?_
           refine thenQ_ret hQ18 ?_
           refine blockQ_ret hQ17 ?_
           refine seqQ_ret hQ15 ?_
           simp only [go_sem]
           refine retW_inl [some 5, some 7, some 8] [(0, .box [.osl 7 3 (0) (List.length v_53.2.out), .v (.int .i64 v_53.2.many)]), (2, .box [.ptr 0 0]), (3, .box [.sl 3 (enc b_0)]), (5, .box [.v (.int .i64 xv_60.Rec.K), .v (.int .i64 xv_60.Rec.V), .v (.int .i64 xv_60.N)]), (6, .box [.v (.int .i64 xv_63.Rec.K), .v (.int .i64 xv_63.Rec.V), .v (.int .i64 xv_63.N)]), (7, .arr 3 (enc v_53.2.out))] 8 (.v (.bool false)) ?_ ?_
           · simp only [go_sem, Le] <;> (repeat' apply And.intro) <;> first | ((try with_reducible refine TL_eq ?_); omega) | ((try with_reducible refine TL_eq ?_); (simp [go_sem]; done))
           refine inlK_of ?_
           simp only [go_sem]
           refine seqQ_normal hQ13 ?_
           refine vc_cond_t (by (simp only [go_sem]; done)) ?_
           refine sg fun QQ36 hQ36 => ?_
           simp only [go_sem]
           refine seqQ_normal hQ36 ?_
           refine vc_ret_of ?_
           refine seqQ_ret hQ12 ?_
           refine blockQ_ret hQ10 ?_
           refine thenQ_ret hQ7 ?_
           refine blockQ_ret hQ6 ?_
           refine seqQ_ret hQ4 ?_
           simp only [go_sem]
           refine retW_inl [some 5, some 6, some 7] [(0, .box [.osl 6 3 (0) (List.length v_53.2.out), .v (.int .i64 v_53.2.many)]), (2, .box [.ptr 0 0]), (3, .box [.sl 3 (enc b_0)]), (4, .box [.v (.int .i64 xv_60.Rec.K), .v (.int .i64 xv_60.Rec.V), .v (.int .i64 xv_60.N)]), (5, .box [.v (.int .i64 xv_63.Rec.K), .v (.int .i64 xv_63.Rec.V), .v (.int .i64 xv_63.N)]), (6, .arr 3 (enc v_53.2.out))] 7 (.v (.bool false)) ?_ ?_
           · simp only [go_sem, Le] <;> (repeat' apply And.intro) <;> first | ((try with_reducible refine TL_eq ?_); omega) | ((try with_reducible refine TL_eq ?_); (simp [go_sem]; done))
           refine inlK_of ?_
           simp only [go_sem]
           refine seqQ_normal hQ2 ?_
           refine vc_ret_of ?_
           simp only [go_sem]
           obtain rfl := Option.some.inj h
           refine retW_det [some 6] ?_
           simp only [go_sem, Le] <;> (repeat' apply And.intro) <;> first | ((try with_reducible refine TL_eq ?_); omega) | ((try with_reducible refine TL_eq ?_); (simp [go_sem]; done))
          ·
           replace h := if_f h hb_149
           simp only [bool_to_prop] at hb_149
           refine vc_skip_of ?_
           refine blockQ_normal hQ30 ?_
           refine seqQ_normal hQ29 ?_
           simp only [go_sem]
           refine thenQ_normal hQ26 ?_
           refine ⟨(m_4, IntKind.i64.wrap (t19_17 + 1), v_53.2.many, v_53.2.out), [some 5, some 8], ?_, h, Nat.lt_succ_self _⟩
           simp only [go_sem, Le] <;> (repeat' apply And.intro) <;> first | ((try with_reducible refine TL_eq ?_); omega) | ((try with_reducible refine TL_eq ?_); (simp [go_sem]; done))
         ·
          replace h := if_t h hb_148
          simp only [go_sem, hb_148]
          refine seqQ_normal hQ34 ?_
          refine vc_cond_t (by (simp only [go_sem]; done)) ?_
          refine sg fun QQ37 hQ37 => ?_
          simp only [go_sem]
          refine seqQ_normal hQ37 ?_
          refine vc_ret_of ?_
          refine blockQ_ret hQ30 ?_
          refine seqQ_ret hQ29 ?_
          refine thenQ_ret hQ26 ?_
          refine blockQ_ret hQ25 ?_
          refine blockQ_ret hQ22 ?_
          refine seqQ_ret hQ21 ?_
          refine thenQ_ret hQ18 ?_
          refine blockQ_ret hQ17 ?_
          refine seqQ_ret hQ15 ?_
          simp only [go_sem]
          refine retW_inl [some 5, some 6, some 7] [(0, .box [.osl 6 3 (0) (List.length a_26), .v (.int .i64 b_26)]), (2, .box [.ptr 0 0]), (3, .box [.sl 3 (enc b_0)]), (5, .box [.v (.int .i64 xv_60.Rec.K), .v (.int .i64 xv_60.Rec.V), .v (.int .i64 xv_60.N)]), (6, .arr 3 (enc a_26)), (7, .box [.v (.int .i64 xv_63.Rec.K), .v (.int .i64 xv_63.Rec.V), .v (.int .i64 xv_63.N)])] 8 (.v (.bool false)) ?_ ?_
          · simp only [go_sem, Le] <;> (repeat' apply And.intro) <;> first | ((try with_reducible refine TL_eq ?_); omega) | ((try with_reducible refine TL_eq ?_); (simp [go_sem]; done))
          refine inlK_of ?_
          simp only [go_sem]
          refine seqQ_normal hQ13 ?_
          refine vc_cond_t (by (simp only [go_sem]; done)) ?_
          refine sg fun QQ38 hQ38 => ?_
          simp only [go_sem]
          refine seqQ_normal hQ38 ?_
          refine vc_ret_of ?_
          refine seqQ_ret hQ12 ?_
          refine blockQ_ret hQ10 ?_
          refine thenQ_ret hQ7 ?_
          refine blockQ_ret hQ6 ?_
          refine seqQ_ret hQ4 ?_
          simp only [go_sem]
          refine retW_inl [some 5, some 6, some 7] [(0, .box [.osl 5 3 (0) (List.length a_26), .v (.int .i64 b_26)]), (2, .box [.ptr 0 0]), (3, .box [.sl 3 (enc b_0)]), (4, .box [.v (.int .i64 xv_60.Rec.K), .v (.int .i64 xv_60.Rec.V), .v (.int .i64 xv_60.N)]), (5, .arr 3 (enc a_26)), (6, .box [.v (.int .i64 xv_63.Rec.K), .v (.int .i64 xv_63.Rec.V), .v (.int .i64 xv_63.N)])] 7 (.v (.bool false)) ?_ ?_
          · simp only [go_sem, Le] <;> (repeat' apply And.intro) <;> first | ((try with_reducible refine TL_eq ?_); omega) | ((try with_reducible refine TL_eq ?_); (simp [go_sem]; done))
          refine inlK_of ?_
          simp only [go_sem]
          refine seqQ_normal hQ2 ?_
          refine vc_ret_of ?_
          simp only [go_sem]
          obtain rfl := Option.some.inj h
          refine retW_det [some 5] ?_
          simp only [go_sem, Le] <;> (repeat' apply And.intro) <;> first | ((try with_reducible refine TL_eq ?_); omega) | ((try with_reducible refine TL_eq ?_); (simp [go_sem]; done))
       ·
        replace h := if_f h hb_146
        simp only [bool_to_prop] at hb_146
        refine vc_exit_of ?_
        refine seqQ_exit hQ28 ?_
        refine thenQ_exit hQ26 ?_
        refine blockQ_exit hQ25 ?_
        refine blockQ_normal hQ22 ?_
        refine seqQ_normal hQ21 ?_
        simp only [go_sem]
        refine thenQ_normal hQ18 ?_
        refine ⟨(m_3, IntKind.i64.wrap (t13_5 + 1), b_26, a_26), [some 6], ?_, h, Nat.lt_succ_self _⟩
        simp only [go_sem, Le] <;> (repeat' apply And.intro) <;> first | ((try with_reducible refine TL_eq ?_); omega) | ((try with_reducible refine TL_eq ?_); (simp [go_sem]; done))
     ·
      replace h := if_f h hb_137
      simp only [bool_to_prop] at hb_137
      refine vc_exit_of ?_
      refine seqQ_exit hQ20 ?_
      refine thenQ_exit hQ18 ?_
      refine blockQ_exit hQ17 ?_
      refine seqQ_normal hQ15 ?_
      refine sg fun QQ39 hQ39 => ?_
      simp only [go_sem]
      refine seqQ_normal hQ39 ?_
      refine vc_ret_of ?_
      simp only [go_sem]
      refine retW_inl [some 5] [(0, .box [.osl 5 3 (0) (List.length a_24), .v (.int .i64 b_24)]), (2, .box [.ptr 0 0]), (3, .box [.sl 3 (enc b_0)]), (5, .arr 3 (enc a_24))] 6 (.v (.bool true)) ?_ ?_
      · simp only [go_sem, Le] <;> (repeat' apply And.intro) <;> first | ((try with_reducible refine TL_eq ?_); omega) | ((try with_reducible refine TL_eq ?_); (simp [go_sem]; done))
      refine inlK_of ?_
      simp only [go_sem]
      refine seqQ_normal hQ13 ?_
      refine vc_cond_f (by (simp only [go_sem]; done)) ?_
      refine vc_skip_of ?_
      refine seqQ_normal hQ12 ?_
      simp only [go_sem]
      refine blockQ_normal hQ10 ?_
      refine thenQ_normal hQ7 ?_
      refine ⟨(m_1, tov_12, b_24, a_24), [some 5], ?_, h, Nat.lt_succ_self _⟩
      simp only [go_sem, Le] <;> (repeat' apply And.intro) <;> first | ((try with_reducible refine TL_eq ?_); omega) | ((try with_reducible refine TL_eq ?_); (simp [go_sem]; done))
  ·
   replace h := if_f h hb_104
   simp only [bool_to_prop] at hb_104
   refine vc_exit_of ?_
   refine seqQ_exit hQ8 ?_
   refine thenQ_exit hQ7 ?_
   refine blockQ_exit hQ6 ?_
   refine seqQ_normal hQ4 ?_
   refine sg fun QQ46 hQ46 => ?_
   simp only [go_sem]
   refine seqQ_normal hQ46 ?_
   refine vc_ret_of ?_
   simp only [go_sem]
   refine retW_inl [some 4] [(0, .box [.osl 4 3 (0) (List.length a_18), .v (.int .i64 b_18)]), (2, .box [.ptr 0 0]), (3, .box [.sl 3 (enc b_0)]), (4, .arr 3 (enc a_18))] 5 (.v (.bool true)) ?_ ?_
   · simp only [go_sem, Le] <;> (repeat' apply And.intro) <;> first | ((try with_reducible refine TL_eq ?_); omega) | ((try with_reducible refine TL_eq ?_); (simp [go_sem]; done))
   refine inlK_of ?_
   simp only [go_sem]
   refine seqQ_normal hQ2 ?_
   refine vc_ret_of ?_
   simp only [go_sem]
   obtain rfl := Option.some.inj h
   refine retW_det [some 4] ?_
   simp only [go_sem, Le] <;> (repeat' apply And.intro) <;> first | ((try with_reducible refine TL_eq ?_); omega) | ((try with_reducible refine TL_eq ?_); (simp [go_sem]; done))

def f_math_bits_Sub64 (x_0 : Int) (y_0 : Int) (c_0 : Int) : Option (Int × Int) := sub64F x_0 y_0 c_0
theorem f_math_bits_Sub64_ok (x_0 : Int) (y_0 : Int) (c_0 : Int) (r : Int × Int) (h : f_math_bits_Sub64 x_0 y_0 c_0 = some r) : PureS Try.prog 225 [.v (.int .u64 x_0), .v (.int .u64 y_0), .v (.int .u64 c_0)] 0 (.tup [.v (.int .u64 r.1), .v (.int .u64 r.2)]) :=
 sub64_pure Try.func225 (by kernel_rfl) (by kernel_rfl) (by kernel_rfl) (by kernel_rfl) h

def f_math_bits_Add64 (x_0 : Int) (y_0 : Int) (c_0 : Int) : Option (Int × Int) := add64F x_0 y_0 c_0
theorem f_math_bits_Add64_ok (x_0 : Int) (y_0 : Int) (c_0 : Int) (r : Int × Int) (h : f_math_bits_Add64 x_0 y_0 c_0 = some r) : PureS Try.prog 193 [.v (.int .u64 x_0), .v (.int .u64 y_0), .v (.int .u64 c_0)] 0 (.tup [.v (.int .u64 r.1), .v (.int .u64 r.2)]) :=
 add64_pure Try.func193 (by kernel_rfl) (by kernel_rfl) (by kernel_rfl) (by kernel_rfl) h

def f_ops_wide_add_J1 (w_0 : GOps_wide) (v_0 : Int) (nv_0 : Int) (size_0 : Int) : Option GOps_wide :=
 bindO (f_math_bits_Mul64 size_0 (IntKind.u64.wrap nv_0)) (fun (v_1 : Int × Int) =>
 (if (decide (v_0 < 0)) = true then bindO (f_math_bits_Sub64 w_0.lo.n v_1.2 0) (fun (v_2 : Int × Int) =>
 some (⟨IntKind.i64.wrap (w_0.hi - (IntKind.i64.wrap ((IntKind.i64.wrap v_1.1) + (IntKind.i64.wrap v_2.2)))), (⟨v_2.1⟩ : Nu64)⟩ : GOps_wide))
 else bindO (f_math_bits_Add64 w_0.lo.n v_1.2 0) (fun (v_3 : Int × Int) =>
 some (⟨IntKind.i64.wrap (w_0.hi + (IntKind.i64.wrap ((IntKind.i64.wrap v_1.1) + (IntKind.i64.wrap v_3.2)))), (⟨v_3.1⟩ : Nu64)⟩ : GOps_wide))))
def f_ops_wide_add (w_0 : GOps_wide) (v_0 : Int) (nv_0 : Int) : Option GOps_wide :=
 (if (decide (v_0 < 0)) = true then f_ops_wide_add_J1 w_0 v_0 nv_0 (IntKind.u64.wrap (0 - (IntKind.u64.wrap v_0)))
 else f_ops_wide_add_J1 w_0 v_0 nv_0 (IntKind.u64.wrap v_0))
theorem f_ops_wide_add_ok (w_0 : GOps_wide) (v_0 : Int) (nv_0 : Int)  (r : GOps_wide) (h : f_ops_wide_add w_0 v_0 nv_0 = some r) : PureS Try.prog 196 [.agg [.v (.int .i64 w_0.hi), .v (.int .u64 w_0.lo.n)], .v (.int .i64 v_0), .v (.int .i64 nv_0)] 0 (.agg [.v (.int .i64 r.hi), .v (.int .u64 r.lo.n)]) := by
 unfold PureS
 refine Spec.of_vc Try.func196 rfl (by kernel_rfl) (by kernel_rfl) ?_
 rw [f_ops_wide_add] at h
 refine sg fun QQ1 hQ1 => ?_
 simp only [go_sem]
 refine seqQ_normal hQ1 ?_
 refine sg fun QQ2 hQ2 => ?_
 simp only [go_sem]
 refine seqQ_normal hQ2 ?_
 refine vc_join (by kernel_rfl) ?_
 refine seq_cut_gen (ι := Int) (fun (size_0 : Int) => (⟨0, [(1, .v (.int .i64 v_0)), (2, .v (.int .i64 nv_0)), (3, .ptr 0 0), (6, .ptr 1 0), (7, .v (.int .u64 size_0))], [(0, .box [.v (.int .i64 w_0.hi), .v (.int .u64 w_0.lo.n)]), (1, .box [.v (.int .i64 0), .v (.int .u64 0)])], 2, 62⟩ : St)) (fun (size_0 : Int) => f_ops_wide_add_J1 w_0 v_0 nv_0 size_0 = some r) ?_ ?_
 ·
  intro QQ13 hQ13
  refine sg fun QQ14 hQ14 => ?_
  simp only [go_sem]
  refine seqQ_normal hQ14 ?_
  refine vc_cond_of (b := (decide (v_0 < 0))) (by (simp only [go_sem]; done)) (fun hb_2 => ?_) (fun hb_2 => ?_)
  ·
   replace h := if_t h hb_2
   simp only [bool_to_prop] at hb_2
   simp only [go_sem]
   refine thenQ_normal hQ13 ?_
   refine ⟨IntKind.u64.wrap (0 - (IntKind.u64.wrap v_0)), [some 0, some 1], ?_, h⟩
   simp only [go_sem, Le] <;> (repeat' apply And.intro) <;> first | ((try with_reducible refine TL_eq ?_); omega) | ((try with_reducible refine TL_eq ?_); (simp [go_sem]; done))
  ·
   replace h := if_f h hb_2
   simp only [bool_to_prop] at hb_2
   refine vc_skip_of ?_
   refine thenQ_normal hQ13 ?_
   refine ⟨IntKind.u64.wrap v_0, [some 0, some 1], ?_, h⟩
   simp only [go_sem, Le] <;> (repeat' apply And.intro) <;> first | ((try with_reducible refine TL_eq ?_); omega) | ((try with_reducible refine TL_eq ?_); (simp [go_sem]; done))
 ·
  rintro size_0 h
  try dsimp only at h
  rw [f_ops_wide_add_J1] at h
  refine sg fun QQ3 hQ3 => ?_
  obtain ⟨v_1, ev_1, h⟩ := bindO_some h
  simp only [go_sem]
  refine call0 (f_math_bits_Mul64_ok size_0 (IntKind.u64.wrap nv_0) v_1 ev_1) (by rfl) (by rfl) ?_
  simp only [go_sem]
  refine seqQ_normal hQ3 ?_
  refine sg fun QQ4 hQ4 => ?_
  simp only [go_sem]
  refine seqQ_normal hQ4 ?_
  refine sg fun QQ5 hQ5 => ?_
  refine sg fun QQ6 hQ6 => ?_
  simp only [go_sem]
  refine seqQ_normal hQ6 ?_
  refine vc_cond_of (b := (decide (v_0 < 0))) (by (simp only [go_sem]; done)) (fun hb_1 => ?_) (fun hb_1 => ?_)
  ·
   replace h := if_t h hb_1
   simp only [bool_to_prop] at hb_1
   refine sg fun QQ7 hQ7 => ?_
   obtain ⟨v_2, ev_2, h⟩ := bindO_some h
   simp only [go_sem]
   refine call0 (f_math_bits_Sub64_ok w_0.lo.n v_1.2 0 v_2 ev_2) (by rfl) (by rfl) ?_
   simp only [go_sem]
   refine seqQ_normal hQ7 ?_
   refine sg fun QQ8 hQ8 => ?_
   simp only [go_sem]
   refine seqQ_normal hQ8 ?_
   refine sg fun QQ9 hQ9 => ?_
   simp only [go_sem]
   refine seqQ_normal hQ9 ?_
   refine vc_ret_of ?_
   refine seqQ_ret hQ5 ?_
   simp only [go_sem]
   obtain rfl := Option.some.inj h
   refine retW_pure rfl ?_
   simp only [go_sem, Le]
  ·
   replace h := if_f h hb_1
   simp only [bool_to_prop] at hb_1
   refine vc_skip_of ?_
   refine seqQ_normal hQ5 ?_
   refine sg fun QQ10 hQ10 => ?_
   obtain ⟨v_3, ev_3, h⟩ := bindO_some h
   simp only [go_sem]
   refine call0 (f_math_bits_Add64_ok w_0.lo.n v_1.2 0 v_3 ev_3) (by rfl) (by rfl) ?_
   simp only [go_sem]
   refine seqQ_normal hQ10 ?_
   refine sg fun QQ11 hQ11 => ?_
   simp only [go_sem]
   refine seqQ_normal hQ11 ?_
   refine sg fun QQ12 hQ12 => ?_
   simp only [go_sem]
   refine seqQ_normal hQ12 ?_
   refine vc_ret_of ?_
   simp only [go_sem]
   obtain rfl := Option.some.inj h
   refine retW_pure rfl ?_
   simp only [go_sem, Le]

def f_ops_sum_B1 (l_0 : List GItem) (rec_1 : Int × GOps_wide → Option GOps_wide) : Int × GOps_wide → Option GOps_wide :=
 fun (t8_1, b_1) =>
 (if (decide (t8_1 < (List.length l_0 : Int))) = true then bindO (idx l_0 t8_1) (fun (xv_2 : GItem) =>
 bindO (f_ops_wide_add b_1 xv_2.Rec.V xv_2.N) (fun (v_2 : GOps_wide) =>
 rec_1 (IntKind.i64.wrap (t8_1 + 1), v_2)))
 else some b_1)
def f_ops_sum (l_0 : List GItem) : Option GOps_wide :=
 loopK (f_ops_sum_B1 l_0) rounds (0, (⟨0, (⟨0⟩ : Nu64)⟩ : GOps_wide))
theorem f_ops_sum_ok (l_0 : List GItem)  (r : GOps_wide) (h : f_ops_sum l_0 = some r) : PureS Try.prog 124 [.sl 3 (enc l_0)] 0 (.agg [.v (.int .i64 r.hi), .v (.int .u64 r.lo.n)]) := by
 unfold PureS
 refine Spec.of_vc Try.func124 rfl (by kernel_rfl) (by kernel_rfl) ?_
 rw [f_ops_sum] at h
 refine sg fun QQ1 hQ1 => ?_
 simp only [go_sem]
 refine seqQ_normal hQ1 ?_
 refine sg fun QQ2 hQ2 => ?_
 simp only [go_sem]
 refine seqQ_normal hQ2 ?_
 refine vc_join (by kernel_rfl) ?_
 refine seq_go_gen ?_
 intro QQ3 hQ3
 refine sg fun QQ4 hQ4 => ?_
 simp only [go_sem]
 refine seqQ_normal hQ4 ?_
 refine vc_block_gen ?_
 intro QQ5 hQ5
 refine vc_loop_of ?_
 refine loop_gen (ι := Nat × Int × GOps_wide) (fun ((_, t8_1, b_1) : Nat × Int × GOps_wide) => (⟨0, [(2, .ptr 0 0), (3, .ptr 1 0), (6, .sl 3 (enc l_0)), (7, .v (.int .i64 (List.length l_0 : Int))), (8, .v (.int .i64 t8_1))], [(0, .box [.v (.int .i64 0), .v (.int .u64 0)]), (1, .box [.v (.int .i64 b_1.hi), .v (.int .u64 b_1.lo.n)])], 2, 21⟩ : St)) (fun ((n_, t8_1, b_1) : Nat × Int × GOps_wide) => loopK (f_ops_sum_B1 l_0) n_ (t8_1, b_1) = some r) (fun p => p.1) (rounds, 0, (⟨0, (⟨0⟩ : Nu64)⟩ : GOps_wide)) [some 0, some 1] ?_ h ?_
 · simp only [go_sem, Le] <;> (repeat' apply And.intro) <;> first | ((try with_reducible refine TL_eq ?_); omega) | ((try with_reducible refine TL_eq ?_); (simp [go_sem]; done))
 ·
  rintro ⟨n_1, t8_1, b_1⟩ h QQ6 hQ6
  dsimp only at h
  replace h := loopK_some h
  obtain ⟨m_1, rfl, h⟩ := h
  rw [f_ops_sum_B1] at h
  refine sg fun QQ7 hQ7 => ?_
  simp only [go_sem]
  refine seqQ_normal hQ7 ?_
  refine sg fun QQ8 hQ8 => ?_
  refine vc_cond_of (b := (decide (t8_1 < (List.length l_0 : Int)))) (by (simp only [go_sem]; done)) (fun hb_2 => ?_) (fun hb_2 => ?_)
  ·
   replace h := if_t h hb_2
   simp only [bool_to_prop] at hb_2
   refine vc_skip_of ?_
   refine seqQ_normal hQ8 ?_
   refine sg fun QQ9 hQ9 => ?_
   refine vc_block_gen ?_
   intro QQ10 hQ10
   refine sg fun QQ11 hQ11 => ?_
   obtain ⟨xv_2, exv_2, h⟩ := bindO_some h
   obtain ⟨fxv_2a, fxv_2b, fxv_2c⟩ := idx_spec exv_2
   simp only [go_sem, fxv_2a, fxv_2b, fxv_2c]
   refine And.intro (by omega) ?_
   refine seqQ_normal hQ11 ?_
   obtain ⟨v_2, ev_2, h⟩ := bindO_some h
   simp only [go_sem]
   refine call0 (f_ops_wide_add_ok b_1 xv_2.Rec.V xv_2.N v_2 ev_2) (by rfl) (by rfl) ?_
   simp only [go_sem]
   refine blockQ_normal hQ10 ?_
   refine seqQ_normal hQ9 ?_
   simp only [go_sem]
   refine thenQ_normal hQ6 ?_
   refine ⟨(m_1, IntKind.i64.wrap (t8_1 + 1), v_2), [some 0, some 1], ?_, h, Nat.lt_succ_self _⟩
   simp only [go_sem, Le] <;> (repeat' apply And.intro) <;> first | ((try with_reducible refine TL_eq ?_); omega) | ((try with_reducible refine TL_eq ?_); (simp [go_sem]; done))
  ·
   replace h := if_f h hb_2
   simp only [bool_to_prop] at hb_2
   refine vc_exit_of ?_
   refine seqQ_exit hQ8 ?_
   refine thenQ_exit hQ6 ?_
   refine blockQ_exit hQ5 ?_
   refine seqQ_normal hQ3 ?_
   refine sg fun QQ12 hQ12 => ?_
   simp only [go_sem]
   refine seqQ_normal hQ12 ?_
   refine vc_ret_of ?_
   simp only [go_sem]
   obtain rfl := Option.some.inj h
   refine retW_pure rfl ?_
   simp only [go_sem, Le]

def f_ops_wide_record (w_0 : GOps_wide) (k_0 : Int) : Option GRec :=
 (if (((w_0.hi == 0) && (decide (0 ≤ (IntKind.i64.wrap w_0.lo.n)))) || ((w_0.hi == (-1)) && (decide ((IntKind.i64.wrap w_0.lo.n) < 0)))) = true then some (⟨k_0, IntKind.i64.wrap w_0.lo.n⟩ : GRec)
 else bindO (f_ops_wrong k_0) (fun (v_0 : GRec) =>
 some v_0))
theorem f_ops_wide_record_ok (w_0 : GOps_wide) (k_0 : Int)  (r : GRec) (h : f_ops_wide_record w_0 k_0 = some r) : PureS Try.prog 125 [.agg [.v (.int .i64 w_0.hi), .v (.int .u64 w_0.lo.n)], .v (.int .i64 k_0)] 0 (.agg [.v (.int .i64 r.K), .v (.int .i64 r.V)]) := by
 unfold PureS
 refine Spec.of_vc Try.func125 rfl (by kernel_rfl) (by kernel_rfl) ?_
 rw [f_ops_wide_record] at h
 refine sg fun QQ1 hQ1 => ?_
 simp only [go_sem]
 refine seqQ_normal hQ1 ?_
 refine sg fun QQ2 hQ2 => ?_
 simp only [go_sem]
 refine seqQ_normal hQ2 ?_
 refine sg fun QQ3 hQ3 => ?_
 refine sg fun QQ4 hQ4 => ?_
 simp only [go_sem]
 refine And.intro (by (intros; (repeat' apply And.intro) <;> first | assumption | omega)) ?_
 refine seqQ_normal hQ4 ?_
 refine vc_cond_of (b := (((w_0.hi == 0) && (decide (0 ≤ (IntKind.i64.wrap w_0.lo.n)))) || ((w_0.hi == (-1)) && (decide ((IntKind.i64.wrap w_0.lo.n) < 0))))) (by (simp only [go_sem]; done)) (fun hb_0 => ?_) (fun hb_0 => ?_)
 ·
  replace h := if_t h hb_0
  simp only [bool_to_prop] at hb_0
  refine sg fun QQ5 hQ5 => ?_
  simp only [go_sem]
  refine seqQ_normal hQ5 ?_
  refine vc_ret_of ?_
  refine seqQ_ret hQ3 ?_
  simp only [go_sem]
  obtain rfl := Option.some.inj h
  refine retW_pure rfl ?_
  simp only [go_sem, Le]
 ·
  replace h := if_f h hb_0
  simp only [bool_to_prop] at hb_0
  refine vc_skip_of ?_
  refine seqQ_normal hQ3 ?_
  refine sg fun QQ6 hQ6 => ?_
  obtain ⟨v_0, ev_0, h⟩ := bindO_some h
  simp only [go_sem]
  refine call0 (f_ops_wrong_ok k_0 v_0 ev_0) (by rfl) (by rfl) ?_
  simp only [go_sem]
  refine seqQ_normal hQ6 ?_
  refine vc_ret_of ?_
  simp only [go_sem]
  obtain rfl := Option.some.inj h
  refine retW_pure rfl ?_
  simp only [go_sem, Le]

def f_ops_maker_grouped_p0_s0_0_J4 (b_2 : Int) (a_12 : List GItem) (rec_1 : (Int × Int × (List GItem) → Option (Bool × GOps_maker))) (tov_12 : Int) (xv_63 : GItem) (a_15 : List GItem) : Option (Bool × GOps_maker) :=
 bindO (f_ops_sum a_15) (fun (v_26 : GOps_wide) =>
 bindO (f_ops_wide_record v_26 xv_63.Rec.K) (fun (v_27 : GRec) =>
 bindO (f_ops_maker_add_p0_s0_0 (⟨a_12, b_2⟩ : GOps_maker) v_27 1) (fun (v_28 : Bool × GOps_maker) =>
 (if (!v_28.1) = true then some (false, v_28.2)
 else rec_1 (tov_12, v_28.2.many, v_28.2.out)))))
def f_ops_maker_grouped_p0_s0_0_B5 (b_0 : List GItem) (b_2 : Int) (a_12 : List GItem) (rec_1 : (Int × Int × (List GItem) → Option (Bool × GOps_maker))) (tov_12 : Int) (xv_63 : GItem) (rec_5 : Int × (List GItem) → Option (Bool × GOps_maker)) : Int × (List GItem) → Option (Bool × GOps_maker) :=
 fun (t43_11, a_17) =>
 (if (decide (t43_11 < (List.length b_0 : Int))) = true then bindO (idx b_0 t43_11) (fun (xv_75 : GItem) =>
 (if (xv_75.Rec.K == xv_63.Rec.K) = true then guardO ((List.length a_17 + List.length ([xv_75] : List GItem)) * 24 ≤ 140737488355328) (
 rec_5 (IntKind.i64.wrap (t43_11 + 1), (a_17 ++ ([xv_75] : List GItem))))
 else rec_5 (IntKind.i64.wrap (t43_11 + 1), a_17)))
 else f_ops_maker_grouped_p0_s0_0_J4 b_2 a_12 rec_1 tov_12 xv_63 a_17)
def f_ops_maker_grouped_p0_s0_0_J3 (b_0 : List GItem) (b_2 : Int) (a_12 : List GItem) (rec_1 : (Int × Int × (List GItem) → Option (Bool × GOps_maker))) (tov_12 : Int) (xv_63 : GItem) : Option (Bool × GOps_maker) :=
 loopK (f_ops_maker_grouped_p0_s0_0_B5 b_0 b_2 a_12 rec_1 tov_12 xv_63) rounds (0, [])
def f_ops_maker_grouped_p0_s0_0_J6 (b_2 : Int) (a_12 : List GItem) (rec_1 : (Int × Int × (List GItem) → Option (Bool × GOps_maker))) (tov_12 : Int) (xv_63 : GItem) (nv_27 : Int) : Option (Bool × GOps_maker) :=
 bindO (f_ops_maker_add_p0_s0_0 (⟨a_12, b_2⟩ : GOps_maker) (⟨xv_63.Rec.K, nv_27⟩ : GRec) 1) (fun (v_29 : Bool × GOps_maker) =>
 (if (!v_29.1) = true then some (false, v_29.2)
 else rec_1 (tov_12, v_29.2.many, v_29.2.out)))
def f_ops_maker_grouped_p0_s0_0_B7 (a_0 : List GItem) (fromv_1 : Int) (b_2 : Int) (a_12 : List GItem) (rec_1 : (Int × Int × (List GItem) → Option (Bool × GOps_maker))) (tov_12 : Int) (xv_63 : GItem) (rec_7 : Int × Int → Option (Bool × GOps_maker)) : Int × Int → Option (Bool × GOps_maker) :=
 fun (nv_29, t19_23) =>
 (if (decide (t19_23 < (List.length (List.drop (Int.toNat fromv_1) (List.take (Int.toNat tov_12) a_0)) : Int))) = true then bindO (idx (List.drop (Int.toNat fromv_1) (List.take (Int.toNat tov_12) a_0)) t19_23) (fun (xv_81 : GItem) =>
 rec_7 (IntKind.i64.wrap (nv_29 + xv_81.N), IntKind.i64.wrap (t19_23 + 1)))
 else f_ops_maker_grouped_p0_s0_0_J6 b_2 a_12 rec_1 tov_12 xv_63 nv_29)
def f_ops_maker_grouped_p0_s0_0_J2 (kind_0 : Int) (a_0 : List GItem) (b_0 : List GItem) (fromv_1 : Int) (b_2 : Int) (a_12 : List GItem) (rec_1 : (Int × Int × (List GItem) → Option (Bool × GOps_maker))) (tov_12 : Int) : Option (Bool × GOps_maker) :=
 bindO (idx a_0 fromv_1) (fun (xv_63 : GItem) =>
 guardO (0 ≤ fromv_1 ∧ fromv_1 ≤ tov_12 ∧ tov_12 ≤ (List.length a_0 : Int)) (
 (if (kind_0 == 7) = true then loopK (f_ops_maker_grouped_p0_s0_0_B7 a_0 fromv_1 b_2 a_12 rec_1 tov_12 xv_63) rounds (0, 0)
 else (if (kind_0 == 6) = true then bindO (f_ops_sum (List.drop (Int.toNat fromv_1) (List.take (Int.toNat tov_12) a_0))) (fun (v_30 : GOps_wide) =>
 bindO (f_ops_wide_record v_30 xv_63.Rec.K) (fun (v_31 : GRec) =>
 bindO (f_ops_maker_add_p0_s0_0 (⟨a_12, b_2⟩ : GOps_maker) v_31 1) (fun (v_32 : Bool × GOps_maker) =>
 (if (!v_32.1) = true then some (false, v_32.2)
 else rec_1 (tov_12, v_32.2.many, v_32.2.out)))))
 else f_ops_maker_grouped_p0_s0_0_J3 b_0 b_2 a_12 rec_1 tov_12 xv_63))))
def f_ops_maker_grouped_p0_s0_0_B8 (kind_0 : Int) (a_0 : List GItem) (b_0 : List GItem) (fromv_1 : Int) (b_2 : Int) (a_12 : List GItem) (rec_1 : (Int × Int × (List GItem) → Option (Bool × GOps_maker))) (rec_8 : Int → Option (Bool × GOps_maker)) : Int → Option (Bool × GOps_maker) :=
 fun tov_14 =>
 (if (decide (tov_14 < (List.length a_0 : Int))) = true then bindO (idx a_0 tov_14) (fun (xv_85 : GItem) =>
 bindO (idx a_0 fromv_1) (fun (xv_86 : GItem) =>
 (if (xv_85.Rec.K == xv_86.Rec.K) = true then rec_8 (IntKind.i64.wrap (tov_14 + 1))
 else f_ops_maker_grouped_p0_s0_0_J2 kind_0 a_0 b_0 fromv_1 b_2 a_12 rec_1 tov_14)))
 else f_ops_maker_grouped_p0_s0_0_J2 kind_0 a_0 b_0 fromv_1 b_2 a_12 rec_1 tov_14)
def f_ops_maker_grouped_p0_s0_0_B1 (kind_0 : Int) (a_0 : List GItem) (b_0 : List GItem) (rec_1 : Int × Int × (List GItem) → Option (Bool × GOps_maker)) : Int × Int × (List GItem) → Option (Bool × GOps_maker) :=
 fun (fromv_1, b_2, a_12) =>
 (if (decide (fromv_1 < (List.length a_0 : Int))) = true then loopK (f_ops_maker_grouped_p0_s0_0_B8 kind_0 a_0 b_0 fromv_1 b_2 a_12 rec_1) rounds fromv_1
 else some (true, (⟨a_12, b_2⟩ : GOps_maker)))
def f_ops_maker_grouped_p0_s0_0 (mv_0 : GOps_maker) (kind_0 : Int) (a_0 : List GItem) (b_0 : List GItem) : Option (Bool × GOps_maker) :=
 loopK (f_ops_maker_grouped_p0_s0_0_B1 kind_0 a_0 b_0) rounds (0, mv_0.many, mv_0.out)
theorem f_ops_maker_grouped_p0_s0_0_det (mv_0 : GOps_maker) (kind_0 : Int) (a_0 : List GItem) (b_0 : List GItem)  (r : Bool × GOps_maker) (h : f_ops_maker_grouped_p0_s0_0 mv_0 kind_0 a_0 b_0 = some r) : DetS Try.prog 70 [.ptr 0 0, .v (.int .i64 kind_0), .sl 3 (enc a_0), .sl 3 (enc b_0)] [(0, .box [.osl 1 3 (0) (List.length mv_0.out), .v (.int .i64 mv_0.many)]), (1, .arr 3 (enc mv_0.out))] 2 (.v (.bool r.1)) [(0, .box [.osl 2 3 (0) (List.length r.2.out), .v (.int .i64 r.2.many)]), (2, .arr 3 (enc r.2.out))] 3 := by
 unfold DetS
 refine Spec.of_vc Try.func70 rfl (by kernel_rfl) (by kernel_rfl) ?_
 rw [f_ops_maker_grouped_p0_s0_0] at h
 refine sg fun QQ1 hQ1 => ?_
 simp only [go_sem]
 refine seqQ_normal hQ1 ?_
 refine sg fun QQ2 hQ2 => ?_
 simp only [go_sem]
 refine callF_inl Try.func120 rfl (by kernel_rfl) (by kernel_rfl) ?_
 refine sg fun QQ3 hQ3 => ?_
 simp only [go_sem]
 refine seqQ_normal hQ3 ?_
 refine vc_join (by kernel_rfl) ?_
 refine seq_go_gen ?_
 intro QQ4 hQ4
 refine sg fun QQ5 hQ5 => ?_
 simp only [go_sem]
 refine seqQ_normal hQ5 ?_
 refine vc_block_gen ?_
 intro QQ6 hQ6
 refine vc_loop_of ?_
 refine loop_gen (ι := Nat × Int × Int × (List GItem)) (fun ((_, fromv_1, b_2, a_12) : Nat × Int × Int × (List GItem)) => (⟨5, [(0, .sl 3 (enc a_0)), (1, .clo 123 [.ptr 3 0, .ptr 2 0, .ptr 4 0]), (5, .v (.int .i64 fromv_1))], [(0, .box [.osl 5 3 (0) (List.length a_12), .v (.int .i64 b_2)]), (2, .box [.ptr 0 0]), (3, .box [.v (.int .i64 kind_0)]), (4, .box [.sl 3 (enc b_0)]), (5, .arr 3 (enc a_12))], 6, 47⟩ : St)) (fun ((n_, fromv_1, b_2, a_12) : Nat × Int × Int × (List GItem)) => loopK (f_ops_maker_grouped_p0_s0_0_B1 kind_0 a_0 b_0) n_ (fromv_1, b_2, a_12) = some r) (fun p => p.1) (rounds, 0, mv_0.many, mv_0.out) [some 1] ?_ h ?_
 · simp only [go_sem, Le] <;> (repeat' apply And.intro) <;> first | ((try with_reducible refine TL_eq ?_); omega) | ((try with_reducible refine TL_eq ?_); (simp [go_sem]; done))
 ·
  rintro ⟨n_1, fromv_1, b_2, a_12⟩ h QQ7 hQ7
  dsimp only at h
  replace h := loopK_some h
  obtain ⟨m_1, rfl, h⟩ := h
  rw [f_ops_maker_grouped_p0_s0_0_B1] at h
  refine sg fun QQ8 hQ8 => ?_
  refine sg fun QQ9 hQ9 => ?_
  simp only [go_sem]
  refine seqQ_normal hQ9 ?_
  refine vc_cond_of (b := (decide (fromv_1 < (List.length a_0 : Int)))) (by (simp only [go_sem]; done)) (fun hb_88 => ?_) (fun hb_88 => ?_)
  ·
   replace h := if_t h hb_88
   simp only [bool_to_prop] at hb_88
   refine vc_skip_of ?_
   refine seqQ_normal hQ8 ?_
   refine vc_block_gen ?_
   intro QQ10 hQ10
   refine sg fun QQ11 hQ11 => ?_
   simp only [go_sem]
   refine seqQ_normal hQ11 ?_
   refine vc_join (by kernel_rfl) ?_
   refine seq_cut_gen (ι := Int) (fun (tov_12 : Int) => (⟨5, [(0, .sl 3 (enc a_0)), (1, .clo 123 [.ptr 3 0, .ptr 2 0, .ptr 4 0]), (5, .v (.int .i64 fromv_1)), (6, .v (.int .i64 tov_12))], [(0, .box [.osl 5 3 (0) (List.length a_12), .v (.int .i64 b_2)]), (2, .box [.ptr 0 0]), (3, .box [.v (.int .i64 kind_0)]), (4, .box [.sl 3 (enc b_0)]), (5, .arr 3 (enc a_12))], 6, 47⟩ : St)) (fun (tov_12 : Int) => f_ops_maker_grouped_p0_s0_0_J2 kind_0 a_0 b_0 fromv_1 b_2 a_12 (loopK (f_ops_maker_grouped_p0_s0_0_B1 kind_0 a_0 b_0) m_1) tov_12 = some r) ?_ ?_
   ·
    intro QQ47 hQ47
    refine vc_block_gen ?_
    intro QQ48 hQ48
    refine vc_loop_of ?_
    refine loop_gen (ι := Nat × Int) (fun ((_, tov_14) : Nat × Int) => (⟨5, [(0, .sl 3 (enc a_0)), (1, .clo 123 [.ptr 3 0, .ptr 2 0, .ptr 4 0]), (5, .v (.int .i64 fromv_1)), (6, .v (.int .i64 tov_14))], [(0, .box [.osl 5 3 (0) (List.length a_12), .v (.int .i64 b_2)]), (2, .box [.ptr 0 0]), (3, .box [.v (.int .i64 kind_0)]), (4, .box [.sl 3 (enc b_0)]), (5, .arr 3 (enc a_12))], 6, 47⟩ : St)) (fun ((n_, tov_14) : Nat × Int) => loopK (f_ops_maker_grouped_p0_s0_0_B8 kind_0 a_0 b_0 fromv_1 b_2 a_12 (loopK (f_ops_maker_grouped_p0_s0_0_B1 kind_0 a_0 b_0) m_1)) n_ tov_14 = some r) (fun p => p.1) (rounds, fromv_1) [some 5] ?_ h ?_
    · simp only [go_sem, Le] <;> (repeat' apply And.intro) <;> first | ((try with_reducible refine TL_eq ?_); omega) | ((try with_reducible refine TL_eq ?_); (simp [go_sem]; done))
    ·
     rintro ⟨n_8, tov_14⟩ h QQ49 hQ49
     dsimp only at h
     replace h := loopK_some h
     obtain ⟨m_8, rfl, h⟩ := h
     rw [f_ops_maker_grouped_p0_s0_0_B8] at h
     refine sg fun QQ50 hQ50 => ?_
     refine sg fun QQ51 hQ51 => ?_
     refine vc_draw ?_
     refine drawM_tail 17 [0, 0, 2, 7, 15, 31, 31, 127, 255, 511, 1023, 31, 31, 6175, 14367, 30751, 63519, 131071, 262143] mixed (by kernel_rfl) (of_decide_eq_true (by kernel_rfl)) (by kernel_rfl) ?_
     simp only [go_sem]
     rcases hb_130 : (decide (tov_14 < (List.length a_0 : Int))) with _ | _
     ·
      replace h := if_f h hb_130
      simp only [go_sem, hb_130]
      refine seqQ_normal hQ51 ?_
      refine vc_cond_f (by (simp only [go_sem]; done)) ?_
      refine vc_exit_of ?_
      refine seqQ_exit hQ50 ?_
      refine thenQ_exit hQ49 ?_
      refine blockQ_exit hQ48 ?_
      refine thenQ_normal hQ47 ?_
      refine ⟨tov_14, [some 5], ?_, h⟩
      simp only [go_sem, Le] <;> (repeat' apply And.intro) <;> first | ((try with_reducible refine TL_eq ?_); omega) | ((try with_reducible refine TL_eq ?_); (simp [go_sem]; done))
     ·
      replace h := if_t h hb_130
      obtain ⟨xv_85, exv_85, h⟩ := bindO_some h
      obtain ⟨fxv_85a, fxv_85b, fxv_85c⟩ := idx_spec exv_85
      obtain ⟨xv_86, exv_86, h⟩ := bindO_some h
      obtain ⟨fxv_86a, fxv_86b, fxv_86c⟩ := idx_spec exv_86
      simp only [go_sem, hb_130, fxv_85a, fxv_85b, fxv_85c, fxv_86a, fxv_86b, fxv_86c]
      refine And.intro (by omega) ?_
      refine And.intro (by omega) ?_
      refine seqQ_normal hQ51 ?_
      refine vc_cond_of (b := (xv_85.Rec.K == xv_86.Rec.K)) (by (simp only [go_sem]; done)) (fun hb_131 => ?_) (fun hb_131 => ?_)
      ·
       replace h := if_t h hb_131
       simp only [bool_to_prop] at hb_131
       refine vc_skip_of ?_
       refine seqQ_normal hQ50 ?_
       refine vc_block_gen ?_
       intro QQ52 hQ52
       simp only [go_sem]
       refine blockQ_normal hQ52 ?_
       refine thenQ_normal hQ49 ?_
       refine ⟨(m_8, IntKind.i64.wrap (tov_14 + 1)), [some 5], ?_, h, Nat.lt_succ_self _⟩
       simp only [go_sem, Le] <;> (repeat' apply And.intro) <;> first | ((try with_reducible refine TL_eq ?_); omega) | ((try with_reducible refine TL_eq ?_); (simp [go_sem]; done))
      ·
       replace h := if_f h hb_131
       simp only [bool_to_prop] at hb_131
       refine vc_exit_of ?_
       refine seqQ_exit hQ50 ?_
       refine thenQ_exit hQ49 ?_
       refine blockQ_exit hQ48 ?_
       refine thenQ_normal hQ47 ?_
       refine ⟨tov_14, [some 5], ?_, h⟩
       simp only [go_sem, Le] <;> (repeat' apply And.intro) <;> first | ((try with_reducible refine TL_eq ?_); omega) | ((try with_reducible refine TL_eq ?_); (simp [go_sem]; done))
   ·
    rintro tov_12 h
    try dsimp only at h
    rw [f_ops_maker_grouped_p0_s0_0_J2] at h
    refine sg fun QQ12 hQ12 => ?_
    refine sg fun QQ13 hQ13 => ?_
    refine vc_draw ?_
    refine drawM_tail 11 [0, 0, 0, 6, 14, 30, 62, 0, 0, 0, 896, 2047, 4095] mixed (by kernel_rfl) (of_decide_eq_true (by kernel_rfl)) (by kernel_rfl) ?_
    obtain ⟨xv_63, exv_63, h⟩ := bindO_some h
    obtain ⟨fxv_63a, fxv_63b, fxv_63c⟩ := idx_spec exv_63
    obtain ⟨g_14, h⟩ := guardO_some h
    simp only [go_sem, fxv_63a, fxv_63b, fxv_63c, g_14]
    refine And.intro (by omega) ?_
    refine callF_inl Try.func123 rfl (by kernel_rfl) (by kernel_rfl) ?_
    refine sg fun QQ14 hQ14 => ?_
    simp only [go_sem]
    refine seqQ_normal hQ14 ?_
    refine vc_join (by kernel_rfl) ?_
    refine seq_cut_gen (ι := Unit) (fun (_ : Unit) => (⟨6, [(0, .v (.int .i64 xv_63.Rec.K)), (3, .ptr 2 0), (4, .ptr 4 0)], [(0, .box [.osl 5 3 (0) (List.length a_12), .v (.int .i64 b_2)]), (2, .box [.ptr 0 0]), (3, .box [.v (.int .i64 kind_0)]), (4, .box [.sl 3 (enc b_0)]), (5, .arr 3 (enc a_12))], 6, 63⟩ : St)) (fun (_ : Unit) => f_ops_maker_grouped_p0_s0_0_J3 b_0 b_2 a_12 (loopK (f_ops_maker_grouped_p0_s0_0_B1 kind_0 a_0 b_0) m_1) tov_12 xv_63 = some r) ?_ ?_
    ·
     intro QQ28 hQ28
     refine sg fun QQ29 hQ29 => ?_
     simp only [go_sem]
     refine seqQ_normal hQ29 ?_
     refine vc_block_gen ?_
     intro QQ30 hQ30
     refine sg fun QQ31 hQ31 => ?_
     simp only [go_sem]
     refine seqQ_normal hQ31 ?_
     refine vc_cond_of (b := (kind_0 == 7)) (by (simp only [go_sem]; done)) (fun hb_116 => ?_) (fun hb_116 => ?_)
     ·
      replace h := if_t h hb_116
      simp only [bool_to_prop] at hb_116
      refine sg fun QQ32 hQ32 => ?_
      simp only [go_sem]
      refine seqQ_normal hQ32 ?_
      refine vc_join (by kernel_rfl) ?_
      refine seq_cut_gen (ι := Int) (fun (nv_27 : Int) => (⟨6, [(0, .v (.int .i64 xv_63.Rec.K)), (3, .ptr 2 0), (8, .v (.int .i64 nv_27))], [(0, .box [.osl 5 3 (0) (List.length a_12), .v (.int .i64 b_2)]), (2, .box [.ptr 0 0]), (3, .box [.v (.int .i64 kind_0)]), (4, .box [.sl 3 (enc b_0)]), (5, .arr 3 (enc a_12))], 6, 63⟩ : St)) (fun (nv_27 : Int) => f_ops_maker_grouped_p0_s0_0_J6 b_2 a_12 (loopK (f_ops_maker_grouped_p0_s0_0_B1 kind_0 a_0 b_0) m_1) tov_12 xv_63 nv_27 = some r) ?_ ?_
      ·
       intro QQ35 hQ35
       refine sg fun QQ36 hQ36 => ?_
       simp only [go_sem]
       refine seqQ_normal hQ36 ?_
       refine vc_block_gen ?_
       intro QQ37 hQ37
       refine vc_loop_of ?_
       refine loop_gen (ι := Nat × Int × Int) (fun ((_, nv_29, t19_23) : Nat × Int × Int) => (⟨6, [(0, .v (.int .i64 xv_63.Rec.K)), (3, .ptr 2 0), (8, .v (.int .i64 nv_29)), (17, .sl 3 (enc (List.drop (Int.toNat fromv_1) (List.take (Int.toNat tov_12) a_0)))), (18, .v (.int .i64 (List.length (List.drop (Int.toNat fromv_1) (List.take (Int.toNat tov_12) a_0)) : Int))), (19, .v (.int .i64 t19_23))], [(0, .box [.osl 5 3 (0) (List.length a_12), .v (.int .i64 b_2)]), (2, .box [.ptr 0 0]), (3, .box [.v (.int .i64 kind_0)]), (4, .box [.sl 3 (enc b_0)]), (5, .arr 3 (enc a_12))], 6, 63⟩ : St)) (fun ((n_, nv_29, t19_23) : Nat × Int × Int) => loopK (f_ops_maker_grouped_p0_s0_0_B7 a_0 fromv_1 b_2 a_12 (loopK (f_ops_maker_grouped_p0_s0_0_B1 kind_0 a_0 b_0) m_1) tov_12 xv_63) n_ (nv_29, t19_23) = some r) (fun p => p.1) (rounds, 0, 0) [] ?_ h ?_
       · simp only [go_sem, Le] <;> (repeat' apply And.intro) <;> first | ((try with_reducible refine TL_eq ?_); omega) | ((try with_reducible refine TL_eq ?_); (simp [go_sem]; done))
       ·
        rintro ⟨n_7, nv_29, t19_23⟩ h QQ38 hQ38
        dsimp only at h
        replace h := loopK_some h
        obtain ⟨m_7, rfl, h⟩ := h
        rw [f_ops_maker_grouped_p0_s0_0_B7] at h
        refine sg fun QQ39 hQ39 => ?_
        simp only [go_sem]
        refine seqQ_normal hQ39 ?_
        refine sg fun QQ40 hQ40 => ?_
        refine vc_cond_of (b := (decide (t19_23 < (List.length (List.drop (Int.toNat fromv_1) (List.take (Int.toNat tov_12) a_0)) : Int)))) (by (simp only [go_sem]; done)) (fun hb_123 => ?_) (fun hb_123 => ?_)
        ·
         replace h := if_t h hb_123
         simp only [bool_to_prop] at hb_123
         refine vc_skip_of ?_
         refine seqQ_normal hQ40 ?_
         refine sg fun QQ41 hQ41 => ?_
         refine vc_block_gen ?_
         intro QQ42 hQ42
         refine sg fun QQ43 hQ43 => ?_
         obtain ⟨xv_81, exv_81, h⟩ := bindO_some h
         obtain ⟨fxv_81a, fxv_81b, fxv_81c⟩ := idx_spec exv_81
         simp only [go_sem, fxv_81a, fxv_81b, fxv_81c]
         refine And.intro (by omega) ?_
         refine seqQ_normal hQ43 ?_
         simp only [go_sem]
         refine blockQ_normal hQ42 ?_
         refine seqQ_normal hQ41 ?_
         simp only [go_sem]
         refine thenQ_normal hQ38 ?_
         refine ⟨(m_7, IntKind.i64.wrap (nv_29 + xv_81.N), IntKind.i64.wrap (t19_23 + 1)), [], ?_, h, Nat.lt_succ_self _⟩
         simp only [go_sem, Le] <;> (repeat' apply And.intro) <;> first | ((try with_reducible refine TL_eq ?_); omega) | ((try with_reducible refine TL_eq ?_); (simp [go_sem]; done))
        ·
         replace h := if_f h hb_123
         simp only [bool_to_prop] at hb_123
         refine vc_exit_of ?_
         refine seqQ_exit hQ40 ?_
         refine thenQ_exit hQ38 ?_
         refine blockQ_exit hQ37 ?_
         refine thenQ_normal hQ35 ?_
         refine ⟨nv_29, [], ?_, h⟩
         simp only [go_sem, Le] <;> (repeat' apply And.intro) <;> first | ((try with_reducible refine TL_eq ?_); omega) | ((try with_reducible refine TL_eq ?_); (simp [go_sem]; done))
      ·
       rintro nv_27 h
       try dsimp only at h
       rw [f_ops_maker_grouped_p0_s0_0_J6] at h
       refine sg fun QQ33 hQ33 => ?_
       obtain ⟨v_29, ev_29, h⟩ := bindO_some h
       simp only [go_sem]
       refine callD [0, 5] (f_ops_maker_add_p0_s0_0_det (⟨a_12, b_2⟩ : GOps_maker) (⟨xv_63.Rec.K, nv_27⟩ : GRec) 1 v_29 ev_29) (by simp) rfl ⟨rfl, ⟨rfl, trivial⟩⟩ rfl rfl rfl rfl ?_
       simp only [go_sem]
       refine seqQ_normal hQ33 ?_
       refine vc_ret_of ?_
       refine blockQ_ret hQ30 ?_
       refine thenQ_ret hQ28 ?_
       simp only [go_sem]
       refine retW_inl [some 6] [(0, .box [.osl 6 3 (0) (List.length v_29.2.out), .v (.int .i64 v_29.2.many)]), (2, .box [.ptr 0 0]), (3, .box [.v (.int .i64 kind_0)]), (4, .box [.sl 3 (enc b_0)]), (6, .arr 3 (enc v_29.2.out))] 7 (.v (.bool v_29.1)) ?_ ?_
       · simp only [go_sem, Le] <;> (repeat' apply And.intro) <;> first | ((try with_reducible refine TL_eq ?_); omega) | ((try with_reducible refine TL_eq ?_); (simp [go_sem]; done))
       refine inlK_of ?_
       simp only [go_sem]
       refine seqQ_normal hQ13 ?_
       refine vc_cond_of (b := (!v_29.1)) (by (simp only [go_sem]; done)) (fun hb_120 => ?_) (fun hb_120 => ?_)
       ·
        replace h := if_t h hb_120
        simp only [bool_to_prop] at hb_120
        refine sg fun QQ34 hQ34 => ?_
        simp only [go_sem]
        refine seqQ_normal hQ34 ?_
        refine vc_ret_of ?_
        refine seqQ_ret hQ12 ?_
        refine blockQ_ret hQ10 ?_
        refine thenQ_ret hQ7 ?_
        refine blockQ_ret hQ6 ?_
        refine seqQ_ret hQ4 ?_
        simp only [go_sem]
        refine retW_inl [some 6] [(0, .box [.osl 5 3 (0) (List.length v_29.2.out), .v (.int .i64 v_29.2.many)]), (2, .box [.ptr 0 0]), (3, .box [.v (.int .i64 kind_0)]), (4, .box [.sl 3 (enc b_0)]), (5, .arr 3 (enc v_29.2.out))] 6 (.v (.bool false)) ?_ ?_
        · simp only [go_sem, Le] <;> (repeat' apply And.intro) <;> first | ((try with_reducible refine TL_eq ?_); omega) | ((try with_reducible refine TL_eq ?_); (simp [go_sem]; done))
        refine inlK_of ?_
        simp only [go_sem]
        refine seqQ_normal hQ2 ?_
        refine vc_ret_of ?_
        simp only [go_sem]
        obtain rfl := Option.some.inj h
        refine retW_det [some 5] ?_
        simp only [go_sem, Le] <;> (repeat' apply And.intro) <;> first | ((try with_reducible refine TL_eq ?_); omega) | ((try with_reducible refine TL_eq ?_); (simp [go_sem]; done))
       ·
        replace h := if_f h hb_120
        simp only [bool_to_prop] at hb_120
        refine vc_skip_of ?_
        refine seqQ_normal hQ12 ?_
        simp only [go_sem]
        refine blockQ_normal hQ10 ?_
        refine thenQ_normal hQ7 ?_
        refine ⟨(m_1, tov_12, v_29.2.many, v_29.2.out), [some 6], ?_, h, Nat.lt_succ_self _⟩
        simp only [go_sem, Le] <;> (repeat' apply And.intro) <;> first | ((try with_reducible refine TL_eq ?_); omega) | ((try with_reducible refine TL_eq ?_); (simp [go_sem]; done))
     ·
      replace h := if_f h hb_116
      simp only [bool_to_prop] at hb_116
      refine sg fun QQ44 hQ44 => ?_
      simp only [go_sem]
      refine seqQ_normal hQ44 ?_
      refine vc_cond_of (b := (kind_0 == 6)) (by (simp only [go_sem]; done)) (fun hb_124 => ?_) (fun hb_124 => ?_)
      ·
       replace h := if_t h hb_124
       simp only [bool_to_prop] at hb_124
       refine sg fun QQ45 hQ45 => ?_
       refine vc_draw ?_
       refine drawM_tail 5 [0, 0, 2, 0, 14, 31, 63] mixed (by kernel_rfl) (of_decide_eq_true (by kernel_rfl)) (by kernel_rfl) ?_
       obtain ⟨v_30, ev_30, h⟩ := bindO_some h
       simp only [go_sem]
       refine callq (fun _ => (f_ops_sum_ok (List.drop (Int.toNat fromv_1) (List.take (Int.toNat tov_12) a_0)) v_30 ev_30)) (by rfl) (by rfl) ?_
       obtain ⟨v_31, ev_31, h⟩ := bindO_some h
       simp only [go_sem]
       refine callq (fun _ => (f_ops_wide_record_ok v_30 xv_63.Rec.K v_31 ev_31)) (by rfl) (by rfl) ?_
       obtain ⟨v_32, ev_32, h⟩ := bindO_some h
       simp only [go_sem]
       refine callD [0, 5] (f_ops_maker_add_p0_s0_0_det (⟨a_12, b_2⟩ : GOps_maker) v_31 1 v_32 ev_32) (by simp) rfl ⟨rfl, ⟨rfl, trivial⟩⟩ rfl rfl rfl rfl ?_
       simp only [go_sem]
       refine seqQ_normal hQ45 ?_
       refine vc_ret_of ?_
       refine blockQ_ret hQ30 ?_
       refine thenQ_ret hQ28 ?_
       simp only [go_sem]
       refine retW_inl [some 6] [(0, .box [.osl 6 3 (0) (List.length v_32.2.out), .v (.int .i64 v_32.2.many)]), (2, .box [.ptr 0 0]), (3, .box [.v (.int .i64 kind_0)]), (4, .box [.sl 3 (enc b_0)]), (6, .arr 3 (enc v_32.2.out))] 7 (.v (.bool v_32.1)) ?_ ?_
       · simp only [go_sem, Le] <;> (repeat' apply And.intro) <;> first | ((try with_reducible refine TL_eq ?_); omega) | ((try with_reducible refine TL_eq ?_); (simp [go_sem]; done))
       refine inlK_of ?_
       simp only [go_sem]
       refine seqQ_normal hQ13 ?_
       refine vc_cond_of (b := (!v_32.1)) (by (simp only [go_sem]; done)) (fun hb_125 => ?_) (fun hb_125 => ?_)
       ·
        replace h := if_t h hb_125
        simp only [bool_to_prop] at hb_125
        refine sg fun QQ46 hQ46 => ?_
        simp only [go_sem]
        refine seqQ_normal hQ46 ?_
        refine vc_ret_of ?_
        refine seqQ_ret hQ12 ?_
        refine blockQ_ret hQ10 ?_
        refine thenQ_ret hQ7 ?_
        refine blockQ_ret hQ6 ?_
        refine seqQ_ret hQ4 ?_
        simp only [go_sem]
        refine retW_inl [some 6] [(0, .box [.osl 5 3 (0) (List.length v_32.2.out), .v (.int .i64 v_32.2.many)]), (2, .box [.ptr 0 0]), (3, .box [.v (.int .i64 kind_0)]), (4, .box [.sl 3 (enc b_0)]), (5, .arr 3 (enc v_32.2.out))] 6 (.v (.bool false)) ?_ ?_
        · simp only [go_sem, Le] <;> (repeat' apply And.intro) <;> first | ((try with_reducible refine TL_eq ?_); omega) | ((try with_reducible refine TL_eq ?_); (simp [go_sem]; done))
        refine inlK_of ?_
        simp only [go_sem]
        refine seqQ_normal hQ2 ?_
        refine vc_ret_of ?_
        simp only [go_sem]
        obtain rfl := Option.some.inj h
        refine retW_det [some 5] ?_
        simp only [go_sem, Le] <;> (repeat' apply And.intro) <;> first | ((try with_reducible refine TL_eq ?_); omega) | ((try with_reducible refine TL_eq ?_); (simp [go_sem]; done))
       ·
        replace h := if_f h hb_125
        simp only [bool_to_prop] at hb_125
        refine vc_skip_of ?_
        refine seqQ_normal hQ12 ?_
        simp only [go_sem]
        refine blockQ_normal hQ10 ?_
        refine thenQ_normal hQ7 ?_
        refine ⟨(m_1, tov_12, v_32.2.many, v_32.2.out), [some 6], ?_, h, Nat.lt_succ_self _⟩
        simp only [go_sem, Le] <;> (repeat' apply And.intro) <;> first | ((try with_reducible refine TL_eq ?_); omega) | ((try with_reducible refine TL_eq ?_); (simp [go_sem]; done))
      ·
       replace h := if_f h hb_124
       simp only [bool_to_prop] at hb_124
       refine vc_skip_of ?_
       refine blockQ_normal hQ30 ?_
       refine thenQ_normal hQ28 ?_
       refine ⟨(), [], ?_, h⟩
       simp only [go_sem, Le] <;> (repeat' apply And.intro) <;> first | ((try with_reducible refine TL_eq ?_); omega) | ((try with_reducible refine TL_eq ?_); (simp [go_sem]; done))
    ·
     rintro ⟨⟩ h
     try dsimp only at h
     rw [f_ops_maker_grouped_p0_s0_0_J3] at h
     refine sg fun QQ15 hQ15 => ?_
     simp only [go_sem]
     refine seqQ_normal hQ15 ?_
     refine vc_join (by kernel_rfl) ?_
     refine seq_cut_gen (ι := (List GItem)) (fun (a_15 : (List GItem)) => (⟨6, [(0, .v (.int .i64 xv_63.Rec.K)), (3, .ptr 2 0), (11, .osl 6 3 (0) (List.length a_15))], [(0, .box [.osl 5 3 (0) (List.length a_12), .v (.int .i64 b_2)]), (2, .box [.ptr 0 0]), (3, .box [.v (.int .i64 kind_0)]), (4, .box [.sl 3 (enc b_0)]), (5, .arr 3 (enc a_12)), (6, .arr 3 (enc a_15))], 7, 63⟩ : St)) (fun (a_15 : (List GItem)) => f_ops_maker_grouped_p0_s0_0_J4 b_2 a_12 (loopK (f_ops_maker_grouped_p0_s0_0_B1 kind_0 a_0 b_0) m_1) tov_12 xv_63 a_15 = some r) ?_ ?_
     ·
      intro QQ18 hQ18
      refine sg fun QQ19 hQ19 => ?_
      simp only [go_sem]
      refine seqQ_normal hQ19 ?_
      refine vc_block_gen ?_
      intro QQ20 hQ20
      refine vc_loop_of ?_
      refine loop_gen (ι := Nat × Int × (List GItem)) (fun ((_, t43_11, a_17) : Nat × Int × (List GItem)) => (⟨6, [(0, .v (.int .i64 xv_63.Rec.K)), (3, .ptr 2 0), (11, .osl 6 3 (0) (List.length a_17)), (41, .sl 3 (enc b_0)), (42, .v (.int .i64 (List.length b_0 : Int))), (43, .v (.int .i64 t43_11))], [(0, .box [.osl 5 3 (0) (List.length a_12), .v (.int .i64 b_2)]), (2, .box [.ptr 0 0]), (3, .box [.v (.int .i64 kind_0)]), (4, .box [.sl 3 (enc b_0)]), (5, .arr 3 (enc a_12)), (6, .arr 3 (enc a_17))], 7, 63⟩ : St)) (fun ((n_, t43_11, a_17) : Nat × Int × (List GItem)) => loopK (f_ops_maker_grouped_p0_s0_0_B5 b_0 b_2 a_12 (loopK (f_ops_maker_grouped_p0_s0_0_B1 kind_0 a_0 b_0) m_1) tov_12 xv_63) n_ (t43_11, a_17) = some r) (fun p => p.1) (rounds, 0, []) [none] ?_ h ?_
      · simp only [go_sem, Le] <;> (repeat' apply And.intro) <;> first | ((try with_reducible refine TL_eq ?_); omega) | ((try with_reducible refine TL_eq ?_); (simp [go_sem]; done))
      ·
       rintro ⟨n_5, t43_11, a_17⟩ h QQ21 hQ21
       dsimp only at h
       replace h := loopK_some h
       obtain ⟨m_5, rfl, h⟩ := h
       rw [f_ops_maker_grouped_p0_s0_0_B5] at h
       refine sg fun QQ22 hQ22 => ?_
       simp only [go_sem]
       refine seqQ_normal hQ22 ?_
       refine sg fun QQ23 hQ23 => ?_
       refine vc_cond_of (b := (decide (t43_11 < (List.length b_0 : Int)))) (by (simp only [go_sem]; done)) (fun hb_114 => ?_) (fun hb_114 => ?_)
       ·
        replace h := if_t h hb_114
        simp only [bool_to_prop] at hb_114
        refine vc_skip_of ?_
        refine seqQ_normal hQ23 ?_
        refine vc_join (by kernel_rfl) ?_
        refine seq_go_gen ?_
        intro QQ24 hQ24
        refine vc_block_gen ?_
        intro QQ25 hQ25
        refine sg fun QQ26 hQ26 => ?_
        obtain ⟨xv_75, exv_75, h⟩ := bindO_some h
        obtain ⟨fxv_75a, fxv_75b, fxv_75c⟩ := idx_spec exv_75
        simp only [go_sem, fxv_75a, fxv_75b, fxv_75c]
        refine And.intro (by omega) ?_
        refine seqQ_normal hQ26 ?_
        refine sg fun QQ27 hQ27 => ?_
        simp only [go_sem]
        refine seqQ_normal hQ27 ?_
        refine vc_cond_of (b := (xv_75.Rec.K == xv_63.Rec.K)) (by (simp only [go_sem]; done)) (fun hb_115 => ?_) (fun hb_115 => ?_)
        ·
         replace h := if_t h hb_115
         simp only [bool_to_prop] at hb_115
         have rf_28 : [[.v (.int .i64 xv_75.Rec.K), .v (.int .i64 xv_75.Rec.V), .v (.int .i64 xv_75.N)]] = enc ([xv_75] : List GItem) := by rfl
         obtain ⟨g_20, h⟩ := guardO_some h
         simp only [List.length_cons, List.length_nil, Nat.zero_add, List.length_append] at g_20
         have rf_29 : enc a_17 ++ [[.v (.int .i64 xv_75.Rec.K), .v (.int .i64 xv_75.Rec.V), .v (.int .i64 xv_75.N)]] = enc (a_17 ++ ([xv_75] : List GItem)) := by exact (enc_app a_17 ([xv_75] : List GItem)).symm
         simp only [go_sem, g_20, rf_29]
         simp only [rf_28]
         refine blockQ_normal hQ25 ?_
         refine seqQ_normal hQ24 ?_
         simp only [go_sem]
         refine thenQ_normal hQ21 ?_
         refine ⟨(m_5, IntKind.i64.wrap (t43_11 + 1), (a_17 ++ ([xv_75] : List GItem))), [some 9], ?_, h, Nat.lt_succ_self _⟩
         simp only [go_sem, Le] <;> (repeat' apply And.intro) <;> first | ((try with_reducible refine TL_eq ?_); omega) | ((try with_reducible refine TL_eq ?_); (simp [go_sem]; done))
        ·
         replace h := if_f h hb_115
         simp only [bool_to_prop] at hb_115
         refine vc_skip_of ?_
         refine blockQ_normal hQ25 ?_
         refine seqQ_normal hQ24 ?_
         simp only [go_sem]
         refine thenQ_normal hQ21 ?_
         refine ⟨(m_5, IntKind.i64.wrap (t43_11 + 1), a_17), [some 6], ?_, h, Nat.lt_succ_self _⟩
         simp only [go_sem, Le] <;> (repeat' apply And.intro) <;> first | ((try with_reducible refine TL_eq ?_); omega) | ((try with_reducible refine TL_eq ?_); (simp [go_sem]; done))
       ·
        replace h := if_f h hb_114
        simp only [bool_to_prop] at hb_114
        refine vc_exit_of ?_
        refine seqQ_exit hQ23 ?_
        refine thenQ_exit hQ21 ?_
        refine blockQ_exit hQ20 ?_
        refine thenQ_normal hQ18 ?_
        refine ⟨a_17, [some 6], ?_, h⟩
        simp only [go_sem, Le] <;> (repeat' apply And.intro) <;> first | ((try with_reducible refine TL_eq ?_); omega) | ((try with_reducible refine TL_eq ?_); (simp [go_sem]; done))
     ·
      rintro a_15 h
      try dsimp only at h
      rw [f_ops_maker_grouped_p0_s0_0_J4] at h
      refine sg fun QQ16 hQ16 => ?_
      refine vc_draw ?_
      refine drawV_weak (s' := (⟨6, [(0, .v (.int .i64 xv_63.Rec.K)), (3, .ptr 2 0), (11, .sl 3 (enc a_15))], [(0, .box [.osl 5 3 (0) (List.length a_12), .v (.int .i64 b_2)]), (2, .box [.ptr 0 0]), (3, .box [.v (.int .i64 kind_0)]), (4, .box [.sl 3 (enc b_0)]), (5, .arr 3 (enc a_12))], 6, 63⟩ : St)) (l := []) ?_ ?_
      · simp only [go_sem, Le] <;> (repeat' apply And.intro) <;> first | ((try with_reducible refine TL_eq ?_); omega) | ((try with_reducible refine TL_eq ?_); (simp [go_sem]; done))
      refine drawM_tail 5 [0, 0, 2, 0, 14, 31, 63] mixed (by kernel_rfl) (of_decide_eq_true (by kernel_rfl)) (by kernel_rfl) ?_
      obtain ⟨v_26, ev_26, h⟩ := bindO_some h
      simp only [go_sem]
      refine callq (fun _ => (f_ops_sum_ok a_15 v_26 ev_26)) (by rfl) (by rfl) ?_
      obtain ⟨v_27, ev_27, h⟩ := bindO_some h
      simp only [go_sem]
      refine callq (fun _ => (f_ops_wide_record_ok v_26 xv_63.Rec.K v_27 ev_27)) (by rfl) (by rfl) ?_
      obtain ⟨v_28, ev_28, h⟩ := bindO_some h
      simp only [go_sem]
      refine callD [0, 5] (f_ops_maker_add_p0_s0_0_det (⟨a_12, b_2⟩ : GOps_maker) v_27 1 v_28 ev_28) (by simp) rfl ⟨rfl, ⟨rfl, trivial⟩⟩ rfl rfl rfl rfl ?_
      simp only [go_sem]
      refine seqQ_normal hQ16 ?_
      refine vc_ret_of ?_
      simp only [go_sem]
      refine retW_inl [some 6] [(0, .box [.osl 6 3 (0) (List.length v_28.2.out), .v (.int .i64 v_28.2.many)]), (2, .box [.ptr 0 0]), (3, .box [.v (.int .i64 kind_0)]), (4, .box [.sl 3 (enc b_0)]), (6, .arr 3 (enc v_28.2.out))] 7 (.v (.bool v_28.1)) ?_ ?_
      · simp only [go_sem, Le] <;> (repeat' apply And.intro) <;> first | ((try with_reducible refine TL_eq ?_); omega) | ((try with_reducible refine TL_eq ?_); (simp [go_sem]; done))
      refine inlK_of ?_
      simp only [go_sem]
      refine seqQ_normal hQ13 ?_
      refine vc_cond_of (b := (!v_28.1)) (by (simp only [go_sem]; done)) (fun hb_109 => ?_) (fun hb_109 => ?_)
      ·
       replace h := if_t h hb_109
       simp only [bool_to_prop] at hb_109
       refine sg fun QQ17 hQ17 => ?_
       simp only [go_sem]
       refine seqQ_normal hQ17 ?_
       refine vc_ret_of ?_
       refine seqQ_ret hQ12 ?_
       refine blockQ_ret hQ10 ?_
       refine thenQ_ret hQ7 ?_
       refine blockQ_ret hQ6 ?_
       refine seqQ_ret hQ4 ?_
       simp only [go_sem]
       refine retW_inl [some 6] [(0, .box [.osl 5 3 (0) (List.length v_28.2.out), .v (.int .i64 v_28.2.many)]), (2, .box [.ptr 0 0]), (3, .box [.v (.int .i64 kind_0)]), (4, .box [.sl 3 (enc b_0)]), (5, .arr 3 (enc v_28.2.out))] 6 (.v (.bool false)) ?_ ?_
       · simp only [go_sem, Le] <;> (repeat' apply And.intro) <;> first | ((try with_reducible refine TL_eq ?_); omega) | ((try with_reducible refine TL_eq ?_); (simp [go_sem]; done))
       refine inlK_of ?_
       simp only [go_sem]
       refine seqQ_normal hQ2 ?_
       refine vc_ret_of ?_
       simp only [go_sem]
       obtain rfl := Option.some.inj h
       refine retW_det [some 5] ?_
       simp only [go_sem, Le] <;> (repeat' apply And.intro) <;> first | ((try with_reducible refine TL_eq ?_); omega) | ((try with_reducible refine TL_eq ?_); (simp [go_sem]; done))
      ·
       replace h := if_f h hb_109
       simp only [bool_to_prop] at hb_109
       refine vc_skip_of ?_
       refine seqQ_normal hQ12 ?_
       simp only [go_sem]
       refine blockQ_normal hQ10 ?_
       refine thenQ_normal hQ7 ?_
       refine ⟨(m_1, tov_12, v_28.2.many, v_28.2.out), [some 6], ?_, h, Nat.lt_succ_self _⟩
       simp only [go_sem, Le] <;> (repeat' apply And.intro) <;> first | ((try with_reducible refine TL_eq ?_); omega) | ((try with_reducible refine TL_eq ?_); (simp [go_sem]; done))
  ·
   replace h := if_f h hb_88
   simp only [bool_to_prop] at hb_88
   refine vc_exit_of ?_
   refine seqQ_exit hQ8 ?_
   refine thenQ_exit hQ7 ?_
   refine blockQ_exit hQ6 ?_
   refine seqQ_normal hQ4 ?_
   refine sg fun QQ53 hQ53 => ?_
   simp only [go_sem]
   refine seqQ_normal hQ53 ?_
   refine vc_ret_of ?_
   simp only [go_sem]
   refine retW_inl [some 5] [(0, .box [.osl 5 3 (0) (List.length a_12), .v (.int .i64 b_2)]), (2, .box [.ptr 0 0]), (3, .box [.v (.int .i64 kind_0)]), (4, .box [.sl 3 (enc b_0)]), (5, .arr 3 (enc a_12))] 6 (.v (.bool true)) ?_ ?_
   · simp only [go_sem, Le] <;> (repeat' apply And.intro) <;> first | ((try with_reducible refine TL_eq ?_); omega) | ((try with_reducible refine TL_eq ?_); (simp [go_sem]; done))
   refine inlK_of ?_
   simp only [go_sem]
   refine seqQ_normal hQ2 ?_
   refine vc_ret_of ?_
   simp only [go_sem]
   obtain rfl := Option.some.inj h
   refine retW_det [some 5] ?_
   simp only [go_sem, Le] <;> (repeat' apply And.intro) <;> first | ((try with_reducible refine TL_eq ?_); omega) | ((try with_reducible refine TL_eq ?_); (simp [go_sem]; done))

def f_ops_maker_done_p0_s0_0_B1 (mv_0 : GOps_maker) (rec_1 : Int × (List GItem) → Option ((List GItem) × GOps_maker)) : Int × (List GItem) → Option ((List GItem) × GOps_maker) :=
 fun (t11_1, a_1) =>
 (if (decide (t11_1 < (List.length mv_0.out : Int))) = true then bindO (idx mv_0.out t11_1) (fun (xv_2 : GItem) =>
 bindO (f_bag_Add a_1 xv_2.Rec xv_2.N) (fun (v_2 : List GItem) =>
 rec_1 (IntKind.i64.wrap (t11_1 + 1), v_2)))
 else some (a_1, mv_0))
def f_ops_maker_done_p0_s0_0 (mv_0 : GOps_maker) : Option ((List GItem) × GOps_maker) :=
 loopK (f_ops_maker_done_p0_s0_0_B1 mv_0) rounds (0, [])
theorem f_ops_maker_done_p0_s0_0_det (mv_0 : GOps_maker)  (r : (List GItem) × GOps_maker) (h : f_ops_maker_done_p0_s0_0 mv_0 = some r) : DetS Try.prog 71 [.ptr 0 0] [(0, .box [.osl 1 3 (0) (List.length mv_0.out), .v (.int .i64 mv_0.many)]), (1, .arr 3 (enc mv_0.out))] 2 (.osl 2 3 (0) (List.length r.1)) [(0, .box [.osl 3 3 (0) (List.length r.2.out), .v (.int .i64 r.2.many)]), (2, .arr 3 (enc r.1)), (3, .arr 3 (enc r.2.out))] 4 := by
 unfold DetS
 refine Spec.of_vc Try.func71 rfl (by kernel_rfl) (by kernel_rfl) ?_
 rw [f_ops_maker_done_p0_s0_0] at h
 refine sg fun QQ1 hQ1 => ?_
 simp only [go_sem]
 refine seqQ_normal hQ1 ?_
 refine sg fun QQ2 hQ2 => ?_
 simp only [go_sem]
 refine seqQ_normal hQ2 ?_
 refine vc_join (by kernel_rfl) ?_
 refine seq_go_gen ?_
 intro QQ3 hQ3
 refine sg fun QQ4 hQ4 => ?_
 simp only [go_sem]
 refine seqQ_normal hQ4 ?_
 refine vc_block_gen ?_
 intro QQ5 hQ5
 refine vc_loop_of ?_
 refine loop_gen (ι := Nat × Int × (List GItem)) (fun ((_, t11_1, a_1) : Nat × Int × (List GItem)) => (⟨2, [(3, .osl 2 3 (0) (List.length a_1)), (9, .osl 1 3 (0) (List.length mv_0.out)), (10, .v (.int .i64 (List.length mv_0.out : Int))), (11, .v (.int .i64 t11_1))], [(0, .box [.osl 1 3 (0) (List.length mv_0.out), .v (.int .i64 mv_0.many)]), (1, .arr 3 (enc mv_0.out)), (2, .arr 3 (enc a_1))], 3, 23⟩ : St)) (fun ((n_, t11_1, a_1) : Nat × Int × (List GItem)) => loopK (f_ops_maker_done_p0_s0_0_B1 mv_0) n_ (t11_1, a_1) = some r) (fun p => p.1) (rounds, 0, []) [none] ?_ h ?_
 · simp only [go_sem, Le] <;> (repeat' apply And.intro) <;> first | ((try with_reducible refine TL_eq ?_); omega) | ((try with_reducible refine TL_eq ?_); (simp [go_sem]; done))
 ·
  rintro ⟨n_1, t11_1, a_1⟩ h QQ6 hQ6
  dsimp only at h
  replace h := loopK_some h
  obtain ⟨m_1, rfl, h⟩ := h
  rw [f_ops_maker_done_p0_s0_0_B1] at h
  refine sg fun QQ7 hQ7 => ?_
  simp only [go_sem]
  refine seqQ_normal hQ7 ?_
  refine sg fun QQ8 hQ8 => ?_
  refine vc_cond_of (b := (decide (t11_1 < (List.length mv_0.out : Int)))) (by (simp only [go_sem]; done)) (fun hb_2 => ?_) (fun hb_2 => ?_)
  ·
   replace h := if_t h hb_2
   simp only [bool_to_prop] at hb_2
   refine vc_skip_of ?_
   refine seqQ_normal hQ8 ?_
   refine sg fun QQ9 hQ9 => ?_
   refine vc_block_gen ?_
   intro QQ10 hQ10
   refine sg fun QQ11 hQ11 => ?_
   obtain ⟨xv_2, exv_2, h⟩ := bindO_some h
   obtain ⟨fxv_2a, fxv_2b, fxv_2c⟩ := idx_spec exv_2
   simp only [go_sem, fxv_2a, fxv_2b, fxv_2c]
   refine And.intro (by omega) ?_
   refine seqQ_normal hQ11 ?_
   obtain ⟨v_2, ev_2, h⟩ := bindO_some h
   simp only [go_sem]
   refine callF_weak (s' := (⟨2, [(3, .sl 3 (enc a_1)), (5, .ptr 2 0), (9, .osl 1 3 (0) (List.length mv_0.out)), (10, .v (.int .i64 (List.length mv_0.out : Int))), (11, .v (.int .i64 t11_1)), (12, .v (.bool (decide (t11_1 < (List.length mv_0.out : Int))))), (14, .agg [.v (.int .i64 xv_2.Rec.K), .v (.int .i64 xv_2.Rec.V), .v (.int .i64 xv_2.N)]), (15, .sl 3 (enc a_1)), (16, .ptr 2 0), (17, .agg [.v (.int .i64 xv_2.Rec.K), .v (.int .i64 xv_2.Rec.V)]), (18, .ptr 2 2), (19, .v (.int .i64 xv_2.N))], [(0, .box [.osl 1 3 (0) (List.length mv_0.out), .v (.int .i64 mv_0.many)]), (1, .arr 3 (enc mv_0.out)), (2, .box [.v (.int .i64 xv_2.Rec.K), .v (.int .i64 xv_2.Rec.V), .v (.int .i64 xv_2.N)])], 3, 23⟩ : St)) (l := [some 3]) (args' := [.sl 3 (enc a_1), .agg [.v (.int .i64 xv_2.Rec.K), .v (.int .i64 xv_2.Rec.V)], .v (.int .i64 xv_2.N)]) ?_ ?_ ?_
   · simp only [go_sem, Le] <;> (repeat' apply And.intro) <;> first | ((try with_reducible refine TL_eq ?_); omega) | ((try with_reducible refine TL_eq ?_); (simp [go_sem]; done)) | ((try with_reducible refine TL_eq ?_); (simp [enc_len, enc]; omega))
   · simp only [go_sem, Le] <;> (repeat' apply And.intro) <;> ((try with_reducible refine TL_eq ?_); (simp [go_sem]; done))
   refine callD [] (f_bag_Add_det a_1 xv_2.Rec xv_2.N v_2 ev_2) (by simp) rfl trivial rfl rfl rfl rfl ?_
   simp only [go_sem]
   refine blockQ_normal hQ10 ?_
   refine seqQ_normal hQ9 ?_
   simp only [go_sem]
   refine thenQ_normal hQ6 ?_
   refine ⟨(m_1, IntKind.i64.wrap (t11_1 + 1), v_2), [some 3], ?_, h, Nat.lt_succ_self _⟩
   simp only [go_sem, Le] <;> (repeat' apply And.intro) <;> first | ((try with_reducible refine TL_eq ?_); omega) | ((try with_reducible refine TL_eq ?_); (simp [go_sem]; done))
  ·
   replace h := if_f h hb_2
   simp only [bool_to_prop] at hb_2
   refine vc_exit_of ?_
   refine seqQ_exit hQ8 ?_
   refine thenQ_exit hQ6 ?_
   refine blockQ_exit hQ5 ?_
   refine seqQ_normal hQ3 ?_
   refine sg fun QQ12 hQ12 => ?_
   simp only [go_sem]
   refine seqQ_normal hQ12 ?_
   refine vc_ret_of ?_
   simp only [go_sem]
   obtain rfl := Option.some.inj h
   refine retW_det [some 2, some 1] ?_
   simp only [go_sem, Le] <;> (repeat' apply And.intro) <;> first | ((try with_reducible refine TL_eq ?_); omega) | ((try with_reducible refine TL_eq ?_); (simp [go_sem]; done))

def f_ops_Apply_J1 (ok_2 : Bool) (b_2 : Int) (a_2 : List GItem) : Option ((List GItem) × Bool) :=
 (if (!ok_2) = true then some (([] : List GItem), false)
 else bindO (f_ops_maker_done_p0_s0_0 (⟨a_2, b_2⟩ : GOps_maker)) (fun (v_11 : (List GItem) × GOps_maker) =>
 some (v_11.1, true)))
def f_ops_Apply_B2 (v_0 : List GItem) (rec_2 : Bool × Int × Int × (List GItem) → Option ((List GItem) × Bool)) : Bool × Int × Int × (List GItem) → Option ((List GItem) × Bool) :=
 fun (ok_4, t48_3, b_4, a_4) =>
 (if (decide (t48_3 < (List.length v_0 : Int))) = true then bindO (idx v_0 t48_3) (fun (xv_6 : GItem) =>
 (if ok_4 = true then bindO (f_ops_maker_add_p0_s0_0 (⟨a_4, b_4⟩ : GOps_maker) xv_6.Rec 1) (fun (v_18 : Bool × GOps_maker) =>
 rec_2 (v_18.1, IntKind.i64.wrap (t48_3 + 1), v_18.2.many, v_18.2.out))
 else rec_2 (false, IntKind.i64.wrap (t48_3 + 1), b_4, a_4)))
 else f_ops_Apply_J1 ok_4 b_4 a_4)
def f_ops_Apply (xv_0 : GNode) (ports_0 : List (List GItem)) : Option ((List GItem) × Bool) :=
 bindO (f_ops_Apply_1 0 ports_0) (fun (v_0 : List GItem) =>
 bindO (f_ops_Apply_1 1 ports_0) (fun (v_1 : List GItem) =>
 (if (xv_0.Kind == 5) = true then bindO (f_ops_maker_linear_p0_s0_0 (⟨([] : List GItem), 0⟩ : GOps_maker) xv_0 v_0) (fun (v_12 : Bool × GOps_maker) =>
 (if v_12.1 = true then bindO (f_ops_maker_linear_p0_s0_0 v_12.2 xv_0 v_1) (fun (v_13 : Bool × GOps_maker) =>
 f_ops_Apply_J1 v_13.1 v_13.2.many v_13.2.out)
 else f_ops_Apply_J1 false v_12.2.many v_12.2.out))
 else bindO (f_ops_Linear xv_0.Kind) (fun (v_14 : Bool) =>
 (if v_14 = true then bindO (f_ops_maker_linear_p0_s0_0 (⟨([] : List GItem), 0⟩ : GOps_maker) xv_0 v_0) (fun (v_15 : Bool × GOps_maker) =>
 f_ops_Apply_J1 v_15.1 v_15.2.many v_15.2.out)
 else (if (xv_0.Kind == 8) = true then loopK (f_ops_Apply_B2 v_0) rounds (true, 0, 0, [])
 else (if (xv_0.Kind == 9) = true then bindO (f_ops_maker_join_p0_s0_0 (⟨([] : List GItem), 0⟩ : GOps_maker) v_0 v_1) (fun (v_19 : Bool × GOps_maker) =>
 f_ops_Apply_J1 v_19.1 v_19.2.many v_19.2.out)
 else (if (((xv_0.Kind == 7) || (xv_0.Kind == 6)) || (xv_0.Kind == 14)) = true then bindO (f_ops_maker_grouped_p0_s0_0 (⟨([] : List GItem), 0⟩ : GOps_maker) xv_0.Kind v_0 v_1) (fun (v_20 : Bool × GOps_maker) =>
 f_ops_Apply_J1 v_20.1 v_20.2.many v_20.2.out)
 else f_ops_Apply_J1 true 0 ([])))))))))
theorem f_ops_Apply_det (xv_0 : GNode) (ports_0 : List (List GItem))  (r : (List GItem) × Bool) (h : f_ops_Apply xv_0 ports_0 = some r) : DetS Try.prog 21 [.agg [.v (.int .i64 xv_0.Kind), .v (.int .i64 xv_0.Scope), .v (.int .i64 xv_0.Arg), .sl 2 (enc xv_0.Prog)], .sl 1 (enc ports_0)] [] 0 (.tup [.osl 0 3 (0) (List.length r.1), .v (.bool r.2)]) [(0, .arr 3 (enc r.1))] 1 := by
 unfold DetS
 refine Spec.of_vc Try.func21 rfl (by kernel_rfl) (by kernel_rfl) ?_
 rw [f_ops_Apply] at h
 refine sg fun QQ1 hQ1 => ?_
 simp only [go_sem]
 refine seqQ_normal hQ1 ?_
 refine sg fun QQ2 hQ2 => ?_
 simp only [go_sem]
 refine seqQ_normal hQ2 ?_
 refine sg fun QQ3 hQ3 => ?_
 simp only [go_sem]
 refine seqQ_normal hQ3 ?_
 refine sg fun QQ4 hQ4 => ?_
 obtain ⟨v_0, ev_0, h⟩ := bindO_some h
 simp only [go_sem]
 refine callF_weak (s' := (⟨0, [(0, .agg [.v (.int .i64 xv_0.Kind), .v (.int .i64 xv_0.Scope), .v (.int .i64 xv_0.Arg), .sl 2 (enc xv_0.Prog)]), (1, .sl 1 (enc ports_0)), (2, .ptr 0 0), (3, .el 1 [[.sl 1 (enc ports_0)]] 0 0), (4, .v (.slice none 0 0)), (5, .v (.bool false)), (6, .clo 66 [.el 1 [[.sl 1 (enc ports_0)]] 0 0]), (7, .ptr 1 0), (13, .clo 66 [.el 1 [[.sl 1 (enc ports_0)]] 0 0]), (14, .agg [.v (.slice none 0 0), .v (.int .i64 0)]), (15, .ptr 1 0), (16, .clo 66 [.el 1 [[.sl 1 (enc ports_0)]] 0 0])], [(0, .box [.v (.int .i64 xv_0.Kind), .v (.int .i64 xv_0.Scope), .v (.int .i64 xv_0.Arg), .sl 2 (enc xv_0.Prog)]), (1, .box [.v (.slice none 0 0), .v (.int .i64 0)])], 2, 92⟩ : St)) (l := [some 0, some 2]) (args' := [.v (.int .i64 0), .el 1 [[.sl 1 (enc ports_0)]] 0 0]) ?_ ?_ ?_
 · simp only [go_sem, Le] <;> (repeat' apply And.intro) <;> first | ((try with_reducible refine TL_eq ?_); omega) | ((try with_reducible refine TL_eq ?_); (simp [go_sem]; done))
 · simp only [go_sem, Le] <;> (repeat' apply And.intro) <;> ((try with_reducible refine TL_eq ?_); (simp [go_sem]; done))
 refine callD [] (f_ops_Apply_1_det 0 ports_0 v_0 ev_0) (by simp) rfl trivial rfl rfl rfl rfl ?_
 obtain ⟨v_1, ev_1, h⟩ := bindO_some h
 simp only [go_sem]
 refine callD [] (f_ops_Apply_1_det 1 ports_0 v_1 ev_1) (by simp) rfl trivial rfl rfl rfl rfl ?_
 simp only [go_sem]
 refine seqQ_normal hQ4 ?_
 refine sg fun QQ5 hQ5 => ?_
 simp only [go_sem]
 refine seqQ_normal hQ5 ?_
 refine vc_join (by kernel_rfl) ?_
 refine seq_cut_gen (ι := Bool × Int × (List GItem)) (fun ((ok_2, b_2, a_2) : Bool × Int × (List GItem)) => (⟨0, [(7, .ptr 0 0), (10, .v (.bool ok_2))], [(0, .box [.osl 1 3 (0) (List.length a_2), .v (.int .i64 b_2)]), (1, .arr 3 (enc a_2))], 2, 92⟩ : St)) (fun ((ok_2, b_2, a_2) : Bool × Int × (List GItem)) => f_ops_Apply_J1 ok_2 b_2 a_2 = some r) ?_ ?_
 ·
  intro QQ10 hQ10
  refine vc_block_gen ?_
  intro QQ11 hQ11
  refine sg fun QQ12 hQ12 => ?_
  simp only [go_sem]
  refine seqQ_normal hQ12 ?_
  refine vc_cond_of (b := (xv_0.Kind == 5)) (by (simp only [go_sem]; done)) (fun hb_12 => ?_) (fun hb_12 => ?_)
  ·
   replace h := if_t h hb_12
   simp only [bool_to_prop] at hb_12
   obtain ⟨v_12, ev_12, h⟩ := bindO_some h
   simp only [go_sem]
   refine callF_weak (s' := (⟨0, [(0, .agg [.v (.int .i64 xv_0.Kind), .v (.int .i64 xv_0.Scope), .v (.int .i64 xv_0.Arg), .sl 2 (enc xv_0.Prog)]), (1, .sl 1 (enc ports_0)), (2, .ptr 0 0), (3, .el 1 [[.sl 1 (enc ports_0)]] 0 0), (4, .v (.slice none 0 0)), (5, .v (.bool false)), (6, .clo 66 [.el 1 [[.sl 1 (enc ports_0)]] 0 0]), (7, .ptr 1 0), (8, .sl 3 (enc v_0)), (9, .osl 2 3 (0) (List.length v_1)), (10, .v (.bool true)), (13, .clo 66 [.el 1 [[.sl 1 (enc ports_0)]] 0 0]), (14, .agg [.v (.slice none 0 0), .v (.int .i64 0)]), (15, .ptr 1 0), (16, .clo 66 [.el 1 [[.sl 1 (enc ports_0)]] 0 0]), (17, .sl 3 (enc v_0)), (18, .clo 66 [.el 1 [[.sl 1 (enc ports_0)]] 0 0]), (19, .osl 2 3 (0) (List.length v_1)), (20, .v (.bool (xv_0.Kind == 5))), (21, .ptr 0 0), (22, .v (.int .i64 xv_0.Kind)), (23, .v (.bool (xv_0.Kind == 5))), (24, .ptr 1 0), (25, .agg [.v (.int .i64 xv_0.Kind), .v (.int .i64 xv_0.Scope), .v (.int .i64 xv_0.Arg), .sl 2 (enc xv_0.Prog)]), (26, .sl 3 (enc v_0))], [(0, .box [.v (.int .i64 xv_0.Kind), .v (.int .i64 xv_0.Scope), .v (.int .i64 xv_0.Arg), .sl 2 (enc xv_0.Prog)]), (1, .box [.osl 3 3 (0) (List.length ([] : List GItem)), .v (.int .i64 0)]), (2, .arr 3 (enc v_1)), (3, .arr 3 (enc ([] : List GItem)))], 4, 92⟩ : St)) (l := [some 0, some 1, some 3, none]) (args' := [.ptr 1 0, .agg [.v (.int .i64 xv_0.Kind), .v (.int .i64 xv_0.Scope), .v (.int .i64 xv_0.Arg), .sl 2 (enc xv_0.Prog)], .sl 3 (enc v_0)]) ?_ ?_ ?_
   · simp only [go_sem, Le] <;> (repeat' apply And.intro) <;> first | ((try with_reducible refine TL_eq ?_); omega) | ((try with_reducible refine TL_eq ?_); (simp [go_sem]; done))
   · simp only [go_sem, Le] <;> (repeat' apply And.intro) <;> ((try with_reducible refine TL_eq ?_); (simp [go_sem]; done))
   refine callD [1, 3] (f_ops_maker_linear_p0_s0_0_det (⟨([] : List GItem), 0⟩ : GOps_maker) xv_0 v_0 v_12 ev_12) (by simp) rfl ⟨rfl, ⟨rfl, trivial⟩⟩ rfl rfl rfl rfl ?_
   simp only [go_sem]
   rcases hb_13 : v_12.1 with _ | _
   ·
    replace h := if_f h hb_13
    simp only [go_sem, hb_13]
    refine blockQ_normal hQ11 ?_
    refine thenQ_normal hQ10 ?_
    refine ⟨(false, v_12.2.many, v_12.2.out), [some 1, some 4], ?_, h⟩
    simp only [go_sem, Le] <;> (repeat' apply And.intro) <;> first | ((try with_reducible refine TL_eq ?_); omega) | ((try with_reducible refine TL_eq ?_); (simp [go_sem]; done))
   ·
    replace h := if_t h hb_13
    obtain ⟨v_13, ev_13, h⟩ := bindO_some h
    simp only [go_sem, hb_13]
    refine callF_weak (s' := (⟨0, [(0, .agg [.v (.int .i64 xv_0.Kind), .v (.int .i64 xv_0.Scope), .v (.int .i64 xv_0.Arg), .sl 2 (enc xv_0.Prog)]), (1, .sl 1 (enc ports_0)), (2, .ptr 0 0), (3, .el 1 [[.sl 1 (enc ports_0)]] 0 0), (4, .v (.slice none 0 0)), (5, .v (.bool false)), (6, .clo 66 [.el 1 [[.sl 1 (enc ports_0)]] 0 0]), (7, .ptr 1 0), (8, .sl 3 (enc v_0)), (9, .sl 3 (enc v_1)), (10, .v (.bool true)), (13, .clo 66 [.el 1 [[.sl 1 (enc ports_0)]] 0 0]), (14, .agg [.v (.slice none 0 0), .v (.int .i64 0)]), (15, .ptr 1 0), (16, .clo 66 [.el 1 [[.sl 1 (enc ports_0)]] 0 0]), (17, .sl 3 (enc v_0)), (18, .clo 66 [.el 1 [[.sl 1 (enc ports_0)]] 0 0]), (19, .sl 3 (enc v_1)), (20, .v (.bool (xv_0.Kind == 5))), (21, .ptr 0 0), (22, .v (.int .i64 xv_0.Kind)), (23, .v (.bool (xv_0.Kind == 5))), (24, .ptr 1 0), (25, .agg [.v (.int .i64 xv_0.Kind), .v (.int .i64 xv_0.Scope), .v (.int .i64 xv_0.Arg), .sl 2 (enc xv_0.Prog)]), (26, .sl 3 (enc v_0)), (27, .v (.bool true)), (28, .v (.bool true)), (29, .ptr 1 0), (30, .agg [.v (.int .i64 xv_0.Kind), .v (.int .i64 xv_0.Scope), .v (.int .i64 xv_0.Arg), .sl 2 (enc xv_0.Prog)]), (31, .sl 3 (enc v_1))], [(0, .box [.v (.int .i64 xv_0.Kind), .v (.int .i64 xv_0.Scope), .v (.int .i64 xv_0.Arg), .sl 2 (enc xv_0.Prog)]), (1, .box [.osl 2 3 (0) (List.length v_12.2.out), .v (.int .i64 v_12.2.many)]), (2, .arr 3 (enc v_12.2.out))], 3, 92⟩ : St)) (l := [some 0, some 1, some 4]) (args' := [.ptr 1 0, .agg [.v (.int .i64 xv_0.Kind), .v (.int .i64 xv_0.Scope), .v (.int .i64 xv_0.Arg), .sl 2 (enc xv_0.Prog)], .sl 3 (enc v_1)]) ?_ ?_ ?_
    · simp only [go_sem, Le] <;> (repeat' apply And.intro) <;> first | ((try with_reducible refine TL_eq ?_); omega) | ((try with_reducible refine TL_eq ?_); (simp [go_sem]; done))
    · simp only [go_sem, Le] <;> (repeat' apply And.intro) <;> ((try with_reducible refine TL_eq ?_); (simp [go_sem]; done))
    refine callD [1, 2] (f_ops_maker_linear_p0_s0_0_det v_12.2 xv_0 v_1 v_13 ev_13) (by simp) rfl ⟨rfl, ⟨rfl, trivial⟩⟩ rfl rfl rfl rfl ?_
    simp only [go_sem]
    refine blockQ_normal hQ11 ?_
    refine thenQ_normal hQ10 ?_
    refine ⟨(v_13.1, v_13.2.many, v_13.2.out), [some 1, some 3], ?_, h⟩
    simp only [go_sem, Le] <;> (repeat' apply And.intro) <;> first | ((try with_reducible refine TL_eq ?_); omega) | ((try with_reducible refine TL_eq ?_); (simp [go_sem]; done))
  ·
   replace h := if_f h hb_12
   simp only [bool_to_prop] at hb_12
   refine sg fun QQ13 hQ13 => ?_
   obtain ⟨v_14, ev_14, h⟩ := bindO_some h
   simp only [go_sem]
   refine call0 (f_ops_Linear_ok xv_0.Kind v_14 ev_14) (by rfl) (by rfl) ?_
   simp only [go_sem]
   refine seqQ_normal hQ13 ?_
   refine vc_cond_of (b := v_14) (by (simp only [go_sem]; done)) (fun hb_14 => ?_) (fun hb_14 => ?_)
   ·
    replace h := if_t h hb_14
    obtain ⟨v_15, ev_15, h⟩ := bindO_some h
    simp only [go_sem]
    refine callF_weak (s' := (⟨0, [(0, .agg [.v (.int .i64 xv_0.Kind), .v (.int .i64 xv_0.Scope), .v (.int .i64 xv_0.Arg), .sl 2 (enc xv_0.Prog)]), (1, .sl 1 (enc ports_0)), (2, .ptr 0 0), (3, .el 1 [[.sl 1 (enc ports_0)]] 0 0), (4, .v (.slice none 0 0)), (5, .v (.bool false)), (6, .clo 66 [.el 1 [[.sl 1 (enc ports_0)]] 0 0]), (7, .ptr 1 0), (8, .sl 3 (enc v_0)), (9, .osl 2 3 (0) (List.length v_1)), (10, .v (.bool true)), (13, .clo 66 [.el 1 [[.sl 1 (enc ports_0)]] 0 0]), (14, .agg [.v (.slice none 0 0), .v (.int .i64 0)]), (15, .ptr 1 0), (16, .clo 66 [.el 1 [[.sl 1 (enc ports_0)]] 0 0]), (17, .sl 3 (enc v_0)), (18, .clo 66 [.el 1 [[.sl 1 (enc ports_0)]] 0 0]), (19, .osl 2 3 (0) (List.length v_1)), (20, .v (.bool (xv_0.Kind == 5))), (21, .ptr 0 0), (22, .v (.int .i64 xv_0.Kind)), (23, .v (.bool (xv_0.Kind == 5))), (34, .v (.bool v_14)), (35, .ptr 0 0), (36, .v (.int .i64 xv_0.Kind)), (37, .v (.bool v_14)), (38, .ptr 1 0), (39, .agg [.v (.int .i64 xv_0.Kind), .v (.int .i64 xv_0.Scope), .v (.int .i64 xv_0.Arg), .sl 2 (enc xv_0.Prog)]), (40, .sl 3 (enc v_0))], [(0, .box [.v (.int .i64 xv_0.Kind), .v (.int .i64 xv_0.Scope), .v (.int .i64 xv_0.Arg), .sl 2 (enc xv_0.Prog)]), (1, .box [.osl 3 3 (0) (List.length ([] : List GItem)), .v (.int .i64 0)]), (2, .arr 3 (enc v_1)), (3, .arr 3 (enc ([] : List GItem)))], 4, 92⟩ : St)) (l := [some 0, some 1, some 3, none]) (args' := [.ptr 1 0, .agg [.v (.int .i64 xv_0.Kind), .v (.int .i64 xv_0.Scope), .v (.int .i64 xv_0.Arg), .sl 2 (enc xv_0.Prog)], .sl 3 (enc v_0)]) ?_ ?_ ?_
    · simp only [go_sem, Le] <;> (repeat' apply And.intro) <;> first | ((try with_reducible refine TL_eq ?_); omega) | ((try with_reducible refine TL_eq ?_); (simp [go_sem]; done))
    · simp only [go_sem, Le] <;> (repeat' apply And.intro) <;> ((try with_reducible refine TL_eq ?_); (simp [go_sem]; done))
    refine callD [1, 3] (f_ops_maker_linear_p0_s0_0_det (⟨([] : List GItem), 0⟩ : GOps_maker) xv_0 v_0 v_15 ev_15) (by simp) rfl ⟨rfl, ⟨rfl, trivial⟩⟩ rfl rfl rfl rfl ?_
    simp only [go_sem]
    refine blockQ_normal hQ11 ?_
    refine thenQ_normal hQ10 ?_
    refine ⟨(v_15.1, v_15.2.many, v_15.2.out), [some 1, some 4], ?_, h⟩
    simp only [go_sem, Le] <;> (repeat' apply And.intro) <;> first | ((try with_reducible refine TL_eq ?_); omega) | ((try with_reducible refine TL_eq ?_); (simp [go_sem]; done))
   ·
    replace h := if_f h hb_14
    refine sg fun QQ14 hQ14 => ?_
    simp only [go_sem]
    refine seqQ_normal hQ14 ?_
    refine vc_cond_of (b := (xv_0.Kind == 8)) (by (simp only [go_sem]; done)) (fun hb_15 => ?_) (fun hb_15 => ?_)
    ·
     replace h := if_t h hb_15
     simp only [bool_to_prop] at hb_15
     refine sg fun QQ15 hQ15 => ?_
     simp only [go_sem]
     refine seqQ_normal hQ15 ?_
     refine vc_block_gen ?_
     intro QQ16 hQ16
     refine vc_loop_of ?_
     refine loop_gen (ι := Nat × Bool × Int × Int × (List GItem)) (fun ((_, ok_4, t48_3, b_4, a_4) : Nat × Bool × Int × Int × (List GItem)) => (⟨0, [(7, .ptr 0 0), (10, .v (.bool ok_4)), (46, .osl 1 3 (0) (List.length v_0)), (47, .v (.int .i64 (List.length v_0 : Int))), (48, .v (.int .i64 t48_3))], [(0, .box [.osl 2 3 (0) (List.length a_4), .v (.int .i64 b_4)]), (1, .arr 3 (enc v_0)), (2, .arr 3 (enc a_4))], 3, 92⟩ : St)) (fun ((n_, ok_4, t48_3, b_4, a_4) : Nat × Bool × Int × Int × (List GItem)) => loopK (f_ops_Apply_B2 v_0) n_ (ok_4, t48_3, b_4, a_4) = some r) (fun p => p.1) (rounds, true, 0, 0, []) [some 1, some 2, none] ?_ h ?_
     · simp only [go_sem, Le] <;> (repeat' apply And.intro) <;> first | ((try with_reducible refine TL_eq ?_); omega) | ((try with_reducible refine TL_eq ?_); (simp [go_sem]; done))
     ·
      rintro ⟨n_2, ok_4, t48_3, b_4, a_4⟩ h QQ17 hQ17
      dsimp only at h
      replace h := loopK_some h
      obtain ⟨m_2, rfl, h⟩ := h
      rw [f_ops_Apply_B2] at h
      refine sg fun QQ18 hQ18 => ?_
      simp only [go_sem]
      refine seqQ_normal hQ18 ?_
      refine sg fun QQ19 hQ19 => ?_
      refine vc_cond_of (b := (decide (t48_3 < (List.length v_0 : Int)))) (by (simp only [go_sem]; done)) (fun hb_19 => ?_) (fun hb_19 => ?_)
      ·
       replace h := if_t h hb_19
       simp only [bool_to_prop] at hb_19
       refine vc_skip_of ?_
       refine seqQ_normal hQ19 ?_
       refine sg fun QQ20 hQ20 => ?_
       refine vc_block_gen ?_
       intro QQ21 hQ21
       refine sg fun QQ22 hQ22 => ?_
       obtain ⟨xv_6, exv_6, h⟩ := bindO_some h
       obtain ⟨fxv_6a, fxv_6b, fxv_6c⟩ := idx_spec exv_6
       simp only [go_sem, fxv_6a, fxv_6b, fxv_6c]
       refine And.intro (by omega) ?_
       refine seqQ_normal hQ22 ?_
       simp only [go_sem]
       rcases hb_20 : ok_4 with _ | _
       ·
        replace h := if_f h hb_20
        simp only [go_sem, hb_20]
        refine blockQ_normal hQ21 ?_
        refine seqQ_normal hQ20 ?_
        simp only [go_sem]
        refine thenQ_normal hQ17 ?_
        refine ⟨(m_2, false, IntKind.i64.wrap (t48_3 + 1), b_4, a_4), [some 0, some 1, some 2], ?_, h, Nat.lt_succ_self _⟩
        simp only [go_sem, Le] <;> (repeat' apply And.intro) <;> first | ((try with_reducible refine TL_eq ?_); omega) | ((try with_reducible refine TL_eq ?_); (simp [go_sem]; done))
       ·
        replace h := if_t h hb_20
        obtain ⟨v_18, ev_18, h⟩ := bindO_some h
        simp only [go_sem, hb_20]
        refine callD [0, 2] (f_ops_maker_add_p0_s0_0_det (⟨a_4, b_4⟩ : GOps_maker) xv_6.Rec 1 v_18 ev_18) (by simp) rfl ⟨rfl, ⟨rfl, trivial⟩⟩ rfl rfl rfl rfl ?_
        simp only [go_sem]
        refine blockQ_normal hQ21 ?_
        refine seqQ_normal hQ20 ?_
        simp only [go_sem]
        refine thenQ_normal hQ17 ?_
        refine ⟨(m_2, v_18.1, IntKind.i64.wrap (t48_3 + 1), v_18.2.many, v_18.2.out), [some 0, some 1, some 4], ?_, h, Nat.lt_succ_self _⟩
        simp only [go_sem, Le] <;> (repeat' apply And.intro) <;> first | ((try with_reducible refine TL_eq ?_); omega) | ((try with_reducible refine TL_eq ?_); (simp [go_sem]; done))
      ·
       replace h := if_f h hb_19
       simp only [bool_to_prop] at hb_19
       refine vc_exit_of ?_
       refine seqQ_exit hQ19 ?_
       refine thenQ_exit hQ17 ?_
       refine blockQ_exit hQ16 ?_
       refine blockQ_normal hQ11 ?_
       refine thenQ_normal hQ10 ?_
       refine ⟨(ok_4, b_4, a_4), [some 0, some 2], ?_, h⟩
       simp only [go_sem, Le] <;> (repeat' apply And.intro) <;> first | ((try with_reducible refine TL_eq ?_); omega) | ((try with_reducible refine TL_eq ?_); (simp [go_sem]; done))
    ·
     replace h := if_f h hb_15
     simp only [bool_to_prop] at hb_15
     refine sg fun QQ23 hQ23 => ?_
     simp only [go_sem]
     refine seqQ_normal hQ23 ?_
     refine vc_cond_of (b := (xv_0.Kind == 9)) (by (simp only [go_sem]; done)) (fun hb_21 => ?_) (fun hb_21 => ?_)
     ·
      replace h := if_t h hb_21
      simp only [bool_to_prop] at hb_21
      obtain ⟨v_19, ev_19, h⟩ := bindO_some h
      simp only [go_sem]
      refine callF_weak (s' := (⟨0, [(0, .agg [.v (.int .i64 xv_0.Kind), .v (.int .i64 xv_0.Scope), .v (.int .i64 xv_0.Arg), .sl 2 (enc xv_0.Prog)]), (1, .sl 1 (enc ports_0)), (2, .ptr 0 0), (3, .el 1 [[.sl 1 (enc ports_0)]] 0 0), (4, .v (.slice none 0 0)), (5, .v (.bool false)), (6, .clo 66 [.el 1 [[.sl 1 (enc ports_0)]] 0 0]), (7, .ptr 1 0), (8, .sl 3 (enc v_0)), (9, .sl 3 (enc v_1)), (10, .v (.bool true)), (13, .clo 66 [.el 1 [[.sl 1 (enc ports_0)]] 0 0]), (14, .agg [.v (.slice none 0 0), .v (.int .i64 0)]), (15, .ptr 1 0), (16, .clo 66 [.el 1 [[.sl 1 (enc ports_0)]] 0 0]), (17, .sl 3 (enc v_0)), (18, .clo 66 [.el 1 [[.sl 1 (enc ports_0)]] 0 0]), (19, .sl 3 (enc v_1)), (20, .v (.bool (xv_0.Kind == 5))), (21, .ptr 0 0), (22, .v (.int .i64 xv_0.Kind)), (23, .v (.bool (xv_0.Kind == 5))), (34, .v (.bool v_14)), (35, .ptr 0 0), (36, .v (.int .i64 xv_0.Kind)), (37, .v (.bool v_14)), (42, .v (.bool (xv_0.Kind == 8))), (43, .ptr 0 0), (44, .v (.int .i64 xv_0.Kind)), (45, .v (.bool (xv_0.Kind == 8))), (60, .v (.bool (xv_0.Kind == 9))), (61, .ptr 0 0), (62, .v (.int .i64 xv_0.Kind)), (63, .v (.bool (xv_0.Kind == 9))), (64, .ptr 1 0), (65, .sl 3 (enc v_0)), (66, .sl 3 (enc v_1))], [(0, .box [.v (.int .i64 xv_0.Kind), .v (.int .i64 xv_0.Scope), .v (.int .i64 xv_0.Arg), .sl 2 (enc xv_0.Prog)]), (1, .box [.osl 2 3 (0) (List.length ([] : List GItem)), .v (.int .i64 0)]), (2, .arr 3 (enc ([] : List GItem)))], 3, 92⟩ : St)) (l := [some 0, some 1, none]) (args' := [.ptr 1 0, .sl 3 (enc v_0), .sl 3 (enc v_1)]) ?_ ?_ ?_
      · simp only [go_sem, Le] <;> (repeat' apply And.intro) <;> first | ((try with_reducible refine TL_eq ?_); omega) | ((try with_reducible refine TL_eq ?_); (simp [go_sem]; done))
      · simp only [go_sem, Le] <;> (repeat' apply And.intro) <;> ((try with_reducible refine TL_eq ?_); (simp [go_sem]; done))
      refine callD [1, 2] (f_ops_maker_join_p0_s0_0_det (⟨([] : List GItem), 0⟩ : GOps_maker) v_0 v_1 v_19 ev_19) (by simp) rfl ⟨rfl, ⟨rfl, trivial⟩⟩ rfl rfl rfl rfl ?_
      simp only [go_sem]
      refine blockQ_normal hQ11 ?_
      refine thenQ_normal hQ10 ?_
      refine ⟨(v_19.1, v_19.2.many, v_19.2.out), [some 1, some 3], ?_, h⟩
      simp only [go_sem, Le] <;> (repeat' apply And.intro) <;> first | ((try with_reducible refine TL_eq ?_); omega) | ((try with_reducible refine TL_eq ?_); (simp [go_sem]; done))
     ·
      replace h := if_f h hb_21
      simp only [bool_to_prop] at hb_21
      refine sg fun QQ24 hQ24 => ?_
      simp only [go_sem]
      refine seqQ_normal hQ24 ?_
      refine vc_cond_of (b := (((xv_0.Kind == 7) || (xv_0.Kind == 6)) || (xv_0.Kind == 14))) (by (simp only [go_sem]; done)) (fun hb_22 => ?_) (fun hb_22 => ?_)
      ·
       replace h := if_t h hb_22
       simp only [bool_to_prop] at hb_22
       obtain ⟨v_20, ev_20, h⟩ := bindO_some h
       simp only [go_sem]
       refine callF_weak (s' := (⟨0, [(0, .agg [.v (.int .i64 xv_0.Kind), .v (.int .i64 xv_0.Scope), .v (.int .i64 xv_0.Arg), .sl 2 (enc xv_0.Prog)]), (1, .sl 1 (enc ports_0)), (2, .ptr 0 0), (3, .el 1 [[.sl 1 (enc ports_0)]] 0 0), (4, .v (.slice none 0 0)), (5, .v (.bool false)), (6, .clo 66 [.el 1 [[.sl 1 (enc ports_0)]] 0 0]), (7, .ptr 1 0), (8, .sl 3 (enc v_0)), (9, .sl 3 (enc v_1)), (10, .v (.bool true)), (13, .clo 66 [.el 1 [[.sl 1 (enc ports_0)]] 0 0]), (14, .agg [.v (.slice none 0 0), .v (.int .i64 0)]), (15, .ptr 1 0), (16, .clo 66 [.el 1 [[.sl 1 (enc ports_0)]] 0 0]), (17, .sl 3 (enc v_0)), (18, .clo 66 [.el 1 [[.sl 1 (enc ports_0)]] 0 0]), (19, .sl 3 (enc v_1)), (20, .v (.bool (xv_0.Kind == 5))), (21, .ptr 0 0), (22, .v (.int .i64 xv_0.Kind)), (23, .v (.bool (xv_0.Kind == 5))), (34, .v (.bool v_14)), (35, .ptr 0 0), (36, .v (.int .i64 xv_0.Kind)), (37, .v (.bool v_14)), (42, .v (.bool (xv_0.Kind == 8))), (43, .ptr 0 0), (44, .v (.int .i64 xv_0.Kind)), (45, .v (.bool (xv_0.Kind == 8))), (60, .v (.bool (xv_0.Kind == 9))), (61, .ptr 0 0), (62, .v (.int .i64 xv_0.Kind)), (63, .v (.bool (xv_0.Kind == 9))), (68, .v (.bool (((xv_0.Kind == 7) || (xv_0.Kind == 6)) || (xv_0.Kind == 14)))), (69, .ptr 0 0), (70, .v (.int .i64 xv_0.Kind)), (71, .v (.bool (xv_0.Kind == 7))), (72, .v (.bool (xv_0.Kind == 7))), (76, .v (.bool ((xv_0.Kind == 7) || (xv_0.Kind == 6)))), (77, .v (.bool ((xv_0.Kind == 7) || (xv_0.Kind == 6)))), (81, .v (.bool (((xv_0.Kind == 7) || (xv_0.Kind == 6)) || (xv_0.Kind == 14)))), (82, .ptr 1 0), (83, .ptr 0 0), (84, .v (.int .i64 xv_0.Kind)), (85, .sl 3 (enc v_0)), (86, .sl 3 (enc v_1))], [(0, .box [.v (.int .i64 xv_0.Kind), .v (.int .i64 xv_0.Scope), .v (.int .i64 xv_0.Arg), .sl 2 (enc xv_0.Prog)]), (1, .box [.osl 2 3 (0) (List.length ([] : List GItem)), .v (.int .i64 0)]), (2, .arr 3 (enc ([] : List GItem)))], 3, 92⟩ : St)) (l := [some 0, some 1, none]) (args' := [.ptr 1 0, .v (.int .i64 xv_0.Kind), .sl 3 (enc v_0), .sl 3 (enc v_1)]) ?_ ?_ ?_
       · simp only [go_sem, Le] <;> (repeat' apply And.intro) <;> first | ((try with_reducible refine TL_eq ?_); omega) | ((try with_reducible refine TL_eq ?_); (simp [go_sem]; done))
       · simp only [go_sem, Le] <;> (repeat' apply And.intro) <;> ((try with_reducible refine TL_eq ?_); (simp [go_sem]; done))
       refine callD [1, 2] (f_ops_maker_grouped_p0_s0_0_det (⟨([] : List GItem), 0⟩ : GOps_maker) xv_0.Kind v_0 v_1 v_20 ev_20) (by simp) rfl ⟨rfl, ⟨rfl, trivial⟩⟩ rfl rfl rfl rfl ?_
       simp only [go_sem]
       refine blockQ_normal hQ11 ?_
       refine thenQ_normal hQ10 ?_
       refine ⟨(v_20.1, v_20.2.many, v_20.2.out), [some 1, some 3], ?_, h⟩
       simp only [go_sem, Le] <;> (repeat' apply And.intro) <;> first | ((try with_reducible refine TL_eq ?_); omega) | ((try with_reducible refine TL_eq ?_); (simp [go_sem]; done))
      ·
       replace h := if_f h hb_22
       simp only [bool_to_prop] at hb_22
       refine vc_skip_of ?_
       refine blockQ_normal hQ11 ?_
       refine thenQ_normal hQ10 ?_
       refine ⟨(true, 0, []), [some 1, none], ?_, h⟩
       simp only [go_sem, Le] <;> (repeat' apply And.intro) <;> ((try with_reducible refine TL_eq ?_); (simp [go_sem]; done))
 ·
  rintro ⟨ok_2, b_2, a_2⟩ h
  try dsimp only at h
  rw [f_ops_Apply_J1] at h
  refine sg fun QQ6 hQ6 => ?_
  refine sg fun QQ7 hQ7 => ?_
  simp only [go_sem]
  refine seqQ_normal hQ7 ?_
  refine vc_cond_of (b := (!ok_2)) (by (simp only [go_sem]; done)) (fun hb_11 => ?_) (fun hb_11 => ?_)
  ·
   replace h := if_t h hb_11
   simp only [bool_to_prop] at hb_11
   refine sg fun QQ8 hQ8 => ?_
   simp only [go_sem]
   refine seqQ_normal hQ8 ?_
   refine vc_ret_of ?_
   refine seqQ_ret hQ6 ?_
   simp only [go_sem]
   obtain rfl := Option.some.inj h
   refine retW_det [none] ?_
   simp only [go_sem, Le] <;> (repeat' apply And.intro) <;> ((try with_reducible refine TL_eq ?_); (simp [go_sem]; done))
  ·
   replace h := if_f h hb_11
   simp only [bool_to_prop] at hb_11
   refine vc_skip_of ?_
   refine seqQ_normal hQ6 ?_
   refine sg fun QQ9 hQ9 => ?_
   obtain ⟨v_11, ev_11, h⟩ := bindO_some h
   simp only [go_sem]
   refine callD [0, 1] (f_ops_maker_done_p0_s0_0_det (⟨a_2, b_2⟩ : GOps_maker) v_11 ev_11) (by simp) rfl ⟨rfl, ⟨rfl, trivial⟩⟩ rfl rfl rfl rfl ?_
   simp only [go_sem]
   refine seqQ_normal hQ9 ?_
   refine vc_ret_of ?_
   simp only [go_sem]
   obtain rfl := Option.some.inj h
   refine retW_det [some 2] ?_
   simp only [go_sem, Le]
def f_backwashlaw11_awake  : Option Bool :=
 bindO (f_ops_Apply (⟨6, 0, 0, ([] : List GIns)⟩ : GNode) ([([(⟨(⟨1, 2⟩ : GRec), 2⟩ : GItem), (⟨(⟨1, 3⟩ : GRec), 1⟩ : GItem)] : List GItem)] : List (List GItem))) (fun (v_0 : (List GItem) × Bool) =>
 (if (v_0.2 && ((List.length v_0.1 : Int) == 1)) = true then bindO (idx v_0.1 0) (fun (xv_0 : GItem) =>
 (if ((xv_0.Rec.K == 1) && ((xv_0.Rec.V == 7) && (xv_0.N == 1))) = true then bindO (f_ops_Linear 2) (fun (v_1 : Bool) =>
 some v_1)
 else some false))
 else some false))
def f_slices_Clone_Slot (s_0 : List GSlot) : Option (List GSlot) :=
 guardO ((List.length ([] : List GSlot) + List.length s_0) * 120 ≤ 140737488355328) (
 some (([] : List GSlot) ++ s_0))
theorem f_slices_Clone_Slot_det (s_0 : List GSlot)  (r : List GSlot) (h : f_slices_Clone_Slot s_0 = some r) : DetS Try.prog 90 [.sl 10 (enc s_0)] [] 0 (.osl 0 10 (0) (List.length r)) [(0, .arr 10 (enc r))] 1 := by
 unfold DetS
 refine Spec.of_vc Try.func90 rfl (by kernel_rfl) (by kernel_rfl) ?_
 rw [f_slices_Clone_Slot] at h
 refine sg fun QQ1 hQ1 => ?_
 simp only [go_sem]
 refine seqQ_normal hQ1 ?_
 refine sg fun QQ2 hQ2 => ?_
 refine sg fun QQ3 hQ3 => ?_
 simp only [go_sem]
 intro nb_0 hnb_0
 rcases nb_0 with _ | _
 ·
  refine seqQ_normal hQ3 ?_
  refine vc_cond_f (by (simp only [go_sem]; done)) ?_
  refine vc_skip_of ?_
  refine seqQ_normal hQ2 ?_
  refine sg fun QQ4 hQ4 => ?_
  obtain ⟨g_0, h⟩ := guardO_some h
  simp only [List.length_cons, List.length_nil, Nat.zero_add, List.length_append] at g_0
  have rf_0 : enc ([] : List GSlot) ++ enc s_0 = enc (([] : List GSlot) ++ s_0) := by exact (enc_app ([] : List GSlot) s_0).symm
  simp only [go_sem, g_0, rf_0]
  refine seqQ_normal hQ4 ?_
  refine vc_ret_of ?_
  simp only [go_sem]
  obtain rfl := Option.some.inj h
  refine retW_det [some 1] ?_
  simp only [go_sem, Le]
 ·
  have hE_nb_0 : s_0 = [] := by cases hq : (s_0) with | nil => rfl | cons y ys => exact absurd (hnb_0 (by rw [hq]; simp [enc])) (by simp)
  simp only [hE_nb_0] at h
  refine seqQ_normal hQ3 ?_
  refine vc_cond_t (by (simp only [go_sem]; done)) ?_
  refine sg fun QQ5 hQ5 => ?_
  simp only [go_sem]
  refine seqQ_normal hQ5 ?_
  refine vc_ret_of ?_
  refine seqQ_ret hQ2 ?_
  simp only [go_sem]
  obtain rfl := Option.some.inj h
  refine retW_det [none] ?_
  simp only [go_sem, Le] <;> (repeat' apply And.intro) <;> ((try with_reducible refine TL_eq ?_); (simp [go_sem]; done))
def f_cell_empty (s_0 : GSlot) : Option Bool :=
 some ((IntKind.i64.wrap ((IntKind.i64.wrap ((List.length s_0.In.a0 : Int) + (List.length s_0.In.a1 : Int))) + (List.length s_0.Sent : Int))) == 0)
theorem f_cell_empty_ok (s_0 : GSlot)  (r : Bool) (h : f_cell_empty s_0 = some r) : PureS Try.prog 102 [.agg [.v (.int .i64 s_0.Time.D), .v (.int .i64 s_0.Time.C.a0), .v (.int .i64 s_0.Time.C.a1), .v (.int .i64 s_0.Time.C.a2), .v (.int .i64 s_0.Time.C.a3), .sl 3 (enc s_0.In.a0), .sl 3 (enc s_0.In.a1), .sl 3 (enc s_0.Sent), .v (.bool s_0.Dirty), .v (.bool s_0.Fired)]] 0 (.v (.bool r)) := by
 unfold PureS
 refine Spec.of_vc Try.func102 rfl (by kernel_rfl) (by kernel_rfl) ?_
 rw [f_cell_empty] at h
 refine sg fun QQ1 hQ1 => ?_
 simp only [go_sem]
 refine seqQ_normal hQ1 ?_
 refine sg fun QQ2 hQ2 => ?_
 simp only [go_sem]
 refine seqQ_normal hQ2 ?_
 refine vc_ret_of ?_
 simp only [go_sem]
 obtain rfl := Option.some.inj h
 refine retW_pure rfl ?_
 simp only [go_sem, Le]

end Go.Proofs.Ythpahhhdapdcpaa
