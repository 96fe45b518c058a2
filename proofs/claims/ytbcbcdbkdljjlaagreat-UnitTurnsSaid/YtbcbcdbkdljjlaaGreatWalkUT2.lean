/-
  What functions of the program compute, each told as a plain function that may give nothing, with the proof that the code does so. No condition beyond those that each theorem names.
-/
import Derived.Test.YtbcbcdbkdljjlaaGreatWalkUT0
import Derived.Test.YtbcbcdbkdljjlaaGreatWalkUT1
import Derived.Test.YtbcbcdbkdljjlaaGreatLibI
set_option linter.unusedSimpArgs false
set_option linter.unusedVariables false
set_option linter.unusedSectionVars false
set_option maxHeartbeats 2000000
set_option maxRecDepth 100000
namespace Go.Proofs.YtbcbcdbkdljjlaaGreat
open Go Go.RowKit
open Go.IntKind (i64)
def q1m (del_0 : GTime → Option Bool) (rec_1 : Int × Int × (List GTime) → Option (List GTime)) : Int × Int × (List GTime) → Option (List GTime) :=
 fun (i_1, j_1, a_1) =>
 (if (decide (j_1 < (List.length a_1 : Int))) = true then j6 (idx a_1 j_1) (fun (xv_4 : GTime) =>
 j6 (del_0 xv_4) (fun (v_3 : Bool) =>
 (if (!v_3) = true then j6 (idx a_1 i_1) (fun (xv_5 : GTime) =>
 rec_1 (i64.wrap (i_1 + 1), i64.wrap (j_1 + 1), (List.set a_1 (Int.toNat i_1) xv_4)))
 else rec_1 (i_1, i64.wrap (j_1 + 1), a_1))))
 else q0v (0 ≤ i_1 ∧ i_1 ≤ (List.length a_1 : Int) ∧ (List.length a_1 : Int) ≤ (List.length a_1 : Int)) (
 q0v (Int.toNat i_1 + (List.length a_1 - Int.toNat i_1) ≤ List.length a_1) (
 q0v (0 ≤ 0 ∧ 0 ≤ i_1 ∧ i_1 ≤ ((List.length a_1 : Nat) : Int)) (
 some (List.take (Int.toNat i_1) (List.take (Int.toNat i_1) a_1 ++ List.replicate ((List.length a_1 - Int.toNat i_1)) (⟨0, (⟨0, 0, 0, 0⟩ : Arr4 Int)⟩ : GTime) ++ List.drop (Int.toNat i_1 + (List.length a_1 - Int.toNat i_1)) a_1))))))
def q20 (s_0 : List GTime) (del_0 : GTime → Option Bool) : Option (List GTime) :=
 j6 (q3f s_0 del_0) (fun (v_0 : Int) =>
 (if (v_0 == (-1)) = true then some s_0
 else p9 (q1m del_0) rounds (v_0, i64.wrap (v_0 + 1), s_0)))
theorem q9i (s_0 : List GTime) (del_0 : GTime → Option Bool) (g_del_0 : FuncId) (c_del_0 : List AV) (F_del_0 : q0n c_del_0 = true) (E_del_0 : q02 Tryz.prog g_del_0 = true) (H_del_0 : ∀ (x0 : GTime) (r : Bool), del_0 x0 = some r → PureS Tryz.prog g_del_0 ([.agg [.v (.int .i64 x0.D), .v (.int .i64 x0.C.a0), .v (.int .i64 x0.C.a1), .v (.int .i64 x0.C.a2), .v (.int .i64 x0.C.a3)]] ++ c_del_0) 0 (.v (.bool r))) (r : List GTime) (h : q20 s_0 del_0 = some r) : DetS Tryz.prog 159 [.osl 0 5 (0) (List.length s_0), .clo g_del_0 c_del_0] [(0, .arr 5 (enc s_0))] 1 (.osl 1 5 (0) (List.length r)) [(1, .arr 5 (enc r))] 2 := by
 unfold DetS; refine Spec.of_vc Tryz.func159 rfl (by kernel_rfl) (by kernel_rfl) ?_; rw [q20] at h; refine sg fun _ Q1 => ?_; simp only [go_sem]; refine q8 Q1 (sg fun _ Q2 => ?_); obtain ⟨v_0, ev_0, h⟩ := q9 h; simp only [go_sem]; refine qg9 (s' := (⟨1, [(0, .sl 5 (enc s_0)), (1, .clo g_del_0 c_del_0), (4, .v (.slice none 0 0)), (8, .sl 5 (enc s_0)), (9, .clo g_del_0 c_del_0)], [], 1, 42⟩ : St)) (l := []) (args' := [.sl 5 (enc s_0), .clo g_del_0 c_del_0]) ?_ ?_ (q7t s_0 del_0 g_del_0 c_del_0 F_del_0 E_del_0 H_del_0 v_0 ev_0) (by simp [q0n, q0y, F_del_0]) (by rfl) ?_
 · simp only [go_sem, Le, q0b _ F_del_0] <;> (repeat' apply And.intro) <;> ((try with_reducible refine x8 ?_); (simp [go_sem]; done))
 · simp only [go_sem, Le, q0b _ F_del_0] <;> (repeat' apply And.intro) <;> ((try with_reducible refine x8 ?_); (simp [go_sem]; done))
 simp only [go_sem]; refine q8 Q2 (sg fun _ Q3 => ?_); refine sg fun _ Q4 => ?_; simp only [go_sem]; refine q8 Q4 ?_; refine j3 (b := (v_0 == (-1))) (by (simp only [go_sem]; done)) (fun hb_0 => ?_) (fun hb_0 => ?_)
 · replace h := x9 h hb_0; simp only [bool_to_prop] at hb_0; refine sg fun _ Q5 => ?_; simp only [go_sem]; refine q8 Q5 (z8 (y5 Q3 ?_)); simp only [go_sem]; obtain rfl := Option.some.inj h; refine q0e [some 0] ?_; simp only [go_sem, Le, q0b _ F_del_0]
 ·
  replace h := u6 h hb_0; simp only [bool_to_prop] at hb_0; refine j4 (q8 Q3 (q0a (by kernel_rfl) ?_)); refine q0c ?_; intro _ Q6; refine sg fun _ Q7 => ?_; simp only [go_sem]; refine q8 Q7 (y7 ?_); intro _ Q8; refine q06 ?_; refine q0g (ι := Nat × Int × Int × (List GTime)) (fun ((_, i_1, j_1, a_1) : Nat × Int × Int × (List GTime)) => (⟨1, [(0, .osl 0 5 (0) (List.length a_1)), (1, .clo g_del_0 c_del_0), (5, .v (.int .i64 i_1)), (6, .v (.int .i64 j_1))], [(0, .arr 5 (enc a_1))], 1, 42⟩ : St)) (fun ((n_, i_1, j_1, a_1) : Nat × Int × Int × (List GTime)) => p9 (q1m del_0) n_ (i_1, j_1, a_1) = some r) (fun p => p.1) (rounds, v_0, i64.wrap (v_0 + 1), s_0) [] ?_ h ?_
  · simp only [go_sem, Le, q0b _ F_del_0]
  ·
   rintro ⟨n_1, i_1, j_1, a_1⟩ h _ Q9; dsimp only at h; replace h := q08 h; obtain ⟨m_1, rfl, h⟩ := h; rw [q1m] at h; refine sg fun _ Q10 => ?_; refine sg fun _ Q11 => ?_; simp only [go_sem]; refine q8 Q11 ?_; refine j3 (b := (decide (j_1 < (List.length a_1 : Int)))) (by (simp only [go_sem]; done)) (fun hb_5 => ?_) (fun hb_5 => ?_)
   ·
    replace h := x9 h hb_5; simp only [bool_to_prop] at hb_5; refine j4 (q8 Q10 (q0a (by kernel_rfl) ?_)); refine q0c ?_; intro _ Q12; refine y7 ?_; intro _ Q13; refine sg fun _ Q14 => ?_; obtain ⟨xv_4, ex4, h⟩ := q9 h; obtain ⟨f4a, f4b, f4c⟩ := u7 ex4; simp only [go_sem, f4a, f4b, f4c]; refine And.intro (by omega) ?_; refine q8 Q14 (sg fun _ Q15 => ?_); obtain ⟨v_3, ev_3, h⟩ := q9 h; simp only [go_sem, E_del_0]; refine q0f (H_del_0 xv_4 v_3 ev_3) (by rfl) (by simp [q0n, q0y, F_del_0]) ?_; simp only [go_sem]; refine q8 Q15 ?_; refine j3 (b := (!v_3)) (by (simp only [go_sem]; done)) (fun hb_6 => ?_) (fun hb_6 => ?_)
    ·
     replace h := x9 h hb_6; simp only [bool_to_prop] at hb_6; refine sg fun _ Q16 => ?_; obtain ⟨xv_5, ex5, h⟩ := q9 h; obtain ⟨f5a, f5b, f5c⟩ := u7 ex5; have rf_4 : (enc a_1).set (Int.toNat i_1) [.v (.int .i64 xv_4.D), .v (.int .i64 xv_4.C.a0), .v (.int .i64 xv_4.C.a1), .v (.int .i64 xv_4.C.a2), .v (.int .i64 xv_4.C.a3)] = enc (List.set a_1 (Int.toNat i_1) xv_4) := by exact q3s _ _ _
     simp only [go_sem, f5a, f5b, f5c, rf_4]; refine And.intro (by omega) ?_; refine q8 Q16 ?_; simp only [go_sem]; refine y8 Q13 (q8 Q12 ?_); simp only [go_sem]; refine w9 Q9 (⟨(m_1, i64.wrap (i_1 + 1), i64.wrap (j_1 + 1), (List.set a_1 (Int.toNat i_1) xv_4)), [], ?_, h, Nat.lt_succ_self _⟩); simp only [go_sem, Le, q0b _ F_del_0]
    · replace h := u6 h hb_6; simp only [bool_to_prop] at hb_6; refine j4 (y8 Q13 (q8 Q12 ?_)); simp only [go_sem]; refine w9 Q9 (⟨(m_1, i_1, i64.wrap (j_1 + 1), a_1), [], ?_, h, Nat.lt_succ_self _⟩); simp only [go_sem, Le, q0b _ F_del_0]
   ·
    replace h := u6 h hb_5; simp only [bool_to_prop] at hb_5; refine q03 (q09 Q10 (q07 Q9 (d9 Q8 (q8 Q6 (sg fun _ Q17 => ?_))))); obtain ⟨g_6, h⟩ := q0k h; obtain ⟨g_7, h⟩ := q0k h; have rf_5 : List.take (Int.toNat i_1) (enc a_1) ++ List.replicate ((List.length a_1 - Int.toNat i_1)) [.v (.int .i64 0), .v (.int .i64 0), .v (.int .i64 0), .v (.int .i64 0), .v (.int .i64 0)] ++ List.drop (Int.toNat i_1 + (List.length a_1 - Int.toNat i_1)) (enc a_1) = enc (List.take (Int.toNat i_1) a_1 ++ List.replicate ((List.length a_1 - Int.toNat i_1)) (⟨0, (⟨0, 0, 0, 0⟩ : Arr4 Int)⟩ : GTime) ++ List.drop (Int.toNat i_1 + (List.length a_1 - Int.toNat i_1)) a_1) := by (simp [enc, qe3, q9v, q8d, q5r, List.map_take, List.map_drop]; exact .inr rfl)
    have rf_5b := rf_5; simp only [z0l, z5e] at rf_5b; simp only [go_sem, g_6, g_7, rf_5, rf_5b]; refine q8 Q17 (sg fun _ Q18 => ?_); obtain ⟨g_8, h⟩ := q0k h; simp only [go_sem, g_8]; refine q8 Q18 (z8 ?_); simp only [go_sem]; obtain rfl := Option.some.inj h; refine q0e [some 0] ?_; simp only [go_sem, Le, q0b _ F_del_0] <;> (repeat' apply And.intro) <;> first | (with_reducible exact zl2 _ _) | ((try with_reducible refine x8 ?_); (simp [q1f, enc]; omega))

def q71 (xv_0 : GTime) (cap_0 : GTime) : Option Bool :=
 j6 (qe9 cap_0 xv_0) (fun (v_0 : Bool) =>
 some v_0)
theorem z1g (xv_0 : GTime) (cap_0 : GTime)  (r : Bool) (h : q71 xv_0 cap_0 = some r) : PureS Tryz.prog 160 [.agg [.v (.int .i64 xv_0.D), .v (.int .i64 xv_0.C.a0), .v (.int .i64 xv_0.C.a1), .v (.int .i64 xv_0.C.a2), .v (.int .i64 xv_0.C.a3)], .el 5 [[.v (.int .i64 cap_0.D), .v (.int .i64 cap_0.C.a0), .v (.int .i64 cap_0.C.a1), .v (.int .i64 cap_0.C.a2), .v (.int .i64 cap_0.C.a3)]] 0 0] 0 (.v (.bool r)) := by
 unfold PureS; refine Spec.of_vc Tryz.func160 rfl (by kernel_rfl) (by kernel_rfl) ?_; rw [q71] at h; refine sg fun _ Q1 => ?_; simp only [go_sem]; refine q8 Q1 (sg fun _ Q2 => ?_); obtain ⟨v_0, ev_0, h⟩ := q9 h; simp only [go_sem]; refine q0f (qt6 cap_0 xv_0 v_0 ev_0) (by rfl) (by rfl) ?_; simp only [go_sem]; refine q8 Q2 (z8 ?_); simp only [go_sem]; obtain rfl := Option.some.inj h; refine j5 rfl ?_; simp only [go_sem, Le]

def q1s (xv_0 : List GTime) (target_0 : GTime) (cmp_0 : GTime → GTime → Option Int) (i_2 : Int) : Option (Int × Bool) :=
 (if (decide (i_2 < (List.length xv_0 : Int))) = true then j6 (idx xv_0 i_2) (fun (xv_4 : GTime) =>
 j6 (cmp_0 xv_4 target_0) (fun (v_3 : Int) =>
 some (i_2, (v_3 == 0))))
 else some (i_2, false))
def q1t (xv_0 : List GTime) (target_0 : GTime) (cmp_0 : GTime → GTime → Option Int) (rec_2 : Int × Int → Option (Int × Bool)) : Int × Int → Option (Int × Bool) :=
 fun (i_4, j_3) =>
 (if (decide (i_4 < j_3)) = true then j6 (idx xv_0 (i64.wrap (q7d .u64 (IntKind.u64.wrap (i64.wrap (i_4 + j_3))) 1))) (fun (xv_7 : GTime) =>
 j6 (cmp_0 xv_7 target_0) (fun (v_6 : Int) =>
 (if (decide (v_6 < 0)) = true then rec_2 (i64.wrap ((i64.wrap (q7d .u64 (IntKind.u64.wrap (i64.wrap (i_4 + j_3))) 1)) + 1), j_3)
 else rec_2 (i_4, i64.wrap (q7d .u64 (IntKind.u64.wrap (i64.wrap (i_4 + j_3))) 1)))))
 else q1s xv_0 target_0 cmp_0 i_4)
def q1k (xv_0 : List GTime) (target_0 : GTime) (cmp_0 : GTime → GTime → Option Int) : Option (Int × Bool) :=
 p9 (q1t xv_0 target_0 cmp_0) rounds (0, (List.length xv_0 : Int))
theorem q8n (xv_0 : List GTime) (target_0 : GTime) (cmp_0 : GTime → GTime → Option Int) (g_cmp_0 : FuncId) (c_cmp_0 : List AV) (F_cmp_0 : q0n c_cmp_0 = true) (E_cmp_0 : q02 Tryz.prog g_cmp_0 = true) (H_cmp_0 : ∀ (x0 : GTime) (x1 : GTime) (r : Int), cmp_0 x0 x1 = some r → PureS Tryz.prog g_cmp_0 ([.agg [.v (.int .i64 x0.D), .v (.int .i64 x0.C.a0), .v (.int .i64 x0.C.a1), .v (.int .i64 x0.C.a2), .v (.int .i64 x0.C.a3)], .agg [.v (.int .i64 x1.D), .v (.int .i64 x1.C.a0), .v (.int .i64 x1.C.a1), .v (.int .i64 x1.C.a2), .v (.int .i64 x1.C.a3)]] ++ c_cmp_0) 0 (.v (.int .i64 r))) (r : Int × Bool) (h : q1k xv_0 target_0 cmp_0 = some r) : PureS Tryz.prog 161 [.sl 5 (enc xv_0), .agg [.v (.int .i64 target_0.D), .v (.int .i64 target_0.C.a0), .v (.int .i64 target_0.C.a1), .v (.int .i64 target_0.C.a2), .v (.int .i64 target_0.C.a3)], .clo g_cmp_0 c_cmp_0] 0 (.tup [.v (.int .i64 r.1), .v (.bool r.2)]) := by
 unfold PureS; refine Spec.of_vc Tryz.func161 rfl (by kernel_rfl) (by kernel_rfl) ?_; rw [q1k] at h; refine sg fun _ Q1 => ?_; simp only [go_sem]; refine q8 Q1 (sg fun _ Q2 => ?_); simp only [go_sem]; refine q8 Q2 (sg fun _ Q3 => ?_); simp only [go_sem]; refine q8 Q3 (q0a (by kernel_rfl) ?_); refine q0x (ι := Int) (fun (i_2 : Int) => (⟨0, [(0, .sl 5 (enc xv_0)), (2, .clo g_cmp_0 c_cmp_0), (4, .ptr 0 0), (8, .v (.int .i64 (List.length xv_0 : Int))), (9, .v (.int .i64 i_2))], [(0, .box [.v (.int .i64 target_0.D), .v (.int .i64 target_0.C.a0), .v (.int .i64 target_0.C.a1), .v (.int .i64 target_0.C.a2), .v (.int .i64 target_0.C.a3)])], 1, 49⟩ : St)) (fun (i_2 : Int) => q1s xv_0 target_0 cmp_0 i_2 = some r) ?_ ?_
 ·
  intro _ Q5; refine y7 ?_; intro _ Q6; refine q06 ?_; refine q0g (ι := Nat × Int × Int) (fun ((_, i_4, j_3) : Nat × Int × Int) => (⟨0, [(0, .sl 5 (enc xv_0)), (2, .clo g_cmp_0 c_cmp_0), (4, .ptr 0 0), (8, .v (.int .i64 (List.length xv_0 : Int))), (9, .v (.int .i64 i_4)), (10, .v (.int .i64 j_3))], [(0, .box [.v (.int .i64 target_0.D), .v (.int .i64 target_0.C.a0), .v (.int .i64 target_0.C.a1), .v (.int .i64 target_0.C.a2), .v (.int .i64 target_0.C.a3)])], 1, 49⟩ : St)) (fun ((n_, i_4, j_3) : Nat × Int × Int) => p9 (q1t xv_0 target_0 cmp_0) n_ (i_4, j_3) = some r) (fun p => p.1) (rounds, 0, (List.length xv_0 : Int)) [some 0] ?_ h ?_
  · simp only [go_sem, Le, q0b _ F_cmp_0]
  ·
   rintro ⟨n_2, i_4, j_3⟩ h _ Q7; dsimp only at h; replace h := q08 h; obtain ⟨m_2, rfl, h⟩ := h; rw [q1t] at h; refine sg fun _ Q8 => ?_; refine sg fun _ Q9 => ?_; simp only [go_sem]; refine q8 Q9 ?_; refine j3 (b := (decide (i_4 < j_3))) (by (simp only [go_sem]; done)) (fun hb_11 => ?_) (fun hb_11 => ?_)
   ·
    replace h := x9 h hb_11; simp only [bool_to_prop] at hb_11; refine j4 (q8 Q8 (y7 ?_)); intro _ Q10; refine sg fun _ Q11 => ?_; simp only [go_sem]; refine q8 Q11 (sg fun _ Q12 => ?_); refine q0q ?_; refine q0l 6 [0, 0, 0, 6, 14, 0, 63, 127] mixed (by kernel_rfl) (of_decide_eq_true (by kernel_rfl)) (by kernel_rfl) ?_; obtain ⟨xv_7, ex7, h⟩ := q9 h; obtain ⟨f7a, f7b, f7c⟩ := u7 ex7; obtain ⟨v_6, ev_6, h⟩ := q9 h; simp only [go_sem, f7a, f7b, f7c, E_cmp_0]; refine And.intro (by omega) ?_; refine q0f (H_cmp_0 xv_7 target_0 v_6 ev_6) (by rfl) (by simp [q0n, q0y, F_cmp_0]) ?_; simp only [go_sem]; refine q8 Q12 ?_; refine j3 (b := (decide (v_6 < 0))) (by (simp only [go_sem]; done)) (fun hb_12 => ?_) (fun hb_12 => ?_)
    · replace h := x9 h hb_12; simp only [bool_to_prop] at hb_12; simp only [go_sem]; refine y8 Q10 (w9 Q7 (⟨(m_2, i64.wrap ((i64.wrap (q7d .u64 (IntKind.u64.wrap (i64.wrap (i_4 + j_3))) 1)) + 1), j_3), [some 0], ?_, h, Nat.lt_succ_self _⟩)); simp only [go_sem, Le, q0b _ F_cmp_0]
    · replace h := u6 h hb_12; simp only [bool_to_prop] at hb_12; simp only [go_sem]; refine y8 Q10 (w9 Q7 (⟨(m_2, i_4, i64.wrap (q7d .u64 (IntKind.u64.wrap (i64.wrap (i_4 + j_3))) 1)), [some 0], ?_, h, Nat.lt_succ_self _⟩)); simp only [go_sem, Le, q0b _ F_cmp_0]
   · replace h := u6 h hb_11; simp only [bool_to_prop] at hb_11; refine q03 (q09 Q8 (q07 Q7 (d9 Q6 (w9 Q5 (⟨i_4, [some 0], ?_, h⟩))))); simp only [go_sem, Le, q0b _ F_cmp_0]
 ·
  rintro i_2 h
  try dsimp only at h
  rw [q1s] at h; refine sg fun _ Q4 => ?_; refine q0q ?_; refine q0l 15 [0, 0, 0, 6, 14, 30, 30, 30, 222, 478, 30, 2046, 4094, 8190, 4095, 32767] mixed (by kernel_rfl) (of_decide_eq_true (by kernel_rfl)) (by kernel_rfl) ?_; simp only [go_sem]; rcases hb_6 : (decide (i_2 < (List.length xv_0 : Int))) with _ | _
  · replace h := u6 h hb_6; simp only [go_sem, hb_6]; refine q8 Q4 (z8 ?_); simp only [go_sem]; obtain rfl := Option.some.inj h; refine j5 rfl ?_; simp only [go_sem, Le, q0b _ F_cmp_0]
  · replace h := x9 h hb_6; obtain ⟨xv_4, ex4, h⟩ := q9 h; obtain ⟨f4a, f4b, f4c⟩ := u7 ex4; obtain ⟨v_3, ev_3, h⟩ := q9 h; simp only [go_sem, hb_6, f4a, f4b, f4c, E_cmp_0]; refine And.intro (by omega) ?_; refine And.intro (by omega) ?_; refine callq (fun _ => (H_cmp_0 xv_4 target_0 v_3 ev_3)) (by rfl) (by simp [q0n, q0y, F_cmp_0]) ?_; simp only [go_sem]; refine q8 Q4 (z8 ?_); simp only [go_sem]; obtain rfl := Option.some.inj h; refine j5 rfl ?_; simp only [go_sem, Le, q0b _ F_cmp_0]

def q5x (xv_0 : GTime) (t_0 : GTime) : Option Int :=
 j6 (q6g xv_0 t_0) (fun (v_0 : Bool) =>
 (if v_0 = true then some (-1)
 else some 1))
theorem z1f (xv_0 : GTime) (t_0 : GTime)  (r : Int) (h : q5x xv_0 t_0 = some r) : PureS Tryz.prog 162 [.agg [.v (.int .i64 xv_0.D), .v (.int .i64 xv_0.C.a0), .v (.int .i64 xv_0.C.a1), .v (.int .i64 xv_0.C.a2), .v (.int .i64 xv_0.C.a3)], .agg [.v (.int .i64 t_0.D), .v (.int .i64 t_0.C.a0), .v (.int .i64 t_0.C.a1), .v (.int .i64 t_0.C.a2), .v (.int .i64 t_0.C.a3)]] 0 (.v (.int .i64 r)) := by
 unfold PureS; refine Spec.of_vc Tryz.func162 rfl (by kernel_rfl) (by kernel_rfl) ?_; rw [q5x] at h; refine sg fun _ Q1 => ?_; simp only [go_sem]; refine q8 Q1 (sg fun _ Q2 => ?_); refine sg fun _ Q3 => ?_; obtain ⟨v_0, ev_0, h⟩ := q9 h; simp only [go_sem]; refine q0f (q8l xv_0 t_0 v_0 ev_0) (by rfl) (by rfl) ?_; simp only [go_sem]; refine q8 Q3 ?_; refine j3 (b := v_0) (by (simp only [go_sem]; done)) (fun hb_0 => ?_) (fun hb_0 => ?_)
 · replace h := x9 h hb_0; refine sg fun _ Q4 => ?_; simp only [go_sem]; refine q8 Q4 (z8 (y5 Q2 ?_)); simp only [go_sem]; obtain rfl := Option.some.inj h; refine j5 rfl ?_; simp only [go_sem, Le]
 · replace h := u6 h hb_0; refine j4 (q8 Q2 (sg fun _ Q5 => ?_)); simp only [go_sem]; refine q8 Q5 (z8 ?_); simp only [go_sem]; obtain rfl := Option.some.inj h; refine j5 rfl ?_; simp only [go_sem, Le]

def q4g (x_0 : List GTime) (i_0 : Int) (v_0 : List GTime) : Option (List GTime) := qk7 40 x_0 i_0 v_0
theorem q9b : InsLay Tryz.prog (qw4 163 207 208 0 3 4 41 37) 5 40 (.agg #[.int .i64 0, .int .i64 0, .int .i64 0, .int .i64 0, .int .i64 0] : Value) := { mixed := by kernel_rfl, t0 := Tryz.underlying0, a0 := Tryz.isAgg0, z0 := Tryz.sizeOf0, v0 := Tryz.zeroValue0, t3 := Tryz.underlying3, a3 := Tryz.isAgg3, z3 := Tryz.sizeOf3, v3 := Tryz.zeroValue3, t4 := Tryz.underlying4, a4 := Tryz.isAgg4, z4 := Tryz.sizeOf4, v4 := Tryz.zeroValue4, t24 := Tryz.underlying37, a24 := Tryz.isAgg37, z24 := Tryz.sizeOf37, v24 := Tryz.zeroValue37, z9 := Tryz.sizeOf41, i9 := qy2 (by kernel_rfl), f22 := ⟨"slices.Insert[[]backwash/api.Time,backwash/api.Time]", by decide, by kernel_rfl⟩, ov := ⟨_, Tryz.func207, by kernel_rfl, by kernel_rfl, by kernel_rfl, by kernel_rfl⟩ }
theorem q9c (x_0 : List GTime) (i_0 : Int) (v_0 : List GTime) (r : List GTime) (h : q4g x_0 i_0 v_0 = some r) : DetS Tryz.prog 163 [.osl 0 5 0 (List.length x_0), .v (.int .i64 i_0), .osl 1 5 0 (List.length v_0)] [(0, .arr 5 (enc x_0)), (1, .arr 5 (enc v_0))] 2 (.osl 2 5 0 (List.length r)) [(2, .arr 5 (enc r))] 3 :=
 qt2 q9b (by kernel_rfl) (by kernel_rfl) (by decide) (by rfl) (by decide) rfl (fun _ => rfl) h

def q7v (l_0 : List GTime) (rec_1 : Int × (List GTime) → Option (List GTime)) : Int × (List GTime) → Option (List GTime) :=
 fun (t10_1, a_1) =>
 (if (decide (t10_1 < (List.length l_0 : Int))) = true then j6 (idx l_0 t10_1) (fun (xv_2 : GTime) =>
 j6 (q2l xv_2) (fun (v_10 : Bool) =>
 (if v_10 = true then j6 (q72 a_1 xv_2) (fun (v_11 : Bool) =>
 (if v_11 = true then rec_1 (i64.wrap (t10_1 + 1), a_1)
 else j6 (q20 a_1 (fun x0_ => q71 x0_ xv_2)) (fun (v_12 : List GTime) =>
 j6 (q1k v_12 xv_2 (fun x0_ x1_ => q5x x0_ x1_)) (fun (v_13 : Int × Bool) =>
 j6 (q4g v_12 v_13.1 ([xv_2] : List GTime)) (fun (v_14 : List GTime) =>
 rec_1 (i64.wrap (t10_1 + 1), v_14))))))
 else rec_1 (i64.wrap (t10_1 + 1), a_1))))
 else some a_1)
def q6j (l_0 : List GTime) : Option (List GTime) :=
 p9 (q7v l_0) rounds (0, [])
theorem qf3 (l_0 : List GTime)  (r : List GTime) (h : q6j l_0 = some r) : DetS Tryz.prog 96 [.sl 5 (enc l_0)] [] 0 (.osl 0 5 (0) (List.length r)) [(0, .arr 5 (enc r))] 1 := by
 unfold DetS; refine Spec.of_vc Tryz.func96 rfl (by kernel_rfl) (by kernel_rfl) ?_; rw [q6j] at h; refine sg fun _ Q1 => ?_; simp only [go_sem]; refine q8 Q1 (sg fun _ Q2 => ?_); simp only [go_sem]; refine q8 Q2 (q0a (by kernel_rfl) ?_); refine q0c ?_; intro _ Q3; refine sg fun _ Q4 => ?_; simp only [go_sem]; refine q8 Q4 (y7 ?_); intro _ Q5; refine q06 ?_; refine q0g (ι := Nat × Int × (List GTime)) (fun ((_, t10_1, a_1) : Nat × Int × (List GTime)) => (⟨0, [(3, .osl 0 5 (0) (List.length a_1)), (8, .sl 5 (enc l_0)), (9, .v (.int .i64 (List.length l_0 : Int))), (10, .v (.int .i64 t10_1))], [(0, .arr 5 (enc a_1))], 1, 38⟩ : St)) (fun ((n_, t10_1, a_1) : Nat × Int × (List GTime)) => p9 (q7v l_0) n_ (t10_1, a_1) = some r) (fun p => p.1) (rounds, 0, []) [none] ?_ h ?_
 · simp only [go_sem, Le] <;> (repeat' apply And.intro) <;> ((try with_reducible refine x8 ?_); (simp [go_sem]; done))
 ·
  rintro ⟨n_1, t10_1, a_1⟩ h _ Q6; dsimp only at h; replace h := q08 h; obtain ⟨m_1, rfl, h⟩ := h; rw [q7v] at h; refine sg fun _ Q7 => ?_; simp only [go_sem]; refine q8 Q7 (sg fun _ Q8 => ?_); refine j3 (b := (decide (t10_1 < (List.length l_0 : Int)))) (by (simp only [go_sem]; done)) (fun hb_6 => ?_) (fun hb_6 => ?_)
  ·
   replace h := x9 h hb_6; simp only [bool_to_prop] at hb_6; refine j4 (q8 Q8 (sg fun _ Q9 => ?_)); refine y7 ?_; intro _ Q10; refine sg fun _ Q11 => ?_; obtain ⟨xv_2, ex2, h⟩ := q9 h; obtain ⟨f2a, f2b, f2c⟩ := u7 ex2; simp only [go_sem, f2a, f2b, f2c]; refine And.intro (by omega) ?_; refine q8 Q11 (sg fun _ Q12 => ?_); refine sg fun _ Q13 => ?_; obtain ⟨v_10, ev_10, h⟩ := q9 h; simp only [go_sem]; refine q0f (q3y xv_2 v_10 ev_10) (by rfl) (by rfl) ?_; simp only [go_sem]; rcases hb_7 : v_10 with _ | _
   · replace h := u6 h hb_7; simp only [go_sem, hb_7]; refine q8 Q13 ?_; refine q0o (by (simp only [go_sem]; done)) ?_; refine q03 (q09 Q12 (d9 Q10 (q8 Q9 ?_))); simp only [go_sem]; refine w9 Q6 (⟨(m_1, i64.wrap (t10_1 + 1), a_1), [some 0], ?_, h, Nat.lt_succ_self _⟩); simp only [go_sem, Le]
   ·
    replace h := x9 h hb_7; obtain ⟨v_11, ev_11, h⟩ := q9 h; simp only [go_sem, hb_7]; refine qg9 (s' := (⟨0, [(3, .sl 5 (enc a_1)), (5, .ptr 0 0), (8, .sl 5 (enc l_0)), (9, .v (.int .i64 (List.length l_0 : Int))), (10, .v (.int .i64 t10_1)), (11, .v (.bool (decide (t10_1 < (List.length l_0 : Int))))), (12, .el 5 (enc l_0) (Int.toNat t10_1) 0), (13, .agg [.v (.int .i64 xv_2.D), .v (.int .i64 xv_2.C.a0), .v (.int .i64 xv_2.C.a1), .v (.int .i64 xv_2.C.a2), .v (.int .i64 xv_2.C.a3)]), (14, .agg [.v (.int .i64 xv_2.D), .v (.int .i64 xv_2.C.a0), .v (.int .i64 xv_2.C.a1), .v (.int .i64 xv_2.C.a2), .v (.int .i64 xv_2.C.a3)]), (15, .v (.bool true)), (16, .v (.bool false)), (17, .v (.bool false)), (18, .sl 5 (enc a_1)), (19, .agg [.v (.int .i64 xv_2.D), .v (.int .i64 xv_2.C.a0), .v (.int .i64 xv_2.C.a1), .v (.int .i64 xv_2.C.a2), .v (.int .i64 xv_2.C.a3)])], [(0, .box [.v (.int .i64 xv_2.D), .v (.int .i64 xv_2.C.a0), .v (.int .i64 xv_2.C.a1), .v (.int .i64 xv_2.C.a2), .v (.int .i64 xv_2.C.a3)])], 1, 38⟩ : St)) (l := [some 1]) (args' := [.sl 5 (enc a_1), .agg [.v (.int .i64 xv_2.D), .v (.int .i64 xv_2.C.a0), .v (.int .i64 xv_2.C.a1), .v (.int .i64 xv_2.C.a2), .v (.int .i64 xv_2.C.a3)]]) ?_ ?_ (qz1 a_1 xv_2 v_11 ev_11) (by rfl) (by rfl) ?_
    · simp only [go_sem, Le] <;> (repeat' apply And.intro) <;> first | ((try with_reducible refine x8 ?_); (simp [go_sem]; done)) | ((try with_reducible refine x8 ?_); (simp [q1f, enc]; omega))
    · simp only [go_sem, Le] <;> (repeat' apply And.intro) <;> ((try with_reducible refine x8 ?_); (simp [go_sem]; done))
    simp only [go_sem]; refine q8 Q13 ?_; refine j3 (b := v_11) (by (simp only [go_sem]; done)) (fun hb_8 => ?_) (fun hb_8 => ?_)
    · replace h := x9 h hb_8; refine q03 (q09 Q12 (d9 Q10 (q8 Q9 ?_))); simp only [go_sem]; refine w9 Q6 (⟨(m_1, i64.wrap (t10_1 + 1), a_1), [some 0], ?_, h, Nat.lt_succ_self _⟩); simp only [go_sem, Le]
    ·
     replace h := u6 h hb_8; refine j4 (q8 Q12 (sg fun _ Q14 => ?_)); obtain ⟨v_12, ev_12, h⟩ := q9 h; simp only [go_sem]; refine q41 (s' := (⟨0, [(3, .osl 0 5 (0) (List.length a_1)), (5, .el 5 [[.v (.int .i64 xv_2.D), .v (.int .i64 xv_2.C.a0), .v (.int .i64 xv_2.C.a1), .v (.int .i64 xv_2.C.a2), .v (.int .i64 xv_2.C.a3)]] 0 0), (8, .sl 5 (enc l_0)), (9, .v (.int .i64 (List.length l_0 : Int))), (10, .v (.int .i64 t10_1)), (11, .v (.bool (decide (t10_1 < (List.length l_0 : Int))))), (12, .el 5 (enc l_0) (Int.toNat t10_1) 0), (13, .agg [.v (.int .i64 xv_2.D), .v (.int .i64 xv_2.C.a0), .v (.int .i64 xv_2.C.a1), .v (.int .i64 xv_2.C.a2), .v (.int .i64 xv_2.C.a3)]), (14, .agg [.v (.int .i64 xv_2.D), .v (.int .i64 xv_2.C.a0), .v (.int .i64 xv_2.C.a1), .v (.int .i64 xv_2.C.a2), .v (.int .i64 xv_2.C.a3)]), (15, .v (.bool true)), (16, .v (.bool false)), (17, .v (.bool false)), (18, .osl 0 5 (0) (List.length a_1)), (19, .agg [.v (.int .i64 xv_2.D), .v (.int .i64 xv_2.C.a0), .v (.int .i64 xv_2.C.a1), .v (.int .i64 xv_2.C.a2), .v (.int .i64 xv_2.C.a3)]), (20, .v (.bool v_11)), (21, .v (.bool v_11)), (22, .osl 0 5 (0) (List.length a_1)), (23, .clo 160 [.el 5 [[.v (.int .i64 xv_2.D), .v (.int .i64 xv_2.C.a0), .v (.int .i64 xv_2.C.a1), .v (.int .i64 xv_2.C.a2), .v (.int .i64 xv_2.C.a3)]] 0 0])], [(0, .arr 5 (enc a_1))], 1, 38⟩ : St)) (l := [some 0]) (args' := [.osl 0 5 (0) (List.length a_1), .clo 160 [.el 5 [[.v (.int .i64 xv_2.D), .v (.int .i64 xv_2.C.a0), .v (.int .i64 xv_2.C.a1), .v (.int .i64 xv_2.C.a2), .v (.int .i64 xv_2.C.a3)]] 0 0]]) ?_ ?_ ?_
     · simp only [go_sem, Le] <;> (repeat' apply And.intro) <;> first | ((try with_reducible refine x8 ?_); (simp [go_sem]; done)) | ((try with_reducible refine x8 ?_); (simp [q1f, enc]; omega))
     · simp only [go_sem, Le] <;> (repeat' apply And.intro) <;> ((try with_reducible refine x8 ?_); (simp [go_sem]; done))
     refine q19 [0] (q9i a_1 (fun x0_ => q71 x0_ xv_2) 160 [.el 5 [[.v (.int .i64 xv_2.D), .v (.int .i64 xv_2.C.a0), .v (.int .i64 xv_2.C.a1), .v (.int .i64 xv_2.C.a2), .v (.int .i64 xv_2.C.a3)]] 0 0] (by rfl) (by kernel_rfl) (fun y0 r_ e_ => z1g y0 xv_2 r_ e_) v_12 ev_12) (by simp) rfl ⟨rfl, trivial⟩ rfl rfl rfl rfl ?_; simp only [go_sem]; refine q8 Q14 (sg fun _ Q15 => ?_); obtain ⟨v_13, ev_13, h⟩ := q9 h; simp only [go_sem]
     refine qg9 (s' := (⟨0, [(3, .sl 5 (enc v_12)), (5, .el 5 [[.v (.int .i64 xv_2.D), .v (.int .i64 xv_2.C.a0), .v (.int .i64 xv_2.C.a1), .v (.int .i64 xv_2.C.a2), .v (.int .i64 xv_2.C.a3)]] 0 0), (8, .sl 5 (enc l_0)), (9, .v (.int .i64 (List.length l_0 : Int))), (10, .v (.int .i64 t10_1)), (11, .v (.bool (decide (t10_1 < (List.length l_0 : Int))))), (12, .el 5 (enc l_0) (Int.toNat t10_1) 0), (13, .agg [.v (.int .i64 xv_2.D), .v (.int .i64 xv_2.C.a0), .v (.int .i64 xv_2.C.a1), .v (.int .i64 xv_2.C.a2), .v (.int .i64 xv_2.C.a3)]), (14, .agg [.v (.int .i64 xv_2.D), .v (.int .i64 xv_2.C.a0), .v (.int .i64 xv_2.C.a1), .v (.int .i64 xv_2.C.a2), .v (.int .i64 xv_2.C.a3)]), (15, .v (.bool true)), (16, .v (.bool false)), (17, .v (.bool false)), (19, .agg [.v (.int .i64 xv_2.D), .v (.int .i64 xv_2.C.a0), .v (.int .i64 xv_2.C.a1), .v (.int .i64 xv_2.C.a2), .v (.int .i64 xv_2.C.a3)]), (20, .v (.bool v_11)), (21, .v (.bool v_11)), (23, .clo 160 [.el 5 [[.v (.int .i64 xv_2.D), .v (.int .i64 xv_2.C.a0), .v (.int .i64 xv_2.C.a1), .v (.int .i64 xv_2.C.a2), .v (.int .i64 xv_2.C.a3)]] 0 0]), (24, .sl 5 (enc v_12)), (26, .sl 5 (enc v_12)), (27, .agg [.v (.int .i64 xv_2.D), .v (.int .i64 xv_2.C.a0), .v (.int .i64 xv_2.C.a1), .v (.int .i64 xv_2.C.a2), .v (.int .i64 xv_2.C.a3)])], [], 0, 38⟩ : St)) (l := []) (args' := [.sl 5 (enc v_12), .agg [.v (.int .i64 xv_2.D), .v (.int .i64 xv_2.C.a0), .v (.int .i64 xv_2.C.a1), .v (.int .i64 xv_2.C.a2), .v (.int .i64 xv_2.C.a3)], .clo 162 []]) ?_ ?_ (q8n v_12 xv_2 (fun x0_ x1_ => q5x x0_ x1_) 162 [] (by rfl) (by kernel_rfl) (fun y0 y1 r_ e_ => z1f y0 y1 r_ e_) v_13 ev_13) (by rfl) (by rfl) ?_
     · simp only [go_sem, Le] <;> (repeat' apply And.intro) <;> ((try with_reducible refine x8 ?_); (simp [go_sem]; done))
     · simp only [go_sem, Le] <;> (repeat' apply And.intro) <;> ((try with_reducible refine x8 ?_); (simp [go_sem]; done))
     simp only [go_sem]; refine q8 Q15 ?_; have rf_2 : [[.v (.int .i64 xv_2.D), .v (.int .i64 xv_2.C.a0), .v (.int .i64 xv_2.C.a1), .v (.int .i64 xv_2.C.a2), .v (.int .i64 xv_2.C.a3)]] = enc ([xv_2] : List GTime) := by rfl
     obtain ⟨v_14, ev_14, h⟩ := q9 h; simp only [go_sem]; simp only [rf_2]; refine q19 [1, 2] (q9c v_12 v_13.1 ([xv_2] : List GTime) v_14 ev_14) (by simp) rfl ⟨rfl, ⟨rfl, trivial⟩⟩ rfl rfl rfl rfl ?_; simp only [go_sem]; refine y8 Q10 (q8 Q9 ?_); simp only [go_sem]; refine w9 Q6 (⟨(m_1, i64.wrap (t10_1 + 1), v_14), [some 3], ?_, h, Nat.lt_succ_self _⟩); simp only [go_sem, Le]
  · replace h := u6 h hb_6; simp only [bool_to_prop] at hb_6; refine q03 (q09 Q8 (q07 Q6 (d9 Q5 (q8 Q3 (sg fun _ Q16 => ?_))))); simp only [go_sem]; refine q8 Q16 (z8 ?_); simp only [go_sem]; obtain rfl := Option.some.inj h; refine q0e [some 0] ?_; simp only [go_sem, Le]
def q3u (s1_0 : List GTime) (s2_0 : List GTime) (rec_1 : Int → Option Bool) : Int → Option Bool :=
 fun t13_1 =>
 (if (decide (t13_1 < (List.length s1_0 : Int))) = true then j6 (idx s1_0 t13_1) (fun (xv_4 : GTime) =>
 j6 (idx s2_0 t13_1) (fun (xv_5 : GTime) =>
 (if (!((xv_4.D == xv_5.D) && ((xv_4.C.a0 == xv_5.C.a0) && ((xv_4.C.a1 == xv_5.C.a1) && ((xv_4.C.a2 == xv_5.C.a2) && (xv_4.C.a3 == xv_5.C.a3)))))) = true then some false
 else rec_1 (i64.wrap (t13_1 + 1)))))
 else some true)
def q4x (s1_0 : List GTime) (s2_0 : List GTime) : Option Bool :=
 (if (!((List.length s1_0 : Int) == (List.length s2_0 : Int))) = true then some false
 else p9 (q3u s1_0 s2_0) rounds 0)
theorem qq5 (s1_0 : List GTime) (s2_0 : List GTime)  (r : Bool) (h : q4x s1_0 s2_0 = some r) : PureS Tryz.prog 95 [.sl 5 (enc s1_0), .sl 5 (enc s2_0)] 0 (.v (.bool r)) := by
 unfold PureS; refine Spec.of_vc Tryz.func95 rfl (by kernel_rfl) (by kernel_rfl) ?_; rw [q4x] at h; refine sg fun _ Q1 => ?_; simp only [go_sem]; refine q8 Q1 (sg fun _ Q2 => ?_); refine sg fun _ Q3 => ?_; simp only [go_sem]; refine q8 Q3 ?_; refine j3 (b := (!((List.length s1_0 : Int) == (List.length s2_0 : Int)))) (by (simp only [go_sem]; done)) (fun hb_0 => ?_) (fun hb_0 => ?_)
 · replace h := x9 h hb_0; simp only [bool_to_prop] at hb_0; refine sg fun _ Q4 => ?_; simp only [go_sem]; refine q8 Q4 (z8 (y5 Q2 ?_)); simp only [go_sem]; obtain rfl := Option.some.inj h; refine j5 rfl ?_; simp only [go_sem, Le]
 ·
  replace h := u6 h hb_0; simp only [bool_to_prop] at hb_0; refine j4 (q8 Q2 (q0a (by kernel_rfl) ?_)); refine q0c ?_; intro _ Q5; refine sg fun _ Q6 => ?_; simp only [go_sem]; refine q8 Q6 (y7 ?_); intro _ Q7; refine q06 ?_; refine q0g (ι := Nat × Int) (fun ((_, t13_1) : Nat × Int) => (⟨0, [(0, .sl 5 (enc s1_0)), (1, .sl 5 (enc s2_0)), (12, .v (.int .i64 (List.length s1_0 : Int))), (13, .v (.int .i64 t13_1))], [], 0, 26⟩ : St)) (fun ((n_, t13_1) : Nat × Int) => p9 (q3u s1_0 s2_0) n_ t13_1 = some r) (fun p => p.1) (rounds, 0) [] ?_ h ?_
  · simp only [go_sem, Le]
  ·
   rintro ⟨n_1, t13_1⟩ h _ Q8; dsimp only at h; replace h := q08 h; obtain ⟨m_1, rfl, h⟩ := h; rw [q3u] at h; refine sg fun _ Q9 => ?_; simp only [go_sem]; refine q8 Q9 (sg fun _ Q10 => ?_); refine j3 (b := (decide (t13_1 < (List.length s1_0 : Int)))) (by (simp only [go_sem]; done)) (fun hb_5 => ?_) (fun hb_5 => ?_)
   ·
    replace h := x9 h hb_5; simp only [bool_to_prop] at hb_5; refine j4 (q8 Q10 (sg fun _ Q11 => ?_)); refine y7 ?_; intro _ Q12; refine sg fun _ Q13 => ?_; simp only [go_sem]; refine q8 Q13 (sg fun _ Q14 => ?_); refine q0q ?_; refine q0l 8 [0, 0, 3, 7, 0, 0, 48, 112, 255] mixed (by kernel_rfl) (of_decide_eq_true (by kernel_rfl)) (by kernel_rfl) ?_; obtain ⟨xv_4, ex4, h⟩ := q9 h; obtain ⟨f4a, f4b, f4c⟩ := u7 ex4; obtain ⟨xv_5, ex5, h⟩ := q9 h; obtain ⟨f5a, f5b, f5c⟩ := u7 ex5; simp only [go_sem, f4a, f4b, f4c, f5a, f5b, f5c]; refine And.intro (by omega) ?_; refine And.intro (by omega) ?_; refine q8 Q14 ?_; refine j3 (b := (!((xv_4.D == xv_5.D) && ((xv_4.C.a0 == xv_5.C.a0) && ((xv_4.C.a1 == xv_5.C.a1) && ((xv_4.C.a2 == xv_5.C.a2) && (xv_4.C.a3 == xv_5.C.a3))))))) (by (simp only [go_sem]; done)) (fun hb_6 => ?_) (fun hb_6 => ?_)
    · replace h := x9 h hb_6; simp only [bool_to_prop] at hb_6; refine sg fun _ Q15 => ?_; simp only [go_sem]; refine q8 Q15 (z8 (y9 Q12 (y5 Q11 (q04 Q8 (y9 Q7 (y5 Q5 ?_)))))); simp only [go_sem]; obtain rfl := Option.some.inj h; refine j5 rfl ?_; simp only [go_sem, Le]
    · replace h := u6 h hb_6; simp only [bool_to_prop] at hb_6; refine j4 (y8 Q12 (q8 Q11 ?_)); simp only [go_sem]; refine w9 Q8 (⟨(m_1, i64.wrap (t13_1 + 1)), [], ?_, h, Nat.lt_succ_self _⟩); simp only [go_sem, Le]
   · replace h := u6 h hb_5; simp only [bool_to_prop] at hb_5; refine q03 (q09 Q10 (q07 Q8 (d9 Q7 (q8 Q5 (sg fun _ Q16 => ?_))))); simp only [go_sem]; refine q8 Q16 (z8 ?_); simp only [go_sem]; obtain rfl := Option.some.inj h; refine j5 rfl ?_; simp only [go_sem, Le]

def q7u (c_0 : List GTime) : Option Bool :=
 j6 (q6j c_0) (fun (v_0 : List GTime) =>
 j6 (q4x c_0 v_0) (fun (v_1 : Bool) =>
 some v_1))
theorem z0h (c_0 : List GTime)  (r : Bool) (h : q7u c_0 = some r) : PureS Tryz.prog 41 [.sl 5 (enc c_0)] 0 (.v (.bool r)) := by
 unfold PureS; refine Spec.of_vc Tryz.func41 rfl (by kernel_rfl) (by kernel_rfl) ?_; rw [q7u] at h; refine sg fun _ Q1 => ?_; simp only [go_sem]; refine q8 Q1 (sg fun _ Q2 => ?_); obtain ⟨v_0, ev_0, h⟩ := q9 h; simp only [go_sem]; refine q19 [] (qf3 c_0 v_0 ev_0) (by simp) rfl trivial rfl rfl rfl rfl ?_; obtain ⟨v_1, ev_1, h⟩ := q9 h; simp only [go_sem]; refine qg9 (s' := (⟨0, [(0, .sl 5 (enc c_0)), (2, .v (.bool false)), (3, .sl 5 (enc c_0)), (4, .sl 5 (enc c_0)), (5, .sl 5 (enc v_0))], [], 0, 7⟩ : St)) (l := []) (args' := [.sl 5 (enc c_0), .sl 5 (enc v_0)]) ?_ ?_ (qq5 c_0 v_0 v_1 ev_1) (by rfl) (by rfl) ?_
 · simp only [go_sem, Le] <;> (repeat' apply And.intro) <;> ((try with_reducible refine x8 ?_); (simp [go_sem]; done))
 · simp only [go_sem, Le] <;> (repeat' apply And.intro) <;> ((try with_reducible refine x8 ?_); (simp [go_sem]; done))
 simp only [go_sem]; refine q8 Q2 (z8 ?_); simp only [go_sem]; obtain rfl := Option.some.inj h; refine j5 rfl ?_; simp only [go_sem, Le]

def q76 (i_1 : Int) (rec_1 : (Int × (List GTime) → Option (List GTime))) (rec_3 : Int × (List GTime) → Option (List GTime)) : Int × (List GTime) → Option (List GTime) :=
 fun (k_15, a_7) =>
 (if (decide (0 < k_15)) = true then j6 (idx a_7 k_15) (fun (xv_40 : GTime) =>
 j6 (idx a_7 (i64.wrap (k_15 - 1))) (fun (xv_41 : GTime) =>
 j6 (q7p xv_40 xv_41) (fun (v_26 : Bool) =>
 (if v_26 = true then j6 (idx (List.set a_7 (Int.toNat k_15) xv_41) (i64.wrap (k_15 - 1))) (fun (xv_42 : GTime) =>
 rec_3 (i64.wrap (k_15 - 1), (List.set (List.set a_7 (Int.toNat k_15) xv_41) (Int.toNat (i64.wrap (k_15 - 1))) xv_40)))
 else rec_1 (i64.wrap (i_1 + 1), a_7)))))
 else rec_1 (i64.wrap (i_1 + 1), a_7))
def qa9 (i_1 : Int) (a_5 : List GTime) (rec_1 : (Int × (List GTime) → Option (List GTime))) (xv_30 : GTime) (low_12 : Bool) : Option (List GTime) :=
 (if (!low_12) = true then rec_1 (i64.wrap (i_1 + 1), a_5)
 else q0v ((List.length a_5 + List.length ([xv_30] : List GTime)) * 40 ≤ 140737488355328) (
 p9 (q76 i_1 rec_1) rounds (i64.wrap ((List.length (a_5 ++ ([xv_30] : List GTime)) : Int) - 1), (a_5 ++ ([xv_30] : List GTime)))))
def q75 (l_0 : List GTime) (i_1 : Int) (a_5 : List GTime) (rec_1 : (Int × (List GTime) → Option (List GTime))) (xv_30 : GTime) (rec_4 : Bool × Int → Option (List GTime)) : Bool × Int → Option (List GTime) :=
 fun (low_14, k_17) =>
 (if (decide (k_17 < (List.length l_0 : Int))) = true then j6 (idx l_0 k_17) (fun (xv_45 : GTime) =>
 (if ((xv_45.D == xv_30.D) && ((xv_45.C.a0 == xv_30.C.a0) && ((xv_45.C.a1 == xv_30.C.a1) && ((xv_45.C.a2 == xv_30.C.a2) && (xv_45.C.a3 == xv_30.C.a3))))) = true then (if (decide (k_17 < i_1)) = true then (if ((xv_45.D == xv_30.D) && ((xv_45.C.a0 == xv_30.C.a0) && ((xv_45.C.a1 == xv_30.C.a1) && ((xv_45.C.a2 == xv_30.C.a2) && (xv_45.C.a3 == xv_30.C.a3))))) = true then rec_4 (false, i64.wrap (k_17 + 1))
 else rec_4 (low_14, i64.wrap (k_17 + 1)))
 else rec_4 (low_14, i64.wrap (k_17 + 1)))
 else j6 (q8s xv_45 xv_30) (fun (v_29 : Bool) =>
 (if v_29 = true then rec_4 (false, i64.wrap (k_17 + 1))
 else (if (decide (k_17 < i_1)) = true then (if ((xv_45.D == xv_30.D) && ((xv_45.C.a0 == xv_30.C.a0) && ((xv_45.C.a1 == xv_30.C.a1) && ((xv_45.C.a2 == xv_30.C.a2) && (xv_45.C.a3 == xv_30.C.a3))))) = true then rec_4 (false, i64.wrap (k_17 + 1))
 else rec_4 (low_14, i64.wrap (k_17 + 1)))
 else rec_4 (low_14, i64.wrap (k_17 + 1)))))))
 else qa9 i_1 a_5 rec_1 xv_30 low_14)
def q77 (l_0 : List GTime) (rec_1 : Int × (List GTime) → Option (List GTime)) : Int × (List GTime) → Option (List GTime) :=
 fun (i_1, a_5) =>
 (if (decide (i_1 < (List.length l_0 : Int))) = true then j6 (idx l_0 i_1) (fun (xv_30 : GTime) =>
 j6 (q1v xv_30) (fun (v_20 : (List Int) × Bool) =>
 p9 (q75 l_0 i_1 a_5 rec_1 xv_30) rounds (v_20.2, 0)))
 else some a_5)
def q6l (l_0 : List GTime) : Option (List GTime) :=
 p9 (q77 l_0) rounds (0, [])
def q2y (u_0 : GUnit) (rec_2 : Int → Option Bool) : Int → Option Bool :=
 fun i_3 =>
 (if (decide (i_3 < (List.length u_0.Red : Int))) = true then j6 (idx u_0.Red i_3) (fun (xv_5 : List GTime) =>
 (if (decide (40 < (List.length xv_5 : Int))) = true then some false
 else rec_2 (i64.wrap (i_3 + 1))))
 else some true)
def q4i (u_0 : GUnit) : Option Bool :=
 p9 (q2y u_0) rounds 0
def q2x (u_0 : GUnit) (rec_3 : Int → Option Bool) : Int → Option Bool :=
 fun i_5 =>
 (if (decide (i_5 < (List.length u_0.Cells : Int))) = true then j6 (idx u_0.Cells i_5) (fun (xv_8 : List GSlot) =>
 j6 (q45 xv_8) (fun (v_5 : Bool) =>
 (if (!v_5) = true then some false
 else rec_3 (i64.wrap (i_5 + 1)))))
 else q4i u_0)
def q44 (u_0 : GUnit) : Option Bool :=
 (if ((decide (60 < (List.length u_0.Cells : Int))) || (decide (60 < (List.length u_0.Red : Int)))) = true then some false
 else p9 (q2x u_0) rounds 0)
theorem qm5 (u_0 : GUnit)  (r : Bool) (h : q44 u_0 = some r) : PureS Tryz.prog 10 [.agg [.v (.int .i64 u_0.ID), .sl 1 (enc u_0.Cells), .v (.int .i64 u_0.Colour), .v (.int .i64 u_0.Sent.a0), .v (.int .i64 u_0.Sent.a1), .v (.int .i64 u_0.Got.a0), .v (.int .i64 u_0.Got.a1), .sl 1 (enc u_0.Red), .v (.int .i64 u_0.Late), .v (.int .i64 u_0.Backs)]] 0 (.v (.bool r)) := by
 unfold PureS; refine Spec.of_vc Tryz.func10 rfl (by kernel_rfl) (by kernel_rfl) ?_; rw [q44] at h; refine sg fun _ Q1 => ?_; simp only [go_sem]; refine q8 Q1 (sg fun _ Q2 => ?_); refine sg fun _ Q3 => ?_; simp only [go_sem]; refine q8 Q3 ?_; refine j3 (b := ((decide (60 < (List.length u_0.Cells : Int))) || (decide (60 < (List.length u_0.Red : Int))))) (by (simp only [go_sem]; done)) (fun hb_0 => ?_) (fun hb_0 => ?_)
 · replace h := x9 h hb_0; simp only [bool_to_prop] at hb_0; refine sg fun _ Q4 => ?_; simp only [go_sem]; refine q8 Q4 (z8 (y5 Q2 ?_)); simp only [go_sem]; obtain rfl := Option.some.inj h; refine j5 rfl ?_; simp only [go_sem, Le]
 ·
  replace h := u6 h hb_0; simp only [bool_to_prop] at hb_0; refine j4 (q8 Q2 (q0a (by kernel_rfl) ?_)); refine q0x (ι := Unit) (fun (_ : Unit) => (⟨0, [(1, .ptr 0 0)], [(0, .box [.v (.int .i64 u_0.ID), .sl 1 (enc u_0.Cells), .v (.int .i64 u_0.Colour), .v (.int .i64 u_0.Sent.a0), .v (.int .i64 u_0.Sent.a1), .v (.int .i64 u_0.Got.a0), .v (.int .i64 u_0.Got.a1), .sl 1 (enc u_0.Red), .v (.int .i64 u_0.Late), .v (.int .i64 u_0.Backs)])], 1, 43⟩ : St)) (fun (_ : Unit) => q4i u_0 = some r) ?_ ?_
  ·
   intro _ Q16; refine sg fun _ Q17 => ?_; simp only [go_sem]; refine q8 Q17 (y7 ?_); intro _ Q18; refine q06 ?_; refine q0g (ι := Nat × Int) (fun ((_, i_5) : Nat × Int) => (⟨0, [(1, .ptr 0 0), (3, .v (.int .i64 i_5))], [(0, .box [.v (.int .i64 u_0.ID), .sl 1 (enc u_0.Cells), .v (.int .i64 u_0.Colour), .v (.int .i64 u_0.Sent.a0), .v (.int .i64 u_0.Sent.a1), .v (.int .i64 u_0.Got.a0), .v (.int .i64 u_0.Got.a1), .sl 1 (enc u_0.Red), .v (.int .i64 u_0.Late), .v (.int .i64 u_0.Backs)])], 1, 43⟩ : St)) (fun ((n_, i_5) : Nat × Int) => p9 (q2x u_0) n_ i_5 = some r) (fun p => p.1) (rounds, 0) [some 0] ?_ h ?_
   · simp only [go_sem, Le]
   ·
    rintro ⟨n_3, i_5⟩ h _ Q19; dsimp only at h; replace h := q08 h; obtain ⟨m_3, rfl, h⟩ := h; rw [q2x] at h; refine sg fun _ Q20 => ?_; refine sg fun _ Q21 => ?_; simp only [go_sem]; refine q8 Q21 ?_; refine j3 (b := (decide (i_5 < (List.length u_0.Cells : Int)))) (by (simp only [go_sem]; done)) (fun hb_17 => ?_) (fun hb_17 => ?_)
    ·
     replace h := x9 h hb_17; simp only [bool_to_prop] at hb_17; refine j4 (q8 Q20 (sg fun _ Q22 => ?_)); refine y7 ?_; intro _ Q23; refine sg fun _ Q24 => ?_; obtain ⟨xv_8, ex8, h⟩ := q9 h; obtain ⟨f8a, f8b, f8c⟩ := u7 ex8; obtain ⟨v_5, ev_5, h⟩ := q9 h; simp only [go_sem, f8a, f8b, f8c]; refine And.intro (by omega) ?_; refine q0f (qm6 xv_8 v_5 ev_5) (by rfl) (by rfl) ?_; simp only [go_sem]; refine q8 Q24 ?_; refine j3 (b := (!v_5)) (by (simp only [go_sem]; done)) (fun hb_18 => ?_) (fun hb_18 => ?_)
     · replace h := x9 h hb_18; simp only [bool_to_prop] at hb_18; refine sg fun _ Q25 => ?_; simp only [go_sem]; refine q8 Q25 (z8 (y9 Q23 (y5 Q22 (q04 Q19 (y9 Q18 (q04 Q16 ?_)))))); simp only [go_sem]; obtain rfl := Option.some.inj h; refine j5 rfl ?_; simp only [go_sem, Le]
     · replace h := u6 h hb_18; simp only [bool_to_prop] at hb_18; refine j4 (y8 Q23 (q8 Q22 ?_)); simp only [go_sem]; refine w9 Q19 (⟨(m_3, i64.wrap (i_5 + 1)), [some 0], ?_, h, Nat.lt_succ_self _⟩); simp only [go_sem, Le]
    · replace h := u6 h hb_17; simp only [bool_to_prop] at hb_17; refine q03 (q09 Q20 (q07 Q19 (d9 Q18 (w9 Q16 (⟨(), [some 0], ?_, h⟩))))); simp only [go_sem, Le]
  ·
   rintro ⟨⟩ h
   try dsimp only at h
   rw [q4i] at h; refine q0a (by kernel_rfl) ?_; refine q0c ?_; intro _ Q5; refine sg fun _ Q6 => ?_; simp only [go_sem]; refine q8 Q6 (y7 ?_); intro _ Q7; refine q06 ?_; refine q0g (ι := Nat × Int) (fun ((_, i_3) : Nat × Int) => (⟨0, [(1, .ptr 0 0), (4, .v (.int .i64 i_3))], [(0, .box [.v (.int .i64 u_0.ID), .sl 1 (enc u_0.Cells), .v (.int .i64 u_0.Colour), .v (.int .i64 u_0.Sent.a0), .v (.int .i64 u_0.Sent.a1), .v (.int .i64 u_0.Got.a0), .v (.int .i64 u_0.Got.a1), .sl 1 (enc u_0.Red), .v (.int .i64 u_0.Late), .v (.int .i64 u_0.Backs)])], 1, 43⟩ : St)) (fun ((n_, i_3) : Nat × Int) => p9 (q2y u_0) n_ i_3 = some r) (fun p => p.1) (rounds, 0) [some 0] ?_ h ?_
   · simp only [go_sem, Le]
   ·
    rintro ⟨n_2, i_3⟩ h _ Q8; dsimp only at h; replace h := q08 h; obtain ⟨m_2, rfl, h⟩ := h; rw [q2y] at h; refine sg fun _ Q9 => ?_; refine sg fun _ Q10 => ?_; simp only [go_sem]; refine q8 Q10 ?_; refine j3 (b := (decide (i_3 < (List.length u_0.Red : Int)))) (by (simp only [go_sem]; done)) (fun hb_11 => ?_) (fun hb_11 => ?_)
    ·
     replace h := x9 h hb_11; simp only [bool_to_prop] at hb_11; refine j4 (q8 Q9 (sg fun _ Q11 => ?_)); refine y7 ?_; intro _ Q12; refine sg fun _ Q13 => ?_; obtain ⟨xv_5, ex5, h⟩ := q9 h; obtain ⟨f5a, f5b, f5c⟩ := u7 ex5; simp only [go_sem, f5a, f5b, f5c]; refine And.intro (by omega) ?_; refine q8 Q13 ?_; refine j3 (b := (decide (40 < (List.length xv_5 : Int)))) (by (simp only [go_sem]; done)) (fun hb_12 => ?_) (fun hb_12 => ?_)
     · replace h := x9 h hb_12; simp only [bool_to_prop] at hb_12; refine sg fun _ Q14 => ?_; simp only [go_sem]; refine q8 Q14 (z8 (y9 Q12 (y5 Q11 (q04 Q8 (y9 Q7 (y5 Q5 ?_)))))); simp only [go_sem]; obtain rfl := Option.some.inj h; refine j5 rfl ?_; simp only [go_sem, Le]
     · replace h := u6 h hb_12; simp only [bool_to_prop] at hb_12; refine j4 (y8 Q12 (q8 Q11 ?_)); simp only [go_sem]; refine w9 Q8 (⟨(m_2, i64.wrap (i_3 + 1)), [some 0], ?_, h, Nat.lt_succ_self _⟩); simp only [go_sem, Le]
    · replace h := u6 h hb_11; simp only [bool_to_prop] at hb_11; refine q03 (q09 Q9 (q07 Q8 (d9 Q7 (q8 Q5 (sg fun _ Q15 => ?_))))); simp only [go_sem]; refine q8 Q15 (z8 ?_); simp only [go_sem]; obtain rfl := Option.some.inj h; refine j5 rfl ?_; simp only [go_sem, Le]

def q59 (s_0 : List (List GSlot)) (f_0 : (List GSlot) → Option Bool) (rec_1 : Int → Option Int) : Int → Option Int :=
 fun t8_1 =>
 (if (decide (t8_1 < (List.length s_0 : Int))) = true then j6 (idx s_0 t8_1) (fun (xv_2 : List GSlot) =>
 j6 (f_0 xv_2) (fun (v_2 : Bool) =>
 (if v_2 = true then some t8_1
 else rec_1 (i64.wrap (t8_1 + 1)))))
 else some (-1))
def q5v (s_0 : List (List GSlot)) (f_0 : (List GSlot) → Option Bool) : Option Int :=
 p9 (q59 s_0 f_0) rounds 0
theorem qh7 (s_0 : List (List GSlot)) (f_0 : (List GSlot) → Option Bool) (g_f_0 : FuncId) (c_f_0 : List AV) (F_f_0 : q0n c_f_0 = true) (E_f_0 : q02 Tryz.prog g_f_0 = true) (H_f_0 : ∀ (x0 : List GSlot) (r : Bool), f_0 x0 = some r → PureS Tryz.prog g_f_0 ([.sl 10 (enc x0)] ++ c_f_0) 0 (.v (.bool r))) (r : Int) (h : q5v s_0 f_0 = some r) : PureS Tryz.prog 90 [.sl 1 (enc s_0), .clo g_f_0 c_f_0] 0 (.v (.int .i64 r)) := by
 unfold PureS; refine Spec.of_vc Tryz.func90 rfl (by kernel_rfl) (by kernel_rfl) ?_; rw [q5v] at h; refine sg fun _ Q1 => ?_; simp only [go_sem]; refine q8 Q1 (q0a (by kernel_rfl) ?_); refine q0c ?_; intro _ Q2; refine sg fun _ Q3 => ?_; simp only [go_sem]; refine q8 Q3 (y7 ?_); intro _ Q4; refine q06 ?_; refine q0g (ι := Nat × Int) (fun ((_, t8_1) : Nat × Int) => (⟨0, [(0, .sl 1 (enc s_0)), (1, .clo g_f_0 c_f_0), (7, .v (.int .i64 (List.length s_0 : Int))), (8, .v (.int .i64 t8_1))], [], 0, 19⟩ : St)) (fun ((n_, t8_1) : Nat × Int) => p9 (q59 s_0 f_0) n_ t8_1 = some r) (fun p => p.1) (rounds, 0) [] ?_ h ?_
 · simp only [go_sem, Le, q0b _ F_f_0]
 ·
  rintro ⟨n_1, t8_1⟩ h _ Q5; dsimp only at h; replace h := q08 h; obtain ⟨m_1, rfl, h⟩ := h; rw [q59] at h; refine sg fun _ Q6 => ?_; simp only [go_sem]; refine q8 Q6 (sg fun _ Q7 => ?_); refine j3 (b := (decide (t8_1 < (List.length s_0 : Int)))) (by (simp only [go_sem]; done)) (fun hb_4 => ?_) (fun hb_4 => ?_)
  ·
   replace h := x9 h hb_4; simp only [bool_to_prop] at hb_4; refine j4 (q8 Q7 (sg fun _ Q8 => ?_)); refine y7 ?_; intro _ Q9; refine sg fun _ Q10 => ?_; simp only [go_sem]; refine q8 Q10 (sg fun _ Q11 => ?_); obtain ⟨xv_2, ex2, h⟩ := q9 h; obtain ⟨f2a, f2b, f2c⟩ := u7 ex2; obtain ⟨v_2, ev_2, h⟩ := q9 h; simp only [go_sem, f2a, f2b, f2c, E_f_0]; refine And.intro (by omega) ?_; refine q0f (H_f_0 xv_2 v_2 ev_2) (by rfl) (by simp [q0n, q0y, F_f_0]) ?_; simp only [go_sem]; refine q8 Q11 ?_; refine j3 (b := v_2) (by (simp only [go_sem]; done)) (fun hb_5 => ?_) (fun hb_5 => ?_)
   · replace h := x9 h hb_5; refine sg fun _ Q12 => ?_; simp only [go_sem]; refine q8 Q12 (z8 (y9 Q9 (y5 Q8 (q04 Q5 (y9 Q4 (y5 Q2 ?_)))))); simp only [go_sem]; obtain rfl := Option.some.inj h; refine j5 rfl ?_; simp only [go_sem, Le, q0b _ F_f_0]
   · replace h := u6 h hb_5; refine j4 (y8 Q9 (q8 Q8 ?_)); simp only [go_sem]; refine w9 Q5 (⟨(m_1, i64.wrap (t8_1 + 1)), [], ?_, h, Nat.lt_succ_self _⟩); simp only [go_sem, Le, q0b _ F_f_0]
  · replace h := u6 h hb_4; simp only [bool_to_prop] at hb_4; refine q03 (q09 Q7 (q07 Q5 (d9 Q4 (q8 Q2 (sg fun _ Q13 => ?_))))); simp only [go_sem]; refine q8 Q13 (z8 ?_); simp only [go_sem]; obtain rfl := Option.some.inj h; refine j5 rfl ?_; simp only [go_sem, Le, q0b _ F_f_0]

def q3p (s_0 : List (List GSlot)) (f_0 : (List GSlot) → Option Bool) : Option Bool :=
 j6 (q5v s_0 f_0) (fun (v_0 : Int) =>
 some (decide (0 ≤ v_0)))
theorem qc8 (s_0 : List (List GSlot)) (f_0 : (List GSlot) → Option Bool) (g_f_0 : FuncId) (c_f_0 : List AV) (F_f_0 : q0n c_f_0 = true) (E_f_0 : q02 Tryz.prog g_f_0 = true) (H_f_0 : ∀ (x0 : List GSlot) (r : Bool), f_0 x0 = some r → PureS Tryz.prog g_f_0 ([.sl 10 (enc x0)] ++ c_f_0) 0 (.v (.bool r))) (r : Bool) (h : q3p s_0 f_0 = some r) : PureS Tryz.prog 36 [.sl 1 (enc s_0), .clo g_f_0 c_f_0] 0 (.v (.bool r)) := by
 unfold PureS; refine Spec.of_vc Tryz.func36 rfl (by kernel_rfl) (by kernel_rfl) ?_; rw [q3p] at h; refine sg fun _ Q1 => ?_; simp only [go_sem]; refine q8 Q1 (sg fun _ Q2 => ?_); obtain ⟨v_0, ev_0, h⟩ := q9 h; simp only [go_sem]; refine q0f (qh7 s_0 f_0 g_f_0 c_f_0 F_f_0 E_f_0 H_f_0 v_0 ev_0) (by rfl) (by simp [q0n, q0y, F_f_0]) ?_; simp only [go_sem]; refine q8 Q2 (z8 ?_); simp only [go_sem]; obtain rfl := Option.some.inj h; refine j5 rfl ?_; simp only [go_sem, Le, q0b _ F_f_0]

def q5q (c_0 : List GSlot) : Option Bool :=
 j6 (q5b c_0) (fun (v_0 : Bool) =>
 some (!v_0))
theorem qy9 (c_0 : List GSlot)  (r : Bool) (h : q5q c_0 = some r) : PureS Tryz.prog 37 [.sl 10 (enc c_0)] 0 (.v (.bool r)) := by
 unfold PureS; refine Spec.of_vc Tryz.func37 rfl (by kernel_rfl) (by kernel_rfl) ?_; rw [q5q] at h; refine sg fun _ Q1 => ?_; simp only [go_sem]; refine q8 Q1 (sg fun _ Q2 => ?_); obtain ⟨v_0, ev_0, h⟩ := q9 h; simp only [go_sem]; refine q0f (q8b c_0 v_0 ev_0) (by rfl) (by rfl) ?_; simp only [go_sem]; refine q8 Q2 (z8 ?_); simp only [go_sem]; obtain rfl := Option.some.inj h; refine j5 rfl ?_; simp only [go_sem, Le]

def q58 (s_0 : List (List GTime)) (f_0 : (List GTime) → Option Bool) (rec_1 : Int → Option Int) : Int → Option Int :=
 fun t8_1 =>
 (if (decide (t8_1 < (List.length s_0 : Int))) = true then j6 (idx s_0 t8_1) (fun (xv_2 : List GTime) =>
 j6 (f_0 xv_2) (fun (v_2 : Bool) =>
 (if v_2 = true then some t8_1
 else rec_1 (i64.wrap (t8_1 + 1)))))
 else some (-1))
def q5u (s_0 : List (List GTime)) (f_0 : (List GTime) → Option Bool) : Option Int :=
 p9 (q58 s_0 f_0) rounds 0
theorem qh6 (s_0 : List (List GTime)) (f_0 : (List GTime) → Option Bool) (g_f_0 : FuncId) (c_f_0 : List AV) (F_f_0 : q0n c_f_0 = true) (E_f_0 : q02 Tryz.prog g_f_0 = true) (H_f_0 : ∀ (x0 : List GTime) (r : Bool), f_0 x0 = some r → PureS Tryz.prog g_f_0 ([.sl 5 (enc x0)] ++ c_f_0) 0 (.v (.bool r))) (r : Int) (h : q5u s_0 f_0 = some r) : PureS Tryz.prog 94 [.sl 1 (enc s_0), .clo g_f_0 c_f_0] 0 (.v (.int .i64 r)) := by
 unfold PureS; refine Spec.of_vc Tryz.func94 rfl (by kernel_rfl) (by kernel_rfl) ?_; rw [q5u] at h; refine sg fun _ Q1 => ?_; simp only [go_sem]; refine q8 Q1 (q0a (by kernel_rfl) ?_); refine q0c ?_; intro _ Q2; refine sg fun _ Q3 => ?_; simp only [go_sem]; refine q8 Q3 (y7 ?_); intro _ Q4; refine q06 ?_; refine q0g (ι := Nat × Int) (fun ((_, t8_1) : Nat × Int) => (⟨0, [(0, .sl 1 (enc s_0)), (1, .clo g_f_0 c_f_0), (7, .v (.int .i64 (List.length s_0 : Int))), (8, .v (.int .i64 t8_1))], [], 0, 19⟩ : St)) (fun ((n_, t8_1) : Nat × Int) => p9 (q58 s_0 f_0) n_ t8_1 = some r) (fun p => p.1) (rounds, 0) [] ?_ h ?_
 · simp only [go_sem, Le, q0b _ F_f_0]
 ·
  rintro ⟨n_1, t8_1⟩ h _ Q5; dsimp only at h; replace h := q08 h; obtain ⟨m_1, rfl, h⟩ := h; rw [q58] at h; refine sg fun _ Q6 => ?_; simp only [go_sem]; refine q8 Q6 (sg fun _ Q7 => ?_); refine j3 (b := (decide (t8_1 < (List.length s_0 : Int)))) (by (simp only [go_sem]; done)) (fun hb_4 => ?_) (fun hb_4 => ?_)
  ·
   replace h := x9 h hb_4; simp only [bool_to_prop] at hb_4; refine j4 (q8 Q7 (sg fun _ Q8 => ?_)); refine y7 ?_; intro _ Q9; refine sg fun _ Q10 => ?_; simp only [go_sem]; refine q8 Q10 (sg fun _ Q11 => ?_); obtain ⟨xv_2, ex2, h⟩ := q9 h; obtain ⟨f2a, f2b, f2c⟩ := u7 ex2; obtain ⟨v_2, ev_2, h⟩ := q9 h; simp only [go_sem, f2a, f2b, f2c, E_f_0]; refine And.intro (by omega) ?_; refine q0f (H_f_0 xv_2 v_2 ev_2) (by rfl) (by simp [q0n, q0y, F_f_0]) ?_; simp only [go_sem]; refine q8 Q11 ?_; refine j3 (b := v_2) (by (simp only [go_sem]; done)) (fun hb_5 => ?_) (fun hb_5 => ?_)
   · replace h := x9 h hb_5; refine sg fun _ Q12 => ?_; simp only [go_sem]; refine q8 Q12 (z8 (y9 Q9 (y5 Q8 (q04 Q5 (y9 Q4 (y5 Q2 ?_)))))); simp only [go_sem]; obtain rfl := Option.some.inj h; refine j5 rfl ?_; simp only [go_sem, Le, q0b _ F_f_0]
   · replace h := u6 h hb_5; refine j4 (y8 Q9 (q8 Q8 ?_)); simp only [go_sem]; refine w9 Q5 (⟨(m_1, i64.wrap (t8_1 + 1)), [], ?_, h, Nat.lt_succ_self _⟩); simp only [go_sem, Le, q0b _ F_f_0]
  · replace h := u6 h hb_4; simp only [bool_to_prop] at hb_4; refine q03 (q09 Q7 (q07 Q5 (d9 Q4 (q8 Q2 (sg fun _ Q13 => ?_))))); simp only [go_sem]; refine q8 Q13 (z8 ?_); simp only [go_sem]; obtain rfl := Option.some.inj h; refine j5 rfl ?_; simp only [go_sem, Le, q0b _ F_f_0]

def q3o (s_0 : List (List GTime)) (f_0 : (List GTime) → Option Bool) : Option Bool :=
 j6 (q5u s_0 f_0) (fun (v_0 : Int) =>
 some (decide (0 ≤ v_0)))
theorem qc7 (s_0 : List (List GTime)) (f_0 : (List GTime) → Option Bool) (g_f_0 : FuncId) (c_f_0 : List AV) (F_f_0 : q0n c_f_0 = true) (E_f_0 : q02 Tryz.prog g_f_0 = true) (H_f_0 : ∀ (x0 : List GTime) (r : Bool), f_0 x0 = some r → PureS Tryz.prog g_f_0 ([.sl 5 (enc x0)] ++ c_f_0) 0 (.v (.bool r))) (r : Bool) (h : q3o s_0 f_0 = some r) : PureS Tryz.prog 39 [.sl 1 (enc s_0), .clo g_f_0 c_f_0] 0 (.v (.bool r)) := by
 unfold PureS; refine Spec.of_vc Tryz.func39 rfl (by kernel_rfl) (by kernel_rfl) ?_; rw [q3o] at h; refine sg fun _ Q1 => ?_; simp only [go_sem]; refine q8 Q1 (sg fun _ Q2 => ?_); obtain ⟨v_0, ev_0, h⟩ := q9 h; simp only [go_sem]; refine q0f (qh6 s_0 f_0 g_f_0 c_f_0 F_f_0 E_f_0 H_f_0 v_0 ev_0) (by rfl) (by simp [q0n, q0y, F_f_0]) ?_; simp only [go_sem]; refine q8 Q2 (z8 ?_); simp only [go_sem]; obtain rfl := Option.some.inj h; refine j5 rfl ?_; simp only [go_sem, Le, q0b _ F_f_0]

def q5p (c_0 : List GTime) : Option Bool :=
 j6 (q7u c_0) (fun (v_0 : Bool) =>
 some (!v_0))
theorem qy8 (c_0 : List GTime)  (r : Bool) (h : q5p c_0 = some r) : PureS Tryz.prog 40 [.sl 5 (enc c_0)] 0 (.v (.bool r)) := by
 unfold PureS; refine Spec.of_vc Tryz.func40 rfl (by kernel_rfl) (by kernel_rfl) ?_; rw [q5p] at h; refine sg fun _ Q1 => ?_; simp only [go_sem]; refine q8 Q1 (sg fun _ Q2 => ?_); obtain ⟨v_0, ev_0, h⟩ := q9 h; simp only [go_sem]; refine q0f (z0h c_0 v_0 ev_0) (by rfl) (by rfl) ?_; simp only [go_sem]; refine q8 Q2 (z8 ?_); simp only [go_sem]; obtain rfl := Option.some.inj h; refine j5 rfl ?_; simp only [go_sem, Le]

def q4f (g_0 : GGraph) (u_0 : GUnit) : Option Bool :=
 (if ((((!((List.length u_0.Cells : Int) == (List.length g_0.Nodes : Int))) || (!((List.length u_0.Red : Int) == (List.length g_0.Nodes : Int)))) || (decide (u_0.Colour < 0))) || (decide (1 < u_0.Colour))) = true then some false
 else j6 (q3p u_0.Cells (fun x0_ => q5q x0_)) (fun (v_0 : Bool) =>
 (if v_0 = true then some false
 else j6 (q3o u_0.Red (fun x0_ => q5p x0_)) (fun (v_1 : Bool) =>
 some (!v_1)))))
theorem q6f (g_0 : GGraph) (u_0 : GUnit)  (r : Bool) (h : q4f g_0 u_0 = some r) : PureS Tryz.prog 11 [.agg [.sl 1 (enc g_0.Parent), .sl 1 (enc g_0.Bound), .sl 4 (enc g_0.Nodes), .sl 4 (enc g_0.Edges)], .agg [.v (.int .i64 u_0.ID), .sl 1 (enc u_0.Cells), .v (.int .i64 u_0.Colour), .v (.int .i64 u_0.Sent.a0), .v (.int .i64 u_0.Sent.a1), .v (.int .i64 u_0.Got.a0), .v (.int .i64 u_0.Got.a1), .sl 1 (enc u_0.Red), .v (.int .i64 u_0.Late), .v (.int .i64 u_0.Backs)]] 0 (.v (.bool r)) := by
 unfold PureS; refine Spec.of_vc Tryz.func11 rfl (by kernel_rfl) (by kernel_rfl) ?_; rw [q4f] at h; refine sg fun _ Q1 => ?_; simp only [go_sem]; refine q8 Q1 (sg fun _ Q2 => ?_); simp only [go_sem]; refine q8 Q2 (sg fun _ Q3 => ?_); refine sg fun _ Q4 => ?_; simp only [go_sem]; refine q8 Q4 ?_; refine j3 (b := ((((!((List.length u_0.Cells : Int) == (List.length g_0.Nodes : Int))) || (!((List.length u_0.Red : Int) == (List.length g_0.Nodes : Int)))) || (decide (u_0.Colour < 0))) || (decide (1 < u_0.Colour)))) (by (simp only [go_sem]; done)) (fun hb_0 => ?_) (fun hb_0 => ?_)
 · replace h := x9 h hb_0; simp only [bool_to_prop] at hb_0; refine sg fun _ Q5 => ?_; simp only [go_sem]; refine q8 Q5 (z8 (y5 Q3 ?_)); simp only [go_sem]; obtain rfl := Option.some.inj h; refine j5 rfl ?_; simp only [go_sem, Le]
 ·
  replace h := u6 h hb_0; simp only [bool_to_prop] at hb_0; refine j4 (q8 Q3 (sg fun _ Q6 => ?_)); obtain ⟨v_0, ev_0, h⟩ := q9 h; simp only [go_sem]; refine q0f (qc8 u_0.Cells (fun x0_ => q5q x0_) 37 [] (by rfl) (by kernel_rfl) (fun y0 r_ e_ => qy9 y0 r_ e_) v_0 ev_0) (by rfl) (by rfl) ?_; simp only [go_sem]; rcases hb_1 : v_0 with _ | _
  · replace h := u6 h hb_1; obtain ⟨v_1, ev_1, h⟩ := q9 h; simp only [go_sem, hb_1]; refine q0f (qc7 u_0.Red (fun x0_ => q5p x0_) 40 [] (by rfl) (by kernel_rfl) (fun y0 r_ e_ => qy8 y0 r_ e_) v_1 ev_1) (by rfl) (by rfl) ?_; simp only [go_sem]; refine q8 Q6 (z8 ?_); simp only [go_sem]; obtain rfl := Option.some.inj h; refine j5 rfl ?_; simp only [go_sem, Le]
  · replace h := x9 h hb_1; simp only [go_sem, hb_1]; refine q8 Q6 (z8 ?_); simp only [go_sem]; obtain rfl := Option.some.inj h; refine j5 rfl ?_; simp only [go_sem, Le]

def q80 (g_0 : GGraph) (u_0 : GUnit) : Option GUnit :=
 j6 (q4f g_0 u_0) (fun (v_0 : Bool) =>
 (if (!v_0) = true then some u_0
 else q0v (0 ≤ (List.length g_0.Nodes : Int) ∧ (List.length g_0.Nodes : Int) * 24 ≤ 140737488355328) (
 some (⟨u_0.ID, u_0.Cells, i64.wrap (1 - u_0.Colour), u_0.Sent, u_0.Got, (List.replicate (List.length g_0.Nodes) ([] : List GTime)), u_0.Late, u_0.Backs⟩ : GUnit))))
theorem qr9 (g_0 : GGraph) (u_0 : GUnit)  (r : GUnit) (h : q80 g_0 u_0 = some r) : PureS Tryz.prog 12 [.agg [.sl 1 (enc g_0.Parent), .sl 1 (enc g_0.Bound), .sl 4 (enc g_0.Nodes), .sl 4 (enc g_0.Edges)], .agg [.v (.int .i64 u_0.ID), .sl 1 (enc u_0.Cells), .v (.int .i64 u_0.Colour), .v (.int .i64 u_0.Sent.a0), .v (.int .i64 u_0.Sent.a1), .v (.int .i64 u_0.Got.a0), .v (.int .i64 u_0.Got.a1), .sl 1 (enc u_0.Red), .v (.int .i64 u_0.Late), .v (.int .i64 u_0.Backs)]] 0 (.agg [.v (.int .i64 r.ID), .sl 1 (enc r.Cells), .v (.int .i64 r.Colour), .v (.int .i64 r.Sent.a0), .v (.int .i64 r.Sent.a1), .v (.int .i64 r.Got.a0), .v (.int .i64 r.Got.a1), .sl 1 (enc r.Red), .v (.int .i64 r.Late), .v (.int .i64 r.Backs)]) := by
 unfold PureS; refine Spec.of_vc Tryz.func12 rfl (by kernel_rfl) (by kernel_rfl) ?_; rw [q80] at h; refine sg fun _ Q1 => ?_; simp only [go_sem]; refine q8 Q1 (sg fun _ Q2 => ?_); refine sg fun _ Q3 => ?_; obtain ⟨v_0, ev_0, h⟩ := q9 h; simp only [go_sem]; refine q0f (q6f g_0 u_0 v_0 ev_0) (by rfl) (by rfl) ?_; simp only [go_sem]; refine q8 Q3 ?_; refine j3 (b := (!v_0)) (by (simp only [go_sem]; done)) (fun hb_0 => ?_) (fun hb_0 => ?_)
 · replace h := x9 h hb_0; simp only [bool_to_prop] at hb_0; refine sg fun _ Q4 => ?_; simp only [go_sem]; refine q8 Q4 (z8 (y5 Q2 ?_)); simp only [go_sem]; obtain rfl := Option.some.inj h; refine j5 rfl ?_; simp only [go_sem, Le]
 ·
  replace h := u6 h hb_0; simp only [bool_to_prop] at hb_0; refine j4 (q8 Q2 (sg fun _ Q5 => ?_)); simp only [go_sem]; refine q8 Q5 (sg fun _ Q6 => ?_); obtain ⟨g_1, h⟩ := q0k h; have rf_0 : List.replicate (List.length g_0.Nodes) [.sl 5 (enc ([] : List GTime))] = enc (List.replicate (List.length g_0.Nodes) ([] : List GTime)) := by (simp [enc, qe3, q9v, q8d, q5r]; exact .inr rfl)
  have rf_0n := rf_0; simp only [q5r] at rf_0n; simp only [go_sem, g_1]; refine And.intro (by omega) ?_; simp only [rf_0n, rf_0]; refine q8 Q6 (sg fun _ Q7 => ?_); simp only [go_sem]; refine q8 Q7 (z8 ?_); simp only [go_sem]; obtain rfl := Option.some.inj h; refine j5 rfl ?_; simp only [go_sem, Le] <;> (repeat' apply And.intro) <;> ((try with_reducible refine x8 ?_); (simp [go_sem]; done))

def q3h (a_0 : GUnit) (b_0 : GUnit) (rec_2 : Int → Option Bool) : Int → Option Bool :=
 fun i_3 =>
 (if (decide (i_3 < (List.length a_0.Red : Int))) = true then j6 (idx a_0.Red i_3) (fun (xv_10 : List GTime) =>
 j6 (idx b_0.Red i_3) (fun (xv_11 : List GTime) =>
 j6 (q2e xv_10 xv_11) (fun (v_5 : Bool) =>
 (if (!v_5) = true then some false
 else rec_2 (i64.wrap (i_3 + 1))))))
 else some true)
def q4w (a_0 : GUnit) (b_0 : GUnit) : Option Bool :=
 p9 (q3h a_0 b_0) rounds 0
def q3g (a_0 : GUnit) (b_0 : GUnit) (rec_3 : Int → Option Bool) : Int → Option Bool :=
 fun i_5 =>
 (if (decide (i_5 < (List.length a_0.Cells : Int))) = true then j6 (idx a_0.Cells i_5) (fun (xv_16 : List GSlot) =>
 j6 (idx b_0.Cells i_5) (fun (xv_17 : List GSlot) =>
 j6 (q4k xv_16 xv_17) (fun (v_8 : Bool) =>
 (if (!v_8) = true then some false
 else rec_3 (i64.wrap (i_5 + 1))))))
 else q4w a_0 b_0)
def q4j (a_0 : GUnit) (b_0 : GUnit) : Option Bool :=
 (if ((((((((!(a_0.ID == b_0.ID)) || (!(a_0.Colour == b_0.Colour))) || (!((a_0.Sent.a0 == b_0.Sent.a0) && (a_0.Sent.a1 == b_0.Sent.a1)))) || (!((a_0.Got.a0 == b_0.Got.a0) && (a_0.Got.a1 == b_0.Got.a1)))) || (!(a_0.Late == b_0.Late))) || (!(a_0.Backs == b_0.Backs))) || (!((List.length a_0.Cells : Int) == (List.length b_0.Cells : Int)))) || (!((List.length a_0.Red : Int) == (List.length b_0.Red : Int)))) = true then some false
 else p9 (q3g a_0 b_0) rounds 0)
theorem qn7 (a_0 : GUnit) (b_0 : GUnit)  (r : Bool) (h : q4j a_0 b_0 = some r) : PureS Tryz.prog 13 [.agg [.v (.int .i64 a_0.ID), .sl 1 (enc a_0.Cells), .v (.int .i64 a_0.Colour), .v (.int .i64 a_0.Sent.a0), .v (.int .i64 a_0.Sent.a1), .v (.int .i64 a_0.Got.a0), .v (.int .i64 a_0.Got.a1), .sl 1 (enc a_0.Red), .v (.int .i64 a_0.Late), .v (.int .i64 a_0.Backs)], .agg [.v (.int .i64 b_0.ID), .sl 1 (enc b_0.Cells), .v (.int .i64 b_0.Colour), .v (.int .i64 b_0.Sent.a0), .v (.int .i64 b_0.Sent.a1), .v (.int .i64 b_0.Got.a0), .v (.int .i64 b_0.Got.a1), .sl 1 (enc b_0.Red), .v (.int .i64 b_0.Late), .v (.int .i64 b_0.Backs)]] 0 (.v (.bool r)) := by
 unfold PureS; refine Spec.of_vc Tryz.func13 rfl (by kernel_rfl) (by kernel_rfl) ?_; rw [q4j] at h; refine sg fun _ Q1 => ?_; simp only [go_sem]; refine q8 Q1 (sg fun _ Q2 => ?_); refine sg fun _ Q3 => ?_; simp only [go_sem]; refine q8 Q3 ?_; refine j3 (b := ((((((((!(a_0.ID == b_0.ID)) || (!(a_0.Colour == b_0.Colour))) || (!((a_0.Sent.a0 == b_0.Sent.a0) && (a_0.Sent.a1 == b_0.Sent.a1)))) || (!((a_0.Got.a0 == b_0.Got.a0) && (a_0.Got.a1 == b_0.Got.a1)))) || (!(a_0.Late == b_0.Late))) || (!(a_0.Backs == b_0.Backs))) || (!((List.length a_0.Cells : Int) == (List.length b_0.Cells : Int)))) || (!((List.length a_0.Red : Int) == (List.length b_0.Red : Int))))) (by (simp only [go_sem]; done)) (fun hb_0 => ?_) (fun hb_0 => ?_)
 · replace h := x9 h hb_0; simp only [bool_to_prop] at hb_0; refine sg fun _ Q4 => ?_; simp only [go_sem]; refine q8 Q4 (z8 (y5 Q2 ?_)); simp only [go_sem]; obtain rfl := Option.some.inj h; refine j5 rfl ?_; simp only [go_sem, Le]
 ·
  replace h := u6 h hb_0; simp only [bool_to_prop] at hb_0; refine j4 (q8 Q2 (q0a (by kernel_rfl) ?_)); refine q0x (ι := Unit) (fun (_ : Unit) => (⟨0, [(2, .ptr 0 0), (3, .ptr 1 0)], [(0, .box [.v (.int .i64 a_0.ID), .sl 1 (enc a_0.Cells), .v (.int .i64 a_0.Colour), .v (.int .i64 a_0.Sent.a0), .v (.int .i64 a_0.Sent.a1), .v (.int .i64 a_0.Got.a0), .v (.int .i64 a_0.Got.a1), .sl 1 (enc a_0.Red), .v (.int .i64 a_0.Late), .v (.int .i64 a_0.Backs)]), (1, .box [.v (.int .i64 b_0.ID), .sl 1 (enc b_0.Cells), .v (.int .i64 b_0.Colour), .v (.int .i64 b_0.Sent.a0), .v (.int .i64 b_0.Sent.a1), .v (.int .i64 b_0.Got.a0), .v (.int .i64 b_0.Got.a1), .sl 1 (enc b_0.Red), .v (.int .i64 b_0.Late), .v (.int .i64 b_0.Backs)])], 2, 103⟩ : St)) (fun (_ : Unit) => q4w a_0 b_0 = some r) ?_ ?_
  ·
   intro _ Q16; refine sg fun _ Q17 => ?_; simp only [go_sem]; refine q8 Q17 (y7 ?_); intro _ Q18; refine q06 ?_; refine q0g (ι := Nat × Int) (fun ((_, i_5) : Nat × Int) => (⟨0, [(2, .ptr 0 0), (3, .ptr 1 0), (5, .v (.int .i64 i_5))], [(0, .box [.v (.int .i64 a_0.ID), .sl 1 (enc a_0.Cells), .v (.int .i64 a_0.Colour), .v (.int .i64 a_0.Sent.a0), .v (.int .i64 a_0.Sent.a1), .v (.int .i64 a_0.Got.a0), .v (.int .i64 a_0.Got.a1), .sl 1 (enc a_0.Red), .v (.int .i64 a_0.Late), .v (.int .i64 a_0.Backs)]), (1, .box [.v (.int .i64 b_0.ID), .sl 1 (enc b_0.Cells), .v (.int .i64 b_0.Colour), .v (.int .i64 b_0.Sent.a0), .v (.int .i64 b_0.Sent.a1), .v (.int .i64 b_0.Got.a0), .v (.int .i64 b_0.Got.a1), .sl 1 (enc b_0.Red), .v (.int .i64 b_0.Late), .v (.int .i64 b_0.Backs)])], 2, 103⟩ : St)) (fun ((n_, i_5) : Nat × Int) => p9 (q3g a_0 b_0) n_ i_5 = some r) (fun p => p.1) (rounds, 0) [some 0, some 1] ?_ h ?_
   · simp only [go_sem, Le] <;> (repeat' apply And.intro) <;> (try with_reducible refine x8 ?_) <;> first | omega | (simp [go_sem]; done)
   ·
    rintro ⟨n_3, i_5⟩ h _ Q19; dsimp only at h; replace h := q08 h; obtain ⟨m_3, rfl, h⟩ := h; rw [q3g] at h; refine sg fun _ Q20 => ?_; refine sg fun _ Q21 => ?_; simp only [go_sem]; refine q8 Q21 ?_; refine j3 (b := (decide (i_5 < (List.length a_0.Cells : Int)))) (by (simp only [go_sem]; done)) (fun hb_17 => ?_) (fun hb_17 => ?_)
    ·
     replace h := x9 h hb_17; simp only [bool_to_prop] at hb_17; refine j4 (q8 Q20 (sg fun _ Q22 => ?_)); refine y7 ?_; intro _ Q23; refine sg fun _ Q24 => ?_; refine q0q ?_; refine q0l 10 [0, 1, 0, 7, 15, 0, 32, 0, 224, 480, 1023, 2047] mixed (by kernel_rfl) (of_decide_eq_true (by kernel_rfl)) (by kernel_rfl) ?_; obtain ⟨xv_16, ex16, h⟩ := q9 h; obtain ⟨f16a, f16b, f16c⟩ := u7 ex16; obtain ⟨xv_17, ex17, h⟩ := q9 h; obtain ⟨f17a, f17b, f17c⟩ := u7 ex17; obtain ⟨v_8, ev_8, h⟩ := q9 h; simp only [go_sem, f16a, f16b, f16c, f17a, f17b, f17c]; refine And.intro (by omega) ?_; refine And.intro (by omega) ?_; refine q0f (qn8 xv_16 xv_17 v_8 ev_8) (by rfl) (by rfl) ?_; simp only [go_sem]; refine q8 Q24 ?_; refine j3 (b := (!v_8)) (by (simp only [go_sem]; done)) (fun hb_18 => ?_) (fun hb_18 => ?_)
     · replace h := x9 h hb_18; simp only [bool_to_prop] at hb_18; refine sg fun _ Q25 => ?_; simp only [go_sem]; refine q8 Q25 (z8 (y9 Q23 (y5 Q22 (q04 Q19 (y9 Q18 (q04 Q16 ?_)))))); simp only [go_sem]; obtain rfl := Option.some.inj h; refine j5 rfl ?_; simp only [go_sem, Le]
     · replace h := u6 h hb_18; simp only [bool_to_prop] at hb_18; refine j4 (y8 Q23 (q8 Q22 ?_)); simp only [go_sem]; refine w9 Q19 (⟨(m_3, i64.wrap (i_5 + 1)), [some 0, some 1], ?_, h, Nat.lt_succ_self _⟩); simp only [go_sem, Le] <;> (repeat' apply And.intro) <;> (try with_reducible refine x8 ?_) <;> first | omega | (simp [go_sem]; done)
    · replace h := u6 h hb_17; simp only [bool_to_prop] at hb_17; refine q03 (q09 Q20 (q07 Q19 (d9 Q18 (w9 Q16 (⟨(), [some 0, some 1], ?_, h⟩))))); simp only [go_sem, Le] <;> (repeat' apply And.intro) <;> (try with_reducible refine x8 ?_) <;> first | omega | (simp [go_sem]; done)
  ·
   rintro ⟨⟩ h
   try dsimp only at h
   rw [q4w] at h; refine q0a (by kernel_rfl) ?_; refine q0c ?_; intro _ Q5; refine sg fun _ Q6 => ?_; simp only [go_sem]; refine q8 Q6 (y7 ?_); intro _ Q7; refine q06 ?_; refine q0g (ι := Nat × Int) (fun ((_, i_3) : Nat × Int) => (⟨0, [(2, .ptr 0 0), (3, .ptr 1 0), (6, .v (.int .i64 i_3))], [(0, .box [.v (.int .i64 a_0.ID), .sl 1 (enc a_0.Cells), .v (.int .i64 a_0.Colour), .v (.int .i64 a_0.Sent.a0), .v (.int .i64 a_0.Sent.a1), .v (.int .i64 a_0.Got.a0), .v (.int .i64 a_0.Got.a1), .sl 1 (enc a_0.Red), .v (.int .i64 a_0.Late), .v (.int .i64 a_0.Backs)]), (1, .box [.v (.int .i64 b_0.ID), .sl 1 (enc b_0.Cells), .v (.int .i64 b_0.Colour), .v (.int .i64 b_0.Sent.a0), .v (.int .i64 b_0.Sent.a1), .v (.int .i64 b_0.Got.a0), .v (.int .i64 b_0.Got.a1), .sl 1 (enc b_0.Red), .v (.int .i64 b_0.Late), .v (.int .i64 b_0.Backs)])], 2, 103⟩ : St)) (fun ((n_, i_3) : Nat × Int) => p9 (q3h a_0 b_0) n_ i_3 = some r) (fun p => p.1) (rounds, 0) [some 0, some 1] ?_ h ?_
   · simp only [go_sem, Le] <;> (repeat' apply And.intro) <;> (try with_reducible refine x8 ?_) <;> first | omega | (simp [go_sem]; done)
   ·
    rintro ⟨n_2, i_3⟩ h _ Q8; dsimp only at h; replace h := q08 h; obtain ⟨m_2, rfl, h⟩ := h; rw [q3h] at h; refine sg fun _ Q9 => ?_; refine sg fun _ Q10 => ?_; simp only [go_sem]; refine q8 Q10 ?_; refine j3 (b := (decide (i_3 < (List.length a_0.Red : Int)))) (by (simp only [go_sem]; done)) (fun hb_11 => ?_) (fun hb_11 => ?_)
    ·
     replace h := x9 h hb_11; simp only [bool_to_prop] at hb_11; refine j4 (q8 Q9 (sg fun _ Q11 => ?_)); refine y7 ?_; intro _ Q12; refine sg fun _ Q13 => ?_; refine q0q ?_; refine q0l 10 [0, 1, 0, 7, 15, 0, 32, 0, 224, 480, 1023, 2047] mixed (by kernel_rfl) (of_decide_eq_true (by kernel_rfl)) (by kernel_rfl) ?_; obtain ⟨xv_10, ex10, h⟩ := q9 h; obtain ⟨f10a, f10b, f10c⟩ := u7 ex10; obtain ⟨xv_11, ex11, h⟩ := q9 h; obtain ⟨f11a, f11b, f11c⟩ := u7 ex11; obtain ⟨v_5, ev_5, h⟩ := q9 h; simp only [go_sem, f10a, f10b, f10c, f11a, f11b, f11c]; refine And.intro (by omega) ?_; refine And.intro (by omega) ?_; refine q0f (qo1 xv_10 xv_11 v_5 ev_5) (by rfl) (by rfl) ?_; simp only [go_sem]; refine q8 Q13 ?_; refine j3 (b := (!v_5)) (by (simp only [go_sem]; done)) (fun hb_12 => ?_) (fun hb_12 => ?_)
     · replace h := x9 h hb_12; simp only [bool_to_prop] at hb_12; refine sg fun _ Q14 => ?_; simp only [go_sem]; refine q8 Q14 (z8 (y9 Q12 (y5 Q11 (q04 Q8 (y9 Q7 (y5 Q5 ?_)))))); simp only [go_sem]; obtain rfl := Option.some.inj h; refine j5 rfl ?_; simp only [go_sem, Le]
     · replace h := u6 h hb_12; simp only [bool_to_prop] at hb_12; refine j4 (y8 Q12 (q8 Q11 ?_)); simp only [go_sem]; refine w9 Q8 (⟨(m_2, i64.wrap (i_3 + 1)), [some 0, some 1], ?_, h, Nat.lt_succ_self _⟩); simp only [go_sem, Le] <;> (repeat' apply And.intro) <;> (try with_reducible refine x8 ?_) <;> first | omega | (simp [go_sem]; done)
    · replace h := u6 h hb_11; simp only [bool_to_prop] at hb_11; refine q03 (q09 Q9 (q07 Q8 (d9 Q7 (q8 Q5 (sg fun _ Q15 => ?_))))); simp only [go_sem]; refine q8 Q15 (z8 ?_); simp only [go_sem]; obtain rfl := Option.some.inj h; refine j5 rfl ?_; simp only [go_sem, Le]

def qt5 (g_0 : GGraph) (id_0 : Int) : Option GUnit :=
 q0v (0 ≤ (List.length g_0.Nodes : Int) ∧ (List.length g_0.Nodes : Int) * 24 ≤ 140737488355328) (
 q0v (0 ≤ (List.length g_0.Nodes : Int) ∧ (List.length g_0.Nodes : Int) * 24 ≤ 140737488355328) (
 some (⟨id_0, (List.replicate (List.length g_0.Nodes) ([] : List GSlot)), 0, (⟨0, 0⟩ : Arr2 Int), (⟨0, 0⟩ : Arr2 Int), (List.replicate (List.length g_0.Nodes) ([] : List GTime)), 0, 0⟩ : GUnit)))
theorem z3k (g_0 : GGraph) (id_0 : Int)  (r : GUnit) (h : qt5 g_0 id_0 = some r) : PureS Tryz.prog 14 [.agg [.sl 1 (enc g_0.Parent), .sl 1 (enc g_0.Bound), .sl 4 (enc g_0.Nodes), .sl 4 (enc g_0.Edges)], .v (.int .i64 id_0)] 0 (.agg [.v (.int .i64 r.ID), .sl 1 (enc r.Cells), .v (.int .i64 r.Colour), .v (.int .i64 r.Sent.a0), .v (.int .i64 r.Sent.a1), .v (.int .i64 r.Got.a0), .v (.int .i64 r.Got.a1), .sl 1 (enc r.Red), .v (.int .i64 r.Late), .v (.int .i64 r.Backs)]) := by
 unfold PureS; refine Spec.of_vc Tryz.func14 rfl (by kernel_rfl) (by kernel_rfl) ?_; rw [qt5] at h; refine sg fun _ Q1 => ?_; simp only [go_sem]; refine q8 Q1 (sg fun _ Q2 => ?_); simp only [go_sem]; refine q8 Q2 (sg fun _ Q3 => ?_); refine q0q ?_; refine q0l 5 [0, 0, 2, 0, 8, 31, 63] mixed (by kernel_rfl) (of_decide_eq_true (by kernel_rfl)) (by kernel_rfl) ?_; obtain ⟨g_1, h⟩ := q0k h; have rf_0 : List.replicate (List.length g_0.Nodes) [.sl 10 (enc ([] : List GSlot))] = enc (List.replicate (List.length g_0.Nodes) ([] : List GSlot)) := by (simp [enc, qe3, q9v, q8d, q5r]; exact .inr rfl)
 have rf_0n := rf_0; simp only [q5r] at rf_0n; obtain ⟨g_2, h⟩ := q0k h; have rf_1 : List.replicate (List.length g_0.Nodes) [.sl 5 (enc ([] : List GTime))] = enc (List.replicate (List.length g_0.Nodes) ([] : List GTime)) := by (simp [enc, qe3, q9v, q8d, q5r]; exact .inr rfl)
 have rf_1n := rf_1; simp only [q5r] at rf_1n; simp only [go_sem, g_1, g_2]; refine And.intro (by omega) ?_; refine And.intro (by omega) ?_; simp only [rf_0n, rf_0, rf_1n, rf_1]; refine q8 Q3 (z8 ?_); simp only [go_sem]; obtain rfl := Option.some.inj h; refine j5 rfl ?_; simp only [go_sem, Le]

def q7n (s_0 : List (List GSlot)) : Option (List (List GSlot)) :=
 q0v ((List.length ([] : List (List GSlot)) + List.length s_0) * 24 ≤ 140737488355328) (
 some (([] : List (List GSlot)) ++ s_0))
theorem ql8 (s_0 : List (List GSlot))  (r : List (List GSlot)) (h : q7n s_0 = some r) : DetS Tryz.prog 147 [.sl 1 (enc s_0)] [] 0 (.osl 0 1 (0) (List.length r)) [(0, .arr 1 (enc r))] 1 := by
 unfold DetS; refine Spec.of_vc Tryz.func147 rfl (by kernel_rfl) (by kernel_rfl) ?_; rw [q7n] at h; refine sg fun _ Q1 => ?_; simp only [go_sem]; refine q8 Q1 (sg fun _ Q2 => ?_); refine sg fun _ Q3 => ?_; simp only [go_sem]; intro nb_0 hnb_0; rcases nb_0 with _ | _
 ·
  refine q8 Q3 ?_; refine q55 (by (simp only [go_sem]; done)) ?_; refine j4 (q8 Q2 (sg fun _ Q4 => ?_)); obtain ⟨g_0, h⟩ := q0k h; simp only [List.length_cons, List.length_nil, Nat.zero_add, List.length_append] at g_0; have rf_0 : enc ([] : List (List GSlot)) ++ enc s_0 = enc (([] : List (List GSlot)) ++ s_0) := by exact (q6a ([] : List (List GSlot)) s_0).symm
  simp only [go_sem, g_0, rf_0]; refine q8 Q4 (z8 ?_); simp only [go_sem]; obtain rfl := Option.some.inj h; refine q0e [some 1] ?_; simp only [go_sem, Le]
 ·
  have hE_nb_0 : s_0 = [] := by cases hq : (s_0) with | nil => rfl | cons y ys => exact absurd (hnb_0 (by rw [hq]; simp [enc])) (by simp)
  simp only [hE_nb_0] at h; refine q8 Q3 ?_; refine q0o (by (simp only [go_sem]; done)) ?_; refine sg fun _ Q5 => ?_; simp only [go_sem]; refine q8 Q5 (z8 (y5 Q2 ?_)); simp only [go_sem]; obtain rfl := Option.some.inj h; refine q0e [none] ?_; simp only [go_sem, Le] <;> (repeat' apply And.intro) <;> ((try with_reducible refine x8 ?_); (simp [go_sem]; done))
def q7m (s_0 : List (List GTime)) : Option (List (List GTime)) :=
 q0v ((List.length ([] : List (List GTime)) + List.length s_0) * 24 ≤ 140737488355328) (
 some (([] : List (List GTime)) ++ s_0))
theorem ql7 (s_0 : List (List GTime))  (r : List (List GTime)) (h : q7m s_0 = some r) : DetS Tryz.prog 148 [.sl 1 (enc s_0)] [] 0 (.osl 0 1 (0) (List.length r)) [(0, .arr 1 (enc r))] 1 := by
 unfold DetS; refine Spec.of_vc Tryz.func148 rfl (by kernel_rfl) (by kernel_rfl) ?_; rw [q7m] at h; refine sg fun _ Q1 => ?_; simp only [go_sem]; refine q8 Q1 (sg fun _ Q2 => ?_); refine sg fun _ Q3 => ?_; simp only [go_sem]; intro nb_0 hnb_0; rcases nb_0 with _ | _
 ·
  refine q8 Q3 ?_; refine q55 (by (simp only [go_sem]; done)) ?_; refine j4 (q8 Q2 (sg fun _ Q4 => ?_)); obtain ⟨g_0, h⟩ := q0k h; simp only [List.length_cons, List.length_nil, Nat.zero_add, List.length_append] at g_0; have rf_0 : enc ([] : List (List GTime)) ++ enc s_0 = enc (([] : List (List GTime)) ++ s_0) := by exact (q6a ([] : List (List GTime)) s_0).symm
  simp only [go_sem, g_0, rf_0]; refine q8 Q4 (z8 ?_); simp only [go_sem]; obtain rfl := Option.some.inj h; refine q0e [some 1] ?_; simp only [go_sem, Le]
 ·
  have hE_nb_0 : s_0 = [] := by cases hq : (s_0) with | nil => rfl | cons y ys => exact absurd (hnb_0 (by rw [hq]; simp [enc])) (by simp)
  simp only [hE_nb_0] at h; refine q8 Q3 ?_; refine q0o (by (simp only [go_sem]; done)) ?_; refine sg fun _ Q5 => ?_; simp only [go_sem]; refine q8 Q5 (z8 (y5 Q2 ?_)); simp only [go_sem]; obtain rfl := Option.some.inj h; refine q0e [none] ?_; simp only [go_sem, Le] <;> (repeat' apply And.intro) <;> ((try with_reducible refine x8 ?_); (simp [go_sem]; done))
def q9q (u_0 : GUnit) : Option GUnit :=
 j6 (q7n u_0.Cells) (fun (v_0 : List (List GSlot)) =>
 j6 (q7m u_0.Red) (fun (v_1 : List (List GTime)) =>
 some (⟨u_0.ID, v_0, u_0.Colour, u_0.Sent, u_0.Got, v_1, u_0.Late, u_0.Backs⟩ : GUnit)))
theorem qj0 (u_0 : GUnit)  (r : GUnit) (h : q9q u_0 = some r) : DetS Tryz.prog 82 [.agg [.v (.int .i64 u_0.ID), .sl 1 (enc u_0.Cells), .v (.int .i64 u_0.Colour), .v (.int .i64 u_0.Sent.a0), .v (.int .i64 u_0.Sent.a1), .v (.int .i64 u_0.Got.a0), .v (.int .i64 u_0.Got.a1), .sl 1 (enc u_0.Red), .v (.int .i64 u_0.Late), .v (.int .i64 u_0.Backs)]] [] 0 (.agg [.v (.int .i64 r.ID), .osl 0 1 (0) (List.length r.Cells), .v (.int .i64 r.Colour), .v (.int .i64 r.Sent.a0), .v (.int .i64 r.Sent.a1), .v (.int .i64 r.Got.a0), .v (.int .i64 r.Got.a1), .osl 1 1 (0) (List.length r.Red), .v (.int .i64 r.Late), .v (.int .i64 r.Backs)]) [(0, .arr 1 (enc r.Cells)), (1, .arr 1 (enc r.Red))] 2 := by
 unfold DetS; refine Spec.of_vc Tryz.func82 rfl (by kernel_rfl) (by kernel_rfl) ?_; rw [q9q] at h; refine sg fun _ Q1 => ?_; simp only [go_sem]; refine q8 Q1 (sg fun _ Q2 => ?_); refine q0q ?_; refine q7b 7 0 0 [0, 1, 3, 0, 8, 31, 31, 127, 255, 511] [2, 3] [3, 4, 6] [] [2, 5] [] mixed (by kernel_rfl) (of_decide_eq_true (by kernel_rfl)) (by kernel_rfl) (by kernel_rfl) (by rfl) ?_; obtain ⟨v_0, ev_0, h⟩ := q9 h; simp only [go_sem]; refine qx2 [] (ql8 u_0.Cells v_0 ev_0) rfl trivial rfl rfl rfl rfl ?_; obtain ⟨v_1, ev_1, h⟩ := q9 h; simp only [go_sem]; refine qx2 [] (ql7 u_0.Red v_1 ev_1) rfl trivial rfl rfl rfl rfl ?_; simp only [go_sem]; refine q8 Q2 (sg fun _ Q3 => ?_); simp only [go_sem]; refine q8 Q3 (z8 ?_); simp only [go_sem]; obtain rfl := Option.some.inj h; refine q0e [some 2, some 3] ?_; simp only [go_sem, Le] <;> (repeat' apply And.intro) <;> (try with_reducible refine x8 ?_) <;> first | omega | (simp [go_sem]; done)
def qq3 (g_0 : GGraph) (u_0 : GUnit) (node_0 : Int) (port_0 : Int) (t_0 : GTime) (rv_0 : GRec) (nv_0 : Int) : Option (GUnit × Bool) :=
 j6 (idx u_0.Cells node_0) (fun (xv_0 : List GSlot) =>
 j6 (idx g_0.Nodes node_0) (fun (xv_1 : GNode) =>
 j6 (qg6 xv_0 xv_1.Kind port_0 t_0 rv_0 nv_0) (fun (v_0 : (List GSlot) × Bool × Bool) =>
 (if (!v_0.2.2) = true then some (u_0, false)
 else j6 (q9q u_0) (fun (v_1 : GUnit) =>
 j6 (idx v_1.Cells node_0) (fun (xv_2 : List GSlot) =>
 (if v_0.2.1 = true then some ((⟨v_1.ID, List.set v_1.Cells (Int.toNat node_0) v_0.1, v_1.Colour, v_1.Sent, v_1.Got, v_1.Red, i64.wrap (v_1.Late + 1), v_1.Backs⟩ : GUnit), true)
 else some ((⟨v_1.ID, List.set v_1.Cells (Int.toNat node_0) v_0.1, v_1.Colour, v_1.Sent, v_1.Got, v_1.Red, v_1.Late, v_1.Backs⟩ : GUnit), true))))))))
theorem z1t (g_0 : GGraph) (u_0 : GUnit) (node_0 : Int) (port_0 : Int) (t_0 : GTime) (rv_0 : GRec) (nv_0 : Int)  (r : GUnit × Bool) (h : qq3 g_0 u_0 node_0 port_0 t_0 rv_0 nv_0 = some r) : PureS Tryz.prog 46 [.agg [.sl 1 (enc g_0.Parent), .sl 1 (enc g_0.Bound), .sl 4 (enc g_0.Nodes), .sl 4 (enc g_0.Edges)], .agg [.v (.int .i64 u_0.ID), .sl 1 (enc u_0.Cells), .v (.int .i64 u_0.Colour), .v (.int .i64 u_0.Sent.a0), .v (.int .i64 u_0.Sent.a1), .v (.int .i64 u_0.Got.a0), .v (.int .i64 u_0.Got.a1), .sl 1 (enc u_0.Red), .v (.int .i64 u_0.Late), .v (.int .i64 u_0.Backs)], .v (.int .i64 node_0), .v (.int .i64 port_0), .agg [.v (.int .i64 t_0.D), .v (.int .i64 t_0.C.a0), .v (.int .i64 t_0.C.a1), .v (.int .i64 t_0.C.a2), .v (.int .i64 t_0.C.a3)], .agg [.v (.int .i64 rv_0.K), .v (.int .i64 rv_0.V)], .v (.int .i64 nv_0)] 0 (.tup [.agg [.v (.int .i64 r.1.ID), .sl 1 (enc r.1.Cells), .v (.int .i64 r.1.Colour), .v (.int .i64 r.1.Sent.a0), .v (.int .i64 r.1.Sent.a1), .v (.int .i64 r.1.Got.a0), .v (.int .i64 r.1.Got.a1), .sl 1 (enc r.1.Red), .v (.int .i64 r.1.Late), .v (.int .i64 r.1.Backs)], .v (.bool r.2)]) := by
 unfold PureS; refine Spec.of_vc Tryz.func46 rfl (by kernel_rfl) (by kernel_rfl) ?_; rw [qq3] at h; refine sg fun _ Q1 => ?_; simp only [go_sem]; refine q8 Q1 (sg fun _ Q2 => ?_); refine q0q ?_; refine q0l 22 [0, 1, 0, 7, 15, 0, 32, 0, 224, 480, 992, 0, 0, 0, 0, 32767, 65535, 131071, 131071, 131071, 262143, 1572863, 4194303] mixed (by kernel_rfl) (of_decide_eq_true (by kernel_rfl)) (by kernel_rfl) ?_; obtain ⟨xv_0, ex0, h⟩ := q9 h; obtain ⟨f0a, f0b, f0c⟩ := u7 ex0; obtain ⟨xv_1, ex1, h⟩ := q9 h; obtain ⟨f1a, f1b, f1c⟩ := u7 ex1; obtain ⟨v_0, ev_0, h⟩ := q9 h; simp only [go_sem, f0a, f0b, f0c, f1a, f1b, f1c]; refine And.intro (by omega) ?_; refine And.intro (by omega) ?_; refine callq (fun _ => (z1y xv_0 xv_1.Kind port_0 t_0 rv_0 nv_0 v_0 ev_0)) (by rfl) (by rfl) ?_; simp only [go_sem]; refine q8 Q2 (sg fun _ Q3 => ?_); refine sg fun _ Q4 => ?_; simp only [go_sem]; refine q8 Q4 ?_; refine j3 (b := (!v_0.2.2)) (by (simp only [go_sem]; done)) (fun hb_0 => ?_) (fun hb_0 => ?_)
 · replace h := x9 h hb_0; simp only [bool_to_prop] at hb_0; refine sg fun _ Q5 => ?_; simp only [go_sem]; refine q8 Q5 (z8 (y5 Q3 ?_)); simp only [go_sem]; obtain rfl := Option.some.inj h; refine j5 rfl ?_; simp only [go_sem, Le]
 ·
  replace h := u6 h hb_0; simp only [bool_to_prop] at hb_0; refine j4 (q8 Q3 (sg fun _ Q6 => ?_)); obtain ⟨v_1, ev_1, h⟩ := q9 h; simp only [go_sem]; refine q19 [] (qj0 u_0 v_1 ev_1) (by simp) rfl trivial rfl rfl rfl rfl ?_; simp only [go_sem]; refine q8 Q6 (sg fun _ Q7 => ?_); obtain ⟨xv_2, ex2, h⟩ := q9 h; obtain ⟨f2a, f2b, f2c⟩ := u7 ex2; have rf_0 : (enc v_1.Cells).set (Int.toNat node_0) [.sl 10 (enc v_0.1)] = enc (List.set v_1.Cells (Int.toNat node_0) v_0.1) := by exact q3s _ _ _
  simp only [go_sem, f2a, f2b, f2c, rf_0]; refine And.intro (by omega) ?_; refine q8 Q7 (q0a (by kernel_rfl) ?_); refine q0c ?_; intro _ Q8; refine sg fun _ Q9 => ?_; simp only [go_sem]; refine q8 Q9 ?_; refine j3 (b := v_0.2.1) (by (simp only [go_sem]; done)) (fun hb_1 => ?_) (fun hb_1 => ?_)
  · replace h := x9 h hb_1; simp only [go_sem]; refine q8 Q8 (sg fun _ Q10 => ?_); simp only [go_sem]; refine q8 Q10 (z8 ?_); simp only [go_sem]; obtain rfl := Option.some.inj h; refine j5 rfl ?_; simp only [go_sem, Le] <;> (repeat' apply And.intro) <;> first | ((try with_reducible refine x8 ?_); (simp [go_sem]; done)) | ((try with_reducible refine x8 ?_); (simp [enc]; rw [List.take_of_length_le (by simp)]))
  · replace h := u6 h hb_1; refine j4 (q8 Q8 (sg fun _ Q11 => ?_)); simp only [go_sem]; refine q8 Q11 (z8 ?_); simp only [go_sem]; obtain rfl := Option.some.inj h; refine j5 rfl ?_; simp only [go_sem, Le] <;> (repeat' apply And.intro) <;> first | ((try with_reducible refine x8 ?_); (simp [go_sem]; done)) | ((try with_reducible refine x8 ?_); (simp [enc]; rw [List.take_of_length_le (by simp)]))

def qq4 (g_0 : GGraph) (u_0 : GUnit) (f_0 : GFeed) : Option (GUnit × Bool) :=
 j6 (q4f g_0 u_0) (fun (v_0 : Bool) =>
 (if (((!v_0) || (decide (f_0.Node < 0))) || (decide ((List.length g_0.Nodes : Int) ≤ f_0.Node))) = true then some (u_0, false)
 else j6 (idx g_0.Nodes f_0.Node) (fun (xv_0 : GNode) =>
 (if (!(xv_0.Kind == 1)) = true then some (u_0, false)
 else j6 (qq3 g_0 u_0 f_0.Node 0 (⟨1, (⟨f_0.Epoch, 0, 0, 0⟩ : Arr4 Int)⟩ : GTime) f_0.Rec 1) (fun (v_1 : GUnit × Bool) =>
 some (v_1.1, v_1.2))))))
theorem z1v (g_0 : GGraph) (u_0 : GUnit) (f_0 : GFeed)  (r : GUnit × Bool) (h : qq4 g_0 u_0 f_0 = some r) : PureS Tryz.prog 19 [.agg [.sl 1 (enc g_0.Parent), .sl 1 (enc g_0.Bound), .sl 4 (enc g_0.Nodes), .sl 4 (enc g_0.Edges)], .agg [.v (.int .i64 u_0.ID), .sl 1 (enc u_0.Cells), .v (.int .i64 u_0.Colour), .v (.int .i64 u_0.Sent.a0), .v (.int .i64 u_0.Sent.a1), .v (.int .i64 u_0.Got.a0), .v (.int .i64 u_0.Got.a1), .sl 1 (enc u_0.Red), .v (.int .i64 u_0.Late), .v (.int .i64 u_0.Backs)], .agg [.v (.int .i64 f_0.Node), .v (.int .i64 f_0.Epoch), .v (.int .i64 f_0.Rec.K), .v (.int .i64 f_0.Rec.V)]] 0 (.tup [.agg [.v (.int .i64 r.1.ID), .sl 1 (enc r.1.Cells), .v (.int .i64 r.1.Colour), .v (.int .i64 r.1.Sent.a0), .v (.int .i64 r.1.Sent.a1), .v (.int .i64 r.1.Got.a0), .v (.int .i64 r.1.Got.a1), .sl 1 (enc r.1.Red), .v (.int .i64 r.1.Late), .v (.int .i64 r.1.Backs)], .v (.bool r.2)]) := by
 unfold PureS; refine Spec.of_vc Tryz.func19 rfl (by kernel_rfl) (by kernel_rfl) ?_; rw [qq4] at h; refine sg fun _ Q1 => ?_; simp only [go_sem]; refine q8 Q1 (sg fun _ Q2 => ?_); refine sg fun _ Q3 => ?_; obtain ⟨v_0, ev_0, h⟩ := q9 h; simp only [go_sem]; refine q0f (q6f g_0 u_0 v_0 ev_0) (by rfl) (by rfl) ?_; simp only [go_sem]; rcases hb_0 : (((!v_0) || (decide (f_0.Node < 0))) || (decide ((List.length g_0.Nodes : Int) ≤ f_0.Node))) with _ | _
 ·
  replace h := u6 h hb_0; obtain ⟨xv_0, ex0, h⟩ := q9 h; obtain ⟨f0a, f0b, f0c⟩ := u7 ex0; simp only [go_sem, hb_0, f0a, f0b, f0c]; refine And.intro (by omega) ?_; refine q8 Q3 ?_; refine j3 (b := (!(xv_0.Kind == 1))) (by (simp only [go_sem]; done)) (fun hb_1 => ?_) (fun hb_1 => ?_)
  · replace h := x9 h hb_1; simp only [bool_to_prop] at hb_1; refine sg fun _ Q4 => ?_; simp only [go_sem]; refine q8 Q4 (z8 (y5 Q2 ?_)); simp only [go_sem]; obtain rfl := Option.some.inj h; refine j5 rfl ?_; simp only [go_sem, Le]
  · replace h := u6 h hb_1; simp only [bool_to_prop] at hb_1; refine j4 (q8 Q2 (sg fun _ Q5 => ?_)); obtain ⟨v_1, ev_1, h⟩ := q9 h; simp only [go_sem]; refine q0f (z1t g_0 u_0 f_0.Node 0 (⟨1, (⟨f_0.Epoch, 0, 0, 0⟩ : Arr4 Int)⟩ : GTime) f_0.Rec 1 v_1 ev_1) (by rfl) (by rfl) ?_; simp only [go_sem]; refine q8 Q5 (z8 ?_); simp only [go_sem]; obtain rfl := Option.some.inj h; refine j5 rfl ?_; simp only [go_sem, Le]
 · replace h := x9 h hb_0; simp only [go_sem, hb_0]; refine q8 Q3 ?_; refine q0o (by (simp only [go_sem]; done)) ?_; refine sg fun _ Q6 => ?_; simp only [go_sem]; refine q8 Q6 (z8 (y5 Q2 ?_)); simp only [go_sem]; obtain rfl := Option.some.inj h; refine j5 rfl ?_; simp only [go_sem, Le]

def q3a (g_0 : GGraph) (rec_1 : Int → Option Bool) : Int → Option Bool :=
 fun i_1 =>
 (if (decide (i_1 < (List.length g_0.Nodes : Int))) = true then j6 (idx g_0.Nodes i_1) (fun (xv_2 : GNode) =>
 (if (decide (100 < (List.length xv_2.Prog : Int))) = true then some false
 else rec_1 (i64.wrap (i_1 + 1))))
 else some true)
def q47 (g_0 : GGraph) : Option Bool :=
 (if ((((decide (20 < (List.length g_0.Parent : Int))) || (decide (20 < (List.length g_0.Bound : Int)))) || (decide (60 < (List.length g_0.Nodes : Int)))) || (decide (100 < (List.length g_0.Edges : Int)))) = true then some false
 else p9 (q3a g_0) rounds 0)
theorem qm9 (g_0 : GGraph)  (r : Bool) (h : q47 g_0 = some r) : PureS Tryz.prog 28 [.agg [.sl 1 (enc g_0.Parent), .sl 1 (enc g_0.Bound), .sl 4 (enc g_0.Nodes), .sl 4 (enc g_0.Edges)]] 0 (.v (.bool r)) := by
 unfold PureS; refine Spec.of_vc Tryz.func28 rfl (by kernel_rfl) (by kernel_rfl) ?_; rw [q47] at h; refine sg fun _ Q1 => ?_; simp only [go_sem]; refine q8 Q1 (sg fun _ Q2 => ?_); refine sg fun _ Q3 => ?_; simp only [go_sem]; refine q8 Q3 ?_; refine j3 (b := ((((decide (20 < (List.length g_0.Parent : Int))) || (decide (20 < (List.length g_0.Bound : Int)))) || (decide (60 < (List.length g_0.Nodes : Int)))) || (decide (100 < (List.length g_0.Edges : Int))))) (by (simp only [go_sem]; done)) (fun hb_0 => ?_) (fun hb_0 => ?_)
 · replace h := x9 h hb_0; simp only [bool_to_prop] at hb_0; refine sg fun _ Q4 => ?_; simp only [go_sem]; refine q8 Q4 (z8 (y5 Q2 ?_)); simp only [go_sem]; obtain rfl := Option.some.inj h; refine j5 rfl ?_; simp only [go_sem, Le]
 ·
  replace h := u6 h hb_0; simp only [bool_to_prop] at hb_0; refine j4 (q8 Q2 (q0a (by kernel_rfl) ?_)); refine q0c ?_; intro _ Q5; refine sg fun _ Q6 => ?_; simp only [go_sem]; refine q8 Q6 (y7 ?_); intro _ Q7; refine q06 ?_; refine q0g (ι := Nat × Int) (fun ((_, i_1) : Nat × Int) => (⟨0, [(1, .ptr 0 0), (3, .v (.int .i64 i_1))], [(0, .box [.sl 1 (enc g_0.Parent), .sl 1 (enc g_0.Bound), .sl 4 (enc g_0.Nodes), .sl 4 (enc g_0.Edges)])], 1, 41⟩ : St)) (fun ((n_, i_1) : Nat × Int) => p9 (q3a g_0) n_ i_1 = some r) (fun p => p.1) (rounds, 0) [some 0] ?_ h ?_
  · simp only [go_sem, Le]
  ·
   rintro ⟨n_1, i_1⟩ h _ Q8; dsimp only at h; replace h := q08 h; obtain ⟨m_1, rfl, h⟩ := h; rw [q3a] at h; refine sg fun _ Q9 => ?_; refine sg fun _ Q10 => ?_; simp only [go_sem]; refine q8 Q10 ?_; refine j3 (b := (decide (i_1 < (List.length g_0.Nodes : Int)))) (by (simp only [go_sem]; done)) (fun hb_5 => ?_) (fun hb_5 => ?_)
   ·
    replace h := x9 h hb_5; simp only [bool_to_prop] at hb_5; refine j4 (q8 Q9 (sg fun _ Q11 => ?_)); refine y7 ?_; intro _ Q12; refine sg fun _ Q13 => ?_; obtain ⟨xv_2, ex2, h⟩ := q9 h; obtain ⟨f2a, f2b, f2c⟩ := u7 ex2; simp only [go_sem, f2a, f2b, f2c]; refine And.intro (by omega) ?_; refine q8 Q13 ?_; refine j3 (b := (decide (100 < (List.length xv_2.Prog : Int)))) (by (simp only [go_sem]; done)) (fun hb_6 => ?_) (fun hb_6 => ?_)
    · replace h := x9 h hb_6; simp only [bool_to_prop] at hb_6; refine sg fun _ Q14 => ?_; simp only [go_sem]; refine q8 Q14 (z8 (y9 Q12 (y5 Q11 (q04 Q8 (y9 Q7 (y5 Q5 ?_)))))); simp only [go_sem]; obtain rfl := Option.some.inj h; refine j5 rfl ?_; simp only [go_sem, Le]
    · replace h := u6 h hb_6; simp only [bool_to_prop] at hb_6; refine j4 (y8 Q12 (q8 Q11 ?_)); simp only [go_sem]; refine w9 Q8 (⟨(m_1, i64.wrap (i_1 + 1)), [some 0], ?_, h, Nat.lt_succ_self _⟩); simp only [go_sem, Le]
   · replace h := u6 h hb_5; simp only [bool_to_prop] at hb_5; refine q03 (q09 Q9 (q07 Q8 (d9 Q7 (q8 Q5 (sg fun _ Q15 => ?_))))); simp only [go_sem]; refine q8 Q15 (z8 ?_); simp only [go_sem]; obtain rfl := Option.some.inj h; refine j5 rfl ?_; simp only [go_sem, Le]

def q2k (a_0 : Int) (b_0 : Int) (rec_1 : Unit → Option Unit) : Unit → Option Unit :=
 fun _ =>
 (if (decide ((i64.wrap (a_0 + 1)) < b_0)) = true then none
 else some ())
def q3c (data_0 : List GPoint) (a_0 : Int) (b_0 : Int) (cmp_0 : GPoint → GPoint → Option Int) : Option Unit :=
 p9 (q2k a_0 b_0) rounds ()
theorem q83 (data_0 : List GPoint) (a_0 : Int) (b_0 : Int) (cmp_0 : GPoint → GPoint → Option Int) (g_cmp_0 : FuncId) (c_cmp_0 : List AV) (F_cmp_0 : q0n c_cmp_0 = true) (E_cmp_0 : q02 Tryz.prog g_cmp_0 = true) (H_cmp_0 : ∀ (x0 : GPoint) (x1 : GPoint) (r : Int), cmp_0 x0 x1 = some r → PureS Tryz.prog g_cmp_0 ([.agg [.v (.int .i64 x0.Node), .v (.int .i64 x0.Time.D), .v (.int .i64 x0.Time.C.a0), .v (.int .i64 x0.Time.C.a1), .v (.int .i64 x0.Time.C.a2), .v (.int .i64 x0.Time.C.a3)], .agg [.v (.int .i64 x1.Node), .v (.int .i64 x1.Time.D), .v (.int .i64 x1.Time.C.a0), .v (.int .i64 x1.Time.C.a1), .v (.int .i64 x1.Time.C.a2), .v (.int .i64 x1.Time.C.a3)]] ++ c_cmp_0) 0 (.v (.int .i64 r))) (r : Unit) (h : q3c data_0 a_0 b_0 cmp_0 = some r) : PureS Tryz.prog 201 [.sl 6 (enc data_0), .v (.int .i64 a_0), .v (.int .i64 b_0), .clo g_cmp_0 c_cmp_0] 0 (.tup []) := by
 unfold PureS; refine Spec.of_vc Tryz.func201 rfl (by kernel_rfl) (by kernel_rfl) ?_; rw [q3c] at h; refine sg fun _ Q1 => ?_; simp only [go_sem]; refine q8 Q1 (y7 ?_); intro _ Q2; refine q06 ?_; refine q0g (ι := Nat × Unit) (fun ((_, _) : Nat × Unit) => (⟨0, [(0, .sl 6 (enc data_0)), (1, .v (.int .i64 a_0)), (2, .v (.int .i64 b_0)), (3, .clo g_cmp_0 c_cmp_0), (8, .v (.int .i64 (i64.wrap (a_0 + 1))))], [], 0, 53⟩ : St)) (fun ((n_, u_) : Nat × Unit) => p9 (q2k a_0 b_0) n_ u_ = some r) (fun p => p.1) (rounds, ()) [] ?_ h ?_
 · simp only [go_sem, Le, q0b _ F_cmp_0]
 ·
  rintro ⟨n_1, _⟩ h _ Q3; dsimp only at h; replace h := q08 h; obtain ⟨m_1, rfl, h⟩ := h; rw [q2k] at h; refine sg fun _ Q4 => ?_; refine sg fun _ Q5 => ?_; simp only [go_sem]; refine q8 Q5 ?_; refine j3 (b := (decide ((i64.wrap (a_0 + 1)) < b_0))) (by (simp only [go_sem]; done)) (fun hb_1 => ?_) (fun hb_1 => ?_)
  · replace h := x9 h hb_1; simp only [bool_to_prop] at hb_1; refine j4 (q8 Q4 (q0a (by kernel_rfl) ?_)); refine q0c ?_; intro _ Q6; refine y7 ?_; intro _ Q7; refine sg fun _ Q8 => ?_; exact absurd h (by simp)
  · replace h := u6 h hb_1; simp only [bool_to_prop] at hb_1; refine q03 (q09 Q4 (q07 Q3 (d9 Q2 ?_))); simp only [go_sem]; obtain rfl := Option.some.inj h; refine j5 rfl ?_; simp only [go_sem, Le, q0b _ F_cmp_0]

def q4d (nv_0 : Int) (rec_2 : Unit → Option Unit) : Unit → Option Unit :=
 fun _ =>
 (if (decide (20 < nv_0)) = true then none
 else some ())
def q4b (data_0 : List GPoint) (nv_0 : Int) (cmp_0 : GPoint → GPoint → Option Int) : Option Unit :=
 j6 (q3c data_0 0 nv_0 cmp_0) (fun (v_0 : Unit) =>
 p9 (q4d nv_0) rounds ())
def q4c (data_0 : List GPoint) (nv_0 : Int) (cmp_0 : GPoint → GPoint → Option Int) (rec_3 : Unit → Option Unit) : Unit → Option Unit :=
 fun _ =>
 (if (decide (20 ≤ nv_0)) = true then none
 else q4b data_0 nv_0 cmp_0)
def q50 (data_0 : List GPoint) (nv_0 : Int) (cmp_0 : GPoint → GPoint → Option Int) : Option Unit :=
 p9 (q4c data_0 nv_0 cmp_0) rounds ()
theorem qb1 (data_0 : List GPoint) (nv_0 : Int) (cmp_0 : GPoint → GPoint → Option Int) (g_cmp_0 : FuncId) (c_cmp_0 : List AV) (F_cmp_0 : q0n c_cmp_0 = true) (E_cmp_0 : q02 Tryz.prog g_cmp_0 = true) (H_cmp_0 : ∀ (x0 : GPoint) (x1 : GPoint) (r : Int), cmp_0 x0 x1 = some r → PureS Tryz.prog g_cmp_0 ([.agg [.v (.int .i64 x0.Node), .v (.int .i64 x0.Time.D), .v (.int .i64 x0.Time.C.a0), .v (.int .i64 x0.Time.C.a1), .v (.int .i64 x0.Time.C.a2), .v (.int .i64 x0.Time.C.a3)], .agg [.v (.int .i64 x1.Node), .v (.int .i64 x1.Time.D), .v (.int .i64 x1.Time.C.a0), .v (.int .i64 x1.Time.C.a1), .v (.int .i64 x1.Time.C.a2), .v (.int .i64 x1.Time.C.a3)]] ++ c_cmp_0) 0 (.v (.int .i64 r))) (r : Unit) (h : q50 data_0 nv_0 cmp_0 = some r) : PureS Tryz.prog 154 [.sl 6 (enc data_0), .v (.int .i64 nv_0), .clo g_cmp_0 c_cmp_0] 0 (.tup []) := by
 unfold PureS; refine Spec.of_vc Tryz.func154 rfl (by kernel_rfl) (by kernel_rfl) ?_; rw [q50] at h; refine sg fun _ Q1 => ?_; simp only [go_sem]; refine q8 Q1 (sg fun _ Q2 => ?_); simp only [go_sem]; refine q8 Q2 (q0a (by kernel_rfl) ?_); refine q0x (ι := Unit) (fun (_ : Unit) => (⟨0, [(0, .sl 6 (enc data_0)), (1, .v (.int .i64 nv_0)), (2, .clo g_cmp_0 c_cmp_0), (6, .v (.int .i64 20)), (7, .v (.int .i64 0))], [], 0, 63⟩ : St)) (fun (_ : Unit) => q4b data_0 nv_0 cmp_0 = some r) ?_ ?_
 ·
  intro _ Q10; refine y7 ?_; intro _ Q11; refine q06 ?_; refine q0g (ι := Nat × Unit) (fun ((_, _) : Nat × Unit) => (⟨0, [(0, .sl 6 (enc data_0)), (1, .v (.int .i64 nv_0)), (2, .clo g_cmp_0 c_cmp_0), (6, .v (.int .i64 20)), (7, .v (.int .i64 0)), (8, .v (.int .i64 20))], [], 0, 63⟩ : St)) (fun ((n_, u_) : Nat × Unit) => p9 (q4c data_0 nv_0 cmp_0) n_ u_ = some r) (fun p => p.1) (rounds, ()) [] ?_ h ?_
  · simp only [go_sem, Le, q0b _ F_cmp_0]
  ·
   rintro ⟨n_3, _⟩ h _ Q12; dsimp only at h; replace h := q08 h; obtain ⟨m_3, rfl, h⟩ := h; rw [q4c] at h; refine sg fun _ Q13 => ?_; refine sg fun _ Q14 => ?_; simp only [go_sem]; refine q8 Q14 ?_; refine j3 (b := (decide (20 ≤ nv_0))) (by (simp only [go_sem]; done)) (fun hb_5 => ?_) (fun hb_5 => ?_)
   · replace h := x9 h hb_5; simp only [bool_to_prop] at hb_5; refine j4 (q8 Q13 (y7 ?_)); intro _ Q15; refine sg fun _ Q16 => ?_; exact absurd h (by simp)
   · replace h := u6 h hb_5; simp only [bool_to_prop] at hb_5; refine q03 (q09 Q13 (q07 Q12 (d9 Q11 (w9 Q10 (⟨(), [], ?_, h⟩))))); simp only [go_sem, Le, q0b _ F_cmp_0]
 ·
  rintro ⟨⟩ h
  try dsimp only at h
  rw [q4b] at h; refine sg fun _ Q3 => ?_; obtain ⟨v_0, ev_0, h⟩ := q9 h; simp only [go_sem]; refine q0f (q83 data_0 0 nv_0 cmp_0 g_cmp_0 c_cmp_0 F_cmp_0 E_cmp_0 H_cmp_0 v_0 ev_0) (by rfl) (by simp [q0n, q0y, F_cmp_0]) ?_; simp only [go_sem]; refine q8 Q3 (y7 ?_); intro _ Q4; refine q06 ?_; refine q0g (ι := Nat × Unit) (fun ((_, _) : Nat × Unit) => (⟨0, [(0, .sl 6 (enc data_0)), (1, .v (.int .i64 nv_0)), (2, .clo g_cmp_0 c_cmp_0), (6, .v (.int .i64 20))], [], 0, 63⟩ : St)) (fun ((n_, u_) : Nat × Unit) => p9 (q4d nv_0) n_ u_ = some r) (fun p => p.1) (rounds, ()) [] ?_ h ?_
  · simp only [go_sem, Le, q0b _ F_cmp_0]
  ·
   rintro ⟨n_2, _⟩ h _ Q5; dsimp only at h; replace h := q08 h; obtain ⟨m_2, rfl, h⟩ := h; rw [q4d] at h; refine sg fun _ Q6 => ?_; refine sg fun _ Q7 => ?_; simp only [go_sem]; refine q8 Q7 ?_; refine j3 (b := (decide (20 < nv_0))) (by (simp only [go_sem]; done)) (fun hb_3 => ?_) (fun hb_3 => ?_)
   · replace h := x9 h hb_3; simp only [bool_to_prop] at hb_3; refine j4 (q8 Q6 (y7 ?_)); intro _ Q8; refine sg fun _ Q9 => ?_; exact absurd h (by simp)
   · replace h := u6 h hb_3; simp only [bool_to_prop] at hb_3; refine q03 (q09 Q6 (q07 Q5 (d9 Q4 ?_))); simp only [go_sem]; obtain rfl := Option.some.inj h; refine j5 rfl ?_; simp only [go_sem, Le, q0b _ F_cmp_0]

def q4t (xv_0 : List GPoint) (cmp_0 : GPoint → GPoint → Option Int) : Option Unit :=
 j6 (q50 xv_0 (List.length xv_0 : Int) cmp_0) (fun (v_0 : Unit) =>
 some ())
theorem qa2 (xv_0 : List GPoint) (cmp_0 : GPoint → GPoint → Option Int) (g_cmp_0 : FuncId) (c_cmp_0 : List AV) (F_cmp_0 : q0n c_cmp_0 = true) (E_cmp_0 : q02 Tryz.prog g_cmp_0 = true) (H_cmp_0 : ∀ (x0 : GPoint) (x1 : GPoint) (r : Int), cmp_0 x0 x1 = some r → PureS Tryz.prog g_cmp_0 ([.agg [.v (.int .i64 x0.Node), .v (.int .i64 x0.Time.D), .v (.int .i64 x0.Time.C.a0), .v (.int .i64 x0.Time.C.a1), .v (.int .i64 x0.Time.C.a2), .v (.int .i64 x0.Time.C.a3)], .agg [.v (.int .i64 x1.Node), .v (.int .i64 x1.Time.D), .v (.int .i64 x1.Time.C.a0), .v (.int .i64 x1.Time.C.a1), .v (.int .i64 x1.Time.C.a2), .v (.int .i64 x1.Time.C.a3)]] ++ c_cmp_0) 0 (.v (.int .i64 r))) (r : Unit) (h : q4t xv_0 cmp_0 = some r) : PureS Tryz.prog 87 [.sl 6 (enc xv_0), .clo g_cmp_0 c_cmp_0] 0 (.tup []) := by
 unfold PureS; refine Spec.of_vc Tryz.func87 rfl (by kernel_rfl) (by kernel_rfl) ?_; rw [q4t] at h; obtain ⟨v_0, ev_0, h⟩ := q9 h; simp only [go_sem]; refine q0f (qb1 xv_0 (List.length xv_0 : Int) cmp_0 g_cmp_0 c_cmp_0 F_cmp_0 E_cmp_0 H_cmp_0 v_0 ev_0) (by rfl) (by simp [q0n, q0y, F_cmp_0]) ?_; simp only [go_sem]; obtain rfl := Option.some.inj h; refine j5 rfl ?_; simp only [go_sem, Le, q0b _ F_cmp_0]

def q89 (a_0 : GPoint) (b_0 : GPoint) : Option Int :=
 j6 (q6g a_0.Time b_0.Time) (fun (v_0 : Bool) =>
 (if v_0 = true then some (-1)
 else j6 (q6g b_0.Time a_0.Time) (fun (v_1 : Bool) =>
 (if v_1 = true then some 1
 else some 0))))
theorem qw7 (a_0 : GPoint) (b_0 : GPoint)  (r : Int) (h : q89 a_0 b_0 = some r) : PureS Tryz.prog 88 [.agg [.v (.int .i64 a_0.Node), .v (.int .i64 a_0.Time.D), .v (.int .i64 a_0.Time.C.a0), .v (.int .i64 a_0.Time.C.a1), .v (.int .i64 a_0.Time.C.a2), .v (.int .i64 a_0.Time.C.a3)], .agg [.v (.int .i64 b_0.Node), .v (.int .i64 b_0.Time.D), .v (.int .i64 b_0.Time.C.a0), .v (.int .i64 b_0.Time.C.a1), .v (.int .i64 b_0.Time.C.a2), .v (.int .i64 b_0.Time.C.a3)]] 0 (.v (.int .i64 r)) := by
 unfold PureS; refine Spec.of_vc Tryz.func88 rfl (by kernel_rfl) (by kernel_rfl) ?_; rw [q89] at h; refine sg fun _ Q1 => ?_; simp only [go_sem]; refine q8 Q1 (sg fun _ Q2 => ?_); refine y7 ?_; intro _ Q3; refine sg fun _ Q4 => ?_; obtain ⟨v_0, ev_0, h⟩ := q9 h; simp only [go_sem]; refine q0f (q8l a_0.Time b_0.Time v_0 ev_0) (by rfl) (by rfl) ?_; simp only [go_sem]; refine q8 Q4 ?_; refine j3 (b := v_0) (by (simp only [go_sem]; done)) (fun hb_0 => ?_) (fun hb_0 => ?_)
 · replace h := x9 h hb_0; refine sg fun _ Q5 => ?_; simp only [go_sem]; refine q8 Q5 (z8 (y9 Q3 (y5 Q2 ?_))); simp only [go_sem]; obtain rfl := Option.some.inj h; refine j5 rfl ?_; simp only [go_sem, Le]
 ·
  replace h := u6 h hb_0; refine sg fun _ Q6 => ?_; obtain ⟨v_1, ev_1, h⟩ := q9 h; simp only [go_sem]; refine q0f (q8l b_0.Time a_0.Time v_1 ev_1) (by rfl) (by rfl) ?_; simp only [go_sem]; refine q8 Q6 ?_; refine j3 (b := v_1) (by (simp only [go_sem]; done)) (fun hb_1 => ?_) (fun hb_1 => ?_)
  · replace h := x9 h hb_1; refine sg fun _ Q7 => ?_; simp only [go_sem]; refine q8 Q7 (z8 (y9 Q3 (y5 Q2 ?_))); simp only [go_sem]; obtain rfl := Option.some.inj h; refine j5 rfl ?_; simp only [go_sem, Le]
  · replace h := u6 h hb_1; refine j4 (y8 Q3 (q8 Q2 (sg fun _ Q8 => ?_))); simp only [go_sem]; refine q8 Q8 (z8 ?_); simp only [go_sem]; obtain rfl := Option.some.inj h; refine j5 rfl ?_; simp only [go_sem, Le]

def qa0 (a_8 : List GPoint) : Option (List GPoint) :=
 j6 (q4t a_8 (fun x0_ x1_ => q89 x0_ x1_)) (fun (v_4 : Unit) =>
 some a_8)
def qa1 (t17_3 : Int) (rec_2 : (Int × (List GPoint) → Option (List GPoint))) (v_7 : List GTime) (rec_3 : Int × (List GPoint) → Option (List GPoint)) : Int × (List GPoint) → Option (List GPoint) :=
 fun (t32_11, a_16) =>
 (if (decide (t32_11 < (List.length v_7 : Int))) = true then j6 (idx v_7 t32_11) (fun (xv_29 : GTime) =>
 q0v ((List.length a_16 + List.length ([(⟨t17_3, xv_29⟩ : GPoint)] : List GPoint)) * 48 ≤ 140737488355328) (
 rec_3 (i64.wrap (t32_11 + 1), (a_16 ++ ([(⟨t17_3, xv_29⟩ : GPoint)] : List GPoint)))))
 else rec_2 (i64.wrap (t17_3 + 1), a_16))
def q7k (g_0 : GGraph) (u_0 : GUnit) (rec_2 : Int × (List GPoint) → Option (List GPoint)) : Int × (List GPoint) → Option (List GPoint) :=
 fun (t17_3, a_14) =>
 (if (decide (t17_3 < (List.length u_0.Cells : Int))) = true then j6 (idx u_0.Cells t17_3) (fun (xv_25 : List GSlot) =>
 j6 (idx g_0.Nodes t17_3) (fun (xv_26 : GNode) =>
 (if (xv_26.Kind == 15) = true then rec_2 (i64.wrap (t17_3 + 1), a_14)
 else j6 (qm2 xv_25) (fun (v_7 : List GTime) =>
 p9 (qa1 t17_3 rec_2 v_7) rounds (0, a_14)))))
 else qa0 a_14)
def q7r (g_0 : GGraph) (u_0 : GUnit) : Option (List GPoint) :=
 j6 (q4f g_0 u_0) (fun (v_0 : Bool) =>
 (if (!v_0) = true then some ([] : List GPoint)
 else p9 (q7k g_0 u_0) rounds (0, [])))
theorem qj1 (g_0 : GGraph) (u_0 : GUnit)  (r : List GPoint) (h : q7r g_0 u_0 = some r) : DetS Tryz.prog 34 [.agg [.sl 1 (enc g_0.Parent), .sl 1 (enc g_0.Bound), .sl 4 (enc g_0.Nodes), .sl 4 (enc g_0.Edges)], .agg [.v (.int .i64 u_0.ID), .sl 1 (enc u_0.Cells), .v (.int .i64 u_0.Colour), .v (.int .i64 u_0.Sent.a0), .v (.int .i64 u_0.Sent.a1), .v (.int .i64 u_0.Got.a0), .v (.int .i64 u_0.Got.a1), .sl 1 (enc u_0.Red), .v (.int .i64 u_0.Late), .v (.int .i64 u_0.Backs)]] [] 0 (.osl 0 6 (0) (List.length r)) [(0, .arr 6 (enc r))] 1 := by
 unfold DetS; refine Spec.of_vc Tryz.func34 rfl (by kernel_rfl) (by kernel_rfl) ?_; rw [q7r] at h; refine sg fun _ Q1 => ?_; simp only [go_sem]; refine q8 Q1 (sg fun _ Q2 => ?_); simp only [go_sem]; refine q8 Q2 (sg fun _ Q3 => ?_); refine sg fun _ Q4 => ?_; obtain ⟨v_0, ev_0, h⟩ := q9 h; simp only [go_sem]; refine q0f (q6f g_0 u_0 v_0 ev_0) (by rfl) (by rfl) ?_; simp only [go_sem]; refine q8 Q4 ?_; refine j3 (b := (!v_0)) (by (simp only [go_sem]; done)) (fun hb_0 => ?_) (fun hb_0 => ?_)
 · replace h := x9 h hb_0; simp only [bool_to_prop] at hb_0; refine sg fun _ Q5 => ?_; simp only [go_sem]; refine q8 Q5 (z8 (y5 Q3 ?_)); simp only [go_sem]; obtain rfl := Option.some.inj h; refine q0e [none] ?_; simp only [go_sem, Le] <;> (repeat' apply And.intro) <;> ((try with_reducible refine x8 ?_); (simp [go_sem]; done))
 ·
  replace h := u6 h hb_0; simp only [bool_to_prop] at hb_0; refine j4 (q8 Q3 (q0a (by kernel_rfl) ?_)); refine q0x (ι := (List GPoint)) (fun (a_8 : (List GPoint)) => (⟨0, [(5, .osl 0 6 (0) (List.length a_8))], [(0, .arr 6 (enc a_8))], 1, 47⟩ : St)) (fun (a_8 : (List GPoint)) => qa0 a_8 = some r) ?_ ?_
  ·
   intro _ Q8; refine sg fun _ Q9 => ?_; simp only [go_sem]; refine q8 Q9 (y7 ?_); intro _ Q10; refine q06 ?_; refine q0g (ι := Nat × Int × (List GPoint)) (fun ((_, t17_3, a_14) : Nat × Int × (List GPoint)) => (⟨0, [(2, .ptr 0 0), (5, .osl 1 6 (0) (List.length a_14)), (15, .sl 1 (enc u_0.Cells)), (16, .v (.int .i64 (List.length u_0.Cells : Int))), (17, .v (.int .i64 t17_3))], [(0, .box [.sl 1 (enc g_0.Parent), .sl 1 (enc g_0.Bound), .sl 4 (enc g_0.Nodes), .sl 4 (enc g_0.Edges)]), (1, .arr 6 (enc a_14))], 2, 47⟩ : St)) (fun ((n_, t17_3, a_14) : Nat × Int × (List GPoint)) => p9 (q7k g_0 u_0) n_ (t17_3, a_14) = some r) (fun p => p.1) (rounds, 0, []) [some 0, none] ?_ h ?_
   · simp only [go_sem, Le] <;> (repeat' apply And.intro) <;> ((try with_reducible refine x8 ?_); (simp [go_sem]; done))
   ·
    rintro ⟨n_2, t17_3, a_14⟩ h _ Q11; dsimp only at h; replace h := q08 h; obtain ⟨m_2, rfl, h⟩ := h; rw [q7k] at h; refine sg fun _ Q12 => ?_; simp only [go_sem]; refine q8 Q12 (sg fun _ Q13 => ?_); refine j3 (b := (decide (t17_3 < (List.length u_0.Cells : Int)))) (by (simp only [go_sem]; done)) (fun hb_26 => ?_) (fun hb_26 => ?_)
    ·
     replace h := x9 h hb_26; simp only [bool_to_prop] at hb_26; refine j4 (q8 Q13 (q0a (by kernel_rfl) ?_)); refine q0c ?_; intro _ Q14; refine y7 ?_; intro _ Q15; refine sg fun _ Q16 => ?_; obtain ⟨xv_25, ex25, h⟩ := q9 h; obtain ⟨f25a, f25b, f25c⟩ := u7 ex25; simp only [go_sem, f25a, f25b, f25c]; refine And.intro (by omega) ?_; refine q8 Q16 (sg fun _ Q17 => ?_); refine sg fun _ Q18 => ?_; obtain ⟨xv_26, ex26, h⟩ := q9 h; obtain ⟨f26a, f26b, f26c⟩ := u7 ex26; simp only [go_sem, f26a, f26b, f26c]; refine And.intro (by omega) ?_; refine q8 Q18 ?_; refine j3 (b := (xv_26.Kind == 15)) (by (simp only [go_sem]; done)) (fun hb_27 => ?_) (fun hb_27 => ?_)
     · replace h := x9 h hb_27; simp only [bool_to_prop] at hb_27; refine q03 (q09 Q17 (d9 Q15 (q8 Q14 ?_))); simp only [go_sem]; refine w9 Q11 (⟨(m_2, i64.wrap (t17_3 + 1), a_14), [some 0, some 1], ?_, h, Nat.lt_succ_self _⟩); simp only [go_sem, Le] <;> (repeat' apply And.intro) <;> (try with_reducible refine x8 ?_) <;> first | omega | (simp [go_sem]; done)
     ·
      replace h := u6 h hb_27; simp only [bool_to_prop] at hb_27; refine j4 (q8 Q17 (sg fun _ Q19 => ?_)); obtain ⟨v_7, ev_7, h⟩ := q9 h; simp only [go_sem]; refine q19 [] (z0j xv_25 v_7 ev_7) (by simp) rfl trivial rfl rfl rfl rfl ?_; simp only [go_sem]; refine q8 Q19 (y7 ?_); intro _ Q20; refine q06 ?_; refine q0g (ι := Nat × Int × (List GPoint)) (fun ((_, t32_11, a_16) : Nat × Int × (List GPoint)) => (⟨0, [(2, .ptr 0 0), (5, .osl 1 6 (0) (List.length a_16)), (6, .v (.int .i64 t17_3)), (15, .sl 1 (enc u_0.Cells)), (16, .v (.int .i64 (List.length u_0.Cells : Int))), (17, .v (.int .i64 t17_3)), (30, .osl 2 5 (0) (List.length v_7)), (31, .v (.int .i64 (List.length v_7 : Int))), (32, .v (.int .i64 t32_11))], [(0, .box [.sl 1 (enc g_0.Parent), .sl 1 (enc g_0.Bound), .sl 4 (enc g_0.Nodes), .sl 4 (enc g_0.Edges)]), (1, .arr 6 (enc a_16)), (2, .arr 5 (enc v_7))], 3, 47⟩ : St)) (fun ((n_, t32_11, a_16) : Nat × Int × (List GPoint)) => p9 (qa1 t17_3 (p9 (q7k g_0 u_0) m_2) v_7) n_ (t32_11, a_16) = some r) (fun p => p.1) (rounds, 0, a_14) [some 0, some 1, some 2] ?_ h ?_
      · simp only [go_sem, Le] <;> (repeat' apply And.intro) <;> (try with_reducible refine x8 ?_) <;> first | omega | (simp [go_sem]; done)
      ·
       rintro ⟨n_3, t32_11, a_16⟩ h _ Q21; dsimp only at h; replace h := q08 h; obtain ⟨m_3, rfl, h⟩ := h; rw [qa1] at h; refine sg fun _ Q22 => ?_; simp only [go_sem]; refine q8 Q22 (sg fun _ Q23 => ?_); refine j3 (b := (decide (t32_11 < (List.length v_7 : Int)))) (by (simp only [go_sem]; done)) (fun hb_30 => ?_) (fun hb_30 => ?_)
       ·
        replace h := x9 h hb_30; simp only [bool_to_prop] at hb_30; refine j4 (q8 Q23 (sg fun _ Q24 => ?_)); refine y7 ?_; intro _ Q25; refine sg fun _ Q26 => ?_; obtain ⟨xv_29, ex29, h⟩ := q9 h; obtain ⟨f29a, f29b, f29c⟩ := u7 ex29; simp only [go_sem, f29a, f29b, f29c]; refine And.intro (by omega) ?_; refine q8 Q26 ?_; have rf_32 : [[.v (.int .i64 t17_3), .v (.int .i64 xv_29.D), .v (.int .i64 xv_29.C.a0), .v (.int .i64 xv_29.C.a1), .v (.int .i64 xv_29.C.a2), .v (.int .i64 xv_29.C.a3)]] = enc ([(⟨t17_3, xv_29⟩ : GPoint)] : List GPoint) := by rfl
        obtain ⟨g_18, h⟩ := q0k h; simp only [List.length_cons, List.length_nil, Nat.zero_add, List.length_append] at g_18; have rf_33 : enc a_16 ++ [[.v (.int .i64 t17_3), .v (.int .i64 xv_29.D), .v (.int .i64 xv_29.C.a0), .v (.int .i64 xv_29.C.a1), .v (.int .i64 xv_29.C.a2), .v (.int .i64 xv_29.C.a3)]] = enc (a_16 ++ ([(⟨t17_3, xv_29⟩ : GPoint)] : List GPoint)) := by exact (q6a a_16 ([(⟨t17_3, xv_29⟩ : GPoint)] : List GPoint)).symm
        simp only [go_sem, g_18, rf_33]; simp only [rf_32]; refine y8 Q25 (q8 Q24 ?_); simp only [go_sem]; refine w9 Q21 (⟨(m_3, i64.wrap (t32_11 + 1), (a_16 ++ ([(⟨t17_3, xv_29⟩ : GPoint)] : List GPoint))), [some 0, some 5, some 2], ?_, h, Nat.lt_succ_self _⟩); simp only [go_sem, Le] <;> (repeat' apply And.intro) <;> (try with_reducible refine x8 ?_) <;> first | omega | (simp [go_sem]; done)
       · replace h := u6 h hb_30; simp only [bool_to_prop] at hb_30; refine q03 (q09 Q23 (q07 Q21 (d9 Q20 (y8 Q15 (q8 Q14 ?_))))); simp only [go_sem]; refine w9 Q11 (⟨(m_2, i64.wrap (t17_3 + 1), a_16), [some 0, some 1], ?_, h, Nat.lt_succ_self _⟩); simp only [go_sem, Le] <;> (repeat' apply And.intro) <;> (try with_reducible refine x8 ?_) <;> first | omega | (simp [go_sem]; done)
    · replace h := u6 h hb_26; simp only [bool_to_prop] at hb_26; refine q03 (q09 Q13 (q07 Q11 (d9 Q10 (w9 Q8 (⟨a_14, [some 1], ?_, h⟩))))); simp only [go_sem, Le]
  ·
   rintro a_8 h
   try dsimp only at h
   rw [qa0] at h; refine sg fun _ Q6 => ?_; obtain ⟨v_4, ev_4, h⟩ := q9 h; simp only [go_sem]; refine qg9 (s' := (⟨0, [(5, .sl 6 (enc a_8)), (44, .sl 6 (enc a_8))], [], 0, 47⟩ : St)) (l := []) (args' := [.sl 6 (enc a_8), .clo 88 []]) ?_ ?_ (qa2 a_8 (fun x0_ x1_ => q89 x0_ x1_) 88 [] (by rfl) (by kernel_rfl) (fun y0 y1 r_ e_ => qw7 y0 y1 r_ e_) v_4 ev_4) (by rfl) (by rfl) ?_
   · simp only [go_sem, Le] <;> (repeat' apply And.intro) <;> ((try with_reducible refine x8 ?_); (simp [go_sem]; done))
   · simp only [go_sem, Le] <;> (repeat' apply And.intro) <;> ((try with_reducible refine x8 ?_); (simp [go_sem]; done))
   simp only [go_sem]; refine q8 Q6 (sg fun _ Q7 => ?_); simp only [go_sem]; refine q8 Q7 (z8 ?_); simp only [go_sem]; obtain rfl := Option.some.inj h; refine q0e [some 0] ?_; simp only [go_sem, Le]
theorem z0e (g_0 : GGraph) (u_0 : GUnit)  (r : List GPoint) (h : q7r g_0 u_0 = some r) : PureS Tryz.prog 34 [.agg [.sl 1 (enc g_0.Parent), .sl 1 (enc g_0.Bound), .sl 4 (enc g_0.Nodes), .sl 4 (enc g_0.Edges)], .agg [.v (.int .i64 u_0.ID), .sl 1 (enc u_0.Cells), .v (.int .i64 u_0.Colour), .v (.int .i64 u_0.Sent.a0), .v (.int .i64 u_0.Sent.a1), .v (.int .i64 u_0.Got.a0), .v (.int .i64 u_0.Got.a1), .sl 1 (enc u_0.Red), .v (.int .i64 u_0.Late), .v (.int .i64 u_0.Backs)]] 0 (.sl 6 (enc r)) := by
 refine (qj1 g_0 u_0  r h).pure ?_; simp only [go_sem, Le] <;> (repeat' apply And.intro) <;> ((try with_reducible refine x8 ?_); (simp [go_sem]; done))

def q63 (s_0 : List GPoint) (v_0 : GPoint) (rec_1 : Int → Option Int) : Int → Option Int :=
 fun t8_1 =>
 (if (decide (t8_1 < (List.length s_0 : Int))) = true then j6 (idx s_0 t8_1) (fun (xv_2 : GPoint) =>
 (if ((v_0.Node == xv_2.Node) && ((v_0.Time.D == xv_2.Time.D) && ((v_0.Time.C.a0 == xv_2.Time.C.a0) && ((v_0.Time.C.a1 == xv_2.Time.C.a1) && ((v_0.Time.C.a2 == xv_2.Time.C.a2) && (v_0.Time.C.a3 == xv_2.Time.C.a3)))))) = true then some t8_1
 else rec_1 (i64.wrap (t8_1 + 1))))
 else some (-1))
def q7l (s_0 : List GPoint) (v_0 : GPoint) : Option Int :=
 p9 (q63 s_0 v_0) rounds 0
theorem qn5 (s_0 : List GPoint) (v_0 : GPoint)  (r : Int) (h : q7l s_0 v_0 = some r) : PureS Tryz.prog 104 [.sl 6 (enc s_0), .agg [.v (.int .i64 v_0.Node), .v (.int .i64 v_0.Time.D), .v (.int .i64 v_0.Time.C.a0), .v (.int .i64 v_0.Time.C.a1), .v (.int .i64 v_0.Time.C.a2), .v (.int .i64 v_0.Time.C.a3)]] 0 (.v (.int .i64 r)) := by
 unfold PureS; refine Spec.of_vc Tryz.func104 rfl (by kernel_rfl) (by kernel_rfl) ?_; rw [q7l] at h; refine sg fun _ Q1 => ?_; simp only [go_sem]; refine q8 Q1 (q0a (by kernel_rfl) ?_); refine q0c ?_; intro _ Q2; refine sg fun _ Q3 => ?_; simp only [go_sem]; refine q8 Q3 (y7 ?_); intro _ Q4; refine q06 ?_; refine q0g (ι := Nat × Int) (fun ((_, t8_1) : Nat × Int) => (⟨0, [(0, .sl 6 (enc s_0)), (3, .ptr 0 0), (7, .v (.int .i64 (List.length s_0 : Int))), (8, .v (.int .i64 t8_1))], [(0, .box [.v (.int .i64 v_0.Node), .v (.int .i64 v_0.Time.D), .v (.int .i64 v_0.Time.C.a0), .v (.int .i64 v_0.Time.C.a1), .v (.int .i64 v_0.Time.C.a2), .v (.int .i64 v_0.Time.C.a3)])], 1, 19⟩ : St)) (fun ((n_, t8_1) : Nat × Int) => p9 (q63 s_0 v_0) n_ t8_1 = some r) (fun p => p.1) (rounds, 0) [some 0] ?_ h ?_
 · simp only [go_sem, Le]
 ·
  rintro ⟨n_1, t8_1⟩ h _ Q5; dsimp only at h; replace h := q08 h; obtain ⟨m_1, rfl, h⟩ := h; rw [q63] at h; refine sg fun _ Q6 => ?_; simp only [go_sem]; refine q8 Q6 (sg fun _ Q7 => ?_); refine j3 (b := (decide (t8_1 < (List.length s_0 : Int)))) (by (simp only [go_sem]; done)) (fun hb_4 => ?_) (fun hb_4 => ?_)
  ·
   replace h := x9 h hb_4; simp only [bool_to_prop] at hb_4; refine j4 (q8 Q7 (sg fun _ Q8 => ?_)); refine y7 ?_; intro _ Q9; refine sg fun _ Q10 => ?_; simp only [go_sem]; refine q8 Q10 (sg fun _ Q11 => ?_); refine q0q ?_; refine q0l 5 [0, 0, 0, 6, 14, 31] mixed (by kernel_rfl) (of_decide_eq_true (by kernel_rfl)) (by kernel_rfl) ?_; obtain ⟨xv_2, ex2, h⟩ := q9 h; obtain ⟨f2a, f2b, f2c⟩ := u7 ex2; simp only [go_sem, f2a, f2b, f2c]; refine And.intro (by omega) ?_; refine q8 Q11 ?_; refine j3 (b := ((v_0.Node == xv_2.Node) && ((v_0.Time.D == xv_2.Time.D) && ((v_0.Time.C.a0 == xv_2.Time.C.a0) && ((v_0.Time.C.a1 == xv_2.Time.C.a1) && ((v_0.Time.C.a2 == xv_2.Time.C.a2) && (v_0.Time.C.a3 == xv_2.Time.C.a3))))))) (by (simp only [go_sem]; done)) (fun hb_5 => ?_) (fun hb_5 => ?_)
   · replace h := x9 h hb_5; simp only [bool_to_prop] at hb_5; refine sg fun _ Q12 => ?_; simp only [go_sem]; refine q8 Q12 (z8 (y9 Q9 (y5 Q8 (q04 Q5 (y9 Q4 (y5 Q2 ?_)))))); simp only [go_sem]; obtain rfl := Option.some.inj h; refine j5 rfl ?_; simp only [go_sem, Le]
   · replace h := u6 h hb_5; simp only [bool_to_prop] at hb_5; refine j4 (y8 Q9 (q8 Q8 ?_)); simp only [go_sem]; refine w9 Q5 (⟨(m_1, i64.wrap (t8_1 + 1)), [some 0], ?_, h, Nat.lt_succ_self _⟩); simp only [go_sem, Le]
  · replace h := u6 h hb_4; simp only [bool_to_prop] at hb_4; refine q03 (q09 Q7 (q07 Q5 (d9 Q4 (q8 Q2 (sg fun _ Q13 => ?_))))); simp only [go_sem]; refine q8 Q13 (z8 ?_); simp only [go_sem]; obtain rfl := Option.some.inj h; refine j5 rfl ?_; simp only [go_sem, Le]

def q64 (s_0 : List GPoint) (v_0 : GPoint) : Option Bool :=
 j6 (q7l s_0 v_0) (fun (v_1 : Int) =>
 some (decide (0 ≤ v_1)))
theorem qi6 (s_0 : List GPoint) (v_0 : GPoint)  (r : Bool) (h : q64 s_0 v_0 = some r) : PureS Tryz.prog 80 [.sl 6 (enc s_0), .agg [.v (.int .i64 v_0.Node), .v (.int .i64 v_0.Time.D), .v (.int .i64 v_0.Time.C.a0), .v (.int .i64 v_0.Time.C.a1), .v (.int .i64 v_0.Time.C.a2), .v (.int .i64 v_0.Time.C.a3)]] 0 (.v (.bool r)) := by
 unfold PureS; refine Spec.of_vc Tryz.func80 rfl (by kernel_rfl) (by kernel_rfl) ?_; rw [q64] at h; refine sg fun _ Q1 => ?_; simp only [go_sem]; refine q8 Q1 (sg fun _ Q2 => ?_); obtain ⟨v_1, ev_1, h⟩ := q9 h; simp only [go_sem]; refine q0f (qn5 s_0 v_0 v_1 ev_1) (by rfl) (by rfl) ?_; simp only [go_sem]; refine q8 Q2 (z8 ?_); simp only [go_sem]; obtain rfl := Option.some.inj h; refine j5 rfl ?_; simp only [go_sem, Le]

def q9s (nv_0 : Int) (cap_0 : List (List GItem)) : Option (List GItem) :=
 (if (decide ((List.length cap_0 : Int) ≤ nv_0)) = true then some ([] : List GItem)
 else j6 (idx cap_0 nv_0) (fun (xv_0 : List GItem) =>
 j6 (q9m xv_0) (fun (v_0 : List GItem) =>
 some v_0)))
theorem qj2 (nv_0 : Int) (cap_0 : List (List GItem))  (r : List GItem) (h : q9s nv_0 cap_0 = some r) : DetS Tryz.prog 172 [.v (.int .i64 nv_0), .el 1 [[.sl 1 (enc cap_0)]] 0 0] [] 0 (.osl 0 3 (0) (List.length r)) [(0, .arr 3 (enc r))] 1 := by
 unfold DetS; refine Spec.of_vc Tryz.func172 rfl (by kernel_rfl) (by kernel_rfl) ?_; rw [q9s] at h; refine sg fun _ Q1 => ?_; simp only [go_sem]; refine q8 Q1 (sg fun _ Q2 => ?_); refine sg fun _ Q3 => ?_; simp only [go_sem]; refine q8 Q3 ?_; refine j3 (b := (decide ((List.length cap_0 : Int) ≤ nv_0))) (by (simp only [go_sem]; done)) (fun hb_0 => ?_) (fun hb_0 => ?_)
 · replace h := x9 h hb_0; simp only [bool_to_prop] at hb_0; refine sg fun _ Q4 => ?_; simp only [go_sem]; refine q8 Q4 (z8 (y5 Q2 ?_)); simp only [go_sem]; obtain rfl := Option.some.inj h; refine q0e [none] ?_; simp only [go_sem, Le] <;> (repeat' apply And.intro) <;> ((try with_reducible refine x8 ?_); (simp [go_sem]; done))
 · replace h := u6 h hb_0; simp only [bool_to_prop] at hb_0; refine j4 (q8 Q2 (sg fun _ Q5 => ?_)); obtain ⟨xv_0, ex0, h⟩ := q9 h; obtain ⟨f0a, f0b, f0c⟩ := u7 ex0; obtain ⟨v_0, ev_0, h⟩ := q9 h; simp only [go_sem, f0a, f0b, f0c]; refine And.intro (by omega) ?_; refine q19 [] (qd3 xv_0 v_0 ev_0) (by simp) rfl trivial rfl rfl rfl rfl ?_; simp only [go_sem]; refine q8 Q5 (z8 ?_); simp only [go_sem]; obtain rfl := Option.some.inj h; refine q0e [some 0] ?_; simp only [go_sem, Le]
def q1l (t4_0 : Bool) : Option Bool :=
 (if t4_0 = true then some true
 else some false)
def qm1 (kind_0 : Int) : Option Bool :=
 (if (kind_0 == 1) = true then q1l (kind_0 == 1)
 else (if (kind_0 == 2) = true then q1l (kind_0 == 2)
 else (if (kind_0 == 3) = true then q1l (kind_0 == 3)
 else (if (kind_0 == 4) = true then q1l (kind_0 == 4)
 else (if (kind_0 == 5) = true then q1l (kind_0 == 5)
 else (if (kind_0 == 10) = true then q1l (kind_0 == 10)
 else (if (kind_0 == 11) = true then q1l (kind_0 == 11)
 else (if (kind_0 == 12) = true then q1l (kind_0 == 12)
 else (if (kind_0 == 13) = true then q1l (kind_0 == 13)
 else q1l (kind_0 == 15))))))))))
theorem z1b (kind_0 : Int)  (r : Bool) (h : qm1 kind_0 = some r) : PureS Tryz.prog 175 [.v (.int .i64 kind_0)] 0 (.v (.bool r)) := by
 unfold PureS; refine Spec.of_vc Tryz.func175 rfl (by kernel_rfl) (by kernel_rfl) ?_; rw [qm1] at h; refine sg fun _ Q1 => ?_; simp only [go_sem]; refine q8 Q1 (q0a (by kernel_rfl) ?_); refine q0c ?_; intro _ Q2; refine sg fun _ Q3 => ?_; simp only [go_sem]; refine q8 Q3 (y7 ?_); intro _ Q4; refine q0a (by kernel_rfl) ?_; refine q0x (ι := Bool) (fun (t4_0 : Bool) => (⟨0, [(4, .v (.bool t4_0))], [], 0, 15⟩ : St)) (fun (t4_0 : Bool) => q1l t4_0 = some r) ?_ ?_
 ·
  intro _ Q7; refine sg fun _ Q8 => ?_; simp only [go_sem]; refine q8 Q8 ?_; refine j3 (b := (kind_0 == 1)) (by (simp only [go_sem]; done)) (fun hb_10 => ?_) (fun hb_10 => ?_)
  · replace h := x9 h hb_10; simp only [bool_to_prop] at hb_10; refine j4 (w9 Q7 (⟨(kind_0 == 1), [], ?_, h⟩)); simp only [go_sem, Le]
  ·
   replace h := u6 h hb_10; simp only [bool_to_prop] at hb_10; refine sg fun _ Q9 => ?_; simp only [go_sem]; refine q8 Q9 ?_; refine j3 (b := (kind_0 == 2)) (by (simp only [go_sem]; done)) (fun hb_11 => ?_) (fun hb_11 => ?_)
   · replace h := x9 h hb_11; simp only [bool_to_prop] at hb_11; refine j4 (w9 Q7 (⟨(kind_0 == 2), [], ?_, h⟩)); simp only [go_sem, Le]
   ·
    replace h := u6 h hb_11; simp only [bool_to_prop] at hb_11; refine sg fun _ Q10 => ?_; simp only [go_sem]; refine q8 Q10 ?_; refine j3 (b := (kind_0 == 3)) (by (simp only [go_sem]; done)) (fun hb_12 => ?_) (fun hb_12 => ?_)
    · replace h := x9 h hb_12; simp only [bool_to_prop] at hb_12; refine j4 (w9 Q7 (⟨(kind_0 == 3), [], ?_, h⟩)); simp only [go_sem, Le]
    ·
     replace h := u6 h hb_12; simp only [bool_to_prop] at hb_12; refine sg fun _ Q11 => ?_; simp only [go_sem]; refine q8 Q11 ?_; refine j3 (b := (kind_0 == 4)) (by (simp only [go_sem]; done)) (fun hb_13 => ?_) (fun hb_13 => ?_)
     · replace h := x9 h hb_13; simp only [bool_to_prop] at hb_13; refine j4 (w9 Q7 (⟨(kind_0 == 4), [], ?_, h⟩)); simp only [go_sem, Le]
     ·
      replace h := u6 h hb_13; simp only [bool_to_prop] at hb_13; refine sg fun _ Q12 => ?_; simp only [go_sem]; refine q8 Q12 ?_; refine j3 (b := (kind_0 == 5)) (by (simp only [go_sem]; done)) (fun hb_14 => ?_) (fun hb_14 => ?_)
      · replace h := x9 h hb_14; simp only [bool_to_prop] at hb_14; refine j4 (w9 Q7 (⟨(kind_0 == 5), [], ?_, h⟩)); simp only [go_sem, Le]
      ·
       replace h := u6 h hb_14; simp only [bool_to_prop] at hb_14; refine sg fun _ Q13 => ?_; simp only [go_sem]; refine q8 Q13 ?_; refine j3 (b := (kind_0 == 10)) (by (simp only [go_sem]; done)) (fun hb_15 => ?_) (fun hb_15 => ?_)
       · replace h := x9 h hb_15; simp only [bool_to_prop] at hb_15; refine j4 (w9 Q7 (⟨(kind_0 == 10), [], ?_, h⟩)); simp only [go_sem, Le]
       ·
        replace h := u6 h hb_15; simp only [bool_to_prop] at hb_15; refine sg fun _ Q14 => ?_; simp only [go_sem]; refine q8 Q14 ?_; refine j3 (b := (kind_0 == 11)) (by (simp only [go_sem]; done)) (fun hb_16 => ?_) (fun hb_16 => ?_)
        · replace h := x9 h hb_16; simp only [bool_to_prop] at hb_16; refine j4 (w9 Q7 (⟨(kind_0 == 11), [], ?_, h⟩)); simp only [go_sem, Le]
        ·
         replace h := u6 h hb_16; simp only [bool_to_prop] at hb_16; refine sg fun _ Q15 => ?_; simp only [go_sem]; refine q8 Q15 ?_; refine j3 (b := (kind_0 == 12)) (by (simp only [go_sem]; done)) (fun hb_17 => ?_) (fun hb_17 => ?_)
         · replace h := x9 h hb_17; simp only [bool_to_prop] at hb_17; refine j4 (w9 Q7 (⟨(kind_0 == 12), [], ?_, h⟩)); simp only [go_sem, Le]
         ·
          replace h := u6 h hb_17; simp only [bool_to_prop] at hb_17; refine sg fun _ Q16 => ?_; simp only [go_sem]; refine q8 Q16 ?_; refine j3 (b := (kind_0 == 13)) (by (simp only [go_sem]; done)) (fun hb_18 => ?_) (fun hb_18 => ?_)
          · replace h := x9 h hb_18; simp only [bool_to_prop] at hb_18; refine j4 (w9 Q7 (⟨(kind_0 == 13), [], ?_, h⟩)); simp only [go_sem, Le]
          · replace h := u6 h hb_18; simp only [bool_to_prop] at hb_18; simp only [go_sem]; refine w9 Q7 (⟨(kind_0 == 15), [], ?_, h⟩); simp only [go_sem, Le]
 ·
  rintro t4_0 h
  try dsimp only at h
  rw [q1l] at h; refine j3 (b := t4_0) (by (simp only [go_sem]; done)) (fun hb_9 => ?_) (fun hb_9 => ?_)
  · replace h := x9 h hb_9; refine sg fun _ Q5 => ?_; simp only [go_sem]; refine q8 Q5 (z8 (y9 Q4 (y5 Q2 ?_))); simp only [go_sem]; obtain rfl := Option.some.inj h; refine j5 rfl ?_; simp only [go_sem, Le]
  · replace h := u6 h hb_9; refine j4 (y8 Q4 (q8 Q2 (sg fun _ Q6 => ?_))); simp only [go_sem]; refine q8 Q6 (z8 ?_); simp only [go_sem]; obtain rfl := Option.some.inj h; refine j5 rfl ?_; simp only [go_sem, Le]

def qm0 (xv_0 : GNode) (rv_0 : GRec) : Option (List GRec) :=
 (if (xv_0.Kind == 2) = true then none
 else (if (xv_0.Kind == 3) = true then none
 else (if (xv_0.Kind == 4) = true then none
 else some ([rv_0] : List GRec))))
theorem z0g (xv_0 : GNode) (rv_0 : GRec)  (r : List GRec) (h : qm0 xv_0 rv_0 = some r) : DetS Tryz.prog 213 [.agg [.v (.int .i64 xv_0.Kind), .v (.int .i64 xv_0.Scope), .v (.int .i64 xv_0.Arg), .sl 2 (enc xv_0.Prog)], .agg [.v (.int .i64 rv_0.K), .v (.int .i64 rv_0.V)]] [] 0 (.osl 0 2 (0) (List.length r)) [(0, .arr 2 (enc r))] 1 := by
 unfold DetS; refine Spec.of_vc Tryz.func213 rfl (by kernel_rfl) (by kernel_rfl) ?_; rw [qm0] at h; refine sg fun _ Q1 => ?_; simp only [go_sem]; refine q8 Q1 (q0a (by kernel_rfl) ?_); refine q0c ?_; intro _ Q2; refine sg fun _ Q3 => ?_; simp only [go_sem]; refine q8 Q3 (y7 ?_); intro _ Q4; refine sg fun _ Q5 => ?_; simp only [go_sem]; refine q8 Q5 ?_; refine j3 (b := (xv_0.Kind == 2)) (by (simp only [go_sem]; done)) (fun hb_0 => ?_) (fun hb_0 => ?_)
 · replace h := x9 h hb_0; simp only [bool_to_prop] at hb_0; refine sg fun _ Q6 => ?_; exact absurd h (by simp)
 ·
  replace h := u6 h hb_0; simp only [bool_to_prop] at hb_0; refine sg fun _ Q7 => ?_; simp only [go_sem]; refine q8 Q7 ?_; refine j3 (b := (xv_0.Kind == 3)) (by (simp only [go_sem]; done)) (fun hb_1 => ?_) (fun hb_1 => ?_)
  · replace h := x9 h hb_1; simp only [bool_to_prop] at hb_1; refine sg fun _ Q8 => ?_; exact absurd h (by simp)
  ·
   replace h := u6 h hb_1; simp only [bool_to_prop] at hb_1; refine sg fun _ Q9 => ?_; simp only [go_sem]; refine q8 Q9 ?_; refine j3 (b := (xv_0.Kind == 4)) (by (simp only [go_sem]; done)) (fun hb_2 => ?_) (fun hb_2 => ?_)
   · replace h := x9 h hb_2; simp only [bool_to_prop] at hb_2; refine sg fun _ Q10 => ?_; exact absurd h (by simp)
   ·
    replace h := u6 h hb_2; simp only [bool_to_prop] at hb_2; refine j4 (y8 Q4 (q8 Q2 (sg fun _ Q11 => ?_))); have rf_0 : [[.v (.int .i64 rv_0.K), .v (.int .i64 rv_0.V)]] = enc ([rv_0] : List GRec) := by rfl
    simp only [go_sem]; simp only [rf_0]; refine q8 Q11 (z8 ?_); simp only [go_sem]; obtain rfl := Option.some.inj h; refine q0e [some 2] ?_; simp only [go_sem, Le]
def q65 (mv_0 : GOps_maker) (rv_0 : GRec) (nv_0 : Int) : Option (Bool × GOps_maker) :=
 (if (decide ((i64.wrap (65536 - mv_0.many)) < nv_0)) = true then some (false, mv_0)
 else q0v ((List.length mv_0.out + List.length ([(⟨rv_0, nv_0⟩ : GItem)] : List GItem)) * 24 ≤ 140737488355328) (
 some (true, (⟨(mv_0.out ++ ([(⟨rv_0, nv_0⟩ : GItem)] : List GItem)), i64.wrap (mv_0.many + nv_0)⟩ : GOps_maker))))
theorem qh8 (mv_0 : GOps_maker) (rv_0 : GRec) (nv_0 : Int)  (r : Bool × GOps_maker) (h : q65 mv_0 rv_0 nv_0 = some r) : DetS Tryz.prog 176 [.ptr 0 0, .agg [.v (.int .i64 rv_0.K), .v (.int .i64 rv_0.V)], .v (.int .i64 nv_0)] [(0, .box [.osl 1 3 (0) (List.length mv_0.out), .v (.int .i64 mv_0.many)]), (1, .arr 3 (enc mv_0.out))] 2 (.v (.bool r.1)) [(0, .box [.osl 2 3 (0) (List.length r.2.out), .v (.int .i64 r.2.many)]), (2, .arr 3 (enc r.2.out))] 3 := by
 unfold DetS; refine Spec.of_vc Tryz.func176 rfl (by kernel_rfl) (by kernel_rfl) ?_; rw [q65] at h; refine sg fun _ Q1 => ?_; simp only [go_sem]; refine q8 Q1 (sg fun _ Q2 => ?_); refine sg fun _ Q3 => ?_; simp only [go_sem]; refine q8 Q3 ?_; refine j3 (b := (decide ((i64.wrap (65536 - mv_0.many)) < nv_0))) (by (simp only [go_sem]; done)) (fun hb_0 => ?_) (fun hb_0 => ?_)
 · replace h := x9 h hb_0; simp only [bool_to_prop] at hb_0; refine sg fun _ Q4 => ?_; simp only [go_sem]; refine q8 Q4 (z8 (y5 Q2 ?_)); simp only [go_sem]; obtain rfl := Option.some.inj h; refine q0e [some 1] ?_; simp only [go_sem, Le] <;> (repeat' apply And.intro) <;> (try with_reducible refine x8 ?_) <;> first | omega | (simp [go_sem]; done)
 ·
  replace h := u6 h hb_0; simp only [bool_to_prop] at hb_0; refine j4 (q8 Q2 (sg fun _ Q5 => ?_)); simp only [go_sem]; refine q8 Q5 (sg fun _ Q6 => ?_); refine q0q ?_; refine q7b 10 0 0 [0, 0, 2, 6, 14, 0, 0, 96, 224, 510, 1023, 2047, 4095] [1, 3] [0] [] [9] [] mixed (by kernel_rfl) (of_decide_eq_true (by kernel_rfl)) (by kernel_rfl) (by kernel_rfl) (by rfl) ?_; have rf_0 : [[.v (.int .i64 rv_0.K), .v (.int .i64 rv_0.V), .v (.int .i64 nv_0)]] = enc ([(⟨rv_0, nv_0⟩ : GItem)] : List GItem) := by rfl
  obtain ⟨g_0, h⟩ := q0k h; simp only [List.length_cons, List.length_nil, Nat.zero_add, List.length_append] at g_0; have rf_1 : enc mv_0.out ++ [[.v (.int .i64 rv_0.K), .v (.int .i64 rv_0.V), .v (.int .i64 nv_0)]] = enc (mv_0.out ++ ([(⟨rv_0, nv_0⟩ : GItem)] : List GItem)) := by exact (q6a mv_0.out ([(⟨rv_0, nv_0⟩ : GItem)] : List GItem)).symm
  simp only [go_sem, g_0, rf_1]; simp only [rf_0]; refine q8 Q6 (sg fun _ Q7 => ?_); simp only [go_sem]; refine q8 Q7 (z8 ?_); simp only [go_sem]; obtain rfl := Option.some.inj h; refine q0e [some 3] ?_; simp only [go_sem, Le] <;> (repeat' apply And.intro) <;> (try with_reducible refine x8 ?_) <;> first | omega | (simp [go_sem]; done)

def q4u (t13_1 : Int) (rec_1 : (Int × Int × (List GItem) → Option (Bool × GOps_maker))) (xv_9 : GItem) (v_8 : List GRec) (rec_2 : Int × Int × (List GItem) → Option (Bool × GOps_maker)) : Int × Int × (List GItem) → Option (Bool × GOps_maker) :=
 fun (t22_5, b_8, a_7) =>
 (if (decide (t22_5 < (List.length v_8 : Int))) = true then j6 (idx v_8 t22_5) (fun (xv_12 : GRec) =>
 j6 (q65 (⟨a_7, b_8⟩ : GOps_maker) xv_12 xv_9.N) (fun (v_11 : Bool × GOps_maker) =>
 (if (!v_11.1) = true then some (false, v_11.2)
 else rec_2 (i64.wrap (t22_5 + 1), v_11.2.many, v_11.2.out))))
 else rec_1 (i64.wrap (t13_1 + 1), b_8, a_7))
def q2u (xv_0 : GNode) (b_0 : List GItem) (rec_1 : Int × Int × (List GItem) → Option (Bool × GOps_maker)) : Int × Int × (List GItem) → Option (Bool × GOps_maker) :=
 fun (t13_1, b_6, a_5) =>
 (if (decide (t13_1 < (List.length b_0 : Int))) = true then j6 (idx b_0 t13_1) (fun (xv_9 : GItem) =>
 j6 (qm0 xv_0 xv_9.Rec) (fun (v_8 : List GRec) =>
 p9 (q4u t13_1 rec_1 xv_9 v_8) rounds (0, b_6, a_5)))
 else some (true, (⟨a_5, b_6⟩ : GOps_maker)))
def q5j (mv_0 : GOps_maker) (xv_0 : GNode) (b_0 : List GItem) : Option (Bool × GOps_maker) :=
 p9 (q2u xv_0 b_0) rounds (0, mv_0.many, mv_0.out)
theorem qc9 (mv_0 : GOps_maker) (xv_0 : GNode) (b_0 : List GItem)  (r : Bool × GOps_maker) (h : q5j mv_0 xv_0 b_0 = some r) : DetS Tryz.prog 174 [.ptr 0 0, .agg [.v (.int .i64 xv_0.Kind), .v (.int .i64 xv_0.Scope), .v (.int .i64 xv_0.Arg), .sl 2 (enc xv_0.Prog)], .sl 3 (enc b_0)] [(0, .box [.osl 1 3 (0) (List.length mv_0.out), .v (.int .i64 mv_0.many)]), (1, .arr 3 (enc mv_0.out))] 2 (.v (.bool r.1)) [(0, .box [.osl 2 3 (0) (List.length r.2.out), .v (.int .i64 r.2.many)]), (2, .arr 3 (enc r.2.out))] 3 := by
 unfold DetS; refine Spec.of_vc Tryz.func174 rfl (by kernel_rfl) (by kernel_rfl) ?_; rw [q5j] at h; refine sg fun _ Q1 => ?_; simp only [go_sem]; refine q8 Q1 (q0a (by kernel_rfl) ?_); refine q0c ?_; intro _ Q2; refine sg fun _ Q3 => ?_; simp only [go_sem]; refine q8 Q3 (y7 ?_); intro _ Q4; refine q06 ?_; refine q0g (ι := Nat × Int × Int × (List GItem)) (fun ((_, t13_1, b_6, a_5) : Nat × Int × Int × (List GItem)) => (⟨2, [(0, .ptr 0 0), (4, .ptr 2 0), (11, .sl 3 (enc b_0)), (12, .v (.int .i64 (List.length b_0 : Int))), (13, .v (.int .i64 t13_1))], [(0, .box [.osl 3 3 (0) (List.length a_5), .v (.int .i64 b_6)]), (2, .box [.v (.int .i64 xv_0.Kind), .v (.int .i64 xv_0.Scope), .v (.int .i64 xv_0.Arg), .sl 2 (enc xv_0.Prog)]), (3, .arr 3 (enc a_5))], 4, 34⟩ : St)) (fun ((n_, t13_1, b_6, a_5) : Nat × Int × Int × (List GItem)) => p9 (q2u xv_0 b_0) n_ (t13_1, b_6, a_5) = some r) (fun p => p.1) (rounds, 0, mv_0.many, mv_0.out) [some 2, some 1] ?_ h ?_
 · simp only [go_sem, Le] <;> (repeat' apply And.intro) <;> (try with_reducible refine x8 ?_) <;> first | omega | (simp [go_sem]; done)
 ·
  rintro ⟨n_1, t13_1, b_6, a_5⟩ h _ Q5; dsimp only at h; replace h := q08 h; obtain ⟨m_1, rfl, h⟩ := h; rw [q2u] at h; refine sg fun _ Q6 => ?_; simp only [go_sem]; refine q8 Q6 (sg fun _ Q7 => ?_); refine j3 (b := (decide (t13_1 < (List.length b_0 : Int)))) (by (simp only [go_sem]; done)) (fun hb_14 => ?_) (fun hb_14 => ?_)
  ·
   replace h := x9 h hb_14; simp only [bool_to_prop] at hb_14; refine j4 (q8 Q7 (q0a (by kernel_rfl) ?_)); refine q0c ?_; intro _ Q8; refine y7 ?_; intro _ Q9; refine sg fun _ Q10 => ?_; obtain ⟨xv_9, ex9, h⟩ := q9 h; obtain ⟨f9a, f9b, f9c⟩ := u7 ex9; simp only [go_sem, f9a, f9b, f9c]; refine And.intro (by omega) ?_; refine q8 Q10 (sg fun _ Q11 => ?_); obtain ⟨v_8, ev_8, h⟩ := q9 h; simp only [go_sem]; refine q19 [] (z0g xv_0 xv_9.Rec v_8 ev_8) (by simp) rfl trivial rfl rfl rfl rfl ?_; simp only [go_sem]; refine q8 Q11 (y7 ?_); intro _ Q12; refine q06 ?_; refine q0g (ι := Nat × Int × Int × (List GItem)) (fun ((_, t22_5, b_8, a_7) : Nat × Int × Int × (List GItem)) => (⟨2, [(0, .ptr 0 0), (4, .ptr 2 0), (8, .ptr 3 0), (11, .sl 3 (enc b_0)), (12, .v (.int .i64 (List.length b_0 : Int))), (13, .v (.int .i64 t13_1)), (20, .osl 4 2 (0) (List.length v_8)), (21, .v (.int .i64 (List.length v_8 : Int))), (22, .v (.int .i64 t22_5))], [(0, .box [.osl 5 3 (0) (List.length a_7), .v (.int .i64 b_8)]), (2, .box [.v (.int .i64 xv_0.Kind), .v (.int .i64 xv_0.Scope), .v (.int .i64 xv_0.Arg), .sl 2 (enc xv_0.Prog)]), (3, .box [.v (.int .i64 xv_9.Rec.K), .v (.int .i64 xv_9.Rec.V), .v (.int .i64 xv_9.N)]), (4, .arr 2 (enc v_8)), (5, .arr 3 (enc a_7))], 6, 34⟩ : St)) (fun ((n_, t22_5, b_8, a_7) : Nat × Int × Int × (List GItem)) => p9 (q4u t13_1 (p9 (q2u xv_0 b_0) m_1) xv_9 v_8) n_ (t22_5, b_8, a_7) = some r) (fun p => p.1) (rounds, 0, b_6, a_5) [some 2, some 4, some 5, some 3] ?_ h ?_
   · simp only [go_sem, Le] <;> (repeat' apply And.intro) <;> (try with_reducible refine x8 ?_) <;> first | omega | (simp [go_sem]; done)
   ·
    rintro ⟨n_2, t22_5, b_8, a_7⟩ h _ Q13; dsimp only at h; replace h := q08 h; obtain ⟨m_2, rfl, h⟩ := h; rw [q4u] at h; refine sg fun _ Q14 => ?_; simp only [go_sem]; refine q8 Q14 (sg fun _ Q15 => ?_); refine j3 (b := (decide (t22_5 < (List.length v_8 : Int)))) (by (simp only [go_sem]; done)) (fun hb_19 => ?_) (fun hb_19 => ?_)
    ·
     replace h := x9 h hb_19; simp only [bool_to_prop] at hb_19; refine j4 (q8 Q15 (sg fun _ Q16 => ?_)); refine y7 ?_; intro _ Q17; refine sg fun _ Q18 => ?_; obtain ⟨xv_12, ex12, h⟩ := q9 h; obtain ⟨f12a, f12b, f12c⟩ := u7 ex12; simp only [go_sem, f12a, f12b, f12c]; refine And.intro (by omega) ?_; refine q8 Q18 (sg fun _ Q19 => ?_); obtain ⟨v_11, ev_11, h⟩ := q9 h; simp only [go_sem]; refine q19 [0, 5] (qh8 (⟨a_7, b_8⟩ : GOps_maker) xv_12 xv_9.N v_11 ev_11) (by simp) rfl ⟨rfl, ⟨rfl, trivial⟩⟩ rfl rfl rfl rfl ?_; simp only [go_sem]; refine q8 Q19 ?_; refine j3 (b := (!v_11.1)) (by (simp only [go_sem]; done)) (fun hb_20 => ?_) (fun hb_20 => ?_)
     · replace h := x9 h hb_20; simp only [bool_to_prop] at hb_20; refine sg fun _ Q20 => ?_; simp only [go_sem]; refine q8 Q20 (z8 (y9 Q17 (y5 Q16 (q04 Q13 (y9 Q12 (y9 Q9 (y5 Q8 (q04 Q5 (y9 Q4 (y5 Q2 ?_)))))))))); simp only [go_sem]; obtain rfl := Option.some.inj h; refine q0e [some 7] ?_; simp only [go_sem, Le] <;> (repeat' apply And.intro) <;> (try with_reducible refine x8 ?_) <;> first | omega | (simp [go_sem]; done)
     · replace h := u6 h hb_20; simp only [bool_to_prop] at hb_20; refine j4 (y8 Q17 (q8 Q16 ?_)); simp only [go_sem]; refine w9 Q13 (⟨(m_2, i64.wrap (t22_5 + 1), v_11.2.many, v_11.2.out), [some 2, some 3, some 4, some 7], ?_, h, Nat.lt_succ_self _⟩); simp only [go_sem, Le] <;> (repeat' apply And.intro) <;> (try with_reducible refine x8 ?_) <;> first | omega | (simp [go_sem]; done)
    · replace h := u6 h hb_19; simp only [bool_to_prop] at hb_19; refine q03 (q09 Q15 (q07 Q13 (d9 Q12 (y8 Q9 (q8 Q8 ?_))))); simp only [go_sem]; refine w9 Q5 (⟨(m_1, i64.wrap (t13_1 + 1), b_8, a_7), [some 2, some 5], ?_, h, Nat.lt_succ_self _⟩); simp only [go_sem, Le] <;> (repeat' apply And.intro) <;> (try with_reducible refine x8 ?_) <;> first | omega | (simp [go_sem]; done)
  · replace h := u6 h hb_14; simp only [bool_to_prop] at hb_14; refine q03 (q09 Q7 (q07 Q5 (d9 Q4 (q8 Q2 (sg fun _ Q21 => ?_))))); simp only [go_sem]; refine q8 Q21 (z8 ?_); simp only [go_sem]; obtain rfl := Option.some.inj h; refine q0e [some 3] ?_; simp only [go_sem, Le] <;> (repeat' apply And.intro) <;> (try with_reducible refine x8 ?_) <;> first | omega | (simp [go_sem]; done)

def q5a (mv_0 : GOps_maker) (rec_1 : Int × (List GItem) → Option ((List GItem) × GOps_maker)) : Int × (List GItem) → Option ((List GItem) × GOps_maker) :=
 fun (t11_1, a_1) =>
 (if (decide (t11_1 < (List.length mv_0.out : Int))) = true then j6 (idx mv_0.out t11_1) (fun (xv_2 : GItem) =>
 j6 (qa7 a_1 xv_2.Rec xv_2.N) (fun (v_2 : List GItem) =>
 rec_1 (i64.wrap (t11_1 + 1), v_2)))
 else some (a_1, mv_0))
def q5w (mv_0 : GOps_maker) : Option ((List GItem) × GOps_maker) :=
 p9 (q5a mv_0) rounds (0, [])
theorem qf1 (mv_0 : GOps_maker)  (r : (List GItem) × GOps_maker) (h : q5w mv_0 = some r) : DetS Tryz.prog 179 [.ptr 0 0] [(0, .box [.osl 1 3 (0) (List.length mv_0.out), .v (.int .i64 mv_0.many)]), (1, .arr 3 (enc mv_0.out))] 2 (.osl 2 3 (0) (List.length r.1)) [(0, .box [.osl 3 3 (0) (List.length r.2.out), .v (.int .i64 r.2.many)]), (2, .arr 3 (enc r.1)), (3, .arr 3 (enc r.2.out))] 4 := by
 unfold DetS; refine Spec.of_vc Tryz.func179 rfl (by kernel_rfl) (by kernel_rfl) ?_; rw [q5w] at h; refine sg fun _ Q1 => ?_; simp only [go_sem]; refine q8 Q1 (sg fun _ Q2 => ?_); simp only [go_sem]; refine q8 Q2 (q0a (by kernel_rfl) ?_); refine q0c ?_; intro _ Q3; refine sg fun _ Q4 => ?_; simp only [go_sem]; refine q8 Q4 (y7 ?_); intro _ Q5; refine q06 ?_; refine q0g (ι := Nat × Int × (List GItem)) (fun ((_, t11_1, a_1) : Nat × Int × (List GItem)) => (⟨2, [(3, .osl 2 3 (0) (List.length a_1)), (9, .osl 1 3 (0) (List.length mv_0.out)), (10, .v (.int .i64 (List.length mv_0.out : Int))), (11, .v (.int .i64 t11_1))], [(0, .box [.osl 1 3 (0) (List.length mv_0.out), .v (.int .i64 mv_0.many)]), (1, .arr 3 (enc mv_0.out)), (2, .arr 3 (enc a_1))], 3, 23⟩ : St)) (fun ((n_, t11_1, a_1) : Nat × Int × (List GItem)) => p9 (q5a mv_0) n_ (t11_1, a_1) = some r) (fun p => p.1) (rounds, 0, []) [none] ?_ h ?_
 · simp only [go_sem, Le] <;> (repeat' apply And.intro) <;> (try with_reducible refine x8 ?_) <;> first | omega | (simp [go_sem]; done)
 ·
  rintro ⟨n_1, t11_1, a_1⟩ h _ Q6; dsimp only at h; replace h := q08 h; obtain ⟨m_1, rfl, h⟩ := h; rw [q5a] at h; refine sg fun _ Q7 => ?_; simp only [go_sem]; refine q8 Q7 (sg fun _ Q8 => ?_); refine j3 (b := (decide (t11_1 < (List.length mv_0.out : Int)))) (by (simp only [go_sem]; done)) (fun hb_2 => ?_) (fun hb_2 => ?_)
  ·
   replace h := x9 h hb_2; simp only [bool_to_prop] at hb_2; refine j4 (q8 Q8 (sg fun _ Q9 => ?_)); refine y7 ?_; intro _ Q10; refine sg fun _ Q11 => ?_; obtain ⟨xv_2, ex2, h⟩ := q9 h; obtain ⟨f2a, f2b, f2c⟩ := u7 ex2; simp only [go_sem, f2a, f2b, f2c]; refine And.intro (by omega) ?_; refine q8 Q11 ?_; obtain ⟨v_2, ev_2, h⟩ := q9 h; simp only [go_sem]; refine q41 (s' := (⟨2, [(3, .sl 3 (enc a_1)), (5, .ptr 2 0), (9, .osl 1 3 (0) (List.length mv_0.out)), (10, .v (.int .i64 (List.length mv_0.out : Int))), (11, .v (.int .i64 t11_1)), (12, .v (.bool (decide (t11_1 < (List.length mv_0.out : Int))))), (14, .agg [.v (.int .i64 xv_2.Rec.K), .v (.int .i64 xv_2.Rec.V), .v (.int .i64 xv_2.N)]), (15, .sl 3 (enc a_1)), (16, .ptr 2 0), (17, .agg [.v (.int .i64 xv_2.Rec.K), .v (.int .i64 xv_2.Rec.V)]), (18, .ptr 2 2), (19, .v (.int .i64 xv_2.N))], [(0, .box [.osl 1 3 (0) (List.length mv_0.out), .v (.int .i64 mv_0.many)]), (1, .arr 3 (enc mv_0.out)), (2, .box [.v (.int .i64 xv_2.Rec.K), .v (.int .i64 xv_2.Rec.V), .v (.int .i64 xv_2.N)])], 3, 23⟩ : St)) (l := [some 3]) (args' := [.sl 3 (enc a_1), .agg [.v (.int .i64 xv_2.Rec.K), .v (.int .i64 xv_2.Rec.V)], .v (.int .i64 xv_2.N)]) ?_ ?_ ?_
   · simp only [go_sem, Le] <;> (repeat' apply And.intro) <;> (try with_reducible refine x8 ?_) <;> first | omega | (simp [go_sem]; done) | ((try with_reducible refine x8 ?_); (simp [q1f, enc]; omega))
   · simp only [go_sem, Le] <;> (repeat' apply And.intro) <;> ((try with_reducible refine x8 ?_); (simp [go_sem]; done))
   refine q19 [] (qv0 a_1 xv_2.Rec xv_2.N v_2 ev_2) (by simp) rfl trivial rfl rfl rfl rfl ?_; simp only [go_sem]; refine y8 Q10 (q8 Q9 ?_); simp only [go_sem]; refine w9 Q6 (⟨(m_1, i64.wrap (t11_1 + 1), v_2), [some 3], ?_, h, Nat.lt_succ_self _⟩); simp only [go_sem, Le] <;> (repeat' apply And.intro) <;> (try with_reducible refine x8 ?_) <;> first | omega | (simp [go_sem]; done)
  · replace h := u6 h hb_2; simp only [bool_to_prop] at hb_2; refine q03 (q09 Q8 (q07 Q6 (d9 Q5 (q8 Q3 (sg fun _ Q12 => ?_))))); simp only [go_sem]; refine q8 Q12 (z8 ?_); simp only [go_sem]; obtain rfl := Option.some.inj h; refine q0e [some 2, some 1] ?_; simp only [go_sem, Le] <;> (repeat' apply And.intro) <;> (try with_reducible refine x8 ?_) <;> first | omega | (simp [go_sem]; done)

def q70 (ok_0 : Bool) (b_0 : Int) (a_0 : List GItem) : Option ((List GItem) × Bool) :=
 (if (!ok_0) = true then some (([] : List GItem), false)
 else j6 (q5w (⟨a_0, b_0⟩ : GOps_maker)) (fun (v_4 : (List GItem) × GOps_maker) =>
 some (v_4.1, true)))
def qf2 (v_0 : List GItem) (rec_2 : Unit → Option ((List GItem) × Bool)) : Unit → Option ((List GItem) × Bool) :=
 fun _ =>
 (if (decide (0 < (List.length v_0 : Int))) = true then j6 (idx v_0 0) (fun (xv_4 : GItem) =>
 none)
 else q70 true 0 ([]))
def qq6 (xv_0 : GNode) (ports_0 : List (List GItem)) : Option ((List GItem) × Bool) :=
 j6 (q9s 0 ports_0) (fun (v_0 : List GItem) =>
 j6 (q9s 1 ports_0) (fun (v_1 : List GItem) =>
 (if (xv_0.Kind == 5) = true then none
 else j6 (qm1 xv_0.Kind) (fun (v_5 : Bool) =>
 (if v_5 = true then j6 (q5j (⟨([] : List GItem), 0⟩ : GOps_maker) xv_0 v_0) (fun (v_6 : Bool × GOps_maker) =>
 q70 v_6.1 v_6.2.many v_6.2.out)
 else (if (xv_0.Kind == 8) = true then p9 (qf2 v_0) rounds ()
 else (if (xv_0.Kind == 9) = true then none
 else (if (((xv_0.Kind == 7) || (xv_0.Kind == 6)) || (xv_0.Kind == 14)) = true then none
 else q70 true 0 ([])))))))))
theorem z1c (xv_0 : GNode) (ports_0 : List (List GItem))  (r : (List GItem) × Bool) (h : qq6 xv_0 ports_0 = some r) : DetS Tryz.prog 109 [.agg [.v (.int .i64 xv_0.Kind), .v (.int .i64 xv_0.Scope), .v (.int .i64 xv_0.Arg), .sl 2 (enc xv_0.Prog)], .sl 1 (enc ports_0)] [] 0 (.tup [.osl 0 3 (0) (List.length r.1), .v (.bool r.2)]) [(0, .arr 3 (enc r.1))] 1 := by
 unfold DetS; refine Spec.of_vc Tryz.func109 rfl (by kernel_rfl) (by kernel_rfl) ?_; rw [qq6] at h; refine sg fun _ Q1 => ?_; simp only [go_sem]; refine q8 Q1 (sg fun _ Q2 => ?_); simp only [go_sem]; refine q8 Q2 (sg fun _ Q3 => ?_); simp only [go_sem]; refine q8 Q3 (sg fun _ Q4 => ?_); obtain ⟨v_0, ev_0, h⟩ := q9 h; simp only [go_sem]; refine q41 (s' := (⟨0, [(0, .agg [.v (.int .i64 xv_0.Kind), .v (.int .i64 xv_0.Scope), .v (.int .i64 xv_0.Arg), .sl 2 (enc xv_0.Prog)]), (1, .sl 1 (enc ports_0)), (2, .ptr 0 0), (3, .el 1 [[.sl 1 (enc ports_0)]] 0 0), (4, .v (.slice none 0 0)), (5, .v (.bool false)), (6, .clo 172 [.el 1 [[.sl 1 (enc ports_0)]] 0 0]), (7, .ptr 1 0), (13, .clo 172 [.el 1 [[.sl 1 (enc ports_0)]] 0 0]), (14, .agg [.v (.slice none 0 0), .v (.int .i64 0)]), (15, .ptr 1 0), (16, .clo 172 [.el 1 [[.sl 1 (enc ports_0)]] 0 0])], [(0, .box [.v (.int .i64 xv_0.Kind), .v (.int .i64 xv_0.Scope), .v (.int .i64 xv_0.Arg), .sl 2 (enc xv_0.Prog)]), (1, .box [.v (.slice none 0 0), .v (.int .i64 0)])], 2, 92⟩ : St)) (l := [some 0, some 2]) (args' := [.v (.int .i64 0), .el 1 [[.sl 1 (enc ports_0)]] 0 0]) ?_ ?_ ?_
 · simp only [go_sem, Le] <;> (repeat' apply And.intro) <;> (try with_reducible refine x8 ?_) <;> first | omega | (simp [go_sem]; done)
 · simp only [go_sem, Le] <;> (repeat' apply And.intro) <;> ((try with_reducible refine x8 ?_); (simp [go_sem]; done))
 refine q19 [] (qj2 0 ports_0 v_0 ev_0) (by simp) rfl trivial rfl rfl rfl rfl ?_; obtain ⟨v_1, ev_1, h⟩ := q9 h; simp only [go_sem]; refine q19 [] (qj2 1 ports_0 v_1 ev_1) (by simp) rfl trivial rfl rfl rfl rfl ?_; simp only [go_sem]; refine q8 Q4 (sg fun _ Q5 => ?_); simp only [go_sem]; refine q8 Q5 (q0a (by kernel_rfl) ?_); refine q0x (ι := Bool × Int × (List GItem)) (fun ((ok_0, b_0, a_0) : Bool × Int × (List GItem)) => (⟨0, [(7, .ptr 0 0), (10, .v (.bool ok_0))], [(0, .box [.osl 1 3 (0) (List.length a_0), .v (.int .i64 b_0)]), (1, .arr 3 (enc a_0))], 2, 92⟩ : St)) (fun ((ok_0, b_0, a_0) : Bool × Int × (List GItem)) => q70 ok_0 b_0 a_0 = some r) ?_ ?_
 ·
  intro _ Q10; refine y7 ?_; intro _ Q11; refine sg fun _ Q12 => ?_; simp only [go_sem]; refine q8 Q12 ?_; refine j3 (b := (xv_0.Kind == 5)) (by (simp only [go_sem]; done)) (fun hb_8 => ?_) (fun hb_8 => ?_)
  · replace h := x9 h hb_8; simp only [bool_to_prop] at hb_8; exact absurd h (by simp)
  ·
   replace h := u6 h hb_8; simp only [bool_to_prop] at hb_8; refine sg fun _ Q13 => ?_; obtain ⟨v_5, ev_5, h⟩ := q9 h; simp only [go_sem]; refine q0f (z1b xv_0.Kind v_5 ev_5) (by rfl) (by rfl) ?_; simp only [go_sem]; refine q8 Q13 ?_; refine j3 (b := v_5) (by (simp only [go_sem]; done)) (fun hb_9 => ?_) (fun hb_9 => ?_)
   ·
    replace h := x9 h hb_9; obtain ⟨v_6, ev_6, h⟩ := q9 h; simp only [go_sem]; refine q41 (s' := (⟨0, [(0, .agg [.v (.int .i64 xv_0.Kind), .v (.int .i64 xv_0.Scope), .v (.int .i64 xv_0.Arg), .sl 2 (enc xv_0.Prog)]), (1, .sl 1 (enc ports_0)), (2, .ptr 0 0), (3, .el 1 [[.sl 1 (enc ports_0)]] 0 0), (4, .v (.slice none 0 0)), (5, .v (.bool false)), (6, .clo 172 [.el 1 [[.sl 1 (enc ports_0)]] 0 0]), (7, .ptr 1 0), (8, .sl 3 (enc v_0)), (9, .osl 2 3 (0) (List.length v_1)), (10, .v (.bool true)), (13, .clo 172 [.el 1 [[.sl 1 (enc ports_0)]] 0 0]), (14, .agg [.v (.slice none 0 0), .v (.int .i64 0)]), (15, .ptr 1 0), (16, .clo 172 [.el 1 [[.sl 1 (enc ports_0)]] 0 0]), (17, .sl 3 (enc v_0)), (18, .clo 172 [.el 1 [[.sl 1 (enc ports_0)]] 0 0]), (19, .osl 2 3 (0) (List.length v_1)), (20, .v (.bool (xv_0.Kind == 5))), (21, .ptr 0 0), (22, .v (.int .i64 xv_0.Kind)), (23, .v (.bool (xv_0.Kind == 5))), (34, .v (.bool v_5)), (35, .ptr 0 0), (36, .v (.int .i64 xv_0.Kind)), (37, .v (.bool v_5)), (38, .ptr 1 0), (39, .agg [.v (.int .i64 xv_0.Kind), .v (.int .i64 xv_0.Scope), .v (.int .i64 xv_0.Arg), .sl 2 (enc xv_0.Prog)]), (40, .sl 3 (enc v_0))], [(0, .box [.v (.int .i64 xv_0.Kind), .v (.int .i64 xv_0.Scope), .v (.int .i64 xv_0.Arg), .sl 2 (enc xv_0.Prog)]), (1, .box [.osl 3 3 (0) (List.length ([] : List GItem)), .v (.int .i64 0)]), (2, .arr 3 (enc v_1)), (3, .arr 3 (enc ([] : List GItem)))], 4, 92⟩ : St)) (l := [some 0, some 1, some 3, none]) (args' := [.ptr 1 0, .agg [.v (.int .i64 xv_0.Kind), .v (.int .i64 xv_0.Scope), .v (.int .i64 xv_0.Arg), .sl 2 (enc xv_0.Prog)], .sl 3 (enc v_0)]) ?_ ?_ ?_
    · simp only [go_sem, Le] <;> (repeat' apply And.intro) <;> (try with_reducible refine x8 ?_) <;> first | omega | (simp [go_sem]; done)
    · simp only [go_sem, Le] <;> (repeat' apply And.intro) <;> ((try with_reducible refine x8 ?_); (simp [go_sem]; done))
    refine q19 [1, 3] (qc9 (⟨([] : List GItem), 0⟩ : GOps_maker) xv_0 v_0 v_6 ev_6) (by simp) rfl ⟨rfl, ⟨rfl, trivial⟩⟩ rfl rfl rfl rfl ?_; simp only [go_sem]; refine y8 Q11 (w9 Q10 (⟨(v_6.1, v_6.2.many, v_6.2.out), [some 1, some 4], ?_, h⟩)); simp only [go_sem, Le] <;> (repeat' apply And.intro) <;> (try with_reducible refine x8 ?_) <;> first | omega | (simp [go_sem]; done)
   ·
    replace h := u6 h hb_9; refine sg fun _ Q14 => ?_; simp only [go_sem]; refine q8 Q14 ?_; refine j3 (b := (xv_0.Kind == 8)) (by (simp only [go_sem]; done)) (fun hb_10 => ?_) (fun hb_10 => ?_)
    ·
     replace h := x9 h hb_10; simp only [bool_to_prop] at hb_10; refine sg fun _ Q15 => ?_; simp only [go_sem]; refine q8 Q15 (y7 ?_); intro _ Q16; refine q06 ?_; refine q0g (ι := Nat × Unit) (fun ((_, _) : Nat × Unit) => (⟨0, [(7, .ptr 0 0), (10, .v (.bool true)), (46, .osl 1 3 (0) (List.length v_0)), (47, .v (.int .i64 (List.length v_0 : Int))), (48, .v (.int .i64 0))], [(0, .box [.v (.slice none 0 0), .v (.int .i64 0)]), (1, .arr 3 (enc v_0))], 2, 92⟩ : St)) (fun ((n_, u_) : Nat × Unit) => p9 (qf2 v_0) n_ u_ = some r) (fun p => p.1) (rounds, ()) [some 1, some 2] ?_ h ?_
     · simp only [go_sem, Le] <;> (repeat' apply And.intro) <;> (try with_reducible refine x8 ?_) <;> first | omega | (simp [go_sem]; done)
     ·
      rintro ⟨n_2, _⟩ h _ Q17; dsimp only at h; replace h := q08 h; obtain ⟨m_2, rfl, h⟩ := h; rw [qf2] at h; refine sg fun _ Q18 => ?_; simp only [go_sem]; refine q8 Q18 (sg fun _ Q19 => ?_); refine j3 (b := (decide (0 < (List.length v_0 : Int)))) (by (simp only [go_sem]; done)) (fun hb_12 => ?_) (fun hb_12 => ?_)
      · replace h := x9 h hb_12; simp only [bool_to_prop] at hb_12; refine j4 (q8 Q19 (sg fun _ Q20 => ?_)); refine y7 ?_; intro _ Q21; refine sg fun _ Q22 => ?_; obtain ⟨xv_4, ex4, h⟩ := q9 h; obtain ⟨f4a, f4b, f4c⟩ := u7 ex4; simp only [Int.toNat_natCast, Int.reduceToNat] at f4c; simp only [go_sem, f4a, f4b, f4c]; refine And.intro (by omega) ?_; refine q8 Q22 ?_; exact absurd h (by simp)
      · replace h := u6 h hb_12; simp only [bool_to_prop] at hb_12; refine q03 (q09 Q19 (q07 Q17 (d9 Q16 (y8 Q11 (w9 Q10 (⟨(true, 0, []), [some 0, none], ?_, h⟩)))))); simp only [go_sem, Le] <;> (repeat' apply And.intro) <;> ((try with_reducible refine x8 ?_); (simp [go_sem]; done))
    ·
     replace h := u6 h hb_10; simp only [bool_to_prop] at hb_10; refine sg fun _ Q23 => ?_; simp only [go_sem]; refine q8 Q23 ?_; refine j3 (b := (xv_0.Kind == 9)) (by (simp only [go_sem]; done)) (fun hb_13 => ?_) (fun hb_13 => ?_)
     · replace h := x9 h hb_13; simp only [bool_to_prop] at hb_13; exact absurd h (by simp)
     ·
      replace h := u6 h hb_13; simp only [bool_to_prop] at hb_13; refine sg fun _ Q24 => ?_; simp only [go_sem]; refine q8 Q24 ?_; refine j3 (b := (((xv_0.Kind == 7) || (xv_0.Kind == 6)) || (xv_0.Kind == 14))) (by (simp only [go_sem]; done)) (fun hb_14 => ?_) (fun hb_14 => ?_)
      · replace h := x9 h hb_14; simp only [bool_to_prop] at hb_14; exact absurd h (by simp)
      · replace h := u6 h hb_14; simp only [bool_to_prop] at hb_14; refine j4 (y8 Q11 (w9 Q10 (⟨(true, 0, []), [some 1, none], ?_, h⟩))); simp only [go_sem, Le] <;> (repeat' apply And.intro) <;> ((try with_reducible refine x8 ?_); (simp [go_sem]; done))
 ·
  rintro ⟨ok_0, b_0, a_0⟩ h
  try dsimp only at h
  rw [q70] at h; refine sg fun _ Q6 => ?_; refine sg fun _ Q7 => ?_; simp only [go_sem]; refine q8 Q7 ?_; refine j3 (b := (!ok_0)) (by (simp only [go_sem]; done)) (fun hb_7 => ?_) (fun hb_7 => ?_)
  · replace h := x9 h hb_7; simp only [bool_to_prop] at hb_7; refine sg fun _ Q8 => ?_; simp only [go_sem]; refine q8 Q8 (z8 (y5 Q6 ?_)); simp only [go_sem]; obtain rfl := Option.some.inj h; refine q0e [none] ?_; simp only [go_sem, Le] <;> (repeat' apply And.intro) <;> ((try with_reducible refine x8 ?_); (simp [go_sem]; done))
  · replace h := u6 h hb_7; simp only [bool_to_prop] at hb_7; refine j4 (q8 Q6 (sg fun _ Q9 => ?_)); obtain ⟨v_4, ev_4, h⟩ := q9 h; simp only [go_sem]; refine q19 [0, 1] (qf1 (⟨a_0, b_0⟩ : GOps_maker) v_4 ev_4) (by simp) rfl ⟨rfl, ⟨rfl, trivial⟩⟩ rfl rfl rfl rfl ?_; simp only [go_sem]; refine q8 Q9 (z8 ?_); simp only [go_sem]; obtain rfl := Option.some.inj h; refine q0e [some 2] ?_; simp only [go_sem, Le]
end Go.Proofs.YtbcbcdbkdljjlaaGreat
