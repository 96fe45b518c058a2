/-
  What functions of the program compute, each told as a plain function that may give nothing, with the proof that the code does so. No condition beyond those that each theorem names.
-/
import Derived.Test.YtlpfoonihpdekaaGreatWalkWF0
import Derived.Test.YtlpfoonihpdekaaGreatLibD
import Derived.Test.YtlpfoonihpdekaaGreatLibI
set_option linter.unusedSimpArgs false
set_option linter.unusedVariables false
set_option linter.unusedSectionVars false
set_option maxHeartbeats 2000000
set_option maxRecDepth 100000
namespace Go.Proofs.YtlpfoonihpdekaaGreat
open Go Go.RowKit
open Go.IntKind (i64)
def qo4 (hv_0 : GHop) (b_2 : GTime) : Option (GTime × Bool) :=
 y5 (0 ≤ hv_0.Keep ∧ hv_0.Keep ≤ 4 ∧ 4 ≤ 4) (
 y5 (0 ≤ 0 ∧ 0 ≤ hv_0.Tail ∧ hv_0.Tail ≤ 4) (
 q9 (some ((cpL [b_2.C.a0, b_2.C.a1, b_2.C.a2, b_2.C.a3] [hv_0.T.a0, hv_0.T.a1, hv_0.T.a2, hv_0.T.a3] (hv_0.Keep.toNat) (hv_0.Tail.toNat)).getD 0 0)) (fun w_8 =>
 q9 (some ((cpL [b_2.C.a0, b_2.C.a1, b_2.C.a2, b_2.C.a3] [hv_0.T.a0, hv_0.T.a1, hv_0.T.a2, hv_0.T.a3] (hv_0.Keep.toNat) (hv_0.Tail.toNat)).getD 1 0)) (fun w_9 =>
 q9 (some ((cpL [b_2.C.a0, b_2.C.a1, b_2.C.a2, b_2.C.a3] [hv_0.T.a0, hv_0.T.a1, hv_0.T.a2, hv_0.T.a3] (hv_0.Keep.toNat) (hv_0.Tail.toNat)).getD 2 0)) (fun w_10 =>
 q9 (some ((cpL [b_2.C.a0, b_2.C.a1, b_2.C.a2, b_2.C.a3] [hv_0.T.a0, hv_0.T.a1, hv_0.T.a2, hv_0.T.a3] (hv_0.Keep.toNat) (hv_0.Tail.toNat)).getD 3 0)) (fun w_11 =>
 q9 (q3g (⟨b_2.D, (⟨w_8, w_9, w_10, w_11⟩ : Arr4 Int)⟩ : GTime)) (fun v_3 =>
 (if (!v_3) = true then some ((⟨0, (⟨0, 0, 0, 0⟩ : Arr4 Int)⟩ : GTime), false)
 else some ((⟨b_2.D, (⟨w_8, w_9, w_10, w_11⟩ : Arr4 Int)⟩ : GTime), true)))))))))
def qo5 (hv_0 : GHop) (t_0 : GTime) (rec_2 : Int × GTime → Option (GTime × Bool)) : Int × GTime → Option (GTime × Bool) :=
 fun (t29_3, b_4) =>
 (if (decide (t29_3 < hv_0.Keep)) = true then y5 (0 ≤ t29_3 ∧ t29_3 < 4) (
 q9 (idx ([t_0.C.a0, t_0.C.a1, t_0.C.a2, t_0.C.a3] : List Int) t29_3) (fun xv_6 =>
 y5 (0 ≤ t29_3 ∧ t29_3 < 4) (
 q9 (idx ([hv_0.Add.a0, hv_0.Add.a1, hv_0.Add.a2, hv_0.Add.a3] : List Int) t29_3) (fun xv_7 =>
 y5 (0 ≤ t29_3 ∧ t29_3 < 4) (
 q9 (some (if t29_3.toNat = 0 then i64.wrap (xv_6 + xv_7) else b_4.C.a0)) (fun w_16 =>
 q9 (some (if t29_3.toNat = 1 then i64.wrap (xv_6 + xv_7) else b_4.C.a1)) (fun w_17 =>
 q9 (some (if t29_3.toNat = 2 then i64.wrap (xv_6 + xv_7) else b_4.C.a2)) (fun w_18 =>
 q9 (some (if t29_3.toNat = 3 then i64.wrap (xv_6 + xv_7) else b_4.C.a3)) (fun w_19 =>
 rec_2 (i64.wrap (t29_3 + 1), (⟨b_4.D, (⟨w_16, w_17, w_18, w_19⟩ : Arr4 Int)⟩ : GTime)))))))))))
 else qo4 hv_0 b_4)
def q8x (hv_0 : GHop) (t_0 : GTime) : Option (GTime × Bool) :=
 q9 (q38 hv_0) (fun v_0 =>
 (if v_0 = true then q9 (q3g t_0) (fun v_1 =>
 (if ((!v_1) || (!(t_0.D == hv_0.From))) = true then some ((⟨0, (⟨0, 0, 0, 0⟩ : Arr4 Int)⟩ : GTime), false)
 else q9 (q5c hv_0) (fun v_2 =>
 w9 (qo5 hv_0 t_0) rounds (0, (⟨v_2, (⟨0, 0, 0, 0⟩ : Arr4 Int)⟩ : GTime)))))
 else some ((⟨0, (⟨0, 0, 0, 0⟩ : Arr4 Int)⟩ : GTime), false)))
instance j56 (hv_0 : GHop) (t_0 : GTime) : Ct pp 81 (q8x hv_0 t_0) [.agg (Row.row hv_0), .agg (Row.row t_0)] fun r => (.tup [.agg (Row.row r.1), .v (.bool r.2)]) := ctK Tryz.func81 rfl (by rw [q8x]) (by
 intro r h F; refine sM ?_; refine sg fun _ Q2 => ?_; refine sg fun _ Q3 => ?_; simp only [go_sem]; refine q15 h fun v_0 h => ?_; simp only [go_sem]; rcases hb_0 : v_0 with _ | _
 · replace h := q23 h hb_0; simp only [go_sem, hb_0]; exact au
 ·
  replace h := q21 h hb_0; simp only [go_sem, hb_0]; refine q15 h fun v_1 h => ?_; simp only [go_sem]; refine q8 Q3 (sB h (fun _ h => ?_) fun _ h => ?_)
  · exact au
  ·
   refine j4 (q8 Q2 (sg fun _ Q6 => ?_)); simp only [go_sem]; refine q15 h fun v_2 h => ?_; simp only [go_sem]; refine q8 Q6 (q14 (fun (b_2 : GTime) => qo4 hv_0 b_2 = some r) [2] (fun b_2 => ([(4, .ptr 1 0), (6, .ptr 2 0)], [(0, .box (Row.row hv_0)), (1, .box [.v (.int .i64 0), .v (.int .i64 0), .v (.int .i64 0), .v (.int .i64 0), .v (.int .i64 0)]), (2, .box (Row.row b_2))])) 3 ?_ ?_)
   ·
    intro _ Q12; refine sM ?_; refine j3 fun _ Q14 => ?_; refine u6 h [2, 3, 4, 6, 28] (fun x => ([(29, .v (.int .i64 x.1))], [(0, .box (Row.row hv_0)), (1, .box (Row.row t_0)), (2, .box [.v (.int .i64 0), .v (.int .i64 0), .v (.int .i64 0), .v (.int .i64 0), .v (.int .i64 0)]), (3, .box (Row.row x.2))])) 4 ?_; rintro m_2 ⟨t29_3, b_4⟩ h _ Q15; rw [qo5] at h; refine sM ?_; refine sg fun _ Q17 => ?_; refine sB h (fun _ h => ?_) fun _ h => ?_
    ·
     refine j4 (q8 Q17 (sg fun _ Q18 => ?_)); refine j3 fun _ Q19 => ?_; refine sM ?_; refine x9 ?_; refine j83 ?_; obtain ⟨F, h⟩ := bG F h; obtain ⟨xv_6, ex6, h⟩ := z8 h; obtain ⟨f6a, f6b, f6c, fxv_6d⟩ := q3e (f := (fun y => AV.v (.int .i64 y))) [.v (.int .i64 t_0.D)] [] ex6; simp only [List.cons_append, List.nil_append, List.append_nil, List.map_cons, List.map_nil, List.length_cons, List.length_nil, Nat.zero_add, Nat.reduceAdd] at f6b f6c fxv_6d; obtain ⟨F, h⟩ := bG F h; obtain ⟨xv_7, ex7, h⟩ := z8 h; obtain ⟨f7a, f7b, f7c, fxv_7d⟩ := q3e (f := (fun y => AV.v (.int .i64 y))) [.v (.int .i64 hv_0.From), .v (.int .i64 hv_0.Keep), .v (.int .i64 hv_0.Tail)] [.v (.int .i64 hv_0.T.a0), .v (.int .i64 hv_0.T.a1), .v (.int .i64 hv_0.T.a2), .v (.int .i64 hv_0.T.a3)] ex7; simp only [List.cons_append, List.nil_append, List.append_nil, List.map_cons, List.map_nil, List.length_cons, List.length_nil, Nat.zero_add, Nat.reduceAdd] at f7b f7c fxv_7d; obtain ⟨F, h⟩ := bG F h; obtain ⟨w_16, ew_16, h⟩ := z8 h; obtain ⟨w_17, ew_17, h⟩ := z8 h; obtain ⟨w_18, ew_18, h⟩ := z8 h; obtain ⟨w_19, ew_19, h⟩ := z8 h; have sf_3 := qh2 (f := (fun y => AV.v (.int .i64 y))) [.v (.int .i64 b_4.D)] [] [b_4.C.a0, b_4.C.a1, b_4.C.a2, b_4.C.a3] [w_16, w_17, w_18, w_19] (t29_3.toNat) (i64.wrap (xv_6 + xv_7)) (by simp only [List.length_cons, List.length_nil]; omega) (by simp only [List.mapIdx_cons, List.mapIdx_nil, Nat.zero_add, Nat.reduceAdd, Option.some.inj ew_16, Option.some.inj ew_17, Option.some.inj ew_18, Option.some.inj ew_19]); simp only [List.cons_append, List.nil_append, List.append_nil, List.map_cons, List.map_nil, List.length_cons, List.length_nil, Nat.zero_add, Nat.reduceAdd, q3a, Nat.add_assoc, q1p] at sf_3; simp only [go_sem, f6a, f6b, f6c, fxv_6d, f7a, f7b, f7c, fxv_7d, sf_3, Nat.mul_one, F]; simp only [List.getD_eq_getElem?_getD, Nat.mul_one, fxv_6d, Option.map_some, Option.getD_some, true_and, List.getD_eq_getElem?_getD, Nat.mul_one, fxv_7d, Option.map_some, Option.getD_some, true_and]
     simp only [go_sem, f6a, f6b, f6c, fxv_6d, f7a, f7b, f7c, fxv_7d, sf_3, Nat.mul_one, List.getD_eq_getElem?_getD, Nat.mul_one, fxv_6d, Option.map_some, Option.getD_some, true_and, List.getD_eq_getElem?_getD, Nat.mul_one, fxv_7d, Option.map_some, Option.getD_some, true_and, F]; refine ai ?_; exact au
    · exact au
   ·
    rintro b_2 h
    try dsimp only at h
    rw [qo4] at h; refine sg fun _ Q7 => ?_; refine x9 ?_; refine j83 ?_; obtain ⟨F, h⟩ := bG F h; obtain ⟨F, h⟩ := bG F h; obtain ⟨w_8, ew_8, h⟩ := z8 h; obtain ⟨w_9, ew_9, h⟩ := z8 h; obtain ⟨w_10, ew_10, h⟩ := z8 h; obtain ⟨w_11, ew_11, h⟩ := z8 h; have cf_0 := j76 (f := (fun y => AV.v (.int .i64 y))) [.v (.int .i64 b_2.D)] [] [.v (.int .i64 hv_0.From), .v (.int .i64 hv_0.Keep), .v (.int .i64 hv_0.Tail), .v (.int .i64 hv_0.Add.a0), .v (.int .i64 hv_0.Add.a1), .v (.int .i64 hv_0.Add.a2), .v (.int .i64 hv_0.Add.a3)] [] [b_2.C.a0, b_2.C.a1, b_2.C.a2, b_2.C.a3] [hv_0.T.a0, hv_0.T.a1, hv_0.T.a2, hv_0.T.a3] [w_8, w_9, w_10, w_11] (hv_0.Keep.toNat) (hv_0.Tail.toNat) (by simp only [List.length_cons, List.length_nil]; omega) (by simp only [List.length_cons, List.length_nil]; omega) (j77 (0) (by omega) _ rfl (Option.some.inj ew_8) (Option.some.inj ew_9) (Option.some.inj ew_10) (Option.some.inj ew_11)); simp only [List.cons_append, List.nil_append, List.append_nil, List.map_cons, List.map_nil, List.length_cons, List.length_nil, Nat.zero_add, Nat.reduceAdd, Nat.reduceSub, Nat.sub_zero, q3a, Nat.add_assoc, List.drop_zero, List.drop_succ_cons] at cf_0; simp only [go_sem, cf_0, F]; refine ai ?_; refine ai ?_; exact au)
def qk1 (p_0 : List (List (List GHop))) (nv_0 : Int) (mv_0 : Int) : Option (List GHop) :=
 (if (((decide (nv_0 < 0)) || (decide ((p_0.length : Int) ≤ nv_0))) || (decide (mv_0 < 0))) = true then some ([] : List GHop)
 else q9 (idx p_0 nv_0) (fun xv_0 =>
 (if (decide ((xv_0.length : Int) ≤ mv_0)) = true then some ([] : List GHop)
 else q9 (idx xv_0 mv_0) (fun xv_1 =>
 some xv_1))))
instance j07 (p_0 : List (List (List GHop))) (nv_0 : Int) (mv_0 : Int) : Ct pp 80 (qk1 p_0 nv_0 mv_0) [.sl 1 (enc p_0), .v (.int .i64 nv_0), .v (.int .i64 mv_0)] fun r => (.sl 11 (enc r)) := ctI Tryz.func80 rfl (by rw [qk1]; exact au1)
def q5w (t_0 : GTime) (u_0 : GTime) (v_0 : List GHop) (rec_1 : Int → Option Bool) : Int → Option Bool :=
 fun t20_1 =>
 (if (decide (t20_1 < (v_0.length : Int))) = true then q9 (idx v_0 t20_1) (fun xv_2 =>
 q9 (q8x xv_2 t_0) (fun v_5 =>
 (if v_5.2 = true then q9 (z0w v_5.1 u_0) (fun v_6 =>
 (if v_6 = true then some true
 else rec_1 (i64.wrap (t20_1 + 1))))
 else rec_1 (i64.wrap (t20_1 + 1)))))
 else some false)
def qa3 (p_0 : List (List (List GHop))) (nv_0 : Int) (t_0 : GTime) (mv_0 : Int) (u_0 : GTime) : Option Bool :=
 q9 (qk1 p_0 nv_0 mv_0) (fun v_0 =>
 w9 (q5w t_0 u_0 v_0) rounds 0)
instance j08 (p_0 : List (List (List GHop))) (nv_0 : Int) (t_0 : GTime) (mv_0 : Int) (u_0 : GTime) : Ct pp 41 (qa3 p_0 nv_0 t_0 mv_0 u_0) [.sl 1 (enc p_0), .v (.int .i64 nv_0), .agg (Row.row t_0), .v (.int .i64 mv_0), .agg (Row.row u_0)] fun r => (.v (.bool r)) := ctK Tryz.func41 rfl (by rw [qa3]) (by
 intro r h F; refine sM ?_; refine jg fun _ Q2 => ?_; refine sg fun _ Q3 => ?_; simp only [go_sem]; refine q15 h fun v_0 h => ?_; simp only [go_sem]; refine q8 Q3 (j3 fun _ Q4 => ?_); refine u6 h [7, 9, 18, 19] (fun t20_1 => ([(20, .v (.int .i64 t20_1))], [(0, .box (Row.row t_0)), (1, .box (Row.row u_0))])) 2 ?_; rintro m_1 t20_1 h _ Q5; rw [q5w] at h; exact au)
def q6w (hv_0 : GHop) (rec_2 : Int × (List GBackwashref02_Part) → Option ((List GBackwashref02_Part) × Bool)) : Int × (List GBackwashref02_Part) → Option ((List GBackwashref02_Part) × Bool) :=
 fun (i_3, a_4) =>
 (if (decide (i_3 < 4)) = true then y5 (0 ≤ i_3 ∧ i_3 < 4) (
 q9 (idx ([hv_0.T.a0, hv_0.T.a1, hv_0.T.a2, hv_0.T.a3] : List Int) i_3) (fun xv_3 =>
 (if (((decide (xv_3 < 0)) || (decide (1048576 < xv_3))) || ((decide (hv_0.Tail ≤ i_3)) && (!(xv_3 == 0)))) = true then some (([] : List GBackwashref02_Part), false)
 else (if (decide (i_3 < hv_0.Tail)) = true then y5 ((a_4.length + List.length ([(⟨-1, xv_3⟩ : GBackwashref02_Part)] : List GBackwashref02_Part)) * 16 ≤ 140737488355328) (
 rec_2 (i64.wrap (i_3 + 1), (a_4 ++ ([(⟨-1, xv_3⟩ : GBackwashref02_Part)] : List GBackwashref02_Part))))
 else rec_2 (i64.wrap (i_3 + 1), a_4)))))
 else some (a_4, true))
def q6u (hv_0 : GHop) (a_2 : List GBackwashref02_Part) : Option ((List GBackwashref02_Part) × Bool) :=
 w9 (q6w hv_0) rounds (0, a_2)
def q6v (hv_0 : GHop) (rec_3 : Int × (List GBackwashref02_Part) → Option ((List GBackwashref02_Part) × Bool)) : Int × (List GBackwashref02_Part) → Option ((List GBackwashref02_Part) × Bool) :=
 fun (i_5, a_6) =>
 (if (decide (i_5 < 4)) = true then y5 (0 ≤ i_5 ∧ i_5 < 4) (
 q9 (idx ([hv_0.Add.a0, hv_0.Add.a1, hv_0.Add.a2, hv_0.Add.a3] : List Int) i_5) (fun xv_5 =>
 (if (((decide (xv_5 < 0)) || (decide (1048576 < xv_5))) || ((decide (hv_0.Keep ≤ i_5)) && (!(xv_5 == 0)))) = true then some (([] : List GBackwashref02_Part), false)
 else (if (decide (i_5 < hv_0.Keep)) = true then y5 ((a_6.length + List.length ([(⟨i_5, xv_5⟩ : GBackwashref02_Part)] : List GBackwashref02_Part)) * 16 ≤ 140737488355328) (
 rec_3 (i64.wrap (i_5 + 1), (a_6 ++ ([(⟨i_5, xv_5⟩ : GBackwashref02_Part)] : List GBackwashref02_Part))))
 else rec_3 (i64.wrap (i_5 + 1), a_6)))))
 else q6u hv_0 a_6)
def q0m (hv_0 : GHop) : Option ((List GBackwashref02_Part) × Bool) :=
 (if ((((((((decide (hv_0.From < 1)) || (decide (4 < hv_0.From))) || (decide (hv_0.Keep < 0))) || (decide (hv_0.From < hv_0.Keep))) || (decide (hv_0.Tail < 0))) || (decide (4 < hv_0.Tail))) || (decide ((i64.wrap (hv_0.Keep + hv_0.Tail)) < 1))) || (decide (4 < (i64.wrap (hv_0.Keep + hv_0.Tail))))) = true then some (([] : List GBackwashref02_Part), false)
 else w9 (q6v hv_0) rounds (0, []))
theorem q1o (hv_0 : GHop)  (r : (List GBackwashref02_Part) × Bool) (h : q0m hv_0 = some r) : DetS pp 46 [.agg (Row.row hv_0)] [] 0 (.tup [.osl 0 2 (0) (r.1.length), .v (.bool r.2)]) [(0, .arr 2 (enc r.1))] 1 := by
 refine dtI Tryz.func46 rfl ?_; rw [q0m] at h; have F := trivial; refine sM ?_; refine sg fun _ Q2 => ?_; refine sM ?_; refine sB h (fun _ h => ?_) fun _ h => ?_
 · exact au
 ·
  refine j4 (q8 Q2 (sM ?_)); refine q14 (fun (a_2 : (List GBackwashref02_Part)) => q6u hv_0 a_2 = some r) [1] (fun a_2 => ([(4, .osl 1 2 (0) (a_2.length))], [(0, .box (Row.row hv_0)), (1, .arr 2 (enc a_2))])) 2 ?_ ?_
  ·
   intro _ Q20; refine sM ?_; refine j3 fun _ Q22 => ?_; refine u6 h [1] (fun x => ([(4, .osl 1 2 (0) (x.2.length)), (5, .v (.int .i64 x.1))], [(0, .box (Row.row hv_0)), (1, .arr 2 (enc x.2))])) 2 ?_; rintro m_3 ⟨i_5, a_6⟩ h _ Q23; rw [q6v] at h; refine sg fun _ Q24 => ?_; refine sM ?_; refine sB h (fun _ h => ?_) fun _ h => ?_
   ·
    refine j4 (q8 Q24 (jg fun _ Q26 => ?_)); refine j3 fun _ Q27 => ?_; refine sg fun _ Q28 => ?_; obtain ⟨F, h⟩ := bG F h; obtain ⟨xv_5, ex5, h⟩ := z8 h; obtain ⟨f5a, f5b, f5c, fxv_5d⟩ := q3e (f := (fun y => AV.v (.int .i64 y))) [.v (.int .i64 hv_0.From), .v (.int .i64 hv_0.Keep), .v (.int .i64 hv_0.Tail)] [.v (.int .i64 hv_0.T.a0), .v (.int .i64 hv_0.T.a1), .v (.int .i64 hv_0.T.a2), .v (.int .i64 hv_0.T.a3)] ex5; simp only [List.cons_append, List.nil_append, List.append_nil, List.map_cons, List.map_nil, List.length_cons, List.length_nil, Nat.zero_add, Nat.reduceAdd] at f5b f5c fxv_5d; simp only [go_sem, f5a, f5b, f5c, fxv_5d, F]; refine ai ?_; simp only [List.getD_eq_getElem?_getD, Nat.mul_one, fxv_5d, Option.map_some, Option.getD_some, true_and]; refine q8 Q28 (sg fun _ Q29 => ?_); refine sg fun _ Q30 => ?_; simp only [go_sem]; refine And.intro (by (simp +contextual only [and_self, implies_true, true_and, and_true, imp_self]; done)) ?_; refine q8 Q30 (sB h (fun _ h => ?_) fun _ h => ?_)
    · exact au
    ·
     refine j4 (q8 Q29 (sM ?_)); refine sB h (fun _ h => ?_) fun _ h => ?_
     ·
      have rf_14 : [[.v (.int .i64 i_5), .v (.int .i64 xv_5)]] = enc ([(⟨i_5, xv_5⟩ : GBackwashref02_Part)] : List GBackwashref02_Part) := by rfl
      obtain ⟨g_14, h⟩ := q02 h; have F := And.intro F g_14; simp only [List.length_cons, List.length_nil, Nat.zero_add, List.length_append] at g_14; have rf_15 : enc a_6 ++ [[.v (.int .i64 i_5), .v (.int .i64 xv_5)]] = enc (a_6 ++ ([(⟨i_5, xv_5⟩ : GBackwashref02_Part)] : List GBackwashref02_Part)) := by exact (q19 a_6 ([(⟨i_5, xv_5⟩ : GBackwashref02_Part)] : List GBackwashref02_Part)).symm
      simp only [go_sem, g_14, rf_15]; simp only [rf_14]; exact au
     · exact au
   · exact au
  ·
   rintro a_2 h
   try dsimp only at h
   rw [q6u] at h; refine jg fun _ Q6 => ?_; refine sM ?_; refine j3 fun _ Q8 => ?_; refine u6 h [1] (fun x => ([(4, .osl 1 2 (0) (x.2.length)), (7, .v (.int .i64 x.1))], [(0, .box (Row.row hv_0)), (1, .arr 2 (enc x.2))])) 2 ?_; rintro m_2 ⟨i_3, a_4⟩ h _ Q9; rw [q6w] at h; refine sg fun _ Q10 => ?_; refine sM ?_; refine sB h (fun _ h => ?_) fun _ h => ?_
   ·
    refine j4 (q8 Q10 (jg fun _ Q12 => ?_)); refine j3 fun _ Q13 => ?_; refine sg fun _ Q14 => ?_; obtain ⟨F, h⟩ := bG F h; obtain ⟨xv_3, ex3, h⟩ := z8 h; obtain ⟨f3a, f3b, f3c, fxv_3d⟩ := q3e (f := (fun y => AV.v (.int .i64 y))) [.v (.int .i64 hv_0.From), .v (.int .i64 hv_0.Keep), .v (.int .i64 hv_0.Tail), .v (.int .i64 hv_0.Add.a0), .v (.int .i64 hv_0.Add.a1), .v (.int .i64 hv_0.Add.a2), .v (.int .i64 hv_0.Add.a3)] [] ex3; simp only [List.cons_append, List.nil_append, List.append_nil, List.map_cons, List.map_nil, List.length_cons, List.length_nil, Nat.zero_add, Nat.reduceAdd] at f3b f3c fxv_3d; simp only [go_sem, f3a, f3b, f3c, fxv_3d, F]; refine ai ?_; simp only [List.getD_eq_getElem?_getD, Nat.mul_one, fxv_3d, Option.map_some, Option.getD_some, true_and]; refine q8 Q14 (sg fun _ Q15 => ?_); refine sg fun _ Q16 => ?_; simp only [go_sem]; refine And.intro (by (simp +contextual only [and_self, implies_true, true_and, and_true, imp_self]; done)) ?_; refine q8 Q16 (sB h (fun _ h => ?_) fun _ h => ?_)
    · exact au
    ·
     refine j4 (q8 Q15 (sM ?_)); refine sB h (fun _ h => ?_) fun _ h => ?_
     ·
      have rf_9 : [[.v (.int .i64 (-1)), .v (.int .i64 xv_3)]] = enc ([(⟨-1, xv_3⟩ : GBackwashref02_Part)] : List GBackwashref02_Part) := by rfl
      obtain ⟨g_9, h⟩ := q02 h; have F := And.intro F g_9; simp only [List.length_cons, List.length_nil, Nat.zero_add, List.length_append] at g_9; have rf_10 : enc a_4 ++ [[.v (.int .i64 (-1)), .v (.int .i64 xv_3)]] = enc (a_4 ++ ([(⟨-1, xv_3⟩ : GBackwashref02_Part)] : List GBackwashref02_Part)) := by exact (q19 a_4 ([(⟨-1, xv_3⟩ : GBackwashref02_Part)] : List GBackwashref02_Part)).symm
      simp only [go_sem, g_9, rf_10]; simp only [rf_9]; exact au
     · exact au
   · exact au
instance zl0 (hv_0 : GHop) : Ct pp 46 (q0m hv_0) [.agg (Row.row hv_0)] fun r => (.tup [.sl 2 (enc r.1), .v (.bool r.2)]) := ⟨fun r h => (q1o hv_0  r h).pure leA⟩
def q88 (v_0 : (List GBackwashref02_Part) × Bool) (v_1 : (List GBackwashref02_Part) × Bool) (rec_1 : Int → Option Bool) : Int → Option Bool :=
 fun i_1 =>
 (if (decide (i_1 < (v_0.1.length : Int))) = true then q9 (idx v_0.1 i_1) (fun xv_6 =>
 (if (decide (0 ≤ xv_6.Of)) = true then q9 (idx v_1.1 i_1) (fun xv_8 =>
 (if (decide (xv_8.Of < 0)) = true then some false
 else (if (decide (xv_8.Add < xv_6.Add)) = true then some false
 else rec_1 (i64.wrap (i_1 + 1)))))
 else q9 (idx v_1.1 i_1) (fun xv_7 =>
 (if (decide (xv_7.Add < xv_6.Add)) = true then some false
 else rec_1 (i64.wrap (i_1 + 1))))))
 else some true)
def q3d (a_0 : GHop) (b_0 : GHop) : Option Bool :=
 q9 (q0m a_0) (fun v_0 =>
 q9 (q0m b_0) (fun v_1 =>
 (if ((((!v_0.2) || (!v_1.2)) || (!(a_0.From == b_0.From))) || (!((v_0.1.length : Int) == (v_1.1.length : Int)))) = true then some false
 else w9 (q88 v_0 v_1) rounds 0)))
instance zr8 (a_0 : GHop) (b_0 : GHop) : Ct pp 48 (q3d a_0 b_0) [.agg (Row.row a_0), .agg (Row.row b_0)] fun r => (.v (.bool r)) := ctK Tryz.func48 rfl (by rw [q3d]) (by
 intro r h F; refine sM ?_; refine sg fun _ Q2 => ?_; obtain ⟨v_0, ev_0, h⟩ := z8 h; simp only [go_sem]; refine q0c [] (q1o a_0 v_0 ev_0) ?_; simp only [go_sem]; refine q8 Q2 (sg fun _ Q3 => ?_); obtain ⟨v_1, ev_1, h⟩ := z8 h; simp only [go_sem]; refine q0c [] (q1o b_0 v_1 ev_1) ?_; simp only [go_sem]; refine q8 Q3 (sg fun _ Q4 => ?_); refine sM ?_; refine sB h (fun _ h => ?_) fun _ h => ?_
 · exact au
 · refine j4 (q8 Q4 (jg fun _ Q7 => ?_)); refine sM ?_; refine j3 fun _ Q9 => ?_; refine u6 h [] (fun i_1 => ([(5, .osl 0 2 (0) (v_0.1.length)), (7, .osl 1 2 (0) (v_1.1.length)), (9, .v (.int .i64 i_1))], [(0, .arr 2 (enc v_0.1)), (1, .arr 2 (enc v_1.1))])) 2 ?_; rintro m_1 i_1 h _ Q10; rw [q88] at h; exact au)
def q86 (b_2 : GHop) : Option (GHop × Bool) :=
 q9 (q0m b_2) (fun v_0 =>
 (if (!v_0.2) = true then some ((⟨0, 0, 0, (⟨0, 0, 0, 0⟩ : Arr4 Int), (⟨0, 0, 0, 0⟩ : Arr4 Int)⟩ : GHop), false)
 else some (b_2, true)))
def q87 (l_0 : List GBackwashref02_Part) (rec_2 : Int × GHop → Option (GHop × Bool)) : Int × GHop → Option (GHop × Bool) :=
 fun (i_3, b_4) =>
 (if (decide (i_3 < (l_0.length : Int))) = true then q9 (idx l_0 i_3) (fun xv_5 =>
 (if (decide (0 ≤ xv_5.Of)) = true then y5 (0 ≤ b_4.Keep ∧ b_4.Keep < 4) (
 q9 (some (if b_4.Keep.toNat = 0 then xv_5.Add else b_4.Add.a0)) (fun w_24 =>
 q9 (some (if b_4.Keep.toNat = 1 then xv_5.Add else b_4.Add.a1)) (fun w_25 =>
 q9 (some (if b_4.Keep.toNat = 2 then xv_5.Add else b_4.Add.a2)) (fun w_26 =>
 q9 (some (if b_4.Keep.toNat = 3 then xv_5.Add else b_4.Add.a3)) (fun w_27 =>
 rec_2 (i64.wrap (i_3 + 1), (⟨b_4.From, i64.wrap (b_4.Keep + 1), b_4.Tail, (⟨w_24, w_25, w_26, w_27⟩ : Arr4 Int), b_4.T⟩ : GHop)))))))
 else y5 (0 ≤ b_4.Tail ∧ b_4.Tail < 4) (
 q9 (some (if b_4.Tail.toNat = 0 then xv_5.Add else b_4.T.a0)) (fun w_28 =>
 q9 (some (if b_4.Tail.toNat = 1 then xv_5.Add else b_4.T.a1)) (fun w_29 =>
 q9 (some (if b_4.Tail.toNat = 2 then xv_5.Add else b_4.T.a2)) (fun w_30 =>
 q9 (some (if b_4.Tail.toNat = 3 then xv_5.Add else b_4.T.a3)) (fun w_31 =>
 rec_2 (i64.wrap (i_3 + 1), (⟨b_4.From, b_4.Keep, i64.wrap (b_4.Tail + 1), b_4.Add, (⟨w_28, w_29, w_30, w_31⟩ : Arr4 Int)⟩ : GHop)))))))))
 else q86 b_4)
def q81 (fromv_0 : Int) (l_0 : List GBackwashref02_Part) : Option (GHop × Bool) :=
 w9 (q87 l_0) rounds (0, (⟨fromv_0, 0, 0, (⟨0, 0, 0, 0⟩ : Arr4 Int), (⟨0, 0, 0, 0⟩ : Arr4 Int)⟩ : GHop))
instance zr7 (fromv_0 : Int) (l_0 : List GBackwashref02_Part) : Ct pp 47 (q81 fromv_0 l_0) [.v (.int .i64 fromv_0), .sl 2 (enc l_0)] fun r => (.tup [.agg (Row.row r.1), .v (.bool r.2)]) := ctK Tryz.func47 rfl (by rw [q81]) (by
 intro r h F; refine sM ?_; refine sM ?_; refine q14 (fun (b_2 : GHop) => q86 b_2 = some r) [4, 6] (fun b_2 => ([], [(0, .box [.v (.int .i64 0), .v (.int .i64 0), .v (.int .i64 0), .v (.int .i64 0), .v (.int .i64 0), .v (.int .i64 0), .v (.int .i64 0), .v (.int .i64 0), .v (.int .i64 0), .v (.int .i64 0), .v (.int .i64 0)]), (1, .box (Row.row b_2))])) 2 ?_ ?_
 ·
  intro _ Q8; refine sM ?_; refine j3 fun _ Q10 => ?_; refine u6 h [1, 4, 6] (fun x => ([(7, .v (.int .i64 x.1))], [(0, .box [.v (.int .i64 0), .v (.int .i64 0), .v (.int .i64 0), .v (.int .i64 0), .v (.int .i64 0), .v (.int .i64 0), .v (.int .i64 0), .v (.int .i64 0), .v (.int .i64 0), .v (.int .i64 0), .v (.int .i64 0)]), (1, .box (Row.row x.2))])) 2 ?_; rintro m_2 ⟨i_3, b_4⟩ h _ Q11; rw [q87] at h; refine sg fun _ Q12 => ?_; refine sM ?_; refine sB h (fun _ h => ?_) fun _ h => ?_
  ·
   refine j4 (q8 Q12 (jg fun _ Q14 => ?_)); refine j3 fun _ Q15 => ?_; refine sg fun _ Q16 => ?_; obtain ⟨xv_5, F, h⟩ := bI F h; simp only [go_sem, F]; refine ai ?_; refine q8 Q16 (sB h (fun _ h => ?_) fun _ h => ?_)
   · refine sg fun _ Q17 => ?_; refine x9 ?_; refine j83 ?_; obtain ⟨F, h⟩ := bG F h; obtain ⟨w_24, ew_24, h⟩ := z8 h; obtain ⟨w_25, ew_25, h⟩ := z8 h; obtain ⟨w_26, ew_26, h⟩ := z8 h; obtain ⟨w_27, ew_27, h⟩ := z8 h; have sf_6 := qh2 (f := (fun y => AV.v (.int .i64 y))) [.v (.int .i64 b_4.From), .v (.int .i64 b_4.Keep), .v (.int .i64 b_4.Tail)] [.v (.int .i64 b_4.T.a0), .v (.int .i64 b_4.T.a1), .v (.int .i64 b_4.T.a2), .v (.int .i64 b_4.T.a3)] [b_4.Add.a0, b_4.Add.a1, b_4.Add.a2, b_4.Add.a3] [w_24, w_25, w_26, w_27] (b_4.Keep.toNat) xv_5.Add (by simp only [List.length_cons, List.length_nil]; omega) (by simp only [List.mapIdx_cons, List.mapIdx_nil, Nat.zero_add, Nat.reduceAdd, Option.some.inj ew_24, Option.some.inj ew_25, Option.some.inj ew_26, Option.some.inj ew_27]); simp only [List.cons_append, List.nil_append, List.append_nil, List.map_cons, List.map_nil, List.length_cons, List.length_nil, Nat.zero_add, Nat.reduceAdd, q3a, Nat.add_assoc, q1p] at sf_6; simp only [go_sem, sf_6, Nat.mul_one, F]; refine ai ?_; refine ai ?_; exact au
   · refine sg fun _ Q18 => ?_; refine x9 ?_; refine j83 ?_; obtain ⟨F, h⟩ := bG F h; obtain ⟨w_28, ew_28, h⟩ := z8 h; obtain ⟨w_29, ew_29, h⟩ := z8 h; obtain ⟨w_30, ew_30, h⟩ := z8 h; obtain ⟨w_31, ew_31, h⟩ := z8 h; have sf_7 := qh2 (f := (fun y => AV.v (.int .i64 y))) [.v (.int .i64 b_4.From), .v (.int .i64 b_4.Keep), .v (.int .i64 b_4.Tail), .v (.int .i64 b_4.Add.a0), .v (.int .i64 b_4.Add.a1), .v (.int .i64 b_4.Add.a2), .v (.int .i64 b_4.Add.a3)] [] [b_4.T.a0, b_4.T.a1, b_4.T.a2, b_4.T.a3] [w_28, w_29, w_30, w_31] (b_4.Tail.toNat) xv_5.Add (by simp only [List.length_cons, List.length_nil]; omega) (by simp only [List.mapIdx_cons, List.mapIdx_nil, Nat.zero_add, Nat.reduceAdd, Option.some.inj ew_28, Option.some.inj ew_29, Option.some.inj ew_30, Option.some.inj ew_31]); simp only [List.cons_append, List.nil_append, List.append_nil, List.map_cons, List.map_nil, List.length_cons, List.length_nil, Nat.zero_add, Nat.reduceAdd, q3a, Nat.add_assoc, q1p] at sf_7; simp only [go_sem, sf_7, Nat.mul_one, F]; refine ai ?_; refine ai ?_; exact au
  · exact au
 ·
  rintro b_2 h
  try dsimp only at h
  rw [q86] at h; refine sg fun _ Q3 => ?_; refine sg fun _ Q4 => ?_; obtain ⟨v_0, ev_0, h⟩ := z8 h; simp only [go_sem]; refine q0c [] (q1o b_2 v_0 ev_0) ?_; simp only [go_sem]; exact au)
def q76 (a_0 : GHop) (a_3 : List GBackwashref02_Part) : Option (GHop × Bool) :=
 q9 (q81 a_0.From a_3) (fun v_2 =>
 some (v_2.1, v_2.2))
def q77 (a_0 : GHop) (v_0 : (List GBackwashref02_Part) × Bool) (v_1 : (List GBackwashref02_Part) × Bool) (rec_2 : Int × (List GBackwashref02_Part) → Option (GHop × Bool)) : Int × (List GBackwashref02_Part) → Option (GHop × Bool) :=
 fun (i_3, a_5) =>
 (if (decide (i_3 < (v_1.1.length : Int))) = true then q9 (idx v_1.1 i_3) (fun xv_10 =>
 (if (decide (0 ≤ xv_10.Of)) = true then q9 (idx v_0.1 xv_10.Of) (fun xv_11 =>
 y5 ((a_5.length + List.length ([(⟨xv_11.Of, i64.wrap (xv_11.Add + xv_10.Add)⟩ : GBackwashref02_Part)] : List GBackwashref02_Part)) * 16 ≤ 140737488355328) (
 rec_2 (i64.wrap (i_3 + 1), (a_5 ++ ([(⟨xv_11.Of, i64.wrap (xv_11.Add + xv_10.Add)⟩ : GBackwashref02_Part)] : List GBackwashref02_Part)))))
 else y5 ((a_5.length + List.length ([xv_10] : List GBackwashref02_Part)) * 16 ≤ 140737488355328) (
 rec_2 (i64.wrap (i_3 + 1), (a_5 ++ ([xv_10] : List GBackwashref02_Part))))))
 else q76 a_0 a_5)
def q4k (a_0 : GHop) (b_0 : GHop) : Option (GHop × Bool) :=
 q9 (q0m a_0) (fun v_0 =>
 q9 (q0m b_0) (fun v_1 =>
 (if (((!v_0.2) || (!v_1.2)) || (!((v_0.1.length : Int) == b_0.From))) = true then some ((⟨0, 0, 0, (⟨0, 0, 0, 0⟩ : Arr4 Int), (⟨0, 0, 0, 0⟩ : Arr4 Int)⟩ : GHop), false)
 else w9 (q77 a_0 v_0 v_1) rounds (0, []))))
instance z1s (a_0 : GHop) (b_0 : GHop) : Ct pp 19 (q4k a_0 b_0) [.agg (Row.row a_0), .agg (Row.row b_0)] fun r => (.tup [.agg (Row.row r.1), .v (.bool r.2)]) := ctK Tryz.func19 rfl (by rw [q4k]) (by
 intro r h F; refine sM ?_; refine sg fun _ Q2 => ?_; obtain ⟨v_0, ev_0, h⟩ := z8 h; simp only [go_sem]; refine q0c [] (q1o a_0 v_0 ev_0) ?_; simp only [go_sem]; refine q8 Q2 (sg fun _ Q3 => ?_); obtain ⟨v_1, ev_1, h⟩ := z8 h; simp only [go_sem]; refine q0c [] (q1o b_0 v_1 ev_1) ?_; simp only [go_sem]; refine q8 Q3 (sg fun _ Q4 => ?_); refine sM ?_; refine sB h (fun _ h => ?_) fun _ h => ?_
 · exact au
 ·
  refine j4 (q8 Q4 (sM ?_)); refine q14 (fun (a_3 : (List GBackwashref02_Part)) => q76 a_0 a_3 = some r) [2] (fun a_3 => ([(4, .ptr 1 0), (10, .osl 2 2 (0) (a_3.length))], [(0, .box (Row.row a_0)), (1, .box [.v (.int .i64 0), .v (.int .i64 0), .v (.int .i64 0), .v (.int .i64 0), .v (.int .i64 0), .v (.int .i64 0), .v (.int .i64 0), .v (.int .i64 0), .v (.int .i64 0), .v (.int .i64 0), .v (.int .i64 0)]), (2, .arr 2 (enc a_3))])) 3 ?_ ?_
  ·
   intro _ Q9; refine sM ?_; refine j3 fun _ Q11 => ?_; refine u6 h [2] (fun x => ([(4, .ptr 1 0), (6, .osl 2 2 (0) (v_0.1.length)), (8, .osl 3 2 (0) (v_1.1.length)), (10, .osl 4 2 (0) (x.2.length)), (11, .v (.int .i64 x.1))], [(0, .box (Row.row a_0)), (1, .box [.v (.int .i64 0), .v (.int .i64 0), .v (.int .i64 0), .v (.int .i64 0), .v (.int .i64 0), .v (.int .i64 0), .v (.int .i64 0), .v (.int .i64 0), .v (.int .i64 0), .v (.int .i64 0), .v (.int .i64 0)]), (2, .arr 2 (enc v_0.1)), (3, .arr 2 (enc v_1.1)), (4, .arr 2 (enc x.2))])) 5 ?_; rintro m_2 ⟨i_3, a_5⟩ h _ Q12; rw [q77] at h; refine sg fun _ Q13 => ?_; refine sM ?_; refine sB h (fun _ h => ?_) fun _ h => ?_
   ·
    refine j4 (q8 Q13 (jg fun _ Q15 => ?_)); refine j3 fun _ Q16 => ?_; refine sg fun _ Q17 => ?_; obtain ⟨xv_10, F, h⟩ := bI F h; simp only [go_sem, F]; refine ai ?_; refine q8 Q17 (jg fun _ Q18 => ?_); refine sM ?_; refine sB h (fun _ h => ?_) fun _ h => ?_
    ·
     refine x9 ?_; refine j83 ?_; obtain ⟨xv_11, F, h⟩ := bI F h; simp only [go_sem, F]; refine ai ?_; refine ai ?_; refine q8 Q18 ?_; have rf_16 : [[.v (.int .i64 xv_11.Of), .v (.int .i64 (i64.wrap (xv_11.Add + xv_10.Add)))]] = enc ([(⟨xv_11.Of, i64.wrap (xv_11.Add + xv_10.Add)⟩ : GBackwashref02_Part)] : List GBackwashref02_Part) := by rfl
     obtain ⟨g_10, h⟩ := q02 h; have F := And.intro F g_10; simp only [List.length_cons, List.length_nil, Nat.zero_add, List.length_append] at g_10; have rf_17 : enc a_5 ++ [[.v (.int .i64 xv_11.Of), .v (.int .i64 (i64.wrap (xv_11.Add + xv_10.Add)))]] = enc (a_5 ++ ([(⟨xv_11.Of, i64.wrap (xv_11.Add + xv_10.Add)⟩ : GBackwashref02_Part)] : List GBackwashref02_Part)) := by exact (q19 a_5 ([(⟨xv_11.Of, i64.wrap (xv_11.Add + xv_10.Add)⟩ : GBackwashref02_Part)] : List GBackwashref02_Part)).symm
     simp only [go_sem, g_10, rf_17]; simp only [rf_16]; exact au
    ·
     refine j4 (q8 Q18 ?_); have rf_18 : [[.v (.int .i64 xv_10.Of), .v (.int .i64 xv_10.Add)]] = enc ([xv_10] : List GBackwashref02_Part) := by rfl
     obtain ⟨g_11, h⟩ := q02 h; have F := And.intro F g_11; simp only [List.length_cons, List.length_nil, Nat.zero_add, List.length_append] at g_11; have rf_19 : enc a_5 ++ [[.v (.int .i64 xv_10.Of), .v (.int .i64 xv_10.Add)]] = enc (a_5 ++ ([xv_10] : List GBackwashref02_Part)) := by exact (q19 a_5 ([xv_10] : List GBackwashref02_Part)).symm
     simp only [go_sem, g_11, rf_19]; simp only [rf_18]; exact au
   · exact au
  ·
   rintro a_3 h
   try dsimp only at h
   rw [q76] at h; exact au)
def q89 (b_2 : GTime) : Option (GTime × Bool) :=
 q9 (q1q b_2) (fun v_0 =>
 (if (!v_0.2) = true then some ((⟨0, (⟨0, 0, 0, 0⟩ : Arr4 Int)⟩ : GTime), false)
 else some (b_2, true)))
def q8a (l_0 : List Int) (rec_2 : Int × GTime → Option (GTime × Bool)) : Int × GTime → Option (GTime × Bool) :=
 fun (i_3, b_4) =>
 (if (decide (i_3 < (l_0.length : Int))) = true then q9 (idx l_0 i_3) (fun xv_5 =>
 y5 (0 ≤ i_3 ∧ i_3 < 4) (
 q9 (some (if i_3.toNat = 0 then xv_5 else b_4.C.a0)) (fun w_12 =>
 q9 (some (if i_3.toNat = 1 then xv_5 else b_4.C.a1)) (fun w_13 =>
 q9 (some (if i_3.toNat = 2 then xv_5 else b_4.C.a2)) (fun w_14 =>
 q9 (some (if i_3.toNat = 3 then xv_5 else b_4.C.a3)) (fun w_15 =>
 rec_2 (i64.wrap (i_3 + 1), (⟨b_4.D, (⟨w_12, w_13, w_14, w_15⟩ : Arr4 Int)⟩ : GTime))))))))
 else q89 b_4)
def q82 (l_0 : List Int) : Option (GTime × Bool) :=
 (if ((decide ((l_0.length : Int) < 1)) || (decide (4 < (l_0.length : Int)))) = true then some ((⟨0, (⟨0, 0, 0, 0⟩ : Arr4 Int)⟩ : GTime), false)
 else w9 (q8a l_0) rounds (0, (⟨(l_0.length : Int), (⟨0, 0, 0, 0⟩ : Arr4 Int)⟩ : GTime)))
instance zr9 (l_0 : List Int) : Ct pp 51 (q82 l_0) [.sl 1 (enc l_0)] fun r => (.tup [.agg (Row.row r.1), .v (.bool r.2)]) := ctK Tryz.func51 rfl (by rw [q82]) (by
 intro r h F; refine sM ?_; refine sM ?_; refine sg fun _ Q3 => ?_; refine sM ?_; refine sB h (fun _ h => ?_) fun _ h => ?_
 · exact au
 ·
  refine j4 (q8 Q3 (q14 (fun (b_2 : GTime) => q89 b_2 = some r) [2, 4] (fun b_2 => ([], [(0, .box [.v (.int .i64 0), .v (.int .i64 0), .v (.int .i64 0), .v (.int .i64 0), .v (.int .i64 0)]), (1, .box (Row.row b_2))])) 2 ?_ ?_))
  ·
   intro _ Q11; refine sM ?_; refine j3 fun _ Q13 => ?_; refine u6 h [0, 2, 4] (fun x => ([(5, .v (.int .i64 x.1))], [(0, .box [.v (.int .i64 0), .v (.int .i64 0), .v (.int .i64 0), .v (.int .i64 0), .v (.int .i64 0)]), (1, .box (Row.row x.2))])) 2 ?_; rintro m_2 ⟨i_3, b_4⟩ h _ Q14; rw [q8a] at h; refine sg fun _ Q15 => ?_; refine sM ?_; refine sB h (fun _ h => ?_) fun _ h => ?_
   · refine j4 (q8 Q15 (sg fun _ Q17 => ?_)); refine j3 fun _ Q18 => ?_; obtain ⟨xv_5, F, h⟩ := bI F h; obtain ⟨F, h⟩ := bG F h; obtain ⟨w_12, ew_12, h⟩ := z8 h; obtain ⟨w_13, ew_13, h⟩ := z8 h; obtain ⟨w_14, ew_14, h⟩ := z8 h; obtain ⟨w_15, ew_15, h⟩ := z8 h; have sf_3 := qh2 (f := (fun y => AV.v (.int .i64 y))) [.v (.int .i64 b_4.D)] [] [b_4.C.a0, b_4.C.a1, b_4.C.a2, b_4.C.a3] [w_12, w_13, w_14, w_15] (i_3.toNat) xv_5 (by simp only [List.length_cons, List.length_nil]; omega) (by simp only [List.mapIdx_cons, List.mapIdx_nil, Nat.zero_add, Nat.reduceAdd, Option.some.inj ew_12, Option.some.inj ew_13, Option.some.inj ew_14, Option.some.inj ew_15]); simp only [List.cons_append, List.nil_append, List.append_nil, List.map_cons, List.map_nil, List.length_cons, List.length_nil, Nat.zero_add, Nat.reduceAdd, q3a, Nat.add_assoc, q1p] at sf_3; simp only [go_sem, sf_3, Nat.mul_one, F]; refine ai ?_; refine ai ?_; exact au
   · exact au
  ·
   rintro b_2 h
   try dsimp only at h
   rw [q89] at h; refine sg fun _ Q6 => ?_; refine sg fun _ Q7 => ?_; obtain ⟨v_0, ev_0, h⟩ := z8 h; simp only [go_sem]; refine q0c [] (q4f b_2 v_0 ev_0) ?_; simp only [go_sem]; exact au)
def q6x (a_2 : List Int) : Option (GTime × Bool) :=
 q9 (q82 a_2) (fun v_2 =>
 some (v_2.1, v_2.2))
def q6y (v_0 : (List GBackwashref02_Part) × Bool) (v_1 : (List Int) × Bool) (rec_2 : Int × (List Int) → Option (GTime × Bool)) : Int × (List Int) → Option (GTime × Bool) :=
 fun (i_3, a_4) =>
 (if (decide (i_3 < (v_0.1.length : Int))) = true then q9 (idx v_0.1 i_3) (fun xv_10 =>
 (if (decide (0 ≤ xv_10.Of)) = true then q9 (idx v_1.1 xv_10.Of) (fun xv_11 =>
 y5 ((a_4.length + List.length ([i64.wrap (xv_10.Add + xv_11)] : List Int)) * 8 ≤ 140737488355328) (
 rec_2 (i64.wrap (i_3 + 1), (a_4 ++ ([i64.wrap (xv_10.Add + xv_11)] : List Int)))))
 else y5 ((a_4.length + List.length ([xv_10.Add] : List Int)) * 8 ≤ 140737488355328) (
 rec_2 (i64.wrap (i_3 + 1), (a_4 ++ ([xv_10.Add] : List Int))))))
 else q6x a_4)
def q60 (hv_0 : GHop) (t_0 : GTime) : Option (GTime × Bool) :=
 q9 (q0m hv_0) (fun v_0 =>
 q9 (q1q t_0) (fun v_1 =>
 (if (((!v_0.2) || (!v_1.2)) || (!((v_1.1.length : Int) == hv_0.From))) = true then some ((⟨0, (⟨0, 0, 0, 0⟩ : Arr4 Int)⟩ : GTime), false)
 else w9 (q6y v_0 v_1) rounds (0, []))))
instance z1m (hv_0 : GHop) (t_0 : GTime) : Ct pp 23 (q60 hv_0 t_0) [.agg (Row.row hv_0), .agg (Row.row t_0)] fun r => (.tup [.agg (Row.row r.1), .v (.bool r.2)]) := ctK Tryz.func23 rfl (by rw [q60]) (by
 intro r h F; refine sM ?_; refine sg fun _ Q2 => ?_; obtain ⟨v_0, ev_0, h⟩ := z8 h; simp only [go_sem]; refine q0c [] (q1o hv_0 v_0 ev_0) ?_; simp only [go_sem]; refine q8 Q2 (sg fun _ Q3 => ?_); obtain ⟨v_1, ev_1, h⟩ := z8 h; simp only [go_sem]; refine q0c [] (q4f t_0 v_1 ev_1) ?_; simp only [go_sem]; refine q8 Q3 (sg fun _ Q4 => ?_); refine sM ?_; refine sB h (fun _ h => ?_) fun _ h => ?_
 · exact au
 ·
  refine j4 (q8 Q4 (sM ?_)); refine q14 (fun (a_2 : (List Int)) => q6x a_2 = some r) [] (fun a_2 => ([(4, .ptr 0 0), (10, .osl 1 1 (0) (a_2.length))], [(0, .box [.v (.int .i64 0), .v (.int .i64 0), .v (.int .i64 0), .v (.int .i64 0), .v (.int .i64 0)]), (1, .arr 1 (enc a_2))])) 2 ?_ ?_
  ·
   intro _ Q9; refine sM ?_; refine j3 fun _ Q11 => ?_; refine u6 h [] (fun x => ([(4, .ptr 0 0), (6, .osl 1 2 (0) (v_0.1.length)), (8, .osl 2 1 (0) (v_1.1.length)), (10, .osl 3 1 (0) (x.2.length)), (11, .v (.int .i64 x.1))], [(0, .box [.v (.int .i64 0), .v (.int .i64 0), .v (.int .i64 0), .v (.int .i64 0), .v (.int .i64 0)]), (1, .arr 2 (enc v_0.1)), (2, .arr 1 (enc v_1.1)), (3, .arr 1 (enc x.2))])) 4 ?_; rintro m_2 ⟨i_3, a_4⟩ h _ Q12; rw [q6y] at h; refine sg fun _ Q13 => ?_; refine sM ?_; refine sB h (fun _ h => ?_) fun _ h => ?_
   ·
    refine j4 (q8 Q13 (jg fun _ Q15 => ?_)); refine j3 fun _ Q16 => ?_; refine sg fun _ Q17 => ?_; obtain ⟨xv_10, F, h⟩ := bI F h; simp only [go_sem, F]; refine ai ?_; refine q8 Q17 (jg fun _ Q18 => ?_); refine sg fun _ Q19 => ?_; simp only [go_sem, F]; refine ai ?_; refine q8 Q19 (sB h (fun _ h => ?_) fun _ h => ?_)
    ·
     obtain ⟨xv_11, F, h⟩ := bI F h; simp only [go_sem, F]; refine ai ?_; refine ai ?_; refine q8 Q18 ?_; have rf_16 : [[.v (.int .i64 (i64.wrap (xv_10.Add + xv_11)))]] = enc ([i64.wrap (xv_10.Add + xv_11)] : List Int) := by rfl
     obtain ⟨g_10, h⟩ := q02 h; have F := And.intro F g_10; simp only [List.length_cons, List.length_nil, Nat.zero_add, List.length_append] at g_10; have rf_17 : enc a_4 ++ [[.v (.int .i64 (i64.wrap (xv_10.Add + xv_11)))]] = enc (a_4 ++ ([i64.wrap (xv_10.Add + xv_11)] : List Int)) := by exact (q19 a_4 ([i64.wrap (xv_10.Add + xv_11)] : List Int)).symm
     simp only [go_sem, g_10, rf_17]; simp only [rf_16]; exact au
    ·
     refine j4 (q8 Q18 ?_); have rf_18 : [[.v (.int .i64 xv_10.Add)]] = enc ([xv_10.Add] : List Int) := by rfl
     obtain ⟨g_11, h⟩ := q02 h; have F := And.intro F g_11; simp only [List.length_cons, List.length_nil, Nat.zero_add, List.length_append] at g_11; have rf_19 : enc a_4 ++ [[.v (.int .i64 xv_10.Add)]] = enc (a_4 ++ ([xv_10.Add] : List Int)) := by exact (q19 a_4 ([xv_10.Add] : List Int)).symm
     simp only [go_sem, g_11, rf_19]; simp only [rf_18]; exact au
   · exact au
  ·
   rintro a_2 h
   try dsimp only at h
   rw [q6x] at h; exact au)
def q36 (g_0 : GGraph) (nv_0 : Int) (gives_0 : Bool) : Option Int :=
 (if ((decide (nv_0 < 0)) || (decide ((g_0.Nodes.length : Int) ≤ nv_0))) = true then some 0
 else q9 (q35 g_0 nv_0 gives_0) (fun v_0 =>
 q9 (q1y g_0 v_0) (fun v_1 =>
 some (v_1.length : Int))))
instance z1l (g_0 : GGraph) (nv_0 : Int) (gives_0 : Bool) : Ct pp 18 (q36 g_0 nv_0 gives_0) [.agg (Row.row g_0), .v (.int .i64 nv_0), .v (.bool gives_0)] fun r => (.v (.int .i64 r)) := ctK Tryz.func18 rfl (by rw [q36]) (by
 intro r h F; refine sM ?_; refine sg fun _ Q2 => ?_; refine sM ?_; refine sB h (fun _ h => ?_) fun _ h => ?_
 · exact au
 · refine j4 (q8 Q2 (sg fun _ Q5 => ?_)); refine x9 ?_; refine j83 ?_; obtain ⟨v_0, ev_0, h⟩ := z8 h; simp only [go_sem]; refine callq (fun _ => (qm4 g_0 nv_0 gives_0 v_0 ev_0)) (by rfl) (by rfl) ?_; obtain ⟨v_1, ev_1, h⟩ := z8 h; simp only [go_sem]; refine q0c [] (q2u g_0 v_0 v_1 ev_1) ?_; simp only [go_sem]; exact au)
def q6g (g_0 : GGraph) (e_0 : GEdge) : Option GHop :=
 q9 (q36 g_0 e_0.From false) (fun v_0 =>
 q9 (idx g_0.Nodes e_0.From) (fun xv_0 =>
 (if (xv_0.Kind == 10) = true then some (⟨v_0, v_0, 1, (⟨0, 0, 0, 0⟩ : Arr4 Int), (⟨0, 0, 0, 0⟩ : Arr4 Int)⟩ : GHop)
 else (if (xv_0.Kind == 11) = true then some (⟨v_0, i64.wrap (v_0 - 1), 0, (⟨0, 0, 0, 0⟩ : Arr4 Int), (⟨0, 0, 0, 0⟩ : Arr4 Int)⟩ : GHop)
 else (if (xv_0.Kind == 12) = true then y5 (0 ≤ i64.wrap (v_0 - 1) ∧ i64.wrap (v_0 - 1) < 4) (
 q9 (some (if Int.toNat (i64.wrap (v_0 - 1)) = 0 then 1 else 0)) (fun w_0 =>
 q9 (some (if Int.toNat (i64.wrap (v_0 - 1)) = 1 then 1 else 0)) (fun w_1 =>
 q9 (some (if Int.toNat (i64.wrap (v_0 - 1)) = 2 then 1 else 0)) (fun w_2 =>
 q9 (some (if Int.toNat (i64.wrap (v_0 - 1)) = 3 then 1 else 0)) (fun w_3 =>
 some (⟨v_0, v_0, 0, (⟨w_0, w_1, w_2, w_3⟩ : Arr4 Int), (⟨0, 0, 0, 0⟩ : Arr4 Int)⟩ : GHop))))))
 else some (⟨v_0, v_0, 0, (⟨0, 0, 0, 0⟩ : Arr4 Int), (⟨0, 0, 0, 0⟩ : Arr4 Int)⟩ : GHop))))))
instance z1q (g_0 : GGraph) (e_0 : GEdge) : Ct pp 20 (q6g g_0 e_0) [.agg (Row.row g_0), .agg (Row.row e_0)] fun r => (.agg (Row.row r)) := ctK Tryz.func20 rfl (by rw [q6g]) (by
 intro r h F; refine sM ?_; refine sg fun _ Q2 => ?_; simp only [go_sem]; refine q15 h fun v_0 h => ?_; simp only [go_sem]; refine q8 Q2 (sM ?_); refine jg fun _ Q4 => ?_; refine sg fun _ Q5 => ?_; obtain ⟨xv_0, F, h⟩ := bI F h; simp only [go_sem, F]; refine ai ?_; refine q8 Q5 (j3 fun _ Q6 => ?_); refine sM ?_; refine sB h (fun _ h => ?_) fun _ h => ?_
 · exact au
 ·
  refine sM ?_; refine sB h (fun _ h => ?_) fun _ h => ?_
  · exact au
  ·
   refine sM ?_; refine sB h (fun _ h => ?_) fun _ h => ?_
   · obtain ⟨F, h⟩ := bG F h; obtain ⟨w_0, ew_0, h⟩ := z8 h; obtain ⟨w_1, ew_1, h⟩ := z8 h; obtain ⟨w_2, ew_2, h⟩ := z8 h; obtain ⟨w_3, ew_3, h⟩ := z8 h; have sf_0 := qh2 (f := (fun y => AV.v (.int .i64 y))) [.v (.int .i64 v_0), .v (.int .i64 v_0), .v (.int .i64 0)] [.v (.int .i64 0), .v (.int .i64 0), .v (.int .i64 0), .v (.int .i64 0)] [0, 0, 0, 0] [w_0, w_1, w_2, w_3] (Int.toNat (i64.wrap (v_0 - 1))) 1 (by simp only [List.length_cons, List.length_nil]; omega) (by simp only [List.mapIdx_cons, List.mapIdx_nil, Nat.zero_add, Nat.reduceAdd, Option.some.inj ew_0, Option.some.inj ew_1, Option.some.inj ew_2, Option.some.inj ew_3]); simp only [List.cons_append, List.nil_append, List.append_nil, List.map_cons, List.map_nil, List.length_cons, List.length_nil, Nat.zero_add, Nat.reduceAdd, q3a, Nat.add_assoc, q1p] at sf_0; simp only [go_sem, sf_0, Nat.mul_one, F]; refine ai ?_; exact au
   · exact au)
def q6i (i_1 : Int) (a_1 : List GHop) (rec_1 : (Int × (List GHop) → Option (List GHop))) (xv_14 : GHop) (low_12 : Bool) : Option (List GHop) :=
 (if low_12 = true then y5 ((a_1.length + List.length ([xv_14] : List GHop)) * 88 ≤ 140737488355328) (
 rec_1 (i64.wrap (i_1 + 1), (a_1 ++ ([xv_14] : List GHop))))
 else rec_1 (i64.wrap (i_1 + 1), a_1))
def q6j (l_0 : List GHop) (i_1 : Int) (a_1 : List GHop) (rec_1 : (Int × (List GHop) → Option (List GHop))) (xv_14 : GHop) (rec_3 : Bool × Int → Option (List GHop)) : Bool × Int → Option (List GHop) :=
 fun (low_14, k_13) =>
 (if (decide (k_13 < (l_0.length : Int))) = true then (if (k_13 == i_1) = true then rec_3 (low_14, i64.wrap (k_13 + 1))
 else q9 (idx l_0 k_13) (fun xv_20 =>
 q9 (q3d xv_20 xv_14) (fun v_37 =>
 (if (!v_37) = true then rec_3 (low_14, i64.wrap (k_13 + 1))
 else q9 (q3d xv_14 xv_20) (fun v_38 =>
 (if ((!v_38) || (decide (k_13 < i_1))) = true then rec_3 (false, i64.wrap (k_13 + 1))
 else rec_3 (low_14, i64.wrap (k_13 + 1))))))))
 else q6i i_1 a_1 rec_1 xv_14 low_14)
def q49 (l_0 : List GHop) (rec_1 : Int × (List GHop) → Option (List GHop)) : Int × (List GHop) → Option (List GHop) :=
 fun (i_1, a_1) =>
 (if (decide (i_1 < (l_0.length : Int))) = true then q9 (idx l_0 i_1) (fun xv_14 =>
 q9 (q0m xv_14) (fun v_26 =>
 w9 (q6j l_0 i_1 a_1 rec_1 xv_14) rounds (v_26.2, 0)))
 else some a_1)
def q3w (l_0 : List GHop) : Option (List GHop) :=
 w9 (q49 l_0) rounds (0, [])
theorem qk4 (l_0 : List GHop)  (r : List GHop) (h : q3w l_0 = some r) : DetS pp 21 [.sl 11 (enc l_0)] [] 0 (.osl 0 11 (0) (r.length)) [(0, .arr 11 (enc r))] 1 := by
 refine dtI Tryz.func21 rfl ?_; rw [q3w] at h; have F := trivial; refine sM ?_; refine sM ?_; refine jg fun _ Q3 => ?_; refine sM ?_; refine j3 fun _ Q5 => ?_; refine u6 h [0] (fun x => ([(3, .osl 0 11 (0) (x.2.length)), (4, .v (.int .i64 x.1))], [(0, .arr 11 (enc x.2))])) 1 ?_; rintro m_1 ⟨i_1, a_1⟩ h _ Q6; rw [q49] at h; refine sg fun _ Q7 => ?_; refine sM ?_; refine sB h (fun _ h => ?_) fun _ h => ?_
 ·
  refine j4 (q8 Q7 (jg fun _ Q9 => ?_)); refine j3 fun _ Q10 => ?_; refine sg fun _ Q11 => ?_; obtain ⟨xv_14, F, h⟩ := bI F h; obtain ⟨v_26, ev_26, h⟩ := z8 h; simp only [go_sem, F]; refine ai ?_; refine q0c [] (q1o xv_14 v_26 ev_26) ?_; simp only [go_sem]; refine q8 Q11 (q14 (fun (low_12 : Bool) => q6i i_1 a_1 (w9 (q49 l_0) m_1) xv_14 low_12 = some r) [0, 3, 4] (fun low_12 => ([(6, .v (.bool low_12))], [(0, .arr 11 (enc a_1))])) 1 ?_ ?_)
  · intro _ Q13; refine sM ?_; refine j3 fun _ Q15 => ?_; refine u6 h [0, 3, 4] (fun x => ([(6, .v (.bool x.1)), (7, .v (.int .i64 x.2))], [(0, .arr 11 (enc a_1))])) 1 ?_; rintro m_3 ⟨low_14, k_13⟩ h _ Q16; rw [q6j] at h; exact au
  ·
   rintro low_12 h
   try dsimp only at h
   rw [q6i] at h; refine sM ?_; refine sB h (fun _ h => ?_) fun _ h => ?_
   ·
    have rf_3 : [[.v (.int .i64 xv_14.From), .v (.int .i64 xv_14.Keep), .v (.int .i64 xv_14.Tail), .v (.int .i64 xv_14.Add.a0), .v (.int .i64 xv_14.Add.a1), .v (.int .i64 xv_14.Add.a2), .v (.int .i64 xv_14.Add.a3), .v (.int .i64 xv_14.T.a0), .v (.int .i64 xv_14.T.a1), .v (.int .i64 xv_14.T.a2), .v (.int .i64 xv_14.T.a3)]] = enc ([xv_14] : List GHop) := by rfl
    obtain ⟨g_2, h⟩ := q02 h; have F := And.intro F g_2; simp only [List.length_cons, List.length_nil, Nat.zero_add, List.length_append] at g_2; have rf_4 : enc a_1 ++ [[.v (.int .i64 xv_14.From), .v (.int .i64 xv_14.Keep), .v (.int .i64 xv_14.Tail), .v (.int .i64 xv_14.Add.a0), .v (.int .i64 xv_14.Add.a1), .v (.int .i64 xv_14.Add.a2), .v (.int .i64 xv_14.Add.a3), .v (.int .i64 xv_14.T.a0), .v (.int .i64 xv_14.T.a1), .v (.int .i64 xv_14.T.a2), .v (.int .i64 xv_14.T.a3)]] = enc (a_1 ++ ([xv_14] : List GHop)) := by exact (q19 a_1 ([xv_14] : List GHop)).symm
    simp only [go_sem, g_2, rf_4, F]; refine ai ?_; simp only [rf_3]; exact au
   · exact au
 · exact au
instance zk4 (l_0 : List GHop) : Ct pp 21 (q3w l_0) [.sl 11 (enc l_0)] fun r => (.sl 11 (enc r)) := ⟨fun r h => (qk4 l_0  r h).pure leA⟩
def q7p (l_0 : List GHop) (hv_0 : GHop) (rec_1 : Int → Option Bool) : Int → Option Bool :=
 fun i_1 =>
 (if (decide (i_1 < (l_0.length : Int))) = true then q9 (idx l_0 i_1) (fun xv_2 =>
 q9 (q3d xv_2 hv_0) (fun v_4 =>
 (if v_4 = true then q9 (q3d hv_0 xv_2) (fun v_5 =>
 (if v_5 = true then some true
 else rec_1 (i64.wrap (i_1 + 1))))
 else rec_1 (i64.wrap (i_1 + 1)))))
 else some false)
def q56 (l_0 : List GHop) (hv_0 : GHop) : Option Bool :=
 w9 (q7p l_0 hv_0) rounds 0
instance zp2 (l_0 : List GHop) (hv_0 : GHop) : Ct pp 49 (q56 l_0 hv_0) [.sl 11 (enc l_0), .agg (Row.row hv_0)] fun r => (.v (.bool r)) := ctK Tryz.func49 rfl (by rw [q56]) (by
 intro r h F; refine sM ?_; refine jg fun _ Q2 => ?_; refine sM ?_; refine j3 fun _ Q4 => ?_; refine u6 h [0, 3] (fun i_1 => ([(5, .v (.int .i64 i_1))], [(0, .box (Row.row hv_0))])) 1 ?_; rintro m_1 i_1 h _ Q5; rw [q7p] at h; exact au)
def q75 (a_0 : List GHop) (b_0 : List GHop) (rec_1 : Int → Option Bool) : Int → Option Bool :=
 fun i_1 =>
 (if (decide (i_1 < (a_0.length : Int))) = true then q9 (idx a_0 i_1) (fun xv_4 =>
 q9 (q56 b_0 xv_4) (fun v_4 =>
 (if v_4 = true then q9 (idx b_0 i_1) (fun xv_5 =>
 q9 (q56 a_0 xv_5) (fun v_5 =>
 (if (!v_5) = true then some false
 else rec_1 (i64.wrap (i_1 + 1)))))
 else some false)))
 else some true)
def q6h (a_0 : List GHop) (b_0 : List GHop) : Option Bool :=
 (if (!((a_0.length : Int) == (b_0.length : Int))) = true then some false
 else w9 (q75 a_0 b_0) rounds 0)
instance z1r (a_0 : List GHop) (b_0 : List GHop) : Ct pp 22 (q6h a_0 b_0) [.sl 11 (enc a_0), .sl 11 (enc b_0)] fun r => (.v (.bool r)) := ctK Tryz.func22 rfl (by rw [q6h]) (by
 intro r h F; refine sM ?_; refine sg fun _ Q2 => ?_; refine sM ?_; refine sB h (fun _ h => ?_) fun _ h => ?_
 · exact au
 · refine j4 (q8 Q2 (jg fun _ Q5 => ?_)); refine sM ?_; refine j3 fun _ Q7 => ?_; refine u6 h [0, 1] (fun i_1 => ([(5, .v (.int .i64 i_1))], [])) 0 ?_; rintro m_1 i_1 h _ Q8; rw [q75] at h; exact au)
def q5d (rec_1 : ((List (List GHop)) → Option (List (List GHop)))) (same_12 : Bool) (a_70 : List (List GHop)) : Option (List (List GHop)) :=
 (if same_12 = true then some a_70
 else rec_1 a_70)
def q5f (a_55 : List (List GHop)) (rec_1 : ((List (List GHop)) → Option (List (List GHop)))) (rec_5 : Bool × Int × (List (List GHop)) → Option (List (List GHop))) : Bool × Int × (List (List GHop)) → Option (List (List GHop)) :=
 fun (same_14, nv_21, a_72) =>
 (if (decide (nv_21 < (a_55.length : Int))) = true then q9 (idx a_72 nv_21) (fun xv_232 =>
 q9 (q3w xv_232) (fun v_125 =>
 (if same_14 = true then q9 (idx (List.set a_72 (nv_21.toNat) v_125) nv_21) (fun xv_233 =>
 q9 (idx a_55 nv_21) (fun xv_234 =>
 q9 (q6h xv_233 xv_234) (fun v_126 =>
 rec_5 (v_126, i64.wrap (nv_21 + 1), (List.set a_72 (nv_21.toNat) v_125)))))
 else rec_5 (false, i64.wrap (nv_21 + 1), (List.set a_72 (nv_21.toNat) v_125)))))
 else q5d rec_1 same_14 a_72)
def q3m (a_55 : List (List GHop)) (rec_1 : ((List (List GHop)) → Option (List (List GHop)))) (a_67 : List (List GHop)) : Option (List (List GHop)) :=
 w9 (q5f a_55 rec_1) rounds (true, 0, a_67)
def q5e (g_0 : GGraph) (a_55 : List (List GHop)) (i_11 : Int) (rec_6 : (Int × (List (List GHop)) → Option (List (List GHop)))) (xv_255 : GEdge) (rec_7 : Int × (List (List GHop)) → Option (List (List GHop))) : Int × (List (List GHop)) → Option (List (List GHop)) :=
 fun (k_35, a_80) =>
 q9 (idx a_55 xv_255.From) (fun xv_262 =>
 (if (decide (k_35 < (xv_262.length : Int))) = true then q9 (idx xv_262 k_35) (fun xv_263 =>
 q9 (q6g g_0 xv_255) (fun v_143 =>
 q9 (q4k xv_263 v_143) (fun v_144 =>
 (if v_144.2 = true then q9 (idx a_80 xv_255.To) (fun xv_264 =>
 y5 ((xv_264.length + List.length ([v_144.1] : List GHop)) * 88 ≤ 140737488355328) (
 rec_7 (i64.wrap (k_35 + 1), (List.set a_80 (xv_255.To.toNat) (xv_264 ++ ([v_144.1] : List GHop))))))
 else rec_7 (i64.wrap (k_35 + 1), a_80)))))
 else rec_6 (i64.wrap (i_11 + 1), a_80)))
def q3p (g_0 : GGraph) (a_55 : List (List GHop)) (rec_1 : ((List (List GHop)) → Option (List (List GHop)))) (rec_6 : Int × (List (List GHop)) → Option (List (List GHop))) : Int × (List (List GHop)) → Option (List (List GHop)) :=
 fun (i_11, a_78) =>
 (if (decide (i_11 < (g_0.Edges.length : Int))) = true then q9 (idx g_0.Edges i_11) (fun xv_255 =>
 w9 (q5e g_0 a_55 i_11 rec_6 xv_255) rounds (0, a_78))
 else q3m a_55 rec_1 a_78)
def q3n (g_0 : GGraph) (a_55 : List (List GHop)) (rec_1 : ((List (List GHop)) → Option (List (List GHop)))) (a_58 : List (List GHop)) : Option (List (List GHop)) :=
 w9 (q3p g_0 a_55 rec_1) rounds (0, a_58)
def q3o (g_0 : GGraph) (a_55 : List (List GHop)) (rec_1 : ((List (List GHop)) → Option (List (List GHop)))) (rec_8 : Int × (List (List GHop)) → Option (List (List GHop))) : Int × (List (List GHop)) → Option (List (List GHop)) :=
 fun (nv_23, a_82) =>
 (if (decide (nv_23 < (a_55.length : Int))) = true then q9 (idx a_82 nv_23) (fun xv_269 =>
 q9 (idx a_55 nv_23) (fun xv_270 =>
 y5 ((xv_269.length + xv_270.length) * 88 ≤ 140737488355328) (
 rec_8 (i64.wrap (nv_23 + 1), (List.set a_82 (nv_23.toNat) (xv_269 ++ xv_270))))))
 else q3n g_0 a_55 rec_1 a_82)
def q0w (g_0 : GGraph) (rec_1 : (List (List GHop)) → Option (List (List GHop))) : (List (List GHop)) → Option (List (List GHop)) :=
 fun a_55 =>
 y5 (0 ≤ (g_0.Nodes.length : Int) ∧ (g_0.Nodes.length : Int) * 24 ≤ 140737488355328) (
 w9 (q3o g_0 a_55 rec_1) rounds (0, (List.replicate (g_0.Nodes.length) ([] : List GHop))))
def q57 (g_0 : GGraph) (fromv_0 : Int) : Option (List (List GHop)) :=
 y5 (0 ≤ (g_0.Nodes.length : Int) ∧ (g_0.Nodes.length : Int) * 24 ≤ 140737488355328) (
 q9 (q36 g_0 fromv_0 false) (fun v_0 =>
 q9 (idx (List.replicate (g_0.Nodes.length) ([] : List GHop)) fromv_0) (fun xv_0 =>
 w9 (q0w g_0) rounds (List.set (List.replicate (g_0.Nodes.length) ([] : List GHop)) (fromv_0.toNat) ([(⟨v_0, v_0, 0, (⟨0, 0, 0, 0⟩ : Arr4 Int), (⟨0, 0, 0, 0⟩ : Arr4 Int)⟩ : GHop)] : List GHop)))))
theorem qp0 (g_0 : GGraph) (fromv_0 : Int)  (r : List (List GHop)) (h : q57 g_0 fromv_0 = some r) : DetS pp 8 [.agg (Row.row g_0), .v (.int .i64 fromv_0)] [] 0 (.osl 0 1 (0) (r.length)) [(0, .arr 1 (enc r))] 1 := by
  unfold DetS; refine Spec.of_wp Tryz.func8 rfl (by kernel_rfl) (by kernel_rfl) ?_; rw [q57] at h; refine sgW fun _ Q1 => ?_; refine wv ?_; simp only [go_sem]; refine q07 Q1 ?_; refine sgW fun _ Q2 => ?_; refine wv ?_; obtain ⟨g_1, h⟩ := q02 h; have rf_0 : List.replicate (g_0.Nodes.length) [.sl 11 (enc ([] : List GHop))] = enc (List.replicate (g_0.Nodes.length) ([] : List GHop)) := by (simp [enc, q9u, q8f, q5o, q1p]; exact .inr rfl)
  have rf_0n := rf_0; simp only [q1p] at rf_0n; simp only [go_sem, g_1]; refine And.intro (by omega) ?_; simp only [rf_0n, rf_0]; refine q07 Q2 ?_; refine sgW fun _ Q3 => ?_; refine wv ?_; obtain ⟨v_0, ev_0, h⟩ := z8 h; simp only [go_sem]; refine q9m (z1l g_0 fromv_0 false v_0 ev_0) (by rfl) (by rfl) ?_; simp only [go_sem]; refine q07 Q3 ?_; refine sgW fun _ Q4 => ?_; refine wv ?_; have rf_1 : [[.v (.int .i64 v_0), .v (.int .i64 v_0), .v (.int .i64 0), .v (.int .i64 0), .v (.int .i64 0), .v (.int .i64 0), .v (.int .i64 0), .v (.int .i64 0), .v (.int .i64 0), .v (.int .i64 0), .v (.int .i64 0)]] = enc ([(⟨v_0, v_0, 0, (⟨0, 0, 0, 0⟩ : Arr4 Int), (⟨0, 0, 0, 0⟩ : Arr4 Int)⟩ : GHop)] : List GHop) := by rfl
  obtain ⟨xv_0, ex0, h⟩ := z8 h; obtain ⟨f0a, f0b, f0c⟩ := q4u ex0; have rf_2 : (enc (List.replicate (g_0.Nodes.length) ([] : List GHop))).set (fromv_0.toNat) [.sl 11 (enc ([(⟨v_0, v_0, 0, (⟨0, 0, 0, 0⟩ : Arr4 Int), (⟨0, 0, 0, 0⟩ : Arr4 Int)⟩ : GHop)] : List GHop))] = enc (List.set (List.replicate (g_0.Nodes.length) ([] : List GHop)) (fromv_0.toNat) ([(⟨v_0, v_0, 0, (⟨0, 0, 0, 0⟩ : Arr4 Int), (⟨0, 0, 0, 0⟩ : Arr4 Int)⟩ : GHop)] : List GHop)) := by exact q2v _ _ _
  simp only [go_sem, f0a, f0b, f0c, rf_2, List.take_length]; refine And.intro (by first | omega | (intros; simp_all; done)) ?_; refine And.intro (by first | omega | (intros; simp_all; done)) ?_; simp only [rf_1]; refine q07 Q4 ?_; refine qq3 fun _ Q5 => ?_; refine z95 (ι := Nat × (List (List GHop))) (fun ((_, a_55) : Nat × (List (List GHop))) => (⟨0, [(2, .ptr 0 0), (5, .osl 1 1 (0) (a_55.length))], [(0, .box (Row.row g_0)), (1, .arr 1 (enc a_55))], 2, 131⟩ : St)) (fun ((n_, a_55) : Nat × (List (List GHop))) => w9 (q0w g_0) n_ a_55 = some r) (fun p => p.1) (rounds, (List.set (List.replicate (g_0.Nodes.length) ([] : List GHop)) (fromv_0.toNat) ([(⟨v_0, v_0, 0, (⟨0, 0, 0, 0⟩ : Arr4 Int), (⟨0, 0, 0, 0⟩ : Arr4 Int)⟩ : GHop)] : List GHop))) [some 0, some 1] ?_ h ?_
  · simp only [go_sem, Le] <;> (repeat' apply And.intro) <;> first | ((try with_reducible refine q0j ?_); assumption) | ((try with_reducible refine q0j ?_); omega) | ((try with_reducible refine q0j ?_); (simp [go_sem]; done))
  · rintro ⟨n_1, a_55⟩ h _ Q6
    dsimp only at h; replace h := qn2 h; obtain ⟨m_1, rfl, h⟩ := h; rw [q0w] at h; refine qq3 fun _ Q7 => ?_; refine sgW fun _ Q8 => ?_; refine reW (fun _ _ _ _ H => H.hintI) ?_; refine zt9 ?_; refine wv ?_; obtain ⟨g_52, h⟩ := q02 h; have rf_149 : List.replicate (g_0.Nodes.length) [.sl 11 (enc ([] : List GHop))] = enc (List.replicate (g_0.Nodes.length) ([] : List GHop)) := by (simp [enc, q9u, q8f, q5o, q1p]; exact .inr rfl)
    have rf_149n := rf_149; simp only [q1p] at rf_149n; simp only [go_sem, g_52]; refine And.intro (by omega) ?_; refine z7w (fun _ _ _ _ H => H.conR (id := 3) (isz := 11) (pre := []) (post := []) rfl (R' := enc (List.replicate (g_0.Nodes.length) ([] : List GHop))) (by first | rfl | (simp [enc, q9u, q8f, q5o, q1p]; done) | (simp [enc, q9u, q8f, q5o, q1p]; exact .inr rfl))) ?_; refine z4d ?_; refine q07 Q8 ?_; refine j2p (ι := (List (List GHop))) (fun (a_58 : (List (List GHop))) => (⟨0, [(2, .ptr 0 0), (5, .osl 1 1 (0) (a_55.length)), (7, .osl 2 1 (0) (a_58.length))], [(0, .box (Row.row g_0)), (1, .arr 1 (enc a_55)), (2, .con (q8h 1 0 (enc a_58) none) [])], 3, 131⟩ : St)) (fun (a_58 : (List (List GHop))) => q3n g_0 a_55 (w9 (q0w g_0) m_1) a_58 = some r) ?_ ?_
    ·
      intro _ Q40; refine sgW fun _ Q41 => ?_; refine wv ?_; simp only [go_sem]; refine q07 Q41 ?_; refine qq3 fun _ Q42 => ?_; refine z95 (ι := Nat × Int × (List (List GHop))) (fun ((_, nv_23, a_82) : Nat × Int × (List (List GHop))) => (⟨0, [(2, .ptr 0 0), (5, .osl 1 1 (0) (a_55.length)), (7, .osl 2 1 (0) (a_82.length)), (8, .v (.int .i64 nv_23))], [(0, .box (Row.row g_0)), (1, .arr 1 (enc a_55)), (2, .con (q8h 1 0 (enc a_82) none) [])], 3, 131⟩ : St)) (fun ((n_, nv_23, a_82) : Nat × Int × (List (List GHop))) => w9 (q3o g_0 a_55 (w9 (q0w g_0) m_1)) n_ (nv_23, a_82) = some r) (fun p => p.1) (rounds, 0, (List.replicate (g_0.Nodes.length) ([] : List GHop))) [some 0, some 1, some 3] ?_ h ?_
      · simp only [go_sem, Le] <;> (repeat' apply And.intro) <;> (try with_reducible refine q0j ?_) <;> first | omega | (simp [go_sem]; done)
      · rintro ⟨n_8, nv_23, a_82⟩ h _ Q43
        dsimp only at h; replace h := qn2 h; obtain ⟨m_8, rfl, h⟩ := h; rw [q3o] at h; refine sgW fun _ Q44 => ?_; refine sgW fun _ Q45 => ?_; refine wv ?_; simp only [go_sem]; refine q07 Q45 ?_; refine qx9 (b := (decide (nv_23 < (a_55.length : Int)))) (by (simp only [go_sem]; done)) (fun hb_176 => ?_) (fun hb_176 => ?_)
        ·
          replace h := q21 h hb_176; simp only [bool_to_prop] at hb_176; refine wv ?_; refine j4 (q07 Q44 ?_); refine sgW fun _ Q46 => ?_; refine qq3 fun _ Q47 => ?_; obtain ⟨xv_269, ex269, h⟩ := z8 h; obtain ⟨f269a, f269b, f269c⟩ := q4u ex269; refine reW (fun _ _ _ _ H => H.openI (id := 2) (i := nv_23.toNat) (pre := []) (post := []) rfl (by simp only [q1h]; omega) f269c rfl) ?_; refine zt9 ?_; refine wv ?_; refine x9 ?_; refine q27 11 0 0 [0, 0, 0, 0, 12, 28, 0, 0, 192, 448, 1020, 2047, 4095] [3, 4] [0, 1] [] [10] [] mixed (by kernel_rfl) (of_decide_eq_true (by kernel_rfl)) (by kernel_rfl) (by kernel_rfl) (by rfl) ?_; obtain ⟨xv_270, ex270, h⟩ := z8 h; obtain ⟨f270a, f270b, f270c⟩ := q4u ex270; obtain ⟨g_76, h⟩ := q02 h; have rf_220 : enc xv_269 ++ enc xv_270 = enc (xv_269 ++ xv_270) := by exact (q19 xv_269 xv_270).symm
          simp only [go_sem, f269a, f269b, f269c, f270a, f270b, f270c, g_76, rf_220]; refine And.intro (by omega) ?_; have rf_221 : (enc a_82).set (nv_23.toNat) [.sl 11 (enc (xv_269 ++ xv_270))] = enc (List.set a_82 (nv_23.toNat) (xv_269 ++ xv_270)) := by exact q2v _ _ _
          refine z7w (fun _ _ _ _ H => H.closeI (id := 2) (id2 := 4) (pre := []) (post := []) rfl rfl rfl (by simp [q1h]) rfl rfl rfl rf_221.symm) ?_; refine z4d ?_; refine d9 Q47 (q07 Q46 ?_); refine wv ?_; simp only [go_sem]; refine y9 Q43 (⟨(m_8, i64.wrap (nv_23 + 1), (List.set a_82 (nv_23.toNat) (xv_269 ++ xv_270))), [some 0, some 1, some 2], ?_, h, Nat.lt_succ_self _⟩); simp only [go_sem, Le] <;> (repeat' apply And.intro) <;> (try with_reducible refine q0j ?_) <;> first | omega | (simp [go_sem]; done)
        ·
          replace h := q23 h hb_176; simp only [bool_to_prop] at hb_176; refine wv ?_; refine q0h (z1u Q44 ?_); refine q0i Q43 (q0b Q42 (y9 Q40 (⟨a_82, [some 0, some 1, some 2], ?_, h⟩))); simp only [go_sem, Le] <;> (repeat' apply And.intro) <;> (try with_reducible refine q0j ?_) <;> first | omega | (simp [go_sem]; done)
    · rintro a_58 h
      try dsimp only at h
      rw [q3n] at h; refine j2p (ι := (List (List GHop))) (fun (a_67 : (List (List GHop))) => (⟨0, [(2, .ptr 0 0), (5, .osl 1 1 (0) (a_55.length)), (7, .osl 2 1 (0) (a_67.length))], [(0, .box (Row.row g_0)), (1, .arr 1 (enc a_55)), (2, .con (q8h 1 0 (enc a_67) none) [])], 3, 131⟩ : St)) (fun (a_67 : (List (List GHop))) => q3m a_55 (w9 (q0w g_0) m_1) a_67 = some r) ?_ ?_
      ·
        intro _ Q22; refine sgW fun _ Q23 => ?_; refine wv ?_; simp only [go_sem]; refine q07 Q23 ?_; refine qq3 fun _ Q24 => ?_; refine z95 (ι := Nat × Int × (List (List GHop))) (fun ((_, i_11, a_78) : Nat × Int × (List (List GHop))) => (⟨0, [(2, .ptr 0 0), (5, .osl 1 1 (0) (a_55.length)), (7, .osl 2 1 (0) (a_78.length)), (9, .v (.int .i64 i_11))], [(0, .box (Row.row g_0)), (1, .arr 1 (enc a_55)), (2, .con (q8h 1 0 (enc a_78) none) [])], 3, 131⟩ : St)) (fun ((n_, i_11, a_78) : Nat × Int × (List (List GHop))) => w9 (q3p g_0 a_55 (w9 (q0w g_0) m_1)) n_ (i_11, a_78) = some r) (fun p => p.1) (rounds, 0, a_58) [some 0, some 1, some 2] ?_ h ?_
        · simp only [go_sem, Le] <;> (repeat' apply And.intro) <;> (try with_reducible refine q0j ?_) <;> first | omega | (simp [go_sem]; done)
        · rintro ⟨n_6, i_11, a_78⟩ h _ Q25
          dsimp only at h; replace h := qn2 h; obtain ⟨m_6, rfl, h⟩ := h; rw [q3p] at h; refine sgW fun _ Q26 => ?_; refine sgW fun _ Q27 => ?_; refine wv ?_; simp only [go_sem]; refine q07 Q27 ?_; refine qx9 (b := (decide (i_11 < (g_0.Edges.length : Int)))) (by (simp only [go_sem]; done)) (fun hb_167 => ?_) (fun hb_167 => ?_)
          ·
            replace h := q21 h hb_167; simp only [bool_to_prop] at hb_167; refine wv ?_; refine j4 (q07 Q26 ?_); refine sgW fun _ Q28 => ?_; refine qq3 fun _ Q29 => ?_; refine sgW fun _ Q30 => ?_; refine wv ?_; obtain ⟨xv_255, ex255, h⟩ := z8 h; obtain ⟨f255a, f255b, f255c⟩ := q4u ex255; simp only [go_sem, f255a, f255b, f255c]; refine And.intro (by omega) ?_; refine q07 Q30 ?_; refine sgW fun _ Q31 => ?_; refine wv ?_; simp only [go_sem]; refine q07 Q31 ?_; refine qq3 fun _ Q32 => ?_; refine z95 (ι := Nat × Int × (List (List GHop))) (fun ((_, k_35, a_80) : Nat × Int × (List (List GHop))) => (⟨0, [(2, .ptr 0 0), (5, .osl 1 1 (0) (a_55.length)), (7, .osl 2 1 (0) (a_80.length)), (9, .v (.int .i64 i_11)), (10, .ptr 3 0), (11, .v (.int .i64 k_35))], [(0, .box (Row.row g_0)), (1, .arr 1 (enc a_55)), (2, .con (q8h 1 0 (enc a_80) none) []), (3, .box (Row.row xv_255))], 4, 131⟩ : St)) (fun ((n_, k_35, a_80) : Nat × Int × (List (List GHop))) => w9 (q5e g_0 a_55 i_11 (w9 (q3p g_0 a_55 (w9 (q0w g_0) m_1)) m_6) xv_255) n_ (k_35, a_80) = some r) (fun p => p.1) (rounds, 0, a_78) [some 0, some 1, some 2, some 3] ?_ h ?_
            · simp only [go_sem, Le] <;> (repeat' apply And.intro) <;> (try with_reducible refine q0j ?_) <;> first | omega | (simp [go_sem]; done)
            · rintro ⟨n_7, k_35, a_80⟩ h _ Q33
              dsimp only at h; replace h := qn2 h; obtain ⟨m_7, rfl, h⟩ := h; rw [q5e] at h; refine sgW fun _ Q34 => ?_; refine sgW fun _ Q35 => ?_; refine wv ?_; obtain ⟨xv_262, ex262, h⟩ := z8 h; obtain ⟨f262a, f262b, f262c⟩ := q4u ex262; simp only [go_sem, f262a, f262b, f262c]; refine And.intro (by omega) ?_; refine q07 Q35 ?_; refine qx9 (b := (decide (k_35 < (xv_262.length : Int)))) (by (simp only [go_sem]; done)) (fun hb_172 => ?_) (fun hb_172 => ?_)
              ·
                replace h := q21 h hb_172; simp only [bool_to_prop] at hb_172; refine wv ?_; refine j4 (q07 Q34 ?_); refine sgW fun _ Q36 => ?_; refine qq3 fun _ Q37 => ?_; refine sgW fun _ Q38 => ?_; refine wv ?_; refine x9 ?_; refine q27 17 0 0 [0, 0, 2, 7, 15, 0, 63, 127, 0, 0, 768, 2047, 4095, 8191, 8191, 0, 49151, 131071] [4] [0, 1, 2, 3, 4, 5, 6, 7, 8, 9, 10, 11, 12, 13, 14] [] [15, 16] [] mixed (by kernel_rfl) (of_decide_eq_true (by kernel_rfl)) (by kernel_rfl) (by kernel_rfl) (by rfl) ?_; obtain ⟨xv_263, ex263, h⟩ := z8 h; obtain ⟨f263a, f263b, f263c⟩ := q4u ex263; obtain ⟨v_143, ev_143, h⟩ := z8 h; simp only [go_sem, f262a, f262b, f262c, f263a, f263b, f263c]; refine And.intro (by omega) ?_; refine And.intro (by omega) ?_; refine callq (fun _ => (z1q g_0 xv_255 v_143 ev_143)) (by rfl) (by rfl) ?_; obtain ⟨v_144, ev_144, h⟩ := z8 h; simp only [go_sem]; refine callq (fun _ => (z1s xv_263 v_143 v_144 ev_144)) (by rfl) (by rfl) ?_; simp only [go_sem]; refine q07 Q38 ?_; refine sgW fun _ Q39 => ?_; refine wv ?_; simp only [go_sem]; refine q07 Q39 ?_; refine qx9 (b := v_144.2) (by (simp only [go_sem]; done)) (fun hb_173 => ?_) (fun hb_173 => ?_)
                ·
                  replace h := q21 h hb_173; obtain ⟨xv_264, ex264, h⟩ := z8 h; obtain ⟨f264a, f264b, f264c⟩ := q4u ex264; refine reW (fun _ _ _ _ H => H.openI (id := 2) (i := xv_255.To.toNat) (pre := []) (post := []) rfl (by simp only [q1h]; omega) f264c rfl) ?_; refine zt9 ?_; refine wv ?_; refine x9 ?_; refine q27 11 0 0 [0, 0, 2, 0, 0, 16, 56, 120, 0, 256, 1016, 2047, 4095] [5, 6] [0, 1, 2] [] [10] [] mixed (by kernel_rfl) (of_decide_eq_true (by kernel_rfl)) (by kernel_rfl) (by kernel_rfl) (by rfl) ?_; have rf_213 : [[.v (.int .i64 v_144.1.From), .v (.int .i64 v_144.1.Keep), .v (.int .i64 v_144.1.Tail), .v (.int .i64 v_144.1.Add.a0), .v (.int .i64 v_144.1.Add.a1), .v (.int .i64 v_144.1.Add.a2), .v (.int .i64 v_144.1.Add.a3), .v (.int .i64 v_144.1.T.a0), .v (.int .i64 v_144.1.T.a1), .v (.int .i64 v_144.1.T.a2), .v (.int .i64 v_144.1.T.a3)]] = enc ([v_144.1] : List GHop) := by rfl
                  obtain ⟨g_73, h⟩ := q02 h; simp only [List.length_cons, List.length_nil, Nat.zero_add, List.length_append] at g_73; have rf_214 : enc xv_264 ++ [[.v (.int .i64 v_144.1.From), .v (.int .i64 v_144.1.Keep), .v (.int .i64 v_144.1.Tail), .v (.int .i64 v_144.1.Add.a0), .v (.int .i64 v_144.1.Add.a1), .v (.int .i64 v_144.1.Add.a2), .v (.int .i64 v_144.1.Add.a3), .v (.int .i64 v_144.1.T.a0), .v (.int .i64 v_144.1.T.a1), .v (.int .i64 v_144.1.T.a2), .v (.int .i64 v_144.1.T.a3)]] = enc (xv_264 ++ ([v_144.1] : List GHop)) := by exact (q19 xv_264 ([v_144.1] : List GHop)).symm
                  simp only [go_sem, f264a, f264b, f264c, g_73, rf_214]; simp only [rf_213]; have rf_215 : (enc a_80).set (xv_255.To.toNat) [.sl 11 (enc (xv_264 ++ ([v_144.1] : List GHop)))] = enc (List.set a_80 (xv_255.To.toNat) (xv_264 ++ ([v_144.1] : List GHop))) := by exact q2v _ _ _
                  refine z7w (fun _ _ _ _ H => H.closeI (id := 2) (id2 := 6) (pre := []) (post := []) rfl rfl rfl (by simp [q1h]) rfl rfl rfl rf_215.symm) ?_; refine z4d ?_; refine d9 Q37 (q07 Q36 ?_); refine wv ?_; simp only [go_sem]; refine y9 Q33 (⟨(m_7, i64.wrap (k_35 + 1), (List.set a_80 (xv_255.To.toNat) (xv_264 ++ ([v_144.1] : List GHop)))), [some 0, some 1, some 2, some 3], ?_, h, Nat.lt_succ_self _⟩); simp only [go_sem, Le] <;> (repeat' apply And.intro) <;> (try with_reducible refine q0j ?_) <;> first | omega | (simp [go_sem]; done)
                ·
                  replace h := q23 h hb_173; refine wv ?_; refine j4 (d9 Q37 (q07 Q36 ?_)); refine wv ?_; simp only [go_sem]; refine y9 Q33 (⟨(m_7, i64.wrap (k_35 + 1), a_80), [some 0, some 1, some 2, some 3], ?_, h, Nat.lt_succ_self _⟩); simp only [go_sem, Le] <;> (repeat' apply And.intro) <;> (try with_reducible refine q0j ?_) <;> first | omega | (simp [go_sem]; done)
              ·
                replace h := q23 h hb_172; simp only [bool_to_prop] at hb_172; refine wv ?_; refine q0h (z1u Q34 ?_); refine q0i Q33 (q0b Q32 (d9 Q29 (q07 Q28 ?_))); refine wv ?_; simp only [go_sem]; refine y9 Q25 (⟨(m_6, i64.wrap (i_11 + 1), a_80), [some 0, some 1, some 2], ?_, h, Nat.lt_succ_self _⟩); simp only [go_sem, Le] <;> (repeat' apply And.intro) <;> (try with_reducible refine q0j ?_) <;> first | omega | (simp [go_sem]; done)
          ·
            replace h := q23 h hb_167; simp only [bool_to_prop] at hb_167; refine wv ?_; refine q0h (z1u Q26 ?_); refine q0i Q25 (q0b Q24 (y9 Q22 (⟨a_78, [some 0, some 1, some 2], ?_, h⟩))); simp only [go_sem, Le] <;> (repeat' apply And.intro) <;> (try with_reducible refine q0j ?_) <;> first | omega | (simp [go_sem]; done)
      · rintro a_67 h
        try dsimp only at h
        rw [q3m] at h; refine sgW fun _ Q9 => ?_; refine reW (fun _ _ _ _ H => H.frzI (id := 2) rfl) ?_; refine wv ?_; simp only [go_sem]; refine q07 Q9 ?_; refine j2p (ι := Bool × (List (List GHop))) (fun ((same_12, a_70) : Bool × (List (List GHop))) => (⟨0, [(2, .ptr 0 0), (7, .osl 1 1 (0) (a_70.length)), (14, .v (.bool same_12))], [(0, .box (Row.row g_0)), (1, .arr 1 (enc a_70))], 2, 131⟩ : St)) (fun ((same_12, a_70) : Bool × (List (List GHop))) => q5d (w9 (q0w g_0) m_1) same_12 a_70 = some r) ?_ ?_
        ·
          intro _ Q13; refine sgW fun _ Q14 => ?_; refine wv ?_; simp only [go_sem]; refine q07 Q14 ?_; refine qq3 fun _ Q15 => ?_; refine z95 (ι := Nat × Bool × Int × (List (List GHop))) (fun ((_, same_14, nv_21, a_72) : Nat × Bool × Int × (List (List GHop))) => (⟨0, [(2, .ptr 0 0), (5, .osl 1 1 (0) (a_55.length)), (7, .osl 2 1 (0) (a_72.length)), (14, .v (.bool same_14)), (15, .v (.int .i64 nv_21))], [(0, .box (Row.row g_0)), (1, .arr 1 (enc a_55)), (2, .arr 1 (enc a_72))], 3, 131⟩ : St)) (fun ((n_, same_14, nv_21, a_72) : Nat × Bool × Int × (List (List GHop))) => w9 (q5f a_55 (w9 (q0w g_0) m_1)) n_ (same_14, nv_21, a_72) = some r) (fun p => p.1) (rounds, true, 0, a_67) [some 0, some 1, some 2] ?_ h ?_
          · simp only [go_sem, Le] <;> (repeat' apply And.intro) <;> (try with_reducible refine q0j ?_) <;> first | omega | (simp [go_sem]; done)
          · rintro ⟨n_5, same_14, nv_21, a_72⟩ h _ Q16
            dsimp only at h; replace h := qn2 h; obtain ⟨m_5, rfl, h⟩ := h; rw [q5f] at h; refine sgW fun _ Q17 => ?_; refine sgW fun _ Q18 => ?_; refine wv ?_; simp only [go_sem]; refine q07 Q18 ?_; refine qx9 (b := (decide (nv_21 < (a_55.length : Int)))) (by (simp only [go_sem]; done)) (fun hb_151 => ?_) (fun hb_151 => ?_)
            ·
              replace h := q21 h hb_151; simp only [bool_to_prop] at hb_151; refine wv ?_; refine j4 (q07 Q17 ?_); refine sgW fun _ Q19 => ?_; refine qq3 fun _ Q20 => ?_; refine sgW fun _ Q21 => ?_; refine wv ?_; obtain ⟨xv_232, ex232, h⟩ := z8 h; obtain ⟨f232a, f232b, f232c⟩ := q4u ex232; obtain ⟨v_125, ev_125, h⟩ := z8 h; simp only [go_sem, f232a, f232b, f232c]; refine And.intro (by omega) ?_; refine qa8 [] (qk4 xv_232 v_125 ev_125) (by simp) rfl trivial rfl rfl rfl rfl ?_; have rf_188 : (enc a_72).set (nv_21.toNat) [.sl 11 (enc v_125)] = enc (List.set a_72 (nv_21.toNat) v_125) := by exact q2v _ _ _
              simp only [go_sem, f232a, f232b, f232c, rf_188, List.take_length]; refine And.intro (by omega) ?_; refine q07 Q21 ?_; refine wv ?_; refine x9 ?_; refine j83 ?_; simp only [go_sem]; rcases hb_152 : same_14 with _ | _
              ·
                replace h := q23 h hb_152; simp only [go_sem, hb_152]; refine d9 Q20 (q07 Q19 ?_); refine wv ?_; simp only [go_sem]; refine y9 Q16 (⟨(m_5, false, i64.wrap (nv_21 + 1), (List.set a_72 (nv_21.toNat) v_125)), [some 0, some 1, some 2], ?_, h, Nat.lt_succ_self _⟩); simp only [go_sem, Le] <;> (repeat' apply And.intro) <;> (try with_reducible refine q0j ?_) <;> first | omega | (simp [go_sem]; done)
              ·
                replace h := q21 h hb_152; obtain ⟨xv_233, ex233, h⟩ := z8 h; obtain ⟨f233a, f233b, f233c⟩ := q4u ex233; obtain ⟨xv_234, ex234, h⟩ := z8 h; obtain ⟨f234a, f234b, f234c⟩ := q4u ex234; obtain ⟨v_126, ev_126, h⟩ := z8 h; simp only [go_sem, hb_152, f233a, f233b, f233c, f234a, f234b, f234c]; refine And.intro (by omega) ?_; refine And.intro (by omega) ?_; refine And.intro (by omega) ?_; refine q9m (z1r xv_233 xv_234 v_126 ev_126) (by rfl) (by rfl) ?_; simp only [go_sem]; refine d9 Q20 (q07 Q19 ?_); refine wv ?_; simp only [go_sem]; refine y9 Q16 (⟨(m_5, v_126, i64.wrap (nv_21 + 1), (List.set a_72 (nv_21.toNat) v_125)), [some 0, some 1, some 2], ?_, h, Nat.lt_succ_self _⟩); simp only [go_sem, Le] <;> (repeat' apply And.intro) <;> (try with_reducible refine q0j ?_) <;> first | omega | (simp [go_sem]; done)
            ·
              replace h := q23 h hb_151; simp only [bool_to_prop] at hb_151; refine wv ?_; refine q0h (z1u Q17 ?_); refine q0i Q16 (q0b Q15 (y9 Q13 (⟨(same_14, a_72), [some 0, some 2], ?_, h⟩))); simp only [go_sem, Le] <;> (repeat' apply And.intro) <;> (try with_reducible refine q0j ?_) <;> first | omega | (simp [go_sem]; done)
        · rintro ⟨same_12, a_70⟩ h
          try dsimp only at h
          rw [q5d] at h; refine sgW fun _ Q10 => ?_; refine wv ?_; simp only [go_sem]; refine q07 Q10 ?_; refine sgW fun _ Q11 => ?_; refine wv ?_; simp only [go_sem]; refine q07 Q11 ?_; refine qx9 (b := same_12) (by (simp only [go_sem]; done)) (fun hb_147 => ?_) (fun hb_147 => ?_)
          ·
            replace h := q21 h hb_147; refine sgW fun _ Q12 => ?_; refine wv ?_; simp only [go_sem]; refine q07 Q12 ?_; refine wv ?_; refine q00 (q0g Q7 (q2i Q6 (q0g Q5 ?_))); simp only [go_sem]; obtain rfl := Option.some.inj h; refine q69 [some 1] ?_; simp only [go_sem, Le]
          ·
            replace h := q23 h hb_147; refine wv ?_; refine j4 (d9 Q7 (y9 Q6 (⟨(m_1, a_70), [some 0, some 1], ?_, h, Nat.lt_succ_self _⟩))); simp only [go_sem, Le] <;> (repeat' apply And.intro) <;> (try with_reducible refine q0j ?_) <;> first | omega | (simp [go_sem]; done)
instance zp3 (g_0 : GGraph) (fromv_0 : Int) : Ct pp 8 (q57 g_0 fromv_0) [.agg (Row.row g_0), .v (.int .i64 fromv_0)] fun r => (.sl 1 (enc r)) := ⟨fun r h => (qp0 g_0 fromv_0  r h).pure leA⟩
def qe7 (s_0 : List GPoint) (f_0 : GPoint → Option Bool) (rec_1 : Int → Option Int) : Int → Option Int :=
 fun t8_1 =>
 (if (decide (t8_1 < (s_0.length : Int))) = true then q9 (idx s_0 t8_1) (fun xv_2 =>
 q9 (f_0 xv_2) (fun v_2 =>
 (if v_2 = true then some t8_1
 else rec_1 (i64.wrap (t8_1 + 1)))))
 else some (-1))
def q98 (s_0 : List GPoint) (f_0 : GPoint → Option Bool) : Option Int :=
 w9 (qe7 s_0 f_0) rounds 0
theorem qz8 (s_0 : List GPoint) (f_0 : GPoint → Option Bool) (g_f_0 : FuncId) (c_f_0 : List AV) (F_f_0 : q03 c_f_0 = true) (E_f_0 : y8 pp g_f_0 = true) (H_f_0 : ∀ (x0 : GPoint) (r : Bool), f_0 x0 = some r → PureS pp g_f_0 ([.agg (Row.row x0)] ++ c_f_0) 0 (.v (.bool r))) (r : Int) (h : q98 s_0 f_0 = some r) : PureS pp 79 [.sl 6 (enc s_0), .clo g_f_0 c_f_0] 0 (.v (.int .i64 r)) := by
 refine ptI Tryz.func79 rfl ?_; rw [q98] at h; have F := trivial; refine sM ?_; refine jg fun _ Q2 => ?_; refine sM ?_; refine j3 fun _ Q4 => ?_; refine u6 h [0, 1, 7] (fun t8_1 => ([(8, .v (.int .i64 t8_1))], [])) 0 ?_; rintro m_1 t8_1 h _ Q5; rw [qe7] at h; refine sM ?_; refine sg fun _ Q7 => ?_; refine sB h (fun _ h => ?_) fun _ h => ?_
 ·
  refine j4 (q8 Q7 (sg fun _ Q8 => ?_)); refine j3 fun _ Q9 => ?_; refine sM ?_; refine sg fun _ Q11 => ?_; obtain ⟨xv_2, F, h⟩ := bI F h; obtain ⟨v_2, ev_2, h⟩ := z8 h; simp only [go_sem, E_f_0, F]; refine ai ?_; refine q9m (H_f_0 xv_2 v_2 ev_2) (by rfl) (by simp [go_sem, q03, q0a, F_f_0]) ?_; simp only [go_sem]; refine q8 Q11 (sB h (fun _ h => ?_) fun _ h => ?_)
  · refine sM ?_; refine q00 (q0g Q9 (q0k Q8 (q2i Q5 (q0g Q4 (q0k Q2 ?_))))); simp only [go_sem]; obtain rfl := Option.some.inj h; refine q42 rfl ?_; exact leA
  · refine j4 (d9 Q9 (q8 Q8 ?_)); simp only [go_sem]; refine y9 Q5 ?_; exact nxC _ h [] leA
 · refine q0h (q1c Q7 (q0i Q5 (q0b Q4 (q8 Q2 (sM ?_))))); refine q00 ?_; simp only [go_sem]; obtain rfl := Option.some.inj h; refine q42 rfl ?_; exact leA
def q53 (s_0 : List GPoint) (f_0 : GPoint → Option Bool) : Option Bool :=
 q9 (q98 s_0 f_0) (fun v_0 =>
 some (decide (0 ≤ v_0)))
theorem qu4 (s_0 : List GPoint) (f_0 : GPoint → Option Bool) (g_f_0 : FuncId) (c_f_0 : List AV) (F_f_0 : q03 c_f_0 = true) (E_f_0 : y8 pp g_f_0 = true) (H_f_0 : ∀ (x0 : GPoint) (r : Bool), f_0 x0 = some r → PureS pp g_f_0 ([.agg (Row.row x0)] ++ c_f_0) 0 (.v (.bool r))) (r : Bool) (h : q53 s_0 f_0 = some r) : PureS pp 39 [.sl 6 (enc s_0), .clo g_f_0 c_f_0] 0 (.v (.bool r)) := by
 refine ptI Tryz.func39 rfl ?_; rw [q53] at h; have F := trivial; refine sM ?_; refine sg fun _ Q2 => ?_; obtain ⟨v_0, ev_0, h⟩ := z8 h; simp only [go_sem]; refine q9m (qz8 s_0 f_0 g_f_0 c_f_0 F_f_0 E_f_0 H_f_0 v_0 ev_0) (by rfl) (by simp [go_sem, q03, q0a, F_f_0]) ?_; simp only [go_sem]; refine q8 Q2 (q00 ?_); simp only [go_sem]; obtain rfl := Option.some.inj h; refine q42 rfl ?_; exact leA
def q7f (q_0 : GPoint) (cap_0 : GPoint) (cap_1 : List (List (List GHop))) : Option Bool :=
 (if ((q_0.Node == cap_0.Node) && ((q_0.Time.D == cap_0.Time.D) && ((q_0.Time.C.a0 == cap_0.Time.C.a0) && ((q_0.Time.C.a1 == cap_0.Time.C.a1) && ((q_0.Time.C.a2 == cap_0.Time.C.a2) && (q_0.Time.C.a3 == cap_0.Time.C.a3)))))) = true then some false
 else q9 (qa3 cap_1 q_0.Node q_0.Time cap_0.Node cap_0.Time) (fun v_0 =>
 some v_0))
instance z5m (q_0 : GPoint) (cap_0 : GPoint) (cap_1 : List (List (List GHop))) : Ct pp 40 (q7f q_0 cap_0 cap_1) [.agg (Row.row q_0), .el 6 [(Row.row cap_0)] 0 0, .el 1 [[.sl 1 (enc cap_1)]] 0 0] fun r => (.v (.bool r)) := ctI Tryz.func40 rfl (by rw [q7f]; exact au1)
def q7g (table_0 : List (List (List GHop))) (waits_0 : List GPoint) (p_0 : GPoint) : Option Bool :=
 q9 (q53 waits_0 (fun x0_ => q7f x0_ p_0 table_0)) (fun v_0 =>
 some (!v_0))
instance z7e (table_0 : List (List (List GHop))) (waits_0 : List GPoint) (p_0 : GPoint) : Ct pp 12 (q7g table_0 waits_0 p_0) [.sl 1 (enc table_0), .sl 6 (enc waits_0), .agg (Row.row p_0)] fun r => (.v (.bool r)) := ctK Tryz.func12 rfl (by rw [q7g]) (by
 intro r h F; refine sM ?_; refine sg fun _ Q2 => ?_; obtain ⟨v_0, ev_0, h⟩ := z8 h; simp only [go_sem]; refine qm5 (qu4 waits_0 (fun x0_ => q7f x0_ p_0 table_0) 40 [.el 6 [(Row.row p_0)] 0 0, .el 1 [[.sl 1 (enc table_0)]] 0 0] (by rfl) (by kernel_rfl) (fun y0 r_ e_ => z5m y0 p_0 table_0 r_ e_) v_0 ev_0) ?_; simp only [go_sem]; exact au)
def qi5 (s_0 : List GFeed) (f_0 : GFeed → Option Bool) (rec_1 : Int → Option Int) : Int → Option Int :=
 fun t8_1 =>
 (if (decide (t8_1 < (s_0.length : Int))) = true then q9 (idx s_0 t8_1) (fun xv_2 =>
 q9 (f_0 xv_2) (fun v_2 =>
 (if v_2 = true then some t8_1
 else rec_1 (i64.wrap (t8_1 + 1)))))
 else some (-1))
def q9q (s_0 : List GFeed) (f_0 : GFeed → Option Bool) : Option Int :=
 w9 (qi5 s_0 f_0) rounds 0
theorem z08 (s_0 : List GFeed) (f_0 : GFeed → Option Bool) (g_f_0 : FuncId) (c_f_0 : List AV) (F_f_0 : q03 c_f_0 = true) (E_f_0 : y8 pp g_f_0 = true) (H_f_0 : ∀ (x0 : GFeed) (r : Bool), f_0 x0 = some r → PureS pp g_f_0 ([.agg (Row.row x0)] ++ c_f_0) 0 (.v (.bool r))) (r : Int) (h : q9q s_0 f_0 = some r) : PureS pp 83 [.sl 4 (enc s_0), .clo g_f_0 c_f_0] 0 (.v (.int .i64 r)) := by
 refine ptI Tryz.func83 rfl ?_; rw [q9q] at h; have F := trivial; refine sM ?_; refine jg fun _ Q2 => ?_; refine sM ?_; refine j3 fun _ Q4 => ?_; refine u6 h [0, 1, 7] (fun t8_1 => ([(8, .v (.int .i64 t8_1))], [])) 0 ?_; rintro m_1 t8_1 h _ Q5; rw [qi5] at h; refine sM ?_; refine sg fun _ Q7 => ?_; refine sB h (fun _ h => ?_) fun _ h => ?_
 ·
  refine j4 (q8 Q7 (sg fun _ Q8 => ?_)); refine j3 fun _ Q9 => ?_; refine sM ?_; refine sg fun _ Q11 => ?_; obtain ⟨xv_2, F, h⟩ := bI F h; obtain ⟨v_2, ev_2, h⟩ := z8 h; simp only [go_sem, E_f_0, F]; refine ai ?_; refine q9m (H_f_0 xv_2 v_2 ev_2) (by rfl) (by simp [go_sem, q03, q0a, F_f_0]) ?_; simp only [go_sem]; refine q8 Q11 (sB h (fun _ h => ?_) fun _ h => ?_)
  · refine sM ?_; refine q00 (q0g Q9 (q0k Q8 (q2i Q5 (q0g Q4 (q0k Q2 ?_))))); simp only [go_sem]; obtain rfl := Option.some.inj h; refine q42 rfl ?_; exact leA
  · refine j4 (d9 Q9 (q8 Q8 ?_)); simp only [go_sem]; refine y9 Q5 ?_; exact nxC _ h [] leA
 · refine q0h (q1c Q7 (q0i Q5 (q0b Q4 (q8 Q2 (sM ?_))))); refine q00 ?_; simp only [go_sem]; obtain rfl := Option.some.inj h; refine q42 rfl ?_; exact leA
def q8j (s_0 : List GFeed) (f_0 : GFeed → Option Bool) : Option Bool :=
 q9 (q9q s_0 f_0) (fun v_0 =>
 some (decide (0 ≤ v_0)))
theorem qv8 (s_0 : List GFeed) (f_0 : GFeed → Option Bool) (g_f_0 : FuncId) (c_f_0 : List AV) (F_f_0 : q03 c_f_0 = true) (E_f_0 : y8 pp g_f_0 = true) (H_f_0 : ∀ (x0 : GFeed) (r : Bool), f_0 x0 = some r → PureS pp g_f_0 ([.agg (Row.row x0)] ++ c_f_0) 0 (.v (.bool r))) (r : Bool) (h : q8j s_0 f_0 = some r) : PureS pp 52 [.sl 4 (enc s_0), .clo g_f_0 c_f_0] 0 (.v (.bool r)) := by
 refine ptI Tryz.func52 rfl ?_; rw [q8j] at h; have F := trivial; refine sM ?_; refine sg fun _ Q2 => ?_; obtain ⟨v_0, ev_0, h⟩ := z8 h; simp only [go_sem]; refine q9m (z08 s_0 f_0 g_f_0 c_f_0 F_f_0 E_f_0 H_f_0 v_0 ev_0) (by rfl) (by simp [go_sem, q03, q0a, F_f_0]) ?_; simp only [go_sem]; refine q8 Q2 (q00 ?_); simp only [go_sem]; obtain rfl := Option.some.inj h; refine q42 rfl ?_; exact leA
def qn4 (f_0 : GFeed) (cap_0 : GGraph) : Option Bool :=
 (if ((decide (f_0.Node < 0)) || (decide ((cap_0.Nodes.length : Int) ≤ f_0.Node))) = true then some true
 else q9 (idx cap_0.Nodes f_0.Node) (fun xv_0 =>
 some (((!(xv_0.Kind == 1)) || (decide (f_0.Epoch < 0))) || (decide (1048576 < f_0.Epoch)))))
instance z7f (f_0 : GFeed) (cap_0 : GGraph) : Ct pp 53 (qn4 f_0 cap_0) [.agg (Row.row f_0), .el 4 [(Row.row cap_0)] 0 0] fun r => (.v (.bool r)) := ctI Tryz.func53 rfl (by rw [qn4]; exact au1)
def z1d (g_0 : GGraph) (feeds_0 : List GFeed) (most_0 : Int) : Option Bool :=
 q9 (q8i g_0) (fun v_0 =>
 (if (((!(v_0.1 == 0)) || (decide (most_0 < 0))) || (decide (1048576 < most_0))) = true then some false
 else q9 (q8j feeds_0 (fun x0_ => qn4 x0_ g_0)) (fun v_1 =>
 some (!v_1))))
instance j3d (g_0 : GGraph) (feeds_0 : List GFeed) (most_0 : Int) : Ct pp 25 (z1d g_0 feeds_0 most_0) [.agg (Row.row g_0), .sl 4 (enc feeds_0), .v (.int .i64 most_0)] fun r => (.v (.bool r)) := ctK Tryz.func25 rfl (by rw [z1d]) (by
 intro r h F; refine sM ?_; refine sg fun _ Q2 => ?_; refine sg fun _ Q3 => ?_; simp only [go_sem]; refine q15 h fun v_0 h => ?_; simp only [go_sem]; refine q8 Q3 (sM ?_); refine sB h (fun _ h => ?_) fun _ h => ?_
 · exact au
 · refine j4 (q8 Q2 (sg fun _ Q6 => ?_)); obtain ⟨v_1, ev_1, h⟩ := z8 h; simp only [go_sem]; refine qm5 (qv8 feeds_0 (fun x0_ => qn4 x0_ g_0) 53 [.el 4 [(Row.row g_0)] 0 0] (by rfl) (by kernel_rfl) (fun y0 r_ e_ => z7f y0 g_0 r_ e_) v_1 ev_1) ?_; simp only [go_sem]; exact au)
def qo9 (s_0 : List GPoint) (v_0 : GPoint) (rec_1 : Int → Option Int) : Int → Option Int :=
 fun t8_1 =>
 (if (decide (t8_1 < (s_0.length : Int))) = true then q9 (idx s_0 t8_1) (fun xv_2 =>
 (if ((v_0.Node == xv_2.Node) && ((v_0.Time.D == xv_2.Time.D) && ((v_0.Time.C.a0 == xv_2.Time.C.a0) && ((v_0.Time.C.a1 == xv_2.Time.C.a1) && ((v_0.Time.C.a2 == xv_2.Time.C.a2) && (v_0.Time.C.a3 == xv_2.Time.C.a3)))))) = true then some t8_1
 else rec_1 (i64.wrap (t8_1 + 1))))
 else some (-1))
def q6b (s_0 : List GPoint) (v_0 : GPoint) : Option Int :=
 w9 (qo9 s_0 v_0) rounds 0
instance q9o (s_0 : List GPoint) (v_0 : GPoint) : Ct pp 54 (q6b s_0 v_0) [.sl 6 (enc s_0), .agg (Row.row v_0)] fun r => (.v (.int .i64 r)) := ctK Tryz.func54 rfl (by rw [q6b]) (by
 intro r h F; refine sM ?_; refine jg fun _ Q2 => ?_; refine sM ?_; refine j3 fun _ Q4 => ?_; refine u6 h [0, 3, 7] (fun t8_1 => ([(8, .v (.int .i64 t8_1))], [(0, .box (Row.row v_0))])) 1 ?_; rintro m_1 t8_1 h _ Q5; rw [qo9] at h; exact au)
def q7a (s_0 : List GItem) : Option (List GItem) :=
 y5 ((List.length ([] : List GItem) + s_0.length) * 24 ≤ 140737488355328) (
 some (([] : List GItem) ++ s_0))
theorem q9s (s_0 : List GItem)  (r : List GItem) (h : q7a s_0 = some r) : DetS pp 113 [.sl 3 (enc s_0)] [] 0 (.osl 0 3 (0) (r.length)) [(0, .arr 3 (enc r))] 1 := by
 refine dtI Tryz.func113 rfl ?_; rw [q7a] at h; have F := trivial; refine sM ?_; refine sg fun _ Q2 => ?_; refine sg fun _ Q3 => ?_; simp only [go_sem]; intro nb_0 hnb_0; rcases nb_0 with _ | _
 ·
  refine q8 Q3 (j9o ?_); refine j4 (q8 Q2 (sg fun _ Q4 => ?_)); obtain ⟨g_0, h⟩ := q02 h; have F := And.intro F g_0; simp only [List.length_cons, List.length_nil, Nat.zero_add, List.length_append] at g_0; have rf_0 : enc ([] : List GItem) ++ enc s_0 = enc (([] : List GItem) ++ s_0) := by exact (q19 ([] : List GItem) s_0).symm
  simp only [go_sem, g_0, rf_0]; exact au
 ·
  have hE_nb_0 : s_0 = [] := by cases hq : (s_0) with | nil => rfl | cons y ys => exact absurd (hnb_0 (by rw [hq]; simp [enc])) (by simp)
  simp only [hE_nb_0] at h; exact au
instance zp1 (s_0 : List GItem) : Ct pp 113 (q7a s_0) [.sl 3 (enc s_0)] fun r => (.sl 3 (enc r)) := ⟨fun r h => (q9s s_0  r h).pure leA⟩
def z00 (nv_0 : Int) : Option Bool :=
 some ((decide ((-2147483648) ≤ nv_0)) && (decide (nv_0 ≤ 2147483648)))
instance j70 (nv_0 : Int) : Ct pp 135 (z00 nv_0) [.v (.int .i64 nv_0)] fun r => (.v (.bool r)) := ctI Tryz.func135 rfl (by rw [z00]; exact au1)
def qd5 (xv_0 : Int) : Option Bool :=
 some (!(xv_0 == xv_0))
instance zw2 (xv_0 : Int) : Ct pp 157 (qd5 xv_0) [.v (.int .i64 xv_0)] fun r => (.v (.bool r)) := ctI Tryz.func157 rfl (by rw [qd5]; exact au1)
def q9k (xv_0 : Int) (y_0 : Int) : Option Int :=
 q9 (qd5 xv_0) (fun v_0 =>
 q9 (qd5 y_0) (fun v_1 =>
 (if v_0 = true then (if v_1 = true then some 0
 else some (-1))
 else (if v_1 = true then some 1
 else (if (decide (xv_0 < y_0)) = true then some (-1)
 else (if (decide (y_0 < xv_0)) = true then some 1
 else some 0))))))
instance z2w (xv_0 : Int) (y_0 : Int) : Ct pp 149 (q9k xv_0 y_0) [.v (.int .i64 xv_0), .v (.int .i64 y_0)] fun r => (.v (.int .i64 r)) := ctI Tryz.func149 rfl (by rw [q9k]; exact au1)
def z2j (vals_0 : List Int) (rec_1 : Int → Option Int) : Int → Option Int :=
 fun t8_1 =>
 (if (decide (t8_1 < (vals_0.length : Int))) = true then q9 (idx vals_0 t8_1) (fun xv_2 =>
 (if (!(xv_2 == 0)) = true then some xv_2
 else rec_1 (i64.wrap (t8_1 + 1))))
 else some 0)
def qv0 (vals_0 : List Int) : Option Int :=
 w9 (z2j vals_0) rounds 0
instance z2i (vals_0 : List Int) : Ct pp 31 (qv0 vals_0) [.sl 1 (enc vals_0)] fun r => (.v (.int .i64 r)) := ctK Tryz.func31 rfl (by rw [qv0]) (by
 intro r h F; refine sM ?_; refine sM ?_; refine jg fun _ Q3 => ?_; refine sM ?_; refine j3 fun _ Q5 => ?_; refine u6 h [3, 6, 7] (fun t8_1 => ([(8, .v (.int .i64 t8_1))], [])) 0 ?_; rintro m_1 t8_1 h _ Q6; rw [z2j] at h; exact au)
def qy9 (a_0 : GRec) (b_0 : GRec) : Option Int :=
 q9 (q9k a_0.K b_0.K) (fun v_0 =>
 q9 (q9k a_0.V b_0.V) (fun v_1 =>
 q9 (qv0 ([v_0, v_1] : List Int)) (fun v_2 =>
 some v_2)))
instance j57 (a_0 : GRec) (b_0 : GRec) : Ct pp 139 (qy9 a_0 b_0) [.agg (Row.row a_0), .agg (Row.row b_0)] fun r => (.v (.int .i64 r)) := ctK Tryz.func139 rfl (by rw [qy9]) (by
 intro r h F; refine sM ?_; refine sg fun _ Q2 => ?_; refine x9 ?_; refine j83 ?_; obtain ⟨v_0, ev_0, h⟩ := z8 h; simp only [go_sem]; refine callq (fun _ => (z2w a_0.K b_0.K v_0 ev_0)) (by rfl) (by rfl) ?_; simp only [go_sem]; refine q15 h fun v_1 h => ?_; have rf_0 : [[.v (.int .i64 v_0)], [.v (.int .i64 v_1)]] = enc ([v_0, v_1] : List Int) := by rfl
 obtain ⟨v_2, ev_2, h⟩ := z8 h; simp only [go_sem]; simp only [rf_0]; refine qm5 (z2i ([v_0, v_1] : List Int) v_2 ev_2) ?_; simp only [go_sem]; exact au)
def z4s (a_0 : GRec) (b_0 : GRec) : Option Bool :=
 q9 (qy9 a_0 b_0) (fun v_0 =>
 some (decide (v_0 < 0)))
instance j60 (a_0 : GRec) (b_0 : GRec) : Ct pp 136 (z4s a_0 b_0) [.agg (Row.row a_0), .agg (Row.row b_0)] fun r => (.v (.bool r)) := ctI Tryz.func136 rfl (by rw [z4s]; exact au1)
def z3s (b_0 : List GItem) (rec_1 : Int → Option Bool) : Int → Option Bool :=
 fun t7_1 =>
 (if (decide (t7_1 < (b_0.length : Int))) = true then q9 (idx b_0 t7_1) (fun xv_4 =>
 (if (xv_4.N == 0) = true then some false
 else q9 (z00 xv_4.N) (fun v_4 =>
 (if v_4 = true then (if (decide (0 < t7_1)) = true then q9 (idx b_0 (i64.wrap (t7_1 - 1))) (fun xv_5 =>
 q9 (z4s xv_5.Rec xv_4.Rec) (fun v_5 =>
 (if (!v_5) = true then some false
 else rec_1 (i64.wrap (t7_1 + 1)))))
 else rec_1 (i64.wrap (t7_1 + 1)))
 else some false))))
 else some true)
def qj4 (b_0 : List GItem) : Option Bool :=
 w9 (z3s b_0) rounds 0
instance j59 (b_0 : List GItem) : Ct pp 114 (qj4 b_0) [.sl 3 (enc b_0)] fun r => (.v (.bool r)) := ctK Tryz.func114 rfl (by rw [qj4]) (by
 intro r h F; refine sM ?_; refine jg fun _ Q2 => ?_; refine sM ?_; refine j3 fun _ Q4 => ?_; refine u6 h [0, 5, 6] (fun t7_1 => ([(7, .v (.int .i64 t7_1))], [])) 0 ?_; rintro m_1 t7_1 h _ Q5; rw [z3s] at h; exact au)
def q5s (xv_0 : List GItem) (target_0 : GRec) (cmp_0 : GItem → GRec → Option Int) (i_2 : Int) : Option (Int × Bool) :=
 (if (decide (i_2 < (xv_0.length : Int))) = true then q9 (idx xv_0 i_2) (fun xv_4 =>
 q9 (cmp_0 xv_4 target_0) (fun v_3 =>
 some (i_2, (v_3 == 0))))
 else some (i_2, false))
def q99 (xv_0 : List GItem) (target_0 : GRec) (cmp_0 : GItem → GRec → Option Int) (rec_2 : Int × Int → Option (Int × Bool)) : Int × Int → Option (Int × Bool) :=
 fun (i_4, j_3) =>
 (if (decide (i_4 < j_3)) = true then q9 (idx xv_0 (i64.wrap (q2r .u64 (IntKind.u64.wrap (i64.wrap (i_4 + j_3))) 1))) (fun xv_7 =>
 q9 (cmp_0 xv_7 target_0) (fun v_6 =>
 (if (decide (v_6 < 0)) = true then rec_2 (i64.wrap ((i64.wrap (q2r .u64 (IntKind.u64.wrap (i64.wrap (i_4 + j_3))) 1)) + 1), j_3)
 else rec_2 (i_4, i64.wrap (q2r .u64 (IntKind.u64.wrap (i64.wrap (i_4 + j_3))) 1)))))
 else q5s xv_0 target_0 cmp_0 i_4)
def q74 (xv_0 : List GItem) (target_0 : GRec) (cmp_0 : GItem → GRec → Option Int) : Option (Int × Bool) :=
 w9 (q99 xv_0 target_0 cmp_0) rounds (0, (xv_0.length : Int))
theorem qs3 (xv_0 : List GItem) (target_0 : GRec) (cmp_0 : GItem → GRec → Option Int) (g_cmp_0 : FuncId) (c_cmp_0 : List AV) (F_cmp_0 : q03 c_cmp_0 = true) (E_cmp_0 : y8 pp g_cmp_0 = true) (H_cmp_0 : ∀ (x0 : GItem) (x1 : GRec) (r : Int), cmp_0 x0 x1 = some r → PureS pp g_cmp_0 ([.agg (Row.row x0), .agg (Row.row x1)] ++ c_cmp_0) 0 (.v (.int .i64 r))) (r : Int × Bool) (h : q74 xv_0 target_0 cmp_0 = some r) : PureS pp 137 [.sl 3 (enc xv_0), .agg (Row.row target_0), .clo g_cmp_0 c_cmp_0] 0 (.tup [.v (.int .i64 r.1), .v (.bool r.2)]) := by
 refine ptI Tryz.func137 rfl ?_; rw [q74] at h; have F := trivial; refine sM ?_; refine sM ?_; refine sM ?_; refine q14 (fun (i_2 : Int) => q5s xv_0 target_0 cmp_0 i_2 = some r) [0, 2, 4, 8] (fun i_2 => ([(9, .v (.int .i64 i_2))], [(0, .box (Row.row target_0))])) 1 ?_ ?_
 ·
  intro _ Q5; refine j3 fun _ Q6 => ?_; refine u6 h [0, 2, 4, 8] (fun x => ([(9, .v (.int .i64 x.1)), (10, .v (.int .i64 x.2))], [(0, .box (Row.row target_0))])) 1 ?_; rintro m_2 ⟨i_4, j_3⟩ h _ Q7; rw [q99] at h; refine sg fun _ Q8 => ?_; refine sM ?_; refine sB h (fun _ h => ?_) fun _ h => ?_
  ·
   refine j4 (q8 Q8 (j3 fun _ Q10 => ?_)); refine sM ?_; refine sg fun _ Q12 => ?_; refine x9 ?_; refine j83 ?_; obtain ⟨xv_7, F, h⟩ := bI F h; obtain ⟨v_6, ev_6, h⟩ := z8 h; simp only [go_sem, E_cmp_0, F]; refine ai ?_; refine q9m (H_cmp_0 xv_7 target_0 v_6 ev_6) (by rfl) (by simp [go_sem, q03, q0a, F_cmp_0]) ?_; simp only [go_sem]; refine q8 Q12 (sB h (fun _ h => ?_) fun _ h => ?_)
   · simp only [go_sem]; refine d9 Q10 (y9 Q7 ?_); exact nxC _ h [some 0] leA
   · simp only [go_sem]; refine d9 Q10 (y9 Q7 ?_); exact nxC _ h [some 0] leA
  · refine q0h (q1c Q8 (q0i Q7 (q0b Q6 (y9 Q5 (⟨i_4, [some 0], ?_, h⟩))))); exact leA
 ·
  rintro i_2 h
  try dsimp only at h
  rw [q5s] at h; refine sg fun _ Q4 => ?_; refine x9 ?_; refine j83 ?_; simp only [go_sem]; rcases hb_6 : (decide (i_2 < (xv_0.length : Int))) with _ | _
  · replace h := q23 h hb_6; simp only [go_sem, hb_6]; refine q8 Q4 (q00 ?_); simp only [go_sem]; obtain rfl := Option.some.inj h; refine q42 rfl ?_; exact leA
  · replace h := q21 h hb_6; obtain ⟨xv_4, F, h⟩ := bI F h; obtain ⟨v_3, ev_3, h⟩ := z8 h; simp only [go_sem, hb_6, E_cmp_0, F]; refine ai ?_; refine ai ?_; refine callq (fun _ => (H_cmp_0 xv_4 target_0 v_3 ev_3)) (by rfl) (by simp [go_sem, q03, q0a, F_cmp_0]) ?_; simp only [go_sem]; refine q8 Q4 (q00 ?_); simp only [go_sem]; obtain rfl := Option.some.inj h; refine q42 rfl ?_; exact leA
def qy8 (xv_0 : GItem) (rv_0 : GRec) : Option Int :=
 q9 (qy9 xv_0.Rec rv_0) (fun v_0 =>
 some v_0)
instance za6 (xv_0 : GItem) (rv_0 : GRec) : Ct pp 138 (qy8 xv_0 rv_0) [.agg (Row.row xv_0), .agg (Row.row rv_0)] fun r => (.v (.int .i64 r)) := ctI Tryz.func138 rfl (by rw [qy8]; exact au1)
def qa2 (x_0 : List GItem) (i_0 : Int) (v_0 : List GItem) : Option (List GItem) := zr5 24 x_0 i_0 v_0
theorem qp3 : InsLay pp (z98 140 150 151 0 3 4 89 90) 3 24 (.agg #[.int .i64 0, .int .i64 0, .int .i64 0] : Value) := { mixed := by kernel_rfl, t0 := Tryz.underlying0, a0 := Tryz.isAgg0, z0 := Tryz.sizeOf0, v0 := Tryz.zeroValue0, t3 := Tryz.underlying3, a3 := Tryz.isAgg3, z3 := Tryz.sizeOf3, v3 := Tryz.zeroValue3, t4 := Tryz.underlying4, a4 := Tryz.isAgg4, z4 := Tryz.sizeOf4, v4 := Tryz.zeroValue4, t24 := Tryz.underlying90, a24 := Tryz.isAgg90, z24 := Tryz.sizeOf90, v24 := Tryz.zeroValue90, z9 := Tryz.sizeOf89, i9 := zr6 (by kernel_rfl), f22 := ⟨"slices.Insert[[]backwash/api.Item,backwash/api.Item]", by decide, by kernel_rfl⟩, ov := ⟨_, Tryz.func150, by kernel_rfl, by kernel_rfl, by kernel_rfl, by kernel_rfl⟩ }
theorem qp4 (x_0 : List GItem) (i_0 : Int) (v_0 : List GItem) (r : List GItem) (h : qa2 x_0 i_0 v_0 = some r) : DetS pp 140 [.osl 0 3 0 (x_0.length), .v (.int .i64 i_0), .osl 1 3 0 (v_0.length)] [(0, .arr 3 (enc x_0)), (1, .arr 3 (enc v_0))] 2 (.osl 2 3 0 (r.length)) [(2, .arr 3 (enc r))] 3 :=
  zv7 qp3 (by kernel_rfl) (by kernel_rfl) (by decide) (by rfl) (by decide) rfl (fun _ => rfl) h
def qj9 (x_0 : List GItem) (i_0 : Int) (j_0 : Int) : Option (List GItem) := z7a x_0 i_0 j_0
theorem qv5 : DelLay pp (z98 141 0 0 0 3 4 89 90) 3 (.agg #[.int .i64 0, .int .i64 0, .int .i64 0] : Value) := { mixed := by kernel_rfl, t0 := Tryz.underlying0, a0 := Tryz.isAgg0, z0 := Tryz.sizeOf0, v0 := Tryz.zeroValue0, t3 := Tryz.underlying3, a3 := Tryz.isAgg3, z3 := Tryz.sizeOf3, v3 := Tryz.zeroValue3, t4 := Tryz.underlying4, a4 := Tryz.isAgg4, z4 := Tryz.sizeOf4, v4 := Tryz.zeroValue4, t24 := Tryz.underlying90, a24 := Tryz.isAgg90, z24 := Tryz.sizeOf90, v24 := Tryz.zeroValue90, z9 := Tryz.sizeOf89, v9 := Tryz.zeroValue89, i9 := z7x (b := 24) (by kernel_rfl), f24 := ⟨"slices.Delete[[]backwash/api.Item,backwash/api.Item]", by decide, by kernel_rfl⟩ }
theorem qv6 (x_0 : List GItem) (i_0 : Int) (j_0 : Int) (r : List GItem) (h : qj9 x_0 i_0 j_0 = some r) : DetS pp 141 [.osl 0 3 0 (x_0.length), .v (.int .i64 i_0), .v (.int .i64 j_0)] [(0, .arr 3 (enc x_0))] 1 (.osl 1 3 0 (r.length)) [(1, .arr 3 (enc r))] 2 :=
  z4w qv5 (by kernel_rfl) (by decide) (by rfl) (by rfl) (fun _ => rfl) h
def qo6 (b_0 : List GItem) (rv_0 : GRec) (nv_0 : Int) : Option (List GItem) :=
 q9 (q74 b_0 rv_0 (fun x0_ x1_ => qy8 x0_ x1_)) (fun v_0 =>
 (if (nv_0 == 0) = true then some b_0
 else q9 (z00 nv_0) (fun v_1 =>
 (if (!v_1) = true then some b_0
 else (if (!v_0.2) = true then q9 (qa2 b_0 v_0.1 ([(⟨rv_0, nv_0⟩ : GItem)] : List GItem)) (fun v_2 =>
 some v_2)
 else q9 (idx b_0 v_0.1) (fun xv_0 =>
 (if ((i64.wrap (xv_0.N + nv_0)) == 0) = true then q9 (qj9 b_0 v_0.1 (i64.wrap (v_0.1 + 1))) (fun v_3 =>
 some v_3)
 else q9 (z00 (i64.wrap (xv_0.N + nv_0))) (fun v_4 =>
 (if v_4 = true then some (List.set b_0 (v_0.1.toNat) (⟨xv_0.Rec, i64.wrap (xv_0.N + nv_0)⟩ : GItem))
 else some b_0)))))))))
theorem qz9 (b_0 : List GItem) (rv_0 : GRec) (nv_0 : Int)  (r : List GItem) (h : qo6 b_0 rv_0 nv_0 = some r) : DetS pp 115 [.osl 0 3 (0) (b_0.length), .agg (Row.row rv_0), .v (.int .i64 nv_0)] [(0, .arr 3 (enc b_0))] 1 (.osl 1 3 (0) (r.length)) [(1, .arr 3 (enc r))] 2 := by
 refine dtI Tryz.func115 rfl ?_; rw [qo6] at h; have F := trivial; refine sM ?_; refine sg fun _ Q2 => ?_; obtain ⟨v_0, ev_0, h⟩ := z8 h; simp only [go_sem]; refine qm5 (qs3 b_0 rv_0 (fun x0_ x1_ => qy8 x0_ x1_) 138 [] (by rfl) (by kernel_rfl) (fun y0 y1 r_ e_ => za6 y0 y1 r_ e_) v_0 ev_0) ?_; simp only [go_sem]; refine q8 Q2 (jg fun _ Q3 => ?_); refine j3 fun _ Q4 => ?_; refine sg fun _ Q5 => ?_; simp only [go_sem]; rcases hb_0 : (nv_0 == 0) with _ | _
 ·
  replace h := q23 h hb_0; simp only [go_sem, hb_0]; refine q15 h fun v_1 h => ?_; simp only [go_sem]; refine q8 Q5 (sB h (fun _ h => ?_) fun _ h => ?_)
  · exact au
  ·
   refine sM ?_; refine sB h (fun _ h => ?_) fun _ h => ?_
   ·
    refine sg fun _ Q8 => ?_; have rf_0 : [[.v (.int .i64 rv_0.K), .v (.int .i64 rv_0.V), .v (.int .i64 nv_0)]] = enc ([(⟨rv_0, nv_0⟩ : GItem)] : List GItem) := by rfl
    obtain ⟨v_2, ev_2, h⟩ := z8 h; simp only [go_sem]; simp only [rf_0]; refine q0c [0, 2] (qp4 b_0 v_0.1 ([(⟨rv_0, nv_0⟩ : GItem)] : List GItem) v_2 ev_2) ?_; simp only [go_sem]; exact au
   ·
    refine sg fun _ Q9 => ?_; obtain ⟨xv_0, F, h⟩ := bI F h; simp only [go_sem, F]; refine ai ?_; refine q8 Q9 (sB h (fun _ h => ?_) fun _ h => ?_)
    · refine sg fun _ Q10 => ?_; obtain ⟨v_3, ev_3, h⟩ := z8 h; simp only [go_sem]; refine q0c [0] (qv6 b_0 v_0.1 (i64.wrap (v_0.1 + 1)) v_3 ev_3) ?_; simp only [go_sem]; exact au
    ·
     refine sg fun _ Q11 => ?_; simp only [go_sem, F]; refine ai ?_; refine q15 h fun v_4 h => ?_; simp only [go_sem]; refine q8 Q11 (sB h (fun _ h => ?_) fun _ h => ?_)
     · have rf_1 := q2v b_0 (v_0.1.toNat) (⟨xv_0.Rec, i64.wrap (xv_0.N + nv_0)⟩ : GItem); simp only [zz1] at rf_1; simp only [go_sem, rf_1, F]; refine ai ?_; refine ai ?_; exact au
     · exact au
 · replace h := q21 h hb_0; simp only [go_sem, hb_0]; exact au
def z2k (b_0 : List GItem) (times_0 : Int) (rec_1 : Int × (List GItem) → Option (List GItem)) : Int × (List GItem) → Option (List GItem) :=
 fun (t23_1, a_2) =>
 (if (decide (t23_1 < (b_0.length : Int))) = true then q9 (idx b_0 t23_1) (fun xv_2 =>
 q9 (qo6 a_2 xv_2.Rec (i64.wrap (times_0 * xv_2.N))) (fun v_5 =>
 rec_1 (i64.wrap (t23_1 + 1), v_5)))
 else some a_2)
def qv1 (a_0 : List GItem) (b_0 : List GItem) (times_0 : Int) : Option (List GItem) :=
 q9 (q7a a_0) (fun v_0 =>
 q9 (qj4 a_0) (fun v_1 =>
 (if v_1 = true then q9 (qj4 b_0) (fun v_2 =>
 (if (!v_2) = true then some v_0
 else w9 (z2k b_0 times_0) rounds (0, v_0)))
 else some v_0)))
theorem z1j (a_0 : List GItem) (b_0 : List GItem) (times_0 : Int)  (r : List GItem) (h : qv1 a_0 b_0 times_0 = some r) : DetS pp 84 [.sl 3 (enc a_0), .sl 3 (enc b_0), .v (.int .i64 times_0)] [] 0 (.osl 0 3 (0) (r.length)) [(0, .arr 3 (enc r))] 1 := by
 refine dtI Tryz.func84 rfl ?_; rw [qv1] at h; have F := trivial; refine sM ?_; refine sg fun _ Q2 => ?_; obtain ⟨v_0, ev_0, h⟩ := z8 h; simp only [go_sem]; refine q0c [] (q9s a_0 v_0 ev_0) ?_; simp only [go_sem]; refine q8 Q2 (sg fun _ Q3 => ?_); refine sg fun _ Q4 => ?_; simp only [go_sem]; refine q15 h fun v_1 h => ?_; simp only [go_sem]; rcases hb_0 : v_1 with _ | _
 · replace h := q23 h hb_0; simp only [go_sem, hb_0]; exact au
 ·
  replace h := q21 h hb_0; simp only [go_sem, hb_0]; refine q15 h fun v_2 h => ?_; simp only [go_sem]; refine q8 Q4 (sB h (fun _ h => ?_) fun _ h => ?_)
  · exact au
  ·
   refine j4 (q8 Q3 (jg fun _ Q7 => ?_)); refine sM ?_; refine j3 fun _ Q9 => ?_; refine u6 h [2, 21, 22] (fun x => ([(7, .osl 0 3 (0) (x.2.length)), (23, .v (.int .i64 x.1))], [(0, .arr 3 (enc x.2))])) 1 ?_; rintro m_1 ⟨t23_1, a_2⟩ h _ Q10; rw [z2k] at h; refine sM ?_; refine sg fun _ Q12 => ?_; refine sB h (fun _ h => ?_) fun _ h => ?_
   · refine j4 (q8 Q12 (sg fun _ Q13 => ?_)); refine j3 fun _ Q14 => ?_; refine sg fun _ Q15 => ?_; obtain ⟨xv_2, F, h⟩ := bI F h; simp only [go_sem, F]; refine ai ?_; refine q8 Q15 ?_; obtain ⟨v_5, ev_5, h⟩ := z8 h; simp only [go_sem]; refine q0c [0] (qz9 a_2 xv_2.Rec (i64.wrap (times_0 * xv_2.N)) v_5 ev_5) ?_; simp only [go_sem]; exact au
   · exact au
instance j3q (a_0 : List GItem) (b_0 : List GItem) (times_0 : Int) : Ct pp 84 (qv1 a_0 b_0 times_0) [.sl 3 (enc a_0), .sl 3 (enc b_0), .v (.int .i64 times_0)] fun r => (.sl 3 (enc r)) := ⟨fun r h => (z1j a_0 b_0 times_0  r h).pure leA⟩
def qg8 (a_0 : List GItem) (b_0 : List GItem) : Option (List GItem) :=
 q9 (qv1 a_0 b_0 1) (fun v_0 =>
 some v_0)
theorem z3t (a_0 : List GItem) (b_0 : List GItem)  (r : List GItem) (h : qg8 a_0 b_0 = some r) : DetS pp 55 [.sl 3 (enc a_0), .sl 3 (enc b_0)] [] 0 (.osl 0 3 (0) (r.length)) [(0, .arr 3 (enc r))] 1 := by
 refine dtI Tryz.func55 rfl ?_; rw [qg8] at h; have F := trivial; refine sM ?_; refine sg fun _ Q2 => ?_; obtain ⟨v_0, ev_0, h⟩ := z8 h; simp only [go_sem]; refine q0c [] (z1j a_0 b_0 1 v_0 ev_0) ?_; simp only [go_sem]; exact au
instance z0a (a_0 : List GItem) (b_0 : List GItem) : Ct pp 55 (qg8 a_0 b_0) [.sl 3 (enc a_0), .sl 3 (enc b_0)] fun r => (.sl 3 (enc r)) := ⟨fun r h => (z3t a_0 b_0  r h).pure leA⟩
def qk3 (xv_0 : Int) : Option Bool :=
 some (!(xv_0 == xv_0))
instance j0a (xv_0 : Int) : Ct pp 63 (qk3 xv_0) [.v (.int .i64 xv_0)] fun r => (.v (.bool r)) := ctI Tryz.func63 rfl (by rw [qk3]; exact au1)
def q8r (xv_0 : Int) (y_0 : Int) : Option Int :=
 q9 (qk3 xv_0) (fun v_0 =>
 q9 (qk3 y_0) (fun v_1 =>
 (if v_0 = true then (if v_1 = true then some 0
 else some (-1))
 else (if v_1 = true then some 1
 else (if (decide (xv_0 < y_0)) = true then some (-1)
 else (if (decide (y_0 < xv_0)) = true then some 1
 else some 0))))))
instance z4r (xv_0 : Int) (y_0 : Int) : Ct pp 32 (q8r xv_0 y_0) [.v (.int .i64 xv_0), .v (.int .i64 y_0)] fun r => (.v (.int .i64 r)) := ctI Tryz.func32 rfl (by rw [q8r]; exact au1)
def z1c (a_0 : GPoint) (b_0 : GPoint) : Option Int :=
 q9 (q8r a_0.Node b_0.Node) (fun v_0 =>
 (if (!(v_0 == 0)) = true then some v_0
 else q9 (z2g a_0.Time b_0.Time) (fun v_1 =>
 (if v_1 = true then some (-1)
 else q9 (z2g b_0.Time a_0.Time) (fun v_2 =>
 (if v_2 = true then some 1
 else some 0))))))
instance j3c (a_0 : GPoint) (b_0 : GPoint) : Ct pp 56 (z1c a_0 b_0) [.agg (Row.row a_0), .agg (Row.row b_0)] fun r => (.v (.int .i64 r)) := ctI Tryz.func56 rfl (by rw [z1c]; exact au1)
def q34 (rv_0 : GWave_runner) (rec_1 : Int × Int → Option (Int × GWave_runner)) : Int × Int → Option (Int × GWave_runner) :=
 fun (best_1, t12_1) =>
 (if (decide (t12_1 < (rv_0.pool.points.length : Int))) = true then q9 (idx rv_0.pool.points t12_1) (fun xv_4 =>
 (if (decide (best_1 < 0)) = true then q9 (q7g rv_0.table rv_0.pool.points xv_4) (fun v_8 =>
 (if v_8 = true then rec_1 (t12_1, i64.wrap (t12_1 + 1))
 else rec_1 (best_1, i64.wrap (t12_1 + 1))))
 else q9 (idx rv_0.pool.points best_1) (fun xv_5 =>
 q9 (z1c xv_4 xv_5) (fun v_6 =>
 (if (decide (v_6 < 0)) = true then q9 (q7g rv_0.table rv_0.pool.points xv_4) (fun v_7 =>
 (if v_7 = true then rec_1 (t12_1, i64.wrap (t12_1 + 1))
 else rec_1 (best_1, i64.wrap (t12_1 + 1))))
 else rec_1 (best_1, i64.wrap (t12_1 + 1)))))))
 else some (best_1, rv_0))
def q0v (rv_0 : GWave_runner) : Option (Int × GWave_runner) :=
 w9 (q34 rv_0) rounds ((-1), 0)
theorem q2x (rv_0 : GWave_runner)  (r : Int × GWave_runner) (h : q0v rv_0 = some r) : DetS pp 27 [.ptr 0 0] [(0, .box [.osl 1 6 (0) (rv_0.pool.points.length), .osl 2 2 (0) (rv_0.pool.in_.length), .sl 1 (enc rv_0.g.Parent), .sl 1 (enc rv_0.g.Bound), .sl 4 (enc rv_0.g.Nodes), .sl 4 (enc rv_0.g.Edges), .sl 1 (enc rv_0.table), .osl 3 6 (0) (rv_0.past.points.length), .osl 4 2 (0) (rv_0.past.in_.length), .v (.int .i64 rv_0.work), .osl 5 8 (0) (rv_0.waves.length), .osl 6 4 (0) (rv_0.outs.length)]), (1, .arr 6 (enc rv_0.pool.points)), (2, .arr 2 (enc rv_0.pool.in_)), (3, .arr 6 (enc rv_0.past.points)), (4, .arr 2 (enc rv_0.past.in_)), (5, .arr 8 (enc rv_0.waves)), (6, .arr 4 (enc rv_0.outs))] 7 (.v (.int .i64 r.1)) [(0, .box [.osl 7 6 (0) (r.2.pool.points.length), .osl 8 2 (0) (r.2.pool.in_.length), .sl 1 (enc r.2.g.Parent), .sl 1 (enc r.2.g.Bound), .sl 4 (enc r.2.g.Nodes), .sl 4 (enc r.2.g.Edges), .sl 1 (enc r.2.table), .osl 9 6 (0) (r.2.past.points.length), .osl 10 2 (0) (r.2.past.in_.length), .v (.int .i64 r.2.work), .osl 11 8 (0) (r.2.waves.length), .osl 12 4 (0) (r.2.outs.length)]), (7, .arr 6 (enc r.2.pool.points)), (8, .arr 2 (enc r.2.pool.in_)), (9, .arr 6 (enc r.2.past.points)), (10, .arr 2 (enc r.2.past.in_)), (11, .arr 8 (enc r.2.waves)), (12, .arr 4 (enc r.2.outs))] 13 := by
 refine dtI Tryz.func27 rfl ?_; rw [q0v] at h; have F := trivial; refine sM ?_; refine sM ?_; refine jg fun _ Q3 => ?_; refine sM ?_; refine j3 fun _ Q5 => ?_; refine u6 h [0, 10, 11] (fun x => ([(3, .v (.int .i64 x.1)), (12, .v (.int .i64 x.2))], [(0, .box [.osl 1 6 (0) (rv_0.pool.points.length), .osl 2 2 (0) (rv_0.pool.in_.length), .sl 1 (enc rv_0.g.Parent), .sl 1 (enc rv_0.g.Bound), .sl 4 (enc rv_0.g.Nodes), .sl 4 (enc rv_0.g.Edges), .sl 1 (enc rv_0.table), .osl 3 6 (0) (rv_0.past.points.length), .osl 4 2 (0) (rv_0.past.in_.length), .v (.int .i64 rv_0.work), .osl 5 8 (0) (rv_0.waves.length), .osl 6 4 (0) (rv_0.outs.length)]), (1, .arr 6 (enc rv_0.pool.points)), (2, .arr 2 (enc rv_0.pool.in_)), (3, .arr 6 (enc rv_0.past.points)), (4, .arr 2 (enc rv_0.past.in_)), (5, .arr 8 (enc rv_0.waves)), (6, .arr 4 (enc rv_0.outs))])) 7 ?_; rintro m_1 ⟨best_1, t12_1⟩ h _ Q6; rw [q34] at h; exact au
def qi7 (x_0 : List GPoint) (i_0 : Int) (j_0 : Int) : Option (List GPoint) := z7a x_0 i_0 j_0
theorem qu0 : DelLay pp (z98 86 0 0 0 3 4 40 27) 6 (.agg #[.int .i64 0, .int .i64 0, .int .i64 0, .int .i64 0, .int .i64 0, .int .i64 0] : Value) := { mixed := by kernel_rfl, t0 := Tryz.underlying0, a0 := Tryz.isAgg0, z0 := Tryz.sizeOf0, v0 := Tryz.zeroValue0, t3 := Tryz.underlying3, a3 := Tryz.isAgg3, z3 := Tryz.sizeOf3, v3 := Tryz.zeroValue3, t4 := Tryz.underlying4, a4 := Tryz.isAgg4, z4 := Tryz.sizeOf4, v4 := Tryz.zeroValue4, t24 := Tryz.underlying27, a24 := Tryz.isAgg27, z24 := Tryz.sizeOf27, v24 := Tryz.zeroValue27, z9 := Tryz.sizeOf40, v9 := Tryz.zeroValue40, i9 := z7x (b := 48) (by kernel_rfl), f24 := ⟨"slices.Delete[[]backwash/api.Point,backwash/api.Point]", by decide, by kernel_rfl⟩ }
theorem qu1 (x_0 : List GPoint) (i_0 : Int) (j_0 : Int) (r : List GPoint) (h : qi7 x_0 i_0 j_0 = some r) : DetS pp 86 [.osl 0 6 0 (x_0.length), .v (.int .i64 i_0), .v (.int .i64 j_0)] [(0, .arr 6 (enc x_0))] 1 (.osl 1 6 0 (r.length)) [(1, .arr 6 (enc r))] 2 :=
  z4w qu0 (by kernel_rfl) (by decide) (by rfl) (by rfl) (fun _ => rfl) h
def qi8 (x_0 : List (Arr2 (List GItem))) (i_0 : Int) (j_0 : Int) : Option (List (Arr2 (List GItem))) := z7a x_0 i_0 j_0
theorem qu2 : DelLay pp (z98 87 0 0 0 3 4 123 82) 2 (.agg #[.slice none 0 0, .slice none 0 0] : Value) := { mixed := by kernel_rfl, t0 := Tryz.underlying0, a0 := Tryz.isAgg0, z0 := Tryz.sizeOf0, v0 := Tryz.zeroValue0, t3 := Tryz.underlying3, a3 := Tryz.isAgg3, z3 := Tryz.sizeOf3, v3 := Tryz.zeroValue3, t4 := Tryz.underlying4, a4 := Tryz.isAgg4, z4 := Tryz.sizeOf4, v4 := Tryz.zeroValue4, t24 := Tryz.underlying82, a24 := Tryz.isAgg82, z24 := Tryz.sizeOf82, v24 := Tryz.zeroValue82, z9 := Tryz.sizeOf123, v9 := Tryz.zeroValue123, i9 := z7x (b := 48) (by kernel_rfl), f24 := ⟨"slices.Delete[[][2][]backwash/api.Item,[2][]backwash/api.Item]", by decide, by kernel_rfl⟩ }
theorem qu3 (x_0 : List (Arr2 (List GItem))) (i_0 : Int) (j_0 : Int) (r : List (Arr2 (List GItem))) (h : qi8 x_0 i_0 j_0 = some r) : DetS pp 87 [.osl 0 2 0 (x_0.length), .v (.int .i64 i_0), .v (.int .i64 j_0)] [(0, .arr 2 (enc x_0))] 1 (.osl 1 2 0 (r.length)) [(1, .arr 2 (enc r))] 2 :=
  z4w qu2 (by kernel_rfl) (by decide) (by rfl) (by rfl) (fun _ => rfl) h
def q2p (rv_0 : GWave_runner) (p_0 : GPoint) (rec_1 : Int × (List GItem) → Option ((List GItem) × GWave_runner)) : Int × (List GItem) → Option ((List GItem) × GWave_runner) :=
 fun (t14_1, a_1) =>
 (if (decide (t14_1 < (rv_0.past.points.length : Int))) = true then q9 (idx rv_0.past.points t14_1) (fun xv_4 =>
 (if (xv_4.Node == p_0.Node) = true then q9 (z0w xv_4.Time p_0.Time) (fun v_4 =>
 (if v_4 = true then q9 (idx rv_0.past.in_ t14_1) (fun xv_5 =>
 q9 (qg8 a_1 xv_5.a0) (fun v_5 =>
 rec_1 (i64.wrap (t14_1 + 1), v_5)))
 else rec_1 (i64.wrap (t14_1 + 1), a_1)))
 else rec_1 (i64.wrap (t14_1 + 1), a_1)))
 else some (a_1, rv_0))
def q0q (rv_0 : GWave_runner) (p_0 : GPoint) : Option ((List GItem) × GWave_runner) :=
 w9 (q2p rv_0 p_0) rounds (0, [])
theorem q2k (rv_0 : GWave_runner) (p_0 : GPoint)  (r : (List GItem) × GWave_runner) (h : q0q rv_0 p_0 = some r) : DetS pp 58 [.ptr 0 0, .agg (Row.row p_0)] [(0, .box [.osl 1 6 (0) (rv_0.pool.points.length), .osl 2 2 (0) (rv_0.pool.in_.length), .sl 1 (enc rv_0.g.Parent), .sl 1 (enc rv_0.g.Bound), .sl 4 (enc rv_0.g.Nodes), .sl 4 (enc rv_0.g.Edges), .sl 1 (enc rv_0.table), .osl 3 6 (0) (rv_0.past.points.length), .osl 4 2 (0) (rv_0.past.in_.length), .v (.int .i64 rv_0.work), .osl 5 8 (0) (rv_0.waves.length), .osl 6 4 (0) (rv_0.outs.length)]), (1, .arr 6 (enc rv_0.pool.points)), (2, .arr 2 (enc rv_0.pool.in_)), (3, .arr 6 (enc rv_0.past.points)), (4, .arr 2 (enc rv_0.past.in_)), (5, .arr 8 (enc rv_0.waves)), (6, .arr 4 (enc rv_0.outs))] 7 (.osl 7 3 (0) (r.1.length)) [(0, .box [.osl 8 6 (0) (r.2.pool.points.length), .osl 9 2 (0) (r.2.pool.in_.length), .sl 1 (enc r.2.g.Parent), .sl 1 (enc r.2.g.Bound), .sl 4 (enc r.2.g.Nodes), .sl 4 (enc r.2.g.Edges), .sl 1 (enc r.2.table), .osl 10 6 (0) (r.2.past.points.length), .osl 11 2 (0) (r.2.past.in_.length), .v (.int .i64 r.2.work), .osl 12 8 (0) (r.2.waves.length), .osl 13 4 (0) (r.2.outs.length)]), (7, .arr 3 (enc r.1)), (8, .arr 6 (enc r.2.pool.points)), (9, .arr 2 (enc r.2.pool.in_)), (10, .arr 6 (enc r.2.past.points)), (11, .arr 2 (enc r.2.past.in_)), (12, .arr 8 (enc r.2.waves)), (13, .arr 4 (enc r.2.outs))] 14 := by
 refine dtI Tryz.func58 rfl ?_; rw [q0q] at h; have F := trivial; refine sM ?_; refine sM ?_; refine jg fun _ Q3 => ?_; refine sM ?_; refine j3 fun _ Q5 => ?_; refine u6 h [0, 3, 12, 13] (fun x => ([(5, .osl 8 3 (0) (x.2.length)), (14, .v (.int .i64 x.1))], [(0, .box [.osl 1 6 (0) (rv_0.pool.points.length), .osl 2 2 (0) (rv_0.pool.in_.length), .sl 1 (enc rv_0.g.Parent), .sl 1 (enc rv_0.g.Bound), .sl 4 (enc rv_0.g.Nodes), .sl 4 (enc rv_0.g.Edges), .sl 1 (enc rv_0.table), .osl 3 6 (0) (rv_0.past.points.length), .osl 4 2 (0) (rv_0.past.in_.length), .v (.int .i64 rv_0.work), .osl 5 8 (0) (rv_0.waves.length), .osl 6 4 (0) (rv_0.outs.length)]), (1, .arr 6 (enc rv_0.pool.points)), (2, .arr 2 (enc rv_0.pool.in_)), (3, .arr 6 (enc rv_0.past.points)), (4, .arr 2 (enc rv_0.past.in_)), (5, .arr 8 (enc rv_0.waves)), (6, .arr 4 (enc rv_0.outs)), (7, .box (Row.row p_0)), (8, .arr 3 (enc x.2))])) 9 ?_; rintro m_1 ⟨t14_1, a_1⟩ h _ Q6; rw [q2p] at h; refine sM ?_; refine sg fun _ Q8 => ?_; refine sB h (fun _ h => ?_) fun _ h => ?_
 ·
  refine j4 (q8 Q8 (jg fun _ Q9 => ?_)); refine j3 fun _ Q10 => ?_; refine sg fun _ Q11 => ?_; obtain ⟨xv_4, F, h⟩ := bI F h; simp only [go_sem, F]; refine ai ?_; refine q8 Q11 (sg fun _ Q12 => ?_); simp only [go_sem]; rcases hb_7 : (xv_4.Node == p_0.Node) with _ | _
  · replace h := q23 h hb_7; simp only [go_sem, hb_7]; exact au
  ·
   replace h := q21 h hb_7; simp only [go_sem, hb_7]; refine q15 h fun v_4 h => ?_; simp only [go_sem]; refine q8 Q12 (sB h (fun _ h => ?_) fun _ h => ?_)
   · obtain ⟨xv_5, F, h⟩ := bI F h; obtain ⟨v_5, ev_5, h⟩ := z8 h; simp only [go_sem, F]; refine ai ?_; refine qc8 [0, 3, 12, 13, 14, 26, 27, 28, 29] ([(5, .sl 3 (enc a_1)), (25, .ptr 8 1)], [(0, .box [.osl 1 6 (0) (rv_0.pool.points.length), .osl 2 2 (0) (rv_0.pool.in_.length), .sl 1 (enc rv_0.g.Parent), .sl 1 (enc rv_0.g.Bound), .sl 4 (enc rv_0.g.Nodes), .sl 4 (enc rv_0.g.Edges), .sl 1 (enc rv_0.table), .osl 3 6 (0) (rv_0.past.points.length), .osl 4 2 (0) (rv_0.past.in_.length), .v (.int .i64 rv_0.work), .osl 5 8 (0) (rv_0.waves.length), .osl 6 4 (0) (rv_0.outs.length)]), (1, .arr 6 (enc rv_0.pool.points)), (2, .arr 2 (enc rv_0.pool.in_)), (3, .arr 6 (enc rv_0.past.points)), (4, .arr 2 (enc rv_0.past.in_)), (5, .arr 8 (enc rv_0.waves)), (6, .arr 4 (enc rv_0.outs)), (7, .box (Row.row p_0)), (8, .box (Row.row xv_4))]) 9 [some 7, some 9] [.sl 3 (enc a_1), .sl 3 (enc xv_5.a0)] ?_; refine q0c [] (z3t a_1 xv_5.a0 v_5 ev_5) ?_; simp only [go_sem]; exact au
   · exact au
 · exact au
def qx7 (b_0 : List GItem) (a_2 : List GItem) : Option (List GItem) :=
 q9 (qj4 b_0) (fun v_0 =>
 (if (!v_0) = true then some ([] : List GItem)
 else some a_2))
def z3r (b_0 : List GItem) (rec_2 : Int × (List GItem) → Option (List GItem)) : Int × (List GItem) → Option (List GItem) :=
 fun (t8_3, a_4) =>
 (if (decide (t8_3 < (b_0.length : Int))) = true then q9 (idx b_0 t8_3) (fun xv_5 =>
 (if (decide (0 < xv_5.N)) = true then y5 ((a_4.length + List.length ([xv_5] : List GItem)) * 24 ≤ 140737488355328) (
 rec_2 (i64.wrap (t8_3 + 1), (a_4 ++ ([xv_5] : List GItem))))
 else rec_2 (i64.wrap (t8_3 + 1), a_4)))
 else qx7 b_0 a_4)
def qq2 (b_0 : List GItem) : Option (List GItem) :=
 w9 (z3r b_0) rounds (0, [])
theorem qv2 (b_0 : List GItem)  (r : List GItem) (h : qq2 b_0 = some r) : DetS pp 89 [.sl 3 (enc b_0)] [] 0 (.osl 0 3 (0) (r.length)) [(0, .arr 3 (enc r))] 1 := by
 refine dtI Tryz.func89 rfl ?_; rw [qq2] at h; have F := trivial; refine sM ?_; refine sM ?_; refine q14 (fun (a_2 : (List GItem)) => qx7 b_0 a_2 = some r) [0] (fun a_2 => ([(3, .osl 0 3 (0) (a_2.length))], [(0, .arr 3 (enc a_2))])) 1 ?_ ?_
 ·
  intro _ Q7; refine sM ?_; refine j3 fun _ Q9 => ?_; refine u6 h [0, 6, 7] (fun x => ([(3, .osl 0 3 (0) (x.2.length)), (8, .v (.int .i64 x.1))], [(0, .arr 3 (enc x.2))])) 1 ?_; rintro m_2 ⟨t8_3, a_4⟩ h _ Q10; rw [z3r] at h; refine sM ?_; refine sg fun _ Q12 => ?_; refine sB h (fun _ h => ?_) fun _ h => ?_
  ·
   refine j4 (q8 Q12 (jg fun _ Q13 => ?_)); refine j3 fun _ Q14 => ?_; refine sg fun _ Q15 => ?_; obtain ⟨xv_5, F, h⟩ := bI F h; simp only [go_sem, F]; refine ai ?_; refine q8 Q15 (sM ?_); refine sB h (fun _ h => ?_) fun _ h => ?_
   ·
    have rf_8 : [[.v (.int .i64 xv_5.Rec.K), .v (.int .i64 xv_5.Rec.V), .v (.int .i64 xv_5.N)]] = enc ([xv_5] : List GItem) := by rfl
    obtain ⟨g_5, h⟩ := q02 h; have F := And.intro F g_5; simp only [List.length_cons, List.length_nil, Nat.zero_add, List.length_append] at g_5; have rf_9 : enc a_4 ++ [[.v (.int .i64 xv_5.Rec.K), .v (.int .i64 xv_5.Rec.V), .v (.int .i64 xv_5.N)]] = enc (a_4 ++ ([xv_5] : List GItem)) := by exact (q19 a_4 ([xv_5] : List GItem)).symm
    simp only [go_sem, g_5, rf_9]; simp only [rf_8]; exact au
   · exact au
  · exact au
 ·
  rintro a_2 h
  try dsimp only at h
  rw [qx7] at h; exact au
instance j58 (b_0 : List GItem) : Ct pp 89 (qq2 b_0) [.sl 3 (enc b_0)] fun r => (.sl 3 (enc r)) := ⟨fun r h => (qv2 b_0  r h).pure leA⟩
def qi9 (nv_0 : Int) (cap_0 : List (List GItem)) : Option (List GItem) :=
 (if (decide ((cap_0.length : Int) ≤ nv_0)) = true then some ([] : List GItem)
 else q9 (idx cap_0 nv_0) (fun xv_0 =>
 q9 (qq2 xv_0) (fun v_0 =>
 some v_0)))
theorem qp5 (nv_0 : Int) (cap_0 : List (List GItem))  (r : List GItem) (h : qi9 nv_0 cap_0 = some r) : DetS pp 88 [.v (.int .i64 nv_0), .el 1 [[.sl 1 (enc cap_0)]] 0 0] [] 0 (.osl 0 3 (0) (r.length)) [(0, .arr 3 (enc r))] 1 := by
 refine dtI Tryz.func88 rfl ?_; rw [qi9] at h; have F := trivial; refine sM ?_; refine sg fun _ Q2 => ?_; refine sM ?_; refine sB h (fun _ h => ?_) fun _ h => ?_
 · exact au
 · refine j4 (q8 Q2 (sg fun _ Q5 => ?_)); obtain ⟨xv_0, F, h⟩ := bI F h; obtain ⟨v_0, ev_0, h⟩ := z8 h; simp only [go_sem, F]; refine ai ?_; refine q0c [] (qv2 xv_0 v_0 ev_0) ?_; simp only [go_sem]; exact au
instance j2l (nv_0 : Int) (cap_0 : List (List GItem)) : Ct pp 88 (qi9 nv_0 cap_0) [.v (.int .i64 nv_0), .el 1 [[.sl 1 (enc cap_0)]] 0 0] fun r => (.sl 3 (enc r)) := ⟨fun r h => (qp5 nv_0 cap_0  r h).pure leA⟩
def q08 (mv_0 : GProg_machine) (nv_0 : Int) : Option GProg_machine :=
 (if ((mv_0.stack.length : Int) == 8) = true then some (⟨mv_0.r, mv_0.stack, mv_0.out, mv_0.at_, 1⟩ : GProg_machine)
 else y5 ((mv_0.stack.length + List.length ([nv_0] : List Int)) * 8 ≤ 140737488355328) (
 some (⟨mv_0.r, (mv_0.stack ++ ([nv_0] : List Int)), mv_0.out, mv_0.at_, mv_0.bad⟩ : GProg_machine)))
theorem q0d (mv_0 : GProg_machine) (nv_0 : Int)  (r : GProg_machine) (h : q08 mv_0 nv_0 = some r) : DetS pp 162 [.ptr 0 0, .v (.int .i64 nv_0)] [(0, .box [.v (.int .i64 mv_0.r.K), .v (.int .i64 mv_0.r.V), .osl 1 1 (0) (mv_0.stack.length), .osl 2 2 (0) (mv_0.out.length), .v (.int .i64 mv_0.at_), .v (.int .i64 mv_0.bad)]), (1, .arr 1 (enc mv_0.stack)), (2, .arr 2 (enc mv_0.out))] 3 (.tup []) [(0, .box [.v (.int .i64 r.r.K), .v (.int .i64 r.r.V), .osl 3 1 (0) (r.stack.length), .osl 4 2 (0) (r.out.length), .v (.int .i64 r.at_), .v (.int .i64 r.bad)]), (3, .arr 1 (enc r.stack)), (4, .arr 2 (enc r.out))] 5 := by
 refine dtI Tryz.func162 rfl ?_; rw [q08] at h; have F := trivial; refine sg fun _ Q1 => ?_; refine sM ?_; refine sB h (fun _ h => ?_) fun _ h => ?_
 · exact au
 ·
  refine j4 (q8 Q1 ?_); have rf_0 : [[.v (.int .i64 nv_0)]] = enc ([nv_0] : List Int) := by rfl
  obtain ⟨g_0, h⟩ := q02 h; have F := And.intro F g_0; simp only [List.length_cons, List.length_nil, Nat.zero_add, List.length_append] at g_0; have rf_1 : enc mv_0.stack ++ [[.v (.int .i64 nv_0)]] = enc (mv_0.stack ++ ([nv_0] : List Int)) := by exact (q19 mv_0.stack ([nv_0] : List Int)).symm
  simp only [go_sem, g_0, rf_1]; simp only [rf_0]; obtain rfl := Option.some.inj h; refine q69 [some 4, some 2] ?_; exact leA
def q5b (mv_0 : GProg_machine) (xv_0 : GIns) : Option (Bool × GProg_machine) :=
 (if (xv_0.Op == 1) = true then q9 (q08 mv_0 xv_0.N) (fun v_0 =>
 some (true, v_0))
 else (if (xv_0.Op == 2) = true then q9 (q08 mv_0 mv_0.r.K) (fun v_1 =>
 some (true, v_1))
 else (if (xv_0.Op == 3) = true then q9 (q08 mv_0 mv_0.r.V) (fun v_2 =>
 some (true, v_2))
 else (if (xv_0.Op == 11) = true then (if (decide ((i64.wrap ((mv_0.stack.length : Int) - 1)) < 0)) = true then some (true, (⟨mv_0.r, mv_0.stack, mv_0.out, mv_0.at_, 1⟩ : GProg_machine))
 else y5 (0 ≤ i64.wrap ((mv_0.stack.length : Int) - 1) ∧ i64.wrap ((mv_0.stack.length : Int) - 1) ≤ (mv_0.stack.length : Int) ∧ (mv_0.stack.length : Int) ≤ (mv_0.stack.length : Int) ∧ (mv_0.stack.length : Int) ≤ (mv_0.stack.length : Int)) (
 y5 (0 ≤ 0 ∧ 0 ≤ i64.wrap ((mv_0.stack.length : Int) - 1) ∧ i64.wrap ((mv_0.stack.length : Int) - 1) ≤ (mv_0.stack.length : Int)) (
 y5 (0 < Int.toNat (mv_0.stack.length : Int) - Int.toNat (i64.wrap ((mv_0.stack.length : Int) - 1))) (
 q9 (idx (List.take (Int.toNat (mv_0.stack.length : Int) - Int.toNat (i64.wrap ((mv_0.stack.length : Int) - 1))) (List.drop (Int.toNat (i64.wrap ((mv_0.stack.length : Int) - 1))) mv_0.stack)) 0) (fun xv_1 =>
 q9 (q08 (⟨mv_0.r, (List.take (Int.toNat (i64.wrap ((mv_0.stack.length : Int) - 1))) mv_0.stack), mv_0.out, mv_0.at_, mv_0.bad⟩ : GProg_machine) xv_1) (fun v_3 =>
 q9 (q08 v_3 xv_1) (fun v_4 =>
 some (true, v_4))))))))
 else (if (xv_0.Op == 12) = true then (if (decide ((i64.wrap ((mv_0.stack.length : Int) - 2)) < 0)) = true then some (true, (⟨mv_0.r, mv_0.stack, mv_0.out, mv_0.at_, 1⟩ : GProg_machine))
 else y5 (0 ≤ i64.wrap ((mv_0.stack.length : Int) - 2) ∧ i64.wrap ((mv_0.stack.length : Int) - 2) ≤ (mv_0.stack.length : Int) ∧ (mv_0.stack.length : Int) ≤ (mv_0.stack.length : Int) ∧ (mv_0.stack.length : Int) ≤ (mv_0.stack.length : Int)) (
 y5 (0 ≤ 0 ∧ 0 ≤ i64.wrap ((mv_0.stack.length : Int) - 2) ∧ i64.wrap ((mv_0.stack.length : Int) - 2) ≤ (mv_0.stack.length : Int)) (
 y5 (0 < Int.toNat (mv_0.stack.length : Int) - Int.toNat (i64.wrap ((mv_0.stack.length : Int) - 2))) (
 q9 (idx (List.take (Int.toNat (mv_0.stack.length : Int) - Int.toNat (i64.wrap ((mv_0.stack.length : Int) - 2))) (List.drop (Int.toNat (i64.wrap ((mv_0.stack.length : Int) - 2))) mv_0.stack)) 0) (fun xv_2 =>
 q9 (idx (List.take (Int.toNat (mv_0.stack.length : Int) - Int.toNat (i64.wrap ((mv_0.stack.length : Int) - 2))) (List.drop (Int.toNat (i64.wrap ((mv_0.stack.length : Int) - 2))) mv_0.stack)) 1) (fun xv_3 =>
 q9 (q08 (⟨mv_0.r, (List.take (Int.toNat (i64.wrap ((mv_0.stack.length : Int) - 2))) mv_0.stack), mv_0.out, mv_0.at_, mv_0.bad⟩ : GProg_machine) xv_3) (fun v_5 =>
 q9 (q08 v_5 xv_2) (fun v_6 =>
 some (true, v_6)))))))))
 else (if (xv_0.Op == 13) = true then (if (decide ((i64.wrap ((mv_0.stack.length : Int) - 1)) < 0)) = true then some (true, (⟨mv_0.r, mv_0.stack, mv_0.out, mv_0.at_, 1⟩ : GProg_machine))
 else y5 (0 ≤ i64.wrap ((mv_0.stack.length : Int) - 1) ∧ i64.wrap ((mv_0.stack.length : Int) - 1) ≤ (mv_0.stack.length : Int) ∧ (mv_0.stack.length : Int) ≤ (mv_0.stack.length : Int) ∧ (mv_0.stack.length : Int) ≤ (mv_0.stack.length : Int)) (
 y5 (0 ≤ 0 ∧ 0 ≤ i64.wrap ((mv_0.stack.length : Int) - 1) ∧ i64.wrap ((mv_0.stack.length : Int) - 1) ≤ (mv_0.stack.length : Int)) (
 some (true, (⟨mv_0.r, (List.take (Int.toNat (i64.wrap ((mv_0.stack.length : Int) - 1))) mv_0.stack), mv_0.out, mv_0.at_, mv_0.bad⟩ : GProg_machine)))))
 else some (false, mv_0)))))))
theorem qk5 (mv_0 : GProg_machine) (xv_0 : GIns)  (r : Bool × GProg_machine) (h : q5b mv_0 xv_0 = some r) : DetS pp 159 [.ptr 0 0, .agg (Row.row xv_0)] [(0, .box [.v (.int .i64 mv_0.r.K), .v (.int .i64 mv_0.r.V), .osl 1 1 (0) (mv_0.stack.length), .osl 2 2 (0) (mv_0.out.length), .v (.int .i64 mv_0.at_), .v (.int .i64 mv_0.bad)]), (1, .arr 1 (enc mv_0.stack)), (2, .arr 2 (enc mv_0.out))] 3 (.v (.bool r.1)) [(0, .box [.v (.int .i64 r.2.r.K), .v (.int .i64 r.2.r.V), .osl 3 1 (0) (r.2.stack.length), .osl 4 2 (0) (r.2.out.length), .v (.int .i64 r.2.at_), .v (.int .i64 r.2.bad)]), (3, .arr 1 (enc r.2.stack)), (4, .arr 2 (enc r.2.out))] 5 := by
 refine dtI Tryz.func159 rfl ?_; rw [q5b] at h; have F := trivial; refine sM ?_; refine jg fun _ Q2 => ?_; refine sM ?_; refine j3 fun _ Q4 => ?_; refine sM ?_; refine sB h (fun _ h => ?_) fun _ h => ?_
 · obtain ⟨v_0, ev_0, h⟩ := z8 h; simp only [go_sem]; refine q0c [0, 1, 2] (q0d mv_0 xv_0.N v_0 ev_0) ?_; simp only [go_sem]; exact au
 ·
  refine sM ?_; refine sB h (fun _ h => ?_) fun _ h => ?_
  · obtain ⟨v_1, ev_1, h⟩ := z8 h; simp only [go_sem]; refine q0c [0, 1, 2] (q0d mv_0 mv_0.r.K v_1 ev_1) ?_; simp only [go_sem]; exact au
  ·
   refine sM ?_; refine sB h (fun _ h => ?_) fun _ h => ?_
   · obtain ⟨v_2, ev_2, h⟩ := z8 h; simp only [go_sem]; refine q0c [0, 1, 2] (q0d mv_0 mv_0.r.V v_2 ev_2) ?_; simp only [go_sem]; exact au
   ·
    refine sM ?_; refine sB h (fun _ h => ?_) fun _ h => ?_
    ·
     refine sg fun _ Q12 => ?_; simp only [go_sem]; refine q4g Tryz.func160 rfl (by kernel_rfl) (by kernel_rfl) ?_; refine sM ?_; refine sM ?_; refine sg fun _ Q15 => ?_; refine sM ?_; refine sB h (fun _ h => ?_) fun _ h => ?_
     ·
      refine sM ?_; refine sM ?_; refine q00 (q0k Q15 ?_); simp only [go_sem]; refine q0u [] [(0, .box [.v (.int .i64 mv_0.r.K), .v (.int .i64 mv_0.r.V), .osl 1 1 (0) (mv_0.stack.length), .osl 2 2 (0) (mv_0.out.length), .v (.int .i64 mv_0.at_), .v (.int .i64 1)]), (1, .arr 1 (enc mv_0.stack)), (2, .arr 2 (enc mv_0.out)), (3, .box (Row.row xv_0))] 4 (.v (.slice none 0 0)) ?_ ?_
      · exact leA
      refine q17 ?_; simp only [go_sem]; exact au
     ·
      refine j4 (q8 Q15 (sg fun _ Q21 => ?_)); refine x9 ?_; refine j83 ?_; obtain ⟨F, h⟩ := bG F h; simp only [go_sem, F]; refine q8 Q21 (sg fun _ Q22 => ?_); obtain ⟨F, h⟩ := bG F h; simp only [go_sem, F]; refine q8 Q22 (sM ?_); refine q00 ?_; simp only [go_sem]; refine q0u [] [(0, .box [.v (.int .i64 mv_0.r.K), .v (.int .i64 mv_0.r.V), .osl 1 1 (0) (Int.toNat (i64.wrap ((mv_0.stack.length : Int) - 1))), .osl 2 2 (0) (mv_0.out.length), .v (.int .i64 mv_0.at_), .v (.int .i64 mv_0.bad)]), (1, .arr 1 (enc mv_0.stack)), (2, .arr 2 (enc mv_0.out)), (3, .box (Row.row xv_0))] 4 (.osl 1 1 (Int.toNat (i64.wrap ((mv_0.stack.length : Int) - 1))) (Int.toNat (mv_0.stack.length : Int) - Int.toNat (i64.wrap ((mv_0.stack.length : Int) - 1)))) ?_ ?_
      · exact leA
      refine q17 ?_; simp only [go_sem]; refine q8 Q12 (sg fun _ Q24 => ?_); obtain ⟨F, h⟩ := bG F h; simp only [go_sem, F]; refine ai ?_; refine q8 Q24 (j9n ?_); refine sg fun _ Q25 => ?_; obtain ⟨xv_1, ex1, h⟩ := z8 h; obtain ⟨f1a, f1b, f1c, fxv_1d⟩ := ql5 ex1; simp only [Int.toNat_natCast, Int.reduceToNat, Nat.zero_add, Nat.add_zero] at f1c fxv_1d; simp only [go_sem, f1a, f1b, f1c, fxv_1d]; refine ai ?_; refine q8 Q25 (sg fun _ Q26 => ?_); obtain ⟨v_3, ev_3, h⟩ := z8 h; simp only [go_sem]; refine qc8 [0, 6] ([], [(0, .box [.v (.int .i64 mv_0.r.K), .v (.int .i64 mv_0.r.V), .osl 1 1 (0) (List.length (List.take (Int.toNat (i64.wrap ((mv_0.stack.length : Int) - 1))) mv_0.stack)), .osl 2 2 (0) (mv_0.out.length), .v (.int .i64 mv_0.at_), .v (.int .i64 mv_0.bad)]), (1, .arr 1 (enc (List.take (Int.toNat (i64.wrap ((mv_0.stack.length : Int) - 1))) mv_0.stack))), (2, .arr 2 (enc mv_0.out)), (3, .box (Row.row xv_0))]) 4 [some 3] [.ptr 0 0, .v (.int .i64 xv_1)] ?_; refine q0c [0, 1, 2] (q0d (⟨mv_0.r, (List.take (Int.toNat (i64.wrap ((mv_0.stack.length : Int) - 1))) mv_0.stack), mv_0.out, mv_0.at_, mv_0.bad⟩ : GProg_machine) xv_1 v_3 ev_3) ?_; simp only [go_sem]; refine q8 Q26 ?_; obtain ⟨v_4, ev_4, h⟩ := z8 h; simp only [go_sem]; refine q0c [0, 4, 5] (q0d v_3 xv_1 v_4 ev_4) ?_; simp only [go_sem]; exact au
    ·
     refine sM ?_; refine sB h (fun _ h => ?_) fun _ h => ?_
     ·
      refine sg fun _ Q29 => ?_; simp only [go_sem]; refine q4g Tryz.func160 rfl (by kernel_rfl) (by kernel_rfl) ?_; refine sM ?_; refine sM ?_; refine sg fun _ Q32 => ?_; refine sM ?_; refine sB h (fun _ h => ?_) fun _ h => ?_
      ·
       refine sM ?_; refine sM ?_; refine q00 (q0k Q32 ?_); simp only [go_sem]; refine q0u [] [(0, .box [.v (.int .i64 mv_0.r.K), .v (.int .i64 mv_0.r.V), .osl 1 1 (0) (mv_0.stack.length), .osl 2 2 (0) (mv_0.out.length), .v (.int .i64 mv_0.at_), .v (.int .i64 1)]), (1, .arr 1 (enc mv_0.stack)), (2, .arr 2 (enc mv_0.out)), (3, .box (Row.row xv_0))] 4 (.v (.slice none 0 0)) ?_ ?_
       · exact leA
       refine q17 ?_; simp only [go_sem]; exact au
      ·
       refine j4 (q8 Q32 (sg fun _ Q38 => ?_)); refine x9 ?_; refine j83 ?_; obtain ⟨F, h⟩ := bG F h; simp only [go_sem, F]; refine q8 Q38 (sg fun _ Q39 => ?_); obtain ⟨F, h⟩ := bG F h; simp only [go_sem, F]; refine q8 Q39 (sM ?_); refine q00 ?_; simp only [go_sem]; refine q0u [] [(0, .box [.v (.int .i64 mv_0.r.K), .v (.int .i64 mv_0.r.V), .osl 1 1 (0) (Int.toNat (i64.wrap ((mv_0.stack.length : Int) - 2))), .osl 2 2 (0) (mv_0.out.length), .v (.int .i64 mv_0.at_), .v (.int .i64 mv_0.bad)]), (1, .arr 1 (enc mv_0.stack)), (2, .arr 2 (enc mv_0.out)), (3, .box (Row.row xv_0))] 4 (.osl 1 1 (Int.toNat (i64.wrap ((mv_0.stack.length : Int) - 2))) (Int.toNat (mv_0.stack.length : Int) - Int.toNat (i64.wrap ((mv_0.stack.length : Int) - 2)))) ?_ ?_
       · exact leA
       refine q17 ?_; simp only [go_sem]; refine q8 Q29 (sg fun _ Q41 => ?_); obtain ⟨F, h⟩ := bG F h; simp only [go_sem, F]; refine ai ?_; refine q8 Q41 (j9n ?_); refine sg fun _ Q42 => ?_; refine x9 ?_; refine j83 ?_; obtain ⟨xv_2, ex2, h⟩ := z8 h; obtain ⟨f2a, f2b, f2c, fxv_2d⟩ := ql5 ex2; simp only [Int.toNat_natCast, Int.reduceToNat, Nat.zero_add, Nat.add_zero] at f2c fxv_2d; obtain ⟨xv_3, ex3, h⟩ := z8 h; obtain ⟨f3a, f3b, f3c, fxv_3d⟩ := ql5 ex3; simp only [Int.toNat_natCast, Int.reduceToNat, Nat.zero_add, Nat.add_zero] at f3c fxv_3d; simp only [go_sem, f2a, f2b, f2c, fxv_2d, f3a, f3b, f3c, fxv_3d]; refine ai ?_; refine ai ?_; refine q8 Q42 (sg fun _ Q43 => ?_); obtain ⟨v_5, ev_5, h⟩ := z8 h; simp only [go_sem]; refine qc8 [0, 8] ([], [(0, .box [.v (.int .i64 mv_0.r.K), .v (.int .i64 mv_0.r.V), .osl 1 1 (0) (List.length (List.take (Int.toNat (i64.wrap ((mv_0.stack.length : Int) - 2))) mv_0.stack)), .osl 2 2 (0) (mv_0.out.length), .v (.int .i64 mv_0.at_), .v (.int .i64 mv_0.bad)]), (1, .arr 1 (enc (List.take (Int.toNat (i64.wrap ((mv_0.stack.length : Int) - 2))) mv_0.stack))), (2, .arr 2 (enc mv_0.out)), (3, .box (Row.row xv_0))]) 4 [some 3] [.ptr 0 0, .v (.int .i64 xv_3)] ?_; refine q0c [0, 1, 2] (q0d (⟨mv_0.r, (List.take (Int.toNat (i64.wrap ((mv_0.stack.length : Int) - 2))) mv_0.stack), mv_0.out, mv_0.at_, mv_0.bad⟩ : GProg_machine) xv_3 v_5 ev_5) ?_; simp only [go_sem]; refine q8 Q43 ?_; obtain ⟨v_6, ev_6, h⟩ := z8 h; simp only [go_sem]; refine q0c [0, 4, 5] (q0d v_5 xv_2 v_6 ev_6) ?_; simp only [go_sem]; exact au
     ·
      refine sM ?_; refine sB h (fun _ h => ?_) fun _ h => ?_
      ·
       simp only [go_sem]; refine q4g Tryz.func160 rfl (by kernel_rfl) (by kernel_rfl) ?_; refine sM ?_; refine sM ?_; refine sg fun _ Q48 => ?_; refine sM ?_; refine sB h (fun _ h => ?_) fun _ h => ?_
       ·
        refine sM ?_; refine sM ?_; refine q00 (q0k Q48 ?_); simp only [go_sem]; refine q0u [] [(0, .box [.v (.int .i64 mv_0.r.K), .v (.int .i64 mv_0.r.V), .osl 1 1 (0) (mv_0.stack.length), .osl 2 2 (0) (mv_0.out.length), .v (.int .i64 mv_0.at_), .v (.int .i64 1)]), (1, .arr 1 (enc mv_0.stack)), (2, .arr 2 (enc mv_0.out)), (3, .box (Row.row xv_0))] 4 (.v (.slice none 0 0)) ?_ ?_
        · exact leA
        refine q17 ?_; simp only [go_sem]; exact au
       ·
        refine j4 (q8 Q48 (sg fun _ Q53 => ?_)); refine x9 ?_; refine j83 ?_; obtain ⟨F, h⟩ := bG F h; simp only [go_sem, F]; refine q8 Q53 (sg fun _ Q54 => ?_); obtain ⟨F, h⟩ := bG F h; simp only [go_sem, F]; refine q8 Q54 (sM ?_); refine q00 ?_; simp only [go_sem]; refine q0u [] [(0, .box [.v (.int .i64 mv_0.r.K), .v (.int .i64 mv_0.r.V), .osl 1 1 (0) (Int.toNat (i64.wrap ((mv_0.stack.length : Int) - 1))), .osl 2 2 (0) (mv_0.out.length), .v (.int .i64 mv_0.at_), .v (.int .i64 mv_0.bad)]), (1, .arr 1 (enc mv_0.stack)), (2, .arr 2 (enc mv_0.out)), (3, .box (Row.row xv_0))] 4 (.osl 1 1 (Int.toNat (i64.wrap ((mv_0.stack.length : Int) - 1))) (Int.toNat (mv_0.stack.length : Int) - Int.toNat (i64.wrap ((mv_0.stack.length : Int) - 1)))) ?_ ?_
        · exact leA
        refine q17 ?_; simp only [go_sem]; exact au
      · exact au
def qn9 (nv_0 : Int) : Option Int :=
 (if (decide (nv_0 < 0)) = true then some (IntKind.u64.wrap (0 - (IntKind.u64.wrap nv_0)))
 else some (IntKind.u64.wrap nv_0))
instance j0z (nv_0 : Int) : Ct pp 166 (qn9 nv_0) [.v (.int .i64 nv_0)] fun r => (.v (.int .u64 r)) := ctI Tryz.func166 rfl (by rw [qn9]; exact au1)
def q8q (xv_0 : Int) (y_0 : Int) : Option (Int × Int) :=
 some (IntKind.u64.wrap ((IntKind.u64.wrap ((IntKind.u64.wrap ((q2r .u64 xv_0 32) * (q2r .u64 y_0 32))) + (q2r .u64 (IntKind.u64.wrap ((IntKind.u64.wrap ((q2r .u64 xv_0 32) * (z2z .u64 y_0 4294967295))) + (q2r .u64 (IntKind.u64.wrap ((z2z .u64 xv_0 4294967295) * (z2z .u64 y_0 4294967295))) 32))) 32))) + (q2r .u64 (IntKind.u64.wrap ((z2z .u64 (IntKind.u64.wrap ((IntKind.u64.wrap ((q2r .u64 xv_0 32) * (z2z .u64 y_0 4294967295))) + (q2r .u64 (IntKind.u64.wrap ((z2z .u64 xv_0 4294967295) * (z2z .u64 y_0 4294967295))) 32))) 4294967295) + (IntKind.u64.wrap ((z2z .u64 xv_0 4294967295) * (q2r .u64 y_0 32))))) 32)), IntKind.u64.wrap (xv_0 * y_0))
instance zw1 (xv_0 : Int) (y_0 : Int) : Ct pp 153 (q8q xv_0 y_0) [.v (.int .u64 xv_0), .v (.int .u64 y_0)] fun r => (.tup [.v (.int .u64 r.1), .v (.int .u64 r.2)]) := ctI Tryz.func153 rfl (by rw [q8q]; exact au1)
def z1g (a_0 : Int) (b_0 : Int) : Option (Int × Bool) :=
 q9 (qn9 a_0) (fun v_0 =>
 q9 (qn9 b_0) (fun v_1 =>
 q9 (q8q v_0 v_1) (fun v_2 =>
 (if (!((decide (a_0 < 0)) == (decide (b_0 < 0)))) = true then some (i64.wrap (0 - (i64.wrap v_2.2)), ((v_2.1 == 0) && (decide (v_2.2 ≤ 9223372036854775808))))
 else some (i64.wrap v_2.2, ((v_2.1 == 0) && (decide (v_2.2 < 9223372036854775808))))))))
instance j3j (a_0 : Int) (b_0 : Int) : Ct pp 164 (z1g a_0 b_0) [.v (.int .i64 a_0), .v (.int .i64 b_0)] fun r => (.tup [.v (.int .i64 r.1), .v (.bool r.2)]) := ctI Tryz.func164 rfl (by rw [z1g]; exact au1)
def qu5 (ok_0 : Bool) : Option Int :=
 (if ok_0 = true then some 1
 else some 0)
instance j3i (ok_0 : Bool) : Ct pp 165 (qu5 ok_0) [.v (.bool ok_0)] fun r => (.v (.int .i64 r)) := ctI Tryz.func165 rfl (by rw [qu5]; exact au1)
def q31 (nv_0 : Int) (ok_0 : Bool) : Option (Int × Int) :=
 (if (!ok_0) = true then some (0, 2)
 else some (nv_0, 0))
def qr0 (op_0 : Int) (a_0 : Int) (b_0 : Int) (t53_1 : Bool) : Option (Int × Int) :=
 (if t53_1 = true then (if (b_0 == 0) = true then some (0, 3)
 else (if ((b_0 == (-1)) && (op_0 == 8)) = true then q31 0 true
 else (if (b_0 == (-1)) = true then q31 (i64.wrap (0 - a_0)) (!(a_0 == (-9223372036854775808)))
 else (if (op_0 == 7) = true then y5 (b_0 ≠ 0) (
 q31 (i64.wrap (Int.tdiv a_0 b_0)) true)
 else y5 (b_0 ≠ 0) (
 q31 (Int.tmod a_0 b_0) true)))))
 else (if (op_0 == 9) = true then q9 (qu5 (decide (a_0 < b_0))) (fun v_4 =>
 q31 v_4 true)
 else (if (op_0 == 10) = true then q9 (qu5 (a_0 == b_0)) (fun v_5 =>
 q31 v_5 true)
 else q31 0 true)))
def z4n (op_0 : Int) (a_0 : Int) (b_0 : Int) : Option (Int × Int) :=
 (if (op_0 == 4) = true then q31 (i64.wrap (a_0 + b_0)) ((!((decide (a_0 < 0)) == (decide (b_0 < 0)))) || ((decide ((i64.wrap (a_0 + b_0)) < 0)) == (decide (a_0 < 0))))
 else (if (op_0 == 5) = true then q31 (i64.wrap (a_0 - b_0)) (((decide (a_0 < 0)) == (decide (b_0 < 0))) || ((decide ((i64.wrap (a_0 - b_0)) < 0)) == (decide (a_0 < 0))))
 else (if (op_0 == 6) = true then q9 (z1g a_0 b_0) (fun v_3 =>
 q31 v_3.1 v_3.2)
 else (if (op_0 == 7) = true then qr0 op_0 a_0 b_0 (op_0 == 7)
 else qr0 op_0 a_0 b_0 (op_0 == 8)))))
instance ze9 (op_0 : Int) (a_0 : Int) (b_0 : Int) : Ct pp 161 (z4n op_0 a_0 b_0) [.v (.int .i64 op_0), .v (.int .i64 a_0), .v (.int .i64 b_0)] fun r => (.tup [.v (.int .i64 r.1), .v (.int .i64 r.2)]) := ctK Tryz.func161 rfl (by rw [z4n]) (by
 intro r h F; refine sM ?_; refine sM ?_; refine q14 (fun ((nv_0, ok_0) : Int × Bool) => q31 nv_0 ok_0 = some r) [] (fun x => ([(8, .v (.int .i64 x.1)), (9, .v (.bool x.2))], [])) 0 ?_ ?_
 ·
  intro _ Q7; refine sM ?_; refine j3 fun _ Q9 => ?_; refine sM ?_; refine sB h (fun _ h => ?_) fun _ h => ?_
  · exact au
  ·
   refine sM ?_; refine sB h (fun _ h => ?_) fun _ h => ?_
   · exact au
   ·
    refine sM ?_; refine sB h (fun _ h => ?_) fun _ h => ?_
    · exact au
    ·
     refine q14 (fun (t53_1 : Bool) => qr0 op_0 a_0 b_0 t53_1 = some r) [0, 1, 2, 8, 9, 10] (fun t53_1 => ([(53, .v (.bool t53_1))], [])) 0 ?_ ?_
     · intro _ Q23; exact au
     ·
      rintro t53_1 h
      try dsimp only at h
      rw [qr0] at h; exact au
 ·
  rintro ⟨nv_0, ok_0⟩ h
  try dsimp only at h
  rw [q31] at h; exact au)
def q5t (mv_0 : GProg_machine) (xv_0 : GIns) : Option GProg_machine :=
 q9 (q5b (⟨mv_0.r, mv_0.stack, mv_0.out, i64.wrap (mv_0.at_ + 1), mv_0.bad⟩ : GProg_machine) xv_0) (fun v_0 =>
 (if v_0.1 = true then some v_0.2
 else (if (xv_0.Op == 14) = true then some (⟨v_0.2.r, v_0.2.stack, v_0.2.out, xv_0.N, v_0.2.bad⟩ : GProg_machine)
 else (if (xv_0.Op == 15) = true then (if (decide ((i64.wrap ((v_0.2.stack.length : Int) - 1)) < 0)) = true then some (⟨v_0.2.r, v_0.2.stack, v_0.2.out, v_0.2.at_, 1⟩ : GProg_machine)
 else y5 (0 ≤ i64.wrap ((v_0.2.stack.length : Int) - 1) ∧ i64.wrap ((v_0.2.stack.length : Int) - 1) ≤ (v_0.2.stack.length : Int) ∧ (v_0.2.stack.length : Int) ≤ (v_0.2.stack.length : Int) ∧ (v_0.2.stack.length : Int) ≤ (v_0.2.stack.length : Int)) (
 y5 (0 ≤ 0 ∧ 0 ≤ i64.wrap ((v_0.2.stack.length : Int) - 1) ∧ i64.wrap ((v_0.2.stack.length : Int) - 1) ≤ (v_0.2.stack.length : Int)) (
 y5 (0 < Int.toNat (v_0.2.stack.length : Int) - Int.toNat (i64.wrap ((v_0.2.stack.length : Int) - 1))) (
 q9 (idx (List.take (Int.toNat (v_0.2.stack.length : Int) - Int.toNat (i64.wrap ((v_0.2.stack.length : Int) - 1))) (List.drop (Int.toNat (i64.wrap ((v_0.2.stack.length : Int) - 1))) v_0.2.stack)) 0) (fun xv_1 =>
 (if (xv_1 == 0) = true then some (⟨v_0.2.r, (List.take (Int.toNat (i64.wrap ((v_0.2.stack.length : Int) - 1))) v_0.2.stack), v_0.2.out, xv_0.N, v_0.2.bad⟩ : GProg_machine)
 else some (⟨v_0.2.r, (List.take (Int.toNat (i64.wrap ((v_0.2.stack.length : Int) - 1))) v_0.2.stack), v_0.2.out, v_0.2.at_, v_0.2.bad⟩ : GProg_machine)))))))
 else (if (xv_0.Op == 16) = true then (if (decide ((i64.wrap ((v_0.2.stack.length : Int) - 2)) < 0)) = true then some (⟨v_0.2.r, v_0.2.stack, v_0.2.out, v_0.2.at_, 1⟩ : GProg_machine)
 else y5 (0 ≤ i64.wrap ((v_0.2.stack.length : Int) - 2) ∧ i64.wrap ((v_0.2.stack.length : Int) - 2) ≤ (v_0.2.stack.length : Int) ∧ (v_0.2.stack.length : Int) ≤ (v_0.2.stack.length : Int) ∧ (v_0.2.stack.length : Int) ≤ (v_0.2.stack.length : Int)) (
 y5 (0 ≤ 0 ∧ 0 ≤ i64.wrap ((v_0.2.stack.length : Int) - 2) ∧ i64.wrap ((v_0.2.stack.length : Int) - 2) ≤ (v_0.2.stack.length : Int)) (
 y5 (0 < Int.toNat (v_0.2.stack.length : Int) - Int.toNat (i64.wrap ((v_0.2.stack.length : Int) - 2))) (
 (if ((v_0.2.out.length : Int) == 8) = true then some (⟨v_0.2.r, (List.take (Int.toNat (i64.wrap ((v_0.2.stack.length : Int) - 2))) v_0.2.stack), v_0.2.out, v_0.2.at_, 5⟩ : GProg_machine)
 else q9 (idx (List.take (Int.toNat (v_0.2.stack.length : Int) - Int.toNat (i64.wrap ((v_0.2.stack.length : Int) - 2))) (List.drop (Int.toNat (i64.wrap ((v_0.2.stack.length : Int) - 2))) v_0.2.stack)) 0) (fun xv_2 =>
 q9 (idx (List.take (Int.toNat (v_0.2.stack.length : Int) - Int.toNat (i64.wrap ((v_0.2.stack.length : Int) - 2))) (List.drop (Int.toNat (i64.wrap ((v_0.2.stack.length : Int) - 2))) v_0.2.stack)) 1) (fun xv_3 =>
 y5 ((v_0.2.out.length + List.length ([(⟨xv_2, xv_3⟩ : GRec)] : List GRec)) * 16 ≤ 140737488355328) (
 some (⟨v_0.2.r, (List.take (Int.toNat (i64.wrap ((v_0.2.stack.length : Int) - 2))) v_0.2.stack), (v_0.2.out ++ ([(⟨xv_2, xv_3⟩ : GRec)] : List GRec)), v_0.2.at_, v_0.2.bad⟩ : GProg_machine)))))))))
 else (if (decide ((i64.wrap ((v_0.2.stack.length : Int) - 2)) < 0)) = true then some (⟨v_0.2.r, v_0.2.stack, v_0.2.out, v_0.2.at_, 1⟩ : GProg_machine)
 else y5 (0 ≤ i64.wrap ((v_0.2.stack.length : Int) - 2) ∧ i64.wrap ((v_0.2.stack.length : Int) - 2) ≤ (v_0.2.stack.length : Int) ∧ (v_0.2.stack.length : Int) ≤ (v_0.2.stack.length : Int) ∧ (v_0.2.stack.length : Int) ≤ (v_0.2.stack.length : Int)) (
 y5 (0 ≤ 0 ∧ 0 ≤ i64.wrap ((v_0.2.stack.length : Int) - 2) ∧ i64.wrap ((v_0.2.stack.length : Int) - 2) ≤ (v_0.2.stack.length : Int)) (
 y5 (0 < Int.toNat (v_0.2.stack.length : Int) - Int.toNat (i64.wrap ((v_0.2.stack.length : Int) - 2))) (
 q9 (idx (List.take (Int.toNat (v_0.2.stack.length : Int) - Int.toNat (i64.wrap ((v_0.2.stack.length : Int) - 2))) (List.drop (Int.toNat (i64.wrap ((v_0.2.stack.length : Int) - 2))) v_0.2.stack)) 0) (fun xv_4 =>
 q9 (idx (List.take (Int.toNat (v_0.2.stack.length : Int) - Int.toNat (i64.wrap ((v_0.2.stack.length : Int) - 2))) (List.drop (Int.toNat (i64.wrap ((v_0.2.stack.length : Int) - 2))) v_0.2.stack)) 1) (fun xv_5 =>
 q9 (z4n xv_0.Op xv_4 xv_5) (fun v_1 =>
 q9 (q08 (⟨v_0.2.r, (List.take (Int.toNat (i64.wrap ((v_0.2.stack.length : Int) - 2))) v_0.2.stack), v_0.2.out, v_0.2.at_, v_1.2⟩ : GProg_machine) v_1.1) (fun v_2 =>
 some v_2)))))))))))))
theorem qm2 (mv_0 : GProg_machine) (xv_0 : GIns)  (r : GProg_machine) (h : q5t mv_0 xv_0 = some r) : DetS pp 152 [.ptr 0 0, .agg (Row.row xv_0)] [(0, .box [.v (.int .i64 mv_0.r.K), .v (.int .i64 mv_0.r.V), .osl 1 1 (0) (mv_0.stack.length), .osl 2 2 (0) (mv_0.out.length), .v (.int .i64 mv_0.at_), .v (.int .i64 mv_0.bad)]), (1, .arr 1 (enc mv_0.stack)), (2, .arr 2 (enc mv_0.out))] 3 (.tup []) [(0, .box [.v (.int .i64 r.r.K), .v (.int .i64 r.r.V), .osl 3 1 (0) (r.stack.length), .osl 4 2 (0) (r.out.length), .v (.int .i64 r.at_), .v (.int .i64 r.bad)]), (3, .arr 1 (enc r.stack)), (4, .arr 2 (enc r.out))] 5 := by
 refine dtI Tryz.func152 rfl ?_; rw [q5t] at h; have F := trivial; refine sM ?_; refine sM ?_; refine sg fun _ Q3 => ?_; refine sg fun _ Q4 => ?_; obtain ⟨v_0, ev_0, h⟩ := z8 h; simp only [go_sem]; refine q0c [0, 1, 2] (qk5 (⟨mv_0.r, mv_0.stack, mv_0.out, i64.wrap (mv_0.at_ + 1), mv_0.bad⟩ : GProg_machine) xv_0 v_0 ev_0) ?_; simp only [go_sem]; refine q8 Q4 (sB h (fun _ h => ?_) fun _ h => ?_)
 · exact au
 ·
  refine j4 (q8 Q3 (sM ?_)); refine j3 fun _ Q6 => ?_; refine sM ?_; refine sB h (fun _ h => ?_) fun _ h => ?_
  · exact au
  ·
   refine sM ?_; refine sB h (fun _ h => ?_) fun _ h => ?_
   ·
    refine sg fun _ Q9 => ?_; simp only [go_sem]; refine q4g Tryz.func160 rfl (by kernel_rfl) (by kernel_rfl) ?_; refine sM ?_; refine sM ?_; refine sg fun _ Q12 => ?_; refine sM ?_; refine sB h (fun _ h => ?_) fun _ h => ?_
    ·
     refine sM ?_; refine sM ?_; refine q00 (q0k Q12 ?_); simp only [go_sem]; refine q0u [] [(0, .box [.v (.int .i64 v_0.2.r.K), .v (.int .i64 v_0.2.r.V), .osl 4 1 (0) (v_0.2.stack.length), .osl 5 2 (0) (v_0.2.out.length), .v (.int .i64 v_0.2.at_), .v (.int .i64 1)]), (3, .box (Row.row xv_0)), (4, .arr 1 (enc v_0.2.stack)), (5, .arr 2 (enc v_0.2.out))] 6 (.v (.slice none 0 0)) ?_ ?_
     · exact leA
     refine q17 ?_; simp only [go_sem]; exact au
    ·
     refine j4 (q8 Q12 (sg fun _ Q17 => ?_)); refine x9 ?_; refine j83 ?_; obtain ⟨F, h⟩ := bG F h; simp only [go_sem, F]; refine q8 Q17 (sg fun _ Q18 => ?_); obtain ⟨F, h⟩ := bG F h; simp only [go_sem, F]; refine q8 Q18 (sM ?_); refine q00 ?_; simp only [go_sem]; refine q0u [] [(0, .box [.v (.int .i64 v_0.2.r.K), .v (.int .i64 v_0.2.r.V), .osl 4 1 (0) (Int.toNat (i64.wrap ((v_0.2.stack.length : Int) - 1))), .osl 5 2 (0) (v_0.2.out.length), .v (.int .i64 v_0.2.at_), .v (.int .i64 v_0.2.bad)]), (3, .box (Row.row xv_0)), (4, .arr 1 (enc v_0.2.stack)), (5, .arr 2 (enc v_0.2.out))] 6 (.osl 4 1 (Int.toNat (i64.wrap ((v_0.2.stack.length : Int) - 1))) (Int.toNat (v_0.2.stack.length : Int) - Int.toNat (i64.wrap ((v_0.2.stack.length : Int) - 1)))) ?_ ?_
     · exact leA
     refine q17 ?_; simp only [go_sem]; refine q8 Q9 (sg fun _ Q20 => ?_); obtain ⟨F, h⟩ := bG F h; obtain ⟨xv_1, ex1, h⟩ := z8 h; obtain ⟨f1a, f1b, f1c, fxv_1d⟩ := ql5 ex1; simp only [Int.toNat_natCast, Int.reduceToNat, Nat.zero_add, Nat.add_zero] at f1c fxv_1d; simp only [go_sem, f1a, f1b, f1c, fxv_1d, F]; refine ai ?_; refine ai ?_; exact au
   ·
    refine sM ?_; refine sB h (fun _ h => ?_) fun _ h => ?_
    ·
     refine sg fun _ Q22 => ?_; simp only [go_sem]; refine q4g Tryz.func160 rfl (by kernel_rfl) (by kernel_rfl) ?_; refine sM ?_; refine sM ?_; refine sg fun _ Q25 => ?_; refine sM ?_; refine sB h (fun _ h => ?_) fun _ h => ?_
     ·
      refine sM ?_; refine sM ?_; refine q00 (q0k Q25 ?_); simp only [go_sem]; refine q0u [] [(0, .box [.v (.int .i64 v_0.2.r.K), .v (.int .i64 v_0.2.r.V), .osl 4 1 (0) (v_0.2.stack.length), .osl 5 2 (0) (v_0.2.out.length), .v (.int .i64 v_0.2.at_), .v (.int .i64 1)]), (3, .box (Row.row xv_0)), (4, .arr 1 (enc v_0.2.stack)), (5, .arr 2 (enc v_0.2.out))] 6 (.v (.slice none 0 0)) ?_ ?_
      · exact leA
      refine q17 ?_; simp only [go_sem]; exact au
     ·
      refine j4 (q8 Q25 (sg fun _ Q31 => ?_)); refine x9 ?_; refine j83 ?_; obtain ⟨F, h⟩ := bG F h; simp only [go_sem, F]; refine q8 Q31 (sg fun _ Q32 => ?_); obtain ⟨F, h⟩ := bG F h; simp only [go_sem, F]; refine q8 Q32 (sM ?_); refine q00 ?_; simp only [go_sem]; refine q0u [] [(0, .box [.v (.int .i64 v_0.2.r.K), .v (.int .i64 v_0.2.r.V), .osl 4 1 (0) (Int.toNat (i64.wrap ((v_0.2.stack.length : Int) - 2))), .osl 5 2 (0) (v_0.2.out.length), .v (.int .i64 v_0.2.at_), .v (.int .i64 v_0.2.bad)]), (3, .box (Row.row xv_0)), (4, .arr 1 (enc v_0.2.stack)), (5, .arr 2 (enc v_0.2.out))] 6 (.osl 4 1 (Int.toNat (i64.wrap ((v_0.2.stack.length : Int) - 2))) (Int.toNat (v_0.2.stack.length : Int) - Int.toNat (i64.wrap ((v_0.2.stack.length : Int) - 2)))) ?_ ?_
      · exact leA
      refine q17 ?_; simp only [go_sem]; refine q8 Q22 (j3 fun _ Q34 => ?_); refine sg fun _ Q35 => ?_; obtain ⟨F, h⟩ := bG F h; simp only [go_sem, F]; refine ai ?_; refine q8 Q35 (j9o ?_); refine sM ?_; refine sB h (fun _ h => ?_) fun _ h => ?_
      · exact au
      ·
       refine x9 ?_; refine q27 14 0 0 [0, 0, 2, 6, 14, 0, 32, 96, 0, 256, 768, 2016, 4064, 8190, 16383, 32767, 65535] [5, 6] [0] [] [13] [] mixed (by kernel_rfl) (of_decide_eq_true (by kernel_rfl)) (by kernel_rfl) (by kernel_rfl) (by rfl) ?_; obtain ⟨xv_2, ex2, h⟩ := z8 h; obtain ⟨f2a, f2b, f2c, fxv_2d⟩ := ql5 ex2; simp only [Int.toNat_natCast, Int.reduceToNat, Nat.zero_add, Nat.add_zero] at f2c fxv_2d; obtain ⟨xv_3, ex3, h⟩ := z8 h; obtain ⟨f3a, f3b, f3c, fxv_3d⟩ := ql5 ex3; simp only [Int.toNat_natCast, Int.reduceToNat, Nat.zero_add, Nat.add_zero] at f3c fxv_3d; have rf_0 : [[.v (.int .i64 xv_2), .v (.int .i64 xv_3)]] = enc ([(⟨xv_2, xv_3⟩ : GRec)] : List GRec) := by rfl
       obtain ⟨g_6, h⟩ := q02 h; have F := And.intro F g_6; simp only [List.length_cons, List.length_nil, Nat.zero_add, List.length_append] at g_6; have rf_1 : enc v_0.2.out ++ [[.v (.int .i64 xv_2), .v (.int .i64 xv_3)]] = enc (v_0.2.out ++ ([(⟨xv_2, xv_3⟩ : GRec)] : List GRec)) := by exact (q19 v_0.2.out ([(⟨xv_2, xv_3⟩ : GRec)] : List GRec)).symm
       simp only [go_sem, f2a, f2b, f2c, fxv_2d, f3a, f3b, f3c, fxv_3d, g_6, rf_1]; refine ai ?_; refine ai ?_; simp only [rf_0]; exact au
    ·
     refine sg fun _ Q37 => ?_; simp only [go_sem]; refine q4g Tryz.func160 rfl (by kernel_rfl) (by kernel_rfl) ?_; refine sM ?_; refine sM ?_; refine sg fun _ Q40 => ?_; refine sM ?_; refine sB h (fun _ h => ?_) fun _ h => ?_
     ·
      refine sM ?_; refine sM ?_; refine q00 (q0k Q40 ?_); simp only [go_sem]; refine q0u [] [(0, .box [.v (.int .i64 v_0.2.r.K), .v (.int .i64 v_0.2.r.V), .osl 4 1 (0) (v_0.2.stack.length), .osl 5 2 (0) (v_0.2.out.length), .v (.int .i64 v_0.2.at_), .v (.int .i64 1)]), (3, .box (Row.row xv_0)), (4, .arr 1 (enc v_0.2.stack)), (5, .arr 2 (enc v_0.2.out))] 6 (.v (.slice none 0 0)) ?_ ?_
      · exact leA
      refine q17 ?_; simp only [go_sem]; exact au
     ·
      refine j4 (q8 Q40 (sg fun _ Q45 => ?_)); refine x9 ?_; refine j83 ?_; obtain ⟨F, h⟩ := bG F h; simp only [go_sem, F]; refine q8 Q45 (sg fun _ Q46 => ?_); obtain ⟨F, h⟩ := bG F h; simp only [go_sem, F]; refine q8 Q46 (sM ?_); refine q00 ?_; simp only [go_sem]; refine q0u [] [(0, .box [.v (.int .i64 v_0.2.r.K), .v (.int .i64 v_0.2.r.V), .osl 4 1 (0) (Int.toNat (i64.wrap ((v_0.2.stack.length : Int) - 2))), .osl 5 2 (0) (v_0.2.out.length), .v (.int .i64 v_0.2.at_), .v (.int .i64 v_0.2.bad)]), (3, .box (Row.row xv_0)), (4, .arr 1 (enc v_0.2.stack)), (5, .arr 2 (enc v_0.2.out))] 6 (.osl 4 1 (Int.toNat (i64.wrap ((v_0.2.stack.length : Int) - 2))) (Int.toNat (v_0.2.stack.length : Int) - Int.toNat (i64.wrap ((v_0.2.stack.length : Int) - 2)))) ?_ ?_
      · exact leA
      refine q17 ?_; simp only [go_sem]; refine q8 Q37 (sg fun _ Q48 => ?_); obtain ⟨F, h⟩ := bG F h; simp only [go_sem, F]; refine ai ?_; refine q8 Q48 (j9n ?_); refine sg fun _ Q49 => ?_; refine x9 ?_; refine j83 ?_; obtain ⟨xv_4, ex4, h⟩ := z8 h; obtain ⟨f4a, f4b, f4c, fxv_4d⟩ := ql5 ex4; simp only [Int.toNat_natCast, Int.reduceToNat, Nat.zero_add, Nat.add_zero] at f4c fxv_4d; obtain ⟨xv_5, ex5, h⟩ := z8 h; obtain ⟨f5a, f5b, f5c, fxv_5d⟩ := ql5 ex5; simp only [Int.toNat_natCast, Int.reduceToNat, Nat.zero_add, Nat.add_zero] at f5c fxv_5d; obtain ⟨v_1, ev_1, h⟩ := z8 h; simp only [go_sem, f4a, f4b, f4c, fxv_4d, f5a, f5b, f5c, fxv_5d]; refine ai ?_; refine ai ?_; refine callq (fun _ => (ze9 xv_0.Op xv_4 xv_5 v_1 ev_1)) (by rfl) (by rfl) ?_; simp only [go_sem]; refine q8 Q49 (sM ?_); obtain ⟨v_2, ev_2, h⟩ := z8 h; simp only [go_sem]; refine qc8 [] ([], [(0, .box [.v (.int .i64 v_0.2.r.K), .v (.int .i64 v_0.2.r.V), .osl 4 1 (0) (List.length (List.take (Int.toNat (i64.wrap ((v_0.2.stack.length : Int) - 2))) v_0.2.stack)), .osl 5 2 (0) (v_0.2.out.length), .v (.int .i64 v_0.2.at_), .v (.int .i64 v_1.2)]), (3, .box (Row.row xv_0)), (4, .arr 1 (enc (List.take (Int.toNat (i64.wrap ((v_0.2.stack.length : Int) - 2))) v_0.2.stack))), (5, .arr 2 (enc v_0.2.out))]) 6 [some 3, some 4, some 5] [.ptr 0 0, .v (.int .i64 v_1.1)] ?_; refine q0c [0, 4, 5] (q0d (⟨v_0.2.r, (List.take (Int.toNat (i64.wrap ((v_0.2.stack.length : Int) - 2))) v_0.2.stack), v_0.2.out, v_0.2.at_, v_1.2⟩ : GProg_machine) v_1.1 v_2 ev_2) ?_; simp only [go_sem]; exact au
def qr1 (rv_0 : GRec) (b_8 : Int) (b_9 : Int) (b_10 : Int) (b_11 : Int) (a_4 : List Int) (a_5 : List GRec) : Option ((List GRec) × Int) :=
 (if (!(b_11 == 0)) = true then some (([(⟨rv_0.K, i64.wrap ((-9223372036854775808) + b_11)⟩ : GRec)] : List GRec), b_11)
 else some (a_5, 0))
def z5f (p_0 : List GIns) (rv_0 : GRec) (rec_2 : Int × Int × Int × Int × Int × (List Int) × (List GRec) → Option ((List GRec) × Int)) : Int × Int × Int × Int × Int × (List Int) × (List GRec) → Option ((List GRec) × Int) :=
 fun (fuel_3, b_16, b_17, b_18, b_19, a_8, a_9) =>
 (if ((decide (b_18 < (p_0.length : Int))) && (b_19 == 0)) = true then (if (fuel_3 == 0) = true then qr1 rv_0 b_16 b_17 b_18 4 a_8 a_9
 else q9 (idx p_0 b_18) (fun xv_5 =>
 q9 (q5t (⟨(⟨b_16, b_17⟩ : GRec), a_8, a_9, b_18, b_19⟩ : GProg_machine) xv_5) (fun v_6 =>
 rec_2 (i64.wrap (fuel_3 - 1), v_6.r.K, v_6.r.V, v_6.at_, v_6.bad, v_6.stack, v_6.out))))
 else qr1 rv_0 b_16 b_17 b_18 b_19 a_8 a_9)
def z4o (p_0 : List GIns) (rv_0 : GRec) : Option ((List GRec) × Int) :=
 q9 (qe5 p_0) (fun v_0 =>
 (if (!v_0) = true then some (([] : List GRec), 0)
 else w9 (z5f p_0 rv_0) rounds (256, rv_0.K, rv_0.V, 0, 0, [], [])))
instance j5v (p_0 : List GIns) (rv_0 : GRec) : Ct pp 142 (z4o p_0 rv_0) [.sl 2 (enc p_0), .agg (Row.row rv_0)] fun r => (.tup [.sl 2 (enc r.1), .v (.int .i64 r.2)]) := ctK Tryz.func142 rfl (by rw [z4o]) (by
 intro r h F; refine sM ?_; refine sg fun _ Q2 => ?_; refine sg fun _ Q3 => ?_; simp only [go_sem]; refine q15 h fun v_0 h => ?_; simp only [go_sem]; refine q8 Q3 (sB h (fun _ h => ?_) fun _ h => ?_)
 · exact au
 ·
  refine j4 (q8 Q2 (sM ?_)); refine q14 (fun ((b_8, b_9, b_10, b_11, a_4, a_5) : Int × Int × Int × Int × (List Int) × (List GRec)) => qr1 rv_0 b_8 b_9 b_10 b_11 a_4 a_5 = some r) [3, 6] (fun x => ([], [(0, .box (Row.row rv_0)), (1, .box [.v (.int .i64 x.1), .v (.int .i64 x.2.1), .osl 2 1 (0) (x.2.2.2.2.1.length), .osl 3 2 (0) (x.2.2.2.2.2.length), .v (.int .i64 x.2.2.1), .v (.int .i64 x.2.2.2.1)]), (2, .arr 1 (enc x.2.2.2.2.1)), (3, .arr 2 (enc x.2.2.2.2.2))])) 4 ?_ ?_
  ·
   intro _ Q10; refine sM ?_; refine j3 fun _ Q12 => ?_; refine u6 h [0, 3, 6] (fun x => ([(7, .v (.int .i64 x.1))], [(0, .box (Row.row rv_0)), (1, .box [.v (.int .i64 x.2.1), .v (.int .i64 x.2.2.1), .osl 2 1 (0) (x.2.2.2.2.2.1.length), .osl 3 2 (0) (x.2.2.2.2.2.2.length), .v (.int .i64 x.2.2.2.1), .v (.int .i64 x.2.2.2.2.1)]), (2, .arr 1 (enc x.2.2.2.2.2.1)), (3, .arr 2 (enc x.2.2.2.2.2.2))])) 4 ?_; rintro m_2 ⟨fuel_3, b_16, b_17, b_18, b_19, a_8, a_9⟩ h _ Q13; rw [z5f] at h; refine sg fun _ Q14 => ?_; refine sM ?_; refine sB h (fun _ h => ?_) fun _ h => ?_
   ·
    refine j4 (q8 Q14 (sg fun _ Q16 => ?_)); refine j3 fun _ Q17 => ?_; refine sg fun _ Q18 => ?_; refine sM ?_; refine sB h (fun _ h => ?_) fun _ h => ?_
    · exact au
    · refine j4 (q8 Q18 ?_); obtain ⟨xv_5, F, h⟩ := bI F h; obtain ⟨v_6, ev_6, h⟩ := z8 h; simp only [go_sem, F]; refine ai ?_; refine q0c [1, 2, 3] (qm2 (⟨(⟨b_16, b_17⟩ : GRec), a_8, a_9, b_18, b_19⟩ : GProg_machine) xv_5 v_6 ev_6) ?_; simp only [go_sem]; exact au
   · exact au
  ·
   rintro ⟨b_8, b_9, b_10, b_11, a_4, a_5⟩ h
   try dsimp only at h
   rw [qr1] at h; refine sg fun _ Q6 => ?_; refine sM ?_; refine sB h (fun _ h => ?_) fun _ h => ?_
   ·
    refine sg fun _ Q8 => ?_; refine x9 ?_; refine j83 ?_; have rf_0 : [[.v (.int .i64 rv_0.K), .v (.int .i64 (i64.wrap ((-9223372036854775808) + b_11)))]] = enc ([(⟨rv_0.K, i64.wrap ((-9223372036854775808) + b_11)⟩ : GRec)] : List GRec) := by rfl
    simp only [go_sem]; simp only [rf_0]; exact au
   · exact au)
def qy5 (k_0 : Int) : Option GRec :=
 some (⟨k_0, -9223372036854775806⟩ : GRec)
instance j53 (k_0 : Int) : Ct pp 143 (qy5 k_0) [.v (.int .i64 k_0)] fun r => (.agg (Row.row r)) := ctI Tryz.func143 rfl (by rw [qy5]; exact au1)
def z0r (k_0 : Int) (a_0 : Int) (b_0 : Int) : Option GRec :=
 (if (((decide (a_0 < 0)) == (decide (b_0 < 0))) && (!((decide ((i64.wrap (a_0 + b_0)) < 0)) == (decide (a_0 < 0))))) = true then q9 (qy5 k_0) (fun v_0 =>
 some v_0)
 else some (⟨k_0, i64.wrap (a_0 + b_0)⟩ : GRec))
instance zf0 (k_0 : Int) (a_0 : Int) (b_0 : Int) : Ct pp 119 (z0r k_0 a_0 b_0) [.v (.int .i64 k_0), .v (.int .i64 a_0), .v (.int .i64 b_0)] fun r => (.agg (Row.row r)) := ctI Tryz.func119 rfl (by rw [z0r]; exact au1)
def z1h (xv_0 : GNode) (rv_0 : GRec) : Option (List GRec) :=
 (if (xv_0.Kind == 2) = true then q9 (z4o xv_0.Prog rv_0) (fun v_0 =>
 some v_0.1)
 else (if (xv_0.Kind == 3) = true then q9 (z0r rv_0.K rv_0.V xv_0.Arg) (fun v_1 =>
 some ([v_1] : List GRec))
 else (if (xv_0.Kind == 4) = true then (if (decide (xv_0.Arg < 1)) = true then some ([] : List GRec)
 else y5 (xv_0.Arg ≠ 0) (
 (if (!((Int.tmod rv_0.V xv_0.Arg) == 0)) = true then some ([] : List GRec)
 else some ([rv_0] : List GRec))))
 else some ([rv_0] : List GRec))))
instance j3n (xv_0 : GNode) (rv_0 : GRec) : Ct pp 116 (z1h xv_0 rv_0) [.agg (Row.row xv_0), .agg (Row.row rv_0)] fun r => (.sl 2 (enc r)) := ctK Tryz.func116 rfl (by rw [z1h]) (by
 intro r h F; refine sM ?_; refine jg fun _ Q2 => ?_; refine sM ?_; refine j3 fun _ Q4 => ?_; refine sM ?_; refine sB h (fun _ h => ?_) fun _ h => ?_
 · exact au
 ·
  refine sM ?_; refine sB h (fun _ h => ?_) fun _ h => ?_
  ·
   refine sg fun _ Q9 => ?_; simp only [go_sem]; refine q15 h fun v_1 h => ?_; have rf_0 : [[.v (.int .i64 v_1.K), .v (.int .i64 v_1.V)]] = enc ([v_1] : List GRec) := by rfl
   simp only [go_sem]; simp only [rf_0]; exact au
  ·
   refine sM ?_; refine sB h (fun _ h => ?_) fun _ h => ?_
   ·
    refine sg fun _ Q11 => ?_; simp only [go_sem]; rcases hb_3 : (decide (xv_0.Arg < 1)) with _ | _
    ·
     replace h := q23 h hb_3; obtain ⟨F, h⟩ := bG F h; simp only [go_sem, hb_3, F]; refine q8 Q11 (sB h (fun _ h => ?_) fun _ h => ?_)
     · exact au
     ·
      refine j4 (d9 Q4 (q8 Q2 (sg fun _ Q13 => ?_))); have rf_1 : [[.v (.int .i64 rv_0.K), .v (.int .i64 rv_0.V)]] = enc ([rv_0] : List GRec) := by rfl
      simp only [go_sem]; simp only [rf_1]; exact au
    · replace h := q21 h hb_3; simp only [go_sem, hb_3]; exact au
   ·
    refine j4 (d9 Q4 (q8 Q2 (sg fun _ Q15 => ?_))); have rf_2 : [[.v (.int .i64 rv_0.K), .v (.int .i64 rv_0.V)]] = enc ([rv_0] : List GRec) := by rfl
    simp only [go_sem]; simp only [rf_2]; exact au)
def q25 (mv_0 : GOps_maker) (rv_0 : GRec) (nv_0 : Int) : Option (Bool × GOps_maker) :=
 (if (decide ((i64.wrap (65536 - mv_0.many)) < nv_0)) = true then some (false, mv_0)
 else y5 ((mv_0.out.length + List.length ([(⟨rv_0, nv_0⟩ : GItem)] : List GItem)) * 24 ≤ 140737488355328) (
 some (true, (⟨(mv_0.out ++ ([(⟨rv_0, nv_0⟩ : GItem)] : List GItem)), i64.wrap (mv_0.many + nv_0)⟩ : GOps_maker))))
theorem q2e (mv_0 : GOps_maker) (rv_0 : GRec) (nv_0 : Int)  (r : Bool × GOps_maker) (h : q25 mv_0 rv_0 nv_0 = some r) : DetS pp 92 [.ptr 0 0, .agg (Row.row rv_0), .v (.int .i64 nv_0)] [(0, .box [.osl 1 3 (0) (mv_0.out.length), .v (.int .i64 mv_0.many)]), (1, .arr 3 (enc mv_0.out))] 2 (.v (.bool r.1)) [(0, .box [.osl 2 3 (0) (r.2.out.length), .v (.int .i64 r.2.many)]), (2, .arr 3 (enc r.2.out))] 3 := by
 refine dtI Tryz.func92 rfl ?_; rw [q25] at h; have F := trivial; refine sM ?_; refine sg fun _ Q2 => ?_; refine sM ?_; refine sB h (fun _ h => ?_) fun _ h => ?_
 · exact au
 ·
  refine j4 (q8 Q2 (sM ?_)); refine sg fun _ Q6 => ?_; refine x9 ?_; refine q27 10 0 0 [0, 0, 2, 6, 14, 0, 0, 96, 224, 510, 1023, 2047, 4095] [1, 3] [0] [] [9] [] mixed (by kernel_rfl) (of_decide_eq_true (by kernel_rfl)) (by kernel_rfl) (by kernel_rfl) (by rfl) ?_; have rf_0 : [[.v (.int .i64 rv_0.K), .v (.int .i64 rv_0.V), .v (.int .i64 nv_0)]] = enc ([(⟨rv_0, nv_0⟩ : GItem)] : List GItem) := by rfl
  obtain ⟨g_0, h⟩ := q02 h; have F := And.intro F g_0; simp only [List.length_cons, List.length_nil, Nat.zero_add, List.length_append] at g_0; have rf_1 : enc mv_0.out ++ [[.v (.int .i64 rv_0.K), .v (.int .i64 rv_0.V), .v (.int .i64 nv_0)]] = enc (mv_0.out ++ ([(⟨rv_0, nv_0⟩ : GItem)] : List GItem)) := by exact (q19 mv_0.out ([(⟨rv_0, nv_0⟩ : GItem)] : List GItem)).symm
  simp only [go_sem, g_0, rf_1]; simp only [rf_0]; exact au
def qc0 (t13_1 : Int) (rec_1 : (Int × Int × (List GItem) → Option (Bool × GOps_maker))) (xv_9 : GItem) (v_8 : List GRec) (rec_2 : Int × Int × (List GItem) → Option (Bool × GOps_maker)) : Int × Int × (List GItem) → Option (Bool × GOps_maker) :=
 fun (t22_5, b_8, a_7) =>
 (if (decide (t22_5 < (v_8.length : Int))) = true then q9 (idx v_8 t22_5) (fun xv_12 =>
 q9 (q25 (⟨a_7, b_8⟩ : GOps_maker) xv_12 xv_9.N) (fun v_11 =>
 (if (!v_11.1) = true then some (false, v_11.2)
 else rec_2 (i64.wrap (t22_5 + 1), v_11.2.many, v_11.2.out))))
 else rec_1 (i64.wrap (t13_1 + 1), b_8, a_7))
def qc7 (xv_0 : GNode) (b_0 : List GItem) (rec_1 : Int × Int × (List GItem) → Option (Bool × GOps_maker)) : Int × Int × (List GItem) → Option (Bool × GOps_maker) :=
 fun (t13_1, b_6, a_5) =>
 (if (decide (t13_1 < (b_0.length : Int))) = true then q9 (idx b_0 t13_1) (fun xv_9 =>
 q9 (z1h xv_0 xv_9.Rec) (fun v_8 =>
 w9 (qc0 t13_1 rec_1 xv_9 v_8) rounds (0, b_6, a_5)))
 else some (true, (⟨a_5, b_6⟩ : GOps_maker)))
def q3h (mv_0 : GOps_maker) (xv_0 : GNode) (b_0 : List GItem) : Option (Bool × GOps_maker) :=
 w9 (qc7 xv_0 b_0) rounds (0, mv_0.many, mv_0.out)
theorem q6c (mv_0 : GOps_maker) (xv_0 : GNode) (b_0 : List GItem)  (r : Bool × GOps_maker) (h : q3h mv_0 xv_0 b_0 = some r) : DetS pp 90 [.ptr 0 0, .agg (Row.row xv_0), .sl 3 (enc b_0)] [(0, .box [.osl 1 3 (0) (mv_0.out.length), .v (.int .i64 mv_0.many)]), (1, .arr 3 (enc mv_0.out))] 2 (.v (.bool r.1)) [(0, .box [.osl 2 3 (0) (r.2.out.length), .v (.int .i64 r.2.many)]), (2, .arr 3 (enc r.2.out))] 3 := by
 refine dtI Tryz.func90 rfl ?_; rw [q3h] at h; have F := trivial; refine sM ?_; refine jg fun _ Q2 => ?_; refine sM ?_; refine j3 fun _ Q4 => ?_; refine u6 h [0, 4, 11, 12] (fun x => ([(13, .v (.int .i64 x.1))], [(0, .box [.osl 3 3 (0) (x.2.2.length), .v (.int .i64 x.2.1)]), (2, .box (Row.row xv_0)), (3, .arr 3 (enc x.2.2))])) 4 ?_; rintro m_1 ⟨t13_1, b_6, a_5⟩ h _ Q5; rw [qc7] at h; refine sM ?_; refine sg fun _ Q7 => ?_; refine sB h (fun _ h => ?_) fun _ h => ?_
 ·
  refine j4 (q8 Q7 (jg fun _ Q8 => ?_)); refine j3 fun _ Q9 => ?_; refine sg fun _ Q10 => ?_; obtain ⟨xv_9, F, h⟩ := bI F h; simp only [go_sem, F]; refine ai ?_; refine q8 Q10 (sg fun _ Q11 => ?_); simp only [go_sem]; refine q15 h fun v_8 h => ?_; simp only [go_sem]; refine q8 Q11 (j3 fun _ Q12 => ?_); refine u6 h [0, 4, 11, 12, 13, 20, 21] (fun x => ([(8, .ptr 3 0), (22, .v (.int .i64 x.1))], [(0, .box [.osl 4 3 (0) (x.2.2.length), .v (.int .i64 x.2.1)]), (2, .box (Row.row xv_0)), (3, .box (Row.row xv_9)), (4, .arr 3 (enc x.2.2))])) 5 ?_; rintro m_2 ⟨t22_5, b_8, a_7⟩ h _ Q13; rw [qc0] at h; refine sM ?_; refine sg fun _ Q15 => ?_; refine sB h (fun _ h => ?_) fun _ h => ?_
  · refine j4 (q8 Q15 (sg fun _ Q16 => ?_)); refine j3 fun _ Q17 => ?_; refine sg fun _ Q18 => ?_; obtain ⟨xv_12, F, h⟩ := bI F h; simp only [go_sem, F]; refine ai ?_; refine q8 Q18 (sg fun _ Q19 => ?_); obtain ⟨v_11, ev_11, h⟩ := z8 h; simp only [go_sem]; refine q0c [0, 4] (q2e (⟨a_7, b_8⟩ : GOps_maker) xv_12 xv_9.N v_11 ev_11) ?_; simp only [go_sem]; exact au
  · exact au
 · exact au
def q2b (t4_0 : Bool) : Option Bool :=
 (if t4_0 = true then some true
 else some false)
def z1i (kind_0 : Int) : Option Bool :=
 (if (kind_0 == 1) = true then q2b (kind_0 == 1)
 else (if (kind_0 == 2) = true then q2b (kind_0 == 2)
 else (if (kind_0 == 3) = true then q2b (kind_0 == 3)
 else (if (kind_0 == 4) = true then q2b (kind_0 == 4)
 else (if (kind_0 == 5) = true then q2b (kind_0 == 5)
 else (if (kind_0 == 10) = true then q2b (kind_0 == 10)
 else (if (kind_0 == 11) = true then q2b (kind_0 == 11)
 else (if (kind_0 == 12) = true then q2b (kind_0 == 12)
 else (if (kind_0 == 13) = true then q2b (kind_0 == 13)
 else q2b (kind_0 == 15))))))))))
instance j3o (kind_0 : Int) : Ct pp 91 (z1i kind_0) [.v (.int .i64 kind_0)] fun r => (.v (.bool r)) := ctK Tryz.func91 rfl (by rw [z1i]) (by
 intro r h F; refine sM ?_; refine jg fun _ Q2 => ?_; refine sM ?_; refine j3 fun _ Q4 => ?_; refine q14 (fun (t4_0 : Bool) => q2b t4_0 = some r) [] (fun t4_0 => ([(4, .v (.bool t4_0))], [])) 0 ?_ ?_
 · intro _ Q7; exact au
 ·
  rintro t4_0 h
  try dsimp only at h
  rw [q2b] at h; exact au)
def qe9 (b_0 : List GItem) (xv_51 : GItem) (t13_5 : Int) (rec_3 : (Int × Int × (List GItem) → Option (Bool × GOps_maker))) (xv_60 : GItem) (rec_4 : Int × Int × (List GItem) → Option (Bool × GOps_maker)) : Int × Int × (List GItem) → Option (Bool × GOps_maker) :=
 fun (t19_17, b_26, a_26) =>
 (if (decide (t19_17 < (b_0.length : Int))) = true then q9 (idx b_0 t19_17) (fun xv_63 =>
 (if (!(xv_63.Rec.K == xv_51.Rec.K)) = true then rec_4 (i64.wrap (t19_17 + 1), b_26, a_26)
 else (if ((decide (65536 < xv_60.N)) || (decide (65536 < xv_63.N))) = true then some (false, (⟨a_26, b_26⟩ : GOps_maker))
 else q9 (z0r xv_51.Rec.K xv_60.Rec.V xv_63.Rec.V) (fun v_52 =>
 q9 (q25 (⟨a_26, b_26⟩ : GOps_maker) v_52 (i64.wrap (xv_60.N * xv_63.N))) (fun v_53 =>
 (if (!v_53.1) = true then some (false, v_53.2)
 else rec_4 (i64.wrap (t19_17 + 1), v_53.2.many, v_53.2.out)))))))
 else rec_3 (i64.wrap (t13_5 + 1), b_26, a_26))
def qf0 (a_0 : List GItem) (b_0 : List GItem) (fromv_1 : Int) (rec_1 : (Int × Int × (List GItem) → Option (Bool × GOps_maker))) (tov_12 : Int) (xv_51 : GItem) (rec_3 : Int × Int × (List GItem) → Option (Bool × GOps_maker)) : Int × Int × (List GItem) → Option (Bool × GOps_maker) :=
 fun (t13_5, b_24, a_24) =>
 (if (decide (t13_5 < (List.length (List.drop (fromv_1.toNat) (List.take (tov_12.toNat) a_0)) : Int))) = true then q9 (idx (List.drop (fromv_1.toNat) (List.take (tov_12.toNat) a_0)) t13_5) (fun xv_60 =>
 w9 (qe9 b_0 xv_51 t13_5 rec_3 xv_60) rounds (0, b_24, a_24))
 else rec_1 (tov_12, b_24, a_24))
def q54 (a_0 : List GItem) (b_0 : List GItem) (fromv_1 : Int) (b_18 : Int) (a_18 : List GItem) (rec_1 : (Int × Int × (List GItem) → Option (Bool × GOps_maker))) (tov_12 : Int) : Option (Bool × GOps_maker) :=
 q9 (idx a_0 fromv_1) (fun xv_51 =>
 y5 (0 ≤ fromv_1 ∧ fromv_1 ≤ tov_12 ∧ tov_12 ≤ (a_0.length : Int)) (
 w9 (qf0 a_0 b_0 fromv_1 rec_1 tov_12 xv_51) rounds (0, b_18, a_18)))
def qe8 (a_0 : List GItem) (b_0 : List GItem) (fromv_1 : Int) (b_18 : Int) (a_18 : List GItem) (rec_1 : (Int × Int × (List GItem) → Option (Bool × GOps_maker))) (rec_5 : Int → Option (Bool × GOps_maker)) : Int → Option (Bool × GOps_maker) :=
 fun tov_14 =>
 (if (decide (tov_14 < (a_0.length : Int))) = true then q9 (idx a_0 tov_14) (fun xv_67 =>
 q9 (idx a_0 fromv_1) (fun xv_68 =>
 (if (xv_67.Rec.K == xv_68.Rec.K) = true then rec_5 (i64.wrap (tov_14 + 1))
 else q54 a_0 b_0 fromv_1 b_18 a_18 rec_1 tov_14)))
 else q54 a_0 b_0 fromv_1 b_18 a_18 rec_1 tov_14)
def q7y (a_0 : List GItem) (b_0 : List GItem) (rec_1 : Int × Int × (List GItem) → Option (Bool × GOps_maker)) : Int × Int × (List GItem) → Option (Bool × GOps_maker) :=
 fun (fromv_1, b_18, a_18) =>
 (if (decide (fromv_1 < (a_0.length : Int))) = true then w9 (qe8 a_0 b_0 fromv_1 b_18 a_18 rec_1) rounds fromv_1
 else some (true, (⟨a_18, b_18⟩ : GOps_maker)))
def q9c (mv_0 : GOps_maker) (a_0 : List GItem) (b_0 : List GItem) : Option (Bool × GOps_maker) :=
 w9 (q7y a_0 b_0) rounds (0, mv_0.many, mv_0.out)
theorem qx3 (mv_0 : GOps_maker) (a_0 : List GItem) (b_0 : List GItem)  (r : Bool × GOps_maker) (h : q9c mv_0 a_0 b_0 = some r) : DetS pp 93 [.ptr 0 0, .sl 3 (enc a_0), .sl 3 (enc b_0)] [(0, .box [.osl 1 3 (0) (mv_0.out.length), .v (.int .i64 mv_0.many)]), (1, .arr 3 (enc mv_0.out))] 2 (.v (.bool r.1)) [(0, .box [.osl 2 3 (0) (r.2.out.length), .v (.int .i64 r.2.many)]), (2, .arr 3 (enc r.2.out))] 3 := by
 refine dtI Tryz.func93 rfl ?_; rw [q9c] at h; have F := trivial; refine sM ?_; refine sg fun _ Q2 => ?_; simp only [go_sem]; refine q4g Tryz.func117 rfl (by kernel_rfl) (by kernel_rfl) ?_; refine sM ?_; refine jg fun _ Q4 => ?_; refine sM ?_; refine j3 fun _ Q6 => ?_; refine u6 h [0, 1] (fun x => ([(5, .v (.int .i64 x.1))], [(0, .box [.osl 4 3 (0) (x.2.2.length), .v (.int .i64 x.2.1)]), (2, .box [.ptr 0 0]), (3, .box [.sl 3 (enc b_0)]), (4, .arr 3 (enc x.2.2))])) 5 ?_; rintro m_1 ⟨fromv_1, b_18, a_18⟩ h _ Q7; rw [q7y] at h; refine sg fun _ Q8 => ?_; refine sM ?_; refine sB h (fun _ h => ?_) fun _ h => ?_
 ·
  refine j4 (q8 Q8 (j3 fun _ Q10 => ?_)); refine sM ?_; refine q14 (fun (tov_12 : Int) => q54 a_0 b_0 fromv_1 b_18 a_18 (w9 (q7y a_0 b_0) m_1) tov_12 = some r) [0, 1, 5] (fun tov_12 => ([(6, .v (.int .i64 tov_12))], [(0, .box [.osl 4 3 (0) (a_18.length), .v (.int .i64 b_18)]), (2, .box [.ptr 0 0]), (3, .box [.sl 3 (enc b_0)]), (4, .arr 3 (enc a_18))])) 5 ?_ ?_
  ·
   intro _ Q40; refine j3 fun _ Q41 => ?_; refine u6 h [0, 1, 5] (fun tov_14 => ([(6, .v (.int .i64 tov_14))], [(0, .box [.osl 4 3 (0) (a_18.length), .v (.int .i64 b_18)]), (2, .box [.ptr 0 0]), (3, .box [.sl 3 (enc b_0)]), (4, .arr 3 (enc a_18))])) 5 ?_; rintro m_5 tov_14 h _ Q42; rw [qe8] at h; refine sg fun _ Q43 => ?_; refine sg fun _ Q44 => ?_; refine x9 ?_; refine j83 ?_; simp only [go_sem]; rcases hb_154 : (decide (tov_14 < (a_0.length : Int))) with _ | _
   · replace h := q23 h hb_154; simp only [go_sem, hb_154]; exact au
   · replace h := q21 h hb_154; obtain ⟨xv_67, F, h⟩ := bI F h; obtain ⟨xv_68, F, h⟩ := bI F h; simp only [go_sem, hb_154, F]; refine ai ?_; refine ai ?_; exact au
  ·
   rintro tov_12 h
   try dsimp only at h
   rw [q54] at h; refine sg fun _ Q12 => ?_; refine sg fun _ Q13 => ?_; refine x9 ?_; refine j83 ?_; obtain ⟨xv_51, F, h⟩ := bI F h; obtain ⟨F, h⟩ := bG F h; simp only [go_sem, F]; refine ai ?_; refine q4g Tryz.func118 rfl (by kernel_rfl) (by kernel_rfl) ?_; refine sM ?_; refine jg fun _ Q15 => ?_; refine sM ?_; refine j3 fun _ Q17 => ?_; refine u6 h [0, 2, 3, 11, 12] (fun x => ([(13, .v (.int .i64 x.1))], [(0, .box [.osl 5 3 (0) (x.2.2.length), .v (.int .i64 x.2.1)]), (2, .box [.ptr 0 0]), (3, .box [.sl 3 (enc b_0)]), (5, .arr 3 (enc x.2.2))])) 6 ?_; rintro m_3 ⟨t13_5, b_24, a_24⟩ h _ Q18; rw [qf0] at h; refine sM ?_; refine sg fun _ Q20 => ?_; refine sB h (fun _ h => ?_) fun _ h => ?_
   ·
    refine j4 (q8 Q20 (jg fun _ Q21 => ?_)); refine j3 fun _ Q22 => ?_; refine sg fun _ Q23 => ?_; obtain ⟨xv_60, F, h⟩ := bI F h; simp only [go_sem, F]; refine ai ?_; refine q8 Q23 (sM ?_); refine j3 fun _ Q25 => ?_; refine u6 h [0, 2, 3, 11, 12, 13, 17, 18] (fun x => ([(8, .ptr 5 0), (19, .v (.int .i64 x.1))], [(0, .box [.osl 6 3 (0) (x.2.2.length), .v (.int .i64 x.2.1)]), (2, .box [.ptr 0 0]), (3, .box [.sl 3 (enc b_0)]), (5, .box (Row.row xv_60)), (6, .arr 3 (enc x.2.2))])) 7 ?_; rintro m_4 ⟨t19_17, b_26, a_26⟩ h _ Q26; rw [qe9] at h; refine sM ?_; refine sg fun _ Q28 => ?_; refine sB h (fun _ h => ?_) fun _ h => ?_
    ·
     refine j4 (q8 Q28 (sg fun _ Q29 => ?_)); refine j3 fun _ Q30 => ?_; refine sg fun _ Q31 => ?_; obtain ⟨xv_63, F, h⟩ := bI F h; simp only [go_sem, F]; refine ai ?_; refine q8 Q31 (sg fun _ Q32 => ?_); refine sM ?_; refine sB h (fun _ h => ?_) fun _ h => ?_
     · exact au
     ·
      refine j4 (q8 Q32 (sg fun _ Q34 => ?_)); refine x9 ?_; refine j83 ?_; simp only [go_sem]; rcases hb_148 : ((decide (65536 < xv_60.N)) || (decide (65536 < xv_63.N))) with _ | _
      ·
       replace h := q23 h hb_148; obtain ⟨v_52, ev_52, h⟩ := z8 h; simp only [go_sem, hb_148]; refine callq (fun _ => (zf0 xv_51.Rec.K xv_60.Rec.V xv_63.Rec.V v_52 ev_52)) (by rfl) (by rfl) ?_; obtain ⟨v_53, ev_53, h⟩ := z8 h; simp only [go_sem]; refine q0c [0, 6] (q2e (⟨a_26, b_26⟩ : GOps_maker) v_52 (i64.wrap (xv_60.N * xv_63.N)) v_53 ev_53) ?_; simp only [go_sem]; refine q8 Q34 (sB h (fun _ h => ?_) fun _ h => ?_)
       ·
        refine sM ?_; refine q00 (q0g Q30 (q0k Q29 (q2i Q26 (q0g Q25 (q0g Q22 (q0k Q21 (q2i Q18 (q0g Q17 (q0k Q15 ?_))))))))); simp only [go_sem]; refine q0u [some 5, some 7, some 8] [(0, .box [.osl 7 3 (0) (v_53.2.out.length), .v (.int .i64 v_53.2.many)]), (2, .box [.ptr 0 0]), (3, .box [.sl 3 (enc b_0)]), (5, .box (Row.row xv_60)), (6, .box (Row.row xv_63)), (7, .arr 3 (enc v_53.2.out))] 8 (.v (.bool false)) ?_ ?_
        · exact leA
        refine q17 ?_; simp only [go_sem]; refine q8 Q13 (j9n ?_); refine sM ?_; refine q00 (q0k Q12 (q0g Q10 (q2i Q7 (q0g Q6 (q0k Q4 ?_))))); simp only [go_sem]; refine q0u [some 5, some 6, some 7] [(0, .box [.osl 6 3 (0) (v_53.2.out.length), .v (.int .i64 v_53.2.many)]), (2, .box [.ptr 0 0]), (3, .box [.sl 3 (enc b_0)]), (4, .box (Row.row xv_60)), (5, .box (Row.row xv_63)), (6, .arr 3 (enc v_53.2.out))] 7 (.v (.bool false)) ?_ ?_
        · exact leA
        refine q17 ?_; simp only [go_sem]; exact au
       · exact au
      ·
       replace h := q21 h hb_148; simp only [go_sem, hb_148]; refine q8 Q34 (j9n ?_); refine sM ?_; refine q00 (q0g Q30 (q0k Q29 (q2i Q26 (q0g Q25 (q0g Q22 (q0k Q21 (q2i Q18 (q0g Q17 (q0k Q15 ?_))))))))); simp only [go_sem]; refine q0u [some 5, some 6, some 7] [(0, .box [.osl 6 3 (0) (a_26.length), .v (.int .i64 b_26)]), (2, .box [.ptr 0 0]), (3, .box [.sl 3 (enc b_0)]), (5, .box (Row.row xv_60)), (6, .arr 3 (enc a_26)), (7, .box (Row.row xv_63))] 8 (.v (.bool false)) ?_ ?_
       · exact leA
       refine q17 ?_; simp only [go_sem]; refine q8 Q13 (j9n ?_); refine sM ?_; refine q00 (q0k Q12 (q0g Q10 (q2i Q7 (q0g Q6 (q0k Q4 ?_))))); simp only [go_sem]; refine q0u [some 5, some 6, some 7] [(0, .box [.osl 5 3 (0) (a_26.length), .v (.int .i64 b_26)]), (2, .box [.ptr 0 0]), (3, .box [.sl 3 (enc b_0)]), (4, .box (Row.row xv_60)), (5, .arr 3 (enc a_26)), (6, .box (Row.row xv_63))] 7 (.v (.bool false)) ?_ ?_
       · exact leA
       refine q17 ?_; simp only [go_sem]; exact au
    · exact au
   ·
    refine q0h (q1c Q20 (q0i Q18 (q0b Q17 (q8 Q15 (sM ?_))))); refine q00 ?_; simp only [go_sem]; refine q0u [some 5] [(0, .box [.osl 5 3 (0) (a_24.length), .v (.int .i64 b_24)]), (2, .box [.ptr 0 0]), (3, .box [.sl 3 (enc b_0)]), (5, .arr 3 (enc a_24))] 6 (.v (.bool true)) ?_ ?_
    · exact leA
    refine q17 ?_; simp only [go_sem]; exact au
 ·
  refine q0h (q1c Q8 (q0i Q7 (q0b Q6 (q8 Q4 (sM ?_))))); refine q00 ?_; simp only [go_sem]; refine q0u [some 4] [(0, .box [.osl 4 3 (0) (a_18.length), .v (.int .i64 b_18)]), (2, .box [.ptr 0 0]), (3, .box [.sl 3 (enc b_0)]), (4, .arr 3 (enc a_18))] 5 (.v (.bool true)) ?_ ?_
  · exact leA
  refine q17 ?_; simp only [go_sem]; exact au
def z0f (x_0 : Int) (y_0 : Int) (c_0 : Int) : Option (Int × Int) := zy8 x_0 y_0 c_0
theorem z4p (x_0 : Int) (y_0 : Int) (c_0 : Int) (r : Int × Int) (h : z0f x_0 y_0 c_0 = some r) : PureS pp 154 [.v (.int .u64 x_0), .v (.int .u64 y_0), .v (.int .u64 c_0)] 0 (.tup [.v (.int .u64 r.1), .v (.int .u64 r.2)]) :=
  zt1 Tryz.func154 (by kernel_rfl) (by kernel_rfl) (by kernel_rfl) (by kernel_rfl) h
def z0g (x_0 : Int) (y_0 : Int) (c_0 : Int) : Option (Int × Int) := j0q x_0 y_0 c_0
theorem z4q (x_0 : Int) (y_0 : Int) (c_0 : Int) (r : Int × Int) (h : z0g x_0 y_0 c_0 = some r) : PureS pp 155 [.v (.int .u64 x_0), .v (.int .u64 y_0), .v (.int .u64 c_0)] 0 (.tup [.v (.int .u64 r.1), .v (.int .u64 r.2)]) :=
  zx1 Tryz.func155 (by kernel_rfl) (by kernel_rfl) (by kernel_rfl) (by kernel_rfl) h
def qd4 (w_0 : GOps_wide) (v_0 : Int) (nv_0 : Int) (size_0 : Int) : Option GOps_wide :=
 q9 (q8q size_0 (IntKind.u64.wrap nv_0)) (fun v_1 =>
 (if (decide (v_0 < 0)) = true then q9 (z0f w_0.lo.n v_1.2 0) (fun v_2 =>
 some (⟨i64.wrap (w_0.hi - (i64.wrap ((i64.wrap v_1.1) + (i64.wrap v_2.2)))), (⟨v_2.1⟩ : Nu64)⟩ : GOps_wide))
 else q9 (z0g w_0.lo.n v_1.2 0) (fun v_3 =>
 some (⟨i64.wrap (w_0.hi + (i64.wrap ((i64.wrap v_1.1) + (i64.wrap v_3.2)))), (⟨v_3.1⟩ : Nu64)⟩ : GOps_wide))))
def qx2 (w_0 : GOps_wide) (v_0 : Int) (nv_0 : Int) : Option GOps_wide :=
 (if (decide (v_0 < 0)) = true then qd4 w_0 v_0 nv_0 (IntKind.u64.wrap (0 - (IntKind.u64.wrap v_0)))
 else qd4 w_0 v_0 nv_0 (IntKind.u64.wrap v_0))
instance j14 (w_0 : GOps_wide) (v_0 : Int) (nv_0 : Int) : Ct pp 144 (qx2 w_0 v_0 nv_0) [.agg (Row.row w_0), .v (.int .i64 v_0), .v (.int .i64 nv_0)] fun r => (.agg (Row.row r)) := ctK Tryz.func144 rfl (by rw [qx2]) (by
 intro r h F; refine sM ?_; refine sM ?_; refine q14 (fun (size_0 : Int) => qd4 w_0 v_0 nv_0 size_0 = some r) [1, 2, 3, 6] (fun size_0 => ([(7, .v (.int .u64 size_0))], [(0, .box (Row.row w_0)), (1, .box [.v (.int .i64 0), .v (.int .u64 0)])])) 2 ?_ ?_
 · intro _ Q13; exact au
 ·
  rintro size_0 h
  try dsimp only at h
  rw [qd4] at h; refine sg fun _ Q3 => ?_; simp only [go_sem]; refine q15 h fun v_1 h => ?_; simp only [go_sem]; refine q8 Q3 (sM ?_); refine sg fun _ Q5 => ?_; refine sM ?_; refine sB h (fun _ h => ?_) fun _ h => ?_
  · refine sg fun _ Q7 => ?_; obtain ⟨v_2, ev_2, h⟩ := z8 h; simp only [go_sem]; refine q9m (z4p w_0.lo.n v_1.2 0 v_2 ev_2) (by rfl) (by rfl) ?_; simp only [go_sem]; exact au
  · refine j4 (q8 Q5 (sg fun _ Q10 => ?_)); obtain ⟨v_3, ev_3, h⟩ := z8 h; simp only [go_sem]; refine q9m (z4q w_0.lo.n v_1.2 0 v_3 ev_3) (by rfl) (by rfl) ?_; simp only [go_sem]; exact au)
def z6g (l_0 : List GItem) (rec_1 : Int × GOps_wide → Option GOps_wide) : Int × GOps_wide → Option GOps_wide :=
 fun (t8_1, b_1) =>
 (if (decide (t8_1 < (l_0.length : Int))) = true then q9 (idx l_0 t8_1) (fun xv_2 =>
 q9 (qx2 b_1 xv_2.Rec.V xv_2.N) (fun v_2 =>
 rec_1 (i64.wrap (t8_1 + 1), v_2)))
 else some b_1)
def z2h (l_0 : List GItem) : Option GOps_wide :=
 w9 (z6g l_0) rounds (0, (⟨0, (⟨0⟩ : Nu64)⟩ : GOps_wide))
instance z6f (l_0 : List GItem) : Ct pp 121 (z2h l_0) [.sl 3 (enc l_0)] fun r => (.agg (Row.row r)) := ctK Tryz.func121 rfl (by rw [z2h]) (by
 intro r h F; refine sM ?_; refine sM ?_; refine jg fun _ Q3 => ?_; refine sM ?_; refine j3 fun _ Q5 => ?_; refine u6 h [2, 3, 6, 7] (fun x => ([(8, .v (.int .i64 x.1))], [(0, .box [.v (.int .i64 0), .v (.int .u64 0)]), (1, .box (Row.row x.2))])) 2 ?_; rintro m_1 ⟨t8_1, b_1⟩ h _ Q6; rw [z6g] at h; exact au)
def qd3 (w_0 : GOps_wide) (k_0 : Int) : Option GRec :=
 (if (((w_0.hi == 0) && (decide (0 ≤ (i64.wrap w_0.lo.n)))) || ((w_0.hi == (-1)) && (decide ((i64.wrap w_0.lo.n) < 0)))) = true then some (⟨k_0, i64.wrap w_0.lo.n⟩ : GRec)
 else q9 (qy5 k_0) (fun v_0 =>
 some v_0))
instance qu7 (w_0 : GOps_wide) (k_0 : Int) : Ct pp 122 (qd3 w_0 k_0) [.agg (Row.row w_0), .v (.int .i64 k_0)] fun r => (.agg (Row.row r)) := ctI Tryz.func122 rfl (by rw [qd3]; exact au1)
def q6e (b_2 : Int) (a_12 : List GItem) (rec_1 : (Int × Int × (List GItem) → Option (Bool × GOps_maker))) (tov_12 : Int) (xv_63 : GItem) (a_15 : List GItem) : Option (Bool × GOps_maker) :=
 q9 (z2h a_15) (fun v_26 =>
 q9 (qd3 v_26 xv_63.Rec.K) (fun v_27 =>
 q9 (q25 (⟨a_12, b_2⟩ : GOps_maker) v_27 1) (fun v_28 =>
 (if (!v_28.1) = true then some (false, v_28.2)
 else rec_1 (tov_12, v_28.2.many, v_28.2.out)))))
def qa6 (b_0 : List GItem) (b_2 : Int) (a_12 : List GItem) (rec_1 : (Int × Int × (List GItem) → Option (Bool × GOps_maker))) (tov_12 : Int) (xv_63 : GItem) (rec_5 : Int × (List GItem) → Option (Bool × GOps_maker)) : Int × (List GItem) → Option (Bool × GOps_maker) :=
 fun (t43_11, a_17) =>
 (if (decide (t43_11 < (b_0.length : Int))) = true then q9 (idx b_0 t43_11) (fun xv_75 =>
 (if (xv_75.Rec.K == xv_63.Rec.K) = true then y5 ((a_17.length + List.length ([xv_75] : List GItem)) * 24 ≤ 140737488355328) (
 rec_5 (i64.wrap (t43_11 + 1), (a_17 ++ ([xv_75] : List GItem))))
 else rec_5 (i64.wrap (t43_11 + 1), a_17)))
 else q6e b_2 a_12 rec_1 tov_12 xv_63 a_17)
def q6f (b_0 : List GItem) (b_2 : Int) (a_12 : List GItem) (rec_1 : (Int × Int × (List GItem) → Option (Bool × GOps_maker))) (tov_12 : Int) (xv_63 : GItem) : Option (Bool × GOps_maker) :=
 w9 (qa6 b_0 b_2 a_12 rec_1 tov_12 xv_63) rounds (0, [])
def q6d (b_2 : Int) (a_12 : List GItem) (rec_1 : (Int × Int × (List GItem) → Option (Bool × GOps_maker))) (tov_12 : Int) (xv_63 : GItem) (nv_27 : Int) : Option (Bool × GOps_maker) :=
 q9 (q25 (⟨a_12, b_2⟩ : GOps_maker) (⟨xv_63.Rec.K, nv_27⟩ : GRec) 1) (fun v_29 =>
 (if (!v_29.1) = true then some (false, v_29.2)
 else rec_1 (tov_12, v_29.2.many, v_29.2.out)))
def qa5 (a_0 : List GItem) (fromv_1 : Int) (b_2 : Int) (a_12 : List GItem) (rec_1 : (Int × Int × (List GItem) → Option (Bool × GOps_maker))) (tov_12 : Int) (xv_63 : GItem) (rec_7 : Int × Int → Option (Bool × GOps_maker)) : Int × Int → Option (Bool × GOps_maker) :=
 fun (nv_29, t19_23) =>
 (if (decide (t19_23 < (List.length (List.drop (fromv_1.toNat) (List.take (tov_12.toNat) a_0)) : Int))) = true then q9 (idx (List.drop (fromv_1.toNat) (List.take (tov_12.toNat) a_0)) t19_23) (fun xv_81 =>
 rec_7 (i64.wrap (nv_29 + xv_81.N), i64.wrap (t19_23 + 1)))
 else q6d b_2 a_12 rec_1 tov_12 xv_63 nv_29)
def q3s (kind_0 : Int) (a_0 : List GItem) (b_0 : List GItem) (fromv_1 : Int) (b_2 : Int) (a_12 : List GItem) (rec_1 : (Int × Int × (List GItem) → Option (Bool × GOps_maker))) (tov_12 : Int) : Option (Bool × GOps_maker) :=
 q9 (idx a_0 fromv_1) (fun xv_63 =>
 y5 (0 ≤ fromv_1 ∧ fromv_1 ≤ tov_12 ∧ tov_12 ≤ (a_0.length : Int)) (
 (if (kind_0 == 7) = true then w9 (qa5 a_0 fromv_1 b_2 a_12 rec_1 tov_12 xv_63) rounds (0, 0)
 else (if (kind_0 == 6) = true then q9 (z2h (List.drop (fromv_1.toNat) (List.take (tov_12.toNat) a_0))) (fun v_30 =>
 q9 (qd3 v_30 xv_63.Rec.K) (fun v_31 =>
 q9 (q25 (⟨a_12, b_2⟩ : GOps_maker) v_31 1) (fun v_32 =>
 (if (!v_32.1) = true then some (false, v_32.2)
 else rec_1 (tov_12, v_32.2.many, v_32.2.out)))))
 else q6f b_0 b_2 a_12 rec_1 tov_12 xv_63))))
def qa4 (kind_0 : Int) (a_0 : List GItem) (b_0 : List GItem) (fromv_1 : Int) (b_2 : Int) (a_12 : List GItem) (rec_1 : (Int × Int × (List GItem) → Option (Bool × GOps_maker))) (rec_8 : Int → Option (Bool × GOps_maker)) : Int → Option (Bool × GOps_maker) :=
 fun tov_14 =>
 (if (decide (tov_14 < (a_0.length : Int))) = true then q9 (idx a_0 tov_14) (fun xv_85 =>
 q9 (idx a_0 fromv_1) (fun xv_86 =>
 (if (xv_85.Rec.K == xv_86.Rec.K) = true then rec_8 (i64.wrap (tov_14 + 1))
 else q3s kind_0 a_0 b_0 fromv_1 b_2 a_12 rec_1 tov_14)))
 else q3s kind_0 a_0 b_0 fromv_1 b_2 a_12 rec_1 tov_14)
def q1x (kind_0 : Int) (a_0 : List GItem) (b_0 : List GItem) (rec_1 : Int × Int × (List GItem) → Option (Bool × GOps_maker)) : Int × Int × (List GItem) → Option (Bool × GOps_maker) :=
 fun (fromv_1, b_2, a_12) =>
 (if (decide (fromv_1 < (a_0.length : Int))) = true then w9 (qa4 kind_0 a_0 b_0 fromv_1 b_2 a_12 rec_1) rounds fromv_1
 else some (true, (⟨a_12, b_2⟩ : GOps_maker)))
def q7z (mv_0 : GOps_maker) (kind_0 : Int) (a_0 : List GItem) (b_0 : List GItem) : Option (Bool × GOps_maker) :=
 w9 (q1x kind_0 a_0 b_0) rounds (0, mv_0.many, mv_0.out)
theorem qt1 (mv_0 : GOps_maker) (kind_0 : Int) (a_0 : List GItem) (b_0 : List GItem)  (r : Bool × GOps_maker) (h : q7z mv_0 kind_0 a_0 b_0 = some r) : DetS pp 94 [.ptr 0 0, .v (.int .i64 kind_0), .sl 3 (enc a_0), .sl 3 (enc b_0)] [(0, .box [.osl 1 3 (0) (mv_0.out.length), .v (.int .i64 mv_0.many)]), (1, .arr 3 (enc mv_0.out))] 2 (.v (.bool r.1)) [(0, .box [.osl 2 3 (0) (r.2.out.length), .v (.int .i64 r.2.many)]), (2, .arr 3 (enc r.2.out))] 3 := by
 refine dtI Tryz.func94 rfl ?_; rw [q7z] at h; have F := trivial; refine sM ?_; refine sg fun _ Q2 => ?_; simp only [go_sem]; refine q4g Tryz.func117 rfl (by kernel_rfl) (by kernel_rfl) ?_; refine sM ?_; refine jg fun _ Q4 => ?_; refine sM ?_; refine j3 fun _ Q6 => ?_; refine u6 h [0, 1] (fun x => ([(5, .v (.int .i64 x.1))], [(0, .box [.osl 5 3 (0) (x.2.2.length), .v (.int .i64 x.2.1)]), (2, .box [.ptr 0 0]), (3, .box [.v (.int .i64 kind_0)]), (4, .box [.sl 3 (enc b_0)]), (5, .arr 3 (enc x.2.2))])) 6 ?_; rintro m_1 ⟨fromv_1, b_2, a_12⟩ h _ Q7; rw [q1x] at h; refine sg fun _ Q8 => ?_; refine sM ?_; refine sB h (fun _ h => ?_) fun _ h => ?_
 ·
  refine j4 (q8 Q8 (j3 fun _ Q10 => ?_)); refine sM ?_; refine q14 (fun (tov_12 : Int) => q3s kind_0 a_0 b_0 fromv_1 b_2 a_12 (w9 (q1x kind_0 a_0 b_0) m_1) tov_12 = some r) [0, 1, 5] (fun tov_12 => ([(6, .v (.int .i64 tov_12))], [(0, .box [.osl 5 3 (0) (a_12.length), .v (.int .i64 b_2)]), (2, .box [.ptr 0 0]), (3, .box [.v (.int .i64 kind_0)]), (4, .box [.sl 3 (enc b_0)]), (5, .arr 3 (enc a_12))])) 6 ?_ ?_
  ·
   intro _ Q47; refine j3 fun _ Q48 => ?_; refine u6 h [0, 1, 5] (fun tov_14 => ([(6, .v (.int .i64 tov_14))], [(0, .box [.osl 5 3 (0) (a_12.length), .v (.int .i64 b_2)]), (2, .box [.ptr 0 0]), (3, .box [.v (.int .i64 kind_0)]), (4, .box [.sl 3 (enc b_0)]), (5, .arr 3 (enc a_12))])) 6 ?_; rintro m_8 tov_14 h _ Q49; rw [qa4] at h; refine sg fun _ Q50 => ?_; refine sg fun _ Q51 => ?_; refine x9 ?_; refine j83 ?_; simp only [go_sem]; rcases hb_130 : (decide (tov_14 < (a_0.length : Int))) with _ | _
   · replace h := q23 h hb_130; simp only [go_sem, hb_130]; exact au
   · replace h := q21 h hb_130; obtain ⟨xv_85, F, h⟩ := bI F h; obtain ⟨xv_86, F, h⟩ := bI F h; simp only [go_sem, hb_130, F]; refine ai ?_; refine ai ?_; exact au
  ·
   rintro tov_12 h
   try dsimp only at h
   rw [q3s] at h; refine sg fun _ Q12 => ?_; refine sg fun _ Q13 => ?_; refine x9 ?_; refine j83 ?_; obtain ⟨xv_63, F, h⟩ := bI F h; obtain ⟨F, h⟩ := bG F h; simp only [go_sem, F]; refine ai ?_; refine q4g Tryz.func120 rfl (by kernel_rfl) (by kernel_rfl) ?_; refine sM ?_; refine q14 (fun (_ : Unit) => q6f b_0 b_2 a_12 (w9 (q1x kind_0 a_0 b_0) m_1) tov_12 xv_63 = some r) [0, 3, 4] (fun _ => ([], [(0, .box [.osl 5 3 (0) (a_12.length), .v (.int .i64 b_2)]), (2, .box [.ptr 0 0]), (3, .box [.v (.int .i64 kind_0)]), (4, .box [.sl 3 (enc b_0)]), (5, .arr 3 (enc a_12))])) 6 ?_ ?_
   ·
    intro _ Q28; refine sM ?_; refine j3 fun _ Q30 => ?_; refine sM ?_; refine sB h (fun _ h => ?_) fun _ h => ?_
    ·
     refine sM ?_; refine q14 (fun (nv_27 : Int) => q6d b_2 a_12 (w9 (q1x kind_0 a_0 b_0) m_1) tov_12 xv_63 nv_27 = some r) [0, 3] (fun nv_27 => ([(8, .v (.int .i64 nv_27))], [(0, .box [.osl 5 3 (0) (a_12.length), .v (.int .i64 b_2)]), (2, .box [.ptr 0 0]), (3, .box [.v (.int .i64 kind_0)]), (4, .box [.sl 3 (enc b_0)]), (5, .arr 3 (enc a_12))])) 6 ?_ ?_
     · intro _ Q35; refine sM ?_; refine j3 fun _ Q37 => ?_; refine u6 h [0, 3, 17, 18] (fun x => ([(8, .v (.int .i64 x.1)), (19, .v (.int .i64 x.2))], [(0, .box [.osl 5 3 (0) (a_12.length), .v (.int .i64 b_2)]), (2, .box [.ptr 0 0]), (3, .box [.v (.int .i64 kind_0)]), (4, .box [.sl 3 (enc b_0)]), (5, .arr 3 (enc a_12))])) 6 ?_; rintro m_7 ⟨nv_29, t19_23⟩ h _ Q38; rw [qa5] at h; exact au
     ·
      rintro nv_27 h
      try dsimp only at h
      rw [q6d] at h; refine sg fun _ Q33 => ?_; obtain ⟨v_29, ev_29, h⟩ := z8 h; simp only [go_sem]; refine q0c [0, 5] (q2e (⟨a_12, b_2⟩ : GOps_maker) (⟨xv_63.Rec.K, nv_27⟩ : GRec) 1 v_29 ev_29) ?_; simp only [go_sem]; refine q8 Q33 (q00 (q0g Q30 (q2i Q28 ?_))); simp only [go_sem]; refine q0u [some 6] [(0, .box [.osl 6 3 (0) (v_29.2.out.length), .v (.int .i64 v_29.2.many)]), (2, .box [.ptr 0 0]), (3, .box [.v (.int .i64 kind_0)]), (4, .box [.sl 3 (enc b_0)]), (6, .arr 3 (enc v_29.2.out))] 7 (.v (.bool v_29.1)) ?_ ?_
      · exact leA
      refine q17 ?_; simp only [go_sem]; refine q8 Q13 (sB h (fun _ h => ?_) fun _ h => ?_)
      ·
       refine sM ?_; refine q00 (q0k Q12 (q0g Q10 (q2i Q7 (q0g Q6 (q0k Q4 ?_))))); simp only [go_sem]; refine q0u [some 6] [(0, .box [.osl 5 3 (0) (v_29.2.out.length), .v (.int .i64 v_29.2.many)]), (2, .box [.ptr 0 0]), (3, .box [.v (.int .i64 kind_0)]), (4, .box [.sl 3 (enc b_0)]), (5, .arr 3 (enc v_29.2.out))] 6 (.v (.bool false)) ?_ ?_
       · exact leA
       refine q17 ?_; simp only [go_sem]; exact au
      · exact au
    ·
     refine sM ?_; refine sB h (fun _ h => ?_) fun _ h => ?_
     ·
      refine sg fun _ Q45 => ?_; refine x9 ?_; refine j83 ?_; obtain ⟨v_30, ev_30, h⟩ := z8 h; simp only [go_sem]; refine callq (fun _ => (z6f (List.drop (fromv_1.toNat) (List.take (tov_12.toNat) a_0)) v_30 ev_30)) (by rfl) (by rfl) ?_; obtain ⟨v_31, ev_31, h⟩ := z8 h; simp only [go_sem]; refine callq (fun _ => (qu7 v_30 xv_63.Rec.K v_31 ev_31)) (by rfl) (by rfl) ?_; obtain ⟨v_32, ev_32, h⟩ := z8 h; simp only [go_sem]; refine q0c [0, 5] (q2e (⟨a_12, b_2⟩ : GOps_maker) v_31 1 v_32 ev_32) ?_; simp only [go_sem]; refine q8 Q45 (q00 (q0g Q30 (q2i Q28 ?_))); simp only [go_sem]; refine q0u [some 6] [(0, .box [.osl 6 3 (0) (v_32.2.out.length), .v (.int .i64 v_32.2.many)]), (2, .box [.ptr 0 0]), (3, .box [.v (.int .i64 kind_0)]), (4, .box [.sl 3 (enc b_0)]), (6, .arr 3 (enc v_32.2.out))] 7 (.v (.bool v_32.1)) ?_ ?_
      · exact leA
      refine q17 ?_; simp only [go_sem]; refine q8 Q13 (sB h (fun _ h => ?_) fun _ h => ?_)
      ·
       refine sM ?_; refine q00 (q0k Q12 (q0g Q10 (q2i Q7 (q0g Q6 (q0k Q4 ?_))))); simp only [go_sem]; refine q0u [some 6] [(0, .box [.osl 5 3 (0) (v_32.2.out.length), .v (.int .i64 v_32.2.many)]), (2, .box [.ptr 0 0]), (3, .box [.v (.int .i64 kind_0)]), (4, .box [.sl 3 (enc b_0)]), (5, .arr 3 (enc v_32.2.out))] 6 (.v (.bool false)) ?_ ?_
       · exact leA
       refine q17 ?_; simp only [go_sem]; exact au
      · exact au
     · exact au
   ·
    rintro ⟨⟩ h
    try dsimp only at h
    rw [q6f] at h; refine sM ?_; refine q14 (fun (a_15 : (List GItem)) => q6e b_2 a_12 (w9 (q1x kind_0 a_0 b_0) m_1) tov_12 xv_63 a_15 = some r) [0, 3] (fun a_15 => ([(11, .osl 6 3 (0) (a_15.length))], [(0, .box [.osl 5 3 (0) (a_12.length), .v (.int .i64 b_2)]), (2, .box [.ptr 0 0]), (3, .box [.v (.int .i64 kind_0)]), (4, .box [.sl 3 (enc b_0)]), (5, .arr 3 (enc a_12)), (6, .arr 3 (enc a_15))])) 7 ?_ ?_
    ·
     intro _ Q18; refine sM ?_; refine j3 fun _ Q20 => ?_; refine u6 h [0, 3, 41, 42] (fun x => ([(11, .osl 6 3 (0) (x.2.length)), (43, .v (.int .i64 x.1))], [(0, .box [.osl 5 3 (0) (a_12.length), .v (.int .i64 b_2)]), (2, .box [.ptr 0 0]), (3, .box [.v (.int .i64 kind_0)]), (4, .box [.sl 3 (enc b_0)]), (5, .arr 3 (enc a_12)), (6, .arr 3 (enc x.2))])) 7 ?_; rintro m_5 ⟨t43_11, a_17⟩ h _ Q21; rw [qa6] at h; refine sM ?_; refine sg fun _ Q23 => ?_; refine sB h (fun _ h => ?_) fun _ h => ?_
     ·
      refine j4 (q8 Q23 (jg fun _ Q24 => ?_)); refine j3 fun _ Q25 => ?_; refine sg fun _ Q26 => ?_; obtain ⟨xv_75, F, h⟩ := bI F h; simp only [go_sem, F]; refine ai ?_; refine q8 Q26 (sM ?_); refine sB h (fun _ h => ?_) fun _ h => ?_
      ·
       have rf_28 : [[.v (.int .i64 xv_75.Rec.K), .v (.int .i64 xv_75.Rec.V), .v (.int .i64 xv_75.N)]] = enc ([xv_75] : List GItem) := by rfl
       obtain ⟨g_20, h⟩ := q02 h; have F := And.intro F g_20; simp only [List.length_cons, List.length_nil, Nat.zero_add, List.length_append] at g_20; have rf_29 : enc a_17 ++ [[.v (.int .i64 xv_75.Rec.K), .v (.int .i64 xv_75.Rec.V), .v (.int .i64 xv_75.N)]] = enc (a_17 ++ ([xv_75] : List GItem)) := by exact (q19 a_17 ([xv_75] : List GItem)).symm
       simp only [go_sem, g_20, rf_29]; simp only [rf_28]; exact au
      · exact au
     · exact au
    ·
     rintro a_15 h
     try dsimp only at h
     rw [q6e] at h; refine sg fun _ Q16 => ?_; refine x9 ?_; refine zw3 (s' := (⟨6, [(0, .v (.int .i64 xv_63.Rec.K)), (3, .ptr 2 0), (11, .sl 3 (enc a_15))], [(0, .box [.osl 5 3 (0) (a_12.length), .v (.int .i64 b_2)]), (2, .box [.ptr 0 0]), (3, .box [.v (.int .i64 kind_0)]), (4, .box [.sl 3 (enc b_0)]), (5, .arr 3 (enc a_12))], 6, 63⟩ : St)) (l := []) ?_ ?_
     · exact leA
     refine j83 ?_; obtain ⟨v_26, ev_26, h⟩ := z8 h; simp only [go_sem]; refine callq (fun _ => (z6f a_15 v_26 ev_26)) (by rfl) (by rfl) ?_; obtain ⟨v_27, ev_27, h⟩ := z8 h; simp only [go_sem]; refine callq (fun _ => (qu7 v_26 xv_63.Rec.K v_27 ev_27)) (by rfl) (by rfl) ?_; obtain ⟨v_28, ev_28, h⟩ := z8 h; simp only [go_sem]; refine q0c [0, 5] (q2e (⟨a_12, b_2⟩ : GOps_maker) v_27 1 v_28 ev_28) ?_; simp only [go_sem]; refine q8 Q16 (q00 ?_); simp only [go_sem]; refine q0u [some 6] [(0, .box [.osl 6 3 (0) (v_28.2.out.length), .v (.int .i64 v_28.2.many)]), (2, .box [.ptr 0 0]), (3, .box [.v (.int .i64 kind_0)]), (4, .box [.sl 3 (enc b_0)]), (6, .arr 3 (enc v_28.2.out))] 7 (.v (.bool v_28.1)) ?_ ?_
     · exact leA
     refine q17 ?_; simp only [go_sem]; refine q8 Q13 (sB h (fun _ h => ?_) fun _ h => ?_)
     ·
      refine sM ?_; refine q00 (q0k Q12 (q0g Q10 (q2i Q7 (q0g Q6 (q0k Q4 ?_))))); simp only [go_sem]; refine q0u [some 6] [(0, .box [.osl 5 3 (0) (v_28.2.out.length), .v (.int .i64 v_28.2.many)]), (2, .box [.ptr 0 0]), (3, .box [.v (.int .i64 kind_0)]), (4, .box [.sl 3 (enc b_0)]), (5, .arr 3 (enc v_28.2.out))] 6 (.v (.bool false)) ?_ ?_
      · exact leA
      refine q17 ?_; simp only [go_sem]; exact au
     · exact au
 ·
  refine q0h (q1c Q8 (q0i Q7 (q0b Q6 (q8 Q4 (sM ?_))))); refine q00 ?_; simp only [go_sem]; refine q0u [some 5] [(0, .box [.osl 5 3 (0) (a_12.length), .v (.int .i64 b_2)]), (2, .box [.ptr 0 0]), (3, .box [.v (.int .i64 kind_0)]), (4, .box [.sl 3 (enc b_0)]), (5, .arr 3 (enc a_12))] 6 (.v (.bool true)) ?_ ?_
  · exact leA
  refine q17 ?_; simp only [go_sem]; exact au
def z2l (b_0 : List GItem) (rv_0 : GRec) (nv_0 : Int) : Option (List GItem) :=
 q9 (q7a b_0) (fun v_0 =>
 q9 (qj4 b_0) (fun v_1 =>
 (if (!v_1) = true then some v_0
 else q9 (qo6 v_0 rv_0 nv_0) (fun v_2 =>
 some v_2))))
theorem z5i (b_0 : List GItem) (rv_0 : GRec) (nv_0 : Int)  (r : List GItem) (h : z2l b_0 rv_0 nv_0 = some r) : DetS pp 123 [.sl 3 (enc b_0), .agg (Row.row rv_0), .v (.int .i64 nv_0)] [] 0 (.osl 0 3 (0) (r.length)) [(0, .arr 3 (enc r))] 1 := by
 refine dtI Tryz.func123 rfl ?_; rw [z2l] at h; have F := trivial; refine sM ?_; refine sg fun _ Q2 => ?_; obtain ⟨v_0, ev_0, h⟩ := z8 h; simp only [go_sem]; refine q0c [] (q9s b_0 v_0 ev_0) ?_; simp only [go_sem]; refine q8 Q2 (sg fun _ Q3 => ?_); refine sg fun _ Q4 => ?_; simp only [go_sem]; refine q15 h fun v_1 h => ?_; simp only [go_sem]; refine q8 Q4 (sB h (fun _ h => ?_) fun _ h => ?_)
 · exact au
 · refine j4 (q8 Q3 (sg fun _ Q6 => ?_)); obtain ⟨v_2, ev_2, h⟩ := z8 h; simp only [go_sem]; refine q0c [1] (qz9 v_0 rv_0 nv_0 v_2 ev_2) ?_; simp only [go_sem]; exact au
instance j71 (b_0 : List GItem) (rv_0 : GRec) (nv_0 : Int) : Ct pp 123 (z2l b_0 rv_0 nv_0) [.sl 3 (enc b_0), .agg (Row.row rv_0), .v (.int .i64 nv_0)] fun r => (.sl 3 (enc r)) := ⟨fun r h => (z5i b_0 rv_0 nv_0  r h).pure leA⟩
def qf1 (mv_0 : GOps_maker) (rec_1 : Int × (List GItem) → Option ((List GItem) × GOps_maker)) : Int × (List GItem) → Option ((List GItem) × GOps_maker) :=
 fun (t11_1, a_1) =>
 (if (decide (t11_1 < (mv_0.out.length : Int))) = true then q9 (idx mv_0.out t11_1) (fun xv_2 =>
 q9 (z2l a_1 xv_2.Rec xv_2.N) (fun v_2 =>
 rec_1 (i64.wrap (t11_1 + 1), v_2)))
 else some (a_1, mv_0))
def q9d (mv_0 : GOps_maker) : Option ((List GItem) × GOps_maker) :=
 w9 (qf1 mv_0) rounds (0, [])
theorem qx4 (mv_0 : GOps_maker)  (r : (List GItem) × GOps_maker) (h : q9d mv_0 = some r) : DetS pp 95 [.ptr 0 0] [(0, .box [.osl 1 3 (0) (mv_0.out.length), .v (.int .i64 mv_0.many)]), (1, .arr 3 (enc mv_0.out))] 2 (.osl 2 3 (0) (r.1.length)) [(0, .box [.osl 3 3 (0) (r.2.out.length), .v (.int .i64 r.2.many)]), (2, .arr 3 (enc r.1)), (3, .arr 3 (enc r.2.out))] 4 := by
 refine dtI Tryz.func95 rfl ?_; rw [q9d] at h; have F := trivial; refine sM ?_; refine sM ?_; refine jg fun _ Q3 => ?_; refine sM ?_; refine j3 fun _ Q5 => ?_; refine u6 h [9, 10] (fun x => ([(3, .osl 2 3 (0) (x.2.length)), (11, .v (.int .i64 x.1))], [(0, .box [.osl 1 3 (0) (mv_0.out.length), .v (.int .i64 mv_0.many)]), (1, .arr 3 (enc mv_0.out)), (2, .arr 3 (enc x.2))])) 3 ?_; rintro m_1 ⟨t11_1, a_1⟩ h _ Q6; rw [qf1] at h; refine sM ?_; refine sg fun _ Q8 => ?_; refine sB h (fun _ h => ?_) fun _ h => ?_
 · refine j4 (q8 Q8 (sg fun _ Q9 => ?_)); refine j3 fun _ Q10 => ?_; refine sg fun _ Q11 => ?_; obtain ⟨xv_2, F, h⟩ := bI F h; simp only [go_sem, F]; refine ai ?_; refine q8 Q11 ?_; obtain ⟨v_2, ev_2, h⟩ := z8 h; simp only [go_sem]; refine qc8 [9, 10, 11] ([(3, .sl 3 (enc a_1))], [(0, .box [.osl 1 3 (0) (mv_0.out.length), .v (.int .i64 mv_0.many)]), (1, .arr 3 (enc mv_0.out)), (2, .box (Row.row xv_2))]) 3 [some 3] [.sl 3 (enc a_1), .agg (Row.row xv_2.Rec), .v (.int .i64 xv_2.N)] ?_; refine q0c [] (z5i a_1 xv_2.Rec xv_2.N v_2 ev_2) ?_; simp only [go_sem]; exact au
 · exact au
def q4j (ok_2 : Bool) (b_2 : Int) (a_2 : List GItem) : Option ((List GItem) × Bool) :=
 (if (!ok_2) = true then some (([] : List GItem), false)
 else q9 (q9d (⟨a_2, b_2⟩ : GOps_maker)) (fun v_11 =>
 some (v_11.1, true)))
def z3p (v_0 : List GItem) (rec_2 : Bool × Int × Int × (List GItem) → Option ((List GItem) × Bool)) : Bool × Int × Int × (List GItem) → Option ((List GItem) × Bool) :=
 fun (ok_4, t48_3, b_4, a_4) =>
 (if (decide (t48_3 < (v_0.length : Int))) = true then q9 (idx v_0 t48_3) (fun xv_6 =>
 (if ok_4 = true then q9 (q25 (⟨a_4, b_4⟩ : GOps_maker) xv_6.Rec 1) (fun v_18 =>
 rec_2 (v_18.1, i64.wrap (t48_3 + 1), v_18.2.many, v_18.2.out))
 else rec_2 (false, i64.wrap (t48_3 + 1), b_4, a_4)))
 else q4j ok_4 b_4 a_4)
def qy6 (xv_0 : GNode) (ports_0 : List (List GItem)) : Option ((List GItem) × Bool) :=
 q9 (qi9 0 ports_0) (fun v_0 =>
 q9 (qi9 1 ports_0) (fun v_1 =>
 (if (xv_0.Kind == 5) = true then q9 (q3h (⟨([] : List GItem), 0⟩ : GOps_maker) xv_0 v_0) (fun v_12 =>
 (if v_12.1 = true then q9 (q3h v_12.2 xv_0 v_1) (fun v_13 =>
 q4j v_13.1 v_13.2.many v_13.2.out)
 else q4j false v_12.2.many v_12.2.out))
 else q9 (z1i xv_0.Kind) (fun v_14 =>
 (if v_14 = true then q9 (q3h (⟨([] : List GItem), 0⟩ : GOps_maker) xv_0 v_0) (fun v_15 =>
 q4j v_15.1 v_15.2.many v_15.2.out)
 else (if (xv_0.Kind == 8) = true then w9 (z3p v_0) rounds (true, 0, 0, [])
 else (if (xv_0.Kind == 9) = true then q9 (q9c (⟨([] : List GItem), 0⟩ : GOps_maker) v_0 v_1) (fun v_19 =>
 q4j v_19.1 v_19.2.many v_19.2.out)
 else (if (((xv_0.Kind == 7) || (xv_0.Kind == 6)) || (xv_0.Kind == 14)) = true then q9 (q7z (⟨([] : List GItem), 0⟩ : GOps_maker) xv_0.Kind v_0 v_1) (fun v_20 =>
 q4j v_20.1 v_20.2.many v_20.2.out)
 else q4j true 0 ([])))))))))
theorem z9i (xv_0 : GNode) (ports_0 : List (List GItem))  (r : (List GItem) × Bool) (h : qy6 xv_0 ports_0 = some r) : DetS pp 59 [.agg (Row.row xv_0), .sl 1 (enc ports_0)] [] 0 (.tup [.osl 0 3 (0) (r.1.length), .v (.bool r.2)]) [(0, .arr 3 (enc r.1))] 1 := by
 refine dtI Tryz.func59 rfl ?_; rw [qy6] at h; have F := trivial; refine sM ?_; refine sM ?_; refine sM ?_; refine sg fun _ Q4 => ?_; obtain ⟨v_0, ev_0, h⟩ := z8 h; simp only [go_sem]; refine qc8 [2] ([(6, .clo 88 [.el 1 [[.sl 1 (enc ports_0)]] 0 0]), (7, .ptr 1 0)], [(0, .box (Row.row xv_0)), (1, .box [.v (.slice none 0 0), .v (.int .i64 0)])]) 2 [some 0, some 2] [.v (.int .i64 0), .el 1 [[.sl 1 (enc ports_0)]] 0 0] ?_; refine q0c [] (qp5 0 ports_0 v_0 ev_0) ?_; obtain ⟨v_1, ev_1, h⟩ := z8 h; simp only [go_sem]; refine q0c [] (qp5 1 ports_0 v_1 ev_1) ?_; simp only [go_sem]; refine q8 Q4 (sM ?_); refine q14 (fun ((ok_2, b_2, a_2) : Bool × Int × (List GItem)) => q4j ok_2 b_2 a_2 = some r) [] (fun x => ([(7, .ptr 0 0), (10, .v (.bool x.1))], [(0, .box [.osl 1 3 (0) (x.2.2.length), .v (.int .i64 x.2.1)]), (1, .arr 3 (enc x.2.2))])) 2 ?_ ?_
 ·
  intro _ Q10; refine j3 fun _ Q11 => ?_; refine sM ?_; refine sB h (fun _ h => ?_) fun _ h => ?_
  ·
   obtain ⟨v_12, ev_12, h⟩ := z8 h; simp only [go_sem]; refine qc8 [2, 7, 10] ([(9, .osl 2 3 (0) (v_1.length))], [(0, .box (Row.row xv_0)), (1, .box [.osl 3 3 (0) (List.length ([] : List GItem)), .v (.int .i64 0)]), (2, .arr 3 (enc v_1)), (3, .arr 3 (enc ([] : List GItem)))]) 4 [some 0, some 1, some 3, none] [.ptr 1 0, .agg (Row.row xv_0), .sl 3 (enc v_0)] ?_; refine q0c [1, 3] (q6c (⟨([] : List GItem), 0⟩ : GOps_maker) xv_0 v_0 v_12 ev_12) ?_; simp only [go_sem]; rcases hb_13 : v_12.1 with _ | _
   · replace h := q23 h hb_13; simp only [go_sem, hb_13]; exact au
   · replace h := q21 h hb_13; obtain ⟨v_13, ev_13, h⟩ := z8 h; simp only [go_sem, hb_13]; refine qc8 [7, 10, 28] ([], [(0, .box (Row.row xv_0)), (1, .box [.osl 2 3 (0) (v_12.2.out.length), .v (.int .i64 v_12.2.many)]), (2, .arr 3 (enc v_12.2.out))]) 3 [some 0, some 1, some 4] [.ptr 1 0, .agg (Row.row xv_0), .sl 3 (enc v_1)] ?_; refine q0c [1, 2] (q6c v_12.2 xv_0 v_1 v_13 ev_13) ?_; simp only [go_sem]; exact au
  ·
   refine sg fun _ Q13 => ?_; simp only [go_sem]; refine q15 h fun v_14 h => ?_; simp only [go_sem]; refine q8 Q13 (sB h (fun _ h => ?_) fun _ h => ?_)
   · obtain ⟨v_15, ev_15, h⟩ := z8 h; simp only [go_sem]; refine qc8 [7, 10] ([], [(0, .box (Row.row xv_0)), (1, .box [.osl 3 3 (0) (List.length ([] : List GItem)), .v (.int .i64 0)]), (2, .arr 3 (enc v_1)), (3, .arr 3 (enc ([] : List GItem)))]) 4 [some 0, some 1, some 3, none] [.ptr 1 0, .agg (Row.row xv_0), .sl 3 (enc v_0)] ?_; refine q0c [1, 3] (q6c (⟨([] : List GItem), 0⟩ : GOps_maker) xv_0 v_0 v_15 ev_15) ?_; simp only [go_sem]; exact au
   ·
    refine sM ?_; refine sB h (fun _ h => ?_) fun _ h => ?_
    ·
     refine sM ?_; refine j3 fun _ Q16 => ?_; refine u6 h [47] (fun x => ([(7, .ptr 0 0), (10, .v (.bool x.1)), (46, .osl 1 3 (0) (v_0.length)), (48, .v (.int .i64 x.2.1))], [(0, .box [.osl 2 3 (0) (x.2.2.2.length), .v (.int .i64 x.2.2.1)]), (1, .arr 3 (enc v_0)), (2, .arr 3 (enc x.2.2.2))])) 3 ?_; rintro m_2 ⟨ok_4, t48_3, b_4, a_4⟩ h _ Q17; rw [z3p] at h; refine sM ?_; refine sg fun _ Q19 => ?_; refine sB h (fun _ h => ?_) fun _ h => ?_
     ·
      refine j4 (q8 Q19 (sg fun _ Q20 => ?_)); refine j3 fun _ Q21 => ?_; refine sg fun _ Q22 => ?_; obtain ⟨xv_6, F, h⟩ := bI F h; simp only [go_sem, F]; refine ai ?_; refine q8 Q22 ?_; simp only [go_sem]; rcases hb_20 : ok_4 with _ | _
      · replace h := q23 h hb_20; simp only [go_sem, hb_20]; exact au
      · replace h := q21 h hb_20; obtain ⟨v_18, ev_18, h⟩ := z8 h; simp only [go_sem, hb_20]; refine q0c [0, 2] (q2e (⟨a_4, b_4⟩ : GOps_maker) xv_6.Rec 1 v_18 ev_18) ?_; simp only [go_sem]; exact au
     · exact au
    ·
     refine sM ?_; refine sB h (fun _ h => ?_) fun _ h => ?_
     · obtain ⟨v_19, ev_19, h⟩ := z8 h; simp only [go_sem]; refine qc8 [7, 10] ([], [(0, .box (Row.row xv_0)), (1, .box [.osl 2 3 (0) (List.length ([] : List GItem)), .v (.int .i64 0)]), (2, .arr 3 (enc ([] : List GItem)))]) 3 [some 0, some 1, none] [.ptr 1 0, .sl 3 (enc v_0), .sl 3 (enc v_1)] ?_; refine q0c [1, 2] (qx3 (⟨([] : List GItem), 0⟩ : GOps_maker) v_0 v_1 v_19 ev_19) ?_; simp only [go_sem]; exact au
     ·
      refine sM ?_; refine sB h (fun _ h => ?_) fun _ h => ?_
      · obtain ⟨v_20, ev_20, h⟩ := z8 h; simp only [go_sem]; refine qc8 [7, 10] ([], [(0, .box (Row.row xv_0)), (1, .box [.osl 2 3 (0) (List.length ([] : List GItem)), .v (.int .i64 0)]), (2, .arr 3 (enc ([] : List GItem)))]) 3 [some 0, some 1, none] [.ptr 1 0, .v (.int .i64 xv_0.Kind), .sl 3 (enc v_0), .sl 3 (enc v_1)] ?_; refine q0c [1, 2] (qt1 (⟨([] : List GItem), 0⟩ : GOps_maker) xv_0.Kind v_0 v_1 v_20 ev_20) ?_; simp only [go_sem]; exact au
      · exact au
 ·
  rintro ⟨ok_2, b_2, a_2⟩ h
  try dsimp only at h
  rw [q4j] at h; refine sg fun _ Q6 => ?_; refine sM ?_; refine sB h (fun _ h => ?_) fun _ h => ?_
  · exact au
  · refine j4 (q8 Q6 (sg fun _ Q9 => ?_)); obtain ⟨v_11, ev_11, h⟩ := z8 h; simp only [go_sem]; refine q0c [0, 1] (qx4 (⟨a_2, b_2⟩ : GOps_maker) v_11 ev_11) ?_; simp only [go_sem]; exact au
instance za5 (xv_0 : GNode) (ports_0 : List (List GItem)) : Ct pp 59 (qy6 xv_0 ports_0) [.agg (Row.row xv_0), .sl 1 (enc ports_0)] fun r => (.tup [.sl 3 (enc r.1), .v (.bool r.2)]) := ⟨fun r h => (z9i xv_0 ports_0  r h).pure leA⟩
def z3n (b_0 : List GItem) (rec_1 : Int × Int → Option Int) : Int × Int → Option Int :=
 fun (nv_1, t8_1) =>
 (if (decide (t8_1 < (b_0.length : Int))) = true then q9 (idx b_0 t8_1) (fun xv_2 =>
 rec_1 (i64.wrap (nv_1 + xv_2.N), i64.wrap (t8_1 + 1)))
 else some nv_1)
def qb3 (b_0 : List GItem) : Option Int :=
 w9 (z3n b_0) rounds (0, 0)
instance z3m (b_0 : List GItem) : Ct pp 60 (qb3 b_0) [.sl 3 (enc b_0)] fun r => (.v (.int .i64 r)) := ctK Tryz.func60 rfl (by rw [qb3]) (by
 intro r h F; refine sM ?_; refine sM ?_; refine jg fun _ Q3 => ?_; refine sM ?_; refine j3 fun _ Q5 => ?_; refine u6 h [6, 7] (fun x => ([(3, .v (.int .i64 x.1)), (8, .v (.int .i64 x.2))], [])) 0 ?_; rintro m_1 ⟨nv_1, t8_1⟩ h _ Q6; rw [z3n] at h; exact au)
def qu8 (xv_0 : Int) (y_0 : Int) : Option (Int × Int) :=
 q9 (q8q xv_0 y_0) (fun v_0 =>
 some (v_0.1, v_0.2))
instance j09 (xv_0 : Int) (y_0 : Int) : Ct pp 145 (qu8 xv_0 y_0) [.v (.int .u64 xv_0), .v (.int .u64 y_0)] fun r => (.tup [.v (.int .u64 r.1), .v (.int .u64 r.2)]) := ctI Tryz.func145 rfl (by rw [qu8]; exact au1)
end Go.Proofs.YtlpfoonihpdekaaGreat
