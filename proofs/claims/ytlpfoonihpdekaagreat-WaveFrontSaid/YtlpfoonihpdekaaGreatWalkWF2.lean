/-
  What functions of the program compute, each told as a plain function that may give nothing, with the proof that the code does so. No condition beyond those that each theorem names.
-/
import Derived.Test.YtlpfoonihpdekaaGreatWalkWF0
import Derived.Test.YtlpfoonihpdekaaGreatWalkWF1
set_option linter.unusedSimpArgs false
set_option linter.unusedVariables false
set_option linter.unusedSectionVars false
set_option maxHeartbeats 2000000
set_option maxRecDepth 100000
namespace Go.Proofs.YtlpfoonihpdekaaGreat
open Go Go.RowKit
open Go.IntKind (i64)
def qp8  (rec_3 : Int × (List GRec) → Option (List GRec)) : Int × (List GRec) → Option (List GRec) :=
 fun (nv_1, a_1) =>
 (if (decide (nv_1 < (a_1.length : Int))) = true then y5 (0 ≤ nv_1 ∧ nv_1 ≤ (a_1.length : Int) ∧ (a_1.length : Int) ≤ (a_1.length : Int)) (
 y5 (0 ≤ 0 ∧ 0 ≤ nv_1 ∧ nv_1 ≤ (a_1.length : Int)) (
 y5 (nv_1.toNat + (a_1.length - nv_1.toNat) ≤ a_1.length) (
 y5 (0 + nv_1.toNat ≤ a_1.length) (
 rec_3 (i64.wrap (nv_1 + ((min (List.length (List.take (nv_1.toNat) a_1)) ((a_1.length - nv_1.toNat)) : Nat) : Int)), (List.take (a_1.length) (List.take (nv_1.toNat) a_1 ++ (List.take ((a_1.length - nv_1.toNat)) (List.take (nv_1.toNat) a_1)) ++ List.drop (nv_1.toNat + List.length (List.take ((a_1.length - nv_1.toNat)) (List.take (nv_1.toNat) a_1))) a_1)))))))
 else some a_1)
def qb4 (xv_0 : List GRec) (v_0 : Int × Int) : Option (List GRec) :=
 y5 (0 ≤ (i64.wrap v_0.2) ∧ (i64.wrap v_0.2) * 16 ≤ 140737488355328) (
 y5 (0 + (Int.toNat (i64.wrap v_0.2)) ≤ List.length (List.replicate (Int.toNat (i64.wrap v_0.2)) (⟨0, 0⟩ : GRec))) (
 w9 (qp8) rounds (((min (xv_0.length) ((Int.toNat (i64.wrap v_0.2))) : Nat) : Int), (List.take (Int.toNat (i64.wrap v_0.2)) ((List.take ((Int.toNat (i64.wrap v_0.2))) xv_0) ++ List.drop (List.length (List.take ((Int.toNat (i64.wrap v_0.2))) xv_0)) (List.replicate (Int.toNat (i64.wrap v_0.2)) (⟨0, 0⟩ : GRec)))))))
def qb5 (xv_0 : List GRec) (count_0 : Int) : Option (List GRec) :=
 q9 (qu8 (IntKind.u64.wrap (xv_0.length : Int)) (IntKind.u64.wrap count_0)) (fun v_0 =>
 (if ((decide (0 < v_0.1)) || (decide (9223372036854775807 < v_0.2))) = true then none
 else qb4 xv_0 v_0))
def q9j (xv_0 : List GRec) (count_0 : Int) : Option (List GRec) :=
 (if (decide (count_0 < 0)) = true then none
 else qb5 xv_0 count_0)
theorem qo8 (xv_0 : List GRec) (count_0 : Int)  (r : List GRec) (h : q9j xv_0 count_0 = some r) : DetS pp 124 [.sl 2 (enc xv_0), .v (.int .i64 count_0)] [] 0 (.osl 0 2 (0) (r.length)) [(0, .arr 2 (enc r))] 1 := by
 refine dtI Tryz.func124 rfl ?_; rw [q9j] at h; have F := trivial; refine sM ?_; refine q14 (fun (_ : Unit) => qb5 xv_0 count_0 = some r) [0, 1] (fun _ => ([], [])) 0 ?_ ?_
 ·
  intro _ Q14; refine sM ?_; refine sB h (fun _ h => ?_) fun _ h => ?_
  · exact absurd h (by simp)
  · exact au
 ·
  rintro ⟨⟩ h
  try dsimp only at h
  rw [qb5] at h; refine sg fun _ Q2 => ?_; simp only [go_sem]; refine q15 h fun v_0 h => ?_; simp only [go_sem]; refine q8 Q2 (q14 (fun (_ : Unit) => qb4 xv_0 v_0 = some r) [0, 6] (fun _ => ([], [])) 0 ?_ ?_)
  ·
   intro _ Q12; refine sM ?_; refine sB h (fun _ h => ?_) fun _ h => ?_
   · exact absurd h (by simp)
   · exact au
  ·
   rintro ⟨⟩ h
   try dsimp only at h
   rw [qb4] at h; refine sg fun _ Q3 => ?_; obtain ⟨F, h⟩ := bG F h; have rf_0 : List.replicate (Int.toNat (i64.wrap v_0.2)) [.v (.int .i64 0), .v (.int .i64 0)] = enc (List.replicate (Int.toNat (i64.wrap v_0.2)) (⟨0, 0⟩ : GRec)) := by (simp [enc, q9u, q8f, q5o, q1p]; exact .inr rfl)
   simp only [go_sem, F]; simp only [rf_0]; refine q8 Q3 (sg fun _ Q4 => ?_); obtain ⟨g_1, h⟩ := q02 h; have F := And.intro F g_1; simp only [Nat.zero_add] at g_1; have rf_1 : List.take (0) (enc (List.replicate (Int.toNat (i64.wrap v_0.2)) (⟨0, 0⟩ : GRec))) ++ enc (List.take ((Int.toNat (i64.wrap v_0.2))) xv_0) ++ List.drop (0 + List.length (List.take ((Int.toNat (i64.wrap v_0.2))) xv_0)) (enc (List.replicate (Int.toNat (i64.wrap v_0.2)) (⟨0, 0⟩ : GRec))) = enc ((List.take ((Int.toNat (i64.wrap v_0.2))) xv_0) ++ List.drop (List.length (List.take ((Int.toNat (i64.wrap v_0.2))) xv_0)) (List.replicate (Int.toNat (i64.wrap v_0.2)) (⟨0, 0⟩ : GRec))) := by simp [enc, List.map_take, List.map_drop]
   simp only [Nat.zero_add, List.take_zero, List.nil_append] at rf_1; simp only [go_sem, g_1, rf_1]; refine q8 Q4 (jg fun _ Q5 => ?_); refine j3 fun _ Q6 => ?_; refine u6 h [] (fun x => ([(7, .osl 0 2 (0) (x.2.length)), (8, .v (.int .i64 x.1))], [(0, .arr 2 (enc x.2))])) 1 ?_; rintro m_3 ⟨nv_1, a_1⟩ h _ Q7; rw [qp8] at h; refine sg fun _ Q8 => ?_; refine sM ?_; refine sB h (fun _ h => ?_) fun _ h => ?_
   ·
    refine j4 (q8 Q8 (j3 fun _ Q10 => ?_)); refine x9 ?_; refine q27 8 0 0 [0, 0, 0, 6, 0, 0, 48, 126, 255, 511] [0] [0] [] [7] [] mixed (by kernel_rfl) (of_decide_eq_true (by kernel_rfl)) (by kernel_rfl) (by kernel_rfl) (by rfl) ?_; obtain ⟨F, h⟩ := bG F h; obtain ⟨F, h⟩ := bG F h; obtain ⟨F, h⟩ := bG F h; obtain ⟨g_13, h⟩ := q02 h; have F := And.intro F g_13; simp only [Nat.zero_add] at g_13; have rf_4 : List.take (nv_1.toNat) (enc a_1) ++ enc (List.take ((a_1.length - nv_1.toNat)) (List.take (nv_1.toNat) a_1)) ++ List.drop (nv_1.toNat + List.length (List.take ((a_1.length - nv_1.toNat)) (List.take (nv_1.toNat) a_1))) (enc a_1) = enc (List.take (nv_1.toNat) a_1 ++ (List.take ((a_1.length - nv_1.toNat)) (List.take (nv_1.toNat) a_1)) ++ List.drop (nv_1.toNat + List.length (List.take ((a_1.length - nv_1.toNat)) (List.take (nv_1.toNat) a_1))) a_1) := by simp [enc, List.map_take, List.map_drop]
    simp only [go_sem, g_13, rf_4, F]; exact au
   · exact au
instance zp0 (xv_0 : List GRec) (count_0 : Int) : Ct pp 124 (q9j xv_0 count_0) [.sl 2 (enc xv_0), .v (.int .i64 count_0)] fun r => (.sl 2 (enc r)) := ⟨fun r h => (qo8 xv_0 count_0  r h).pure leA⟩
def z5h (v_0 : List GItem) (rec_2 : Int × (List GRec) → Option ((List GRec) × Bool)) : Int × (List GRec) → Option ((List GRec) × Bool) :=
 fun (t28_1, a_1) =>
 (if (decide (t28_1 < (v_0.length : Int))) = true then q9 (idx v_0 t28_1) (fun xv_5 =>
 q9 (q9j ([xv_5.Rec] : List GRec) xv_5.N) (fun v_3 =>
 y5 ((a_1.length + v_3.length) * 16 ≤ 140737488355328) (
 rec_2 (i64.wrap (t28_1 + 1), (a_1 ++ v_3)))))
 else some (a_1, true))
def z0b (v_0 : List GItem) : Option ((List GRec) × Bool) :=
 w9 (z5h v_0) rounds (0, [])
def z5g (v_0 : List GItem) (rec_3 : Int × Int → Option ((List GRec) × Bool)) : Int × Int → Option ((List GRec) × Bool) :=
 fun (nv_3, t15_3) =>
 (if (decide (t15_3 < (v_0.length : Int))) = true then q9 (idx v_0 t15_3) (fun xv_8 =>
 (if (decide (65536 < (i64.wrap (nv_3 + xv_8.N)))) = true then some (([] : List GRec), false)
 else rec_3 (i64.wrap (nv_3 + xv_8.N), i64.wrap (t15_3 + 1))))
 else z0b v_0)
def z0s (b_0 : List GItem) : Option ((List GRec) × Bool) :=
 q9 (qq2 b_0) (fun v_0 =>
 w9 (z5g v_0) rounds (0, 0))
theorem z3u (b_0 : List GItem)  (r : (List GRec) × Bool) (h : z0s b_0 = some r) : DetS pp 96 [.sl 3 (enc b_0)] [] 0 (.tup [.osl 0 2 (0) (r.1.length), .v (.bool r.2)]) [(0, .arr 2 (enc r.1))] 1 := by
 refine dtI Tryz.func96 rfl ?_; rw [z0s] at h; have F := trivial; refine sM ?_; refine sg fun _ Q2 => ?_; obtain ⟨v_0, ev_0, h⟩ := z8 h; simp only [go_sem]; refine q0c [] (qv2 b_0 v_0 ev_0) ?_; simp only [go_sem]; refine q8 Q2 (sM ?_); refine q14 (fun (_ : Unit) => z0b v_0 = some r) [4] (fun _ => ([], [(0, .arr 3 (enc v_0))])) 1 ?_ ?_
 · intro _ Q15; refine sM ?_; refine j3 fun _ Q17 => ?_; refine u6 h [4, 13, 14] (fun x => ([(5, .v (.int .i64 x.1)), (15, .v (.int .i64 x.2))], [(0, .arr 3 (enc v_0))])) 1 ?_; rintro m_3 ⟨nv_3, t15_3⟩ h _ Q18; rw [z5g] at h; exact au
 ·
  rintro ⟨⟩ h
  try dsimp only at h
  rw [z0b] at h; refine sM ?_; refine jg fun _ Q5 => ?_; refine sM ?_; refine j3 fun _ Q7 => ?_; refine u6 h [27] (fun x => ([(8, .osl 0 2 (0) (x.2.length)), (26, .osl 1 3 (0) (v_0.length)), (28, .v (.int .i64 x.1))], [(0, .arr 2 (enc x.2)), (1, .arr 3 (enc v_0))])) 2 ?_; rintro m_2 ⟨t28_1, a_1⟩ h _ Q8; rw [z5h] at h; refine sM ?_; refine sg fun _ Q10 => ?_; refine sB h (fun _ h => ?_) fun _ h => ?_
  ·
   refine j4 (q8 Q10 (sg fun _ Q11 => ?_)); refine j3 fun _ Q12 => ?_; refine sg fun _ Q13 => ?_; obtain ⟨xv_5, F, h⟩ := bI F h; simp only [go_sem, F]; refine ai ?_; refine q8 Q13 ?_; have rf_3 : [[.v (.int .i64 xv_5.Rec.K), .v (.int .i64 xv_5.Rec.V)]] = enc ([xv_5.Rec] : List GRec) := by rfl
   obtain ⟨v_3, ev_3, h⟩ := z8 h; simp only [go_sem]; simp only [rf_3]; refine qc8 [8, 26, 27, 28, 32] ([], [(0, .arr 2 (enc a_1)), (1, .arr 3 (enc v_0)), (2, .box (Row.row xv_5))]) 3 [some 0, some 1, some 2] [.sl 2 (enc ([xv_5.Rec] : List GRec)), .v (.int .i64 xv_5.N)] ?_; refine q0c [] (qo8 ([xv_5.Rec] : List GRec) xv_5.N v_3 ev_3) ?_; obtain ⟨F, h⟩ := bG F h; have rf_4 : enc a_1 ++ enc v_3 = enc (a_1 ++ v_3) := by exact (q19 a_1 v_3).symm
   simp only [go_sem, rf_4, F]; refine And.intro (by (intros; simp_all; done)) ?_; exact au
  · exact au
instance j5z (b_0 : List GItem) : Ct pp 96 (z0s b_0) [.sl 3 (enc b_0)] fun r => (.tup [.sl 2 (enc r.1), .v (.bool r.2)]) := ⟨fun r h => (z3u b_0  r h).pure leA⟩
def z4m (t_0 : GTime) : Option (GTime × Bool) :=
 q9 (q3g t_0) (fun v_0 =>
 (if ((!v_0) || (t_0.D == 4)) = true then some ((⟨0, (⟨0, 0, 0, 0⟩ : Arr4 Int)⟩ : GTime), false)
 else some ((⟨i64.wrap (t_0.D + 1), t_0.C⟩ : GTime), true)))
instance j5u (t_0 : GTime) : Ct pp 125 (z4m t_0) [.agg (Row.row t_0)] fun r => (.tup [.agg (Row.row r.1), .v (.bool r.2)]) := ctI Tryz.func125 rfl (by rw [z4m]; exact au1)
def z4l (t_0 : GTime) : Option (GTime × Bool) :=
 q9 (q3g t_0) (fun v_0 =>
 (if ((!v_0) || (t_0.D == 1)) = true then some ((⟨0, (⟨0, 0, 0, 0⟩ : Arr4 Int)⟩ : GTime), false)
 else y5 (0 ≤ i64.wrap (t_0.D - 1) ∧ i64.wrap (t_0.D - 1) < 4) (
 q9 (some (if Int.toNat (i64.wrap (t_0.D - 1)) = 0 then 0 else t_0.C.a0)) (fun w_0 =>
 q9 (some (if Int.toNat (i64.wrap (t_0.D - 1)) = 1 then 0 else t_0.C.a1)) (fun w_1 =>
 q9 (some (if Int.toNat (i64.wrap (t_0.D - 1)) = 2 then 0 else t_0.C.a2)) (fun w_2 =>
 q9 (some (if Int.toNat (i64.wrap (t_0.D - 1)) = 3 then 0 else t_0.C.a3)) (fun w_3 =>
 some ((⟨i64.wrap (t_0.D - 1), (⟨w_0, w_1, w_2, w_3⟩ : Arr4 Int)⟩ : GTime), true))))))))
instance j5t (t_0 : GTime) : Ct pp 126 (z4l t_0) [.agg (Row.row t_0)] fun r => (.tup [.agg (Row.row r.1), .v (.bool r.2)]) := ctK Tryz.func126 rfl (by rw [z4l]) (by
 intro r h F; refine sM ?_; refine sg fun _ Q2 => ?_; refine sg fun _ Q3 => ?_; simp only [go_sem]; refine q15 h fun v_0 h => ?_; simp only [go_sem]; refine q8 Q3 (sB h (fun _ h => ?_) fun _ h => ?_)
 · exact au
 · refine j4 (q8 Q2 (sM ?_)); refine sg fun _ Q6 => ?_; obtain ⟨F, h⟩ := bG F h; obtain ⟨w_0, ew_0, h⟩ := z8 h; obtain ⟨w_1, ew_1, h⟩ := z8 h; obtain ⟨w_2, ew_2, h⟩ := z8 h; obtain ⟨w_3, ew_3, h⟩ := z8 h; have sf_0 := qh2 (f := (fun y => AV.v (.int .i64 y))) [.v (.int .i64 (i64.wrap (t_0.D - 1)))] [] [t_0.C.a0, t_0.C.a1, t_0.C.a2, t_0.C.a3] [w_0, w_1, w_2, w_3] (Int.toNat (i64.wrap (t_0.D - 1))) 0 (by simp only [List.length_cons, List.length_nil]; omega) (by simp only [List.mapIdx_cons, List.mapIdx_nil, Nat.zero_add, Nat.reduceAdd, Option.some.inj ew_0, Option.some.inj ew_1, Option.some.inj ew_2, Option.some.inj ew_3]); simp only [List.cons_append, List.nil_append, List.append_nil, List.map_cons, List.map_nil, List.length_cons, List.length_nil, Nat.zero_add, Nat.reduceAdd, q3a, Nat.add_assoc, q1p] at sf_0; simp only [go_sem, sf_0, Nat.mul_one, F]; refine ai ?_; exact au)
def z6d (t_0 : GTime) : Option (GTime × Bool) :=
 q9 (q3g t_0) (fun v_0 =>
 (if v_0 = true then y5 (0 ≤ i64.wrap (t_0.D - 1) ∧ i64.wrap (t_0.D - 1) < 4) (
 q9 (idx ([t_0.C.a0, t_0.C.a1, t_0.C.a2, t_0.C.a3] : List Int) (i64.wrap (t_0.D - 1))) (fun xv_0 =>
 q9 (qi2 (i64.wrap (t_0.D - 1))) (fun v_1 =>
 (if (xv_0 == v_1) = true then some ((⟨0, (⟨0, 0, 0, 0⟩ : Arr4 Int)⟩ : GTime), false)
 else y5 (0 ≤ i64.wrap (t_0.D - 1) ∧ i64.wrap (t_0.D - 1) < 4) (
 q9 (idx ([t_0.C.a0, t_0.C.a1, t_0.C.a2, t_0.C.a3] : List Int) (i64.wrap (t_0.D - 1))) (fun xv_1 =>
 y5 (0 ≤ i64.wrap (t_0.D - 1) ∧ i64.wrap (t_0.D - 1) < 4) (
 q9 (some (if Int.toNat (i64.wrap (t_0.D - 1)) = 0 then i64.wrap (xv_1 + 1) else t_0.C.a0)) (fun w_0 =>
 q9 (some (if Int.toNat (i64.wrap (t_0.D - 1)) = 1 then i64.wrap (xv_1 + 1) else t_0.C.a1)) (fun w_1 =>
 q9 (some (if Int.toNat (i64.wrap (t_0.D - 1)) = 2 then i64.wrap (xv_1 + 1) else t_0.C.a2)) (fun w_2 =>
 q9 (some (if Int.toNat (i64.wrap (t_0.D - 1)) = 3 then i64.wrap (xv_1 + 1) else t_0.C.a3)) (fun w_3 =>
 some ((⟨t_0.D, (⟨w_0, w_1, w_2, w_3⟩ : Arr4 Int)⟩ : GTime), true))))))))))))
 else some ((⟨0, (⟨0, 0, 0, 0⟩ : Arr4 Int)⟩ : GTime), false)))
instance j6y (t_0 : GTime) : Ct pp 127 (z6d t_0) [.agg (Row.row t_0)] fun r => (.tup [.agg (Row.row r.1), .v (.bool r.2)]) := ctK Tryz.func127 rfl (by rw [z6d]) (by
 intro r h F; refine sM ?_; refine sg fun _ Q2 => ?_; refine sg fun _ Q3 => ?_; refine x9 ?_; refine j83 ?_; obtain ⟨v_0, ev_0, h⟩ := z8 h; simp only [go_sem]; refine callq (fun _ => (z5e t_0 v_0 ev_0)) (by rfl) (by rfl) ?_; simp only [go_sem]; rcases hb_0 : v_0 with _ | _
 · replace h := q23 h hb_0; simp only [go_sem, hb_0]; exact au
 ·
  replace h := q21 h hb_0; obtain ⟨F, h⟩ := bG F h; obtain ⟨xv_0, ex0, h⟩ := z8 h; obtain ⟨f0a, f0b, f0c, fxv_0d⟩ := q3e (f := (fun y => AV.v (.int .i64 y))) [.v (.int .i64 t_0.D)] [] ex0; simp only [List.cons_append, List.nil_append, List.append_nil, List.map_cons, List.map_nil, List.length_cons, List.length_nil, Nat.zero_add, Nat.reduceAdd] at f0b f0c fxv_0d; obtain ⟨v_1, ev_1, h⟩ := z8 h; simp only [go_sem, hb_0, f0a, f0b, f0c, fxv_0d, F]; refine ai ?_; simp only [List.getD_eq_getElem?_getD, Nat.mul_one, fxv_0d, Option.map_some, Option.getD_some, true_and]; refine callq (fun _ => (z88 (i64.wrap (t_0.D - 1)) v_1 ev_1)) (by rfl) (by rfl) ?_; simp only [go_sem]; refine q8 Q3 (sB h (fun _ h => ?_) fun _ h => ?_)
  · exact au
  · refine j4 (q8 Q2 (sg fun _ Q6 => ?_)); obtain ⟨F, h⟩ := bG F h; obtain ⟨xv_1, ex1, h⟩ := z8 h; obtain ⟨f1a, f1b, f1c, fxv_1d⟩ := q3e (f := (fun y => AV.v (.int .i64 y))) [.v (.int .i64 t_0.D)] [] ex1; simp only [List.cons_append, List.nil_append, List.append_nil, List.map_cons, List.map_nil, List.length_cons, List.length_nil, Nat.zero_add, Nat.reduceAdd] at f1b f1c fxv_1d; obtain ⟨F, h⟩ := bG F h; obtain ⟨w_0, ew_0, h⟩ := z8 h; obtain ⟨w_1, ew_1, h⟩ := z8 h; obtain ⟨w_2, ew_2, h⟩ := z8 h; obtain ⟨w_3, ew_3, h⟩ := z8 h; have sf_0 := qh2 (f := (fun y => AV.v (.int .i64 y))) [.v (.int .i64 t_0.D)] [] [t_0.C.a0, t_0.C.a1, t_0.C.a2, t_0.C.a3] [w_0, w_1, w_2, w_3] (Int.toNat (i64.wrap (t_0.D - 1))) (i64.wrap (xv_1 + 1)) (by simp only [List.length_cons, List.length_nil]; omega) (by simp only [List.mapIdx_cons, List.mapIdx_nil, Nat.zero_add, Nat.reduceAdd, Option.some.inj ew_0, Option.some.inj ew_1, Option.some.inj ew_2, Option.some.inj ew_3]); simp only [List.cons_append, List.nil_append, List.append_nil, List.map_cons, List.map_nil, List.length_cons, List.length_nil, Nat.zero_add, Nat.reduceAdd, q3a, Nat.add_assoc, q1p] at sf_0; simp only [go_sem, f1a, f1b, f1c, fxv_1d, sf_0, Nat.mul_one, F]; simp only [List.getD_eq_getElem?_getD, Nat.mul_one, fxv_1d, Option.map_some, Option.getD_some, true_and]; simp only [go_sem, f1a, f1b, f1c, fxv_1d, sf_0, Nat.mul_one, List.getD_eq_getElem?_getD, Nat.mul_one, fxv_1d, Option.map_some, Option.getD_some, true_and, F]; refine ai ?_; exact au)
def z1f (g_0 : GGraph) (node_0 : Int) (t_0 : GTime) : Option (GTime × Bool) :=
 (if ((decide (node_0 < 0)) || (decide ((g_0.Nodes.length : Int) ≤ node_0))) = true then some ((⟨0, (⟨0, 0, 0, 0⟩ : Arr4 Int)⟩ : GTime), false)
 else q9 (q3g t_0) (fun v_0 =>
 (if v_0 = true then q9 (q71 g_0 node_0) (fun v_1 =>
 (if (!(t_0.D == v_1)) = true then some ((⟨0, (⟨0, 0, 0, 0⟩ : Arr4 Int)⟩ : GTime), false)
 else q9 (idx g_0.Nodes node_0) (fun xv_0 =>
 (if (xv_0.Kind == 10) = true then q9 (z4m t_0) (fun v_2 =>
 some (v_2.1, v_2.2))
 else (if (xv_0.Kind == 11) = true then q9 (z4l t_0) (fun v_3 =>
 some (v_3.1, v_3.2))
 else (if (xv_0.Kind == 12) = true then y5 (0 ≤ i64.wrap (t_0.D - 1) ∧ i64.wrap (t_0.D - 1) < 4) (
 q9 (idx ([t_0.C.a0, t_0.C.a1, t_0.C.a2, t_0.C.a3] : List Int) (i64.wrap (t_0.D - 1))) (fun xv_1 =>
 q9 (idx g_0.Bound xv_0.Scope) (fun xv_2 =>
 (if (decide (xv_2 ≤ (i64.wrap (xv_1 + 1)))) = true then some ((⟨0, (⟨0, 0, 0, 0⟩ : Arr4 Int)⟩ : GTime), false)
 else q9 (z6d t_0) (fun v_4 =>
 some (v_4.1, v_4.2))))))
 else some (t_0, true)))))))
 else some ((⟨0, (⟨0, 0, 0, 0⟩ : Arr4 Int)⟩ : GTime), false))))
instance z9h (g_0 : GGraph) (node_0 : Int) (t_0 : GTime) : Ct pp 97 (z1f g_0 node_0 t_0) [.agg (Row.row g_0), .v (.int .i64 node_0), .agg (Row.row t_0)] fun r => (.tup [.agg (Row.row r.1), .v (.bool r.2)]) := ctK Tryz.func97 rfl (by rw [z1f]) (by
 intro r h F; refine sM ?_; refine sg fun _ Q2 => ?_; refine sg fun _ Q3 => ?_; refine x9 ?_; refine j83 ?_; simp only [go_sem]; rcases hb_0 : ((decide (node_0 < 0)) || (decide ((g_0.Nodes.length : Int) ≤ node_0))) with _ | _
 ·
  replace h := q23 h hb_0; obtain ⟨v_0, ev_0, h⟩ := z8 h; simp only [go_sem, hb_0]; refine callq (fun _ => (z5e t_0 v_0 ev_0)) (by rfl) (by rfl) ?_; simp only [go_sem]; rcases hb_1 : v_0 with _ | _
  · replace h := q23 h hb_1; simp only [go_sem, hb_1]; exact au
  ·
   replace h := q21 h hb_1; obtain ⟨v_1, ev_1, h⟩ := z8 h; simp only [go_sem, hb_1]; refine callq (fun _ => (z81 g_0 node_0 v_1 ev_1)) (by rfl) (by rfl) ?_; simp only [go_sem]; refine q8 Q3 (sB h (fun _ h => ?_) fun _ h => ?_)
   · exact au
   ·
    refine j4 (q8 Q2 (sg fun _ Q6 => ?_)); obtain ⟨xv_0, F, h⟩ := bI F h; simp only [go_sem, F]; refine ai ?_; refine q8 Q6 (sg fun _ Q7 => ?_); refine sM ?_; refine j3 fun _ Q9 => ?_; refine sM ?_; refine sB h (fun _ h => ?_) fun _ h => ?_
    · exact au
    ·
     refine sM ?_; refine sB h (fun _ h => ?_) fun _ h => ?_
     · exact au
     ·
      refine sM ?_; refine sB h (fun _ h => ?_) fun _ h => ?_
      · refine sg fun _ Q15 => ?_; refine sg fun _ Q16 => ?_; refine x9 ?_; refine j83 ?_; obtain ⟨F, h⟩ := bG F h; obtain ⟨xv_1, ex1, h⟩ := z8 h; obtain ⟨f1a, f1b, f1c, fxv_1d⟩ := q3e (f := (fun y => AV.v (.int .i64 y))) [.v (.int .i64 t_0.D)] [] ex1; simp only [List.cons_append, List.nil_append, List.append_nil, List.map_cons, List.map_nil, List.length_cons, List.length_nil, Nat.zero_add, Nat.reduceAdd] at f1b f1c fxv_1d; obtain ⟨xv_2, F, h⟩ := bI F h; simp only [go_sem, f1a, f1b, f1c, fxv_1d, F]; refine ai ?_; simp only [List.getD_eq_getElem?_getD, Nat.mul_one, fxv_1d, Option.map_some, Option.getD_some, true_and]; refine ai ?_; exact au
      · exact au
 · replace h := q21 h hb_0; simp only [go_sem, hb_0]; exact au)
def q1j (rv_0 : GWave_runner) (out_0 : List GItem) (b_2 : Int) (a_12 : List GPoint) (a_13 : List (Arr2 (List GItem))) : Option (Int × GWave_runner) :=
 q9 (qb3 out_0) (fun v_14 =>
 some (v_14, (⟨(⟨a_12, a_13⟩ : GWave_pool), rv_0.g, rv_0.table, rv_0.past, b_2, rv_0.waves, rv_0.outs⟩ : GWave_runner)))
def q0o (out_0 : List GItem) (t75_3 : Int) (b_4 : Int) (rec_3 : (Int × Int × (List GPoint) × (List (Arr2 (List GItem))) → Option (Int × GWave_runner))) (xv_19 : GEdge) (i_5 : Int) (a_22 : List GPoint) (a_23 : List (Arr2 (List GItem))) : Option (Int × GWave_runner) :=
 q9 (idx a_23 i_5) (fun xv_20 =>
 y5 (0 ≤ xv_19.Port ∧ xv_19.Port < 2) (
 q9 (idx ([xv_20.a0, xv_20.a1] : List (List GItem)) xv_19.Port) (fun xv_21 =>
 q9 (qg8 xv_21 out_0) (fun v_25 =>
 y5 (0 ≤ xv_19.Port ∧ xv_19.Port < 2) (
 q9 (some (if xv_19.Port.toNat = 0 then v_25 else xv_20.a0)) (fun w_10 =>
 q9 (some (if xv_19.Port.toNat = 1 then v_25 else xv_20.a1)) (fun w_11 =>
 q9 (qb3 out_0) (fun v_26 =>
 rec_3 (i64.wrap (t75_3 + 1), i64.wrap (b_4 + v_26), a_22, (List.set a_23 (i_5.toNat) (⟨w_10, w_11⟩ : Arr2 (List GItem))))))))))))
def q1l (rv_0 : GWave_runner) (p_0 : GPoint) (out_0 : List GItem) (v_1 : GTime × Bool) (rec_3 : Int × Int × (List GPoint) × (List (Arr2 (List GItem))) → Option (Int × GWave_runner)) : Int × Int × (List GPoint) × (List (Arr2 (List GItem))) → Option (Int × GWave_runner) :=
 fun (t75_3, b_4, a_20, a_21) =>
 (if (decide (t75_3 < (rv_0.g.Edges.length : Int))) = true then q9 (idx rv_0.g.Edges t75_3) (fun xv_19 =>
 (if (xv_19.From == p_0.Node) = true then (if ((out_0.length : Int) == 0) = true then q9 (qb3 out_0) (fun v_23 =>
 rec_3 (i64.wrap (t75_3 + 1), i64.wrap (b_4 + v_23), a_20, a_21))
 else q9 (q6b a_20 (⟨xv_19.To, v_1.1⟩ : GPoint)) (fun v_24 =>
 (if (decide (v_24 < 0)) = true then y5 ((a_20.length + List.length ([(⟨xv_19.To, v_1.1⟩ : GPoint)] : List GPoint)) * 48 ≤ 140737488355328) (
 y5 ((a_21.length + List.length ([(⟨([] : List GItem), ([] : List GItem)⟩ : Arr2 (List GItem))] : List (Arr2 (List GItem)))) * 48 ≤ 140737488355328) (
 q0o out_0 t75_3 b_4 rec_3 xv_19 (a_20.length : Int) (a_20 ++ ([(⟨xv_19.To, v_1.1⟩ : GPoint)] : List GPoint)) (a_21 ++ ([(⟨([] : List GItem), ([] : List GItem)⟩ : Arr2 (List GItem))] : List (Arr2 (List GItem))))))
 else q0o out_0 t75_3 b_4 rec_3 xv_19 v_24 a_20 a_21)))
 else rec_3 (i64.wrap (t75_3 + 1), b_4, a_20, a_21)))
 else q1j rv_0 out_0 b_4 a_20 a_21)
def q1k (rv_0 : GWave_runner) (p_0 : GPoint) (out_0 : List GItem) : Option (Int × GWave_runner) :=
 q9 (z1f rv_0.g p_0.Node p_0.Time) (fun v_1 =>
 (if (!v_1.2) = true then some (0, rv_0)
 else w9 (q1l rv_0 p_0 out_0 v_1) rounds (0, rv_0.work, rv_0.pool.points, rv_0.pool.in_)))
def q2y (rv_0 : GWave_runner) (p_0 : GPoint) (v_27 : (List GRec) × Bool) (rec_5 : Int × (List GOut) → Option (Int × GWave_runner)) : Int × (List GOut) → Option (Int × GWave_runner) :=
 fun (t33_3, a_25) =>
 (if (decide (t33_3 < (v_27.1.length : Int))) = true then q9 (idx v_27.1 t33_3) (fun xv_25 =>
 y5 ((a_25.length + List.length ([(⟨p_0.Node, p_0.Time.C.a0, xv_25⟩ : GOut)] : List GOut)) * 32 ≤ 140737488355328) (
 rec_5 (i64.wrap (t33_3 + 1), (a_25 ++ ([(⟨p_0.Node, p_0.Time.C.a0, xv_25⟩ : GOut)] : List GOut)))))
 else some (0, (⟨rv_0.pool, rv_0.g, rv_0.table, rv_0.past, rv_0.work, rv_0.waves, a_25⟩ : GWave_runner)))
def q1r (rv_0 : GWave_runner) (p_0 : GPoint) (out_0 : List GItem) : Option (Int × GWave_runner) :=
 q9 (idx rv_0.g.Nodes p_0.Node) (fun xv_22 =>
 (if (xv_22.Kind == 15) = true then q9 (z0s out_0) (fun v_27 =>
 w9 (q2y rv_0 p_0 v_27) rounds (0, rv_0.outs))
 else q1k rv_0 p_0 out_0))
theorem q73 (rv_0 : GWave_runner) (p_0 : GPoint) (out_0 : List GItem)  (r : Int × GWave_runner) (h : q1r rv_0 p_0 out_0 = some r) : DetS pp 61 [.ptr 0 0, .agg (Row.row p_0), .sl 3 (enc out_0)] [(0, .box [.osl 1 6 (0) (rv_0.pool.points.length), .osl 2 2 (0) (rv_0.pool.in_.length), .sl 1 (enc rv_0.g.Parent), .sl 1 (enc rv_0.g.Bound), .sl 4 (enc rv_0.g.Nodes), .sl 4 (enc rv_0.g.Edges), .sl 1 (enc rv_0.table), .osl 3 6 (0) (rv_0.past.points.length), .osl 4 2 (0) (rv_0.past.in_.length), .v (.int .i64 rv_0.work), .osl 5 8 (0) (rv_0.waves.length), .osl 6 4 (0) (rv_0.outs.length)]), (1, .arr 6 (enc rv_0.pool.points)), (2, .arr 2 (enc rv_0.pool.in_)), (3, .arr 6 (enc rv_0.past.points)), (4, .arr 2 (enc rv_0.past.in_)), (5, .arr 8 (enc rv_0.waves)), (6, .arr 4 (enc rv_0.outs))] 7 (.v (.int .i64 r.1)) [(0, .box [.osl 7 6 (0) (r.2.pool.points.length), .osl 8 2 (0) (r.2.pool.in_.length), .sl 1 (enc r.2.g.Parent), .sl 1 (enc r.2.g.Bound), .sl 4 (enc r.2.g.Nodes), .sl 4 (enc r.2.g.Edges), .sl 1 (enc r.2.table), .osl 9 6 (0) (r.2.past.points.length), .osl 10 2 (0) (r.2.past.in_.length), .v (.int .i64 r.2.work), .osl 11 8 (0) (r.2.waves.length), .osl 12 4 (0) (r.2.outs.length)]), (7, .arr 6 (enc r.2.pool.points)), (8, .arr 2 (enc r.2.pool.in_)), (9, .arr 6 (enc r.2.past.points)), (10, .arr 2 (enc r.2.past.in_)), (11, .arr 8 (enc r.2.waves)), (12, .arr 4 (enc r.2.outs))] 13 := by
 refine dtI Tryz.func61 rfl ?_; rw [q1r] at h; have F := trivial; refine sM ?_; refine q14 (fun (_ : Unit) => q1k rv_0 p_0 out_0 = some r) [0, 2, 4] (fun _ => ([], [(0, .box [.osl 1 6 (0) (rv_0.pool.points.length), .osl 2 2 (0) (rv_0.pool.in_.length), .sl 1 (enc rv_0.g.Parent), .sl 1 (enc rv_0.g.Bound), .sl 4 (enc rv_0.g.Nodes), .sl 4 (enc rv_0.g.Edges), .sl 1 (enc rv_0.table), .osl 3 6 (0) (rv_0.past.points.length), .osl 4 2 (0) (rv_0.past.in_.length), .v (.int .i64 rv_0.work), .osl 5 8 (0) (rv_0.waves.length), .osl 6 4 (0) (rv_0.outs.length)]), (1, .arr 6 (enc rv_0.pool.points)), (2, .arr 2 (enc rv_0.pool.in_)), (3, .arr 6 (enc rv_0.past.points)), (4, .arr 2 (enc rv_0.past.in_)), (5, .arr 8 (enc rv_0.waves)), (6, .arr 4 (enc rv_0.outs)), (7, .box (Row.row p_0))])) 8 ?_ ?_
 ·
  intro _ Q26; refine sg fun _ Q27 => ?_; refine x9 ?_; refine j83 ?_; obtain ⟨xv_22, F, h⟩ := bI F h; simp only [go_sem, F]; refine ai ?_; refine q8 Q27 (sB h (fun _ h => ?_) fun _ h => ?_)
  ·
   refine sg fun _ Q28 => ?_; obtain ⟨v_27, ev_27, h⟩ := z8 h; simp only [go_sem]; refine q0c [] (z3u out_0 v_27 ev_27) ?_; simp only [go_sem]; refine q8 Q28 (jg fun _ Q29 => ?_); refine sM ?_; refine j3 fun _ Q31 => ?_; refine u6 h [0, 4, 31, 32] (fun x => ([(33, .v (.int .i64 x.1))], [(0, .box [.osl 1 6 (0) (rv_0.pool.points.length), .osl 2 2 (0) (rv_0.pool.in_.length), .sl 1 (enc rv_0.g.Parent), .sl 1 (enc rv_0.g.Bound), .sl 4 (enc rv_0.g.Nodes), .sl 4 (enc rv_0.g.Edges), .sl 1 (enc rv_0.table), .osl 3 6 (0) (rv_0.past.points.length), .osl 4 2 (0) (rv_0.past.in_.length), .v (.int .i64 rv_0.work), .osl 5 8 (0) (rv_0.waves.length), .osl 9 4 (0) (x.2.length)]), (1, .arr 6 (enc rv_0.pool.points)), (2, .arr 2 (enc rv_0.pool.in_)), (3, .arr 6 (enc rv_0.past.points)), (4, .arr 2 (enc rv_0.past.in_)), (5, .arr 8 (enc rv_0.waves)), (7, .box (Row.row p_0)), (8, .arr 2 (enc v_27.1)), (9, .arr 4 (enc x.2))])) 10 ?_; rintro m_5 ⟨t33_3, a_25⟩ h _ Q32; rw [q2y] at h; refine sM ?_; refine sg fun _ Q34 => ?_; refine sB h (fun _ h => ?_) fun _ h => ?_
   ·
    refine j4 (q8 Q34 (sg fun _ Q35 => ?_)); refine j3 fun _ Q36 => ?_; refine sg fun _ Q37 => ?_; obtain ⟨xv_25, F, h⟩ := bI F h; simp only [go_sem, F]; refine ai ?_; refine q8 Q37 (x9 ?_); refine q27 15 0 0 [0, 0, 2, 6, 14, 0, 32, 0, 128, 384, 896, 0, 4064, 8160, 16382, 32767, 65535, 131071] [9, 11] [0] [] [14] [] mixed (by kernel_rfl) (of_decide_eq_true (by kernel_rfl)) (by kernel_rfl) (by kernel_rfl) (by rfl) ?_; have rf_64 : [[.v (.int .i64 p_0.Node), .v (.int .i64 p_0.Time.C.a0), .v (.int .i64 xv_25.K), .v (.int .i64 xv_25.V)]] = enc ([(⟨p_0.Node, p_0.Time.C.a0, xv_25⟩ : GOut)] : List GOut) := by rfl
    obtain ⟨g_41, h⟩ := q02 h; have F := And.intro F g_41; simp only [List.length_cons, List.length_nil, Nat.zero_add, List.length_append] at g_41; have rf_65 : enc a_25 ++ [[.v (.int .i64 p_0.Node), .v (.int .i64 p_0.Time.C.a0), .v (.int .i64 xv_25.K), .v (.int .i64 xv_25.V)]] = enc (a_25 ++ ([(⟨p_0.Node, p_0.Time.C.a0, xv_25⟩ : GOut)] : List GOut)) := by exact (q19 a_25 ([(⟨p_0.Node, p_0.Time.C.a0, xv_25⟩ : GOut)] : List GOut)).symm
    simp only [go_sem, g_41, rf_65]; simp only [rf_64]; exact au
   · exact au
  · exact au
 ·
  rintro ⟨⟩ h
  try dsimp only at h
  rw [q1k] at h; refine sg fun _ Q2 => ?_; refine x9 ?_; refine q27 14 0 0 [0, 1, 3, 7, 0, 16, 0, 64, 255, 511, 1023, 1023, 0, 6143, 16383] [8] [0, 1, 2, 3, 4, 5, 6, 7, 8, 9, 10, 11] [] [12, 13] [] mixed (by kernel_rfl) (of_decide_eq_true (by kernel_rfl)) (by kernel_rfl) (by kernel_rfl) (by rfl) ?_; obtain ⟨v_1, ev_1, h⟩ := z8 h; simp only [go_sem]; refine callq (fun _ => (z9h rv_0.g p_0.Node p_0.Time v_1 ev_1)) (by rfl) (by rfl) ?_; simp only [go_sem]; refine q8 Q2 (sg fun _ Q3 => ?_); refine sM ?_; refine sB h (fun _ h => ?_) fun _ h => ?_
  · exact au
  ·
   refine j4 (q8 Q3 (q14 (fun ((b_2, a_12, a_13) : Int × (List GPoint) × (List (Arr2 (List GItem)))) => q1j rv_0 out_0 b_2 a_12 a_13 = some r) [2] (fun x => ([], [(0, .box [.osl 7 6 (0) (x.2.1.length), .osl 8 2 (0) (x.2.2.length), .sl 1 (enc rv_0.g.Parent), .sl 1 (enc rv_0.g.Bound), .sl 4 (enc rv_0.g.Nodes), .sl 4 (enc rv_0.g.Edges), .sl 1 (enc rv_0.table), .osl 3 6 (0) (rv_0.past.points.length), .osl 4 2 (0) (rv_0.past.in_.length), .v (.int .i64 x.1), .osl 5 8 (0) (rv_0.waves.length), .osl 6 4 (0) (rv_0.outs.length)]), (3, .arr 6 (enc rv_0.past.points)), (4, .arr 2 (enc rv_0.past.in_)), (5, .arr 8 (enc rv_0.waves)), (6, .arr 4 (enc rv_0.outs)), (7, .arr 6 (enc x.2.1)), (8, .arr 2 (enc x.2.2))])) 9 ?_ ?_))
   ·
    intro _ Q7; refine sM ?_; refine j3 fun _ Q9 => ?_; refine u6 h [0, 2, 4, 11, 73, 74] (fun x => ([(75, .v (.int .i64 x.1))], [(0, .box [.osl 9 6 (0) (x.2.2.1.length), .osl 10 2 (0) (x.2.2.2.length), .sl 1 (enc rv_0.g.Parent), .sl 1 (enc rv_0.g.Bound), .sl 4 (enc rv_0.g.Nodes), .sl 4 (enc rv_0.g.Edges), .sl 1 (enc rv_0.table), .osl 3 6 (0) (rv_0.past.points.length), .osl 4 2 (0) (rv_0.past.in_.length), .v (.int .i64 x.2.1), .osl 5 8 (0) (rv_0.waves.length), .osl 6 4 (0) (rv_0.outs.length)]), (3, .arr 6 (enc rv_0.past.points)), (4, .arr 2 (enc rv_0.past.in_)), (5, .arr 8 (enc rv_0.waves)), (6, .arr 4 (enc rv_0.outs)), (7, .box (Row.row p_0)), (8, .box (Row.row v_1.1)), (9, .arr 6 (enc x.2.2.1)), (10, .arr 2 (enc x.2.2.2))])) 11 ?_; rintro m_3 ⟨t75_3, b_4, a_20, a_21⟩ h _ Q10; rw [q1l] at h; refine sM ?_; refine sg fun _ Q12 => ?_; refine sB h (fun _ h => ?_) fun _ h => ?_
    ·
     refine j4 (q8 Q12 (jg fun _ Q13 => ?_)); refine j3 fun _ Q14 => ?_; refine sg fun _ Q15 => ?_; obtain ⟨xv_19, F, h⟩ := bI F h; simp only [go_sem, F]; refine ai ?_; refine q8 Q15 (sM ?_); refine sB h (fun _ h => ?_) fun _ h => ?_
     ·
      refine sg fun _ Q17 => ?_; refine x9 ?_; refine j83 ?_; simp only [go_sem]; refine q4g Tryz.func26 rfl (by kernel_rfl) (by kernel_rfl) ?_; refine sM ?_; refine sg fun _ Q19 => ?_; refine sM ?_; refine sB h (fun _ h => ?_) fun _ h => ?_
      ·
       refine q00 (q0k Q19 ?_); simp only [go_sem]; refine q0u [some 12] [(0, .box [.osl 9 6 (0) (a_20.length), .osl 10 2 (0) (a_21.length), .sl 1 (enc rv_0.g.Parent), .sl 1 (enc rv_0.g.Bound), .sl 4 (enc rv_0.g.Nodes), .sl 4 (enc rv_0.g.Edges), .sl 1 (enc rv_0.table), .osl 3 6 (0) (rv_0.past.points.length), .osl 4 2 (0) (rv_0.past.in_.length), .v (.int .i64 b_4), .osl 5 8 (0) (rv_0.waves.length), .osl 6 4 (0) (rv_0.outs.length)]), (3, .arr 6 (enc rv_0.past.points)), (4, .arr 2 (enc rv_0.past.in_)), (5, .arr 8 (enc rv_0.waves)), (6, .arr 4 (enc rv_0.outs)), (7, .box (Row.row p_0)), (8, .box (Row.row v_1.1)), (9, .arr 6 (enc a_20)), (10, .arr 2 (enc a_21)), (11, .box (Row.row xv_19)), (12, .box [.v (.int .i64 xv_19.To), .v (.int .i64 v_1.1.D), .v (.int .i64 v_1.1.C.a0), .v (.int .i64 v_1.1.C.a1), .v (.int .i64 v_1.1.C.a2), .v (.int .i64 v_1.1.C.a3)])] 13 (.tup []) ?_ ?_
       · exact leA
       refine q17 ?_; simp only [go_sem]; exact au
      ·
       refine j4 (q8 Q19 (sg fun _ Q21 => ?_)); refine x9 ?_; refine j83 ?_; obtain ⟨v_24, ev_24, h⟩ := z8 h; simp only [go_sem]; refine qm5 (q9o a_20 (⟨xv_19.To, v_1.1⟩ : GPoint) v_24 ev_24) ?_; simp only [go_sem]; refine q8 Q21 (q14 (fun ((i_5, a_22, a_23) : Int × (List GPoint) × (List (Arr2 (List GItem)))) => q0o out_0 t75_3 b_4 (w9 (q1l rv_0 p_0 out_0 v_1) m_3) xv_19 i_5 a_22 a_23 = some r) [0, 2, 3] (fun x => ([(8, .v (.int .i64 x.1))], [(0, .box [.osl 12 6 (0) (x.2.1.length), .osl 13 2 (0) (x.2.2.length), .sl 1 (enc rv_0.g.Parent), .sl 1 (enc rv_0.g.Bound), .sl 4 (enc rv_0.g.Nodes), .sl 4 (enc rv_0.g.Edges), .sl 1 (enc rv_0.table), .osl 3 6 (0) (rv_0.past.points.length), .osl 4 2 (0) (rv_0.past.in_.length), .v (.int .i64 b_4), .osl 5 8 (0) (rv_0.waves.length), .osl 6 4 (0) (rv_0.outs.length)]), (3, .arr 6 (enc rv_0.past.points)), (4, .arr 2 (enc rv_0.past.in_)), (5, .arr 8 (enc rv_0.waves)), (6, .arr 4 (enc rv_0.outs)), (7, .box (Row.row p_0)), (8, .box (Row.row v_1.1)), (11, .box (Row.row xv_19)), (12, .arr 6 (enc x.2.1)), (13, .arr 2 (enc x.2.2))])) 14 ?_ ?_)
       ·
        intro _ Q22; refine sM ?_; refine sB h (fun _ h => ?_) fun _ h => ?_
        ·
         refine sM ?_; refine sg fun _ Q25 => ?_; refine x9 ?_; refine q27 8 0 0 [0, 0, 2, 6, 14, 0, 32, 126, 255, 511, 1023] [9, 13] [0] [] [7] [] mixed (by kernel_rfl) (of_decide_eq_true (by kernel_rfl)) (by kernel_rfl) (by kernel_rfl) (by rfl) ?_; have rf_56 : [[.v (.int .i64 xv_19.To), .v (.int .i64 v_1.1.D), .v (.int .i64 v_1.1.C.a0), .v (.int .i64 v_1.1.C.a1), .v (.int .i64 v_1.1.C.a2), .v (.int .i64 v_1.1.C.a3)]] = enc ([(⟨xv_19.To, v_1.1⟩ : GPoint)] : List GPoint) := by rfl
         obtain ⟨g_37, h⟩ := q02 h; have F := And.intro F g_37; simp only [List.length_cons, List.length_nil, Nat.zero_add, List.length_append] at g_37; have rf_57 : enc a_20 ++ [[.v (.int .i64 xv_19.To), .v (.int .i64 v_1.1.D), .v (.int .i64 v_1.1.C.a0), .v (.int .i64 v_1.1.C.a1), .v (.int .i64 v_1.1.C.a2), .v (.int .i64 v_1.1.C.a3)]] = enc (a_20 ++ ([(⟨xv_19.To, v_1.1⟩ : GPoint)] : List GPoint)) := by exact (q19 a_20 ([(⟨xv_19.To, v_1.1⟩ : GPoint)] : List GPoint)).symm
         simp only [go_sem, g_37, rf_57]; simp only [rf_56]; refine q8 Q25 ?_; have rf_58 : [[.sl 3 (enc ([] : List GItem)), .sl 3 (enc ([] : List GItem))]] = enc ([(⟨([] : List GItem), ([] : List GItem)⟩ : Arr2 (List GItem))] : List (Arr2 (List GItem))) := by rfl
         have rf_58n := rf_58; simp only [q1p] at rf_58n; obtain ⟨g_38, h⟩ := q02 h; have F := And.intro F g_38; simp only [List.length_cons, List.length_nil, Nat.zero_add, List.length_append] at g_38; have rf_59 : enc a_21 ++ [[.sl 3 (enc ([] : List GItem)), .sl 3 (enc ([] : List GItem))]] = enc (a_21 ++ ([(⟨([] : List GItem), ([] : List GItem)⟩ : Arr2 (List GItem))] : List (Arr2 (List GItem)))) := by exact (q19 a_21 ([(⟨([] : List GItem), ([] : List GItem)⟩ : Arr2 (List GItem))] : List (Arr2 (List GItem)))).symm
         simp only [go_sem, g_38, rf_59]; simp only [rf_58n, rf_58]; exact au
        · exact au
       ·
        rintro ⟨i_5, a_22, a_23⟩ h
        try dsimp only at h
        rw [q0o] at h; refine x9 ?_; refine j83 ?_; obtain ⟨xv_20, F, h⟩ := bI F h; obtain ⟨F, h⟩ := bG F h; obtain ⟨xv_21, ex21, h⟩ := z8 h; obtain ⟨f21a, f21b, f21c, fxv_21d⟩ := q3e (f := (fun y => AV.sl 3 (enc y))) [] [] ex21; simp only [List.cons_append, List.nil_append, List.append_nil, List.map_cons, List.map_nil, List.length_cons, List.length_nil, Nat.zero_add, Nat.reduceAdd] at f21b f21c fxv_21d; obtain ⟨v_25, ev_25, h⟩ := z8 h; simp only [go_sem, f21a, f21b, f21c, fxv_21d, F]; refine And.intro (by first | omega | (intros; simp_all; done)) ?_; refine And.intro (by first | omega | (intros; simp_all; done)) ?_; refine And.intro (by first | omega | (intros; simp_all; done)) ?_; simp only [List.getD_eq_getElem?_getD, Nat.mul_one, fxv_21d, Option.map_some, Option.getD_some, true_and]; simp only [go_sem, f21a, f21b, f21c, fxv_21d, List.getD_eq_getElem?_getD, Nat.mul_one, fxv_21d, Option.map_some, Option.getD_some, true_and, F]; refine callq (fun _ => (z0a xv_21 out_0 v_25 ev_25)) (by rfl) (by rfl) ?_; obtain ⟨F, h⟩ := bG F h; obtain ⟨w_10, ew_10, h⟩ := z8 h; obtain ⟨w_11, ew_11, h⟩ := z8 h; have sf_5 := qh2 (f := (fun y => AV.sl 3 (enc y))) [] [] [xv_20.a0, xv_20.a1] [w_10, w_11] (xv_19.Port.toNat) v_25 (by simp only [List.length_cons, List.length_nil]; omega) (by simp only [List.mapIdx_cons, List.mapIdx_nil, Nat.zero_add, Nat.reduceAdd, Option.some.inj ew_10, Option.some.inj ew_11]); simp only [List.cons_append, List.nil_append, List.append_nil, List.map_cons, List.map_nil, List.length_cons, List.length_nil, Nat.zero_add, Nat.reduceAdd, q3a, Nat.add_assoc, q1p] at sf_5; have sf_5d := sf_5; simp only [List.drop_succ_cons] at sf_5d; have rf_55 : (enc a_23).set (i_5.toNat) [.sl 3 (enc w_10), .sl 3 (enc w_11)] = enc (List.set a_23 (i_5.toNat) (⟨w_10, w_11⟩ : Arr2 (List GItem))) := by exact q2v a_23 (i_5.toNat) (⟨w_10, w_11⟩ : Arr2 (List GItem))
        simp only [go_sem, sf_5d, sf_5, Nat.mul_one, rf_55, F]; refine ai ?_; refine ai ?_; refine q0u [some 12, some 13] [(0, .box [.osl 12 6 (0) (a_22.length), .osl 13 2 (0) (a_23.length), .sl 1 (enc rv_0.g.Parent), .sl 1 (enc rv_0.g.Bound), .sl 4 (enc rv_0.g.Nodes), .sl 4 (enc rv_0.g.Edges), .sl 1 (enc rv_0.table), .osl 3 6 (0) (rv_0.past.points.length), .osl 4 2 (0) (rv_0.past.in_.length), .v (.int .i64 b_4), .osl 5 8 (0) (rv_0.waves.length), .osl 6 4 (0) (rv_0.outs.length)]), (3, .arr 6 (enc rv_0.past.points)), (4, .arr 2 (enc rv_0.past.in_)), (5, .arr 8 (enc rv_0.waves)), (6, .arr 4 (enc rv_0.outs)), (7, .box (Row.row p_0)), (8, .box (Row.row v_1.1)), (11, .box (Row.row xv_19)), (12, .arr 6 (enc a_22)), (13, .arr 2 (enc (List.set a_23 (i_5.toNat) (⟨w_10, w_11⟩ : Arr2 (List GItem)))))] 14 (.tup []) ?_ ?_
        · exact leA
        refine q17 ?_; simp only [go_sem]; exact au
     · exact au
    · exact au
   ·
    rintro ⟨b_2, a_12, a_13⟩ h
    try dsimp only at h
    rw [q1j] at h; exact au
def q09 (xv_0 : GPoint) (xv_1 : Arr2 (List GItem)) (ports_0 : List (List GItem)) (b_0 : List Int) (b_1 : List Int) (b_2 : List GNode) (b_3 : List GEdge) (b_4 : List (List (List GHop))) (b_5 : Int) (a_2 : List GPoint) (a_3 : List (Arr2 (List GItem))) (a_4 : List GPoint) (a_5 : List (Arr2 (List GItem))) (a_6 : List GWave) (a_7 : List GOut) : Option (Bool × GWave_runner) :=
 q9 (idx b_2 xv_0.Node) (fun xv_4 =>
 q9 (qy6 xv_4 ports_0) (fun v_6 =>
 (if (!v_6.2) = true then some (false, (⟨(⟨a_2, a_3⟩ : GWave_pool), (⟨b_0, b_1, b_2, b_3⟩ : GGraph), b_4, (⟨a_4, a_5⟩ : GWave_pool), b_5, a_6, a_7⟩ : GWave_runner))
 else q9 (qb3 xv_1.a0) (fun v_7 =>
 q9 (qb3 xv_1.a1) (fun v_8 =>
 q9 (q1r (⟨(⟨a_2, a_3⟩ : GWave_pool), (⟨b_0, b_1, b_2, b_3⟩ : GGraph), b_4, (⟨a_4, a_5⟩ : GWave_pool), b_5, a_6, a_7⟩ : GWave_runner) xv_0 v_6.1) (fun v_9 =>
 y5 ((v_9.2.waves.length + List.length ([(⟨xv_0, i64.wrap (v_7 + v_8), v_9.1⟩ : GWave)] : List GWave)) * 64 ≤ 140737488355328) (
 some (true, (⟨v_9.2.pool, v_9.2.g, v_9.2.table, v_9.2.past, v_9.2.work, (v_9.2.waves ++ ([(⟨xv_0, i64.wrap (v_7 + v_8), v_9.1⟩ : GWave)] : List GWave)), v_9.2.outs⟩ : GWave_runner)))))))))
def q0r (rv_0 : GWave_runner) (xv_0 : GPoint) (xv_1 : Arr2 (List GItem)) (v_0 : List GPoint) (v_1 : List (Arr2 (List GItem))) (i_2 : Int) (a_8 : List GPoint) (a_9 : List (Arr2 (List GItem))) : Option (Bool × GWave_runner) :=
 q9 (idx a_9 i_2) (fun xv_6 =>
 q9 (qg8 xv_6.a0 xv_1.a0) (fun v_12 =>
 q9 (q0q (⟨(⟨v_0, v_1⟩ : GWave_pool), rv_0.g, rv_0.table, (⟨a_8, (List.set a_9 (i_2.toNat) (⟨v_12, xv_6.a1⟩ : Arr2 (List GItem)))⟩ : GWave_pool), rv_0.work, rv_0.waves, rv_0.outs⟩ : GWave_runner) xv_0) (fun v_13 =>
 q09 xv_0 xv_1 ([xv_1.a0, v_13.1] : List (List GItem)) v_13.2.g.Parent v_13.2.g.Bound v_13.2.g.Nodes v_13.2.g.Edges v_13.2.table v_13.2.work v_13.2.pool.points v_13.2.pool.in_ v_13.2.past.points v_13.2.past.in_ v_13.2.waves v_13.2.outs)))
def q1t (rv_0 : GWave_runner) (i_0 : Int) : Option (Bool × GWave_runner) :=
 q9 (idx rv_0.pool.points i_0) (fun xv_0 =>
 q9 (idx rv_0.pool.in_ i_0) (fun xv_1 =>
 q9 (qi7 rv_0.pool.points i_0 (i64.wrap (i_0 + 1))) (fun v_0 =>
 q9 (qi8 rv_0.pool.in_ i_0 (i64.wrap (i_0 + 1))) (fun (v_1 : List (Arr2 (List GItem))) =>
 y5 (0 ≤ 0 ∧ 0 ≤ 2 ∧ 2 ≤ 2) (
 q9 (idx rv_0.g.Nodes xv_0.Node) (fun xv_5 =>
 (if (xv_5.Kind == 14) = true then (if ((xv_1.a0.length : Int) == 0) = true then q9 (q0q (⟨(⟨v_0, v_1⟩ : GWave_pool), rv_0.g, rv_0.table, rv_0.past, rv_0.work, rv_0.waves, rv_0.outs⟩ : GWave_runner) xv_0) (fun v_10 =>
 q09 xv_0 xv_1 ([xv_1.a0, v_10.1] : List (List GItem)) v_10.2.g.Parent v_10.2.g.Bound v_10.2.g.Nodes v_10.2.g.Edges v_10.2.table v_10.2.work v_10.2.pool.points v_10.2.pool.in_ v_10.2.past.points v_10.2.past.in_ v_10.2.waves v_10.2.outs)
 else q9 (q6b rv_0.past.points xv_0) (fun v_11 =>
 (if (decide (v_11 < 0)) = true then y5 ((rv_0.past.points.length + List.length ([xv_0] : List GPoint)) * 48 ≤ 140737488355328) (
 y5 ((rv_0.past.in_.length + List.length ([(⟨([] : List GItem), ([] : List GItem)⟩ : Arr2 (List GItem))] : List (Arr2 (List GItem)))) * 48 ≤ 140737488355328) (
 q0r rv_0 xv_0 xv_1 v_0 v_1 (rv_0.past.points.length : Int) (rv_0.past.points ++ ([xv_0] : List GPoint)) (rv_0.past.in_ ++ ([(⟨([] : List GItem), ([] : List GItem)⟩ : Arr2 (List GItem))] : List (Arr2 (List GItem))))))
 else q0r rv_0 xv_0 xv_1 v_0 v_1 v_11 rv_0.past.points rv_0.past.in_)))
 else q09 xv_0 xv_1 ([xv_1.a0, xv_1.a1] : List (List GItem)) rv_0.g.Parent rv_0.g.Bound rv_0.g.Nodes rv_0.g.Edges rv_0.table rv_0.work v_0 v_1 rv_0.past.points rv_0.past.in_ rv_0.waves rv_0.outs)))))))
theorem q79 (rv_0 : GWave_runner) (i_0 : Int)  (r : Bool × GWave_runner) (h : q1t rv_0 i_0 = some r) : DetS pp 28 [.ptr 0 0, .v (.int .i64 i_0)] [(0, .box [.osl 1 6 (0) (rv_0.pool.points.length), .osl 2 2 (0) (rv_0.pool.in_.length), .sl 1 (enc rv_0.g.Parent), .sl 1 (enc rv_0.g.Bound), .sl 4 (enc rv_0.g.Nodes), .sl 4 (enc rv_0.g.Edges), .sl 1 (enc rv_0.table), .osl 3 6 (0) (rv_0.past.points.length), .osl 4 2 (0) (rv_0.past.in_.length), .v (.int .i64 rv_0.work), .osl 5 8 (0) (rv_0.waves.length), .osl 6 4 (0) (rv_0.outs.length)]), (1, .arr 6 (enc rv_0.pool.points)), (2, .arr 2 (enc rv_0.pool.in_)), (3, .arr 6 (enc rv_0.past.points)), (4, .arr 2 (enc rv_0.past.in_)), (5, .arr 8 (enc rv_0.waves)), (6, .arr 4 (enc rv_0.outs))] 7 (.v (.bool r.1)) [(0, .box [.osl 7 6 (0) (r.2.pool.points.length), .osl 8 2 (0) (r.2.pool.in_.length), .sl 1 (enc r.2.g.Parent), .sl 1 (enc r.2.g.Bound), .sl 4 (enc r.2.g.Nodes), .sl 4 (enc r.2.g.Edges), .sl 1 (enc r.2.table), .osl 9 6 (0) (r.2.past.points.length), .osl 10 2 (0) (r.2.past.in_.length), .v (.int .i64 r.2.work), .osl 11 8 (0) (r.2.waves.length), .osl 12 4 (0) (r.2.outs.length)]), (7, .arr 6 (enc r.2.pool.points)), (8, .arr 2 (enc r.2.pool.in_)), (9, .arr 6 (enc r.2.past.points)), (10, .arr 2 (enc r.2.past.in_)), (11, .arr 8 (enc r.2.waves)), (12, .arr 4 (enc r.2.outs))] 13 := by
  unfold DetS; refine Spec.of_vc Tryz.func28 rfl (by kernel_rfl) (by kernel_rfl) ?_; rw [q1t] at h; refine sg fun _ Q1 => ?_; simp only [go_sem]; refine q8 Q1 (sg fun _ Q2 => ?_); obtain ⟨xv_0, ex0, h⟩ := z8 h; obtain ⟨f0a, f0b, f0c⟩ := q4u ex0; simp only [go_sem, f0a, f0b, f0c]; refine And.intro (by omega) ?_; refine q8 Q2 (sg fun _ Q3 => ?_); simp only [go_sem]; refine q4g Tryz.func57 rfl (by kernel_rfl) (by kernel_rfl) ?_; refine sg fun _ Q4 => ?_; simp only [go_sem]; refine q8 Q4 (sg fun _ Q5 => ?_); obtain ⟨xv_1, ex1, h⟩ := z8 h; obtain ⟨f1a, f1b, f1c⟩ := q4u ex1; simp only [go_sem, f1a, f1b, f1c]; refine And.intro (by omega) ?_; refine q8 Q5 (sg fun _ Q6 => ?_); obtain ⟨v_0, ev_0, h⟩ := z8 h; simp only [go_sem]; refine qa8 [1] (qu1 rv_0.pool.points i_0 (i64.wrap (i_0 + 1)) v_0 ev_0) (by simp) rfl ⟨rfl, trivial⟩ rfl rfl rfl rfl ?_; simp only [go_sem]; refine q8 Q6 (sg fun _ Q7 => ?_); obtain ⟨v_1, ev_1, h⟩ := z8 h; simp only [go_sem]; refine qa8 [2] (qu3 rv_0.pool.in_ i_0 (i64.wrap (i_0 + 1)) v_1 ev_1) (by simp) rfl ⟨rfl, trivial⟩ rfl rfl rfl rfl ?_; simp only [go_sem]; refine q8 Q7 (sg fun _ Q8 => ?_); simp only [go_sem]; refine q8 Q8 (q00 ?_); simp only [go_sem]
  refine q0u [some 8, some 9, some 10, some 11] [(0, .box [.osl 10 6 (0) (v_0.length), .osl 11 2 (0) (v_1.length), .sl 1 (enc rv_0.g.Parent), .sl 1 (enc rv_0.g.Bound), .sl 4 (enc rv_0.g.Nodes), .sl 4 (enc rv_0.g.Edges), .sl 1 (enc rv_0.table), .osl 3 6 (0) (rv_0.past.points.length), .osl 4 2 (0) (rv_0.past.in_.length), .v (.int .i64 rv_0.work), .osl 5 8 (0) (rv_0.waves.length), .osl 6 4 (0) (rv_0.outs.length)]), (3, .arr 6 (enc rv_0.past.points)), (4, .arr 2 (enc rv_0.past.in_)), (5, .arr 8 (enc rv_0.waves)), (6, .arr 4 (enc rv_0.outs)), (7, .box [.v (.int .i64 xv_0.Node), .v (.int .i64 xv_0.Time.D), .v (.int .i64 xv_0.Time.C.a0), .v (.int .i64 xv_0.Time.C.a1), .v (.int .i64 xv_0.Time.C.a2), .v (.int .i64 xv_0.Time.C.a3)]), (8, .box [.sl 3 (enc xv_1.a0), .sl 3 (enc xv_1.a1)]), (9, .box [.sl 3 (enc xv_1.a0), .sl 3 (enc xv_1.a1)]), (10, .arr 6 (enc v_0)), (11, .arr 2 (enc v_1))] 12 (.agg [.sl 3 (enc xv_1.a0), .sl 3 (enc xv_1.a1)]) ?_ ?_
  · simp only [go_sem, Le] <;> (repeat' apply And.intro) <;> (try with_reducible refine q0j ?_) <;> first | omega | (simp [go_sem]; done)
  refine q17 ?_; simp only [go_sem]; refine q8 Q3 (sg fun _ Q9 => ?_); obtain ⟨g_0, h⟩ := q02 h; simp only [go_sem, g_0]; refine q8 Q9 (z3b (by kernel_rfl) ?_); refine z2p (ι := (List (List GItem)) × (List Int) × (List Int) × (List GNode) × (List GEdge) × (List (List (List GHop))) × Int × (List GPoint) × (List (Arr2 (List GItem))) × (List GPoint) × (List (Arr2 (List GItem))) × (List GWave) × (List GOut)) (fun ((ports_0, b_0, b_1, b_2, b_3, b_4, b_5, a_2, a_3, a_4, a_5, a_6, a_7) : (List (List GItem)) × (List Int) × (List Int) × (List GNode) × (List GEdge) × (List (List (List GHop))) × Int × (List GPoint) × (List (Arr2 (List GItem))) × (List GPoint) × (List (Arr2 (List GItem))) × (List GWave) × (List GOut)) => (⟨7, [(0, .ptr 0 0), (5, .ptr 7 0), (6, .el 2 [[.sl 3 (enc xv_1.a0), .sl 3 (enc xv_1.a1)]] 0 0), (7, .sl 1 (enc ports_0))], [(0, .box [.osl 8 6 (0) (a_2.length), .osl 9 2 (0) (a_3.length), .sl 1 (enc b_0), .sl 1 (enc b_1), .sl 4 (enc b_2), .sl 4 (enc b_3), .sl 1 (enc b_4), .osl 10 6 (0) (a_4.length), .osl 11 2 (0) (a_5.length), .v (.int .i64 b_5), .osl 12 8 (0) (a_6.length), .osl 13 4 (0) (a_7.length)]), (7, .box [.v (.int .i64 xv_0.Node), .v (.int .i64 xv_0.Time.D), .v (.int .i64 xv_0.Time.C.a0), .v (.int .i64 xv_0.Time.C.a1), .v (.int .i64 xv_0.Time.C.a2), .v (.int .i64 xv_0.Time.C.a3)]), (8, .arr 6 (enc a_2)), (9, .arr 2 (enc a_3)), (10, .arr 6 (enc a_4)), (11, .arr 2 (enc a_5)), (12, .arr 8 (enc a_6)), (13, .arr 4 (enc a_7))], 14, 89⟩ : St)) (fun ((ports_0, b_0, b_1, b_2, b_3, b_4, b_5, a_2, a_3, a_4, a_5, a_6, a_7) : (List (List GItem)) × (List Int) × (List Int) × (List GNode) × (List GEdge) × (List (List (List GHop))) × Int × (List GPoint) × (List (Arr2 (List GItem))) × (List GPoint) × (List (Arr2 (List GItem))) × (List GWave) × (List GOut)) => q09 xv_0 xv_1 ports_0 b_0 b_1 b_2 b_3 b_4 b_5 a_2 a_3 a_4 a_5 a_6 a_7 = some r) ?_ ?_
  ·
    intro _ Q18; refine sg fun _ Q19 => ?_; refine x9 ?_; refine j83 ?_; obtain ⟨xv_5, ex5, h⟩ := z8 h; obtain ⟨f5a, f5b, f5c⟩ := q4u ex5; simp only [go_sem, f5a, f5b, f5c]; refine And.intro (by omega) ?_; refine q8 Q19 ?_; refine qf3 (b := (xv_5.Kind == 14)) (by (simp only [go_sem]; done)) (fun hb_5 => ?_) (fun hb_5 => ?_)
    ·
      replace h := q21 h hb_5; simp only [bool_to_prop] at hb_5; refine sg fun _ Q20 => ?_; refine x9 ?_; refine j83 ?_; simp only [go_sem]; refine q4g Tryz.func26 rfl (by kernel_rfl) (by kernel_rfl) ?_; refine sg fun _ Q21 => ?_; simp only [go_sem]; refine q8 Q21 (sg fun _ Q22 => ?_); refine sg fun _ Q23 => ?_; simp only [go_sem]; refine q8 Q23 ?_; refine qf3 (b := ((xv_1.a0.length : Int) == 0)) (by (simp only [go_sem]; done)) (fun hb_6 => ?_) (fun hb_6 => ?_)
      ·
        replace h := q21 h hb_6; simp only [bool_to_prop] at hb_6; refine q00 (q0k Q22 ?_); simp only [go_sem]; refine q0u [some 13] [(0, .box [.osl 10 6 (0) (v_0.length), .osl 11 2 (0) (v_1.length), .sl 1 (enc rv_0.g.Parent), .sl 1 (enc rv_0.g.Bound), .sl 4 (enc rv_0.g.Nodes), .sl 4 (enc rv_0.g.Edges), .sl 1 (enc rv_0.table), .osl 3 6 (0) (rv_0.past.points.length), .osl 4 2 (0) (rv_0.past.in_.length), .v (.int .i64 rv_0.work), .osl 5 8 (0) (rv_0.waves.length), .osl 6 4 (0) (rv_0.outs.length)]), (3, .arr 6 (enc rv_0.past.points)), (4, .arr 2 (enc rv_0.past.in_)), (5, .arr 8 (enc rv_0.waves)), (6, .arr 4 (enc rv_0.outs)), (7, .box [.v (.int .i64 xv_0.Node), .v (.int .i64 xv_0.Time.D), .v (.int .i64 xv_0.Time.C.a0), .v (.int .i64 xv_0.Time.C.a1), .v (.int .i64 xv_0.Time.C.a2), .v (.int .i64 xv_0.Time.C.a3)]), (8, .box [.sl 3 (enc xv_1.a0), .sl 3 (enc xv_1.a1)]), (9, .box [.sl 3 (enc xv_1.a0), .sl 3 (enc xv_1.a1)]), (10, .arr 6 (enc v_0)), (11, .arr 2 (enc v_1)), (12, .box [.sl 3 (enc xv_1.a0), .sl 3 (enc xv_1.a1)]), (13, .box [.v (.int .i64 xv_0.Node), .v (.int .i64 xv_0.Time.D), .v (.int .i64 xv_0.Time.C.a0), .v (.int .i64 xv_0.Time.C.a1), .v (.int .i64 xv_0.Time.C.a2), .v (.int .i64 xv_0.Time.C.a3)])] 14 (.tup []) ?_ ?_
        · simp only [go_sem, Le] <;> (repeat' apply And.intro) <;> (try with_reducible refine q0j ?_) <;> first | omega | (simp [go_sem]; done)
        refine q17 ?_; simp only [go_sem]; refine q8 Q20 (x9 ?_); refine q27 5 0 0 [0, 1, 0, 0, 12, 31, 63] [0, 3, 4, 5, 6, 10, 11, 14, 15, 16, 17, 18, 19, 20] [0, 1] [] [4] [] mixed (by kernel_rfl) (of_decide_eq_true (by kernel_rfl)) (by kernel_rfl) (by kernel_rfl) (by rfl) ?_; obtain ⟨v_10, ev_10, h⟩ := z8 h; simp only [go_sem]; refine zd9 [0, 10, 11, 3, 4, 5, 6] (q2k (⟨(⟨v_0, v_1⟩ : GWave_pool), rv_0.g, rv_0.table, rv_0.past, rv_0.work, rv_0.waves, rv_0.outs⟩ : GWave_runner) xv_0 v_10 ev_10) rfl ⟨rfl, ⟨rfl, ⟨rfl, ⟨rfl, ⟨rfl, ⟨rfl, ⟨rfl, trivial⟩⟩⟩⟩⟩⟩⟩ rfl rfl rfl rfl ?_; have rf_13 : [[.sl 3 (enc xv_1.a0)], [.sl 3 (enc v_10.1)]] = enc ([xv_1.a0, v_10.1] : List (List GItem)) := by rfl
        simp only [go_sem]; refine y9 Q18 (⟨(([xv_1.a0, v_10.1] : List (List GItem)), v_10.2.g.Parent, v_10.2.g.Bound, v_10.2.g.Nodes, v_10.2.g.Edges, v_10.2.table, v_10.2.work, v_10.2.pool.points, v_10.2.pool.in_, v_10.2.past.points, v_10.2.past.in_, v_10.2.waves, v_10.2.outs), [some 7, some 15, some 16, some 17, some 18, some 19, some 20], ?_, h⟩); simp only [go_sem, Le] <;> (repeat' apply And.intro) <;> (try with_reducible refine q0j ?_) <;> first | omega | (simp [go_sem]; done) | ((try with_reducible refine q0j ?_); (simp [go_sem, enc, q5o]; done))
      ·
        replace h := q23 h hb_6; simp only [bool_to_prop] at hb_6; refine j4 (q8 Q22 (sg fun _ Q24 => ?_)); refine x9 ?_; refine j83 ?_; obtain ⟨v_11, ev_11, h⟩ := z8 h; simp only [go_sem]; refine j3v (s' := (⟨13, [(0, .ptr 0 7), (2, .v (.int .i64 0)), (3, .sl 3 (enc xv_1.a0)), (5, .ptr 13 0)], [(0, .box [.osl 10 6 (0) (v_0.length), .osl 11 2 (0) (v_1.length), .sl 1 (enc rv_0.g.Parent), .sl 1 (enc rv_0.g.Bound), .sl 4 (enc rv_0.g.Nodes), .sl 4 (enc rv_0.g.Edges), .sl 1 (enc rv_0.table), .sl 6 (enc rv_0.past.points), .osl 4 2 (0) (rv_0.past.in_.length), .v (.int .i64 rv_0.work), .osl 5 8 (0) (rv_0.waves.length), .osl 6 4 (0) (rv_0.outs.length)]), (4, .arr 2 (enc rv_0.past.in_)), (5, .arr 8 (enc rv_0.waves)), (6, .arr 4 (enc rv_0.outs)), (7, .box [.v (.int .i64 xv_0.Node), .v (.int .i64 xv_0.Time.D), .v (.int .i64 xv_0.Time.C.a0), .v (.int .i64 xv_0.Time.C.a1), .v (.int .i64 xv_0.Time.C.a2), .v (.int .i64 xv_0.Time.C.a3)]), (8, .box [.sl 3 (enc xv_1.a0), .sl 3 (enc xv_1.a1)]), (9, .box [.sl 3 (enc xv_1.a0), .sl 3 (enc xv_1.a1)]), (10, .arr 6 (enc v_0)), (11, .arr 2 (enc v_1)), (12, .box [.sl 3 (enc xv_1.a0), .sl 3 (enc xv_1.a1)]), (13, .box [.v (.int .i64 xv_0.Node), .v (.int .i64 xv_0.Time.D), .v (.int .i64 xv_0.Time.C.a0), .v (.int .i64 xv_0.Time.C.a1), .v (.int .i64 xv_0.Time.C.a2), .v (.int .i64 xv_0.Time.C.a3)])], 14, 64⟩ : St)) (l := [some 13]) (args' := [.sl 6 (enc rv_0.past.points), .agg [.v (.int .i64 xv_0.Node), .v (.int .i64 xv_0.Time.D), .v (.int .i64 xv_0.Time.C.a0), .v (.int .i64 xv_0.Time.C.a1), .v (.int .i64 xv_0.Time.C.a2), .v (.int .i64 xv_0.Time.C.a3)]]) ?_ ?_ (q9o rv_0.past.points xv_0 v_11 ev_11) (by rfl) (by rfl) ?_
        · simp only [go_sem, Le] <;> (repeat' apply And.intro) <;> (try with_reducible refine q0j ?_) <;> first | omega | (simp [go_sem]; done)
        · simp only [go_sem, Le] <;> (repeat' apply And.intro) <;> ((try with_reducible refine q0j ?_); (simp [go_sem]; done))
        simp only [go_sem]; refine q8 Q24 (z3b (by kernel_rfl) ?_); refine z2p (ι := Int × (List GPoint) × (List (Arr2 (List GItem)))) (fun ((i_2, a_8, a_9) : Int × (List GPoint) × (List (Arr2 (List GItem)))) => (⟨13, [(0, .ptr 0 7), (2, .v (.int .i64 0)), (3, .sl 3 (enc xv_1.a0)), (8, .v (.int .i64 i_2))], [(0, .box [.osl 10 6 (0) (v_0.length), .osl 11 2 (0) (v_1.length), .sl 1 (enc rv_0.g.Parent), .sl 1 (enc rv_0.g.Bound), .sl 4 (enc rv_0.g.Nodes), .sl 4 (enc rv_0.g.Edges), .sl 1 (enc rv_0.table), .osl 13 6 (0) (a_8.length), .osl 14 2 (0) (a_9.length), .v (.int .i64 rv_0.work), .osl 5 8 (0) (rv_0.waves.length), .osl 6 4 (0) (rv_0.outs.length)]), (5, .arr 8 (enc rv_0.waves)), (6, .arr 4 (enc rv_0.outs)), (7, .box [.v (.int .i64 xv_0.Node), .v (.int .i64 xv_0.Time.D), .v (.int .i64 xv_0.Time.C.a0), .v (.int .i64 xv_0.Time.C.a1), .v (.int .i64 xv_0.Time.C.a2), .v (.int .i64 xv_0.Time.C.a3)]), (8, .box [.sl 3 (enc xv_1.a0), .sl 3 (enc xv_1.a1)]), (9, .box [.sl 3 (enc xv_1.a0), .sl 3 (enc xv_1.a1)]), (10, .arr 6 (enc v_0)), (11, .arr 2 (enc v_1)), (12, .box [.sl 3 (enc xv_1.a0), .sl 3 (enc xv_1.a1)]), (13, .arr 6 (enc a_8)), (14, .arr 2 (enc a_9))], 15, 64⟩ : St)) (fun ((i_2, a_8, a_9) : Int × (List GPoint) × (List (Arr2 (List GItem)))) => q0r rv_0 xv_0 xv_1 v_0 v_1 i_2 a_8 a_9 = some r) ?_ ?_
        ·
          intro _ Q25; refine sg fun _ Q26 => ?_; simp only [go_sem]; refine q8 Q26 ?_; refine qf3 (b := (decide (v_11 < 0))) (by (simp only [go_sem]; done)) (fun hb_8 => ?_) (fun hb_8 => ?_)
          ·
            replace h := q21 h hb_8; simp only [bool_to_prop] at hb_8; refine sg fun _ Q27 => ?_; simp only [go_sem]; refine q8 Q27 (sg fun _ Q28 => ?_); refine x9 ?_; refine q27 8 0 0 [0, 0, 2, 6, 14, 0, 32, 126, 255, 511, 1023] [3, 14] [0] [] [7] [] mixed (by kernel_rfl) (of_decide_eq_true (by kernel_rfl)) (by kernel_rfl) (by kernel_rfl) (by rfl) ?_; have rf_20 : [[.v (.int .i64 xv_0.Node), .v (.int .i64 xv_0.Time.D), .v (.int .i64 xv_0.Time.C.a0), .v (.int .i64 xv_0.Time.C.a1), .v (.int .i64 xv_0.Time.C.a2), .v (.int .i64 xv_0.Time.C.a3)]] = enc ([xv_0] : List GPoint) := by rfl
            obtain ⟨g_8, h⟩ := q02 h; simp only [List.length_cons, List.length_nil, Nat.zero_add, List.length_append] at g_8; have rf_21 : enc rv_0.past.points ++ [[.v (.int .i64 xv_0.Node), .v (.int .i64 xv_0.Time.D), .v (.int .i64 xv_0.Time.C.a0), .v (.int .i64 xv_0.Time.C.a1), .v (.int .i64 xv_0.Time.C.a2), .v (.int .i64 xv_0.Time.C.a3)]] = enc (rv_0.past.points ++ ([xv_0] : List GPoint)) := by exact (q19 rv_0.past.points ([xv_0] : List GPoint)).symm
            simp only [go_sem, g_8, rf_21]; simp only [rf_20]; refine q8 Q28 ?_; have rf_22 : [[.sl 3 (enc ([] : List GItem)), .sl 3 (enc ([] : List GItem))]] = enc ([(⟨([] : List GItem), ([] : List GItem)⟩ : Arr2 (List GItem))] : List (Arr2 (List GItem))) := by rfl
            have rf_22n := rf_22; simp only [q1p] at rf_22n; obtain ⟨g_9, h⟩ := q02 h; simp only [List.length_cons, List.length_nil, Nat.zero_add, List.length_append] at g_9; have rf_23 : enc rv_0.past.in_ ++ [[.sl 3 (enc ([] : List GItem)), .sl 3 (enc ([] : List GItem))]] = enc (rv_0.past.in_ ++ ([(⟨([] : List GItem), ([] : List GItem)⟩ : Arr2 (List GItem))] : List (Arr2 (List GItem)))) := by exact (q19 rv_0.past.in_ ([(⟨([] : List GItem), ([] : List GItem)⟩ : Arr2 (List GItem))] : List (Arr2 (List GItem)))).symm
            simp only [go_sem, g_9, rf_23]; simp only [rf_22n, rf_22]; refine y9 Q25 (⟨((rv_0.past.points.length : Int), (rv_0.past.points ++ ([xv_0] : List GPoint)), (rv_0.past.in_ ++ ([(⟨([] : List GItem), ([] : List GItem)⟩ : Arr2 (List GItem))] : List (Arr2 (List GItem))))), [some 14, some 16], ?_, h⟩); simp only [go_sem, Le] <;> (repeat' apply And.intro) <;> first | ((try with_reducible refine q0j ?_); assumption) | ((try with_reducible refine q0j ?_); omega) | ((try with_reducible refine q0j ?_); (simp [go_sem]; done))
          ·
            replace h := q23 h hb_8; simp only [bool_to_prop] at hb_8; refine j4 (y9 Q25 (⟨(v_11, rv_0.past.points, rv_0.past.in_), [some 3, some 4], ?_, h⟩)); simp only [go_sem, Le] <;> (repeat' apply And.intro) <;> (try with_reducible refine q0j ?_) <;> first | omega | (simp [go_sem]; done)
        · rintro ⟨i_2, a_8, a_9⟩ h
          try dsimp only at h
          rw [q0r] at h; refine x9 ?_; refine j83 ?_; obtain ⟨xv_6, ex6, h⟩ := z8 h; obtain ⟨f6a, f6b, f6c⟩ := q4u ex6; obtain ⟨v_12, ev_12, h⟩ := z8 h; simp only [go_sem, f6a, f6b, f6c]; refine And.intro (by omega) ?_; refine callq (fun _ => (z0a xv_6.a0 xv_1.a0 v_12 ev_12)) (by rfl) (by rfl) ?_; have rf_18 : (enc a_9).set (i_2.toNat) [.sl 3 (enc v_12), .sl 3 (enc xv_6.a1)] = enc (List.set a_9 (i_2.toNat) (⟨v_12, xv_6.a1⟩ : Arr2 (List GItem))) := by exact q2v a_9 (i_2.toNat) (⟨v_12, xv_6.a1⟩ : Arr2 (List GItem))
          simp only [go_sem, f6a, f6b, f6c, rf_18]; refine And.intro (by omega) ?_; refine q0u [some 13, some 14] [(0, .box [.osl 10 6 (0) (v_0.length), .osl 11 2 (0) (v_1.length), .sl 1 (enc rv_0.g.Parent), .sl 1 (enc rv_0.g.Bound), .sl 4 (enc rv_0.g.Nodes), .sl 4 (enc rv_0.g.Edges), .sl 1 (enc rv_0.table), .osl 13 6 (0) (a_8.length), .osl 14 2 (0) (a_9.length), .v (.int .i64 rv_0.work), .osl 5 8 (0) (rv_0.waves.length), .osl 6 4 (0) (rv_0.outs.length)]), (5, .arr 8 (enc rv_0.waves)), (6, .arr 4 (enc rv_0.outs)), (7, .box [.v (.int .i64 xv_0.Node), .v (.int .i64 xv_0.Time.D), .v (.int .i64 xv_0.Time.C.a0), .v (.int .i64 xv_0.Time.C.a1), .v (.int .i64 xv_0.Time.C.a2), .v (.int .i64 xv_0.Time.C.a3)]), (8, .box [.sl 3 (enc xv_1.a0), .sl 3 (enc xv_1.a1)]), (9, .box [.sl 3 (enc xv_1.a0), .sl 3 (enc xv_1.a1)]), (10, .arr 6 (enc v_0)), (11, .arr 2 (enc v_1)), (12, .box [.sl 3 (enc xv_1.a0), .sl 3 (enc xv_1.a1)]), (13, .arr 6 (enc a_8)), (14, .arr 2 (enc (List.set a_9 (i_2.toNat) (⟨v_12, xv_6.a1⟩ : Arr2 (List GItem)))))] 15 (.tup []) ?_ ?_
          · simp only [go_sem, Le] <;> (repeat' apply And.intro) <;> (try with_reducible refine q0j ?_) <;> first | omega | (simp [go_sem]; done)
          refine q17 ?_; simp only [go_sem]; refine q8 Q20 (x9 ?_); refine q27 5 0 0 [0, 1, 0, 0, 12, 31, 63] [0, 5, 6, 10, 11, 13, 14, 15, 16, 17, 18, 19, 20, 21] [0, 1] [] [4] [] mixed (by kernel_rfl) (of_decide_eq_true (by kernel_rfl)) (by kernel_rfl) (by kernel_rfl) (by rfl) ?_; obtain ⟨v_13, ev_13, h⟩ := z8 h; simp only [go_sem]; have sp_1 := (q2k (⟨(⟨v_0, v_1⟩ : GWave_pool), rv_0.g, rv_0.table, (⟨a_8, (List.set a_9 (i_2.toNat) (⟨v_12, xv_6.a1⟩ : Arr2 (List GItem)))⟩ : GWave_pool), rv_0.work, rv_0.waves, rv_0.outs⟩ : GWave_runner) xv_0 v_13 ev_13); simp only [List.length_set] at sp_1; refine zd9 [0, 10, 11, 13, 14, 5, 6] sp_1 rfl ⟨rfl, ⟨rfl, ⟨rfl, ⟨rfl, ⟨rfl, ⟨rfl, ⟨rfl, trivial⟩⟩⟩⟩⟩⟩⟩ rfl rfl rfl rfl ?_; have rf_19 : [[.sl 3 (enc xv_1.a0)], [.sl 3 (enc v_13.1)]] = enc ([xv_1.a0, v_13.1] : List (List GItem)) := by rfl
          simp only [go_sem]; refine y9 Q18 (⟨(([xv_1.a0, v_13.1] : List (List GItem)), v_13.2.g.Parent, v_13.2.g.Bound, v_13.2.g.Nodes, v_13.2.g.Edges, v_13.2.table, v_13.2.work, v_13.2.pool.points, v_13.2.pool.in_, v_13.2.past.points, v_13.2.past.in_, v_13.2.waves, v_13.2.outs), [some 7, some 16, some 17, some 18, some 19, some 20, some 21], ?_, h⟩); simp only [go_sem, Le] <;> (repeat' apply And.intro) <;> (try with_reducible refine q0j ?_) <;> first | omega | (simp [go_sem]; done) | ((try with_reducible refine q0j ?_); (simp [go_sem, enc, q5o]; done))
    ·
      replace h := q23 h hb_5; simp only [bool_to_prop] at hb_5; refine j4 (y9 Q18 (⟨(([xv_1.a0, xv_1.a1] : List (List GItem)), rv_0.g.Parent, rv_0.g.Bound, rv_0.g.Nodes, rv_0.g.Edges, rv_0.table, rv_0.work, v_0, v_1, rv_0.past.points, rv_0.past.in_, rv_0.waves, rv_0.outs), [some 7, some 10, some 11, some 3, some 4, some 5, some 6], ?_, h⟩)); simp only [go_sem, Le] <;> (repeat' apply And.intro) <;> (try with_reducible refine q0j ?_) <;> first | omega | (simp [go_sem]; done) | ((try with_reducible refine q0j ?_); (exact ⟨_, rfl, Nat.le_refl _, rfl, rfl⟩))
  · rintro ⟨ports_0, b_0, b_1, b_2, b_3, b_4, b_5, a_2, a_3, a_4, a_5, a_6, a_7⟩ h
    try dsimp only at h
    rw [q09] at h; refine sg fun _ Q10 => ?_; refine x9 ?_; refine j83 ?_; obtain ⟨xv_4, ex4, h⟩ := z8 h; obtain ⟨f4a, f4b, f4c⟩ := q4u ex4; obtain ⟨v_6, ev_6, h⟩ := z8 h; simp only [go_sem, f4a, f4b, f4c]; refine And.intro (by omega) ?_; refine callq (fun _ => (za5 xv_4 ports_0 v_6 ev_6)) (by rfl) (by rfl) ?_; simp only [go_sem]; refine q8 Q10 (sg fun _ Q11 => ?_); refine sg fun _ Q12 => ?_; simp only [go_sem]; refine q8 Q12 ?_; refine qf3 (b := (!v_6.2)) (by (simp only [go_sem]; done)) (fun hb_4 => ?_) (fun hb_4 => ?_)
    ·
      replace h := q21 h hb_4; simp only [bool_to_prop] at hb_4; refine sg fun _ Q13 => ?_; simp only [go_sem]; refine q8 Q13 (q00 (q0k Q11 ?_)); simp only [go_sem]; obtain rfl := Option.some.inj h; refine q69 [some 8, some 9, some 10, some 11, some 12, some 13] ?_; simp only [go_sem, Le] <;> (repeat' apply And.intro) <;> (try with_reducible refine q0j ?_) <;> first | omega | (simp [go_sem]; done)
    ·
      replace h := q23 h hb_4; simp only [bool_to_prop] at hb_4; refine j4 (q8 Q11 (sg fun _ Q14 => ?_)); refine x9 ?_; refine q27 10 0 0 [0, 0, 2, 6, 0, 16, 62, 126, 255, 0, 1023] [14] [0, 1, 2, 3, 4, 5, 6, 7, 8] [] [9] [] mixed (by kernel_rfl) (of_decide_eq_true (by kernel_rfl)) (by kernel_rfl) (by kernel_rfl) (by rfl) ?_; obtain ⟨v_7, ev_7, h⟩ := z8 h; simp only [go_sem]; refine callq (fun _ => (z3m xv_1.a0 v_7 ev_7)) (by rfl) (by rfl) ?_; obtain ⟨v_8, ev_8, h⟩ := z8 h; simp only [go_sem]; refine callq (fun _ => (z3m xv_1.a1 v_8 ev_8)) (by rfl) (by rfl) ?_; simp only [go_sem]; refine q8 Q14 (sg fun _ Q15 => ?_); obtain ⟨v_9, ev_9, h⟩ := z8 h; simp only [go_sem]; refine qa8 [0, 8, 9, 10, 11, 12, 13] (q73 (⟨(⟨a_2, a_3⟩ : GWave_pool), (⟨b_0, b_1, b_2, b_3⟩ : GGraph), b_4, (⟨a_4, a_5⟩ : GWave_pool), b_5, a_6, a_7⟩ : GWave_runner) xv_0 v_6.1 v_9 ev_9) (by simp) rfl ⟨rfl, ⟨rfl, ⟨rfl, ⟨rfl, ⟨rfl, ⟨rfl, ⟨rfl, trivial⟩⟩⟩⟩⟩⟩⟩ rfl rfl rfl rfl ?_; simp only [go_sem]; refine q8 Q15 (sg fun _ Q16 => ?_); refine x9 ?_; refine q27 8 0 0 [0, 0, 2, 6, 14, 0, 32, 126, 255, 511, 1023] [19, 21] [0] [] [7] [] mixed (by kernel_rfl) (of_decide_eq_true (by kernel_rfl)) (by kernel_rfl) (by kernel_rfl) (by rfl) ?_; have rf_11 : [[.v (.int .i64 xv_0.Node), .v (.int .i64 xv_0.Time.D), .v (.int .i64 xv_0.Time.C.a0), .v (.int .i64 xv_0.Time.C.a1), .v (.int .i64 xv_0.Time.C.a2), .v (.int .i64 xv_0.Time.C.a3), .v (.int .i64 (i64.wrap (v_7 + v_8))), .v (.int .i64 v_9.1)]] = enc ([(⟨xv_0, i64.wrap (v_7 + v_8), v_9.1⟩ : GWave)] : List GWave) := by rfl
      obtain ⟨g_5, h⟩ := q02 h; simp only [List.length_cons, List.length_nil, Nat.zero_add, List.length_append] at g_5; have rf_12 : enc v_9.2.waves ++ [[.v (.int .i64 xv_0.Node), .v (.int .i64 xv_0.Time.D), .v (.int .i64 xv_0.Time.C.a0), .v (.int .i64 xv_0.Time.C.a1), .v (.int .i64 xv_0.Time.C.a2), .v (.int .i64 xv_0.Time.C.a3), .v (.int .i64 (i64.wrap (v_7 + v_8))), .v (.int .i64 v_9.1)]] = enc (v_9.2.waves ++ ([(⟨xv_0, i64.wrap (v_7 + v_8), v_9.1⟩ : GWave)] : List GWave)) := by exact (q19 v_9.2.waves ([(⟨xv_0, i64.wrap (v_7 + v_8), v_9.1⟩ : GWave)] : List GWave)).symm
      simp only [go_sem, g_5, rf_12]; simp only [rf_11]; refine q8 Q16 (sg fun _ Q17 => ?_); simp only [go_sem]; refine q8 Q17 (q00 ?_); simp only [go_sem]; obtain rfl := Option.some.inj h; refine q69 [some 15, some 16, some 17, some 18, some 21, some 20] ?_; simp only [go_sem, Le] <;> (repeat' apply And.intro) <;> (try with_reducible refine q0j ?_) <;> first | omega | (simp [go_sem]; done)
def q66 (a_0 : Int) (cmp_0 : GOut → GOut → Option Int) (i_1 : Int) (rec_1 : (Int × (List GOut) → Option (List GOut))) (rec_2 : Int × (List GOut) → Option (List GOut)) : Int × (List GOut) → Option (List GOut) :=
 fun (j_5, a_8) =>
 (if (decide (a_0 < j_5)) = true then q9 (idx a_8 j_5) (fun xv_24 =>
 q9 (idx a_8 (i64.wrap (j_5 - 1))) (fun xv_25 =>
 q9 (cmp_0 xv_24 xv_25) (fun v_8 =>
 (if (decide (v_8 < 0)) = true then q9 (idx (List.set a_8 (j_5.toNat) xv_25) (i64.wrap (j_5 - 1))) (fun xv_26 =>
 rec_2 (i64.wrap (j_5 - 1), (List.set (List.set a_8 (j_5.toNat) xv_25) (Int.toNat (i64.wrap (j_5 - 1))) xv_24)))
 else rec_1 (i64.wrap (i_1 + 1), a_8)))))
 else rec_1 (i64.wrap (i_1 + 1), a_8))
def q67 (a_0 : Int) (b_0 : Int) (cmp_0 : GOut → GOut → Option Int) (rec_1 : Int × (List GOut) → Option (List GOut)) : Int × (List GOut) → Option (List GOut) :=
 fun (i_1, a_6) =>
 (if (decide (i_1 < b_0)) = true then w9 (q66 a_0 cmp_0 i_1 rec_1) rounds (i_1, a_6)
 else some a_6)
def q2d (data_0 : List GOut) (a_0 : Int) (b_0 : Int) (cmp_0 : GOut → GOut → Option Int) : Option (List GOut) :=
 w9 (q67 a_0 b_0 cmp_0) rounds (i64.wrap (a_0 + 1), data_0)
theorem q5v (data_0 : List GOut) (a_0 : Int) (b_0 : Int) (cmp_0 : GOut → GOut → Option Int) (g_cmp_0 : FuncId) (c_cmp_0 : List AV) (F_cmp_0 : q03 c_cmp_0 = true) (E_cmp_0 : y8 pp g_cmp_0 = true) (H_cmp_0 : ∀ (x0 : GOut) (x1 : GOut) (r : Int), cmp_0 x0 x1 = some r → PureS pp g_cmp_0 ([.agg (Row.row x0), .agg (Row.row x1)] ++ c_cmp_0) 0 (.v (.int .i64 r))) (r : List GOut) (h : q2d data_0 a_0 b_0 cmp_0 = some r) : DetS pp 98 [.osl 0 4 (0) (data_0.length), .v (.int .i64 a_0), .v (.int .i64 b_0), .clo g_cmp_0 c_cmp_0] [(0, .arr 4 (enc data_0))] 1 (.tup []) [(0, .arr 4 (enc r))] 1 := by
 refine dtI Tryz.func98 rfl ?_; rw [q2d] at h; have F := trivial; refine sM ?_; refine j3 fun _ Q2 => ?_; refine u6 h [1, 2, 3] (fun x => ([(0, .osl 0 4 (0) (x.2.length)), (8, .v (.int .i64 x.1))], [(0, .arr 4 (enc x.2))])) 1 ?_; rintro m_1 ⟨i_1, a_6⟩ h _ Q3; rw [q67] at h; refine sg fun _ Q4 => ?_; refine sM ?_; refine sB h (fun _ h => ?_) fun _ h => ?_
 ·
  refine j4 (q8 Q4 (jg fun _ Q6 => ?_)); refine j3 fun _ Q7 => ?_; refine sM ?_; refine j3 fun _ Q9 => ?_; refine u6 h [1, 2, 3, 8] (fun x => ([(0, .osl 0 4 (0) (x.2.length)), (9, .v (.int .i64 x.1))], [(0, .arr 4 (enc x.2))])) 1 ?_; rintro m_2 ⟨j_5, a_8⟩ h _ Q10; rw [q66] at h; refine sg fun _ Q11 => ?_; refine sg fun _ Q12 => ?_; refine x9 ?_; refine j83 ?_; simp only [go_sem]; rcases hb_19 : (decide (a_0 < j_5)) with _ | _
  · replace h := q23 h hb_19; simp only [go_sem, hb_19]; refine q8 Q12 (j9o ?_); refine q0h (q1c Q11 (q0i Q10 (q0b Q9 (d9 Q7 (q8 Q6 ?_))))); simp only [go_sem]; refine y9 Q3 ?_; exact nxC _ h [] leA
  ·
   replace h := q21 h hb_19; obtain ⟨xv_24, F, h⟩ := bI F h; obtain ⟨xv_25, F, h⟩ := bI F h; obtain ⟨v_8, ev_8, h⟩ := z8 h; simp only [go_sem, hb_19, E_cmp_0, F]; refine ai ?_; refine ai ?_; refine q9m (H_cmp_0 xv_24 xv_25 v_8 ev_8) (by rfl) (by simp [go_sem, q03, q0a, F_cmp_0]) ?_; simp only [go_sem]; refine q8 Q12 (sB h (fun _ h => ?_) fun _ h => ?_)
   ·
    refine j4 (q8 Q11 (sg fun _ Q13 => ?_)); refine j3 fun _ Q14 => ?_; refine x9 ?_; refine q27 16 0 0 [0, 0, 0, 0, 8, 0, 0, 64, 224, 480, 0, 0, 3072, 7168, 16355, 32739, 65535, 131071] [0] [2, 3, 4] [] [15] [] mixed (by kernel_rfl) (of_decide_eq_true (by kernel_rfl)) (by kernel_rfl) (by kernel_rfl) (by rfl) ?_; have rf_16 : (enc a_8).set (j_5.toNat) [.v (.int .i64 xv_25.Node), .v (.int .i64 xv_25.Epoch), .v (.int .i64 xv_25.Rec.K), .v (.int .i64 xv_25.Rec.V)] = enc (List.set a_8 (j_5.toNat) xv_25) := by exact q2v _ _ _
    obtain ⟨xv_26, F, h⟩ := bI F h; have rf_17 : (enc (List.set a_8 (j_5.toNat) xv_25)).set (Int.toNat (i64.wrap (j_5 - 1))) [.v (.int .i64 xv_24.Node), .v (.int .i64 xv_24.Epoch), .v (.int .i64 xv_24.Rec.K), .v (.int .i64 xv_24.Rec.V)] = enc (List.set (List.set a_8 (j_5.toNat) xv_25) (Int.toNat (i64.wrap (j_5 - 1))) xv_24) := by exact q2v _ _ _
    simp only [go_sem, rf_16, rf_17, F]; refine ai ?_; refine ai ?_; refine ai ?_; refine ai ?_; refine d9 Q14 (q8 Q13 ?_); simp only [go_sem]; refine y9 Q10 ?_; exact nxC _ h [] leA
   · refine q0h (q1c Q11 (q0i Q10 (q0b Q9 (d9 Q7 (q8 Q6 ?_))))); simp only [go_sem]; refine y9 Q3 ?_; exact nxC _ h [] leA
 · refine q0h (q1c Q4 (q0i Q3 (q0b Q2 ?_))); simp only [go_sem]; obtain rfl := Option.some.inj h; refine q69 [] ?_; exact leA
def q7n (a_0 : Int) (b_0 : Int) (nv_0 : Int) (rec_1 : Int × (List GOut) → Option (List GOut)) : Int × (List GOut) → Option (List GOut) :=
 fun (i_1, a_2) =>
 (if (decide (i_1 < nv_0)) = true then q9 (idx a_2 (i64.wrap (b_0 + i_1))) (fun xv_6 =>
 q9 (idx a_2 (i64.wrap (a_0 + i_1))) (fun xv_7 =>
 q9 (idx (List.set a_2 (Int.toNat (i64.wrap (a_0 + i_1))) xv_6) (i64.wrap (b_0 + i_1))) (fun xv_8 =>
 rec_1 (i64.wrap (i_1 + 1), (List.set (List.set a_2 (Int.toNat (i64.wrap (a_0 + i_1))) xv_6) (Int.toNat (i64.wrap (b_0 + i_1))) xv_7)))))
 else some a_2)
def q29 (data_0 : List GOut) (a_0 : Int) (b_0 : Int) (nv_0 : Int) (cmp_0 : GOut → GOut → Option Int) : Option (List GOut) :=
 w9 (q7n a_0 b_0 nv_0) rounds (0, data_0)
theorem q3r (data_0 : List GOut) (a_0 : Int) (b_0 : Int) (nv_0 : Int) (cmp_0 : GOut → GOut → Option Int) (g_cmp_0 : FuncId) (c_cmp_0 : List AV) (F_cmp_0 : q03 c_cmp_0 = true) (E_cmp_0 : y8 pp g_cmp_0 = true) (H_cmp_0 : ∀ (x0 : GOut) (x1 : GOut) (r : Int), cmp_0 x0 x1 = some r → PureS pp g_cmp_0 ([.agg (Row.row x0), .agg (Row.row x1)] ++ c_cmp_0) 0 (.v (.int .i64 r))) (r : List GOut) (h : q29 data_0 a_0 b_0 nv_0 cmp_0 = some r) : DetS pp 146 [.osl 0 4 (0) (data_0.length), .v (.int .i64 a_0), .v (.int .i64 b_0), .v (.int .i64 nv_0), .clo g_cmp_0 c_cmp_0] [(0, .arr 4 (enc data_0))] 1 (.tup []) [(0, .arr 4 (enc r))] 1 := by
 refine dtI Tryz.func146 rfl ?_; rw [q29] at h; have F := trivial; refine sM ?_; refine j3 fun _ Q2 => ?_; refine u6 h [1, 2, 3] (fun x => ([(0, .osl 0 4 (0) (x.2.length)), (10, .v (.int .i64 x.1))], [(0, .arr 4 (enc x.2))])) 1 ?_; rintro m_1 ⟨i_1, a_2⟩ h _ Q3; rw [q7n] at h; refine sg fun _ Q4 => ?_; refine sM ?_; refine sB h (fun _ h => ?_) fun _ h => ?_
 ·
  refine j4 (q8 Q4 (sg fun _ Q6 => ?_)); refine j3 fun _ Q7 => ?_; refine x9 ?_; refine q27 22 0 0 [0, 0, 0, 6, 0, 0, 0, 96, 0, 0, 0, 1536, 3840, 7936, 0, 0, 0, 98304, 245760, 507904, 1048335, 2096911, 4194303, 8388607] [0] [4, 5, 6, 7] [] [21] [] mixed (by kernel_rfl) (of_decide_eq_true (by kernel_rfl)) (by kernel_rfl) (by kernel_rfl) (by rfl) ?_; obtain ⟨xv_6, F, h⟩ := bI F h; obtain ⟨xv_7, F, h⟩ := bI F h; have rf_4 : (enc a_2).set (Int.toNat (i64.wrap (a_0 + i_1))) [.v (.int .i64 xv_6.Node), .v (.int .i64 xv_6.Epoch), .v (.int .i64 xv_6.Rec.K), .v (.int .i64 xv_6.Rec.V)] = enc (List.set a_2 (Int.toNat (i64.wrap (a_0 + i_1))) xv_6) := by exact q2v _ _ _
  obtain ⟨xv_8, F, h⟩ := bI F h; have rf_5 : (enc (List.set a_2 (Int.toNat (i64.wrap (a_0 + i_1))) xv_6)).set (Int.toNat (i64.wrap (b_0 + i_1))) [.v (.int .i64 xv_7.Node), .v (.int .i64 xv_7.Epoch), .v (.int .i64 xv_7.Rec.K), .v (.int .i64 xv_7.Rec.V)] = enc (List.set (List.set a_2 (Int.toNat (i64.wrap (a_0 + i_1))) xv_6) (Int.toNat (i64.wrap (b_0 + i_1))) xv_7) := by exact q2v _ _ _
  simp only [go_sem, rf_4, rf_5, F]; refine ai ?_; refine ai ?_; refine ai ?_; refine ai ?_; refine d9 Q7 (q8 Q6 ?_); simp only [go_sem]; refine y9 Q3 ?_; exact nxC _ h [] leA
 · refine q0h (q1c Q4 (q0i Q3 (q0b Q2 ?_))); simp only [go_sem]; obtain rfl := Option.some.inj h; refine q69 [] ?_; exact leA
def q4y (mv_0 : Int) (cmp_0 : GOut → GOut → Option Int) (i_2 : Int) (a_3 : List GOut) : Option (List GOut) :=
 q9 (q29 a_3 (i64.wrap (mv_0 - i_2)) mv_0 i_2 cmp_0) (fun v_6 =>
 y5 (v_6.length = a_3.length) (
 some v_6))
def q8p (mv_0 : Int) (cmp_0 : GOut → GOut → Option Int) (rec_2 : Int × Int × (List GOut) → Option (List GOut)) : Int × Int × (List GOut) → Option (List GOut) :=
 fun (i_4, j_3, a_5) =>
 (if (!(i_4 == j_3)) = true then (if (decide (j_3 < i_4)) = true then q9 (q29 a_5 (i64.wrap (mv_0 - i_4)) mv_0 j_3 cmp_0) (fun v_11 =>
 y5 (v_11.length = a_5.length) (
 rec_2 (i64.wrap (i_4 - j_3), j_3, v_11)))
 else q9 (q29 a_5 (i64.wrap (mv_0 - i_4)) (i64.wrap ((i64.wrap (mv_0 + j_3)) - i_4)) i_4 cmp_0) (fun v_12 =>
 y5 (v_12.length = a_5.length) (
 rec_2 (i_4, i64.wrap (j_3 - i_4), v_12))))
 else q4y mv_0 cmp_0 i_4 a_5)
def q65 (data_0 : List GOut) (a_0 : Int) (mv_0 : Int) (b_0 : Int) (cmp_0 : GOut → GOut → Option Int) : Option (List GOut) :=
 w9 (q8p mv_0 cmp_0) rounds (i64.wrap (mv_0 - a_0), i64.wrap (b_0 - mv_0), data_0)
theorem qn8 (data_0 : List GOut) (a_0 : Int) (mv_0 : Int) (b_0 : Int) (cmp_0 : GOut → GOut → Option Int) (g_cmp_0 : FuncId) (c_cmp_0 : List AV) (F_cmp_0 : q03 c_cmp_0 = true) (E_cmp_0 : y8 pp g_cmp_0 = true) (H_cmp_0 : ∀ (x0 : GOut) (x1 : GOut) (r : Int), cmp_0 x0 x1 = some r → PureS pp g_cmp_0 ([.agg (Row.row x0), .agg (Row.row x1)] ++ c_cmp_0) 0 (.v (.int .i64 r))) (r : List GOut) (h : q65 data_0 a_0 mv_0 b_0 cmp_0 = some r) : DetS pp 128 [.osl 0 4 (0) (data_0.length), .v (.int .i64 a_0), .v (.int .i64 mv_0), .v (.int .i64 b_0), .clo g_cmp_0 c_cmp_0] [(0, .arr 4 (enc data_0))] 1 (.tup []) [(0, .arr 4 (enc r))] 1 := by
 refine dtI Tryz.func128 rfl ?_; rw [q65] at h; have F := trivial; refine sM ?_; refine sM ?_; refine q14 (fun ((i_2, a_3) : Int × (List GOut)) => q4y mv_0 cmp_0 i_2 a_3 = some r) [2, 4] (fun x => ([(0, .osl 0 4 (0) (x.2.length)), (10, .v (.int .i64 x.1))], [(0, .arr 4 (enc x.2))])) 1 ?_ ?_
 ·
  intro _ Q3; refine j3 fun _ Q4 => ?_; refine u6 h [2, 4] (fun x => ([(0, .osl 0 4 (0) (x.2.2.length)), (10, .v (.int .i64 x.1)), (11, .v (.int .i64 x.2.1))], [(0, .arr 4 (enc x.2.2))])) 1 ?_; rintro m_2 ⟨i_4, j_3, a_5⟩ h _ Q5; rw [q8p] at h; refine sg fun _ Q6 => ?_; refine sM ?_; refine sB h (fun _ h => ?_) fun _ h => ?_
  ·
   refine j4 (q8 Q6 (j3 fun _ Q8 => ?_)); refine sM ?_; refine sB h (fun _ h => ?_) fun _ h => ?_
   · refine sg fun _ Q10 => ?_; obtain ⟨v_11, ev_11, h⟩ := z8 h; simp only [go_sem]; refine qa8 [0] (q3r a_5 (i64.wrap (mv_0 - i_4)) mv_0 j_3 cmp_0 g_cmp_0 c_cmp_0 F_cmp_0 E_cmp_0 H_cmp_0 v_11 ev_11) (by simp) (by simp only [q4t, q28, q44 F_cmp_0] <;> rfl) ⟨rfl, trivial⟩ (by simp only [ltL, ltA, q5q F_cmp_0] <;> rfl) rfl rfl rfl ?_; obtain ⟨F, h⟩ := bG F h; simp only [go_sem, F]; refine q8 Q10 ?_; simp only [go_sem]; refine d9 Q8 (y9 Q5 ?_); exact nxC _ h [] leA
   · refine sg fun _ Q11 => ?_; obtain ⟨v_12, ev_12, h⟩ := z8 h; simp only [go_sem]; refine qa8 [0] (q3r a_5 (i64.wrap (mv_0 - i_4)) (i64.wrap ((i64.wrap (mv_0 + j_3)) - i_4)) i_4 cmp_0 g_cmp_0 c_cmp_0 F_cmp_0 E_cmp_0 H_cmp_0 v_12 ev_12) (by simp) (by simp only [q4t, q28, q44 F_cmp_0] <;> rfl) ⟨rfl, trivial⟩ (by simp only [ltL, ltA, q5q F_cmp_0] <;> rfl) rfl rfl rfl ?_; obtain ⟨F, h⟩ := bG F h; simp only [go_sem, F]; refine q8 Q11 ?_; simp only [go_sem]; refine d9 Q8 (y9 Q5 ?_); exact nxC _ h [] leA
  · refine q0h (q1c Q6 (q0i Q5 (q0b Q4 (y9 Q3 (⟨(i_4, a_5), [], ?_, h⟩))))); exact leA
 ·
  rintro ⟨i_2, a_3⟩ h
  try dsimp only at h
  rw [q4y] at h; obtain ⟨v_6, ev_6, h⟩ := z8 h; simp only [go_sem]; refine qa8 [0] (q3r a_3 (i64.wrap (mv_0 - i_2)) mv_0 i_2 cmp_0 g_cmp_0 c_cmp_0 F_cmp_0 E_cmp_0 H_cmp_0 v_6 ev_6) (by simp) (by simp only [q4t, q28, q44 F_cmp_0] <;> rfl) ⟨rfl, trivial⟩ (by simp only [ltL, ltA, q5q F_cmp_0] <;> rfl) rfl rfl rfl ?_; obtain ⟨F, h⟩ := bG F h; simp only [go_sem, F]; obtain rfl := Option.some.inj h; refine q69 [] ?_; exact leA
def q2l (a_0 : Int) (mv_0 : Int) (b_0 : Int) (cmp_0 : GOut → GOut → Option Int) (self : (List GOut) → Int → Int → Int → (GOut → GOut → Option Int) → Option (List GOut)) (start_3 : Int) (a_6 : List GOut) : Option (List GOut) :=
 (if ((decide ((i64.wrap (q2r .u64 (IntKind.u64.wrap (i64.wrap (a_0 + b_0))) 1)) < (i64.wrap ((i64.wrap ((i64.wrap (q2r .u64 (IntKind.u64.wrap (i64.wrap (a_0 + b_0))) 1)) + mv_0)) - start_3)))) && (decide ((i64.wrap ((i64.wrap ((i64.wrap (q2r .u64 (IntKind.u64.wrap (i64.wrap (a_0 + b_0))) 1)) + mv_0)) - start_3)) < b_0))) = true then q9 (self a_6 (i64.wrap (q2r .u64 (IntKind.u64.wrap (i64.wrap (a_0 + b_0))) 1)) (i64.wrap ((i64.wrap ((i64.wrap (q2r .u64 (IntKind.u64.wrap (i64.wrap (a_0 + b_0))) 1)) + mv_0)) - start_3)) b_0 cmp_0) (fun v_17 =>
 y5 (v_17.length = a_6.length) (
 some v_17))
 else some a_6)
def q2m (a_0 : Int) (mv_0 : Int) (b_0 : Int) (cmp_0 : GOut → GOut → Option Int) (self : (List GOut) → Int → Int → Int → (GOut → GOut → Option Int) → Option (List GOut)) (start_3 : Int) (a_5 : List GOut) : Option (List GOut) :=
 (if ((decide (a_0 < start_3)) && (decide (start_3 < (i64.wrap (q2r .u64 (IntKind.u64.wrap (i64.wrap (a_0 + b_0))) 1))))) = true then q9 (self a_5 a_0 start_3 (i64.wrap (q2r .u64 (IntKind.u64.wrap (i64.wrap (a_0 + b_0))) 1)) cmp_0) (fun v_18 =>
 y5 (v_18.length = a_5.length) (
 q2l a_0 mv_0 b_0 cmp_0 self start_3 v_18))
 else q2l a_0 mv_0 b_0 cmp_0 self start_3 a_5)
def q46 (data_0 : List GOut) (a_0 : Int) (mv_0 : Int) (b_0 : Int) (cmp_0 : GOut → GOut → Option Int) (self : (List GOut) → Int → Int → Int → (GOut → GOut → Option Int) → Option (List GOut)) (start_3 : Int) : Option (List GOut) :=
 (if ((decide (start_3 < mv_0)) && (decide (mv_0 < (i64.wrap ((i64.wrap ((i64.wrap (q2r .u64 (IntKind.u64.wrap (i64.wrap (a_0 + b_0))) 1)) + mv_0)) - start_3))))) = true then q9 (q65 data_0 start_3 mv_0 (i64.wrap ((i64.wrap ((i64.wrap (q2r .u64 (IntKind.u64.wrap (i64.wrap (a_0 + b_0))) 1)) + mv_0)) - start_3)) cmp_0) (fun v_19 =>
 y5 (v_19.length = data_0.length) (
 q2m a_0 mv_0 b_0 cmp_0 self start_3 v_19))
 else q2m a_0 mv_0 b_0 cmp_0 self start_3 data_0)
def q7x (data_0 : List GOut) (a_0 : Int) (mv_0 : Int) (b_0 : Int) (cmp_0 : GOut → GOut → Option Int) (self : (List GOut) → Int → Int → Int → (GOut → GOut → Option Int) → Option (List GOut)) (rec_7 : Int × Int → Option (List GOut)) : Int × Int → Option (List GOut) :=
 fun (start_5, rv_4) =>
 (if (decide (start_5 < rv_4)) = true then q9 (idx data_0 (i64.wrap ((i64.wrap ((i64.wrap ((i64.wrap (q2r .u64 (IntKind.u64.wrap (i64.wrap (a_0 + b_0))) 1)) + mv_0)) - 1)) - (i64.wrap (q2r .u64 (IntKind.u64.wrap (i64.wrap (start_5 + rv_4))) 1))))) (fun xv_52 =>
 q9 (idx data_0 (i64.wrap (q2r .u64 (IntKind.u64.wrap (i64.wrap (start_5 + rv_4))) 1))) (fun xv_53 =>
 q9 (cmp_0 xv_52 xv_53) (fun v_22 =>
 (if (!(decide (v_22 < 0))) = true then rec_7 (i64.wrap ((i64.wrap (q2r .u64 (IntKind.u64.wrap (i64.wrap (start_5 + rv_4))) 1)) + 1), rv_4)
 else rec_7 (start_5, i64.wrap (q2r .u64 (IntKind.u64.wrap (i64.wrap (start_5 + rv_4))) 1))))))
 else q46 data_0 a_0 mv_0 b_0 cmp_0 self start_5)
def q2n (data_0 : List GOut) (a_0 : Int) (mv_0 : Int) (b_0 : Int) (cmp_0 : GOut → GOut → Option Int) (self : (List GOut) → Int → Int → Int → (GOut → GOut → Option Int) → Option (List GOut)) (start_0 : Int) (rv_0 : Int) : Option (List GOut) :=
 w9 (q7x data_0 a_0 mv_0 b_0 cmp_0 self) rounds (start_0, rv_0)
def q47 (data_0 : List GOut) (a_0 : Int) (mv_0 : Int) (b_0 : Int) (cmp_0 : GOut → GOut → Option Int) (self : (List GOut) → Int → Int → Int → (GOut → GOut → Option Int) → Option (List GOut)) : Option (List GOut) :=
 (if (decide ((i64.wrap (q2r .u64 (IntKind.u64.wrap (i64.wrap (a_0 + b_0))) 1)) < mv_0)) = true then q2n data_0 a_0 mv_0 b_0 cmp_0 self (i64.wrap ((i64.wrap ((i64.wrap (q2r .u64 (IntKind.u64.wrap (i64.wrap (a_0 + b_0))) 1)) + mv_0)) - b_0)) (i64.wrap (q2r .u64 (IntKind.u64.wrap (i64.wrap (a_0 + b_0))) 1))
 else q2n data_0 a_0 mv_0 b_0 cmp_0 self a_0 mv_0)
def q7w (i_12 : Int) (rec_9 : Int × (List GOut) → Option (List GOut)) : Int × (List GOut) → Option (List GOut) :=
 fun (k_5, a_8) =>
 (if (decide (i_12 < k_5)) = true then q9 (idx a_8 (i64.wrap (k_5 - 1))) (fun xv_66 =>
 q9 (idx a_8 k_5) (fun xv_67 =>
 q9 (idx (List.set a_8 (k_5.toNat) xv_66) (i64.wrap (k_5 - 1))) (fun xv_68 =>
 rec_9 (i64.wrap (k_5 - 1), (List.set (List.set a_8 (k_5.toNat) xv_66) (Int.toNat (i64.wrap (k_5 - 1))) xv_67)))))
 else some a_8)
def q45 (data_0 : List GOut) (mv_0 : Int) (i_12 : Int) : Option (List GOut) :=
 w9 (q7w i_12) rounds (mv_0, data_0)
def q7m (data_0 : List GOut) (mv_0 : Int) (cmp_0 : GOut → GOut → Option Int) (rec_10 : Int × Int → Option (List GOut)) : Int × Int → Option (List GOut) :=
 fun (i_14, j_11) =>
 (if (decide (i_14 < j_11)) = true then q9 (idx data_0 mv_0) (fun xv_73 =>
 q9 (idx data_0 (i64.wrap (q2r .u64 (IntKind.u64.wrap (i64.wrap (i_14 + j_11))) 1))) (fun xv_74 =>
 q9 (cmp_0 xv_73 xv_74) (fun v_28 =>
 (if (!(decide (v_28 < 0))) = true then rec_10 (i64.wrap ((i64.wrap (q2r .u64 (IntKind.u64.wrap (i64.wrap (i_14 + j_11))) 1)) + 1), j_11)
 else rec_10 (i_14, i64.wrap (q2r .u64 (IntKind.u64.wrap (i64.wrap (i_14 + j_11))) 1))))))
 else q45 data_0 mv_0 i_14)
def q48 (data_0 : List GOut) (a_0 : Int) (mv_0 : Int) (b_0 : Int) (cmp_0 : GOut → GOut → Option Int) (self : (List GOut) → Int → Int → Int → (GOut → GOut → Option Int) → Option (List GOut)) : Option (List GOut) :=
 (if ((i64.wrap (b_0 - mv_0)) == 1) = true then w9 (q7m data_0 mv_0 cmp_0) rounds (a_0, mv_0)
 else q47 data_0 a_0 mv_0 b_0 cmp_0 self)
def q7l (i_17 : Int) (rec_12 : Int × (List GOut) → Option (List GOut)) : Int × (List GOut) → Option (List GOut) :=
 fun (k_7, a_10) =>
 (if (decide (k_7 < (i64.wrap (i_17 - 1)))) = true then q9 (idx a_10 (i64.wrap (k_7 + 1))) (fun xv_87 =>
 q9 (idx a_10 k_7) (fun xv_88 =>
 q9 (idx (List.set a_10 (k_7.toNat) xv_87) (i64.wrap (k_7 + 1))) (fun xv_89 =>
 rec_12 (i64.wrap (k_7 + 1), (List.set (List.set a_10 (k_7.toNat) xv_87) (Int.toNat (i64.wrap (k_7 + 1))) xv_88)))))
 else some a_10)
def q3u (data_0 : List GOut) (a_0 : Int) (i_17 : Int) : Option (List GOut) :=
 w9 (q7l i_17) rounds (a_0, data_0)
def q7k (data_0 : List GOut) (a_0 : Int) (cmp_0 : GOut → GOut → Option Int) (rec_13 : Int × Int → Option (List GOut)) : Int × Int → Option (List GOut) :=
 fun (i_19, j_15) =>
 (if (decide (i_19 < j_15)) = true then q9 (idx data_0 (i64.wrap (q2r .u64 (IntKind.u64.wrap (i64.wrap (i_19 + j_15))) 1))) (fun xv_94 =>
 q9 (idx data_0 a_0) (fun xv_95 =>
 q9 (cmp_0 xv_94 xv_95) (fun v_34 =>
 (if (decide (v_34 < 0)) = true then rec_13 (i64.wrap ((i64.wrap (q2r .u64 (IntKind.u64.wrap (i64.wrap (i_19 + j_15))) 1)) + 1), j_15)
 else rec_13 (i_19, i64.wrap (q2r .u64 (IntKind.u64.wrap (i64.wrap (i_19 + j_15))) 1))))))
 else q3u data_0 a_0 i_19)
def q4i (self : (List GOut) → Int → Int → Int → (GOut → GOut → Option Int) → Option (List GOut)) (data_0 : List GOut) (a_0 : Int) (mv_0 : Int) (b_0 : Int) (cmp_0 : GOut → GOut → Option Int) : Option (List GOut) :=
 (if ((i64.wrap (mv_0 - a_0)) == 1) = true then w9 (q7k data_0 a_0 cmp_0) rounds (mv_0, b_0)
 else q48 data_0 a_0 mv_0 b_0 cmp_0 self)
def q1w : Nat → (List GOut) → Int → Int → Int → (GOut → GOut → Option Int) → Option (List GOut)
 | 0 => fun _ _ _ _ _ => none
 | n + 1 => q4i (q1w n)
def q5a (data_0 : List GOut) (a_0 : Int) (mv_0 : Int) (b_0 : Int) (cmp_0 : GOut → GOut → Option Int) : Option (List GOut) := q1w rounds data_0 a_0 mv_0 b_0 cmp_0
theorem qi3 (self : (List GOut) → Int → Int → Int → (GOut → GOut → Option Int) → Option (List GOut)) (Hself : ∀ (data_0 : List GOut) (a_0 : Int) (mv_0 : Int) (b_0 : Int) (cmp_0 : GOut → GOut → Option Int) (g_cmp_0 : FuncId) (c_cmp_0 : List AV) (F_cmp_0 : q03 c_cmp_0 = true) (E_cmp_0 : y8 pp g_cmp_0 = true) (H_cmp_0 : ∀ (x0 : GOut) (x1 : GOut) (r : Int), cmp_0 x0 x1 = some r → PureS pp g_cmp_0 ([.agg (Row.row x0), .agg (Row.row x1)] ++ c_cmp_0) 0 (.v (.int .i64 r))) (r : List GOut), self data_0 a_0 mv_0 b_0 cmp_0 = some r → DetS pp 99 [.osl 0 4 (0) (data_0.length), .v (.int .i64 a_0), .v (.int .i64 mv_0), .v (.int .i64 b_0), .clo g_cmp_0 c_cmp_0] [(0, .arr 4 (enc data_0))] 1 (.tup []) [(0, .arr 4 (enc r))] 1) (data_0 : List GOut) (a_0 : Int) (mv_0 : Int) (b_0 : Int) (cmp_0 : GOut → GOut → Option Int) (g_cmp_0 : FuncId) (c_cmp_0 : List AV) (F_cmp_0 : q03 c_cmp_0 = true) (E_cmp_0 : y8 pp g_cmp_0 = true) (H_cmp_0 : ∀ (x0 : GOut) (x1 : GOut) (r : Int), cmp_0 x0 x1 = some r → PureS pp g_cmp_0 ([.agg (Row.row x0), .agg (Row.row x1)] ++ c_cmp_0) 0 (.v (.int .i64 r))) (r : List GOut) (h : q4i self data_0 a_0 mv_0 b_0 cmp_0 = some r) : DetS pp 99 [.osl 0 4 (0) (data_0.length), .v (.int .i64 a_0), .v (.int .i64 mv_0), .v (.int .i64 b_0), .clo g_cmp_0 c_cmp_0] [(0, .arr 4 (enc data_0))] 1 (.tup []) [(0, .arr 4 (enc r))] 1 := by
 refine dtI Tryz.func99 rfl ?_; rw [q4i] at h; have F := trivial; refine q14 (fun (_ : Unit) => q48 data_0 a_0 mv_0 b_0 cmp_0 self = some r) [0, 1, 2, 3, 4] (fun _ => ([], [(0, .arr 4 (enc data_0))])) 1 ?_ ?_
 ·
  intro _ Q43; refine sM ?_; refine sB h (fun _ h => ?_) fun _ h => ?_
  ·
   refine sM ?_; refine sM ?_; refine q14 (fun (i_17 : Int) => q3u data_0 a_0 i_17 = some r) [0, 1] (fun i_17 => ([(10, .v (.int .i64 i_17))], [(0, .arr 4 (enc data_0))])) 1 ?_ ?_
   ·
    intro _ Q55; refine j3 fun _ Q56 => ?_; refine u6 h [0, 1, 4] (fun x => ([(10, .v (.int .i64 x.1)), (11, .v (.int .i64 x.2))], [(0, .arr 4 (enc data_0))])) 1 ?_; rintro m_13 ⟨i_19, j_15⟩ h _ Q57; rw [q7k] at h; refine sg fun _ Q58 => ?_; refine sM ?_; refine sB h (fun _ h => ?_) fun _ h => ?_
    ·
     refine j4 (q8 Q58 (j3 fun _ Q60 => ?_)); refine sM ?_; refine sg fun _ Q62 => ?_; refine x9 ?_; refine j83 ?_; obtain ⟨xv_94, F, h⟩ := bI F h; obtain ⟨xv_95, F, h⟩ := bI F h; obtain ⟨v_34, ev_34, h⟩ := z8 h; simp only [go_sem, E_cmp_0, F]; refine ai ?_; refine ai ?_; refine q9m (H_cmp_0 xv_94 xv_95 v_34 ev_34) (by rfl) (by simp [go_sem, q03, q0a, F_cmp_0]) ?_; simp only [go_sem]; refine q8 Q62 (sB h (fun _ h => ?_) fun _ h => ?_)
     · simp only [go_sem]; refine d9 Q60 (y9 Q57 ?_); exact nxC _ h [] leA
     · simp only [go_sem]; refine d9 Q60 (y9 Q57 ?_); exact nxC _ h [] leA
    · refine q0h (q1c Q58 (q0i Q57 (q0b Q56 (y9 Q55 (⟨i_19, [], ?_, h⟩))))); exact leA
   ·
    rintro i_17 h
    try dsimp only at h
    rw [q3u] at h; refine jg fun _ Q47 => ?_; refine sM ?_; refine j3 fun _ Q49 => ?_; refine u6 h [10] (fun x => ([(0, .osl 0 4 (0) (x.2.length)), (13, .v (.int .i64 x.1))], [(0, .arr 4 (enc x.2))])) 1 ?_; rintro m_12 ⟨k_7, a_10⟩ h _ Q50; rw [q7l] at h; refine sg fun _ Q51 => ?_; refine sM ?_; refine sB h (fun _ h => ?_) fun _ h => ?_
    ·
     refine j4 (q8 Q51 (sg fun _ Q53 => ?_)); refine j3 fun _ Q54 => ?_; refine x9 ?_; refine q27 16 0 0 [0, 0, 0, 0, 8, 0, 0, 64, 224, 480, 0, 0, 3072, 7168, 16355, 32739, 65535, 131071] [0] [2, 3, 4] [] [15] [] mixed (by kernel_rfl) (of_decide_eq_true (by kernel_rfl)) (by kernel_rfl) (by kernel_rfl) (by rfl) ?_; obtain ⟨xv_87, F, h⟩ := bI F h; obtain ⟨xv_88, F, h⟩ := bI F h; have rf_22 : (enc a_10).set (k_7.toNat) [.v (.int .i64 xv_87.Node), .v (.int .i64 xv_87.Epoch), .v (.int .i64 xv_87.Rec.K), .v (.int .i64 xv_87.Rec.V)] = enc (List.set a_10 (k_7.toNat) xv_87) := by exact q2v _ _ _
     obtain ⟨xv_89, F, h⟩ := bI F h; have rf_23 : (enc (List.set a_10 (k_7.toNat) xv_87)).set (Int.toNat (i64.wrap (k_7 + 1))) [.v (.int .i64 xv_88.Node), .v (.int .i64 xv_88.Epoch), .v (.int .i64 xv_88.Rec.K), .v (.int .i64 xv_88.Rec.V)] = enc (List.set (List.set a_10 (k_7.toNat) xv_87) (Int.toNat (i64.wrap (k_7 + 1))) xv_88) := by exact q2v _ _ _
     simp only [go_sem, rf_22, rf_23, F]; refine ai ?_; refine ai ?_; refine ai ?_; refine ai ?_; refine d9 Q54 (q8 Q53 ?_); simp only [go_sem]; refine y9 Q50 ?_; exact nxC _ h [] leA
    · refine q0h (q1c Q51 (q0i Q50 (q0b Q49 (q8 Q47 (q00 (q2i Q43 ?_)))))); simp only [go_sem]; obtain rfl := Option.some.inj h; refine q69 [] ?_; exact leA
  · refine j4 (y9 Q43 (⟨(), [], ?_, h⟩)); exact leA
 ·
  rintro ⟨⟩ h
  try dsimp only at h
  rw [q48] at h; refine q14 (fun (_ : Unit) => q47 data_0 a_0 mv_0 b_0 cmp_0 self = some r) [0, 1, 2, 3, 4] (fun _ => ([], [(0, .arr 4 (enc data_0))])) 1 ?_ ?_
  ·
   intro _ Q23; refine sM ?_; refine sB h (fun _ h => ?_) fun _ h => ?_
   ·
    refine sM ?_; refine sM ?_; refine q14 (fun (i_12 : Int) => q45 data_0 mv_0 i_12 = some r) [0, 2] (fun i_12 => ([(14, .v (.int .i64 i_12))], [(0, .arr 4 (enc data_0))])) 1 ?_ ?_
    ·
     intro _ Q35; refine j3 fun _ Q36 => ?_; refine u6 h [0, 2, 4] (fun x => ([(14, .v (.int .i64 x.1)), (15, .v (.int .i64 x.2))], [(0, .arr 4 (enc data_0))])) 1 ?_; rintro m_10 ⟨i_14, j_11⟩ h _ Q37; rw [q7m] at h; refine sg fun _ Q38 => ?_; refine sM ?_; refine sB h (fun _ h => ?_) fun _ h => ?_
     ·
      refine j4 (q8 Q38 (j3 fun _ Q40 => ?_)); refine sM ?_; refine sg fun _ Q42 => ?_; refine x9 ?_; refine j83 ?_; obtain ⟨xv_73, F, h⟩ := bI F h; obtain ⟨xv_74, F, h⟩ := bI F h; obtain ⟨v_28, ev_28, h⟩ := z8 h; simp only [go_sem, E_cmp_0, F]; refine ai ?_; refine ai ?_; refine q9m (H_cmp_0 xv_73 xv_74 v_28 ev_28) (by rfl) (by simp [go_sem, q03, q0a, F_cmp_0]) ?_; simp only [go_sem]; refine q8 Q42 (sB h (fun _ h => ?_) fun _ h => ?_)
      · simp only [go_sem]; refine d9 Q40 (y9 Q37 ?_); exact nxC _ h [] leA
      · simp only [go_sem]; refine d9 Q40 (y9 Q37 ?_); exact nxC _ h [] leA
     · refine q0h (q1c Q38 (q0i Q37 (q0b Q36 (y9 Q35 (⟨i_14, [], ?_, h⟩))))); exact leA
    ·
     rintro i_12 h
     try dsimp only at h
     rw [q45] at h; refine jg fun _ Q27 => ?_; refine sM ?_; refine j3 fun _ Q29 => ?_; refine u6 h [14] (fun x => ([(0, .osl 0 4 (0) (x.2.length)), (17, .v (.int .i64 x.1))], [(0, .arr 4 (enc x.2))])) 1 ?_; rintro m_9 ⟨k_5, a_8⟩ h _ Q30; rw [q7w] at h; refine sg fun _ Q31 => ?_; refine sM ?_; refine sB h (fun _ h => ?_) fun _ h => ?_
     ·
      refine j4 (q8 Q31 (sg fun _ Q33 => ?_)); refine j3 fun _ Q34 => ?_; refine x9 ?_; refine q27 16 0 0 [0, 0, 0, 0, 8, 0, 0, 64, 224, 480, 0, 0, 3072, 7168, 16355, 32739, 65535, 131071] [0] [2, 3, 4] [] [15] [] mixed (by kernel_rfl) (of_decide_eq_true (by kernel_rfl)) (by kernel_rfl) (by kernel_rfl) (by rfl) ?_; obtain ⟨xv_66, F, h⟩ := bI F h; obtain ⟨xv_67, F, h⟩ := bI F h; have rf_16 : (enc a_8).set (k_5.toNat) [.v (.int .i64 xv_66.Node), .v (.int .i64 xv_66.Epoch), .v (.int .i64 xv_66.Rec.K), .v (.int .i64 xv_66.Rec.V)] = enc (List.set a_8 (k_5.toNat) xv_66) := by exact q2v _ _ _
      obtain ⟨xv_68, F, h⟩ := bI F h; have rf_17 : (enc (List.set a_8 (k_5.toNat) xv_66)).set (Int.toNat (i64.wrap (k_5 - 1))) [.v (.int .i64 xv_67.Node), .v (.int .i64 xv_67.Epoch), .v (.int .i64 xv_67.Rec.K), .v (.int .i64 xv_67.Rec.V)] = enc (List.set (List.set a_8 (k_5.toNat) xv_66) (Int.toNat (i64.wrap (k_5 - 1))) xv_67) := by exact q2v _ _ _
      simp only [go_sem, rf_16, rf_17, F]; refine ai ?_; refine ai ?_; refine ai ?_; refine ai ?_; refine d9 Q34 (q8 Q33 ?_); simp only [go_sem]; refine y9 Q30 ?_; exact nxC _ h [] leA
     · refine q0h (q1c Q31 (q0i Q30 (q0b Q29 (q8 Q27 (q00 (q2i Q23 ?_)))))); simp only [go_sem]; obtain rfl := Option.some.inj h; refine q69 [] ?_; exact leA
   · refine j4 (y9 Q23 (⟨(), [], ?_, h⟩)); exact leA
  ·
   rintro ⟨⟩ h
   try dsimp only at h
   rw [q47] at h; refine sM ?_; refine sM ?_; refine sM ?_; refine q14 (fun ((start_0, rv_0) : Int × Int) => q2n data_0 a_0 mv_0 b_0 cmp_0 self start_0 rv_0 = some r) [0, 1, 2, 3, 4, 18, 19] (fun x => ([(20, .v (.int .i64 x.1)), (21, .v (.int .i64 x.2))], [(0, .arr 4 (enc data_0))])) 1 ?_ ?_
   ·
    intro _ Q19; refine sM ?_; refine sB h (fun _ h => ?_) fun _ h => ?_
    · refine sM ?_; simp only [go_sem]; refine y9 Q19 (⟨(i64.wrap ((i64.wrap ((i64.wrap (q2r .u64 (IntKind.u64.wrap (i64.wrap (a_0 + b_0))) 1)) + mv_0)) - b_0), i64.wrap (q2r .u64 (IntKind.u64.wrap (i64.wrap (a_0 + b_0))) 1)), [], ?_, h⟩); exact leA
    · refine sM ?_; simp only [go_sem]; refine y9 Q19 (⟨(a_0, mv_0), [], ?_, h⟩); exact leA
   ·
    rintro ⟨start_0, rv_0⟩ h
    try dsimp only at h
    rw [q2n] at h; refine sM ?_; refine q14 (fun (start_3 : Int) => q46 data_0 a_0 mv_0 b_0 cmp_0 self start_3 = some r) [0, 1, 2, 3, 4, 18, 19] (fun start_3 => ([(20, .v (.int .i64 start_3))], [(0, .arr 4 (enc data_0))])) 1 ?_ ?_
    ·
     intro _ Q11; refine j3 fun _ Q12 => ?_; refine u6 h [0, 1, 2, 3, 4, 18, 19, 22] (fun x => ([(20, .v (.int .i64 x.1)), (21, .v (.int .i64 x.2))], [(0, .arr 4 (enc data_0))])) 1 ?_; rintro m_7 ⟨start_5, rv_4⟩ h _ Q13; rw [q7x] at h; refine sg fun _ Q14 => ?_; refine sM ?_; refine sB h (fun _ h => ?_) fun _ h => ?_
     ·
      refine j4 (q8 Q14 (j3 fun _ Q16 => ?_)); refine sM ?_; refine sg fun _ Q18 => ?_; refine x9 ?_; refine j83 ?_; obtain ⟨xv_52, F, h⟩ := bI F h; obtain ⟨xv_53, F, h⟩ := bI F h; obtain ⟨v_22, ev_22, h⟩ := z8 h; simp only [go_sem, E_cmp_0, F]; refine ai ?_; refine ai ?_; refine q9m (H_cmp_0 xv_52 xv_53 v_22 ev_22) (by rfl) (by simp [go_sem, q03, q0a, F_cmp_0]) ?_; simp only [go_sem]; refine q8 Q18 (sB h (fun _ h => ?_) fun _ h => ?_)
      · simp only [go_sem]; refine d9 Q16 (y9 Q13 ?_); exact nxC _ h [] leA
      · simp only [go_sem]; refine d9 Q16 (y9 Q13 ?_); exact nxC _ h [] leA
     · refine q0h (q1c Q14 (q0i Q13 (q0b Q12 (y9 Q11 (⟨start_5, [], ?_, h⟩))))); exact leA
    ·
     rintro start_3 h
     try dsimp only at h
     rw [q46] at h; refine sM ?_; refine q14 (fun (a_5 : (List GOut)) => q2m a_0 mv_0 b_0 cmp_0 self start_3 a_5 = some r) [1, 3, 4, 18, 20, 24] (fun a_5 => ([(0, .osl 0 4 (0) (a_5.length))], [(0, .arr 4 (enc a_5))])) 1 ?_ ?_
     ·
      intro _ Q9; refine sM ?_; refine sB h (fun _ h => ?_) fun _ h => ?_
      · obtain ⟨v_19, ev_19, h⟩ := z8 h; simp only [go_sem]; refine qa8 [0] (qn8 data_0 start_3 mv_0 (i64.wrap ((i64.wrap ((i64.wrap (q2r .u64 (IntKind.u64.wrap (i64.wrap (a_0 + b_0))) 1)) + mv_0)) - start_3)) cmp_0 g_cmp_0 c_cmp_0 F_cmp_0 E_cmp_0 H_cmp_0 v_19 ev_19) (by simp) (by simp only [q4t, q28, q44 F_cmp_0] <;> rfl) ⟨rfl, trivial⟩ (by simp only [ltL, ltA, q5q F_cmp_0] <;> rfl) rfl rfl rfl ?_; obtain ⟨F, h⟩ := bG F h; simp only [go_sem, F]; refine y9 Q9 (⟨v_19, [], ?_, h⟩); exact leA
      · refine j4 (y9 Q9 (⟨data_0, [], ?_, h⟩)); exact leA
     ·
      rintro a_5 h
      try dsimp only at h
      rw [q2m] at h; refine q14 (fun (a_6 : (List GOut)) => q2l a_0 mv_0 b_0 cmp_0 self start_3 a_6 = some r) [3, 4, 18, 24] (fun a_6 => ([(0, .osl 0 4 (0) (a_6.length))], [(0, .arr 4 (enc a_6))])) 1 ?_ ?_
      ·
       intro _ Q7; refine sM ?_; refine sB h (fun _ h => ?_) fun _ h => ?_
       · obtain ⟨v_18, ev_18, h⟩ := z8 h; simp only [go_sem]; refine qa8 [0] (Hself a_5 a_0 start_3 (i64.wrap (q2r .u64 (IntKind.u64.wrap (i64.wrap (a_0 + b_0))) 1)) cmp_0 g_cmp_0 c_cmp_0 F_cmp_0 E_cmp_0 H_cmp_0 v_18 ev_18) (by simp) (by simp only [q4t, q28, q44 F_cmp_0] <;> rfl) ⟨rfl, trivial⟩ (by simp only [ltL, ltA, q5q F_cmp_0] <;> rfl) rfl rfl rfl ?_; obtain ⟨F, h⟩ := bG F h; simp only [go_sem, F]; refine y9 Q7 (⟨v_18, [], ?_, h⟩); exact leA
       · refine j4 (y9 Q7 (⟨a_5, [], ?_, h⟩)); exact leA
      ·
       rintro a_6 h
       try dsimp only at h
       rw [q2l] at h; refine sM ?_; refine sB h (fun _ h => ?_) fun _ h => ?_
       · obtain ⟨v_17, ev_17, h⟩ := z8 h; simp only [go_sem]; refine qa8 [0] (Hself a_6 (i64.wrap (q2r .u64 (IntKind.u64.wrap (i64.wrap (a_0 + b_0))) 1)) (i64.wrap ((i64.wrap ((i64.wrap (q2r .u64 (IntKind.u64.wrap (i64.wrap (a_0 + b_0))) 1)) + mv_0)) - start_3)) b_0 cmp_0 g_cmp_0 c_cmp_0 F_cmp_0 E_cmp_0 H_cmp_0 v_17 ev_17) (by simp) (by simp only [q4t, q28, q44 F_cmp_0] <;> rfl) ⟨rfl, trivial⟩ (by simp only [ltL, ltA, q5q F_cmp_0] <;> rfl) rfl rfl rfl ?_; obtain ⟨F, h⟩ := bG F h; simp only [go_sem, F]; obtain rfl := Option.some.inj h; refine q69 [] ?_; exact leA
       · refine j4 ?_; simp only [go_sem]; obtain rfl := Option.some.inj h; refine q69 [] ?_; exact leA
theorem q72 : ∀ (n : Nat) (data_0 : List GOut) (a_0 : Int) (mv_0 : Int) (b_0 : Int) (cmp_0 : GOut → GOut → Option Int) (g_cmp_0 : FuncId) (c_cmp_0 : List AV) (F_cmp_0 : q03 c_cmp_0 = true) (E_cmp_0 : y8 pp g_cmp_0 = true) (H_cmp_0 : ∀ (x0 : GOut) (x1 : GOut) (r : Int), cmp_0 x0 x1 = some r → PureS pp g_cmp_0 ([.agg (Row.row x0), .agg (Row.row x1)] ++ c_cmp_0) 0 (.v (.int .i64 r))) (r : List GOut), q1w n data_0 a_0 mv_0 b_0 cmp_0 = some r → DetS pp 99 [.osl 0 4 (0) (data_0.length), .v (.int .i64 a_0), .v (.int .i64 mv_0), .v (.int .i64 b_0), .clo g_cmp_0 c_cmp_0] [(0, .arr 4 (enc data_0))] 1 (.tup []) [(0, .arr 4 (enc r))] 1
  | 0, data_0, a_0, mv_0, b_0, cmp_0, g_cmp_0, c_cmp_0, F_cmp_0, E_cmp_0, H_cmp_0, r, h => by simp [q1w] at h
  | n + 1, data_0, a_0, mv_0, b_0, cmp_0, g_cmp_0, c_cmp_0, F_cmp_0, E_cmp_0, H_cmp_0, r, h => qi3 (q1w n) (q72 n) data_0 a_0 mv_0 b_0 cmp_0 g_cmp_0 c_cmp_0 F_cmp_0 E_cmp_0 H_cmp_0 r h
theorem q7j (data_0 : List GOut) (a_0 : Int) (mv_0 : Int) (b_0 : Int) (cmp_0 : GOut → GOut → Option Int) (g_cmp_0 : FuncId) (c_cmp_0 : List AV) (F_cmp_0 : q03 c_cmp_0 = true) (E_cmp_0 : y8 pp g_cmp_0 = true) (H_cmp_0 : ∀ (x0 : GOut) (x1 : GOut) (r : Int), cmp_0 x0 x1 = some r → PureS pp g_cmp_0 ([.agg (Row.row x0), .agg (Row.row x1)] ++ c_cmp_0) 0 (.v (.int .i64 r))) (r : List GOut) (h : q5a data_0 a_0 mv_0 b_0 cmp_0 = some r) : DetS pp 99 [.osl 0 4 (0) (data_0.length), .v (.int .i64 a_0), .v (.int .i64 mv_0), .v (.int .i64 b_0), .clo g_cmp_0 c_cmp_0] [(0, .arr 4 (enc data_0))] 1 (.tup []) [(0, .arr 4 (enc r))] 1 := q72 rounds data_0 a_0 mv_0 b_0 cmp_0 g_cmp_0 c_cmp_0 F_cmp_0 E_cmp_0 H_cmp_0 r h
def q4v (nv_0 : Int) (cmp_0 : GOut → GOut → Option Int) (blockSize_1 : Int) (rec_2 : (Int × (List GOut) → Option (List GOut))) (a_32 : Int) (a_33 : List GOut) : Option (List GOut) :=
 (if (decide ((i64.wrap (a_32 + blockSize_1)) < nv_0)) = true then q9 (q5a a_33 a_32 (i64.wrap (a_32 + blockSize_1)) nv_0 cmp_0) (fun v_21 =>
 y5 (v_21.length = a_33.length) (
 rec_2 (i64.wrap (blockSize_1 * 2), v_21)))
 else rec_2 (i64.wrap (blockSize_1 * 2), a_33))
def q8o (nv_0 : Int) (cmp_0 : GOut → GOut → Option Int) (blockSize_1 : Int) (rec_2 : (Int × (List GOut) → Option (List GOut))) (rec_4 : Int × Int × (List GOut) → Option (List GOut)) : Int × Int × (List GOut) → Option (List GOut) :=
 fun (a_36, b_13, a_37) =>
 (if (decide (b_13 ≤ nv_0)) = true then q9 (q5a a_37 a_36 (i64.wrap (a_36 + blockSize_1)) b_13 cmp_0) (fun v_24 =>
 y5 (v_24.length = a_37.length) (
 rec_4 (b_13, i64.wrap (b_13 + (i64.wrap (2 * blockSize_1))), v_24)))
 else q4v nv_0 cmp_0 blockSize_1 rec_2 a_36 a_37)
def q4x (nv_0 : Int) (cmp_0 : GOut → GOut → Option Int) (rec_2 : Int × (List GOut) → Option (List GOut)) : Int × (List GOut) → Option (List GOut) :=
 fun (blockSize_1, a_27) =>
 (if (decide (blockSize_1 < nv_0)) = true then w9 (q8o nv_0 cmp_0 blockSize_1 rec_2) rounds (0, i64.wrap (2 * blockSize_1), a_27)
 else some a_27)
def q4w (nv_0 : Int) (cmp_0 : GOut → GOut → Option Int) (a_4 : Int) (a_5 : List GOut) : Option (List GOut) :=
 q9 (q2d a_5 a_4 nv_0 cmp_0) (fun v_3 =>
 y5 (v_3.length = a_5.length) (
 w9 (q4x nv_0 cmp_0) rounds (20, v_3)))
def q8n (nv_0 : Int) (cmp_0 : GOut → GOut → Option Int) (rec_5 : Int × Int × (List GOut) → Option (List GOut)) : Int × Int × (List GOut) → Option (List GOut) :=
 fun (a_40, b_15, a_41) =>
 (if (decide (b_15 ≤ nv_0)) = true then q9 (q2d a_41 a_40 b_15 cmp_0) (fun v_27 =>
 y5 (v_27.length = a_41.length) (
 rec_5 (b_15, i64.wrap (b_15 + 20), v_27)))
 else q4w nv_0 cmp_0 a_40 a_41)
def q64 (data_0 : List GOut) (nv_0 : Int) (cmp_0 : GOut → GOut → Option Int) : Option (List GOut) :=
 w9 (q8n nv_0 cmp_0) rounds (0, 20, data_0)
theorem qn7 (data_0 : List GOut) (nv_0 : Int) (cmp_0 : GOut → GOut → Option Int) (g_cmp_0 : FuncId) (c_cmp_0 : List AV) (F_cmp_0 : q03 c_cmp_0 = true) (E_cmp_0 : y8 pp g_cmp_0 = true) (H_cmp_0 : ∀ (x0 : GOut) (x1 : GOut) (r : Int), cmp_0 x0 x1 = some r → PureS pp g_cmp_0 ([.agg (Row.row x0), .agg (Row.row x1)] ++ c_cmp_0) 0 (.v (.int .i64 r))) (r : List GOut) (h : q64 data_0 nv_0 cmp_0 = some r) : DetS pp 62 [.osl 0 4 (0) (data_0.length), .v (.int .i64 nv_0), .clo g_cmp_0 c_cmp_0] [(0, .arr 4 (enc data_0))] 1 (.tup []) [(0, .arr 4 (enc r))] 1 := by
 refine dtI Tryz.func62 rfl ?_; rw [q64] at h; have F := trivial; refine sM ?_; refine sM ?_; refine q14 (fun ((a_4, a_5) : Int × (List GOut)) => q4w nv_0 cmp_0 a_4 a_5 = some r) [1, 2, 6] (fun x => ([(0, .osl 0 4 (0) (x.2.length)), (7, .v (.int .i64 x.1))], [(0, .arr 4 (enc x.2))])) 1 ?_ ?_
 ·
  intro _ Q21; refine j3 fun _ Q22 => ?_; refine u6 h [1, 2, 6] (fun x => ([(0, .osl 0 4 (0) (x.2.2.length)), (7, .v (.int .i64 x.1)), (8, .v (.int .i64 x.2.1))], [(0, .arr 4 (enc x.2.2))])) 1 ?_; rintro m_5 ⟨a_40, b_15, a_41⟩ h _ Q23; rw [q8n] at h; refine sg fun _ Q24 => ?_; refine sM ?_; refine sB h (fun _ h => ?_) fun _ h => ?_
  · refine j4 (q8 Q24 (j3 fun _ Q26 => ?_)); refine sg fun _ Q27 => ?_; obtain ⟨v_27, ev_27, h⟩ := z8 h; simp only [go_sem]; refine qa8 [0] (q5v a_41 a_40 b_15 cmp_0 g_cmp_0 c_cmp_0 F_cmp_0 E_cmp_0 H_cmp_0 v_27 ev_27) (by simp) (by simp only [q4t, q28, q44 F_cmp_0] <;> rfl) ⟨rfl, trivial⟩ (by simp only [ltL, ltA, q5q F_cmp_0] <;> rfl) rfl rfl rfl ?_; obtain ⟨F, h⟩ := bG F h; simp only [go_sem, F]; refine q8 Q27 (sM ?_); simp only [go_sem]; refine d9 Q26 (y9 Q23 ?_); exact nxC _ h [] leA
  · refine q0h (q1c Q24 (q0i Q23 (q0b Q22 (y9 Q21 (⟨(a_40, a_41), [], ?_, h⟩))))); exact leA
 ·
  rintro ⟨a_4, a_5⟩ h
  try dsimp only at h
  rw [q4w] at h; refine sg fun _ Q3 => ?_; obtain ⟨v_3, ev_3, h⟩ := z8 h; simp only [go_sem]; refine qa8 [0] (q5v a_5 a_4 nv_0 cmp_0 g_cmp_0 c_cmp_0 F_cmp_0 E_cmp_0 H_cmp_0 v_3 ev_3) (by simp) (by simp only [q4t, q28, q44 F_cmp_0] <;> rfl) ⟨rfl, trivial⟩ (by simp only [ltL, ltA, q5q F_cmp_0] <;> rfl) rfl rfl rfl ?_; obtain ⟨F, h⟩ := bG F h; simp only [go_sem, F]; refine q8 Q3 (j3 fun _ Q4 => ?_); refine u6 h [1, 2] (fun x => ([(0, .osl 0 4 (0) (x.2.length)), (6, .v (.int .i64 x.1))], [(0, .arr 4 (enc x.2))])) 1 ?_; rintro m_2 ⟨blockSize_1, a_27⟩ h _ Q5; rw [q4x] at h; refine sg fun _ Q6 => ?_; refine sM ?_; refine sB h (fun _ h => ?_) fun _ h => ?_
  ·
   refine j4 (q8 Q6 (j3 fun _ Q8 => ?_)); refine sM ?_; refine q14 (fun ((a_32, a_33) : Int × (List GOut)) => q4v nv_0 cmp_0 blockSize_1 (w9 (q4x nv_0 cmp_0) m_2) a_32 a_33 = some r) [1, 2, 6] (fun x => ([(0, .osl 0 4 (0) (x.2.length)), (7, .v (.int .i64 x.1))], [(0, .arr 4 (enc x.2))])) 1 ?_ ?_
   ·
    intro _ Q13; refine j3 fun _ Q14 => ?_; refine u6 h [1, 2, 6] (fun x => ([(0, .osl 0 4 (0) (x.2.2.length)), (7, .v (.int .i64 x.1)), (8, .v (.int .i64 x.2.1))], [(0, .arr 4 (enc x.2.2))])) 1 ?_; rintro m_4 ⟨a_36, b_13, a_37⟩ h _ Q15; rw [q8o] at h; refine sg fun _ Q16 => ?_; refine sM ?_; refine sB h (fun _ h => ?_) fun _ h => ?_
    · refine j4 (q8 Q16 (j3 fun _ Q18 => ?_)); refine sg fun _ Q19 => ?_; obtain ⟨v_24, ev_24, h⟩ := z8 h; simp only [go_sem]; refine qa8 [0] (q7j a_37 a_36 (i64.wrap (a_36 + blockSize_1)) b_13 cmp_0 g_cmp_0 c_cmp_0 F_cmp_0 E_cmp_0 H_cmp_0 v_24 ev_24) (by simp) (by simp only [q4t, q28, q44 F_cmp_0] <;> rfl) ⟨rfl, trivial⟩ (by simp only [ltL, ltA, q5q F_cmp_0] <;> rfl) rfl rfl rfl ?_; obtain ⟨F, h⟩ := bG F h; simp only [go_sem, F]; refine q8 Q19 (sM ?_); simp only [go_sem]; refine d9 Q18 (y9 Q15 ?_); exact nxC _ h [] leA
    · refine q0h (q1c Q16 (q0i Q15 (q0b Q14 (y9 Q13 (⟨(a_36, a_37), [], ?_, h⟩))))); exact leA
   ·
    rintro ⟨a_32, a_33⟩ h
    try dsimp only at h
    rw [q4v] at h; refine jg fun _ Q10 => ?_; refine sM ?_; refine sM ?_; refine sB h (fun _ h => ?_) fun _ h => ?_
    · obtain ⟨v_21, ev_21, h⟩ := z8 h; simp only [go_sem]; refine qa8 [0] (q7j a_33 a_32 (i64.wrap (a_32 + blockSize_1)) nv_0 cmp_0 g_cmp_0 c_cmp_0 F_cmp_0 E_cmp_0 H_cmp_0 v_21 ev_21) (by simp) (by simp only [q4t, q28, q44 F_cmp_0] <;> rfl) ⟨rfl, trivial⟩ (by simp only [ltL, ltA, q5q F_cmp_0] <;> rfl) rfl rfl rfl ?_; obtain ⟨F, h⟩ := bG F h; simp only [go_sem, F]; refine q8 Q10 ?_; simp only [go_sem]; refine d9 Q8 (y9 Q5 ?_); exact nxC _ h [] leA
    · refine j4 (q8 Q10 ?_); simp only [go_sem]; refine d9 Q8 (y9 Q5 ?_); exact nxC _ h [] leA
  · refine q0h (q1c Q6 (q0i Q5 (q0b Q4 ?_))); simp only [go_sem]; obtain rfl := Option.some.inj h; refine q69 [] ?_; exact leA
def q5r (xv_0 : List GOut) (cmp_0 : GOut → GOut → Option Int) : Option (List GOut) :=
 q9 (q64 xv_0 (xv_0.length : Int) cmp_0) (fun v_0 =>
 y5 (v_0.length = xv_0.length) (
 some v_0))
theorem qm1 (xv_0 : List GOut) (cmp_0 : GOut → GOut → Option Int) (g_cmp_0 : FuncId) (c_cmp_0 : List AV) (F_cmp_0 : q03 c_cmp_0 = true) (E_cmp_0 : y8 pp g_cmp_0 = true) (H_cmp_0 : ∀ (x0 : GOut) (x1 : GOut) (r : Int), cmp_0 x0 x1 = some r → PureS pp g_cmp_0 ([.agg (Row.row x0), .agg (Row.row x1)] ++ c_cmp_0) 0 (.v (.int .i64 r))) (r : List GOut) (h : q5r xv_0 cmp_0 = some r) : DetS pp 29 [.osl 0 4 (0) (xv_0.length), .clo g_cmp_0 c_cmp_0] [(0, .arr 4 (enc xv_0))] 1 (.tup []) [(0, .arr 4 (enc r))] 1 := by
 refine dtI Tryz.func29 rfl ?_; rw [q5r] at h; have F := trivial; obtain ⟨v_0, ev_0, h⟩ := z8 h; simp only [go_sem]; refine qa8 [0] (qn7 xv_0 (xv_0.length : Int) cmp_0 g_cmp_0 c_cmp_0 F_cmp_0 E_cmp_0 H_cmp_0 v_0 ev_0) (by simp) (by simp only [q4t, q28, q44 F_cmp_0] <;> rfl) ⟨rfl, trivial⟩ (by simp only [ltL, ltA, q5q F_cmp_0] <;> rfl) rfl rfl rfl ?_; obtain ⟨F, h⟩ := bG F h; simp only [go_sem, F]; obtain rfl := Option.some.inj h; refine q69 [] ?_; exact leA
def qt9 (a_0 : GOut) (b_0 : GOut) : Option Int :=
 q9 (q8r a_0.Node b_0.Node) (fun v_0 =>
 q9 (q8r a_0.Epoch b_0.Epoch) (fun v_1 =>
 q9 (qv0 ([v_0, v_1] : List Int)) (fun v_2 =>
 some v_2)))
instance z9g (a_0 : GOut) (b_0 : GOut) : Ct pp 30 (qt9 a_0 b_0) [.agg (Row.row a_0), .agg (Row.row b_0)] fun r => (.v (.int .i64 r)) := ctK Tryz.func30 rfl (by rw [qt9]) (by
 intro r h F; refine sM ?_; refine sg fun _ Q2 => ?_; refine x9 ?_; refine j83 ?_; obtain ⟨v_0, ev_0, h⟩ := z8 h; simp only [go_sem]; refine callq (fun _ => (z4r a_0.Node b_0.Node v_0 ev_0)) (by rfl) (by rfl) ?_; simp only [go_sem]; refine q15 h fun v_1 h => ?_; have rf_0 : [[.v (.int .i64 v_0)], [.v (.int .i64 v_1)]] = enc ([v_0, v_1] : List Int) := by rfl
 obtain ⟨v_2, ev_2, h⟩ := z8 h; simp only [go_sem]; simp only [rf_0]; refine qm5 (z2i ([v_0, v_1] : List Int) v_2 ev_2) ?_; simp only [go_sem]; exact au)
def z04 (b_12 : List Int) (b_13 : List Int) (b_14 : List GNode) (b_15 : List GEdge) (b_16 : List (List (List GHop))) (b_17 : Int) (a_24 : List GPoint) (a_25 : List (Arr2 (List GItem))) (a_26 : List GPoint) (a_27 : List (Arr2 (List GItem))) (a_28 : List GWave) (a_29 : List GOut) : Option ((List GWave) × (List GOut) × Int) :=
 q9 (q5r a_29 (fun x0_ x1_ => qt9 x0_ x1_)) (fun v_15 =>
 y5 (v_15.length = a_29.length) (
 some (a_28, v_15, 0)))
def z5d (most_0 : Int) (rec_3 : Int × (List Int) × (List Int) × (List GNode) × (List GEdge) × (List (List (List GHop))) × Int × (List GPoint) × (List (Arr2 (List GItem))) × (List GPoint) × (List (Arr2 (List GItem))) × (List GWave) × (List GOut) → Option ((List GWave) × (List GOut) × Int)) : Int × (List Int) × (List Int) × (List GNode) × (List GEdge) × (List (List (List GHop))) × Int × (List GPoint) × (List (Arr2 (List GItem))) × (List GPoint) × (List (Arr2 (List GItem))) × (List GWave) × (List GOut) → Option ((List GWave) × (List GOut) × Int) :=
 fun (i_6, b_24, b_25, b_26, b_27, b_28, b_29, a_36, a_37, a_38, a_39, a_40, a_41) =>
 (if (decide (0 ≤ i_6)) = true then q9 (q1t (⟨(⟨a_36, a_37⟩ : GWave_pool), (⟨b_24, b_25, b_26, b_27⟩ : GGraph), b_28, (⟨a_38, a_39⟩ : GWave_pool), b_29, a_40, a_41⟩ : GWave_runner) i_6) (fun v_21 =>
 (if ((!v_21.1) || (decide (most_0 < v_21.2.work))) = true then some (([] : List GWave), ([] : List GOut), 9)
 else q9 (q0v v_21.2) (fun v_22 =>
 rec_3 (v_22.1, v_22.2.g.Parent, v_22.2.g.Bound, v_22.2.g.Nodes, v_22.2.g.Edges, v_22.2.table, v_22.2.work, v_22.2.pool.points, v_22.2.pool.in_, v_22.2.past.points, v_22.2.past.in_, v_22.2.waves, v_22.2.outs))))
 else z04 b_24 b_25 b_26 b_27 b_28 b_29 a_36 a_37 a_38 a_39 a_40 a_41)
def z05 (g_0 : GGraph) (most_0 : Int) (v_1 : List (List (List GHop))) (a_10 : List GPoint) (a_11 : List (Arr2 (List GItem))) : Option ((List GWave) × (List GOut) × Int) :=
 q9 (q0v (⟨(⟨a_10, a_11⟩ : GWave_pool), g_0, v_1, (⟨([] : List GPoint), ([] : List (Arr2 (List GItem)))⟩ : GWave_pool), 0, ([] : List GWave), ([] : List GOut)⟩ : GWave_runner)) (fun v_16 =>
 w9 (z5d most_0) rounds (v_16.1, v_16.2.g.Parent, v_16.2.g.Bound, v_16.2.g.Nodes, v_16.2.g.Edges, v_16.2.table, v_16.2.work, v_16.2.pool.points, v_16.2.pool.in_, v_16.2.past.points, v_16.2.past.in_, v_16.2.waves, v_16.2.outs))
def qq8 (t25_3 : Int) (rec_4 : (Int × (List GPoint) × (List (Arr2 (List GItem))) → Option ((List GWave) × (List GOut) × Int))) (xv_10 : GFeed) (i_9 : Int) (a_50 : List GPoint) (a_51 : List (Arr2 (List GItem))) : Option ((List GWave) × (List GOut) × Int) :=
 q9 (idx a_51 i_9) (fun xv_11 =>
 q9 (qg8 xv_11.a0 ([(⟨xv_10.Rec, 1⟩ : GItem)] : List GItem)) (fun v_28 =>
 rec_4 (i64.wrap (t25_3 + 1), a_50, (List.set a_51 (i_9.toNat) (⟨v_28, xv_11.a1⟩ : Arr2 (List GItem))))))
def z06 (g_0 : GGraph) (feeds_0 : List GFeed) (most_0 : Int) (v_1 : List (List (List GHop))) (rec_4 : Int × (List GPoint) × (List (Arr2 (List GItem))) → Option ((List GWave) × (List GOut) × Int)) : Int × (List GPoint) × (List (Arr2 (List GItem))) → Option ((List GWave) × (List GOut) × Int) :=
 fun (t25_3, a_48, a_49) =>
 (if (decide (t25_3 < (feeds_0.length : Int))) = true then q9 (idx feeds_0 t25_3) (fun xv_10 =>
 (if ((List.length ([(⟨xv_10.Rec, 1⟩ : GItem)] : List GItem) : Int) == 0) = true then rec_4 (i64.wrap (t25_3 + 1), a_48, a_49)
 else q9 (q6b a_48 (⟨xv_10.Node, (⟨1, (⟨xv_10.Epoch, 0, 0, 0⟩ : Arr4 Int)⟩ : GTime)⟩ : GPoint)) (fun v_27 =>
 (if (decide (v_27 < 0)) = true then y5 ((a_48.length + List.length ([(⟨xv_10.Node, (⟨1, (⟨xv_10.Epoch, 0, 0, 0⟩ : Arr4 Int)⟩ : GTime)⟩ : GPoint)] : List GPoint)) * 48 ≤ 140737488355328) (
 y5 ((a_49.length + List.length ([(⟨([] : List GItem), ([] : List GItem)⟩ : Arr2 (List GItem))] : List (Arr2 (List GItem)))) * 48 ≤ 140737488355328) (
 qq8 t25_3 rec_4 xv_10 (a_48.length : Int) (a_48 ++ ([(⟨xv_10.Node, (⟨1, (⟨xv_10.Epoch, 0, 0, 0⟩ : Arr4 Int)⟩ : GTime)⟩ : GPoint)] : List GPoint)) (a_49 ++ ([(⟨([] : List GItem), ([] : List GItem)⟩ : Arr2 (List GItem))] : List (Arr2 (List GItem))))))
 else qq8 t25_3 rec_4 xv_10 v_27 a_48 a_49))))
 else z05 g_0 most_0 v_1 a_48 a_49)
def z0p (g_0 : GGraph) (feeds_0 : List GFeed) (most_0 : Int) : Option ((List GWave) × (List GOut) × Int) :=
 q9 (z1d g_0 feeds_0 most_0) (fun v_0 =>
 (if (!v_0) = true then some (([] : List GWave), ([] : List GOut), 1)
 else q9 (q8k g_0) (fun (v_1 : List (List (List GHop))) =>
 w9 (z06 g_0 feeds_0 most_0 v_1) rounds (0, [], []))))
theorem z3o (g_0 : GGraph) (feeds_0 : List GFeed) (most_0 : Int)  (r : (List GWave) × (List GOut) × Int) (h : z0p g_0 feeds_0 most_0 = some r) : DetS pp 10 [.agg (Row.row g_0), .sl 4 (enc feeds_0), .v (.int .i64 most_0)] [] 0 (.tup [.osl 0 8 (0) (r.1.length), .osl 1 4 (0) (r.2.1.length), .v (.int .i64 r.2.2)]) [(0, .arr 8 (enc r.1)), (1, .arr 4 (enc r.2.1))] 2 := by
 refine dtI Tryz.func10 rfl ?_; rw [z0p] at h; have F := trivial; refine sM ?_; refine sg fun _ Q2 => ?_; refine sg fun _ Q3 => ?_; simp only [go_sem]; refine q15 h fun v_0 h => ?_; simp only [go_sem]; refine q8 Q3 (sB h (fun _ h => ?_) fun _ h => ?_)
 · exact au
 ·
  refine j4 (q8 Q2 (sg fun _ Q5 => ?_)); refine x9 ?_; refine j83 ?_; obtain ⟨v_1, ev_1, h⟩ := z8 h; simp only [go_sem]; refine callq (fun _ => (z8a g_0 v_1 ev_1)) (by rfl) (by rfl) ?_; simp only [go_sem]; refine q8 Q5 (q14 (fun ((a_10, a_11) : (List GPoint) × (List (Arr2 (List GItem)))) => z05 g_0 most_0 v_1 a_10 a_11 = some r) [2] (fun x => ([(9, .ptr 0 0)], [(0, .box [.osl 1 6 (0) (x.1.length), .osl 2 2 (0) (x.2.length), .sl 1 (enc g_0.Parent), .sl 1 (enc g_0.Bound), .sl 4 (enc g_0.Nodes), .sl 4 (enc g_0.Edges), .sl 1 (enc v_1), .v (.slice none 0 0), .v (.slice none 0 0), .v (.int .i64 0), .v (.slice none 0 0), .v (.slice none 0 0)]), (1, .arr 6 (enc x.1)), (2, .arr 2 (enc x.2))])) 3 ?_ ?_)
  ·
   intro _ Q18; refine sM ?_; refine j3 fun _ Q20 => ?_; refine u6 h [2, 23, 24] (fun x => ([(9, .ptr 0 0), (25, .v (.int .i64 x.1))], [(0, .box [.osl 1 6 (0) (x.2.1.length), .osl 2 2 (0) (x.2.2.length), .sl 1 (enc g_0.Parent), .sl 1 (enc g_0.Bound), .sl 4 (enc g_0.Nodes), .sl 4 (enc g_0.Edges), .sl 1 (enc v_1), .v (.slice none 0 0), .v (.slice none 0 0), .v (.int .i64 0), .v (.slice none 0 0), .v (.slice none 0 0)]), (1, .arr 6 (enc x.2.1)), (2, .arr 2 (enc x.2.2))])) 3 ?_; rintro m_4 ⟨t25_3, a_48, a_49⟩ h _ Q21; rw [z06] at h; refine sM ?_; refine sg fun _ Q23 => ?_; refine sB h (fun _ h => ?_) fun _ h => ?_
   ·
    refine j4 (q8 Q23 (sg fun _ Q24 => ?_)); refine j3 fun _ Q25 => ?_; refine sg fun _ Q26 => ?_; obtain ⟨xv_10, F, h⟩ := bI F h; simp only [go_sem, F]; refine ai ?_; refine q8 Q26 (x9 ?_); refine j83 ?_; have rf_42 : [[.v (.int .i64 xv_10.Rec.K), .v (.int .i64 xv_10.Rec.V), .v (.int .i64 1)]] = enc ([(⟨xv_10.Rec, 1⟩ : GItem)] : List GItem) := by rfl
    simp only [go_sem]; simp only [rf_42]; refine q4g Tryz.func26 rfl (by kernel_rfl) (by kernel_rfl) ?_; refine sM ?_; refine sg fun _ Q28 => ?_; refine sM ?_; refine sB h (fun _ h => ?_) fun _ h => ?_
    ·
     refine q00 (q0k Q28 ?_); simp only [go_sem]; refine q0u [some 4] [(0, .box [.osl 1 6 (0) (a_48.length), .osl 2 2 (0) (a_49.length), .sl 1 (enc g_0.Parent), .sl 1 (enc g_0.Bound), .sl 4 (enc g_0.Nodes), .sl 4 (enc g_0.Edges), .sl 1 (enc v_1), .v (.slice none 0 0), .v (.slice none 0 0), .v (.int .i64 0), .v (.slice none 0 0), .v (.slice none 0 0)]), (1, .arr 6 (enc a_48)), (2, .arr 2 (enc a_49)), (3, .box (Row.row xv_10)), (4, .box [.v (.int .i64 xv_10.Node), .v (.int .i64 1), .v (.int .i64 xv_10.Epoch), .v (.int .i64 0), .v (.int .i64 0), .v (.int .i64 0)])] 5 (.tup []) ?_ ?_
     · exact leA
     refine q17 ?_; simp only [go_sem]; exact au
    ·
     refine j4 (q8 Q28 (sg fun _ Q30 => ?_)); refine x9 ?_; refine j83 ?_; obtain ⟨v_27, ev_27, h⟩ := z8 h; simp only [go_sem]; refine qm5 (q9o a_48 (⟨xv_10.Node, (⟨1, (⟨xv_10.Epoch, 0, 0, 0⟩ : Arr4 Int)⟩ : GTime)⟩ : GPoint) v_27 ev_27) ?_; simp only [go_sem]; refine q8 Q30 (q14 (fun ((i_9, a_50, a_51) : Int × (List GPoint) × (List (Arr2 (List GItem)))) => qq8 t25_3 (w9 (z06 g_0 feeds_0 most_0 v_1) m_4) xv_10 i_9 a_50 a_51 = some r) [0, 2, 3] (fun x => ([(8, .v (.int .i64 x.1))], [(0, .box [.osl 4 6 (0) (x.2.1.length), .osl 5 2 (0) (x.2.2.length), .sl 1 (enc g_0.Parent), .sl 1 (enc g_0.Bound), .sl 4 (enc g_0.Nodes), .sl 4 (enc g_0.Edges), .sl 1 (enc v_1), .v (.slice none 0 0), .v (.slice none 0 0), .v (.int .i64 0), .v (.slice none 0 0), .v (.slice none 0 0)]), (3, .box (Row.row xv_10)), (4, .arr 6 (enc x.2.1)), (5, .arr 2 (enc x.2.2))])) 6 ?_ ?_)
     ·
      intro _ Q31; refine sM ?_; refine sB h (fun _ h => ?_) fun _ h => ?_
      ·
       refine sM ?_; refine sg fun _ Q34 => ?_; refine x9 ?_; refine q27 8 0 0 [0, 0, 2, 6, 14, 0, 32, 126, 255, 511, 1023] [1, 5] [0] [] [7] [] mixed (by kernel_rfl) (of_decide_eq_true (by kernel_rfl)) (by kernel_rfl) (by kernel_rfl) (by rfl) ?_; have rf_48 : [[.v (.int .i64 xv_10.Node), .v (.int .i64 1), .v (.int .i64 xv_10.Epoch), .v (.int .i64 0), .v (.int .i64 0), .v (.int .i64 0)]] = enc ([(⟨xv_10.Node, (⟨1, (⟨xv_10.Epoch, 0, 0, 0⟩ : Arr4 Int)⟩ : GTime)⟩ : GPoint)] : List GPoint) := by rfl
       obtain ⟨g_24, h⟩ := q02 h; have F := And.intro F g_24; simp only [List.length_cons, List.length_nil, Nat.zero_add, List.length_append] at g_24; have rf_49 : enc a_48 ++ [[.v (.int .i64 xv_10.Node), .v (.int .i64 1), .v (.int .i64 xv_10.Epoch), .v (.int .i64 0), .v (.int .i64 0), .v (.int .i64 0)]] = enc (a_48 ++ ([(⟨xv_10.Node, (⟨1, (⟨xv_10.Epoch, 0, 0, 0⟩ : Arr4 Int)⟩ : GTime)⟩ : GPoint)] : List GPoint)) := by exact (q19 a_48 ([(⟨xv_10.Node, (⟨1, (⟨xv_10.Epoch, 0, 0, 0⟩ : Arr4 Int)⟩ : GTime)⟩ : GPoint)] : List GPoint)).symm
       simp only [go_sem, g_24, rf_49]; simp only [rf_48]; refine q8 Q34 ?_; have rf_50 : [[.sl 3 (enc ([] : List GItem)), .sl 3 (enc ([] : List GItem))]] = enc ([(⟨([] : List GItem), ([] : List GItem)⟩ : Arr2 (List GItem))] : List (Arr2 (List GItem))) := by rfl
       have rf_50n := rf_50; simp only [q1p] at rf_50n; obtain ⟨g_25, h⟩ := q02 h; have F := And.intro F g_25; simp only [List.length_cons, List.length_nil, Nat.zero_add, List.length_append] at g_25; have rf_51 : enc a_49 ++ [[.sl 3 (enc ([] : List GItem)), .sl 3 (enc ([] : List GItem))]] = enc (a_49 ++ ([(⟨([] : List GItem), ([] : List GItem)⟩ : Arr2 (List GItem))] : List (Arr2 (List GItem)))) := by exact (q19 a_49 ([(⟨([] : List GItem), ([] : List GItem)⟩ : Arr2 (List GItem))] : List (Arr2 (List GItem)))).symm
       simp only [go_sem, g_25, rf_51]; simp only [rf_50n, rf_50]; exact au
      · exact au
     ·
      rintro ⟨i_9, a_50, a_51⟩ h
      try dsimp only at h
      rw [qq8] at h; refine x9 ?_; refine j83 ?_; obtain ⟨xv_11, F, h⟩ := bI F h; obtain ⟨v_28, ev_28, h⟩ := z8 h; simp only [go_sem, F]; refine ai ?_; refine callq (fun _ => (z0a xv_11.a0 ([(⟨xv_10.Rec, 1⟩ : GItem)] : List GItem) v_28 ev_28)) (by rfl) (by rfl) ?_; have rf_47 : (enc a_51).set (i_9.toNat) [.sl 3 (enc v_28), .sl 3 (enc xv_11.a1)] = enc (List.set a_51 (i_9.toNat) (⟨v_28, xv_11.a1⟩ : Arr2 (List GItem))) := by exact q2v a_51 (i_9.toNat) (⟨v_28, xv_11.a1⟩ : Arr2 (List GItem))
      simp only [go_sem, rf_47, F]; refine ai ?_; refine q0u [some 4, some 5] [(0, .box [.osl 4 6 (0) (a_50.length), .osl 5 2 (0) (a_51.length), .sl 1 (enc g_0.Parent), .sl 1 (enc g_0.Bound), .sl 4 (enc g_0.Nodes), .sl 4 (enc g_0.Edges), .sl 1 (enc v_1), .v (.slice none 0 0), .v (.slice none 0 0), .v (.int .i64 0), .v (.slice none 0 0), .v (.slice none 0 0)]), (3, .box (Row.row xv_10)), (4, .arr 6 (enc a_50)), (5, .arr 2 (enc (List.set a_51 (i_9.toNat) (⟨v_28, xv_11.a1⟩ : Arr2 (List GItem)))))] 6 (.tup []) ?_ ?_
      · exact leA
      refine q17 ?_; simp only [go_sem]; exact au
   · exact au
  ·
   rintro ⟨a_10, a_11⟩ h
   try dsimp only at h
   rw [z05] at h; refine q14 (fun ((b_12, b_13, b_14, b_15, b_16, b_17, a_24, a_25, a_26, a_27, a_28, a_29) : (List Int) × (List Int) × (List GNode) × (List GEdge) × (List (List (List GHop))) × Int × (List GPoint) × (List (Arr2 (List GItem))) × (List GPoint) × (List (Arr2 (List GItem))) × (List GWave) × (List GOut)) => z04 b_12 b_13 b_14 b_15 b_16 b_17 a_24 a_25 a_26 a_27 a_28 a_29 = some r) [9] (fun x => ([], [(0, .box [.osl 1 6 (0) (x.2.2.2.2.2.2.1.length), .osl 2 2 (0) (x.2.2.2.2.2.2.2.1.length), .sl 1 (enc x.1), .sl 1 (enc x.2.1), .sl 4 (enc x.2.2.1), .sl 4 (enc x.2.2.2.1), .sl 1 (enc x.2.2.2.2.1), .osl 3 6 (0) (x.2.2.2.2.2.2.2.2.1.length), .osl 4 2 (0) (x.2.2.2.2.2.2.2.2.2.1.length), .v (.int .i64 x.2.2.2.2.2.1), .osl 5 8 (0) (x.2.2.2.2.2.2.2.2.2.2.1.length), .osl 6 4 (0) (x.2.2.2.2.2.2.2.2.2.2.2.length)]), (1, .arr 6 (enc x.2.2.2.2.2.2.1)), (2, .arr 2 (enc x.2.2.2.2.2.2.2.1)), (3, .arr 6 (enc x.2.2.2.2.2.2.2.2.1)), (4, .arr 2 (enc x.2.2.2.2.2.2.2.2.2.1)), (5, .arr 8 (enc x.2.2.2.2.2.2.2.2.2.2.1)), (6, .arr 4 (enc x.2.2.2.2.2.2.2.2.2.2.2))])) 7 ?_ ?_
   ·
    intro _ Q8; refine sg fun _ Q9 => ?_; obtain ⟨v_16, ev_16, h⟩ := z8 h; simp only [go_sem]; refine qc8 [2, 9] ([], [(0, .box [.osl 1 6 (0) (a_10.length), .osl 2 2 (0) (a_11.length), .sl 1 (enc g_0.Parent), .sl 1 (enc g_0.Bound), .sl 4 (enc g_0.Nodes), .sl 4 (enc g_0.Edges), .sl 1 (enc v_1), .osl 3 6 (0) (List.length ([] : List GPoint)), .osl 4 2 (0) (List.length ([] : List (Arr2 (List GItem)))), .v (.int .i64 0), .osl 5 8 (0) (List.length ([] : List GWave)), .osl 6 4 (0) (List.length ([] : List GOut))]), (1, .arr 6 (enc a_10)), (2, .arr 2 (enc a_11)), (3, .arr 6 (enc ([] : List GPoint))), (4, .arr 2 (enc ([] : List (Arr2 (List GItem))))), (5, .arr 8 (enc ([] : List GWave))), (6, .arr 4 (enc ([] : List GOut)))]) 7 [some 0, some 1, some 2, none, none, none, none] [.ptr 0 0] ?_; refine q0c [0, 1, 2, 3, 4, 5, 6] (q2x (⟨(⟨a_10, a_11⟩ : GWave_pool), g_0, v_1, (⟨([] : List GPoint), ([] : List (Arr2 (List GItem)))⟩ : GWave_pool), 0, ([] : List GWave), ([] : List GOut)⟩ : GWave_runner) v_16 ev_16) ?_; simp only [go_sem]; refine q8 Q9 (j3 fun _ Q10 => ?_); refine u6 h [2, 9] (fun x => ([(12, .v (.int .i64 x.1))], [(0, .box [.osl 1 6 (0) (x.2.2.2.2.2.2.2.1.length), .osl 2 2 (0) (x.2.2.2.2.2.2.2.2.1.length), .sl 1 (enc x.2.1), .sl 1 (enc x.2.2.1), .sl 4 (enc x.2.2.2.1), .sl 4 (enc x.2.2.2.2.1), .sl 1 (enc x.2.2.2.2.2.1), .osl 3 6 (0) (x.2.2.2.2.2.2.2.2.2.1.length), .osl 4 2 (0) (x.2.2.2.2.2.2.2.2.2.2.1.length), .v (.int .i64 x.2.2.2.2.2.2.1), .osl 5 8 (0) (x.2.2.2.2.2.2.2.2.2.2.2.1.length), .osl 6 4 (0) (x.2.2.2.2.2.2.2.2.2.2.2.2.length)]), (1, .arr 6 (enc x.2.2.2.2.2.2.2.1)), (2, .arr 2 (enc x.2.2.2.2.2.2.2.2.1)), (3, .arr 6 (enc x.2.2.2.2.2.2.2.2.2.1)), (4, .arr 2 (enc x.2.2.2.2.2.2.2.2.2.2.1)), (5, .arr 8 (enc x.2.2.2.2.2.2.2.2.2.2.2.1)), (6, .arr 4 (enc x.2.2.2.2.2.2.2.2.2.2.2.2))])) 7 ?_; rintro m_3 ⟨i_6, b_24, b_25, b_26, b_27, b_28, b_29, a_36, a_37, a_38, a_39, a_40, a_41⟩ h _ Q11; rw [z5d] at h; refine sg fun _ Q12 => ?_; refine sM ?_
    refine sB h (fun _ h => ?_) fun _ h => ?_
    ·
     refine j4 (q8 Q12 (sg fun _ Q14 => ?_)); refine j3 fun _ Q15 => ?_; refine sg fun _ Q16 => ?_; obtain ⟨v_21, ev_21, h⟩ := z8 h; simp only [go_sem]; refine q0c [0, 1, 2, 3, 4, 5, 6] (q79 (⟨(⟨a_36, a_37⟩ : GWave_pool), (⟨b_24, b_25, b_26, b_27⟩ : GGraph), b_28, (⟨a_38, a_39⟩ : GWave_pool), b_29, a_40, a_41⟩ : GWave_runner) i_6 v_21 ev_21) ?_; simp only [go_sem]; refine q8 Q16 (sB h (fun _ h => ?_) fun _ h => ?_)
     · exact au
     · refine j4 (d9 Q15 (q8 Q14 ?_)); obtain ⟨v_22, ev_22, h⟩ := z8 h; simp only [go_sem]; refine q0c [0, 7, 8, 9, 10, 11, 12] (q2x v_21.2 v_22 ev_22) ?_; simp only [go_sem]; exact au
    · refine q0h (q1c Q12 (q0i Q11 (q0b Q10 (y9 Q8 (⟨(b_24, b_25, b_26, b_27, b_28, b_29, a_36, a_37, a_38, a_39, a_40, a_41), [some 0, some 1, some 2, some 3, some 4, some 5, some 6], ?_, h⟩))))); exact leA
   ·
    rintro ⟨b_12, b_13, b_14, b_15, b_16, b_17, a_24, a_25, a_26, a_27, a_28, a_29⟩ h
    try dsimp only at h
    rw [z04] at h; refine sg fun _ Q6 => ?_; obtain ⟨v_15, ev_15, h⟩ := z8 h; simp only [go_sem]; refine q0c [6] (qm1 a_29 (fun x0_ x1_ => qt9 x0_ x1_) 30 [] (by rfl) (by kernel_rfl) (fun y0 y1 r_ e_ => z9g y0 y1 r_ e_) v_15 ev_15) ?_; obtain ⟨F, h⟩ := bG F h; simp only [go_sem, F]; exact au
instance j5s (g_0 : GGraph) (feeds_0 : List GFeed) (most_0 : Int) : Ct pp 10 (z0p g_0 feeds_0 most_0) [.agg (Row.row g_0), .sl 4 (enc feeds_0), .v (.int .i64 most_0)] fun r => (.tup [.sl 8 (enc r.1), .sl 4 (enc r.2.1), .v (.int .i64 r.2.2)]) := ⟨fun r h => (z3o g_0 feeds_0 most_0  r h).pure leA⟩
def q8c  : Option Bool :=
 q9 (z0p (⟨([-1] : List Int), ([0] : List Int), ([(⟨1, 0, 0, ([] : List GIns)⟩ : GNode), (⟨15, 0, 0, ([] : List GIns)⟩ : GNode)] : List GNode), ([(⟨0, 1, 0, false⟩ : GEdge)] : List GEdge)⟩ : GGraph) ([(⟨0, 3, (⟨1, 0⟩ : GRec)⟩ : GFeed)] : List GFeed) 9) (fun v_0 =>
 (if ((v_0.2.2 == 0) && ((v_0.1.length : Int) == 2)) = true then q9 (idx v_0.1 0) (fun xv_0 =>
 (if (xv_0.Gave == 1) = true then q9 (idx v_0.1 1) (fun xv_1 =>
 (if (xv_1.Came == 1) = true then (if ((xv_1.Point.Node == 1) && ((v_0.2.1.length : Int) == 1)) = true then q9 (idx v_0.2.1 0) (fun xv_2 =>
 some (xv_2.Epoch == 3))
 else some false)
 else some false))
 else some false))
 else some false))
instance zl1  : Ct pp 4 (q8c ) [] fun r => (.v (.bool r)) := ctK Tryz.func4 rfl (by rw [q8c]) (by
 intro r h F; refine sM ?_; refine sg fun _ Q2 => ?_; have rf_0 : [[.v (.int .i64 (-1))]] = enc ([-1] : List Int) := by rfl
 have rf_1 : [[.v (.int .i64 0)]] = enc ([0] : List Int) := by rfl
 have rf_2 : [[.v (.int .i64 1), .v (.int .i64 0), .v (.int .i64 0), .sl 2 (enc ([] : List GIns))], [.v (.int .i64 15), .v (.int .i64 0), .v (.int .i64 0), .sl 2 (enc ([] : List GIns))]] = enc ([(⟨1, 0, 0, ([] : List GIns)⟩ : GNode), (⟨15, 0, 0, ([] : List GIns)⟩ : GNode)] : List GNode) := by rfl
 have rf_2n := rf_2; simp only [q1p] at rf_2n; have rf_3 : [[.v (.int .i64 0), .v (.int .i64 1), .v (.int .i64 0), .v (.bool false)]] = enc ([(⟨0, 1, 0, false⟩ : GEdge)] : List GEdge) := by rfl
 simp only [go_sem]; simp only [rf_0, rf_1, rf_2n, rf_2, rf_3]; refine q8 Q2 (sg fun _ Q3 => ?_); have rf_4 : [[.v (.int .i64 0), .v (.int .i64 3), .v (.int .i64 1), .v (.int .i64 0)]] = enc ([(⟨0, 3, (⟨1, 0⟩ : GRec)⟩ : GFeed)] : List GFeed) := by rfl
 obtain ⟨v_0, ev_0, h⟩ := z8 h; simp only [go_sem]; simp only [rf_4]; refine qc8 [] ([], [(0, .box [.sl 1 (enc ([-1] : List Int)), .sl 1 (enc ([0] : List Int)), .sl 4 (enc ([(⟨1, 0, 0, ([] : List GIns)⟩ : GNode), (⟨15, 0, 0, ([] : List GIns)⟩ : GNode)] : List GNode)), .sl 4 (enc ([(⟨0, 1, 0, false⟩ : GEdge)] : List GEdge))])]) 1 [some 4] [.agg [.sl 1 (enc ([-1] : List Int)), .sl 1 (enc ([0] : List Int)), .sl 4 (enc ([(⟨1, 0, 0, ([] : List GIns)⟩ : GNode), (⟨15, 0, 0, ([] : List GIns)⟩ : GNode)] : List GNode)), .sl 4 (enc ([(⟨0, 1, 0, false⟩ : GEdge)] : List GEdge))], .sl 4 (enc ([(⟨0, 3, (⟨1, 0⟩ : GRec)⟩ : GFeed)] : List GFeed)), .v (.int .i64 9)] ?_; refine q0c [] (z3o (⟨([-1] : List Int), ([0] : List Int), ([(⟨1, 0, 0, ([] : List GIns)⟩ : GNode), (⟨15, 0, 0, ([] : List GIns)⟩ : GNode)] : List GNode), ([(⟨0, 1, 0, false⟩ : GEdge)] : List GEdge)⟩ : GGraph) ([(⟨0, 3, (⟨1, 0⟩ : GRec)⟩ : GFeed)] : List GFeed) 9 v_0 ev_0) ?_; simp only [go_sem]; exact au)
def q6s (g_0 : GGraph) (rec_1 : Int → Option Bool) : Int → Option Bool :=
 fun i_1 =>
 (if (decide (i_1 < (g_0.Nodes.length : Int))) = true then q9 (idx g_0.Nodes i_1) (fun xv_2 =>
 (if (decide (100 < (xv_2.Prog.length : Int))) = true then some false
 else rec_1 (i64.wrap (i_1 + 1))))
 else some true)
def q5x (g_0 : GGraph) : Option Bool :=
 (if ((((decide (20 < (g_0.Parent.length : Int))) || (decide (20 < (g_0.Bound.length : Int)))) || (decide (60 < (g_0.Nodes.length : Int)))) || (decide (100 < (g_0.Edges.length : Int)))) = true then some false
 else w9 (q6s g_0) rounds 0)
instance zk8 (g_0 : GGraph) : Ct pp 5 (q5x g_0) [.agg (Row.row g_0)] fun r => (.v (.bool r)) := ctK Tryz.func5 rfl (by rw [q5x]) (by
 intro r h F; refine sM ?_; refine sg fun _ Q2 => ?_; refine sM ?_; refine sB h (fun _ h => ?_) fun _ h => ?_
 · exact au
 · refine j4 (q8 Q2 (jg fun _ Q5 => ?_)); refine sM ?_; refine j3 fun _ Q7 => ?_; refine u6 h [1] (fun i_1 => ([(3, .v (.int .i64 i_1))], [(0, .box (Row.row g_0))])) 1 ?_; rintro m_1 i_1 h _ Q8; rw [q6s] at h; exact au)
def q52 (g_0 : GGraph) (waits_0 : List GPoint) : Option (List GPoint) :=
 q9 (q8i g_0) (fun v_0 =>
 (if (!(v_0.1 == 0)) = true then some ([] : List GPoint)
 else none))
theorem z5o (g_0 : GGraph) (waits_0 : List GPoint)  (r : List GPoint) (h : q52 g_0 waits_0 = some r) : DetS pp 6 [.agg (Row.row g_0), .sl 6 (enc waits_0)] [] 0 (.osl 0 6 (0) (r.length)) [(0, .arr 6 (enc r))] 1 := by
 refine dtI Tryz.func6 rfl ?_; rw [q52] at h; have F := trivial; refine sM ?_; refine sg fun _ Q2 => ?_; simp only [go_sem]; refine q4g Tryz.func11 rfl (by kernel_rfl) (by kernel_rfl) ?_; refine sM ?_; refine sg fun _ Q4 => ?_; refine sg fun _ Q5 => ?_; simp only [go_sem]; refine q15 h fun v_0 h => ?_; simp only [go_sem]; refine q8 Q5 (sM ?_); refine sB h (fun _ h => ?_) fun _ h => ?_
 ·
  refine sM ?_; refine q00 (q0k Q4 ?_); simp only [go_sem]; refine q0u [some 1] [(0, .box (Row.row g_0)), (1, .box (Row.row g_0))] 2 (.v (.slice none 0 0)) ?_ ?_
  · exact leA
  refine q17 ?_; simp only [go_sem]; exact au
 · refine j4 (q8 Q4 (sg fun _ Q11 => ?_)); exact absurd h (by simp)
def qa0 (waits_0 : List GPoint) (v_0 : List (List (List GHop))) (rec_1 : Int × (List GPoint) → Option (List GPoint)) : Int × (List GPoint) → Option (List GPoint) :=
 fun (t15_1, a_1) =>
 (if (decide (t15_1 < (waits_0.length : Int))) = true then q9 (idx waits_0 t15_1) (fun xv_2 =>
 q9 (q7g v_0 waits_0 xv_2) (fun v_3 =>
 (if v_3 = true then y5 ((a_1.length + List.length ([xv_2] : List GPoint)) * 48 ≤ 140737488355328) (
 rec_1 (i64.wrap (t15_1 + 1), (a_1 ++ ([xv_2] : List GPoint))))
 else rec_1 (i64.wrap (t15_1 + 1), a_1))))
 else some a_1)
def qa1 (g_0 : GGraph) (waits_0 : List GPoint) : Option (List GPoint) :=
 q9 (q8k g_0) (fun (v_0 : List (List (List GHop))) =>
 y5 (0 < v_0.length) (
 w9 (qa0 waits_0 v_0) rounds (0, [])))
theorem z5n (g_0 : GGraph) (waits_0 : List GPoint)  (r : List GPoint) (h : qa1 g_0 waits_0 = some r) : DetS pp 6 [.agg (Row.row g_0), .sl 6 (enc waits_0)] [] 0 (.osl 0 6 (0) (r.length)) [(0, .arr 6 (enc r))] 1 := by
 refine dtI Tryz.func6 rfl ?_; rw [qa1] at h; have F := trivial; refine sM ?_; refine sg fun _ Q2 => ?_; obtain ⟨v_0, ev_0, h⟩ := z8 h; simp only [go_sem]; refine q0c [] (z0e g_0 v_0 ev_0) ?_; simp only [go_sem]; refine q8 Q2 (sg fun _ Q3 => ?_); refine sg fun _ Q4 => ?_; obtain ⟨F, h⟩ := bG F h; simp only [go_sem, F]; refine q8 Q4 (j9o ?_); refine j4 (q8 Q3 (sM ?_)); refine jg fun _ Q6 => ?_; refine sM ?_; refine j3 fun _ Q8 => ?_; refine u6 h [1, 13, 14] (fun x => ([(5, .osl 0 1 (0) (v_0.length)), (6, .osl 1 6 (0) (x.2.length)), (15, .v (.int .i64 x.1))], [(0, .arr 1 (enc v_0)), (1, .arr 6 (enc x.2))])) 2 ?_; rintro m_1 ⟨t15_1, a_1⟩ h _ Q9; rw [qa0] at h; refine sM ?_; refine sg fun _ Q11 => ?_; refine sB h (fun _ h => ?_) fun _ h => ?_
 ·
  refine j4 (q8 Q11 (jg fun _ Q12 => ?_)); refine j3 fun _ Q13 => ?_; refine sg fun _ Q14 => ?_; obtain ⟨xv_2, F, h⟩ := bI F h; simp only [go_sem, F]; refine ai ?_; refine q8 Q14 (sg fun _ Q15 => ?_); obtain ⟨v_3, ev_3, h⟩ := z8 h; simp only [go_sem]; refine qm5 (z7e v_0 waits_0 xv_2 v_3 ev_3) ?_; simp only [go_sem]; refine q8 Q15 (sB h (fun _ h => ?_) fun _ h => ?_)
  ·
   have rf_3 : [[.v (.int .i64 xv_2.Node), .v (.int .i64 xv_2.Time.D), .v (.int .i64 xv_2.Time.C.a0), .v (.int .i64 xv_2.Time.C.a1), .v (.int .i64 xv_2.Time.C.a2), .v (.int .i64 xv_2.Time.C.a3)]] = enc ([xv_2] : List GPoint) := by rfl
   obtain ⟨g_4, h⟩ := q02 h; have F := And.intro F g_4; simp only [List.length_cons, List.length_nil, Nat.zero_add, List.length_append] at g_4; have rf_4 : enc a_1 ++ [[.v (.int .i64 xv_2.Node), .v (.int .i64 xv_2.Time.D), .v (.int .i64 xv_2.Time.C.a0), .v (.int .i64 xv_2.Time.C.a1), .v (.int .i64 xv_2.Time.C.a2), .v (.int .i64 xv_2.Time.C.a3)]] = enc (a_1 ++ ([xv_2] : List GPoint)) := by exact (q19 a_1 ([xv_2] : List GPoint)).symm
   simp only [go_sem, g_4, rf_4]; simp only [rf_3]; exact au
  · exact au
 · exact au
def q7v (g_0 : GGraph) (waits_0 : List GPoint) : Option (List GPoint) := match q52 g_0 waits_0 with
 | some r => some r
 | none => qa1 g_0 waits_0
theorem z1e (g_0 : GGraph) (waits_0 : List GPoint) (r : List GPoint) (h : q7v g_0 waits_0 = some r) : DetS pp 6 [.agg (Row.row g_0), .sl 6 (enc waits_0)] [] 0 (.osl 0 6 (0) (r.length)) [(0, .arr 6 (enc r))] 1 := by
  unfold q7v at h
  cases h0 : q52 g_0 waits_0 with
  | some r0 => rw [h0] at h; cases h; exact z5o g_0 waits_0 r h0
  | none => rw [h0] at h; exact z5n g_0 waits_0 r h
instance j3e (g_0 : GGraph) (waits_0 : List GPoint) : Ct pp 6 (q7v g_0 waits_0) [.agg (Row.row g_0), .sl 6 (enc waits_0)] fun r => (.sl 6 (enc r)) := ⟨fun r h => (z1e g_0 waits_0  r h).pure leA⟩
def q5l (p_0 : List (List (List GHop))) (nv_0 : Int) (t_0 : GTime) (mv_0 : Int) (u_0 : GTime) (rec_1 : Int → Option Bool) : Int → Option Bool :=
 fun i_1 =>
 q9 (idx p_0 nv_0) (fun xv_6 =>
 q9 (idx xv_6 mv_0) (fun xv_7 =>
 (if (decide (i_1 < (xv_7.length : Int))) = true then q9 (idx xv_7 i_1) (fun xv_8 =>
 q9 (q60 xv_8 t_0) (fun v_4 =>
 (if v_4.2 = true then q9 (q83 v_4.1 u_0) (fun v_5 =>
 (if v_5 = true then some true
 else rec_1 (i64.wrap (i_1 + 1))))
 else rec_1 (i64.wrap (i_1 + 1)))))
 else some false)))
def q4p (p_0 : List (List (List GHop))) (nv_0 : Int) (t_0 : GTime) (mv_0 : Int) (u_0 : GTime) : Option Bool :=
 (if ((((decide (nv_0 < 0)) || (decide ((p_0.length : Int) ≤ nv_0))) || (decide (mv_0 < 0))) || (decide ((p_0.length : Int) ≤ mv_0))) = true then some false
 else w9 (q5l p_0 nv_0 t_0 mv_0 u_0) rounds 0)
instance zf2 (p_0 : List (List (List GHop))) (nv_0 : Int) (t_0 : GTime) (mv_0 : Int) (u_0 : GTime) : Ct pp 9 (q4p p_0 nv_0 t_0 mv_0 u_0) [.sl 1 (enc p_0), .v (.int .i64 nv_0), .agg (Row.row t_0), .v (.int .i64 mv_0), .agg (Row.row u_0)] fun r => (.v (.bool r)) := ctK Tryz.func9 rfl (by rw [q4p]) (by
 intro r h F; refine sM ?_; refine sg fun _ Q2 => ?_; refine sM ?_; refine sB h (fun _ h => ?_) fun _ h => ?_
 · exact au
 ·
  refine j4 (q8 Q2 (jg fun _ Q5 => ?_)); refine sM ?_; refine j3 fun _ Q7 => ?_; refine u6 h [0, 1, 3, 7, 9] (fun i_1 => ([(11, .v (.int .i64 i_1))], [(0, .box (Row.row t_0)), (1, .box (Row.row u_0))])) 2 ?_; rintro m_1 i_1 h _ Q8; rw [q5l] at h; refine sg fun _ Q9 => ?_; refine sg fun _ Q10 => ?_; obtain ⟨xv_6, F, h⟩ := bI F h; obtain ⟨xv_7, F, h⟩ := bI F h; simp only [go_sem, F]; refine ai ?_; refine ai ?_; refine q8 Q10 (sB h (fun _ h => ?_) fun _ h => ?_)
  · refine j4 (q8 Q9 (sg fun _ Q11 => ?_)); refine j3 fun _ Q12 => ?_; refine sg fun _ Q13 => ?_; refine x9 ?_; refine q27 17 0 0 [0, 0, 3, 7, 0, 31, 63, 0, 255, 511, 0, 2047, 4095, 8191, 8191, 0, 49151, 131071] [2] [0, 1, 2, 3, 4, 5, 6, 7, 8, 9, 10, 11, 12, 13, 14] [] [15, 16] [] mixed (by kernel_rfl) (of_decide_eq_true (by kernel_rfl)) (by kernel_rfl) (by kernel_rfl) (by rfl) ?_; obtain ⟨xv_8, F, h⟩ := bI F h; obtain ⟨v_4, ev_4, h⟩ := z8 h; simp only [go_sem, F]; refine ai ?_; refine ai ?_; refine ai ?_; refine callq (fun _ => (z1m xv_8 t_0 v_4 ev_4)) (by rfl) (by rfl) ?_; simp only [go_sem]; exact au
  · exact au)
def q4l (waits_0 : List GPoint) (v_2 : List GPoint) (atv_1 : Int) (i_1 : Int) (rec_2 : (Int × Int → Option Bool)) (free_12 : Bool) : Option Bool :=
 (if (!free_12) = true then rec_2 (atv_1, i64.wrap (i_1 + 1))
 else (if (decide ((v_2.length : Int) ≤ atv_1)) = true then some false
 else q9 (idx v_2 atv_1) (fun xv_32 =>
 q9 (idx waits_0 i_1) (fun xv_33 =>
 (if (!((xv_32.Node == xv_33.Node) && ((xv_32.Time.D == xv_33.Time.D) && ((xv_32.Time.C.a0 == xv_33.Time.C.a0) && ((xv_32.Time.C.a1 == xv_33.Time.C.a1) && ((xv_32.Time.C.a2 == xv_33.Time.C.a2) && (xv_32.Time.C.a3 == xv_33.Time.C.a3))))))) = true then some false
 else rec_2 (i64.wrap (atv_1 + 1), i64.wrap (i_1 + 1)))))))
def q4o (waits_0 : List GPoint) (v_2 : List GPoint) (a_2 : List (List (List GHop))) (atv_1 : Int) (i_1 : Int) (rec_2 : (Int × Int → Option Bool)) (rec_4 : Bool × Int → Option Bool) : Bool × Int → Option Bool :=
 fun (free_14, k_11) =>
 (if (decide (k_11 < (waits_0.length : Int))) = true then q9 (idx waits_0 k_11) (fun xv_38 =>
 q9 (idx waits_0 i_1) (fun xv_39 =>
 (if ((xv_38.Node == xv_39.Node) && ((xv_38.Time.D == xv_39.Time.D) && ((xv_38.Time.C.a0 == xv_39.Time.C.a0) && ((xv_38.Time.C.a1 == xv_39.Time.C.a1) && ((xv_38.Time.C.a2 == xv_39.Time.C.a2) && (xv_38.Time.C.a3 == xv_39.Time.C.a3)))))) = true then rec_4 (free_14, i64.wrap (k_11 + 1))
 else q9 (q4p a_2 xv_38.Node xv_38.Time xv_39.Node xv_39.Time) (fun v_24 =>
 (if v_24 = true then rec_4 (false, i64.wrap (k_11 + 1))
 else rec_4 (free_14, i64.wrap (k_11 + 1)))))))
 else q4l waits_0 v_2 atv_1 i_1 rec_2 free_14)
def q37 (waits_0 : List GPoint) (v_2 : List GPoint) (a_2 : List (List (List GHop))) (rec_2 : Int × Int → Option Bool) : Int × Int → Option Bool :=
 fun (atv_1, i_1) =>
 (if (decide (i_1 < (waits_0.length : Int))) = true then w9 (q4o waits_0 v_2 a_2 atv_1 i_1 rec_2) rounds (true, 0)
 else some (atv_1 == (v_2.length : Int)))
def q4m (waits_0 : List GPoint) (v_2 : List GPoint) (a_2 : List (List (List GHop))) : Option Bool :=
 w9 (q37 waits_0 v_2 a_2) rounds (0, 0)
def q4n (g_0 : GGraph) (waits_0 : List GPoint) (v_2 : List GPoint) (rec_5 : Int × (List (List (List GHop))) → Option Bool) : Int × (List (List (List GHop))) → Option Bool :=
 fun (nv_3, a_4) =>
 (if (decide (nv_3 < (g_0.Nodes.length : Int))) = true then q9 (q57 g_0 nv_3) (fun v_27 =>
 y5 ((a_4.length + List.length ([v_27] : List (List (List GHop)))) * 24 ≤ 140737488355328) (
 rec_5 (i64.wrap (nv_3 + 1), (a_4 ++ ([v_27] : List (List (List GHop)))))))
 else q4m waits_0 v_2 a_4)
def q3t (g_0 : GGraph) (waits_0 : List GPoint) : Option Bool :=
 q9 (q8c) (fun v_0 =>
 (if (!v_0) = true then some false
 else q9 (q5x g_0) (fun v_1 =>
 (if ((!v_1) || (decide (40 < (waits_0.length : Int)))) = true then some true
 else q9 (q7v g_0 waits_0) (fun v_2 =>
 q9 (q3y g_0) (fun v_3 =>
 (if (!(v_3.1 == 0)) = true then some ((v_2.length : Int) == 0)
 else w9 (q4n g_0 waits_0 v_2) rounds (0, []))))))))
instance qx8 (g_0 : GGraph) (waits_0 : List GPoint) : Ct pp 3 (q3t g_0 waits_0) [.agg (Row.row g_0), .sl 6 (enc waits_0)] fun r => (.v (.bool r)) := ctK Tryz.func3 rfl (by rw [q3t]) (by
 intro r h F; refine sM ?_; refine sg fun _ Q2 => ?_; refine sg fun _ Q3 => ?_; simp only [go_sem]; refine q15 h fun v_0 h => ?_; simp only [go_sem]; refine q8 Q3 (sB h (fun _ h => ?_) fun _ h => ?_)
 · exact au
 ·
  refine j4 (q8 Q2 (sg fun _ Q5 => ?_)); refine sg fun _ Q6 => ?_; simp only [go_sem]; refine q15 h fun v_1 h => ?_; simp only [go_sem]; refine q8 Q6 (sB h (fun _ h => ?_) fun _ h => ?_)
  · exact au
  ·
   refine j4 (q8 Q5 (sg fun _ Q8 => ?_)); obtain ⟨v_2, ev_2, h⟩ := z8 h; simp only [go_sem]; refine q0c [] (z1e g_0 waits_0 v_2 ev_2) ?_; simp only [go_sem]; refine q8 Q8 (sg fun _ Q9 => ?_); refine sg fun _ Q10 => ?_; simp only [go_sem]; refine q15 h fun v_3 h => ?_; simp only [go_sem]; refine q8 Q10 (sM ?_); refine sB h (fun _ h => ?_) fun _ h => ?_
   · exact au
   ·
    refine j4 (q8 Q9 (sM ?_)); refine q14 (fun (a_2 : (List (List (List GHop)))) => q4m waits_0 v_2 a_2 = some r) [1] (fun a_2 => ([(5, .osl 0 6 (0) (v_2.length)), (8, .osl 1 1 (0) (a_2.length))], [(0, .arr 6 (enc v_2)), (1, .arr 1 (enc a_2))])) 2 ?_ ?_
    ·
     intro _ Q40; refine sM ?_; refine j3 fun _ Q42 => ?_; refine u6 h [1, 2, 5] (fun x => ([(8, .osl 2 1 (0) (x.2.length)), (9, .v (.int .i64 x.1))], [(0, .box (Row.row g_0)), (1, .arr 6 (enc v_2)), (2, .arr 1 (enc x.2))])) 3 ?_; rintro m_5 ⟨nv_3, a_4⟩ h _ Q43; rw [q4n] at h; refine sg fun _ Q44 => ?_; refine sM ?_; refine sB h (fun _ h => ?_) fun _ h => ?_
     ·
      refine j4 (q8 Q44 (sg fun _ Q46 => ?_)); refine j3 fun _ Q47 => ?_; obtain ⟨v_27, ev_27, h⟩ := z8 h; simp only [go_sem]; refine q0c [] (qp0 g_0 nv_3 v_27 ev_27) ?_; have rf_8 : [[.sl 1 (enc v_27)]] = enc ([v_27] : List (List (List GHop))) := by rfl
      obtain ⟨g_6, h⟩ := q02 h; have F := And.intro F g_6; simp only [List.length_cons, List.length_nil, Nat.zero_add, List.length_append] at g_6; have rf_9 : enc a_4 ++ [[.sl 1 (enc v_27)]] = enc (a_4 ++ ([v_27] : List (List (List GHop)))) := by exact (q19 a_4 ([v_27] : List (List (List GHop)))).symm
      simp only [go_sem, g_6, rf_9]; exact au
     · exact au
    ·
     rintro a_2 h
     try dsimp only at h
     rw [q4m] at h; refine sM ?_; refine jg fun _ Q15 => ?_; refine sM ?_; refine j3 fun _ Q17 => ?_; refine u6 h [1, 5, 8] (fun x => ([(10, .v (.int .i64 x.1)), (11, .v (.int .i64 x.2))], [(0, .arr 6 (enc v_2)), (1, .arr 1 (enc a_2))])) 2 ?_; rintro m_2 ⟨atv_1, i_1⟩ h _ Q18; rw [q37] at h; refine sg fun _ Q19 => ?_; refine sM ?_; refine sB h (fun _ h => ?_) fun _ h => ?_
     ·
      refine j4 (q8 Q19 (jg fun _ Q21 => ?_)); refine j3 fun _ Q22 => ?_; refine sM ?_; refine q14 (fun (free_12 : Bool) => q4l waits_0 v_2 atv_1 i_1 (w9 (q37 waits_0 v_2 a_2) m_2) free_12 = some r) [1, 5, 8, 10, 11] (fun free_12 => ([(12, .v (.bool free_12))], [(0, .arr 6 (enc v_2)), (1, .arr 1 (enc a_2))])) 2 ?_ ?_
      · intro _ Q30; refine sM ?_; refine j3 fun _ Q32 => ?_; refine u6 h [1, 5, 8, 10, 11] (fun x => ([(12, .v (.bool x.1)), (13, .v (.int .i64 x.2))], [(0, .arr 6 (enc v_2)), (1, .arr 1 (enc a_2))])) 2 ?_; rintro m_4 ⟨free_14, k_11⟩ h _ Q33; rw [q4o] at h; exact au
      ·
       rintro free_12 h
       try dsimp only at h
       rw [q4l] at h; exact au
     · exact au)
end Go.Proofs.YtlpfoonihpdekaaGreat
