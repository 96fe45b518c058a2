/-
  What functions of the program compute, each told as a plain function that may give nothing, with the proof that the code does so. No condition beyond those that each theorem names.
-/
import Derived.Test.YteibkihbdgphnaaGreatWalkMP0
import Derived.Test.YteibkihbdgphnaaGreatLibD
import Derived.Test.YteibkihbdgphnaaGreatLibE
set_option linter.unusedSimpArgs false
set_option linter.unusedVariables false
set_option linter.unusedSectionVars false
set_option maxHeartbeats 2000000
set_option maxRecDepth 100000
open Option renaming some.inj -> Xa, getD_some -> Xr, map_some -> Xt
open And renaming intro -> Xb
open List renaming set -> Xc, length_cons -> Xe, eraseIdx -> Xf, length_nil -> Xg, take -> Xj, getD_eq_getElem?_getD -> Xk, length -> Xl, nil_append -> Xn, cons_append -> Xo, append_nil -> Xq, map_cons -> Xu, map_nil -> Xv, replicate -> Xw, drop_succ_cons -> Xx, length_append -> Xy, mapIdx_cons -> Xz, mapIdx_nil -> X0, drop -> X1
open Int renaming toNat -> Xd
open Nat renaming zero_add -> Xh, reduceAdd -> Xm, mul_one -> Xp, lt_succ_self -> Xs, add_assoc -> X2
open Prod renaming mk -> Xi
namespace Go.Proofs.YteibkihbdgphnaaGreat
open Go Go.RowKit
open Go.IntKind (i64)
def q1s (t4_0 : Bool) : Option Bool :=
 (if t4_0 = true then some true
 else some false)
def q79 (kind_0 : Int) : Option Bool :=
 (if (kind_0 == 1) = true then q1s (kind_0 == 1)
 else (if (kind_0 == 2) = true then q1s (kind_0 == 2)
 else (if (kind_0 == 3) = true then q1s (kind_0 == 3)
 else (if (kind_0 == 4) = true then q1s (kind_0 == 4)
 else (if (kind_0 == 5) = true then q1s (kind_0 == 5)
 else (if (kind_0 == 10) = true then q1s (kind_0 == 10)
 else (if (kind_0 == 11) = true then q1s (kind_0 == 11)
 else (if (kind_0 == 12) = true then q1s (kind_0 == 12)
 else (if (kind_0 == 13) = true then q1s (kind_0 == 13)
 else q1s (kind_0 == 15))))))))))
instance z8x (kind_0 : Int) : Ct pp 12 (q79 kind_0) [.v (.int .i64 kind_0)] fun r => (.v (.bool r)) := ctK Tryz.func12 rfl (by rw [q79]) (by
 intro r h F; refine sM ?_; refine jg fun _ Q2 => ?_; refine sM ?_; refine w9 fun _ Q4 => ?_; refine q52 (fun (t4_0 : Bool) => q1s t4_0 = some r) [] (fun t4_0 => ([(4, .v (.bool t4_0))], [])) 0 ?_ ?_
 . intro _ Q7; exact au
 .
  rintro t4_0 h
  try dsimp only at h
  rw [q1s] at h; exact au)
def q53 (nv_0 : Int) (cap_0 : List (List GItem)) : Option (List GItem) :=
 (if (decide ((cap_0.length : Int) <= nv_0)) = true then some ([] : List GItem)
 else q9 (idx cap_0 nv_0) (fun xv_0 =>
 q9 (qf3 xv_0) (fun v_0 =>
 some v_0)))
theorem qx8 (nv_0 : Int) (cap_0 : List (List GItem))  (r : List GItem) (h : q53 nv_0 cap_0 = some r) : DetS pp 85 [.v (.int .i64 nv_0), .el 1 [[.sl 1 (enc cap_0)]] 0 0] [] 0 (.osl 0 3 (0) (r.length)) [(0, .arr 3 (enc r))] 1 := by
 refine dtI Tryz.func85 rfl ?_; rw [q53] at h; have F := trivial; refine sM ?_; refine sg fun _ Q2 => ?_; refine sM ?_; refine sB h (fun _ h => ?_) fun _ h => ?_
 . exact au
 . refine y9 (q8 Q2 (sg fun _ Q5 => ?_)); obtain ⟨xv_0, F, h⟩ := bI F h; obtain ⟨v_0, ev_0, h⟩ := z8 h; simp only [go_sem, F]; refine ai ?_; refine q20 [] (z1a xv_0 v_0 ev_0) ?_; simp only [go_sem]; exact au
def q2h (ok_2 : Bool) (b_2 : Int) (a_2 : List GItem) : Option ((List GItem) × Bool) :=
 (if (!ok_2) = true then some (([] : List GItem), false)
 else q9 (q51 (⟨a_2, b_2⟩ : GOps_maker)) (fun v_11 =>
 some (v_11.1, true)))
def qu1 (v_0 : List GItem) (rec_2 : Bool × Int × Int × (List GItem) -> Option ((List GItem) × Bool)) : Bool × Int × Int × (List GItem) -> Option ((List GItem) × Bool) :=
 fun (ok_4, t48_3, b_4, a_4) =>
 (if (decide (t48_3 < (v_0.length : Int))) = true then q9 (idx v_0 t48_3) (fun xv_6 =>
 (if ok_4 = true then q9 (q14 (⟨a_4, b_4⟩ : GOps_maker) xv_6.Rec 1) (fun v_18 =>
 rec_2 (v_18.1, i64.wrap (t48_3 + 1), v_18.2.many, v_18.2.out))
 else rec_2 (false, i64.wrap (t48_3 + 1), b_4, a_4)))
 else q2h ok_4 b_4 a_4)
def q7z (xv_0 : GNode) (ports_0 : List (List GItem)) : Option ((List GItem) × Bool) :=
 q9 (q53 0 ports_0) (fun v_0 =>
 q9 (q53 1 ports_0) (fun v_1 =>
 (if (xv_0.Kind == 5) = true then q9 (q2a (⟨([] : List GItem), 0⟩ : GOps_maker) xv_0 v_0) (fun v_12 =>
 (if v_12.1 = true then q9 (q2a v_12.2 xv_0 v_1) (fun v_13 =>
 q2h v_13.1 v_13.2.many v_13.2.out)
 else q2h false v_12.2.many v_12.2.out))
 else q9 (q79 xv_0.Kind) (fun v_14 =>
 (if v_14 = true then q9 (q2a (⟨([] : List GItem), 0⟩ : GOps_maker) xv_0 v_0) (fun v_15 =>
 q2h v_15.1 v_15.2.many v_15.2.out)
 else (if (xv_0.Kind == 8) = true then q05 (qu1 v_0) rounds (true, 0, 0, [])
 else (if (xv_0.Kind == 9) = true then q9 (q50 (⟨([] : List GItem), 0⟩ : GOps_maker) v_0 v_1) (fun v_19 =>
 q2h v_19.1 v_19.2.many v_19.2.out)
 else (if (((xv_0.Kind == 7) || (xv_0.Kind == 6)) || (xv_0.Kind == 14)) = true then q9 (q3t (⟨([] : List GItem), 0⟩ : GOps_maker) xv_0.Kind v_0 v_1) (fun v_20 =>
 q2h v_20.1 v_20.2.many v_20.2.out)
 else q2h true 0 ([])))))))))
theorem z8y (xv_0 : GNode) (ports_0 : List (List GItem))  (r : (List GItem) × Bool) (h : q7z xv_0 ports_0 = some r) : DetS pp 57 [.agg (Row.row xv_0), .sl 1 (enc ports_0)] [] 0 (.tup [.osl 0 3 (0) (r.1.length), .v (.bool r.2)]) [(0, .arr 3 (enc r.1))] 1 := by
 refine dtI Tryz.func57 rfl ?_; rw [q7z] at h; have F := trivial; refine sM ?_; refine sM ?_; refine sM ?_; refine sg fun _ Q4 => ?_; obtain ⟨v_0, ev_0, h⟩ := z8 h; simp only [go_sem]; refine qf6 [2] ([(6, .clo 85 [.el 1 [[.sl 1 (enc ports_0)]] 0 0]), (7, .ptr 1 0)], [(0, .box (Row.row xv_0)), (1, .box [.v (.slice none 0 0), .v (.int .i64 0)])]) 2 [some 0, some 2] [.v (.int .i64 0), .el 1 [[.sl 1 (enc ports_0)]] 0 0] ?_; refine q20 [] (qx8 0 ports_0 v_0 ev_0) ?_; obtain ⟨v_1, ev_1, h⟩ := z8 h; simp only [go_sem]; refine q20 [] (qx8 1 ports_0 v_1 ev_1) ?_; simp only [go_sem]; refine q8 Q4 (sM ?_); refine q52 (fun ((ok_2, b_2, a_2) : Bool × Int × (List GItem)) => q2h ok_2 b_2 a_2 = some r) [] (fun x => ([(7, .ptr 0 0), (10, .v (.bool x.1))], [(0, .box [.osl 1 3 (0) (x.2.2.length), .v (.int .i64 x.2.1)]), (1, .arr 3 (enc x.2.2))])) 2 ?_ ?_
 .
  intro _ Q10; refine w9 fun _ Q11 => ?_; refine sM ?_; refine sB h (fun _ h => ?_) fun _ h => ?_
  .
   obtain ⟨v_12, ev_12, h⟩ := z8 h; simp only [go_sem]; refine qf6 [2, 7, 10] ([(9, .osl 2 3 (0) (v_1.length))], [(0, .box (Row.row xv_0)), (1, .box [.osl 3 3 (0) (Xl ([] : List GItem)), .v (.int .i64 0)]), (2, .arr 3 (enc v_1)), (3, .arr 3 (enc ([] : List GItem)))]) 4 [some 0, some 1, some 3, none] [.ptr 1 0, .agg (Row.row xv_0), .sl 3 (enc v_0)] ?_; refine q20 [1, 3] (q6b (⟨([] : List GItem), 0⟩ : GOps_maker) xv_0 v_0 v_12 ev_12) ?_; simp only [go_sem]; rcases hb_13 : v_12.1 with _ | _
   . replace h := q2l h hb_13; simp only [go_sem, hb_13]; exact au
   . replace h := q2k h hb_13; obtain ⟨v_13, ev_13, h⟩ := z8 h; simp only [go_sem, hb_13]; refine qf6 [7, 10, 28] ([], [(0, .box (Row.row xv_0)), (1, .box [.osl 2 3 (0) (v_12.2.out.length), .v (.int .i64 v_12.2.many)]), (2, .arr 3 (enc v_12.2.out))]) 3 [some 0, some 1, some 4] [.ptr 1 0, .agg (Row.row xv_0), .sl 3 (enc v_1)] ?_; refine q20 [1, 2] (q6b v_12.2 xv_0 v_1 v_13 ev_13) ?_; simp only [go_sem]; exact au
  .
   refine sg fun _ Q13 => ?_; simp only [go_sem]; refine q6l h fun v_14 h => ?_; simp only [go_sem]; refine q8 Q13 (sB h (fun _ h => ?_) fun _ h => ?_)
   . obtain ⟨v_15, ev_15, h⟩ := z8 h; simp only [go_sem]; refine qf6 [7, 10] ([], [(0, .box (Row.row xv_0)), (1, .box [.osl 3 3 (0) (Xl ([] : List GItem)), .v (.int .i64 0)]), (2, .arr 3 (enc v_1)), (3, .arr 3 (enc ([] : List GItem)))]) 4 [some 0, some 1, some 3, none] [.ptr 1 0, .agg (Row.row xv_0), .sl 3 (enc v_0)] ?_; refine q20 [1, 3] (q6b (⟨([] : List GItem), 0⟩ : GOps_maker) xv_0 v_0 v_15 ev_15) ?_; simp only [go_sem]; exact au
   .
    refine sM ?_; refine sB h (fun _ h => ?_) fun _ h => ?_
    .
     refine sM ?_; refine w9 fun _ Q16 => ?_; refine q0x h [47] (fun x => ([(7, .ptr 0 0), (10, .v (.bool x.1)), (46, .osl 1 3 (0) (v_0.length)), (48, .v (.int .i64 x.2.1))], [(0, .box [.osl 2 3 (0) (x.2.2.2.length), .v (.int .i64 x.2.2.1)]), (1, .arr 3 (enc v_0)), (2, .arr 3 (enc x.2.2.2))])) 3 ?_; rintro m_2 ⟨ok_4, t48_3, b_4, a_4⟩ h _ Q17; rw [qu1] at h; refine sM ?_; refine sg fun _ Q19 => ?_; refine sB h (fun _ h => ?_) fun _ h => ?_
     .
      refine y9 (q8 Q19 (sg fun _ Q20 => ?_)); refine w9 fun _ Q21 => ?_; refine sg fun _ Q22 => ?_; obtain ⟨xv_6, F, h⟩ := bI F h; simp only [go_sem, F]; refine ai ?_; refine q8 Q22 ?_; simp only [go_sem]; rcases hb_20 : ok_4 with _ | _
      . replace h := q2l h hb_20; simp only [go_sem, hb_20]; exact au
      . replace h := q2k h hb_20; obtain ⟨v_18, ev_18, h⟩ := z8 h; simp only [go_sem, hb_20]; refine q20 [0, 2] (q2r (⟨a_4, b_4⟩ : GOps_maker) xv_6.Rec 1 v_18 ev_18) ?_; simp only [go_sem]; exact au
     . exact au
    .
     refine sM ?_; refine sB h (fun _ h => ?_) fun _ h => ?_
     . obtain ⟨v_19, ev_19, h⟩ := z8 h; simp only [go_sem]; refine qf6 [7, 10] ([], [(0, .box (Row.row xv_0)), (1, .box [.osl 2 3 (0) (Xl ([] : List GItem)), .v (.int .i64 0)]), (2, .arr 3 (enc ([] : List GItem)))]) 3 [some 0, some 1, none] [.ptr 1 0, .sl 3 (enc v_0), .sl 3 (enc v_1)] ?_; refine q20 [1, 2] (qt9 (⟨([] : List GItem), 0⟩ : GOps_maker) v_0 v_1 v_19 ev_19) ?_; simp only [go_sem]; exact au
     .
      refine sM ?_; refine sB h (fun _ h => ?_) fun _ h => ?_
      . obtain ⟨v_20, ev_20, h⟩ := z8 h; simp only [go_sem]; refine qf6 [7, 10] ([], [(0, .box (Row.row xv_0)), (1, .box [.osl 2 3 (0) (Xl ([] : List GItem)), .v (.int .i64 0)]), (2, .arr 3 (enc ([] : List GItem)))]) 3 [some 0, some 1, none] [.ptr 1 0, .v (.int .i64 xv_0.Kind), .sl 3 (enc v_0), .sl 3 (enc v_1)] ?_; refine q20 [1, 2] (qp8 (⟨([] : List GItem), 0⟩ : GOps_maker) xv_0.Kind v_0 v_1 v_20 ev_20) ?_; simp only [go_sem]; exact au
      . exact au
 .
  rintro ⟨ok_2, b_2, a_2⟩ h
  try dsimp only at h
  rw [q2h] at h; refine sg fun _ Q6 => ?_; refine sM ?_; refine sB h (fun _ h => ?_) fun _ h => ?_
  . exact au
  . refine y9 (q8 Q6 (sg fun _ Q9 => ?_)); obtain ⟨v_11, ev_11, h⟩ := z8 h; simp only [go_sem]; refine q20 [0, 1] (qu0 (⟨a_2, b_2⟩ : GOps_maker) v_11 ev_11) ?_; simp only [go_sem]; exact au
def qg1 (xv_0 : Int) (y_0 : Int) : Option (Int × Int) :=
 q9 (q3f xv_0 y_0) (fun v_0 =>
 some (v_0.1, v_0.2))
instance j2h (xv_0 : Int) (y_0 : Int) : Ct pp 116 (qg1 xv_0 y_0) [.v (.int .u64 xv_0), .v (.int .u64 y_0)] fun r => (.tup [.v (.int .u64 r.1), .v (.int .u64 r.2)]) := ctI Tryz.func116 rfl (by rw [qg1]; exact au1)
def q9g  (rec_3 : Int × (List GRec) -> Option (List GRec)) : Int × (List GRec) -> Option (List GRec) :=
 fun (nv_1, a_1) =>
 (if (decide (nv_1 < (a_1.length : Int))) = true then q03 (0 <= nv_1 /\ nv_1 <= (a_1.length : Int) /\ (a_1.length : Int) <= (a_1.length : Int)) (
 q03 (0 <= 0 /\ 0 <= nv_1 /\ nv_1 <= (a_1.length : Int)) (
 q03 (nv_1.toNat + (a_1.length - nv_1.toNat) <= a_1.length) (
 q03 (0 + nv_1.toNat <= a_1.length) (
 rec_3 (i64.wrap (nv_1 + ((min (Xl (Xj (nv_1.toNat) a_1)) ((a_1.length - nv_1.toNat)) : Nat) : Int)), (Xj (a_1.length) (Xj (nv_1.toNat) a_1 ++ (Xj ((a_1.length - nv_1.toNat)) (Xj (nv_1.toNat) a_1)) ++ X1 (nv_1.toNat + Xl (Xj ((a_1.length - nv_1.toNat)) (Xj (nv_1.toNat) a_1))) a_1)))))))
 else some a_1)
def q70 (xv_0 : List GRec) (v_0 : Int × Int) : Option (List GRec) :=
 q03 (0 <= (i64.wrap v_0.2) /\ (i64.wrap v_0.2) * 16 <= 140737488355328) (
 q03 (0 + (Xd (i64.wrap v_0.2)) <= Xl (Xw (Xd (i64.wrap v_0.2)) (⟨0, 0⟩ : GRec))) (
 q05 (q9g) rounds (((min (xv_0.length) ((Xd (i64.wrap v_0.2))) : Nat) : Int), (Xj (Xd (i64.wrap v_0.2)) ((Xj ((Xd (i64.wrap v_0.2))) xv_0) ++ X1 (Xl (Xj ((Xd (i64.wrap v_0.2))) xv_0)) (Xw (Xd (i64.wrap v_0.2)) (⟨0, 0⟩ : GRec)))))))
def q71 (xv_0 : List GRec) (count_0 : Int) : Option (List GRec) :=
 q9 (qg1 (IntKind.u64.wrap (xv_0.length : Int)) (IntKind.u64.wrap count_0)) (fun v_0 =>
 (if ((decide (0 < v_0.1)) || (decide (9223372036854775807 < v_0.2))) = true then none
 else q70 xv_0 v_0))
def q6n (xv_0 : List GRec) (count_0 : Int) : Option (List GRec) :=
 (if (decide (count_0 < 0)) = true then none
 else q71 xv_0 count_0)
theorem z0x (xv_0 : List GRec) (count_0 : Int)  (r : List GRec) (h : q6n xv_0 count_0 = some r) : DetS pp 92 [.sl 2 (enc xv_0), .v (.int .i64 count_0)] [] 0 (.osl 0 2 (0) (r.length)) [(0, .arr 2 (enc r))] 1 := by
 refine dtI Tryz.func92 rfl ?_; rw [q6n] at h; have F := trivial; refine sM ?_; refine q52 (fun (_ : Unit) => q71 xv_0 count_0 = some r) [0, 1] (fun _ => ([], [])) 0 ?_ ?_
 .
  intro _ Q14; refine sM ?_; refine sB h (fun _ h => ?_) fun _ h => ?_
  . exact absurd h (by simp)
  . exact au
 .
  rintro ⟨⟩ h
  try dsimp only at h
  rw [q71] at h; refine sg fun _ Q2 => ?_; simp only [go_sem]; refine q6l h fun v_0 h => ?_; simp only [go_sem]; refine q8 Q2 (q52 (fun (_ : Unit) => q70 xv_0 v_0 = some r) [0, 6] (fun _ => ([], [])) 0 ?_ ?_)
  .
   intro _ Q12; refine sM ?_; refine sB h (fun _ h => ?_) fun _ h => ?_
   . exact absurd h (by simp)
   . exact au
  .
   rintro ⟨⟩ h
   try dsimp only at h
   rw [q70] at h; refine sg fun _ Q3 => ?_; obtain ⟨F, h⟩ := bG F h; have rf_0 : Xw (Xd (i64.wrap v_0.2)) [.v (.int .i64 0), .v (.int .i64 0)] = enc (Xw (Xd (i64.wrap v_0.2)) (⟨0, 0⟩ : GRec)) := by (simp [enc, z5i, z2s, qa4, q6j]; exact .inr rfl)
   simp only [go_sem, F]; simp only [rf_0]; refine q8 Q3 (sg fun _ Q4 => ?_); obtain ⟨g_1, h⟩ := q0d h; have F := Xb F g_1; simp only [Xh] at g_1; have rf_1 : Xj (0) (enc (Xw (Xd (i64.wrap v_0.2)) (⟨0, 0⟩ : GRec))) ++ enc (Xj ((Xd (i64.wrap v_0.2))) xv_0) ++ X1 (0 + Xl (Xj ((Xd (i64.wrap v_0.2))) xv_0)) (enc (Xw (Xd (i64.wrap v_0.2)) (⟨0, 0⟩ : GRec))) = enc ((Xj ((Xd (i64.wrap v_0.2))) xv_0) ++ X1 (Xl (Xj ((Xd (i64.wrap v_0.2))) xv_0)) (Xw (Xd (i64.wrap v_0.2)) (⟨0, 0⟩ : GRec))) := by simp [enc, List.map_take, List.map_drop]
   simp only [Xh, List.take_zero, Xn] at rf_1; simp only [go_sem, g_1, rf_1]; refine q8 Q4 (jg fun _ Q5 => ?_); refine w9 fun _ Q6 => ?_; refine q0x h [] (fun x => ([(7, .osl 0 2 (0) (x.2.length)), (8, .v (.int .i64 x.1))], [(0, .arr 2 (enc x.2))])) 1 ?_; rintro m_3 ⟨nv_1, a_1⟩ h _ Q7; rw [q9g] at h; refine sg fun _ Q8 => ?_; refine sM ?_; refine sB h (fun _ h => ?_) fun _ h => ?_
   .
    refine y9 (q8 Q8 (w9 fun _ Q10 => ?_)); refine q0c ?_; refine q3v 8 0 0 [0, 0, 0, 6, 0, 0, 48, 126, 255, 511] [0] [0] [] [7] [] mixed (by kernel_rfl) (of_decide_eq_true (by kernel_rfl)) (by kernel_rfl) (by kernel_rfl) (by rfl) ?_; obtain ⟨F, h⟩ := bG F h; obtain ⟨F, h⟩ := bG F h; obtain ⟨F, h⟩ := bG F h; obtain ⟨g_13, h⟩ := q0d h; have F := Xb F g_13; simp only [Xh] at g_13; have rf_4 : Xj (nv_1.toNat) (enc a_1) ++ enc (Xj ((a_1.length - nv_1.toNat)) (Xj (nv_1.toNat) a_1)) ++ X1 (nv_1.toNat + Xl (Xj ((a_1.length - nv_1.toNat)) (Xj (nv_1.toNat) a_1))) (enc a_1) = enc (Xj (nv_1.toNat) a_1 ++ (Xj ((a_1.length - nv_1.toNat)) (Xj (nv_1.toNat) a_1)) ++ X1 (nv_1.toNat + Xl (Xj ((a_1.length - nv_1.toNat)) (Xj (nv_1.toNat) a_1))) a_1) := by simp [enc, List.map_take, List.map_drop]
    simp only [go_sem, g_13, rf_4, F]; exact au
   . exact au
def qn2 (v_0 : List GItem) (rec_2 : Int × (List GRec) -> Option ((List GRec) × Bool)) : Int × (List GRec) -> Option ((List GRec) × Bool) :=
 fun (t28_1, a_1) =>
 (if (decide (t28_1 < (v_0.length : Int))) = true then q9 (idx v_0 t28_1) (fun xv_5 =>
 q9 (q6n ([xv_5.Rec] : List GRec) xv_5.N) (fun v_3 =>
 q03 ((a_1.length + v_3.length) * 16 <= 140737488355328) (
 rec_2 (i64.wrap (t28_1 + 1), (a_1 ++ v_3)))))
 else some (a_1, true))
def qn1 (v_0 : List GItem) : Option ((List GRec) × Bool) :=
 q05 (qn2 v_0) rounds (0, [])
def qx6 (v_0 : List GItem) (rec_3 : Int × Int -> Option ((List GRec) × Bool)) : Int × Int -> Option ((List GRec) × Bool) :=
 fun (nv_3, t15_3) =>
 (if (decide (t15_3 < (v_0.length : Int))) = true then q9 (idx v_0 t15_3) (fun xv_8 =>
 (if (decide (65536 < (i64.wrap (nv_3 + xv_8.N)))) = true then some (([] : List GRec), false)
 else rec_3 (i64.wrap (nv_3 + xv_8.N), i64.wrap (t15_3 + 1))))
 else qn1 v_0)
def qr8 (b_0 : List GItem) : Option ((List GRec) × Bool) :=
 q9 (qf3 b_0) (fun v_0 =>
 q05 (qx6 v_0) rounds (0, 0))
theorem za3 (b_0 : List GItem)  (r : (List GRec) × Bool) (h : qr8 b_0 = some r) : DetS pp 58 [.sl 3 (enc b_0)] [] 0 (.tup [.osl 0 2 (0) (r.1.length), .v (.bool r.2)]) [(0, .arr 2 (enc r.1))] 1 := by
 refine dtI Tryz.func58 rfl ?_; rw [qr8] at h; have F := trivial; refine sM ?_; refine sg fun _ Q2 => ?_; obtain ⟨v_0, ev_0, h⟩ := z8 h; simp only [go_sem]; refine q20 [] (z1a b_0 v_0 ev_0) ?_; simp only [go_sem]; refine q8 Q2 (sM ?_); refine q52 (fun (_ : Unit) => qn1 v_0 = some r) [4] (fun _ => ([], [(0, .arr 3 (enc v_0))])) 1 ?_ ?_
 . intro _ Q15; refine sM ?_; refine w9 fun _ Q17 => ?_; refine q0x h [4, 13, 14] (fun x => ([(5, .v (.int .i64 x.1)), (15, .v (.int .i64 x.2))], [(0, .arr 3 (enc v_0))])) 1 ?_; rintro m_3 ⟨nv_3, t15_3⟩ h _ Q18; rw [qx6] at h; exact au
 .
  rintro ⟨⟩ h
  try dsimp only at h
  rw [qn1] at h; refine sM ?_; refine jg fun _ Q5 => ?_; refine sM ?_; refine w9 fun _ Q7 => ?_; refine q0x h [27] (fun x => ([(8, .osl 0 2 (0) (x.2.length)), (26, .osl 1 3 (0) (v_0.length)), (28, .v (.int .i64 x.1))], [(0, .arr 2 (enc x.2)), (1, .arr 3 (enc v_0))])) 2 ?_; rintro m_2 ⟨t28_1, a_1⟩ h _ Q8; rw [qn2] at h; refine sM ?_; refine sg fun _ Q10 => ?_; refine sB h (fun _ h => ?_) fun _ h => ?_
  .
   refine y9 (q8 Q10 (sg fun _ Q11 => ?_)); refine w9 fun _ Q12 => ?_; refine sg fun _ Q13 => ?_; obtain ⟨xv_5, F, h⟩ := bI F h; simp only [go_sem, F]; refine ai ?_; refine q8 Q13 ?_; have rf_3 : [[.v (.int .i64 xv_5.Rec.K), .v (.int .i64 xv_5.Rec.V)]] = enc ([xv_5.Rec] : List GRec) := by rfl
   obtain ⟨v_3, ev_3, h⟩ := z8 h; simp only [go_sem]; simp only [rf_3]; refine qf6 [8, 26, 27, 28, 32] ([], [(0, .arr 2 (enc a_1)), (1, .arr 3 (enc v_0)), (2, .box (Row.row xv_5))]) 3 [some 0, some 1, some 2] [.sl 2 (enc ([xv_5.Rec] : List GRec)), .v (.int .i64 xv_5.N)] ?_; refine q20 [] (z0x ([xv_5.Rec] : List GRec) xv_5.N v_3 ev_3) ?_; obtain ⟨F, h⟩ := bG F h; have rf_4 : enc a_1 ++ enc v_3 = enc (a_1 ++ v_3) := by exact (q5b a_1 v_3).symm
   simp only [go_sem, rf_4, F]; refine Xb (by (intros; simp_all; done)) ?_; exact au
  . exact au
def qk2 (t_0 : GTime) : Option (GTime × Bool) :=
 q9 (q6y t_0) (fun v_0 =>
 (if ((!v_0) || (t_0.D == 1)) = true then some ((⟨0, (⟨0, 0, 0, 0⟩ : Arr4 Int)⟩ : GTime), false)
 else q03 (0 <= i64.wrap (t_0.D - 1) /\ i64.wrap (t_0.D - 1) < 4) (
 q9 (some (if Xd (i64.wrap (t_0.D - 1)) = 0 then 0 else t_0.C.a0)) (fun w_0 =>
 q9 (some (if Xd (i64.wrap (t_0.D - 1)) = 1 then 0 else t_0.C.a1)) (fun w_1 =>
 q9 (some (if Xd (i64.wrap (t_0.D - 1)) = 2 then 0 else t_0.C.a2)) (fun w_2 =>
 q9 (some (if Xd (i64.wrap (t_0.D - 1)) = 3 then 0 else t_0.C.a3)) (fun w_3 =>
 some ((⟨i64.wrap (t_0.D - 1), (⟨w_0, w_1, w_2, w_3⟩ : Arr4 Int)⟩ : GTime), true))))))))
instance j7y (t_0 : GTime) : Ct pp 31 (qk2 t_0) [.agg (Row.row t_0)] fun r => (.tup [.agg (Row.row r.1), .v (.bool r.2)]) := ctK Tryz.func31 rfl (by rw [qk2]) (by
 intro r h F; refine sM ?_; refine sg fun _ Q2 => ?_; refine sg fun _ Q3 => ?_; simp only [go_sem]; refine q6l h fun v_0 h => ?_; simp only [go_sem]; refine q8 Q3 (sB h (fun _ h => ?_) fun _ h => ?_)
 . exact au
 . refine y9 (q8 Q2 (sM ?_)); refine sg fun _ Q6 => ?_; obtain ⟨F, h⟩ := bG F h; obtain ⟨w_0, ew_0, h⟩ := z8 h; obtain ⟨w_1, ew_1, h⟩ := z8 h; obtain ⟨w_2, ew_2, h⟩ := z8 h; obtain ⟨w_3, ew_3, h⟩ := z8 h; have sf_0 := z8a (f := (fun y => AV.v (.int .i64 y))) [.v (.int .i64 (i64.wrap (t_0.D - 1)))] [] [t_0.C.a0, t_0.C.a1, t_0.C.a2, t_0.C.a3] [w_0, w_1, w_2, w_3] (Xd (i64.wrap (t_0.D - 1))) 0 (by simp only [Xe, Xg]; omega) (by simp only [Xz, X0, Xh, Xm, Xa ew_0, Xa ew_1, Xa ew_2, Xa ew_3]); simp only [Xo, Xn, Xq, Xu, Xv, Xe, Xg, Xh, Xm, q69, X2, Xx, q6j] at sf_0; simp only [go_sem, sf_0, Xp, F]; refine ai ?_; exact au)
def qk3 (t_0 : GTime) : Option (GTime × Bool) :=
 q9 (q6y t_0) (fun v_0 =>
 (if ((!v_0) || (t_0.D == 4)) = true then some ((⟨0, (⟨0, 0, 0, 0⟩ : Arr4 Int)⟩ : GTime), false)
 else some ((⟨i64.wrap (t_0.D + 1), t_0.C⟩ : GTime), true)))
instance j7z (t_0 : GTime) : Ct pp 53 (qk3 t_0) [.agg (Row.row t_0)] fun r => (.tup [.agg (Row.row r.1), .v (.bool r.2)]) := ctI Tryz.func53 rfl (by rw [qk3]; exact au1)
def qp5 (t_0 : GTime) : Option (GTime × Bool) :=
 q9 (q6y t_0) (fun v_0 =>
 (if v_0 = true then q03 (0 <= i64.wrap (t_0.D - 1) /\ i64.wrap (t_0.D - 1) < 4) (
 q9 (idx ([t_0.C.a0, t_0.C.a1, t_0.C.a2, t_0.C.a3] : List Int) (i64.wrap (t_0.D - 1))) (fun xv_0 =>
 q9 (q8v (i64.wrap (t_0.D - 1))) (fun v_1 =>
 (if (xv_0 == v_1) = true then some ((⟨0, (⟨0, 0, 0, 0⟩ : Arr4 Int)⟩ : GTime), false)
 else q03 (0 <= i64.wrap (t_0.D - 1) /\ i64.wrap (t_0.D - 1) < 4) (
 q9 (idx ([t_0.C.a0, t_0.C.a1, t_0.C.a2, t_0.C.a3] : List Int) (i64.wrap (t_0.D - 1))) (fun xv_1 =>
 q03 (0 <= i64.wrap (t_0.D - 1) /\ i64.wrap (t_0.D - 1) < 4) (
 q9 (some (if Xd (i64.wrap (t_0.D - 1)) = 0 then i64.wrap (xv_1 + 1) else t_0.C.a0)) (fun w_0 =>
 q9 (some (if Xd (i64.wrap (t_0.D - 1)) = 1 then i64.wrap (xv_1 + 1) else t_0.C.a1)) (fun w_1 =>
 q9 (some (if Xd (i64.wrap (t_0.D - 1)) = 2 then i64.wrap (xv_1 + 1) else t_0.C.a2)) (fun w_2 =>
 q9 (some (if Xd (i64.wrap (t_0.D - 1)) = 3 then i64.wrap (xv_1 + 1) else t_0.C.a3)) (fun w_3 =>
 some ((⟨t_0.D, (⟨w_0, w_1, w_2, w_3⟩ : Arr4 Int)⟩ : GTime), true))))))))))))
 else some ((⟨0, (⟨0, 0, 0, 0⟩ : Arr4 Int)⟩ : GTime), false)))
instance j95 (t_0 : GTime) : Ct pp 54 (qp5 t_0) [.agg (Row.row t_0)] fun r => (.tup [.agg (Row.row r.1), .v (.bool r.2)]) := ctK Tryz.func54 rfl (by rw [qp5]) (by
 intro r h F; refine sM ?_; refine sg fun _ Q2 => ?_; refine sg fun _ Q3 => ?_; refine q0c ?_; refine jb1 ?_; obtain ⟨v_0, ev_0, h⟩ := z8 h; simp only [go_sem]; refine callq (fun _ => (zf9 t_0 v_0 ev_0)) (by rfl) (by rfl) ?_; simp only [go_sem]; rcases hb_0 : v_0 with _ | _
 . replace h := q2l h hb_0; simp only [go_sem, hb_0]; exact au
 .
  replace h := q2k h hb_0; obtain ⟨F, h⟩ := bG F h; obtain ⟨xv_0, ex0, h⟩ := z8 h; obtain ⟨f0a, f0b, f0c, fxv_0d⟩ := qt8 (f := (fun y => AV.v (.int .i64 y))) [.v (.int .i64 t_0.D)] [] ex0; simp only [Xo, Xn, Xq, Xu, Xv, Xe, Xg, Xh, Xm, q6j] at f0b f0c fxv_0d; obtain ⟨v_1, ev_1, h⟩ := z8 h; simp only [go_sem, hb_0, f0a, f0b, f0c, fxv_0d, F]; refine ai ?_; simp only [Xk, Xp, fxv_0d, Xt, Xr, true_and]; refine callq (fun _ => (z7h (i64.wrap (t_0.D - 1)) v_1 ev_1)) (by rfl) (by rfl) ?_; simp only [go_sem]; refine q8 Q3 (sB h (fun _ h => ?_) fun _ h => ?_)
  . exact au
  . refine y9 (q8 Q2 (sg fun _ Q6 => ?_)); obtain ⟨F, h⟩ := bG F h; obtain ⟨xv_1, ex1, h⟩ := z8 h; obtain ⟨f1a, f1b, f1c, fxv_1d⟩ := qt8 (f := (fun y => AV.v (.int .i64 y))) [.v (.int .i64 t_0.D)] [] ex1; simp only [Xo, Xn, Xq, Xu, Xv, Xe, Xg, Xh, Xm, q6j] at f1b f1c fxv_1d; obtain ⟨F, h⟩ := bG F h; obtain ⟨w_0, ew_0, h⟩ := z8 h; obtain ⟨w_1, ew_1, h⟩ := z8 h; obtain ⟨w_2, ew_2, h⟩ := z8 h; obtain ⟨w_3, ew_3, h⟩ := z8 h; have sf_0 := z8a (f := (fun y => AV.v (.int .i64 y))) [.v (.int .i64 t_0.D)] [] [t_0.C.a0, t_0.C.a1, t_0.C.a2, t_0.C.a3] [w_0, w_1, w_2, w_3] (Xd (i64.wrap (t_0.D - 1))) (i64.wrap (xv_1 + 1)) (by simp only [Xe, Xg]; omega) (by simp only [Xz, X0, Xh, Xm, Xa ew_0, Xa ew_1, Xa ew_2, Xa ew_3]); simp only [Xo, Xn, Xq, Xu, Xv, Xe, Xg, Xh, Xm, q69, X2, Xx, q6j] at sf_0; simp only [go_sem, f1a, f1b, f1c, fxv_1d, sf_0, Xp, F]; simp only [Xk, Xp, fxv_1d, Xt, Xr, true_and]; simp only [go_sem, f1a, f1b, f1c, fxv_1d, sf_0, Xp, Xk, Xp, fxv_1d, Xt, Xr, true_and, F]; refine ai ?_; exact au)
def q2x (rv_0 : GMean_runner) (nv_0 : Int) (port_0 : Int) (t_0 : GTime) (b_0 : List GItem) : Option GMean_runner :=
 (if ((b_0.length : Int) == 0) = true then some rv_0
 else (qn3 (q2u rv_0.ins.1 ((⟨nv_0, t_0⟩ : GMean_point))) (q03 (Key.okb ((⟨nv_0, t_0⟩ : GMean_point)) = true) (
 q03 (0 <= port_0 /\ port_0 < 2) (
 q9 (idx ([([] : List GItem), ([] : List GItem)] : List (List GItem)) port_0) (fun xv_0 =>
 q9 (q4g xv_0 b_0) (fun v_0 =>
 q03 (0 <= port_0 /\ port_0 < 2) (
 q9 (some (if port_0.toNat = 0 then v_0 else ([] : List GItem))) (fun w_0 =>
 q9 (some (if port_0.toNat = 1 then v_0 else ([] : List GItem))) (fun w_1 =>
 some (⟨rv_0.g, (Xi (rv_0.ins.1 ++ [(⟨nv_0, t_0⟩ : GMean_point)]) (Xc (rv_0.ins.2 ++ [(⟨([] : List GItem), ([] : List GItem)⟩ : Arr2 (List GItem))]) (rv_0.ins.1.length) (⟨w_0, w_1⟩ : Arr2 (List GItem)))), rv_0.past, rv_0.bags, rv_0.work, rv_0.most, rv_0.outs, rv_0.e⟩ : GMean_runner)))))))))
 (fun i_0 => q9 (atK rv_0.ins.2 i_0) (fun v_1 =>
 q03 (0 <= port_0 /\ port_0 < 2) (
 q9 (idx ([v_1.a0, v_1.a1] : List (List GItem)) port_0) (fun xv_1 =>
 q9 (q4g xv_1 b_0) (fun v_2 =>
 q03 (0 <= port_0 /\ port_0 < 2) (
 q9 (some (if port_0.toNat = 0 then v_2 else v_1.a0)) (fun w_2 =>
 q9 (some (if port_0.toNat = 1 then v_2 else v_1.a1)) (fun w_3 =>
 some (⟨rv_0.g, (Xi rv_0.ins.1 (Xc rv_0.ins.2 i_0 (⟨w_2, w_3⟩ : Arr2 (List GItem)))), rv_0.past, rv_0.bags, rv_0.work, rv_0.most, rv_0.outs, rv_0.e⟩ : GMean_runner)))))))))))
theorem q99 (rv_0 : GMean_runner) (nv_0 : Int) (port_0 : Int) (t_0 : GTime) (b_0 : List GItem)  (r : GMean_runner) (h : q2x rv_0 nv_0 port_0 t_0 b_0 = some r) : DetS pp 16 [.ptr 0 0, .v (.int .i64 nv_0), .v (.int .i64 port_0), .agg (Row.row t_0), .sl 3 (enc b_0)] [(0, .box [.sl 1 (enc rv_0.g.Parent), .sl 1 (enc rv_0.g.Bound), .sl 4 (enc rv_0.g.Nodes), .sl 4 (enc rv_0.g.Edges), .mp 1, .mp 2, .mp 3, .v (.int .i64 rv_0.work), .v (.int .i64 rv_0.most), .osl 4 4 (0) (rv_0.outs.length), .v (.int .i64 rv_0.e)]), (1, .con (p8 pp 78 0 (p9 rv_0.ins.1) (enc rv_0.ins.2) none) []), (2, .con (p8 pp 3 1 (p9 rv_0.past.1) (enc rv_0.past.2) none) []), (3, .con (p8 pp 78 2 (p9 rv_0.bags.1) (enc rv_0.bags.2) none) []), (4, .arr 4 (enc rv_0.outs))] 5 (.tup []) [(0, .box [.sl 1 (enc r.g.Parent), .sl 1 (enc r.g.Bound), .sl 4 (enc r.g.Nodes), .sl 4 (enc r.g.Edges), .mp 1, .mp 2, .mp 3, .v (.int .i64 r.work), .v (.int .i64 r.most), .osl 5 4 (0) (r.outs.length), .v (.int .i64 r.e)]), (1, .con (p8 pp 78 0 (p9 r.ins.1) (enc r.ins.2) none) []), (2, .con (p8 pp 3 1 (p9 r.past.1) (enc r.past.2) none) []), (3, .con (p8 pp 78 2 (p9 r.bags.1) (enc r.bags.2) none) []), (5, .arr 4 (enc r.outs))] 6 := by
  unfold DetS; refine Spec.of_wp Tryz.func16 rfl (by kernel_rfl) (by kernel_rfl) ?_; rw [q2x] at h; refine sgW fun _ Q1 => ?_; refine wv ?_; simp only [go_sem]; refine x8 Q1 ?_; refine sgW fun _ Q2 => ?_; refine sgW fun _ Q3 => ?_; refine wv ?_; simp only [go_sem]; refine x8 Q3 ?_; refine q42 (b := ((b_0.length : Int) == 0)) (by (simp only [go_sem]; done)) (fun hb_0 => ?_) (fun hb_0 => ?_)
  .
    replace h := q2k h hb_0; simp only [bool_to_prop] at hb_0; refine wv ?_; refine q02 (qn6 Q2 ?_); simp only [go_sem]; obtain rfl := Xa h; refine q1w [some 4] ?_; simp only [go_sem, Le] <;> (repeat' apply Xb) <;> (try with_reducible refine q04 ?_) <;> first | omega | (simp [go_sem]; done)
  .
    replace h := q2l h hb_0; simp only [bool_to_prop] at hb_0; refine wv ?_; refine y9 (x8 Q2 ?_); refine sgW fun _ Q4 => ?_; refine wv ?_; simp only [go_sem]; refine x8 Q4 ?_; refine sgW fun _ Q5 => ?_; refine sgW fun _ Q6 => ?_; refine q9i h (fun hm_0 h => ?_) (fun i_0 hm_0 h => ?_)
    .
      obtain ⟨g_0, h⟩ := q0d h; have hn_0 : ¬ (Value.agg ⟨[.int .i64 nv_0, .int .i64 t_0.D, .int .i64 t_0.C.a0, .int .i64 t_0.C.a1, .int .i64 t_0.C.a2, .int .i64 t_0.C.a3]⟩) ∈ p9 rv_0.ins.1 := qj1 hm_0; have hk_0 : ∃ l, keyOf pp 78 (Value.agg ⟨[.int .i64 nv_0, .int .i64 t_0.D, .int .i64 t_0.C.a0, .int .i64 t_0.C.a1, .int .i64 t_0.C.a2, .int .i64 t_0.C.a3]⟩) = some l := z2g ((⟨nv_0, t_0⟩ : GMean_point)) g_0; refine q7p ?_; refine wv ?_; refine q0c ?_; refine jb1 ?_; simp only [go_sem, q4n, hn_0, hk_0]; refine q2e ?_; refine x8 Q6 ?_; refine zv0 (by (simp only [go_sem]; done)) ?_; refine q7p ?_; refine wv ?_; refine q0c ?_; refine q3v 7 0 0 [0, 1, 3, 7, 0, 0, 32, 127] [7] [0, 1, 2, 3, 4] [] [6] [] mixed (by kernel_rfl) (of_decide_eq_true (by kernel_rfl)) (by kernel_rfl) (by kernel_rfl) (by rfl) ?_; simp only [go_sem]; refine qy8 [.sl 3 (enc ([] : List GItem)), .sl 3 (enc ([] : List GItem))] ?_ rfl trivial trivial trivial rfl rfl z9j q4n rfl hk_0 hn_0; have rn_0k : p9 rv_0.ins.1 ++ [(Value.agg ⟨[.int .i64 nv_0, .int .i64 t_0.D, .int .i64 t_0.C.a0, .int .i64 t_0.C.a1, .int .i64 t_0.C.a2, .int .i64 t_0.C.a3]⟩)] = p9 (rv_0.ins.1 ++ [(⟨nv_0, t_0⟩ : GMean_point)]) := z0s rv_0.ins.1 (⟨nv_0, t_0⟩ : GMean_point); have rn_0v : enc rv_0.ins.2 ++ [[.sl 3 (enc ([] : List GItem)), .sl 3 (enc ([] : List GItem))]] = enc (rv_0.ins.2 ++ [(⟨([] : List GItem), ([] : List GItem)⟩ : Arr2 (List GItem))]) := (q5b rv_0.ins.2 [(⟨([] : List GItem), ([] : List GItem)⟩ : Arr2 (List GItem))]).symm; have rn_0l : (p9 (rv_0.ins.1 ++ [(⟨nv_0, t_0⟩ : GMean_point)]))[rv_0.ins.1.length]? = some (Value.agg ⟨[.int .i64 nv_0, .int .i64 t_0.D, .int .i64 t_0.C.a0, .int .i64 t_0.C.a1, .int .i64 t_0.C.a2, .int .i64 t_0.C.a3]⟩) := z1d rv_0.ins.1 (⟨nv_0, t_0⟩ : GMean_point); rw [rn_0k, rn_0v, z0r]; simp only [go_sem]; refine q7i (fun _ _ _ _ H => H.nilBox (id := 7) [.sl 3 (enc ([] : List GItem)), .sl 3 (enc ([] : List GItem))] rfl ⟨.inr ⟨rfl, _, rfl⟩, .inr ⟨rfl, _, rfl⟩, trivial⟩) ?_; refine q2e ?_
      refine x8 Q5 ?_; refine q7p ?_; refine wv ?_; refine q0c ?_; refine jb1 ?_; obtain ⟨g_1, h⟩ := q0d h; obtain ⟨xv_0, ex0, h⟩ := z8 h; obtain ⟨f0a, f0b, f0c, fxv_0d⟩ := qt8 (f := (fun y => AV.sl 3 (enc y))) [] [] ex0; simp only [Xo, Xn, Xq, Xu, Xv, Xe, Xg, Xh, Xm, q6j] at f0b f0c fxv_0d; obtain ⟨v_0, ev_0, h⟩ := z8 h; simp only [go_sem, q4n, rn_0l, q4n, rn_0l, g_1, f0a, f0b, f0c, fxv_0d]; refine Xb (by first | omega | (intros; simp_all; done)) ?_; refine Xb (by first | omega | (intros; simp_all; done)) ?_; simp only [Xk, Xp, fxv_0d, Xt, Xr, true_and]; simp only [go_sem, q4n, rn_0l, q4n, rn_0l, g_1, f0a, f0b, f0c, fxv_0d, Xk, Xp, fxv_0d, Xt, Xr, true_and]; refine callq (fun _ => (z3u xv_0 b_0 v_0 ev_0)) (by rfl) (by rfl) ?_; obtain ⟨g_2, h⟩ := q0d h; obtain ⟨w_0, ew_0, h⟩ := z8 h; obtain ⟨w_1, ew_1, h⟩ := z8 h; have sf_0 := z8a (f := (fun y => AV.sl 3 (enc y))) [] [] [([] : List GItem), ([] : List GItem)] [w_0, w_1] (port_0.toNat) v_0 (by simp only [Xe, Xg]; omega) (by simp only [Xz, X0, Xh, Xm, Xa ew_0, Xa ew_1]); simp only [Xo, Xn, Xq, Xu, Xv, Xe, Xg, Xh, Xm, q69, X2, Xx, q6j] at sf_0; simp only [go_sem, g_2, sf_0, Xp]; refine Xb (by omega) ?_
      have rm_0 : enc (Xc (rv_0.ins.2 ++ [(⟨([] : List GItem), ([] : List GItem)⟩ : Arr2 (List GItem))]) (rv_0.ins.1.length) (⟨w_0, w_1⟩ : Arr2 (List GItem))) = (enc (rv_0.ins.2 ++ [(⟨([] : List GItem), ([] : List GItem)⟩ : Arr2 (List GItem))])).set (rv_0.ins.1.length) [.sl 3 (enc w_0), .sl 3 (enc w_1)] := q8e (rv_0.ins.2 ++ [(⟨([] : List GItem), ([] : List GItem)⟩ : Arr2 (List GItem))]) (rv_0.ins.1.length) (⟨w_0, w_1⟩ : Arr2 (List GItem)); refine q7i (fun _ _ _ _ H => H.closeM0n (id := 1) (id2 := 7) (r := [.sl 3 (enc w_0), .sl 3 (enc w_1)]) [.sl 3 (enc w_0), .sl 3 (enc w_1)] rfl rfl rfl ⟨.inl rfl, .inl rfl, trivial⟩ (R' := enc (Xc (rv_0.ins.2 ++ [(⟨([] : List GItem), ([] : List GItem)⟩ : Arr2 (List GItem))]) (rv_0.ins.1.length) (⟨w_0, w_1⟩ : Arr2 (List GItem)))) rm_0) ?_; refine q2e ?_; simp only [go_sem]; obtain rfl := Xa h; refine q1w [some 4] ?_; simp only [go_sem, Le] <;> (repeat' apply Xb) <;> (try with_reducible refine q04 ?_) <;> first | omega | (simp [go_sem]; done)
    .
      obtain ⟨v_1, ev_1, h⟩ := z8 h; have hk_1 : (p9 rv_0.ins.1)[i_0]? = some (Value.agg ⟨[.int .i64 nv_0, .int .i64 t_0.D, .int .i64 t_0.C.a0, .int .i64 t_0.C.a1, .int .i64 t_0.C.a2, .int .i64 t_0.C.a3]⟩) := qj0 hm_0; refine reW (fun _ _ _ _ H => H.openM0 (id := 1) (i := i_0) (r := [.sl 3 (enc v_1.a0), .sl 3 (enc v_1.a1)]) rfl (z0q ev_1)) ?_; refine q7p ?_; refine wv ?_; refine q0c ?_; refine jb1 ?_; simp only [go_sem, q4n, hk_1]; refine q2e ?_; refine x8 Q6 ?_; refine j7i (by (simp only [go_sem]; done)) ?_; refine wv ?_; refine y9 (x8 Q5 ?_); refine q7p ?_; refine wv ?_; refine q0c ?_; refine jb1 ?_; obtain ⟨g_3, h⟩ := q0d h; obtain ⟨xv_1, ex1, h⟩ := z8 h; obtain ⟨f1a, f1b, f1c, fxv_1d⟩ := qt8 (f := (fun y => AV.sl 3 (enc y))) [] [] ex1; simp only [Xo, Xn, Xq, Xu, Xv, Xe, Xg, Xh, Xm, q6j] at f1b f1c fxv_1d; obtain ⟨v_2, ev_2, h⟩ := z8 h; simp only [go_sem, q4n, hk_1, q4n, hk_1, g_3, f1a, f1b, f1c, fxv_1d]; refine Xb (by first | omega | (intros; simp_all; done)) ?_; refine Xb (by first | omega | (intros; simp_all; done)) ?_; simp only [Xk, Xp, fxv_1d, Xt, Xr, true_and]; simp only [go_sem, q4n, hk_1, q4n, hk_1, g_3, f1a, f1b, f1c, fxv_1d, Xk, Xp, fxv_1d, Xt, Xr, true_and]; refine callq (fun _ => (z3u xv_1 b_0 v_2 ev_2)) (by rfl) (by rfl) ?_; obtain ⟨g_4, h⟩ := q0d h; obtain ⟨w_2, ew_2, h⟩ := z8 h; obtain ⟨w_3, ew_3, h⟩ := z8 h; have sf_1 := z8a (f := (fun y => AV.sl 3 (enc y))) [] [] [v_1.a0, v_1.a1] [w_2, w_3] (port_0.toNat) v_2 (by simp only [Xe, Xg]; omega) (by simp only [Xz, X0, Xh, Xm, Xa ew_2, Xa ew_3])
      simp only [Xo, Xn, Xq, Xu, Xv, Xe, Xg, Xh, Xm, q69, X2, Xx, q6j] at sf_1; simp only [go_sem, g_4, sf_1, Xp]; refine Xb (by omega) ?_; have rm_1 : enc (Xc rv_0.ins.2 i_0 (⟨w_2, w_3⟩ : Arr2 (List GItem))) = (enc rv_0.ins.2).set i_0 [.sl 3 (enc w_2), .sl 3 (enc w_3)] := q8e rv_0.ins.2 i_0 (⟨w_2, w_3⟩ : Arr2 (List GItem)); refine q7i (fun _ _ _ _ H => H.closeM0n (id := 1) (id2 := 7) (r := [.sl 3 (enc w_2), .sl 3 (enc w_3)]) [.sl 3 (enc w_2), .sl 3 (enc w_3)] rfl rfl rfl ⟨.inl rfl, .inl rfl, trivial⟩ (R' := enc (Xc rv_0.ins.2 i_0 (⟨w_2, w_3⟩ : Arr2 (List GItem)))) rm_1) ?_; refine q2e ?_; simp only [go_sem]; obtain rfl := Xa h; refine q1w [some 4] ?_; simp only [go_sem, Le] <;> (repeat' apply Xb) <;> (try with_reducible refine q04 ?_) <;> first | omega | (simp [go_sem]; done)
def qu2 (b_0 : List GItem) (rec_1 : Int × Int -> Option Int) : Int × Int -> Option Int :=
 fun (nv_1, t8_1) =>
 (if (decide (t8_1 < (b_0.length : Int))) = true then q9 (idx b_0 t8_1) (fun xv_2 =>
 rec_1 (i64.wrap (nv_1 + xv_2.N), i64.wrap (t8_1 + 1)))
 else some nv_1)
def qm6 (b_0 : List GItem) : Option Int :=
 q05 (qu2 b_0) rounds (0, 0)
instance za1 (b_0 : List GItem) : Ct pp 60 (qm6 b_0) [.sl 3 (enc b_0)] fun r => (.v (.int .i64 r)) := ctK Tryz.func60 rfl (by rw [qm6]) (by
 intro r h F; refine sM ?_; refine sM ?_; refine jg fun _ Q3 => ?_; refine sM ?_; refine w9 fun _ Q5 => ?_; refine q0x h [6, 7] (fun x => ([(3, .v (.int .i64 x.1)), (8, .v (.int .i64 x.2))], [])) 0 ?_; rintro m_1 ⟨nv_1, t8_1⟩ h _ Q6; rw [qu2] at h; exact au)
def q40 (rv_0 : GMean_runner) (rec_1 : Unit -> Option ((List GItem) × GMean_runner)) : Unit -> Option ((List GItem) × GMean_runner) :=
 fun _ =>
 (if (decide (0 < 0)) = true then none
 else some (([] : List GItem), rv_0))
def q2n (rv_0 : GMean_runner) (nv_0 : Int) (t_0 : GTime) (v_0 : List GCount) (rec_2 : Int × (List GItem) -> Option ((List GItem) × GMean_runner)) : Int × (List GItem) -> Option ((List GItem) × GMean_runner) :=
 fun (t17_1, a_1) =>
 (if (decide (t17_1 < (v_0.length : Int))) = true then q9 (idx v_0 t17_1) (fun xv_2 =>
 q9 (z2j xv_2.Time t_0) (fun v_9 =>
 (if v_9 = true then (qn3 (q2u rv_0.bags.1 ((⟨nv_0, xv_2.Time⟩ : GMean_point))) (q03 (Key.okb ((⟨nv_0, xv_2.Time⟩ : GMean_point)) = true) (
 q9 (q4g a_1 ([] : List GItem)) (fun v_10 =>
 rec_2 (i64.wrap (t17_1 + 1), v_10))))
 (fun i_3 => q9 (atK rv_0.bags.2 i_3) (fun v_11 =>
 q9 (q4g a_1 v_11) (fun v_12 =>
 rec_2 (i64.wrap (t17_1 + 1), v_12)))))
 else rec_2 (i64.wrap (t17_1 + 1), a_1))))
 else some (a_1, rv_0))
def q10 (rv_0 : GMean_runner) (nv_0 : Int) (t_0 : GTime) : Option ((List GItem) × GMean_runner) :=
 (qn3 (q2u rv_0.past.1 nv_0) (q03 (Key.okb nv_0 = true) (
 q05 (q40 rv_0) rounds ()))
 (fun i_0 => q9 (atK rv_0.past.2 i_0) (fun v_0 =>
 q05 (q2n rv_0 nv_0 t_0 v_0) rounds (0, []))))
theorem q3o (rv_0 : GMean_runner) (nv_0 : Int) (t_0 : GTime)  (r : (List GItem) × GMean_runner) (h : q10 rv_0 nv_0 t_0 = some r) : DetS pp 56 [.ptr 0 0, .v (.int .i64 nv_0), .agg (Row.row t_0)] [(0, .box [.sl 1 (enc rv_0.g.Parent), .sl 1 (enc rv_0.g.Bound), .sl 4 (enc rv_0.g.Nodes), .sl 4 (enc rv_0.g.Edges), .mp 1, .mp 2, .mp 3, .v (.int .i64 rv_0.work), .v (.int .i64 rv_0.most), .osl 4 4 (0) (rv_0.outs.length), .v (.int .i64 rv_0.e)]), (1, .con (p8 pp 78 0 (p9 rv_0.ins.1) (enc rv_0.ins.2) none) []), (2, .con (p8 pp 3 1 (p9 rv_0.past.1) (enc rv_0.past.2) none) []), (3, .con (p8 pp 78 2 (p9 rv_0.bags.1) (enc rv_0.bags.2) none) []), (4, .arr 4 (enc rv_0.outs))] 5 (.osl 5 3 (0) (r.1.length)) [(0, .box [.sl 1 (enc r.2.g.Parent), .sl 1 (enc r.2.g.Bound), .sl 4 (enc r.2.g.Nodes), .sl 4 (enc r.2.g.Edges), .mp 1, .mp 2, .mp 3, .v (.int .i64 r.2.work), .v (.int .i64 r.2.most), .osl 6 4 (0) (r.2.outs.length), .v (.int .i64 r.2.e)]), (1, .con (p8 pp 78 0 (p9 r.2.ins.1) (enc r.2.ins.2) none) []), (2, .con (p8 pp 3 1 (p9 r.2.past.1) (enc r.2.past.2) none) []), (3, .con (p8 pp 78 2 (p9 r.2.bags.1) (enc r.2.bags.2) none) []), (5, .arr 3 (enc r.1)), (6, .arr 4 (enc r.2.outs))] 7 := by
  unfold DetS; refine Spec.of_wp Tryz.func56 rfl (by kernel_rfl) (by kernel_rfl) ?_; rw [q10] at h; refine sgW fun _ Q1 => ?_; refine wv ?_; simp only [go_sem]; refine x8 Q1 ?_; refine sgW fun _ Q2 => ?_; refine wv ?_; simp only [go_sem]; refine x8 Q2 ?_; refine sgW fun _ Q3 => ?_; refine sgW fun _ Q4 => ?_; refine q9i h (fun hm_0 h => ?_) (fun i_0 hm_0 h => ?_)
  .
    obtain ⟨g_0, h⟩ := q0d h; have hn_0 : ¬ (Value.int .i64 nv_0) ∈ p9 rv_0.past.1 := qj1 hm_0; have hk_0 : ∃ l, keyOf pp 3 (Value.int .i64 nv_0) = some l := j27 nv_0 g_0; refine q7p ?_; refine wv ?_; simp only [go_sem, z2i, hn_0, hk_0]; refine q2e ?_; refine x8 Q4 ?_; refine qe5 fun _ Q5 => ?_; refine z5k (ι := Nat × Unit) (fun ((_, _) : Nat × Unit) => (⟨5, [(0, .ptr 0 0), (1, .v (.int .i64 nv_0)), (5, .ptr 5 0), (7, .v (.slice none 0 0)), (15, .v (.slice none 0 0)), (16, .v (.int .i64 0)), (17, .v (.int .i64 0))], [(0, .box [.sl 1 (enc rv_0.g.Parent), .sl 1 (enc rv_0.g.Bound), .sl 4 (enc rv_0.g.Nodes), .sl 4 (enc rv_0.g.Edges), .mp 1, .mp 2, .mp 3, .v (.int .i64 rv_0.work), .v (.int .i64 rv_0.most), .osl 4 4 (0) (rv_0.outs.length), .v (.int .i64 rv_0.e)]), (1, .con (p8 pp 78 0 (p9 rv_0.ins.1) (enc rv_0.ins.2) none) []), (2, .con (p8 pp 3 1 (p9 rv_0.past.1) (enc rv_0.past.2) none) []), (3, .con (p8 pp 78 2 (p9 rv_0.bags.1) (enc rv_0.bags.2) none) []), (4, .arr 4 (enc rv_0.outs)), (5, .box (Row.row t_0))], 6, 38⟩ : St)) (fun ((n_, u_) : Nat × Unit) => q05 (q40 rv_0) n_ u_ = some r) (fun p => p.1) (rounds, ()) [some 5] ?_ h ?_
    . simp only [go_sem, Le] <;> (repeat' apply Xb) <;> (try with_reducible refine q04 ?_) <;> first | omega | (simp [go_sem]; done)
    . rintro ⟨n_1, _⟩ h _ Q6
      dsimp only at h; replace h := q6x h; obtain ⟨m_1, rfl, h⟩ := h; rw [q40] at h; refine sgW fun _ Q7 => ?_; refine wv ?_; simp only [go_sem]; refine x8 Q7 ?_; refine sgW fun _ Q8 => ?_; refine q42 (b := (decide (0 < 0))) (by (simp only [go_sem]; done)) (fun hb_1 => ?_) (fun hb_1 => ?_)
      .
        replace h := q2k h hb_1; simp only [bool_to_prop] at hb_1; refine wv ?_; refine y9 (x8 Q8 ?_); refine sgW fun _ Q9 => ?_; refine qe5 fun _ Q10 => ?_; refine sgW fun _ Q11 => ?_; refine wv ?_; exact absurd h (by simp)
      .
        replace h := q2l h hb_1; simp only [bool_to_prop] at hb_1; refine wv ?_; refine q0q (qo6 Q8 ?_); refine q0r Q6 (q0i Q5 (x8 Q3 ?_)); refine sgW fun _ Q12 => ?_; refine wv ?_; simp only [go_sem]; refine x8 Q12 ?_; refine wv ?_; refine q02 ?_; simp only [go_sem]; obtain rfl := Xa h; refine q1w [none, some 4] ?_; simp only [go_sem, Le] <;> (repeat' apply Xb) <;> (try with_reducible refine q04 ?_) <;> first | omega | (simp [go_sem]; done)
  .
    obtain ⟨v_0, ev_0, h⟩ := z8 h; have hk_1 : (p9 rv_0.past.1)[i_0]? = some (Value.int .i64 nv_0) := qj0 hm_0; refine reW (fun _ _ _ _ H => H.openM1 (id := 2) (i := i_0) (isz := 6) (xs := enc v_0) rfl (z0q ev_0)) ?_; simp only [q11]; refine q7p ?_; refine wv ?_; simp only [go_sem, z2i, hk_1]; refine q2e ?_; refine x8 Q4 ?_; refine qe5 fun _ Q13 => ?_; refine z5k (ι := Nat × Int × (List GItem)) (fun ((_, t17_1, a_1) : Nat × Int × (List GItem)) => (⟨5, [(0, .ptr 0 0), (1, .v (.int .i64 nv_0)), (5, .ptr 5 0), (7, .osl 6 3 (0) (a_1.length)), (15, .osl 7 6 (0) (v_0.length)), (16, .v (.int .i64 (v_0.length : Int))), (17, .v (.int .i64 t17_1))], [(0, .box [.sl 1 (enc rv_0.g.Parent), .sl 1 (enc rv_0.g.Bound), .sl 4 (enc rv_0.g.Nodes), .sl 4 (enc rv_0.g.Edges), .mp 1, .mp 2, .mp 3, .v (.int .i64 rv_0.work), .v (.int .i64 rv_0.most), .osl 4 4 (0) (rv_0.outs.length), .v (.int .i64 rv_0.e)]), (1, .con (p8 pp 78 0 (p9 rv_0.ins.1) (enc rv_0.ins.2) none) []), (2, .con (p8 pp 3 1 (p9 rv_0.past.1) (enc rv_0.past.2) (some i_0)) [.osl 7 6 (0) (v_0.length)]), (3, .con (p8 pp 78 2 (p9 rv_0.bags.1) (enc rv_0.bags.2) none) []), (4, .arr 4 (enc rv_0.outs)), (5, .box (Row.row t_0)), (6, .arr 3 (enc a_1)), (7, .arr 6 (enc v_0))], 8, 38⟩ : St)) (fun ((n_, t17_1, a_1) : Nat × Int × (List GItem)) => q05 (q2n rv_0 nv_0 t_0 v_0) n_ (t17_1, a_1) = some r) (fun p => p.1) (rounds, 0, []) [some 5, none, some 6] ?_ h ?_
    . simp only [go_sem, Le] <;> (repeat' apply Xb) <;> (try with_reducible refine q04 ?_) <;> first | omega | (simp [go_sem]; done)
    . rintro ⟨n_2, t17_1, a_1⟩ h _ Q14
      dsimp only at h; replace h := q6x h; obtain ⟨m_2, rfl, h⟩ := h; rw [q2n] at h; refine sgW fun _ Q15 => ?_; refine wv ?_; simp only [go_sem]; refine x8 Q15 ?_; refine sgW fun _ Q16 => ?_; refine q42 (b := (decide (t17_1 < (v_0.length : Int)))) (by (simp only [go_sem]; done)) (fun hb_6 => ?_) (fun hb_6 => ?_)
      .
        replace h := q2k h hb_6; simp only [bool_to_prop] at hb_6; refine wv ?_; refine y9 (x8 Q16 ?_); refine sgW fun _ Q17 => ?_; refine qe5 fun _ Q18 => ?_; refine sgW fun _ Q19 => ?_; refine wv ?_; obtain ⟨xv_2, ex2, h⟩ := z8 h; obtain ⟨f2a, f2b, f2c⟩ := q87 ex2; simp only [go_sem, f2a, f2b, f2c]; refine Xb (by omega) ?_; refine x8 Q19 ?_; refine sgW fun _ Q20 => ?_; refine wv ?_; obtain ⟨v_9, ev_9, h⟩ := z8 h; simp only [go_sem]; refine q7w (j07 xv_2.Time t_0 v_9 ev_9) (by rfl) (by rfl) ?_; simp only [go_sem]; refine x8 Q20 ?_; refine q42 (b := v_9) (by (simp only [go_sem]; done)) (fun hb_7 => ?_) (fun hb_7 => ?_)
        .
          replace h := q2k h hb_7; refine q9i h (fun hm_3 h => ?_) (fun i_3 hm_3 h => ?_)
          .
            obtain ⟨g_3, h⟩ := q0d h; have hn_3 : ¬ (Value.agg ⟨[.int .i64 nv_0, .int .i64 xv_2.Time.D, .int .i64 xv_2.Time.C.a0, .int .i64 xv_2.Time.C.a1, .int .i64 xv_2.Time.C.a2, .int .i64 xv_2.Time.C.a3]⟩) ∈ p9 rv_0.bags.1 := qj1 hm_3; have hk_6 : ∃ l, keyOf pp 78 (Value.agg ⟨[.int .i64 nv_0, .int .i64 xv_2.Time.D, .int .i64 xv_2.Time.C.a0, .int .i64 xv_2.Time.C.a1, .int .i64 xv_2.Time.C.a2, .int .i64 xv_2.Time.C.a3]⟩) = some l := z2g ((⟨nv_0, xv_2.Time⟩ : GMean_point)) g_3; refine q7p ?_; refine wv ?_; refine q0c ?_; refine jb1 ?_; obtain ⟨v_10, ev_10, h⟩ := z8 h; simp only [go_sem, q4n, hn_3, hk_6]; refine q7v (s' := (⟨5, [(0, .ptr 0 0), (1, .v (.int .i64 nv_0)), (5, .ptr 5 0), (7, .sl 3 (enc a_1)), (15, .osl 6 6 (0) (v_0.length)), (16, .v (.int .i64 (v_0.length : Int))), (17, .v (.int .i64 t17_1))], [(0, .box [.sl 1 (enc rv_0.g.Parent), .sl 1 (enc rv_0.g.Bound), .sl 4 (enc rv_0.g.Nodes), .sl 4 (enc rv_0.g.Edges), .mp 1, .mp 2, .mp 3, .v (.int .i64 rv_0.work), .v (.int .i64 rv_0.most), .osl 4 4 (0) (rv_0.outs.length), .v (.int .i64 rv_0.e)]), (1, .con (p8 pp 78 0 (p9 rv_0.ins.1) (enc rv_0.ins.2) none) []), (2, .con (p8 pp 3 1 (p9 rv_0.past.1) (enc rv_0.past.2) (some i_0)) [.osl 6 6 (0) (v_0.length)]), (3, .con (p8 pp 78 2 (p9 rv_0.bags.1) (enc rv_0.bags.2) none) []), (4, .arr 4 (enc rv_0.outs)), (5, .box (Row.row t_0)), (6, .arr 6 (enc v_0)), (7, .box (Row.row xv_2))], 8, 38⟩ : St)) (l := [some 5, some 7, some 8]) (args' := [.sl 3 (enc a_1), .sl 3 (enc ([] : List GItem))]) ?_ ?_ ?_
            . simp only [go_sem, Le] <;> (repeat' apply Xb) <;> (try with_reducible refine q04 ?_) <;> first | omega | (simp [go_sem]; done)
            . simp only [go_sem, Le] <;> (repeat' apply Xb) <;> ((try with_reducible refine q04 ?_); (simp [go_sem]; done))
            refine q4t [] (qu3 a_1 ([] : List GItem) v_10 ev_10) (by simp) rfl trivial rfl rfl rfl rfl ?_; simp only [go_sem]; refine q2e ?_; refine q06 Q18 (x8 Q17 ?_); refine wv ?_; simp only [go_sem]; refine u7 Q14 (⟨(m_2, i64.wrap (t17_1 + 1), v_10), [some 5, some 8, some 6], ?_, h, Xs _⟩); simp only [go_sem, Le] <;> (repeat' apply Xb) <;> (try with_reducible refine q04 ?_) <;> first | omega | (simp [go_sem]; done)
          .
            obtain ⟨v_11, ev_11, h⟩ := z8 h; have hk_7 : (p9 rv_0.bags.1)[i_3]? = some (Value.agg ⟨[.int .i64 nv_0, .int .i64 xv_2.Time.D, .int .i64 xv_2.Time.C.a0, .int .i64 xv_2.Time.C.a1, .int .i64 xv_2.Time.C.a2, .int .i64 xv_2.Time.C.a3]⟩) := qj0 hm_3; refine reW (fun _ _ _ _ H => H.openM2 (id := 3) (i := i_3) (x := .sl 3 (enc v_11)) rfl (z0q ev_11)) ?_; refine q7p ?_; refine wv ?_; refine q0c ?_; refine jb1 ?_; obtain ⟨v_12, ev_12, h⟩ := z8 h; simp only [go_sem, q4n, hk_7]; refine q7v (s' := (⟨5, [(0, .ptr 0 0), (1, .v (.int .i64 nv_0)), (5, .ptr 5 0), (7, .sl 3 (enc a_1)), (15, .osl 6 6 (0) (v_0.length)), (16, .v (.int .i64 (v_0.length : Int))), (17, .v (.int .i64 t17_1))], [(0, .box [.sl 1 (enc rv_0.g.Parent), .sl 1 (enc rv_0.g.Bound), .sl 4 (enc rv_0.g.Nodes), .sl 4 (enc rv_0.g.Edges), .mp 1, .mp 2, .mp 3, .v (.int .i64 rv_0.work), .v (.int .i64 rv_0.most), .osl 4 4 (0) (rv_0.outs.length), .v (.int .i64 rv_0.e)]), (1, .con (p8 pp 78 0 (p9 rv_0.ins.1) (enc rv_0.ins.2) none) []), (2, .con (p8 pp 3 1 (p9 rv_0.past.1) (enc rv_0.past.2) (some i_0)) [.osl 6 6 (0) (v_0.length)]), (3, .con (p8 pp 78 2 (p9 rv_0.bags.1) (enc rv_0.bags.2) (some i_3)) [.sl 3 (enc v_11)]), (4, .arr 4 (enc rv_0.outs)), (5, .box (Row.row t_0)), (6, .arr 6 (enc v_0)), (7, .box (Row.row xv_2))], 8, 38⟩ : St)) (l := [some 5, some 7, some 8]) (args' := [.sl 3 (enc a_1), .sl 3 (enc v_11)]) ?_ ?_ ?_
            . simp only [go_sem, Le] <;> (repeat' apply Xb) <;> (try with_reducible refine q04 ?_) <;> first | omega | (simp [go_sem]; done)
            . simp only [go_sem, Le] <;> (repeat' apply Xb) <;> ((try with_reducible refine q04 ?_); (simp [go_sem]; done))
            refine q4t [] (qu3 a_1 v_11 v_12 ev_12) (by simp) rfl trivial rfl rfl rfl rfl ?_; simp only [go_sem]; have rm_4 : enc rv_0.bags.2 = (enc rv_0.bags.2).set i_3 [.sl 3 (enc v_11)] := z7j ev_11; refine q7i (fun _ _ _ _ H => H.closeM2 (id := 3) rfl rfl (R' := enc rv_0.bags.2) rm_4) ?_; refine q2e ?_; refine q06 Q18 (x8 Q17 ?_); refine wv ?_; simp only [go_sem]; refine u7 Q14 (⟨(m_2, i64.wrap (t17_1 + 1), v_12), [some 5, some 8, some 6], ?_, h, Xs _⟩); simp only [go_sem, Le] <;> (repeat' apply Xb) <;> (try with_reducible refine q04 ?_) <;> first | omega | (simp [go_sem]; done)
        .
          replace h := q2l h hb_7; refine wv ?_; refine y9 (q06 Q18 (x8 Q17 ?_)); refine wv ?_; simp only [go_sem]; refine u7 Q14 (⟨(m_2, i64.wrap (t17_1 + 1), a_1), [some 5, some 6, some 7], ?_, h, Xs _⟩); simp only [go_sem, Le] <;> (repeat' apply Xb) <;> (try with_reducible refine q04 ?_) <;> first | omega | (simp [go_sem]; done)
      .
        replace h := q2l h hb_6; simp only [bool_to_prop] at hb_6; refine wv ?_; refine q0q (qo6 Q16 ?_); refine q0r Q14 (q0i Q13 (x8 Q3 ?_)); refine sgW fun _ Q21 => ?_; refine wv ?_; simp only [go_sem]; refine x8 Q21 ?_; have rm_5 : enc rv_0.past.2 = (enc rv_0.past.2).set i_0 [.sl 6 (enc v_0)] := z7j ev_0; refine reW (fun _ _ _ _ H => H.closeM1 (id := 2) (id2 := 7) rfl rfl (by simp [q11]) (R' := enc rv_0.past.2) rm_5) ?_; refine wv ?_; refine q02 ?_; simp only [go_sem]; obtain rfl := Xa h; refine q1w [some 6, some 4] ?_; simp only [go_sem, Le] <;> (repeat' apply Xb) <;> (try with_reducible refine q04 ?_) <;> first | omega | (simp [go_sem]; done)
def q3u (rv_0 : GMean_runner) (nv_0 : Int) (t_0 : GTime) : Option (GTime × Bool × GMean_runner) :=
 q9 (idx rv_0.g.Nodes nv_0) (fun xv_0 =>
 (if (xv_0.Kind == 10) = true then q9 (qk3 t_0) (fun v_0 =>
 some (v_0.1, v_0.2, rv_0))
 else (if (xv_0.Kind == 11) = true then q9 (qk2 t_0) (fun v_1 =>
 some (v_1.1, v_1.2, rv_0))
 else (if (xv_0.Kind == 12) = true then q9 (qp5 t_0) (fun v_2 =>
 (if v_2.2 = true then q03 (0 <= i64.wrap (v_2.1.D - 1) /\ i64.wrap (v_2.1.D - 1) < 4) (
 q9 (idx ([v_2.1.C.a0, v_2.1.C.a1, v_2.1.C.a2, v_2.1.C.a3] : List Int) (i64.wrap (v_2.1.D - 1))) (fun xv_1 =>
 q9 (idx rv_0.g.Bound xv_0.Scope) (fun xv_2 =>
 some (v_2.1, (decide (xv_1 < xv_2)), rv_0))))
 else some (v_2.1, false, rv_0)))
 else some (t_0, true, rv_0)))))
theorem qq0 (rv_0 : GMean_runner) (nv_0 : Int) (t_0 : GTime)  (r : GTime × Bool × GMean_runner) (h : q3u rv_0 nv_0 t_0 = some r) : DetS pp 59 [.ptr 0 0, .v (.int .i64 nv_0), .agg (Row.row t_0)] [(0, .box [.sl 1 (enc rv_0.g.Parent), .sl 1 (enc rv_0.g.Bound), .sl 4 (enc rv_0.g.Nodes), .sl 4 (enc rv_0.g.Edges), .mp 1, .mp 2, .mp 3, .v (.int .i64 rv_0.work), .v (.int .i64 rv_0.most), .osl 4 4 (0) (rv_0.outs.length), .v (.int .i64 rv_0.e)]), (1, .con (p8 pp 78 0 (p9 rv_0.ins.1) (enc rv_0.ins.2) none) []), (2, .con (p8 pp 3 1 (p9 rv_0.past.1) (enc rv_0.past.2) none) []), (3, .con (p8 pp 78 2 (p9 rv_0.bags.1) (enc rv_0.bags.2) none) []), (4, .arr 4 (enc rv_0.outs))] 5 (.tup [.agg (Row.row r.1), .v (.bool r.2.1)]) [(0, .box [.sl 1 (enc r.2.2.g.Parent), .sl 1 (enc r.2.2.g.Bound), .sl 4 (enc r.2.2.g.Nodes), .sl 4 (enc r.2.2.g.Edges), .mp 1, .mp 2, .mp 3, .v (.int .i64 r.2.2.work), .v (.int .i64 r.2.2.most), .osl 5 4 (0) (r.2.2.outs.length), .v (.int .i64 r.2.2.e)]), (1, .con (p8 pp 78 0 (p9 r.2.2.ins.1) (enc r.2.2.ins.2) none) []), (2, .con (p8 pp 3 1 (p9 r.2.2.past.1) (enc r.2.2.past.2) none) []), (3, .con (p8 pp 78 2 (p9 r.2.2.bags.1) (enc r.2.2.bags.2) none) []), (5, .arr 4 (enc r.2.2.outs))] 6 := by
 refine dtI Tryz.func59 rfl ?_; rw [q3u] at h; have F := trivial; refine sM ?_; refine sg fun _ Q2 => ?_; obtain ⟨xv_0, F, h⟩ := bI F h; simp only [go_sem, F]; refine ai ?_; refine q8 Q2 (sg fun _ Q3 => ?_); refine sM ?_; refine w9 fun _ Q5 => ?_; refine sM ?_; refine sB h (fun _ h => ?_) fun _ h => ?_
 . exact au
 .
  refine sM ?_; refine sB h (fun _ h => ?_) fun _ h => ?_
  . exact au
  .
   refine sM ?_; refine sB h (fun _ h => ?_) fun _ h => ?_
   .
    refine sg fun _ Q11 => ?_; simp only [go_sem]; refine q6l h fun v_2 h => ?_; simp only [go_sem]; refine q8 Q11 (sg fun _ Q12 => ?_); refine q0c ?_; refine q3v 21 0 0 [0, 0, 2, 6, 14, 30, 6, 126, 254, 6, 518, 1542, 3590, 7686, 6, 16390, 65030, 130566, 262142, 524286, 7, 2097151] [6] [3, 4, 5, 6, 7, 8, 9, 10, 11, 12, 13, 14, 15, 16, 17, 18, 19] [] [20] [] mixed (by kernel_rfl) (of_decide_eq_true (by kernel_rfl)) (by kernel_rfl) (by kernel_rfl) (by rfl) ?_; simp only [go_sem]; rcases hb_3 : v_2.2 with _ | _
    . replace h := q2l h hb_3; simp only [go_sem, hb_3]; exact au
    . replace h := q2k h hb_3; obtain ⟨F, h⟩ := bG F h; obtain ⟨xv_1, ex1, h⟩ := z8 h; obtain ⟨f1a, f1b, f1c, fxv_1d⟩ := qt8 (f := (fun y => AV.v (.int .i64 y))) [.v (.int .i64 v_2.1.D)] [] ex1; simp only [Xo, Xn, Xq, Xu, Xv, Xe, Xg, Xh, Xm, q6j] at f1b f1c fxv_1d; obtain ⟨xv_2, F, h⟩ := bI F h; simp only [go_sem, hb_3, f1a, f1b, f1c, fxv_1d, F]; refine ai ?_; refine ai ?_; simp only [Xk, Xp, fxv_1d, Xt, Xr, true_and]; exact au
   . exact au
def q4r (b_5 : GMean_runner) : Option (Bool × GMean_runner) :=
 (if (decide (b_5.most < b_5.work)) = true then some (true, (⟨b_5.g, b_5.ins, b_5.past, b_5.bags, b_5.work, b_5.most, b_5.outs, 9⟩ : GMean_runner))
 else some (true, b_5))
def q39 (nv_0 : Int) (v_10 : GTime × Bool × GMean_runner) (rec_4 : (List GItem) × Int × GMean_runner -> Option (Bool × GMean_runner)) : (List GItem) × Int × GMean_runner -> Option (Bool × GMean_runner) :=
 fun (out_3, t153_3, b_7) =>
 (if (decide (t153_3 < (v_10.2.2.g.Edges.length : Int))) = true then q9 (idx v_10.2.2.g.Edges t153_3) (fun xv_9 =>
 (if (xv_9.From == nv_0) = true then q9 (q2x b_7 xv_9.To xv_9.Port v_10.1 out_3) (fun v_21 =>
 q9 (qm6 out_3) (fun v_22 =>
 rec_4 (out_3, i64.wrap (t153_3 + 1), (⟨v_21.g, v_21.ins, v_21.past, v_21.bags, i64.wrap (v_21.work + v_22), v_21.most, v_21.outs, v_21.e⟩ : GMean_runner))))
 else rec_4 (out_3, i64.wrap (t153_3 + 1), b_7)))
 else q4r b_7)
def q4s (nv_0 : Int) (t_0 : GTime) (b_0 : GMean_runner) (v_8 : (List GItem) × Bool) : Option (Bool × GMean_runner) :=
 q9 (q3u b_0 nv_0 t_0) (fun v_10 =>
 (if ((!v_10.2.1) || ((v_8.1.length : Int) == 0)) = true then some (false, v_10.2.2)
 else q05 (q39 nv_0 v_10) rounds (v_8.1, 0, v_10.2.2)))
def q38 (nv_0 : Int) (t_0 : GTime) (v_23 : (List GRec) × Bool) (rec_5 : Int × GMean_runner -> Option (Bool × GMean_runner)) : Int × GMean_runner -> Option (Bool × GMean_runner) :=
 fun (t113_3, b_9) =>
 (if (decide (t113_3 < (v_23.1.length : Int))) = true then q9 (idx v_23.1 t113_3) (fun xv_12 =>
 q03 ((b_9.outs.length + Xl ([(⟨nv_0, t_0.C.a0, xv_12⟩ : GOut)] : List GOut)) * 32 <= 140737488355328) (
 rec_5 (i64.wrap (t113_3 + 1), (⟨b_9.g, b_9.ins, b_9.past, b_9.bags, b_9.work, b_9.most, (b_9.outs ++ ([(⟨nv_0, t_0.C.a0, xv_12⟩ : GOut)] : List GOut)), b_9.e⟩ : GMean_runner))))
 else some (false, b_9))
def q0t (nv_0 : Int) (t_0 : GTime) (xv_0 : GNode) (ports_0 : List (List GItem)) (b_0 : GMean_runner) : Option (Bool × GMean_runner) :=
 q9 (q7z xv_0 ports_0) (fun v_8 =>
 (if (!v_8.2) = true then some (false, (⟨b_0.g, b_0.ins, b_0.past, b_0.bags, b_0.work, b_0.most, b_0.outs, 9⟩ : GMean_runner))
 else (if (xv_0.Kind == 15) = true then q9 (qr8 v_8.1) (fun v_23 =>
 q05 (q38 nv_0 t_0 v_23) rounds (0, b_0))
 else q4s nv_0 t_0 b_0 v_8)))
def q44 (rv_0 : GMean_runner) (nv_0 : Int) (t_0 : GTime) : Option (Bool × GMean_runner) :=
 (qn3 (q2u rv_0.ins.1 ((⟨nv_0, t_0⟩ : GMean_point))) (q03 (Key.okb ((⟨nv_0, t_0⟩ : GMean_point)) = true) (
 some (false, rv_0)))
 (fun i_0 => q9 (atK rv_0.ins.2 i_0) (fun v_0 =>
 (if (!(rv_0.e == 0)) = true then some (false, rv_0)
 else q9 (idx rv_0.g.Nodes nv_0) (fun xv_0 =>
 q03 (0 <= 0 /\ 0 <= 2 /\ 2 <= 2) (
 (if (xv_0.Kind == 14) = true then (qn3 (q2u rv_0.past.1 nv_0) (q03 (Key.okb nv_0 = true) (
 q03 ((Xl ([(⟨t_0, 1⟩ : GCount)] : List GCount)) * 48 <= 140737488355328) (
 (qn3 (q2u rv_0.bags.1 ((⟨nv_0, t_0⟩ : GMean_point))) (q03 (Key.okb ((⟨nv_0, t_0⟩ : GMean_point)) = true) (
 q9 (q10 (⟨rv_0.g, Xi (Xf rv_0.ins.1 i_0) (Xf rv_0.ins.2 i_0), (Xi (rv_0.past.1 ++ [nv_0]) (Xc (rv_0.past.2 ++ [([(⟨t_0, 1⟩ : GCount)] : List GCount)]) (rv_0.past.1.length) ([(⟨t_0, 1⟩ : GCount)] : List GCount))), (Xi (rv_0.bags.1 ++ [(⟨nv_0, t_0⟩ : GMean_point)]) (Xc (rv_0.bags.2 ++ [v_0.a0]) (rv_0.bags.1.length) v_0.a0)), rv_0.work, rv_0.most, rv_0.outs, rv_0.e⟩ : GMean_runner) nv_0 t_0) (fun v_24 =>
 q0t nv_0 t_0 xv_0 ([v_0.a0, v_24.1] : List (List GItem)) v_24.2)))
 (fun i_5 => q9 (atK rv_0.bags.2 i_5) (fun v_25 =>
 q9 (q10 (⟨rv_0.g, Xi (Xf rv_0.ins.1 i_0) (Xf rv_0.ins.2 i_0), (Xi (rv_0.past.1 ++ [nv_0]) (Xc (rv_0.past.2 ++ [([(⟨t_0, 1⟩ : GCount)] : List GCount)]) (rv_0.past.1.length) ([(⟨t_0, 1⟩ : GCount)] : List GCount))), Xi rv_0.bags.1 (Xc rv_0.bags.2 i_5 v_0.a0), rv_0.work, rv_0.most, rv_0.outs, rv_0.e⟩ : GMean_runner) nv_0 t_0) (fun v_26 =>
 q0t nv_0 t_0 xv_0 ([v_0.a0, v_26.1] : List (List GItem)) v_26.2)))))))
 (fun i_4 => q9 (atK rv_0.past.2 i_4) (fun v_27 =>
 q03 ((v_27.length + Xl ([(⟨t_0, 1⟩ : GCount)] : List GCount)) * 48 <= 140737488355328) (
 (qn3 (q2u rv_0.bags.1 ((⟨nv_0, t_0⟩ : GMean_point))) (q03 (Key.okb ((⟨nv_0, t_0⟩ : GMean_point)) = true) (
 q9 (q10 (⟨rv_0.g, Xi (Xf rv_0.ins.1 i_0) (Xf rv_0.ins.2 i_0), (Xi rv_0.past.1 (Xc rv_0.past.2 i_4 (v_27 ++ ([(⟨t_0, 1⟩ : GCount)] : List GCount)))), (Xi (rv_0.bags.1 ++ [(⟨nv_0, t_0⟩ : GMean_point)]) (Xc (rv_0.bags.2 ++ [v_0.a0]) (rv_0.bags.1.length) v_0.a0)), rv_0.work, rv_0.most, rv_0.outs, rv_0.e⟩ : GMean_runner) nv_0 t_0) (fun v_28 =>
 q0t nv_0 t_0 xv_0 ([v_0.a0, v_28.1] : List (List GItem)) v_28.2)))
 (fun i_6 => q9 (atK rv_0.bags.2 i_6) (fun v_29 =>
 q9 (q10 (⟨rv_0.g, Xi (Xf rv_0.ins.1 i_0) (Xf rv_0.ins.2 i_0), (Xi rv_0.past.1 (Xc rv_0.past.2 i_4 (v_27 ++ ([(⟨t_0, 1⟩ : GCount)] : List GCount)))), Xi rv_0.bags.1 (Xc rv_0.bags.2 i_6 v_0.a0), rv_0.work, rv_0.most, rv_0.outs, rv_0.e⟩ : GMean_runner) nv_0 t_0) (fun v_30 =>
 q0t nv_0 t_0 xv_0 ([v_0.a0, v_30.1] : List (List GItem)) v_30.2))))))))
 else q0t nv_0 t_0 xv_0 ([v_0.a0, v_0.a1] : List (List GItem)) (⟨rv_0.g, Xi (Xf rv_0.ins.1 i_0) (Xf rv_0.ins.2 i_0), rv_0.past, rv_0.bags, rv_0.work, rv_0.most, rv_0.outs, rv_0.e⟩ : GMean_runner))))))))
theorem qr6 (rv_0 : GMean_runner) (nv_0 : Int) (t_0 : GTime)  (r : Bool × GMean_runner) (h : q44 rv_0 nv_0 t_0 = some r) : DetS pp 32 [.ptr 0 0, .v (.int .i64 nv_0), .agg (Row.row t_0)] [(0, .box [.sl 1 (enc rv_0.g.Parent), .sl 1 (enc rv_0.g.Bound), .sl 4 (enc rv_0.g.Nodes), .sl 4 (enc rv_0.g.Edges), .mp 1, .mp 2, .mp 3, .v (.int .i64 rv_0.work), .v (.int .i64 rv_0.most), .osl 4 4 (0) (rv_0.outs.length), .v (.int .i64 rv_0.e)]), (1, .con (p8 pp 78 0 (p9 rv_0.ins.1) (enc rv_0.ins.2) none) []), (2, .con (p8 pp 3 1 (p9 rv_0.past.1) (enc rv_0.past.2) none) []), (3, .con (p8 pp 78 2 (p9 rv_0.bags.1) (enc rv_0.bags.2) none) []), (4, .arr 4 (enc rv_0.outs))] 5 (.v (.bool r.1)) [(0, .box [.sl 1 (enc r.2.g.Parent), .sl 1 (enc r.2.g.Bound), .sl 4 (enc r.2.g.Nodes), .sl 4 (enc r.2.g.Edges), .mp 1, .mp 2, .mp 3, .v (.int .i64 r.2.work), .v (.int .i64 r.2.most), .osl 5 4 (0) (r.2.outs.length), .v (.int .i64 r.2.e)]), (1, .con (p8 pp 78 0 (p9 r.2.ins.1) (enc r.2.ins.2) none) []), (2, .con (p8 pp 3 1 (p9 r.2.past.1) (enc r.2.past.2) none) []), (3, .con (p8 pp 78 2 (p9 r.2.bags.1) (enc r.2.bags.2) none) []), (5, .arr 4 (enc r.2.outs))] 6 := by
  unfold DetS; refine Spec.of_wp Tryz.func32 rfl (by kernel_rfl) (by kernel_rfl) ?_; rw [q44] at h; refine sgW fun _ Q1 => ?_; refine wv ?_; simp only [go_sem]; refine x8 Q1 ?_; refine sgW fun _ Q2 => ?_; refine q9i h (fun hm_0 h => ?_) (fun i_0 hm_0 h => ?_)
  .
    obtain ⟨g_0, h⟩ := q0d h; have hn_0 : ¬ (Value.agg ⟨[.int .i64 nv_0, .int .i64 t_0.D, .int .i64 t_0.C.a0, .int .i64 t_0.C.a1, .int .i64 t_0.C.a2, .int .i64 t_0.C.a3]⟩) ∈ p9 rv_0.ins.1 := qj1 hm_0; have hk_0 : ∃ l, keyOf pp 78 (Value.agg ⟨[.int .i64 nv_0, .int .i64 t_0.D, .int .i64 t_0.C.a0, .int .i64 t_0.C.a1, .int .i64 t_0.C.a2, .int .i64 t_0.C.a3]⟩) = some l := z2g ((⟨nv_0, t_0⟩ : GMean_point)) g_0; refine q7p ?_; refine wv ?_; refine q0c ?_; refine jb1 ?_; simp only [go_sem, q4n, hn_0, hk_0]; refine q2e ?_; refine x8 Q2 ?_; refine sgW fun _ Q3 => ?_; refine sgW fun _ Q4 => ?_; refine wv ?_; simp only [go_sem]; refine x8 Q4 ?_; refine zv0 (by (simp only [go_sem]; done)) ?_; refine sgW fun _ Q5 => ?_; refine wv ?_; simp only [go_sem]; refine x8 Q5 ?_; refine wv ?_; refine q02 (qn6 Q3 ?_); simp only [go_sem]; obtain rfl := Xa h; refine q1w [some 4] ?_; simp only [go_sem, Le] <;> (repeat' apply Xb) <;> (try with_reducible refine q04 ?_) <;> first | omega | (simp [go_sem]; done)
  .
    obtain ⟨v_0, ev_0, h⟩ := z8 h; have hk_1 : (p9 rv_0.ins.1)[i_0]? = some (Value.agg ⟨[.int .i64 nv_0, .int .i64 t_0.D, .int .i64 t_0.C.a0, .int .i64 t_0.C.a1, .int .i64 t_0.C.a2, .int .i64 t_0.C.a3]⟩) := qj0 hm_0; refine reW (fun _ _ _ _ H => H.openM0 (id := 1) (i := i_0) (r := [.sl 3 (enc v_0.a0), .sl 3 (enc v_0.a1)]) rfl (z0q ev_0)) ?_; refine q7p ?_; refine wv ?_; refine q0c ?_; refine jb1 ?_; simp only [go_sem, q4n, hk_1]; refine q2e ?_; refine x8 Q2 ?_; refine sgW fun _ Q6 => ?_; refine sgW fun _ Q7 => ?_; refine wv ?_; simp only [go_sem]; refine x8 Q7 ?_; refine q42 (b := (!(rv_0.e == 0))) (by (simp only [go_sem]; done)) (fun hb_0 => ?_) (fun hb_0 => ?_)
    .
      replace h := q2k h hb_0; simp only [bool_to_prop] at hb_0; refine sgW fun _ Q8 => ?_; refine wv ?_; simp only [go_sem]; refine x8 Q8 ?_; have rm_0 : enc rv_0.ins.2 = (enc rv_0.ins.2).set i_0 [.sl 3 (enc v_0.a0), .sl 3 (enc v_0.a1)] := z7j ev_0; refine reW (fun _ _ _ _ H => H.closeM0n (id := 1) (id2 := 6) (r := [.sl 3 (enc v_0.a0), .sl 3 (enc v_0.a1)]) [.sl 3 (enc v_0.a0), .sl 3 (enc v_0.a1)] rfl rfl rfl ⟨.inl rfl, .inl rfl, trivial⟩ (R' := enc rv_0.ins.2) rm_0) ?_; refine wv ?_; refine q02 (qn6 Q6 ?_); simp only [go_sem]; obtain rfl := Xa h; refine q1w [some 4] ?_; simp only [go_sem, Le] <;> (repeat' apply Xb) <;> (try with_reducible refine q04 ?_) <;> first | omega | (simp [go_sem]; done)
    .
      replace h := q2l h hb_0; simp only [bool_to_prop] at hb_0; refine wv ?_; refine y9 (x8 Q6 ?_); refine sgW fun _ Q9 => ?_; refine q7p ?_; refine wv ?_; refine q0c ?_; refine jb1 ?_; simp only [go_sem]; refine zy0 ?_ rfl rfl rfl rfl trivial trivial rfl rfl z9j q4n rfl hk_1; simp only [go_sem]; refine q2e ?_; refine x8 Q9 ?_; refine sgW fun _ Q10 => ?_; refine wv ?_; obtain ⟨xv_0, ex0, h⟩ := z8 h; obtain ⟨f0a, f0b, f0c⟩ := q87 ex0; simp only [go_sem, f0a, f0b, f0c]; refine Xb (by omega) ?_; refine x8 Q10 ?_; refine sgW fun _ Q11 => ?_; refine wv ?_; obtain ⟨g_1, h⟩ := q0d h; simp only [go_sem, g_1]; refine x8 Q11 ?_; refine zo0 (ι := (List (List GItem)) × GMean_runner) (fun ((ports_0, b_0) : (List (List GItem)) × GMean_runner) => (⟨5, [(0, .ptr 0 0), (1, .v (.int .i64 nv_0)), (5, .ptr 5 0), (8, .ptr 6 0), (9, .sl 1 (enc ports_0))], [(0, .box [.sl 1 (enc b_0.g.Parent), .sl 1 (enc b_0.g.Bound), .sl 4 (enc b_0.g.Nodes), .sl 4 (enc b_0.g.Edges), .mp 1, .mp 2, .mp 3, .v (.int .i64 b_0.work), .v (.int .i64 b_0.most), .osl 7 4 (0) (b_0.outs.length), .v (.int .i64 b_0.e)]), (1, .con (p8 pp 78 0 (p9 b_0.ins.1) (enc b_0.ins.2) none) []), (2, .con (p8 pp 3 1 (p9 b_0.past.1) (enc b_0.past.2) none) []), (3, .con (p8 pp 78 2 (p9 b_0.bags.1) (enc b_0.bags.2) none) []), (5, .box (Row.row t_0)), (6, .box (Row.row xv_0)), (7, .arr 4 (enc b_0.outs))], 8, 191⟩ : St)) (fun ((ports_0, b_0) : (List (List GItem)) × GMean_runner) => q0t nv_0 t_0 xv_0 ports_0 b_0 = some r) ?_ ?_
      .
        intro _ Q49; refine sgW fun _ Q50 => ?_; refine wv ?_; simp only [go_sem]; refine x8 Q50 ?_; refine q42 (b := (xv_0.Kind == 14)) (by (simp only [go_sem]; done)) (fun hb_25 => ?_) (fun hb_25 => ?_)
        .
          replace h := q2k h hb_25; simp only [bool_to_prop] at hb_25; refine sgW fun _ Q51 => ?_; refine q9i h (fun hm_4 h => ?_) (fun i_4 hm_4 h => ?_)
          .
            obtain ⟨g_13, h⟩ := q0d h; have hn_4 : ¬ (Value.int .i64 nv_0) ∈ p9 rv_0.past.1 := qj1 hm_4; have hk_8 : ∃ l, keyOf pp 3 (Value.int .i64 nv_0) = some l := j27 nv_0 g_13; refine q7p ?_; refine wv ?_; refine q0c ?_; refine q3v 15 0 0 [0, 1, 3, 7, 0, 0, 32, 96, 224, 0, 992, 0, 2048, 6144, 16352, 32767] [8] [0, 1, 2, 3, 4] [] [14] [] mixed (by kernel_rfl) (of_decide_eq_true (by kernel_rfl)) (by kernel_rfl) (by kernel_rfl) (by rfl) ?_; have rf_19 : [[.v (.int .i64 t_0.D), .v (.int .i64 t_0.C.a0), .v (.int .i64 t_0.C.a1), .v (.int .i64 t_0.C.a2), .v (.int .i64 t_0.C.a3), .v (.int .i64 1)]] = enc ([(⟨t_0, 1⟩ : GCount)] : List GCount) := by rfl
            obtain ⟨g_14, h⟩ := q0d h; simp only [Xe, Xg, Xh, Xy] at g_14; simp only [go_sem, z2i, hn_4, hk_8, g_14]; simp only [rf_19]; refine qy8 [.sl 6 (enc ([(⟨t_0, 1⟩ : GCount)] : List GCount))] ?_ rfl trivial trivial trivial rfl rfl z9i z2i rfl hk_8 hn_4; have rn_3k : p9 rv_0.past.1 ++ [(Value.int .i64 nv_0)] = p9 (rv_0.past.1 ++ [nv_0]) := z0s rv_0.past.1 nv_0; have rn_3v : enc rv_0.past.2 ++ [[.sl 6 (enc ([(⟨t_0, 1⟩ : GCount)] : List GCount))]] = enc (rv_0.past.2 ++ [([(⟨t_0, 1⟩ : GCount)] : List GCount)]) := (q5b rv_0.past.2 [([(⟨t_0, 1⟩ : GCount)] : List GCount)]).symm; have rn_3l : (p9 (rv_0.past.1 ++ [nv_0]))[rv_0.past.1.length]? = some (Value.int .i64 nv_0) := z1d rv_0.past.1 nv_0; rw [rn_3k, rn_3v, z0r]; simp only [go_sem]; refine q2e ?_; refine x8 Q51 ?_; refine sgW fun _ Q52 => ?_; refine q9i h (fun hm_5 h => ?_) (fun i_5 hm_5 h => ?_)
            .
              obtain ⟨g_15, h⟩ := q0d h; have hn_5 : ¬ (Value.agg ⟨[.int .i64 nv_0, .int .i64 t_0.D, .int .i64 t_0.C.a0, .int .i64 t_0.C.a1, .int .i64 t_0.C.a2, .int .i64 t_0.C.a3]⟩) ∈ p9 rv_0.bags.1 := qj1 hm_5; have hk_9 : ∃ l, keyOf pp 78 (Value.agg ⟨[.int .i64 nv_0, .int .i64 t_0.D, .int .i64 t_0.C.a0, .int .i64 t_0.C.a1, .int .i64 t_0.C.a2, .int .i64 t_0.C.a3]⟩) = some l := z2g ((⟨nv_0, t_0⟩ : GMean_point)) g_15; refine q7p ?_; refine wv ?_; refine q0c ?_; refine jb1 ?_; simp only [go_sem]; refine qy8 [.sl 3 (enc v_0.a0)] ?_ rfl trivial trivial trivial rfl rfl z1z q4n rfl hk_9 hn_5; have rn_4k : p9 rv_0.bags.1 ++ [(Value.agg ⟨[.int .i64 nv_0, .int .i64 t_0.D, .int .i64 t_0.C.a0, .int .i64 t_0.C.a1, .int .i64 t_0.C.a2, .int .i64 t_0.C.a3]⟩)] = p9 (rv_0.bags.1 ++ [(⟨nv_0, t_0⟩ : GMean_point)]) := z0s rv_0.bags.1 (⟨nv_0, t_0⟩ : GMean_point); have rn_4v : enc rv_0.bags.2 ++ [[.sl 3 (enc v_0.a0)]] = enc (rv_0.bags.2 ++ [v_0.a0]) := (q5b rv_0.bags.2 [v_0.a0]).symm; have rn_4l : (p9 (rv_0.bags.1 ++ [(⟨nv_0, t_0⟩ : GMean_point)]))[rv_0.bags.1.length]? = some (Value.agg ⟨[.int .i64 nv_0, .int .i64 t_0.D, .int .i64 t_0.C.a0, .int .i64 t_0.C.a1, .int .i64 t_0.C.a2, .int .i64 t_0.C.a3]⟩) := z1d rv_0.bags.1 (⟨nv_0, t_0⟩ : GMean_point); rw [rn_4k, rn_4v, z0r]; simp only [go_sem]; have rm_9 : enc (Xc (rv_0.past.2 ++ [([(⟨t_0, 1⟩ : GCount)] : List GCount)]) (rv_0.past.1.length) ([(⟨t_0, 1⟩ : GCount)] : List GCount)) = (enc (rv_0.past.2 ++ [([(⟨t_0, 1⟩ : GCount)] : List GCount)])).set (rv_0.past.1.length) [.sl 6 (enc ([(⟨t_0, 1⟩ : GCount)] : List GCount))] := q8e (rv_0.past.2 ++ [([(⟨t_0, 1⟩ : GCount)] : List GCount)]) (rv_0.past.1.length) ([(⟨t_0, 1⟩ : GCount)] : List GCount); refine q7i (fun _ _ _ _ H => H.closeM1 (id := 2) (id2 := 8) rfl rfl (by simp [q11]) (R' := enc (Xc (rv_0.past.2 ++ [([(⟨t_0, 1⟩ : GCount)] : List GCount)]) (rv_0.past.1.length) ([(⟨t_0, 1⟩ : GCount)] : List GCount))) rm_9) ?_
              have rm_10 : enc (Xc (rv_0.bags.2 ++ [v_0.a0]) (rv_0.bags.1.length) v_0.a0) = (enc (rv_0.bags.2 ++ [v_0.a0])).set (rv_0.bags.1.length) [.sl 3 (enc v_0.a0)] := q8e (rv_0.bags.2 ++ [v_0.a0]) (rv_0.bags.1.length) v_0.a0; refine q7i (fun _ _ _ _ H => H.closeM2 (id := 3) rfl rfl (R' := enc (Xc (rv_0.bags.2 ++ [v_0.a0]) (rv_0.bags.1.length) v_0.a0)) rm_10) ?_; refine q2e ?_; refine x8 Q52 ?_; refine wv ?_; refine q0c ?_; refine q3v 8 0 0 [0, 1, 3, 7, 0, 0, 0, 112, 255, 511] [0, 1, 2, 3, 4, 9, 10] [0, 1, 2, 3] [] [7] [] mixed (by kernel_rfl) (of_decide_eq_true (by kernel_rfl)) (by kernel_rfl) (by kernel_rfl) (by rfl) ?_; obtain ⟨v_24, ev_24, h⟩ := z8 h; simp only [go_sem]; refine z1f [0, 1, 2, 3, 4] (q3o (⟨rv_0.g, Xi (Xf rv_0.ins.1 i_0) (Xf rv_0.ins.2 i_0), (Xi (rv_0.past.1 ++ [nv_0]) (Xc (rv_0.past.2 ++ [([(⟨t_0, 1⟩ : GCount)] : List GCount)]) (rv_0.past.1.length) ([(⟨t_0, 1⟩ : GCount)] : List GCount))), (Xi (rv_0.bags.1 ++ [(⟨nv_0, t_0⟩ : GMean_point)]) (Xc (rv_0.bags.2 ++ [v_0.a0]) (rv_0.bags.1.length) v_0.a0)), rv_0.work, rv_0.most, rv_0.outs, rv_0.e⟩ : GMean_runner) nv_0 t_0 v_24 ev_24) rfl ⟨rfl, ⟨rfl, ⟨rfl, ⟨rfl, ⟨rfl, trivial⟩⟩⟩⟩⟩ rfl rfl rfl rfl ?_; have rf_20 : [[.sl 3 (enc v_0.a0)], [.sl 3 (enc v_24.1)]] = enc ([v_0.a0, v_24.1] : List (List GItem)) := by rfl
              simp only [go_sem]; refine u7 Q49 (⟨(([v_0.a0, v_24.1] : List (List GItem)), v_24.2), [some 5, some 7, some 10], ?_, h⟩); simp only [go_sem, Le] <;> (repeat' apply Xb) <;> (try with_reducible refine q04 ?_) <;> first | omega | (simp [go_sem]; done) | ((try with_reducible refine q04 ?_); (simp [go_sem, enc, qa4]; done))
            .
              obtain ⟨v_25, ev_25, h⟩ := z8 h; have hk_10 : (p9 rv_0.bags.1)[i_5]? = some (Value.agg ⟨[.int .i64 nv_0, .int .i64 t_0.D, .int .i64 t_0.C.a0, .int .i64 t_0.C.a1, .int .i64 t_0.C.a2, .int .i64 t_0.C.a3]⟩) := qj0 hm_5; refine reW (fun _ _ _ _ H => H.openM2 (id := 3) (i := i_5) (x := .sl 3 (enc v_25)) rfl (z0q ev_25)) ?_; refine q7p ?_; refine wv ?_; refine q0c ?_; refine jb1 ?_; simp only [go_sem]; refine z2z ?_ rfl trivial trivial trivial rfl rfl z1z q4n rfl hk_10; simp only [go_sem]; have rm_11 : enc (Xc (rv_0.past.2 ++ [([(⟨t_0, 1⟩ : GCount)] : List GCount)]) (rv_0.past.1.length) ([(⟨t_0, 1⟩ : GCount)] : List GCount)) = (enc (rv_0.past.2 ++ [([(⟨t_0, 1⟩ : GCount)] : List GCount)])).set (rv_0.past.1.length) [.sl 6 (enc ([(⟨t_0, 1⟩ : GCount)] : List GCount))] := q8e (rv_0.past.2 ++ [([(⟨t_0, 1⟩ : GCount)] : List GCount)]) (rv_0.past.1.length) ([(⟨t_0, 1⟩ : GCount)] : List GCount); refine q7i (fun _ _ _ _ H => H.closeM1 (id := 2) (id2 := 8) rfl rfl (by simp [q11]) (R' := enc (Xc (rv_0.past.2 ++ [([(⟨t_0, 1⟩ : GCount)] : List GCount)]) (rv_0.past.1.length) ([(⟨t_0, 1⟩ : GCount)] : List GCount))) rm_11) ?_; have rm_12 : enc (Xc rv_0.bags.2 i_5 v_0.a0) = (enc rv_0.bags.2).set i_5 [.sl 3 (enc v_0.a0)] := q8e rv_0.bags.2 i_5 v_0.a0; refine q7i (fun _ _ _ _ H => H.closeM2 (id := 3) rfl rfl (R' := enc (Xc rv_0.bags.2 i_5 v_0.a0)) rm_12) ?_; refine q2e ?_; refine x8 Q52 ?_; refine wv ?_; refine q0c ?_; refine q3v 8 0 0 [0, 1, 3, 7, 0, 0, 0, 112, 255, 511] [0, 1, 2, 3, 4, 9, 10] [0, 1, 2, 3] [] [7] [] mixed (by kernel_rfl) (of_decide_eq_true (by kernel_rfl)) (by kernel_rfl) (by kernel_rfl) (by rfl) ?_; obtain ⟨v_26, ev_26, h⟩ := z8 h; simp only [go_sem]
              refine z1f [0, 1, 2, 3, 4] (q3o (⟨rv_0.g, Xi (Xf rv_0.ins.1 i_0) (Xf rv_0.ins.2 i_0), (Xi (rv_0.past.1 ++ [nv_0]) (Xc (rv_0.past.2 ++ [([(⟨t_0, 1⟩ : GCount)] : List GCount)]) (rv_0.past.1.length) ([(⟨t_0, 1⟩ : GCount)] : List GCount))), Xi rv_0.bags.1 (Xc rv_0.bags.2 i_5 v_0.a0), rv_0.work, rv_0.most, rv_0.outs, rv_0.e⟩ : GMean_runner) nv_0 t_0 v_26 ev_26) rfl ⟨rfl, ⟨rfl, ⟨rfl, ⟨rfl, ⟨rfl, trivial⟩⟩⟩⟩⟩ rfl rfl rfl rfl ?_; have rf_21 : [[.sl 3 (enc v_0.a0)], [.sl 3 (enc v_26.1)]] = enc ([v_0.a0, v_26.1] : List (List GItem)) := by rfl
              simp only [go_sem]; refine u7 Q49 (⟨(([v_0.a0, v_26.1] : List (List GItem)), v_26.2), [some 5, some 7, some 10], ?_, h⟩); simp only [go_sem, Le] <;> (repeat' apply Xb) <;> (try with_reducible refine q04 ?_) <;> first | omega | (simp [go_sem]; done) | ((try with_reducible refine q04 ?_); (simp [go_sem, enc, qa4]; done))
          .
            obtain ⟨v_27, ev_27, h⟩ := z8 h; have hk_11 : (p9 rv_0.past.1)[i_4]? = some (Value.int .i64 nv_0) := qj0 hm_4; refine reW (fun _ _ _ _ H => H.openM1 (id := 2) (i := i_4) (isz := 6) (xs := enc v_27) rfl (z0q ev_27)) ?_; simp only [q11]; refine q7p ?_; refine wv ?_; refine q0c ?_; refine q3v 15 0 0 [0, 1, 3, 7, 0, 0, 32, 96, 224, 0, 992, 0, 2048, 6144, 16352, 32767] [8, 9] [0, 1, 2, 3, 4] [] [14] [] mixed (by kernel_rfl) (of_decide_eq_true (by kernel_rfl)) (by kernel_rfl) (by kernel_rfl) (by rfl) ?_; have rf_22 : [[.v (.int .i64 t_0.D), .v (.int .i64 t_0.C.a0), .v (.int .i64 t_0.C.a1), .v (.int .i64 t_0.C.a2), .v (.int .i64 t_0.C.a3), .v (.int .i64 1)]] = enc ([(⟨t_0, 1⟩ : GCount)] : List GCount) := by rfl
            obtain ⟨g_16, h⟩ := q0d h; simp only [Xe, Xg, Xh, Xy] at g_16; have rf_23 : enc v_27 ++ [[.v (.int .i64 t_0.D), .v (.int .i64 t_0.C.a0), .v (.int .i64 t_0.C.a1), .v (.int .i64 t_0.C.a2), .v (.int .i64 t_0.C.a3), .v (.int .i64 1)]] = enc (v_27 ++ ([(⟨t_0, 1⟩ : GCount)] : List GCount)) := by exact (q5b v_27 ([(⟨t_0, 1⟩ : GCount)] : List GCount)).symm
            simp only [go_sem, z2i, hk_11, g_16, rf_23]; simp only [rf_22]; refine z2z ?_ rfl trivial trivial trivial rfl rfl z9i z2i rfl hk_11; simp only [go_sem]; refine q2e ?_; refine x8 Q51 ?_; refine sgW fun _ Q53 => ?_; refine q9i h (fun hm_6 h => ?_) (fun i_6 hm_6 h => ?_)
            .
              obtain ⟨g_17, h⟩ := q0d h; have hn_6 : ¬ (Value.agg ⟨[.int .i64 nv_0, .int .i64 t_0.D, .int .i64 t_0.C.a0, .int .i64 t_0.C.a1, .int .i64 t_0.C.a2, .int .i64 t_0.C.a3]⟩) ∈ p9 rv_0.bags.1 := qj1 hm_6; have hk_12 : ∃ l, keyOf pp 78 (Value.agg ⟨[.int .i64 nv_0, .int .i64 t_0.D, .int .i64 t_0.C.a0, .int .i64 t_0.C.a1, .int .i64 t_0.C.a2, .int .i64 t_0.C.a3]⟩) = some l := z2g ((⟨nv_0, t_0⟩ : GMean_point)) g_17; refine q7p ?_; refine wv ?_; refine q0c ?_; refine jb1 ?_; simp only [go_sem]; refine qy8 [.sl 3 (enc v_0.a0)] ?_ rfl trivial trivial trivial rfl rfl z1z q4n rfl hk_12 hn_6; have rn_5k : p9 rv_0.bags.1 ++ [(Value.agg ⟨[.int .i64 nv_0, .int .i64 t_0.D, .int .i64 t_0.C.a0, .int .i64 t_0.C.a1, .int .i64 t_0.C.a2, .int .i64 t_0.C.a3]⟩)] = p9 (rv_0.bags.1 ++ [(⟨nv_0, t_0⟩ : GMean_point)]) := z0s rv_0.bags.1 (⟨nv_0, t_0⟩ : GMean_point); have rn_5v : enc rv_0.bags.2 ++ [[.sl 3 (enc v_0.a0)]] = enc (rv_0.bags.2 ++ [v_0.a0]) := (q5b rv_0.bags.2 [v_0.a0]).symm; have rn_5l : (p9 (rv_0.bags.1 ++ [(⟨nv_0, t_0⟩ : GMean_point)]))[rv_0.bags.1.length]? = some (Value.agg ⟨[.int .i64 nv_0, .int .i64 t_0.D, .int .i64 t_0.C.a0, .int .i64 t_0.C.a1, .int .i64 t_0.C.a2, .int .i64 t_0.C.a3]⟩) := z1d rv_0.bags.1 (⟨nv_0, t_0⟩ : GMean_point); rw [rn_5k, rn_5v, z0r]; simp only [go_sem]; have rm_13 : enc (Xc rv_0.past.2 i_4 (v_27 ++ ([(⟨t_0, 1⟩ : GCount)] : List GCount))) = (enc rv_0.past.2).set i_4 [.sl 6 (enc (v_27 ++ ([(⟨t_0, 1⟩ : GCount)] : List GCount)))] := q8e rv_0.past.2 i_4 (v_27 ++ ([(⟨t_0, 1⟩ : GCount)] : List GCount)); refine q7i (fun _ _ _ _ H => H.closeM1 (id := 2) (id2 := 9) rfl rfl (by simp [q11]) (R' := enc (Xc rv_0.past.2 i_4 (v_27 ++ ([(⟨t_0, 1⟩ : GCount)] : List GCount)))) rm_13) ?_; have rm_14 : enc (Xc (rv_0.bags.2 ++ [v_0.a0]) (rv_0.bags.1.length) v_0.a0) = (enc (rv_0.bags.2 ++ [v_0.a0])).set (rv_0.bags.1.length) [.sl 3 (enc v_0.a0)] := q8e (rv_0.bags.2 ++ [v_0.a0]) (rv_0.bags.1.length) v_0.a0
              refine q7i (fun _ _ _ _ H => H.closeM2 (id := 3) rfl rfl (R' := enc (Xc (rv_0.bags.2 ++ [v_0.a0]) (rv_0.bags.1.length) v_0.a0)) rm_14) ?_; refine q2e ?_; refine x8 Q53 ?_; refine wv ?_; refine q0c ?_; refine q3v 8 0 0 [0, 1, 3, 7, 0, 0, 0, 112, 255, 511] [0, 1, 2, 3, 4, 10, 11] [0, 1, 2, 3] [] [7] [] mixed (by kernel_rfl) (of_decide_eq_true (by kernel_rfl)) (by kernel_rfl) (by kernel_rfl) (by rfl) ?_; obtain ⟨v_28, ev_28, h⟩ := z8 h; simp only [go_sem]; refine z1f [0, 1, 2, 3, 4] (q3o (⟨rv_0.g, Xi (Xf rv_0.ins.1 i_0) (Xf rv_0.ins.2 i_0), (Xi rv_0.past.1 (Xc rv_0.past.2 i_4 (v_27 ++ ([(⟨t_0, 1⟩ : GCount)] : List GCount)))), (Xi (rv_0.bags.1 ++ [(⟨nv_0, t_0⟩ : GMean_point)]) (Xc (rv_0.bags.2 ++ [v_0.a0]) (rv_0.bags.1.length) v_0.a0)), rv_0.work, rv_0.most, rv_0.outs, rv_0.e⟩ : GMean_runner) nv_0 t_0 v_28 ev_28) rfl ⟨rfl, ⟨rfl, ⟨rfl, ⟨rfl, ⟨rfl, trivial⟩⟩⟩⟩⟩ rfl rfl rfl rfl ?_; have rf_24 : [[.sl 3 (enc v_0.a0)], [.sl 3 (enc v_28.1)]] = enc ([v_0.a0, v_28.1] : List (List GItem)) := by rfl
              simp only [go_sem]; refine u7 Q49 (⟨(([v_0.a0, v_28.1] : List (List GItem)), v_28.2), [some 5, some 7, some 11], ?_, h⟩); simp only [go_sem, Le] <;> (repeat' apply Xb) <;> (try with_reducible refine q04 ?_) <;> first | omega | (simp [go_sem]; done) | ((try with_reducible refine q04 ?_); (simp [go_sem, enc, qa4]; done))
            .
              obtain ⟨v_29, ev_29, h⟩ := z8 h; have hk_13 : (p9 rv_0.bags.1)[i_6]? = some (Value.agg ⟨[.int .i64 nv_0, .int .i64 t_0.D, .int .i64 t_0.C.a0, .int .i64 t_0.C.a1, .int .i64 t_0.C.a2, .int .i64 t_0.C.a3]⟩) := qj0 hm_6; refine reW (fun _ _ _ _ H => H.openM2 (id := 3) (i := i_6) (x := .sl 3 (enc v_29)) rfl (z0q ev_29)) ?_; refine q7p ?_; refine wv ?_; refine q0c ?_; refine jb1 ?_; simp only [go_sem]; refine z2z ?_ rfl trivial trivial trivial rfl rfl z1z q4n rfl hk_13; simp only [go_sem]; have rm_15 : enc (Xc rv_0.past.2 i_4 (v_27 ++ ([(⟨t_0, 1⟩ : GCount)] : List GCount))) = (enc rv_0.past.2).set i_4 [.sl 6 (enc (v_27 ++ ([(⟨t_0, 1⟩ : GCount)] : List GCount)))] := q8e rv_0.past.2 i_4 (v_27 ++ ([(⟨t_0, 1⟩ : GCount)] : List GCount)); refine q7i (fun _ _ _ _ H => H.closeM1 (id := 2) (id2 := 9) rfl rfl (by simp [q11]) (R' := enc (Xc rv_0.past.2 i_4 (v_27 ++ ([(⟨t_0, 1⟩ : GCount)] : List GCount)))) rm_15) ?_; have rm_16 : enc (Xc rv_0.bags.2 i_6 v_0.a0) = (enc rv_0.bags.2).set i_6 [.sl 3 (enc v_0.a0)] := q8e rv_0.bags.2 i_6 v_0.a0; refine q7i (fun _ _ _ _ H => H.closeM2 (id := 3) rfl rfl (R' := enc (Xc rv_0.bags.2 i_6 v_0.a0)) rm_16) ?_; refine q2e ?_; refine x8 Q53 ?_; refine wv ?_; refine q0c ?_; refine q3v 8 0 0 [0, 1, 3, 7, 0, 0, 0, 112, 255, 511] [0, 1, 2, 3, 4, 10, 11] [0, 1, 2, 3] [] [7] [] mixed (by kernel_rfl) (of_decide_eq_true (by kernel_rfl)) (by kernel_rfl) (by kernel_rfl) (by rfl) ?_; obtain ⟨v_30, ev_30, h⟩ := z8 h; simp only [go_sem]; refine z1f [0, 1, 2, 3, 4] (q3o (⟨rv_0.g, Xi (Xf rv_0.ins.1 i_0) (Xf rv_0.ins.2 i_0), (Xi rv_0.past.1 (Xc rv_0.past.2 i_4 (v_27 ++ ([(⟨t_0, 1⟩ : GCount)] : List GCount)))), Xi rv_0.bags.1 (Xc rv_0.bags.2 i_6 v_0.a0), rv_0.work, rv_0.most, rv_0.outs, rv_0.e⟩ : GMean_runner) nv_0 t_0 v_30 ev_30) rfl ⟨rfl, ⟨rfl, ⟨rfl, ⟨rfl, ⟨rfl, trivial⟩⟩⟩⟩⟩ rfl rfl rfl rfl ?_
              have rf_25 : [[.sl 3 (enc v_0.a0)], [.sl 3 (enc v_30.1)]] = enc ([v_0.a0, v_30.1] : List (List GItem)) := by rfl
              simp only [go_sem]; refine u7 Q49 (⟨(([v_0.a0, v_30.1] : List (List GItem)), v_30.2), [some 5, some 7, some 11], ?_, h⟩); simp only [go_sem, Le] <;> (repeat' apply Xb) <;> (try with_reducible refine q04 ?_) <;> first | omega | (simp [go_sem]; done) | ((try with_reducible refine q04 ?_); (simp [go_sem, enc, qa4]; done))
        .
          replace h := q2l h hb_25; simp only [bool_to_prop] at hb_25; refine wv ?_; refine y9 (u7 Q49 (⟨(([v_0.a0, v_0.a1] : List (List GItem)), (⟨rv_0.g, Xi (Xf rv_0.ins.1 i_0) (Xf rv_0.ins.2 i_0), rv_0.past, rv_0.bags, rv_0.work, rv_0.most, rv_0.outs, rv_0.e⟩ : GMean_runner)), [some 5, some 7, some 4], ?_, h⟩)); simp only [go_sem, Le] <;> (repeat' apply Xb) <;> (try with_reducible refine q04 ?_) <;> first | omega | (simp [go_sem]; done) | ((try with_reducible refine q04 ?_); (exact ⟨_, rfl, Nat.le_refl _, rfl, rfl⟩))
      . rintro ⟨ports_0, b_0⟩ h
        try dsimp only at h
        rw [q0t] at h; refine sgW fun _ Q12 => ?_; refine wv ?_; obtain ⟨v_8, ev_8, h⟩ := z8 h; simp only [go_sem]; refine q4t [] (z8y xv_0 ports_0 v_8 ev_8) (by simp) rfl trivial rfl rfl rfl rfl ?_; simp only [go_sem]; refine x8 Q12 ?_; refine sgW fun _ Q13 => ?_; refine sgW fun _ Q14 => ?_; refine wv ?_; simp only [go_sem]; refine x8 Q14 ?_; refine q42 (b := (!v_8.2)) (by (simp only [go_sem]; done)) (fun hb_2 => ?_) (fun hb_2 => ?_)
        .
          replace h := q2k h hb_2; simp only [bool_to_prop] at hb_2; refine sgW fun _ Q15 => ?_; refine wv ?_; simp only [go_sem]; refine x8 Q15 ?_; refine sgW fun _ Q16 => ?_; refine wv ?_; simp only [go_sem]; refine x8 Q16 ?_; refine wv ?_; refine q02 (qn6 Q13 ?_); simp only [go_sem]; obtain rfl := Xa h; refine q1w [some 7] ?_; simp only [go_sem, Le] <;> (repeat' apply Xb) <;> (try with_reducible refine q04 ?_) <;> first | omega | (simp [go_sem]; done)
        .
          replace h := q2l h hb_2; simp only [bool_to_prop] at hb_2; refine wv ?_; refine y9 (x8 Q13 ?_); refine zo0 (ι := Unit) (fun (_ : Unit) => (⟨5, [(0, .ptr 0 0), (1, .v (.int .i64 nv_0)), (5, .ptr 5 0), (10, .osl 6 3 (0) (v_8.1.length))], [(0, .box [.sl 1 (enc b_0.g.Parent), .sl 1 (enc b_0.g.Bound), .sl 4 (enc b_0.g.Nodes), .sl 4 (enc b_0.g.Edges), .mp 1, .mp 2, .mp 3, .v (.int .i64 b_0.work), .v (.int .i64 b_0.most), .osl 7 4 (0) (b_0.outs.length), .v (.int .i64 b_0.e)]), (1, .con (p8 pp 78 0 (p9 b_0.ins.1) (enc b_0.ins.2) none) []), (2, .con (p8 pp 3 1 (p9 b_0.past.1) (enc b_0.past.2) none) []), (3, .con (p8 pp 78 2 (p9 b_0.bags.1) (enc b_0.bags.2) none) []), (5, .box (Row.row t_0)), (6, .arr 3 (enc v_8.1)), (7, .arr 4 (enc b_0.outs))], 8, 191⟩ : St)) (fun (_ : Unit) => q4s nv_0 t_0 b_0 v_8 = some r) ?_ ?_
          .
            intro _ Q36; refine sgW fun _ Q37 => ?_; refine wv ?_; simp only [go_sem]; refine x8 Q37 ?_; refine q42 (b := (xv_0.Kind == 15)) (by (simp only [go_sem]; done)) (fun hb_21 => ?_) (fun hb_21 => ?_)
            .
              replace h := q2k h hb_21; simp only [bool_to_prop] at hb_21; refine sgW fun _ Q38 => ?_; refine wv ?_; obtain ⟨v_23, ev_23, h⟩ := z8 h; simp only [go_sem]; refine q7v (s' := (⟨5, [(0, .ptr 0 0), (1, .v (.int .i64 nv_0)), (5, .ptr 5 0)], [(0, .box [.sl 1 (enc b_0.g.Parent), .sl 1 (enc b_0.g.Bound), .sl 4 (enc b_0.g.Nodes), .sl 4 (enc b_0.g.Edges), .mp 1, .mp 2, .mp 3, .v (.int .i64 b_0.work), .v (.int .i64 b_0.most), .osl 7 4 (0) (b_0.outs.length), .v (.int .i64 b_0.e)]), (1, .con (p8 pp 78 0 (p9 b_0.ins.1) (enc b_0.ins.2) none) []), (2, .con (p8 pp 3 1 (p9 b_0.past.1) (enc b_0.past.2) none) []), (3, .con (p8 pp 78 2 (p9 b_0.bags.1) (enc b_0.bags.2) none) []), (5, .box (Row.row t_0)), (6, .box (Row.row xv_0)), (7, .arr 4 (enc b_0.outs))], 8, 191⟩ : St)) (l := [some 5, some 6, some 7]) (args' := [.sl 3 (enc v_8.1)]) ?_ ?_ ?_
              . simp only [go_sem, Le] <;> (repeat' apply Xb) <;> (try with_reducible refine q04 ?_) <;> first | omega | (simp [go_sem]; done)
              . simp only [go_sem, Le] <;> (repeat' apply Xb) <;> ((try with_reducible refine q04 ?_); (simp [go_sem]; done))
              refine q4t [] (za3 v_8.1 v_23 ev_23) (by simp) rfl trivial rfl rfl rfl rfl ?_; simp only [go_sem]; refine x8 Q38 ?_; refine sgW fun _ Q39 => ?_; refine sgW fun _ Q40 => ?_; refine wv ?_; simp only [go_sem]; refine x8 Q40 ?_; refine qe5 fun _ Q41 => ?_; refine z5k (ι := Nat × Int × GMean_runner) (fun ((_, t113_3, b_9) : Nat × Int × GMean_runner) => (⟨5, [(0, .ptr 0 0), (1, .v (.int .i64 nv_0)), (5, .ptr 5 0), (111, .osl 6 2 (0) (v_23.1.length)), (112, .v (.int .i64 (v_23.1.length : Int))), (113, .v (.int .i64 t113_3))], [(0, .box [.sl 1 (enc b_9.g.Parent), .sl 1 (enc b_9.g.Bound), .sl 4 (enc b_9.g.Nodes), .sl 4 (enc b_9.g.Edges), .mp 1, .mp 2, .mp 3, .v (.int .i64 b_9.work), .v (.int .i64 b_9.most), .osl 7 4 (0) (b_9.outs.length), .v (.int .i64 b_9.e)]), (1, .con (p8 pp 78 0 (p9 b_9.ins.1) (enc b_9.ins.2) none) []), (2, .con (p8 pp 3 1 (p9 b_9.past.1) (enc b_9.past.2) none) []), (3, .con (p8 pp 78 2 (p9 b_9.bags.1) (enc b_9.bags.2) none) []), (5, .box (Row.row t_0)), (6, .arr 2 (enc v_23.1)), (7, .arr 4 (enc b_9.outs))], 8, 191⟩ : St)) (fun ((n_, t113_3, b_9) : Nat × Int × GMean_runner) => q05 (q38 nv_0 t_0 v_23) n_ (t113_3, b_9) = some r) (fun p => p.1) (rounds, 0, b_0) [some 5, some 8, some 7] ?_ h ?_
              . simp only [go_sem, Le] <;> (repeat' apply Xb) <;> (try with_reducible refine q04 ?_) <;> first | omega | (simp [go_sem]; done)
              . rintro ⟨n_5, t113_3, b_9⟩ h _ Q42
                dsimp only at h; replace h := q6x h; obtain ⟨m_5, rfl, h⟩ := h; rw [q38] at h; refine sgW fun _ Q43 => ?_; refine wv ?_; simp only [go_sem]; refine x8 Q43 ?_; refine sgW fun _ Q44 => ?_; refine q42 (b := (decide (t113_3 < (v_23.1.length : Int)))) (by (simp only [go_sem]; done)) (fun hb_24 => ?_) (fun hb_24 => ?_)
                .
                  replace h := q2k h hb_24; simp only [bool_to_prop] at hb_24; refine wv ?_; refine y9 (x8 Q44 ?_); refine sgW fun _ Q45 => ?_; refine qe5 fun _ Q46 => ?_; refine sgW fun _ Q47 => ?_; refine wv ?_; obtain ⟨xv_12, ex12, h⟩ := z8 h; obtain ⟨f12a, f12b, f12c⟩ := q87 ex12; simp only [go_sem, f12a, f12b, f12c]; refine Xb (by omega) ?_; refine x8 Q47 ?_; refine wv ?_; refine q0c ?_; refine q3v 13 0 0 [0, 0, 2, 6, 14, 0, 0, 64, 192, 0, 992, 2016, 4094, 8191, 16383, 32767] [7, 9] [0] [] [12] [] mixed (by kernel_rfl) (of_decide_eq_true (by kernel_rfl)) (by kernel_rfl) (by kernel_rfl) (by rfl) ?_; have rf_17 : [[.v (.int .i64 nv_0), .v (.int .i64 t_0.C.a0), .v (.int .i64 xv_12.K), .v (.int .i64 xv_12.V)]] = enc ([(⟨nv_0, t_0.C.a0, xv_12⟩ : GOut)] : List GOut) := by rfl
                  obtain ⟨g_12, h⟩ := q0d h; simp only [Xe, Xg, Xh, Xy] at g_12; have rf_18 : enc b_9.outs ++ [[.v (.int .i64 nv_0), .v (.int .i64 t_0.C.a0), .v (.int .i64 xv_12.K), .v (.int .i64 xv_12.V)]] = enc (b_9.outs ++ ([(⟨nv_0, t_0.C.a0, xv_12⟩ : GOut)] : List GOut)) := by exact (q5b b_9.outs ([(⟨nv_0, t_0.C.a0, xv_12⟩ : GOut)] : List GOut)).symm
                  simp only [go_sem, g_12, rf_18]; simp only [rf_17]; refine q06 Q46 (x8 Q45 ?_); refine wv ?_; simp only [go_sem]; refine u7 Q42 (⟨(m_5, i64.wrap (t113_3 + 1), (⟨b_9.g, b_9.ins, b_9.past, b_9.bags, b_9.work, b_9.most, (b_9.outs ++ ([(⟨nv_0, t_0.C.a0, xv_12⟩ : GOut)] : List GOut)), b_9.e⟩ : GMean_runner)), [some 5, some 6, some 9], ?_, h, Xs _⟩); simp only [go_sem, Le] <;> (repeat' apply Xb) <;> (try with_reducible refine q04 ?_) <;> first | omega | (simp [go_sem]; done)
                .
                  replace h := q2l h hb_24; simp only [bool_to_prop] at hb_24; refine wv ?_; refine q0q (qo6 Q44 ?_); refine q0r Q42 (q0i Q41 (x8 Q39 ?_)); refine sgW fun _ Q48 => ?_; refine wv ?_; simp only [go_sem]; refine x8 Q48 ?_; refine wv ?_; refine q02 (q2b Q36 ?_); simp only [go_sem]; obtain rfl := Xa h; refine q1w [some 7] ?_; simp only [go_sem, Le] <;> (repeat' apply Xb) <;> (try with_reducible refine q04 ?_) <;> first | omega | (simp [go_sem]; done)
            .
              replace h := q2l h hb_21; simp only [bool_to_prop] at hb_21; refine wv ?_; refine y9 (u7 Q36 (⟨(), [some 5, some 8, some 7], ?_, h⟩)); simp only [go_sem, Le] <;> (repeat' apply Xb) <;> (try with_reducible refine q04 ?_) <;> first | omega | (simp [go_sem]; done)
          . rintro ⟨⟩ h
            try dsimp only at h
            rw [q4s] at h; refine sgW fun _ Q17 => ?_; refine wv ?_; obtain ⟨v_10, ev_10, h⟩ := z8 h; simp only [go_sem]; refine q4t [0, 1, 2, 3, 7] (qq0 b_0 nv_0 t_0 v_10 ev_10) (by simp) rfl ⟨rfl, ⟨rfl, ⟨rfl, ⟨rfl, ⟨rfl, trivial⟩⟩⟩⟩⟩ rfl rfl rfl rfl ?_; simp only [go_sem]; refine x8 Q17 ?_; refine sgW fun _ Q18 => ?_; refine sgW fun _ Q19 => ?_; refine wv ?_; simp only [go_sem]; refine x8 Q19 ?_; refine q42 (b := ((!v_10.2.1) || ((v_8.1.length : Int) == 0))) (by (simp only [go_sem]; done)) (fun hb_7 => ?_) (fun hb_7 => ?_)
            .
              replace h := q2k h hb_7; simp only [bool_to_prop] at hb_7; refine sgW fun _ Q20 => ?_; refine wv ?_; simp only [go_sem]; refine x8 Q20 ?_; refine wv ?_; refine q02 (qn6 Q18 ?_); simp only [go_sem]; obtain rfl := Xa h; refine q1w [some 8] ?_; simp only [go_sem, Le] <;> (repeat' apply Xb) <;> (try with_reducible refine q04 ?_) <;> first | omega | (simp [go_sem]; done)
            .
              replace h := q2l h hb_7; simp only [bool_to_prop] at hb_7; refine wv ?_; refine y9 (x8 Q18 ?_); refine zo0 (ι := GMean_runner) (fun (b_5 : GMean_runner) => (⟨5, [(0, .ptr 0 0)], [(0, .box [.sl 1 (enc b_5.g.Parent), .sl 1 (enc b_5.g.Bound), .sl 4 (enc b_5.g.Nodes), .sl 4 (enc b_5.g.Edges), .mp 1, .mp 2, .mp 3, .v (.int .i64 b_5.work), .v (.int .i64 b_5.most), .osl 5 4 (0) (b_5.outs.length), .v (.int .i64 b_5.e)]), (1, .con (p8 pp 78 0 (p9 b_5.ins.1) (enc b_5.ins.2) none) []), (2, .con (p8 pp 3 1 (p9 b_5.past.1) (enc b_5.past.2) none) []), (3, .con (p8 pp 78 2 (p9 b_5.bags.1) (enc b_5.bags.2) none) []), (5, .arr 4 (enc b_5.outs))], 6, 191⟩ : St)) (fun (b_5 : GMean_runner) => q4r b_5 = some r) ?_ ?_
              .
                intro _ Q25; refine sgW fun _ Q26 => ?_; refine wv ?_; simp only [go_sem]; refine x8 Q26 ?_; refine qe5 fun _ Q27 => ?_; refine z5k (ι := Nat × (List GItem) × Int × GMean_runner) (fun ((_, out_3, t153_3, b_7) : Nat × (List GItem) × Int × GMean_runner) => (⟨5, [(0, .ptr 0 0), (1, .v (.int .i64 nv_0)), (10, .sl 3 (enc out_3)), (16, .ptr 5 0), (151, .sl 4 (enc v_10.2.2.g.Edges)), (152, .v (.int .i64 (v_10.2.2.g.Edges.length : Int))), (153, .v (.int .i64 t153_3))], [(0, .box [.sl 1 (enc b_7.g.Parent), .sl 1 (enc b_7.g.Bound), .sl 4 (enc b_7.g.Nodes), .sl 4 (enc b_7.g.Edges), .mp 1, .mp 2, .mp 3, .v (.int .i64 b_7.work), .v (.int .i64 b_7.most), .osl 6 4 (0) (b_7.outs.length), .v (.int .i64 b_7.e)]), (1, .con (p8 pp 78 0 (p9 b_7.ins.1) (enc b_7.ins.2) none) []), (2, .con (p8 pp 3 1 (p9 b_7.past.1) (enc b_7.past.2) none) []), (3, .con (p8 pp 78 2 (p9 b_7.bags.1) (enc b_7.bags.2) none) []), (5, .box (Row.row v_10.1)), (6, .arr 4 (enc b_7.outs))], 7, 191⟩ : St)) (fun ((n_, out_3, t153_3, b_7) : Nat × (List GItem) × Int × GMean_runner) => q05 (q39 nv_0 v_10) n_ (out_3, t153_3, b_7) = some r) (fun p => p.1) (rounds, v_8.1, 0, v_10.2.2) [some 9, some 8] ?_ h ?_
                . simp only [go_sem, Le] <;> (repeat' apply Xb) <;> (try with_reducible refine q04 ?_) <;> first | omega | (simp [go_sem]; done)
                . rintro ⟨n_4, out_3, t153_3, b_7⟩ h _ Q28
                  dsimp only at h; replace h := q6x h; obtain ⟨m_4, rfl, h⟩ := h; rw [q39] at h; refine sgW fun _ Q29 => ?_; refine wv ?_; simp only [go_sem]; refine x8 Q29 ?_; refine sgW fun _ Q30 => ?_; refine q42 (b := (decide (t153_3 < (v_10.2.2.g.Edges.length : Int)))) (by (simp only [go_sem]; done)) (fun hb_19 => ?_) (fun hb_19 => ?_)
                  .
                    replace h := q2k h hb_19; simp only [bool_to_prop] at hb_19; refine wv ?_; refine y9 (x8 Q30 ?_); refine sgW fun _ Q31 => ?_; refine qe5 fun _ Q32 => ?_; refine sgW fun _ Q33 => ?_; refine wv ?_; obtain ⟨xv_9, ex9, h⟩ := z8 h; obtain ⟨f9a, f9b, f9c⟩ := q87 ex9; simp only [go_sem, f9a, f9b, f9c]; refine Xb (by omega) ?_; refine x8 Q33 ?_; refine sgW fun _ Q34 => ?_; refine wv ?_; simp only [go_sem]; refine x8 Q34 ?_; refine q42 (b := (xv_9.From == nv_0)) (by (simp only [go_sem]; done)) (fun hb_20 => ?_) (fun hb_20 => ?_)
                    .
                      replace h := q2k h hb_20; simp only [bool_to_prop] at hb_20; refine sgW fun _ Q35 => ?_; refine wv ?_; obtain ⟨v_21, ev_21, h⟩ := z8 h; simp only [go_sem]; refine q4t [0, 1, 2, 3, 6] (q99 b_7 xv_9.To xv_9.Port v_10.1 out_3 v_21 ev_21) (by simp) rfl ⟨rfl, ⟨rfl, ⟨rfl, ⟨rfl, ⟨rfl, trivial⟩⟩⟩⟩⟩ rfl rfl rfl rfl ?_; simp only [go_sem]; refine x8 Q35 ?_; refine wv ?_; refine q0c ?_; refine jb1 ?_; obtain ⟨v_22, ev_22, h⟩ := z8 h; simp only [go_sem]; refine callq (fun _ => (za1 out_3 v_22 ev_22)) (by rfl) (by rfl) ?_; simp only [go_sem]; refine q06 Q32 (x8 Q31 ?_); refine wv ?_; simp only [go_sem]; refine u7 Q28 (⟨(m_4, out_3, i64.wrap (t153_3 + 1), (⟨v_21.g, v_21.ins, v_21.past, v_21.bags, i64.wrap (v_21.work + v_22), v_21.most, v_21.outs, v_21.e⟩ : GMean_runner)), [some 5, some 8], ?_, h, Xs _⟩); simp only [go_sem, Le] <;> (repeat' apply Xb) <;> (try with_reducible refine q04 ?_) <;> first | omega | (simp [go_sem]; done)
                    .
                      replace h := q2l h hb_20; simp only [bool_to_prop] at hb_20; refine wv ?_; refine y9 (q06 Q32 (x8 Q31 ?_)); refine wv ?_; simp only [go_sem]; refine u7 Q28 (⟨(m_4, out_3, i64.wrap (t153_3 + 1), b_7), [some 5, some 6], ?_, h, Xs _⟩); simp only [go_sem, Le] <;> (repeat' apply Xb) <;> (try with_reducible refine q04 ?_) <;> first | omega | (simp [go_sem]; done)
                  .
                    replace h := q2l h hb_19; simp only [bool_to_prop] at hb_19; refine wv ?_; refine q0q (qo6 Q30 ?_); refine q0r Q28 (q0i Q27 (u7 Q25 (⟨b_7, [some 6], ?_, h⟩))); simp only [go_sem, Le] <;> (repeat' apply Xb) <;> (try with_reducible refine q04 ?_) <;> first | omega | (simp [go_sem]; done)
              . rintro b_5 h
                try dsimp only at h
                rw [q4r] at h; refine sgW fun _ Q21 => ?_; refine sgW fun _ Q22 => ?_; refine wv ?_; refine q0c ?_; refine jb1 ?_; simp only [go_sem]; refine x8 Q22 ?_; refine q42 (b := (decide (b_5.most < b_5.work))) (by (simp only [go_sem]; done)) (fun hb_14 => ?_) (fun hb_14 => ?_)
                .
                  replace h := q2k h hb_14; simp only [bool_to_prop] at hb_14; refine wv ?_; simp only [go_sem]; refine x8 Q21 ?_; refine sgW fun _ Q23 => ?_; refine wv ?_; simp only [go_sem]; refine x8 Q23 ?_; refine wv ?_; refine q02 ?_; simp only [go_sem]; obtain rfl := Xa h; refine q1w [some 5] ?_; simp only [go_sem, Le] <;> (repeat' apply Xb) <;> (try with_reducible refine q04 ?_) <;> first | omega | (simp [go_sem]; done)
                .
                  replace h := q2l h hb_14; simp only [bool_to_prop] at hb_14; refine wv ?_; refine y9 (x8 Q21 ?_); refine sgW fun _ Q24 => ?_; refine wv ?_; simp only [go_sem]; refine x8 Q24 ?_; refine wv ?_; refine q02 ?_; simp only [go_sem]; obtain rfl := Xa h; refine q1w [some 5] ?_; simp only [go_sem, Le] <;> (repeat' apply Xb) <;> (try with_reducible refine q04 ?_) <;> first | omega | (simp [go_sem]; done)
def q68 (rv_0 : GMean_runner) (outer_0 : Int) (rec_1 : Int -> Option (Bool × GMean_runner)) : Int -> Option (Bool × GMean_runner) :=
 fun s_2 =>
 (if (decide (0 <= s_2)) = true then (if (s_2 == outer_0) = true then some (true, rv_0)
 else q9 (idx rv_0.g.Parent s_2) (fun xv_2 =>
 rec_1 xv_2))
 else some (false, rv_0))
def q3g (rv_0 : GMean_runner) (s_0 : Int) (outer_0 : Int) : Option (Bool × GMean_runner) :=
 q05 (q68 rv_0 outer_0) rounds s_0
theorem qo3 (rv_0 : GMean_runner) (s_0 : Int) (outer_0 : Int)  (r : Bool × GMean_runner) (h : q3g rv_0 s_0 outer_0 = some r) : DetS pp 29 [.ptr 0 0, .v (.int .i64 s_0), .v (.int .i64 outer_0)] [(0, .box [.sl 1 (enc rv_0.g.Parent), .sl 1 (enc rv_0.g.Bound), .sl 4 (enc rv_0.g.Nodes), .sl 4 (enc rv_0.g.Edges), .mp 1, .mp 2, .mp 3, .v (.int .i64 rv_0.work), .v (.int .i64 rv_0.most), .osl 4 4 (0) (rv_0.outs.length), .v (.int .i64 rv_0.e)]), (1, .con (p8 pp 78 0 (p9 rv_0.ins.1) (enc rv_0.ins.2) none) []), (2, .con (p8 pp 3 1 (p9 rv_0.past.1) (enc rv_0.past.2) none) []), (3, .con (p8 pp 78 2 (p9 rv_0.bags.1) (enc rv_0.bags.2) none) []), (4, .arr 4 (enc rv_0.outs))] 5 (.v (.bool r.1)) [(0, .box [.sl 1 (enc r.2.g.Parent), .sl 1 (enc r.2.g.Bound), .sl 4 (enc r.2.g.Nodes), .sl 4 (enc r.2.g.Edges), .mp 1, .mp 2, .mp 3, .v (.int .i64 r.2.work), .v (.int .i64 r.2.most), .osl 5 4 (0) (r.2.outs.length), .v (.int .i64 r.2.e)]), (1, .con (p8 pp 78 0 (p9 r.2.ins.1) (enc r.2.ins.2) none) []), (2, .con (p8 pp 3 1 (p9 r.2.past.1) (enc r.2.past.2) none) []), (3, .con (p8 pp 78 2 (p9 r.2.bags.1) (enc r.2.bags.2) none) []), (5, .arr 4 (enc r.2.outs))] 6 := by
 refine dtI Tryz.func29 rfl ?_; rw [q3g] at h; have F := trivial; refine sM ?_; refine jg fun _ Q2 => ?_; refine w9 fun _ Q3 => ?_; refine q0x h [0, 2] (fun s_2 => ([(1, .v (.int .i64 s_2))], [(0, .box [.sl 1 (enc rv_0.g.Parent), .sl 1 (enc rv_0.g.Bound), .sl 4 (enc rv_0.g.Nodes), .sl 4 (enc rv_0.g.Edges), .mp 1, .mp 2, .mp 3, .v (.int .i64 rv_0.work), .v (.int .i64 rv_0.most), .osl 4 4 (0) (rv_0.outs.length), .v (.int .i64 rv_0.e)]), (1, .con (p8 pp 78 0 (p9 rv_0.ins.1) (enc rv_0.ins.2) none) []), (2, .con (p8 pp 3 1 (p9 rv_0.past.1) (enc rv_0.past.2) none) []), (3, .con (p8 pp 78 2 (p9 rv_0.bags.1) (enc rv_0.bags.2) none) []), (4, .arr 4 (enc rv_0.outs))])) 5 ?_; rintro m_1 s_2 h _ Q4; rw [q68] at h; exact au
def q27 (around_1 : Bool) (nv_1 : Int) (b_39 : GMean_runner) (rec_1 : (Bool × Int × GMean_runner -> Option (Bool × GMean_runner))) (xv_22 : GNode) (b_49 : GTime) : Option (Bool × GMean_runner) :=
 q9 (q44 b_39 nv_1 b_49) (fun v_72 =>
 rec_1 ((around_1 || (v_72.1 && (xv_22.Kind == 12))), i64.wrap (nv_1 + 1), v_72.2))
def q4f (t_0 : GTime) (around_1 : Bool) (nv_1 : Int) (b_39 : GMean_runner) (rec_1 : (Bool × Int × GMean_runner -> Option (Bool × GMean_runner))) (xv_22 : GNode) : Option (Bool × GMean_runner) :=
 (if (xv_22.Kind == 10) = true then q9 (qk2 t_0) (fun v_73 =>
 q27 around_1 nv_1 b_39 rec_1 xv_22 v_73.1)
 else q27 around_1 nv_1 b_39 rec_1 xv_22 t_0)
def q6e (self : GMean_runner -> Int -> Int -> Int -> GTime -> Option (Bool × GMean_runner)) (around_1 : Bool) (nv_1 : Int) (rec_1 : (Bool × Int × GMean_runner -> Option (Bool × GMean_runner))) (xv_22 : GNode) (endv_27 : Int) (xv_30 : Int) (rec_5 : Int × GMean_runner × GTime -> Option (Bool × GMean_runner)) : Int × GMean_runner × GTime -> Option (Bool × GMean_runner) :=
 fun (t25_11, b_55, b_56) =>
 (if (decide (t25_11 < xv_30)) = true then q9 (self b_55 nv_1 endv_27 xv_22.Scope b_56) (fun v_82 =>
 (if (!v_82.1) = true then rec_1 (around_1, endv_27, v_82.2)
 else q9 (qp5 b_56) (fun v_83 =>
 rec_5 (i64.wrap (t25_11 + 1), v_82.2, v_83.1))))
 else rec_1 (around_1, endv_27, b_55))
def q26 (t_0 : GTime) (self : GMean_runner -> Int -> Int -> Int -> GTime -> Option (Bool × GMean_runner)) (around_1 : Bool) (nv_1 : Int) (rec_1 : (Bool × Int × GMean_runner -> Option (Bool × GMean_runner))) (xv_22 : GNode) (endv_27 : Int) (b_52 : GMean_runner) : Option (Bool × GMean_runner) :=
 q9 (qk3 t_0) (fun v_77 =>
 q9 (idx b_52.g.Bound xv_22.Scope) (fun xv_30 =>
 q05 (q6e self around_1 nv_1 rec_1 xv_22 endv_27 xv_30) rounds (0, b_52, v_77.1)))
def q6d (tov_0 : Int) (t_0 : GTime) (self : GMean_runner -> Int -> Int -> Int -> GTime -> Option (Bool × GMean_runner)) (around_1 : Bool) (nv_1 : Int) (rec_1 : (Bool × Int × GMean_runner -> Option (Bool × GMean_runner))) (xv_22 : GNode) (rec_6 : Int × GMean_runner -> Option (Bool × GMean_runner)) : Int × GMean_runner -> Option (Bool × GMean_runner) :=
 fun (endv_29, b_58) =>
 (if (decide (endv_29 < tov_0)) = true then q9 (idx b_58.g.Nodes endv_29) (fun xv_32 =>
 q9 (q3g b_58 xv_32.Scope xv_22.Scope) (fun v_86 =>
 (if v_86.1 = true then rec_6 (i64.wrap (endv_29 + 1), v_86.2)
 else q26 t_0 self around_1 nv_1 rec_1 xv_22 endv_29 v_86.2)))
 else q26 t_0 self around_1 nv_1 rec_1 xv_22 endv_29 b_58)
def q28 (tov_0 : Int) (scope_0 : Int) (t_0 : GTime) (self : GMean_runner -> Int -> Int -> Int -> GTime -> Option (Bool × GMean_runner)) (rec_1 : Bool × Int × GMean_runner -> Option (Bool × GMean_runner)) : Bool × Int × GMean_runner -> Option (Bool × GMean_runner) :=
 fun (around_1, nv_1, b_39) =>
 (if (decide (nv_1 < tov_0)) = true then q9 (idx b_39.g.Nodes nv_1) (fun xv_22 =>
 (if (!(xv_22.Scope == scope_0)) = true then q05 (q6d tov_0 t_0 self around_1 nv_1 rec_1 xv_22) rounds (nv_1, b_39)
 else q4f t_0 around_1 nv_1 b_39 rec_1 xv_22))
 else some (around_1, b_39))
def q37 (self : GMean_runner -> Int -> Int -> Int -> GTime -> Option (Bool × GMean_runner)) (rv_0 : GMean_runner) (fromv_0 : Int) (tov_0 : Int) (scope_0 : Int) (t_0 : GTime) : Option (Bool × GMean_runner) :=
 q05 (q28 tov_0 scope_0 t_0 self) rounds (false, fromv_0, rv_0)
def q18 : Nat -> GMean_runner -> Int -> Int -> Int -> GTime -> Option (Bool × GMean_runner)
 | 0 => fun _ _ _ _ _ => none
 | n + 1 => q37 (q18 n)
def qa2 (rv_0 : GMean_runner) (fromv_0 : Int) (tov_0 : Int) (scope_0 : Int) (t_0 : GTime) : Option (Bool × GMean_runner) := q18 rounds rv_0 fromv_0 tov_0 scope_0 t_0
theorem qm5 (self : GMean_runner -> Int -> Int -> Int -> GTime -> Option (Bool × GMean_runner)) (Hself : ∀ (rv_0 : GMean_runner) (fromv_0 : Int) (tov_0 : Int) (scope_0 : Int) (t_0 : GTime)  (r : Bool × GMean_runner), self rv_0 fromv_0 tov_0 scope_0 t_0 = some r -> DetS pp 19 [.ptr 0 0, .v (.int .i64 fromv_0), .v (.int .i64 tov_0), .v (.int .i64 scope_0), .agg (Row.row t_0)] [(0, .box [.sl 1 (enc rv_0.g.Parent), .sl 1 (enc rv_0.g.Bound), .sl 4 (enc rv_0.g.Nodes), .sl 4 (enc rv_0.g.Edges), .mp 1, .mp 2, .mp 3, .v (.int .i64 rv_0.work), .v (.int .i64 rv_0.most), .osl 4 4 (0) (rv_0.outs.length), .v (.int .i64 rv_0.e)]), (1, .con (p8 pp 78 0 (p9 rv_0.ins.1) (enc rv_0.ins.2) none) []), (2, .con (p8 pp 3 1 (p9 rv_0.past.1) (enc rv_0.past.2) none) []), (3, .con (p8 pp 78 2 (p9 rv_0.bags.1) (enc rv_0.bags.2) none) []), (4, .arr 4 (enc rv_0.outs))] 5 (.v (.bool r.1)) [(0, .box [.sl 1 (enc r.2.g.Parent), .sl 1 (enc r.2.g.Bound), .sl 4 (enc r.2.g.Nodes), .sl 4 (enc r.2.g.Edges), .mp 1, .mp 2, .mp 3, .v (.int .i64 r.2.work), .v (.int .i64 r.2.most), .osl 5 4 (0) (r.2.outs.length), .v (.int .i64 r.2.e)]), (1, .con (p8 pp 78 0 (p9 r.2.ins.1) (enc r.2.ins.2) none) []), (2, .con (p8 pp 3 1 (p9 r.2.past.1) (enc r.2.past.2) none) []), (3, .con (p8 pp 78 2 (p9 r.2.bags.1) (enc r.2.bags.2) none) []), (5, .arr 4 (enc r.2.outs))] 6) (rv_0 : GMean_runner) (fromv_0 : Int) (tov_0 : Int) (scope_0 : Int) (t_0 : GTime)  (r : Bool × GMean_runner) (h : q37 self rv_0 fromv_0 tov_0 scope_0 t_0 = some r) : DetS pp 19 [.ptr 0 0, .v (.int .i64 fromv_0), .v (.int .i64 tov_0), .v (.int .i64 scope_0), .agg (Row.row t_0)] [(0, .box [.sl 1 (enc rv_0.g.Parent), .sl 1 (enc rv_0.g.Bound), .sl 4 (enc rv_0.g.Nodes), .sl 4 (enc rv_0.g.Edges), .mp 1, .mp 2, .mp 3, .v (.int .i64 rv_0.work), .v (.int .i64 rv_0.most), .osl 4 4 (0) (rv_0.outs.length), .v (.int .i64 rv_0.e)]), (1, .con (p8 pp 78 0 (p9 rv_0.ins.1) (enc rv_0.ins.2) none) []), (2, .con (p8 pp 3 1 (p9 rv_0.past.1) (enc rv_0.past.2) none) []), (3, .con (p8 pp 78 2 (p9 rv_0.bags.1) (enc rv_0.bags.2) none) []), (4, .arr 4 (enc rv_0.outs))] 5 (.v (.bool r.1)) [(0, .box [.sl 1 (enc r.2.g.Parent), .sl 1 (enc r.2.g.Bound), .sl 4 (enc r.2.g.Nodes), .sl 4 (enc r.2.g.Edges), .mp 1, .mp 2, .mp 3, .v (.int .i64 r.2.work), .v (.int .i64 r.2.most), .osl 5 4 (0) (r.2.outs.length), .v (.int .i64 r.2.e)]), (1, .con (p8 pp 78 0 (p9 r.2.ins.1) (enc r.2.ins.2) none) []), (2, .con (p8 pp 3 1 (p9 r.2.past.1) (enc r.2.past.2) none) []), (3, .con (p8 pp 78 2 (p9 r.2.bags.1) (enc r.2.bags.2) none) []), (5, .arr 4 (enc r.2.outs))] 6 := by
 refine dtI Tryz.func19 rfl ?_; rw [q37] at h; have F := trivial; refine sM ?_; refine sM ?_; refine jg fun _ Q3 => ?_; refine sM ?_; refine w9 fun _ Q5 => ?_; refine q0x h [0, 2, 3, 9] (fun x => ([(11, .v (.bool x.1)), (12, .v (.int .i64 x.2.1))], [(0, .box [.sl 1 (enc x.2.2.g.Parent), .sl 1 (enc x.2.2.g.Bound), .sl 4 (enc x.2.2.g.Nodes), .sl 4 (enc x.2.2.g.Edges), .mp 1, .mp 2, .mp 3, .v (.int .i64 x.2.2.work), .v (.int .i64 x.2.2.most), .osl 6 4 (0) (x.2.2.outs.length), .v (.int .i64 x.2.2.e)]), (1, .con (p8 pp 78 0 (p9 x.2.2.ins.1) (enc x.2.2.ins.2) none) []), (2, .con (p8 pp 3 1 (p9 x.2.2.past.1) (enc x.2.2.past.2) none) []), (3, .con (p8 pp 78 2 (p9 x.2.2.bags.1) (enc x.2.2.bags.2) none) []), (5, .box (Row.row t_0)), (6, .arr 4 (enc x.2.2.outs))])) 7 ?_; rintro m_1 ⟨around_1, nv_1, b_39⟩ h _ Q6; rw [q28] at h; refine sg fun _ Q7 => ?_; refine sM ?_; refine sB h (fun _ h => ?_) fun _ h => ?_
 .
  refine y9 (q8 Q7 (w9 fun _ Q9 => ?_)); refine sg fun _ Q10 => ?_; obtain ⟨xv_22, F, h⟩ := bI F h; simp only [go_sem, F]; refine ai ?_; refine q8 Q10 (q52 (fun (_ : Unit) => q4f t_0 around_1 nv_1 b_39 (q05 (q28 tov_0 scope_0 t_0 self) m_1) xv_22 = some r) [0, 2, 3, 9, 11, 12] (fun _ => ([(13, .ptr 6 0)], [(0, .box [.sl 1 (enc b_39.g.Parent), .sl 1 (enc b_39.g.Bound), .sl 4 (enc b_39.g.Nodes), .sl 4 (enc b_39.g.Edges), .mp 1, .mp 2, .mp 3, .v (.int .i64 b_39.work), .v (.int .i64 b_39.most), .osl 7 4 (0) (b_39.outs.length), .v (.int .i64 b_39.e)]), (1, .con (p8 pp 78 0 (p9 b_39.ins.1) (enc b_39.ins.2) none) []), (2, .con (p8 pp 3 1 (p9 b_39.past.1) (enc b_39.past.2) none) []), (3, .con (p8 pp 78 2 (p9 b_39.bags.1) (enc b_39.bags.2) none) []), (5, .box (Row.row t_0)), (6, .box (Row.row xv_22)), (7, .arr 4 (enc b_39.outs))])) 8 ?_ ?_)
  .
   intro _ Q16; refine sM ?_; refine sB h (fun _ h => ?_) fun _ h => ?_
   .
    refine sM ?_; refine q52 (fun ((endv_27, b_52) : Int × GMean_runner) => q26 t_0 self around_1 nv_1 (q05 (q28 tov_0 scope_0 t_0 self) m_1) xv_22 endv_27 b_52 = some r) [0, 2, 3, 9, 11, 12] (fun x => ([(13, .ptr 6 0), (14, .v (.int .i64 x.1))], [(0, .box [.sl 1 (enc x.2.g.Parent), .sl 1 (enc x.2.g.Bound), .sl 4 (enc x.2.g.Nodes), .sl 4 (enc x.2.g.Edges), .mp 1, .mp 2, .mp 3, .v (.int .i64 x.2.work), .v (.int .i64 x.2.most), .osl 7 4 (0) (x.2.outs.length), .v (.int .i64 x.2.e)]), (1, .con (p8 pp 78 0 (p9 x.2.ins.1) (enc x.2.ins.2) none) []), (2, .con (p8 pp 3 1 (p9 x.2.past.1) (enc x.2.past.2) none) []), (3, .con (p8 pp 78 2 (p9 x.2.bags.1) (enc x.2.bags.2) none) []), (5, .box (Row.row t_0)), (6, .box (Row.row xv_22)), (7, .arr 4 (enc x.2.outs))])) 8 ?_ ?_
    .
     intro _ Q33; refine w9 fun _ Q34 => ?_; refine q0x h [0, 2, 3, 9, 11, 12] (fun x => ([(13, .ptr 6 0), (14, .v (.int .i64 x.1))], [(0, .box [.sl 1 (enc x.2.g.Parent), .sl 1 (enc x.2.g.Bound), .sl 4 (enc x.2.g.Nodes), .sl 4 (enc x.2.g.Edges), .mp 1, .mp 2, .mp 3, .v (.int .i64 x.2.work), .v (.int .i64 x.2.most), .osl 7 4 (0) (x.2.outs.length), .v (.int .i64 x.2.e)]), (1, .con (p8 pp 78 0 (p9 x.2.ins.1) (enc x.2.ins.2) none) []), (2, .con (p8 pp 3 1 (p9 x.2.past.1) (enc x.2.past.2) none) []), (3, .con (p8 pp 78 2 (p9 x.2.bags.1) (enc x.2.bags.2) none) []), (5, .box (Row.row t_0)), (6, .box (Row.row xv_22)), (7, .arr 4 (enc x.2.outs))])) 8 ?_; rintro m_6 ⟨endv_29, b_58⟩ h _ Q35; rw [q6d] at h; refine sg fun _ Q36 => ?_; refine sg fun _ Q37 => ?_; refine q0c ?_; refine jb1 ?_; simp only [go_sem]; rcases hb_121 : (decide (endv_29 < tov_0)) with _ | _
     . replace h := q2l h hb_121; simp only [go_sem, hb_121]; exact au
     . replace h := q2k h hb_121; obtain ⟨xv_32, F, h⟩ := bI F h; obtain ⟨v_86, ev_86, h⟩ := z8 h; simp only [go_sem, hb_121, F]; refine ai ?_; refine q20 [0, 1, 2, 3, 7] (qo3 b_58 xv_32.Scope xv_22.Scope v_86 ev_86) ?_; simp only [go_sem]; exact au
    .
     rintro ⟨endv_27, b_52⟩ h
     try dsimp only at h
     rw [q26] at h; refine sg fun _ Q19 => ?_; simp only [go_sem]; refine q7b Tryz.func30 rfl (by kernel_rfl) (by kernel_rfl) ?_; refine sM ?_; refine sg fun _ Q21 => ?_; simp only [go_sem]; refine q6l h fun v_77 h => ?_; simp only [go_sem]; refine q8 Q21 (sg fun _ Q22 => ?_); obtain ⟨xv_30, F, h⟩ := bI F h; simp only [go_sem, F]; refine ai ?_; refine q8 Q22 (w9 fun _ Q23 => ?_); refine q0x h [0, 1, 2, 3, 24] (fun x => ([(10, .ptr 8 0), (25, .v (.int .i64 x.1))], [(0, .box [.sl 1 (enc x.2.1.g.Parent), .sl 1 (enc x.2.1.g.Bound), .sl 4 (enc x.2.1.g.Nodes), .sl 4 (enc x.2.1.g.Edges), .mp 1, .mp 2, .mp 3, .v (.int .i64 x.2.1.work), .v (.int .i64 x.2.1.most), .osl 9 4 (0) (x.2.1.outs.length), .v (.int .i64 x.2.1.e)]), (1, .con (p8 pp 78 0 (p9 x.2.1.ins.1) (enc x.2.1.ins.2) none) []), (2, .con (p8 pp 3 1 (p9 x.2.1.past.1) (enc x.2.1.past.2) none) []), (3, .con (p8 pp 78 2 (p9 x.2.1.bags.1) (enc x.2.1.bags.2) none) []), (5, .box (Row.row t_0)), (6, .box (Row.row xv_22)), (8, .box (Row.row x.2.2)), (9, .arr 4 (enc x.2.1.outs))])) 10 ?_; rintro m_5 ⟨t25_11, b_55, b_56⟩ h _ Q24; rw [q6e] at h; refine sM ?_; refine sg fun _ Q26 => ?_; refine sB h (fun _ h => ?_) fun _ h => ?_
     .
      refine y9 (q8 Q26 (sg fun _ Q27 => ?_)); refine w9 fun _ Q28 => ?_; refine sg fun _ Q29 => ?_; refine sg fun _ Q30 => ?_; obtain ⟨v_82, ev_82, h⟩ := z8 h; simp only [go_sem]; refine q20 [0, 1, 2, 3, 9] (Hself b_55 nv_1 endv_27 xv_22.Scope b_56 v_82 ev_82) ?_; simp only [go_sem]; refine q8 Q30 (sB h (fun _ h => ?_) fun _ h => ?_)
      .
       refine q02 (q0s Q29 (q0m Q28 (q0s Q27 (q2b Q24 (q0m Q23 ?_))))); simp only [go_sem]; refine q1t [some 8, some 10] [(0, .box [.sl 1 (enc v_82.2.g.Parent), .sl 1 (enc v_82.2.g.Bound), .sl 4 (enc v_82.2.g.Nodes), .sl 4 (enc v_82.2.g.Edges), .mp 1, .mp 2, .mp 3, .v (.int .i64 v_82.2.work), .v (.int .i64 v_82.2.most), .osl 9 4 (0) (v_82.2.outs.length), .v (.int .i64 v_82.2.e)]), (1, .con (p8 pp 78 0 (p9 v_82.2.ins.1) (enc v_82.2.ins.2) none) []), (2, .con (p8 pp 3 1 (p9 v_82.2.past.1) (enc v_82.2.past.2) none) []), (3, .con (p8 pp 78 2 (p9 v_82.2.bags.1) (enc v_82.2.bags.2) none) []), (5, .box (Row.row t_0)), (6, .box (Row.row xv_22)), (8, .box (Row.row b_56)), (9, .arr 4 (enc v_82.2.outs))] 10 (.tup []) ?_ ?_
       . exact leA
       refine q2g ?_; simp only [go_sem]; exact au
      . exact au
     .
      refine q0q (q1p Q26 (q0r Q24 (q0i Q23 ?_))); simp only [go_sem]; refine q1t [some 8, some 9] [(0, .box [.sl 1 (enc b_55.g.Parent), .sl 1 (enc b_55.g.Bound), .sl 4 (enc b_55.g.Nodes), .sl 4 (enc b_55.g.Edges), .mp 1, .mp 2, .mp 3, .v (.int .i64 b_55.work), .v (.int .i64 b_55.most), .osl 9 4 (0) (b_55.outs.length), .v (.int .i64 b_55.e)]), (1, .con (p8 pp 78 0 (p9 b_55.ins.1) (enc b_55.ins.2) none) []), (2, .con (p8 pp 3 1 (p9 b_55.past.1) (enc b_55.past.2) none) []), (3, .con (p8 pp 78 2 (p9 b_55.bags.1) (enc b_55.bags.2) none) []), (5, .box (Row.row t_0)), (6, .box (Row.row xv_22)), (8, .box (Row.row b_56)), (9, .arr 4 (enc b_55.outs))] 10 (.tup []) ?_ ?_
      . exact leA
      refine q2g ?_; simp only [go_sem]; exact au
   . exact au
  .
   rintro ⟨⟩ h
   try dsimp only at h
   rw [q4f] at h; refine sM ?_; refine q52 (fun (b_49 : GTime) => q27 around_1 nv_1 b_39 (q05 (q28 tov_0 scope_0 t_0 self) m_1) xv_22 b_49 = some r) [0, 2, 3, 9, 11, 12, 13] (fun b_49 => ([(15, .ptr 7 0)], [(0, .box [.sl 1 (enc b_39.g.Parent), .sl 1 (enc b_39.g.Bound), .sl 4 (enc b_39.g.Nodes), .sl 4 (enc b_39.g.Edges), .mp 1, .mp 2, .mp 3, .v (.int .i64 b_39.work), .v (.int .i64 b_39.most), .osl 8 4 (0) (b_39.outs.length), .v (.int .i64 b_39.e)]), (1, .con (p8 pp 78 0 (p9 b_39.ins.1) (enc b_39.ins.2) none) []), (2, .con (p8 pp 3 1 (p9 b_39.past.1) (enc b_39.past.2) none) []), (3, .con (p8 pp 78 2 (p9 b_39.bags.1) (enc b_39.bags.2) none) []), (5, .box (Row.row t_0)), (6, .box (Row.row xv_22)), (7, .box (Row.row b_49)), (8, .arr 4 (enc b_39.outs))])) 9 ?_ ?_
   . intro _ Q14; exact au
   .
    rintro b_49 h
    try dsimp only at h
    rw [q27] at h; refine sg fun _ Q12 => ?_; obtain ⟨v_72, ev_72, h⟩ := z8 h; simp only [go_sem]; refine q20 [0, 1, 2, 3, 8] (qr6 b_39 nv_1 b_49 v_72 ev_72) ?_; simp only [go_sem]; exact au
 . exact au
theorem q80 : ∀ (n : Nat) (rv_0 : GMean_runner) (fromv_0 : Int) (tov_0 : Int) (scope_0 : Int) (t_0 : GTime)  (r : Bool × GMean_runner), q18 n rv_0 fromv_0 tov_0 scope_0 t_0 = some r -> DetS pp 19 [.ptr 0 0, .v (.int .i64 fromv_0), .v (.int .i64 tov_0), .v (.int .i64 scope_0), .agg (Row.row t_0)] [(0, .box [.sl 1 (enc rv_0.g.Parent), .sl 1 (enc rv_0.g.Bound), .sl 4 (enc rv_0.g.Nodes), .sl 4 (enc rv_0.g.Edges), .mp 1, .mp 2, .mp 3, .v (.int .i64 rv_0.work), .v (.int .i64 rv_0.most), .osl 4 4 (0) (rv_0.outs.length), .v (.int .i64 rv_0.e)]), (1, .con (p8 pp 78 0 (p9 rv_0.ins.1) (enc rv_0.ins.2) none) []), (2, .con (p8 pp 3 1 (p9 rv_0.past.1) (enc rv_0.past.2) none) []), (3, .con (p8 pp 78 2 (p9 rv_0.bags.1) (enc rv_0.bags.2) none) []), (4, .arr 4 (enc rv_0.outs))] 5 (.v (.bool r.1)) [(0, .box [.sl 1 (enc r.2.g.Parent), .sl 1 (enc r.2.g.Bound), .sl 4 (enc r.2.g.Nodes), .sl 4 (enc r.2.g.Edges), .mp 1, .mp 2, .mp 3, .v (.int .i64 r.2.work), .v (.int .i64 r.2.most), .osl 5 4 (0) (r.2.outs.length), .v (.int .i64 r.2.e)]), (1, .con (p8 pp 78 0 (p9 r.2.ins.1) (enc r.2.ins.2) none) []), (2, .con (p8 pp 3 1 (p9 r.2.past.1) (enc r.2.past.2) none) []), (3, .con (p8 pp 78 2 (p9 r.2.bags.1) (enc r.2.bags.2) none) []), (5, .arr 4 (enc r.2.outs))] 6
  | 0, rv_0, fromv_0, tov_0, scope_0, t_0, r, h => by simp [q18] at h
  | n + 1, rv_0, fromv_0, tov_0, scope_0, t_0, r, h => qm5 (q18 n) (q80 n) rv_0 fromv_0 tov_0 scope_0 t_0  r h
theorem qp9 (rv_0 : GMean_runner) (fromv_0 : Int) (tov_0 : Int) (scope_0 : Int) (t_0 : GTime)  (r : Bool × GMean_runner) (h : qa2 rv_0 fromv_0 tov_0 scope_0 t_0 = some r) : DetS pp 19 [.ptr 0 0, .v (.int .i64 fromv_0), .v (.int .i64 tov_0), .v (.int .i64 scope_0), .agg (Row.row t_0)] [(0, .box [.sl 1 (enc rv_0.g.Parent), .sl 1 (enc rv_0.g.Bound), .sl 4 (enc rv_0.g.Nodes), .sl 4 (enc rv_0.g.Edges), .mp 1, .mp 2, .mp 3, .v (.int .i64 rv_0.work), .v (.int .i64 rv_0.most), .osl 4 4 (0) (rv_0.outs.length), .v (.int .i64 rv_0.e)]), (1, .con (p8 pp 78 0 (p9 rv_0.ins.1) (enc rv_0.ins.2) none) []), (2, .con (p8 pp 3 1 (p9 rv_0.past.1) (enc rv_0.past.2) none) []), (3, .con (p8 pp 78 2 (p9 rv_0.bags.1) (enc rv_0.bags.2) none) []), (4, .arr 4 (enc rv_0.outs))] 5 (.v (.bool r.1)) [(0, .box [.sl 1 (enc r.2.g.Parent), .sl 1 (enc r.2.g.Bound), .sl 4 (enc r.2.g.Nodes), .sl 4 (enc r.2.g.Edges), .mp 1, .mp 2, .mp 3, .v (.int .i64 r.2.work), .v (.int .i64 r.2.most), .osl 5 4 (0) (r.2.outs.length), .v (.int .i64 r.2.e)]), (1, .con (p8 pp 78 0 (p9 r.2.ins.1) (enc r.2.ins.2) none) []), (2, .con (p8 pp 3 1 (p9 r.2.past.1) (enc r.2.past.2) none) []), (3, .con (p8 pp 78 2 (p9 r.2.bags.1) (enc r.2.bags.2) none) []), (5, .arr 4 (enc r.2.outs))] 6 := q80 rounds rv_0 fromv_0 tov_0 scope_0 t_0  r h
def q4m (a_0 : Int) (b_0 : Int) (nv_0 : Int) (rec_1 : Int × (List GOut) -> Option (List GOut)) : Int × (List GOut) -> Option (List GOut) :=
 fun (i_1, a_2) =>
 (if (decide (i_1 < nv_0)) = true then q9 (idx a_2 (i64.wrap (b_0 + i_1))) (fun xv_6 =>
 q9 (idx a_2 (i64.wrap (a_0 + i_1))) (fun xv_7 =>
 q9 (idx (Xc a_2 (Xd (i64.wrap (a_0 + i_1))) xv_6) (i64.wrap (b_0 + i_1))) (fun xv_8 =>
 rec_1 (i64.wrap (i_1 + 1), (Xc (Xc a_2 (Xd (i64.wrap (a_0 + i_1))) xv_6) (Xd (i64.wrap (b_0 + i_1))) xv_7)))))
 else some a_2)
def q15 (data_0 : List GOut) (a_0 : Int) (b_0 : Int) (nv_0 : Int) (cmp_0 : GOut -> GOut -> Option Int) : Option (List GOut) :=
 q05 (q4m a_0 b_0 nv_0) rounds (0, data_0)
theorem q48 (data_0 : List GOut) (a_0 : Int) (b_0 : Int) (nv_0 : Int) (cmp_0 : GOut -> GOut -> Option Int) (g_cmp_0 : FuncId) (c_cmp_0 : List AV) (F_cmp_0 : q0f c_cmp_0 = true) (E_cmp_0 : q00 pp g_cmp_0 = true) (H_cmp_0 : ∀ (x0 : GOut) (x1 : GOut) (r : Int), cmp_0 x0 x1 = some r -> PureS pp g_cmp_0 ([.agg (Row.row x0), .agg (Row.row x1)] ++ c_cmp_0) 0 (.v (.int .i64 r))) (r : List GOut) (h : q15 data_0 a_0 b_0 nv_0 cmp_0 = some r) : DetS pp 117 [.osl 0 4 (0) (data_0.length), .v (.int .i64 a_0), .v (.int .i64 b_0), .v (.int .i64 nv_0), .clo g_cmp_0 c_cmp_0] [(0, .arr 4 (enc data_0))] 1 (.tup []) [(0, .arr 4 (enc r))] 1 := by
 refine dtI Tryz.func117 rfl ?_; rw [q15] at h; have F := trivial; refine sM ?_; refine w9 fun _ Q2 => ?_; refine q0x h [1, 2, 3] (fun x => ([(0, .osl 0 4 (0) (x.2.length)), (10, .v (.int .i64 x.1))], [(0, .arr 4 (enc x.2))])) 1 ?_; rintro m_1 ⟨i_1, a_2⟩ h _ Q3; rw [q4m] at h; refine sg fun _ Q4 => ?_; refine sM ?_; refine sB h (fun _ h => ?_) fun _ h => ?_
 .
  refine y9 (q8 Q4 (sg fun _ Q6 => ?_)); refine w9 fun _ Q7 => ?_; refine q0c ?_; refine q3v 22 0 0 [0, 0, 0, 6, 0, 0, 0, 96, 0, 0, 0, 1536, 3840, 7936, 0, 0, 0, 98304, 245760, 507904, 1048335, 2096911, 4194303, 8388607] [0] [4, 5, 6, 7] [] [21] [] mixed (by kernel_rfl) (of_decide_eq_true (by kernel_rfl)) (by kernel_rfl) (by kernel_rfl) (by rfl) ?_; obtain ⟨xv_6, F, h⟩ := bI F h; obtain ⟨xv_7, F, h⟩ := bI F h; have rf_4 : (enc a_2).set (Xd (i64.wrap (a_0 + i_1))) [.v (.int .i64 xv_6.Node), .v (.int .i64 xv_6.Epoch), .v (.int .i64 xv_6.Rec.K), .v (.int .i64 xv_6.Rec.V)] = enc (Xc a_2 (Xd (i64.wrap (a_0 + i_1))) xv_6) := by exact qf4 _ _ _
  obtain ⟨xv_8, F, h⟩ := bI F h; have rf_5 : (enc (Xc a_2 (Xd (i64.wrap (a_0 + i_1))) xv_6)).set (Xd (i64.wrap (b_0 + i_1))) [.v (.int .i64 xv_7.Node), .v (.int .i64 xv_7.Epoch), .v (.int .i64 xv_7.Rec.K), .v (.int .i64 xv_7.Rec.V)] = enc (Xc (Xc a_2 (Xd (i64.wrap (a_0 + i_1))) xv_6) (Xd (i64.wrap (b_0 + i_1))) xv_7) := by exact qf4 _ _ _
  simp only [go_sem, rf_4, rf_5, F]; refine ai ?_; refine ai ?_; refine ai ?_; refine ai ?_; refine q06 Q7 (q8 Q6 ?_); simp only [go_sem]; refine u7 Q3 ?_; exact nxC _ h [] leA
 . refine q0q (q1p Q4 (q0r Q3 (q0i Q2 ?_))); simp only [go_sem]; obtain rfl := Xa h; refine q1w [] ?_; exact leA
def q3e (mv_0 : Int) (cmp_0 : GOut -> GOut -> Option Int) (i_2 : Int) (a_3 : List GOut) : Option (List GOut) :=
 q9 (q15 a_3 (i64.wrap (mv_0 - i_2)) mv_0 i_2 cmp_0) (fun v_6 =>
 q03 (v_6.length = a_3.length) (
 some v_6))
def q5k (mv_0 : Int) (cmp_0 : GOut -> GOut -> Option Int) (rec_2 : Int × Int × (List GOut) -> Option (List GOut)) : Int × Int × (List GOut) -> Option (List GOut) :=
 fun (i_4, j_3, a_5) =>
 (if (!(i_4 == j_3)) = true then (if (decide (j_3 < i_4)) = true then q9 (q15 a_5 (i64.wrap (mv_0 - i_4)) mv_0 j_3 cmp_0) (fun v_11 =>
 q03 (v_11.length = a_5.length) (
 rec_2 (i64.wrap (i_4 - j_3), j_3, v_11)))
 else q9 (q15 a_5 (i64.wrap (mv_0 - i_4)) (i64.wrap ((i64.wrap (mv_0 + j_3)) - i_4)) i_4 cmp_0) (fun v_12 =>
 q03 (v_12.length = a_5.length) (
 rec_2 (i_4, i64.wrap (j_3 - i_4), v_12))))
 else q3e mv_0 cmp_0 i_4 a_5)
def q2t (data_0 : List GOut) (a_0 : Int) (mv_0 : Int) (b_0 : Int) (cmp_0 : GOut -> GOut -> Option Int) : Option (List GOut) :=
 q05 (q5k mv_0 cmp_0) rounds (i64.wrap (mv_0 - a_0), i64.wrap (b_0 - mv_0), data_0)
theorem qk5 (data_0 : List GOut) (a_0 : Int) (mv_0 : Int) (b_0 : Int) (cmp_0 : GOut -> GOut -> Option Int) (g_cmp_0 : FuncId) (c_cmp_0 : List AV) (F_cmp_0 : q0f c_cmp_0 = true) (E_cmp_0 : q00 pp g_cmp_0 = true) (H_cmp_0 : ∀ (x0 : GOut) (x1 : GOut) (r : Int), cmp_0 x0 x1 = some r -> PureS pp g_cmp_0 ([.agg (Row.row x0), .agg (Row.row x1)] ++ c_cmp_0) 0 (.v (.int .i64 r))) (r : List GOut) (h : q2t data_0 a_0 mv_0 b_0 cmp_0 = some r) : DetS pp 93 [.osl 0 4 (0) (data_0.length), .v (.int .i64 a_0), .v (.int .i64 mv_0), .v (.int .i64 b_0), .clo g_cmp_0 c_cmp_0] [(0, .arr 4 (enc data_0))] 1 (.tup []) [(0, .arr 4 (enc r))] 1 := by
 refine dtI Tryz.func93 rfl ?_; rw [q2t] at h; have F := trivial; refine sM ?_; refine sM ?_; refine q52 (fun ((i_2, a_3) : Int × (List GOut)) => q3e mv_0 cmp_0 i_2 a_3 = some r) [2, 4] (fun x => ([(0, .osl 0 4 (0) (x.2.length)), (10, .v (.int .i64 x.1))], [(0, .arr 4 (enc x.2))])) 1 ?_ ?_
 .
  intro _ Q3; refine w9 fun _ Q4 => ?_; refine q0x h [2, 4] (fun x => ([(0, .osl 0 4 (0) (x.2.2.length)), (10, .v (.int .i64 x.1)), (11, .v (.int .i64 x.2.1))], [(0, .arr 4 (enc x.2.2))])) 1 ?_; rintro m_2 ⟨i_4, j_3, a_5⟩ h _ Q5; rw [q5k] at h; refine sg fun _ Q6 => ?_; refine sM ?_; refine sB h (fun _ h => ?_) fun _ h => ?_
  .
   refine y9 (q8 Q6 (w9 fun _ Q8 => ?_)); refine sM ?_; refine sB h (fun _ h => ?_) fun _ h => ?_
   . refine sg fun _ Q10 => ?_; obtain ⟨v_11, ev_11, h⟩ := z8 h; simp only [go_sem]; refine q4t [0] (q48 a_5 (i64.wrap (mv_0 - i_4)) mv_0 j_3 cmp_0 g_cmp_0 c_cmp_0 F_cmp_0 E_cmp_0 H_cmp_0 v_11 ev_11) (by simp) (by simp only [q5h, q21, q4w F_cmp_0] <;> rfl) ⟨rfl, trivial⟩ (by simp only [ltL, ltA, q60 F_cmp_0] <;> rfl) rfl rfl rfl ?_; obtain ⟨F, h⟩ := bG F h; simp only [go_sem, F]; refine q8 Q10 ?_; simp only [go_sem]; refine q06 Q8 (u7 Q5 ?_); exact nxC _ h [] leA
   . refine sg fun _ Q11 => ?_; obtain ⟨v_12, ev_12, h⟩ := z8 h; simp only [go_sem]; refine q4t [0] (q48 a_5 (i64.wrap (mv_0 - i_4)) (i64.wrap ((i64.wrap (mv_0 + j_3)) - i_4)) i_4 cmp_0 g_cmp_0 c_cmp_0 F_cmp_0 E_cmp_0 H_cmp_0 v_12 ev_12) (by simp) (by simp only [q5h, q21, q4w F_cmp_0] <;> rfl) ⟨rfl, trivial⟩ (by simp only [ltL, ltA, q60 F_cmp_0] <;> rfl) rfl rfl rfl ?_; obtain ⟨F, h⟩ := bG F h; simp only [go_sem, F]; refine q8 Q11 ?_; simp only [go_sem]; refine q06 Q8 (u7 Q5 ?_); exact nxC _ h [] leA
  . refine q0q (q1p Q6 (q0r Q5 (q0i Q4 (u7 Q3 (⟨(i_4, a_5), [], ?_, h⟩))))); exact leA
 .
  rintro ⟨i_2, a_3⟩ h
  try dsimp only at h
  rw [q3e] at h; obtain ⟨v_6, ev_6, h⟩ := z8 h; simp only [go_sem]; refine q4t [0] (q48 a_3 (i64.wrap (mv_0 - i_2)) mv_0 i_2 cmp_0 g_cmp_0 c_cmp_0 F_cmp_0 E_cmp_0 H_cmp_0 v_6 ev_6) (by simp) (by simp only [q5h, q21, q4w F_cmp_0] <;> rfl) ⟨rfl, trivial⟩ (by simp only [ltL, ltA, q60 F_cmp_0] <;> rfl) rfl rfl rfl ?_; obtain ⟨F, h⟩ := bG F h; simp only [go_sem, F]; obtain rfl := Xa h; refine q1w [] ?_; exact leA
def q3p (a_0 : Int) (cmp_0 : GOut -> GOut -> Option Int) (i_1 : Int) (rec_1 : (Int × (List GOut) -> Option (List GOut))) (rec_2 : Int × (List GOut) -> Option (List GOut)) : Int × (List GOut) -> Option (List GOut) :=
 fun (j_5, a_8) =>
 (if (decide (a_0 < j_5)) = true then q9 (idx a_8 j_5) (fun xv_24 =>
 q9 (idx a_8 (i64.wrap (j_5 - 1))) (fun xv_25 =>
 q9 (cmp_0 xv_24 xv_25) (fun v_8 =>
 (if (decide (v_8 < 0)) = true then q9 (idx (Xc a_8 (j_5.toNat) xv_25) (i64.wrap (j_5 - 1))) (fun xv_26 =>
 rec_2 (i64.wrap (j_5 - 1), (Xc (Xc a_8 (j_5.toNat) xv_25) (Xd (i64.wrap (j_5 - 1))) xv_24)))
 else rec_1 (i64.wrap (i_1 + 1), a_8)))))
 else rec_1 (i64.wrap (i_1 + 1), a_8))
def q3q (a_0 : Int) (b_0 : Int) (cmp_0 : GOut -> GOut -> Option Int) (rec_1 : Int × (List GOut) -> Option (List GOut)) : Int × (List GOut) -> Option (List GOut) :=
 fun (i_1, a_6) =>
 (if (decide (i_1 < b_0)) = true then q05 (q3p a_0 cmp_0 i_1 rec_1) rounds (i_1, a_6)
 else some a_6)
def q0w (data_0 : List GOut) (a_0 : Int) (b_0 : Int) (cmp_0 : GOut -> GOut -> Option Int) : Option (List GOut) :=
 q05 (q3q a_0 b_0 cmp_0) rounds (i64.wrap (a_0 + 1), data_0)
theorem q65 (data_0 : List GOut) (a_0 : Int) (b_0 : Int) (cmp_0 : GOut -> GOut -> Option Int) (g_cmp_0 : FuncId) (c_cmp_0 : List AV) (F_cmp_0 : q0f c_cmp_0 = true) (E_cmp_0 : q00 pp g_cmp_0 = true) (H_cmp_0 : ∀ (x0 : GOut) (x1 : GOut) (r : Int), cmp_0 x0 x1 = some r -> PureS pp g_cmp_0 ([.agg (Row.row x0), .agg (Row.row x1)] ++ c_cmp_0) 0 (.v (.int .i64 r))) (r : List GOut) (h : q0w data_0 a_0 b_0 cmp_0 = some r) : DetS pp 61 [.osl 0 4 (0) (data_0.length), .v (.int .i64 a_0), .v (.int .i64 b_0), .clo g_cmp_0 c_cmp_0] [(0, .arr 4 (enc data_0))] 1 (.tup []) [(0, .arr 4 (enc r))] 1 := by
 refine dtI Tryz.func61 rfl ?_; rw [q0w] at h; have F := trivial; refine sM ?_; refine w9 fun _ Q2 => ?_; refine q0x h [1, 2, 3] (fun x => ([(0, .osl 0 4 (0) (x.2.length)), (8, .v (.int .i64 x.1))], [(0, .arr 4 (enc x.2))])) 1 ?_; rintro m_1 ⟨i_1, a_6⟩ h _ Q3; rw [q3q] at h; refine sg fun _ Q4 => ?_; refine sM ?_; refine sB h (fun _ h => ?_) fun _ h => ?_
 .
  refine y9 (q8 Q4 (jg fun _ Q6 => ?_)); refine w9 fun _ Q7 => ?_; refine sM ?_; refine w9 fun _ Q9 => ?_; refine q0x h [1, 2, 3, 8] (fun x => ([(0, .osl 0 4 (0) (x.2.length)), (9, .v (.int .i64 x.1))], [(0, .arr 4 (enc x.2))])) 1 ?_; rintro m_2 ⟨j_5, a_8⟩ h _ Q10; rw [q3p] at h; refine sg fun _ Q11 => ?_; refine sg fun _ Q12 => ?_; refine q0c ?_; refine jb1 ?_; simp only [go_sem]; rcases hb_19 : (decide (a_0 < j_5)) with _ | _
  . replace h := q2l h hb_19; simp only [go_sem, hb_19]; refine q8 Q12 (jg4 ?_); refine q0q (q1p Q11 (q0r Q10 (q0i Q9 (q06 Q7 (q8 Q6 ?_))))); simp only [go_sem]; refine u7 Q3 ?_; exact nxC _ h [] leA
  .
   replace h := q2k h hb_19; obtain ⟨xv_24, F, h⟩ := bI F h; obtain ⟨xv_25, F, h⟩ := bI F h; obtain ⟨v_8, ev_8, h⟩ := z8 h; simp only [go_sem, hb_19, E_cmp_0, F]; refine ai ?_; refine ai ?_; refine q7w (H_cmp_0 xv_24 xv_25 v_8 ev_8) (by rfl) (by simp [go_sem, q0f, q0k, F_cmp_0]) ?_; simp only [go_sem]; refine q8 Q12 (sB h (fun _ h => ?_) fun _ h => ?_)
   .
    refine y9 (q8 Q11 (sg fun _ Q13 => ?_)); refine w9 fun _ Q14 => ?_; refine q0c ?_; refine q3v 16 0 0 [0, 0, 0, 0, 8, 0, 0, 64, 224, 480, 0, 0, 3072, 7168, 16355, 32739, 65535, 131071] [0] [2, 3, 4] [] [15] [] mixed (by kernel_rfl) (of_decide_eq_true (by kernel_rfl)) (by kernel_rfl) (by kernel_rfl) (by rfl) ?_; have rf_16 : (enc a_8).set (j_5.toNat) [.v (.int .i64 xv_25.Node), .v (.int .i64 xv_25.Epoch), .v (.int .i64 xv_25.Rec.K), .v (.int .i64 xv_25.Rec.V)] = enc (Xc a_8 (j_5.toNat) xv_25) := by exact qf4 _ _ _
    obtain ⟨xv_26, F, h⟩ := bI F h; have rf_17 : (enc (Xc a_8 (j_5.toNat) xv_25)).set (Xd (i64.wrap (j_5 - 1))) [.v (.int .i64 xv_24.Node), .v (.int .i64 xv_24.Epoch), .v (.int .i64 xv_24.Rec.K), .v (.int .i64 xv_24.Rec.V)] = enc (Xc (Xc a_8 (j_5.toNat) xv_25) (Xd (i64.wrap (j_5 - 1))) xv_24) := by exact qf4 _ _ _
    simp only [go_sem, rf_16, rf_17, F]; refine ai ?_; refine ai ?_; refine ai ?_; refine ai ?_; refine q06 Q14 (q8 Q13 ?_); simp only [go_sem]; refine u7 Q10 ?_; exact nxC _ h [] leA
   . refine q0q (q1p Q11 (q0r Q10 (q0i Q9 (q06 Q7 (q8 Q6 ?_))))); simp only [go_sem]; refine u7 Q3 ?_; exact nxC _ h [] leA
 . refine q0q (q1p Q4 (q0r Q3 (q0i Q2 ?_))); simp only [go_sem]; obtain rfl := Xa h; refine q1w [] ?_; exact leA
def q1c (a_0 : Int) (mv_0 : Int) (b_0 : Int) (cmp_0 : GOut -> GOut -> Option Int) (self : (List GOut) -> Int -> Int -> Int -> (GOut -> GOut -> Option Int) -> Option (List GOut)) (start_3 : Int) (a_6 : List GOut) : Option (List GOut) :=
 (if ((decide ((i64.wrap (q29 .u64 (IntKind.u64.wrap (i64.wrap (a_0 + b_0))) 1)) < (i64.wrap ((i64.wrap ((i64.wrap (q29 .u64 (IntKind.u64.wrap (i64.wrap (a_0 + b_0))) 1)) + mv_0)) - start_3)))) && (decide ((i64.wrap ((i64.wrap ((i64.wrap (q29 .u64 (IntKind.u64.wrap (i64.wrap (a_0 + b_0))) 1)) + mv_0)) - start_3)) < b_0))) = true then q9 (self a_6 (i64.wrap (q29 .u64 (IntKind.u64.wrap (i64.wrap (a_0 + b_0))) 1)) (i64.wrap ((i64.wrap ((i64.wrap (q29 .u64 (IntKind.u64.wrap (i64.wrap (a_0 + b_0))) 1)) + mv_0)) - start_3)) b_0 cmp_0) (fun v_17 =>
 q03 (v_17.length = a_6.length) (
 some v_17))
 else some a_6)
def q1d (a_0 : Int) (mv_0 : Int) (b_0 : Int) (cmp_0 : GOut -> GOut -> Option Int) (self : (List GOut) -> Int -> Int -> Int -> (GOut -> GOut -> Option Int) -> Option (List GOut)) (start_3 : Int) (a_5 : List GOut) : Option (List GOut) :=
 (if ((decide (a_0 < start_3)) && (decide (start_3 < (i64.wrap (q29 .u64 (IntKind.u64.wrap (i64.wrap (a_0 + b_0))) 1))))) = true then q9 (self a_5 a_0 start_3 (i64.wrap (q29 .u64 (IntKind.u64.wrap (i64.wrap (a_0 + b_0))) 1)) cmp_0) (fun v_18 =>
 q03 (v_18.length = a_5.length) (
 q1c a_0 mv_0 b_0 cmp_0 self start_3 v_18))
 else q1c a_0 mv_0 b_0 cmp_0 self start_3 a_5)
def q1y (data_0 : List GOut) (a_0 : Int) (mv_0 : Int) (b_0 : Int) (cmp_0 : GOut -> GOut -> Option Int) (self : (List GOut) -> Int -> Int -> Int -> (GOut -> GOut -> Option Int) -> Option (List GOut)) (start_3 : Int) : Option (List GOut) :=
 (if ((decide (start_3 < mv_0)) && (decide (mv_0 < (i64.wrap ((i64.wrap ((i64.wrap (q29 .u64 (IntKind.u64.wrap (i64.wrap (a_0 + b_0))) 1)) + mv_0)) - start_3))))) = true then q9 (q2t data_0 start_3 mv_0 (i64.wrap ((i64.wrap ((i64.wrap (q29 .u64 (IntKind.u64.wrap (i64.wrap (a_0 + b_0))) 1)) + mv_0)) - start_3)) cmp_0) (fun v_19 =>
 q03 (v_19.length = data_0.length) (
 q1d a_0 mv_0 b_0 cmp_0 self start_3 v_19))
 else q1d a_0 mv_0 b_0 cmp_0 self start_3 data_0)
def q4y (data_0 : List GOut) (a_0 : Int) (mv_0 : Int) (b_0 : Int) (cmp_0 : GOut -> GOut -> Option Int) (self : (List GOut) -> Int -> Int -> Int -> (GOut -> GOut -> Option Int) -> Option (List GOut)) (rec_7 : Int × Int -> Option (List GOut)) : Int × Int -> Option (List GOut) :=
 fun (start_5, rv_4) =>
 (if (decide (start_5 < rv_4)) = true then q9 (idx data_0 (i64.wrap ((i64.wrap ((i64.wrap ((i64.wrap (q29 .u64 (IntKind.u64.wrap (i64.wrap (a_0 + b_0))) 1)) + mv_0)) - 1)) - (i64.wrap (q29 .u64 (IntKind.u64.wrap (i64.wrap (start_5 + rv_4))) 1))))) (fun xv_52 =>
 q9 (idx data_0 (i64.wrap (q29 .u64 (IntKind.u64.wrap (i64.wrap (start_5 + rv_4))) 1))) (fun xv_53 =>
 q9 (cmp_0 xv_52 xv_53) (fun v_22 =>
 (if (!(decide (v_22 < 0))) = true then rec_7 (i64.wrap ((i64.wrap (q29 .u64 (IntKind.u64.wrap (i64.wrap (start_5 + rv_4))) 1)) + 1), rv_4)
 else rec_7 (start_5, i64.wrap (q29 .u64 (IntKind.u64.wrap (i64.wrap (start_5 + rv_4))) 1))))))
 else q1y data_0 a_0 mv_0 b_0 cmp_0 self start_5)
def q1e (data_0 : List GOut) (a_0 : Int) (mv_0 : Int) (b_0 : Int) (cmp_0 : GOut -> GOut -> Option Int) (self : (List GOut) -> Int -> Int -> Int -> (GOut -> GOut -> Option Int) -> Option (List GOut)) (start_0 : Int) (rv_0 : Int) : Option (List GOut) :=
 q05 (q4y data_0 a_0 mv_0 b_0 cmp_0 self) rounds (start_0, rv_0)
def q33 (data_0 : List GOut) (a_0 : Int) (mv_0 : Int) (b_0 : Int) (cmp_0 : GOut -> GOut -> Option Int) (self : (List GOut) -> Int -> Int -> Int -> (GOut -> GOut -> Option Int) -> Option (List GOut)) : Option (List GOut) :=
 (if (decide ((i64.wrap (q29 .u64 (IntKind.u64.wrap (i64.wrap (a_0 + b_0))) 1)) < mv_0)) = true then q1e data_0 a_0 mv_0 b_0 cmp_0 self (i64.wrap ((i64.wrap ((i64.wrap (q29 .u64 (IntKind.u64.wrap (i64.wrap (a_0 + b_0))) 1)) + mv_0)) - b_0)) (i64.wrap (q29 .u64 (IntKind.u64.wrap (i64.wrap (a_0 + b_0))) 1))
 else q1e data_0 a_0 mv_0 b_0 cmp_0 self a_0 mv_0)
def q4x (i_12 : Int) (rec_9 : Int × (List GOut) -> Option (List GOut)) : Int × (List GOut) -> Option (List GOut) :=
 fun (k_5, a_8) =>
 (if (decide (i_12 < k_5)) = true then q9 (idx a_8 (i64.wrap (k_5 - 1))) (fun xv_66 =>
 q9 (idx a_8 k_5) (fun xv_67 =>
 q9 (idx (Xc a_8 (k_5.toNat) xv_66) (i64.wrap (k_5 - 1))) (fun xv_68 =>
 rec_9 (i64.wrap (k_5 - 1), (Xc (Xc a_8 (k_5.toNat) xv_66) (Xd (i64.wrap (k_5 - 1))) xv_67)))))
 else some a_8)
def q31 (data_0 : List GOut) (mv_0 : Int) (i_12 : Int) : Option (List GOut) :=
 q05 (q4x i_12) rounds (mv_0, data_0)
def q4l (data_0 : List GOut) (mv_0 : Int) (cmp_0 : GOut -> GOut -> Option Int) (rec_10 : Int × Int -> Option (List GOut)) : Int × Int -> Option (List GOut) :=
 fun (i_14, j_11) =>
 (if (decide (i_14 < j_11)) = true then q9 (idx data_0 mv_0) (fun xv_73 =>
 q9 (idx data_0 (i64.wrap (q29 .u64 (IntKind.u64.wrap (i64.wrap (i_14 + j_11))) 1))) (fun xv_74 =>
 q9 (cmp_0 xv_73 xv_74) (fun v_28 =>
 (if (!(decide (v_28 < 0))) = true then rec_10 (i64.wrap ((i64.wrap (q29 .u64 (IntKind.u64.wrap (i64.wrap (i_14 + j_11))) 1)) + 1), j_11)
 else rec_10 (i_14, i64.wrap (q29 .u64 (IntKind.u64.wrap (i64.wrap (i_14 + j_11))) 1))))))
 else q31 data_0 mv_0 i_14)
def q34 (data_0 : List GOut) (a_0 : Int) (mv_0 : Int) (b_0 : Int) (cmp_0 : GOut -> GOut -> Option Int) (self : (List GOut) -> Int -> Int -> Int -> (GOut -> GOut -> Option Int) -> Option (List GOut)) : Option (List GOut) :=
 (if ((i64.wrap (b_0 - mv_0)) == 1) = true then q05 (q4l data_0 mv_0 cmp_0) rounds (a_0, mv_0)
 else q33 data_0 a_0 mv_0 b_0 cmp_0 self)
def q4k (i_17 : Int) (rec_12 : Int × (List GOut) -> Option (List GOut)) : Int × (List GOut) -> Option (List GOut) :=
 fun (k_7, a_10) =>
 (if (decide (k_7 < (i64.wrap (i_17 - 1)))) = true then q9 (idx a_10 (i64.wrap (k_7 + 1))) (fun xv_87 =>
 q9 (idx a_10 k_7) (fun xv_88 =>
 q9 (idx (Xc a_10 (k_7.toNat) xv_87) (i64.wrap (k_7 + 1))) (fun xv_89 =>
 rec_12 (i64.wrap (k_7 + 1), (Xc (Xc a_10 (k_7.toNat) xv_87) (Xd (i64.wrap (k_7 + 1))) xv_88)))))
 else some a_10)
def q2v (data_0 : List GOut) (a_0 : Int) (i_17 : Int) : Option (List GOut) :=
 q05 (q4k i_17) rounds (a_0, data_0)
def q4j (data_0 : List GOut) (a_0 : Int) (cmp_0 : GOut -> GOut -> Option Int) (rec_13 : Int × Int -> Option (List GOut)) : Int × Int -> Option (List GOut) :=
 fun (i_19, j_15) =>
 (if (decide (i_19 < j_15)) = true then q9 (idx data_0 (i64.wrap (q29 .u64 (IntKind.u64.wrap (i64.wrap (i_19 + j_15))) 1))) (fun xv_94 =>
 q9 (idx data_0 a_0) (fun xv_95 =>
 q9 (cmp_0 xv_94 xv_95) (fun v_34 =>
 (if (decide (v_34 < 0)) = true then rec_13 (i64.wrap ((i64.wrap (q29 .u64 (IntKind.u64.wrap (i64.wrap (i_19 + j_15))) 1)) + 1), j_15)
 else rec_13 (i_19, i64.wrap (q29 .u64 (IntKind.u64.wrap (i64.wrap (i_19 + j_15))) 1))))))
 else q2v data_0 a_0 i_19)
def q23 (self : (List GOut) -> Int -> Int -> Int -> (GOut -> GOut -> Option Int) -> Option (List GOut)) (data_0 : List GOut) (a_0 : Int) (mv_0 : Int) (b_0 : Int) (cmp_0 : GOut -> GOut -> Option Int) : Option (List GOut) :=
 (if ((i64.wrap (mv_0 - a_0)) == 1) = true then q05 (q4j data_0 a_0 cmp_0) rounds (mv_0, b_0)
 else q34 data_0 a_0 mv_0 b_0 cmp_0 self)
def q09 : Nat -> (List GOut) -> Int -> Int -> Int -> (GOut -> GOut -> Option Int) -> Option (List GOut)
 | 0 => fun _ _ _ _ _ => none
 | n + 1 => q23 (q09 n)
def q3n (data_0 : List GOut) (a_0 : Int) (mv_0 : Int) (b_0 : Int) (cmp_0 : GOut -> GOut -> Option Int) : Option (List GOut) := q09 rounds data_0 a_0 mv_0 b_0 cmp_0
theorem qd8 (self : (List GOut) -> Int -> Int -> Int -> (GOut -> GOut -> Option Int) -> Option (List GOut)) (Hself : ∀ (data_0 : List GOut) (a_0 : Int) (mv_0 : Int) (b_0 : Int) (cmp_0 : GOut -> GOut -> Option Int) (g_cmp_0 : FuncId) (c_cmp_0 : List AV) (F_cmp_0 : q0f c_cmp_0 = true) (E_cmp_0 : q00 pp g_cmp_0 = true) (H_cmp_0 : ∀ (x0 : GOut) (x1 : GOut) (r : Int), cmp_0 x0 x1 = some r -> PureS pp g_cmp_0 ([.agg (Row.row x0), .agg (Row.row x1)] ++ c_cmp_0) 0 (.v (.int .i64 r))) (r : List GOut), self data_0 a_0 mv_0 b_0 cmp_0 = some r -> DetS pp 62 [.osl 0 4 (0) (data_0.length), .v (.int .i64 a_0), .v (.int .i64 mv_0), .v (.int .i64 b_0), .clo g_cmp_0 c_cmp_0] [(0, .arr 4 (enc data_0))] 1 (.tup []) [(0, .arr 4 (enc r))] 1) (data_0 : List GOut) (a_0 : Int) (mv_0 : Int) (b_0 : Int) (cmp_0 : GOut -> GOut -> Option Int) (g_cmp_0 : FuncId) (c_cmp_0 : List AV) (F_cmp_0 : q0f c_cmp_0 = true) (E_cmp_0 : q00 pp g_cmp_0 = true) (H_cmp_0 : ∀ (x0 : GOut) (x1 : GOut) (r : Int), cmp_0 x0 x1 = some r -> PureS pp g_cmp_0 ([.agg (Row.row x0), .agg (Row.row x1)] ++ c_cmp_0) 0 (.v (.int .i64 r))) (r : List GOut) (h : q23 self data_0 a_0 mv_0 b_0 cmp_0 = some r) : DetS pp 62 [.osl 0 4 (0) (data_0.length), .v (.int .i64 a_0), .v (.int .i64 mv_0), .v (.int .i64 b_0), .clo g_cmp_0 c_cmp_0] [(0, .arr 4 (enc data_0))] 1 (.tup []) [(0, .arr 4 (enc r))] 1 := by
 refine dtI Tryz.func62 rfl ?_; rw [q23] at h; have F := trivial; refine q52 (fun (_ : Unit) => q34 data_0 a_0 mv_0 b_0 cmp_0 self = some r) [0, 1, 2, 3, 4] (fun _ => ([], [(0, .arr 4 (enc data_0))])) 1 ?_ ?_
 .
  intro _ Q43; refine sM ?_; refine sB h (fun _ h => ?_) fun _ h => ?_
  .
   refine sM ?_; refine sM ?_; refine q52 (fun (i_17 : Int) => q2v data_0 a_0 i_17 = some r) [0, 1] (fun i_17 => ([(10, .v (.int .i64 i_17))], [(0, .arr 4 (enc data_0))])) 1 ?_ ?_
   .
    intro _ Q55; refine w9 fun _ Q56 => ?_; refine q0x h [0, 1, 4] (fun x => ([(10, .v (.int .i64 x.1)), (11, .v (.int .i64 x.2))], [(0, .arr 4 (enc data_0))])) 1 ?_; rintro m_13 ⟨i_19, j_15⟩ h _ Q57; rw [q4j] at h; refine sg fun _ Q58 => ?_; refine sM ?_; refine sB h (fun _ h => ?_) fun _ h => ?_
    .
     refine y9 (q8 Q58 (w9 fun _ Q60 => ?_)); refine sM ?_; refine sg fun _ Q62 => ?_; refine q0c ?_; refine jb1 ?_; obtain ⟨xv_94, F, h⟩ := bI F h; obtain ⟨xv_95, F, h⟩ := bI F h; obtain ⟨v_34, ev_34, h⟩ := z8 h; simp only [go_sem, E_cmp_0, F]; refine ai ?_; refine ai ?_; refine q7w (H_cmp_0 xv_94 xv_95 v_34 ev_34) (by rfl) (by simp [go_sem, q0f, q0k, F_cmp_0]) ?_; simp only [go_sem]; refine q8 Q62 (sB h (fun _ h => ?_) fun _ h => ?_)
     . simp only [go_sem]; refine q06 Q60 (u7 Q57 ?_); exact nxC _ h [] leA
     . simp only [go_sem]; refine q06 Q60 (u7 Q57 ?_); exact nxC _ h [] leA
    . refine q0q (q1p Q58 (q0r Q57 (q0i Q56 (u7 Q55 (⟨i_19, [], ?_, h⟩))))); exact leA
   .
    rintro i_17 h
    try dsimp only at h
    rw [q2v] at h; refine jg fun _ Q47 => ?_; refine sM ?_; refine w9 fun _ Q49 => ?_; refine q0x h [10] (fun x => ([(0, .osl 0 4 (0) (x.2.length)), (13, .v (.int .i64 x.1))], [(0, .arr 4 (enc x.2))])) 1 ?_; rintro m_12 ⟨k_7, a_10⟩ h _ Q50; rw [q4k] at h; refine sg fun _ Q51 => ?_; refine sM ?_; refine sB h (fun _ h => ?_) fun _ h => ?_
    .
     refine y9 (q8 Q51 (sg fun _ Q53 => ?_)); refine w9 fun _ Q54 => ?_; refine q0c ?_; refine q3v 16 0 0 [0, 0, 0, 0, 8, 0, 0, 64, 224, 480, 0, 0, 3072, 7168, 16355, 32739, 65535, 131071] [0] [2, 3, 4] [] [15] [] mixed (by kernel_rfl) (of_decide_eq_true (by kernel_rfl)) (by kernel_rfl) (by kernel_rfl) (by rfl) ?_; obtain ⟨xv_87, F, h⟩ := bI F h; obtain ⟨xv_88, F, h⟩ := bI F h; have rf_22 : (enc a_10).set (k_7.toNat) [.v (.int .i64 xv_87.Node), .v (.int .i64 xv_87.Epoch), .v (.int .i64 xv_87.Rec.K), .v (.int .i64 xv_87.Rec.V)] = enc (Xc a_10 (k_7.toNat) xv_87) := by exact qf4 _ _ _
     obtain ⟨xv_89, F, h⟩ := bI F h; have rf_23 : (enc (Xc a_10 (k_7.toNat) xv_87)).set (Xd (i64.wrap (k_7 + 1))) [.v (.int .i64 xv_88.Node), .v (.int .i64 xv_88.Epoch), .v (.int .i64 xv_88.Rec.K), .v (.int .i64 xv_88.Rec.V)] = enc (Xc (Xc a_10 (k_7.toNat) xv_87) (Xd (i64.wrap (k_7 + 1))) xv_88) := by exact qf4 _ _ _
     simp only [go_sem, rf_22, rf_23, F]; refine ai ?_; refine ai ?_; refine ai ?_; refine ai ?_; refine q06 Q54 (q8 Q53 ?_); simp only [go_sem]; refine u7 Q50 ?_; exact nxC _ h [] leA
    . refine q0q (q1p Q51 (q0r Q50 (q0i Q49 (q8 Q47 (q02 (q2b Q43 ?_)))))); simp only [go_sem]; obtain rfl := Xa h; refine q1w [] ?_; exact leA
  . refine y9 (u7 Q43 (⟨(), [], ?_, h⟩)); exact leA
 .
  rintro ⟨⟩ h
  try dsimp only at h
  rw [q34] at h; refine q52 (fun (_ : Unit) => q33 data_0 a_0 mv_0 b_0 cmp_0 self = some r) [0, 1, 2, 3, 4] (fun _ => ([], [(0, .arr 4 (enc data_0))])) 1 ?_ ?_
  .
   intro _ Q23; refine sM ?_; refine sB h (fun _ h => ?_) fun _ h => ?_
   .
    refine sM ?_; refine sM ?_; refine q52 (fun (i_12 : Int) => q31 data_0 mv_0 i_12 = some r) [0, 2] (fun i_12 => ([(14, .v (.int .i64 i_12))], [(0, .arr 4 (enc data_0))])) 1 ?_ ?_
    .
     intro _ Q35; refine w9 fun _ Q36 => ?_; refine q0x h [0, 2, 4] (fun x => ([(14, .v (.int .i64 x.1)), (15, .v (.int .i64 x.2))], [(0, .arr 4 (enc data_0))])) 1 ?_; rintro m_10 ⟨i_14, j_11⟩ h _ Q37; rw [q4l] at h; refine sg fun _ Q38 => ?_; refine sM ?_; refine sB h (fun _ h => ?_) fun _ h => ?_
     .
      refine y9 (q8 Q38 (w9 fun _ Q40 => ?_)); refine sM ?_; refine sg fun _ Q42 => ?_; refine q0c ?_; refine jb1 ?_; obtain ⟨xv_73, F, h⟩ := bI F h; obtain ⟨xv_74, F, h⟩ := bI F h; obtain ⟨v_28, ev_28, h⟩ := z8 h; simp only [go_sem, E_cmp_0, F]; refine ai ?_; refine ai ?_; refine q7w (H_cmp_0 xv_73 xv_74 v_28 ev_28) (by rfl) (by simp [go_sem, q0f, q0k, F_cmp_0]) ?_; simp only [go_sem]; refine q8 Q42 (sB h (fun _ h => ?_) fun _ h => ?_)
      . simp only [go_sem]; refine q06 Q40 (u7 Q37 ?_); exact nxC _ h [] leA
      . simp only [go_sem]; refine q06 Q40 (u7 Q37 ?_); exact nxC _ h [] leA
     . refine q0q (q1p Q38 (q0r Q37 (q0i Q36 (u7 Q35 (⟨i_14, [], ?_, h⟩))))); exact leA
    .
     rintro i_12 h
     try dsimp only at h
     rw [q31] at h; refine jg fun _ Q27 => ?_; refine sM ?_; refine w9 fun _ Q29 => ?_; refine q0x h [14] (fun x => ([(0, .osl 0 4 (0) (x.2.length)), (17, .v (.int .i64 x.1))], [(0, .arr 4 (enc x.2))])) 1 ?_; rintro m_9 ⟨k_5, a_8⟩ h _ Q30; rw [q4x] at h; refine sg fun _ Q31 => ?_; refine sM ?_; refine sB h (fun _ h => ?_) fun _ h => ?_
     .
      refine y9 (q8 Q31 (sg fun _ Q33 => ?_)); refine w9 fun _ Q34 => ?_; refine q0c ?_; refine q3v 16 0 0 [0, 0, 0, 0, 8, 0, 0, 64, 224, 480, 0, 0, 3072, 7168, 16355, 32739, 65535, 131071] [0] [2, 3, 4] [] [15] [] mixed (by kernel_rfl) (of_decide_eq_true (by kernel_rfl)) (by kernel_rfl) (by kernel_rfl) (by rfl) ?_; obtain ⟨xv_66, F, h⟩ := bI F h; obtain ⟨xv_67, F, h⟩ := bI F h; have rf_16 : (enc a_8).set (k_5.toNat) [.v (.int .i64 xv_66.Node), .v (.int .i64 xv_66.Epoch), .v (.int .i64 xv_66.Rec.K), .v (.int .i64 xv_66.Rec.V)] = enc (Xc a_8 (k_5.toNat) xv_66) := by exact qf4 _ _ _
      obtain ⟨xv_68, F, h⟩ := bI F h; have rf_17 : (enc (Xc a_8 (k_5.toNat) xv_66)).set (Xd (i64.wrap (k_5 - 1))) [.v (.int .i64 xv_67.Node), .v (.int .i64 xv_67.Epoch), .v (.int .i64 xv_67.Rec.K), .v (.int .i64 xv_67.Rec.V)] = enc (Xc (Xc a_8 (k_5.toNat) xv_66) (Xd (i64.wrap (k_5 - 1))) xv_67) := by exact qf4 _ _ _
      simp only [go_sem, rf_16, rf_17, F]; refine ai ?_; refine ai ?_; refine ai ?_; refine ai ?_; refine q06 Q34 (q8 Q33 ?_); simp only [go_sem]; refine u7 Q30 ?_; exact nxC _ h [] leA
     . refine q0q (q1p Q31 (q0r Q30 (q0i Q29 (q8 Q27 (q02 (q2b Q23 ?_)))))); simp only [go_sem]; obtain rfl := Xa h; refine q1w [] ?_; exact leA
   . refine y9 (u7 Q23 (⟨(), [], ?_, h⟩)); exact leA
  .
   rintro ⟨⟩ h
   try dsimp only at h
   rw [q33] at h; refine sM ?_; refine sM ?_; refine sM ?_; refine q52 (fun ((start_0, rv_0) : Int × Int) => q1e data_0 a_0 mv_0 b_0 cmp_0 self start_0 rv_0 = some r) [0, 1, 2, 3, 4, 18, 19] (fun x => ([(20, .v (.int .i64 x.1)), (21, .v (.int .i64 x.2))], [(0, .arr 4 (enc data_0))])) 1 ?_ ?_
   .
    intro _ Q19; refine sM ?_; refine sB h (fun _ h => ?_) fun _ h => ?_
    . refine sM ?_; simp only [go_sem]; refine u7 Q19 (⟨(i64.wrap ((i64.wrap ((i64.wrap (q29 .u64 (IntKind.u64.wrap (i64.wrap (a_0 + b_0))) 1)) + mv_0)) - b_0), i64.wrap (q29 .u64 (IntKind.u64.wrap (i64.wrap (a_0 + b_0))) 1)), [], ?_, h⟩); exact leA
    . refine sM ?_; simp only [go_sem]; refine u7 Q19 (⟨(a_0, mv_0), [], ?_, h⟩); exact leA
   .
    rintro ⟨start_0, rv_0⟩ h
    try dsimp only at h
    rw [q1e] at h; refine sM ?_; refine q52 (fun (start_3 : Int) => q1y data_0 a_0 mv_0 b_0 cmp_0 self start_3 = some r) [0, 1, 2, 3, 4, 18, 19] (fun start_3 => ([(20, .v (.int .i64 start_3))], [(0, .arr 4 (enc data_0))])) 1 ?_ ?_
    .
     intro _ Q11; refine w9 fun _ Q12 => ?_; refine q0x h [0, 1, 2, 3, 4, 18, 19, 22] (fun x => ([(20, .v (.int .i64 x.1)), (21, .v (.int .i64 x.2))], [(0, .arr 4 (enc data_0))])) 1 ?_; rintro m_7 ⟨start_5, rv_4⟩ h _ Q13; rw [q4y] at h; refine sg fun _ Q14 => ?_; refine sM ?_; refine sB h (fun _ h => ?_) fun _ h => ?_
     .
      refine y9 (q8 Q14 (w9 fun _ Q16 => ?_)); refine sM ?_; refine sg fun _ Q18 => ?_; refine q0c ?_; refine jb1 ?_; obtain ⟨xv_52, F, h⟩ := bI F h; obtain ⟨xv_53, F, h⟩ := bI F h; obtain ⟨v_22, ev_22, h⟩ := z8 h; simp only [go_sem, E_cmp_0, F]; refine ai ?_; refine ai ?_; refine q7w (H_cmp_0 xv_52 xv_53 v_22 ev_22) (by rfl) (by simp [go_sem, q0f, q0k, F_cmp_0]) ?_; simp only [go_sem]; refine q8 Q18 (sB h (fun _ h => ?_) fun _ h => ?_)
      . simp only [go_sem]; refine q06 Q16 (u7 Q13 ?_); exact nxC _ h [] leA
      . simp only [go_sem]; refine q06 Q16 (u7 Q13 ?_); exact nxC _ h [] leA
     . refine q0q (q1p Q14 (q0r Q13 (q0i Q12 (u7 Q11 (⟨start_5, [], ?_, h⟩))))); exact leA
    .
     rintro start_3 h
     try dsimp only at h
     rw [q1y] at h; refine sM ?_; refine q52 (fun (a_5 : (List GOut)) => q1d a_0 mv_0 b_0 cmp_0 self start_3 a_5 = some r) [1, 3, 4, 18, 20, 24] (fun a_5 => ([(0, .osl 0 4 (0) (a_5.length))], [(0, .arr 4 (enc a_5))])) 1 ?_ ?_
     .
      intro _ Q9; refine sM ?_; refine sB h (fun _ h => ?_) fun _ h => ?_
      . obtain ⟨v_19, ev_19, h⟩ := z8 h; simp only [go_sem]; refine q4t [0] (qk5 data_0 start_3 mv_0 (i64.wrap ((i64.wrap ((i64.wrap (q29 .u64 (IntKind.u64.wrap (i64.wrap (a_0 + b_0))) 1)) + mv_0)) - start_3)) cmp_0 g_cmp_0 c_cmp_0 F_cmp_0 E_cmp_0 H_cmp_0 v_19 ev_19) (by simp) (by simp only [q5h, q21, q4w F_cmp_0] <;> rfl) ⟨rfl, trivial⟩ (by simp only [ltL, ltA, q60 F_cmp_0] <;> rfl) rfl rfl rfl ?_; obtain ⟨F, h⟩ := bG F h; simp only [go_sem, F]; refine u7 Q9 (⟨v_19, [], ?_, h⟩); exact leA
      . refine y9 (u7 Q9 (⟨data_0, [], ?_, h⟩)); exact leA
     .
      rintro a_5 h
      try dsimp only at h
      rw [q1d] at h; refine q52 (fun (a_6 : (List GOut)) => q1c a_0 mv_0 b_0 cmp_0 self start_3 a_6 = some r) [3, 4, 18, 24] (fun a_6 => ([(0, .osl 0 4 (0) (a_6.length))], [(0, .arr 4 (enc a_6))])) 1 ?_ ?_
      .
       intro _ Q7; refine sM ?_; refine sB h (fun _ h => ?_) fun _ h => ?_
       . obtain ⟨v_18, ev_18, h⟩ := z8 h; simp only [go_sem]; refine q4t [0] (Hself a_5 a_0 start_3 (i64.wrap (q29 .u64 (IntKind.u64.wrap (i64.wrap (a_0 + b_0))) 1)) cmp_0 g_cmp_0 c_cmp_0 F_cmp_0 E_cmp_0 H_cmp_0 v_18 ev_18) (by simp) (by simp only [q5h, q21, q4w F_cmp_0] <;> rfl) ⟨rfl, trivial⟩ (by simp only [ltL, ltA, q60 F_cmp_0] <;> rfl) rfl rfl rfl ?_; obtain ⟨F, h⟩ := bG F h; simp only [go_sem, F]; refine u7 Q7 (⟨v_18, [], ?_, h⟩); exact leA
       . refine y9 (u7 Q7 (⟨a_5, [], ?_, h⟩)); exact leA
      .
       rintro a_6 h
       try dsimp only at h
       rw [q1c] at h; refine sM ?_; refine sB h (fun _ h => ?_) fun _ h => ?_
       . obtain ⟨v_17, ev_17, h⟩ := z8 h; simp only [go_sem]; refine q4t [0] (Hself a_6 (i64.wrap (q29 .u64 (IntKind.u64.wrap (i64.wrap (a_0 + b_0))) 1)) (i64.wrap ((i64.wrap ((i64.wrap (q29 .u64 (IntKind.u64.wrap (i64.wrap (a_0 + b_0))) 1)) + mv_0)) - start_3)) b_0 cmp_0 g_cmp_0 c_cmp_0 F_cmp_0 E_cmp_0 H_cmp_0 v_17 ev_17) (by simp) (by simp only [q5h, q21, q4w F_cmp_0] <;> rfl) ⟨rfl, trivial⟩ (by simp only [ltL, ltA, q60 F_cmp_0] <;> rfl) rfl rfl rfl ?_; obtain ⟨F, h⟩ := bG F h; simp only [go_sem, F]; obtain rfl := Xa h; refine q1w [] ?_; exact leA
       . refine y9 ?_; simp only [go_sem]; obtain rfl := Xa h; refine q1w [] ?_; exact leA
theorem q6k : ∀ (n : Nat) (data_0 : List GOut) (a_0 : Int) (mv_0 : Int) (b_0 : Int) (cmp_0 : GOut -> GOut -> Option Int) (g_cmp_0 : FuncId) (c_cmp_0 : List AV) (F_cmp_0 : q0f c_cmp_0 = true) (E_cmp_0 : q00 pp g_cmp_0 = true) (H_cmp_0 : ∀ (x0 : GOut) (x1 : GOut) (r : Int), cmp_0 x0 x1 = some r -> PureS pp g_cmp_0 ([.agg (Row.row x0), .agg (Row.row x1)] ++ c_cmp_0) 0 (.v (.int .i64 r))) (r : List GOut), q09 n data_0 a_0 mv_0 b_0 cmp_0 = some r -> DetS pp 62 [.osl 0 4 (0) (data_0.length), .v (.int .i64 a_0), .v (.int .i64 mv_0), .v (.int .i64 b_0), .clo g_cmp_0 c_cmp_0] [(0, .arr 4 (enc data_0))] 1 (.tup []) [(0, .arr 4 (enc r))] 1
  | 0, data_0, a_0, mv_0, b_0, cmp_0, g_cmp_0, c_cmp_0, F_cmp_0, E_cmp_0, H_cmp_0, r, h => by simp [q09] at h
  | n + 1, data_0, a_0, mv_0, b_0, cmp_0, g_cmp_0, c_cmp_0, F_cmp_0, E_cmp_0, H_cmp_0, r, h => qd8 (q09 n) (q6k n) data_0 a_0 mv_0 b_0 cmp_0 g_cmp_0 c_cmp_0 F_cmp_0 E_cmp_0 H_cmp_0 r h
theorem q6v (data_0 : List GOut) (a_0 : Int) (mv_0 : Int) (b_0 : Int) (cmp_0 : GOut -> GOut -> Option Int) (g_cmp_0 : FuncId) (c_cmp_0 : List AV) (F_cmp_0 : q0f c_cmp_0 = true) (E_cmp_0 : q00 pp g_cmp_0 = true) (H_cmp_0 : ∀ (x0 : GOut) (x1 : GOut) (r : Int), cmp_0 x0 x1 = some r -> PureS pp g_cmp_0 ([.agg (Row.row x0), .agg (Row.row x1)] ++ c_cmp_0) 0 (.v (.int .i64 r))) (r : List GOut) (h : q3n data_0 a_0 mv_0 b_0 cmp_0 = some r) : DetS pp 62 [.osl 0 4 (0) (data_0.length), .v (.int .i64 a_0), .v (.int .i64 mv_0), .v (.int .i64 b_0), .clo g_cmp_0 c_cmp_0] [(0, .arr 4 (enc data_0))] 1 (.tup []) [(0, .arr 4 (enc r))] 1 := q6k rounds data_0 a_0 mv_0 b_0 cmp_0 g_cmp_0 c_cmp_0 F_cmp_0 E_cmp_0 H_cmp_0 r h
def q3b (nv_0 : Int) (cmp_0 : GOut -> GOut -> Option Int) (blockSize_1 : Int) (rec_2 : (Int × (List GOut) -> Option (List GOut))) (a_32 : Int) (a_33 : List GOut) : Option (List GOut) :=
 (if (decide ((i64.wrap (a_32 + blockSize_1)) < nv_0)) = true then q9 (q3n a_33 a_32 (i64.wrap (a_32 + blockSize_1)) nv_0 cmp_0) (fun v_21 =>
 q03 (v_21.length = a_33.length) (
 rec_2 (i64.wrap (blockSize_1 * 2), v_21)))
 else rec_2 (i64.wrap (blockSize_1 * 2), a_33))
def q5j (nv_0 : Int) (cmp_0 : GOut -> GOut -> Option Int) (blockSize_1 : Int) (rec_2 : (Int × (List GOut) -> Option (List GOut))) (rec_4 : Int × Int × (List GOut) -> Option (List GOut)) : Int × Int × (List GOut) -> Option (List GOut) :=
 fun (a_36, b_13, a_37) =>
 (if (decide (b_13 <= nv_0)) = true then q9 (q3n a_37 a_36 (i64.wrap (a_36 + blockSize_1)) b_13 cmp_0) (fun v_24 =>
 q03 (v_24.length = a_37.length) (
 rec_4 (b_13, i64.wrap (b_13 + (i64.wrap (2 * blockSize_1))), v_24)))
 else q3b nv_0 cmp_0 blockSize_1 rec_2 a_36 a_37)
def q3d (nv_0 : Int) (cmp_0 : GOut -> GOut -> Option Int) (rec_2 : Int × (List GOut) -> Option (List GOut)) : Int × (List GOut) -> Option (List GOut) :=
 fun (blockSize_1, a_27) =>
 (if (decide (blockSize_1 < nv_0)) = true then q05 (q5j nv_0 cmp_0 blockSize_1 rec_2) rounds (0, i64.wrap (2 * blockSize_1), a_27)
 else some a_27)
def q3c (nv_0 : Int) (cmp_0 : GOut -> GOut -> Option Int) (a_4 : Int) (a_5 : List GOut) : Option (List GOut) :=
 q9 (q0w a_5 a_4 nv_0 cmp_0) (fun v_3 =>
 q03 (v_3.length = a_5.length) (
 q05 (q3d nv_0 cmp_0) rounds (20, v_3)))
def q5i (nv_0 : Int) (cmp_0 : GOut -> GOut -> Option Int) (rec_5 : Int × Int × (List GOut) -> Option (List GOut)) : Int × Int × (List GOut) -> Option (List GOut) :=
 fun (a_40, b_15, a_41) =>
 (if (decide (b_15 <= nv_0)) = true then q9 (q0w a_41 a_40 b_15 cmp_0) (fun v_27 =>
 q03 (v_27.length = a_41.length) (
 rec_5 (b_15, i64.wrap (b_15 + 20), v_27)))
 else q3c nv_0 cmp_0 a_40 a_41)
def q45 (data_0 : List GOut) (nv_0 : Int) (cmp_0 : GOut -> GOut -> Option Int) : Option (List GOut) :=
 q05 (q5i nv_0 cmp_0) rounds (0, 20, data_0)
theorem qk4 (data_0 : List GOut) (nv_0 : Int) (cmp_0 : GOut -> GOut -> Option Int) (g_cmp_0 : FuncId) (c_cmp_0 : List AV) (F_cmp_0 : q0f c_cmp_0 = true) (E_cmp_0 : q00 pp g_cmp_0 = true) (H_cmp_0 : ∀ (x0 : GOut) (x1 : GOut) (r : Int), cmp_0 x0 x1 = some r -> PureS pp g_cmp_0 ([.agg (Row.row x0), .agg (Row.row x1)] ++ c_cmp_0) 0 (.v (.int .i64 r))) (r : List GOut) (h : q45 data_0 nv_0 cmp_0 = some r) : DetS pp 33 [.osl 0 4 (0) (data_0.length), .v (.int .i64 nv_0), .clo g_cmp_0 c_cmp_0] [(0, .arr 4 (enc data_0))] 1 (.tup []) [(0, .arr 4 (enc r))] 1 := by
 refine dtI Tryz.func33 rfl ?_; rw [q45] at h; have F := trivial; refine sM ?_; refine sM ?_; refine q52 (fun ((a_4, a_5) : Int × (List GOut)) => q3c nv_0 cmp_0 a_4 a_5 = some r) [1, 2, 6] (fun x => ([(0, .osl 0 4 (0) (x.2.length)), (7, .v (.int .i64 x.1))], [(0, .arr 4 (enc x.2))])) 1 ?_ ?_
 .
  intro _ Q21; refine w9 fun _ Q22 => ?_; refine q0x h [1, 2, 6] (fun x => ([(0, .osl 0 4 (0) (x.2.2.length)), (7, .v (.int .i64 x.1)), (8, .v (.int .i64 x.2.1))], [(0, .arr 4 (enc x.2.2))])) 1 ?_; rintro m_5 ⟨a_40, b_15, a_41⟩ h _ Q23; rw [q5i] at h; refine sg fun _ Q24 => ?_; refine sM ?_; refine sB h (fun _ h => ?_) fun _ h => ?_
  . refine y9 (q8 Q24 (w9 fun _ Q26 => ?_)); refine sg fun _ Q27 => ?_; obtain ⟨v_27, ev_27, h⟩ := z8 h; simp only [go_sem]; refine q4t [0] (q65 a_41 a_40 b_15 cmp_0 g_cmp_0 c_cmp_0 F_cmp_0 E_cmp_0 H_cmp_0 v_27 ev_27) (by simp) (by simp only [q5h, q21, q4w F_cmp_0] <;> rfl) ⟨rfl, trivial⟩ (by simp only [ltL, ltA, q60 F_cmp_0] <;> rfl) rfl rfl rfl ?_; obtain ⟨F, h⟩ := bG F h; simp only [go_sem, F]; refine q8 Q27 (sM ?_); simp only [go_sem]; refine q06 Q26 (u7 Q23 ?_); exact nxC _ h [] leA
  . refine q0q (q1p Q24 (q0r Q23 (q0i Q22 (u7 Q21 (⟨(a_40, a_41), [], ?_, h⟩))))); exact leA
 .
  rintro ⟨a_4, a_5⟩ h
  try dsimp only at h
  rw [q3c] at h; refine sg fun _ Q3 => ?_; obtain ⟨v_3, ev_3, h⟩ := z8 h; simp only [go_sem]; refine q4t [0] (q65 a_5 a_4 nv_0 cmp_0 g_cmp_0 c_cmp_0 F_cmp_0 E_cmp_0 H_cmp_0 v_3 ev_3) (by simp) (by simp only [q5h, q21, q4w F_cmp_0] <;> rfl) ⟨rfl, trivial⟩ (by simp only [ltL, ltA, q60 F_cmp_0] <;> rfl) rfl rfl rfl ?_; obtain ⟨F, h⟩ := bG F h; simp only [go_sem, F]; refine q8 Q3 (w9 fun _ Q4 => ?_); refine q0x h [1, 2] (fun x => ([(0, .osl 0 4 (0) (x.2.length)), (6, .v (.int .i64 x.1))], [(0, .arr 4 (enc x.2))])) 1 ?_; rintro m_2 ⟨blockSize_1, a_27⟩ h _ Q5; rw [q3d] at h; refine sg fun _ Q6 => ?_; refine sM ?_; refine sB h (fun _ h => ?_) fun _ h => ?_
  .
   refine y9 (q8 Q6 (w9 fun _ Q8 => ?_)); refine sM ?_; refine q52 (fun ((a_32, a_33) : Int × (List GOut)) => q3b nv_0 cmp_0 blockSize_1 (q05 (q3d nv_0 cmp_0) m_2) a_32 a_33 = some r) [1, 2, 6] (fun x => ([(0, .osl 0 4 (0) (x.2.length)), (7, .v (.int .i64 x.1))], [(0, .arr 4 (enc x.2))])) 1 ?_ ?_
   .
    intro _ Q13; refine w9 fun _ Q14 => ?_; refine q0x h [1, 2, 6] (fun x => ([(0, .osl 0 4 (0) (x.2.2.length)), (7, .v (.int .i64 x.1)), (8, .v (.int .i64 x.2.1))], [(0, .arr 4 (enc x.2.2))])) 1 ?_; rintro m_4 ⟨a_36, b_13, a_37⟩ h _ Q15; rw [q5j] at h; refine sg fun _ Q16 => ?_; refine sM ?_; refine sB h (fun _ h => ?_) fun _ h => ?_
    . refine y9 (q8 Q16 (w9 fun _ Q18 => ?_)); refine sg fun _ Q19 => ?_; obtain ⟨v_24, ev_24, h⟩ := z8 h; simp only [go_sem]; refine q4t [0] (q6v a_37 a_36 (i64.wrap (a_36 + blockSize_1)) b_13 cmp_0 g_cmp_0 c_cmp_0 F_cmp_0 E_cmp_0 H_cmp_0 v_24 ev_24) (by simp) (by simp only [q5h, q21, q4w F_cmp_0] <;> rfl) ⟨rfl, trivial⟩ (by simp only [ltL, ltA, q60 F_cmp_0] <;> rfl) rfl rfl rfl ?_; obtain ⟨F, h⟩ := bG F h; simp only [go_sem, F]; refine q8 Q19 (sM ?_); simp only [go_sem]; refine q06 Q18 (u7 Q15 ?_); exact nxC _ h [] leA
    . refine q0q (q1p Q16 (q0r Q15 (q0i Q14 (u7 Q13 (⟨(a_36, a_37), [], ?_, h⟩))))); exact leA
   .
    rintro ⟨a_32, a_33⟩ h
    try dsimp only at h
    rw [q3b] at h; refine jg fun _ Q10 => ?_; refine sM ?_; refine sM ?_; refine sB h (fun _ h => ?_) fun _ h => ?_
    . obtain ⟨v_21, ev_21, h⟩ := z8 h; simp only [go_sem]; refine q4t [0] (q6v a_33 a_32 (i64.wrap (a_32 + blockSize_1)) nv_0 cmp_0 g_cmp_0 c_cmp_0 F_cmp_0 E_cmp_0 H_cmp_0 v_21 ev_21) (by simp) (by simp only [q5h, q21, q4w F_cmp_0] <;> rfl) ⟨rfl, trivial⟩ (by simp only [ltL, ltA, q60 F_cmp_0] <;> rfl) rfl rfl rfl ?_; obtain ⟨F, h⟩ := bG F h; simp only [go_sem, F]; refine q8 Q10 ?_; simp only [go_sem]; refine q06 Q8 (u7 Q5 ?_); exact nxC _ h [] leA
    . refine y9 (q8 Q10 ?_); simp only [go_sem]; refine q06 Q8 (u7 Q5 ?_); exact nxC _ h [] leA
  . refine q0q (q1p Q6 (q0r Q5 (q0i Q4 ?_))); simp only [go_sem]; obtain rfl := Xa h; refine q1w [] ?_; exact leA
def q19 (xv_0 : List GOut) (cmp_0 : GOut -> GOut -> Option Int) : Option (List GOut) :=
 q9 (q45 xv_0 (xv_0.length : Int) cmp_0) (fun v_0 =>
 q03 (v_0.length = xv_0.length) (
 some v_0))
theorem qi2 (xv_0 : List GOut) (cmp_0 : GOut -> GOut -> Option Int) (g_cmp_0 : FuncId) (c_cmp_0 : List AV) (F_cmp_0 : q0f c_cmp_0 = true) (E_cmp_0 : q00 pp g_cmp_0 = true) (H_cmp_0 : ∀ (x0 : GOut) (x1 : GOut) (r : Int), cmp_0 x0 x1 = some r -> PureS pp g_cmp_0 ([.agg (Row.row x0), .agg (Row.row x1)] ++ c_cmp_0) 0 (.v (.int .i64 r))) (r : List GOut) (h : q19 xv_0 cmp_0 = some r) : DetS pp 20 [.osl 0 4 (0) (xv_0.length), .clo g_cmp_0 c_cmp_0] [(0, .arr 4 (enc xv_0))] 1 (.tup []) [(0, .arr 4 (enc r))] 1 := by
 refine dtI Tryz.func20 rfl ?_; rw [q19] at h; have F := trivial; obtain ⟨v_0, ev_0, h⟩ := z8 h; simp only [go_sem]; refine q4t [0] (qk4 xv_0 (xv_0.length : Int) cmp_0 g_cmp_0 c_cmp_0 F_cmp_0 E_cmp_0 H_cmp_0 v_0 ev_0) (by simp) (by simp only [q5h, q21, q4w F_cmp_0] <;> rfl) ⟨rfl, trivial⟩ (by simp only [ltL, ltA, q60 F_cmp_0] <;> rfl) rfl rfl rfl ?_; obtain ⟨F, h⟩ := bG F h; simp only [go_sem, F]; obtain rfl := Xa h; refine q1w [] ?_; exact leA
def qe0 (s_0 : List GFeed) (f_0 : GFeed -> Option Bool) (rec_1 : Int -> Option Int) : Int -> Option Int :=
 fun t8_1 =>
 (if (decide (t8_1 < (s_0.length : Int))) = true then q9 (idx s_0 t8_1) (fun xv_2 =>
 q9 (f_0 xv_2) (fun v_2 =>
 (if v_2 = true then some t8_1
 else rec_1 (i64.wrap (t8_1 + 1)))))
 else some (-1))
def q8p (s_0 : List GFeed) (f_0 : GFeed -> Option Bool) : Option Int :=
 q05 (qe0 s_0 f_0) rounds 0
theorem qx3 (s_0 : List GFeed) (f_0 : GFeed -> Option Bool) (g_f_0 : FuncId) (c_f_0 : List AV) (F_f_0 : q0f c_f_0 = true) (E_f_0 : q00 pp g_f_0 = true) (H_f_0 : ∀ (x0 : GFeed) (r : Bool), f_0 x0 = some r -> PureS pp g_f_0 ([.agg (Row.row x0)] ++ c_f_0) 0 (.v (.bool r))) (r : Int) (h : q8p s_0 f_0 = some r) : PureS pp 40 [.sl 4 (enc s_0), .clo g_f_0 c_f_0] 0 (.v (.int .i64 r)) := by
 refine ptI Tryz.func40 rfl ?_; rw [q8p] at h; have F := trivial; refine sM ?_; refine jg fun _ Q2 => ?_; refine sM ?_; refine w9 fun _ Q4 => ?_; refine q0x h [0, 1, 7] (fun t8_1 => ([(8, .v (.int .i64 t8_1))], [])) 0 ?_; rintro m_1 t8_1 h _ Q5; rw [qe0] at h; refine sM ?_; refine sg fun _ Q7 => ?_; refine sB h (fun _ h => ?_) fun _ h => ?_
 .
  refine y9 (q8 Q7 (sg fun _ Q8 => ?_)); refine w9 fun _ Q9 => ?_; refine sM ?_; refine sg fun _ Q11 => ?_; obtain ⟨xv_2, F, h⟩ := bI F h; obtain ⟨v_2, ev_2, h⟩ := z8 h; simp only [go_sem, E_f_0, F]; refine ai ?_; refine q7w (H_f_0 xv_2 v_2 ev_2) (by rfl) (by simp [go_sem, q0f, q0k, F_f_0]) ?_; simp only [go_sem]; refine q8 Q11 (sB h (fun _ h => ?_) fun _ h => ?_)
  . refine sM ?_; refine q02 (q0m Q9 (q0s Q8 (q2b Q5 (q0m Q4 (q0s Q2 ?_))))); simp only [go_sem]; obtain rfl := Xa h; refine q2p rfl ?_; exact leA
  . refine y9 (q06 Q9 (q8 Q8 ?_)); simp only [go_sem]; refine u7 Q5 ?_; exact nxC _ h [] leA
 . refine q0q (q1p Q7 (q0r Q5 (q0i Q4 (q8 Q2 (sM ?_))))); refine q02 ?_; simp only [go_sem]; obtain rfl := Xa h; refine q2p rfl ?_; exact leA
def q5x (s_0 : List GFeed) (f_0 : GFeed -> Option Bool) : Option Bool :=
 q9 (q8p s_0 f_0) (fun v_0 =>
 some (decide (0 <= v_0)))
theorem qs5 (s_0 : List GFeed) (f_0 : GFeed -> Option Bool) (g_f_0 : FuncId) (c_f_0 : List AV) (F_f_0 : q0f c_f_0 = true) (E_f_0 : q00 pp g_f_0 = true) (H_f_0 : ∀ (x0 : GFeed) (r : Bool), f_0 x0 = some r -> PureS pp g_f_0 ([.agg (Row.row x0)] ++ c_f_0) 0 (.v (.bool r))) (r : Bool) (h : q5x s_0 f_0 = some r) : PureS pp 24 [.sl 4 (enc s_0), .clo g_f_0 c_f_0] 0 (.v (.bool r)) := by
 refine ptI Tryz.func24 rfl ?_; rw [q5x] at h; have F := trivial; refine sM ?_; refine sg fun _ Q2 => ?_; obtain ⟨v_0, ev_0, h⟩ := z8 h; simp only [go_sem]; refine q7w (qx3 s_0 f_0 g_f_0 c_f_0 F_f_0 E_f_0 H_f_0 v_0 ev_0) (by rfl) (by simp [go_sem, q0f, q0k, F_f_0]) ?_; simp only [go_sem]; refine q8 Q2 (q02 ?_); simp only [go_sem]; obtain rfl := Xa h; refine q2p rfl ?_; exact leA
def q9v (f_0 : GFeed) (cap_0 : GGraph) : Option Bool :=
 (if ((decide (f_0.Node < 0)) || (decide ((cap_0.Nodes.length : Int) <= f_0.Node))) = true then some true
 else q9 (idx cap_0.Nodes f_0.Node) (fun xv_0 =>
 some (((!(xv_0.Kind == 1)) || (decide (f_0.Epoch < 0))) || (decide (1048576 < f_0.Epoch)))))
instance z5v (f_0 : GFeed) (cap_0 : GGraph) : Ct pp 25 (q9v f_0 cap_0) [.agg (Row.row f_0), .el 4 [(Row.row cap_0)] 0 0] fun r => (.v (.bool r)) := ctI Tryz.func25 rfl (by rw [q9v]; exact au1)
def qi6 (g_0 : GGraph) (feeds_0 : List GFeed) (most_0 : Int) : Option Bool :=
 q9 (qd7 g_0) (fun v_0 =>
 (if (((!(v_0.1 == 0)) || (decide (most_0 < 0))) || (decide (1048576 < most_0))) = true then some false
 else q9 (q5x feeds_0 (fun x0_ => q9v x0_ g_0)) (fun v_1 =>
 some (!v_1))))
instance z8z (g_0 : GGraph) (feeds_0 : List GFeed) (most_0 : Int) : Ct pp 15 (qi6 g_0 feeds_0 most_0) [.agg (Row.row g_0), .sl 4 (enc feeds_0), .v (.int .i64 most_0)] fun r => (.v (.bool r)) := ctK Tryz.func15 rfl (by rw [qi6]) (by
 intro r h F; refine sM ?_; refine sg fun _ Q2 => ?_; refine sg fun _ Q3 => ?_; simp only [go_sem]; refine q6l h fun v_0 h => ?_; simp only [go_sem]; refine q8 Q3 (sM ?_); refine sB h (fun _ h => ?_) fun _ h => ?_
 . exact au
 . refine y9 (q8 Q2 (sg fun _ Q6 => ?_)); obtain ⟨v_1, ev_1, h⟩ := z8 h; simp only [go_sem]; refine z2n (qs5 feeds_0 (fun x0_ => q9v x0_ g_0) 25 [.el 4 [(Row.row g_0)] 0 0] (by rfl) (by kernel_rfl) (fun y0 r_ e_ => z5v y0 g_0 r_ e_) v_1 ev_1) ?_; simp only [go_sem]; exact au)
def j25 : Go.Shelf.Ren := ⟨fun | 189 => 17 | 125 => 28 | 257 => 27 | 128 => 51 | 129 => 52 | 294 => 42 | 295 => 43 | 296 => 44 | 297 => 45 | 298 => 46 | 299 => 47 | 216 => 48 | 300 => 49 | 301 => 50 | 328 => 78 | 329 => 79 | 330 => 80 | 331 => 81 | 332 => 82 | 215 => 34 | 343 => 106 | n => n, fun | 28 => 22 | 3 => 3 | 46 => 48 | 0 => 0 | 51 => 103 | 53 => 46 | 4 => 4 | 183 => 96 | 182 => 95 | 131 => 100 | 5 => 5 | 9 => 9 | 218 => 133 | 222 => 137 | 228 => 162 | 229 => 163 | n => n, fun | n => n⟩
theorem j5m : Go.Proofs.Lays.n189 pp j25 := {
  mixed := by kernel_rfl
  f125 := Tryz.func28.trans (congrArg some (by kernel_rfl))
  f128 := Tryz.func51.trans (congrArg some (by kernel_rfl))
  f129 := Tryz.func52.trans (congrArg some (by kernel_rfl))
  f189 := Tryz.func17.trans (congrArg some (by kernel_rfl))
  f215 := Tryz.func34.trans (congrArg some (by kernel_rfl))
  f216 := Tryz.func48.trans (congrArg some (by kernel_rfl))
  f257 := Tryz.func27.trans (congrArg some (by kernel_rfl))
  f294 := Tryz.func42.trans (congrArg some (by kernel_rfl))
  f295 := Tryz.func43.trans (congrArg some (by kernel_rfl))
  f296 := Tryz.func44.trans (congrArg some (by kernel_rfl))
  f297 := Tryz.func45.trans (congrArg some (by kernel_rfl))
  f298 := Tryz.func46.trans (congrArg some (by kernel_rfl))
  f299 := Tryz.func47.trans (congrArg some (by kernel_rfl))
  f300 := Tryz.func49.trans (congrArg some (by kernel_rfl))
  f301 := Tryz.func50.trans (congrArg some (by kernel_rfl))
  f328 := Tryz.func78.trans (congrArg some (by kernel_rfl))
  f329 := Tryz.func79.trans (congrArg some (by kernel_rfl))
  f330 := Tryz.func80.trans (congrArg some (by kernel_rfl))
  f331 := Tryz.func81.trans (congrArg some (by kernel_rfl))
  f332 := Tryz.func82.trans (congrArg some (by kernel_rfl))
  f343 := Tryz.func106.trans (congrArg some (by kernel_rfl))
  t0 := Tryz.underlying0
  a0 := Tryz.isAgg0
  z0 := Tryz.sizeOf0
  v0 := Tryz.zeroValue0
  t3 := Tryz.underlying3
  a3 := Tryz.isAgg3
  z3 := Tryz.sizeOf3
  v3 := Tryz.zeroValue3
  t4 := Tryz.underlying4
  a4 := Tryz.isAgg4
  z4 := Tryz.sizeOf4
  v4 := Tryz.zeroValue4
  t5 := Tryz.underlying5
  a5 := Tryz.isAgg5
  z5 := Tryz.sizeOf5
  v5 := Tryz.zeroValue5
  t9 := Tryz.underlying9
  a9 := Tryz.isAgg9
  z9 := Tryz.sizeOf9
  v9 := Tryz.zeroValue9
  t28 := Tryz.underlying22
  a28 := Tryz.isAgg22
  z28 := Tryz.sizeOf22
  v28 := Tryz.zeroValue22
  t46 := Tryz.underlying48
  a46 := Tryz.isAgg48
  z46 := Tryz.sizeOf48
  v46 := Tryz.zeroValue48
  t51 := Tryz.underlying103
  a51 := Tryz.isAgg103
  z51 := Tryz.sizeOf103
  v51 := Tryz.zeroValue103
  t53 := Tryz.underlying46
  a53 := Tryz.isAgg46
  z53 := Tryz.sizeOf46
  v53 := Tryz.zeroValue46
  t131 := Tryz.underlying100
  a131 := Tryz.isAgg100
  z131 := Tryz.sizeOf100
  v131 := Tryz.zeroValue100
  t182 := Tryz.underlying95
  a182 := Tryz.isAgg95
  z182 := Tryz.sizeOf95
  v182 := Tryz.zeroValue95
  t183 := Tryz.underlying96
  a183 := Tryz.isAgg96
  z183 := Tryz.sizeOf96
  v183 := Tryz.zeroValue96
  t218 := Tryz.underlying133
  a218 := Tryz.isAgg133
  z218 := Tryz.sizeOf133
  v218 := Tryz.zeroValue133
  t222 := Tryz.underlying137
  a222 := Tryz.isAgg137
  z222 := Tryz.sizeOf137
  v222 := Tryz.zeroValue137
  t228 := Tryz.underlying162
  a228 := Tryz.isAgg162
  z228 := Tryz.sizeOf162
  v228 := Tryz.zeroValue162
  t229 := Tryz.underlying163
  a229 := Tryz.isAgg163
  z229 := Tryz.sizeOf163
  v229 := Tryz.zeroValue163 }
def q9f (x_0 : List Int) : Option (List Int) := zw6 x_0
theorem qx1 (x_0 : List Int) (r : List Int) (h : q9f x_0 = some r) : DetS pp 17 [.osl 0 1 0 (x_0.length)] [(0, .arr 1 (enc x_0))] 1 (.tup []) [(0, .arr 1 (enc r))] 1 :=
  zi9 j5m (by kernel_rfl) (fun w => Any.slices_Sort_int_none j5m none 0 w) h
def j24 : Go.Shelf.Ren := ⟨fun | 20 => 18 | n => n, fun | 22 => 22 | 3 => 3 | 4 => 4 | 0 => 0 | n => n, fun | n => n⟩
theorem ja1 : Go.Proofs.Lays2.n20 pp j24 := {
  mixed := by kernel_rfl
  f20 := Tryz.func18.trans (congrArg some (by kernel_rfl))
  t0 := Tryz.underlying0
  a0 := Tryz.isAgg0
  z0 := Tryz.sizeOf0
  v0 := Tryz.zeroValue0
  t3 := Tryz.underlying3
  a3 := Tryz.isAgg3
  z3 := Tryz.sizeOf3
  v3 := Tryz.zeroValue3
  t4 := Tryz.underlying4
  a4 := Tryz.isAgg4
  z4 := Tryz.sizeOf4
  v4 := Tryz.zeroValue4
  t22 := Tryz.underlying22
  a22 := Tryz.isAgg22
  z22 := Tryz.sizeOf22
  v22 := Tryz.zeroValue22
  i3 := by kernel_rfl }
def q7s (x_0 : List Int) : Option (List Int) := z7l x_0
theorem qs7 (x_0 : List Int) (r : List Int) (h : q7s x_0 = some r) : DetS pp 18 [.osl 0 1 0 (x_0.length)] [(0, .arr 1 (enc x_0))] 1 (.osl 0 1 0 (r.length)) [(0, .arr 1 (enc r))] 1 :=
  z99 ja1 (by kernel_rfl) h
def q9a (xv_0 : Int) : Option Bool :=
 some (!(xv_0 == xv_0))
instance j2i (xv_0 : Int) : Ct pp 34 (q9a xv_0) [.v (.int .i64 xv_0)] fun r => (.v (.bool r)) := ctI Tryz.func34 rfl (by rw [q9a]; exact au1)
def q7l (xv_0 : Int) (y_0 : Int) : Option Int :=
 q9 (q9a xv_0) (fun v_0 =>
 q9 (q9a y_0) (fun v_1 =>
 (if v_0 = true then (if v_1 = true then some 0
 else some (-1))
 else (if v_1 = true then some 1
 else (if (decide (xv_0 < y_0)) = true then some (-1)
 else (if (decide (y_0 < xv_0)) = true then some 1
 else some 0))))))
instance j0a (xv_0 : Int) (y_0 : Int) : Ct pp 22 (q7l xv_0 y_0) [.v (.int .i64 xv_0), .v (.int .i64 y_0)] fun r => (.v (.int .i64 r)) := ctI Tryz.func22 rfl (by rw [q7l]; exact au1)
def q6f (a_0 : GOut) (b_0 : GOut) : Option Int :=
 q9 (q7l a_0.Node b_0.Node) (fun v_0 =>
 some v_0)
instance z90 (a_0 : GOut) (b_0 : GOut) : Ct pp 21 (q6f a_0 b_0) [.agg (Row.row a_0), .agg (Row.row b_0)] fun r => (.v (.int .i64 r)) := ctI Tryz.func21 rfl (by rw [q6f]; exact au1)
def qe2 (b_5 : GMean_runner) : Option ((List GOut) × Int) :=
 (if (!(b_5.e == 0)) = true then some (([] : List GOut), b_5.e)
 else q9 (q19 b_5.outs (fun x0_ x1_ => q6f x0_ x1_)) (fun v_9 =>
 q03 (v_9.length = b_5.outs.length) (
 some (v_9, 0))))
def qe4 (g_0 : GGraph) (v_10 : List Int) (rec_3 : Int × GMean_runner -> Option ((List GOut) × Int)) : Int × GMean_runner -> Option ((List GOut) × Int) :=
 fun (t55_3, b_7) =>
 (if (decide (t55_3 < (v_10.length : Int))) = true then q9 (idx v_10 t55_3) (fun xv_8 =>
 q9 (qa2 b_7 0 (g_0.Nodes.length : Int) 0 (⟨1, (⟨xv_8, 0, 0, 0⟩ : Arr4 Int)⟩ : GTime)) (fun v_13 =>
 rec_3 (i64.wrap (t55_3 + 1), v_13.2)))
 else qe2 b_7)
def qn0 (g_0 : GGraph) (b_2 : GMean_runner) (a_2 : List Int) : Option ((List GOut) × Int) :=
 q9 (q9f a_2) (fun v_4 =>
 q03 (v_4.length = a_2.length) (
 q9 (q7s v_4) (fun v_10 =>
 q05 (qe4 g_0 v_10) rounds (0, b_2))))
def qe3 (g_0 : GGraph) (feeds_0 : List GFeed) (rec_4 : Int × GMean_runner × (List Int) -> Option ((List GOut) × Int)) : Int × GMean_runner × (List Int) -> Option ((List GOut) × Int) :=
 fun (t28_3, b_9, a_4) =>
 (if (decide (t28_3 < (feeds_0.length : Int))) = true then q9 (idx feeds_0 t28_3) (fun xv_11 =>
 q03 ((a_4.length + Xl ([xv_11.Epoch] : List Int)) * 8 <= 140737488355328) (
 q9 (q2x b_9 xv_11.Node 0 (⟨1, (⟨xv_11.Epoch, 0, 0, 0⟩ : Arr4 Int)⟩ : GTime) ([(⟨xv_11.Rec, 1⟩ : GItem)] : List GItem)) (fun v_16 =>
 rec_4 (i64.wrap (t28_3 + 1), v_16, (a_4 ++ ([xv_11.Epoch] : List Int))))))
 else qn0 g_0 b_9 a_4)
def q7t (g_0 : GGraph) (feeds_0 : List GFeed) (most_0 : Int) : Option ((List GOut) × Int) :=
 q9 (qi6 g_0 feeds_0 most_0) (fun v_0 =>
 (if (!v_0) = true then some (([] : List GOut), 1)
 else q05 (qe3 g_0 feeds_0) rounds (0, (⟨g_0, (Xi ([] : List GMean_point) ([] : List (Arr2 (List GItem)))), (Xi ([] : List Int) ([] : List (List GCount))), (Xi ([] : List GMean_point) ([] : List (List GItem))), 0, most_0, ([] : List GOut), 0⟩ : GMean_runner), [])))
theorem q9w (g_0 : GGraph) (feeds_0 : List GFeed) (most_0 : Int)  (r : (List GOut) × Int) (h : q7t g_0 feeds_0 most_0 = some r) : DetS pp 9 [.agg (Row.row g_0), .sl 4 (enc feeds_0), .v (.int .i64 most_0)] [] 0 (.tup [.osl 0 4 (0) (r.1.length), .v (.int .i64 r.2)]) [(0, .arr 4 (enc r.1))] 1 := by
  unfold DetS; refine Spec.of_wp Tryz.func9 rfl (by kernel_rfl) (by kernel_rfl) ?_; rw [q7t] at h; refine sgW fun _ Q1 => ?_; refine wv ?_; simp only [go_sem]; refine x8 Q1 ?_; refine sgW fun _ Q2 => ?_; refine sgW fun _ Q3 => ?_; refine wv ?_; obtain ⟨v_0, ev_0, h⟩ := z8 h; simp only [go_sem]; refine q7w (z8z g_0 feeds_0 most_0 v_0 ev_0) (by rfl) (by rfl) ?_; simp only [go_sem]; refine x8 Q3 ?_; refine q42 (b := (!v_0)) (by (simp only [go_sem]; done)) (fun hb_0 => ?_) (fun hb_0 => ?_)
  .
    replace h := q2k h hb_0; simp only [bool_to_prop] at hb_0; refine sgW fun _ Q4 => ?_; refine wv ?_; simp only [go_sem]; refine x8 Q4 ?_; refine wv ?_; refine q02 (qn6 Q2 ?_); simp only [go_sem]; obtain rfl := Xa h; refine q1w [none] ?_; simp only [go_sem, Le]
  .
    replace h := q2l h hb_0; simp only [bool_to_prop] at hb_0; refine wv ?_; refine y9 (x8 Q2 ?_); refine sgW fun _ Q5 => ?_; refine q7p ?_; refine wv ?_; simp only [go_sem]; refine z1q 0 ?_ rfl z9j; simp only [go_sem]; refine z1q 1 ?_ rfl z9i; simp only [go_sem]; refine z1q 2 ?_ rfl z1z; simp only [go_sem]; refine q2e ?_; refine x8 Q5 ?_; refine sgW fun _ Q6 => ?_; refine wv ?_; simp only [go_sem]; refine x8 Q6 ?_; refine zo0 (ι := GMean_runner × (List Int)) (fun ((b_2, a_2) : GMean_runner × (List Int)) => (⟨0, [(3, .ptr 0 0), (8, .ptr 1 0), (9, .osl 2 1 (0) (a_2.length))], [(0, .box (Row.row g_0)), (1, .box [.sl 1 (enc b_2.g.Parent), .sl 1 (enc b_2.g.Bound), .sl 4 (enc b_2.g.Nodes), .sl 4 (enc b_2.g.Edges), .mp 3, .mp 4, .mp 5, .v (.int .i64 b_2.work), .v (.int .i64 b_2.most), .osl 6 4 (0) (b_2.outs.length), .v (.int .i64 b_2.e)]), (2, .arr 1 (enc a_2)), (3, .con (p8 pp 78 0 (p9 b_2.ins.1) (enc b_2.ins.2) none) []), (4, .con (p8 pp 3 1 (p9 b_2.past.1) (enc b_2.past.2) none) []), (5, .con (p8 pp 78 2 (p9 b_2.bags.1) (enc b_2.bags.2) none) []), (6, .arr 4 (enc b_2.outs))], 7, 86⟩ : St)) (fun ((b_2, a_2) : GMean_runner × (List Int)) => qn0 g_0 b_2 a_2 = some r) ?_ ?_
    .
      intro _ Q22; refine sgW fun _ Q23 => ?_; refine wv ?_; simp only [go_sem]; refine x8 Q23 ?_; refine qe5 fun _ Q24 => ?_; refine z5k (ι := Nat × Int × GMean_runner × (List Int)) (fun ((_, t28_3, b_9, a_4) : Nat × Int × GMean_runner × (List Int)) => (⟨0, [(3, .ptr 0 0), (8, .ptr 1 0), (9, .osl 2 1 (0) (a_4.length)), (26, .sl 4 (enc feeds_0)), (27, .v (.int .i64 (feeds_0.length : Int))), (28, .v (.int .i64 t28_3))], [(0, .box (Row.row g_0)), (1, .box [.sl 1 (enc b_9.g.Parent), .sl 1 (enc b_9.g.Bound), .sl 4 (enc b_9.g.Nodes), .sl 4 (enc b_9.g.Edges), .mp 3, .mp 4, .mp 5, .v (.int .i64 b_9.work), .v (.int .i64 b_9.most), .osl 6 4 (0) (b_9.outs.length), .v (.int .i64 b_9.e)]), (2, .arr 1 (enc a_4)), (3, .con (p8 pp 78 0 (p9 b_9.ins.1) (enc b_9.ins.2) none) []), (4, .con (p8 pp 3 1 (p9 b_9.past.1) (enc b_9.past.2) none) []), (5, .con (p8 pp 78 2 (p9 b_9.bags.1) (enc b_9.bags.2) none) []), (6, .arr 4 (enc b_9.outs))], 7, 86⟩ : St)) (fun ((n_, t28_3, b_9, a_4) : Nat × Int × GMean_runner × (List Int)) => q05 (qe3 g_0 feeds_0) n_ (t28_3, b_9, a_4) = some r) (fun p => p.1) (rounds, 0, (⟨g_0, (Xi ([] : List GMean_point) ([] : List (Arr2 (List GItem)))), (Xi ([] : List Int) ([] : List (List GCount))), (Xi ([] : List GMean_point) ([] : List (List GItem))), 0, most_0, ([] : List GOut), 0⟩ : GMean_runner), []) [some 0, some 4, none, some 1, some 2, some 3, none] ?_ h ?_
      . simp only [go_sem, Le] <;> (repeat' apply Xb) <;> (try with_reducible refine q04 ?_) <;> first | omega | (simp [go_sem]; done) | ((try with_reducible refine q04 ?_); (simp [enc]; rfl))
      . rintro ⟨n_4, t28_3, b_9, a_4⟩ h _ Q25
        dsimp only at h; replace h := q6x h; obtain ⟨m_4, rfl, h⟩ := h; rw [qe3] at h; refine sgW fun _ Q26 => ?_; refine wv ?_; simp only [go_sem]; refine x8 Q26 ?_; refine sgW fun _ Q27 => ?_; refine q42 (b := (decide (t28_3 < (feeds_0.length : Int)))) (by (simp only [go_sem]; done)) (fun hb_13 => ?_) (fun hb_13 => ?_)
        .
          replace h := q2k h hb_13; simp only [bool_to_prop] at hb_13; refine wv ?_; refine y9 (x8 Q27 ?_); refine sgW fun _ Q28 => ?_; refine qe5 fun _ Q29 => ?_; refine sgW fun _ Q30 => ?_; refine wv ?_; obtain ⟨xv_11, ex11, h⟩ := z8 h; obtain ⟨f11a, f11b, f11c⟩ := q87 ex11; simp only [go_sem, f11a, f11b, f11c]; refine Xb (by omega) ?_; refine x8 Q30 ?_; refine sgW fun _ Q31 => ?_; refine wv ?_; have rf_13 : [[.v (.int .i64 xv_11.Epoch)]] = enc ([xv_11.Epoch] : List Int) := by rfl
          obtain ⟨g_8, h⟩ := q0d h; simp only [Xe, Xg, Xh, Xy] at g_8; have rf_14 : enc a_4 ++ [[.v (.int .i64 xv_11.Epoch)]] = enc (a_4 ++ ([xv_11.Epoch] : List Int)) := by exact (q5b a_4 ([xv_11.Epoch] : List Int)).symm
          simp only [go_sem, g_8, rf_14]; simp only [rf_13]; refine x8 Q31 ?_; refine wv ?_; have rf_15 : [[.v (.int .i64 xv_11.Rec.K), .v (.int .i64 xv_11.Rec.V), .v (.int .i64 1)]] = enc ([(⟨xv_11.Rec, 1⟩ : GItem)] : List GItem) := by rfl
          obtain ⟨v_16, ev_16, h⟩ := z8 h; simp only [go_sem]; simp only [rf_15]; refine q7v (s' := (⟨0, [(3, .ptr 0 0), (8, .ptr 1 0), (9, .osl 8 1 (0) (Xl (a_4 ++ ([xv_11.Epoch] : List Int)))), (26, .sl 4 (enc feeds_0)), (27, .v (.int .i64 (feeds_0.length : Int))), (28, .v (.int .i64 t28_3))], [(0, .box (Row.row g_0)), (1, .box [.sl 1 (enc b_9.g.Parent), .sl 1 (enc b_9.g.Bound), .sl 4 (enc b_9.g.Nodes), .sl 4 (enc b_9.g.Edges), .mp 2, .mp 3, .mp 4, .v (.int .i64 b_9.work), .v (.int .i64 b_9.most), .osl 5 4 (0) (b_9.outs.length), .v (.int .i64 b_9.e)]), (2, .con (p8 pp 78 0 (p9 b_9.ins.1) (enc b_9.ins.2) none) []), (3, .con (p8 pp 3 1 (p9 b_9.past.1) (enc b_9.past.2) none) []), (4, .con (p8 pp 78 2 (p9 b_9.bags.1) (enc b_9.bags.2) none) []), (5, .arr 4 (enc b_9.outs)), (6, .box (Row.row xv_11)), (7, .arr 1 (enc ([xv_11.Epoch] : List Int))), (8, .arr 1 (enc (a_4 ++ ([xv_11.Epoch] : List Int))))], 9, 86⟩ : St)) (l := [some 0, some 1, some 3, some 4, some 5, some 6, some 7, some 8, some 9]) (args' := [.ptr 1 0, .v (.int .i64 xv_11.Node), .v (.int .i64 0), .agg [.v (.int .i64 1), .v (.int .i64 xv_11.Epoch), .v (.int .i64 0), .v (.int .i64 0), .v (.int .i64 0)], .sl 3 (enc ([(⟨xv_11.Rec, 1⟩ : GItem)] : List GItem))]) ?_ ?_ ?_
          . simp only [go_sem, Le] <;> (repeat' apply Xb) <;> (try with_reducible refine q04 ?_) <;> first | omega | (simp [go_sem]; done)
          . simp only [go_sem, Le] <;> (repeat' apply Xb) <;> ((try with_reducible refine q04 ?_); (simp [go_sem]; done))
          refine q4t [1, 2, 3, 4, 5] (q99 b_9 xv_11.Node 0 (⟨1, (⟨xv_11.Epoch, 0, 0, 0⟩ : Arr4 Int)⟩ : GTime) ([(⟨xv_11.Rec, 1⟩ : GItem)] : List GItem) v_16 ev_16) (by simp) rfl ⟨rfl, ⟨rfl, ⟨rfl, ⟨rfl, ⟨rfl, trivial⟩⟩⟩⟩⟩ rfl rfl rfl rfl ?_; simp only [go_sem]; refine q06 Q29 (x8 Q28 ?_); refine wv ?_; simp only [go_sem]; refine u7 Q25 (⟨(m_4, i64.wrap (t28_3 + 1), v_16, (a_4 ++ ([xv_11.Epoch] : List Int))), [some 0, some 1, some 8, some 2, some 3, some 4, some 9], ?_, h, Xs _⟩); simp only [go_sem, Le] <;> (repeat' apply Xb) <;> (try with_reducible refine q04 ?_) <;> first | omega | (simp [go_sem]; done)
        .
          replace h := q2l h hb_13; simp only [bool_to_prop] at hb_13; refine wv ?_; refine q0q (qo6 Q27 ?_); refine q0r Q25 (q0i Q24 (u7 Q22 (⟨(b_9, a_4), [some 0, some 1, some 2, some 3, some 4, some 5, some 6], ?_, h⟩))); simp only [go_sem, Le] <;> (repeat' apply Xb) <;> (try with_reducible refine q04 ?_) <;> first | omega | (simp [go_sem]; done)
    . rintro ⟨b_2, a_2⟩ h
      try dsimp only at h
      rw [qn0] at h; refine sgW fun _ Q7 => ?_; refine wv ?_; obtain ⟨v_4, ev_4, h⟩ := z8 h; simp only [go_sem]; refine q4t [2] (qx1 a_2 v_4 ev_4) (by simp) rfl ⟨rfl, trivial⟩ rfl rfl rfl rfl ?_; obtain ⟨g_4, h⟩ := q0d h; simp only [go_sem, g_4]; refine x8 Q7 ?_; refine zo0 (ι := GMean_runner) (fun (b_5 : GMean_runner) => (⟨0, [(8, .ptr 0 0)], [(0, .box [.sl 1 (enc b_5.g.Parent), .sl 1 (enc b_5.g.Bound), .sl 4 (enc b_5.g.Nodes), .sl 4 (enc b_5.g.Edges), .mp 1, .mp 2, .mp 3, .v (.int .i64 b_5.work), .v (.int .i64 b_5.most), .osl 4 4 (0) (b_5.outs.length), .v (.int .i64 b_5.e)]), (1, .con (p8 pp 78 0 (p9 b_5.ins.1) (enc b_5.ins.2) none) []), (2, .con (p8 pp 3 1 (p9 b_5.past.1) (enc b_5.past.2) none) []), (3, .con (p8 pp 78 2 (p9 b_5.bags.1) (enc b_5.bags.2) none) []), (4, .arr 4 (enc b_5.outs))], 5, 86⟩ : St)) (fun (b_5 : GMean_runner) => qe2 b_5 = some r) ?_ ?_
      .
        intro _ Q13; refine sgW fun _ Q14 => ?_; refine wv ?_; obtain ⟨v_10, ev_10, h⟩ := z8 h; simp only [go_sem]; refine q7v (s' := (⟨0, [(3, .ptr 0 0), (8, .ptr 1 0)], [(0, .box (Row.row g_0)), (1, .box [.sl 1 (enc b_2.g.Parent), .sl 1 (enc b_2.g.Bound), .sl 4 (enc b_2.g.Nodes), .sl 4 (enc b_2.g.Edges), .mp 3, .mp 4, .mp 5, .v (.int .i64 b_2.work), .v (.int .i64 b_2.most), .osl 6 4 (0) (b_2.outs.length), .v (.int .i64 b_2.e)]), (2, .arr 1 (enc v_4)), (3, .con (p8 pp 78 0 (p9 b_2.ins.1) (enc b_2.ins.2) none) []), (4, .con (p8 pp 3 1 (p9 b_2.past.1) (enc b_2.past.2) none) []), (5, .con (p8 pp 78 2 (p9 b_2.bags.1) (enc b_2.bags.2) none) []), (6, .arr 4 (enc b_2.outs))], 7, 86⟩ : St)) (l := [some 0, some 1, some 2, some 3, some 4, some 5, some 6]) (args' := [.osl 2 1 (0) (v_4.length)]) ?_ ?_ ?_
        . simp only [go_sem, Le] <;> (repeat' apply Xb) <;> (try with_reducible refine q04 ?_) <;> first | omega | (simp [go_sem]; done)
        . simp only [go_sem, Le] <;> (repeat' apply Xb) <;> ((try with_reducible refine q04 ?_); omega)
        refine q4t [2] (qs7 v_4 v_10 ev_10) (by simp) rfl ⟨rfl, trivial⟩ rfl rfl rfl rfl ?_; simp only [go_sem]; refine x8 Q14 ?_; refine qe5 fun _ Q15 => ?_; refine z5k (ι := Nat × Int × GMean_runner) (fun ((_, t55_3, b_7) : Nat × Int × GMean_runner) => (⟨0, [(3, .ptr 0 0), (8, .ptr 1 0), (53, .osl 2 1 (0) (v_10.length)), (54, .v (.int .i64 (v_10.length : Int))), (55, .v (.int .i64 t55_3))], [(0, .box (Row.row g_0)), (1, .box [.sl 1 (enc b_7.g.Parent), .sl 1 (enc b_7.g.Bound), .sl 4 (enc b_7.g.Nodes), .sl 4 (enc b_7.g.Edges), .mp 3, .mp 4, .mp 5, .v (.int .i64 b_7.work), .v (.int .i64 b_7.most), .osl 6 4 (0) (b_7.outs.length), .v (.int .i64 b_7.e)]), (2, .arr 1 (enc v_10)), (3, .con (p8 pp 78 0 (p9 b_7.ins.1) (enc b_7.ins.2) none) []), (4, .con (p8 pp 3 1 (p9 b_7.past.1) (enc b_7.past.2) none) []), (5, .con (p8 pp 78 2 (p9 b_7.bags.1) (enc b_7.bags.2) none) []), (6, .arr 4 (enc b_7.outs))], 7, 86⟩ : St)) (fun ((n_, t55_3, b_7) : Nat × Int × GMean_runner) => q05 (qe4 g_0 v_10) n_ (t55_3, b_7) = some r) (fun p => p.1) (rounds, 0, b_2) [some 0, some 1, some 2, some 3, some 4, some 5, some 6] ?_ h ?_
        . simp only [go_sem, Le] <;> (repeat' apply Xb) <;> (try with_reducible refine q04 ?_) <;> first | omega | (simp [go_sem]; done)
        . rintro ⟨n_3, t55_3, b_7⟩ h _ Q16
          dsimp only at h; replace h := q6x h; obtain ⟨m_3, rfl, h⟩ := h; rw [qe4] at h; refine sgW fun _ Q17 => ?_; refine wv ?_; simp only [go_sem]; refine x8 Q17 ?_; refine sgW fun _ Q18 => ?_; refine q42 (b := (decide (t55_3 < (v_10.length : Int)))) (by (simp only [go_sem]; done)) (fun hb_10 => ?_) (fun hb_10 => ?_)
          .
            replace h := q2k h hb_10; simp only [bool_to_prop] at hb_10; refine wv ?_; refine y9 (x8 Q18 ?_); refine sgW fun _ Q19 => ?_; refine qe5 fun _ Q20 => ?_; refine sgW fun _ Q21 => ?_; refine wv ?_; obtain ⟨xv_8, ex8, h⟩ := z8 h; obtain ⟨f8a, f8b, f8c⟩ := q87 ex8; simp only [go_sem, f8a, f8b, f8c]; refine Xb (by omega) ?_; refine x8 Q21 ?_; refine wv ?_; obtain ⟨v_13, ev_13, h⟩ := z8 h; simp only [go_sem]; refine q4t [1, 3, 4, 5, 6] (qp9 b_7 0 (g_0.Nodes.length : Int) 0 (⟨1, (⟨xv_8, 0, 0, 0⟩ : Arr4 Int)⟩ : GTime) v_13 ev_13) (by simp) rfl ⟨rfl, ⟨rfl, ⟨rfl, ⟨rfl, ⟨rfl, trivial⟩⟩⟩⟩⟩ rfl rfl rfl rfl ?_; simp only [go_sem]; refine q06 Q20 (x8 Q19 ?_); refine wv ?_; simp only [go_sem]; refine u7 Q16 (⟨(m_3, i64.wrap (t55_3 + 1), v_13.2), [some 0, some 1, some 2, some 3, some 4, some 5, some 7], ?_, h, Xs _⟩); simp only [go_sem, Le] <;> (repeat' apply Xb) <;> (try with_reducible refine q04 ?_) <;> first | omega | (simp [go_sem]; done)
          .
            replace h := q2l h hb_10; simp only [bool_to_prop] at hb_10; refine wv ?_; refine q0q (qo6 Q18 ?_); refine q0r Q16 (q0i Q15 (u7 Q13 (⟨b_7, [some 1, some 3, some 4, some 5, some 6], ?_, h⟩))); simp only [go_sem, Le] <;> (repeat' apply Xb) <;> (try with_reducible refine q04 ?_) <;> first | omega | (simp [go_sem]; done)
      . rintro b_5 h
        try dsimp only at h
        rw [qe2] at h; refine sgW fun _ Q8 => ?_; refine sgW fun _ Q9 => ?_; refine wv ?_; simp only [go_sem]; refine x8 Q9 ?_; refine q42 (b := (!(b_5.e == 0))) (by (simp only [go_sem]; done)) (fun hb_7 => ?_) (fun hb_7 => ?_)
        .
          replace h := q2k h hb_7; simp only [bool_to_prop] at hb_7; refine sgW fun _ Q10 => ?_; refine wv ?_; refine q0c ?_; refine jb1 ?_; simp only [go_sem]; refine x8 Q10 ?_; refine wv ?_; refine q02 (qn6 Q8 ?_); simp only [go_sem]; obtain rfl := Xa h; refine q1w [none] ?_; simp only [go_sem, Le]
        .
          replace h := q2l h hb_7; simp only [bool_to_prop] at hb_7; refine wv ?_; refine y9 (x8 Q8 ?_); refine sgW fun _ Q11 => ?_; refine wv ?_; obtain ⟨v_9, ev_9, h⟩ := z8 h; simp only [go_sem]; refine q4t [4] (qi2 b_5.outs (fun x0_ x1_ => q6f x0_ x1_) 21 [] (by rfl) (by kernel_rfl) (fun y0 y1 r_ e_ => z90 y0 y1 r_ e_) v_9 ev_9) (by simp) rfl ⟨rfl, trivial⟩ rfl rfl rfl rfl ?_; obtain ⟨g_5, h⟩ := q0d h; simp only [go_sem, g_5]; refine x8 Q11 ?_; refine sgW fun _ Q12 => ?_; refine wv ?_; simp only [go_sem]; refine x8 Q12 ?_; refine wv ?_; refine q02 ?_; simp only [go_sem]; obtain rfl := Xa h; refine q1w [some 4] ?_; simp only [go_sem, Le] <;> (repeat' apply Xb) <;> ((try with_reducible refine q04 ?_); omega)
def q6g (g_0 : GGraph) (rec_1 : Int -> Option Bool) : Int -> Option Bool :=
 fun i_1 =>
 (if (decide (i_1 < (g_0.Nodes.length : Int))) = true then q9 (idx g_0.Nodes i_1) (fun xv_2 =>
 (if (decide (100 < (xv_2.Prog.length : Int))) = true then some false
 else rec_1 (i64.wrap (i_1 + 1))))
 else some true)
def q3h (g_0 : GGraph) : Option Bool :=
 (if ((((decide (20 < (g_0.Parent.length : Int))) || (decide (20 < (g_0.Bound.length : Int)))) || (decide (60 < (g_0.Nodes.length : Int)))) || (decide (100 < (g_0.Edges.length : Int)))) = true then some false
 else q05 (q6g g_0) rounds 0)
instance zn0 (g_0 : GGraph) : Ct pp 14 (q3h g_0) [.agg (Row.row g_0)] fun r => (.v (.bool r)) := ctK Tryz.func14 rfl (by rw [q3h]) (by
 intro r h F; refine sM ?_; refine sg fun _ Q2 => ?_; refine sM ?_; refine sB h (fun _ h => ?_) fun _ h => ?_
 . exact au
 . refine y9 (q8 Q2 (jg fun _ Q5 => ?_)); refine sM ?_; refine w9 fun _ Q7 => ?_; refine q0x h [1] (fun i_1 => ([(3, .v (.int .i64 i_1))], [(0, .box (Row.row g_0))])) 1 ?_; rintro m_1 i_1 h _ Q8; rw [q6g] at h; exact au)
def q7g  : Option Bool :=
 q9 (q7t (⟨([-1] : List Int), ([0] : List Int), ([(⟨1, 0, 0, ([] : List GIns)⟩ : GNode), (⟨3, 0, 5, ([] : List GIns)⟩ : GNode), (⟨15, 0, 0, ([] : List GIns)⟩ : GNode)] : List GNode), ([(⟨0, 1, 0, false⟩ : GEdge), (⟨1, 2, 0, false⟩ : GEdge)] : List GEdge)⟩ : GGraph) ([(⟨0, 3, (⟨1, 2⟩ : GRec)⟩ : GFeed)] : List GFeed) 9) (fun v_0 =>
 (if ((v_0.2 == 0) && ((v_0.1.length : Int) == 1)) = true then q9 (idx v_0.1 0) (fun xv_0 =>
 some ((xv_0.Node == 2) && ((xv_0.Epoch == 3) && ((xv_0.Rec.K == 1) && (xv_0.Rec.V == 7)))))
 else some false))
instance z0n  : Ct pp 7 (q7g ) [] fun r => (.v (.bool r)) := ctK Tryz.func7 rfl (by rw [q7g]) (by
 intro r h F; refine sM ?_; refine sg fun _ Q2 => ?_; have rf_0 : [[.v (.int .i64 (-1))]] = enc ([-1] : List Int) := by rfl
 have rf_1 : [[.v (.int .i64 0)]] = enc ([0] : List Int) := by rfl
 have rf_2 : [[.v (.int .i64 1), .v (.int .i64 0), .v (.int .i64 0), .sl 2 (enc ([] : List GIns))], [.v (.int .i64 3), .v (.int .i64 0), .v (.int .i64 5), .sl 2 (enc ([] : List GIns))], [.v (.int .i64 15), .v (.int .i64 0), .v (.int .i64 0), .sl 2 (enc ([] : List GIns))]] = enc ([(⟨1, 0, 0, ([] : List GIns)⟩ : GNode), (⟨3, 0, 5, ([] : List GIns)⟩ : GNode), (⟨15, 0, 0, ([] : List GIns)⟩ : GNode)] : List GNode) := by rfl
 have rf_2n := rf_2; simp only [q6j] at rf_2n; have rf_3 : [[.v (.int .i64 0), .v (.int .i64 1), .v (.int .i64 0), .v (.bool false)], [.v (.int .i64 1), .v (.int .i64 2), .v (.int .i64 0), .v (.bool false)]] = enc ([(⟨0, 1, 0, false⟩ : GEdge), (⟨1, 2, 0, false⟩ : GEdge)] : List GEdge) := by rfl
 simp only [go_sem]; simp only [rf_0, rf_1, rf_2n, rf_2, rf_3]; refine q8 Q2 (sg fun _ Q3 => ?_); have rf_4 : [[.v (.int .i64 0), .v (.int .i64 3), .v (.int .i64 1), .v (.int .i64 2)]] = enc ([(⟨0, 3, (⟨1, 2⟩ : GRec)⟩ : GFeed)] : List GFeed) := by rfl
 obtain ⟨v_0, ev_0, h⟩ := z8 h; simp only [go_sem]; simp only [rf_4]; refine qf6 [] ([], [(0, .box [.sl 1 (enc ([-1] : List Int)), .sl 1 (enc ([0] : List Int)), .sl 4 (enc ([(⟨1, 0, 0, ([] : List GIns)⟩ : GNode), (⟨3, 0, 5, ([] : List GIns)⟩ : GNode), (⟨15, 0, 0, ([] : List GIns)⟩ : GNode)] : List GNode)), .sl 4 (enc ([(⟨0, 1, 0, false⟩ : GEdge), (⟨1, 2, 0, false⟩ : GEdge)] : List GEdge))])]) 1 [some 4] [.agg [.sl 1 (enc ([-1] : List Int)), .sl 1 (enc ([0] : List Int)), .sl 4 (enc ([(⟨1, 0, 0, ([] : List GIns)⟩ : GNode), (⟨3, 0, 5, ([] : List GIns)⟩ : GNode), (⟨15, 0, 0, ([] : List GIns)⟩ : GNode)] : List GNode)), .sl 4 (enc ([(⟨0, 1, 0, false⟩ : GEdge), (⟨1, 2, 0, false⟩ : GEdge)] : List GEdge))], .sl 4 (enc ([(⟨0, 3, (⟨1, 2⟩ : GRec)⟩ : GFeed)] : List GFeed)), .v (.int .i64 9)] ?_; refine q20 [] (q9w (⟨([-1] : List Int), ([0] : List Int), ([(⟨1, 0, 0, ([] : List GIns)⟩ : GNode), (⟨3, 0, 5, ([] : List GIns)⟩ : GNode), (⟨15, 0, 0, ([] : List GIns)⟩ : GNode)] : List GNode), ([(⟨0, 1, 0, false⟩ : GEdge), (⟨1, 2, 0, false⟩ : GEdge)] : List GEdge)⟩ : GGraph) ([(⟨0, 3, (⟨1, 2⟩ : GRec)⟩ : GFeed)] : List GFeed) 9 v_0 ev_0) ?_; simp only [go_sem]; exact au)
def q66 (g_0 : GGraph) (feeds_0 : List GFeed) : Option Bool :=
 q9 (q3h g_0) (fun v_0 =>
 some (v_0 && (decide ((feeds_0.length : Int) <= 40))))
instance z0m (g_0 : GGraph) (feeds_0 : List GFeed) : Ct pp 8 (q66 g_0 feeds_0) [.agg (Row.row g_0), .sl 4 (enc feeds_0)] fun r => (.v (.bool r)) := ctI Tryz.func8 rfl (by rw [q66]; exact au1)
def q6h (l_0 : List GOut) (o_0 : GOut) (rec_1 : Int × Int -> Option Int) : Int × Int -> Option Int :=
 fun (nv_1, i_1) =>
 (if (decide (i_1 < (l_0.length : Int))) = true then q9 (idx l_0 i_1) (fun xv_2 =>
 (if ((xv_2.Node == o_0.Node) && ((xv_2.Epoch == o_0.Epoch) && ((xv_2.Rec.K == o_0.Rec.K) && (xv_2.Rec.V == o_0.Rec.V)))) = true then rec_1 (i64.wrap (nv_1 + 1), i64.wrap (i_1 + 1))
 else rec_1 (nv_1, i64.wrap (i_1 + 1))))
 else some nv_1)
def q3i (l_0 : List GOut) (o_0 : GOut) : Option Int :=
 q05 (q6h l_0 o_0) rounds (0, 0)
instance q8d (l_0 : List GOut) (o_0 : GOut) : Ct pp 13 (q3i l_0 o_0) [.sl 4 (enc l_0), .agg (Row.row o_0)] fun r => (.v (.int .i64 r)) := ctK Tryz.func13 rfl (by rw [q3i]) (by
 intro r h F; refine sM ?_; refine sM ?_; refine jg fun _ Q3 => ?_; refine sM ?_; refine w9 fun _ Q5 => ?_; refine q0x h [0, 3] (fun x => ([(5, .v (.int .i64 x.1)), (6, .v (.int .i64 x.2))], [(0, .box (Row.row o_0))])) 1 ?_; rintro m_1 ⟨nv_1, i_1⟩ h _ Q6; rw [q6h] at h; exact au)
end Go.Proofs.YteibkihbdgphnaaGreat
