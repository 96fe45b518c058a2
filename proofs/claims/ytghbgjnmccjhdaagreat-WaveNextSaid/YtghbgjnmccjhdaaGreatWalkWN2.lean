/-
  What functions of the program compute, each told as a plain function that may give nothing, with the proof that the code does so. No condition beyond those that each theorem names.
-/
import Derived.Test.YtghbgjnmccjhdaaGreatWalkWN0
import Derived.Test.YtghbgjnmccjhdaaGreatWalkWN1
set_option linter.unusedSimpArgs false
set_option linter.unusedVariables false
set_option linter.unusedSectionVars false
set_option maxHeartbeats 2000000
set_option maxRecDepth 100000
namespace Go.Proofs.YtghbgjnmccjhdaaGreat
open Go Go.RowKit
open Go.IntKind (i64)
def qj2 (b_12 : List Int) (b_13 : List Int) (b_14 : List GNode) (b_15 : List GEdge) (b_16 : List (List (List GHop))) (b_17 : Int) (a_24 : List GPoint) (a_25 : List (Arr2 (List GItem))) (a_26 : List GPoint) (a_27 : List (Arr2 (List GItem))) (a_28 : List GWave) (a_29 : List GOut) : Option ((List GWave) × (List GOut) × Int) :=
 q9 (q27 a_29 (fun x0_ x1_ => q77 x0_ x1_)) (fun v_15 =>
 y9 (v_15.length = a_29.length) (
 some (a_28, v_15, 0)))
def qj4 (most_0 : Int) (rec_3 : Int × (List Int) × (List Int) × (List GNode) × (List GEdge) × (List (List (List GHop))) × Int × (List GPoint) × (List (Arr2 (List GItem))) × (List GPoint) × (List (Arr2 (List GItem))) × (List GWave) × (List GOut) → Option ((List GWave) × (List GOut) × Int)) : Int × (List Int) × (List Int) × (List GNode) × (List GEdge) × (List (List (List GHop))) × Int × (List GPoint) × (List (Arr2 (List GItem))) × (List GPoint) × (List (Arr2 (List GItem))) × (List GWave) × (List GOut) → Option ((List GWave) × (List GOut) × Int) :=
 fun (i_6, b_24, b_25, b_26, b_27, b_28, b_29, a_36, a_37, a_38, a_39, a_40, a_41) =>
 (if (decide (0 ≤ i_6)) = true then q9 (q0l (⟨(⟨a_36, a_37⟩ : GWave_pool), (⟨b_24, b_25, b_26, b_27⟩ : GGraph), b_28, (⟨a_38, a_39⟩ : GWave_pool), b_29, a_40, a_41⟩ : GWave_runner) i_6) (fun v_21 =>
 (if ((!v_21.1) || (decide (most_0 < v_21.2.work))) = true then some (([] : List GWave), ([] : List GOut), 9)
 else q9 (q0c v_21.2) (fun v_22 =>
 rec_3 (v_22.1, v_22.2.g.Parent, v_22.2.g.Bound, v_22.2.g.Nodes, v_22.2.g.Edges, v_22.2.table, v_22.2.work, v_22.2.pool.points, v_22.2.pool.in_, v_22.2.past.points, v_22.2.past.in_, v_22.2.waves, v_22.2.outs))))
 else qj2 b_24 b_25 b_26 b_27 b_28 b_29 a_36 a_37 a_38 a_39 a_40 a_41)
def qj3 (g_0 : GGraph) (most_0 : Int) (v_1 : List (List (List GHop))) (a_10 : List GPoint) (a_11 : List (Arr2 (List GItem))) : Option ((List GWave) × (List GOut) × Int) :=
 q9 (q0c (⟨(⟨a_10, a_11⟩ : GWave_pool), g_0, v_1, (⟨([] : List GPoint), ([] : List (Arr2 (List GItem)))⟩ : GWave_pool), 0, ([] : List GWave), ([] : List GOut)⟩ : GWave_runner)) (fun v_16 =>
 u7 (qj4 most_0) rounds (v_16.1, v_16.2.g.Parent, v_16.2.g.Bound, v_16.2.g.Nodes, v_16.2.g.Edges, v_16.2.table, v_16.2.work, v_16.2.pool.points, v_16.2.pool.in_, v_16.2.past.points, v_16.2.past.in_, v_16.2.waves, v_16.2.outs))
def q7u (t25_3 : Int) (rec_4 : (Int × (List GPoint) × (List (Arr2 (List GItem))) → Option ((List GWave) × (List GOut) × Int))) (xv_10 : GFeed) (i_9 : Int) (a_50 : List GPoint) (a_51 : List (Arr2 (List GItem))) : Option ((List GWave) × (List GOut) × Int) :=
 q9 (idx a_51 i_9) (fun xv_11 =>
 q9 (q6a xv_11.a0 ([(⟨xv_10.Rec, 1⟩ : GItem)] : List GItem)) (fun v_28 =>
 rec_4 (i64.wrap (t25_3 + 1), a_50, (List.set a_51 (i_9.toNat) (⟨v_28, xv_11.a1⟩ : Arr2 (List GItem))))))
def q9q (g_0 : GGraph) (feeds_0 : List GFeed) (most_0 : Int) (v_1 : List (List (List GHop))) (rec_4 : Int × (List GPoint) × (List (Arr2 (List GItem))) → Option ((List GWave) × (List GOut) × Int)) : Int × (List GPoint) × (List (Arr2 (List GItem))) → Option ((List GWave) × (List GOut) × Int) :=
 fun (t25_3, a_48, a_49) =>
 (if (decide (t25_3 < (feeds_0.length : Int))) = true then q9 (idx feeds_0 t25_3) (fun xv_10 =>
 (if ((List.length ([(⟨xv_10.Rec, 1⟩ : GItem)] : List GItem) : Int) == 0) = true then rec_4 (i64.wrap (t25_3 + 1), a_48, a_49)
 else q9 (q2l a_48 (⟨xv_10.Node, (⟨1, (⟨xv_10.Epoch, 0, 0, 0⟩ : Arr4 Int)⟩ : GTime)⟩ : GPoint)) (fun v_27 =>
 (if (decide (v_27 < 0)) = true then y9 ((a_48.length + List.length ([(⟨xv_10.Node, (⟨1, (⟨xv_10.Epoch, 0, 0, 0⟩ : Arr4 Int)⟩ : GTime)⟩ : GPoint)] : List GPoint)) * 48 ≤ 140737488355328) (
 y9 ((a_49.length + List.length ([(⟨([] : List GItem), ([] : List GItem)⟩ : Arr2 (List GItem))] : List (Arr2 (List GItem)))) * 48 ≤ 140737488355328) (
 q7u t25_3 rec_4 xv_10 (a_48.length : Int) (a_48 ++ ([(⟨xv_10.Node, (⟨1, (⟨xv_10.Epoch, 0, 0, 0⟩ : Arr4 Int)⟩ : GTime)⟩ : GPoint)] : List GPoint)) (a_49 ++ ([(⟨([] : List GItem), ([] : List GItem)⟩ : Arr2 (List GItem))] : List (Arr2 (List GItem))))))
 else q7u t25_3 rec_4 xv_10 v_27 a_48 a_49))))
 else qj3 g_0 most_0 v_1 a_48 a_49)
def q9c (g_0 : GGraph) (feeds_0 : List GFeed) (most_0 : Int) : Option ((List GWave) × (List GOut) × Int) :=
 q9 (qd7 g_0 feeds_0 most_0) (fun v_0 =>
 (if (!v_0) = true then some (([] : List GWave), ([] : List GOut), 1)
 else q9 (q51 g_0) (fun (v_1 : List (List (List GHop))) =>
 u7 (q9q g_0 feeds_0 most_0 v_1) rounds (0, [], []))))
theorem qq2 (g_0 : GGraph) (feeds_0 : List GFeed) (most_0 : Int)  (r : (List GWave) × (List GOut) × Int) (h : q9c g_0 feeds_0 most_0 = some r) : DetS pp 7 [.agg (Row.row g_0), .sl 4 (enc feeds_0), .v (.int .i64 most_0)] [] 0 (.tup [.osl 0 8 (0) (r.1.length), .osl 1 4 (0) (r.2.1.length), .v (.int .i64 r.2.2)]) [(0, .arr 8 (enc r.1)), (1, .arr 4 (enc r.2.1))] 2 := by
 refine dtI Tryz.func7 rfl ?_; rw [q9c] at h; have F := trivial; refine sM ?_; refine sg fun _ Q2 => ?_; refine sg fun _ Q3 => ?_; simp only [go_sem]; refine q1s h fun v_0 h => ?_; simp only [go_sem]; refine q8 Q3 (sB h (fun _ h => ?_) fun _ h => ?_)
 · exact au
 ·
  refine y5 (q8 Q2 (sg fun _ Q5 => ?_)); refine p9 ?_; refine j4u ?_; obtain ⟨v_1, ev_1, h⟩ := z8 h; simp only [go_sem]; refine callq (fun _ => (z3y g_0 v_1 ev_1)) (by rfl) (by rfl) ?_; simp only [go_sem]; refine q8 Q5 (q2s (fun ((a_10, a_11) : (List GPoint) × (List (Arr2 (List GItem)))) => qj3 g_0 most_0 v_1 a_10 a_11 = some r) [2] (fun x => ([(9, .ptr 0 0)], [(0, .box [.osl 1 6 (0) (x.1.length), .osl 2 2 (0) (x.2.length), .sl 1 (enc g_0.Parent), .sl 1 (enc g_0.Bound), .sl 4 (enc g_0.Nodes), .sl 4 (enc g_0.Edges), .sl 1 (enc v_1), .v (.slice none 0 0), .v (.slice none 0 0), .v (.int .i64 0), .v (.slice none 0 0), .v (.slice none 0 0)]), (1, .arr 6 (enc x.1)), (2, .arr 2 (enc x.2))])) 3 ?_ ?_)
  ·
   intro _ Q18; refine sM ?_; refine w9 fun _ Q20 => ?_; refine q0a h [2, 23, 24] (fun x => ([(9, .ptr 0 0), (25, .v (.int .i64 x.1))], [(0, .box [.osl 1 6 (0) (x.2.1.length), .osl 2 2 (0) (x.2.2.length), .sl 1 (enc g_0.Parent), .sl 1 (enc g_0.Bound), .sl 4 (enc g_0.Nodes), .sl 4 (enc g_0.Edges), .sl 1 (enc v_1), .v (.slice none 0 0), .v (.slice none 0 0), .v (.int .i64 0), .v (.slice none 0 0), .v (.slice none 0 0)]), (1, .arr 6 (enc x.2.1)), (2, .arr 2 (enc x.2.2))])) 3 ?_; rintro m_4 ⟨t25_3, a_48, a_49⟩ h _ Q21; rw [q9q] at h; refine sM ?_; refine sg fun _ Q23 => ?_; refine sB h (fun _ h => ?_) fun _ h => ?_
   ·
    refine y5 (q8 Q23 (sg fun _ Q24 => ?_)); refine w9 fun _ Q25 => ?_; refine sg fun _ Q26 => ?_; obtain ⟨xv_10, F, h⟩ := bI F h; simp only [go_sem, F]; refine ai ?_; refine q8 Q26 (p9 ?_); refine j4u ?_; have rf_42 : [[.v (.int .i64 xv_10.Rec.K), .v (.int .i64 xv_10.Rec.V), .v (.int .i64 1)]] = enc ([(⟨xv_10.Rec, 1⟩ : GItem)] : List GItem) := by rfl
    simp only [go_sem]; simp only [rf_42]; refine q4q Tryz.func17 rfl (by kernel_rfl) (by kernel_rfl) ?_; refine sM ?_; refine sg fun _ Q28 => ?_; refine sM ?_; refine sB h (fun _ h => ?_) fun _ h => ?_
    ·
     refine q05 (q0q Q28 ?_); simp only [go_sem]; refine q10 [some 4] [(0, .box [.osl 1 6 (0) (a_48.length), .osl 2 2 (0) (a_49.length), .sl 1 (enc g_0.Parent), .sl 1 (enc g_0.Bound), .sl 4 (enc g_0.Nodes), .sl 4 (enc g_0.Edges), .sl 1 (enc v_1), .v (.slice none 0 0), .v (.slice none 0 0), .v (.int .i64 0), .v (.slice none 0 0), .v (.slice none 0 0)]), (1, .arr 6 (enc a_48)), (2, .arr 2 (enc a_49)), (3, .box (Row.row xv_10)), (4, .box [.v (.int .i64 xv_10.Node), .v (.int .i64 1), .v (.int .i64 xv_10.Epoch), .v (.int .i64 0), .v (.int .i64 0), .v (.int .i64 0)])] 5 (.tup []) ?_ ?_
     · exact leA
     refine q1h ?_; simp only [go_sem]; exact au
    ·
     refine y5 (q8 Q28 (sg fun _ Q30 => ?_)); refine p9 ?_; refine j4u ?_; obtain ⟨v_27, ev_27, h⟩ := z8 h; simp only [go_sem]; refine qi7 (q7o a_48 (⟨xv_10.Node, (⟨1, (⟨xv_10.Epoch, 0, 0, 0⟩ : Arr4 Int)⟩ : GTime)⟩ : GPoint) v_27 ev_27) ?_; simp only [go_sem]; refine q8 Q30 (q2s (fun ((i_9, a_50, a_51) : Int × (List GPoint) × (List (Arr2 (List GItem)))) => q7u t25_3 (u7 (q9q g_0 feeds_0 most_0 v_1) m_4) xv_10 i_9 a_50 a_51 = some r) [0, 2, 3] (fun x => ([(8, .v (.int .i64 x.1))], [(0, .box [.osl 4 6 (0) (x.2.1.length), .osl 5 2 (0) (x.2.2.length), .sl 1 (enc g_0.Parent), .sl 1 (enc g_0.Bound), .sl 4 (enc g_0.Nodes), .sl 4 (enc g_0.Edges), .sl 1 (enc v_1), .v (.slice none 0 0), .v (.slice none 0 0), .v (.int .i64 0), .v (.slice none 0 0), .v (.slice none 0 0)]), (3, .box (Row.row xv_10)), (4, .arr 6 (enc x.2.1)), (5, .arr 2 (enc x.2.2))])) 6 ?_ ?_)
     ·
      intro _ Q31; refine sM ?_; refine sB h (fun _ h => ?_) fun _ h => ?_
      ·
       refine sM ?_; refine sg fun _ Q34 => ?_; refine p9 ?_; refine q2n 8 0 0 [0, 0, 2, 6, 14, 0, 32, 126, 255, 511, 1023] [1, 5] [0] [] [7] [] mixed (by kernel_rfl) (of_decide_eq_true (by kernel_rfl)) (by kernel_rfl) (by kernel_rfl) (by rfl) ?_; have rf_48 : [[.v (.int .i64 xv_10.Node), .v (.int .i64 1), .v (.int .i64 xv_10.Epoch), .v (.int .i64 0), .v (.int .i64 0), .v (.int .i64 0)]] = enc ([(⟨xv_10.Node, (⟨1, (⟨xv_10.Epoch, 0, 0, 0⟩ : Arr4 Int)⟩ : GTime)⟩ : GPoint)] : List GPoint) := by rfl
       obtain ⟨g_24, h⟩ := q0r h; have F := And.intro F g_24; simp only [List.length_cons, List.length_nil, Nat.zero_add, List.length_append] at g_24; have rf_49 : enc a_48 ++ [[.v (.int .i64 xv_10.Node), .v (.int .i64 1), .v (.int .i64 xv_10.Epoch), .v (.int .i64 0), .v (.int .i64 0), .v (.int .i64 0)]] = enc (a_48 ++ ([(⟨xv_10.Node, (⟨1, (⟨xv_10.Epoch, 0, 0, 0⟩ : Arr4 Int)⟩ : GTime)⟩ : GPoint)] : List GPoint)) := by exact (q3h a_48 ([(⟨xv_10.Node, (⟨1, (⟨xv_10.Epoch, 0, 0, 0⟩ : Arr4 Int)⟩ : GTime)⟩ : GPoint)] : List GPoint)).symm
       simp only [go_sem, g_24, rf_49]; simp only [rf_48]; refine q8 Q34 ?_; have rf_50 : [[.sl 3 (enc ([] : List GItem)), .sl 3 (enc ([] : List GItem))]] = enc ([(⟨([] : List GItem), ([] : List GItem)⟩ : Arr2 (List GItem))] : List (Arr2 (List GItem))) := by rfl
       have rf_50n := rf_50; simp only [q3y] at rf_50n; obtain ⟨g_25, h⟩ := q0r h; have F := And.intro F g_25; simp only [List.length_cons, List.length_nil, Nat.zero_add, List.length_append] at g_25; have rf_51 : enc a_49 ++ [[.sl 3 (enc ([] : List GItem)), .sl 3 (enc ([] : List GItem))]] = enc (a_49 ++ ([(⟨([] : List GItem), ([] : List GItem)⟩ : Arr2 (List GItem))] : List (Arr2 (List GItem)))) := by exact (q3h a_49 ([(⟨([] : List GItem), ([] : List GItem)⟩ : Arr2 (List GItem))] : List (Arr2 (List GItem)))).symm
       simp only [go_sem, g_25, rf_51]; simp only [rf_50n, rf_50]; exact au
      · exact au
     ·
      rintro ⟨i_9, a_50, a_51⟩ h
      try dsimp only at h
      rw [q7u] at h; refine p9 ?_; refine j4u ?_; obtain ⟨xv_11, F, h⟩ := bI F h; obtain ⟨v_28, ev_28, h⟩ := z8 h; simp only [go_sem, F]; refine ai ?_; refine callq (fun _ => (qt7 xv_11.a0 ([(⟨xv_10.Rec, 1⟩ : GItem)] : List GItem) v_28 ev_28)) (by rfl) (by rfl) ?_; have rf_47 : (enc a_51).set (i_9.toNat) [.sl 3 (enc v_28), .sl 3 (enc xv_11.a1)] = enc (List.set a_51 (i_9.toNat) (⟨v_28, xv_11.a1⟩ : Arr2 (List GItem))) := by exact q5b a_51 (i_9.toNat) (⟨v_28, xv_11.a1⟩ : Arr2 (List GItem))
      simp only [go_sem, rf_47, F]; refine ai ?_; refine q10 [some 4, some 5] [(0, .box [.osl 4 6 (0) (a_50.length), .osl 5 2 (0) (a_51.length), .sl 1 (enc g_0.Parent), .sl 1 (enc g_0.Bound), .sl 4 (enc g_0.Nodes), .sl 4 (enc g_0.Edges), .sl 1 (enc v_1), .v (.slice none 0 0), .v (.slice none 0 0), .v (.int .i64 0), .v (.slice none 0 0), .v (.slice none 0 0)]), (3, .box (Row.row xv_10)), (4, .arr 6 (enc a_50)), (5, .arr 2 (enc (List.set a_51 (i_9.toNat) (⟨v_28, xv_11.a1⟩ : Arr2 (List GItem)))))] 6 (.tup []) ?_ ?_
      · exact leA
      refine q1h ?_; simp only [go_sem]; exact au
   · exact au
  ·
   rintro ⟨a_10, a_11⟩ h
   try dsimp only at h
   rw [qj3] at h; refine q2s (fun ((b_12, b_13, b_14, b_15, b_16, b_17, a_24, a_25, a_26, a_27, a_28, a_29) : (List Int) × (List Int) × (List GNode) × (List GEdge) × (List (List (List GHop))) × Int × (List GPoint) × (List (Arr2 (List GItem))) × (List GPoint) × (List (Arr2 (List GItem))) × (List GWave) × (List GOut)) => qj2 b_12 b_13 b_14 b_15 b_16 b_17 a_24 a_25 a_26 a_27 a_28 a_29 = some r) [9] (fun x => ([], [(0, .box [.osl 1 6 (0) (x.2.2.2.2.2.2.1.length), .osl 2 2 (0) (x.2.2.2.2.2.2.2.1.length), .sl 1 (enc x.1), .sl 1 (enc x.2.1), .sl 4 (enc x.2.2.1), .sl 4 (enc x.2.2.2.1), .sl 1 (enc x.2.2.2.2.1), .osl 3 6 (0) (x.2.2.2.2.2.2.2.2.1.length), .osl 4 2 (0) (x.2.2.2.2.2.2.2.2.2.1.length), .v (.int .i64 x.2.2.2.2.2.1), .osl 5 8 (0) (x.2.2.2.2.2.2.2.2.2.2.1.length), .osl 6 4 (0) (x.2.2.2.2.2.2.2.2.2.2.2.length)]), (1, .arr 6 (enc x.2.2.2.2.2.2.1)), (2, .arr 2 (enc x.2.2.2.2.2.2.2.1)), (3, .arr 6 (enc x.2.2.2.2.2.2.2.2.1)), (4, .arr 2 (enc x.2.2.2.2.2.2.2.2.2.1)), (5, .arr 8 (enc x.2.2.2.2.2.2.2.2.2.2.1)), (6, .arr 4 (enc x.2.2.2.2.2.2.2.2.2.2.2))])) 7 ?_ ?_
   ·
    intro _ Q8; refine sg fun _ Q9 => ?_; obtain ⟨v_16, ev_16, h⟩ := z8 h; simp only [go_sem]; refine q8g [2, 9] ([], [(0, .box [.osl 1 6 (0) (a_10.length), .osl 2 2 (0) (a_11.length), .sl 1 (enc g_0.Parent), .sl 1 (enc g_0.Bound), .sl 4 (enc g_0.Nodes), .sl 4 (enc g_0.Edges), .sl 1 (enc v_1), .osl 3 6 (0) (List.length ([] : List GPoint)), .osl 4 2 (0) (List.length ([] : List (Arr2 (List GItem)))), .v (.int .i64 0), .osl 5 8 (0) (List.length ([] : List GWave)), .osl 6 4 (0) (List.length ([] : List GOut))]), (1, .arr 6 (enc a_10)), (2, .arr 2 (enc a_11)), (3, .arr 6 (enc ([] : List GPoint))), (4, .arr 2 (enc ([] : List (Arr2 (List GItem))))), (5, .arr 8 (enc ([] : List GWave))), (6, .arr 4 (enc ([] : List GOut)))]) 7 [some 0, some 1, some 2, none, none, none, none] [.ptr 0 0] ?_; refine q18 [0, 1, 2, 3, 4, 5, 6] (q2u (⟨(⟨a_10, a_11⟩ : GWave_pool), g_0, v_1, (⟨([] : List GPoint), ([] : List (Arr2 (List GItem)))⟩ : GWave_pool), 0, ([] : List GWave), ([] : List GOut)⟩ : GWave_runner) v_16 ev_16) ?_; simp only [go_sem]; refine q8 Q9 (w9 fun _ Q10 => ?_); refine q0a h [2, 9] (fun x => ([(12, .v (.int .i64 x.1))], [(0, .box [.osl 1 6 (0) (x.2.2.2.2.2.2.2.1.length), .osl 2 2 (0) (x.2.2.2.2.2.2.2.2.1.length), .sl 1 (enc x.2.1), .sl 1 (enc x.2.2.1), .sl 4 (enc x.2.2.2.1), .sl 4 (enc x.2.2.2.2.1), .sl 1 (enc x.2.2.2.2.2.1), .osl 3 6 (0) (x.2.2.2.2.2.2.2.2.2.1.length), .osl 4 2 (0) (x.2.2.2.2.2.2.2.2.2.2.1.length), .v (.int .i64 x.2.2.2.2.2.2.1), .osl 5 8 (0) (x.2.2.2.2.2.2.2.2.2.2.2.1.length), .osl 6 4 (0) (x.2.2.2.2.2.2.2.2.2.2.2.2.length)]), (1, .arr 6 (enc x.2.2.2.2.2.2.2.1)), (2, .arr 2 (enc x.2.2.2.2.2.2.2.2.1)), (3, .arr 6 (enc x.2.2.2.2.2.2.2.2.2.1)), (4, .arr 2 (enc x.2.2.2.2.2.2.2.2.2.2.1)), (5, .arr 8 (enc x.2.2.2.2.2.2.2.2.2.2.2.1)), (6, .arr 4 (enc x.2.2.2.2.2.2.2.2.2.2.2.2))])) 7 ?_; rintro m_3 ⟨i_6, b_24, b_25, b_26, b_27, b_28, b_29, a_36, a_37, a_38, a_39, a_40, a_41⟩ h _ Q11; rw [qj4] at h; refine sg fun _ Q12 => ?_; refine sM ?_
    refine sB h (fun _ h => ?_) fun _ h => ?_
    ·
     refine y5 (q8 Q12 (sg fun _ Q14 => ?_)); refine w9 fun _ Q15 => ?_; refine sg fun _ Q16 => ?_; obtain ⟨v_21, ev_21, h⟩ := z8 h; simp only [go_sem]; refine q18 [0, 1, 2, 3, 4, 5, 6] (q5y (⟨(⟨a_36, a_37⟩ : GWave_pool), (⟨b_24, b_25, b_26, b_27⟩ : GGraph), b_28, (⟨a_38, a_39⟩ : GWave_pool), b_29, a_40, a_41⟩ : GWave_runner) i_6 v_21 ev_21) ?_; simp only [go_sem]; refine q8 Q16 (sB h (fun _ h => ?_) fun _ h => ?_)
     · exact au
     · refine y5 (q0b Q15 (q8 Q14 ?_)); obtain ⟨v_22, ev_22, h⟩ := z8 h; simp only [go_sem]; refine q18 [0, 7, 8, 9, 10, 11, 12] (q2u v_21.2 v_22 ev_22) ?_; simp only [go_sem]; exact au
    · refine q11 (q1g Q12 (q12 Q11 (q0s Q10 (u6 Q8 (⟨(b_24, b_25, b_26, b_27, b_28, b_29, a_36, a_37, a_38, a_39, a_40, a_41), [some 0, some 1, some 2, some 3, some 4, some 5, some 6], ?_, h⟩))))); exact leA
   ·
    rintro ⟨b_12, b_13, b_14, b_15, b_16, b_17, a_24, a_25, a_26, a_27, a_28, a_29⟩ h
    try dsimp only at h
    rw [qj2] at h; refine sg fun _ Q6 => ?_; obtain ⟨v_15, ev_15, h⟩ := z8 h; simp only [go_sem]; refine q18 [6] (qe2 a_29 (fun x0_ x1_ => q77 x0_ x1_) 21 [] (by rfl) (by kernel_rfl) (fun y0 y1 r_ e_ => z5h y0 y1 r_ e_) v_15 ev_15) ?_; obtain ⟨F, h⟩ := bG F h; simp only [go_sem, F]; exact au
instance j2n (g_0 : GGraph) (feeds_0 : List GFeed) (most_0 : Int) : Ct pp 7 (q9c g_0 feeds_0 most_0) [.agg (Row.row g_0), .sl 4 (enc feeds_0), .v (.int .i64 most_0)] fun r => (.tup [.sl 8 (enc r.1), .sl 4 (enc r.2.1), .v (.int .i64 r.2.2)]) := ⟨fun r h => (qq2 g_0 feeds_0 most_0  r h).pure leA⟩
def q6l  : Option Bool :=
 q9 (q9c (⟨([-1] : List Int), ([0] : List Int), ([(⟨1, 0, 0, ([] : List GIns)⟩ : GNode), (⟨15, 0, 0, ([] : List GIns)⟩ : GNode)] : List GNode), ([(⟨0, 1, 0, false⟩ : GEdge)] : List GEdge)⟩ : GGraph) ([(⟨0, 3, (⟨1, 0⟩ : GRec)⟩ : GFeed)] : List GFeed) 9) (fun v_0 =>
 (if ((v_0.2.2 == 0) && ((v_0.1.length : Int) == 2)) = true then q9 (idx v_0.1 0) (fun xv_0 =>
 (if (xv_0.Gave == 1) = true then q9 (idx v_0.1 1) (fun xv_1 =>
 (if (xv_1.Came == 1) = true then (if ((xv_1.Point.Node == 1) && ((v_0.2.1.length : Int) == 1)) = true then q9 (idx v_0.2.1 0) (fun xv_2 =>
 some (xv_2.Epoch == 3))
 else some false)
 else some false))
 else some false))
 else some false))
instance z9l  : Ct pp 5 (q6l ) [] fun r => (.v (.bool r)) := ctK Tryz.func5 rfl (by rw [q6l]) (by
 intro r h F; refine sM ?_; refine sg fun _ Q2 => ?_; have rf_0 : [[.v (.int .i64 (-1))]] = enc ([-1] : List Int) := by rfl
 have rf_1 : [[.v (.int .i64 0)]] = enc ([0] : List Int) := by rfl
 have rf_2 : [[.v (.int .i64 1), .v (.int .i64 0), .v (.int .i64 0), .sl 2 (enc ([] : List GIns))], [.v (.int .i64 15), .v (.int .i64 0), .v (.int .i64 0), .sl 2 (enc ([] : List GIns))]] = enc ([(⟨1, 0, 0, ([] : List GIns)⟩ : GNode), (⟨15, 0, 0, ([] : List GIns)⟩ : GNode)] : List GNode) := by rfl
 have rf_2n := rf_2; simp only [q3y] at rf_2n; have rf_3 : [[.v (.int .i64 0), .v (.int .i64 1), .v (.int .i64 0), .v (.bool false)]] = enc ([(⟨0, 1, 0, false⟩ : GEdge)] : List GEdge) := by rfl
 simp only [go_sem]; simp only [rf_0, rf_1, rf_2n, rf_2, rf_3]; refine q8 Q2 (sg fun _ Q3 => ?_); have rf_4 : [[.v (.int .i64 0), .v (.int .i64 3), .v (.int .i64 1), .v (.int .i64 0)]] = enc ([(⟨0, 3, (⟨1, 0⟩ : GRec)⟩ : GFeed)] : List GFeed) := by rfl
 obtain ⟨v_0, ev_0, h⟩ := z8 h; simp only [go_sem]; simp only [rf_4]; refine q8g [] ([], [(0, .box [.sl 1 (enc ([-1] : List Int)), .sl 1 (enc ([0] : List Int)), .sl 4 (enc ([(⟨1, 0, 0, ([] : List GIns)⟩ : GNode), (⟨15, 0, 0, ([] : List GIns)⟩ : GNode)] : List GNode)), .sl 4 (enc ([(⟨0, 1, 0, false⟩ : GEdge)] : List GEdge))])]) 1 [some 4] [.agg [.sl 1 (enc ([-1] : List Int)), .sl 1 (enc ([0] : List Int)), .sl 4 (enc ([(⟨1, 0, 0, ([] : List GIns)⟩ : GNode), (⟨15, 0, 0, ([] : List GIns)⟩ : GNode)] : List GNode)), .sl 4 (enc ([(⟨0, 1, 0, false⟩ : GEdge)] : List GEdge))], .sl 4 (enc ([(⟨0, 3, (⟨1, 0⟩ : GRec)⟩ : GFeed)] : List GFeed)), .v (.int .i64 9)] ?_; refine q18 [] (qq2 (⟨([-1] : List Int), ([0] : List Int), ([(⟨1, 0, 0, ([] : List GIns)⟩ : GNode), (⟨15, 0, 0, ([] : List GIns)⟩ : GNode)] : List GNode), ([(⟨0, 1, 0, false⟩ : GEdge)] : List GEdge)⟩ : GGraph) ([(⟨0, 3, (⟨1, 0⟩ : GRec)⟩ : GFeed)] : List GFeed) 9 v_0 ev_0) ?_; simp only [go_sem]; exact au)
def q5a (g_0 : GGraph) (feeds_0 : List GFeed) : Option Bool :=
 q9 (q59 g_0) (fun v_0 =>
 some (v_0 && (decide ((feeds_0.length : Int) ≤ 40))))
instance z9k (g_0 : GGraph) (feeds_0 : List GFeed) : Ct pp 6 (q5a g_0 feeds_0) [.agg (Row.row g_0), .sl 4 (enc feeds_0)] fun r => (.v (.bool r)) := ctI Tryz.func6 rfl (by rw [q5a]; exact au1)
def q6h (g_0 : GGraph) (v_2 : (List GWave) × (List GOut) × Int) (rec_1 : Int → Option Bool) : Int → Option Bool :=
 fun i_1 =>
 (if (decide (i_1 < (v_2.1.length : Int))) = true then q9 (idx v_2.1 (i64.wrap (i_1 - 1))) (fun xv_4 =>
 q9 (idx v_2.1 i_1) (fun xv_5 =>
 (if (decide (xv_5.Point.Node < xv_4.Point.Node)) = true then q9 (q51 g_0) (fun (v_16 : List (List (List GHop))) =>
 q9 (q1q v_16 xv_4.Point.Node xv_4.Point.Time xv_5.Point.Node xv_5.Point.Time) (fun v_17 =>
 (if (!v_17) = true then some false
 else rec_1 (i64.wrap (i_1 + 1)))))
 else (if (xv_5.Point.Node == xv_4.Point.Node) = true then q9 (q5m xv_5.Point.Time xv_4.Point.Time) (fun v_13 =>
 (if v_13 = true then q9 (q51 g_0) (fun (v_14 : List (List (List GHop))) =>
 q9 (q1q v_14 xv_4.Point.Node xv_4.Point.Time xv_5.Point.Node xv_5.Point.Time) (fun v_15 =>
 (if (!v_15) = true then some false
 else rec_1 (i64.wrap (i_1 + 1)))))
 else rec_1 (i64.wrap (i_1 + 1))))
 else rec_1 (i64.wrap (i_1 + 1))))))
 else some true)
def q4d (g_0 : GGraph) (feeds_0 : List GFeed) : Option Bool :=
 q9 (q6l) (fun v_0 =>
 (if (!v_0) = true then some false
 else q9 (q5a g_0 feeds_0) (fun v_1 =>
 (if (!v_1) = true then some true
 else q9 (q9c g_0 feeds_0 400) (fun v_2 =>
 (if (!(v_2.2.2 == 0)) = true then some true
 else u7 (q6h g_0 v_2) rounds 1))))))
instance qs8 (g_0 : GGraph) (feeds_0 : List GFeed) : Ct pp 3 (q4d g_0 feeds_0) [.agg (Row.row g_0), .sl 4 (enc feeds_0)] fun r => (.v (.bool r)) := ctK Tryz.func3 rfl (by rw [q4d]) (by
 intro r h F; refine sM ?_; refine sg fun _ Q2 => ?_; refine sg fun _ Q3 => ?_; simp only [go_sem]; refine q1s h fun v_0 h => ?_; simp only [go_sem]; refine q8 Q3 (sB h (fun _ h => ?_) fun _ h => ?_)
 · exact au
 ·
  refine y5 (q8 Q2 (sg fun _ Q5 => ?_)); refine sg fun _ Q6 => ?_; simp only [go_sem]; refine q1s h fun v_1 h => ?_; simp only [go_sem]; refine q8 Q6 (sB h (fun _ h => ?_) fun _ h => ?_)
  · exact au
  ·
   refine y5 (q8 Q5 (sg fun _ Q8 => ?_)); obtain ⟨v_2, ev_2, h⟩ := z8 h; simp only [go_sem]; refine q18 [] (qq2 g_0 feeds_0 400 v_2 ev_2) ?_; simp only [go_sem]; refine q8 Q8 (sg fun _ Q9 => ?_); refine sM ?_; refine sB h (fun _ h => ?_) fun _ h => ?_
   · exact au
   ·
    refine y5 (q8 Q9 (jg fun _ Q12 => ?_)); refine sM ?_; refine w9 fun _ Q14 => ?_; refine q0a h [2, 5] (fun i_1 => ([(8, .v (.int .i64 i_1))], [(0, .box (Row.row g_0)), (1, .arr 8 (enc v_2.1))])) 2 ?_; rintro m_1 i_1 h _ Q15; rw [q6h] at h; refine sg fun _ Q16 => ?_; refine sM ?_; refine sB h (fun _ h => ?_) fun _ h => ?_
    · refine y5 (q8 Q16 (sg fun _ Q18 => ?_)); refine w9 fun _ Q19 => ?_; refine sg fun _ Q20 => ?_; refine p9 ?_; refine q2n 14 0 13 [0, 0, 2, 7, 15, 31, 0, 0, 192, 448, 960, 0, 0, 6207, 16383] [2, 3] [0, 1, 2, 3, 4, 5, 6, 7, 8, 9, 10] [] [13] [11, 12] mixed (by kernel_rfl) (of_decide_eq_true (by kernel_rfl)) (by kernel_rfl) (by kernel_rfl) (by rfl) ?_; obtain ⟨xv_4, F, h⟩ := bI F h; obtain ⟨xv_5, F, h⟩ := bI F h; simp only [go_sem, F]; refine ai ?_; refine ai ?_; exact au
    · exact au)
end Go.Proofs.YtghbgjnmccjhdaaGreat
