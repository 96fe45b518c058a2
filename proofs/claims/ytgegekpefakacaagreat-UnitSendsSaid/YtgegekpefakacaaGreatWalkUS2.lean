/-
  What functions of the program compute, each told as a plain function that may give nothing, with the proof that the code does so. No condition beyond those that each theorem names.
-/
import Derived.Test.YtgegekpefakacaaGreatWalkUS0
import Derived.Test.YtgegekpefakacaaGreatWalkUS1
set_option linter.unusedSimpArgs false
set_option linter.unusedVariables false
set_option linter.unusedSectionVars false
set_option maxHeartbeats 2000000
set_option maxRecDepth 100000
namespace Go.Proofs.YtgegekpefakacaaGreat
open Go Go.RowKit
open Go.IntKind (i64)
def qw6 (t_0 : GTime) : Option (GTime × Bool) :=
 q9 (q21 t_0) (fun v_0 =>
 (if ((!v_0) || (t_0.D == 1)) = true then some ((⟨0, (⟨0, 0, 0, 0⟩ : Arr4 Int)⟩ : GTime), false)
 else x9 (0 ≤ i64.wrap (t_0.D - 1) ∧ i64.wrap (t_0.D - 1) < 4) (
 q9 (some (if Int.toNat (i64.wrap (t_0.D - 1)) = 0 then 0 else t_0.C.a0)) (fun w_0 =>
 q9 (some (if Int.toNat (i64.wrap (t_0.D - 1)) = 1 then 0 else t_0.C.a1)) (fun w_1 =>
 q9 (some (if Int.toNat (i64.wrap (t_0.D - 1)) = 2 then 0 else t_0.C.a2)) (fun w_2 =>
 q9 (some (if Int.toNat (i64.wrap (t_0.D - 1)) = 3 then 0 else t_0.C.a3)) (fun w_3 =>
 some ((⟨i64.wrap (t_0.D - 1), (⟨w_0, w_1, w_2, w_3⟩ : Arr4 Int)⟩ : GTime), true))))))))
instance j79 (t_0 : GTime) : Ct pp 63 (qw6 t_0) [.agg (Row.row t_0)] fun r => (.tup [.agg (Row.row r.1), .v (.bool r.2)]) := ctK Tryz.func63 rfl (by rw [qw6]) (by
 intro r h F; refine sM ?_; refine sg fun _ Q2 => ?_; refine sg fun _ Q3 => ?_; simp only [go_sem]; refine q0o h fun v_0 h => ?_; simp only [go_sem]; refine q8 Q3 (sB h (fun _ h => ?_) fun _ h => ?_)
 · exact au
 · refine y5 (q8 Q2 (sM ?_)); refine sg fun _ Q6 => ?_; obtain ⟨F, h⟩ := bG F h; obtain ⟨w_0, ew_0, h⟩ := z8 h; obtain ⟨w_1, ew_1, h⟩ := z8 h; obtain ⟨w_2, ew_2, h⟩ := z8 h; obtain ⟨w_3, ew_3, h⟩ := z8 h; have sf_0 := qv4 (f := (fun y => AV.v (.int .i64 y))) [.v (.int .i64 (i64.wrap (t_0.D - 1)))] [] [t_0.C.a0, t_0.C.a1, t_0.C.a2, t_0.C.a3] [w_0, w_1, w_2, w_3] (Int.toNat (i64.wrap (t_0.D - 1))) 0 (by simp only [List.length_cons, List.length_nil]; omega) (by simp only [List.mapIdx_cons, List.mapIdx_nil, Nat.zero_add, Nat.reduceAdd, Option.some.inj ew_0, Option.some.inj ew_1, Option.some.inj ew_2, Option.some.inj ew_3]); simp only [List.cons_append, List.nil_append, List.append_nil, List.map_cons, List.map_nil, List.length_cons, List.length_nil, Nat.zero_add, Nat.reduceAdd, q64, Nat.add_assoc, q37] at sf_0; simp only [go_sem, sf_0, Nat.mul_one, F]; refine ai ?_; exact au)
def z0o (t_0 : GTime) : Option (GTime × Bool) :=
 q9 (q21 t_0) (fun v_0 =>
 (if v_0 = true then x9 (0 ≤ i64.wrap (t_0.D - 1) ∧ i64.wrap (t_0.D - 1) < 4) (
 q9 (idx ([t_0.C.a0, t_0.C.a1, t_0.C.a2, t_0.C.a3] : List Int) (i64.wrap (t_0.D - 1))) (fun xv_0 =>
 q9 (qa0 (i64.wrap (t_0.D - 1))) (fun v_1 =>
 (if (xv_0 == v_1) = true then some ((⟨0, (⟨0, 0, 0, 0⟩ : Arr4 Int)⟩ : GTime), false)
 else x9 (0 ≤ i64.wrap (t_0.D - 1) ∧ i64.wrap (t_0.D - 1) < 4) (
 q9 (idx ([t_0.C.a0, t_0.C.a1, t_0.C.a2, t_0.C.a3] : List Int) (i64.wrap (t_0.D - 1))) (fun xv_1 =>
 x9 (0 ≤ i64.wrap (t_0.D - 1) ∧ i64.wrap (t_0.D - 1) < 4) (
 q9 (some (if Int.toNat (i64.wrap (t_0.D - 1)) = 0 then i64.wrap (xv_1 + 1) else t_0.C.a0)) (fun w_0 =>
 q9 (some (if Int.toNat (i64.wrap (t_0.D - 1)) = 1 then i64.wrap (xv_1 + 1) else t_0.C.a1)) (fun w_1 =>
 q9 (some (if Int.toNat (i64.wrap (t_0.D - 1)) = 2 then i64.wrap (xv_1 + 1) else t_0.C.a2)) (fun w_2 =>
 q9 (some (if Int.toNat (i64.wrap (t_0.D - 1)) = 3 then i64.wrap (xv_1 + 1) else t_0.C.a3)) (fun w_3 =>
 some ((⟨t_0.D, (⟨w_0, w_1, w_2, w_3⟩ : Arr4 Int)⟩ : GTime), true))))))))))))
 else some ((⟨0, (⟨0, 0, 0, 0⟩ : Arr4 Int)⟩ : GTime), false)))
instance j8f (t_0 : GTime) : Ct pp 64 (z0o t_0) [.agg (Row.row t_0)] fun r => (.tup [.agg (Row.row r.1), .v (.bool r.2)]) := ctK Tryz.func64 rfl (by rw [z0o]) (by
 intro r h F; refine sM ?_; refine sg fun _ Q2 => ?_; refine sg fun _ Q3 => ?_; refine q02 ?_; refine j9m ?_; obtain ⟨v_0, ev_0, h⟩ := z8 h; simp only [go_sem]; refine callq (fun _ => (z5m t_0 v_0 ev_0)) (by rfl) (by rfl) ?_; simp only [go_sem]; rcases hb_0 : v_0 with _ | _
 · replace h := q1m h hb_0; simp only [go_sem, hb_0]; exact au
 ·
  replace h := q1l h hb_0; obtain ⟨F, h⟩ := bG F h; obtain ⟨xv_0, ex0, h⟩ := z8 h; obtain ⟨f0a, f0b, f0c, fxv_0d⟩ := q4k (f := (fun y => AV.v (.int .i64 y))) [.v (.int .i64 t_0.D)] [] ex0; simp only [List.cons_append, List.nil_append, List.append_nil, List.map_cons, List.map_nil, List.length_cons, List.length_nil, Nat.zero_add, Nat.reduceAdd] at f0b f0c fxv_0d; obtain ⟨v_1, ev_1, h⟩ := z8 h; simp only [go_sem, hb_0, f0a, f0b, f0c, fxv_0d, F]; refine ai ?_; simp only [List.getD_eq_getElem?_getD, Nat.mul_one, fxv_0d, Option.map_some, Option.getD_some, true_and]; refine callq (fun _ => (z8d (i64.wrap (t_0.D - 1)) v_1 ev_1)) (by rfl) (by rfl) ?_; simp only [go_sem]; refine q8 Q3 (sB h (fun _ h => ?_) fun _ h => ?_)
  · exact au
  · refine y5 (q8 Q2 (sg fun _ Q6 => ?_)); obtain ⟨F, h⟩ := bG F h; obtain ⟨xv_1, ex1, h⟩ := z8 h; obtain ⟨f1a, f1b, f1c, fxv_1d⟩ := q4k (f := (fun y => AV.v (.int .i64 y))) [.v (.int .i64 t_0.D)] [] ex1; simp only [List.cons_append, List.nil_append, List.append_nil, List.map_cons, List.map_nil, List.length_cons, List.length_nil, Nat.zero_add, Nat.reduceAdd] at f1b f1c fxv_1d; obtain ⟨F, h⟩ := bG F h; obtain ⟨w_0, ew_0, h⟩ := z8 h; obtain ⟨w_1, ew_1, h⟩ := z8 h; obtain ⟨w_2, ew_2, h⟩ := z8 h; obtain ⟨w_3, ew_3, h⟩ := z8 h; have sf_0 := qv4 (f := (fun y => AV.v (.int .i64 y))) [.v (.int .i64 t_0.D)] [] [t_0.C.a0, t_0.C.a1, t_0.C.a2, t_0.C.a3] [w_0, w_1, w_2, w_3] (Int.toNat (i64.wrap (t_0.D - 1))) (i64.wrap (xv_1 + 1)) (by simp only [List.length_cons, List.length_nil]; omega) (by simp only [List.mapIdx_cons, List.mapIdx_nil, Nat.zero_add, Nat.reduceAdd, Option.some.inj ew_0, Option.some.inj ew_1, Option.some.inj ew_2, Option.some.inj ew_3]); simp only [List.cons_append, List.nil_append, List.append_nil, List.map_cons, List.map_nil, List.length_cons, List.length_nil, Nat.zero_add, Nat.reduceAdd, q64, Nat.add_assoc, q37] at sf_0; simp only [go_sem, f1a, f1b, f1c, fxv_1d, sf_0, Nat.mul_one, F]; simp only [List.getD_eq_getElem?_getD, Nat.mul_one, fxv_1d, Option.map_some, Option.getD_some, true_and]; simp only [go_sem, f1a, f1b, f1c, fxv_1d, sf_0, Nat.mul_one, List.getD_eq_getElem?_getD, Nat.mul_one, fxv_1d, Option.map_some, Option.getD_some, true_and, F]; refine ai ?_; exact au)
def qm7 (g_0 : GGraph) (node_0 : Int) (t_0 : GTime) : Option (GTime × Bool) :=
 (if ((decide (node_0 < 0)) || (decide ((g_0.Nodes.length : Int) ≤ node_0))) = true then some ((⟨0, (⟨0, 0, 0, 0⟩ : Arr4 Int)⟩ : GTime), false)
 else q9 (q21 t_0) (fun v_0 =>
 (if v_0 = true then q9 (q7k g_0 node_0) (fun v_1 =>
 (if (!(t_0.D == v_1)) = true then some ((⟨0, (⟨0, 0, 0, 0⟩ : Arr4 Int)⟩ : GTime), false)
 else q9 (idx g_0.Nodes node_0) (fun xv_0 =>
 (if (xv_0.Kind == 10) = true then q9 (qw7 t_0) (fun v_2 =>
 some (v_2.1, v_2.2))
 else (if (xv_0.Kind == 11) = true then q9 (qw6 t_0) (fun v_3 =>
 some (v_3.1, v_3.2))
 else (if (xv_0.Kind == 12) = true then x9 (0 ≤ i64.wrap (t_0.D - 1) ∧ i64.wrap (t_0.D - 1) < 4) (
 q9 (idx ([t_0.C.a0, t_0.C.a1, t_0.C.a2, t_0.C.a3] : List Int) (i64.wrap (t_0.D - 1))) (fun xv_1 =>
 q9 (idx g_0.Bound xv_0.Scope) (fun xv_2 =>
 (if (decide (xv_2 ≤ (i64.wrap (xv_1 + 1)))) = true then some ((⟨0, (⟨0, 0, 0, 0⟩ : Arr4 Int)⟩ : GTime), false)
 else q9 (z0o t_0) (fun v_4 =>
 some (v_4.1, v_4.2))))))
 else some (t_0, true)))))))
 else some ((⟨0, (⟨0, 0, 0, 0⟩ : Arr4 Int)⟩ : GTime), false))))
instance j4j (g_0 : GGraph) (node_0 : Int) (t_0 : GTime) : Ct pp 21 (qm7 g_0 node_0 t_0) [.agg (Row.row g_0), .v (.int .i64 node_0), .agg (Row.row t_0)] fun r => (.tup [.agg (Row.row r.1), .v (.bool r.2)]) := ctK Tryz.func21 rfl (by rw [qm7]) (by
 intro r h F; refine sM ?_; refine sg fun _ Q2 => ?_; refine sg fun _ Q3 => ?_; refine q02 ?_; refine j9m ?_; simp only [go_sem]; rcases hb_0 : ((decide (node_0 < 0)) || (decide ((g_0.Nodes.length : Int) ≤ node_0))) with _ | _
 ·
  replace h := q1m h hb_0; obtain ⟨v_0, ev_0, h⟩ := z8 h; simp only [go_sem, hb_0]; refine callq (fun _ => (z5m t_0 v_0 ev_0)) (by rfl) (by rfl) ?_; simp only [go_sem]; rcases hb_1 : v_0 with _ | _
  · replace h := q1m h hb_1; simp only [go_sem, hb_1]; exact au
  ·
   replace h := q1l h hb_1; obtain ⟨v_1, ev_1, h⟩ := z8 h; simp only [go_sem, hb_1]; refine callq (fun _ => (z8b g_0 node_0 v_1 ev_1)) (by rfl) (by rfl) ?_; simp only [go_sem]; refine q8 Q3 (sB h (fun _ h => ?_) fun _ h => ?_)
   · exact au
   ·
    refine y5 (q8 Q2 (sg fun _ Q6 => ?_)); obtain ⟨xv_0, F, h⟩ := bI F h; simp only [go_sem, F]; refine ai ?_; refine q8 Q6 (sg fun _ Q7 => ?_); refine sM ?_; refine w9 fun _ Q9 => ?_; refine sM ?_; refine sB h (fun _ h => ?_) fun _ h => ?_
    · exact au
    ·
     refine sM ?_; refine sB h (fun _ h => ?_) fun _ h => ?_
     · exact au
     ·
      refine sM ?_; refine sB h (fun _ h => ?_) fun _ h => ?_
      · refine sg fun _ Q15 => ?_; refine sg fun _ Q16 => ?_; refine q02 ?_; refine j9m ?_; obtain ⟨F, h⟩ := bG F h; obtain ⟨xv_1, ex1, h⟩ := z8 h; obtain ⟨f1a, f1b, f1c, fxv_1d⟩ := q4k (f := (fun y => AV.v (.int .i64 y))) [.v (.int .i64 t_0.D)] [] ex1; simp only [List.cons_append, List.nil_append, List.append_nil, List.map_cons, List.map_nil, List.length_cons, List.length_nil, Nat.zero_add, Nat.reduceAdd] at f1b f1c fxv_1d; obtain ⟨xv_2, F, h⟩ := bI F h; simp only [go_sem, f1a, f1b, f1c, fxv_1d, F]; refine ai ?_; simp only [List.getD_eq_getElem?_getD, Nat.mul_one, fxv_1d, Option.map_some, Option.getD_some, true_and]; refine ai ?_; exact au
      · exact au
 · replace h := q1l h hb_0; simp only [go_sem, hb_0]; exact au)
def qx0 (workers_0 : Int) : Option Bool :=
 some ((decide (1 ≤ workers_0)) && (decide (workers_0 ≤ 64)))
instance j4k (workers_0 : Int) : Ct pp 111 (qx0 workers_0) [.v (.int .i64 workers_0)] fun r => (.v (.bool r)) := ctI Tryz.func111 rfl (by rw [qx0]; exact au1)
def qd7 (k_0 : Int) (workers_0 : Int) : Option Int :=
 q9 (qx0 workers_0) (fun v_0 =>
 (if (!v_0) = true then some 0
 else x9 (workers_0 ≠ 0) (
 x9 (workers_0 ≠ 0) (
 some (Int.tmod (i64.wrap ((Int.tmod k_0 workers_0) + workers_0)) workers_0)))))
instance j1s (k_0 : Int) (workers_0 : Int) : Ct pp 65 (qd7 k_0 workers_0) [.v (.int .i64 k_0), .v (.int .i64 workers_0)] fun r => (.v (.int .i64 r)) := ctI Tryz.func65 rfl (by rw [qd7]; exact au1)
def q0n (s_0 : GUnit_sender) (edge_0 : Int) (t_0 : GTime) (times_0 : Int) (t17_1 : Int) (b_3 : Int) (b_4 : Int) (b_5 : Int) (a_1 : List GLetter) (rec_1 : (Int × Int × Int × Int × (List GLetter) → Option GUnit_sender)) (xv_4 : GItem) (tov_2 : Int) : Option GUnit_sender :=
 x9 ((a_1.length + List.length ([(⟨tov_2, (⟨edge_0, t_0, xv_4.Rec, i64.wrap (times_0 * xv_4.N), s_0.Unit.Colour⟩ : GMsg)⟩ : GLetter)] : List GLetter)) * 88 ≤ 140737488355328) (
 x9 (0 ≤ s_0.Unit.Colour ∧ s_0.Unit.Colour < 2) (
 q9 (idx ([b_3, b_4] : List Int) s_0.Unit.Colour) (fun xv_5 =>
 x9 (0 ≤ s_0.Unit.Colour ∧ s_0.Unit.Colour < 2) (
 q9 (some (if s_0.Unit.Colour.toNat = 0 then i64.wrap (xv_5 + 1) else b_3)) (fun w_4 =>
 q9 (some (if s_0.Unit.Colour.toNat = 1 then i64.wrap (xv_5 + 1) else b_4)) (fun w_5 =>
 (if (decide (times_0 < 0)) = true then rec_1 (i64.wrap (t17_1 + 1), w_4, w_5, i64.wrap (b_5 + 1), (a_1 ++ ([(⟨tov_2, (⟨edge_0, t_0, xv_4.Rec, i64.wrap (times_0 * xv_4.N), s_0.Unit.Colour⟩ : GMsg)⟩ : GLetter)] : List GLetter)))
 else rec_1 (i64.wrap (t17_1 + 1), w_4, w_5, b_5, (a_1 ++ ([(⟨tov_2, (⟨edge_0, t_0, xv_4.Rec, i64.wrap (times_0 * xv_4.N), s_0.Unit.Colour⟩ : GMsg)⟩ : GLetter)] : List GLetter))))))))))
def q13 (s_0 : GUnit_sender) (edge_0 : Int) (e_0 : GEdge) (t_0 : GTime) (l_0 : List GItem) (times_0 : Int) (rec_1 : Int × Int × Int × Int × (List GLetter) → Option GUnit_sender) : Int × Int × Int × Int × (List GLetter) → Option GUnit_sender :=
 fun (t17_1, b_3, b_4, b_5, a_1) =>
 (if (decide (t17_1 < (l_0.length : Int))) = true then q9 (idx l_0 t17_1) (fun xv_4 =>
 (if e_0.Exchange = true then q9 (qd7 xv_4.Rec.K s_0.workers) (fun v_5 =>
 q0n s_0 edge_0 t_0 times_0 t17_1 b_3 b_4 b_5 a_1 rec_1 xv_4 v_5)
 else q0n s_0 edge_0 t_0 times_0 t17_1 b_3 b_4 b_5 a_1 rec_1 xv_4 s_0.Unit.ID))
 else some (⟨(⟨s_0.Unit.ID, s_0.Unit.Cells, s_0.Unit.Colour, (⟨b_3, b_4⟩ : Arr2 Int), s_0.Unit.Got, s_0.Unit.Red, s_0.Unit.Late, b_5⟩ : GUnit), a_1, s_0.workers⟩ : GUnit_sender))
def q0w (s_0 : GUnit_sender) (edge_0 : Int) (e_0 : GEdge) (t_0 : GTime) (l_0 : List GItem) (times_0 : Int) : Option GUnit_sender :=
 x8 (q13 s_0 edge_0 e_0 t_0 l_0 times_0) rounds (0, s_0.Unit.Sent.a0, s_0.Unit.Sent.a1, s_0.Unit.Backs, s_0.out)
theorem q6m (s_0 : GUnit_sender) (edge_0 : Int) (e_0 : GEdge) (t_0 : GTime) (l_0 : List GItem) (times_0 : Int)  (r : GUnit_sender) (h : q0w s_0 edge_0 e_0 t_0 l_0 times_0 = some r) : DetS pp 22 [.ptr 0 0, .v (.int .i64 edge_0), .agg (Row.row e_0), .agg (Row.row t_0), .sl 3 (enc l_0), .v (.int .i64 times_0)] [(0, .box [.v (.int .i64 s_0.Unit.ID), .osl 1 1 (0) (s_0.Unit.Cells.length), .v (.int .i64 s_0.Unit.Colour), .v (.int .i64 s_0.Unit.Sent.a0), .v (.int .i64 s_0.Unit.Sent.a1), .v (.int .i64 s_0.Unit.Got.a0), .v (.int .i64 s_0.Unit.Got.a1), .osl 2 1 (0) (s_0.Unit.Red.length), .v (.int .i64 s_0.Unit.Late), .v (.int .i64 s_0.Unit.Backs), .osl 3 11 (0) (s_0.out.length), .v (.int .i64 s_0.workers)]), (1, .arr 1 (enc s_0.Unit.Cells)), (2, .arr 1 (enc s_0.Unit.Red)), (3, .arr 11 (enc s_0.out))] 4 (.tup []) [(0, .box [.v (.int .i64 r.Unit.ID), .osl 4 1 (0) (r.Unit.Cells.length), .v (.int .i64 r.Unit.Colour), .v (.int .i64 r.Unit.Sent.a0), .v (.int .i64 r.Unit.Sent.a1), .v (.int .i64 r.Unit.Got.a0), .v (.int .i64 r.Unit.Got.a1), .osl 5 1 (0) (r.Unit.Red.length), .v (.int .i64 r.Unit.Late), .v (.int .i64 r.Unit.Backs), .osl 6 11 (0) (r.out.length), .v (.int .i64 r.workers)]), (4, .arr 1 (enc r.Unit.Cells)), (5, .arr 1 (enc r.Unit.Red)), (6, .arr 11 (enc r.out))] 7 := by
 refine dtI Tryz.func22 rfl ?_; rw [q0w] at h; have F := trivial; refine sM ?_; refine sM ?_; refine w9 fun _ Q3 => ?_; refine d9 h [0, 1, 5, 8, 9, 15, 16] (fun x => ([(17, .v (.int .i64 x.1))], [(0, .box [.v (.int .i64 s_0.Unit.ID), .osl 1 1 (0) (s_0.Unit.Cells.length), .v (.int .i64 s_0.Unit.Colour), .v (.int .i64 x.2.1), .v (.int .i64 x.2.2.1), .v (.int .i64 s_0.Unit.Got.a0), .v (.int .i64 s_0.Unit.Got.a1), .osl 2 1 (0) (s_0.Unit.Red.length), .v (.int .i64 s_0.Unit.Late), .v (.int .i64 x.2.2.2.1), .osl 6 11 (0) (x.2.2.2.2.length), .v (.int .i64 s_0.workers)]), (1, .arr 1 (enc s_0.Unit.Cells)), (2, .arr 1 (enc s_0.Unit.Red)), (4, .box (Row.row e_0)), (5, .box (Row.row t_0)), (6, .arr 11 (enc x.2.2.2.2))])) 7 ?_; rintro m_1 ⟨t17_1, b_3, b_4, b_5, a_1⟩ h _ Q4; rw [q13] at h; refine sM ?_; refine sg fun _ Q6 => ?_; refine sB h (fun _ h => ?_) fun _ h => ?_
 ·
  refine y5 (q8 Q6 (jg fun _ Q7 => ?_)); refine w9 fun _ Q8 => ?_; refine sg fun _ Q9 => ?_; obtain ⟨xv_4, F, h⟩ := bI F h; simp only [go_sem, F]; refine ai ?_; refine q8 Q9 (sM ?_); refine q1n (fun (tov_2 : Int) => q0n s_0 edge_0 t_0 times_0 t17_1 b_3 b_4 b_5 a_1 (x8 (q13 s_0 edge_0 e_0 t_0 l_0 times_0) m_1) xv_4 tov_2 = some r) [0, 1, 5, 8, 9, 15, 16, 17] (fun tov_2 => ([(13, .ptr 6 0), (14, .v (.int .i64 tov_2))], [(0, .box [.v (.int .i64 s_0.Unit.ID), .osl 1 1 (0) (s_0.Unit.Cells.length), .v (.int .i64 s_0.Unit.Colour), .v (.int .i64 b_3), .v (.int .i64 b_4), .v (.int .i64 s_0.Unit.Got.a0), .v (.int .i64 s_0.Unit.Got.a1), .osl 2 1 (0) (s_0.Unit.Red.length), .v (.int .i64 s_0.Unit.Late), .v (.int .i64 b_5), .osl 7 11 (0) (a_1.length), .v (.int .i64 s_0.workers)]), (1, .arr 1 (enc s_0.Unit.Cells)), (2, .arr 1 (enc s_0.Unit.Red)), (4, .box (Row.row e_0)), (5, .box (Row.row t_0)), (6, .box (Row.row xv_4)), (7, .arr 11 (enc a_1))])) 8 ?_ ?_
  ·
   intro _ Q14; refine sM ?_; refine sB h (fun _ h => ?_) fun _ h => ?_
   · refine q02 ?_; refine j9m ?_; simp only [go_sem]; refine q0o h fun v_5 h => ?_; simp only [go_sem]; exact au
   · exact au
  ·
   rintro tov_2 h
   try dsimp only at h
   rw [q0n] at h; refine sg fun _ Q11 => ?_; refine q02 ?_; refine q56 23 0 0 [0, 0, 2, 6, 14, 0, 0, 0, 0, 256, 0, 0, 2048, 7168, 0, 16384, 49152, 114688, 245760, 524224, 1048544, 2097120, 4194302, 8388607, 16777215, 33554431] [7, 8] [0] [] [22] [] mixed (by kernel_rfl) (of_decide_eq_true (by kernel_rfl)) (by kernel_rfl) (by kernel_rfl) (by rfl) ?_; have rf_4 : [[.v (.int .i64 tov_2), .v (.int .i64 edge_0), .v (.int .i64 t_0.D), .v (.int .i64 t_0.C.a0), .v (.int .i64 t_0.C.a1), .v (.int .i64 t_0.C.a2), .v (.int .i64 t_0.C.a3), .v (.int .i64 xv_4.Rec.K), .v (.int .i64 xv_4.Rec.V), .v (.int .i64 (i64.wrap (times_0 * xv_4.N))), .v (.int .i64 s_0.Unit.Colour)]] = enc ([(⟨tov_2, (⟨edge_0, t_0, xv_4.Rec, i64.wrap (times_0 * xv_4.N), s_0.Unit.Colour⟩ : GMsg)⟩ : GLetter)] : List GLetter) := by rfl
   obtain ⟨g_6, h⟩ := q0v h; have F := And.intro F g_6; simp only [List.length_cons, List.length_nil, Nat.zero_add, List.length_append] at g_6; have rf_5 : enc a_1 ++ [[.v (.int .i64 tov_2), .v (.int .i64 edge_0), .v (.int .i64 t_0.D), .v (.int .i64 t_0.C.a0), .v (.int .i64 t_0.C.a1), .v (.int .i64 t_0.C.a2), .v (.int .i64 t_0.C.a3), .v (.int .i64 xv_4.Rec.K), .v (.int .i64 xv_4.Rec.V), .v (.int .i64 (i64.wrap (times_0 * xv_4.N))), .v (.int .i64 s_0.Unit.Colour)]] = enc (a_1 ++ ([(⟨tov_2, (⟨edge_0, t_0, xv_4.Rec, i64.wrap (times_0 * xv_4.N), s_0.Unit.Colour⟩ : GMsg)⟩ : GLetter)] : List GLetter)) := by exact (q6f a_1 ([(⟨tov_2, (⟨edge_0, t_0, xv_4.Rec, i64.wrap (times_0 * xv_4.N), s_0.Unit.Colour⟩ : GMsg)⟩ : GLetter)] : List GLetter)).symm
   simp only [go_sem, g_6, rf_5]; simp only [rf_4]; refine q8 Q11 (sg fun _ Q12 => ?_); refine q02 ?_; refine j9m ?_; obtain ⟨F, h⟩ := bG F h; obtain ⟨xv_5, ex5, h⟩ := z8 h; obtain ⟨f5a, f5b, f5c, fxv_5d⟩ := q4k (f := (fun y => AV.v (.int .i64 y))) [.v (.int .i64 s_0.Unit.ID), .osl 1 1 (0) (s_0.Unit.Cells.length), .v (.int .i64 s_0.Unit.Colour)] [.v (.int .i64 s_0.Unit.Got.a0), .v (.int .i64 s_0.Unit.Got.a1), .osl 2 1 (0) (s_0.Unit.Red.length), .v (.int .i64 s_0.Unit.Late), .v (.int .i64 b_5), .osl 8 11 (0) (List.length (a_1 ++ ([(⟨tov_2, (⟨edge_0, t_0, xv_4.Rec, i64.wrap (times_0 * xv_4.N), s_0.Unit.Colour⟩ : GMsg)⟩ : GLetter)] : List GLetter))), .v (.int .i64 s_0.workers)] ex5; simp only [List.cons_append, List.nil_append, List.append_nil, List.map_cons, List.map_nil, List.length_cons, List.length_nil, Nat.zero_add, Nat.reduceAdd] at f5b f5c fxv_5d; have fxv_5e := fxv_5d; simp only [List.length_append, List.length_cons, List.length_nil, Nat.zero_add] at fxv_5e; obtain ⟨F, h⟩ := bG F h; obtain ⟨w_4, ew_4, h⟩ := z8 h; obtain ⟨w_5, ew_5, h⟩ := z8 h; have sf_2 := qv4 (f := (fun y => AV.v (.int .i64 y))) [.v (.int .i64 s_0.Unit.ID), .osl 1 1 (0) (s_0.Unit.Cells.length), .v (.int .i64 s_0.Unit.Colour)] [.v (.int .i64 s_0.Unit.Got.a0), .v (.int .i64 s_0.Unit.Got.a1), .osl 2 1 (0) (s_0.Unit.Red.length), .v (.int .i64 s_0.Unit.Late), .v (.int .i64 b_5), .osl 8 11 (0) (List.length (a_1 ++ ([(⟨tov_2, (⟨edge_0, t_0, xv_4.Rec, i64.wrap (times_0 * xv_4.N), s_0.Unit.Colour⟩ : GMsg)⟩ : GLetter)] : List GLetter))), .v (.int .i64 s_0.workers)] [b_3, b_4] [w_4, w_5] (s_0.Unit.Colour.toNat) (i64.wrap (xv_5 + 1)) (by simp only [List.length_cons, List.length_nil]; omega) (by simp only [List.mapIdx_cons, List.mapIdx_nil, Nat.zero_add, Nat.reduceAdd, Option.some.inj ew_4, Option.some.inj ew_5]); simp only [List.cons_append, List.nil_append, List.append_nil, List.map_cons, List.map_nil, List.length_cons, List.length_nil, Nat.zero_add, Nat.reduceAdd, q64, Nat.add_assoc, q37] at sf_2
   have sf_2e := sf_2; simp only [List.length_append, List.length_cons, List.length_nil, Nat.zero_add] at sf_2e; simp only [go_sem, f5a, f5b, f5c, fxv_5d, sf_2e, sf_2, Nat.mul_one, F]; simp only [List.getD_eq_getElem?_getD, Nat.mul_one, fxv_5d, fxv_5e, Option.map_some, Option.getD_some, true_and]; simp only [go_sem, f5a, f5b, f5c, fxv_5d, sf_2e, sf_2, Nat.mul_one, List.getD_eq_getElem?_getD, Nat.mul_one, fxv_5d, fxv_5e, Option.map_some, Option.getD_some, true_and, F]; refine ai ?_; exact au
 · exact au
def q80 (s_0 : List GTime) : Option (List GTime) :=
 x9 ((List.length ([] : List GTime) + s_0.length) * 40 ≤ 140737488355328) (
 some (([] : List GTime) ++ s_0))
theorem qq3 (s_0 : List GTime)  (r : List GTime) (h : q80 s_0 = some r) : DetS pp 67 [.sl 5 (enc s_0)] [] 0 (.osl 0 5 (0) (r.length)) [(0, .arr 5 (enc r))] 1 := by
 refine dtI Tryz.func67 rfl ?_; rw [q80] at h; have F := trivial; refine sM ?_; refine sg fun _ Q2 => ?_; refine sg fun _ Q3 => ?_; simp only [go_sem]; intro nb_0 hnb_0; rcases nb_0 with _ | _
 ·
  refine q8 Q3 (jf2 ?_); refine y5 (q8 Q2 (sg fun _ Q4 => ?_)); obtain ⟨g_0, h⟩ := q0v h; have F := And.intro F g_0; simp only [List.length_cons, List.length_nil, Nat.zero_add, List.length_append] at g_0; have rf_0 : enc ([] : List GTime) ++ enc s_0 = enc (([] : List GTime) ++ s_0) := by exact (q6f ([] : List GTime) s_0).symm
  simp only [go_sem, g_0, rf_0]; exact au
 ·
  have hE_nb_0 : s_0 = [] := by cases hq : (s_0) with | nil => rfl | cons y ys => exact absurd (hnb_0 (by rw [hq]; simp [enc])) (by simp)
  simp only [hE_nb_0] at h; exact au
instance zr5 (s_0 : List GTime) : Ct pp 67 (q80 s_0) [.sl 5 (enc s_0)] fun r => (.sl 5 (enc r)) := ⟨fun r h => (qq3 s_0  r h).pure leA⟩
def qk1 (c_0 : List GTime) (t_0 : GTime) : Option (List GTime) :=
 q9 (q21 t_0) (fun v_0 =>
 (if (!v_0) = true then q9 (qb2 c_0) (fun v_1 =>
 some v_1)
 else q9 (q80 c_0) (fun v_2 =>
 x9 ((v_2.length + List.length ([t_0] : List GTime)) * 40 ≤ 140737488355328) (
 q9 (qb2 (v_2 ++ ([t_0] : List GTime))) (fun v_3 =>
 some v_3)))))
theorem z9b (c_0 : List GTime) (t_0 : GTime)  (r : List GTime) (h : qk1 c_0 t_0 = some r) : DetS pp 23 [.sl 5 (enc c_0), .agg (Row.row t_0)] [] 0 (.osl 0 5 (0) (r.length)) [(0, .arr 5 (enc r))] 1 := by
 refine dtI Tryz.func23 rfl ?_; rw [qk1] at h; have F := trivial; refine sM ?_; refine sg fun _ Q2 => ?_; refine sg fun _ Q3 => ?_; simp only [go_sem]; refine q0o h fun v_0 h => ?_; simp only [go_sem]; refine q8 Q3 (sB h (fun _ h => ?_) fun _ h => ?_)
 · refine sg fun _ Q4 => ?_; obtain ⟨v_1, ev_1, h⟩ := z8 h; simp only [go_sem]; refine q0b [] (qp6 c_0 v_1 ev_1) ?_; simp only [go_sem]; exact au
 ·
  refine y5 (q8 Q2 (sg fun _ Q5 => ?_)); refine q02 ?_; refine q56 4 0 0 [0, 1, 0, 4, 15, 31, 63] [1] [2, 3] [] [1] [] mixed (by kernel_rfl) (of_decide_eq_true (by kernel_rfl)) (by kernel_rfl) (by kernel_rfl) (by rfl) ?_; obtain ⟨v_2, ev_2, h⟩ := z8 h; simp only [go_sem]; refine z6s [] (qq3 c_0 v_2 ev_2) rfl trivial rfl rfl rfl rfl ?_; have rf_0 : [[.v (.int .i64 t_0.D), .v (.int .i64 t_0.C.a0), .v (.int .i64 t_0.C.a1), .v (.int .i64 t_0.C.a2), .v (.int .i64 t_0.C.a3)]] = enc ([t_0] : List GTime) := by rfl
  obtain ⟨g_0, h⟩ := q0v h; have F := And.intro F g_0; simp only [List.length_cons, List.length_nil, Nat.zero_add, List.length_append] at g_0; have rf_1 : enc v_2 ++ [[.v (.int .i64 t_0.D), .v (.int .i64 t_0.C.a0), .v (.int .i64 t_0.C.a1), .v (.int .i64 t_0.C.a2), .v (.int .i64 t_0.C.a3)]] = enc (v_2 ++ ([t_0] : List GTime)) := by exact (q6f v_2 ([t_0] : List GTime)).symm
  obtain ⟨v_3, ev_3, h⟩ := z8 h; simp only [go_sem, g_0, rf_1]; simp only [rf_0]; refine q7q [4] ([], [(0, .box (Row.row t_0))]) 1 [some 0] [.sl 5 (enc (v_2 ++ ([t_0] : List GTime)))] ?_; refine q0b [] (qp6 (v_2 ++ ([t_0] : List GTime)) v_3 ev_3) ?_; simp only [go_sem]; exact au
instance za7 (c_0 : List GTime) (t_0 : GTime) : Ct pp 23 (qk1 c_0 t_0) [.sl 5 (enc c_0), .agg (Row.row t_0)] fun r => (.sl 5 (enc r)) := ⟨fun r h => (z9b c_0 t_0  r h).pure leA⟩
def q96 (b_21 : Int) (b_22 : Int) (b_23 : Int) (b_24 : Int) (b_25 : Int) (b_26 : Int) (b_27 : Int) (b_28 : Int) (a_6 : List (List GSlot)) (a_8 : List GLetter) (a_9 : List (List GTime)) : Option (GUnit × (List GLetter) × Bool) :=
 some ((⟨b_21, a_6, b_22, (⟨b_23, b_24⟩ : Arr2 Int), (⟨b_25, b_26⟩ : Arr2 Int), a_9, b_27, b_28⟩ : GUnit), a_8, true)
def q84 (p_0 : GPoint) (b_20 : GUnit) (b_21 : Int) (b_22 : Int) (b_23 : Int) (b_24 : Int) (b_25 : Int) (b_26 : Int) (b_27 : Int) (b_28 : Int) (b_29 : Int) (a_6 : List (List GSlot)) (a_7 : List (List GTime)) (a_8 : List GLetter) : Option (GUnit × (List GLetter) × Bool) :=
 (if (decide (0 < (a_8.length : Int))) = true then q9 (idx a_7 p_0.Node) (fun xv_7 =>
 q9 (qk1 xv_7 p_0.Time) (fun v_12 =>
 q96 b_21 b_22 b_23 b_24 b_25 b_26 b_27 b_28 a_6 a_8 (List.set a_7 (p_0.Node.toNat) v_12)))
 else q96 b_21 b_22 b_23 b_24 b_25 b_26 b_27 b_28 a_6 a_8 a_7)
def z03 (g_0 : GGraph) (p_0 : GPoint) (v_2 : (List GSlot) × (List GItem) × (List GItem) × Bool) (v_13 : GTime × Bool) (rec_3 : Int × GUnit × Int × Int × Int × Int × Int × Int × Int × Int × Int × (List (List GSlot)) × (List (List GTime)) × (List GLetter) → Option (GUnit × (List GLetter) × Bool)) : Int × GUnit × Int × Int × Int × Int × Int × Int × Int × Int × Int × (List (List GSlot)) × (List (List GTime)) × (List GLetter) → Option (GUnit × (List GLetter) × Bool) :=
 fun (t88_3, b_40, b_41, b_42, b_43, b_44, b_45, b_46, b_47, b_48, b_49, a_13, a_14, a_15) =>
 (if (decide (t88_3 < (g_0.Edges.length : Int))) = true then q9 (idx g_0.Edges t88_3) (fun xv_10 =>
 (if (xv_10.From == p_0.Node) = true then q9 (q0w (⟨(⟨b_41, a_13, b_42, (⟨b_43, b_44⟩ : Arr2 Int), (⟨b_45, b_46⟩ : Arr2 Int), a_14, b_47, b_48⟩ : GUnit), a_15, b_49⟩ : GUnit_sender) t88_3 xv_10 v_13.1 v_2.2.1 (-1)) (fun v_18 =>
 q9 (q0w v_18 t88_3 xv_10 v_13.1 v_2.2.2.1 1) (fun v_19 =>
 rec_3 (i64.wrap (t88_3 + 1), b_40, v_19.Unit.ID, v_19.Unit.Colour, v_19.Unit.Sent.a0, v_19.Unit.Sent.a1, v_19.Unit.Got.a0, v_19.Unit.Got.a1, v_19.Unit.Late, v_19.Unit.Backs, v_19.workers, v_19.Unit.Cells, v_19.Unit.Red, v_19.out)))
 else rec_3 (i64.wrap (t88_3 + 1), b_40, b_41, b_42, b_43, b_44, b_45, b_46, b_47, b_48, b_49, a_13, a_14, a_15)))
 else q84 p_0 b_40 b_41 b_42 b_43 b_44 b_45 b_46 b_47 b_48 b_49 a_13 a_14 a_15)
def qb8 (g_0 : GGraph) (u_0 : GUnit) (p_0 : GPoint) (lazy_0 : Bool) (workers_0 : Int) : Option (GUnit × (List GLetter) × Bool) :=
 (if ((decide (workers_0 < 1)) || (decide (64 < workers_0))) = true then some (u_0, ([] : List GLetter), false)
 else q9 (q7l g_0 u_0) (fun v_0 =>
 q9 (q5f v_0 p_0) (fun v_1 =>
 (if (!v_1) = true then some (u_0, ([] : List GLetter), false)
 else q9 (idx u_0.Cells p_0.Node) (fun xv_0 =>
 q9 (idx g_0.Nodes p_0.Node) (fun xv_1 =>
 q9 (q57 xv_0 xv_1 p_0.Time lazy_0) (fun v_2 =>
 (if (!v_2.2.2.2) = true then some (u_0, ([] : List GLetter), false)
 else q9 (q8q u_0) (fun v_3 =>
 q9 (idx v_3.Cells p_0.Node) (fun xv_2 =>
 q9 (qm7 g_0 p_0.Node p_0.Time) (fun v_13 =>
 (if v_13.2 = true then x8 (z03 g_0 p_0 v_2 v_13) rounds (0, (⟨0, ([] : List (List GSlot)), 0, (⟨0, 0⟩ : Arr2 Int), (⟨0, 0⟩ : Arr2 Int), ([] : List (List GTime)), 0, 0⟩ : GUnit), v_3.ID, v_3.Colour, v_3.Sent.a0, v_3.Sent.a1, v_3.Got.a0, v_3.Got.a1, v_3.Late, v_3.Backs, workers_0, (List.set v_3.Cells (p_0.Node.toNat) v_2.1), v_3.Red, [])
 else q84 p_0 (⟨0, ([] : List (List GSlot)), 0, (⟨0, 0⟩ : Arr2 Int), (⟨0, 0⟩ : Arr2 Int), ([] : List (List GTime)), 0, 0⟩ : GUnit) v_3.ID v_3.Colour v_3.Sent.a0 v_3.Sent.a1 v_3.Got.a0 v_3.Got.a1 v_3.Late v_3.Backs workers_0 (List.set v_3.Cells (p_0.Node.toNat) v_2.1) v_3.Red ([])))))))))))))
theorem z2q (g_0 : GGraph) (u_0 : GUnit) (p_0 : GPoint) (lazy_0 : Bool) (workers_0 : Int)  (r : GUnit × (List GLetter) × Bool) (h : qb8 g_0 u_0 p_0 lazy_0 workers_0 = some r) : DetS pp 7 [.agg (Row.row g_0), .agg (Row.row u_0), .agg (Row.row p_0), .v (.bool lazy_0), .v (.int .i64 workers_0)] [] 0 (.tup [.agg (Row.row r.1), .osl 0 11 (0) (r.2.1.length), .v (.bool r.2.2)]) [(0, .arr 11 (enc r.2.1))] 1 := by
 refine dtI Tryz.func7 rfl ?_; rw [qb8] at h; have F := trivial; refine sM ?_; refine sg fun _ Q2 => ?_; refine sg fun _ Q3 => ?_; refine q02 ?_; refine j9m ?_; simp only [go_sem]; rcases hb_0 : ((decide (workers_0 < 1)) || (decide (64 < workers_0))) with _ | _
 ·
  replace h := q1m h hb_0; obtain ⟨v_0, ev_0, h⟩ := z8 h; simp only [go_sem, hb_0]; refine callq (fun _ => (z8c g_0 u_0 v_0 ev_0)) (by rfl) (by rfl) ?_; simp only [go_sem]; refine q0o h fun v_1 h => ?_; simp only [go_sem]; refine q8 Q3 (sB h (fun _ h => ?_) fun _ h => ?_)
  · exact au
  ·
   refine y5 (q8 Q2 (sg fun _ Q5 => ?_)); refine q02 ?_; refine j9m ?_; obtain ⟨xv_0, F, h⟩ := bI F h; obtain ⟨xv_1, F, h⟩ := bI F h; obtain ⟨v_2, ev_2, h⟩ := z8 h; simp only [go_sem, F]; refine ai ?_; refine ai ?_; refine callq (fun _ => (za8 xv_0 xv_1 p_0.Time lazy_0 v_2 ev_2)) (by rfl) (by rfl) ?_; simp only [go_sem]; refine q8 Q5 (sg fun _ Q6 => ?_); refine sM ?_; refine sB h (fun _ h => ?_) fun _ h => ?_
   · exact au
   ·
    refine y5 (q8 Q6 (sg fun _ Q9 => ?_)); obtain ⟨v_3, ev_3, h⟩ := z8 h; simp only [go_sem]; refine q0b [] (qq7 u_0 v_3 ev_3) ?_; simp only [go_sem]; refine q8 Q9 (sg fun _ Q10 => ?_); refine q02 ?_; refine j9m ?_; obtain ⟨xv_2, F, h⟩ := bI F h; have rf_0 : (enc v_3.Cells).set (p_0.Node.toNat) [.sl 10 (enc v_2.1)] = enc (List.set v_3.Cells (p_0.Node.toNat) v_2.1) := by exact q1a _ _ _
    simp only [go_sem, rf_0, F]; refine ai ?_; refine q8 Q10 (q1n (fun ((b_20, b_21, b_22, b_23, b_24, b_25, b_26, b_27, b_28, b_29, a_6, a_7, a_8) : GUnit × Int × Int × Int × Int × Int × Int × Int × Int × Int × (List (List GSlot)) × (List (List GTime)) × (List GLetter)) => q84 p_0 b_20 b_21 b_22 b_23 b_24 b_25 b_26 b_27 b_28 b_29 a_6 a_7 a_8 = some r) [] (fun x => ([(7, .ptr 0 0), (10, .ptr 1 0), (17, .ptr 2 0)], [(0, .box (Row.row p_0)), (1, .box (Row.row x.1)), (2, .box [.v (.int .i64 x.2.1), .osl 3 1 (0) (x.2.2.2.2.2.2.2.2.2.2.1.length), .v (.int .i64 x.2.2.1), .v (.int .i64 x.2.2.2.1), .v (.int .i64 x.2.2.2.2.1), .v (.int .i64 x.2.2.2.2.2.1), .v (.int .i64 x.2.2.2.2.2.2.1), .osl 4 1 (0) (x.2.2.2.2.2.2.2.2.2.2.2.1.length), .v (.int .i64 x.2.2.2.2.2.2.2.1), .v (.int .i64 x.2.2.2.2.2.2.2.2.1), .osl 5 11 (0) (x.2.2.2.2.2.2.2.2.2.2.2.2.length), .v (.int .i64 x.2.2.2.2.2.2.2.2.2.1)]), (3, .arr 1 (enc x.2.2.2.2.2.2.2.2.2.2.1)), (4, .arr 1 (enc x.2.2.2.2.2.2.2.2.2.2.2.1)), (5, .arr 11 (enc x.2.2.2.2.2.2.2.2.2.2.2.2))])) 6 ?_ ?_)
    ·
     intro _ Q14; refine sg fun _ Q15 => ?_; simp only [go_sem]; refine q0o h fun v_13 h => ?_; simp only [go_sem]; refine q8 Q15 (sM ?_); refine sB h (fun _ h => ?_) fun _ h => ?_
     ·
      refine sM ?_; refine w9 fun _ Q18 => ?_; refine d9 h [14, 15, 86, 87] (fun x => ([(7, .ptr 0 0), (10, .ptr 1 0), (17, .ptr 2 0), (18, .ptr 3 0), (88, .v (.int .i64 x.1))], [(0, .box (Row.row p_0)), (1, .box (Row.row x.2.1)), (2, .box [.v (.int .i64 x.2.2.1), .osl 4 1 (0) (x.2.2.2.2.2.2.2.2.2.2.2.1.length), .v (.int .i64 x.2.2.2.1), .v (.int .i64 x.2.2.2.2.1), .v (.int .i64 x.2.2.2.2.2.1), .v (.int .i64 x.2.2.2.2.2.2.1), .v (.int .i64 x.2.2.2.2.2.2.2.1), .osl 5 1 (0) (x.2.2.2.2.2.2.2.2.2.2.2.2.1.length), .v (.int .i64 x.2.2.2.2.2.2.2.2.1), .v (.int .i64 x.2.2.2.2.2.2.2.2.2.1), .osl 6 11 (0) (x.2.2.2.2.2.2.2.2.2.2.2.2.2.length), .v (.int .i64 x.2.2.2.2.2.2.2.2.2.2.1)]), (3, .box (Row.row v_13.1)), (4, .arr 1 (enc x.2.2.2.2.2.2.2.2.2.2.2.1)), (5, .arr 1 (enc x.2.2.2.2.2.2.2.2.2.2.2.2.1)), (6, .arr 11 (enc x.2.2.2.2.2.2.2.2.2.2.2.2.2))])) 7 ?_; rintro m_3 ⟨t88_3, b_40, b_41, b_42, b_43, b_44, b_45, b_46, b_47, b_48, b_49, a_13, a_14, a_15⟩ h _ Q19; rw [z03] at h; refine sM ?_; refine sg fun _ Q21 => ?_; refine sB h (fun _ h => ?_) fun _ h => ?_
      ·
       refine y5 (q8 Q21 (jg fun _ Q22 => ?_)); refine w9 fun _ Q23 => ?_; refine sg fun _ Q24 => ?_; obtain ⟨xv_10, F, h⟩ := bI F h; simp only [go_sem, F]; refine ai ?_; refine q8 Q24 (sM ?_); refine sB h (fun _ h => ?_) fun _ h => ?_
       · refine sg fun _ Q26 => ?_; obtain ⟨v_18, ev_18, h⟩ := z8 h; simp only [go_sem]; refine q0b [2, 4, 5, 6] (q6m (⟨(⟨b_41, a_13, b_42, (⟨b_43, b_44⟩ : Arr2 Int), (⟨b_45, b_46⟩ : Arr2 Int), a_14, b_47, b_48⟩ : GUnit), a_15, b_49⟩ : GUnit_sender) t88_3 xv_10 v_13.1 v_2.2.1 (-1) v_18 ev_18) ?_; simp only [go_sem]; refine q8 Q26 ?_; obtain ⟨v_19, ev_19, h⟩ := z8 h; simp only [go_sem]; refine q0b [2, 8, 9, 10] (q6m v_18 t88_3 xv_10 v_13.1 v_2.2.2.1 1 v_19 ev_19) ?_; simp only [go_sem]; exact au
       · exact au
      · refine q0i (q0r Q21 (q0j Q19 (q0d Q18 (u7 Q14 (⟨(b_40, b_41, b_42, b_43, b_44, b_45, b_46, b_47, b_48, b_49, a_13, a_14, a_15), [some 0, some 1, some 2, some 4, some 5, some 6], ?_, h⟩))))); exact leA
     · refine y5 (u7 Q14 (⟨((⟨0, ([] : List (List GSlot)), 0, (⟨0, 0⟩ : Arr2 Int), (⟨0, 0⟩ : Arr2 Int), ([] : List (List GTime)), 0, 0⟩ : GUnit), v_3.ID, v_3.Colour, v_3.Sent.a0, v_3.Sent.a1, v_3.Got.a0, v_3.Got.a1, v_3.Late, v_3.Backs, workers_0, (List.set v_3.Cells (p_0.Node.toNat) v_2.1), v_3.Red, []), [some 2, some 3, some 6, some 4, some 5, none], ?_, h⟩)); exact leA
    ·
     rintro ⟨b_20, b_21, b_22, b_23, b_24, b_25, b_26, b_27, b_28, b_29, a_6, a_7, a_8⟩ h
     try dsimp only at h
     rw [q84] at h; refine q1n (fun (a_9 : (List (List GTime))) => q96 b_21 b_22 b_23 b_24 b_25 b_26 b_27 b_28 a_6 a_8 a_9 = some r) [] (fun a_9 => ([(10, .ptr 0 0), (17, .ptr 1 0)], [(0, .box (Row.row b_20)), (1, .box [.v (.int .i64 b_21), .osl 2 1 (0) (a_6.length), .v (.int .i64 b_22), .v (.int .i64 b_23), .v (.int .i64 b_24), .v (.int .i64 b_25), .v (.int .i64 b_26), .osl 3 1 (0) (a_9.length), .v (.int .i64 b_27), .v (.int .i64 b_28), .osl 4 11 (0) (a_8.length), .v (.int .i64 b_29)]), (2, .arr 1 (enc a_6)), (3, .arr 1 (enc a_9)), (4, .arr 11 (enc a_8))])) 5 ?_ ?_
     ·
      intro _ Q12; refine sM ?_; refine sB h (fun _ h => ?_) fun _ h => ?_
      ·
       refine q02 ?_; refine j9m ?_; obtain ⟨xv_7, F, h⟩ := bI F h; obtain ⟨v_12, ev_12, h⟩ := z8 h; simp only [go_sem, F]; refine ai ?_; refine callq (fun _ => (za7 xv_7 p_0.Time v_12 ev_12)) (by rfl) (by rfl) ?_; have rf_2 : (enc a_7).set (p_0.Node.toNat) [.sl 5 (enc v_12)] = enc (List.set a_7 (p_0.Node.toNat) v_12) := by exact q1a _ _ _
       simp only [go_sem, rf_2, F]; refine ai ?_; exact au
      · exact au
     ·
      rintro a_9 h
      try dsimp only at h
      rw [q96] at h; refine sg fun _ Q11 => ?_; refine q02 ?_; refine q56 9 0 0 [0, 1, 3, 7, 0, 16, 48, 112, 15, 511, 1023] [0] [4, 5, 6, 7] [] [8] [] mixed (by kernel_rfl) (of_decide_eq_true (by kernel_rfl)) (by kernel_rfl) (by kernel_rfl) (by rfl) ?_; simp only [go_sem]; exact au
 · replace h := q1l h hb_0; simp only [go_sem, hb_0]; exact au
instance za4 (g_0 : GGraph) (u_0 : GUnit) (p_0 : GPoint) (lazy_0 : Bool) (workers_0 : Int) : Ct pp 7 (qb8 g_0 u_0 p_0 lazy_0 workers_0) [.agg (Row.row g_0), .agg (Row.row u_0), .agg (Row.row p_0), .v (.bool lazy_0), .v (.int .i64 workers_0)] fun r => (.tup [.agg (Row.row r.1), .sl 11 (enc r.2.1), .v (.bool r.2.2)]) := ⟨fun r h => (z2q g_0 u_0 p_0 lazy_0 workers_0  r h).pure leA⟩
def q8m  : Option Bool :=
 q9 (z4x (⟨([-1] : List Int), ([0] : List Int), ([(⟨1, 0, 0, ([] : List GIns)⟩ : GNode), (⟨15, 0, 0, ([] : List GIns)⟩ : GNode)] : List GNode), ([(⟨0, 1, 0, true⟩ : GEdge)] : List GEdge)⟩ : GGraph) 0) (fun v_0 =>
 q9 (z3g (⟨([-1] : List Int), ([0] : List Int), ([(⟨1, 0, 0, ([] : List GIns)⟩ : GNode), (⟨15, 0, 0, ([] : List GIns)⟩ : GNode)] : List GNode), ([(⟨0, 1, 0, true⟩ : GEdge)] : List GEdge)⟩ : GGraph) v_0 (⟨0, 2, (⟨3, 0⟩ : GRec)⟩ : GFeed)) (fun v_1 =>
 q9 (q7l (⟨([-1] : List Int), ([0] : List Int), ([(⟨1, 0, 0, ([] : List GIns)⟩ : GNode), (⟨15, 0, 0, ([] : List GIns)⟩ : GNode)] : List GNode), ([(⟨0, 1, 0, true⟩ : GEdge)] : List GEdge)⟩ : GGraph) v_1.1) (fun v_2 =>
 (if ((!v_1.2) || (!((v_2.length : Int) == 1))) = true then some false
 else q9 (idx v_2 0) (fun xv_0 =>
 q9 (qb8 (⟨([-1] : List Int), ([0] : List Int), ([(⟨1, 0, 0, ([] : List GIns)⟩ : GNode), (⟨15, 0, 0, ([] : List GIns)⟩ : GNode)] : List GNode), ([(⟨0, 1, 0, true⟩ : GEdge)] : List GEdge)⟩ : GGraph) v_1.1 xv_0 true 2) (fun v_3 =>
 (if (v_3.2.2 && ((v_3.2.1.length : Int) == 1)) = true then q9 (idx v_3.2.1 0) (fun xv_1 =>
 (if (xv_1.To == 1) = true then (if (xv_1.Msg.N == 1) = true then some (v_3.1.Sent.a0 == 1)
 else some false)
 else some false))
 else some false)))))))
instance zm6  : Ct pp 4 (q8m ) [] fun r => (.v (.bool r)) := ctK Tryz.func4 rfl (by rw [q8m]) (by
 intro r h F; refine sM ?_; refine sg fun _ Q2 => ?_; have rf_0 : [[.v (.int .i64 (-1))]] = enc ([-1] : List Int) := by rfl
 have rf_1 : [[.v (.int .i64 0)]] = enc ([0] : List Int) := by rfl
 have rf_2 : [[.v (.int .i64 1), .v (.int .i64 0), .v (.int .i64 0), .sl 2 (enc ([] : List GIns))], [.v (.int .i64 15), .v (.int .i64 0), .v (.int .i64 0), .sl 2 (enc ([] : List GIns))]] = enc ([(⟨1, 0, 0, ([] : List GIns)⟩ : GNode), (⟨15, 0, 0, ([] : List GIns)⟩ : GNode)] : List GNode) := by rfl
 have rf_2n := rf_2; simp only [q37] at rf_2n; have rf_3 : [[.v (.int .i64 0), .v (.int .i64 1), .v (.int .i64 0), .v (.bool true)]] = enc ([(⟨0, 1, 0, true⟩ : GEdge)] : List GEdge) := by rfl
 simp only [go_sem]; simp only [rf_0, rf_1, rf_2n, rf_2, rf_3]; refine q8 Q2 (sg fun _ Q3 => ?_); refine q02 ?_; refine z9j (s' := (⟨0, [(0, .v (.bool false)), (1, .ptr 0 0), (6, .sl 1 (enc ([-1] : List Int))), (7, .sl 1 (enc ([0] : List Int))), (8, .agg [.v (.int .i64 1), .v (.int .i64 0), .v (.int .i64 0), .v (.slice none 0 0)]), (9, .agg [.v (.int .i64 15), .v (.int .i64 0), .v (.int .i64 0), .v (.slice none 0 0)]), (10, .sl 4 (enc ([(⟨1, 0, 0, ([] : List GIns)⟩ : GNode), (⟨15, 0, 0, ([] : List GIns)⟩ : GNode)] : List GNode))), (11, .agg [.v (.int .i64 0), .v (.int .i64 1), .v (.int .i64 0), .v (.bool true)]), (12, .sl 4 (enc ([(⟨0, 1, 0, true⟩ : GEdge)] : List GEdge))), (13, .agg [.sl 1 (enc ([-1] : List Int)), .sl 1 (enc ([0] : List Int)), .sl 4 (enc ([(⟨1, 0, 0, ([] : List GIns)⟩ : GNode), (⟨15, 0, 0, ([] : List GIns)⟩ : GNode)] : List GNode)), .sl 4 (enc ([(⟨0, 1, 0, true⟩ : GEdge)] : List GEdge))])], [(0, .box [.sl 1 (enc ([-1] : List Int)), .sl 1 (enc ([0] : List Int)), .sl 4 (enc ([(⟨1, 0, 0, ([] : List GIns)⟩ : GNode), (⟨15, 0, 0, ([] : List GIns)⟩ : GNode)] : List GNode)), .sl 4 (enc ([(⟨0, 1, 0, true⟩ : GEdge)] : List GEdge))])], 1, 70⟩ : St)) (l := [some 4]) ?_ ?_
 · exact leA
 refine q56 11 0 0 [0, 0, 2, 0, 8, 31, 63, 127, 127, 0, 767, 2047] [1] [0, 1, 2, 3, 4, 5, 6, 7, 8] [] [9, 10] [] mixed (by kernel_rfl) (of_decide_eq_true (by kernel_rfl)) (by kernel_rfl) (by kernel_rfl) (by rfl) ?_; obtain ⟨v_0, ev_0, h⟩ := z8 h; simp only [go_sem]; refine callq (fun _ => (zf8 (⟨([-1] : List Int), ([0] : List Int), ([(⟨1, 0, 0, ([] : List GIns)⟩ : GNode), (⟨15, 0, 0, ([] : List GIns)⟩ : GNode)] : List GNode), ([(⟨0, 1, 0, true⟩ : GEdge)] : List GEdge)⟩ : GGraph) 0 v_0 ev_0)) (by rfl) (by rfl) ?_; obtain ⟨v_1, ev_1, h⟩ := z8 h; simp only [go_sem]; refine callq (fun _ => (za5 (⟨([-1] : List Int), ([0] : List Int), ([(⟨1, 0, 0, ([] : List GIns)⟩ : GNode), (⟨15, 0, 0, ([] : List GIns)⟩ : GNode)] : List GNode), ([(⟨0, 1, 0, true⟩ : GEdge)] : List GEdge)⟩ : GGraph) v_0 (⟨0, 2, (⟨3, 0⟩ : GRec)⟩ : GFeed) v_1 ev_1)) (by rfl) (by rfl) ?_; simp only [go_sem]; refine q8 Q3 (sg fun _ Q4 => ?_); obtain ⟨v_2, ev_2, h⟩ := z8 h; simp only [go_sem]; refine q0b [] (qq8 (⟨([-1] : List Int), ([0] : List Int), ([(⟨1, 0, 0, ([] : List GIns)⟩ : GNode), (⟨15, 0, 0, ([] : List GIns)⟩ : GNode)] : List GNode), ([(⟨0, 1, 0, true⟩ : GEdge)] : List GEdge)⟩ : GGraph) v_1.1 v_2 ev_2) ?_; simp only [go_sem]; refine q8 Q4 (sg fun _ Q5 => ?_); refine sM ?_; refine sB h (fun _ h => ?_) fun _ h => ?_
 · exact au
 · refine y5 (q8 Q5 (sg fun _ Q8 => ?_)); refine q02 ?_; refine q56 12 0 0 [0, 0, 0, 4, 12, 31, 63, 127, 127, 127, 255, 1535, 4095] [1] [8, 9] [] [10] [] mixed (by kernel_rfl) (of_decide_eq_true (by kernel_rfl)) (by kernel_rfl) (by kernel_rfl) (by rfl) ?_; obtain ⟨xv_0, F, h⟩ := bI F h; simp only [Int.toNat_natCast, Int.reduceToNat] at F; obtain ⟨v_3, ev_3, h⟩ := z8 h; simp only [go_sem, F]; refine ai ?_; refine callq (fun _ => (za4 (⟨([-1] : List Int), ([0] : List Int), ([(⟨1, 0, 0, ([] : List GIns)⟩ : GNode), (⟨15, 0, 0, ([] : List GIns)⟩ : GNode)] : List GNode), ([(⟨0, 1, 0, true⟩ : GEdge)] : List GEdge)⟩ : GGraph) v_1.1 xv_0 true 2 v_3 ev_3)) (by rfl) (by rfl) ?_; simp only [go_sem]; exact au)
def q7e (g_0 : GGraph) : Option Bool :=
 q9 (q6d g_0) (fun v_0 =>
 (if (!v_0) = true then some false
 else q9 (q6c g_0) (fun v_1 =>
 some (v_1.1 == 0))))
instance zq1 (g_0 : GGraph) : Ct pp 5 (q7e g_0) [.agg (Row.row g_0)] fun r => (.v (.bool r)) := ctI Tryz.func5 rfl (by rw [q7e]; exact au1)
def q70 (u_0 : GUnit) (rec_2 : Int → Option Bool) : Int → Option Bool :=
 fun i_3 =>
 (if (decide (i_3 < (u_0.Red.length : Int))) = true then q9 (idx u_0.Red i_3) (fun xv_5 =>
 (if (decide (40 < (xv_5.length : Int))) = true then some false
 else rec_2 (i64.wrap (i_3 + 1))))
 else some true)
def q6x (u_0 : GUnit) : Option Bool :=
 x8 (q70 u_0) rounds 0
def q6y (u_0 : GUnit) (rec_3 : Int → Option Bool) : Int → Option Bool :=
 fun i_5 =>
 (if (decide (i_5 < (u_0.Cells.length : Int))) = true then q9 (idx u_0.Cells i_5) (fun xv_8 =>
 q9 (q6b xv_8) (fun v_5 =>
 (if (!v_5) = true then some false
 else rec_3 (i64.wrap (i_5 + 1)))))
 else q6x u_0)
def q6a (u_0 : GUnit) : Option Bool :=
 (if ((decide (60 < (u_0.Cells.length : Int))) || (decide (60 < (u_0.Red.length : Int)))) = true then some false
 else x8 (q6y u_0) rounds 0)
instance zl9 (u_0 : GUnit) : Ct pp 6 (q6a u_0) [.agg (Row.row u_0)] fun r => (.v (.bool r)) := ctK Tryz.func6 rfl (by rw [q6a]) (by
 intro r h F; refine sM ?_; refine sg fun _ Q2 => ?_; refine sM ?_; refine sB h (fun _ h => ?_) fun _ h => ?_
 · exact au
 ·
  refine y5 (q8 Q2 (q1n (fun (_ : Unit) => q6x u_0 = some r) [1] (fun _ => ([], [(0, .box (Row.row u_0))])) 1 ?_ ?_))
  · intro _ Q16; refine sM ?_; refine w9 fun _ Q18 => ?_; refine d9 h [1] (fun i_5 => ([(3, .v (.int .i64 i_5))], [(0, .box (Row.row u_0))])) 1 ?_; rintro m_3 i_5 h _ Q19; rw [q6y] at h; exact au
  ·
   rintro ⟨⟩ h
   try dsimp only at h
   rw [q6x] at h; refine jg fun _ Q5 => ?_; refine sM ?_; refine w9 fun _ Q7 => ?_; refine d9 h [1] (fun i_3 => ([(4, .v (.int .i64 i_3))], [(0, .box (Row.row u_0))])) 1 ?_; rintro m_2 i_3 h _ Q8; rw [q70] at h; exact au)
def q7u (a_0 : GUnit) (b_0 : GUnit) (rec_2 : Int → Option Bool) : Int → Option Bool :=
 fun i_3 =>
 (if (decide (i_3 < (a_0.Red.length : Int))) = true then q9 (idx a_0.Red i_3) (fun xv_10 =>
 q9 (idx b_0.Red i_3) (fun xv_11 =>
 q9 (q58 xv_10 xv_11) (fun v_5 =>
 (if (!v_5) = true then some false
 else rec_2 (i64.wrap (i_3 + 1))))))
 else some true)
def q7s (a_0 : GUnit) (b_0 : GUnit) : Option Bool :=
 x8 (q7u a_0 b_0) rounds 0
def q7t (a_0 : GUnit) (b_0 : GUnit) (rec_3 : Int → Option Bool) : Int → Option Bool :=
 fun i_5 =>
 (if (decide (i_5 < (a_0.Cells.length : Int))) = true then q9 (idx a_0.Cells i_5) (fun xv_16 =>
 q9 (idx b_0.Cells i_5) (fun xv_17 =>
 q9 (q73 xv_16 xv_17) (fun v_8 =>
 (if (!v_8) = true then some false
 else rec_3 (i64.wrap (i_5 + 1))))))
 else q7s a_0 b_0)
def q71 (a_0 : GUnit) (b_0 : GUnit) : Option Bool :=
 (if ((((((((!(a_0.ID == b_0.ID)) || (!(a_0.Colour == b_0.Colour))) || (!((a_0.Sent.a0 == b_0.Sent.a0) && (a_0.Sent.a1 == b_0.Sent.a1)))) || (!((a_0.Got.a0 == b_0.Got.a0) && (a_0.Got.a1 == b_0.Got.a1)))) || (!(a_0.Late == b_0.Late))) || (!(a_0.Backs == b_0.Backs))) || (!((a_0.Cells.length : Int) == (b_0.Cells.length : Int)))) || (!((a_0.Red.length : Int) == (b_0.Red.length : Int)))) = true then some false
 else x8 (q7t a_0 b_0) rounds 0)
instance zp5 (a_0 : GUnit) (b_0 : GUnit) : Ct pp 8 (q71 a_0 b_0) [.agg (Row.row a_0), .agg (Row.row b_0)] fun r => (.v (.bool r)) := ctK Tryz.func8 rfl (by rw [q71]) (by
 intro r h F; refine sM ?_; refine sg fun _ Q2 => ?_; refine sM ?_; refine sB h (fun _ h => ?_) fun _ h => ?_
 · exact au
 ·
  refine y5 (q8 Q2 (q1n (fun (_ : Unit) => q7s a_0 b_0 = some r) [2, 3] (fun _ => ([], [(0, .box (Row.row a_0)), (1, .box (Row.row b_0))])) 2 ?_ ?_))
  · intro _ Q16; refine sM ?_; refine w9 fun _ Q18 => ?_; refine d9 h [2, 3] (fun i_5 => ([(5, .v (.int .i64 i_5))], [(0, .box (Row.row a_0)), (1, .box (Row.row b_0))])) 2 ?_; rintro m_3 i_5 h _ Q19; rw [q7t] at h; exact au
  ·
   rintro ⟨⟩ h
   try dsimp only at h
   rw [q7s] at h; refine jg fun _ Q5 => ?_; refine sM ?_; refine w9 fun _ Q7 => ?_; refine d9 h [2, 3] (fun i_3 => ([(6, .v (.int .i64 i_3))], [(0, .box (Row.row a_0)), (1, .box (Row.row b_0))])) 2 ?_; rintro m_2 i_3 h _ Q8; rw [q7u] at h; exact au)
def qk8 (l_0 : Arr4 Int) (nv_0 : Int) (rec_1 : Int → Option Bool) : Int → Option Bool :=
 fun t8_1 =>
 (if (decide (t8_1 < 4)) = true then q9 (idx ([l_0.a0, l_0.a1, l_0.a2, l_0.a3] : List Int) t8_1) (fun xv_1 =>
 (if (((decide (xv_1 < 0)) || (decide (1048576 < xv_1))) || ((decide (nv_0 ≤ t8_1)) && (!(xv_1 == 0)))) = true then some false
 else rec_1 (i64.wrap (t8_1 + 1))))
 else some true)
def q8e (l_0 : Arr4 Int) (nv_0 : Int) : Option Bool :=
 x8 (qk8 l_0 nv_0) rounds 0
instance j4s (l_0 : Arr4 Int) (nv_0 : Int) : Ct pp 129 (q8e l_0 nv_0) [.agg [.v (.int .i64 l_0.a0), .v (.int .i64 l_0.a1), .v (.int .i64 l_0.a2), .v (.int .i64 l_0.a3)], .v (.int .i64 nv_0)] fun r => (.v (.bool r)) := ctK Tryz.func129 rfl (by rw [q8e]) (by
 intro r h F; refine sM ?_; refine jg fun _ Q2 => ?_; refine sM ?_; refine w9 fun _ Q4 => ?_; refine d9 h [1, 7] (fun t8_1 => ([(8, .v (.int .i64 t8_1))], [])) 0 ?_; rintro m_1 t8_1 h _ Q5; rw [qk8] at h; refine sM ?_; refine sg fun _ Q7 => ?_; refine sB h (fun _ h => ?_) fun _ h => ?_
 · refine y5 (q8 Q7 (sg fun _ Q8 => ?_)); refine w9 fun _ Q9 => ?_; refine sg fun _ Q10 => ?_; obtain ⟨xv_1, ex1, h⟩ := z8 h; obtain ⟨f1a, f1b, f1c, fxv_1d⟩ := z96 (f := (fun y => AV.v (.int .i64 y))) ex1; simp only [List.cons_append, List.nil_append, List.append_nil, List.map_cons, List.map_nil, List.length_cons, List.length_nil, Nat.zero_add, Nat.reduceAdd] at f1b f1c fxv_1d; simp only [go_sem, f1a, f1b, f1c, fxv_1d]; refine ai ?_; refine ai ?_; simp only [List.getD_eq_getElem?_getD, Nat.mul_one, fxv_1d, Option.map_some, Option.getD_some, true_and]; exact au
 · exact au)
def z07 (hv_0 : GHop) (i_0 : Int) : Option (Int × Bool) :=
 (if (decide (i_0 < hv_0.Keep)) = true then x9 (0 ≤ i_0 ∧ i_0 < 4) (
 q9 (idx ([hv_0.Add.a0, hv_0.Add.a1, hv_0.Add.a2, hv_0.Add.a3] : List Int) i_0) (fun xv_0 =>
 some (xv_0, true)))
 else x9 (0 ≤ i64.wrap (i_0 - hv_0.Keep) ∧ i64.wrap (i_0 - hv_0.Keep) < 4) (
 q9 (idx ([hv_0.T.a0, hv_0.T.a1, hv_0.T.a2, hv_0.T.a3] : List Int) (i64.wrap (i_0 - hv_0.Keep))) (fun xv_1 =>
 some (xv_1, false))))
instance j94 (hv_0 : GHop) (i_0 : Int) : Ct pp 130 (z07 hv_0 i_0) [.agg (Row.row hv_0), .v (.int .i64 i_0)] fun r => (.tup [.v (.int .i64 r.1), .v (.bool r.2)]) := ctK Tryz.func130 rfl (by rw [z07]) (by
 intro r h F; refine sM ?_; refine sg fun _ Q2 => ?_; refine sM ?_; refine sB h (fun _ h => ?_) fun _ h => ?_
 · refine sg fun _ Q4 => ?_; obtain ⟨F, h⟩ := bG F h; obtain ⟨xv_0, ex0, h⟩ := z8 h; obtain ⟨f0a, f0b, f0c, fxv_0d⟩ := q4k (f := (fun y => AV.v (.int .i64 y))) [.v (.int .i64 hv_0.From), .v (.int .i64 hv_0.Keep), .v (.int .i64 hv_0.Tail)] [.v (.int .i64 hv_0.T.a0), .v (.int .i64 hv_0.T.a1), .v (.int .i64 hv_0.T.a2), .v (.int .i64 hv_0.T.a3)] ex0; simp only [List.cons_append, List.nil_append, List.append_nil, List.map_cons, List.map_nil, List.length_cons, List.length_nil, Nat.zero_add, Nat.reduceAdd] at f0b f0c fxv_0d; simp only [go_sem, f0a, f0b, f0c, fxv_0d, F]; refine ai ?_; simp only [List.getD_eq_getElem?_getD, Nat.mul_one, fxv_0d, Option.map_some, Option.getD_some, true_and]; exact au
 · refine y5 (q8 Q2 (sg fun _ Q5 => ?_)); obtain ⟨F, h⟩ := bG F h; obtain ⟨xv_1, ex1, h⟩ := z8 h; obtain ⟨f1a, f1b, f1c, fxv_1d⟩ := q4k (f := (fun y => AV.v (.int .i64 y))) [.v (.int .i64 hv_0.From), .v (.int .i64 hv_0.Keep), .v (.int .i64 hv_0.Tail), .v (.int .i64 hv_0.Add.a0), .v (.int .i64 hv_0.Add.a1), .v (.int .i64 hv_0.Add.a2), .v (.int .i64 hv_0.Add.a3)] [] ex1; simp only [List.cons_append, List.nil_append, List.append_nil, List.map_cons, List.map_nil, List.length_cons, List.length_nil, Nat.zero_add, Nat.reduceAdd] at f1b f1c fxv_1d; simp only [go_sem, f1a, f1b, f1c, fxv_1d, F]; refine ai ?_; simp only [List.getD_eq_getElem?_getD, Nat.mul_one, fxv_1d, Option.map_some, Option.getD_some, true_and]; exact au)
def q5w (hv_0 : GHop) : Option Int :=
 some (i64.wrap (hv_0.Keep + hv_0.Tail))
instance z4c (hv_0 : GHop) : Ct pp 87 (q5w hv_0) [.agg (Row.row hv_0)] fun r => (.v (.int .i64 r)) := ctI Tryz.func87 rfl (by rw [q5w]; exact au1)
def q3i (hv_0 : GHop) : Option Bool :=
 (if ((((((decide (hv_0.From < 1)) || (decide (4 < hv_0.From))) || (decide (hv_0.Keep < 0))) || (decide (hv_0.From < hv_0.Keep))) || (decide (hv_0.Tail < 0))) || (decide (4 < hv_0.Tail))) = true then some false
 else q9 (q5w hv_0) (fun v_0 =>
 (if (decide (1 ≤ v_0)) = true then q9 (q5w hv_0) (fun v_1 =>
 (if (decide (v_1 ≤ 4)) = true then q9 (q8e hv_0.Add hv_0.Keep) (fun v_2 =>
 (if v_2 = true then q9 (q8e hv_0.T hv_0.Tail) (fun v_3 =>
 some v_3)
 else some false))
 else some false))
 else some false)))
instance qp3 (hv_0 : GHop) : Ct pp 86 (q3i hv_0) [.agg (Row.row hv_0)] fun r => (.v (.bool r)) := ctI Tryz.func86 rfl (by rw [q3i]; exact au1)
def z0f (a_0 : GHop) (b_0 : GHop) (v_4 : Int) (rec_1 : Int → Option Bool) : Int → Option Bool :=
 fun t34_1 =>
 (if (decide (t34_1 < v_4)) = true then q9 (z07 a_0 t34_1) (fun v_9 =>
 q9 (z07 b_0 t34_1) (fun v_10 =>
 (if ((v_9.2 && (!v_10.2)) || (decide (v_10.1 < v_9.1))) = true then some false
 else rec_1 (i64.wrap (t34_1 + 1)))))
 else some true)
def z08 (a_0 : GHop) (b_0 : GHop) : Option Bool :=
 q9 (q3i a_0) (fun v_0 =>
 (if v_0 = true then q9 (q3i b_0) (fun v_1 =>
 (if ((!v_1) || (!(a_0.From == b_0.From))) = true then some false
 else q9 (q5w a_0) (fun v_2 =>
 q9 (q5w b_0) (fun v_3 =>
 (if (!(v_2 == v_3)) = true then some false
 else q9 (q5w a_0) (fun v_4 =>
 x8 (z0f a_0 b_0 v_4) rounds 0))))))
 else some false))
instance j95 (a_0 : GHop) (b_0 : GHop) : Ct pp 88 (z08 a_0 b_0) [.agg (Row.row a_0), .agg (Row.row b_0)] fun r => (.v (.bool r)) := ctK Tryz.func88 rfl (by rw [z08]) (by
 intro r h F; refine sM ?_; refine sg fun _ Q2 => ?_; refine sg fun _ Q3 => ?_; refine q02 ?_; refine j9m ?_; obtain ⟨v_0, ev_0, h⟩ := z8 h; simp only [go_sem]; refine callq (fun _ => (qp3 a_0 v_0 ev_0)) (by rfl) (by rfl) ?_; simp only [go_sem]; rcases hb_0 : v_0 with _ | _
 · replace h := q1m h hb_0; simp only [go_sem, hb_0]; exact au
 ·
  replace h := q1l h hb_0; obtain ⟨v_1, ev_1, h⟩ := z8 h; simp only [go_sem, hb_0]; refine callq (fun _ => (qp3 b_0 v_1 ev_1)) (by rfl) (by rfl) ?_; simp only [go_sem]; rcases hb_1 : ((!v_1) || (!(a_0.From == b_0.From))) with _ | _
  ·
   replace h := q1m h hb_1; obtain ⟨v_2, ev_2, h⟩ := z8 h; simp only [go_sem, hb_1]; refine callq (fun _ => (z4c a_0 v_2 ev_2)) (by rfl) (by rfl) ?_; simp only [go_sem]; refine q0o h fun v_3 h => ?_; simp only [go_sem]; refine q8 Q3 (sB h (fun _ h => ?_) fun _ h => ?_)
   · exact au
   · refine y5 (q8 Q2 (jg fun _ Q6 => ?_)); refine sg fun _ Q7 => ?_; simp only [go_sem]; refine q0o h fun v_4 h => ?_; simp only [go_sem]; refine q8 Q7 (w9 fun _ Q8 => ?_); refine d9 h [2, 3, 33] (fun t34_1 => ([(34, .v (.int .i64 t34_1))], [(0, .box (Row.row a_0)), (1, .box (Row.row b_0))])) 2 ?_; rintro m_1 t34_1 h _ Q9; rw [z0f] at h; exact au
  · replace h := q1l h hb_1; simp only [go_sem, hb_1]; exact au)
def qt1 (b_6 : GHop) : Option (GHop × Bool) :=
 q9 (q3i b_6) (fun v_3 =>
 (if (!v_3) = true then some ((⟨0, 0, 0, (⟨0, 0, 0, 0⟩ : Arr4 Int), (⟨0, 0, 0, 0⟩ : Arr4 Int)⟩ : GHop), false)
 else some (b_6, true)))
def qt4 (b_0 : GHop) (rec_3 : Int × GHop → Option (GHop × Bool)) : Int × GHop → Option (GHop × Bool) :=
 fun (t81_3, b_8) =>
 (if (decide (t81_3 < ((Int.toNat (b_0.Tail) : Nat) : Int))) = true then x9 (0 ≤ t81_3 ∧ t81_3 < ((b_0.Tail.toNat : Nat) : Int) ∧ ((b_0.Tail.toNat : Nat) : Int) ≤ 4) (
 q9 (idx ([b_0.T.a0, b_0.T.a1, b_0.T.a2, b_0.T.a3] : List Int) t81_3) (fun xv_14 =>
 x9 (0 ≤ b_8.Tail ∧ b_8.Tail < 4) (
 q9 (some (if b_8.Tail.toNat = 0 then xv_14 else b_8.T.a0)) (fun w_36 =>
 q9 (some (if b_8.Tail.toNat = 1 then xv_14 else b_8.T.a1)) (fun w_37 =>
 q9 (some (if b_8.Tail.toNat = 2 then xv_14 else b_8.T.a2)) (fun w_38 =>
 q9 (some (if b_8.Tail.toNat = 3 then xv_14 else b_8.T.a3)) (fun w_39 =>
 rec_3 (i64.wrap (t81_3 + 1), (⟨b_8.From, b_8.Keep, i64.wrap (b_8.Tail + 1), b_8.Add, (⟨w_36, w_37, w_38, w_39⟩ : Arr4 Int)⟩ : GHop)))))))))
 else qt1 b_8)
def qt2 (b_0 : GHop) (b_3 : GHop) : Option (GHop × Bool) :=
 x9 (0 ≤ 0 ∧ 0 ≤ b_0.Tail ∧ b_0.Tail ≤ 4) (
 x8 (qt4 b_0) rounds (0, b_3))
def qt3 (a_0 : GHop) (b_0 : GHop) (rec_4 : Int × GHop → Option (GHop × Bool)) : Int × GHop → Option (GHop × Bool) :=
 fun (t36_3, b_10) =>
 (if (decide (t36_3 < b_0.Keep)) = true then (if (decide (t36_3 < a_0.Keep)) = true then x9 (0 ≤ t36_3 ∧ t36_3 < 4) (
 q9 (idx ([a_0.Add.a0, a_0.Add.a1, a_0.Add.a2, a_0.Add.a3] : List Int) t36_3) (fun xv_20 =>
 x9 (0 ≤ t36_3 ∧ t36_3 < 4) (
 q9 (idx ([b_0.Add.a0, b_0.Add.a1, b_0.Add.a2, b_0.Add.a3] : List Int) t36_3) (fun xv_21 =>
 x9 (0 ≤ t36_3 ∧ t36_3 < 4) (
 q9 (some (if t36_3.toNat = 0 then i64.wrap (xv_20 + xv_21) else b_10.Add.a0)) (fun w_48 =>
 q9 (some (if t36_3.toNat = 1 then i64.wrap (xv_20 + xv_21) else b_10.Add.a1)) (fun w_49 =>
 q9 (some (if t36_3.toNat = 2 then i64.wrap (xv_20 + xv_21) else b_10.Add.a2)) (fun w_50 =>
 q9 (some (if t36_3.toNat = 3 then i64.wrap (xv_20 + xv_21) else b_10.Add.a3)) (fun w_51 =>
 rec_4 (i64.wrap (t36_3 + 1), (⟨b_10.From, b_10.Keep, b_10.Tail, (⟨w_48, w_49, w_50, w_51⟩ : Arr4 Int), b_10.T⟩ : GHop)))))))))))
 else x9 (0 ≤ i64.wrap (t36_3 - a_0.Keep) ∧ i64.wrap (t36_3 - a_0.Keep) < 4) (
 q9 (idx ([a_0.T.a0, a_0.T.a1, a_0.T.a2, a_0.T.a3] : List Int) (i64.wrap (t36_3 - a_0.Keep))) (fun xv_22 =>
 x9 (0 ≤ t36_3 ∧ t36_3 < 4) (
 q9 (idx ([b_0.Add.a0, b_0.Add.a1, b_0.Add.a2, b_0.Add.a3] : List Int) t36_3) (fun xv_23 =>
 x9 (0 ≤ b_10.Tail ∧ b_10.Tail < 4) (
 q9 (some (if b_10.Tail.toNat = 0 then i64.wrap (xv_22 + xv_23) else b_10.T.a0)) (fun w_52 =>
 q9 (some (if b_10.Tail.toNat = 1 then i64.wrap (xv_22 + xv_23) else b_10.T.a1)) (fun w_53 =>
 q9 (some (if b_10.Tail.toNat = 2 then i64.wrap (xv_22 + xv_23) else b_10.T.a2)) (fun w_54 =>
 q9 (some (if b_10.Tail.toNat = 3 then i64.wrap (xv_22 + xv_23) else b_10.T.a3)) (fun w_55 =>
 rec_4 (i64.wrap (t36_3 + 1), (⟨b_10.From, b_10.Keep, i64.wrap (b_10.Tail + 1), b_10.Add, (⟨w_52, w_53, w_54, w_55⟩ : Arr4 Int)⟩ : GHop))))))))))))
 else qt2 b_0 b_10)
def qp1 (a_0 : GHop) (b_0 : GHop) : Option (GHop × Bool) :=
 q9 (q3i a_0) (fun v_0 =>
 (if v_0 = true then q9 (q3i b_0) (fun v_1 =>
 (if v_1 = true then q9 (q5w a_0) (fun v_2 =>
 (if (!(v_2 == b_0.From)) = true then some ((⟨0, 0, 0, (⟨0, 0, 0, 0⟩ : Arr4 Int), (⟨0, 0, 0, 0⟩ : Arr4 Int)⟩ : GHop), false)
 else x8 (qt3 a_0 b_0) rounds (0, (⟨a_0.From, min a_0.Keep b_0.Keep, 0, (⟨0, 0, 0, 0⟩ : Arr4 Int), (⟨0, 0, 0, 0⟩ : Arr4 Int)⟩ : GHop))))
 else some ((⟨0, 0, 0, (⟨0, 0, 0, 0⟩ : Arr4 Int), (⟨0, 0, 0, 0⟩ : Arr4 Int)⟩ : GHop), false)))
 else some ((⟨0, 0, 0, (⟨0, 0, 0, 0⟩ : Arr4 Int), (⟨0, 0, 0, 0⟩ : Arr4 Int)⟩ : GHop), false)))
instance zg2 (a_0 : GHop) (b_0 : GHop) : Ct pp 36 (qp1 a_0 b_0) [.agg (Row.row a_0), .agg (Row.row b_0)] fun r => (.tup [.agg (Row.row r.1), .v (.bool r.2)]) := ctK Tryz.func36 rfl (by rw [qp1]) (by
 intro r h F; refine sM ?_; refine sg fun _ Q2 => ?_; refine sg fun _ Q3 => ?_; refine q02 ?_; refine j9m ?_; obtain ⟨v_0, ev_0, h⟩ := z8 h; simp only [go_sem]; refine callq (fun _ => (qp3 a_0 v_0 ev_0)) (by rfl) (by rfl) ?_; simp only [go_sem]; rcases hb_0 : v_0 with _ | _
 · replace h := q1m h hb_0; simp only [go_sem, hb_0]; exact au
 ·
  replace h := q1l h hb_0; obtain ⟨v_1, ev_1, h⟩ := z8 h; simp only [go_sem, hb_0]; refine callq (fun _ => (qp3 b_0 v_1 ev_1)) (by rfl) (by rfl) ?_; simp only [go_sem]; rcases hb_1 : v_1 with _ | _
  · replace h := q1m h hb_1; simp only [go_sem, hb_1]; exact au
  ·
   replace h := q1l h hb_1; obtain ⟨v_2, ev_2, h⟩ := z8 h; simp only [go_sem, hb_1]; refine callq (fun _ => (z4c a_0 v_2 ev_2)) (by rfl) (by rfl) ?_; simp only [go_sem]; refine q8 Q3 (sB h (fun _ h => ?_) fun _ h => ?_)
   · exact au
   ·
    refine y5 (q8 Q2 (sM ?_)); refine q1n (fun (b_3 : GHop) => qt2 b_0 b_3 = some r) [] (fun b_3 => ([(3, .ptr 0 0), (4, .ptr 1 0), (6, .ptr 2 0)], [(0, .box (Row.row b_0)), (1, .box [.v (.int .i64 0), .v (.int .i64 0), .v (.int .i64 0), .v (.int .i64 0), .v (.int .i64 0), .v (.int .i64 0), .v (.int .i64 0), .v (.int .i64 0), .v (.int .i64 0), .v (.int .i64 0), .v (.int .i64 0)]), (2, .box (Row.row b_3))])) 3 ?_ ?_
    ·
     intro _ Q22; refine sM ?_; refine w9 fun _ Q24 => ?_; refine d9 h [2, 3, 4, 6, 35] (fun x => ([(36, .v (.int .i64 x.1))], [(0, .box (Row.row a_0)), (1, .box (Row.row b_0)), (2, .box [.v (.int .i64 0), .v (.int .i64 0), .v (.int .i64 0), .v (.int .i64 0), .v (.int .i64 0), .v (.int .i64 0), .v (.int .i64 0), .v (.int .i64 0), .v (.int .i64 0), .v (.int .i64 0), .v (.int .i64 0)]), (3, .box (Row.row x.2))])) 4 ?_; rintro m_4 ⟨t36_3, b_10⟩ h _ Q25; rw [qt3] at h; refine sM ?_; refine sg fun _ Q27 => ?_; refine sB h (fun _ h => ?_) fun _ h => ?_
     ·
      refine y5 (q8 Q27 (sg fun _ Q28 => ?_)); refine w9 fun _ Q29 => ?_; refine sM ?_; refine sg fun _ Q31 => ?_; refine sM ?_; refine sB h (fun _ h => ?_) fun _ h => ?_
      ·
       refine sg fun _ Q33 => ?_; refine q02 ?_; refine j9m ?_; obtain ⟨F, h⟩ := bG F h; obtain ⟨xv_20, ex20, h⟩ := z8 h; obtain ⟨f20a, f20b, f20c, fxv_20d⟩ := q4k (f := (fun y => AV.v (.int .i64 y))) [.v (.int .i64 a_0.From), .v (.int .i64 a_0.Keep), .v (.int .i64 a_0.Tail)] [.v (.int .i64 a_0.T.a0), .v (.int .i64 a_0.T.a1), .v (.int .i64 a_0.T.a2), .v (.int .i64 a_0.T.a3)] ex20; simp only [List.cons_append, List.nil_append, List.append_nil, List.map_cons, List.map_nil, List.length_cons, List.length_nil, Nat.zero_add, Nat.reduceAdd] at f20b f20c fxv_20d; obtain ⟨F, h⟩ := bG F h; obtain ⟨xv_21, ex21, h⟩ := z8 h; obtain ⟨f21a, f21b, f21c, fxv_21d⟩ := q4k (f := (fun y => AV.v (.int .i64 y))) [.v (.int .i64 b_0.From), .v (.int .i64 b_0.Keep), .v (.int .i64 b_0.Tail)] [.v (.int .i64 b_0.T.a0), .v (.int .i64 b_0.T.a1), .v (.int .i64 b_0.T.a2), .v (.int .i64 b_0.T.a3)] ex21; simp only [List.cons_append, List.nil_append, List.append_nil, List.map_cons, List.map_nil, List.length_cons, List.length_nil, Nat.zero_add, Nat.reduceAdd] at f21b f21c fxv_21d; obtain ⟨F, h⟩ := bG F h; obtain ⟨w_48, ew_48, h⟩ := z8 h; obtain ⟨w_49, ew_49, h⟩ := z8 h; obtain ⟨w_50, ew_50, h⟩ := z8 h; obtain ⟨w_51, ew_51, h⟩ := z8 h; have sf_12 := qv4 (f := (fun y => AV.v (.int .i64 y))) [.v (.int .i64 b_10.From), .v (.int .i64 b_10.Keep), .v (.int .i64 b_10.Tail)] [.v (.int .i64 b_10.T.a0), .v (.int .i64 b_10.T.a1), .v (.int .i64 b_10.T.a2), .v (.int .i64 b_10.T.a3)] [b_10.Add.a0, b_10.Add.a1, b_10.Add.a2, b_10.Add.a3] [w_48, w_49, w_50, w_51] (t36_3.toNat) (i64.wrap (xv_20 + xv_21)) (by simp only [List.length_cons, List.length_nil]; omega) (by simp only [List.mapIdx_cons, List.mapIdx_nil, Nat.zero_add, Nat.reduceAdd, Option.some.inj ew_48, Option.some.inj ew_49, Option.some.inj ew_50, Option.some.inj ew_51]); simp only [List.cons_append, List.nil_append, List.append_nil, List.map_cons, List.map_nil, List.length_cons, List.length_nil, Nat.zero_add, Nat.reduceAdd, q64, Nat.add_assoc, q37] at sf_12
       simp only [go_sem, f20a, f20b, f20c, fxv_20d, f21a, f21b, f21c, fxv_21d, sf_12, Nat.mul_one, F]; simp only [List.getD_eq_getElem?_getD, Nat.mul_one, fxv_20d, Option.map_some, Option.getD_some, true_and, List.getD_eq_getElem?_getD, Nat.mul_one, fxv_21d, Option.map_some, Option.getD_some, true_and]; simp only [go_sem, f20a, f20b, f20c, fxv_20d, f21a, f21b, f21c, fxv_21d, sf_12, Nat.mul_one, List.getD_eq_getElem?_getD, Nat.mul_one, fxv_20d, Option.map_some, Option.getD_some, true_and, List.getD_eq_getElem?_getD, Nat.mul_one, fxv_21d, Option.map_some, Option.getD_some, true_and, F]; refine ai ?_; exact au
      ·
       refine y5 (q8 Q31 (sg fun _ Q34 => ?_)); refine q02 ?_; refine j9m ?_; obtain ⟨F, h⟩ := bG F h; obtain ⟨xv_22, ex22, h⟩ := z8 h; obtain ⟨f22a, f22b, f22c, fxv_22d⟩ := q4k (f := (fun y => AV.v (.int .i64 y))) [.v (.int .i64 a_0.From), .v (.int .i64 a_0.Keep), .v (.int .i64 a_0.Tail), .v (.int .i64 a_0.Add.a0), .v (.int .i64 a_0.Add.a1), .v (.int .i64 a_0.Add.a2), .v (.int .i64 a_0.Add.a3)] [] ex22; simp only [List.cons_append, List.nil_append, List.append_nil, List.map_cons, List.map_nil, List.length_cons, List.length_nil, Nat.zero_add, Nat.reduceAdd] at f22b f22c fxv_22d; obtain ⟨F, h⟩ := bG F h; obtain ⟨xv_23, ex23, h⟩ := z8 h; obtain ⟨f23a, f23b, f23c, fxv_23d⟩ := q4k (f := (fun y => AV.v (.int .i64 y))) [.v (.int .i64 b_0.From), .v (.int .i64 b_0.Keep), .v (.int .i64 b_0.Tail)] [.v (.int .i64 b_0.T.a0), .v (.int .i64 b_0.T.a1), .v (.int .i64 b_0.T.a2), .v (.int .i64 b_0.T.a3)] ex23; simp only [List.cons_append, List.nil_append, List.append_nil, List.map_cons, List.map_nil, List.length_cons, List.length_nil, Nat.zero_add, Nat.reduceAdd] at f23b f23c fxv_23d; obtain ⟨F, h⟩ := bG F h; obtain ⟨w_52, ew_52, h⟩ := z8 h; obtain ⟨w_53, ew_53, h⟩ := z8 h; obtain ⟨w_54, ew_54, h⟩ := z8 h; obtain ⟨w_55, ew_55, h⟩ := z8 h; have sf_13 := qv4 (f := (fun y => AV.v (.int .i64 y))) [.v (.int .i64 b_10.From), .v (.int .i64 b_10.Keep), .v (.int .i64 b_10.Tail), .v (.int .i64 b_10.Add.a0), .v (.int .i64 b_10.Add.a1), .v (.int .i64 b_10.Add.a2), .v (.int .i64 b_10.Add.a3)] [] [b_10.T.a0, b_10.T.a1, b_10.T.a2, b_10.T.a3] [w_52, w_53, w_54, w_55] (b_10.Tail.toNat) (i64.wrap (xv_22 + xv_23)) (by simp only [List.length_cons, List.length_nil]; omega) (by simp only [List.mapIdx_cons, List.mapIdx_nil, Nat.zero_add, Nat.reduceAdd, Option.some.inj ew_52, Option.some.inj ew_53, Option.some.inj ew_54, Option.some.inj ew_55])
       simp only [List.cons_append, List.nil_append, List.append_nil, List.map_cons, List.map_nil, List.length_cons, List.length_nil, Nat.zero_add, Nat.reduceAdd, q64, Nat.add_assoc, q37] at sf_13; simp only [go_sem, f22a, f22b, f22c, fxv_22d, f23a, f23b, f23c, fxv_23d, sf_13, Nat.mul_one, F]; simp only [List.getD_eq_getElem?_getD, Nat.mul_one, fxv_22d, Option.map_some, Option.getD_some, true_and, List.getD_eq_getElem?_getD, Nat.mul_one, fxv_23d, Option.map_some, Option.getD_some, true_and]; simp only [go_sem, f22a, f22b, f22c, fxv_22d, f23a, f23b, f23c, fxv_23d, sf_13, Nat.mul_one, List.getD_eq_getElem?_getD, Nat.mul_one, fxv_22d, Option.map_some, Option.getD_some, true_and, List.getD_eq_getElem?_getD, Nat.mul_one, fxv_23d, Option.map_some, Option.getD_some, true_and, F]; refine ai ?_; exact au
     · exact au
    ·
     rintro b_3 h
     try dsimp only at h
     rw [qt2] at h; refine q1n (fun (b_6 : GHop) => qt1 b_6 = some r) [] (fun b_6 => ([(4, .ptr 0 0), (6, .ptr 1 0)], [(0, .box [.v (.int .i64 0), .v (.int .i64 0), .v (.int .i64 0), .v (.int .i64 0), .v (.int .i64 0), .v (.int .i64 0), .v (.int .i64 0), .v (.int .i64 0), .v (.int .i64 0), .v (.int .i64 0), .v (.int .i64 0)]), (1, .box (Row.row b_6))])) 2 ?_ ?_
     ·
      intro _ Q12; refine sg fun _ Q13 => ?_; obtain ⟨F, h⟩ := bG F h; simp only [go_sem, F]; refine q8 Q13 (w9 fun _ Q14 => ?_); refine d9 h [80] (fun x => ([(4, .ptr 0 0), (6, .ptr 1 0), (79, .bsl 2 (7) (Int.toNat (b_0.Tail))), (81, .v (.int .i64 x.1))], [(0, .box [.v (.int .i64 0), .v (.int .i64 0), .v (.int .i64 0), .v (.int .i64 0), .v (.int .i64 0), .v (.int .i64 0), .v (.int .i64 0), .v (.int .i64 0), .v (.int .i64 0), .v (.int .i64 0), .v (.int .i64 0)]), (1, .box (Row.row x.2)), (2, .box (Row.row b_0))])) 3 ?_; rintro m_3 ⟨t81_3, b_8⟩ h _ Q15; rw [qt4] at h; refine sM ?_; refine sg fun _ Q17 => ?_; refine sB h (fun _ h => ?_) fun _ h => ?_
      · refine y5 (q8 Q17 (sg fun _ Q18 => ?_)); refine w9 fun _ Q19 => ?_; refine sg fun _ Q20 => ?_; obtain ⟨F, h⟩ := bG F h; obtain ⟨xv_14, ex14, h⟩ := z8 h; obtain ⟨f14a, f14b, f14c, fxv_14d⟩ := q4k (f := (fun y => AV.v (.int .i64 y))) [.v (.int .i64 b_0.From), .v (.int .i64 b_0.Keep), .v (.int .i64 b_0.Tail), .v (.int .i64 b_0.Add.a0), .v (.int .i64 b_0.Add.a1), .v (.int .i64 b_0.Add.a2), .v (.int .i64 b_0.Add.a3)] [] ex14; simp only [List.cons_append, List.nil_append, List.append_nil, List.map_cons, List.map_nil, List.length_cons, List.length_nil, Nat.zero_add, Nat.reduceAdd] at f14b f14c fxv_14d; simp only [go_sem, f14a, f14b, f14c, fxv_14d, F]; simp only [List.getD_eq_getElem?_getD, Nat.mul_one, fxv_14d, Option.map_some, Option.getD_some, true_and]; refine q8 Q20 (sg fun _ Q21 => ?_); obtain ⟨F, h⟩ := bG F h; obtain ⟨w_36, ew_36, h⟩ := z8 h; obtain ⟨w_37, ew_37, h⟩ := z8 h; obtain ⟨w_38, ew_38, h⟩ := z8 h; obtain ⟨w_39, ew_39, h⟩ := z8 h; have sf_9 := qv4 (f := (fun y => AV.v (.int .i64 y))) [.v (.int .i64 b_8.From), .v (.int .i64 b_8.Keep), .v (.int .i64 b_8.Tail), .v (.int .i64 b_8.Add.a0), .v (.int .i64 b_8.Add.a1), .v (.int .i64 b_8.Add.a2), .v (.int .i64 b_8.Add.a3)] [] [b_8.T.a0, b_8.T.a1, b_8.T.a2, b_8.T.a3] [w_36, w_37, w_38, w_39] (b_8.Tail.toNat) xv_14 (by simp only [List.length_cons, List.length_nil]; omega) (by simp only [List.mapIdx_cons, List.mapIdx_nil, Nat.zero_add, Nat.reduceAdd, Option.some.inj ew_36, Option.some.inj ew_37, Option.some.inj ew_38, Option.some.inj ew_39]); simp only [List.cons_append, List.nil_append, List.append_nil, List.map_cons, List.map_nil, List.length_cons, List.length_nil, Nat.zero_add, Nat.reduceAdd, q64, Nat.add_assoc, q37] at sf_9; simp only [go_sem, sf_9, Nat.mul_one, F]; refine ai ?_; exact au
      · exact au
     ·
      rintro b_6 h
      try dsimp only at h
      rw [qt1] at h; exact au)
def qp0 (l_0 : List GHop) (hv_0 : GHop) (rec_1 : Int × (List GHop) → Option ((List GHop) × Bool)) : Int × (List GHop) → Option ((List GHop) × Bool) :=
 fun (t15_1, a_1) =>
 (if (decide (t15_1 < (l_0.length : Int))) = true then q9 (idx l_0 t15_1) (fun xv_2 =>
 q9 (z08 xv_2 hv_0) (fun v_5 =>
 (if v_5 = true then some (l_0, false)
 else q9 (z08 hv_0 xv_2) (fun v_6 =>
 (if (!v_6) = true then x9 ((a_1.length + List.length ([xv_2] : List GHop)) * 88 ≤ 140737488355328) (
 rec_1 (i64.wrap (t15_1 + 1), (a_1 ++ ([xv_2] : List GHop))))
 else rec_1 (i64.wrap (t15_1 + 1), a_1))))))
 else x9 ((a_1.length + List.length ([hv_0] : List GHop)) * 88 ≤ 140737488355328) (
 some ((a_1 ++ ([hv_0] : List GHop)), true)))
def qs2 (l_0 : List GHop) (hv_0 : GHop) : Option ((List GHop) × Bool) :=
 q9 (q3i hv_0) (fun v_0 =>
 (if (!v_0) = true then some (l_0, false)
 else x8 (qp0 l_0 hv_0) rounds (0, [])))
instance za6 (l_0 : List GHop) (hv_0 : GHop) : Ct pp 37 (qs2 l_0 hv_0) [.sl 11 (enc l_0), .agg (Row.row hv_0)] fun r => (.tup [.sl 11 (enc r.1), .v (.bool r.2)]) := ctK Tryz.func37 rfl (by rw [qs2]) (by
 intro r h F; refine sM ?_; refine sg fun _ Q2 => ?_; refine sg fun _ Q3 => ?_; simp only [go_sem]; refine q0o h fun v_0 h => ?_; simp only [go_sem]; refine q8 Q3 (sB h (fun _ h => ?_) fun _ h => ?_)
 · exact au
 ·
  refine y5 (q8 Q2 (sM ?_)); refine jg fun _ Q6 => ?_; refine sM ?_; refine w9 fun _ Q8 => ?_; refine d9 h [0, 3, 13, 14] (fun x => ([(6, .osl 1 11 (0) (x.2.length)), (15, .v (.int .i64 x.1))], [(0, .box (Row.row hv_0)), (1, .arr 11 (enc x.2))])) 2 ?_; rintro m_1 ⟨t15_1, a_1⟩ h _ Q9; rw [qp0] at h; refine sM ?_; refine sg fun _ Q11 => ?_; refine sB h (fun _ h => ?_) fun _ h => ?_
  ·
   refine y5 (q8 Q11 (jg fun _ Q12 => ?_)); refine w9 fun _ Q13 => ?_; refine sg fun _ Q14 => ?_; obtain ⟨xv_2, F, h⟩ := bI F h; simp only [go_sem, F]; refine ai ?_; refine q8 Q14 (sg fun _ Q15 => ?_); refine sg fun _ Q16 => ?_; simp only [go_sem]; refine q0o h fun v_5 h => ?_; simp only [go_sem]; refine q8 Q16 (sB h (fun _ h => ?_) fun _ h => ?_)
   · exact au
   ·
    refine y5 (q8 Q15 (sg fun _ Q18 => ?_)); simp only [go_sem]; refine q0o h fun v_6 h => ?_; simp only [go_sem]; refine q8 Q18 (sB h (fun _ h => ?_) fun _ h => ?_)
    ·
     have rf_6 : [[.v (.int .i64 xv_2.From), .v (.int .i64 xv_2.Keep), .v (.int .i64 xv_2.Tail), .v (.int .i64 xv_2.Add.a0), .v (.int .i64 xv_2.Add.a1), .v (.int .i64 xv_2.Add.a2), .v (.int .i64 xv_2.Add.a3), .v (.int .i64 xv_2.T.a0), .v (.int .i64 xv_2.T.a1), .v (.int .i64 xv_2.T.a2), .v (.int .i64 xv_2.T.a3)]] = enc ([xv_2] : List GHop) := by rfl
     obtain ⟨g_4, h⟩ := q0v h; have F := And.intro F g_4; simp only [List.length_cons, List.length_nil, Nat.zero_add, List.length_append] at g_4; have rf_7 : enc a_1 ++ [[.v (.int .i64 xv_2.From), .v (.int .i64 xv_2.Keep), .v (.int .i64 xv_2.Tail), .v (.int .i64 xv_2.Add.a0), .v (.int .i64 xv_2.Add.a1), .v (.int .i64 xv_2.Add.a2), .v (.int .i64 xv_2.Add.a3), .v (.int .i64 xv_2.T.a0), .v (.int .i64 xv_2.T.a1), .v (.int .i64 xv_2.T.a2), .v (.int .i64 xv_2.T.a3)]] = enc (a_1 ++ ([xv_2] : List GHop)) := by exact (q6f a_1 ([xv_2] : List GHop)).symm
     simp only [go_sem, g_4, rf_7]; simp only [rf_6]; exact au
    · exact au
  ·
   refine q0i (q0r Q11 (q0j Q9 (q0d Q8 (q8 Q6 (sg fun _ Q19 => ?_))))); have rf_8 : [[.v (.int .i64 hv_0.From), .v (.int .i64 hv_0.Keep), .v (.int .i64 hv_0.Tail), .v (.int .i64 hv_0.Add.a0), .v (.int .i64 hv_0.Add.a1), .v (.int .i64 hv_0.Add.a2), .v (.int .i64 hv_0.Add.a3), .v (.int .i64 hv_0.T.a0), .v (.int .i64 hv_0.T.a1), .v (.int .i64 hv_0.T.a2), .v (.int .i64 hv_0.T.a3)]] = enc ([hv_0] : List GHop) := by rfl
   obtain ⟨g_5, h⟩ := q0v h; have F := And.intro F g_5; simp only [List.length_cons, List.length_nil, Nat.zero_add, List.length_append] at g_5; have rf_9 : enc a_1 ++ [[.v (.int .i64 hv_0.From), .v (.int .i64 hv_0.Keep), .v (.int .i64 hv_0.Tail), .v (.int .i64 hv_0.Add.a0), .v (.int .i64 hv_0.Add.a1), .v (.int .i64 hv_0.Add.a2), .v (.int .i64 hv_0.Add.a3), .v (.int .i64 hv_0.T.a0), .v (.int .i64 hv_0.T.a1), .v (.int .i64 hv_0.T.a2), .v (.int .i64 hv_0.T.a3)]] = enc (a_1 ++ ([hv_0] : List GHop)) := by exact (q6f a_1 ([hv_0] : List GHop)).symm
   simp only [go_sem, g_5, rf_9]; simp only [rf_8]; exact au)
def qh3 (hv_0 : GHop) : Option (GHop × Bool) :=
 q9 (q3i hv_0) (fun v_0 =>
 (if (!v_0) = true then some ((⟨0, 0, 0, (⟨0, 0, 0, 0⟩ : Arr4 Int), (⟨0, 0, 0, 0⟩ : Arr4 Int)⟩ : GHop), false)
 else some (hv_0, true)))
instance j7c (hv_0 : GHop) : Ct pp 82 (qh3 hv_0) [.agg (Row.row hv_0)] fun r => (.tup [.agg (Row.row r.1), .v (.bool r.2)]) := ctI Tryz.func82 rfl (by rw [qh3]; exact au1)
def qs4 (d_0 : Int) : Option (GHop × Bool) :=
 q9 (qh3 (⟨d_0, d_0, 1, (⟨0, 0, 0, 0⟩ : Arr4 Int), (⟨0, 0, 0, 0⟩ : Arr4 Int)⟩ : GHop)) (fun v_0 =>
 some (v_0.1, v_0.2))
instance j6h (d_0 : Int) : Ct pp 79 (qs4 d_0) [.v (.int .i64 d_0)] fun r => (.tup [.agg (Row.row r.1), .v (.bool r.2)]) := ctI Tryz.func79 rfl (by rw [qs4]; exact au1)
def qs3 (d_0 : Int) : Option (GHop × Bool) :=
 (if (decide (d_0 < 2)) = true then some ((⟨0, 0, 0, (⟨0, 0, 0, 0⟩ : Arr4 Int), (⟨0, 0, 0, 0⟩ : Arr4 Int)⟩ : GHop), false)
 else q9 (qh3 (⟨d_0, i64.wrap (d_0 - 1), 0, (⟨0, 0, 0, 0⟩ : Arr4 Int), (⟨0, 0, 0, 0⟩ : Arr4 Int)⟩ : GHop)) (fun v_0 =>
 some (v_0.1, v_0.2)))
instance j6g (d_0 : Int) : Ct pp 80 (qs3 d_0) [.v (.int .i64 d_0)] fun r => (.tup [.agg (Row.row r.1), .v (.bool r.2)]) := ctI Tryz.func80 rfl (by rw [qs3]; exact au1)
def qx5 (d_0 : Int) : Option (GHop × Bool) :=
 q9 (q3i (⟨d_0, d_0, 0, (⟨0, 0, 0, 0⟩ : Arr4 Int), (⟨0, 0, 0, 0⟩ : Arr4 Int)⟩ : GHop)) (fun v_0 =>
 (if (!v_0) = true then some ((⟨0, 0, 0, (⟨0, 0, 0, 0⟩ : Arr4 Int), (⟨0, 0, 0, 0⟩ : Arr4 Int)⟩ : GHop), false)
 else x9 (0 ≤ i64.wrap (d_0 - 1) ∧ i64.wrap (d_0 - 1) < 4) (
 q9 (some (if Int.toNat (i64.wrap (d_0 - 1)) = 0 then 1 else 0)) (fun w_0 =>
 q9 (some (if Int.toNat (i64.wrap (d_0 - 1)) = 1 then 1 else 0)) (fun w_1 =>
 q9 (some (if Int.toNat (i64.wrap (d_0 - 1)) = 2 then 1 else 0)) (fun w_2 =>
 q9 (some (if Int.toNat (i64.wrap (d_0 - 1)) = 3 then 1 else 0)) (fun w_3 =>
 some ((⟨d_0, d_0, 0, (⟨w_0, w_1, w_2, w_3⟩ : Arr4 Int), (⟨0, 0, 0, 0⟩ : Arr4 Int)⟩ : GHop), true))))))))
instance j7e (d_0 : Int) : Ct pp 81 (qx5 d_0) [.v (.int .i64 d_0)] fun r => (.tup [.agg (Row.row r.1), .v (.bool r.2)]) := ctK Tryz.func81 rfl (by rw [qx5]) (by
 intro r h F; refine sM ?_; refine sM ?_; refine sg fun _ Q3 => ?_; refine sg fun _ Q4 => ?_; simp only [go_sem]; refine q0o h fun v_0 h => ?_; simp only [go_sem]; refine q8 Q4 (sB h (fun _ h => ?_) fun _ h => ?_)
 · exact au
 · refine y5 (q8 Q3 (sg fun _ Q6 => ?_)); obtain ⟨F, h⟩ := bG F h; obtain ⟨w_0, ew_0, h⟩ := z8 h; obtain ⟨w_1, ew_1, h⟩ := z8 h; obtain ⟨w_2, ew_2, h⟩ := z8 h; obtain ⟨w_3, ew_3, h⟩ := z8 h; have sf_0 := qv4 (f := (fun y => AV.v (.int .i64 y))) [.v (.int .i64 d_0), .v (.int .i64 d_0), .v (.int .i64 0)] [.v (.int .i64 0), .v (.int .i64 0), .v (.int .i64 0), .v (.int .i64 0)] [0, 0, 0, 0] [w_0, w_1, w_2, w_3] (Int.toNat (i64.wrap (d_0 - 1))) 1 (by simp only [List.length_cons, List.length_nil]; omega) (by simp only [List.mapIdx_cons, List.mapIdx_nil, Nat.zero_add, Nat.reduceAdd, Option.some.inj ew_0, Option.some.inj ew_1, Option.some.inj ew_2, Option.some.inj ew_3]); simp only [List.cons_append, List.nil_append, List.append_nil, List.map_cons, List.map_nil, List.length_cons, List.length_nil, Nat.zero_add, Nat.reduceAdd, q64, Nat.add_assoc, q37] at sf_0; simp only [go_sem, sf_0, Nat.mul_one, F]; refine ai ?_; exact au)
def qp2 (d_0 : Int) : Option (GHop × Bool) :=
 q9 (qh3 (⟨d_0, d_0, 0, (⟨0, 0, 0, 0⟩ : Arr4 Int), (⟨0, 0, 0, 0⟩ : Arr4 Int)⟩ : GHop)) (fun v_0 =>
 some (v_0.1, v_0.2))
instance j7d (d_0 : Int) : Ct pp 34 (qp2 d_0) [.v (.int .i64 d_0)] fun r => (.tup [.agg (Row.row r.1), .v (.bool r.2)]) := ctI Tryz.func34 rfl (by rw [qp2]; exact au1)
def qn4 (g_0 : GGraph) (e_0 : GEdge) : Option GHop :=
 q9 (q7k g_0 e_0.From) (fun v_0 =>
 q9 (idx g_0.Nodes e_0.From) (fun xv_0 =>
 (if (xv_0.Kind == 10) = true then q9 (qs4 v_0) (fun v_1 =>
 some v_1.1)
 else (if (xv_0.Kind == 11) = true then q9 (qs3 v_0) (fun v_2 =>
 some v_2.1)
 else (if (xv_0.Kind == 12) = true then q9 (qx5 v_0) (fun v_3 =>
 some v_3.1)
 else q9 (qp2 v_0) (fun v_4 =>
 some v_4.1))))))
instance j4p (g_0 : GGraph) (e_0 : GEdge) : Ct pp 33 (qn4 g_0 e_0) [.agg (Row.row g_0), .agg (Row.row e_0)] fun r => (.agg (Row.row r)) := ctI Tryz.func33 rfl (by rw [qn4]; exact au1)
def q9m (a_2 : List GHop) (t77_17 : Int) (rec_4 : (Bool × Int × (List (List GHop)) → Option (List (List (List GHop))))) (xv_300 : GEdge) (xv_301 : List GHop) (rec_5 : Bool × Int × (List (List GHop)) → Option (List (List (List GHop)))) : Bool × Int × (List (List GHop)) → Option (List (List (List GHop))) :=
 fun (more_77, t88_53, a_82) =>
 (if (decide (t88_53 < (xv_301.length : Int))) = true then q9 (idx xv_301 t88_53) (fun xv_308 =>
 q9 (idx a_2 t77_17) (fun xv_309 =>
 q9 (qp1 xv_308 xv_309) (fun v_170 =>
 (if v_170.2 = true then q9 (idx a_82 xv_300.To) (fun xv_310 =>
 q9 (qs2 xv_310 v_170.1) (fun v_171 =>
 rec_5 ((more_77 || v_171.2), i64.wrap (t88_53 + 1), (List.set a_82 (xv_300.To.toNat) v_171.1))))
 else rec_5 (more_77, i64.wrap (t88_53 + 1), a_82)))))
 else rec_4 (more_77, i64.wrap (t77_17 + 1), a_82))
def q9n (g_0 : GGraph) (a_2 : List GHop) (rec_3 : (Bool × (List (List GHop)) → Option (List (List (List GHop))))) (rec_4 : Bool × Int × (List (List GHop)) → Option (List (List (List GHop)))) : Bool × Int × (List (List GHop)) → Option (List (List (List GHop))) :=
 fun (more_75, t77_17, a_80) =>
 (if (decide (t77_17 < (g_0.Edges.length : Int))) = true then q9 (idx g_0.Edges t77_17) (fun xv_300 =>
 q9 (idx a_80 xv_300.From) (fun xv_301 =>
 x8 (q9m a_2 t77_17 rec_4 xv_300 xv_301) rounds (more_75, 0, a_80)))
 else rec_3 (more_75, a_80))
def qh1 (g_0 : GGraph) (a_2 : List GHop) (t56_1 : Int) (a_56 : List (List (List GHop))) (rec_2 : (Int × (List (List (List GHop))) → Option (List (List (List GHop))))) (rec_3 : Bool × (List (List GHop)) → Option (List (List (List GHop)))) : Bool × (List (List GHop)) → Option (List (List (List GHop))) :=
 fun (more_69, a_74) =>
 (if more_69 = true then x8 (q9n g_0 a_2 rec_3) rounds (false, 0, a_74)
 else q9 (idx a_56 t56_1) (fun xv_311 =>
 rec_2 (i64.wrap (t56_1 + 1), (List.set a_56 (t56_1.toNat) a_74))))
def qh2 (g_0 : GGraph) (a_2 : List GHop) (rec_2 : Int × (List (List (List GHop))) → Option (List (List (List GHop)))) : Int × (List (List (List GHop))) → Option (List (List (List GHop))) :=
 fun (t56_1, a_56) =>
 (if (decide (t56_1 < (List.length (List.replicate (g_0.Nodes.length) ([] : List (List GHop))) : Int))) = true then x9 (0 ≤ (g_0.Nodes.length : Int) ∧ (g_0.Nodes.length : Int) * 24 ≤ 140737488355328) (
 q9 (q7k g_0 t56_1) (fun v_116 =>
 q9 (qp2 v_116) (fun v_117 =>
 q9 (idx (List.replicate (g_0.Nodes.length) ([] : List GHop)) t56_1) (fun xv_210 =>
 x8 (qh1 g_0 a_2 t56_1 a_56 rec_2) rounds (true, (List.set (List.replicate (g_0.Nodes.length) ([] : List GHop)) (t56_1.toNat) ([v_117.1] : List GHop)))))))
 else some a_56)
def qg9 (g_0 : GGraph) (a_2 : List GHop) : Option (List (List (List GHop))) :=
 x8 (qh2 g_0 a_2) rounds (0, (List.replicate (g_0.Nodes.length) ([] : List (List GHop))))
def qh0 (g_0 : GGraph) (rec_6 : Int × (List GHop) → Option (List (List (List GHop)))) : Int × (List GHop) → Option (List (List (List GHop))) :=
 fun (t42_3, a_84) =>
 (if (decide (t42_3 < (g_0.Edges.length : Int))) = true then q9 (idx g_0.Edges t42_3) (fun xv_316 =>
 q9 (qn4 g_0 xv_316) (fun v_174 =>
 q9 (idx a_84 t42_3) (fun xv_317 =>
 rec_6 (i64.wrap (t42_3 + 1), (List.set a_84 (t42_3.toNat) v_174)))))
 else qg9 g_0 a_84)
def qa3 (g_0 : GGraph) : Option (List (List (List GHop))) :=
 q9 (qi6 g_0) (fun v_0 =>
 (if (!(v_0.1 == 0)) = true then some ([] : List (List (List GHop)))
 else x9 (0 ≤ (g_0.Nodes.length : Int) ∧ (g_0.Nodes.length : Int) * 24 ≤ 140737488355328) (
 x9 (0 ≤ (g_0.Edges.length : Int) ∧ (g_0.Edges.length : Int) * 88 ≤ 140737488355328) (
 x8 (qh0 g_0) rounds (0, (List.replicate (g_0.Edges.length) (⟨0, 0, 0, (⟨0, 0, 0, 0⟩ : Arr4 Int), (⟨0, 0, 0, 0⟩ : Arr4 Int)⟩ : GHop)))))))
theorem z11 (g_0 : GGraph)  (r : List (List (List GHop))) (h : qa3 g_0 = some r) : DetS pp 10 [.agg (Row.row g_0)] [] 0 (.osl 0 1 (0) (r.length)) [(0, .arr 1 (enc r))] 1 := by
 refine dtI Tryz.func10 rfl ?_; rw [qa3] at h; have F := trivial; refine sM ?_; refine sg fun _ Q2 => ?_; refine sg fun _ Q3 => ?_; simp only [go_sem]; refine q0o h fun v_0 h => ?_; simp only [go_sem]; refine q8 Q3 (sM ?_); refine sB h (fun _ h => ?_) fun _ h => ?_
 · exact au
 ·
  refine y5 (q8 Q2 (sM ?_)); refine sg fun _ Q7 => ?_; obtain ⟨F, h⟩ := bG F h; have rf_0 : List.replicate (g_0.Nodes.length) [.sl 1 (enc ([] : List (List GHop)))] = enc (List.replicate (g_0.Nodes.length) ([] : List (List GHop))) := by (simp [enc, qj4, qb4, q99, q37]; exact .inr rfl)
  have rf_0n := rf_0; simp only [q37] at rf_0n; simp only [go_sem, F]; refine ai ?_; simp only [rf_0n, rf_0]; refine q8 Q7 (sg fun _ Q8 => ?_); obtain ⟨F, h⟩ := bG F h; have rf_1 : List.replicate (g_0.Edges.length) [.v (.int .i64 0), .v (.int .i64 0), .v (.int .i64 0), .v (.int .i64 0), .v (.int .i64 0), .v (.int .i64 0), .v (.int .i64 0), .v (.int .i64 0), .v (.int .i64 0), .v (.int .i64 0), .v (.int .i64 0)] = enc (List.replicate (g_0.Edges.length) (⟨0, 0, 0, (⟨0, 0, 0, 0⟩ : Arr4 Int), (⟨0, 0, 0, 0⟩ : Arr4 Int)⟩ : GHop)) := by (simp [enc, qj4, qb4, q99, q37]; exact .inr rfl)
  simp only [go_sem, F]; refine ai ?_; simp only [rf_1]; refine q8 Q8 (q1n (fun (a_2 : (List GHop)) => qg9 g_0 a_2 = some r) [1, 5] (fun a_2 => ([(6, .osl 1 1 (0) (List.length (List.replicate (g_0.Nodes.length) ([] : List (List GHop))))), (7, .osl 2 11 (0) (a_2.length))], [(0, .box (Row.row g_0)), (1, .arr 1 (enc (List.replicate (g_0.Nodes.length) ([] : List (List GHop))))), (2, .arr 11 (enc a_2))])) 3 ?_ ?_)
  ·
   intro _ Q50; refine sM ?_; refine w9 fun _ Q52 => ?_; refine d9 h [1, 5, 40, 41] (fun x => ([(6, .osl 1 1 (0) (List.length (List.replicate (g_0.Nodes.length) ([] : List (List GHop))))), (7, .osl 2 11 (0) (x.2.length)), (42, .v (.int .i64 x.1))], [(0, .box (Row.row g_0)), (1, .arr 1 (enc (List.replicate (g_0.Nodes.length) ([] : List (List GHop))))), (2, .arr 11 (enc x.2))])) 3 ?_; rintro m_6 ⟨t42_3, a_84⟩ h _ Q53; rw [qh0] at h; refine sM ?_; refine sg fun _ Q55 => ?_; refine sB h (fun _ h => ?_) fun _ h => ?_
   ·
    refine y5 (q8 Q55 (sg fun _ Q56 => ?_)); refine w9 fun _ Q57 => ?_; refine sg fun _ Q58 => ?_; obtain ⟨xv_316, F, h⟩ := bI F h; simp only [go_sem, F]; refine ai ?_; refine q8 Q58 ?_; simp only [go_sem]; refine q0o h fun v_174 h => ?_; obtain ⟨xv_317, F, h⟩ := bI F h; have rf_103 : (enc a_84).set (t42_3.toNat) [.v (.int .i64 v_174.From), .v (.int .i64 v_174.Keep), .v (.int .i64 v_174.Tail), .v (.int .i64 v_174.Add.a0), .v (.int .i64 v_174.Add.a1), .v (.int .i64 v_174.Add.a2), .v (.int .i64 v_174.Add.a3), .v (.int .i64 v_174.T.a0), .v (.int .i64 v_174.T.a1), .v (.int .i64 v_174.T.a2), .v (.int .i64 v_174.T.a3)] = enc (List.set a_84 (t42_3.toNat) v_174) := by exact q1a _ _ _
    simp only [go_sem, rf_103, F]; refine ai ?_; exact au
   · exact au
  ·
   rintro a_2 h
   try dsimp only at h
   rw [qg9] at h; refine jg fun _ Q9 => ?_; refine sM ?_; refine w9 fun _ Q11 => ?_; refine d9 h [1, 5, 7, 55] (fun x => ([(6, .osl 1 1 (0) (x.2.length)), (56, .v (.int .i64 x.1))], [(0, .box (Row.row g_0)), (1, .arr 1 (enc x.2)), (2, .arr 11 (enc a_2))])) 3 ?_; rintro m_2 ⟨t56_1, a_56⟩ h _ Q12; rw [qh2] at h; refine sM ?_; refine sg fun _ Q14 => ?_; refine sB h (fun _ h => ?_) fun _ h => ?_
   ·
    refine y5 (q8 Q14 (jg fun _ Q15 => ?_)); refine w9 fun _ Q16 => ?_; refine sM ?_; refine sg fun _ Q18 => ?_; obtain ⟨F, h⟩ := bG F h; have rf_69 : List.replicate (g_0.Nodes.length) [.sl 11 (enc ([] : List GHop))] = enc (List.replicate (g_0.Nodes.length) ([] : List GHop)) := by (simp [enc, qj4, qb4, q99, q37]; exact .inr rfl)
    have rf_69n := rf_69; simp only [q37] at rf_69n; simp only [go_sem, F]; refine ai ?_; simp only [rf_69n, rf_69]; refine q8 Q18 (sg fun _ Q19 => ?_); simp only [go_sem]; refine q0o h fun v_116 h => ?_; simp only [go_sem]; refine q0o h fun v_117 h => ?_; simp only [go_sem]; refine q8 Q19 (sg fun _ Q20 => ?_); have rf_70 : [[.v (.int .i64 v_117.1.From), .v (.int .i64 v_117.1.Keep), .v (.int .i64 v_117.1.Tail), .v (.int .i64 v_117.1.Add.a0), .v (.int .i64 v_117.1.Add.a1), .v (.int .i64 v_117.1.Add.a2), .v (.int .i64 v_117.1.Add.a3), .v (.int .i64 v_117.1.T.a0), .v (.int .i64 v_117.1.T.a1), .v (.int .i64 v_117.1.T.a2), .v (.int .i64 v_117.1.T.a3)]] = enc ([v_117.1] : List GHop) := by rfl
    obtain ⟨xv_210, F, h⟩ := bI F h; have rf_71 : (enc (List.replicate (g_0.Nodes.length) ([] : List GHop))).set (t56_1.toNat) [.sl 11 (enc ([v_117.1] : List GHop))] = enc (List.set (List.replicate (g_0.Nodes.length) ([] : List GHop)) (t56_1.toNat) ([v_117.1] : List GHop)) := by exact q1a _ _ _
    simp only [go_sem, rf_71, F]; refine And.intro (by first | omega | (intros; simp_all; done)) ?_; refine And.intro (by first | omega | (intros; simp_all; done)) ?_; simp only [rf_70]; refine q8 Q20 (jg fun _ Q21 => ?_); refine sM ?_; refine w9 fun _ Q23 => ?_; refine d9 h [1, 5, 6, 7, 10, 55, 56] (fun x => ([(11, .osl 3 1 (0) (x.2.length)), (14, .v (.bool x.1))], [(0, .box (Row.row g_0)), (1, .arr 1 (enc a_56)), (2, .arr 11 (enc a_2)), (3, .arr 1 (enc x.2))])) 4 ?_; rintro m_3 ⟨more_69, a_74⟩ h _ Q24; rw [qh1] at h; refine sg fun _ Q25 => ?_; refine sM ?_; refine sB h (fun _ h => ?_) fun _ h => ?_
    ·
     refine y5 (q8 Q25 (w9 fun _ Q27 => ?_)); refine sM ?_; refine sM ?_; refine w9 fun _ Q30 => ?_; refine d9 h [1, 5, 6, 7, 10, 55, 56, 75, 76] (fun x => ([(11, .osl 3 1 (0) (x.2.2.length)), (14, .v (.bool x.1)), (77, .v (.int .i64 x.2.1))], [(0, .box (Row.row g_0)), (1, .arr 1 (enc a_56)), (2, .arr 11 (enc a_2)), (3, .arr 1 (enc x.2.2))])) 4 ?_; rintro m_4 ⟨more_75, t77_17, a_80⟩ h _ Q31; rw [q9n] at h; refine sM ?_; refine sg fun _ Q33 => ?_; refine sB h (fun _ h => ?_) fun _ h => ?_
     ·
      refine y5 (q8 Q33 (jg fun _ Q34 => ?_)); refine w9 fun _ Q35 => ?_; refine sg fun _ Q36 => ?_; obtain ⟨xv_300, F, h⟩ := bI F h; simp only [go_sem, F]; refine ai ?_; refine q8 Q36 (sg fun _ Q37 => ?_); obtain ⟨xv_301, F, h⟩ := bI F h; simp only [go_sem, F]; refine ai ?_; refine q8 Q37 (w9 fun _ Q38 => ?_); refine d9 h [1, 5, 6, 7, 10, 15, 16, 55, 56, 75, 76, 77, 86, 87] (fun x => ([(11, .osl 3 1 (0) (x.2.2.length)), (14, .v (.bool x.1)), (88, .v (.int .i64 x.2.1))], [(0, .box (Row.row g_0)), (1, .arr 1 (enc a_56)), (2, .arr 11 (enc a_2)), (3, .arr 1 (enc x.2.2)), (4, .box (Row.row xv_300))])) 5 ?_; rintro m_5 ⟨more_77, t88_53, a_82⟩ h _ Q39; rw [q9m] at h; refine sM ?_; refine sg fun _ Q41 => ?_; refine sB h (fun _ h => ?_) fun _ h => ?_
      ·
       refine y5 (q8 Q41 (jg fun _ Q42 => ?_)); refine w9 fun _ Q43 => ?_; refine sg fun _ Q44 => ?_; obtain ⟨xv_308, F, h⟩ := bI F h; simp only [go_sem, F]; refine ai ?_; refine q8 Q44 (sg fun _ Q45 => ?_); refine q02 ?_; refine q56 11 0 0 [0, 0, 0, 6, 14, 31, 63, 127, 127, 0, 767, 2047] [6] [0, 1, 2, 3, 4, 5, 6, 7, 8] [] [9, 10] [] mixed (by kernel_rfl) (of_decide_eq_true (by kernel_rfl)) (by kernel_rfl) (by kernel_rfl) (by rfl) ?_; obtain ⟨xv_309, F, h⟩ := bI F h; obtain ⟨v_170, ev_170, h⟩ := z8 h; simp only [go_sem, F]; refine ai ?_; refine callq (fun _ => (zg2 xv_308 xv_309 v_170 ev_170)) (by rfl) (by rfl) ?_; simp only [go_sem]; refine q8 Q45 (sM ?_); refine sB h (fun _ h => ?_) fun _ h => ?_
       ·
        refine sg fun _ Q47 => ?_; refine q02 ?_; refine j9m ?_; obtain ⟨xv_310, F, h⟩ := bI F h; obtain ⟨v_171, ev_171, h⟩ := z8 h; simp only [go_sem, F]; refine ai ?_; refine callq (fun _ => (za6 xv_310 v_170.1 v_171 ev_171)) (by rfl) (by rfl) ?_; simp only [go_sem]; refine q8 Q47 (sg fun _ Q48 => ?_); have rf_99 : (enc a_82).set (xv_300.To.toNat) [.sl 11 (enc v_171.1)] = enc (List.set a_82 (xv_300.To.toNat) v_171.1) := by exact q1a _ _ _
        simp only [go_sem, rf_99, F]; refine ai ?_; exact au
       · exact au
      · exact au
     · exact au
    ·
     refine q0i (q0r Q25 (q0j Q24 (q0d Q23 (q8 Q21 ?_)))); obtain ⟨xv_311, F, h⟩ := bI F h; have rf_100 : (enc a_56).set (t56_1.toNat) [.sl 1 (enc a_74)] = enc (List.set a_56 (t56_1.toNat) a_74) := by exact q1a _ _ _
     simp only [go_sem, rf_100, F]; refine ai ?_; exact au
   · exact au
instance j3k (g_0 : GGraph) : Ct pp 10 (qa3 g_0) [.agg (Row.row g_0)] fun r => (.sl 1 (enc r)) := ⟨fun r h => (z11 g_0  r h).pure leA⟩
def qp4 (hv_0 : GHop) (b_2 : GTime) : Option (GTime × Bool) :=
 x9 (0 ≤ hv_0.Keep ∧ hv_0.Keep ≤ 4 ∧ 4 ≤ 4) (
 x9 (0 ≤ 0 ∧ 0 ≤ hv_0.Tail ∧ hv_0.Tail ≤ 4) (
 q9 (some ((cpL [b_2.C.a0, b_2.C.a1, b_2.C.a2, b_2.C.a3] [hv_0.T.a0, hv_0.T.a1, hv_0.T.a2, hv_0.T.a3] (hv_0.Keep.toNat) (hv_0.Tail.toNat)).getD 0 0)) (fun w_8 =>
 q9 (some ((cpL [b_2.C.a0, b_2.C.a1, b_2.C.a2, b_2.C.a3] [hv_0.T.a0, hv_0.T.a1, hv_0.T.a2, hv_0.T.a3] (hv_0.Keep.toNat) (hv_0.Tail.toNat)).getD 1 0)) (fun w_9 =>
 q9 (some ((cpL [b_2.C.a0, b_2.C.a1, b_2.C.a2, b_2.C.a3] [hv_0.T.a0, hv_0.T.a1, hv_0.T.a2, hv_0.T.a3] (hv_0.Keep.toNat) (hv_0.Tail.toNat)).getD 2 0)) (fun w_10 =>
 q9 (some ((cpL [b_2.C.a0, b_2.C.a1, b_2.C.a2, b_2.C.a3] [hv_0.T.a0, hv_0.T.a1, hv_0.T.a2, hv_0.T.a3] (hv_0.Keep.toNat) (hv_0.Tail.toNat)).getD 3 0)) (fun w_11 =>
 q9 (q21 (⟨b_2.D, (⟨w_8, w_9, w_10, w_11⟩ : Arr4 Int)⟩ : GTime)) (fun v_3 =>
 (if (!v_3) = true then some ((⟨0, (⟨0, 0, 0, 0⟩ : Arr4 Int)⟩ : GTime), false)
 else some ((⟨b_2.D, (⟨w_8, w_9, w_10, w_11⟩ : Arr4 Int)⟩ : GTime), true)))))))))
def qp5 (hv_0 : GHop) (t_0 : GTime) (rec_2 : Int × GTime → Option (GTime × Bool)) : Int × GTime → Option (GTime × Bool) :=
 fun (t29_3, b_4) =>
 (if (decide (t29_3 < hv_0.Keep)) = true then x9 (0 ≤ t29_3 ∧ t29_3 < 4) (
 q9 (idx ([t_0.C.a0, t_0.C.a1, t_0.C.a2, t_0.C.a3] : List Int) t29_3) (fun xv_6 =>
 x9 (0 ≤ t29_3 ∧ t29_3 < 4) (
 q9 (idx ([hv_0.Add.a0, hv_0.Add.a1, hv_0.Add.a2, hv_0.Add.a3] : List Int) t29_3) (fun xv_7 =>
 x9 (0 ≤ t29_3 ∧ t29_3 < 4) (
 q9 (some (if t29_3.toNat = 0 then i64.wrap (xv_6 + xv_7) else b_4.C.a0)) (fun w_16 =>
 q9 (some (if t29_3.toNat = 1 then i64.wrap (xv_6 + xv_7) else b_4.C.a1)) (fun w_17 =>
 q9 (some (if t29_3.toNat = 2 then i64.wrap (xv_6 + xv_7) else b_4.C.a2)) (fun w_18 =>
 q9 (some (if t29_3.toNat = 3 then i64.wrap (xv_6 + xv_7) else b_4.C.a3)) (fun w_19 =>
 rec_2 (i64.wrap (t29_3 + 1), (⟨b_4.D, (⟨w_16, w_17, w_18, w_19⟩ : Arr4 Int)⟩ : GTime)))))))))))
 else qp4 hv_0 b_4)
def qs5 (hv_0 : GHop) (t_0 : GTime) : Option (GTime × Bool) :=
 q9 (q3i hv_0) (fun v_0 =>
 (if v_0 = true then q9 (q21 t_0) (fun v_1 =>
 (if ((!v_1) || (!(t_0.D == hv_0.From))) = true then some ((⟨0, (⟨0, 0, 0, 0⟩ : Arr4 Int)⟩ : GTime), false)
 else q9 (q5w hv_0) (fun v_2 =>
 x8 (qp5 hv_0 t_0) rounds (0, (⟨v_2, (⟨0, 0, 0, 0⟩ : Arr4 Int)⟩ : GTime)))))
 else some ((⟨0, (⟨0, 0, 0, 0⟩ : Arr4 Int)⟩ : GTime), false)))
instance j6i (hv_0 : GHop) (t_0 : GTime) : Ct pp 39 (qs5 hv_0 t_0) [.agg (Row.row hv_0), .agg (Row.row t_0)] fun r => (.tup [.agg (Row.row r.1), .v (.bool r.2)]) := ctK Tryz.func39 rfl (by rw [qs5]) (by
 intro r h F; refine sM ?_; refine sg fun _ Q2 => ?_; refine sg fun _ Q3 => ?_; simp only [go_sem]; refine q0o h fun v_0 h => ?_; simp only [go_sem]; rcases hb_0 : v_0 with _ | _
 · replace h := q1m h hb_0; simp only [go_sem, hb_0]; exact au
 ·
  replace h := q1l h hb_0; simp only [go_sem, hb_0]; refine q0o h fun v_1 h => ?_; simp only [go_sem]; refine q8 Q3 (sB h (fun _ h => ?_) fun _ h => ?_)
  · exact au
  ·
   refine y5 (q8 Q2 (sg fun _ Q6 => ?_)); simp only [go_sem]; refine q0o h fun v_2 h => ?_; simp only [go_sem]; refine q8 Q6 (q1n (fun (b_2 : GTime) => qp4 hv_0 b_2 = some r) [2] (fun b_2 => ([(4, .ptr 1 0), (6, .ptr 2 0)], [(0, .box (Row.row hv_0)), (1, .box [.v (.int .i64 0), .v (.int .i64 0), .v (.int .i64 0), .v (.int .i64 0), .v (.int .i64 0)]), (2, .box (Row.row b_2))])) 3 ?_ ?_)
   ·
    intro _ Q12; refine sM ?_; refine w9 fun _ Q14 => ?_; refine d9 h [2, 3, 4, 6, 28] (fun x => ([(29, .v (.int .i64 x.1))], [(0, .box (Row.row hv_0)), (1, .box (Row.row t_0)), (2, .box [.v (.int .i64 0), .v (.int .i64 0), .v (.int .i64 0), .v (.int .i64 0), .v (.int .i64 0)]), (3, .box (Row.row x.2))])) 4 ?_; rintro m_2 ⟨t29_3, b_4⟩ h _ Q15; rw [qp5] at h; refine sM ?_; refine sg fun _ Q17 => ?_; refine sB h (fun _ h => ?_) fun _ h => ?_
    ·
     refine y5 (q8 Q17 (sg fun _ Q18 => ?_)); refine w9 fun _ Q19 => ?_; refine sM ?_; refine q02 ?_; refine j9m ?_; obtain ⟨F, h⟩ := bG F h; obtain ⟨xv_6, ex6, h⟩ := z8 h; obtain ⟨f6a, f6b, f6c, fxv_6d⟩ := q4k (f := (fun y => AV.v (.int .i64 y))) [.v (.int .i64 t_0.D)] [] ex6; simp only [List.cons_append, List.nil_append, List.append_nil, List.map_cons, List.map_nil, List.length_cons, List.length_nil, Nat.zero_add, Nat.reduceAdd] at f6b f6c fxv_6d; obtain ⟨F, h⟩ := bG F h; obtain ⟨xv_7, ex7, h⟩ := z8 h; obtain ⟨f7a, f7b, f7c, fxv_7d⟩ := q4k (f := (fun y => AV.v (.int .i64 y))) [.v (.int .i64 hv_0.From), .v (.int .i64 hv_0.Keep), .v (.int .i64 hv_0.Tail)] [.v (.int .i64 hv_0.T.a0), .v (.int .i64 hv_0.T.a1), .v (.int .i64 hv_0.T.a2), .v (.int .i64 hv_0.T.a3)] ex7; simp only [List.cons_append, List.nil_append, List.append_nil, List.map_cons, List.map_nil, List.length_cons, List.length_nil, Nat.zero_add, Nat.reduceAdd] at f7b f7c fxv_7d; obtain ⟨F, h⟩ := bG F h; obtain ⟨w_16, ew_16, h⟩ := z8 h; obtain ⟨w_17, ew_17, h⟩ := z8 h; obtain ⟨w_18, ew_18, h⟩ := z8 h; obtain ⟨w_19, ew_19, h⟩ := z8 h; have sf_3 := qv4 (f := (fun y => AV.v (.int .i64 y))) [.v (.int .i64 b_4.D)] [] [b_4.C.a0, b_4.C.a1, b_4.C.a2, b_4.C.a3] [w_16, w_17, w_18, w_19] (t29_3.toNat) (i64.wrap (xv_6 + xv_7)) (by simp only [List.length_cons, List.length_nil]; omega) (by simp only [List.mapIdx_cons, List.mapIdx_nil, Nat.zero_add, Nat.reduceAdd, Option.some.inj ew_16, Option.some.inj ew_17, Option.some.inj ew_18, Option.some.inj ew_19]); simp only [List.cons_append, List.nil_append, List.append_nil, List.map_cons, List.map_nil, List.length_cons, List.length_nil, Nat.zero_add, Nat.reduceAdd, q64, Nat.add_assoc, q37] at sf_3; simp only [go_sem, f6a, f6b, f6c, fxv_6d, f7a, f7b, f7c, fxv_7d, sf_3, Nat.mul_one, F]; simp only [List.getD_eq_getElem?_getD, Nat.mul_one, fxv_6d, Option.map_some, Option.getD_some, true_and, List.getD_eq_getElem?_getD, Nat.mul_one, fxv_7d, Option.map_some, Option.getD_some, true_and]
     simp only [go_sem, f6a, f6b, f6c, fxv_6d, f7a, f7b, f7c, fxv_7d, sf_3, Nat.mul_one, List.getD_eq_getElem?_getD, Nat.mul_one, fxv_6d, Option.map_some, Option.getD_some, true_and, List.getD_eq_getElem?_getD, Nat.mul_one, fxv_7d, Option.map_some, Option.getD_some, true_and, F]; refine ai ?_; exact au
    · exact au
   ·
    rintro b_2 h
    try dsimp only at h
    rw [qp4] at h; refine sg fun _ Q7 => ?_; refine q02 ?_; refine j9m ?_; obtain ⟨F, h⟩ := bG F h; obtain ⟨F, h⟩ := bG F h; obtain ⟨w_8, ew_8, h⟩ := z8 h; obtain ⟨w_9, ew_9, h⟩ := z8 h; obtain ⟨w_10, ew_10, h⟩ := z8 h; obtain ⟨w_11, ew_11, h⟩ := z8 h; have cf_0 := j8o (f := (fun y => AV.v (.int .i64 y))) [.v (.int .i64 b_2.D)] [] [.v (.int .i64 hv_0.From), .v (.int .i64 hv_0.Keep), .v (.int .i64 hv_0.Tail), .v (.int .i64 hv_0.Add.a0), .v (.int .i64 hv_0.Add.a1), .v (.int .i64 hv_0.Add.a2), .v (.int .i64 hv_0.Add.a3)] [] [b_2.C.a0, b_2.C.a1, b_2.C.a2, b_2.C.a3] [hv_0.T.a0, hv_0.T.a1, hv_0.T.a2, hv_0.T.a3] [w_8, w_9, w_10, w_11] (hv_0.Keep.toNat) (hv_0.Tail.toNat) (by simp only [List.length_cons, List.length_nil]; omega) (by simp only [List.length_cons, List.length_nil]; omega) (j8p (0) (by omega) _ rfl (Option.some.inj ew_8) (Option.some.inj ew_9) (Option.some.inj ew_10) (Option.some.inj ew_11)); simp only [List.cons_append, List.nil_append, List.append_nil, List.map_cons, List.map_nil, List.length_cons, List.length_nil, Nat.zero_add, Nat.reduceAdd, Nat.reduceSub, Nat.sub_zero, q64, Nat.add_assoc, List.drop_zero, List.drop_succ_cons] at cf_0; simp only [go_sem, cf_0, F]; refine ai ?_; refine ai ?_; exact au)
def qa9 (p_0 : List (List (List GHop))) (nv_0 : Int) (mv_0 : Int) : Option (List GHop) :=
 (if (((decide (nv_0 < 0)) || (decide ((p_0.length : Int) ≤ nv_0))) || (decide (mv_0 < 0))) = true then some ([] : List GHop)
 else q9 (idx p_0 nv_0) (fun xv_0 =>
 (if (decide ((xv_0.length : Int) ≤ mv_0)) = true then some ([] : List GHop)
 else q9 (idx xv_0 mv_0) (fun xv_1 =>
 some xv_1))))
instance j14 (p_0 : List (List (List GHop))) (nv_0 : Int) (mv_0 : Int) : Ct pp 38 (qa9 p_0 nv_0 mv_0) [.sl 1 (enc p_0), .v (.int .i64 nv_0), .v (.int .i64 mv_0)] fun r => (.sl 11 (enc r)) := ctI Tryz.func38 rfl (by rw [qa9]; exact au1)
def qn5 (t_0 : GTime) (u_0 : GTime) (v_0 : List GHop) (rec_1 : Int → Option Bool) : Int → Option Bool :=
 fun t20_1 =>
 (if (decide (t20_1 < (v_0.length : Int))) = true then q9 (idx v_0 t20_1) (fun xv_2 =>
 q9 (qs5 xv_2 t_0) (fun v_5 =>
 (if v_5.2 = true then q9 (qo9 v_5.1 u_0) (fun v_6 =>
 (if v_6 = true then some true
 else rec_1 (i64.wrap (t20_1 + 1))))
 else rec_1 (i64.wrap (t20_1 + 1)))))
 else some false)
def q4b (p_0 : List (List (List GHop))) (nv_0 : Int) (t_0 : GTime) (mv_0 : Int) (u_0 : GTime) : Option Bool :=
 q9 (qa9 p_0 nv_0 mv_0) (fun v_0 =>
 x8 (qn5 t_0 u_0 v_0) rounds 0)
instance j15 (p_0 : List (List (List GHop))) (nv_0 : Int) (t_0 : GTime) (mv_0 : Int) (u_0 : GTime) : Ct pp 11 (q4b p_0 nv_0 t_0 mv_0 u_0) [.sl 1 (enc p_0), .v (.int .i64 nv_0), .agg (Row.row t_0), .v (.int .i64 mv_0), .agg (Row.row u_0)] fun r => (.v (.bool r)) := ctK Tryz.func11 rfl (by rw [q4b]) (by
 intro r h F; refine sM ?_; refine jg fun _ Q2 => ?_; refine sg fun _ Q3 => ?_; simp only [go_sem]; refine q0o h fun v_0 h => ?_; simp only [go_sem]; refine q8 Q3 (w9 fun _ Q4 => ?_); refine d9 h [7, 9, 18, 19] (fun t20_1 => ([(20, .v (.int .i64 t20_1))], [(0, .box (Row.row t_0)), (1, .box (Row.row u_0))])) 2 ?_; rintro m_1 t20_1 h _ Q5; rw [qn5] at h; exact au)
def q5b (p_0 : GPoint) (v_16 : List GPoint) (rec_2 : Int → Option Bool) : Int → Option Bool :=
 fun i_3 =>
 (if (decide (i_3 < (v_16.length : Int))) = true then q9 (idx v_16 i_3) (fun xv_8 =>
 (if ((xv_8.Node == p_0.Node) && ((xv_8.Time.D == p_0.Time.D) && ((xv_8.Time.C.a0 == p_0.Time.C.a0) && ((xv_8.Time.C.a1 == p_0.Time.C.a1) && ((xv_8.Time.C.a2 == p_0.Time.C.a2) && (xv_8.Time.C.a3 == p_0.Time.C.a3)))))) = true then some false
 else rec_2 (i64.wrap (i_3 + 1))))
 else some true)
def q59 (g_0 : GGraph) (p_0 : GPoint) (v_3 : GUnit × (List GLetter) × Bool) : Option Bool :=
 q9 (q7l g_0 v_3.1) (fun v_16 =>
 x8 (q5b p_0 v_16) rounds 0)
def q5a (g_0 : GGraph) (u_0 : GUnit) (p_0 : GPoint) (workers_0 : Int) (v_3 : GUnit × (List GLetter) × Bool) (v_6 : List (List (List GHop))) (rec_3 : Int → Option Bool) : Int → Option Bool :=
 fun i_5 =>
 (if (decide (i_5 < (v_3.2.1.length : Int))) = true then q9 (idx v_3.2.1 i_5) (fun xv_13 =>
 (if ((decide (xv_13.Msg.Edge < 0)) || (decide ((g_0.Edges.length : Int) ≤ xv_13.Msg.Edge))) = true then some false
 else q9 (idx g_0.Edges xv_13.Msg.Edge) (fun xv_14 =>
 (if (((!(xv_14.From == p_0.Node)) || (xv_13.Msg.N == 0)) || (!(xv_13.Msg.Colour == u_0.Colour))) = true then some false
 else (if (decide (xv_13.To < 0)) = true then (if (!(xv_13.To == u_0.ID)) = true then some false
 else q9 (q4b v_6 p_0.Node p_0.Time xv_14.To xv_13.Msg.Time) (fun v_25 =>
 (if (!v_25) = true then some false
 else rec_3 (i64.wrap (i_5 + 1)))))
 else (if (decide (workers_0 ≤ xv_13.To)) = true then (if (!(xv_13.To == u_0.ID)) = true then some false
 else q9 (q4b v_6 p_0.Node p_0.Time xv_14.To xv_13.Msg.Time) (fun v_24 =>
 (if (!v_24) = true then some false
 else rec_3 (i64.wrap (i_5 + 1)))))
 else q9 (q4b v_6 p_0.Node p_0.Time xv_14.To xv_13.Msg.Time) (fun v_23 =>
 (if (!v_23) = true then some false
 else rec_3 (i64.wrap (i_5 + 1))))))))))
 else q59 g_0 p_0 v_3)
def q4h (g_0 : GGraph) (u_0 : GUnit) (p_0 : GPoint) (lazy_0 : Bool) (workers_0 : Int) : Option Bool :=
 q9 (q8m) (fun v_0 =>
 (if (!v_0) = true then some false
 else q9 (q7e g_0) (fun v_1 =>
 (if v_1 = true then q9 (q6a u_0) (fun v_2 =>
 (if (!v_2) = true then some true
 else q9 (qb8 g_0 u_0 p_0 lazy_0 workers_0) (fun v_3 =>
 (if (!v_3.2.2) = true then (if ((v_3.2.1.length : Int) == 0) = true then q9 (q71 v_3.1 u_0) (fun v_4 =>
 some v_4)
 else some false)
 else q9 (q6q g_0 v_3.1) (fun v_5 =>
 (if v_5 = true then (if (((!((i64.wrap ((i64.wrap ((i64.wrap (v_3.1.Sent.a0 + v_3.1.Sent.a1)) - u_0.Sent.a0)) - u_0.Sent.a1)) == (v_3.2.1.length : Int))) || (!((v_3.1.Got.a0 == u_0.Got.a0) && (v_3.1.Got.a1 == u_0.Got.a1)))) || (!(v_3.1.Late == u_0.Late))) = true then some false
 else q9 (qa3 g_0) (fun (v_6 : List (List (List GHop))) =>
 x8 (q5a g_0 u_0 p_0 workers_0 v_3 v_6) rounds 0))
 else some false))))))
 else some true))))
instance z09 (g_0 : GGraph) (u_0 : GUnit) (p_0 : GPoint) (lazy_0 : Bool) (workers_0 : Int) : Ct pp 3 (q4h g_0 u_0 p_0 lazy_0 workers_0) [.agg (Row.row g_0), .agg (Row.row u_0), .agg (Row.row p_0), .v (.bool lazy_0), .v (.int .i64 workers_0)] fun r => (.v (.bool r)) := ctK Tryz.func3 rfl (by rw [q4h]) (by
 intro r h F; refine sM ?_; refine sg fun _ Q2 => ?_; refine sg fun _ Q3 => ?_; simp only [go_sem]; refine q0o h fun v_0 h => ?_; simp only [go_sem]; refine q8 Q3 (sB h (fun _ h => ?_) fun _ h => ?_)
 · exact au
 ·
  refine y5 (q8 Q2 (sg fun _ Q5 => ?_)); refine sg fun _ Q6 => ?_; simp only [go_sem]; refine q0o h fun v_1 h => ?_; simp only [go_sem]; rcases hb_1 : v_1 with _ | _
  · replace h := q1m h hb_1; simp only [go_sem, hb_1]; exact au
  ·
   replace h := q1l h hb_1; simp only [go_sem, hb_1]; refine q0o h fun v_2 h => ?_; simp only [go_sem]; refine q8 Q6 (sB h (fun _ h => ?_) fun _ h => ?_)
   · exact au
   ·
    refine y5 (q8 Q5 (sg fun _ Q9 => ?_)); obtain ⟨v_3, ev_3, h⟩ := z8 h; simp only [go_sem]; refine q0b [] (z2q g_0 u_0 p_0 lazy_0 workers_0 v_3 ev_3) ?_; simp only [go_sem]; refine q8 Q9 (sg fun _ Q10 => ?_); refine sM ?_; refine sB h (fun _ h => ?_) fun _ h => ?_
    · exact au
    ·
     refine y5 (q8 Q10 (sg fun _ Q13 => ?_)); refine sg fun _ Q14 => ?_; simp only [go_sem]; refine q0o h fun v_5 h => ?_; simp only [go_sem]; rcases hb_5 : v_5 with _ | _
     · replace h := q1m h hb_5; simp only [go_sem, hb_5]; exact au
     ·
      replace h := q1l h hb_5; simp only [go_sem, hb_5]; refine q8 Q14 (sB h (fun _ h => ?_) fun _ h => ?_)
      · exact au
      ·
       refine y5 (q8 Q13 (sg fun _ Q17 => ?_)); obtain ⟨v_6, ev_6, h⟩ := z8 h; simp only [go_sem]; refine q0b [] (z11 g_0 v_6 ev_6) ?_; simp only [go_sem]; refine q8 Q17 (q1n (fun (_ : Unit) => q59 g_0 p_0 v_3 = some r) [5] (fun _ => ([(7, .ptr 1 0), (11, .ptr 2 0)], [(0, .box (Row.row g_0)), (1, .box (Row.row p_0)), (2, .box (Row.row v_3.1))])) 3 ?_ ?_)
       · intro _ Q30; refine sM ?_; refine w9 fun _ Q32 => ?_; refine d9 h [4, 5, 6, 7, 14] (fun i_5 => ([(11, .ptr 3 0), (12, .osl 4 11 (0) (v_3.2.1.length)), (15, .v (.int .i64 i_5))], [(0, .box (Row.row g_0)), (1, .box (Row.row u_0)), (2, .box (Row.row p_0)), (3, .box (Row.row v_3.1)), (4, .arr 11 (enc v_3.2.1)), (5, .arr 1 (enc v_6))])) 6 ?_; rintro m_3 i_5 h _ Q33; rw [q5a] at h; exact au
       ·
        rintro ⟨⟩ h
        try dsimp only at h
        rw [q59] at h; refine sg fun _ Q18 => ?_; obtain ⟨v_16, ev_16, h⟩ := z8 h; simp only [go_sem]; refine q0b [] (qq8 g_0 v_3.1 v_16 ev_16) ?_; simp only [go_sem]; refine q8 Q18 (jg fun _ Q19 => ?_); refine sM ?_; refine w9 fun _ Q21 => ?_; refine d9 h [] (fun i_3 => ([(7, .ptr 0 0), (17, .osl 1 6 (0) (v_16.length)), (18, .v (.int .i64 i_3))], [(0, .box (Row.row p_0)), (1, .arr 6 (enc v_16))])) 2 ?_; rintro m_2 i_3 h _ Q22; rw [q5b] at h; exact au)
end Go.Proofs.YtgegekpefakacaaGreat
