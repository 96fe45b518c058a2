/-
  What functions of the program compute, each told as a plain function that may give nothing, with the proof that the code does so. No condition beyond those that each theorem names.
-/
import Derived.Test.YtaiccbgcgcfhfaaGreatWalkWL0
import Derived.Test.YtaiccbgcgcfhfaaGreatLibD
import Derived.Test.YtaiccbgcgcfhfaaGreatLibE
set_option linter.unusedSimpArgs false
set_option linter.unusedVariables false
set_option linter.unusedSectionVars false
set_option maxHeartbeats 2000000
set_option maxRecDepth 100000
open Option renaming some.inj -> Xa, getD_some -> Xo, map_some -> Xt
open List renaming set -> Xb, eraseIdx -> Xd, length_cons -> Xf, length_nil -> Xg, getD_eq_getElem?_getD -> Xj, length_append -> Xk, cons_append -> Xn, length -> Xq, nil_append -> Xr, append_nil -> Xs, map_cons -> Xu, map_nil -> Xv, drop_succ_cons -> Xw, mapIdx_cons -> Xx
open And renaming intro -> Xc
open Prod renaming mk -> Xe
open Int renaming toNat -> Xh
open Nat renaming zero_add -> Xi, lt_succ_self -> Xl, reduceAdd -> Xm, mul_one -> Xp
namespace Go.Proofs.YtaiccbgcgcfhfaaGreat
open Go Go.RowKit
open Go.IntKind (i64)
def q2m (rv_0 : GMean_runner) (nv_0 : Int) (port_0 : Int) (t_0 : GTime) (b_0 : List GItem) : Option GMean_runner :=
 (if ((b_0.length : Int) == 0) = true then some rv_0
 else (qs6 (q45 rv_0.ins.1 ((⟨nv_0, t_0⟩ : GMean_point))) (q02 (Key.okb ((⟨nv_0, t_0⟩ : GMean_point)) = true) (
 q02 (0 <= port_0 /\ port_0 < 2) (
 q9 (idx ([([] : List GItem), ([] : List GItem)] : List (List GItem)) port_0) (fun xv_0 =>
 q9 (q61 xv_0 b_0) (fun v_0 =>
 q02 (0 <= port_0 /\ port_0 < 2) (
 q9 (some (if port_0.toNat = 0 then v_0 else ([] : List GItem))) (fun w_0 =>
 q9 (some (if port_0.toNat = 1 then v_0 else ([] : List GItem))) (fun w_1 =>
 some (⟨rv_0.g, (Xe (rv_0.ins.1 ++ [(⟨nv_0, t_0⟩ : GMean_point)]) (Xb (rv_0.ins.2 ++ [(⟨([] : List GItem), ([] : List GItem)⟩ : Arr2 (List GItem))]) (rv_0.ins.1.length) (⟨w_0, w_1⟩ : Arr2 (List GItem)))), rv_0.past, rv_0.bags, rv_0.work, rv_0.most, rv_0.outs, rv_0.e⟩ : GMean_runner)))))))))
 (fun i_0 => q9 (atK rv_0.ins.2 i_0) (fun v_1 =>
 q02 (0 <= port_0 /\ port_0 < 2) (
 q9 (idx ([v_1.a0, v_1.a1] : List (List GItem)) port_0) (fun xv_1 =>
 q9 (q61 xv_1 b_0) (fun v_2 =>
 q02 (0 <= port_0 /\ port_0 < 2) (
 q9 (some (if port_0.toNat = 0 then v_2 else v_1.a0)) (fun w_2 =>
 q9 (some (if port_0.toNat = 1 then v_2 else v_1.a1)) (fun w_3 =>
 some (⟨rv_0.g, (Xe rv_0.ins.1 (Xb rv_0.ins.2 i_0 (⟨w_2, w_3⟩ : Arr2 (List GItem)))), rv_0.past, rv_0.bags, rv_0.work, rv_0.most, rv_0.outs, rv_0.e⟩ : GMean_runner)))))))))))
theorem q98 (rv_0 : GMean_runner) (nv_0 : Int) (port_0 : Int) (t_0 : GTime) (b_0 : List GItem)  (r : GMean_runner) (h : q2m rv_0 nv_0 port_0 t_0 b_0 = some r) : DetS pp 16 [.ptr 0 0, .v (.int .i64 nv_0), .v (.int .i64 port_0), .agg (Row.row t_0), .sl 3 (enc b_0)] [(0, .box [.sl 1 (enc rv_0.g.Parent), .sl 1 (enc rv_0.g.Bound), .sl 4 (enc rv_0.g.Nodes), .sl 4 (enc rv_0.g.Edges), .mp 1, .mp 2, .mp 3, .v (.int .i64 rv_0.work), .v (.int .i64 rv_0.most), .osl 4 4 (0) (rv_0.outs.length), .v (.int .i64 rv_0.e)]), (1, .con (u7 pp 81 0 (p9 rv_0.ins.1) (enc rv_0.ins.2) none) []), (2, .con (u7 pp 3 1 (p9 rv_0.past.1) (enc rv_0.past.2) none) []), (3, .con (u7 pp 81 2 (p9 rv_0.bags.1) (enc rv_0.bags.2) none) []), (4, .arr 4 (enc rv_0.outs))] 5 (.tup []) [(0, .box [.sl 1 (enc r.g.Parent), .sl 1 (enc r.g.Bound), .sl 4 (enc r.g.Nodes), .sl 4 (enc r.g.Edges), .mp 1, .mp 2, .mp 3, .v (.int .i64 r.work), .v (.int .i64 r.most), .osl 5 4 (0) (r.outs.length), .v (.int .i64 r.e)]), (1, .con (u7 pp 81 0 (p9 r.ins.1) (enc r.ins.2) none) []), (2, .con (u7 pp 3 1 (p9 r.past.1) (enc r.past.2) none) []), (3, .con (u7 pp 81 2 (p9 r.bags.1) (enc r.bags.2) none) []), (5, .arr 4 (enc r.outs))] 6 := by
  unfold DetS; refine Spec.of_wp Tryz.func16 rfl (by kernel_rfl) (by kernel_rfl) ?_; rw [q2m] at h; refine sgW fun _ Q1 => ?_; refine wv ?_; simp only [go_sem]; refine x8 Q1 ?_; refine sgW fun _ Q2 => ?_; refine sgW fun _ Q3 => ?_; refine wv ?_; simp only [go_sem]; refine x8 Q3 ?_; refine q3q (b := ((b_0.length : Int) == 0)) (by (simp only [go_sem]; done)) (fun hb_0 => ?_) (fun hb_0 => ?_)
  .
    replace h := q4d h hb_0; simp only [bool_to_prop] at hb_0; refine wv ?_; refine q0a (qn8 Q2 ?_); simp only [go_sem]; obtain rfl := Xa h; refine q1s [some 4] ?_; simp only [go_sem, Le] <;> (repeat' apply Xc) <;> (try with_reducible refine q0c ?_) <;> first | omega | (simp [go_sem]; done)
  .
    replace h := q4e h hb_0; simp only [bool_to_prop] at hb_0; refine wv ?_; refine y9 (x8 Q2 ?_); refine sgW fun _ Q4 => ?_; refine wv ?_; simp only [go_sem]; refine x8 Q4 ?_; refine sgW fun _ Q5 => ?_; refine sgW fun _ Q6 => ?_; refine qg3 h (fun hm_0 h => ?_) (fun i_0 hm_0 h => ?_)
    .
      obtain ⟨g_0, h⟩ := q0j h; have hn_0 : ¬ (Value.agg ⟨[.int .i64 nv_0, .int .i64 t_0.D, .int .i64 t_0.C.a0, .int .i64 t_0.C.a1, .int .i64 t_0.C.a2, .int .i64 t_0.C.a3]⟩) ∈ p9 rv_0.ins.1 := qq4 hm_0; have hk_0 : ∃ l, keyOf pp 81 (Value.agg ⟨[.int .i64 nv_0, .int .i64 t_0.D, .int .i64 t_0.C.a0, .int .i64 t_0.C.a1, .int .i64 t_0.C.a2, .int .i64 t_0.C.a3]⟩) = some l := z5p ((⟨nv_0, t_0⟩ : GMean_point)) g_0; refine q8x ?_; refine wv ?_; refine q0e ?_; refine je2 ?_; simp only [go_sem, q55, hn_0, hk_0]; refine q2o ?_; refine x8 Q6 ?_; refine zw4 (by (simp only [go_sem]; done)) ?_; refine q8x ?_; refine wv ?_; refine q0e ?_; refine q3i 7 0 0 [0, 1, 3, 7, 0, 0, 32, 127] [7] [0, 1, 2, 3, 4] [] [6] [] mixed (by kernel_rfl) (of_decide_eq_true (by kernel_rfl)) (by kernel_rfl) (by kernel_rfl) (by rfl) ?_; simp only [go_sem]; refine qy6 [.sl 3 (enc ([] : List GItem)), .sl 3 (enc ([] : List GItem))] ?_ rfl trivial trivial trivial rfl rfl z9e q55 rfl hk_0 hn_0; have rn_0k : p9 rv_0.ins.1 ++ [(Value.agg ⟨[.int .i64 nv_0, .int .i64 t_0.D, .int .i64 t_0.C.a0, .int .i64 t_0.C.a1, .int .i64 t_0.C.a2, .int .i64 t_0.C.a3]⟩)] = p9 (rv_0.ins.1 ++ [(⟨nv_0, t_0⟩ : GMean_point)]) := z0n rv_0.ins.1 (⟨nv_0, t_0⟩ : GMean_point); have rn_0v : enc rv_0.ins.2 ++ [[.sl 3 (enc ([] : List GItem)), .sl 3 (enc ([] : List GItem))]] = enc (rv_0.ins.2 ++ [(⟨([] : List GItem), ([] : List GItem)⟩ : Arr2 (List GItem))]) := (q57 rv_0.ins.2 [(⟨([] : List GItem), ([] : List GItem)⟩ : Arr2 (List GItem))]).symm; have rn_0l : (p9 (rv_0.ins.1 ++ [(⟨nv_0, t_0⟩ : GMean_point)]))[rv_0.ins.1.length]? = some (Value.agg ⟨[.int .i64 nv_0, .int .i64 t_0.D, .int .i64 t_0.C.a0, .int .i64 t_0.C.a1, .int .i64 t_0.C.a2, .int .i64 t_0.C.a3]⟩) := z14 rv_0.ins.1 (⟨nv_0, t_0⟩ : GMean_point); rw [rn_0k, rn_0v, z0m]; simp only [go_sem]; refine q83 (fun _ _ _ _ H => H.nilBox (id := 7) [.sl 3 (enc ([] : List GItem)), .sl 3 (enc ([] : List GItem))] rfl ⟨.inr ⟨rfl, _, rfl⟩, .inr ⟨rfl, _, rfl⟩, trivial⟩) ?_; refine q2o ?_
      refine x8 Q5 ?_; refine q8x ?_; refine wv ?_; refine q0e ?_; refine je2 ?_; obtain ⟨g_1, h⟩ := q0j h; obtain ⟨xv_0, ex0, h⟩ := z8 h; obtain ⟨f0a, f0b, f0c, fxv_0d⟩ := qu3 (f := (fun y => AV.sl 3 (enc y))) [] [] ex0; simp only [Xn, Xr, Xs, Xu, Xv, Xf, Xg, Xi, Xm, q6n] at f0b f0c fxv_0d; obtain ⟨v_0, ev_0, h⟩ := z8 h; simp only [go_sem, q55, rn_0l, q55, rn_0l, g_1, f0a, f0b, f0c, fxv_0d]; refine Xc (by first | omega | (intros; simp_all; done)) ?_; refine Xc (by first | omega | (intros; simp_all; done)) ?_; simp only [Xj, Xp, fxv_0d, Xt, Xo, true_and]; simp only [go_sem, q55, rn_0l, q55, rn_0l, g_1, f0a, f0b, f0c, fxv_0d, Xj, Xp, fxv_0d, Xt, Xo, true_and]; refine callq (fun _ => (z3n xv_0 b_0 v_0 ev_0)) (by rfl) (by rfl) ?_; obtain ⟨g_2, h⟩ := q0j h; obtain ⟨w_0, ew_0, h⟩ := z8 h; obtain ⟨w_1, ew_1, h⟩ := z8 h; have sf_0 := z81 (f := (fun y => AV.sl 3 (enc y))) [] [] [([] : List GItem), ([] : List GItem)] [w_0, w_1] (port_0.toNat) v_0 (by simp only [Xf, Xg]; omega) (by simp only [Xx, List.mapIdx_nil, Xi, Xm, Xa ew_0, Xa ew_1]); simp only [Xn, Xr, Xs, Xu, Xv, Xf, Xg, Xi, Xm, q5t, Nat.add_assoc, Xw, q6n] at sf_0; simp only [go_sem, g_2, sf_0, Xp]; refine Xc (by omega) ?_
      have rm_0 : enc (Xb (rv_0.ins.2 ++ [(⟨([] : List GItem), ([] : List GItem)⟩ : Arr2 (List GItem))]) (rv_0.ins.1.length) (⟨w_0, w_1⟩ : Arr2 (List GItem))) = (enc (rv_0.ins.2 ++ [(⟨([] : List GItem), ([] : List GItem)⟩ : Arr2 (List GItem))])).set (rv_0.ins.1.length) [.sl 3 (enc w_0), .sl 3 (enc w_1)] := q8b (rv_0.ins.2 ++ [(⟨([] : List GItem), ([] : List GItem)⟩ : Arr2 (List GItem))]) (rv_0.ins.1.length) (⟨w_0, w_1⟩ : Arr2 (List GItem)); refine q83 (fun _ _ _ _ H => H.closeM0n (id := 1) (id2 := 7) (r := [.sl 3 (enc w_0), .sl 3 (enc w_1)]) [.sl 3 (enc w_0), .sl 3 (enc w_1)] rfl rfl rfl ⟨.inl rfl, .inl rfl, trivial⟩ (R' := enc (Xb (rv_0.ins.2 ++ [(⟨([] : List GItem), ([] : List GItem)⟩ : Arr2 (List GItem))]) (rv_0.ins.1.length) (⟨w_0, w_1⟩ : Arr2 (List GItem)))) rm_0) ?_; refine q2o ?_; simp only [go_sem]; obtain rfl := Xa h; refine q1s [some 4] ?_; simp only [go_sem, Le] <;> (repeat' apply Xc) <;> (try with_reducible refine q0c ?_) <;> first | omega | (simp [go_sem]; done)
    .
      obtain ⟨v_1, ev_1, h⟩ := z8 h; have hk_1 : (p9 rv_0.ins.1)[i_0]? = some (Value.agg ⟨[.int .i64 nv_0, .int .i64 t_0.D, .int .i64 t_0.C.a0, .int .i64 t_0.C.a1, .int .i64 t_0.C.a2, .int .i64 t_0.C.a3]⟩) := qq3 hm_0; refine reW (fun _ _ _ _ H => H.openM0 (id := 1) (i := i_0) (r := [.sl 3 (enc v_1.a0), .sl 3 (enc v_1.a1)]) rfl (z2e ev_1)) ?_; refine q8x ?_; refine wv ?_; refine q0e ?_; refine je2 ?_; simp only [go_sem, q55, hk_1]; refine q2o ?_; refine x8 Q6 ?_; refine j8d (by (simp only [go_sem]; done)) ?_; refine wv ?_; refine y9 (x8 Q5 ?_); refine q8x ?_; refine wv ?_; refine q0e ?_; refine je2 ?_; obtain ⟨g_3, h⟩ := q0j h; obtain ⟨xv_1, ex1, h⟩ := z8 h; obtain ⟨f1a, f1b, f1c, fxv_1d⟩ := qu3 (f := (fun y => AV.sl 3 (enc y))) [] [] ex1; simp only [Xn, Xr, Xs, Xu, Xv, Xf, Xg, Xi, Xm, q6n] at f1b f1c fxv_1d; obtain ⟨v_2, ev_2, h⟩ := z8 h; simp only [go_sem, q55, hk_1, q55, hk_1, g_3, f1a, f1b, f1c, fxv_1d]; refine Xc (by first | omega | (intros; simp_all; done)) ?_; refine Xc (by first | omega | (intros; simp_all; done)) ?_; simp only [Xj, Xp, fxv_1d, Xt, Xo, true_and]; simp only [go_sem, q55, hk_1, q55, hk_1, g_3, f1a, f1b, f1c, fxv_1d, Xj, Xp, fxv_1d, Xt, Xo, true_and]; refine callq (fun _ => (z3n xv_1 b_0 v_2 ev_2)) (by rfl) (by rfl) ?_; obtain ⟨g_4, h⟩ := q0j h; obtain ⟨w_2, ew_2, h⟩ := z8 h; obtain ⟨w_3, ew_3, h⟩ := z8 h; have sf_1 := z81 (f := (fun y => AV.sl 3 (enc y))) [] [] [v_1.a0, v_1.a1] [w_2, w_3] (port_0.toNat) v_2 (by simp only [Xf, Xg]; omega) (by simp only [Xx, List.mapIdx_nil, Xi, Xm, Xa ew_2, Xa ew_3])
      simp only [Xn, Xr, Xs, Xu, Xv, Xf, Xg, Xi, Xm, q5t, Nat.add_assoc, Xw, q6n] at sf_1; simp only [go_sem, g_4, sf_1, Xp]; refine Xc (by omega) ?_; have rm_1 : enc (Xb rv_0.ins.2 i_0 (⟨w_2, w_3⟩ : Arr2 (List GItem))) = (enc rv_0.ins.2).set i_0 [.sl 3 (enc w_2), .sl 3 (enc w_3)] := q8b rv_0.ins.2 i_0 (⟨w_2, w_3⟩ : Arr2 (List GItem)); refine q83 (fun _ _ _ _ H => H.closeM0n (id := 1) (id2 := 7) (r := [.sl 3 (enc w_2), .sl 3 (enc w_3)]) [.sl 3 (enc w_2), .sl 3 (enc w_3)] rfl rfl rfl ⟨.inl rfl, .inl rfl, trivial⟩ (R' := enc (Xb rv_0.ins.2 i_0 (⟨w_2, w_3⟩ : Arr2 (List GItem)))) rm_1) ?_; refine q2o ?_; simp only [go_sem]; obtain rfl := Xa h; refine q1s [some 4] ?_; simp only [go_sem, Le] <;> (repeat' apply Xc) <;> (try with_reducible refine q0c ?_) <;> first | omega | (simp [go_sem]; done)
def qu7 (b_0 : List GItem) (rec_1 : Int × Int -> Option Int) : Int × Int -> Option Int :=
 fun (nv_1, t8_1) =>
 (if (decide (t8_1 < (b_0.length : Int))) = true then q9 (idx b_0 t8_1) (fun xv_2 =>
 rec_1 (i64.wrap (nv_1 + xv_2.N), i64.wrap (t8_1 + 1)))
 else some nv_1)
def qm8 (b_0 : List GItem) : Option Int :=
 q04 (qu7 b_0) rounds (0, 0)
instance z9w (b_0 : List GItem) : Ct pp 76 (qm8 b_0) [.sl 3 (enc b_0)] fun r => (.v (.int .i64 r)) := ctK Tryz.func76 rfl (by rw [qm8]) (by
 intro r h F; refine sM ?_; refine sM ?_; refine jg fun _ Q3 => ?_; refine sM ?_; refine w9 fun _ Q5 => ?_; refine q12 h [6, 7] (fun x => ([(3, .v (.int .i64 x.1)), (8, .v (.int .i64 x.2))], [])) 0 ?_; rintro m_1 ⟨nv_1, t8_1⟩ h _ Q6; rw [qu7] at h; exact au)
def q5i (rv_0 : GMean_runner) (rec_1 : Unit -> Option ((List GItem) × GMean_runner)) : Unit -> Option ((List GItem) × GMean_runner) :=
 fun _ =>
 (if (decide (0 < 0)) = true then none
 else some (([] : List GItem), rv_0))
def q5h (rv_0 : GMean_runner) (t_0 : GTime) (v_0 : List GCount) (rec_2 : Int -> Option ((List GItem) × GMean_runner)) : Int -> Option ((List GItem) × GMean_runner) :=
 fun t17_1 =>
 (if (decide (t17_1 < (v_0.length : Int))) = true then q9 (idx v_0 t17_1) (fun xv_2 =>
 q9 (z9v xv_2.Time t_0) (fun v_3 =>
 (if v_3 = true then none
 else rec_2 (i64.wrap (t17_1 + 1)))))
 else some (([] : List GItem), rv_0))
def q27 (rv_0 : GMean_runner) (nv_0 : Int) (t_0 : GTime) : Option ((List GItem) × GMean_runner) :=
 (qs6 (q45 rv_0.past.1 nv_0) (q02 (Key.okb nv_0 = true) (
 q04 (q5i rv_0) rounds ()))
 (fun i_0 => q9 (atK rv_0.past.2 i_0) (fun v_0 =>
 q04 (q5h rv_0 t_0 v_0) rounds 0)))
theorem q3c (rv_0 : GMean_runner) (nv_0 : Int) (t_0 : GTime)  (r : (List GItem) × GMean_runner) (h : q27 rv_0 nv_0 t_0 = some r) : DetS pp 72 [.ptr 0 0, .v (.int .i64 nv_0), .agg (Row.row t_0)] [(0, .box [.sl 1 (enc rv_0.g.Parent), .sl 1 (enc rv_0.g.Bound), .sl 4 (enc rv_0.g.Nodes), .sl 4 (enc rv_0.g.Edges), .mp 1, .mp 2, .mp 3, .v (.int .i64 rv_0.work), .v (.int .i64 rv_0.most), .osl 4 4 (0) (rv_0.outs.length), .v (.int .i64 rv_0.e)]), (1, .con (u7 pp 81 0 (p9 rv_0.ins.1) (enc rv_0.ins.2) none) []), (2, .con (u7 pp 3 1 (p9 rv_0.past.1) (enc rv_0.past.2) none) []), (3, .con (u7 pp 81 2 (p9 rv_0.bags.1) (enc rv_0.bags.2) none) []), (4, .arr 4 (enc rv_0.outs))] 5 (.sl 3 (enc r.1)) [(0, .box [.sl 1 (enc r.2.g.Parent), .sl 1 (enc r.2.g.Bound), .sl 4 (enc r.2.g.Nodes), .sl 4 (enc r.2.g.Edges), .mp 1, .mp 2, .mp 3, .v (.int .i64 r.2.work), .v (.int .i64 r.2.most), .osl 5 4 (0) (r.2.outs.length), .v (.int .i64 r.2.e)]), (1, .con (u7 pp 81 0 (p9 r.2.ins.1) (enc r.2.ins.2) none) []), (2, .con (u7 pp 3 1 (p9 r.2.past.1) (enc r.2.past.2) none) []), (3, .con (u7 pp 81 2 (p9 r.2.bags.1) (enc r.2.bags.2) none) []), (5, .arr 4 (enc r.2.outs))] 6 := by
  unfold DetS; refine Spec.of_wp Tryz.func72 rfl (by kernel_rfl) (by kernel_rfl) ?_; rw [q27] at h; refine sgW fun _ Q1 => ?_; refine wv ?_; simp only [go_sem]; refine x8 Q1 ?_; refine sgW fun _ Q2 => ?_; refine wv ?_; simp only [go_sem]; refine x8 Q2 ?_; refine sgW fun _ Q3 => ?_; refine sgW fun _ Q4 => ?_; refine qg3 h (fun hm_0 h => ?_) (fun i_0 hm_0 h => ?_)
  .
    obtain ⟨g_0, h⟩ := q0j h; have hn_0 : ¬ (Value.int .i64 nv_0) ∈ p9 rv_0.past.1 := qq4 hm_0; have hk_0 : ∃ l, keyOf pp 3 (Value.int .i64 nv_0) = some l := j2n nv_0 g_0; refine q8x ?_; refine wv ?_; simp only [go_sem, z1z, hn_0, hk_0]; refine q2o ?_; refine x8 Q4 ?_; refine qf5 fun _ Q5 => ?_; refine z5m (ι := Nat × Unit) (fun ((_, _) : Nat × Unit) => (⟨5, [(0, .ptr 0 0), (1, .v (.int .i64 nv_0)), (5, .ptr 5 0), (7, .v (.slice none 0 0)), (15, .v (.slice none 0 0)), (16, .v (.int .i64 0)), (17, .v (.int .i64 0))], [(0, .box [.sl 1 (enc rv_0.g.Parent), .sl 1 (enc rv_0.g.Bound), .sl 4 (enc rv_0.g.Nodes), .sl 4 (enc rv_0.g.Edges), .mp 1, .mp 2, .mp 3, .v (.int .i64 rv_0.work), .v (.int .i64 rv_0.most), .osl 4 4 (0) (rv_0.outs.length), .v (.int .i64 rv_0.e)]), (1, .con (u7 pp 81 0 (p9 rv_0.ins.1) (enc rv_0.ins.2) none) []), (2, .con (u7 pp 3 1 (p9 rv_0.past.1) (enc rv_0.past.2) none) []), (3, .con (u7 pp 81 2 (p9 rv_0.bags.1) (enc rv_0.bags.2) none) []), (4, .arr 4 (enc rv_0.outs)), (5, .box (Row.row t_0))], 6, 38⟩ : St)) (fun ((n_, u_) : Nat × Unit) => q04 (q5i rv_0) n_ u_ = some r) (fun p => p.1) (rounds, ()) [some 5] ?_ h ?_
    . simp only [go_sem, Le] <;> (repeat' apply Xc) <;> (try with_reducible refine q0c ?_) <;> first | omega | (simp [go_sem]; done)
    . rintro ⟨n_1, _⟩ h _ Q6
      dsimp only at h; replace h := qb3 h; obtain ⟨m_1, rfl, h⟩ := h; rw [q5i] at h; refine sgW fun _ Q7 => ?_; refine wv ?_; simp only [go_sem]; refine x8 Q7 ?_; refine sgW fun _ Q8 => ?_; refine q3q (b := (decide (0 < 0))) (by (simp only [go_sem]; done)) (fun hb_1 => ?_) (fun hb_1 => ?_)
      .
        replace h := q4d h hb_1; simp only [bool_to_prop] at hb_1; refine wv ?_; refine y9 (x8 Q8 ?_); refine sgW fun _ Q9 => ?_; refine qf5 fun _ Q10 => ?_; refine sgW fun _ Q11 => ?_; refine wv ?_; exact absurd h (by simp)
      .
        replace h := q4e h hb_1; simp only [bool_to_prop] at hb_1; refine wv ?_; refine q0w (qp4 Q8 ?_); refine q0x Q6 (q0p Q5 (x8 Q3 ?_)); refine sgW fun _ Q12 => ?_; refine wv ?_; simp only [go_sem]; refine x8 Q12 ?_; refine wv ?_; refine q0a ?_; simp only [go_sem]; obtain rfl := Xa h; refine q1s [some 4] ?_; simp only [go_sem, Le] <;> (repeat' apply Xc) <;> (try with_reducible refine q0c ?_) <;> first | omega | (simp [go_sem]; done)
  .
    obtain ⟨v_0, ev_0, h⟩ := z8 h; have hk_1 : (p9 rv_0.past.1)[i_0]? = some (Value.int .i64 nv_0) := qq3 hm_0; refine reW (fun _ _ _ _ H => H.openM1 (id := 2) (i := i_0) (isz := 6) (xs := enc v_0) rfl (z2e ev_0)) ?_; simp only [q0r]; refine q8x ?_; refine wv ?_; simp only [go_sem, z1z, hk_1]; refine q2o ?_; refine x8 Q4 ?_; refine qf5 fun _ Q13 => ?_; refine z5m (ι := Nat × Int) (fun ((_, t17_1) : Nat × Int) => (⟨5, [(0, .ptr 0 0), (1, .v (.int .i64 nv_0)), (5, .ptr 5 0), (7, .v (.slice none 0 0)), (15, .osl 6 6 (0) (v_0.length)), (16, .v (.int .i64 (v_0.length : Int))), (17, .v (.int .i64 t17_1))], [(0, .box [.sl 1 (enc rv_0.g.Parent), .sl 1 (enc rv_0.g.Bound), .sl 4 (enc rv_0.g.Nodes), .sl 4 (enc rv_0.g.Edges), .mp 1, .mp 2, .mp 3, .v (.int .i64 rv_0.work), .v (.int .i64 rv_0.most), .osl 4 4 (0) (rv_0.outs.length), .v (.int .i64 rv_0.e)]), (1, .con (u7 pp 81 0 (p9 rv_0.ins.1) (enc rv_0.ins.2) none) []), (2, .con (u7 pp 3 1 (p9 rv_0.past.1) (enc rv_0.past.2) (some i_0)) [.osl 6 6 (0) (v_0.length)]), (3, .con (u7 pp 81 2 (p9 rv_0.bags.1) (enc rv_0.bags.2) none) []), (4, .arr 4 (enc rv_0.outs)), (5, .box (Row.row t_0)), (6, .arr 6 (enc v_0))], 7, 38⟩ : St)) (fun ((n_, t17_1) : Nat × Int) => q04 (q5h rv_0 t_0 v_0) n_ t17_1 = some r) (fun p => p.1) (rounds, 0) [some 5, some 6] ?_ h ?_
    . simp only [go_sem, Le] <;> (repeat' apply Xc) <;> (try with_reducible refine q0c ?_) <;> first | omega | (simp [go_sem]; done)
    . rintro ⟨n_2, t17_1⟩ h _ Q14
      dsimp only at h; replace h := qb3 h; obtain ⟨m_2, rfl, h⟩ := h; rw [q5h] at h; refine sgW fun _ Q15 => ?_; refine wv ?_; simp only [go_sem]; refine x8 Q15 ?_; refine sgW fun _ Q16 => ?_; refine q3q (b := (decide (t17_1 < (v_0.length : Int)))) (by (simp only [go_sem]; done)) (fun hb_6 => ?_) (fun hb_6 => ?_)
      .
        replace h := q4d h hb_6; simp only [bool_to_prop] at hb_6; refine wv ?_; refine y9 (x8 Q16 ?_); refine sgW fun _ Q17 => ?_; refine qf5 fun _ Q18 => ?_; refine sgW fun _ Q19 => ?_; refine wv ?_; obtain ⟨xv_2, ex2, h⟩ := z8 h; obtain ⟨f2a, f2b, f2c⟩ := qo2 ex2; simp only [go_sem, f2a, f2b, f2c]; refine Xc (by omega) ?_; refine x8 Q19 ?_; refine sgW fun _ Q20 => ?_; refine wv ?_; obtain ⟨v_3, ev_3, h⟩ := z8 h; simp only [go_sem]; refine q6c (j0j xv_2.Time t_0 v_3 ev_3) (by rfl) (by rfl) ?_; simp only [go_sem]; refine x8 Q20 ?_; refine q3q (b := v_3) (by (simp only [go_sem]; done)) (fun hb_7 => ?_) (fun hb_7 => ?_)
        .
          replace h := q4d h hb_7; exact absurd h (by simp)
        .
          replace h := q4e h hb_7; refine wv ?_; refine y9 (q05 Q18 (x8 Q17 ?_)); refine wv ?_; simp only [go_sem]; refine p8 Q14 (⟨(m_2, i64.wrap (t17_1 + 1)), [some 5, some 6], ?_, h, Xl _⟩); simp only [go_sem, Le] <;> (repeat' apply Xc) <;> (try with_reducible refine q0c ?_) <;> first | omega | (simp [go_sem]; done)
      .
        replace h := q4e h hb_6; simp only [bool_to_prop] at hb_6; refine wv ?_; refine q0w (qp4 Q16 ?_); refine q0x Q14 (q0p Q13 (x8 Q3 ?_)); refine sgW fun _ Q21 => ?_; refine wv ?_; simp only [go_sem]; refine x8 Q21 ?_; have rm_2 : enc rv_0.past.2 = (enc rv_0.past.2).set i_0 [.sl 6 (enc v_0)] := zo1 ev_0; refine reW (fun _ _ _ _ H => H.closeM1 (id := 2) (id2 := 6) rfl rfl (by simp [q0r]) (R' := enc rv_0.past.2) rm_2) ?_; refine wv ?_; refine q0a ?_; simp only [go_sem]; obtain rfl := Xa h; refine q1s [some 4] ?_; simp only [go_sem, Le] <;> (repeat' apply Xc) <;> (try with_reducible refine q0c ?_) <;> first | omega | (simp [go_sem]; done)
def q3g (rv_0 : GMean_runner) (nv_0 : Int) (t_0 : GTime) : Option (GTime × Bool × GMean_runner) :=
 q9 (idx rv_0.g.Nodes nv_0) (fun xv_0 =>
 (if (xv_0.Kind == 10) = true then q9 (qk8 t_0) (fun v_0 =>
 some (v_0.1, v_0.2, rv_0))
 else (if (xv_0.Kind == 11) = true then q9 (qk7 t_0) (fun v_1 =>
 some (v_1.1, v_1.2, rv_0))
 else (if (xv_0.Kind == 12) = true then q9 (qq2 t_0) (fun v_2 =>
 (if v_2.2 = true then q02 (0 <= i64.wrap (v_2.1.D - 1) /\ i64.wrap (v_2.1.D - 1) < 4) (
 q9 (idx ([v_2.1.C.a0, v_2.1.C.a1, v_2.1.C.a2, v_2.1.C.a3] : List Int) (i64.wrap (v_2.1.D - 1))) (fun xv_1 =>
 q9 (idx rv_0.g.Bound xv_0.Scope) (fun xv_2 =>
 some (v_2.1, (decide (xv_1 < xv_2)), rv_0))))
 else some (v_2.1, false, rv_0)))
 else some (t_0, true, rv_0)))))
theorem qq8 (rv_0 : GMean_runner) (nv_0 : Int) (t_0 : GTime)  (r : GTime × Bool × GMean_runner) (h : q3g rv_0 nv_0 t_0 = some r) : DetS pp 75 [.ptr 0 0, .v (.int .i64 nv_0), .agg (Row.row t_0)] [(0, .box [.sl 1 (enc rv_0.g.Parent), .sl 1 (enc rv_0.g.Bound), .sl 4 (enc rv_0.g.Nodes), .sl 4 (enc rv_0.g.Edges), .mp 1, .mp 2, .mp 3, .v (.int .i64 rv_0.work), .v (.int .i64 rv_0.most), .osl 4 4 (0) (rv_0.outs.length), .v (.int .i64 rv_0.e)]), (1, .con (u7 pp 81 0 (p9 rv_0.ins.1) (enc rv_0.ins.2) none) []), (2, .con (u7 pp 3 1 (p9 rv_0.past.1) (enc rv_0.past.2) none) []), (3, .con (u7 pp 81 2 (p9 rv_0.bags.1) (enc rv_0.bags.2) none) []), (4, .arr 4 (enc rv_0.outs))] 5 (.tup [.agg (Row.row r.1), .v (.bool r.2.1)]) [(0, .box [.sl 1 (enc r.2.2.g.Parent), .sl 1 (enc r.2.2.g.Bound), .sl 4 (enc r.2.2.g.Nodes), .sl 4 (enc r.2.2.g.Edges), .mp 1, .mp 2, .mp 3, .v (.int .i64 r.2.2.work), .v (.int .i64 r.2.2.most), .osl 5 4 (0) (r.2.2.outs.length), .v (.int .i64 r.2.2.e)]), (1, .con (u7 pp 81 0 (p9 r.2.2.ins.1) (enc r.2.2.ins.2) none) []), (2, .con (u7 pp 3 1 (p9 r.2.2.past.1) (enc r.2.2.past.2) none) []), (3, .con (u7 pp 81 2 (p9 r.2.2.bags.1) (enc r.2.2.bags.2) none) []), (5, .arr 4 (enc r.2.2.outs))] 6 := by
 refine dtI Tryz.func75 rfl ?_; rw [q3g] at h; have F := trivial; refine sM ?_; refine sg fun _ Q2 => ?_; obtain ⟨xv_0, F, h⟩ := bI F h; simp only [go_sem, F]; refine ai ?_; refine q8 Q2 (sg fun _ Q3 => ?_); refine sM ?_; refine w9 fun _ Q5 => ?_; refine sM ?_; refine sB h (fun _ h => ?_) fun _ h => ?_
 . exact au
 .
  refine sM ?_; refine sB h (fun _ h => ?_) fun _ h => ?_
  . exact au
  .
   refine sM ?_; refine sB h (fun _ h => ?_) fun _ h => ?_
   .
    refine sg fun _ Q11 => ?_; simp only [go_sem]; refine q53 h fun v_2 h => ?_; simp only [go_sem]; refine q8 Q11 (sg fun _ Q12 => ?_); refine q0e ?_; refine q3i 21 0 0 [0, 0, 2, 6, 14, 30, 6, 126, 254, 6, 518, 1542, 3590, 7686, 6, 16390, 65030, 130566, 262142, 524286, 7, 2097151] [6] [3, 4, 5, 6, 7, 8, 9, 10, 11, 12, 13, 14, 15, 16, 17, 18, 19] [] [20] [] mixed (by kernel_rfl) (of_decide_eq_true (by kernel_rfl)) (by kernel_rfl) (by kernel_rfl) (by rfl) ?_; simp only [go_sem]; rcases hb_3 : v_2.2 with _ | _
    . replace h := q4e h hb_3; simp only [go_sem, hb_3]; exact au
    . replace h := q4d h hb_3; obtain ⟨F, h⟩ := bG F h; obtain ⟨xv_1, ex1, h⟩ := z8 h; obtain ⟨f1a, f1b, f1c, fxv_1d⟩ := qu3 (f := (fun y => AV.v (.int .i64 y))) [.v (.int .i64 v_2.1.D)] [] ex1; simp only [Xn, Xr, Xs, Xu, Xv, Xf, Xg, Xi, Xm, q6n] at f1b f1c fxv_1d; obtain ⟨xv_2, F, h⟩ := bI F h; simp only [go_sem, hb_3, f1a, f1b, f1c, fxv_1d, F]; refine ai ?_; refine ai ?_; simp only [Xj, Xp, fxv_1d, Xt, Xo, true_and]; exact au
   . exact au
def q48 (b_5 : GMean_runner) : Option (Bool × GMean_runner) :=
 (if (decide (b_5.most < b_5.work)) = true then some (true, (⟨b_5.g, b_5.ins, b_5.past, b_5.bags, b_5.work, b_5.most, b_5.outs, 9⟩ : GMean_runner))
 else some (true, b_5))
def q2w (nv_0 : Int) (v_10 : GTime × Bool × GMean_runner) (rec_4 : (List GItem) × Int × GMean_runner -> Option (Bool × GMean_runner)) : (List GItem) × Int × GMean_runner -> Option (Bool × GMean_runner) :=
 fun (out_3, t153_3, b_7) =>
 (if (decide (t153_3 < (v_10.2.2.g.Edges.length : Int))) = true then q9 (idx v_10.2.2.g.Edges t153_3) (fun xv_9 =>
 (if (xv_9.From == nv_0) = true then q9 (q2m b_7 xv_9.To xv_9.Port v_10.1 out_3) (fun v_21 =>
 q9 (qm8 out_3) (fun v_22 =>
 rec_4 (out_3, i64.wrap (t153_3 + 1), (⟨v_21.g, v_21.ins, v_21.past, v_21.bags, i64.wrap (v_21.work + v_22), v_21.most, v_21.outs, v_21.e⟩ : GMean_runner))))
 else rec_4 (out_3, i64.wrap (t153_3 + 1), b_7)))
 else q48 b_7)
def q49 (nv_0 : Int) (t_0 : GTime) (b_0 : GMean_runner) (v_8 : (List GItem) × Bool) : Option (Bool × GMean_runner) :=
 q9 (q3g b_0 nv_0 t_0) (fun v_10 =>
 (if ((!v_10.2.1) || ((v_8.1.length : Int) == 0)) = true then some (false, v_10.2.2)
 else q04 (q2w nv_0 v_10) rounds (v_8.1, 0, v_10.2.2)))
def q2v (nv_0 : Int) (t_0 : GTime) (v_23 : (List GRec) × Bool) (rec_5 : Int × GMean_runner -> Option (Bool × GMean_runner)) : Int × GMean_runner -> Option (Bool × GMean_runner) :=
 fun (t113_3, b_9) =>
 (if (decide (t113_3 < (v_23.1.length : Int))) = true then q9 (idx v_23.1 t113_3) (fun xv_12 =>
 q02 ((b_9.outs.length + Xq ([(⟨nv_0, t_0.C.a0, xv_12⟩ : GOut)] : List GOut)) * 32 <= 140737488355328) (
 rec_5 (i64.wrap (t113_3 + 1), (⟨b_9.g, b_9.ins, b_9.past, b_9.bags, b_9.work, b_9.most, (b_9.outs ++ ([(⟨nv_0, t_0.C.a0, xv_12⟩ : GOut)] : List GOut)), b_9.e⟩ : GMean_runner))))
 else some (false, b_9))
def q0u (nv_0 : Int) (t_0 : GTime) (xv_0 : GNode) (ports_0 : List (List GItem)) (b_0 : GMean_runner) : Option (Bool × GMean_runner) :=
 q9 (q7s xv_0 ports_0) (fun v_8 =>
 (if (!v_8.2) = true then some (false, (⟨b_0.g, b_0.ins, b_0.past, b_0.bags, b_0.work, b_0.most, b_0.outs, 9⟩ : GMean_runner))
 else (if (xv_0.Kind == 15) = true then q9 (qs4 v_8.1) (fun v_23 =>
 q04 (q2v nv_0 t_0 v_23) rounds (0, b_0))
 else q49 nv_0 t_0 b_0 v_8)))
def q3s (rv_0 : GMean_runner) (nv_0 : Int) (t_0 : GTime) : Option (Bool × GMean_runner) :=
 (qs6 (q45 rv_0.ins.1 ((⟨nv_0, t_0⟩ : GMean_point))) (q02 (Key.okb ((⟨nv_0, t_0⟩ : GMean_point)) = true) (
 some (false, rv_0)))
 (fun i_0 => q9 (atK rv_0.ins.2 i_0) (fun v_0 =>
 (if (!(rv_0.e == 0)) = true then some (false, rv_0)
 else q9 (idx rv_0.g.Nodes nv_0) (fun xv_0 =>
 q02 (0 <= 0 /\ 0 <= 2 /\ 2 <= 2) (
 (if (xv_0.Kind == 14) = true then (qs6 (q45 rv_0.past.1 nv_0) (q02 (Key.okb nv_0 = true) (
 q02 ((Xq ([(⟨t_0, 1⟩ : GCount)] : List GCount)) * 48 <= 140737488355328) (
 (qs6 (q45 rv_0.bags.1 ((⟨nv_0, t_0⟩ : GMean_point))) (q02 (Key.okb ((⟨nv_0, t_0⟩ : GMean_point)) = true) (
 q9 (q27 (⟨rv_0.g, Xe (Xd rv_0.ins.1 i_0) (Xd rv_0.ins.2 i_0), (Xe (rv_0.past.1 ++ [nv_0]) (Xb (rv_0.past.2 ++ [([(⟨t_0, 1⟩ : GCount)] : List GCount)]) (rv_0.past.1.length) ([(⟨t_0, 1⟩ : GCount)] : List GCount))), (Xe (rv_0.bags.1 ++ [(⟨nv_0, t_0⟩ : GMean_point)]) (Xb (rv_0.bags.2 ++ [v_0.a0]) (rv_0.bags.1.length) v_0.a0)), rv_0.work, rv_0.most, rv_0.outs, rv_0.e⟩ : GMean_runner) nv_0 t_0) (fun v_24 =>
 q0u nv_0 t_0 xv_0 ([v_0.a0, v_24.1] : List (List GItem)) v_24.2)))
 (fun i_5 => q9 (atK rv_0.bags.2 i_5) (fun v_25 =>
 q9 (q27 (⟨rv_0.g, Xe (Xd rv_0.ins.1 i_0) (Xd rv_0.ins.2 i_0), (Xe (rv_0.past.1 ++ [nv_0]) (Xb (rv_0.past.2 ++ [([(⟨t_0, 1⟩ : GCount)] : List GCount)]) (rv_0.past.1.length) ([(⟨t_0, 1⟩ : GCount)] : List GCount))), Xe rv_0.bags.1 (Xb rv_0.bags.2 i_5 v_0.a0), rv_0.work, rv_0.most, rv_0.outs, rv_0.e⟩ : GMean_runner) nv_0 t_0) (fun v_26 =>
 q0u nv_0 t_0 xv_0 ([v_0.a0, v_26.1] : List (List GItem)) v_26.2)))))))
 (fun i_4 => q9 (atK rv_0.past.2 i_4) (fun v_27 =>
 q02 ((v_27.length + Xq ([(⟨t_0, 1⟩ : GCount)] : List GCount)) * 48 <= 140737488355328) (
 (qs6 (q45 rv_0.bags.1 ((⟨nv_0, t_0⟩ : GMean_point))) (q02 (Key.okb ((⟨nv_0, t_0⟩ : GMean_point)) = true) (
 q9 (q27 (⟨rv_0.g, Xe (Xd rv_0.ins.1 i_0) (Xd rv_0.ins.2 i_0), (Xe rv_0.past.1 (Xb rv_0.past.2 i_4 (v_27 ++ ([(⟨t_0, 1⟩ : GCount)] : List GCount)))), (Xe (rv_0.bags.1 ++ [(⟨nv_0, t_0⟩ : GMean_point)]) (Xb (rv_0.bags.2 ++ [v_0.a0]) (rv_0.bags.1.length) v_0.a0)), rv_0.work, rv_0.most, rv_0.outs, rv_0.e⟩ : GMean_runner) nv_0 t_0) (fun v_28 =>
 q0u nv_0 t_0 xv_0 ([v_0.a0, v_28.1] : List (List GItem)) v_28.2)))
 (fun i_6 => q9 (atK rv_0.bags.2 i_6) (fun v_29 =>
 q9 (q27 (⟨rv_0.g, Xe (Xd rv_0.ins.1 i_0) (Xd rv_0.ins.2 i_0), (Xe rv_0.past.1 (Xb rv_0.past.2 i_4 (v_27 ++ ([(⟨t_0, 1⟩ : GCount)] : List GCount)))), Xe rv_0.bags.1 (Xb rv_0.bags.2 i_6 v_0.a0), rv_0.work, rv_0.most, rv_0.outs, rv_0.e⟩ : GMean_runner) nv_0 t_0) (fun v_30 =>
 q0u nv_0 t_0 xv_0 ([v_0.a0, v_30.1] : List (List GItem)) v_30.2))))))))
 else q0u nv_0 t_0 xv_0 ([v_0.a0, v_0.a1] : List (List GItem)) (⟨rv_0.g, Xe (Xd rv_0.ins.1 i_0) (Xd rv_0.ins.2 i_0), rv_0.past, rv_0.bags, rv_0.work, rv_0.most, rv_0.outs, rv_0.e⟩ : GMean_runner))))))))
theorem qs2 (rv_0 : GMean_runner) (nv_0 : Int) (t_0 : GTime)  (r : Bool × GMean_runner) (h : q3s rv_0 nv_0 t_0 = some r) : DetS pp 42 [.ptr 0 0, .v (.int .i64 nv_0), .agg (Row.row t_0)] [(0, .box [.sl 1 (enc rv_0.g.Parent), .sl 1 (enc rv_0.g.Bound), .sl 4 (enc rv_0.g.Nodes), .sl 4 (enc rv_0.g.Edges), .mp 1, .mp 2, .mp 3, .v (.int .i64 rv_0.work), .v (.int .i64 rv_0.most), .osl 4 4 (0) (rv_0.outs.length), .v (.int .i64 rv_0.e)]), (1, .con (u7 pp 81 0 (p9 rv_0.ins.1) (enc rv_0.ins.2) none) []), (2, .con (u7 pp 3 1 (p9 rv_0.past.1) (enc rv_0.past.2) none) []), (3, .con (u7 pp 81 2 (p9 rv_0.bags.1) (enc rv_0.bags.2) none) []), (4, .arr 4 (enc rv_0.outs))] 5 (.v (.bool r.1)) [(0, .box [.sl 1 (enc r.2.g.Parent), .sl 1 (enc r.2.g.Bound), .sl 4 (enc r.2.g.Nodes), .sl 4 (enc r.2.g.Edges), .mp 1, .mp 2, .mp 3, .v (.int .i64 r.2.work), .v (.int .i64 r.2.most), .osl 5 4 (0) (r.2.outs.length), .v (.int .i64 r.2.e)]), (1, .con (u7 pp 81 0 (p9 r.2.ins.1) (enc r.2.ins.2) none) []), (2, .con (u7 pp 3 1 (p9 r.2.past.1) (enc r.2.past.2) none) []), (3, .con (u7 pp 81 2 (p9 r.2.bags.1) (enc r.2.bags.2) none) []), (5, .arr 4 (enc r.2.outs))] 6 := by
  unfold DetS; refine Spec.of_wp Tryz.func42 rfl (by kernel_rfl) (by kernel_rfl) ?_; rw [q3s] at h; refine sgW fun _ Q1 => ?_; refine wv ?_; simp only [go_sem]; refine x8 Q1 ?_; refine sgW fun _ Q2 => ?_; refine qg3 h (fun hm_0 h => ?_) (fun i_0 hm_0 h => ?_)
  .
    obtain ⟨g_0, h⟩ := q0j h; have hn_0 : ¬ (Value.agg ⟨[.int .i64 nv_0, .int .i64 t_0.D, .int .i64 t_0.C.a0, .int .i64 t_0.C.a1, .int .i64 t_0.C.a2, .int .i64 t_0.C.a3]⟩) ∈ p9 rv_0.ins.1 := qq4 hm_0; have hk_0 : ∃ l, keyOf pp 81 (Value.agg ⟨[.int .i64 nv_0, .int .i64 t_0.D, .int .i64 t_0.C.a0, .int .i64 t_0.C.a1, .int .i64 t_0.C.a2, .int .i64 t_0.C.a3]⟩) = some l := z5p ((⟨nv_0, t_0⟩ : GMean_point)) g_0; refine q8x ?_; refine wv ?_; refine q0e ?_; refine je2 ?_; simp only [go_sem, q55, hn_0, hk_0]; refine q2o ?_; refine x8 Q2 ?_; refine sgW fun _ Q3 => ?_; refine sgW fun _ Q4 => ?_; refine wv ?_; simp only [go_sem]; refine x8 Q4 ?_; refine zw4 (by (simp only [go_sem]; done)) ?_; refine sgW fun _ Q5 => ?_; refine wv ?_; simp only [go_sem]; refine x8 Q5 ?_; refine wv ?_; refine q0a (qn8 Q3 ?_); simp only [go_sem]; obtain rfl := Xa h; refine q1s [some 4] ?_; simp only [go_sem, Le] <;> (repeat' apply Xc) <;> (try with_reducible refine q0c ?_) <;> first | omega | (simp [go_sem]; done)
  .
    obtain ⟨v_0, ev_0, h⟩ := z8 h; have hk_1 : (p9 rv_0.ins.1)[i_0]? = some (Value.agg ⟨[.int .i64 nv_0, .int .i64 t_0.D, .int .i64 t_0.C.a0, .int .i64 t_0.C.a1, .int .i64 t_0.C.a2, .int .i64 t_0.C.a3]⟩) := qq3 hm_0; refine reW (fun _ _ _ _ H => H.openM0 (id := 1) (i := i_0) (r := [.sl 3 (enc v_0.a0), .sl 3 (enc v_0.a1)]) rfl (z2e ev_0)) ?_; refine q8x ?_; refine wv ?_; refine q0e ?_; refine je2 ?_; simp only [go_sem, q55, hk_1]; refine q2o ?_; refine x8 Q2 ?_; refine sgW fun _ Q6 => ?_; refine sgW fun _ Q7 => ?_; refine wv ?_; simp only [go_sem]; refine x8 Q7 ?_; refine q3q (b := (!(rv_0.e == 0))) (by (simp only [go_sem]; done)) (fun hb_0 => ?_) (fun hb_0 => ?_)
    .
      replace h := q4d h hb_0; simp only [bool_to_prop] at hb_0; refine sgW fun _ Q8 => ?_; refine wv ?_; simp only [go_sem]; refine x8 Q8 ?_; have rm_0 : enc rv_0.ins.2 = (enc rv_0.ins.2).set i_0 [.sl 3 (enc v_0.a0), .sl 3 (enc v_0.a1)] := zo1 ev_0; refine reW (fun _ _ _ _ H => H.closeM0n (id := 1) (id2 := 6) (r := [.sl 3 (enc v_0.a0), .sl 3 (enc v_0.a1)]) [.sl 3 (enc v_0.a0), .sl 3 (enc v_0.a1)] rfl rfl rfl ⟨.inl rfl, .inl rfl, trivial⟩ (R' := enc rv_0.ins.2) rm_0) ?_; refine wv ?_; refine q0a (qn8 Q6 ?_); simp only [go_sem]; obtain rfl := Xa h; refine q1s [some 4] ?_; simp only [go_sem, Le] <;> (repeat' apply Xc) <;> (try with_reducible refine q0c ?_) <;> first | omega | (simp [go_sem]; done)
    .
      replace h := q4e h hb_0; simp only [bool_to_prop] at hb_0; refine wv ?_; refine y9 (x8 Q6 ?_); refine sgW fun _ Q9 => ?_; refine q8x ?_; refine wv ?_; refine q0e ?_; refine je2 ?_; simp only [go_sem]; refine zz6 ?_ rfl rfl rfl rfl trivial trivial rfl rfl z9e q55 rfl hk_1; simp only [go_sem]; refine q2o ?_; refine x8 Q9 ?_; refine sgW fun _ Q10 => ?_; refine wv ?_; obtain ⟨xv_0, ex0, h⟩ := z8 h; obtain ⟨f0a, f0b, f0c⟩ := qo2 ex0; simp only [go_sem, f0a, f0b, f0c]; refine Xc (by omega) ?_; refine x8 Q10 ?_; refine sgW fun _ Q11 => ?_; refine wv ?_; obtain ⟨g_1, h⟩ := q0j h; simp only [go_sem, g_1]; refine x8 Q11 ?_; refine zo9 (ι := (List (List GItem)) × GMean_runner) (fun ((ports_0, b_0) : (List (List GItem)) × GMean_runner) => (⟨5, [(0, .ptr 0 0), (1, .v (.int .i64 nv_0)), (5, .ptr 5 0), (8, .ptr 6 0), (9, .sl 1 (enc ports_0))], [(0, .box [.sl 1 (enc b_0.g.Parent), .sl 1 (enc b_0.g.Bound), .sl 4 (enc b_0.g.Nodes), .sl 4 (enc b_0.g.Edges), .mp 1, .mp 2, .mp 3, .v (.int .i64 b_0.work), .v (.int .i64 b_0.most), .osl 7 4 (0) (b_0.outs.length), .v (.int .i64 b_0.e)]), (1, .con (u7 pp 81 0 (p9 b_0.ins.1) (enc b_0.ins.2) none) []), (2, .con (u7 pp 3 1 (p9 b_0.past.1) (enc b_0.past.2) none) []), (3, .con (u7 pp 81 2 (p9 b_0.bags.1) (enc b_0.bags.2) none) []), (5, .box (Row.row t_0)), (6, .box (Row.row xv_0)), (7, .arr 4 (enc b_0.outs))], 8, 191⟩ : St)) (fun ((ports_0, b_0) : (List (List GItem)) × GMean_runner) => q0u nv_0 t_0 xv_0 ports_0 b_0 = some r) ?_ ?_
      .
        intro _ Q49; refine sgW fun _ Q50 => ?_; refine wv ?_; simp only [go_sem]; refine x8 Q50 ?_; refine q3q (b := (xv_0.Kind == 14)) (by (simp only [go_sem]; done)) (fun hb_25 => ?_) (fun hb_25 => ?_)
        .
          replace h := q4d h hb_25; simp only [bool_to_prop] at hb_25; refine sgW fun _ Q51 => ?_; refine qg3 h (fun hm_4 h => ?_) (fun i_4 hm_4 h => ?_)
          .
            obtain ⟨g_13, h⟩ := q0j h; have hn_4 : ¬ (Value.int .i64 nv_0) ∈ p9 rv_0.past.1 := qq4 hm_4; have hk_8 : ∃ l, keyOf pp 3 (Value.int .i64 nv_0) = some l := j2n nv_0 g_13; refine q8x ?_; refine wv ?_; refine q0e ?_; refine q3i 15 0 0 [0, 1, 3, 7, 0, 0, 32, 96, 224, 0, 992, 0, 2048, 6144, 16352, 32767] [8] [0, 1, 2, 3, 4] [] [14] [] mixed (by kernel_rfl) (of_decide_eq_true (by kernel_rfl)) (by kernel_rfl) (by kernel_rfl) (by rfl) ?_; have rf_19 : [[.v (.int .i64 t_0.D), .v (.int .i64 t_0.C.a0), .v (.int .i64 t_0.C.a1), .v (.int .i64 t_0.C.a2), .v (.int .i64 t_0.C.a3), .v (.int .i64 1)]] = enc ([(⟨t_0, 1⟩ : GCount)] : List GCount) := by rfl
            obtain ⟨g_14, h⟩ := q0j h; simp only [Xf, Xg, Xi, Xk] at g_14; simp only [go_sem, z1z, hn_4, hk_8, g_14]; simp only [rf_19]; refine qy6 [.sl 6 (enc ([(⟨t_0, 1⟩ : GCount)] : List GCount))] ?_ rfl trivial trivial trivial rfl rfl z9d z1z rfl hk_8 hn_4; have rn_3k : p9 rv_0.past.1 ++ [(Value.int .i64 nv_0)] = p9 (rv_0.past.1 ++ [nv_0]) := z0n rv_0.past.1 nv_0; have rn_3v : enc rv_0.past.2 ++ [[.sl 6 (enc ([(⟨t_0, 1⟩ : GCount)] : List GCount))]] = enc (rv_0.past.2 ++ [([(⟨t_0, 1⟩ : GCount)] : List GCount)]) := (q57 rv_0.past.2 [([(⟨t_0, 1⟩ : GCount)] : List GCount)]).symm; have rn_3l : (p9 (rv_0.past.1 ++ [nv_0]))[rv_0.past.1.length]? = some (Value.int .i64 nv_0) := z14 rv_0.past.1 nv_0; rw [rn_3k, rn_3v, z0m]; simp only [go_sem]; refine q2o ?_; refine x8 Q51 ?_; refine sgW fun _ Q52 => ?_; refine qg3 h (fun hm_5 h => ?_) (fun i_5 hm_5 h => ?_)
            .
              obtain ⟨g_15, h⟩ := q0j h; have hn_5 : ¬ (Value.agg ⟨[.int .i64 nv_0, .int .i64 t_0.D, .int .i64 t_0.C.a0, .int .i64 t_0.C.a1, .int .i64 t_0.C.a2, .int .i64 t_0.C.a3]⟩) ∈ p9 rv_0.bags.1 := qq4 hm_5; have hk_9 : ∃ l, keyOf pp 81 (Value.agg ⟨[.int .i64 nv_0, .int .i64 t_0.D, .int .i64 t_0.C.a0, .int .i64 t_0.C.a1, .int .i64 t_0.C.a2, .int .i64 t_0.C.a3]⟩) = some l := z5p ((⟨nv_0, t_0⟩ : GMean_point)) g_15; refine q8x ?_; refine wv ?_; refine q0e ?_; refine je2 ?_; simp only [go_sem]; refine qy6 [.sl 3 (enc v_0.a0)] ?_ rfl trivial trivial trivial rfl rfl z1r q55 rfl hk_9 hn_5; have rn_4k : p9 rv_0.bags.1 ++ [(Value.agg ⟨[.int .i64 nv_0, .int .i64 t_0.D, .int .i64 t_0.C.a0, .int .i64 t_0.C.a1, .int .i64 t_0.C.a2, .int .i64 t_0.C.a3]⟩)] = p9 (rv_0.bags.1 ++ [(⟨nv_0, t_0⟩ : GMean_point)]) := z0n rv_0.bags.1 (⟨nv_0, t_0⟩ : GMean_point); have rn_4v : enc rv_0.bags.2 ++ [[.sl 3 (enc v_0.a0)]] = enc (rv_0.bags.2 ++ [v_0.a0]) := (q57 rv_0.bags.2 [v_0.a0]).symm; have rn_4l : (p9 (rv_0.bags.1 ++ [(⟨nv_0, t_0⟩ : GMean_point)]))[rv_0.bags.1.length]? = some (Value.agg ⟨[.int .i64 nv_0, .int .i64 t_0.D, .int .i64 t_0.C.a0, .int .i64 t_0.C.a1, .int .i64 t_0.C.a2, .int .i64 t_0.C.a3]⟩) := z14 rv_0.bags.1 (⟨nv_0, t_0⟩ : GMean_point); rw [rn_4k, rn_4v, z0m]; simp only [go_sem]; have rm_9 : enc (Xb (rv_0.past.2 ++ [([(⟨t_0, 1⟩ : GCount)] : List GCount)]) (rv_0.past.1.length) ([(⟨t_0, 1⟩ : GCount)] : List GCount)) = (enc (rv_0.past.2 ++ [([(⟨t_0, 1⟩ : GCount)] : List GCount)])).set (rv_0.past.1.length) [.sl 6 (enc ([(⟨t_0, 1⟩ : GCount)] : List GCount))] := q8b (rv_0.past.2 ++ [([(⟨t_0, 1⟩ : GCount)] : List GCount)]) (rv_0.past.1.length) ([(⟨t_0, 1⟩ : GCount)] : List GCount); refine q83 (fun _ _ _ _ H => H.closeM1 (id := 2) (id2 := 8) rfl rfl (by simp [q0r]) (R' := enc (Xb (rv_0.past.2 ++ [([(⟨t_0, 1⟩ : GCount)] : List GCount)]) (rv_0.past.1.length) ([(⟨t_0, 1⟩ : GCount)] : List GCount))) rm_9) ?_
              have rm_10 : enc (Xb (rv_0.bags.2 ++ [v_0.a0]) (rv_0.bags.1.length) v_0.a0) = (enc (rv_0.bags.2 ++ [v_0.a0])).set (rv_0.bags.1.length) [.sl 3 (enc v_0.a0)] := q8b (rv_0.bags.2 ++ [v_0.a0]) (rv_0.bags.1.length) v_0.a0; refine q83 (fun _ _ _ _ H => H.closeM2 (id := 3) rfl rfl (R' := enc (Xb (rv_0.bags.2 ++ [v_0.a0]) (rv_0.bags.1.length) v_0.a0)) rm_10) ?_; refine q2o ?_; refine x8 Q52 ?_; refine wv ?_; refine q0e ?_; refine q3i 8 0 0 [0, 1, 3, 7, 0, 0, 0, 112, 255, 511] [0, 1, 2, 3, 4, 9] [0, 1, 2, 3] [] [7] [] mixed (by kernel_rfl) (of_decide_eq_true (by kernel_rfl)) (by kernel_rfl) (by kernel_rfl) (by rfl) ?_; obtain ⟨v_24, ev_24, h⟩ := z8 h; simp only [go_sem]; refine z18 [0, 1, 2, 3, 4] (q3c (⟨rv_0.g, Xe (Xd rv_0.ins.1 i_0) (Xd rv_0.ins.2 i_0), (Xe (rv_0.past.1 ++ [nv_0]) (Xb (rv_0.past.2 ++ [([(⟨t_0, 1⟩ : GCount)] : List GCount)]) (rv_0.past.1.length) ([(⟨t_0, 1⟩ : GCount)] : List GCount))), (Xe (rv_0.bags.1 ++ [(⟨nv_0, t_0⟩ : GMean_point)]) (Xb (rv_0.bags.2 ++ [v_0.a0]) (rv_0.bags.1.length) v_0.a0)), rv_0.work, rv_0.most, rv_0.outs, rv_0.e⟩ : GMean_runner) nv_0 t_0 v_24 ev_24) rfl ⟨rfl, ⟨rfl, ⟨rfl, ⟨rfl, ⟨rfl, trivial⟩⟩⟩⟩⟩ rfl rfl rfl rfl ?_; have rf_20 : [[.sl 3 (enc v_0.a0)], [.sl 3 (enc v_24.1)]] = enc ([v_0.a0, v_24.1] : List (List GItem)) := by rfl
              simp only [go_sem]; simp only [rf_20]; refine p8 Q49 (⟨(([v_0.a0, v_24.1] : List (List GItem)), v_24.2), [some 5, some 7, some 9], ?_, h⟩); simp only [go_sem, Le] <;> (repeat' apply Xc) <;> (try with_reducible refine q0c ?_) <;> first | omega | (simp [go_sem]; done)
            .
              obtain ⟨v_25, ev_25, h⟩ := z8 h; have hk_10 : (p9 rv_0.bags.1)[i_5]? = some (Value.agg ⟨[.int .i64 nv_0, .int .i64 t_0.D, .int .i64 t_0.C.a0, .int .i64 t_0.C.a1, .int .i64 t_0.C.a2, .int .i64 t_0.C.a3]⟩) := qq3 hm_5; refine reW (fun _ _ _ _ H => H.openM2 (id := 3) (i := i_5) (x := .sl 3 (enc v_25)) rfl (z2e ev_25)) ?_; refine q8x ?_; refine wv ?_; refine q0e ?_; refine je2 ?_; simp only [go_sem]; refine z2v ?_ rfl trivial trivial trivial rfl rfl z1r q55 rfl hk_10; simp only [go_sem]; have rm_11 : enc (Xb (rv_0.past.2 ++ [([(⟨t_0, 1⟩ : GCount)] : List GCount)]) (rv_0.past.1.length) ([(⟨t_0, 1⟩ : GCount)] : List GCount)) = (enc (rv_0.past.2 ++ [([(⟨t_0, 1⟩ : GCount)] : List GCount)])).set (rv_0.past.1.length) [.sl 6 (enc ([(⟨t_0, 1⟩ : GCount)] : List GCount))] := q8b (rv_0.past.2 ++ [([(⟨t_0, 1⟩ : GCount)] : List GCount)]) (rv_0.past.1.length) ([(⟨t_0, 1⟩ : GCount)] : List GCount); refine q83 (fun _ _ _ _ H => H.closeM1 (id := 2) (id2 := 8) rfl rfl (by simp [q0r]) (R' := enc (Xb (rv_0.past.2 ++ [([(⟨t_0, 1⟩ : GCount)] : List GCount)]) (rv_0.past.1.length) ([(⟨t_0, 1⟩ : GCount)] : List GCount))) rm_11) ?_; have rm_12 : enc (Xb rv_0.bags.2 i_5 v_0.a0) = (enc rv_0.bags.2).set i_5 [.sl 3 (enc v_0.a0)] := q8b rv_0.bags.2 i_5 v_0.a0; refine q83 (fun _ _ _ _ H => H.closeM2 (id := 3) rfl rfl (R' := enc (Xb rv_0.bags.2 i_5 v_0.a0)) rm_12) ?_; refine q2o ?_; refine x8 Q52 ?_; refine wv ?_; refine q0e ?_; refine q3i 8 0 0 [0, 1, 3, 7, 0, 0, 0, 112, 255, 511] [0, 1, 2, 3, 4, 9] [0, 1, 2, 3] [] [7] [] mixed (by kernel_rfl) (of_decide_eq_true (by kernel_rfl)) (by kernel_rfl) (by kernel_rfl) (by rfl) ?_; obtain ⟨v_26, ev_26, h⟩ := z8 h; simp only [go_sem]
              refine z18 [0, 1, 2, 3, 4] (q3c (⟨rv_0.g, Xe (Xd rv_0.ins.1 i_0) (Xd rv_0.ins.2 i_0), (Xe (rv_0.past.1 ++ [nv_0]) (Xb (rv_0.past.2 ++ [([(⟨t_0, 1⟩ : GCount)] : List GCount)]) (rv_0.past.1.length) ([(⟨t_0, 1⟩ : GCount)] : List GCount))), Xe rv_0.bags.1 (Xb rv_0.bags.2 i_5 v_0.a0), rv_0.work, rv_0.most, rv_0.outs, rv_0.e⟩ : GMean_runner) nv_0 t_0 v_26 ev_26) rfl ⟨rfl, ⟨rfl, ⟨rfl, ⟨rfl, ⟨rfl, trivial⟩⟩⟩⟩⟩ rfl rfl rfl rfl ?_; have rf_21 : [[.sl 3 (enc v_0.a0)], [.sl 3 (enc v_26.1)]] = enc ([v_0.a0, v_26.1] : List (List GItem)) := by rfl
              simp only [go_sem]; simp only [rf_21]; refine p8 Q49 (⟨(([v_0.a0, v_26.1] : List (List GItem)), v_26.2), [some 5, some 7, some 9], ?_, h⟩); simp only [go_sem, Le] <;> (repeat' apply Xc) <;> (try with_reducible refine q0c ?_) <;> first | omega | (simp [go_sem]; done)
          .
            obtain ⟨v_27, ev_27, h⟩ := z8 h; have hk_11 : (p9 rv_0.past.1)[i_4]? = some (Value.int .i64 nv_0) := qq3 hm_4; refine reW (fun _ _ _ _ H => H.openM1 (id := 2) (i := i_4) (isz := 6) (xs := enc v_27) rfl (z2e ev_27)) ?_; simp only [q0r]; refine q8x ?_; refine wv ?_; refine q0e ?_; refine q3i 15 0 0 [0, 1, 3, 7, 0, 0, 32, 96, 224, 0, 992, 0, 2048, 6144, 16352, 32767] [8, 9] [0, 1, 2, 3, 4] [] [14] [] mixed (by kernel_rfl) (of_decide_eq_true (by kernel_rfl)) (by kernel_rfl) (by kernel_rfl) (by rfl) ?_; have rf_22 : [[.v (.int .i64 t_0.D), .v (.int .i64 t_0.C.a0), .v (.int .i64 t_0.C.a1), .v (.int .i64 t_0.C.a2), .v (.int .i64 t_0.C.a3), .v (.int .i64 1)]] = enc ([(⟨t_0, 1⟩ : GCount)] : List GCount) := by rfl
            obtain ⟨g_16, h⟩ := q0j h; simp only [Xf, Xg, Xi, Xk] at g_16; have rf_23 : enc v_27 ++ [[.v (.int .i64 t_0.D), .v (.int .i64 t_0.C.a0), .v (.int .i64 t_0.C.a1), .v (.int .i64 t_0.C.a2), .v (.int .i64 t_0.C.a3), .v (.int .i64 1)]] = enc (v_27 ++ ([(⟨t_0, 1⟩ : GCount)] : List GCount)) := by exact (q57 v_27 ([(⟨t_0, 1⟩ : GCount)] : List GCount)).symm
            simp only [go_sem, z1z, hk_11, g_16, rf_23]; simp only [rf_22]; refine z2v ?_ rfl trivial trivial trivial rfl rfl z9d z1z rfl hk_11; simp only [go_sem]; refine q2o ?_; refine x8 Q51 ?_; refine sgW fun _ Q53 => ?_; refine qg3 h (fun hm_6 h => ?_) (fun i_6 hm_6 h => ?_)
            .
              obtain ⟨g_17, h⟩ := q0j h; have hn_6 : ¬ (Value.agg ⟨[.int .i64 nv_0, .int .i64 t_0.D, .int .i64 t_0.C.a0, .int .i64 t_0.C.a1, .int .i64 t_0.C.a2, .int .i64 t_0.C.a3]⟩) ∈ p9 rv_0.bags.1 := qq4 hm_6; have hk_12 : ∃ l, keyOf pp 81 (Value.agg ⟨[.int .i64 nv_0, .int .i64 t_0.D, .int .i64 t_0.C.a0, .int .i64 t_0.C.a1, .int .i64 t_0.C.a2, .int .i64 t_0.C.a3]⟩) = some l := z5p ((⟨nv_0, t_0⟩ : GMean_point)) g_17; refine q8x ?_; refine wv ?_; refine q0e ?_; refine je2 ?_; simp only [go_sem]; refine qy6 [.sl 3 (enc v_0.a0)] ?_ rfl trivial trivial trivial rfl rfl z1r q55 rfl hk_12 hn_6; have rn_5k : p9 rv_0.bags.1 ++ [(Value.agg ⟨[.int .i64 nv_0, .int .i64 t_0.D, .int .i64 t_0.C.a0, .int .i64 t_0.C.a1, .int .i64 t_0.C.a2, .int .i64 t_0.C.a3]⟩)] = p9 (rv_0.bags.1 ++ [(⟨nv_0, t_0⟩ : GMean_point)]) := z0n rv_0.bags.1 (⟨nv_0, t_0⟩ : GMean_point); have rn_5v : enc rv_0.bags.2 ++ [[.sl 3 (enc v_0.a0)]] = enc (rv_0.bags.2 ++ [v_0.a0]) := (q57 rv_0.bags.2 [v_0.a0]).symm; have rn_5l : (p9 (rv_0.bags.1 ++ [(⟨nv_0, t_0⟩ : GMean_point)]))[rv_0.bags.1.length]? = some (Value.agg ⟨[.int .i64 nv_0, .int .i64 t_0.D, .int .i64 t_0.C.a0, .int .i64 t_0.C.a1, .int .i64 t_0.C.a2, .int .i64 t_0.C.a3]⟩) := z14 rv_0.bags.1 (⟨nv_0, t_0⟩ : GMean_point); rw [rn_5k, rn_5v, z0m]; simp only [go_sem]; have rm_13 : enc (Xb rv_0.past.2 i_4 (v_27 ++ ([(⟨t_0, 1⟩ : GCount)] : List GCount))) = (enc rv_0.past.2).set i_4 [.sl 6 (enc (v_27 ++ ([(⟨t_0, 1⟩ : GCount)] : List GCount)))] := q8b rv_0.past.2 i_4 (v_27 ++ ([(⟨t_0, 1⟩ : GCount)] : List GCount)); refine q83 (fun _ _ _ _ H => H.closeM1 (id := 2) (id2 := 9) rfl rfl (by simp [q0r]) (R' := enc (Xb rv_0.past.2 i_4 (v_27 ++ ([(⟨t_0, 1⟩ : GCount)] : List GCount)))) rm_13) ?_; have rm_14 : enc (Xb (rv_0.bags.2 ++ [v_0.a0]) (rv_0.bags.1.length) v_0.a0) = (enc (rv_0.bags.2 ++ [v_0.a0])).set (rv_0.bags.1.length) [.sl 3 (enc v_0.a0)] := q8b (rv_0.bags.2 ++ [v_0.a0]) (rv_0.bags.1.length) v_0.a0
              refine q83 (fun _ _ _ _ H => H.closeM2 (id := 3) rfl rfl (R' := enc (Xb (rv_0.bags.2 ++ [v_0.a0]) (rv_0.bags.1.length) v_0.a0)) rm_14) ?_; refine q2o ?_; refine x8 Q53 ?_; refine wv ?_; refine q0e ?_; refine q3i 8 0 0 [0, 1, 3, 7, 0, 0, 0, 112, 255, 511] [0, 1, 2, 3, 4, 10] [0, 1, 2, 3] [] [7] [] mixed (by kernel_rfl) (of_decide_eq_true (by kernel_rfl)) (by kernel_rfl) (by kernel_rfl) (by rfl) ?_; obtain ⟨v_28, ev_28, h⟩ := z8 h; simp only [go_sem]; refine z18 [0, 1, 2, 3, 4] (q3c (⟨rv_0.g, Xe (Xd rv_0.ins.1 i_0) (Xd rv_0.ins.2 i_0), (Xe rv_0.past.1 (Xb rv_0.past.2 i_4 (v_27 ++ ([(⟨t_0, 1⟩ : GCount)] : List GCount)))), (Xe (rv_0.bags.1 ++ [(⟨nv_0, t_0⟩ : GMean_point)]) (Xb (rv_0.bags.2 ++ [v_0.a0]) (rv_0.bags.1.length) v_0.a0)), rv_0.work, rv_0.most, rv_0.outs, rv_0.e⟩ : GMean_runner) nv_0 t_0 v_28 ev_28) rfl ⟨rfl, ⟨rfl, ⟨rfl, ⟨rfl, ⟨rfl, trivial⟩⟩⟩⟩⟩ rfl rfl rfl rfl ?_; have rf_24 : [[.sl 3 (enc v_0.a0)], [.sl 3 (enc v_28.1)]] = enc ([v_0.a0, v_28.1] : List (List GItem)) := by rfl
              simp only [go_sem]; simp only [rf_24]; refine p8 Q49 (⟨(([v_0.a0, v_28.1] : List (List GItem)), v_28.2), [some 5, some 7, some 10], ?_, h⟩); simp only [go_sem, Le] <;> (repeat' apply Xc) <;> (try with_reducible refine q0c ?_) <;> first | omega | (simp [go_sem]; done)
            .
              obtain ⟨v_29, ev_29, h⟩ := z8 h; have hk_13 : (p9 rv_0.bags.1)[i_6]? = some (Value.agg ⟨[.int .i64 nv_0, .int .i64 t_0.D, .int .i64 t_0.C.a0, .int .i64 t_0.C.a1, .int .i64 t_0.C.a2, .int .i64 t_0.C.a3]⟩) := qq3 hm_6; refine reW (fun _ _ _ _ H => H.openM2 (id := 3) (i := i_6) (x := .sl 3 (enc v_29)) rfl (z2e ev_29)) ?_; refine q8x ?_; refine wv ?_; refine q0e ?_; refine je2 ?_; simp only [go_sem]; refine z2v ?_ rfl trivial trivial trivial rfl rfl z1r q55 rfl hk_13; simp only [go_sem]; have rm_15 : enc (Xb rv_0.past.2 i_4 (v_27 ++ ([(⟨t_0, 1⟩ : GCount)] : List GCount))) = (enc rv_0.past.2).set i_4 [.sl 6 (enc (v_27 ++ ([(⟨t_0, 1⟩ : GCount)] : List GCount)))] := q8b rv_0.past.2 i_4 (v_27 ++ ([(⟨t_0, 1⟩ : GCount)] : List GCount)); refine q83 (fun _ _ _ _ H => H.closeM1 (id := 2) (id2 := 9) rfl rfl (by simp [q0r]) (R' := enc (Xb rv_0.past.2 i_4 (v_27 ++ ([(⟨t_0, 1⟩ : GCount)] : List GCount)))) rm_15) ?_; have rm_16 : enc (Xb rv_0.bags.2 i_6 v_0.a0) = (enc rv_0.bags.2).set i_6 [.sl 3 (enc v_0.a0)] := q8b rv_0.bags.2 i_6 v_0.a0; refine q83 (fun _ _ _ _ H => H.closeM2 (id := 3) rfl rfl (R' := enc (Xb rv_0.bags.2 i_6 v_0.a0)) rm_16) ?_; refine q2o ?_; refine x8 Q53 ?_; refine wv ?_; refine q0e ?_; refine q3i 8 0 0 [0, 1, 3, 7, 0, 0, 0, 112, 255, 511] [0, 1, 2, 3, 4, 10] [0, 1, 2, 3] [] [7] [] mixed (by kernel_rfl) (of_decide_eq_true (by kernel_rfl)) (by kernel_rfl) (by kernel_rfl) (by rfl) ?_; obtain ⟨v_30, ev_30, h⟩ := z8 h; simp only [go_sem]; refine z18 [0, 1, 2, 3, 4] (q3c (⟨rv_0.g, Xe (Xd rv_0.ins.1 i_0) (Xd rv_0.ins.2 i_0), (Xe rv_0.past.1 (Xb rv_0.past.2 i_4 (v_27 ++ ([(⟨t_0, 1⟩ : GCount)] : List GCount)))), Xe rv_0.bags.1 (Xb rv_0.bags.2 i_6 v_0.a0), rv_0.work, rv_0.most, rv_0.outs, rv_0.e⟩ : GMean_runner) nv_0 t_0 v_30 ev_30) rfl ⟨rfl, ⟨rfl, ⟨rfl, ⟨rfl, ⟨rfl, trivial⟩⟩⟩⟩⟩ rfl rfl rfl rfl ?_
              have rf_25 : [[.sl 3 (enc v_0.a0)], [.sl 3 (enc v_30.1)]] = enc ([v_0.a0, v_30.1] : List (List GItem)) := by rfl
              simp only [go_sem]; simp only [rf_25]; refine p8 Q49 (⟨(([v_0.a0, v_30.1] : List (List GItem)), v_30.2), [some 5, some 7, some 10], ?_, h⟩); simp only [go_sem, Le] <;> (repeat' apply Xc) <;> (try with_reducible refine q0c ?_) <;> first | omega | (simp [go_sem]; done)
        .
          replace h := q4e h hb_25; simp only [bool_to_prop] at hb_25; refine wv ?_; refine y9 (p8 Q49 (⟨(([v_0.a0, v_0.a1] : List (List GItem)), (⟨rv_0.g, Xe (Xd rv_0.ins.1 i_0) (Xd rv_0.ins.2 i_0), rv_0.past, rv_0.bags, rv_0.work, rv_0.most, rv_0.outs, rv_0.e⟩ : GMean_runner)), [some 5, some 7, some 4], ?_, h⟩)); simp only [go_sem, Le] <;> (repeat' apply Xc) <;> (try with_reducible refine q0c ?_) <;> first | omega | (simp [go_sem]; done) | ((try with_reducible refine q0c ?_); (exact ⟨_, rfl, Nat.le_refl _, rfl, rfl⟩))
      . rintro ⟨ports_0, b_0⟩ h
        try dsimp only at h
        rw [q0u] at h; refine sgW fun _ Q12 => ?_; refine wv ?_; obtain ⟨v_8, ev_8, h⟩ := z8 h; simp only [go_sem]; refine q6b [] (z8v xv_0 ports_0 v_8 ev_8) (by simp) rfl trivial rfl rfl rfl rfl ?_; simp only [go_sem]; refine x8 Q12 ?_; refine sgW fun _ Q13 => ?_; refine sgW fun _ Q14 => ?_; refine wv ?_; simp only [go_sem]; refine x8 Q14 ?_; refine q3q (b := (!v_8.2)) (by (simp only [go_sem]; done)) (fun hb_2 => ?_) (fun hb_2 => ?_)
        .
          replace h := q4d h hb_2; simp only [bool_to_prop] at hb_2; refine sgW fun _ Q15 => ?_; refine wv ?_; simp only [go_sem]; refine x8 Q15 ?_; refine sgW fun _ Q16 => ?_; refine wv ?_; simp only [go_sem]; refine x8 Q16 ?_; refine wv ?_; refine q0a (qn8 Q13 ?_); simp only [go_sem]; obtain rfl := Xa h; refine q1s [some 7] ?_; simp only [go_sem, Le] <;> (repeat' apply Xc) <;> (try with_reducible refine q0c ?_) <;> first | omega | (simp [go_sem]; done)
        .
          replace h := q4e h hb_2; simp only [bool_to_prop] at hb_2; refine wv ?_; refine y9 (x8 Q13 ?_); refine zo9 (ι := Unit) (fun (_ : Unit) => (⟨5, [(0, .ptr 0 0), (1, .v (.int .i64 nv_0)), (5, .ptr 5 0), (10, .osl 6 3 (0) (v_8.1.length))], [(0, .box [.sl 1 (enc b_0.g.Parent), .sl 1 (enc b_0.g.Bound), .sl 4 (enc b_0.g.Nodes), .sl 4 (enc b_0.g.Edges), .mp 1, .mp 2, .mp 3, .v (.int .i64 b_0.work), .v (.int .i64 b_0.most), .osl 7 4 (0) (b_0.outs.length), .v (.int .i64 b_0.e)]), (1, .con (u7 pp 81 0 (p9 b_0.ins.1) (enc b_0.ins.2) none) []), (2, .con (u7 pp 3 1 (p9 b_0.past.1) (enc b_0.past.2) none) []), (3, .con (u7 pp 81 2 (p9 b_0.bags.1) (enc b_0.bags.2) none) []), (5, .box (Row.row t_0)), (6, .arr 3 (enc v_8.1)), (7, .arr 4 (enc b_0.outs))], 8, 191⟩ : St)) (fun (_ : Unit) => q49 nv_0 t_0 b_0 v_8 = some r) ?_ ?_
          .
            intro _ Q36; refine sgW fun _ Q37 => ?_; refine wv ?_; simp only [go_sem]; refine x8 Q37 ?_; refine q3q (b := (xv_0.Kind == 15)) (by (simp only [go_sem]; done)) (fun hb_21 => ?_) (fun hb_21 => ?_)
            .
              replace h := q4d h hb_21; simp only [bool_to_prop] at hb_21; refine sgW fun _ Q38 => ?_; refine wv ?_; obtain ⟨v_23, ev_23, h⟩ := z8 h; simp only [go_sem]; refine qz6 (s' := (⟨5, [(0, .ptr 0 0), (1, .v (.int .i64 nv_0)), (5, .ptr 5 0)], [(0, .box [.sl 1 (enc b_0.g.Parent), .sl 1 (enc b_0.g.Bound), .sl 4 (enc b_0.g.Nodes), .sl 4 (enc b_0.g.Edges), .mp 1, .mp 2, .mp 3, .v (.int .i64 b_0.work), .v (.int .i64 b_0.most), .osl 7 4 (0) (b_0.outs.length), .v (.int .i64 b_0.e)]), (1, .con (u7 pp 81 0 (p9 b_0.ins.1) (enc b_0.ins.2) none) []), (2, .con (u7 pp 3 1 (p9 b_0.past.1) (enc b_0.past.2) none) []), (3, .con (u7 pp 81 2 (p9 b_0.bags.1) (enc b_0.bags.2) none) []), (5, .box (Row.row t_0)), (6, .box (Row.row xv_0)), (7, .arr 4 (enc b_0.outs))], 8, 191⟩ : St)) (l := [some 5, some 6, some 7]) (args' := [.sl 3 (enc v_8.1)]) ?_ ?_ ?_
              . simp only [go_sem, Le] <;> (repeat' apply Xc) <;> (try with_reducible refine q0c ?_) <;> first | omega | (simp [go_sem]; done)
              . simp only [go_sem, Le] <;> (repeat' apply Xc) <;> ((try with_reducible refine q0c ?_); (simp [go_sem]; done))
              refine q6b [] (z9z v_8.1 v_23 ev_23) (by simp) rfl trivial rfl rfl rfl rfl ?_; simp only [go_sem]; refine x8 Q38 ?_; refine sgW fun _ Q39 => ?_; refine sgW fun _ Q40 => ?_; refine wv ?_; simp only [go_sem]; refine x8 Q40 ?_; refine qf5 fun _ Q41 => ?_; refine z5m (ι := Nat × Int × GMean_runner) (fun ((_, t113_3, b_9) : Nat × Int × GMean_runner) => (⟨5, [(0, .ptr 0 0), (1, .v (.int .i64 nv_0)), (5, .ptr 5 0), (111, .osl 6 2 (0) (v_23.1.length)), (112, .v (.int .i64 (v_23.1.length : Int))), (113, .v (.int .i64 t113_3))], [(0, .box [.sl 1 (enc b_9.g.Parent), .sl 1 (enc b_9.g.Bound), .sl 4 (enc b_9.g.Nodes), .sl 4 (enc b_9.g.Edges), .mp 1, .mp 2, .mp 3, .v (.int .i64 b_9.work), .v (.int .i64 b_9.most), .osl 7 4 (0) (b_9.outs.length), .v (.int .i64 b_9.e)]), (1, .con (u7 pp 81 0 (p9 b_9.ins.1) (enc b_9.ins.2) none) []), (2, .con (u7 pp 3 1 (p9 b_9.past.1) (enc b_9.past.2) none) []), (3, .con (u7 pp 81 2 (p9 b_9.bags.1) (enc b_9.bags.2) none) []), (5, .box (Row.row t_0)), (6, .arr 2 (enc v_23.1)), (7, .arr 4 (enc b_9.outs))], 8, 191⟩ : St)) (fun ((n_, t113_3, b_9) : Nat × Int × GMean_runner) => q04 (q2v nv_0 t_0 v_23) n_ (t113_3, b_9) = some r) (fun p => p.1) (rounds, 0, b_0) [some 5, some 8, some 7] ?_ h ?_
              . simp only [go_sem, Le] <;> (repeat' apply Xc) <;> (try with_reducible refine q0c ?_) <;> first | omega | (simp [go_sem]; done)
              . rintro ⟨n_5, t113_3, b_9⟩ h _ Q42
                dsimp only at h; replace h := qb3 h; obtain ⟨m_5, rfl, h⟩ := h; rw [q2v] at h; refine sgW fun _ Q43 => ?_; refine wv ?_; simp only [go_sem]; refine x8 Q43 ?_; refine sgW fun _ Q44 => ?_; refine q3q (b := (decide (t113_3 < (v_23.1.length : Int)))) (by (simp only [go_sem]; done)) (fun hb_24 => ?_) (fun hb_24 => ?_)
                .
                  replace h := q4d h hb_24; simp only [bool_to_prop] at hb_24; refine wv ?_; refine y9 (x8 Q44 ?_); refine sgW fun _ Q45 => ?_; refine qf5 fun _ Q46 => ?_; refine sgW fun _ Q47 => ?_; refine wv ?_; obtain ⟨xv_12, ex12, h⟩ := z8 h; obtain ⟨f12a, f12b, f12c⟩ := qo2 ex12; simp only [go_sem, f12a, f12b, f12c]; refine Xc (by omega) ?_; refine x8 Q47 ?_; refine wv ?_; refine q0e ?_; refine q3i 13 0 0 [0, 0, 2, 6, 14, 0, 0, 64, 192, 0, 992, 2016, 4094, 8191, 16383, 32767] [7, 9] [0] [] [12] [] mixed (by kernel_rfl) (of_decide_eq_true (by kernel_rfl)) (by kernel_rfl) (by kernel_rfl) (by rfl) ?_; have rf_17 : [[.v (.int .i64 nv_0), .v (.int .i64 t_0.C.a0), .v (.int .i64 xv_12.K), .v (.int .i64 xv_12.V)]] = enc ([(⟨nv_0, t_0.C.a0, xv_12⟩ : GOut)] : List GOut) := by rfl
                  obtain ⟨g_12, h⟩ := q0j h; simp only [Xf, Xg, Xi, Xk] at g_12; have rf_18 : enc b_9.outs ++ [[.v (.int .i64 nv_0), .v (.int .i64 t_0.C.a0), .v (.int .i64 xv_12.K), .v (.int .i64 xv_12.V)]] = enc (b_9.outs ++ ([(⟨nv_0, t_0.C.a0, xv_12⟩ : GOut)] : List GOut)) := by exact (q57 b_9.outs ([(⟨nv_0, t_0.C.a0, xv_12⟩ : GOut)] : List GOut)).symm
                  simp only [go_sem, g_12, rf_18]; simp only [rf_17]; refine q05 Q46 (x8 Q45 ?_); refine wv ?_; simp only [go_sem]; refine p8 Q42 (⟨(m_5, i64.wrap (t113_3 + 1), (⟨b_9.g, b_9.ins, b_9.past, b_9.bags, b_9.work, b_9.most, (b_9.outs ++ ([(⟨nv_0, t_0.C.a0, xv_12⟩ : GOut)] : List GOut)), b_9.e⟩ : GMean_runner)), [some 5, some 6, some 9], ?_, h, Xl _⟩); simp only [go_sem, Le] <;> (repeat' apply Xc) <;> (try with_reducible refine q0c ?_) <;> first | omega | (simp [go_sem]; done)
                .
                  replace h := q4e h hb_24; simp only [bool_to_prop] at hb_24; refine wv ?_; refine q0w (qp4 Q44 ?_); refine q0x Q42 (q0p Q41 (x8 Q39 ?_)); refine sgW fun _ Q48 => ?_; refine wv ?_; simp only [go_sem]; refine x8 Q48 ?_; refine wv ?_; refine q0a (q7o Q36 ?_); simp only [go_sem]; obtain rfl := Xa h; refine q1s [some 7] ?_; simp only [go_sem, Le] <;> (repeat' apply Xc) <;> (try with_reducible refine q0c ?_) <;> first | omega | (simp [go_sem]; done)
            .
              replace h := q4e h hb_21; simp only [bool_to_prop] at hb_21; refine wv ?_; refine y9 (p8 Q36 (⟨(), [some 5, some 8, some 7], ?_, h⟩)); simp only [go_sem, Le] <;> (repeat' apply Xc) <;> (try with_reducible refine q0c ?_) <;> first | omega | (simp [go_sem]; done)
          . rintro ⟨⟩ h
            try dsimp only at h
            rw [q49] at h; refine sgW fun _ Q17 => ?_; refine wv ?_; obtain ⟨v_10, ev_10, h⟩ := z8 h; simp only [go_sem]; refine q6b [0, 1, 2, 3, 7] (qq8 b_0 nv_0 t_0 v_10 ev_10) (by simp) rfl ⟨rfl, ⟨rfl, ⟨rfl, ⟨rfl, ⟨rfl, trivial⟩⟩⟩⟩⟩ rfl rfl rfl rfl ?_; simp only [go_sem]; refine x8 Q17 ?_; refine sgW fun _ Q18 => ?_; refine sgW fun _ Q19 => ?_; refine wv ?_; simp only [go_sem]; refine x8 Q19 ?_; refine q3q (b := ((!v_10.2.1) || ((v_8.1.length : Int) == 0))) (by (simp only [go_sem]; done)) (fun hb_7 => ?_) (fun hb_7 => ?_)
            .
              replace h := q4d h hb_7; simp only [bool_to_prop] at hb_7; refine sgW fun _ Q20 => ?_; refine wv ?_; simp only [go_sem]; refine x8 Q20 ?_; refine wv ?_; refine q0a (qn8 Q18 ?_); simp only [go_sem]; obtain rfl := Xa h; refine q1s [some 8] ?_; simp only [go_sem, Le] <;> (repeat' apply Xc) <;> (try with_reducible refine q0c ?_) <;> first | omega | (simp [go_sem]; done)
            .
              replace h := q4e h hb_7; simp only [bool_to_prop] at hb_7; refine wv ?_; refine y9 (x8 Q18 ?_); refine zo9 (ι := GMean_runner) (fun (b_5 : GMean_runner) => (⟨5, [(0, .ptr 0 0)], [(0, .box [.sl 1 (enc b_5.g.Parent), .sl 1 (enc b_5.g.Bound), .sl 4 (enc b_5.g.Nodes), .sl 4 (enc b_5.g.Edges), .mp 1, .mp 2, .mp 3, .v (.int .i64 b_5.work), .v (.int .i64 b_5.most), .osl 5 4 (0) (b_5.outs.length), .v (.int .i64 b_5.e)]), (1, .con (u7 pp 81 0 (p9 b_5.ins.1) (enc b_5.ins.2) none) []), (2, .con (u7 pp 3 1 (p9 b_5.past.1) (enc b_5.past.2) none) []), (3, .con (u7 pp 81 2 (p9 b_5.bags.1) (enc b_5.bags.2) none) []), (5, .arr 4 (enc b_5.outs))], 6, 191⟩ : St)) (fun (b_5 : GMean_runner) => q48 b_5 = some r) ?_ ?_
              .
                intro _ Q25; refine sgW fun _ Q26 => ?_; refine wv ?_; simp only [go_sem]; refine x8 Q26 ?_; refine qf5 fun _ Q27 => ?_; refine z5m (ι := Nat × (List GItem) × Int × GMean_runner) (fun ((_, out_3, t153_3, b_7) : Nat × (List GItem) × Int × GMean_runner) => (⟨5, [(0, .ptr 0 0), (1, .v (.int .i64 nv_0)), (10, .sl 3 (enc out_3)), (16, .ptr 5 0), (151, .sl 4 (enc v_10.2.2.g.Edges)), (152, .v (.int .i64 (v_10.2.2.g.Edges.length : Int))), (153, .v (.int .i64 t153_3))], [(0, .box [.sl 1 (enc b_7.g.Parent), .sl 1 (enc b_7.g.Bound), .sl 4 (enc b_7.g.Nodes), .sl 4 (enc b_7.g.Edges), .mp 1, .mp 2, .mp 3, .v (.int .i64 b_7.work), .v (.int .i64 b_7.most), .osl 6 4 (0) (b_7.outs.length), .v (.int .i64 b_7.e)]), (1, .con (u7 pp 81 0 (p9 b_7.ins.1) (enc b_7.ins.2) none) []), (2, .con (u7 pp 3 1 (p9 b_7.past.1) (enc b_7.past.2) none) []), (3, .con (u7 pp 81 2 (p9 b_7.bags.1) (enc b_7.bags.2) none) []), (5, .box (Row.row v_10.1)), (6, .arr 4 (enc b_7.outs))], 7, 191⟩ : St)) (fun ((n_, out_3, t153_3, b_7) : Nat × (List GItem) × Int × GMean_runner) => q04 (q2w nv_0 v_10) n_ (out_3, t153_3, b_7) = some r) (fun p => p.1) (rounds, v_8.1, 0, v_10.2.2) [some 9, some 8] ?_ h ?_
                . simp only [go_sem, Le] <;> (repeat' apply Xc) <;> (try with_reducible refine q0c ?_) <;> first | omega | (simp [go_sem]; done)
                . rintro ⟨n_4, out_3, t153_3, b_7⟩ h _ Q28
                  dsimp only at h; replace h := qb3 h; obtain ⟨m_4, rfl, h⟩ := h; rw [q2w] at h; refine sgW fun _ Q29 => ?_; refine wv ?_; simp only [go_sem]; refine x8 Q29 ?_; refine sgW fun _ Q30 => ?_; refine q3q (b := (decide (t153_3 < (v_10.2.2.g.Edges.length : Int)))) (by (simp only [go_sem]; done)) (fun hb_19 => ?_) (fun hb_19 => ?_)
                  .
                    replace h := q4d h hb_19; simp only [bool_to_prop] at hb_19; refine wv ?_; refine y9 (x8 Q30 ?_); refine sgW fun _ Q31 => ?_; refine qf5 fun _ Q32 => ?_; refine sgW fun _ Q33 => ?_; refine wv ?_; obtain ⟨xv_9, ex9, h⟩ := z8 h; obtain ⟨f9a, f9b, f9c⟩ := qo2 ex9; simp only [go_sem, f9a, f9b, f9c]; refine Xc (by omega) ?_; refine x8 Q33 ?_; refine sgW fun _ Q34 => ?_; refine wv ?_; simp only [go_sem]; refine x8 Q34 ?_; refine q3q (b := (xv_9.From == nv_0)) (by (simp only [go_sem]; done)) (fun hb_20 => ?_) (fun hb_20 => ?_)
                    .
                      replace h := q4d h hb_20; simp only [bool_to_prop] at hb_20; refine sgW fun _ Q35 => ?_; refine wv ?_; obtain ⟨v_21, ev_21, h⟩ := z8 h; simp only [go_sem]; refine q6b [0, 1, 2, 3, 6] (q98 b_7 xv_9.To xv_9.Port v_10.1 out_3 v_21 ev_21) (by simp) rfl ⟨rfl, ⟨rfl, ⟨rfl, ⟨rfl, ⟨rfl, trivial⟩⟩⟩⟩⟩ rfl rfl rfl rfl ?_; simp only [go_sem]; refine x8 Q35 ?_; refine wv ?_; refine q0e ?_; refine je2 ?_; obtain ⟨v_22, ev_22, h⟩ := z8 h; simp only [go_sem]; refine callq (fun _ => (z9w out_3 v_22 ev_22)) (by rfl) (by rfl) ?_; simp only [go_sem]; refine q05 Q32 (x8 Q31 ?_); refine wv ?_; simp only [go_sem]; refine p8 Q28 (⟨(m_4, out_3, i64.wrap (t153_3 + 1), (⟨v_21.g, v_21.ins, v_21.past, v_21.bags, i64.wrap (v_21.work + v_22), v_21.most, v_21.outs, v_21.e⟩ : GMean_runner)), [some 5, some 8], ?_, h, Xl _⟩); simp only [go_sem, Le] <;> (repeat' apply Xc) <;> (try with_reducible refine q0c ?_) <;> first | omega | (simp [go_sem]; done)
                    .
                      replace h := q4e h hb_20; simp only [bool_to_prop] at hb_20; refine wv ?_; refine y9 (q05 Q32 (x8 Q31 ?_)); refine wv ?_; simp only [go_sem]; refine p8 Q28 (⟨(m_4, out_3, i64.wrap (t153_3 + 1), b_7), [some 5, some 6], ?_, h, Xl _⟩); simp only [go_sem, Le] <;> (repeat' apply Xc) <;> (try with_reducible refine q0c ?_) <;> first | omega | (simp [go_sem]; done)
                  .
                    replace h := q4e h hb_19; simp only [bool_to_prop] at hb_19; refine wv ?_; refine q0w (qp4 Q30 ?_); refine q0x Q28 (q0p Q27 (p8 Q25 (⟨b_7, [some 6], ?_, h⟩))); simp only [go_sem, Le] <;> (repeat' apply Xc) <;> (try with_reducible refine q0c ?_) <;> first | omega | (simp [go_sem]; done)
              . rintro b_5 h
                try dsimp only at h
                rw [q48] at h; refine sgW fun _ Q21 => ?_; refine sgW fun _ Q22 => ?_; refine wv ?_; refine q0e ?_; refine je2 ?_; simp only [go_sem]; refine x8 Q22 ?_; refine q3q (b := (decide (b_5.most < b_5.work))) (by (simp only [go_sem]; done)) (fun hb_14 => ?_) (fun hb_14 => ?_)
                .
                  replace h := q4d h hb_14; simp only [bool_to_prop] at hb_14; refine wv ?_; simp only [go_sem]; refine x8 Q21 ?_; refine sgW fun _ Q23 => ?_; refine wv ?_; simp only [go_sem]; refine x8 Q23 ?_; refine wv ?_; refine q0a ?_; simp only [go_sem]; obtain rfl := Xa h; refine q1s [some 5] ?_; simp only [go_sem, Le] <;> (repeat' apply Xc) <;> (try with_reducible refine q0c ?_) <;> first | omega | (simp [go_sem]; done)
                .
                  replace h := q4e h hb_14; simp only [bool_to_prop] at hb_14; refine wv ?_; refine y9 (x8 Q21 ?_); refine sgW fun _ Q24 => ?_; refine wv ?_; simp only [go_sem]; refine x8 Q24 ?_; refine wv ?_; refine q0a ?_; simp only [go_sem]; obtain rfl := Xa h; refine q1s [some 5] ?_; simp only [go_sem, Le] <;> (repeat' apply Xc) <;> (try with_reducible refine q0c ?_) <;> first | omega | (simp [go_sem]; done)
def q5q (rv_0 : GMean_runner) (outer_0 : Int) (rec_1 : Int -> Option (Bool × GMean_runner)) : Int -> Option (Bool × GMean_runner) :=
 fun s_2 =>
 (if (decide (0 <= s_2)) = true then (if (s_2 == outer_0) = true then some (true, rv_0)
 else q9 (idx rv_0.g.Parent s_2) (fun xv_2 =>
 rec_1 xv_2))
 else some (false, rv_0))
def q38 (rv_0 : GMean_runner) (s_0 : Int) (outer_0 : Int) : Option (Bool × GMean_runner) :=
 q04 (q5q rv_0 outer_0) rounds s_0
theorem qo7 (rv_0 : GMean_runner) (s_0 : Int) (outer_0 : Int)  (r : Bool × GMean_runner) (h : q38 rv_0 s_0 outer_0 = some r) : DetS pp 39 [.ptr 0 0, .v (.int .i64 s_0), .v (.int .i64 outer_0)] [(0, .box [.sl 1 (enc rv_0.g.Parent), .sl 1 (enc rv_0.g.Bound), .sl 4 (enc rv_0.g.Nodes), .sl 4 (enc rv_0.g.Edges), .mp 1, .mp 2, .mp 3, .v (.int .i64 rv_0.work), .v (.int .i64 rv_0.most), .osl 4 4 (0) (rv_0.outs.length), .v (.int .i64 rv_0.e)]), (1, .con (u7 pp 81 0 (p9 rv_0.ins.1) (enc rv_0.ins.2) none) []), (2, .con (u7 pp 3 1 (p9 rv_0.past.1) (enc rv_0.past.2) none) []), (3, .con (u7 pp 81 2 (p9 rv_0.bags.1) (enc rv_0.bags.2) none) []), (4, .arr 4 (enc rv_0.outs))] 5 (.v (.bool r.1)) [(0, .box [.sl 1 (enc r.2.g.Parent), .sl 1 (enc r.2.g.Bound), .sl 4 (enc r.2.g.Nodes), .sl 4 (enc r.2.g.Edges), .mp 1, .mp 2, .mp 3, .v (.int .i64 r.2.work), .v (.int .i64 r.2.most), .osl 5 4 (0) (r.2.outs.length), .v (.int .i64 r.2.e)]), (1, .con (u7 pp 81 0 (p9 r.2.ins.1) (enc r.2.ins.2) none) []), (2, .con (u7 pp 3 1 (p9 r.2.past.1) (enc r.2.past.2) none) []), (3, .con (u7 pp 81 2 (p9 r.2.bags.1) (enc r.2.bags.2) none) []), (5, .arr 4 (enc r.2.outs))] 6 := by
 refine dtI Tryz.func39 rfl ?_; rw [q38] at h; have F := trivial; refine sM ?_; refine jg fun _ Q2 => ?_; refine w9 fun _ Q3 => ?_; refine q12 h [0, 2] (fun s_2 => ([(1, .v (.int .i64 s_2))], [(0, .box [.sl 1 (enc rv_0.g.Parent), .sl 1 (enc rv_0.g.Bound), .sl 4 (enc rv_0.g.Nodes), .sl 4 (enc rv_0.g.Edges), .mp 1, .mp 2, .mp 3, .v (.int .i64 rv_0.work), .v (.int .i64 rv_0.most), .osl 4 4 (0) (rv_0.outs.length), .v (.int .i64 rv_0.e)]), (1, .con (u7 pp 81 0 (p9 rv_0.ins.1) (enc rv_0.ins.2) none) []), (2, .con (u7 pp 3 1 (p9 rv_0.past.1) (enc rv_0.past.2) none) []), (3, .con (u7 pp 81 2 (p9 rv_0.bags.1) (enc rv_0.bags.2) none) []), (4, .arr 4 (enc rv_0.outs))])) 5 ?_; rintro m_1 s_2 h _ Q4; rw [q5q] at h; exact au
def q21 (around_1 : Bool) (nv_1 : Int) (b_39 : GMean_runner) (rec_1 : (Bool × Int × GMean_runner -> Option (Bool × GMean_runner))) (xv_22 : GNode) (b_49 : GTime) : Option (Bool × GMean_runner) :=
 q9 (q3s b_39 nv_1 b_49) (fun v_72 =>
 rec_1 ((around_1 || (v_72.1 && (xv_22.Kind == 12))), i64.wrap (nv_1 + 1), v_72.2))
def q3y (t_0 : GTime) (around_1 : Bool) (nv_1 : Int) (b_39 : GMean_runner) (rec_1 : (Bool × Int × GMean_runner -> Option (Bool × GMean_runner))) (xv_22 : GNode) : Option (Bool × GMean_runner) :=
 (if (xv_22.Kind == 10) = true then q9 (qk7 t_0) (fun v_73 =>
 q21 around_1 nv_1 b_39 rec_1 xv_22 v_73.1)
 else q21 around_1 nv_1 b_39 rec_1 xv_22 t_0)
def q60 (self : GMean_runner -> Int -> Int -> Int -> GTime -> Option (Bool × GMean_runner)) (around_1 : Bool) (nv_1 : Int) (rec_1 : (Bool × Int × GMean_runner -> Option (Bool × GMean_runner))) (xv_22 : GNode) (endv_27 : Int) (xv_30 : Int) (rec_5 : Int × GMean_runner × GTime -> Option (Bool × GMean_runner)) : Int × GMean_runner × GTime -> Option (Bool × GMean_runner) :=
 fun (t25_11, b_55, b_56) =>
 (if (decide (t25_11 < xv_30)) = true then q9 (self b_55 nv_1 endv_27 xv_22.Scope b_56) (fun v_82 =>
 (if (!v_82.1) = true then rec_1 (around_1, endv_27, v_82.2)
 else q9 (qq2 b_56) (fun v_83 =>
 rec_5 (i64.wrap (t25_11 + 1), v_82.2, v_83.1))))
 else rec_1 (around_1, endv_27, b_55))
def q20 (t_0 : GTime) (self : GMean_runner -> Int -> Int -> Int -> GTime -> Option (Bool × GMean_runner)) (around_1 : Bool) (nv_1 : Int) (rec_1 : (Bool × Int × GMean_runner -> Option (Bool × GMean_runner))) (xv_22 : GNode) (endv_27 : Int) (b_52 : GMean_runner) : Option (Bool × GMean_runner) :=
 q9 (qk8 t_0) (fun v_77 =>
 q9 (idx b_52.g.Bound xv_22.Scope) (fun xv_30 =>
 q04 (q60 self around_1 nv_1 rec_1 xv_22 endv_27 xv_30) rounds (0, b_52, v_77.1)))
def q5y (tov_0 : Int) (t_0 : GTime) (self : GMean_runner -> Int -> Int -> Int -> GTime -> Option (Bool × GMean_runner)) (around_1 : Bool) (nv_1 : Int) (rec_1 : (Bool × Int × GMean_runner -> Option (Bool × GMean_runner))) (xv_22 : GNode) (rec_6 : Int × GMean_runner -> Option (Bool × GMean_runner)) : Int × GMean_runner -> Option (Bool × GMean_runner) :=
 fun (endv_29, b_58) =>
 (if (decide (endv_29 < tov_0)) = true then q9 (idx b_58.g.Nodes endv_29) (fun xv_32 =>
 q9 (q38 b_58 xv_32.Scope xv_22.Scope) (fun v_86 =>
 (if v_86.1 = true then rec_6 (i64.wrap (endv_29 + 1), v_86.2)
 else q20 t_0 self around_1 nv_1 rec_1 xv_22 endv_29 v_86.2)))
 else q20 t_0 self around_1 nv_1 rec_1 xv_22 endv_29 b_58)
def q23 (tov_0 : Int) (scope_0 : Int) (t_0 : GTime) (self : GMean_runner -> Int -> Int -> Int -> GTime -> Option (Bool × GMean_runner)) (rec_1 : Bool × Int × GMean_runner -> Option (Bool × GMean_runner)) : Bool × Int × GMean_runner -> Option (Bool × GMean_runner) :=
 fun (around_1, nv_1, b_39) =>
 (if (decide (nv_1 < tov_0)) = true then q9 (idx b_39.g.Nodes nv_1) (fun xv_22 =>
 (if (!(xv_22.Scope == scope_0)) = true then q04 (q5y tov_0 t_0 self around_1 nv_1 rec_1 xv_22) rounds (nv_1, b_39)
 else q3y t_0 around_1 nv_1 b_39 rec_1 xv_22))
 else some (around_1, b_39))
def q2u (self : GMean_runner -> Int -> Int -> Int -> GTime -> Option (Bool × GMean_runner)) (rv_0 : GMean_runner) (fromv_0 : Int) (tov_0 : Int) (scope_0 : Int) (t_0 : GTime) : Option (Bool × GMean_runner) :=
 q04 (q23 tov_0 scope_0 t_0 self) rounds (false, fromv_0, rv_0)
def q17 : Nat -> GMean_runner -> Int -> Int -> Int -> GTime -> Option (Bool × GMean_runner)
 | 0 => fun _ _ _ _ _ => none
 | n + 1 => q2u (q17 n)
def qa6 (rv_0 : GMean_runner) (fromv_0 : Int) (tov_0 : Int) (scope_0 : Int) (t_0 : GTime) : Option (Bool × GMean_runner) := q17 rounds rv_0 fromv_0 tov_0 scope_0 t_0
theorem qm7 (self : GMean_runner -> Int -> Int -> Int -> GTime -> Option (Bool × GMean_runner)) (Hself : ∀ (rv_0 : GMean_runner) (fromv_0 : Int) (tov_0 : Int) (scope_0 : Int) (t_0 : GTime)  (r : Bool × GMean_runner), self rv_0 fromv_0 tov_0 scope_0 t_0 = some r -> DetS pp 19 [.ptr 0 0, .v (.int .i64 fromv_0), .v (.int .i64 tov_0), .v (.int .i64 scope_0), .agg (Row.row t_0)] [(0, .box [.sl 1 (enc rv_0.g.Parent), .sl 1 (enc rv_0.g.Bound), .sl 4 (enc rv_0.g.Nodes), .sl 4 (enc rv_0.g.Edges), .mp 1, .mp 2, .mp 3, .v (.int .i64 rv_0.work), .v (.int .i64 rv_0.most), .osl 4 4 (0) (rv_0.outs.length), .v (.int .i64 rv_0.e)]), (1, .con (u7 pp 81 0 (p9 rv_0.ins.1) (enc rv_0.ins.2) none) []), (2, .con (u7 pp 3 1 (p9 rv_0.past.1) (enc rv_0.past.2) none) []), (3, .con (u7 pp 81 2 (p9 rv_0.bags.1) (enc rv_0.bags.2) none) []), (4, .arr 4 (enc rv_0.outs))] 5 (.v (.bool r.1)) [(0, .box [.sl 1 (enc r.2.g.Parent), .sl 1 (enc r.2.g.Bound), .sl 4 (enc r.2.g.Nodes), .sl 4 (enc r.2.g.Edges), .mp 1, .mp 2, .mp 3, .v (.int .i64 r.2.work), .v (.int .i64 r.2.most), .osl 5 4 (0) (r.2.outs.length), .v (.int .i64 r.2.e)]), (1, .con (u7 pp 81 0 (p9 r.2.ins.1) (enc r.2.ins.2) none) []), (2, .con (u7 pp 3 1 (p9 r.2.past.1) (enc r.2.past.2) none) []), (3, .con (u7 pp 81 2 (p9 r.2.bags.1) (enc r.2.bags.2) none) []), (5, .arr 4 (enc r.2.outs))] 6) (rv_0 : GMean_runner) (fromv_0 : Int) (tov_0 : Int) (scope_0 : Int) (t_0 : GTime)  (r : Bool × GMean_runner) (h : q2u self rv_0 fromv_0 tov_0 scope_0 t_0 = some r) : DetS pp 19 [.ptr 0 0, .v (.int .i64 fromv_0), .v (.int .i64 tov_0), .v (.int .i64 scope_0), .agg (Row.row t_0)] [(0, .box [.sl 1 (enc rv_0.g.Parent), .sl 1 (enc rv_0.g.Bound), .sl 4 (enc rv_0.g.Nodes), .sl 4 (enc rv_0.g.Edges), .mp 1, .mp 2, .mp 3, .v (.int .i64 rv_0.work), .v (.int .i64 rv_0.most), .osl 4 4 (0) (rv_0.outs.length), .v (.int .i64 rv_0.e)]), (1, .con (u7 pp 81 0 (p9 rv_0.ins.1) (enc rv_0.ins.2) none) []), (2, .con (u7 pp 3 1 (p9 rv_0.past.1) (enc rv_0.past.2) none) []), (3, .con (u7 pp 81 2 (p9 rv_0.bags.1) (enc rv_0.bags.2) none) []), (4, .arr 4 (enc rv_0.outs))] 5 (.v (.bool r.1)) [(0, .box [.sl 1 (enc r.2.g.Parent), .sl 1 (enc r.2.g.Bound), .sl 4 (enc r.2.g.Nodes), .sl 4 (enc r.2.g.Edges), .mp 1, .mp 2, .mp 3, .v (.int .i64 r.2.work), .v (.int .i64 r.2.most), .osl 5 4 (0) (r.2.outs.length), .v (.int .i64 r.2.e)]), (1, .con (u7 pp 81 0 (p9 r.2.ins.1) (enc r.2.ins.2) none) []), (2, .con (u7 pp 3 1 (p9 r.2.past.1) (enc r.2.past.2) none) []), (3, .con (u7 pp 81 2 (p9 r.2.bags.1) (enc r.2.bags.2) none) []), (5, .arr 4 (enc r.2.outs))] 6 := by
 refine dtI Tryz.func19 rfl ?_; rw [q2u] at h; have F := trivial; refine sM ?_; refine sM ?_; refine jg fun _ Q3 => ?_; refine sM ?_; refine w9 fun _ Q5 => ?_; refine q12 h [0, 2, 3, 9] (fun x => ([(11, .v (.bool x.1)), (12, .v (.int .i64 x.2.1))], [(0, .box [.sl 1 (enc x.2.2.g.Parent), .sl 1 (enc x.2.2.g.Bound), .sl 4 (enc x.2.2.g.Nodes), .sl 4 (enc x.2.2.g.Edges), .mp 1, .mp 2, .mp 3, .v (.int .i64 x.2.2.work), .v (.int .i64 x.2.2.most), .osl 6 4 (0) (x.2.2.outs.length), .v (.int .i64 x.2.2.e)]), (1, .con (u7 pp 81 0 (p9 x.2.2.ins.1) (enc x.2.2.ins.2) none) []), (2, .con (u7 pp 3 1 (p9 x.2.2.past.1) (enc x.2.2.past.2) none) []), (3, .con (u7 pp 81 2 (p9 x.2.2.bags.1) (enc x.2.2.bags.2) none) []), (5, .box (Row.row t_0)), (6, .arr 4 (enc x.2.2.outs))])) 7 ?_; rintro m_1 ⟨around_1, nv_1, b_39⟩ h _ Q6; rw [q23] at h; refine sg fun _ Q7 => ?_; refine sM ?_; refine sB h (fun _ h => ?_) fun _ h => ?_
 .
  refine y9 (q8 Q7 (w9 fun _ Q9 => ?_)); refine sg fun _ Q10 => ?_; obtain ⟨xv_22, F, h⟩ := bI F h; simp only [go_sem, F]; refine ai ?_; refine q8 Q10 (q5r (fun (_ : Unit) => q3y t_0 around_1 nv_1 b_39 (q04 (q23 tov_0 scope_0 t_0 self) m_1) xv_22 = some r) [0, 2, 3, 9, 11, 12] (fun _ => ([(13, .ptr 6 0)], [(0, .box [.sl 1 (enc b_39.g.Parent), .sl 1 (enc b_39.g.Bound), .sl 4 (enc b_39.g.Nodes), .sl 4 (enc b_39.g.Edges), .mp 1, .mp 2, .mp 3, .v (.int .i64 b_39.work), .v (.int .i64 b_39.most), .osl 7 4 (0) (b_39.outs.length), .v (.int .i64 b_39.e)]), (1, .con (u7 pp 81 0 (p9 b_39.ins.1) (enc b_39.ins.2) none) []), (2, .con (u7 pp 3 1 (p9 b_39.past.1) (enc b_39.past.2) none) []), (3, .con (u7 pp 81 2 (p9 b_39.bags.1) (enc b_39.bags.2) none) []), (5, .box (Row.row t_0)), (6, .box (Row.row xv_22)), (7, .arr 4 (enc b_39.outs))])) 8 ?_ ?_)
  .
   intro _ Q16; refine sM ?_; refine sB h (fun _ h => ?_) fun _ h => ?_
   .
    refine sM ?_; refine q5r (fun ((endv_27, b_52) : Int × GMean_runner) => q20 t_0 self around_1 nv_1 (q04 (q23 tov_0 scope_0 t_0 self) m_1) xv_22 endv_27 b_52 = some r) [0, 2, 3, 9, 11, 12] (fun x => ([(13, .ptr 6 0), (14, .v (.int .i64 x.1))], [(0, .box [.sl 1 (enc x.2.g.Parent), .sl 1 (enc x.2.g.Bound), .sl 4 (enc x.2.g.Nodes), .sl 4 (enc x.2.g.Edges), .mp 1, .mp 2, .mp 3, .v (.int .i64 x.2.work), .v (.int .i64 x.2.most), .osl 7 4 (0) (x.2.outs.length), .v (.int .i64 x.2.e)]), (1, .con (u7 pp 81 0 (p9 x.2.ins.1) (enc x.2.ins.2) none) []), (2, .con (u7 pp 3 1 (p9 x.2.past.1) (enc x.2.past.2) none) []), (3, .con (u7 pp 81 2 (p9 x.2.bags.1) (enc x.2.bags.2) none) []), (5, .box (Row.row t_0)), (6, .box (Row.row xv_22)), (7, .arr 4 (enc x.2.outs))])) 8 ?_ ?_
    .
     intro _ Q33; refine w9 fun _ Q34 => ?_; refine q12 h [0, 2, 3, 9, 11, 12] (fun x => ([(13, .ptr 6 0), (14, .v (.int .i64 x.1))], [(0, .box [.sl 1 (enc x.2.g.Parent), .sl 1 (enc x.2.g.Bound), .sl 4 (enc x.2.g.Nodes), .sl 4 (enc x.2.g.Edges), .mp 1, .mp 2, .mp 3, .v (.int .i64 x.2.work), .v (.int .i64 x.2.most), .osl 7 4 (0) (x.2.outs.length), .v (.int .i64 x.2.e)]), (1, .con (u7 pp 81 0 (p9 x.2.ins.1) (enc x.2.ins.2) none) []), (2, .con (u7 pp 3 1 (p9 x.2.past.1) (enc x.2.past.2) none) []), (3, .con (u7 pp 81 2 (p9 x.2.bags.1) (enc x.2.bags.2) none) []), (5, .box (Row.row t_0)), (6, .box (Row.row xv_22)), (7, .arr 4 (enc x.2.outs))])) 8 ?_; rintro m_6 ⟨endv_29, b_58⟩ h _ Q35; rw [q5y] at h; refine sg fun _ Q36 => ?_; refine sg fun _ Q37 => ?_; refine q0e ?_; refine je2 ?_; simp only [go_sem]; rcases hb_121 : (decide (endv_29 < tov_0)) with _ | _
     . replace h := q4e h hb_121; simp only [go_sem, hb_121]; exact au
     . replace h := q4d h hb_121; obtain ⟨xv_32, F, h⟩ := bI F h; obtain ⟨v_86, ev_86, h⟩ := z8 h; simp only [go_sem, hb_121, F]; refine ai ?_; refine q1r [0, 1, 2, 3, 7] (qo7 b_58 xv_32.Scope xv_22.Scope v_86 ev_86) ?_; simp only [go_sem]; exact au
    .
     rintro ⟨endv_27, b_52⟩ h
     try dsimp only at h
     rw [q20] at h; refine sg fun _ Q19 => ?_; simp only [go_sem]; refine qj9 Tryz.func40 rfl (by kernel_rfl) (by kernel_rfl) ?_; refine sM ?_; refine sg fun _ Q21 => ?_; simp only [go_sem]; refine q53 h fun v_77 h => ?_; simp only [go_sem]; refine q8 Q21 (sg fun _ Q22 => ?_); obtain ⟨xv_30, F, h⟩ := bI F h; simp only [go_sem, F]; refine ai ?_; refine q8 Q22 (w9 fun _ Q23 => ?_); refine q12 h [0, 1, 2, 3, 24] (fun x => ([(10, .ptr 8 0), (25, .v (.int .i64 x.1))], [(0, .box [.sl 1 (enc x.2.1.g.Parent), .sl 1 (enc x.2.1.g.Bound), .sl 4 (enc x.2.1.g.Nodes), .sl 4 (enc x.2.1.g.Edges), .mp 1, .mp 2, .mp 3, .v (.int .i64 x.2.1.work), .v (.int .i64 x.2.1.most), .osl 9 4 (0) (x.2.1.outs.length), .v (.int .i64 x.2.1.e)]), (1, .con (u7 pp 81 0 (p9 x.2.1.ins.1) (enc x.2.1.ins.2) none) []), (2, .con (u7 pp 3 1 (p9 x.2.1.past.1) (enc x.2.1.past.2) none) []), (3, .con (u7 pp 81 2 (p9 x.2.1.bags.1) (enc x.2.1.bags.2) none) []), (5, .box (Row.row t_0)), (6, .box (Row.row xv_22)), (8, .box (Row.row x.2.2)), (9, .arr 4 (enc x.2.1.outs))])) 10 ?_; rintro m_5 ⟨t25_11, b_55, b_56⟩ h _ Q24; rw [q60] at h; refine sM ?_; refine sg fun _ Q26 => ?_; refine sB h (fun _ h => ?_) fun _ h => ?_
     .
      refine y9 (q8 Q26 (sg fun _ Q27 => ?_)); refine w9 fun _ Q28 => ?_; refine sg fun _ Q29 => ?_; refine sg fun _ Q30 => ?_; obtain ⟨v_82, ev_82, h⟩ := z8 h; simp only [go_sem]; refine q1r [0, 1, 2, 3, 9] (Hself b_55 nv_1 endv_27 xv_22.Scope b_56 v_82 ev_82) ?_; simp only [go_sem]; refine q8 Q30 (sB h (fun _ h => ?_) fun _ h => ?_)
      .
       refine q0a (q3l Q29 (q4o Q28 (q3l Q27 (q7o Q24 (q4o Q23 ?_))))); simp only [go_sem]; refine q5v [some 8, some 10] [(0, .box [.sl 1 (enc v_82.2.g.Parent), .sl 1 (enc v_82.2.g.Bound), .sl 4 (enc v_82.2.g.Nodes), .sl 4 (enc v_82.2.g.Edges), .mp 1, .mp 2, .mp 3, .v (.int .i64 v_82.2.work), .v (.int .i64 v_82.2.most), .osl 9 4 (0) (v_82.2.outs.length), .v (.int .i64 v_82.2.e)]), (1, .con (u7 pp 81 0 (p9 v_82.2.ins.1) (enc v_82.2.ins.2) none) []), (2, .con (u7 pp 3 1 (p9 v_82.2.past.1) (enc v_82.2.past.2) none) []), (3, .con (u7 pp 81 2 (p9 v_82.2.bags.1) (enc v_82.2.bags.2) none) []), (5, .box (Row.row t_0)), (6, .box (Row.row xv_22)), (8, .box (Row.row b_56)), (9, .arr 4 (enc v_82.2.outs))] 10 (.tup []) ?_ ?_
       . exact leA
       refine q76 ?_; simp only [go_sem]; exact au
      . exact au
     .
      refine q0w (q29 Q26 (q0x Q24 (q0p Q23 ?_))); simp only [go_sem]; refine q5v [some 8, some 9] [(0, .box [.sl 1 (enc b_55.g.Parent), .sl 1 (enc b_55.g.Bound), .sl 4 (enc b_55.g.Nodes), .sl 4 (enc b_55.g.Edges), .mp 1, .mp 2, .mp 3, .v (.int .i64 b_55.work), .v (.int .i64 b_55.most), .osl 9 4 (0) (b_55.outs.length), .v (.int .i64 b_55.e)]), (1, .con (u7 pp 81 0 (p9 b_55.ins.1) (enc b_55.ins.2) none) []), (2, .con (u7 pp 3 1 (p9 b_55.past.1) (enc b_55.past.2) none) []), (3, .con (u7 pp 81 2 (p9 b_55.bags.1) (enc b_55.bags.2) none) []), (5, .box (Row.row t_0)), (6, .box (Row.row xv_22)), (8, .box (Row.row b_56)), (9, .arr 4 (enc b_55.outs))] 10 (.tup []) ?_ ?_
      . exact leA
      refine q76 ?_; simp only [go_sem]; exact au
   . exact au
  .
   rintro ⟨⟩ h
   try dsimp only at h
   rw [q3y] at h; refine sM ?_; refine q5r (fun (b_49 : GTime) => q21 around_1 nv_1 b_39 (q04 (q23 tov_0 scope_0 t_0 self) m_1) xv_22 b_49 = some r) [0, 2, 3, 9, 11, 12, 13] (fun b_49 => ([(15, .ptr 7 0)], [(0, .box [.sl 1 (enc b_39.g.Parent), .sl 1 (enc b_39.g.Bound), .sl 4 (enc b_39.g.Nodes), .sl 4 (enc b_39.g.Edges), .mp 1, .mp 2, .mp 3, .v (.int .i64 b_39.work), .v (.int .i64 b_39.most), .osl 8 4 (0) (b_39.outs.length), .v (.int .i64 b_39.e)]), (1, .con (u7 pp 81 0 (p9 b_39.ins.1) (enc b_39.ins.2) none) []), (2, .con (u7 pp 3 1 (p9 b_39.past.1) (enc b_39.past.2) none) []), (3, .con (u7 pp 81 2 (p9 b_39.bags.1) (enc b_39.bags.2) none) []), (5, .box (Row.row t_0)), (6, .box (Row.row xv_22)), (7, .box (Row.row b_49)), (8, .arr 4 (enc b_39.outs))])) 9 ?_ ?_
   . intro _ Q14; exact au
   .
    rintro b_49 h
    try dsimp only at h
    rw [q21] at h; refine sg fun _ Q12 => ?_; obtain ⟨v_72, ev_72, h⟩ := z8 h; simp only [go_sem]; refine q1r [0, 1, 2, 3, 8] (qs2 b_39 nv_1 b_49 v_72 ev_72) ?_; simp only [go_sem]; exact au
 . exact au
theorem q7t : ∀ (n : Nat) (rv_0 : GMean_runner) (fromv_0 : Int) (tov_0 : Int) (scope_0 : Int) (t_0 : GTime)  (r : Bool × GMean_runner), q17 n rv_0 fromv_0 tov_0 scope_0 t_0 = some r -> DetS pp 19 [.ptr 0 0, .v (.int .i64 fromv_0), .v (.int .i64 tov_0), .v (.int .i64 scope_0), .agg (Row.row t_0)] [(0, .box [.sl 1 (enc rv_0.g.Parent), .sl 1 (enc rv_0.g.Bound), .sl 4 (enc rv_0.g.Nodes), .sl 4 (enc rv_0.g.Edges), .mp 1, .mp 2, .mp 3, .v (.int .i64 rv_0.work), .v (.int .i64 rv_0.most), .osl 4 4 (0) (rv_0.outs.length), .v (.int .i64 rv_0.e)]), (1, .con (u7 pp 81 0 (p9 rv_0.ins.1) (enc rv_0.ins.2) none) []), (2, .con (u7 pp 3 1 (p9 rv_0.past.1) (enc rv_0.past.2) none) []), (3, .con (u7 pp 81 2 (p9 rv_0.bags.1) (enc rv_0.bags.2) none) []), (4, .arr 4 (enc rv_0.outs))] 5 (.v (.bool r.1)) [(0, .box [.sl 1 (enc r.2.g.Parent), .sl 1 (enc r.2.g.Bound), .sl 4 (enc r.2.g.Nodes), .sl 4 (enc r.2.g.Edges), .mp 1, .mp 2, .mp 3, .v (.int .i64 r.2.work), .v (.int .i64 r.2.most), .osl 5 4 (0) (r.2.outs.length), .v (.int .i64 r.2.e)]), (1, .con (u7 pp 81 0 (p9 r.2.ins.1) (enc r.2.ins.2) none) []), (2, .con (u7 pp 3 1 (p9 r.2.past.1) (enc r.2.past.2) none) []), (3, .con (u7 pp 81 2 (p9 r.2.bags.1) (enc r.2.bags.2) none) []), (5, .arr 4 (enc r.2.outs))] 6
  | 0, rv_0, fromv_0, tov_0, scope_0, t_0, r, h => by simp [q17] at h
  | n + 1, rv_0, fromv_0, tov_0, scope_0, t_0, r, h => qm7 (q17 n) (q7t n) rv_0 fromv_0 tov_0 scope_0 t_0  r h
theorem qq7 (rv_0 : GMean_runner) (fromv_0 : Int) (tov_0 : Int) (scope_0 : Int) (t_0 : GTime)  (r : Bool × GMean_runner) (h : qa6 rv_0 fromv_0 tov_0 scope_0 t_0 = some r) : DetS pp 19 [.ptr 0 0, .v (.int .i64 fromv_0), .v (.int .i64 tov_0), .v (.int .i64 scope_0), .agg (Row.row t_0)] [(0, .box [.sl 1 (enc rv_0.g.Parent), .sl 1 (enc rv_0.g.Bound), .sl 4 (enc rv_0.g.Nodes), .sl 4 (enc rv_0.g.Edges), .mp 1, .mp 2, .mp 3, .v (.int .i64 rv_0.work), .v (.int .i64 rv_0.most), .osl 4 4 (0) (rv_0.outs.length), .v (.int .i64 rv_0.e)]), (1, .con (u7 pp 81 0 (p9 rv_0.ins.1) (enc rv_0.ins.2) none) []), (2, .con (u7 pp 3 1 (p9 rv_0.past.1) (enc rv_0.past.2) none) []), (3, .con (u7 pp 81 2 (p9 rv_0.bags.1) (enc rv_0.bags.2) none) []), (4, .arr 4 (enc rv_0.outs))] 5 (.v (.bool r.1)) [(0, .box [.sl 1 (enc r.2.g.Parent), .sl 1 (enc r.2.g.Bound), .sl 4 (enc r.2.g.Nodes), .sl 4 (enc r.2.g.Edges), .mp 1, .mp 2, .mp 3, .v (.int .i64 r.2.work), .v (.int .i64 r.2.most), .osl 5 4 (0) (r.2.outs.length), .v (.int .i64 r.2.e)]), (1, .con (u7 pp 81 0 (p9 r.2.ins.1) (enc r.2.ins.2) none) []), (2, .con (u7 pp 3 1 (p9 r.2.past.1) (enc r.2.past.2) none) []), (3, .con (u7 pp 81 2 (p9 r.2.bags.1) (enc r.2.bags.2) none) []), (5, .arr 4 (enc r.2.outs))] 6 := q7t rounds rv_0 fromv_0 tov_0 scope_0 t_0  r h
def q43 (a_0 : Int) (b_0 : Int) (nv_0 : Int) (rec_1 : Int × (List GOut) -> Option (List GOut)) : Int × (List GOut) -> Option (List GOut) :=
 fun (i_1, a_2) =>
 (if (decide (i_1 < nv_0)) = true then q9 (idx a_2 (i64.wrap (b_0 + i_1))) (fun xv_6 =>
 q9 (idx a_2 (i64.wrap (a_0 + i_1))) (fun xv_7 =>
 q9 (idx (Xb a_2 (Xh (i64.wrap (a_0 + i_1))) xv_6) (i64.wrap (b_0 + i_1))) (fun xv_8 =>
 rec_1 (i64.wrap (i_1 + 1), (Xb (Xb a_2 (Xh (i64.wrap (a_0 + i_1))) xv_6) (Xh (i64.wrap (b_0 + i_1))) xv_7)))))
 else some a_2)
def q13 (data_0 : List GOut) (a_0 : Int) (b_0 : Int) (nv_0 : Int) (cmp_0 : GOut -> GOut -> Option Int) : Option (List GOut) :=
 q04 (q43 a_0 b_0 nv_0) rounds (0, data_0)
theorem q3v (data_0 : List GOut) (a_0 : Int) (b_0 : Int) (nv_0 : Int) (cmp_0 : GOut -> GOut -> Option Int) (g_cmp_0 : FuncId) (c_cmp_0 : List AV) (F_cmp_0 : q08 c_cmp_0 = true) (E_cmp_0 : d9 pp g_cmp_0 = true) (H_cmp_0 : ∀ (x0 : GOut) (x1 : GOut) (r : Int), cmp_0 x0 x1 = some r -> PureS pp g_cmp_0 ([.agg (Row.row x0), .agg (Row.row x1)] ++ c_cmp_0) 0 (.v (.int .i64 r))) (r : List GOut) (h : q13 data_0 a_0 b_0 nv_0 cmp_0 = some r) : DetS pp 143 [.osl 0 4 (0) (data_0.length), .v (.int .i64 a_0), .v (.int .i64 b_0), .v (.int .i64 nv_0), .clo g_cmp_0 c_cmp_0] [(0, .arr 4 (enc data_0))] 1 (.tup []) [(0, .arr 4 (enc r))] 1 := by
 refine dtI Tryz.func143 rfl ?_; rw [q13] at h; have F := trivial; refine sM ?_; refine w9 fun _ Q2 => ?_; refine q12 h [1, 2, 3] (fun x => ([(0, .osl 0 4 (0) (x.2.length)), (10, .v (.int .i64 x.1))], [(0, .arr 4 (enc x.2))])) 1 ?_; rintro m_1 ⟨i_1, a_2⟩ h _ Q3; rw [q43] at h; refine sg fun _ Q4 => ?_; refine sM ?_; refine sB h (fun _ h => ?_) fun _ h => ?_
 .
  refine y9 (q8 Q4 (sg fun _ Q6 => ?_)); refine w9 fun _ Q7 => ?_; refine q0e ?_; refine q3i 22 0 0 [0, 0, 0, 6, 0, 0, 0, 96, 0, 0, 0, 1536, 3840, 7936, 0, 0, 0, 98304, 245760, 507904, 1048335, 2096911, 4194303, 8388607] [0] [4, 5, 6, 7] [] [21] [] mixed (by kernel_rfl) (of_decide_eq_true (by kernel_rfl)) (by kernel_rfl) (by kernel_rfl) (by rfl) ?_; obtain ⟨xv_6, F, h⟩ := bI F h; obtain ⟨xv_7, F, h⟩ := bI F h; have rf_4 : (enc a_2).set (Xh (i64.wrap (a_0 + i_1))) [.v (.int .i64 xv_6.Node), .v (.int .i64 xv_6.Epoch), .v (.int .i64 xv_6.Rec.K), .v (.int .i64 xv_6.Rec.V)] = enc (Xb a_2 (Xh (i64.wrap (a_0 + i_1))) xv_6) := by exact qa2 _ _ _
  obtain ⟨xv_8, F, h⟩ := bI F h; have rf_5 : (enc (Xb a_2 (Xh (i64.wrap (a_0 + i_1))) xv_6)).set (Xh (i64.wrap (b_0 + i_1))) [.v (.int .i64 xv_7.Node), .v (.int .i64 xv_7.Epoch), .v (.int .i64 xv_7.Rec.K), .v (.int .i64 xv_7.Rec.V)] = enc (Xb (Xb a_2 (Xh (i64.wrap (a_0 + i_1))) xv_6) (Xh (i64.wrap (b_0 + i_1))) xv_7) := by exact qa2 _ _ _
  simp only [go_sem, rf_4, rf_5, F]; refine ai ?_; refine ai ?_; refine ai ?_; refine ai ?_; refine q05 Q7 (q8 Q6 ?_); simp only [go_sem]; refine p8 Q3 ?_; exact nxC _ h [] leA
 . refine q0w (q29 Q4 (q0x Q3 (q0p Q2 ?_))); simp only [go_sem]; obtain rfl := Xa h; refine q1s [] ?_; exact leA
def q34 (mv_0 : Int) (cmp_0 : GOut -> GOut -> Option Int) (i_2 : Int) (a_3 : List GOut) : Option (List GOut) :=
 q9 (q13 a_3 (i64.wrap (mv_0 - i_2)) mv_0 i_2 cmp_0) (fun v_6 =>
 q02 (v_6.length = a_3.length) (
 some v_6))
def q4w (mv_0 : Int) (cmp_0 : GOut -> GOut -> Option Int) (rec_2 : Int × Int × (List GOut) -> Option (List GOut)) : Int × Int × (List GOut) -> Option (List GOut) :=
 fun (i_4, j_3, a_5) =>
 (if (!(i_4 == j_3)) = true then (if (decide (j_3 < i_4)) = true then q9 (q13 a_5 (i64.wrap (mv_0 - i_4)) mv_0 j_3 cmp_0) (fun v_11 =>
 q02 (v_11.length = a_5.length) (
 rec_2 (i64.wrap (i_4 - j_3), j_3, v_11)))
 else q9 (q13 a_5 (i64.wrap (mv_0 - i_4)) (i64.wrap ((i64.wrap (mv_0 + j_3)) - i_4)) i_4 cmp_0) (fun v_12 =>
 q02 (v_12.length = a_5.length) (
 rec_2 (i_4, i64.wrap (j_3 - i_4), v_12))))
 else q34 mv_0 cmp_0 i_4 a_5)
def q2h (data_0 : List GOut) (a_0 : Int) (mv_0 : Int) (b_0 : Int) (cmp_0 : GOut -> GOut -> Option Int) : Option (List GOut) :=
 q04 (q4w mv_0 cmp_0) rounds (i64.wrap (mv_0 - a_0), i64.wrap (b_0 - mv_0), data_0)
theorem ql0 (data_0 : List GOut) (a_0 : Int) (mv_0 : Int) (b_0 : Int) (cmp_0 : GOut -> GOut -> Option Int) (g_cmp_0 : FuncId) (c_cmp_0 : List AV) (F_cmp_0 : q08 c_cmp_0 = true) (E_cmp_0 : d9 pp g_cmp_0 = true) (H_cmp_0 : ∀ (x0 : GOut) (x1 : GOut) (r : Int), cmp_0 x0 x1 = some r -> PureS pp g_cmp_0 ([.agg (Row.row x0), .agg (Row.row x1)] ++ c_cmp_0) 0 (.v (.int .i64 r))) (r : List GOut) (h : q2h data_0 a_0 mv_0 b_0 cmp_0 = some r) : DetS pp 118 [.osl 0 4 (0) (data_0.length), .v (.int .i64 a_0), .v (.int .i64 mv_0), .v (.int .i64 b_0), .clo g_cmp_0 c_cmp_0] [(0, .arr 4 (enc data_0))] 1 (.tup []) [(0, .arr 4 (enc r))] 1 := by
 refine dtI Tryz.func118 rfl ?_; rw [q2h] at h; have F := trivial; refine sM ?_; refine sM ?_; refine q5r (fun ((i_2, a_3) : Int × (List GOut)) => q34 mv_0 cmp_0 i_2 a_3 = some r) [2, 4] (fun x => ([(0, .osl 0 4 (0) (x.2.length)), (10, .v (.int .i64 x.1))], [(0, .arr 4 (enc x.2))])) 1 ?_ ?_
 .
  intro _ Q3; refine w9 fun _ Q4 => ?_; refine q12 h [2, 4] (fun x => ([(0, .osl 0 4 (0) (x.2.2.length)), (10, .v (.int .i64 x.1)), (11, .v (.int .i64 x.2.1))], [(0, .arr 4 (enc x.2.2))])) 1 ?_; rintro m_2 ⟨i_4, j_3, a_5⟩ h _ Q5; rw [q4w] at h; refine sg fun _ Q6 => ?_; refine sM ?_; refine sB h (fun _ h => ?_) fun _ h => ?_
  .
   refine y9 (q8 Q6 (w9 fun _ Q8 => ?_)); refine sM ?_; refine sB h (fun _ h => ?_) fun _ h => ?_
   . refine sg fun _ Q10 => ?_; obtain ⟨v_11, ev_11, h⟩ := z8 h; simp only [go_sem]; refine q6b [0] (q3v a_5 (i64.wrap (mv_0 - i_4)) mv_0 j_3 cmp_0 g_cmp_0 c_cmp_0 F_cmp_0 E_cmp_0 H_cmp_0 v_11 ev_11) (by simp) (by simp only [q4t, q1w, q4c F_cmp_0] <;> rfl) ⟨rfl, trivial⟩ (by simp only [ltL, ltA, q5f F_cmp_0] <;> rfl) rfl rfl rfl ?_; obtain ⟨F, h⟩ := bG F h; simp only [go_sem, F]; refine q8 Q10 ?_; simp only [go_sem]; refine q05 Q8 (p8 Q5 ?_); exact nxC _ h [] leA
   . refine sg fun _ Q11 => ?_; obtain ⟨v_12, ev_12, h⟩ := z8 h; simp only [go_sem]; refine q6b [0] (q3v a_5 (i64.wrap (mv_0 - i_4)) (i64.wrap ((i64.wrap (mv_0 + j_3)) - i_4)) i_4 cmp_0 g_cmp_0 c_cmp_0 F_cmp_0 E_cmp_0 H_cmp_0 v_12 ev_12) (by simp) (by simp only [q4t, q1w, q4c F_cmp_0] <;> rfl) ⟨rfl, trivial⟩ (by simp only [ltL, ltA, q5f F_cmp_0] <;> rfl) rfl rfl rfl ?_; obtain ⟨F, h⟩ := bG F h; simp only [go_sem, F]; refine q8 Q11 ?_; simp only [go_sem]; refine q05 Q8 (p8 Q5 ?_); exact nxC _ h [] leA
  . refine q0w (q29 Q6 (q0x Q5 (q0p Q4 (p8 Q3 (⟨(i_4, a_5), [], ?_, h⟩))))); exact leA
 .
  rintro ⟨i_2, a_3⟩ h
  try dsimp only at h
  rw [q34] at h; obtain ⟨v_6, ev_6, h⟩ := z8 h; simp only [go_sem]; refine q6b [0] (q3v a_3 (i64.wrap (mv_0 - i_2)) mv_0 i_2 cmp_0 g_cmp_0 c_cmp_0 F_cmp_0 E_cmp_0 H_cmp_0 v_6 ev_6) (by simp) (by simp only [q4t, q1w, q4c F_cmp_0] <;> rfl) ⟨rfl, trivial⟩ (by simp only [ltL, ltA, q5f F_cmp_0] <;> rfl) rfl rfl rfl ?_; obtain ⟨F, h⟩ := bG F h; simp only [go_sem, F]; obtain rfl := Xa h; refine q1s [] ?_; exact leA
def q3d (a_0 : Int) (cmp_0 : GOut -> GOut -> Option Int) (i_1 : Int) (rec_1 : (Int × (List GOut) -> Option (List GOut))) (rec_2 : Int × (List GOut) -> Option (List GOut)) : Int × (List GOut) -> Option (List GOut) :=
 fun (j_5, a_8) =>
 (if (decide (a_0 < j_5)) = true then q9 (idx a_8 j_5) (fun xv_24 =>
 q9 (idx a_8 (i64.wrap (j_5 - 1))) (fun xv_25 =>
 q9 (cmp_0 xv_24 xv_25) (fun v_8 =>
 (if (decide (v_8 < 0)) = true then q9 (idx (Xb a_8 (j_5.toNat) xv_25) (i64.wrap (j_5 - 1))) (fun xv_26 =>
 rec_2 (i64.wrap (j_5 - 1), (Xb (Xb a_8 (j_5.toNat) xv_25) (Xh (i64.wrap (j_5 - 1))) xv_24)))
 else rec_1 (i64.wrap (i_1 + 1), a_8)))))
 else rec_1 (i64.wrap (i_1 + 1), a_8))
def q26 (a_0 : Int) (b_0 : Int) (cmp_0 : GOut -> GOut -> Option Int) (rec_1 : Int × (List GOut) -> Option (List GOut)) : Int × (List GOut) -> Option (List GOut) :=
 fun (i_1, a_6) =>
 (if (decide (i_1 < b_0)) = true then q04 (q3d a_0 cmp_0 i_1 rec_1) rounds (i_1, a_6)
 else some a_6)
def q0q (data_0 : List GOut) (a_0 : Int) (b_0 : Int) (cmp_0 : GOut -> GOut -> Option Int) : Option (List GOut) :=
 q04 (q26 a_0 b_0 cmp_0) rounds (i64.wrap (a_0 + 1), data_0)
theorem q5l (data_0 : List GOut) (a_0 : Int) (b_0 : Int) (cmp_0 : GOut -> GOut -> Option Int) (g_cmp_0 : FuncId) (c_cmp_0 : List AV) (F_cmp_0 : q08 c_cmp_0 = true) (E_cmp_0 : d9 pp g_cmp_0 = true) (H_cmp_0 : ∀ (x0 : GOut) (x1 : GOut) (r : Int), cmp_0 x0 x1 = some r -> PureS pp g_cmp_0 ([.agg (Row.row x0), .agg (Row.row x1)] ++ c_cmp_0) 0 (.v (.int .i64 r))) (r : List GOut) (h : q0q data_0 a_0 b_0 cmp_0 = some r) : DetS pp 77 [.osl 0 4 (0) (data_0.length), .v (.int .i64 a_0), .v (.int .i64 b_0), .clo g_cmp_0 c_cmp_0] [(0, .arr 4 (enc data_0))] 1 (.tup []) [(0, .arr 4 (enc r))] 1 := by
 refine dtI Tryz.func77 rfl ?_; rw [q0q] at h; have F := trivial; refine sM ?_; refine w9 fun _ Q2 => ?_; refine q12 h [1, 2, 3] (fun x => ([(0, .osl 0 4 (0) (x.2.length)), (8, .v (.int .i64 x.1))], [(0, .arr 4 (enc x.2))])) 1 ?_; rintro m_1 ⟨i_1, a_6⟩ h _ Q3; rw [q26] at h; refine sg fun _ Q4 => ?_; refine sM ?_; refine sB h (fun _ h => ?_) fun _ h => ?_
 .
  refine y9 (q8 Q4 (jg fun _ Q6 => ?_)); refine w9 fun _ Q7 => ?_; refine sM ?_; refine w9 fun _ Q9 => ?_; refine q12 h [1, 2, 3, 8] (fun x => ([(0, .osl 0 4 (0) (x.2.length)), (9, .v (.int .i64 x.1))], [(0, .arr 4 (enc x.2))])) 1 ?_; rintro m_2 ⟨j_5, a_8⟩ h _ Q10; rw [q3d] at h; refine sg fun _ Q11 => ?_; refine sg fun _ Q12 => ?_; refine q0e ?_; refine je2 ?_; simp only [go_sem]; rcases hb_19 : (decide (a_0 < j_5)) with _ | _
  . replace h := q4e h hb_19; simp only [go_sem, hb_19]; refine q8 Q12 (jj9 ?_); refine q0w (q29 Q11 (q0x Q10 (q0p Q9 (q05 Q7 (q8 Q6 ?_))))); simp only [go_sem]; refine p8 Q3 ?_; exact nxC _ h [] leA
  .
   replace h := q4d h hb_19; obtain ⟨xv_24, F, h⟩ := bI F h; obtain ⟨xv_25, F, h⟩ := bI F h; obtain ⟨v_8, ev_8, h⟩ := z8 h; simp only [go_sem, hb_19, E_cmp_0, F]; refine ai ?_; refine ai ?_; refine q6c (H_cmp_0 xv_24 xv_25 v_8 ev_8) (by rfl) (by simp [go_sem, q08, q0g, F_cmp_0]) ?_; simp only [go_sem]; refine q8 Q12 (sB h (fun _ h => ?_) fun _ h => ?_)
   .
    refine y9 (q8 Q11 (sg fun _ Q13 => ?_)); refine w9 fun _ Q14 => ?_; refine q0e ?_; refine q3i 16 0 0 [0, 0, 0, 0, 8, 0, 0, 64, 224, 480, 0, 0, 3072, 7168, 16355, 32739, 65535, 131071] [0] [2, 3, 4] [] [15] [] mixed (by kernel_rfl) (of_decide_eq_true (by kernel_rfl)) (by kernel_rfl) (by kernel_rfl) (by rfl) ?_; have rf_16 : (enc a_8).set (j_5.toNat) [.v (.int .i64 xv_25.Node), .v (.int .i64 xv_25.Epoch), .v (.int .i64 xv_25.Rec.K), .v (.int .i64 xv_25.Rec.V)] = enc (Xb a_8 (j_5.toNat) xv_25) := by exact qa2 _ _ _
    obtain ⟨xv_26, F, h⟩ := bI F h; have rf_17 : (enc (Xb a_8 (j_5.toNat) xv_25)).set (Xh (i64.wrap (j_5 - 1))) [.v (.int .i64 xv_24.Node), .v (.int .i64 xv_24.Epoch), .v (.int .i64 xv_24.Rec.K), .v (.int .i64 xv_24.Rec.V)] = enc (Xb (Xb a_8 (j_5.toNat) xv_25) (Xh (i64.wrap (j_5 - 1))) xv_24) := by exact qa2 _ _ _
    simp only [go_sem, rf_16, rf_17, F]; refine ai ?_; refine ai ?_; refine ai ?_; refine ai ?_; refine q05 Q14 (q8 Q13 ?_); simp only [go_sem]; refine p8 Q10 ?_; exact nxC _ h [] leA
   . refine q0w (q29 Q11 (q0x Q10 (q0p Q9 (q05 Q7 (q8 Q6 ?_))))); simp only [go_sem]; refine p8 Q3 ?_; exact nxC _ h [] leA
 . refine q0w (q29 Q4 (q0x Q3 (q0p Q2 ?_))); simp only [go_sem]; obtain rfl := Xa h; refine q1s [] ?_; exact leA
def q1b (a_0 : Int) (mv_0 : Int) (b_0 : Int) (cmp_0 : GOut -> GOut -> Option Int) (self : (List GOut) -> Int -> Int -> Int -> (GOut -> GOut -> Option Int) -> Option (List GOut)) (start_3 : Int) (a_6 : List GOut) : Option (List GOut) :=
 (if ((decide ((i64.wrap (q28 .u64 (IntKind.u64.wrap (i64.wrap (a_0 + b_0))) 1)) < (i64.wrap ((i64.wrap ((i64.wrap (q28 .u64 (IntKind.u64.wrap (i64.wrap (a_0 + b_0))) 1)) + mv_0)) - start_3)))) && (decide ((i64.wrap ((i64.wrap ((i64.wrap (q28 .u64 (IntKind.u64.wrap (i64.wrap (a_0 + b_0))) 1)) + mv_0)) - start_3)) < b_0))) = true then q9 (self a_6 (i64.wrap (q28 .u64 (IntKind.u64.wrap (i64.wrap (a_0 + b_0))) 1)) (i64.wrap ((i64.wrap ((i64.wrap (q28 .u64 (IntKind.u64.wrap (i64.wrap (a_0 + b_0))) 1)) + mv_0)) - start_3)) b_0 cmp_0) (fun v_17 =>
 q02 (v_17.length = a_6.length) (
 some v_17))
 else some a_6)
def q1c (a_0 : Int) (mv_0 : Int) (b_0 : Int) (cmp_0 : GOut -> GOut -> Option Int) (self : (List GOut) -> Int -> Int -> Int -> (GOut -> GOut -> Option Int) -> Option (List GOut)) (start_3 : Int) (a_5 : List GOut) : Option (List GOut) :=
 (if ((decide (a_0 < start_3)) && (decide (start_3 < (i64.wrap (q28 .u64 (IntKind.u64.wrap (i64.wrap (a_0 + b_0))) 1))))) = true then q9 (self a_5 a_0 start_3 (i64.wrap (q28 .u64 (IntKind.u64.wrap (i64.wrap (a_0 + b_0))) 1)) cmp_0) (fun v_18 =>
 q02 (v_18.length = a_5.length) (
 q1b a_0 mv_0 b_0 cmp_0 self start_3 v_18))
 else q1b a_0 mv_0 b_0 cmp_0 self start_3 a_5)
def q1u (data_0 : List GOut) (a_0 : Int) (mv_0 : Int) (b_0 : Int) (cmp_0 : GOut -> GOut -> Option Int) (self : (List GOut) -> Int -> Int -> Int -> (GOut -> GOut -> Option Int) -> Option (List GOut)) (start_3 : Int) : Option (List GOut) :=
 (if ((decide (start_3 < mv_0)) && (decide (mv_0 < (i64.wrap ((i64.wrap ((i64.wrap (q28 .u64 (IntKind.u64.wrap (i64.wrap (a_0 + b_0))) 1)) + mv_0)) - start_3))))) = true then q9 (q2h data_0 start_3 mv_0 (i64.wrap ((i64.wrap ((i64.wrap (q28 .u64 (IntKind.u64.wrap (i64.wrap (a_0 + b_0))) 1)) + mv_0)) - start_3)) cmp_0) (fun v_19 =>
 q02 (v_19.length = data_0.length) (
 q1c a_0 mv_0 b_0 cmp_0 self start_3 v_19))
 else q1c a_0 mv_0 b_0 cmp_0 self start_3 data_0)
def q4i (data_0 : List GOut) (a_0 : Int) (mv_0 : Int) (b_0 : Int) (cmp_0 : GOut -> GOut -> Option Int) (self : (List GOut) -> Int -> Int -> Int -> (GOut -> GOut -> Option Int) -> Option (List GOut)) (rec_7 : Int × Int -> Option (List GOut)) : Int × Int -> Option (List GOut) :=
 fun (start_5, rv_4) =>
 (if (decide (start_5 < rv_4)) = true then q9 (idx data_0 (i64.wrap ((i64.wrap ((i64.wrap ((i64.wrap (q28 .u64 (IntKind.u64.wrap (i64.wrap (a_0 + b_0))) 1)) + mv_0)) - 1)) - (i64.wrap (q28 .u64 (IntKind.u64.wrap (i64.wrap (start_5 + rv_4))) 1))))) (fun xv_52 =>
 q9 (idx data_0 (i64.wrap (q28 .u64 (IntKind.u64.wrap (i64.wrap (start_5 + rv_4))) 1))) (fun xv_53 =>
 q9 (cmp_0 xv_52 xv_53) (fun v_22 =>
 (if (!(decide (v_22 < 0))) = true then rec_7 (i64.wrap ((i64.wrap (q28 .u64 (IntKind.u64.wrap (i64.wrap (start_5 + rv_4))) 1)) + 1), rv_4)
 else rec_7 (start_5, i64.wrap (q28 .u64 (IntKind.u64.wrap (i64.wrap (start_5 + rv_4))) 1))))))
 else q1u data_0 a_0 mv_0 b_0 cmp_0 self start_5)
def q1d (data_0 : List GOut) (a_0 : Int) (mv_0 : Int) (b_0 : Int) (cmp_0 : GOut -> GOut -> Option Int) (self : (List GOut) -> Int -> Int -> Int -> (GOut -> GOut -> Option Int) -> Option (List GOut)) (start_0 : Int) (rv_0 : Int) : Option (List GOut) :=
 q04 (q4i data_0 a_0 mv_0 b_0 cmp_0 self) rounds (start_0, rv_0)
def q2r (data_0 : List GOut) (a_0 : Int) (mv_0 : Int) (b_0 : Int) (cmp_0 : GOut -> GOut -> Option Int) (self : (List GOut) -> Int -> Int -> Int -> (GOut -> GOut -> Option Int) -> Option (List GOut)) : Option (List GOut) :=
 (if (decide ((i64.wrap (q28 .u64 (IntKind.u64.wrap (i64.wrap (a_0 + b_0))) 1)) < mv_0)) = true then q1d data_0 a_0 mv_0 b_0 cmp_0 self (i64.wrap ((i64.wrap ((i64.wrap (q28 .u64 (IntKind.u64.wrap (i64.wrap (a_0 + b_0))) 1)) + mv_0)) - b_0)) (i64.wrap (q28 .u64 (IntKind.u64.wrap (i64.wrap (a_0 + b_0))) 1))
 else q1d data_0 a_0 mv_0 b_0 cmp_0 self a_0 mv_0)
def q4h (i_12 : Int) (rec_9 : Int × (List GOut) -> Option (List GOut)) : Int × (List GOut) -> Option (List GOut) :=
 fun (k_5, a_8) =>
 (if (decide (i_12 < k_5)) = true then q9 (idx a_8 (i64.wrap (k_5 - 1))) (fun xv_66 =>
 q9 (idx a_8 k_5) (fun xv_67 =>
 q9 (idx (Xb a_8 (k_5.toNat) xv_66) (i64.wrap (k_5 - 1))) (fun xv_68 =>
 rec_9 (i64.wrap (k_5 - 1), (Xb (Xb a_8 (k_5.toNat) xv_66) (Xh (i64.wrap (k_5 - 1))) xv_67)))))
 else some a_8)
def q2q (data_0 : List GOut) (mv_0 : Int) (i_12 : Int) : Option (List GOut) :=
 q04 (q4h i_12) rounds (mv_0, data_0)
def q42 (data_0 : List GOut) (mv_0 : Int) (cmp_0 : GOut -> GOut -> Option Int) (rec_10 : Int × Int -> Option (List GOut)) : Int × Int -> Option (List GOut) :=
 fun (i_14, j_11) =>
 (if (decide (i_14 < j_11)) = true then q9 (idx data_0 mv_0) (fun xv_73 =>
 q9 (idx data_0 (i64.wrap (q28 .u64 (IntKind.u64.wrap (i64.wrap (i_14 + j_11))) 1))) (fun xv_74 =>
 q9 (cmp_0 xv_73 xv_74) (fun v_28 =>
 (if (!(decide (v_28 < 0))) = true then rec_10 (i64.wrap ((i64.wrap (q28 .u64 (IntKind.u64.wrap (i64.wrap (i_14 + j_11))) 1)) + 1), j_11)
 else rec_10 (i_14, i64.wrap (q28 .u64 (IntKind.u64.wrap (i64.wrap (i_14 + j_11))) 1))))))
 else q2q data_0 mv_0 i_14)
def q2s (data_0 : List GOut) (a_0 : Int) (mv_0 : Int) (b_0 : Int) (cmp_0 : GOut -> GOut -> Option Int) (self : (List GOut) -> Int -> Int -> Int -> (GOut -> GOut -> Option Int) -> Option (List GOut)) : Option (List GOut) :=
 (if ((i64.wrap (b_0 - mv_0)) == 1) = true then q04 (q42 data_0 mv_0 cmp_0) rounds (a_0, mv_0)
 else q2r data_0 a_0 mv_0 b_0 cmp_0 self)
def q41 (i_17 : Int) (rec_12 : Int × (List GOut) -> Option (List GOut)) : Int × (List GOut) -> Option (List GOut) :=
 fun (k_7, a_10) =>
 (if (decide (k_7 < (i64.wrap (i_17 - 1)))) = true then q9 (idx a_10 (i64.wrap (k_7 + 1))) (fun xv_87 =>
 q9 (idx a_10 k_7) (fun xv_88 =>
 q9 (idx (Xb a_10 (k_7.toNat) xv_87) (i64.wrap (k_7 + 1))) (fun xv_89 =>
 rec_12 (i64.wrap (k_7 + 1), (Xb (Xb a_10 (k_7.toNat) xv_87) (Xh (i64.wrap (k_7 + 1))) xv_88)))))
 else some a_10)
def q2i (data_0 : List GOut) (a_0 : Int) (i_17 : Int) : Option (List GOut) :=
 q04 (q41 i_17) rounds (a_0, data_0)
def q40 (data_0 : List GOut) (a_0 : Int) (cmp_0 : GOut -> GOut -> Option Int) (rec_13 : Int × Int -> Option (List GOut)) : Int × Int -> Option (List GOut) :=
 fun (i_19, j_15) =>
 (if (decide (i_19 < j_15)) = true then q9 (idx data_0 (i64.wrap (q28 .u64 (IntKind.u64.wrap (i64.wrap (i_19 + j_15))) 1))) (fun xv_94 =>
 q9 (idx data_0 a_0) (fun xv_95 =>
 q9 (cmp_0 xv_94 xv_95) (fun v_34 =>
 (if (decide (v_34 < 0)) = true then rec_13 (i64.wrap ((i64.wrap (q28 .u64 (IntKind.u64.wrap (i64.wrap (i_19 + j_15))) 1)) + 1), j_15)
 else rec_13 (i_19, i64.wrap (q28 .u64 (IntKind.u64.wrap (i64.wrap (i_19 + j_15))) 1))))))
 else q2i data_0 a_0 i_19)
def q1y (self : (List GOut) -> Int -> Int -> Int -> (GOut -> GOut -> Option Int) -> Option (List GOut)) (data_0 : List GOut) (a_0 : Int) (mv_0 : Int) (b_0 : Int) (cmp_0 : GOut -> GOut -> Option Int) : Option (List GOut) :=
 (if ((i64.wrap (mv_0 - a_0)) == 1) = true then q04 (q40 data_0 a_0 cmp_0) rounds (mv_0, b_0)
 else q2s data_0 a_0 mv_0 b_0 cmp_0 self)
def q0b : Nat -> (List GOut) -> Int -> Int -> Int -> (GOut -> GOut -> Option Int) -> Option (List GOut)
 | 0 => fun _ _ _ _ _ => none
 | n + 1 => q1y (q0b n)
def q3b (data_0 : List GOut) (a_0 : Int) (mv_0 : Int) (b_0 : Int) (cmp_0 : GOut -> GOut -> Option Int) : Option (List GOut) := q0b rounds data_0 a_0 mv_0 b_0 cmp_0
theorem qe7 (self : (List GOut) -> Int -> Int -> Int -> (GOut -> GOut -> Option Int) -> Option (List GOut)) (Hself : ∀ (data_0 : List GOut) (a_0 : Int) (mv_0 : Int) (b_0 : Int) (cmp_0 : GOut -> GOut -> Option Int) (g_cmp_0 : FuncId) (c_cmp_0 : List AV) (F_cmp_0 : q08 c_cmp_0 = true) (E_cmp_0 : d9 pp g_cmp_0 = true) (H_cmp_0 : ∀ (x0 : GOut) (x1 : GOut) (r : Int), cmp_0 x0 x1 = some r -> PureS pp g_cmp_0 ([.agg (Row.row x0), .agg (Row.row x1)] ++ c_cmp_0) 0 (.v (.int .i64 r))) (r : List GOut), self data_0 a_0 mv_0 b_0 cmp_0 = some r -> DetS pp 78 [.osl 0 4 (0) (data_0.length), .v (.int .i64 a_0), .v (.int .i64 mv_0), .v (.int .i64 b_0), .clo g_cmp_0 c_cmp_0] [(0, .arr 4 (enc data_0))] 1 (.tup []) [(0, .arr 4 (enc r))] 1) (data_0 : List GOut) (a_0 : Int) (mv_0 : Int) (b_0 : Int) (cmp_0 : GOut -> GOut -> Option Int) (g_cmp_0 : FuncId) (c_cmp_0 : List AV) (F_cmp_0 : q08 c_cmp_0 = true) (E_cmp_0 : d9 pp g_cmp_0 = true) (H_cmp_0 : ∀ (x0 : GOut) (x1 : GOut) (r : Int), cmp_0 x0 x1 = some r -> PureS pp g_cmp_0 ([.agg (Row.row x0), .agg (Row.row x1)] ++ c_cmp_0) 0 (.v (.int .i64 r))) (r : List GOut) (h : q1y self data_0 a_0 mv_0 b_0 cmp_0 = some r) : DetS pp 78 [.osl 0 4 (0) (data_0.length), .v (.int .i64 a_0), .v (.int .i64 mv_0), .v (.int .i64 b_0), .clo g_cmp_0 c_cmp_0] [(0, .arr 4 (enc data_0))] 1 (.tup []) [(0, .arr 4 (enc r))] 1 := by
 refine dtI Tryz.func78 rfl ?_; rw [q1y] at h; have F := trivial; refine q5r (fun (_ : Unit) => q2s data_0 a_0 mv_0 b_0 cmp_0 self = some r) [0, 1, 2, 3, 4] (fun _ => ([], [(0, .arr 4 (enc data_0))])) 1 ?_ ?_
 .
  intro _ Q43; refine sM ?_; refine sB h (fun _ h => ?_) fun _ h => ?_
  .
   refine sM ?_; refine sM ?_; refine q5r (fun (i_17 : Int) => q2i data_0 a_0 i_17 = some r) [0, 1] (fun i_17 => ([(10, .v (.int .i64 i_17))], [(0, .arr 4 (enc data_0))])) 1 ?_ ?_
   .
    intro _ Q55; refine w9 fun _ Q56 => ?_; refine q12 h [0, 1, 4] (fun x => ([(10, .v (.int .i64 x.1)), (11, .v (.int .i64 x.2))], [(0, .arr 4 (enc data_0))])) 1 ?_; rintro m_13 ⟨i_19, j_15⟩ h _ Q57; rw [q40] at h; refine sg fun _ Q58 => ?_; refine sM ?_; refine sB h (fun _ h => ?_) fun _ h => ?_
    .
     refine y9 (q8 Q58 (w9 fun _ Q60 => ?_)); refine sM ?_; refine sg fun _ Q62 => ?_; refine q0e ?_; refine je2 ?_; obtain ⟨xv_94, F, h⟩ := bI F h; obtain ⟨xv_95, F, h⟩ := bI F h; obtain ⟨v_34, ev_34, h⟩ := z8 h; simp only [go_sem, E_cmp_0, F]; refine ai ?_; refine ai ?_; refine q6c (H_cmp_0 xv_94 xv_95 v_34 ev_34) (by rfl) (by simp [go_sem, q08, q0g, F_cmp_0]) ?_; simp only [go_sem]; refine q8 Q62 (sB h (fun _ h => ?_) fun _ h => ?_)
     . simp only [go_sem]; refine q05 Q60 (p8 Q57 ?_); exact nxC _ h [] leA
     . simp only [go_sem]; refine q05 Q60 (p8 Q57 ?_); exact nxC _ h [] leA
    . refine q0w (q29 Q58 (q0x Q57 (q0p Q56 (p8 Q55 (⟨i_19, [], ?_, h⟩))))); exact leA
   .
    rintro i_17 h
    try dsimp only at h
    rw [q2i] at h; refine jg fun _ Q47 => ?_; refine sM ?_; refine w9 fun _ Q49 => ?_; refine q12 h [10] (fun x => ([(0, .osl 0 4 (0) (x.2.length)), (13, .v (.int .i64 x.1))], [(0, .arr 4 (enc x.2))])) 1 ?_; rintro m_12 ⟨k_7, a_10⟩ h _ Q50; rw [q41] at h; refine sg fun _ Q51 => ?_; refine sM ?_; refine sB h (fun _ h => ?_) fun _ h => ?_
    .
     refine y9 (q8 Q51 (sg fun _ Q53 => ?_)); refine w9 fun _ Q54 => ?_; refine q0e ?_; refine q3i 16 0 0 [0, 0, 0, 0, 8, 0, 0, 64, 224, 480, 0, 0, 3072, 7168, 16355, 32739, 65535, 131071] [0] [2, 3, 4] [] [15] [] mixed (by kernel_rfl) (of_decide_eq_true (by kernel_rfl)) (by kernel_rfl) (by kernel_rfl) (by rfl) ?_; obtain ⟨xv_87, F, h⟩ := bI F h; obtain ⟨xv_88, F, h⟩ := bI F h; have rf_22 : (enc a_10).set (k_7.toNat) [.v (.int .i64 xv_87.Node), .v (.int .i64 xv_87.Epoch), .v (.int .i64 xv_87.Rec.K), .v (.int .i64 xv_87.Rec.V)] = enc (Xb a_10 (k_7.toNat) xv_87) := by exact qa2 _ _ _
     obtain ⟨xv_89, F, h⟩ := bI F h; have rf_23 : (enc (Xb a_10 (k_7.toNat) xv_87)).set (Xh (i64.wrap (k_7 + 1))) [.v (.int .i64 xv_88.Node), .v (.int .i64 xv_88.Epoch), .v (.int .i64 xv_88.Rec.K), .v (.int .i64 xv_88.Rec.V)] = enc (Xb (Xb a_10 (k_7.toNat) xv_87) (Xh (i64.wrap (k_7 + 1))) xv_88) := by exact qa2 _ _ _
     simp only [go_sem, rf_22, rf_23, F]; refine ai ?_; refine ai ?_; refine ai ?_; refine ai ?_; refine q05 Q54 (q8 Q53 ?_); simp only [go_sem]; refine p8 Q50 ?_; exact nxC _ h [] leA
    . refine q0w (q29 Q51 (q0x Q50 (q0p Q49 (q8 Q47 (q0a (q7o Q43 ?_)))))); simp only [go_sem]; obtain rfl := Xa h; refine q1s [] ?_; exact leA
  . refine y9 (p8 Q43 (⟨(), [], ?_, h⟩)); exact leA
 .
  rintro ⟨⟩ h
  try dsimp only at h
  rw [q2s] at h; refine q5r (fun (_ : Unit) => q2r data_0 a_0 mv_0 b_0 cmp_0 self = some r) [0, 1, 2, 3, 4] (fun _ => ([], [(0, .arr 4 (enc data_0))])) 1 ?_ ?_
  .
   intro _ Q23; refine sM ?_; refine sB h (fun _ h => ?_) fun _ h => ?_
   .
    refine sM ?_; refine sM ?_; refine q5r (fun (i_12 : Int) => q2q data_0 mv_0 i_12 = some r) [0, 2] (fun i_12 => ([(14, .v (.int .i64 i_12))], [(0, .arr 4 (enc data_0))])) 1 ?_ ?_
    .
     intro _ Q35; refine w9 fun _ Q36 => ?_; refine q12 h [0, 2, 4] (fun x => ([(14, .v (.int .i64 x.1)), (15, .v (.int .i64 x.2))], [(0, .arr 4 (enc data_0))])) 1 ?_; rintro m_10 ⟨i_14, j_11⟩ h _ Q37; rw [q42] at h; refine sg fun _ Q38 => ?_; refine sM ?_; refine sB h (fun _ h => ?_) fun _ h => ?_
     .
      refine y9 (q8 Q38 (w9 fun _ Q40 => ?_)); refine sM ?_; refine sg fun _ Q42 => ?_; refine q0e ?_; refine je2 ?_; obtain ⟨xv_73, F, h⟩ := bI F h; obtain ⟨xv_74, F, h⟩ := bI F h; obtain ⟨v_28, ev_28, h⟩ := z8 h; simp only [go_sem, E_cmp_0, F]; refine ai ?_; refine ai ?_; refine q6c (H_cmp_0 xv_73 xv_74 v_28 ev_28) (by rfl) (by simp [go_sem, q08, q0g, F_cmp_0]) ?_; simp only [go_sem]; refine q8 Q42 (sB h (fun _ h => ?_) fun _ h => ?_)
      . simp only [go_sem]; refine q05 Q40 (p8 Q37 ?_); exact nxC _ h [] leA
      . simp only [go_sem]; refine q05 Q40 (p8 Q37 ?_); exact nxC _ h [] leA
     . refine q0w (q29 Q38 (q0x Q37 (q0p Q36 (p8 Q35 (⟨i_14, [], ?_, h⟩))))); exact leA
    .
     rintro i_12 h
     try dsimp only at h
     rw [q2q] at h; refine jg fun _ Q27 => ?_; refine sM ?_; refine w9 fun _ Q29 => ?_; refine q12 h [14] (fun x => ([(0, .osl 0 4 (0) (x.2.length)), (17, .v (.int .i64 x.1))], [(0, .arr 4 (enc x.2))])) 1 ?_; rintro m_9 ⟨k_5, a_8⟩ h _ Q30; rw [q4h] at h; refine sg fun _ Q31 => ?_; refine sM ?_; refine sB h (fun _ h => ?_) fun _ h => ?_
     .
      refine y9 (q8 Q31 (sg fun _ Q33 => ?_)); refine w9 fun _ Q34 => ?_; refine q0e ?_; refine q3i 16 0 0 [0, 0, 0, 0, 8, 0, 0, 64, 224, 480, 0, 0, 3072, 7168, 16355, 32739, 65535, 131071] [0] [2, 3, 4] [] [15] [] mixed (by kernel_rfl) (of_decide_eq_true (by kernel_rfl)) (by kernel_rfl) (by kernel_rfl) (by rfl) ?_; obtain ⟨xv_66, F, h⟩ := bI F h; obtain ⟨xv_67, F, h⟩ := bI F h; have rf_16 : (enc a_8).set (k_5.toNat) [.v (.int .i64 xv_66.Node), .v (.int .i64 xv_66.Epoch), .v (.int .i64 xv_66.Rec.K), .v (.int .i64 xv_66.Rec.V)] = enc (Xb a_8 (k_5.toNat) xv_66) := by exact qa2 _ _ _
      obtain ⟨xv_68, F, h⟩ := bI F h; have rf_17 : (enc (Xb a_8 (k_5.toNat) xv_66)).set (Xh (i64.wrap (k_5 - 1))) [.v (.int .i64 xv_67.Node), .v (.int .i64 xv_67.Epoch), .v (.int .i64 xv_67.Rec.K), .v (.int .i64 xv_67.Rec.V)] = enc (Xb (Xb a_8 (k_5.toNat) xv_66) (Xh (i64.wrap (k_5 - 1))) xv_67) := by exact qa2 _ _ _
      simp only [go_sem, rf_16, rf_17, F]; refine ai ?_; refine ai ?_; refine ai ?_; refine ai ?_; refine q05 Q34 (q8 Q33 ?_); simp only [go_sem]; refine p8 Q30 ?_; exact nxC _ h [] leA
     . refine q0w (q29 Q31 (q0x Q30 (q0p Q29 (q8 Q27 (q0a (q7o Q23 ?_)))))); simp only [go_sem]; obtain rfl := Xa h; refine q1s [] ?_; exact leA
   . refine y9 (p8 Q23 (⟨(), [], ?_, h⟩)); exact leA
  .
   rintro ⟨⟩ h
   try dsimp only at h
   rw [q2r] at h; refine sM ?_; refine sM ?_; refine sM ?_; refine q5r (fun ((start_0, rv_0) : Int × Int) => q1d data_0 a_0 mv_0 b_0 cmp_0 self start_0 rv_0 = some r) [0, 1, 2, 3, 4, 18, 19] (fun x => ([(20, .v (.int .i64 x.1)), (21, .v (.int .i64 x.2))], [(0, .arr 4 (enc data_0))])) 1 ?_ ?_
   .
    intro _ Q19; refine sM ?_; refine sB h (fun _ h => ?_) fun _ h => ?_
    . refine sM ?_; simp only [go_sem]; refine p8 Q19 (⟨(i64.wrap ((i64.wrap ((i64.wrap (q28 .u64 (IntKind.u64.wrap (i64.wrap (a_0 + b_0))) 1)) + mv_0)) - b_0), i64.wrap (q28 .u64 (IntKind.u64.wrap (i64.wrap (a_0 + b_0))) 1)), [], ?_, h⟩); exact leA
    . refine sM ?_; simp only [go_sem]; refine p8 Q19 (⟨(a_0, mv_0), [], ?_, h⟩); exact leA
   .
    rintro ⟨start_0, rv_0⟩ h
    try dsimp only at h
    rw [q1d] at h; refine sM ?_; refine q5r (fun (start_3 : Int) => q1u data_0 a_0 mv_0 b_0 cmp_0 self start_3 = some r) [0, 1, 2, 3, 4, 18, 19] (fun start_3 => ([(20, .v (.int .i64 start_3))], [(0, .arr 4 (enc data_0))])) 1 ?_ ?_
    .
     intro _ Q11; refine w9 fun _ Q12 => ?_; refine q12 h [0, 1, 2, 3, 4, 18, 19, 22] (fun x => ([(20, .v (.int .i64 x.1)), (21, .v (.int .i64 x.2))], [(0, .arr 4 (enc data_0))])) 1 ?_; rintro m_7 ⟨start_5, rv_4⟩ h _ Q13; rw [q4i] at h; refine sg fun _ Q14 => ?_; refine sM ?_; refine sB h (fun _ h => ?_) fun _ h => ?_
     .
      refine y9 (q8 Q14 (w9 fun _ Q16 => ?_)); refine sM ?_; refine sg fun _ Q18 => ?_; refine q0e ?_; refine je2 ?_; obtain ⟨xv_52, F, h⟩ := bI F h; obtain ⟨xv_53, F, h⟩ := bI F h; obtain ⟨v_22, ev_22, h⟩ := z8 h; simp only [go_sem, E_cmp_0, F]; refine ai ?_; refine ai ?_; refine q6c (H_cmp_0 xv_52 xv_53 v_22 ev_22) (by rfl) (by simp [go_sem, q08, q0g, F_cmp_0]) ?_; simp only [go_sem]; refine q8 Q18 (sB h (fun _ h => ?_) fun _ h => ?_)
      . simp only [go_sem]; refine q05 Q16 (p8 Q13 ?_); exact nxC _ h [] leA
      . simp only [go_sem]; refine q05 Q16 (p8 Q13 ?_); exact nxC _ h [] leA
     . refine q0w (q29 Q14 (q0x Q13 (q0p Q12 (p8 Q11 (⟨start_5, [], ?_, h⟩))))); exact leA
    .
     rintro start_3 h
     try dsimp only at h
     rw [q1u] at h; refine sM ?_; refine q5r (fun (a_5 : (List GOut)) => q1c a_0 mv_0 b_0 cmp_0 self start_3 a_5 = some r) [1, 3, 4, 18, 20, 24] (fun a_5 => ([(0, .osl 0 4 (0) (a_5.length))], [(0, .arr 4 (enc a_5))])) 1 ?_ ?_
     .
      intro _ Q9; refine sM ?_; refine sB h (fun _ h => ?_) fun _ h => ?_
      . obtain ⟨v_19, ev_19, h⟩ := z8 h; simp only [go_sem]; refine q6b [0] (ql0 data_0 start_3 mv_0 (i64.wrap ((i64.wrap ((i64.wrap (q28 .u64 (IntKind.u64.wrap (i64.wrap (a_0 + b_0))) 1)) + mv_0)) - start_3)) cmp_0 g_cmp_0 c_cmp_0 F_cmp_0 E_cmp_0 H_cmp_0 v_19 ev_19) (by simp) (by simp only [q4t, q1w, q4c F_cmp_0] <;> rfl) ⟨rfl, trivial⟩ (by simp only [ltL, ltA, q5f F_cmp_0] <;> rfl) rfl rfl rfl ?_; obtain ⟨F, h⟩ := bG F h; simp only [go_sem, F]; refine p8 Q9 (⟨v_19, [], ?_, h⟩); exact leA
      . refine y9 (p8 Q9 (⟨data_0, [], ?_, h⟩)); exact leA
     .
      rintro a_5 h
      try dsimp only at h
      rw [q1c] at h; refine q5r (fun (a_6 : (List GOut)) => q1b a_0 mv_0 b_0 cmp_0 self start_3 a_6 = some r) [3, 4, 18, 24] (fun a_6 => ([(0, .osl 0 4 (0) (a_6.length))], [(0, .arr 4 (enc a_6))])) 1 ?_ ?_
      .
       intro _ Q7; refine sM ?_; refine sB h (fun _ h => ?_) fun _ h => ?_
       . obtain ⟨v_18, ev_18, h⟩ := z8 h; simp only [go_sem]; refine q6b [0] (Hself a_5 a_0 start_3 (i64.wrap (q28 .u64 (IntKind.u64.wrap (i64.wrap (a_0 + b_0))) 1)) cmp_0 g_cmp_0 c_cmp_0 F_cmp_0 E_cmp_0 H_cmp_0 v_18 ev_18) (by simp) (by simp only [q4t, q1w, q4c F_cmp_0] <;> rfl) ⟨rfl, trivial⟩ (by simp only [ltL, ltA, q5f F_cmp_0] <;> rfl) rfl rfl rfl ?_; obtain ⟨F, h⟩ := bG F h; simp only [go_sem, F]; refine p8 Q7 (⟨v_18, [], ?_, h⟩); exact leA
       . refine y9 (p8 Q7 (⟨a_5, [], ?_, h⟩)); exact leA
      .
       rintro a_6 h
       try dsimp only at h
       rw [q1b] at h; refine sM ?_; refine sB h (fun _ h => ?_) fun _ h => ?_
       . obtain ⟨v_17, ev_17, h⟩ := z8 h; simp only [go_sem]; refine q6b [0] (Hself a_6 (i64.wrap (q28 .u64 (IntKind.u64.wrap (i64.wrap (a_0 + b_0))) 1)) (i64.wrap ((i64.wrap ((i64.wrap (q28 .u64 (IntKind.u64.wrap (i64.wrap (a_0 + b_0))) 1)) + mv_0)) - start_3)) b_0 cmp_0 g_cmp_0 c_cmp_0 F_cmp_0 E_cmp_0 H_cmp_0 v_17 ev_17) (by simp) (by simp only [q4t, q1w, q4c F_cmp_0] <;> rfl) ⟨rfl, trivial⟩ (by simp only [ltL, ltA, q5f F_cmp_0] <;> rfl) rfl rfl rfl ?_; obtain ⟨F, h⟩ := bG F h; simp only [go_sem, F]; obtain rfl := Xa h; refine q1s [] ?_; exact leA
       . refine y9 ?_; simp only [go_sem]; obtain rfl := Xa h; refine q1s [] ?_; exact leA
theorem q69 : ∀ (n : Nat) (data_0 : List GOut) (a_0 : Int) (mv_0 : Int) (b_0 : Int) (cmp_0 : GOut -> GOut -> Option Int) (g_cmp_0 : FuncId) (c_cmp_0 : List AV) (F_cmp_0 : q08 c_cmp_0 = true) (E_cmp_0 : d9 pp g_cmp_0 = true) (H_cmp_0 : ∀ (x0 : GOut) (x1 : GOut) (r : Int), cmp_0 x0 x1 = some r -> PureS pp g_cmp_0 ([.agg (Row.row x0), .agg (Row.row x1)] ++ c_cmp_0) 0 (.v (.int .i64 r))) (r : List GOut), q0b n data_0 a_0 mv_0 b_0 cmp_0 = some r -> DetS pp 78 [.osl 0 4 (0) (data_0.length), .v (.int .i64 a_0), .v (.int .i64 mv_0), .v (.int .i64 b_0), .clo g_cmp_0 c_cmp_0] [(0, .arr 4 (enc data_0))] 1 (.tup []) [(0, .arr 4 (enc r))] 1
  | 0, data_0, a_0, mv_0, b_0, cmp_0, g_cmp_0, c_cmp_0, F_cmp_0, E_cmp_0, H_cmp_0, r, h => by simp [q0b] at h
  | n + 1, data_0, a_0, mv_0, b_0, cmp_0, g_cmp_0, c_cmp_0, F_cmp_0, E_cmp_0, H_cmp_0, r, h => qe7 (q0b n) (q69 n) data_0 a_0 mv_0 b_0 cmp_0 g_cmp_0 c_cmp_0 F_cmp_0 E_cmp_0 H_cmp_0 r h
theorem q6p (data_0 : List GOut) (a_0 : Int) (mv_0 : Int) (b_0 : Int) (cmp_0 : GOut -> GOut -> Option Int) (g_cmp_0 : FuncId) (c_cmp_0 : List AV) (F_cmp_0 : q08 c_cmp_0 = true) (E_cmp_0 : d9 pp g_cmp_0 = true) (H_cmp_0 : ∀ (x0 : GOut) (x1 : GOut) (r : Int), cmp_0 x0 x1 = some r -> PureS pp g_cmp_0 ([.agg (Row.row x0), .agg (Row.row x1)] ++ c_cmp_0) 0 (.v (.int .i64 r))) (r : List GOut) (h : q3b data_0 a_0 mv_0 b_0 cmp_0 = some r) : DetS pp 78 [.osl 0 4 (0) (data_0.length), .v (.int .i64 a_0), .v (.int .i64 mv_0), .v (.int .i64 b_0), .clo g_cmp_0 c_cmp_0] [(0, .arr 4 (enc data_0))] 1 (.tup []) [(0, .arr 4 (enc r))] 1 := q69 rounds data_0 a_0 mv_0 b_0 cmp_0 g_cmp_0 c_cmp_0 F_cmp_0 E_cmp_0 H_cmp_0 r h
def q30 (nv_0 : Int) (cmp_0 : GOut -> GOut -> Option Int) (blockSize_1 : Int) (rec_2 : (Int × (List GOut) -> Option (List GOut))) (a_32 : Int) (a_33 : List GOut) : Option (List GOut) :=
 (if (decide ((i64.wrap (a_32 + blockSize_1)) < nv_0)) = true then q9 (q3b a_33 a_32 (i64.wrap (a_32 + blockSize_1)) nv_0 cmp_0) (fun v_21 =>
 q02 (v_21.length = a_33.length) (
 rec_2 (i64.wrap (blockSize_1 * 2), v_21)))
 else rec_2 (i64.wrap (blockSize_1 * 2), a_33))
def q4v (nv_0 : Int) (cmp_0 : GOut -> GOut -> Option Int) (blockSize_1 : Int) (rec_2 : (Int × (List GOut) -> Option (List GOut))) (rec_4 : Int × Int × (List GOut) -> Option (List GOut)) : Int × Int × (List GOut) -> Option (List GOut) :=
 fun (a_36, b_13, a_37) =>
 (if (decide (b_13 <= nv_0)) = true then q9 (q3b a_37 a_36 (i64.wrap (a_36 + blockSize_1)) b_13 cmp_0) (fun v_24 =>
 q02 (v_24.length = a_37.length) (
 rec_4 (b_13, i64.wrap (b_13 + (i64.wrap (2 * blockSize_1))), v_24)))
 else q30 nv_0 cmp_0 blockSize_1 rec_2 a_36 a_37)
def q33 (nv_0 : Int) (cmp_0 : GOut -> GOut -> Option Int) (rec_2 : Int × (List GOut) -> Option (List GOut)) : Int × (List GOut) -> Option (List GOut) :=
 fun (blockSize_1, a_27) =>
 (if (decide (blockSize_1 < nv_0)) = true then q04 (q4v nv_0 cmp_0 blockSize_1 rec_2) rounds (0, i64.wrap (2 * blockSize_1), a_27)
 else some a_27)
def q31 (nv_0 : Int) (cmp_0 : GOut -> GOut -> Option Int) (a_4 : Int) (a_5 : List GOut) : Option (List GOut) :=
 q9 (q0q a_5 a_4 nv_0 cmp_0) (fun v_3 =>
 q02 (v_3.length = a_5.length) (
 q04 (q33 nv_0 cmp_0) rounds (20, v_3)))
def q4u (nv_0 : Int) (cmp_0 : GOut -> GOut -> Option Int) (rec_5 : Int × Int × (List GOut) -> Option (List GOut)) : Int × Int × (List GOut) -> Option (List GOut) :=
 fun (a_40, b_15, a_41) =>
 (if (decide (b_15 <= nv_0)) = true then q9 (q0q a_41 a_40 b_15 cmp_0) (fun v_27 =>
 q02 (v_27.length = a_41.length) (
 rec_5 (b_15, i64.wrap (b_15 + 20), v_27)))
 else q31 nv_0 cmp_0 a_40 a_41)
def q3t (data_0 : List GOut) (nv_0 : Int) (cmp_0 : GOut -> GOut -> Option Int) : Option (List GOut) :=
 q04 (q4u nv_0 cmp_0) rounds (0, 20, data_0)
theorem qk9 (data_0 : List GOut) (nv_0 : Int) (cmp_0 : GOut -> GOut -> Option Int) (g_cmp_0 : FuncId) (c_cmp_0 : List AV) (F_cmp_0 : q08 c_cmp_0 = true) (E_cmp_0 : d9 pp g_cmp_0 = true) (H_cmp_0 : ∀ (x0 : GOut) (x1 : GOut) (r : Int), cmp_0 x0 x1 = some r -> PureS pp g_cmp_0 ([.agg (Row.row x0), .agg (Row.row x1)] ++ c_cmp_0) 0 (.v (.int .i64 r))) (r : List GOut) (h : q3t data_0 nv_0 cmp_0 = some r) : DetS pp 43 [.osl 0 4 (0) (data_0.length), .v (.int .i64 nv_0), .clo g_cmp_0 c_cmp_0] [(0, .arr 4 (enc data_0))] 1 (.tup []) [(0, .arr 4 (enc r))] 1 := by
 refine dtI Tryz.func43 rfl ?_; rw [q3t] at h; have F := trivial; refine sM ?_; refine sM ?_; refine q5r (fun ((a_4, a_5) : Int × (List GOut)) => q31 nv_0 cmp_0 a_4 a_5 = some r) [1, 2, 6] (fun x => ([(0, .osl 0 4 (0) (x.2.length)), (7, .v (.int .i64 x.1))], [(0, .arr 4 (enc x.2))])) 1 ?_ ?_
 .
  intro _ Q21; refine w9 fun _ Q22 => ?_; refine q12 h [1, 2, 6] (fun x => ([(0, .osl 0 4 (0) (x.2.2.length)), (7, .v (.int .i64 x.1)), (8, .v (.int .i64 x.2.1))], [(0, .arr 4 (enc x.2.2))])) 1 ?_; rintro m_5 ⟨a_40, b_15, a_41⟩ h _ Q23; rw [q4u] at h; refine sg fun _ Q24 => ?_; refine sM ?_; refine sB h (fun _ h => ?_) fun _ h => ?_
  . refine y9 (q8 Q24 (w9 fun _ Q26 => ?_)); refine sg fun _ Q27 => ?_; obtain ⟨v_27, ev_27, h⟩ := z8 h; simp only [go_sem]; refine q6b [0] (q5l a_41 a_40 b_15 cmp_0 g_cmp_0 c_cmp_0 F_cmp_0 E_cmp_0 H_cmp_0 v_27 ev_27) (by simp) (by simp only [q4t, q1w, q4c F_cmp_0] <;> rfl) ⟨rfl, trivial⟩ (by simp only [ltL, ltA, q5f F_cmp_0] <;> rfl) rfl rfl rfl ?_; obtain ⟨F, h⟩ := bG F h; simp only [go_sem, F]; refine q8 Q27 (sM ?_); simp only [go_sem]; refine q05 Q26 (p8 Q23 ?_); exact nxC _ h [] leA
  . refine q0w (q29 Q24 (q0x Q23 (q0p Q22 (p8 Q21 (⟨(a_40, a_41), [], ?_, h⟩))))); exact leA
 .
  rintro ⟨a_4, a_5⟩ h
  try dsimp only at h
  rw [q31] at h; refine sg fun _ Q3 => ?_; obtain ⟨v_3, ev_3, h⟩ := z8 h; simp only [go_sem]; refine q6b [0] (q5l a_5 a_4 nv_0 cmp_0 g_cmp_0 c_cmp_0 F_cmp_0 E_cmp_0 H_cmp_0 v_3 ev_3) (by simp) (by simp only [q4t, q1w, q4c F_cmp_0] <;> rfl) ⟨rfl, trivial⟩ (by simp only [ltL, ltA, q5f F_cmp_0] <;> rfl) rfl rfl rfl ?_; obtain ⟨F, h⟩ := bG F h; simp only [go_sem, F]; refine q8 Q3 (w9 fun _ Q4 => ?_); refine q12 h [1, 2] (fun x => ([(0, .osl 0 4 (0) (x.2.length)), (6, .v (.int .i64 x.1))], [(0, .arr 4 (enc x.2))])) 1 ?_; rintro m_2 ⟨blockSize_1, a_27⟩ h _ Q5; rw [q33] at h; refine sg fun _ Q6 => ?_; refine sM ?_; refine sB h (fun _ h => ?_) fun _ h => ?_
  .
   refine y9 (q8 Q6 (w9 fun _ Q8 => ?_)); refine sM ?_; refine q5r (fun ((a_32, a_33) : Int × (List GOut)) => q30 nv_0 cmp_0 blockSize_1 (q04 (q33 nv_0 cmp_0) m_2) a_32 a_33 = some r) [1, 2, 6] (fun x => ([(0, .osl 0 4 (0) (x.2.length)), (7, .v (.int .i64 x.1))], [(0, .arr 4 (enc x.2))])) 1 ?_ ?_
   .
    intro _ Q13; refine w9 fun _ Q14 => ?_; refine q12 h [1, 2, 6] (fun x => ([(0, .osl 0 4 (0) (x.2.2.length)), (7, .v (.int .i64 x.1)), (8, .v (.int .i64 x.2.1))], [(0, .arr 4 (enc x.2.2))])) 1 ?_; rintro m_4 ⟨a_36, b_13, a_37⟩ h _ Q15; rw [q4v] at h; refine sg fun _ Q16 => ?_; refine sM ?_; refine sB h (fun _ h => ?_) fun _ h => ?_
    . refine y9 (q8 Q16 (w9 fun _ Q18 => ?_)); refine sg fun _ Q19 => ?_; obtain ⟨v_24, ev_24, h⟩ := z8 h; simp only [go_sem]; refine q6b [0] (q6p a_37 a_36 (i64.wrap (a_36 + blockSize_1)) b_13 cmp_0 g_cmp_0 c_cmp_0 F_cmp_0 E_cmp_0 H_cmp_0 v_24 ev_24) (by simp) (by simp only [q4t, q1w, q4c F_cmp_0] <;> rfl) ⟨rfl, trivial⟩ (by simp only [ltL, ltA, q5f F_cmp_0] <;> rfl) rfl rfl rfl ?_; obtain ⟨F, h⟩ := bG F h; simp only [go_sem, F]; refine q8 Q19 (sM ?_); simp only [go_sem]; refine q05 Q18 (p8 Q15 ?_); exact nxC _ h [] leA
    . refine q0w (q29 Q16 (q0x Q15 (q0p Q14 (p8 Q13 (⟨(a_36, a_37), [], ?_, h⟩))))); exact leA
   .
    rintro ⟨a_32, a_33⟩ h
    try dsimp only at h
    rw [q30] at h; refine jg fun _ Q10 => ?_; refine sM ?_; refine sM ?_; refine sB h (fun _ h => ?_) fun _ h => ?_
    . obtain ⟨v_21, ev_21, h⟩ := z8 h; simp only [go_sem]; refine q6b [0] (q6p a_33 a_32 (i64.wrap (a_32 + blockSize_1)) nv_0 cmp_0 g_cmp_0 c_cmp_0 F_cmp_0 E_cmp_0 H_cmp_0 v_21 ev_21) (by simp) (by simp only [q4t, q1w, q4c F_cmp_0] <;> rfl) ⟨rfl, trivial⟩ (by simp only [ltL, ltA, q5f F_cmp_0] <;> rfl) rfl rfl rfl ?_; obtain ⟨F, h⟩ := bG F h; simp only [go_sem, F]; refine q8 Q10 ?_; simp only [go_sem]; refine q05 Q8 (p8 Q5 ?_); exact nxC _ h [] leA
    . refine y9 (q8 Q10 ?_); simp only [go_sem]; refine q05 Q8 (p8 Q5 ?_); exact nxC _ h [] leA
  . refine q0w (q29 Q6 (q0x Q5 (q0p Q4 ?_))); simp only [go_sem]; obtain rfl := Xa h; refine q1s [] ?_; exact leA
def q0v (xv_0 : List GOut) (cmp_0 : GOut -> GOut -> Option Int) : Option (List GOut) :=
 q9 (q3t xv_0 (xv_0.length : Int) cmp_0) (fun v_0 =>
 q02 (v_0.length = xv_0.length) (
 some v_0))
theorem qj3 (xv_0 : List GOut) (cmp_0 : GOut -> GOut -> Option Int) (g_cmp_0 : FuncId) (c_cmp_0 : List AV) (F_cmp_0 : q08 c_cmp_0 = true) (E_cmp_0 : d9 pp g_cmp_0 = true) (H_cmp_0 : ∀ (x0 : GOut) (x1 : GOut) (r : Int), cmp_0 x0 x1 = some r -> PureS pp g_cmp_0 ([.agg (Row.row x0), .agg (Row.row x1)] ++ c_cmp_0) 0 (.v (.int .i64 r))) (r : List GOut) (h : q0v xv_0 cmp_0 = some r) : DetS pp 20 [.osl 0 4 (0) (xv_0.length), .clo g_cmp_0 c_cmp_0] [(0, .arr 4 (enc xv_0))] 1 (.tup []) [(0, .arr 4 (enc r))] 1 := by
 refine dtI Tryz.func20 rfl ?_; rw [q0v] at h; have F := trivial; obtain ⟨v_0, ev_0, h⟩ := z8 h; simp only [go_sem]; refine q6b [0] (qk9 xv_0 (xv_0.length : Int) cmp_0 g_cmp_0 c_cmp_0 F_cmp_0 E_cmp_0 H_cmp_0 v_0 ev_0) (by simp) (by simp only [q4t, q1w, q4c F_cmp_0] <;> rfl) ⟨rfl, trivial⟩ (by simp only [ltL, ltA, q5f F_cmp_0] <;> rfl) rfl rfl rfl ?_; obtain ⟨F, h⟩ := bG F h; simp only [go_sem, F]; obtain rfl := Xa h; refine q1s [] ?_; exact leA
def qf0 (s_0 : List GFeed) (f_0 : GFeed -> Option Bool) (rec_1 : Int -> Option Int) : Int -> Option Int :=
 fun t8_1 =>
 (if (decide (t8_1 < (s_0.length : Int))) = true then q9 (idx s_0 t8_1) (fun xv_2 =>
 q9 (f_0 xv_2) (fun v_2 =>
 (if v_2 = true then some t8_1
 else rec_1 (i64.wrap (t8_1 + 1)))))
 else some (-1))
def q8l (s_0 : List GFeed) (f_0 : GFeed -> Option Bool) : Option Int :=
 q04 (qf0 s_0 f_0) rounds 0
theorem qx3 (s_0 : List GFeed) (f_0 : GFeed -> Option Bool) (g_f_0 : FuncId) (c_f_0 : List AV) (F_f_0 : q08 c_f_0 = true) (E_f_0 : d9 pp g_f_0 = true) (H_f_0 : ∀ (x0 : GFeed) (r : Bool), f_0 x0 = some r -> PureS pp g_f_0 ([.agg (Row.row x0)] ++ c_f_0) 0 (.v (.bool r))) (r : Int) (h : q8l s_0 f_0 = some r) : PureS pp 51 [.sl 4 (enc s_0), .clo g_f_0 c_f_0] 0 (.v (.int .i64 r)) := by
 refine ptI Tryz.func51 rfl ?_; rw [q8l] at h; have F := trivial; refine sM ?_; refine jg fun _ Q2 => ?_; refine sM ?_; refine w9 fun _ Q4 => ?_; refine q12 h [0, 1, 7] (fun t8_1 => ([(8, .v (.int .i64 t8_1))], [])) 0 ?_; rintro m_1 t8_1 h _ Q5; rw [qf0] at h; refine sM ?_; refine sg fun _ Q7 => ?_; refine sB h (fun _ h => ?_) fun _ h => ?_
 .
  refine y9 (q8 Q7 (sg fun _ Q8 => ?_)); refine w9 fun _ Q9 => ?_; refine sM ?_; refine sg fun _ Q11 => ?_; obtain ⟨xv_2, F, h⟩ := bI F h; obtain ⟨v_2, ev_2, h⟩ := z8 h; simp only [go_sem, E_f_0, F]; refine ai ?_; refine q6c (H_f_0 xv_2 v_2 ev_2) (by rfl) (by simp [go_sem, q08, q0g, F_f_0]) ?_; simp only [go_sem]; refine q8 Q11 (sB h (fun _ h => ?_) fun _ h => ?_)
  . refine sM ?_; refine q0a (q4o Q9 (q3l Q8 (q7o Q5 (q4o Q4 (q3l Q2 ?_))))); simp only [go_sem]; obtain rfl := Xa h; refine q2x rfl ?_; exact leA
  . refine y9 (q05 Q9 (q8 Q8 ?_)); simp only [go_sem]; refine p8 Q5 ?_; exact nxC _ h [] leA
 . refine q0w (q29 Q7 (q0x Q5 (q0p Q4 (q8 Q2 (sM ?_))))); refine q0a ?_; simp only [go_sem]; obtain rfl := Xa h; refine q2x rfl ?_; exact leA
def q2l (s_0 : List GFeed) (f_0 : GFeed -> Option Bool) : Option Bool :=
 q9 (q8l s_0 f_0) (fun v_0 =>
 some (decide (0 <= v_0)))
theorem q9s (s_0 : List GFeed) (f_0 : GFeed -> Option Bool) (g_f_0 : FuncId) (c_f_0 : List AV) (F_f_0 : q08 c_f_0 = true) (E_f_0 : d9 pp g_f_0 = true) (H_f_0 : ∀ (x0 : GFeed) (r : Bool), f_0 x0 = some r -> PureS pp g_f_0 ([.agg (Row.row x0)] ++ c_f_0) 0 (.v (.bool r))) (r : Bool) (h : q2l s_0 f_0 = some r) : PureS pp 30 [.sl 4 (enc s_0), .clo g_f_0 c_f_0] 0 (.v (.bool r)) := by
 refine ptI Tryz.func30 rfl ?_; rw [q2l] at h; have F := trivial; refine sM ?_; refine sg fun _ Q2 => ?_; obtain ⟨v_0, ev_0, h⟩ := z8 h; simp only [go_sem]; refine q6c (qx3 s_0 f_0 g_f_0 c_f_0 F_f_0 E_f_0 H_f_0 v_0 ev_0) (by rfl) (by simp [go_sem, q08, q0g, F_f_0]) ?_; simp only [go_sem]; refine q8 Q2 (q0a ?_); simp only [go_sem]; obtain rfl := Xa h; refine q2x rfl ?_; exact leA
def qa1 (f_0 : GFeed) (cap_0 : GGraph) : Option Bool :=
 (if ((decide (f_0.Node < 0)) || (decide ((cap_0.Nodes.length : Int) <= f_0.Node))) = true then some true
 else q9 (idx cap_0.Nodes f_0.Node) (fun xv_0 =>
 some (((!(xv_0.Kind == 1)) || (decide (f_0.Epoch < 0))) || (decide (1048576 < f_0.Epoch)))))
instance z5z (f_0 : GFeed) (cap_0 : GGraph) : Ct pp 35 (qa1 f_0 cap_0) [.agg (Row.row f_0), .el 4 [(Row.row cap_0)] 0 0] fun r => (.v (.bool r)) := ctI Tryz.func35 rfl (by rw [qa1]; exact au1)
def qj7 (g_0 : GGraph) (feeds_0 : List GFeed) (most_0 : Int) : Option Bool :=
 q9 (qe6 g_0) (fun v_0 =>
 (if (((!(v_0.1 == 0)) || (decide (most_0 < 0))) || (decide (1048576 < most_0))) = true then some false
 else q9 (q2l feeds_0 (fun x0_ => qa1 x0_ g_0)) (fun v_1 =>
 some (!v_1))))
instance z8w (g_0 : GGraph) (feeds_0 : List GFeed) (most_0 : Int) : Ct pp 15 (qj7 g_0 feeds_0 most_0) [.agg (Row.row g_0), .sl 4 (enc feeds_0), .v (.int .i64 most_0)] fun r => (.v (.bool r)) := ctK Tryz.func15 rfl (by rw [qj7]) (by
 intro r h F; refine sM ?_; refine sg fun _ Q2 => ?_; refine sg fun _ Q3 => ?_; simp only [go_sem]; refine q53 h fun v_0 h => ?_; simp only [go_sem]; refine q8 Q3 (sM ?_); refine sB h (fun _ h => ?_) fun _ h => ?_
 . exact au
 . refine y9 (q8 Q2 (sg fun _ Q6 => ?_)); obtain ⟨v_1, ev_1, h⟩ := z8 h; simp only [go_sem]; refine qs7 (q9s feeds_0 (fun x0_ => qa1 x0_ g_0) 35 [.el 4 [(Row.row g_0)] 0 0] (by rfl) (by kernel_rfl) (fun y0 r_ e_ => z5z y0 g_0 r_ e_) v_1 ev_1) ?_; simp only [go_sem]; exact au)
def j2l : Go.Shelf.Ren := ⟨fun | 189 => 17 | 125 => 38 | 257 => 37 | 128 => 67 | 129 => 68 | 294 => 58 | 295 => 59 | 296 => 60 | 297 => 61 | 298 => 62 | 299 => 63 | 216 => 64 | 300 => 65 | 301 => 66 | 328 => 103 | 329 => 104 | 330 => 105 | 331 => 106 | 332 => 107 | 215 => 44 | 343 => 132 | n => n, fun | 28 => 22 | 3 => 3 | 46 => 87 | 0 => 0 | 51 => 112 | 53 => 114 | 4 => 4 | 183 => 105 | 182 => 104 | 131 => 109 | 5 => 5 | 9 => 9 | 218 => 150 | 222 => 154 | 228 => 178 | 229 => 179 | n => n, fun | n => n⟩
theorem j6a : Go.Proofs.Lays.n189 pp j2l := {
  mixed := by kernel_rfl
  f125 := Tryz.func38.trans (congrArg some (by kernel_rfl))
  f128 := Tryz.func67.trans (congrArg some (by kernel_rfl))
  f129 := Tryz.func68.trans (congrArg some (by kernel_rfl))
  f189 := Tryz.func17.trans (congrArg some (by kernel_rfl))
  f215 := Tryz.func44.trans (congrArg some (by kernel_rfl))
  f216 := Tryz.func64.trans (congrArg some (by kernel_rfl))
  f257 := Tryz.func37.trans (congrArg some (by kernel_rfl))
  f294 := Tryz.func58.trans (congrArg some (by kernel_rfl))
  f295 := Tryz.func59.trans (congrArg some (by kernel_rfl))
  f296 := Tryz.func60.trans (congrArg some (by kernel_rfl))
  f297 := Tryz.func61.trans (congrArg some (by kernel_rfl))
  f298 := Tryz.func62.trans (congrArg some (by kernel_rfl))
  f299 := Tryz.func63.trans (congrArg some (by kernel_rfl))
  f300 := Tryz.func65.trans (congrArg some (by kernel_rfl))
  f301 := Tryz.func66.trans (congrArg some (by kernel_rfl))
  f328 := Tryz.func103.trans (congrArg some (by kernel_rfl))
  f329 := Tryz.func104.trans (congrArg some (by kernel_rfl))
  f330 := Tryz.func105.trans (congrArg some (by kernel_rfl))
  f331 := Tryz.func106.trans (congrArg some (by kernel_rfl))
  f332 := Tryz.func107.trans (congrArg some (by kernel_rfl))
  f343 := Tryz.func132.trans (congrArg some (by kernel_rfl))
  t0 := Tryz.underlying0
  a0 := Tryz.isAgg0
  z0 := Tryz.sizeOf0
  v0 := Tryz.zeroValue0
  t3 := Tryz.underlying3
  a3 := Tryz.isAgg3
  z3 := Tryz.sizeOf3
  v3 := Tryz.zeroValue3
  t4 := Tryz.underlying4
  a4 := Tryz.isAgg4
  z4 := Tryz.sizeOf4
  v4 := Tryz.zeroValue4
  t5 := Tryz.underlying5
  a5 := Tryz.isAgg5
  z5 := Tryz.sizeOf5
  v5 := Tryz.zeroValue5
  t9 := Tryz.underlying9
  a9 := Tryz.isAgg9
  z9 := Tryz.sizeOf9
  v9 := Tryz.zeroValue9
  t28 := Tryz.underlying22
  a28 := Tryz.isAgg22
  z28 := Tryz.sizeOf22
  v28 := Tryz.zeroValue22
  t46 := Tryz.underlying87
  a46 := Tryz.isAgg87
  z46 := Tryz.sizeOf87
  v46 := Tryz.zeroValue87
  t51 := Tryz.underlying112
  a51 := Tryz.isAgg112
  z51 := Tryz.sizeOf112
  v51 := Tryz.zeroValue112
  t53 := Tryz.underlying114
  a53 := Tryz.isAgg114
  z53 := Tryz.sizeOf114
  v53 := Tryz.zeroValue114
  t131 := Tryz.underlying109
  a131 := Tryz.isAgg109
  z131 := Tryz.sizeOf109
  v131 := Tryz.zeroValue109
  t182 := Tryz.underlying104
  a182 := Tryz.isAgg104
  z182 := Tryz.sizeOf104
  v182 := Tryz.zeroValue104
  t183 := Tryz.underlying105
  a183 := Tryz.isAgg105
  z183 := Tryz.sizeOf105
  v183 := Tryz.zeroValue105
  t218 := Tryz.underlying150
  a218 := Tryz.isAgg150
  z218 := Tryz.sizeOf150
  v218 := Tryz.zeroValue150
  t222 := Tryz.underlying154
  a222 := Tryz.isAgg154
  z222 := Tryz.sizeOf154
  v222 := Tryz.zeroValue154
  t228 := Tryz.underlying178
  a228 := Tryz.isAgg178
  z228 := Tryz.sizeOf178
  v228 := Tryz.zeroValue178
  t229 := Tryz.underlying179
  a229 := Tryz.isAgg179
  z229 := Tryz.sizeOf179
  v229 := Tryz.zeroValue179 }
def q9g (x_0 : List Int) : Option (List Int) := zy3 x_0
theorem qx1 (x_0 : List Int) (r : List Int) (h : q9g x_0 = some r) : DetS pp 17 [.osl 0 1 0 (x_0.length)] [(0, .arr 1 (enc x_0))] 1 (.tup []) [(0, .arr 1 (enc r))] 1 :=
  zi8 j6a (by kernel_rfl) (fun w => Any.slices_Sort_int_none j6a none 0 w) h
def j2k : Go.Shelf.Ren := ⟨fun | 20 => 18 | n => n, fun | 22 => 22 | 3 => 3 | 4 => 4 | 0 => 0 | n => n, fun | n => n⟩
theorem jd4 : Go.Proofs.Lays2.n20 pp j2k := {
  mixed := by kernel_rfl
  f20 := Tryz.func18.trans (congrArg some (by kernel_rfl))
  t0 := Tryz.underlying0
  a0 := Tryz.isAgg0
  z0 := Tryz.sizeOf0
  v0 := Tryz.zeroValue0
  t3 := Tryz.underlying3
  a3 := Tryz.isAgg3
  z3 := Tryz.sizeOf3
  v3 := Tryz.zeroValue3
  t4 := Tryz.underlying4
  a4 := Tryz.isAgg4
  z4 := Tryz.sizeOf4
  v4 := Tryz.zeroValue4
  t22 := Tryz.underlying22
  a22 := Tryz.isAgg22
  z22 := Tryz.sizeOf22
  v22 := Tryz.zeroValue22
  i3 := by kernel_rfl }
def q7l (x_0 : List Int) : Option (List Int) := z7h x_0
theorem qt3 (x_0 : List Int) (r : List Int) (h : q7l x_0 = some r) : DetS pp 18 [.osl 0 1 0 (x_0.length)] [(0, .arr 1 (enc x_0))] 1 (.osl 0 1 0 (r.length)) [(0, .arr 1 (enc r))] 1 :=
  z94 jd4 (by kernel_rfl) h
def q7a (xv_0 : Int) : Option Bool :=
 some (!(xv_0 == xv_0))
instance j2x (xv_0 : Int) : Ct pp 44 (q7a xv_0) [.v (.int .i64 xv_0)] fun r => (.v (.bool r)) := ctI Tryz.func44 rfl (by rw [q7a]; exact au1)
def q35 (xv_0 : Int) (y_0 : Int) : Option Int :=
 q9 (q7a xv_0) (fun v_0 =>
 q9 (q7a y_0) (fun v_1 =>
 (if v_0 = true then (if v_1 = true then some 0
 else some (-1))
 else (if v_1 = true then some 1
 else (if (decide (xv_0 < y_0)) = true then some (-1)
 else (if (decide (y_0 < xv_0)) = true then some 1
 else some 0))))))
instance z3f (xv_0 : Int) (y_0 : Int) : Ct pp 22 (q35 xv_0 y_0) [.v (.int .i64 xv_0), .v (.int .i64 y_0)] fun r => (.v (.int .i64 r)) := ctI Tryz.func22 rfl (by rw [q35]; exact au1)
def q5c (a_0 : GOut) (b_0 : GOut) : Option Int :=
 q9 (q35 a_0.Node b_0.Node) (fun v_0 =>
 some v_0)
instance z8x (a_0 : GOut) (b_0 : GOut) : Ct pp 21 (q5c a_0 b_0) [.agg (Row.row a_0), .agg (Row.row b_0)] fun r => (.v (.int .i64 r)) := ctI Tryz.func21 rfl (by rw [q5c]; exact au1)
def qf2 (b_5 : GMean_runner) : Option ((List GOut) × Int) :=
 (if (!(b_5.e == 0)) = true then some (([] : List GOut), b_5.e)
 else q9 (q0v b_5.outs (fun x0_ x1_ => q5c x0_ x1_)) (fun v_9 =>
 q02 (v_9.length = b_5.outs.length) (
 some (v_9, 0))))
def qf4 (g_0 : GGraph) (v_10 : List Int) (rec_3 : Int × GMean_runner -> Option ((List GOut) × Int)) : Int × GMean_runner -> Option ((List GOut) × Int) :=
 fun (t55_3, b_7) =>
 (if (decide (t55_3 < (v_10.length : Int))) = true then q9 (idx v_10 t55_3) (fun xv_8 =>
 q9 (qa6 b_7 0 (g_0.Nodes.length : Int) 0 (⟨1, (⟨xv_8, 0, 0, 0⟩ : Arr4 Int)⟩ : GTime)) (fun v_13 =>
 rec_3 (i64.wrap (t55_3 + 1), v_13.2)))
 else qf2 b_7)
def qn4 (g_0 : GGraph) (b_2 : GMean_runner) (a_2 : List Int) : Option ((List GOut) × Int) :=
 q9 (q9g a_2) (fun v_4 =>
 q02 (v_4.length = a_2.length) (
 q9 (q7l v_4) (fun v_10 =>
 q04 (qf4 g_0 v_10) rounds (0, b_2))))
def qf3 (g_0 : GGraph) (feeds_0 : List GFeed) (rec_4 : Int × GMean_runner × (List Int) -> Option ((List GOut) × Int)) : Int × GMean_runner × (List Int) -> Option ((List GOut) × Int) :=
 fun (t28_3, b_9, a_4) =>
 (if (decide (t28_3 < (feeds_0.length : Int))) = true then q9 (idx feeds_0 t28_3) (fun xv_11 =>
 q02 ((a_4.length + Xq ([xv_11.Epoch] : List Int)) * 8 <= 140737488355328) (
 q9 (q2m b_9 xv_11.Node 0 (⟨1, (⟨xv_11.Epoch, 0, 0, 0⟩ : Arr4 Int)⟩ : GTime) ([(⟨xv_11.Rec, 1⟩ : GItem)] : List GItem)) (fun v_16 =>
 rec_4 (i64.wrap (t28_3 + 1), v_16, (a_4 ++ ([xv_11.Epoch] : List Int))))))
 else qn4 g_0 b_9 a_4)
def ql1 (g_0 : GGraph) (feeds_0 : List GFeed) (most_0 : Int) : Option ((List GOut) × Int) :=
 q9 (qj7 g_0 feeds_0 most_0) (fun v_0 =>
 (if (!v_0) = true then some (([] : List GOut), 1)
 else q04 (qf3 g_0 feeds_0) rounds (0, (⟨g_0, (Xe ([] : List GMean_point) ([] : List (Arr2 (List GItem)))), (Xe ([] : List Int) ([] : List (List GCount))), (Xe ([] : List GMean_point) ([] : List (List GItem))), 0, most_0, ([] : List GOut), 0⟩ : GMean_runner), [])))
theorem z2c (g_0 : GGraph) (feeds_0 : List GFeed) (most_0 : Int)  (r : (List GOut) × Int) (h : ql1 g_0 feeds_0 most_0 = some r) : DetS pp 7 [.agg (Row.row g_0), .sl 4 (enc feeds_0), .v (.int .i64 most_0)] [] 0 (.tup [.osl 0 4 (0) (r.1.length), .v (.int .i64 r.2)]) [(0, .arr 4 (enc r.1))] 1 := by
  unfold DetS; refine Spec.of_wp Tryz.func7 rfl (by kernel_rfl) (by kernel_rfl) ?_; rw [ql1] at h; refine sgW fun _ Q1 => ?_; refine wv ?_; simp only [go_sem]; refine x8 Q1 ?_; refine sgW fun _ Q2 => ?_; refine sgW fun _ Q3 => ?_; refine wv ?_; obtain ⟨v_0, ev_0, h⟩ := z8 h; simp only [go_sem]; refine q6c (z8w g_0 feeds_0 most_0 v_0 ev_0) (by rfl) (by rfl) ?_; simp only [go_sem]; refine x8 Q3 ?_; refine q3q (b := (!v_0)) (by (simp only [go_sem]; done)) (fun hb_0 => ?_) (fun hb_0 => ?_)
  .
    replace h := q4d h hb_0; simp only [bool_to_prop] at hb_0; refine sgW fun _ Q4 => ?_; refine wv ?_; simp only [go_sem]; refine x8 Q4 ?_; refine wv ?_; refine q0a (qn8 Q2 ?_); simp only [go_sem]; obtain rfl := Xa h; refine q1s [none] ?_; simp only [go_sem, Le]
  .
    replace h := q4e h hb_0; simp only [bool_to_prop] at hb_0; refine wv ?_; refine y9 (x8 Q2 ?_); refine sgW fun _ Q5 => ?_; refine q8x ?_; refine wv ?_; simp only [go_sem]; refine z1j 0 ?_ rfl z9e; simp only [go_sem]; refine z1j 1 ?_ rfl z9d; simp only [go_sem]; refine z1j 2 ?_ rfl z1r; simp only [go_sem]; refine q2o ?_; refine x8 Q5 ?_; refine sgW fun _ Q6 => ?_; refine wv ?_; simp only [go_sem]; refine x8 Q6 ?_; refine zo9 (ι := GMean_runner × (List Int)) (fun ((b_2, a_2) : GMean_runner × (List Int)) => (⟨0, [(3, .ptr 0 0), (8, .ptr 1 0), (9, .osl 2 1 (0) (a_2.length))], [(0, .box (Row.row g_0)), (1, .box [.sl 1 (enc b_2.g.Parent), .sl 1 (enc b_2.g.Bound), .sl 4 (enc b_2.g.Nodes), .sl 4 (enc b_2.g.Edges), .mp 3, .mp 4, .mp 5, .v (.int .i64 b_2.work), .v (.int .i64 b_2.most), .osl 6 4 (0) (b_2.outs.length), .v (.int .i64 b_2.e)]), (2, .arr 1 (enc a_2)), (3, .con (u7 pp 81 0 (p9 b_2.ins.1) (enc b_2.ins.2) none) []), (4, .con (u7 pp 3 1 (p9 b_2.past.1) (enc b_2.past.2) none) []), (5, .con (u7 pp 81 2 (p9 b_2.bags.1) (enc b_2.bags.2) none) []), (6, .arr 4 (enc b_2.outs))], 7, 86⟩ : St)) (fun ((b_2, a_2) : GMean_runner × (List Int)) => qn4 g_0 b_2 a_2 = some r) ?_ ?_
    .
      intro _ Q22; refine sgW fun _ Q23 => ?_; refine wv ?_; simp only [go_sem]; refine x8 Q23 ?_; refine qf5 fun _ Q24 => ?_; refine z5m (ι := Nat × Int × GMean_runner × (List Int)) (fun ((_, t28_3, b_9, a_4) : Nat × Int × GMean_runner × (List Int)) => (⟨0, [(3, .ptr 0 0), (8, .ptr 1 0), (9, .osl 2 1 (0) (a_4.length)), (26, .sl 4 (enc feeds_0)), (27, .v (.int .i64 (feeds_0.length : Int))), (28, .v (.int .i64 t28_3))], [(0, .box (Row.row g_0)), (1, .box [.sl 1 (enc b_9.g.Parent), .sl 1 (enc b_9.g.Bound), .sl 4 (enc b_9.g.Nodes), .sl 4 (enc b_9.g.Edges), .mp 3, .mp 4, .mp 5, .v (.int .i64 b_9.work), .v (.int .i64 b_9.most), .osl 6 4 (0) (b_9.outs.length), .v (.int .i64 b_9.e)]), (2, .arr 1 (enc a_4)), (3, .con (u7 pp 81 0 (p9 b_9.ins.1) (enc b_9.ins.2) none) []), (4, .con (u7 pp 3 1 (p9 b_9.past.1) (enc b_9.past.2) none) []), (5, .con (u7 pp 81 2 (p9 b_9.bags.1) (enc b_9.bags.2) none) []), (6, .arr 4 (enc b_9.outs))], 7, 86⟩ : St)) (fun ((n_, t28_3, b_9, a_4) : Nat × Int × GMean_runner × (List Int)) => q04 (qf3 g_0 feeds_0) n_ (t28_3, b_9, a_4) = some r) (fun p => p.1) (rounds, 0, (⟨g_0, (Xe ([] : List GMean_point) ([] : List (Arr2 (List GItem)))), (Xe ([] : List Int) ([] : List (List GCount))), (Xe ([] : List GMean_point) ([] : List (List GItem))), 0, most_0, ([] : List GOut), 0⟩ : GMean_runner), []) [some 0, some 4, none, some 1, some 2, some 3, none] ?_ h ?_
      . simp only [go_sem, Le] <;> (repeat' apply Xc) <;> (try with_reducible refine q0c ?_) <;> first | omega | (simp [go_sem]; done) | ((try with_reducible refine q0c ?_); (simp [enc]; rfl))
      . rintro ⟨n_4, t28_3, b_9, a_4⟩ h _ Q25
        dsimp only at h; replace h := qb3 h; obtain ⟨m_4, rfl, h⟩ := h; rw [qf3] at h; refine sgW fun _ Q26 => ?_; refine wv ?_; simp only [go_sem]; refine x8 Q26 ?_; refine sgW fun _ Q27 => ?_; refine q3q (b := (decide (t28_3 < (feeds_0.length : Int)))) (by (simp only [go_sem]; done)) (fun hb_13 => ?_) (fun hb_13 => ?_)
        .
          replace h := q4d h hb_13; simp only [bool_to_prop] at hb_13; refine wv ?_; refine y9 (x8 Q27 ?_); refine sgW fun _ Q28 => ?_; refine qf5 fun _ Q29 => ?_; refine sgW fun _ Q30 => ?_; refine wv ?_; obtain ⟨xv_11, ex11, h⟩ := z8 h; obtain ⟨f11a, f11b, f11c⟩ := qo2 ex11; simp only [go_sem, f11a, f11b, f11c]; refine Xc (by omega) ?_; refine x8 Q30 ?_; refine sgW fun _ Q31 => ?_; refine wv ?_; have rf_13 : [[.v (.int .i64 xv_11.Epoch)]] = enc ([xv_11.Epoch] : List Int) := by rfl
          obtain ⟨g_8, h⟩ := q0j h; simp only [Xf, Xg, Xi, Xk] at g_8; have rf_14 : enc a_4 ++ [[.v (.int .i64 xv_11.Epoch)]] = enc (a_4 ++ ([xv_11.Epoch] : List Int)) := by exact (q57 a_4 ([xv_11.Epoch] : List Int)).symm
          simp only [go_sem, g_8, rf_14]; simp only [rf_13]; refine x8 Q31 ?_; refine wv ?_; have rf_15 : [[.v (.int .i64 xv_11.Rec.K), .v (.int .i64 xv_11.Rec.V), .v (.int .i64 1)]] = enc ([(⟨xv_11.Rec, 1⟩ : GItem)] : List GItem) := by rfl
          obtain ⟨v_16, ev_16, h⟩ := z8 h; simp only [go_sem]; simp only [rf_15]; refine qz6 (s' := (⟨0, [(3, .ptr 0 0), (8, .ptr 1 0), (9, .osl 8 1 (0) (Xq (a_4 ++ ([xv_11.Epoch] : List Int)))), (26, .sl 4 (enc feeds_0)), (27, .v (.int .i64 (feeds_0.length : Int))), (28, .v (.int .i64 t28_3))], [(0, .box (Row.row g_0)), (1, .box [.sl 1 (enc b_9.g.Parent), .sl 1 (enc b_9.g.Bound), .sl 4 (enc b_9.g.Nodes), .sl 4 (enc b_9.g.Edges), .mp 2, .mp 3, .mp 4, .v (.int .i64 b_9.work), .v (.int .i64 b_9.most), .osl 5 4 (0) (b_9.outs.length), .v (.int .i64 b_9.e)]), (2, .con (u7 pp 81 0 (p9 b_9.ins.1) (enc b_9.ins.2) none) []), (3, .con (u7 pp 3 1 (p9 b_9.past.1) (enc b_9.past.2) none) []), (4, .con (u7 pp 81 2 (p9 b_9.bags.1) (enc b_9.bags.2) none) []), (5, .arr 4 (enc b_9.outs)), (6, .box (Row.row xv_11)), (7, .arr 1 (enc ([xv_11.Epoch] : List Int))), (8, .arr 1 (enc (a_4 ++ ([xv_11.Epoch] : List Int))))], 9, 86⟩ : St)) (l := [some 0, some 1, some 3, some 4, some 5, some 6, some 7, some 8, some 9]) (args' := [.ptr 1 0, .v (.int .i64 xv_11.Node), .v (.int .i64 0), .agg [.v (.int .i64 1), .v (.int .i64 xv_11.Epoch), .v (.int .i64 0), .v (.int .i64 0), .v (.int .i64 0)], .sl 3 (enc ([(⟨xv_11.Rec, 1⟩ : GItem)] : List GItem))]) ?_ ?_ ?_
          . simp only [go_sem, Le] <;> (repeat' apply Xc) <;> (try with_reducible refine q0c ?_) <;> first | omega | (simp [go_sem]; done)
          . simp only [go_sem, Le] <;> (repeat' apply Xc) <;> ((try with_reducible refine q0c ?_); (simp [go_sem]; done))
          refine q6b [1, 2, 3, 4, 5] (q98 b_9 xv_11.Node 0 (⟨1, (⟨xv_11.Epoch, 0, 0, 0⟩ : Arr4 Int)⟩ : GTime) ([(⟨xv_11.Rec, 1⟩ : GItem)] : List GItem) v_16 ev_16) (by simp) rfl ⟨rfl, ⟨rfl, ⟨rfl, ⟨rfl, ⟨rfl, trivial⟩⟩⟩⟩⟩ rfl rfl rfl rfl ?_; simp only [go_sem]; refine q05 Q29 (x8 Q28 ?_); refine wv ?_; simp only [go_sem]; refine p8 Q25 (⟨(m_4, i64.wrap (t28_3 + 1), v_16, (a_4 ++ ([xv_11.Epoch] : List Int))), [some 0, some 1, some 8, some 2, some 3, some 4, some 9], ?_, h, Xl _⟩); simp only [go_sem, Le] <;> (repeat' apply Xc) <;> (try with_reducible refine q0c ?_) <;> first | omega | (simp [go_sem]; done)
        .
          replace h := q4e h hb_13; simp only [bool_to_prop] at hb_13; refine wv ?_; refine q0w (qp4 Q27 ?_); refine q0x Q25 (q0p Q24 (p8 Q22 (⟨(b_9, a_4), [some 0, some 1, some 2, some 3, some 4, some 5, some 6], ?_, h⟩))); simp only [go_sem, Le] <;> (repeat' apply Xc) <;> (try with_reducible refine q0c ?_) <;> first | omega | (simp [go_sem]; done)
    . rintro ⟨b_2, a_2⟩ h
      try dsimp only at h
      rw [qn4] at h; refine sgW fun _ Q7 => ?_; refine wv ?_; obtain ⟨v_4, ev_4, h⟩ := z8 h; simp only [go_sem]; refine q6b [2] (qx1 a_2 v_4 ev_4) (by simp) rfl ⟨rfl, trivial⟩ rfl rfl rfl rfl ?_; obtain ⟨g_4, h⟩ := q0j h; simp only [go_sem, g_4]; refine x8 Q7 ?_; refine zo9 (ι := GMean_runner) (fun (b_5 : GMean_runner) => (⟨0, [(8, .ptr 0 0)], [(0, .box [.sl 1 (enc b_5.g.Parent), .sl 1 (enc b_5.g.Bound), .sl 4 (enc b_5.g.Nodes), .sl 4 (enc b_5.g.Edges), .mp 1, .mp 2, .mp 3, .v (.int .i64 b_5.work), .v (.int .i64 b_5.most), .osl 4 4 (0) (b_5.outs.length), .v (.int .i64 b_5.e)]), (1, .con (u7 pp 81 0 (p9 b_5.ins.1) (enc b_5.ins.2) none) []), (2, .con (u7 pp 3 1 (p9 b_5.past.1) (enc b_5.past.2) none) []), (3, .con (u7 pp 81 2 (p9 b_5.bags.1) (enc b_5.bags.2) none) []), (4, .arr 4 (enc b_5.outs))], 5, 86⟩ : St)) (fun (b_5 : GMean_runner) => qf2 b_5 = some r) ?_ ?_
      .
        intro _ Q13; refine sgW fun _ Q14 => ?_; refine wv ?_; obtain ⟨v_10, ev_10, h⟩ := z8 h; simp only [go_sem]; refine qz6 (s' := (⟨0, [(3, .ptr 0 0), (8, .ptr 1 0)], [(0, .box (Row.row g_0)), (1, .box [.sl 1 (enc b_2.g.Parent), .sl 1 (enc b_2.g.Bound), .sl 4 (enc b_2.g.Nodes), .sl 4 (enc b_2.g.Edges), .mp 3, .mp 4, .mp 5, .v (.int .i64 b_2.work), .v (.int .i64 b_2.most), .osl 6 4 (0) (b_2.outs.length), .v (.int .i64 b_2.e)]), (2, .arr 1 (enc v_4)), (3, .con (u7 pp 81 0 (p9 b_2.ins.1) (enc b_2.ins.2) none) []), (4, .con (u7 pp 3 1 (p9 b_2.past.1) (enc b_2.past.2) none) []), (5, .con (u7 pp 81 2 (p9 b_2.bags.1) (enc b_2.bags.2) none) []), (6, .arr 4 (enc b_2.outs))], 7, 86⟩ : St)) (l := [some 0, some 1, some 2, some 3, some 4, some 5, some 6]) (args' := [.osl 2 1 (0) (v_4.length)]) ?_ ?_ ?_
        . simp only [go_sem, Le] <;> (repeat' apply Xc) <;> (try with_reducible refine q0c ?_) <;> first | omega | (simp [go_sem]; done)
        . simp only [go_sem, Le] <;> (repeat' apply Xc) <;> ((try with_reducible refine q0c ?_); omega)
        refine q6b [2] (qt3 v_4 v_10 ev_10) (by simp) rfl ⟨rfl, trivial⟩ rfl rfl rfl rfl ?_; simp only [go_sem]; refine x8 Q14 ?_; refine qf5 fun _ Q15 => ?_; refine z5m (ι := Nat × Int × GMean_runner) (fun ((_, t55_3, b_7) : Nat × Int × GMean_runner) => (⟨0, [(3, .ptr 0 0), (8, .ptr 1 0), (53, .osl 2 1 (0) (v_10.length)), (54, .v (.int .i64 (v_10.length : Int))), (55, .v (.int .i64 t55_3))], [(0, .box (Row.row g_0)), (1, .box [.sl 1 (enc b_7.g.Parent), .sl 1 (enc b_7.g.Bound), .sl 4 (enc b_7.g.Nodes), .sl 4 (enc b_7.g.Edges), .mp 3, .mp 4, .mp 5, .v (.int .i64 b_7.work), .v (.int .i64 b_7.most), .osl 6 4 (0) (b_7.outs.length), .v (.int .i64 b_7.e)]), (2, .arr 1 (enc v_10)), (3, .con (u7 pp 81 0 (p9 b_7.ins.1) (enc b_7.ins.2) none) []), (4, .con (u7 pp 3 1 (p9 b_7.past.1) (enc b_7.past.2) none) []), (5, .con (u7 pp 81 2 (p9 b_7.bags.1) (enc b_7.bags.2) none) []), (6, .arr 4 (enc b_7.outs))], 7, 86⟩ : St)) (fun ((n_, t55_3, b_7) : Nat × Int × GMean_runner) => q04 (qf4 g_0 v_10) n_ (t55_3, b_7) = some r) (fun p => p.1) (rounds, 0, b_2) [some 0, some 1, some 2, some 3, some 4, some 5, some 6] ?_ h ?_
        . simp only [go_sem, Le] <;> (repeat' apply Xc) <;> (try with_reducible refine q0c ?_) <;> first | omega | (simp [go_sem]; done)
        . rintro ⟨n_3, t55_3, b_7⟩ h _ Q16
          dsimp only at h; replace h := qb3 h; obtain ⟨m_3, rfl, h⟩ := h; rw [qf4] at h; refine sgW fun _ Q17 => ?_; refine wv ?_; simp only [go_sem]; refine x8 Q17 ?_; refine sgW fun _ Q18 => ?_; refine q3q (b := (decide (t55_3 < (v_10.length : Int)))) (by (simp only [go_sem]; done)) (fun hb_10 => ?_) (fun hb_10 => ?_)
          .
            replace h := q4d h hb_10; simp only [bool_to_prop] at hb_10; refine wv ?_; refine y9 (x8 Q18 ?_); refine sgW fun _ Q19 => ?_; refine qf5 fun _ Q20 => ?_; refine sgW fun _ Q21 => ?_; refine wv ?_; obtain ⟨xv_8, ex8, h⟩ := z8 h; obtain ⟨f8a, f8b, f8c⟩ := qo2 ex8; simp only [go_sem, f8a, f8b, f8c]; refine Xc (by omega) ?_; refine x8 Q21 ?_; refine wv ?_; obtain ⟨v_13, ev_13, h⟩ := z8 h; simp only [go_sem]; refine q6b [1, 3, 4, 5, 6] (qq7 b_7 0 (g_0.Nodes.length : Int) 0 (⟨1, (⟨xv_8, 0, 0, 0⟩ : Arr4 Int)⟩ : GTime) v_13 ev_13) (by simp) rfl ⟨rfl, ⟨rfl, ⟨rfl, ⟨rfl, ⟨rfl, trivial⟩⟩⟩⟩⟩ rfl rfl rfl rfl ?_; simp only [go_sem]; refine q05 Q20 (x8 Q19 ?_); refine wv ?_; simp only [go_sem]; refine p8 Q16 (⟨(m_3, i64.wrap (t55_3 + 1), v_13.2), [some 0, some 1, some 2, some 3, some 4, some 5, some 7], ?_, h, Xl _⟩); simp only [go_sem, Le] <;> (repeat' apply Xc) <;> (try with_reducible refine q0c ?_) <;> first | omega | (simp [go_sem]; done)
          .
            replace h := q4e h hb_10; simp only [bool_to_prop] at hb_10; refine wv ?_; refine q0w (qp4 Q18 ?_); refine q0x Q16 (q0p Q15 (p8 Q13 (⟨b_7, [some 1, some 3, some 4, some 5, some 6], ?_, h⟩))); simp only [go_sem, Le] <;> (repeat' apply Xc) <;> (try with_reducible refine q0c ?_) <;> first | omega | (simp [go_sem]; done)
      . rintro b_5 h
        try dsimp only at h
        rw [qf2] at h; refine sgW fun _ Q8 => ?_; refine sgW fun _ Q9 => ?_; refine wv ?_; simp only [go_sem]; refine x8 Q9 ?_; refine q3q (b := (!(b_5.e == 0))) (by (simp only [go_sem]; done)) (fun hb_7 => ?_) (fun hb_7 => ?_)
        .
          replace h := q4d h hb_7; simp only [bool_to_prop] at hb_7; refine sgW fun _ Q10 => ?_; refine wv ?_; refine q0e ?_; refine je2 ?_; simp only [go_sem]; refine x8 Q10 ?_; refine wv ?_; refine q0a (qn8 Q8 ?_); simp only [go_sem]; obtain rfl := Xa h; refine q1s [none] ?_; simp only [go_sem, Le]
        .
          replace h := q4e h hb_7; simp only [bool_to_prop] at hb_7; refine wv ?_; refine y9 (x8 Q8 ?_); refine sgW fun _ Q11 => ?_; refine wv ?_; obtain ⟨v_9, ev_9, h⟩ := z8 h; simp only [go_sem]; refine q6b [4] (qj3 b_5.outs (fun x0_ x1_ => q5c x0_ x1_) 21 [] (by rfl) (by kernel_rfl) (fun y0 y1 r_ e_ => z8x y0 y1 r_ e_) v_9 ev_9) (by simp) rfl ⟨rfl, trivial⟩ rfl rfl rfl rfl ?_; obtain ⟨g_5, h⟩ := q0j h; simp only [go_sem, g_5]; refine x8 Q11 ?_; refine sgW fun _ Q12 => ?_; refine wv ?_; simp only [go_sem]; refine x8 Q12 ?_; refine wv ?_; refine q0a ?_; simp only [go_sem]; obtain rfl := Xa h; refine q1s [some 4] ?_; simp only [go_sem, Le] <;> (repeat' apply Xc) <;> ((try with_reducible refine q0c ?_); omega)
def q6a (a_0 : List GOut) (b_0 : List GOut) (rec_1 : Int -> Option Bool) : Int -> Option Bool :=
 fun i_1 =>
 (if (decide (i_1 < (a_0.length : Int))) = true then q9 (idx a_0 i_1) (fun xv_4 =>
 q9 (idx b_0 i_1) (fun xv_5 =>
 (if (!((xv_4.Node == xv_5.Node) && ((xv_4.Epoch == xv_5.Epoch) && ((xv_4.Rec.K == xv_5.Rec.K) && (xv_4.Rec.V == xv_5.Rec.V))))) = true then some false
 else rec_1 (i64.wrap (i_1 + 1)))))
 else some true)
def q62 (a_0 : List GOut) (b_0 : List GOut) : Option Bool :=
 (if (!((a_0.length : Int) == (b_0.length : Int))) = true then some false
 else q04 (q6a a_0 b_0) rounds 0)
instance zr4 (a_0 : List GOut) (b_0 : List GOut) : Ct pp 10 (q62 a_0 b_0) [.sl 4 (enc a_0), .sl 4 (enc b_0)] fun r => (.v (.bool r)) := ctK Tryz.func10 rfl (by rw [q62]) (by
 intro r h F; refine sM ?_; refine sg fun _ Q2 => ?_; refine sM ?_; refine sB h (fun _ h => ?_) fun _ h => ?_
 . exact au
 . refine y9 (q8 Q2 (jg fun _ Q5 => ?_)); refine sM ?_; refine w9 fun _ Q7 => ?_; refine q12 h [0, 1] (fun i_1 => ([(5, .v (.int .i64 i_1))], [])) 0 ?_; rintro m_1 i_1 h _ Q8; rw [q6a] at h; exact au)
def q63 (g_0 : GGraph) (rec_1 : Int -> Option Bool) : Int -> Option Bool :=
 fun i_1 =>
 (if (decide (i_1 < (g_0.Nodes.length : Int))) = true then q9 (idx g_0.Nodes i_1) (fun xv_2 =>
 (if (decide (100 < (xv_2.Prog.length : Int))) = true then some false
 else rec_1 (i64.wrap (i_1 + 1))))
 else some true)
def q5m (g_0 : GGraph) : Option Bool :=
 (if ((((decide (20 < (g_0.Parent.length : Int))) || (decide (20 < (g_0.Bound.length : Int)))) || (decide (60 < (g_0.Nodes.length : Int)))) || (decide (100 < (g_0.Edges.length : Int)))) = true then some false
 else q04 (q63 g_0) rounds 0)
instance zn8 (g_0 : GGraph) : Ct pp 5 (q5m g_0) [.agg (Row.row g_0)] fun r => (.v (.bool r)) := ctK Tryz.func5 rfl (by rw [q5m]) (by
 intro r h F; refine sM ?_; refine sg fun _ Q2 => ?_; refine sM ?_; refine sB h (fun _ h => ?_) fun _ h => ?_
 . exact au
 . refine y9 (q8 Q2 (jg fun _ Q5 => ?_)); refine sM ?_; refine w9 fun _ Q7 => ?_; refine q12 h [1] (fun i_1 => ([(3, .v (.int .i64 i_1))], [(0, .box (Row.row g_0))])) 1 ?_; rintro m_1 i_1 h _ Q8; rw [q63] at h; exact au)
def qg8 (s_0 : List Int) (f_0 : Int -> Option Bool) (rec_1 : Int -> Option Int) : Int -> Option Int :=
 fun t8_1 =>
 (if (decide (t8_1 < (s_0.length : Int))) = true then q9 (idx s_0 t8_1) (fun xv_2 =>
 q9 (f_0 xv_2) (fun v_2 =>
 (if v_2 = true then some t8_1
 else rec_1 (i64.wrap (t8_1 + 1)))))
 else some (-1))
def q9i (s_0 : List Int) (f_0 : Int -> Option Bool) : Option Int :=
 q04 (qg8 s_0 f_0) rounds 0
theorem qz4 (s_0 : List Int) (f_0 : Int -> Option Bool) (g_f_0 : FuncId) (c_f_0 : List AV) (F_f_0 : q08 c_f_0 = true) (E_f_0 : d9 pp g_f_0 = true) (H_f_0 : ∀ (x0 : Int) (r : Bool), f_0 x0 = some r -> PureS pp g_f_0 ([.v (.int .i64 x0)] ++ c_f_0) 0 (.v (.bool r))) (r : Int) (h : q9i s_0 f_0 = some r) : PureS pp 79 [.sl 1 (enc s_0), .clo g_f_0 c_f_0] 0 (.v (.int .i64 r)) := by
 refine ptI Tryz.func79 rfl ?_; rw [q9i] at h; have F := trivial; refine sM ?_; refine jg fun _ Q2 => ?_; refine sM ?_; refine w9 fun _ Q4 => ?_; refine q12 h [0, 1, 7] (fun t8_1 => ([(8, .v (.int .i64 t8_1))], [])) 0 ?_; rintro m_1 t8_1 h _ Q5; rw [qg8] at h; refine sM ?_; refine sg fun _ Q7 => ?_; refine sB h (fun _ h => ?_) fun _ h => ?_
 .
  refine y9 (q8 Q7 (sg fun _ Q8 => ?_)); refine w9 fun _ Q9 => ?_; refine sM ?_; refine sg fun _ Q11 => ?_; obtain ⟨xv_2, F, h⟩ := bI F h; obtain ⟨v_2, ev_2, h⟩ := z8 h; simp only [go_sem, E_f_0, F]; refine ai ?_; refine q6c (H_f_0 xv_2 v_2 ev_2) (by rfl) (by simp [go_sem, q08, q0g, F_f_0]) ?_; simp only [go_sem]; refine q8 Q11 (sB h (fun _ h => ?_) fun _ h => ?_)
  . refine sM ?_; refine q0a (q4o Q9 (q3l Q8 (q7o Q5 (q4o Q4 (q3l Q2 ?_))))); simp only [go_sem]; obtain rfl := Xa h; refine q2x rfl ?_; exact leA
  . refine y9 (q05 Q9 (q8 Q8 ?_)); simp only [go_sem]; refine p8 Q5 ?_; exact nxC _ h [] leA
 . refine q0w (q29 Q7 (q0x Q5 (q0p Q4 (q8 Q2 (sM ?_))))); refine q0a ?_; simp only [go_sem]; obtain rfl := Xa h; refine q2x rfl ?_; exact leA
def q3x (s_0 : List Int) (f_0 : Int -> Option Bool) : Option Bool :=
 q9 (q9i s_0 f_0) (fun v_0 =>
 some (decide (0 <= v_0)))
theorem qu4 (s_0 : List Int) (f_0 : Int -> Option Bool) (g_f_0 : FuncId) (c_f_0 : List AV) (F_f_0 : q08 c_f_0 = true) (E_f_0 : d9 pp g_f_0 = true) (H_f_0 : ∀ (x0 : Int) (r : Bool), f_0 x0 = some r -> PureS pp g_f_0 ([.v (.int .i64 x0)] ++ c_f_0) 0 (.v (.bool r))) (r : Bool) (h : q3x s_0 f_0 = some r) : PureS pp 45 [.sl 1 (enc s_0), .clo g_f_0 c_f_0] 0 (.v (.bool r)) := by
 refine ptI Tryz.func45 rfl ?_; rw [q3x] at h; have F := trivial; refine sM ?_; refine sg fun _ Q2 => ?_; obtain ⟨v_0, ev_0, h⟩ := z8 h; simp only [go_sem]; refine q6c (qz4 s_0 f_0 g_f_0 c_f_0 F_f_0 E_f_0 H_f_0 v_0 ev_0) (by rfl) (by simp [go_sem, q08, q0g, F_f_0]) ?_; simp only [go_sem]; refine q8 Q2 (q0a ?_); simp only [go_sem]; obtain rfl := Xa h; refine q2x rfl ?_; exact leA
def q4g (nv_0 : Int) : Option Bool :=
 some ((decide (nv_0 < 1)) || (decide (1024 < nv_0)))
instance z3r (nv_0 : Int) : Ct pp 46 (q4g nv_0) [.v (.int .i64 nv_0)] fun r => (.v (.bool r)) := ctI Tryz.func46 rfl (by rw [q4g]; exact au1)
def q5k (l_0 : List Int) : Option Bool :=
 q9 (q3x l_0 (fun x0_ => q4g x0_)) (fun v_0 =>
 some (!v_0))
instance qx9 (l_0 : List Int) : Ct pp 23 (q5k l_0) [.sl 1 (enc l_0)] fun r => (.v (.bool r)) := ctK Tryz.func23 rfl (by rw [q5k]) (by
 intro r h F; refine sM ?_; refine sg fun _ Q2 => ?_; obtain ⟨v_0, ev_0, h⟩ := z8 h; simp only [go_sem]; refine q6c (qu4 l_0 (fun x0_ => q4g x0_) 46 [] (by rfl) (by kernel_rfl) (fun y0 r_ e_ => z3r y0 r_ e_) v_0 ev_0) (by rfl) (by rfl) ?_; simp only [go_sem]; exact au)
def q7x (e_0 : Int) : Option Bool :=
 some ((decide (0 <= e_0)) && (decide (e_0 <= 1048576)))
instance j3h (e_0 : Int) : Ct pp 26 (q7x e_0) [.v (.int .i64 e_0)] fun r => (.v (.bool r)) := ctI Tryz.func26 rfl (by rw [q7x]; exact au1)
def q6l (f_0 : GFeed) : Option Bool :=
 q9 (q7x f_0.Epoch) (fun v_0 =>
 some (!v_0))
instance z3s (f_0 : GFeed) : Ct pp 31 (q6l f_0) [.agg (Row.row f_0)] fun r => (.v (.bool r)) := ctI Tryz.func31 rfl (by rw [q6l]; exact au1)
def q9y (e_0 : Int) (size_0 : Int) (step_0 : Int) : Option Int :=
 (if (decide (e_0 < size_0)) = true then some 0
 else q02 (step_0 ≠ 0) (
 some (i64.wrap ((i64.wrap (Int.tdiv (i64.wrap (e_0 - size_0)) step_0)) + 1))))
instance j3g (e_0 : Int) (size_0 : Int) (step_0 : Int) : Ct pp 32 (q9y e_0 size_0 step_0) [.v (.int .i64 e_0), .v (.int .i64 size_0), .v (.int .i64 step_0)] fun r => (.v (.int .i64 r)) := ctI Tryz.func32 rfl (by rw [q9y]; exact au1)
def q9u (step_0 : Int) (t24_1 : Int) (rec_1 : (Int × (List GFeed) -> Option ((List GFeed) × Int))) (xv_2 : GFeed) (rec_2 : Int × (List GFeed) × GFeed -> Option ((List GFeed) × Int)) : Int × (List GFeed) × GFeed -> Option ((List GFeed) × Int) :=
 fun (w_5, a_7, b_5) =>
 (if (decide ((i64.wrap (w_5 * step_0)) <= xv_2.Epoch)) = true then (if ((a_7.length : Int) == 65536) = true then some (([] : List GFeed), 9)
 else q02 ((a_7.length + Xq ([(⟨b_5.Node, w_5, b_5.Rec⟩ : GFeed)] : List GFeed)) * 32 <= 140737488355328) (
 rec_2 (i64.wrap (w_5 + 1), (a_7 ++ ([(⟨b_5.Node, w_5, b_5.Rec⟩ : GFeed)] : List GFeed)), (⟨b_5.Node, w_5, b_5.Rec⟩ : GFeed))))
 else rec_1 (i64.wrap (t24_1 + 1), a_7))
def qm0 (l_0 : List GFeed) (size_0 : Int) (step_0 : Int) (rec_1 : Int × (List GFeed) -> Option ((List GFeed) × Int)) : Int × (List GFeed) -> Option ((List GFeed) × Int) :=
 fun (t24_1, a_5) =>
 (if (decide (t24_1 < (l_0.length : Int))) = true then q9 (idx l_0 t24_1) (fun xv_2 =>
 q9 (q9y xv_2.Epoch size_0 step_0) (fun v_4 =>
 q04 (q9u step_0 t24_1 rec_1 xv_2) rounds (v_4, a_5, xv_2)))
 else some (a_5, 0))
def q7y (l_0 : List GFeed) (size_0 : Int) (step_0 : Int) : Option ((List GFeed) × Int) :=
 q9 (q5k ([size_0, step_0] : List Int)) (fun v_0 =>
 (if v_0 = true then q9 (q2l l_0 (fun x0_ => q6l x0_)) (fun v_1 =>
 (if v_1 = true then some (([] : List GFeed), 1)
 else q04 (qm0 l_0 size_0 step_0) rounds (0, [])))
 else some (([] : List GFeed), 1)))
theorem qw4 (l_0 : List GFeed) (size_0 : Int) (step_0 : Int)  (r : (List GFeed) × Int) (h : q7y l_0 size_0 step_0 = some r) : DetS pp 11 [.sl 4 (enc l_0), .v (.int .i64 size_0), .v (.int .i64 step_0)] [] 0 (.tup [.osl 0 4 (0) (r.1.length), .v (.int .i64 r.2)]) [(0, .arr 4 (enc r.1))] 1 := by
 refine dtI Tryz.func11 rfl ?_; rw [q7y] at h; have F := trivial; refine sM ?_; refine sg fun _ Q2 => ?_; refine sg fun _ Q3 => ?_; have rf_0 : [[.v (.int .i64 size_0)], [.v (.int .i64 step_0)]] = enc ([size_0, step_0] : List Int) := by rfl
 obtain ⟨v_0, ev_0, h⟩ := z8 h; simp only [go_sem]; simp only [rf_0]; refine qs7 (qx9 ([size_0, step_0] : List Int) v_0 ev_0) ?_; simp only [go_sem]; rcases hb_0 : v_0 with _ | _
 . replace h := q4e h hb_0; simp only [go_sem, hb_0]; exact au
 .
  replace h := q4d h hb_0; obtain ⟨v_1, ev_1, h⟩ := z8 h; simp only [go_sem, hb_0]; refine q6c (q9s l_0 (fun x0_ => q6l x0_) 31 [] (by rfl) (by kernel_rfl) (fun y0 r_ e_ => z3s y0 r_ e_) v_1 ev_1) (by rfl) (by rfl) ?_; simp only [go_sem]; refine q8 Q3 (sB h (fun _ h => ?_) fun _ h => ?_)
  . exact au
  .
   refine y9 (q8 Q2 (sM ?_)); refine jg fun _ Q7 => ?_; refine sM ?_; refine w9 fun _ Q9 => ?_; refine q12 h [1, 2, 22, 23] (fun x => ([(8, .osl 0 4 (0) (x.2.length)), (24, .v (.int .i64 x.1))], [(0, .arr 4 (enc x.2))])) 1 ?_; rintro m_1 ⟨t24_1, a_5⟩ h _ Q10; rw [qm0] at h; refine sM ?_; refine sg fun _ Q12 => ?_; refine sB h (fun _ h => ?_) fun _ h => ?_
   .
    refine y9 (q8 Q12 (jg fun _ Q13 => ?_)); refine w9 fun _ Q14 => ?_; refine sg fun _ Q15 => ?_; obtain ⟨xv_2, F, h⟩ := bI F h; simp only [go_sem, F]; refine ai ?_; refine q8 Q15 (sM ?_); refine sg fun _ Q17 => ?_; simp only [go_sem]; refine q53 h fun v_4 h => ?_; simp only [go_sem]; refine q8 Q17 (w9 fun _ Q18 => ?_); refine q12 h [1, 2, 10, 11, 22, 23, 24] (fun x => ([(8, .osl 0 4 (0) (x.2.1.length)), (12, .v (.int .i64 x.1))], [(0, .arr 4 (enc x.2.1)), (1, .box (Row.row x.2.2))])) 2 ?_; rintro m_2 ⟨w_5, a_7, b_5⟩ h _ Q19; rw [q9u] at h; refine sg fun _ Q20 => ?_; refine sM ?_; refine sB h (fun _ h => ?_) fun _ h => ?_
    .
     refine y9 (q8 Q20 (sg fun _ Q22 => ?_)); refine w9 fun _ Q23 => ?_; refine sg fun _ Q24 => ?_; refine sM ?_; refine sB h (fun _ h => ?_) fun _ h => ?_
     . exact au
     .
      refine y9 (q8 Q24 (sM ?_)); have rf_16 : [[.v (.int .i64 b_5.Node), .v (.int .i64 w_5), .v (.int .i64 b_5.Rec.K), .v (.int .i64 b_5.Rec.V)]] = enc ([(⟨b_5.Node, w_5, b_5.Rec⟩ : GFeed)] : List GFeed) := by rfl
      obtain ⟨g_8, h⟩ := q0j h; have F := Xc F g_8; simp only [Xf, Xg, Xi, Xk] at g_8; have rf_17 : enc a_7 ++ [[.v (.int .i64 b_5.Node), .v (.int .i64 w_5), .v (.int .i64 b_5.Rec.K), .v (.int .i64 b_5.Rec.V)]] = enc (a_7 ++ ([(⟨b_5.Node, w_5, b_5.Rec⟩ : GFeed)] : List GFeed)) := by exact (q57 a_7 ([(⟨b_5.Node, w_5, b_5.Rec⟩ : GFeed)] : List GFeed)).symm
      simp only [go_sem, g_8, rf_17]; simp only [rf_16]; exact au
    . exact au
   . exact au
def q77 (l_0 : List GFeed) (size_0 : Int) : Option ((List GFeed) × Int) :=
 q9 (q7y l_0 size_0 size_0) (fun v_0 =>
 some (v_0.1, v_0.2))
theorem qt6 (l_0 : List GFeed) (size_0 : Int)  (r : (List GFeed) × Int) (h : q77 l_0 size_0 = some r) : DetS pp 8 [.sl 4 (enc l_0), .v (.int .i64 size_0)] [] 0 (.tup [.osl 0 4 (0) (r.1.length), .v (.int .i64 r.2)]) [(0, .arr 4 (enc r.1))] 1 := by
 refine dtI Tryz.func8 rfl ?_; rw [q77] at h; have F := trivial; refine sM ?_; refine sg fun _ Q2 => ?_; obtain ⟨v_0, ev_0, h⟩ := z8 h; simp only [go_sem]; refine q1r [] (qw4 l_0 size_0 size_0 v_0 ev_0) ?_; simp only [go_sem]; exact au
def q7c  : Option Bool :=
 q9 (q77 ([(⟨0, 9, (⟨0, 0⟩ : GRec)⟩ : GFeed), (⟨0, 10, (⟨0, 0⟩ : GRec)⟩ : GFeed)] : List GFeed) 10) (fun v_0 =>
 q9 (q7y ([(⟨0, 4, (⟨0, 0⟩ : GRec)⟩ : GFeed)] : List GFeed) 3 2) (fun v_1 =>
 (if ((v_0.2 == 0) && ((v_0.1.length : Int) == 2)) = true then q9 (idx v_0.1 0) (fun xv_0 =>
 (if (xv_0.Epoch == 0) = true then q9 (idx v_0.1 1) (fun xv_1 =>
 (if (((xv_1.Epoch == 1) && (v_1.2 == 0)) && ((v_1.1.length : Int) == 2)) = true then q9 (idx v_1.1 0) (fun xv_2 =>
 (if (xv_2.Epoch == 1) = true then q9 (idx v_1.1 1) (fun xv_3 =>
 some (xv_3.Epoch == 2))
 else some false))
 else some false))
 else some false))
 else some false)))
instance zn9  : Ct pp 4 (q7c ) [] fun r => (.v (.bool r)) := ctK Tryz.func4 rfl (by rw [q7c]) (by
 intro r h F; refine sM ?_; refine sg fun _ Q2 => ?_; have rf_0 : [[.v (.int .i64 0), .v (.int .i64 9), .v (.int .i64 0), .v (.int .i64 0)], [.v (.int .i64 0), .v (.int .i64 10), .v (.int .i64 0), .v (.int .i64 0)]] = enc ([(⟨0, 9, (⟨0, 0⟩ : GRec)⟩ : GFeed), (⟨0, 10, (⟨0, 0⟩ : GRec)⟩ : GFeed)] : List GFeed) := by rfl
 obtain ⟨v_0, ev_0, h⟩ := z8 h; simp only [go_sem]; simp only [rf_0]; refine qa9 [] ([], []) 0 [] [.sl 4 (enc ([(⟨0, 9, (⟨0, 0⟩ : GRec)⟩ : GFeed), (⟨0, 10, (⟨0, 0⟩ : GRec)⟩ : GFeed)] : List GFeed)), .v (.int .i64 10)] ?_; refine q1r [] (qt6 ([(⟨0, 9, (⟨0, 0⟩ : GRec)⟩ : GFeed), (⟨0, 10, (⟨0, 0⟩ : GRec)⟩ : GFeed)] : List GFeed) 10 v_0 ev_0) ?_; simp only [go_sem]; refine q8 Q2 (sg fun _ Q3 => ?_); have rf_1 : [[.v (.int .i64 0), .v (.int .i64 4), .v (.int .i64 0), .v (.int .i64 0)]] = enc ([(⟨0, 4, (⟨0, 0⟩ : GRec)⟩ : GFeed)] : List GFeed) := by rfl
 obtain ⟨v_1, ev_1, h⟩ := z8 h; simp only [go_sem]; simp only [rf_1]; refine qa9 [1, 2] ([], [(0, .arr 4 (enc v_0.1))]) 1 [some 0] [.sl 4 (enc ([(⟨0, 4, (⟨0, 0⟩ : GRec)⟩ : GFeed)] : List GFeed)), .v (.int .i64 3), .v (.int .i64 2)] ?_; refine q1r [] (qw4 ([(⟨0, 4, (⟨0, 0⟩ : GRec)⟩ : GFeed)] : List GFeed) 3 2 v_1 ev_1) ?_; simp only [go_sem]; exact au)
def qg9 (s_0 : List GOut) (f_0 : GOut -> Option Bool) (rec_1 : Int -> Option Int) : Int -> Option Int :=
 fun t8_1 =>
 (if (decide (t8_1 < (s_0.length : Int))) = true then q9 (idx s_0 t8_1) (fun xv_2 =>
 q9 (f_0 xv_2) (fun v_2 =>
 (if v_2 = true then some t8_1
 else rec_1 (i64.wrap (t8_1 + 1)))))
 else some (-1))
def q9j (s_0 : List GOut) (f_0 : GOut -> Option Bool) : Option Int :=
 q04 (qg9 s_0 f_0) rounds 0
theorem qz5 (s_0 : List GOut) (f_0 : GOut -> Option Bool) (g_f_0 : FuncId) (c_f_0 : List AV) (F_f_0 : q08 c_f_0 = true) (E_f_0 : d9 pp g_f_0 = true) (H_f_0 : ∀ (x0 : GOut) (r : Bool), f_0 x0 = some r -> PureS pp g_f_0 ([.agg (Row.row x0)] ++ c_f_0) 0 (.v (.bool r))) (r : Int) (h : q9j s_0 f_0 = some r) : PureS pp 47 [.sl 4 (enc s_0), .clo g_f_0 c_f_0] 0 (.v (.int .i64 r)) := by
 refine ptI Tryz.func47 rfl ?_; rw [q9j] at h; have F := trivial; refine sM ?_; refine jg fun _ Q2 => ?_; refine sM ?_; refine w9 fun _ Q4 => ?_; refine q12 h [0, 1, 7] (fun t8_1 => ([(8, .v (.int .i64 t8_1))], [])) 0 ?_; rintro m_1 t8_1 h _ Q5; rw [qg9] at h; refine sM ?_; refine sg fun _ Q7 => ?_; refine sB h (fun _ h => ?_) fun _ h => ?_
 .
  refine y9 (q8 Q7 (sg fun _ Q8 => ?_)); refine w9 fun _ Q9 => ?_; refine sM ?_; refine sg fun _ Q11 => ?_; obtain ⟨xv_2, F, h⟩ := bI F h; obtain ⟨v_2, ev_2, h⟩ := z8 h; simp only [go_sem, E_f_0, F]; refine ai ?_; refine q6c (H_f_0 xv_2 v_2 ev_2) (by rfl) (by simp [go_sem, q08, q0g, F_f_0]) ?_; simp only [go_sem]; refine q8 Q11 (sB h (fun _ h => ?_) fun _ h => ?_)
  . refine sM ?_; refine q0a (q4o Q9 (q3l Q8 (q7o Q5 (q4o Q4 (q3l Q2 ?_))))); simp only [go_sem]; obtain rfl := Xa h; refine q2x rfl ?_; exact leA
  . refine y9 (q05 Q9 (q8 Q8 ?_)); simp only [go_sem]; refine p8 Q5 ?_; exact nxC _ h [] leA
 . refine q0w (q29 Q7 (q0x Q5 (q0p Q4 (q8 Q2 (sM ?_))))); refine q0a ?_; simp only [go_sem]; obtain rfl := Xa h; refine q2x rfl ?_; exact leA
def q5p (s_0 : List GOut) (f_0 : GOut -> Option Bool) : Option Bool :=
 q9 (q9j s_0 f_0) (fun v_0 =>
 some (decide (0 <= v_0)))
theorem qu5 (s_0 : List GOut) (f_0 : GOut -> Option Bool) (g_f_0 : FuncId) (c_f_0 : List AV) (F_f_0 : q08 c_f_0 = true) (E_f_0 : d9 pp g_f_0 = true) (H_f_0 : ∀ (x0 : GOut) (r : Bool), f_0 x0 = some r -> PureS pp g_f_0 ([.agg (Row.row x0)] ++ c_f_0) 0 (.v (.bool r))) (r : Bool) (h : q5p s_0 f_0 = some r) : PureS pp 24 [.sl 4 (enc s_0), .clo g_f_0 c_f_0] 0 (.v (.bool r)) := by
 refine ptI Tryz.func24 rfl ?_; rw [q5p] at h; have F := trivial; refine sM ?_; refine sg fun _ Q2 => ?_; obtain ⟨v_0, ev_0, h⟩ := z8 h; simp only [go_sem]; refine q6c (qz5 s_0 f_0 g_f_0 c_f_0 F_f_0 E_f_0 H_f_0 v_0 ev_0) (by rfl) (by simp [go_sem, q08, q0g, F_f_0]) ?_; simp only [go_sem]; refine q8 Q2 (q0a ?_); simp only [go_sem]; obtain rfl := Xa h; refine q2x rfl ?_; exact leA
def q66 (o_0 : GOut) : Option Bool :=
 q9 (q7x o_0.Epoch) (fun v_0 =>
 some (!v_0))
instance z3e (o_0 : GOut) : Ct pp 25 (q66 o_0) [.agg (Row.row o_0)] fun r => (.v (.bool r)) := ctI Tryz.func25 rfl (by rw [q66]; exact au1)
def q70 (s_0 : List GOut) : Option (List GOut) :=
 q02 ((Xq ([] : List GOut) + s_0.length) * 32 <= 140737488355328) (
 some (([] : List GOut) ++ s_0))
theorem z1m (s_0 : List GOut)  (r : List GOut) (h : q70 s_0 = some r) : DetS pp 27 [.sl 4 (enc s_0)] [] 0 (.osl 0 4 (0) (r.length)) [(0, .arr 4 (enc r))] 1 := by
 refine dtI Tryz.func27 rfl ?_; rw [q70] at h; have F := trivial; refine sM ?_; refine sg fun _ Q2 => ?_; refine sg fun _ Q3 => ?_; simp only [go_sem]; intro nb_0 hnb_0; rcases nb_0 with _ | _
 .
  refine q8 Q3 (jj9 ?_); refine y9 (q8 Q2 (sg fun _ Q4 => ?_)); obtain ⟨g_0, h⟩ := q0j h; have F := Xc F g_0; simp only [Xf, Xg, Xi, Xk] at g_0; have rf_0 : enc ([] : List GOut) ++ enc s_0 = enc (([] : List GOut) ++ s_0) := by exact (q57 ([] : List GOut) s_0).symm
  simp only [go_sem, g_0, rf_0]; exact au
 .
  have hE_nb_0 : s_0 = [] := by cases hq : (s_0) with | nil => rfl | cons y ys => exact absurd (hnb_0 (by rw [hq]; simp [enc])) (by simp)
  simp only [hE_nb_0] at h; exact au
def q6k (a_0 : GOut) (b_0 : GOut) : Option Int :=
 q9 (q35 a_0.Node b_0.Node) (fun v_0 =>
 q9 (q35 a_0.Epoch b_0.Epoch) (fun v_1 =>
 q9 (q73 ([v_0, v_1] : List Int)) (fun v_2 =>
 (if (!(v_2 == 0)) = true then some v_2
 else q9 (q7m a_0.Rec b_0.Rec) (fun v_3 =>
 (if v_3 = true then some (-1)
 else q9 (q7m b_0.Rec a_0.Rec) (fun v_4 =>
 (if v_4 = true then some 1
 else some 0))))))))
instance z5y (a_0 : GOut) (b_0 : GOut) : Ct pp 29 (q6k a_0 b_0) [.agg (Row.row a_0), .agg (Row.row b_0)] fun r => (.v (.int .i64 r)) := ctK Tryz.func29 rfl (by rw [q6k]) (by
 intro r h F; refine sM ?_; refine sg fun _ Q2 => ?_; refine sg fun _ Q3 => ?_; refine q0e ?_; refine je2 ?_; obtain ⟨v_0, ev_0, h⟩ := z8 h; simp only [go_sem]; refine callq (fun _ => (z3f a_0.Node b_0.Node v_0 ev_0)) (by rfl) (by rfl) ?_; simp only [go_sem]; refine q53 h fun v_1 h => ?_; have rf_0 : [[.v (.int .i64 v_0)], [.v (.int .i64 v_1)]] = enc ([v_0, v_1] : List Int) := by rfl
 obtain ⟨v_2, ev_2, h⟩ := z8 h; simp only [go_sem]; simp only [rf_0]; refine qs7 (z10 ([v_0, v_1] : List Int) v_2 ev_2) ?_; simp only [go_sem]; exact au)
def j2j : Go.Shelf.Ren := ⟨fun | 6 => 28 | 15 => 38 | 14 => 48 | 28 => 67 | 29 => 68 | 20 => 77 | 21 => 80 | 22 => 81 | 23 => 82 | 24 => 83 | 25 => 84 | 26 => 85 | 27 => 86 | 46 => 119 | 47 => 104 | 48 => 105 | 49 => 120 | 50 => 121 | 57 => 144 | n => n, fun | 22 => 30 | 24 => 67 | 25 => 69 | 3 => 3 | 39 => 87 | 0 => 0 | 53 => 112 | 55 => 114 | 4 => 4 | 46 => 105 | 45 => 104 | 50 => 109 | 5 => 5 | 9 => 9 | 66 => 150 | 70 => 154 | 76 => 178 | 77 => 179 | n => n, fun | n => n⟩
theorem jd3 : Go.Proofs.SlLaysF0.n6 pp j2j := {
  mixed := by kernel_rfl
  f6 := ⟨Tryz.f28.name, by decide, Tryz.func28.trans (congrArg some (by kernel_rfl))⟩
  f14 := ⟨Tryz.f48.name, by decide, Tryz.func48.trans (congrArg some (by kernel_rfl))⟩
  f15 := Tryz.func38.trans (congrArg some (by kernel_rfl))
  f20 := ⟨Tryz.f77.name, by decide, Tryz.func77.trans (congrArg some (by kernel_rfl))⟩
  f21 := ⟨Tryz.f80.name, by decide, Tryz.func80.trans (congrArg some (by kernel_rfl))⟩
  f22 := ⟨Tryz.f81.name, by decide, Tryz.func81.trans (congrArg some (by kernel_rfl))⟩
  f23 := ⟨Tryz.f82.name, by decide, Tryz.func82.trans (congrArg some (by kernel_rfl))⟩
  f24 := ⟨Tryz.f83.name, by decide, Tryz.func83.trans (congrArg some (by kernel_rfl))⟩
  f25 := ⟨Tryz.f84.name, by decide, Tryz.func84.trans (congrArg some (by kernel_rfl))⟩
  f26 := ⟨Tryz.f85.name, by decide, Tryz.func85.trans (congrArg some (by kernel_rfl))⟩
  f27 := ⟨Tryz.f86.name, by decide, Tryz.func86.trans (congrArg some (by kernel_rfl))⟩
  f28 := Tryz.func67.trans (congrArg some (by kernel_rfl))
  f29 := Tryz.func68.trans (congrArg some (by kernel_rfl))
  f46 := ⟨Tryz.f119.name, by decide, Tryz.func119.trans (congrArg some (by kernel_rfl))⟩
  f47 := Tryz.func104.trans (congrArg some (by kernel_rfl))
  f48 := Tryz.func105.trans (congrArg some (by kernel_rfl))
  f49 := ⟨Tryz.f120.name, by decide, Tryz.func120.trans (congrArg some (by kernel_rfl))⟩
  f50 := ⟨Tryz.f121.name, by decide, Tryz.func121.trans (congrArg some (by kernel_rfl))⟩
  f57 := ⟨Tryz.f144.name, by decide, Tryz.func144.trans (congrArg some (by kernel_rfl))⟩
  t0 := Tryz.underlying0
  a0 := Tryz.isAgg0
  z0 := Tryz.sizeOf0
  v0 := Tryz.zeroValue0
  t3 := Tryz.underlying3
  a3 := Tryz.isAgg3
  z3 := Tryz.sizeOf3
  v3 := Tryz.zeroValue3
  t4 := Tryz.underlying4
  a4 := Tryz.isAgg4
  z4 := Tryz.sizeOf4
  v4 := Tryz.zeroValue4
  t5 := Tryz.underlying5
  a5 := Tryz.isAgg5
  z5 := Tryz.sizeOf5
  v5 := Tryz.zeroValue5
  t9 := Tryz.underlying9
  a9 := Tryz.isAgg9
  z9 := Tryz.sizeOf9
  v9 := Tryz.zeroValue9
  t22 := Tryz.underlying30
  a22 := Tryz.isAgg30
  z22 := Tryz.sizeOf30
  v22 := Tryz.zeroValue30
  t25 := Tryz.underlying69
  a25 := Tryz.isAgg69
  z25 := Tryz.sizeOf69
  v25 := Tryz.zeroValue69
  t39 := Tryz.underlying87
  a39 := Tryz.isAgg87
  z39 := Tryz.sizeOf87
  v39 := Tryz.zeroValue87
  t45 := Tryz.underlying104
  a45 := Tryz.isAgg104
  z45 := Tryz.sizeOf104
  v45 := Tryz.zeroValue104
  t46 := Tryz.underlying105
  a46 := Tryz.isAgg105
  z46 := Tryz.sizeOf105
  v46 := Tryz.zeroValue105
  t50 := Tryz.underlying109
  a50 := Tryz.isAgg109
  z50 := Tryz.sizeOf109
  v50 := Tryz.zeroValue109
  t53 := Tryz.underlying112
  a53 := Tryz.isAgg112
  z53 := Tryz.sizeOf112
  v53 := Tryz.zeroValue112
  t55 := Tryz.underlying114
  a55 := Tryz.isAgg114
  z55 := Tryz.sizeOf114
  v55 := Tryz.zeroValue114
  t66 := Tryz.underlying150
  a66 := Tryz.isAgg150
  z66 := Tryz.sizeOf150
  v66 := Tryz.zeroValue150
  t70 := Tryz.underlying154
  a70 := Tryz.isAgg154
  z70 := Tryz.sizeOf154
  v70 := Tryz.zeroValue154
  t76 := Tryz.underlying178
  a76 := Tryz.isAgg178
  z76 := Tryz.sizeOf178
  v76 := Tryz.zeroValue178
  t77 := Tryz.underlying179
  a77 := Tryz.isAgg179
  z77 := Tryz.sizeOf179
  v77 := Tryz.zeroValue179 }
noncomputable def qe8 (x_0 : List GOut) (cmp_0 : GOut -> GOut -> Option Int) : Option (List GOut) := z2l cmp_0 x_0
def q9q (x : GOut) : List Value := [(.int .i64 x.Node), (.int .i64 x.Epoch), (.int .i64 x.Rec.K), (.int .i64 x.Rec.V)]
theorem qr8 (x_0 : List GOut) (cmp_0 : GOut -> GOut -> Option Int) (g_cmp_0 : FuncId) (c_cmp_0 : List AV) (F_cmp_0 : q08 c_cmp_0 = true) (E_cmp_0 : d9 pp g_cmp_0 = true) (H_cmp_0 : ∀ (x0 : GOut) (x1 : GOut) (r : Int), cmp_0 x0 x1 = some r -> PureS pp g_cmp_0 ([.agg (Row.row x0), .agg (Row.row x1)] ++ c_cmp_0) 0 (.v (.int .i64 r))) (r : List GOut) (h : qe8 x_0 cmp_0 = some r) : DetS pp 28 [.osl 0 4 0 (x_0.length), .clo g_cmp_0 c_cmp_0] [(0, .arr 4 (enc x_0))] 1 (.tup []) [(0, .arr 4 (enc r))] 1 :=
  zi9 (ev := q9q) jd3 (by kernel_rfl) (fun _ => rfl) (fun _ => rfl) (fun x v hv => by simp only [q9q, List.mem_cons, List.not_mem_nil, or_false] at hv; rcases hv with rfl | rfl | rfl | rfl <;> rfl) Tryz.isAgg67 Tryz.sizeOf67 F_cmp_0 E_cmp_0 H_cmp_0 h
noncomputable def q95 (a_2 : List GOut) : Option ((List GOut) × Int) :=
 q9 (qe8 a_2 (fun x0_ x1_ => q6k x0_ x1_)) (fun v_3 =>
 q02 (v_3.length = a_2.length) (
 some (v_3, 0)))
noncomputable def q96 (size_0 : Int) (v_2 : List GOut) (rec_2 : Int × (List GOut) -> Option ((List GOut) × Int)) : Int × (List GOut) -> Option ((List GOut) × Int) :=
 fun (t23_3, a_4) =>
 (if (decide (t23_3 < (v_2.length : Int))) = true then q9 (idx a_4 t23_3) (fun xv_5 =>
 q02 (size_0 ≠ 0) (
 rec_2 (i64.wrap (t23_3 + 1), (Xb a_4 (t23_3.toNat) (⟨xv_5.Node, i64.wrap (Int.tdiv xv_5.Epoch size_0), xv_5.Rec⟩ : GOut)))))
 else q95 a_4)
noncomputable def q97 (l_0 : List GOut) (size_0 : Int) : Option ((List GOut) × Int) :=
 q9 (q5k ([size_0] : List Int)) (fun v_0 =>
 (if v_0 = true then q9 (q5p l_0 (fun x0_ => q66 x0_)) (fun v_1 =>
 (if v_1 = true then some (([] : List GOut), 1)
 else (if (decide (65536 < (l_0.length : Int))) = true then some (([] : List GOut), 9)
 else q9 (q70 l_0) (fun v_2 =>
 q04 (q96 size_0 v_2) rounds (0, v_2)))))
 else some (([] : List GOut), 1)))
theorem z3t (l_0 : List GOut) (size_0 : Int)  (r : (List GOut) × Int) (h : q97 l_0 size_0 = some r) : DetS pp 9 [.sl 4 (enc l_0), .v (.int .i64 size_0)] [] 0 (.tup [.osl 0 4 (0) (r.1.length), .v (.int .i64 r.2)]) [(0, .arr 4 (enc r.1))] 1 := by
 refine dtI Tryz.func9 rfl ?_; rw [q97] at h; have F := trivial; refine sM ?_; refine sg fun _ Q2 => ?_; refine sg fun _ Q3 => ?_; have rf_0 : [[.v (.int .i64 size_0)]] = enc ([size_0] : List Int) := by rfl
 obtain ⟨v_0, ev_0, h⟩ := z8 h; simp only [go_sem]; simp only [rf_0]; refine qs7 (qx9 ([size_0] : List Int) v_0 ev_0) ?_; simp only [go_sem]; rcases hb_0 : v_0 with _ | _
 . replace h := q4e h hb_0; simp only [go_sem, hb_0]; exact au
 .
  replace h := q4d h hb_0; obtain ⟨v_1, ev_1, h⟩ := z8 h; simp only [go_sem, hb_0]; refine q6c (qu5 l_0 (fun x0_ => q66 x0_) 25 [] (by rfl) (by kernel_rfl) (fun y0 r_ e_ => z3e y0 r_ e_) v_1 ev_1) (by rfl) (by rfl) ?_; simp only [go_sem]; refine q8 Q3 (sB h (fun _ h => ?_) fun _ h => ?_)
  . exact au
  .
   refine y9 (q8 Q2 (sg fun _ Q6 => ?_)); refine sM ?_; refine sB h (fun _ h => ?_) fun _ h => ?_
   . exact au
   .
    refine y9 (q8 Q6 (sg fun _ Q9 => ?_)); obtain ⟨v_2, ev_2, h⟩ := z8 h; simp only [go_sem]; refine q1r [] (z1m l_0 v_2 ev_2) ?_; simp only [go_sem]; refine q8 Q9 (q5r (fun (a_2 : (List GOut)) => q95 a_2 = some r) [] (fun a_2 => ([(6, .osl 0 4 (0) (a_2.length))], [(0, .arr 4 (enc a_2))])) 1 ?_ ?_)
    .
     intro _ Q12; refine sM ?_; refine w9 fun _ Q14 => ?_; refine q12 h [1, 22] (fun x => ([(6, .osl 0 4 (0) (x.2.length)), (23, .v (.int .i64 x.1))], [(0, .arr 4 (enc x.2))])) 1 ?_; rintro m_2 ⟨t23_3, a_4⟩ h _ Q15; rw [q96] at h; refine sM ?_; refine sg fun _ Q17 => ?_; refine sB h (fun _ h => ?_) fun _ h => ?_
     . refine y9 (q8 Q17 (sg fun _ Q18 => ?_)); refine w9 fun _ Q19 => ?_; refine sM ?_; obtain ⟨xv_5, F, h⟩ := bI F h; obtain ⟨F, h⟩ := bG F h; have rf_6 := qa2 a_4 (t23_3.toNat) (⟨xv_5.Node, i64.wrap (Int.tdiv xv_5.Epoch size_0), xv_5.Rec⟩ : GOut); simp only [j4h] at rf_6; simp only [go_sem, rf_6, F]; refine ai ?_; refine ai ?_; exact au
     . exact au
    .
     rintro a_2 h
     try dsimp only at h
     rw [q95] at h; refine sg fun _ Q10 => ?_; obtain ⟨v_3, ev_3, h⟩ := z8 h; simp only [go_sem]; refine q1r [0] (qr8 a_2 (fun x0_ x1_ => q6k x0_ x1_) 29 [] (by rfl) (by kernel_rfl) (fun y0 y1 r_ e_ => z5y y0 y1 r_ e_) v_3 ev_3) ?_; obtain ⟨F, h⟩ := bG F h; simp only [go_sem, F]; exact au
def q65 (xv_0 : GNode) : Option Bool :=
 q9 (q5b xv_0.Kind) (fun v_0 =>
 some (!v_0))
instance z3d (xv_0 : GNode) : Ct pp 13 (q65 xv_0) [.agg (Row.row xv_0)] fun r => (.v (.bool r)) := ctI Tryz.func13 rfl (by rw [q65]; exact au1)
def q94 (g_0 : GGraph) : Option Bool :=
 q9 (q2k g_0.Nodes (fun x0_ => q65 x0_)) (fun v_0 =>
 some (!v_0))
instance j2v (g_0 : GGraph) : Ct pp 6 (q94 g_0) [.agg (Row.row g_0)] fun r => (.v (.bool r)) := ctK Tryz.func6 rfl (by rw [q94]) (by
 intro r h F; refine sM ?_; refine sg fun _ Q2 => ?_; obtain ⟨v_0, ev_0, h⟩ := z8 h; simp only [go_sem]; refine q6c (q9r g_0.Nodes (fun x0_ => q65 x0_) 13 [] (by rfl) (by kernel_rfl) (fun y0 r_ e_ => z3d y0 r_ e_) v_0 ev_0) (by rfl) (by rfl) ?_; simp only [go_sem]; exact au)
noncomputable def q39 (g_0 : GGraph) (l_0 : List GFeed) (size_0 : Int) : Option Bool :=
 q9 (q7c) (fun v_0 =>
 (if (!v_0) = true then some false
 else q9 (q5m g_0) (fun v_1 =>
 (if ((!v_1) || (decide (40 < (l_0.length : Int)))) = true then some true
 else q9 (q94 g_0) (fun v_2 =>
 (if (!v_2) = true then some true
 else q9 (ql1 g_0 l_0 2000) (fun v_3 =>
 q9 (q77 l_0 size_0) (fun v_4 =>
 (if ((!(v_3.2 == 0)) || (!(v_4.2 == 0))) = true then some true
 else q9 (ql1 g_0 v_4.1 2000) (fun v_5 =>
 q9 (q97 v_3.1 size_0) (fun v_6 =>
 (if ((v_5.2 == 0) && (v_6.2 == 0)) = true then q9 (q62 v_5.1 v_6.1) (fun v_7 =>
 some v_7)
 else some false))))))))))))
instance qq9 (g_0 : GGraph) (l_0 : List GFeed) (size_0 : Int) : Ct pp 3 (q39 g_0 l_0 size_0) [.agg (Row.row g_0), .sl 4 (enc l_0), .v (.int .i64 size_0)] fun r => (.v (.bool r)) := ctK Tryz.func3 rfl (by rw [q39]) (by
 intro r h F; refine sM ?_; refine sg fun _ Q2 => ?_; refine sg fun _ Q3 => ?_; simp only [go_sem]; refine q53 h fun v_0 h => ?_; simp only [go_sem]; refine q8 Q3 (sB h (fun _ h => ?_) fun _ h => ?_)
 . exact au
 .
  refine y9 (q8 Q2 (sg fun _ Q5 => ?_)); refine sg fun _ Q6 => ?_; simp only [go_sem]; refine q53 h fun v_1 h => ?_; simp only [go_sem]; rcases hb_1 : ((!v_1) || (decide (40 < (l_0.length : Int)))) with _ | _
  .
   replace h := q4e h hb_1; simp only [go_sem, hb_1]; refine q53 h fun v_2 h => ?_; simp only [go_sem]; refine q8 Q6 (sB h (fun _ h => ?_) fun _ h => ?_)
   . exact au
   .
    refine y9 (q8 Q5 (sg fun _ Q8 => ?_)); obtain ⟨v_3, ev_3, h⟩ := z8 h; simp only [go_sem]; refine q1r [] (z2c g_0 l_0 2000 v_3 ev_3) ?_; simp only [go_sem]; refine q8 Q8 (sg fun _ Q9 => ?_); obtain ⟨v_4, ev_4, h⟩ := z8 h; simp only [go_sem]; refine q1r [] (qt6 l_0 size_0 v_4 ev_4) ?_; simp only [go_sem]; refine q8 Q9 (sg fun _ Q10 => ?_); refine sM ?_; refine sB h (fun _ h => ?_) fun _ h => ?_
    . exact au
    . refine y9 (q8 Q10 (sg fun _ Q13 => ?_)); obtain ⟨v_5, ev_5, h⟩ := z8 h; simp only [go_sem]; refine qa9 [2, 7, 8] ([], [(0, .box (Row.row g_0)), (1, .arr 4 (enc v_3.1))]) 2 [some 0, some 1] [.agg (Row.row g_0), .sl 4 (enc v_4.1), .v (.int .i64 2000)] ?_; refine q1r [] (z2c g_0 v_4.1 2000 v_5 ev_5) ?_; simp only [go_sem]; refine q8 Q13 (sg fun _ Q14 => ?_); obtain ⟨v_6, ev_6, h⟩ := z8 h; simp only [go_sem]; refine qa9 [8] ([(11, .osl 1 4 (0) (v_5.1.length))], [(0, .box (Row.row g_0)), (1, .arr 4 (enc v_5.1))]) 2 [some 0, some 2] [.sl 4 (enc v_3.1), .v (.int .i64 size_0)] ?_; refine q1r [] (z3t v_3.1 size_0 v_6 ev_6) ?_; simp only [go_sem]; exact au
  . replace h := q4d h hb_1; simp only [go_sem, hb_1]; exact au)
end Go.Proofs.YtaiccbgcgcfhfaaGreat
