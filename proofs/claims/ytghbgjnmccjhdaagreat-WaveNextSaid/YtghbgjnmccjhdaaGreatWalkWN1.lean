/-
  What functions of the program compute, each told as a plain function that may give nothing, with the proof that the code does so. No condition beyond those that each theorem names.
-/
import Derived.Test.YtghbgjnmccjhdaaGreatWalkWN0
import Derived.Test.YtghbgjnmccjhdaaGreatLibI
import Derived.Test.YtghbgjnmccjhdaaGreatLibD
set_option linter.unusedSimpArgs false
set_option linter.unusedVariables false
set_option linter.unusedSectionVars false
set_option maxHeartbeats 2000000
set_option maxRecDepth 100000
namespace Go.Proofs.YtghbgjnmccjhdaaGreat
open Go Go.RowKit
open Go.IntKind (i64)
def q6x (x_0 : List GItem) (i_0 : Int) (j_0 : Int) : Option (List GItem) := qv5 x_0 i_0 j_0
theorem qo5 : DelLay pp (z5c 144 0 0 0 3 4 73 74) 3 (.agg #[.int .i64 0, .int .i64 0, .int .i64 0] : Value) := { mixed := by kernel_rfl, t0 := Tryz.underlying0, a0 := Tryz.isAgg0, z0 := Tryz.sizeOf0, v0 := Tryz.zeroValue0, t3 := Tryz.underlying3, a3 := Tryz.isAgg3, z3 := Tryz.sizeOf3, v3 := Tryz.zeroValue3, t4 := Tryz.underlying4, a4 := Tryz.isAgg4, z4 := Tryz.sizeOf4, v4 := Tryz.zeroValue4, t24 := Tryz.underlying74, a24 := Tryz.isAgg74, z24 := Tryz.sizeOf74, v24 := Tryz.zeroValue74, z9 := Tryz.sizeOf73, v9 := Tryz.zeroValue73, i9 := z3s (b := 24) (by kernel_rfl), f24 := ⟨"slices.Delete[[]backwash/api.Item,backwash/api.Item]", by decide, by kernel_rfl⟩ }
theorem qo6 (x_0 : List GItem) (i_0 : Int) (j_0 : Int) (r : List GItem) (h : q6x x_0 i_0 j_0 = some r) : DetS pp 144 [.osl 0 3 0 (x_0.length), .v (.int .i64 i_0), .v (.int .i64 j_0)] [(0, .arr 3 (enc x_0))] 1 (.osl 1 3 0 (r.length)) [(1, .arr 3 (enc r))] 2 :=
  z14 qo5 (by kernel_rfl) (by decide) (by rfl) (by rfl) (fun _ => rfl) h
def q63 (b_0 : List GItem) (rv_0 : GRec) (nv_0 : Int) : Option (List GItem) :=
 q9 (q2q b_0 rv_0 (fun x0_ x1_ => q8c x0_ x1_)) (fun v_0 =>
 (if (nv_0 == 0) = true then some b_0
 else q9 (qe7 nv_0) (fun v_1 =>
 (if (!v_1) = true then some b_0
 else (if (!v_0.2) = true then q9 (q3n b_0 v_0.1 ([(⟨rv_0, nv_0⟩ : GItem)] : List GItem)) (fun v_2 =>
 some v_2)
 else q9 (idx b_0 v_0.1) (fun xv_0 =>
 (if ((i64.wrap (xv_0.N + nv_0)) == 0) = true then q9 (q6x b_0 v_0.1 (i64.wrap (v_0.1 + 1))) (fun v_3 =>
 some v_3)
 else q9 (qe7 (i64.wrap (xv_0.N + nv_0))) (fun v_4 =>
 (if v_4 = true then some (List.set b_0 (v_0.1.toNat) (⟨xv_0.Rec, i64.wrap (xv_0.N + nv_0)⟩ : GItem))
 else some b_0)))))))))
theorem qs7 (b_0 : List GItem) (rv_0 : GRec) (nv_0 : Int)  (r : List GItem) (h : q63 b_0 rv_0 nv_0 = some r) : DetS pp 119 [.osl 0 3 (0) (b_0.length), .agg (Row.row rv_0), .v (.int .i64 nv_0)] [(0, .arr 3 (enc b_0))] 1 (.osl 1 3 (0) (r.length)) [(1, .arr 3 (enc r))] 2 := by
 refine dtI Tryz.func119 rfl ?_; rw [q63] at h; have F := trivial; refine sM ?_; refine sg fun _ Q2 => ?_; obtain ⟨v_0, ev_0, h⟩ := z8 h; simp only [go_sem]; refine qi7 (qk9 b_0 rv_0 (fun x0_ x1_ => q8c x0_ x1_) 141 [] (by rfl) (by kernel_rfl) (fun y0 y1 r_ e_ => z6f y0 y1 r_ e_) v_0 ev_0) ?_; simp only [go_sem]; refine q8 Q2 (jg fun _ Q3 => ?_); refine w9 fun _ Q4 => ?_; refine sg fun _ Q5 => ?_; simp only [go_sem]; rcases hb_0 : (nv_0 == 0) with _ | _
 ·
  replace h := q5g h hb_0; simp only [go_sem, hb_0]; refine q1s h fun v_1 h => ?_; simp only [go_sem]; refine q8 Q5 (sB h (fun _ h => ?_) fun _ h => ?_)
  · exact au
  ·
   refine sM ?_; refine sB h (fun _ h => ?_) fun _ h => ?_
   ·
    refine sg fun _ Q8 => ?_; have rf_0 : [[.v (.int .i64 rv_0.K), .v (.int .i64 rv_0.V), .v (.int .i64 nv_0)]] = enc ([(⟨rv_0, nv_0⟩ : GItem)] : List GItem) := by rfl
    obtain ⟨v_2, ev_2, h⟩ := z8 h; simp only [go_sem]; simp only [rf_0]; refine q18 [0, 2] (qh6 b_0 v_0.1 ([(⟨rv_0, nv_0⟩ : GItem)] : List GItem) v_2 ev_2) ?_; simp only [go_sem]; exact au
   ·
    refine sg fun _ Q9 => ?_; obtain ⟨xv_0, F, h⟩ := bI F h; simp only [go_sem, F]; refine ai ?_; refine q8 Q9 (sB h (fun _ h => ?_) fun _ h => ?_)
    · refine sg fun _ Q10 => ?_; obtain ⟨v_3, ev_3, h⟩ := z8 h; simp only [go_sem]; refine q18 [0] (qo6 b_0 v_0.1 (i64.wrap (v_0.1 + 1)) v_3 ev_3) ?_; simp only [go_sem]; exact au
    ·
     refine sg fun _ Q11 => ?_; simp only [go_sem, F]; refine ai ?_; refine q1s h fun v_4 h => ?_; simp only [go_sem]; refine q8 Q11 (sB h (fun _ h => ?_) fun _ h => ?_)
     · have rf_1 := q5b b_0 (v_0.1.toNat) (⟨xv_0.Rec, i64.wrap (xv_0.N + nv_0)⟩ : GItem); simp only [zm7] at rf_1; simp only [go_sem, rf_1, F]; refine ai ?_; refine ai ?_; exact au
     · exact au
 · replace h := q5f h hb_0; simp only [go_sem, hb_0]; exact au
def ql4 (b_0 : List GItem) (rv_0 : GRec) (nv_0 : Int) : Option (List GItem) :=
 q9 (q3m b_0) (fun v_0 =>
 q9 (q69 b_0) (fun v_1 =>
 (if (!v_1) = true then some v_0
 else q9 (q63 v_0 rv_0 nv_0) (fun v_2 =>
 some v_2))))
theorem z1e (b_0 : List GItem) (rv_0 : GRec) (nv_0 : Int)  (r : List GItem) (h : ql4 b_0 rv_0 nv_0 = some r) : DetS pp 127 [.sl 3 (enc b_0), .agg (Row.row rv_0), .v (.int .i64 nv_0)] [] 0 (.osl 0 3 (0) (r.length)) [(0, .arr 3 (enc r))] 1 := by
 refine dtI Tryz.func127 rfl ?_; rw [ql4] at h; have F := trivial; refine sM ?_; refine sg fun _ Q2 => ?_; obtain ⟨v_0, ev_0, h⟩ := z8 h; simp only [go_sem]; refine q18 [] (q7s b_0 v_0 ev_0) ?_; simp only [go_sem]; refine q8 Q2 (sg fun _ Q3 => ?_); refine sg fun _ Q4 => ?_; simp only [go_sem]; refine q1s h fun v_1 h => ?_; simp only [go_sem]; refine q8 Q4 (sB h (fun _ h => ?_) fun _ h => ?_)
 · exact au
 · refine y5 (q8 Q3 (sg fun _ Q6 => ?_)); obtain ⟨v_2, ev_2, h⟩ := z8 h; simp only [go_sem]; refine q18 [1] (qs7 v_0 rv_0 nv_0 v_2 ev_2) ?_; simp only [go_sem]; exact au
instance j3t (b_0 : List GItem) (rv_0 : GRec) (nv_0 : Int) : Ct pp 127 (ql4 b_0 rv_0 nv_0) [.sl 3 (enc b_0), .agg (Row.row rv_0), .v (.int .i64 nv_0)] fun r => (.sl 3 (enc r)) := ⟨fun r h => (z1e b_0 rv_0 nv_0  r h).pure leA⟩
def qb8 (b_0 : List GItem) (times_0 : Int) (rec_1 : Int × (List GItem) → Option (List GItem)) : Int × (List GItem) → Option (List GItem) :=
 fun (t23_1, a_2) =>
 (if (decide (t23_1 < (b_0.length : Int))) = true then q9 (idx b_0 t23_1) (fun xv_2 =>
 q9 (q63 a_2 xv_2.Rec (i64.wrap (times_0 * xv_2.N))) (fun v_5 =>
 rec_1 (i64.wrap (t23_1 + 1), v_5)))
 else some a_2)
def qe8 (a_0 : List GItem) (b_0 : List GItem) (times_0 : Int) : Option (List GItem) :=
 q9 (q3m a_0) (fun v_0 =>
 q9 (q69 a_0) (fun v_1 =>
 (if v_1 = true then q9 (q69 b_0) (fun v_2 =>
 (if (!v_2) = true then some v_0
 else u7 (qb8 b_0 times_0) rounds (0, v_0)))
 else some v_0)))
theorem qx1 (a_0 : List GItem) (b_0 : List GItem) (times_0 : Int)  (r : List GItem) (h : qe8 a_0 b_0 times_0 = some r) : DetS pp 88 [.sl 3 (enc a_0), .sl 3 (enc b_0), .v (.int .i64 times_0)] [] 0 (.osl 0 3 (0) (r.length)) [(0, .arr 3 (enc r))] 1 := by
 refine dtI Tryz.func88 rfl ?_; rw [qe8] at h; have F := trivial; refine sM ?_; refine sg fun _ Q2 => ?_; obtain ⟨v_0, ev_0, h⟩ := z8 h; simp only [go_sem]; refine q18 [] (q7s a_0 v_0 ev_0) ?_; simp only [go_sem]; refine q8 Q2 (sg fun _ Q3 => ?_); refine sg fun _ Q4 => ?_; simp only [go_sem]; refine q1s h fun v_1 h => ?_; simp only [go_sem]; rcases hb_0 : v_1 with _ | _
 · replace h := q5g h hb_0; simp only [go_sem, hb_0]; exact au
 ·
  replace h := q5f h hb_0; simp only [go_sem, hb_0]; refine q1s h fun v_2 h => ?_; simp only [go_sem]; refine q8 Q4 (sB h (fun _ h => ?_) fun _ h => ?_)
  · exact au
  ·
   refine y5 (q8 Q3 (jg fun _ Q7 => ?_)); refine sM ?_; refine w9 fun _ Q9 => ?_; refine q0a h [2, 21, 22] (fun x => ([(7, .osl 0 3 (0) (x.2.length)), (23, .v (.int .i64 x.1))], [(0, .arr 3 (enc x.2))])) 1 ?_; rintro m_1 ⟨t23_1, a_2⟩ h _ Q10; rw [qb8] at h; refine sM ?_; refine sg fun _ Q12 => ?_; refine sB h (fun _ h => ?_) fun _ h => ?_
   · refine y5 (q8 Q12 (sg fun _ Q13 => ?_)); refine w9 fun _ Q14 => ?_; refine sg fun _ Q15 => ?_; obtain ⟨xv_2, F, h⟩ := bI F h; simp only [go_sem, F]; refine ai ?_; refine q8 Q15 ?_; obtain ⟨v_5, ev_5, h⟩ := z8 h; simp only [go_sem]; refine q18 [0] (qs7 a_2 xv_2.Rec (i64.wrap (times_0 * xv_2.N)) v_5 ev_5) ?_; simp only [go_sem]; exact au
   · exact au
instance j07 (a_0 : List GItem) (b_0 : List GItem) (times_0 : Int) : Ct pp 88 (qe8 a_0 b_0 times_0) [.sl 3 (enc a_0), .sl 3 (enc b_0), .v (.int .i64 times_0)] fun r => (.sl 3 (enc r)) := ⟨fun r h => (qx1 a_0 b_0 times_0  r h).pure leA⟩
def q6a (a_0 : List GItem) (b_0 : List GItem) : Option (List GItem) :=
 q9 (qe8 a_0 b_0 1) (fun v_0 =>
 some v_0)
theorem z0c (a_0 : List GItem) (b_0 : List GItem)  (r : List GItem) (h : q6a a_0 b_0 = some r) : DetS pp 50 [.sl 3 (enc a_0), .sl 3 (enc b_0)] [] 0 (.osl 0 3 (0) (r.length)) [(0, .arr 3 (enc r))] 1 := by
 refine dtI Tryz.func50 rfl ?_; rw [q6a] at h; have F := trivial; refine sM ?_; refine sg fun _ Q2 => ?_; obtain ⟨v_0, ev_0, h⟩ := z8 h; simp only [go_sem]; refine q18 [] (qx1 a_0 b_0 1 v_0 ev_0) ?_; simp only [go_sem]; exact au
instance qt7 (a_0 : List GItem) (b_0 : List GItem) : Ct pp 50 (q6a a_0 b_0) [.sl 3 (enc a_0), .sl 3 (enc b_0)] fun r => (.sl 3 (enc r)) := ⟨fun r h => (z0c a_0 b_0  r h).pure leA⟩
def qg7 (b_0 : List GItem) (a_2 : List GItem) : Option (List GItem) :=
 q9 (q69 b_0) (fun v_0 =>
 (if (!v_0) = true then some ([] : List GItem)
 else some a_2))
def qg8 (b_0 : List GItem) (rec_2 : Int × (List GItem) → Option (List GItem)) : Int × (List GItem) → Option (List GItem) :=
 fun (t8_3, a_4) =>
 (if (decide (t8_3 < (b_0.length : Int))) = true then q9 (idx b_0 t8_3) (fun xv_5 =>
 (if (decide (0 < xv_5.N)) = true then y9 ((a_4.length + List.length ([xv_5] : List GItem)) * 24 ≤ 140737488355328) (
 rec_2 (i64.wrap (t8_3 + 1), (a_4 ++ ([xv_5] : List GItem))))
 else rec_2 (i64.wrap (t8_3 + 1), a_4)))
 else qg7 b_0 a_4)
def q8d (b_0 : List GItem) : Option (List GItem) :=
 u7 (qg8 b_0) rounds (0, [])
theorem qo0 (b_0 : List GItem)  (r : List GItem) (h : q8d b_0 = some r) : DetS pp 93 [.sl 3 (enc b_0)] [] 0 (.osl 0 3 (0) (r.length)) [(0, .arr 3 (enc r))] 1 := by
 refine dtI Tryz.func93 rfl ?_; rw [q8d] at h; have F := trivial; refine sM ?_; refine sM ?_; refine q2s (fun (a_2 : (List GItem)) => qg7 b_0 a_2 = some r) [0] (fun a_2 => ([(3, .osl 0 3 (0) (a_2.length))], [(0, .arr 3 (enc a_2))])) 1 ?_ ?_
 ·
  intro _ Q7; refine sM ?_; refine w9 fun _ Q9 => ?_; refine q0a h [0, 6, 7] (fun x => ([(3, .osl 0 3 (0) (x.2.length)), (8, .v (.int .i64 x.1))], [(0, .arr 3 (enc x.2))])) 1 ?_; rintro m_2 ⟨t8_3, a_4⟩ h _ Q10; rw [qg8] at h; refine sM ?_; refine sg fun _ Q12 => ?_; refine sB h (fun _ h => ?_) fun _ h => ?_
  ·
   refine y5 (q8 Q12 (jg fun _ Q13 => ?_)); refine w9 fun _ Q14 => ?_; refine sg fun _ Q15 => ?_; obtain ⟨xv_5, F, h⟩ := bI F h; simp only [go_sem, F]; refine ai ?_; refine q8 Q15 (sM ?_); refine sB h (fun _ h => ?_) fun _ h => ?_
   ·
    have rf_8 : [[.v (.int .i64 xv_5.Rec.K), .v (.int .i64 xv_5.Rec.V), .v (.int .i64 xv_5.N)]] = enc ([xv_5] : List GItem) := by rfl
    obtain ⟨g_5, h⟩ := q0r h; have F := And.intro F g_5; simp only [List.length_cons, List.length_nil, Nat.zero_add, List.length_append] at g_5; have rf_9 : enc a_4 ++ [[.v (.int .i64 xv_5.Rec.K), .v (.int .i64 xv_5.Rec.V), .v (.int .i64 xv_5.N)]] = enc (a_4 ++ ([xv_5] : List GItem)) := by exact (q3h a_4 ([xv_5] : List GItem)).symm
    simp only [go_sem, g_5, rf_9]; simp only [rf_8]; exact au
   · exact au
  · exact au
 ·
  rintro a_2 h
  try dsimp only at h
  rw [qg7] at h; exact au
instance j1x (b_0 : List GItem) : Ct pp 93 (q8d b_0) [.sl 3 (enc b_0)] fun r => (.sl 3 (enc r)) := ⟨fun r h => (qo0 b_0  r h).pure leA⟩
def q04 (mv_0 : GProg_machine) (nv_0 : Int) : Option GProg_machine :=
 (if ((mv_0.stack.length : Int) == 8) = true then some (⟨mv_0.r, mv_0.stack, mv_0.out, mv_0.at_, 1⟩ : GProg_machine)
 else y9 ((mv_0.stack.length + List.length ([nv_0] : List Int)) * 8 ≤ 140737488355328) (
 some (⟨mv_0.r, (mv_0.stack ++ ([nv_0] : List Int)), mv_0.out, mv_0.at_, mv_0.bad⟩ : GProg_machine)))
theorem q0j (mv_0 : GProg_machine) (nv_0 : Int)  (r : GProg_machine) (h : q04 mv_0 nv_0 = some r) : DetS pp 165 [.ptr 0 0, .v (.int .i64 nv_0)] [(0, .box [.v (.int .i64 mv_0.r.K), .v (.int .i64 mv_0.r.V), .osl 1 1 (0) (mv_0.stack.length), .osl 2 2 (0) (mv_0.out.length), .v (.int .i64 mv_0.at_), .v (.int .i64 mv_0.bad)]), (1, .arr 1 (enc mv_0.stack)), (2, .arr 2 (enc mv_0.out))] 3 (.tup []) [(0, .box [.v (.int .i64 r.r.K), .v (.int .i64 r.r.V), .osl 3 1 (0) (r.stack.length), .osl 4 2 (0) (r.out.length), .v (.int .i64 r.at_), .v (.int .i64 r.bad)]), (3, .arr 1 (enc r.stack)), (4, .arr 2 (enc r.out))] 5 := by
 refine dtI Tryz.func165 rfl ?_; rw [q04] at h; have F := trivial; refine sg fun _ Q1 => ?_; refine sM ?_; refine sB h (fun _ h => ?_) fun _ h => ?_
 · exact au
 ·
  refine y5 (q8 Q1 ?_); have rf_0 : [[.v (.int .i64 nv_0)]] = enc ([nv_0] : List Int) := by rfl
  obtain ⟨g_0, h⟩ := q0r h; have F := And.intro F g_0; simp only [List.length_cons, List.length_nil, Nat.zero_add, List.length_append] at g_0; have rf_1 : enc mv_0.stack ++ [[.v (.int .i64 nv_0)]] = enc (mv_0.stack ++ ([nv_0] : List Int)) := by exact (q3h mv_0.stack ([nv_0] : List Int)).symm
  simp only [go_sem, g_0, rf_1]; simp only [rf_0]; obtain rfl := Option.some.inj h; refine q62 [some 4, some 2] ?_; exact leA
def q20 (mv_0 : GProg_machine) (xv_0 : GIns) : Option (Bool × GProg_machine) :=
 (if (xv_0.Op == 1) = true then q9 (q04 mv_0 xv_0.N) (fun v_0 =>
 some (true, v_0))
 else (if (xv_0.Op == 2) = true then q9 (q04 mv_0 mv_0.r.K) (fun v_1 =>
 some (true, v_1))
 else (if (xv_0.Op == 3) = true then q9 (q04 mv_0 mv_0.r.V) (fun v_2 =>
 some (true, v_2))
 else (if (xv_0.Op == 11) = true then (if (decide ((i64.wrap ((mv_0.stack.length : Int) - 1)) < 0)) = true then some (true, (⟨mv_0.r, mv_0.stack, mv_0.out, mv_0.at_, 1⟩ : GProg_machine))
 else y9 (0 ≤ i64.wrap ((mv_0.stack.length : Int) - 1) ∧ i64.wrap ((mv_0.stack.length : Int) - 1) ≤ (mv_0.stack.length : Int) ∧ (mv_0.stack.length : Int) ≤ (mv_0.stack.length : Int) ∧ (mv_0.stack.length : Int) ≤ (mv_0.stack.length : Int)) (
 y9 (0 ≤ 0 ∧ 0 ≤ i64.wrap ((mv_0.stack.length : Int) - 1) ∧ i64.wrap ((mv_0.stack.length : Int) - 1) ≤ (mv_0.stack.length : Int)) (
 y9 (0 < Int.toNat (mv_0.stack.length : Int) - Int.toNat (i64.wrap ((mv_0.stack.length : Int) - 1))) (
 q9 (idx (List.take (Int.toNat (mv_0.stack.length : Int) - Int.toNat (i64.wrap ((mv_0.stack.length : Int) - 1))) (List.drop (Int.toNat (i64.wrap ((mv_0.stack.length : Int) - 1))) mv_0.stack)) 0) (fun xv_1 =>
 q9 (q04 (⟨mv_0.r, (List.take (Int.toNat (i64.wrap ((mv_0.stack.length : Int) - 1))) mv_0.stack), mv_0.out, mv_0.at_, mv_0.bad⟩ : GProg_machine) xv_1) (fun v_3 =>
 q9 (q04 v_3 xv_1) (fun v_4 =>
 some (true, v_4))))))))
 else (if (xv_0.Op == 12) = true then (if (decide ((i64.wrap ((mv_0.stack.length : Int) - 2)) < 0)) = true then some (true, (⟨mv_0.r, mv_0.stack, mv_0.out, mv_0.at_, 1⟩ : GProg_machine))
 else y9 (0 ≤ i64.wrap ((mv_0.stack.length : Int) - 2) ∧ i64.wrap ((mv_0.stack.length : Int) - 2) ≤ (mv_0.stack.length : Int) ∧ (mv_0.stack.length : Int) ≤ (mv_0.stack.length : Int) ∧ (mv_0.stack.length : Int) ≤ (mv_0.stack.length : Int)) (
 y9 (0 ≤ 0 ∧ 0 ≤ i64.wrap ((mv_0.stack.length : Int) - 2) ∧ i64.wrap ((mv_0.stack.length : Int) - 2) ≤ (mv_0.stack.length : Int)) (
 y9 (0 < Int.toNat (mv_0.stack.length : Int) - Int.toNat (i64.wrap ((mv_0.stack.length : Int) - 2))) (
 q9 (idx (List.take (Int.toNat (mv_0.stack.length : Int) - Int.toNat (i64.wrap ((mv_0.stack.length : Int) - 2))) (List.drop (Int.toNat (i64.wrap ((mv_0.stack.length : Int) - 2))) mv_0.stack)) 0) (fun xv_2 =>
 q9 (idx (List.take (Int.toNat (mv_0.stack.length : Int) - Int.toNat (i64.wrap ((mv_0.stack.length : Int) - 2))) (List.drop (Int.toNat (i64.wrap ((mv_0.stack.length : Int) - 2))) mv_0.stack)) 1) (fun xv_3 =>
 q9 (q04 (⟨mv_0.r, (List.take (Int.toNat (i64.wrap ((mv_0.stack.length : Int) - 2))) mv_0.stack), mv_0.out, mv_0.at_, mv_0.bad⟩ : GProg_machine) xv_3) (fun v_5 =>
 q9 (q04 v_5 xv_2) (fun v_6 =>
 some (true, v_6)))))))))
 else (if (xv_0.Op == 13) = true then (if (decide ((i64.wrap ((mv_0.stack.length : Int) - 1)) < 0)) = true then some (true, (⟨mv_0.r, mv_0.stack, mv_0.out, mv_0.at_, 1⟩ : GProg_machine))
 else y9 (0 ≤ i64.wrap ((mv_0.stack.length : Int) - 1) ∧ i64.wrap ((mv_0.stack.length : Int) - 1) ≤ (mv_0.stack.length : Int) ∧ (mv_0.stack.length : Int) ≤ (mv_0.stack.length : Int) ∧ (mv_0.stack.length : Int) ≤ (mv_0.stack.length : Int)) (
 y9 (0 ≤ 0 ∧ 0 ≤ i64.wrap ((mv_0.stack.length : Int) - 1) ∧ i64.wrap ((mv_0.stack.length : Int) - 1) ≤ (mv_0.stack.length : Int)) (
 some (true, (⟨mv_0.r, (List.take (Int.toNat (i64.wrap ((mv_0.stack.length : Int) - 1))) mv_0.stack), mv_0.out, mv_0.at_, mv_0.bad⟩ : GProg_machine)))))
 else some (false, mv_0)))))))
theorem qb9 (mv_0 : GProg_machine) (xv_0 : GIns)  (r : Bool × GProg_machine) (h : q20 mv_0 xv_0 = some r) : DetS pp 162 [.ptr 0 0, .agg (Row.row xv_0)] [(0, .box [.v (.int .i64 mv_0.r.K), .v (.int .i64 mv_0.r.V), .osl 1 1 (0) (mv_0.stack.length), .osl 2 2 (0) (mv_0.out.length), .v (.int .i64 mv_0.at_), .v (.int .i64 mv_0.bad)]), (1, .arr 1 (enc mv_0.stack)), (2, .arr 2 (enc mv_0.out))] 3 (.v (.bool r.1)) [(0, .box [.v (.int .i64 r.2.r.K), .v (.int .i64 r.2.r.V), .osl 3 1 (0) (r.2.stack.length), .osl 4 2 (0) (r.2.out.length), .v (.int .i64 r.2.at_), .v (.int .i64 r.2.bad)]), (3, .arr 1 (enc r.2.stack)), (4, .arr 2 (enc r.2.out))] 5 := by
 refine dtI Tryz.func162 rfl ?_; rw [q20] at h; have F := trivial; refine sM ?_; refine jg fun _ Q2 => ?_; refine sM ?_; refine w9 fun _ Q4 => ?_; refine sM ?_; refine sB h (fun _ h => ?_) fun _ h => ?_
 · obtain ⟨v_0, ev_0, h⟩ := z8 h; simp only [go_sem]; refine q18 [0, 1, 2] (q0j mv_0 xv_0.N v_0 ev_0) ?_; simp only [go_sem]; exact au
 ·
  refine sM ?_; refine sB h (fun _ h => ?_) fun _ h => ?_
  · obtain ⟨v_1, ev_1, h⟩ := z8 h; simp only [go_sem]; refine q18 [0, 1, 2] (q0j mv_0 mv_0.r.K v_1 ev_1) ?_; simp only [go_sem]; exact au
  ·
   refine sM ?_; refine sB h (fun _ h => ?_) fun _ h => ?_
   · obtain ⟨v_2, ev_2, h⟩ := z8 h; simp only [go_sem]; refine q18 [0, 1, 2] (q0j mv_0 mv_0.r.V v_2 ev_2) ?_; simp only [go_sem]; exact au
   ·
    refine sM ?_; refine sB h (fun _ h => ?_) fun _ h => ?_
    ·
     refine sg fun _ Q12 => ?_; simp only [go_sem]; refine q4q Tryz.func163 rfl (by kernel_rfl) (by kernel_rfl) ?_; refine sM ?_; refine sM ?_; refine sg fun _ Q15 => ?_; refine sM ?_; refine sB h (fun _ h => ?_) fun _ h => ?_
     ·
      refine sM ?_; refine sM ?_; refine q05 (q0q Q15 ?_); simp only [go_sem]; refine q10 [] [(0, .box [.v (.int .i64 mv_0.r.K), .v (.int .i64 mv_0.r.V), .osl 1 1 (0) (mv_0.stack.length), .osl 2 2 (0) (mv_0.out.length), .v (.int .i64 mv_0.at_), .v (.int .i64 1)]), (1, .arr 1 (enc mv_0.stack)), (2, .arr 2 (enc mv_0.out)), (3, .box (Row.row xv_0))] 4 (.v (.slice none 0 0)) ?_ ?_
      · exact leA
      refine q1h ?_; simp only [go_sem]; exact au
     ·
      refine y5 (q8 Q15 (sg fun _ Q21 => ?_)); refine p9 ?_; refine j4u ?_; obtain ⟨F, h⟩ := bG F h; simp only [go_sem, F]; refine q8 Q21 (sg fun _ Q22 => ?_); obtain ⟨F, h⟩ := bG F h; simp only [go_sem, F]; refine q8 Q22 (sM ?_); refine q05 ?_; simp only [go_sem]; refine q10 [] [(0, .box [.v (.int .i64 mv_0.r.K), .v (.int .i64 mv_0.r.V), .osl 1 1 (0) (Int.toNat (i64.wrap ((mv_0.stack.length : Int) - 1))), .osl 2 2 (0) (mv_0.out.length), .v (.int .i64 mv_0.at_), .v (.int .i64 mv_0.bad)]), (1, .arr 1 (enc mv_0.stack)), (2, .arr 2 (enc mv_0.out)), (3, .box (Row.row xv_0))] 4 (.osl 1 1 (Int.toNat (i64.wrap ((mv_0.stack.length : Int) - 1))) (Int.toNat (mv_0.stack.length : Int) - Int.toNat (i64.wrap ((mv_0.stack.length : Int) - 1)))) ?_ ?_
      · exact leA
      refine q1h ?_; simp only [go_sem]; refine q8 Q12 (sg fun _ Q24 => ?_); obtain ⟨F, h⟩ := bG F h; simp only [go_sem, F]; refine ai ?_; refine q8 Q24 (j6g ?_); refine sg fun _ Q25 => ?_; obtain ⟨xv_1, ex1, h⟩ := z8 h; obtain ⟨f1a, f1b, f1c, fxv_1d⟩ := qd4 ex1; simp only [Int.toNat_natCast, Int.reduceToNat, Nat.zero_add, Nat.add_zero] at f1c fxv_1d; simp only [go_sem, f1a, f1b, f1c, fxv_1d]; refine ai ?_; refine q8 Q25 (sg fun _ Q26 => ?_); obtain ⟨v_3, ev_3, h⟩ := z8 h; simp only [go_sem]; refine q8g [0, 6] ([], [(0, .box [.v (.int .i64 mv_0.r.K), .v (.int .i64 mv_0.r.V), .osl 1 1 (0) (List.length (List.take (Int.toNat (i64.wrap ((mv_0.stack.length : Int) - 1))) mv_0.stack)), .osl 2 2 (0) (mv_0.out.length), .v (.int .i64 mv_0.at_), .v (.int .i64 mv_0.bad)]), (1, .arr 1 (enc (List.take (Int.toNat (i64.wrap ((mv_0.stack.length : Int) - 1))) mv_0.stack))), (2, .arr 2 (enc mv_0.out)), (3, .box (Row.row xv_0))]) 4 [some 3] [.ptr 0 0, .v (.int .i64 xv_1)] ?_; refine q18 [0, 1, 2] (q0j (⟨mv_0.r, (List.take (Int.toNat (i64.wrap ((mv_0.stack.length : Int) - 1))) mv_0.stack), mv_0.out, mv_0.at_, mv_0.bad⟩ : GProg_machine) xv_1 v_3 ev_3) ?_; simp only [go_sem]; refine q8 Q26 ?_; obtain ⟨v_4, ev_4, h⟩ := z8 h; simp only [go_sem]; refine q18 [0, 4, 5] (q0j v_3 xv_1 v_4 ev_4) ?_; simp only [go_sem]; exact au
    ·
     refine sM ?_; refine sB h (fun _ h => ?_) fun _ h => ?_
     ·
      refine sg fun _ Q29 => ?_; simp only [go_sem]; refine q4q Tryz.func163 rfl (by kernel_rfl) (by kernel_rfl) ?_; refine sM ?_; refine sM ?_; refine sg fun _ Q32 => ?_; refine sM ?_; refine sB h (fun _ h => ?_) fun _ h => ?_
      ·
       refine sM ?_; refine sM ?_; refine q05 (q0q Q32 ?_); simp only [go_sem]; refine q10 [] [(0, .box [.v (.int .i64 mv_0.r.K), .v (.int .i64 mv_0.r.V), .osl 1 1 (0) (mv_0.stack.length), .osl 2 2 (0) (mv_0.out.length), .v (.int .i64 mv_0.at_), .v (.int .i64 1)]), (1, .arr 1 (enc mv_0.stack)), (2, .arr 2 (enc mv_0.out)), (3, .box (Row.row xv_0))] 4 (.v (.slice none 0 0)) ?_ ?_
       · exact leA
       refine q1h ?_; simp only [go_sem]; exact au
      ·
       refine y5 (q8 Q32 (sg fun _ Q38 => ?_)); refine p9 ?_; refine j4u ?_; obtain ⟨F, h⟩ := bG F h; simp only [go_sem, F]; refine q8 Q38 (sg fun _ Q39 => ?_); obtain ⟨F, h⟩ := bG F h; simp only [go_sem, F]; refine q8 Q39 (sM ?_); refine q05 ?_; simp only [go_sem]; refine q10 [] [(0, .box [.v (.int .i64 mv_0.r.K), .v (.int .i64 mv_0.r.V), .osl 1 1 (0) (Int.toNat (i64.wrap ((mv_0.stack.length : Int) - 2))), .osl 2 2 (0) (mv_0.out.length), .v (.int .i64 mv_0.at_), .v (.int .i64 mv_0.bad)]), (1, .arr 1 (enc mv_0.stack)), (2, .arr 2 (enc mv_0.out)), (3, .box (Row.row xv_0))] 4 (.osl 1 1 (Int.toNat (i64.wrap ((mv_0.stack.length : Int) - 2))) (Int.toNat (mv_0.stack.length : Int) - Int.toNat (i64.wrap ((mv_0.stack.length : Int) - 2)))) ?_ ?_
       · exact leA
       refine q1h ?_; simp only [go_sem]; refine q8 Q29 (sg fun _ Q41 => ?_); obtain ⟨F, h⟩ := bG F h; simp only [go_sem, F]; refine ai ?_; refine q8 Q41 (j6g ?_); refine sg fun _ Q42 => ?_; refine p9 ?_; refine j4u ?_; obtain ⟨xv_2, ex2, h⟩ := z8 h; obtain ⟨f2a, f2b, f2c, fxv_2d⟩ := qd4 ex2; simp only [Int.toNat_natCast, Int.reduceToNat, Nat.zero_add, Nat.add_zero] at f2c fxv_2d; obtain ⟨xv_3, ex3, h⟩ := z8 h; obtain ⟨f3a, f3b, f3c, fxv_3d⟩ := qd4 ex3; simp only [Int.toNat_natCast, Int.reduceToNat, Nat.zero_add, Nat.add_zero] at f3c fxv_3d; simp only [go_sem, f2a, f2b, f2c, fxv_2d, f3a, f3b, f3c, fxv_3d]; refine ai ?_; refine ai ?_; refine q8 Q42 (sg fun _ Q43 => ?_); obtain ⟨v_5, ev_5, h⟩ := z8 h; simp only [go_sem]; refine q8g [0, 8] ([], [(0, .box [.v (.int .i64 mv_0.r.K), .v (.int .i64 mv_0.r.V), .osl 1 1 (0) (List.length (List.take (Int.toNat (i64.wrap ((mv_0.stack.length : Int) - 2))) mv_0.stack)), .osl 2 2 (0) (mv_0.out.length), .v (.int .i64 mv_0.at_), .v (.int .i64 mv_0.bad)]), (1, .arr 1 (enc (List.take (Int.toNat (i64.wrap ((mv_0.stack.length : Int) - 2))) mv_0.stack))), (2, .arr 2 (enc mv_0.out)), (3, .box (Row.row xv_0))]) 4 [some 3] [.ptr 0 0, .v (.int .i64 xv_3)] ?_; refine q18 [0, 1, 2] (q0j (⟨mv_0.r, (List.take (Int.toNat (i64.wrap ((mv_0.stack.length : Int) - 2))) mv_0.stack), mv_0.out, mv_0.at_, mv_0.bad⟩ : GProg_machine) xv_3 v_5 ev_5) ?_; simp only [go_sem]; refine q8 Q43 ?_; obtain ⟨v_6, ev_6, h⟩ := z8 h; simp only [go_sem]; refine q18 [0, 4, 5] (q0j v_5 xv_2 v_6 ev_6) ?_; simp only [go_sem]; exact au
     ·
      refine sM ?_; refine sB h (fun _ h => ?_) fun _ h => ?_
      ·
       simp only [go_sem]; refine q4q Tryz.func163 rfl (by kernel_rfl) (by kernel_rfl) ?_; refine sM ?_; refine sM ?_; refine sg fun _ Q48 => ?_; refine sM ?_; refine sB h (fun _ h => ?_) fun _ h => ?_
       ·
        refine sM ?_; refine sM ?_; refine q05 (q0q Q48 ?_); simp only [go_sem]; refine q10 [] [(0, .box [.v (.int .i64 mv_0.r.K), .v (.int .i64 mv_0.r.V), .osl 1 1 (0) (mv_0.stack.length), .osl 2 2 (0) (mv_0.out.length), .v (.int .i64 mv_0.at_), .v (.int .i64 1)]), (1, .arr 1 (enc mv_0.stack)), (2, .arr 2 (enc mv_0.out)), (3, .box (Row.row xv_0))] 4 (.v (.slice none 0 0)) ?_ ?_
        · exact leA
        refine q1h ?_; simp only [go_sem]; exact au
       ·
        refine y5 (q8 Q48 (sg fun _ Q53 => ?_)); refine p9 ?_; refine j4u ?_; obtain ⟨F, h⟩ := bG F h; simp only [go_sem, F]; refine q8 Q53 (sg fun _ Q54 => ?_); obtain ⟨F, h⟩ := bG F h; simp only [go_sem, F]; refine q8 Q54 (sM ?_); refine q05 ?_; simp only [go_sem]; refine q10 [] [(0, .box [.v (.int .i64 mv_0.r.K), .v (.int .i64 mv_0.r.V), .osl 1 1 (0) (Int.toNat (i64.wrap ((mv_0.stack.length : Int) - 1))), .osl 2 2 (0) (mv_0.out.length), .v (.int .i64 mv_0.at_), .v (.int .i64 mv_0.bad)]), (1, .arr 1 (enc mv_0.stack)), (2, .arr 2 (enc mv_0.out)), (3, .box (Row.row xv_0))] 4 (.osl 1 1 (Int.toNat (i64.wrap ((mv_0.stack.length : Int) - 1))) (Int.toNat (mv_0.stack.length : Int) - Int.toNat (i64.wrap ((mv_0.stack.length : Int) - 1)))) ?_ ?_
        · exact leA
        refine q1h ?_; simp only [go_sem]; exact au
      · exact au
def q72 (nv_0 : Int) : Option Int :=
 (if (decide (nv_0 < 0)) = true then some (IntKind.u64.wrap (0 - (IntKind.u64.wrap nv_0)))
 else some (IntKind.u64.wrap nv_0))
instance zq4 (nv_0 : Int) : Ct pp 169 (q72 nv_0) [.v (.int .i64 nv_0)] fun r => (.v (.int .u64 r)) := ctI Tryz.func169 rfl (by rw [q72]; exact au1)
def q30 (xv_0 : Int) (y_0 : Int) : Option (Int × Int) :=
 some (IntKind.u64.wrap ((IntKind.u64.wrap ((IntKind.u64.wrap ((q1x .u64 xv_0 32) * (q1x .u64 y_0 32))) + (q1x .u64 (IntKind.u64.wrap ((IntKind.u64.wrap ((q1x .u64 xv_0 32) * (qq8 .u64 y_0 4294967295))) + (q1x .u64 (IntKind.u64.wrap ((qq8 .u64 xv_0 4294967295) * (qq8 .u64 y_0 4294967295))) 32))) 32))) + (q1x .u64 (IntKind.u64.wrap ((qq8 .u64 (IntKind.u64.wrap ((IntKind.u64.wrap ((q1x .u64 xv_0 32) * (qq8 .u64 y_0 4294967295))) + (q1x .u64 (IntKind.u64.wrap ((qq8 .u64 xv_0 4294967295) * (qq8 .u64 y_0 4294967295))) 32))) 4294967295) + (IntKind.u64.wrap ((qq8 .u64 xv_0 4294967295) * (q1x .u64 y_0 32))))) 32)), IntKind.u64.wrap (xv_0 * y_0))
instance zk0 (xv_0 : Int) (y_0 : Int) : Ct pp 156 (q30 xv_0 y_0) [.v (.int .u64 xv_0), .v (.int .u64 y_0)] fun r => (.tup [.v (.int .u64 r.1), .v (.int .u64 r.2)]) := ctI Tryz.func156 rfl (by rw [q30]; exact au1)
def qe3 (a_0 : Int) (b_0 : Int) : Option (Int × Bool) :=
 q9 (q72 a_0) (fun v_0 =>
 q9 (q72 b_0) (fun v_1 =>
 q9 (q30 v_0 v_1) (fun v_2 =>
 (if (!((decide (a_0 < 0)) == (decide (b_0 < 0)))) = true then some (i64.wrap (0 - (i64.wrap v_2.2)), ((v_2.1 == 0) && (decide (v_2.2 ≤ 9223372036854775808))))
 else some (i64.wrap v_2.2, ((v_2.1 == 0) && (decide (v_2.2 < 9223372036854775808))))))))
instance j00 (a_0 : Int) (b_0 : Int) : Ct pp 167 (qe3 a_0 b_0) [.v (.int .i64 a_0), .v (.int .i64 b_0)] fun r => (.tup [.v (.int .i64 r.1), .v (.bool r.2)]) := ctI Tryz.func167 rfl (by rw [qe3]; exact au1)
def q8s (ok_0 : Bool) : Option Int :=
 (if ok_0 = true then some 1
 else some 0)
instance zz9 (ok_0 : Bool) : Ct pp 168 (q8s ok_0) [.v (.bool ok_0)] fun r => (.v (.int .i64 r)) := ctI Tryz.func168 rfl (by rw [q8s]; exact au1)
def q25 (nv_0 : Int) (ok_0 : Bool) : Option (Int × Int) :=
 (if (!ok_0) = true then some (0, 2)
 else some (nv_0, 0))
def q7y (op_0 : Int) (a_0 : Int) (b_0 : Int) (t53_1 : Bool) : Option (Int × Int) :=
 (if t53_1 = true then (if (b_0 == 0) = true then some (0, 3)
 else (if ((b_0 == (-1)) && (op_0 == 8)) = true then q25 0 true
 else (if (b_0 == (-1)) = true then q25 (i64.wrap (0 - a_0)) (!(a_0 == (-9223372036854775808)))
 else (if (op_0 == 7) = true then y9 (b_0 ≠ 0) (
 q25 (i64.wrap (Int.tdiv a_0 b_0)) true)
 else y9 (b_0 ≠ 0) (
 q25 (Int.tmod a_0 b_0) true)))))
 else (if (op_0 == 9) = true then q9 (q8s (decide (a_0 < b_0))) (fun v_4 =>
 q25 v_4 true)
 else (if (op_0 == 10) = true then q9 (q8s (a_0 == b_0)) (fun v_5 =>
 q25 v_5 true)
 else q25 0 true)))
def qn5 (op_0 : Int) (a_0 : Int) (b_0 : Int) : Option (Int × Int) :=
 (if (op_0 == 4) = true then q25 (i64.wrap (a_0 + b_0)) ((!((decide (a_0 < 0)) == (decide (b_0 < 0)))) || ((decide ((i64.wrap (a_0 + b_0)) < 0)) == (decide (a_0 < 0))))
 else (if (op_0 == 5) = true then q25 (i64.wrap (a_0 - b_0)) (((decide (a_0 < 0)) == (decide (b_0 < 0))) || ((decide ((i64.wrap (a_0 - b_0)) < 0)) == (decide (a_0 < 0))))
 else (if (op_0 == 6) = true then q9 (qe3 a_0 b_0) (fun v_3 =>
 q25 v_3.1 v_3.2)
 else (if (op_0 == 7) = true then q7y op_0 a_0 b_0 (op_0 == 7)
 else q7y op_0 a_0 b_0 (op_0 == 8)))))
instance z7s (op_0 : Int) (a_0 : Int) (b_0 : Int) : Ct pp 164 (qn5 op_0 a_0 b_0) [.v (.int .i64 op_0), .v (.int .i64 a_0), .v (.int .i64 b_0)] fun r => (.tup [.v (.int .i64 r.1), .v (.int .i64 r.2)]) := ctK Tryz.func164 rfl (by rw [qn5]) (by
 intro r h F; refine sM ?_; refine sM ?_; refine q2s (fun ((nv_0, ok_0) : Int × Bool) => q25 nv_0 ok_0 = some r) [] (fun x => ([(8, .v (.int .i64 x.1)), (9, .v (.bool x.2))], [])) 0 ?_ ?_
 ·
  intro _ Q7; refine sM ?_; refine w9 fun _ Q9 => ?_; refine sM ?_; refine sB h (fun _ h => ?_) fun _ h => ?_
  · exact au
  ·
   refine sM ?_; refine sB h (fun _ h => ?_) fun _ h => ?_
   · exact au
   ·
    refine sM ?_; refine sB h (fun _ h => ?_) fun _ h => ?_
    · exact au
    ·
     refine q2s (fun (t53_1 : Bool) => q7y op_0 a_0 b_0 t53_1 = some r) [0, 1, 2, 8, 9, 10] (fun t53_1 => ([(53, .v (.bool t53_1))], [])) 0 ?_ ?_
     · intro _ Q23; exact au
     ·
      rintro t53_1 h
      try dsimp only at h
      rw [q7y] at h; exact au
 ·
  rintro ⟨nv_0, ok_0⟩ h
  try dsimp only at h
  rw [q25] at h; exact au)
def q28 (mv_0 : GProg_machine) (xv_0 : GIns) : Option GProg_machine :=
 q9 (q20 (⟨mv_0.r, mv_0.stack, mv_0.out, i64.wrap (mv_0.at_ + 1), mv_0.bad⟩ : GProg_machine) xv_0) (fun v_0 =>
 (if v_0.1 = true then some v_0.2
 else (if (xv_0.Op == 14) = true then some (⟨v_0.2.r, v_0.2.stack, v_0.2.out, xv_0.N, v_0.2.bad⟩ : GProg_machine)
 else (if (xv_0.Op == 15) = true then (if (decide ((i64.wrap ((v_0.2.stack.length : Int) - 1)) < 0)) = true then some (⟨v_0.2.r, v_0.2.stack, v_0.2.out, v_0.2.at_, 1⟩ : GProg_machine)
 else y9 (0 ≤ i64.wrap ((v_0.2.stack.length : Int) - 1) ∧ i64.wrap ((v_0.2.stack.length : Int) - 1) ≤ (v_0.2.stack.length : Int) ∧ (v_0.2.stack.length : Int) ≤ (v_0.2.stack.length : Int) ∧ (v_0.2.stack.length : Int) ≤ (v_0.2.stack.length : Int)) (
 y9 (0 ≤ 0 ∧ 0 ≤ i64.wrap ((v_0.2.stack.length : Int) - 1) ∧ i64.wrap ((v_0.2.stack.length : Int) - 1) ≤ (v_0.2.stack.length : Int)) (
 y9 (0 < Int.toNat (v_0.2.stack.length : Int) - Int.toNat (i64.wrap ((v_0.2.stack.length : Int) - 1))) (
 q9 (idx (List.take (Int.toNat (v_0.2.stack.length : Int) - Int.toNat (i64.wrap ((v_0.2.stack.length : Int) - 1))) (List.drop (Int.toNat (i64.wrap ((v_0.2.stack.length : Int) - 1))) v_0.2.stack)) 0) (fun xv_1 =>
 (if (xv_1 == 0) = true then some (⟨v_0.2.r, (List.take (Int.toNat (i64.wrap ((v_0.2.stack.length : Int) - 1))) v_0.2.stack), v_0.2.out, xv_0.N, v_0.2.bad⟩ : GProg_machine)
 else some (⟨v_0.2.r, (List.take (Int.toNat (i64.wrap ((v_0.2.stack.length : Int) - 1))) v_0.2.stack), v_0.2.out, v_0.2.at_, v_0.2.bad⟩ : GProg_machine)))))))
 else (if (xv_0.Op == 16) = true then (if (decide ((i64.wrap ((v_0.2.stack.length : Int) - 2)) < 0)) = true then some (⟨v_0.2.r, v_0.2.stack, v_0.2.out, v_0.2.at_, 1⟩ : GProg_machine)
 else y9 (0 ≤ i64.wrap ((v_0.2.stack.length : Int) - 2) ∧ i64.wrap ((v_0.2.stack.length : Int) - 2) ≤ (v_0.2.stack.length : Int) ∧ (v_0.2.stack.length : Int) ≤ (v_0.2.stack.length : Int) ∧ (v_0.2.stack.length : Int) ≤ (v_0.2.stack.length : Int)) (
 y9 (0 ≤ 0 ∧ 0 ≤ i64.wrap ((v_0.2.stack.length : Int) - 2) ∧ i64.wrap ((v_0.2.stack.length : Int) - 2) ≤ (v_0.2.stack.length : Int)) (
 y9 (0 < Int.toNat (v_0.2.stack.length : Int) - Int.toNat (i64.wrap ((v_0.2.stack.length : Int) - 2))) (
 (if ((v_0.2.out.length : Int) == 8) = true then some (⟨v_0.2.r, (List.take (Int.toNat (i64.wrap ((v_0.2.stack.length : Int) - 2))) v_0.2.stack), v_0.2.out, v_0.2.at_, 5⟩ : GProg_machine)
 else q9 (idx (List.take (Int.toNat (v_0.2.stack.length : Int) - Int.toNat (i64.wrap ((v_0.2.stack.length : Int) - 2))) (List.drop (Int.toNat (i64.wrap ((v_0.2.stack.length : Int) - 2))) v_0.2.stack)) 0) (fun xv_2 =>
 q9 (idx (List.take (Int.toNat (v_0.2.stack.length : Int) - Int.toNat (i64.wrap ((v_0.2.stack.length : Int) - 2))) (List.drop (Int.toNat (i64.wrap ((v_0.2.stack.length : Int) - 2))) v_0.2.stack)) 1) (fun xv_3 =>
 y9 ((v_0.2.out.length + List.length ([(⟨xv_2, xv_3⟩ : GRec)] : List GRec)) * 16 ≤ 140737488355328) (
 some (⟨v_0.2.r, (List.take (Int.toNat (i64.wrap ((v_0.2.stack.length : Int) - 2))) v_0.2.stack), (v_0.2.out ++ ([(⟨xv_2, xv_3⟩ : GRec)] : List GRec)), v_0.2.at_, v_0.2.bad⟩ : GProg_machine)))))))))
 else (if (decide ((i64.wrap ((v_0.2.stack.length : Int) - 2)) < 0)) = true then some (⟨v_0.2.r, v_0.2.stack, v_0.2.out, v_0.2.at_, 1⟩ : GProg_machine)
 else y9 (0 ≤ i64.wrap ((v_0.2.stack.length : Int) - 2) ∧ i64.wrap ((v_0.2.stack.length : Int) - 2) ≤ (v_0.2.stack.length : Int) ∧ (v_0.2.stack.length : Int) ≤ (v_0.2.stack.length : Int) ∧ (v_0.2.stack.length : Int) ≤ (v_0.2.stack.length : Int)) (
 y9 (0 ≤ 0 ∧ 0 ≤ i64.wrap ((v_0.2.stack.length : Int) - 2) ∧ i64.wrap ((v_0.2.stack.length : Int) - 2) ≤ (v_0.2.stack.length : Int)) (
 y9 (0 < Int.toNat (v_0.2.stack.length : Int) - Int.toNat (i64.wrap ((v_0.2.stack.length : Int) - 2))) (
 q9 (idx (List.take (Int.toNat (v_0.2.stack.length : Int) - Int.toNat (i64.wrap ((v_0.2.stack.length : Int) - 2))) (List.drop (Int.toNat (i64.wrap ((v_0.2.stack.length : Int) - 2))) v_0.2.stack)) 0) (fun xv_4 =>
 q9 (idx (List.take (Int.toNat (v_0.2.stack.length : Int) - Int.toNat (i64.wrap ((v_0.2.stack.length : Int) - 2))) (List.drop (Int.toNat (i64.wrap ((v_0.2.stack.length : Int) - 2))) v_0.2.stack)) 1) (fun xv_5 =>
 q9 (qn5 xv_0.Op xv_4 xv_5) (fun v_1 =>
 q9 (q04 (⟨v_0.2.r, (List.take (Int.toNat (i64.wrap ((v_0.2.stack.length : Int) - 2))) v_0.2.stack), v_0.2.out, v_0.2.at_, v_1.2⟩ : GProg_machine) v_1.1) (fun v_2 =>
 some v_2)))))))))))))
theorem qe4 (mv_0 : GProg_machine) (xv_0 : GIns)  (r : GProg_machine) (h : q28 mv_0 xv_0 = some r) : DetS pp 155 [.ptr 0 0, .agg (Row.row xv_0)] [(0, .box [.v (.int .i64 mv_0.r.K), .v (.int .i64 mv_0.r.V), .osl 1 1 (0) (mv_0.stack.length), .osl 2 2 (0) (mv_0.out.length), .v (.int .i64 mv_0.at_), .v (.int .i64 mv_0.bad)]), (1, .arr 1 (enc mv_0.stack)), (2, .arr 2 (enc mv_0.out))] 3 (.tup []) [(0, .box [.v (.int .i64 r.r.K), .v (.int .i64 r.r.V), .osl 3 1 (0) (r.stack.length), .osl 4 2 (0) (r.out.length), .v (.int .i64 r.at_), .v (.int .i64 r.bad)]), (3, .arr 1 (enc r.stack)), (4, .arr 2 (enc r.out))] 5 := by
 refine dtI Tryz.func155 rfl ?_; rw [q28] at h; have F := trivial; refine sM ?_; refine sM ?_; refine sg fun _ Q3 => ?_; refine sg fun _ Q4 => ?_; obtain ⟨v_0, ev_0, h⟩ := z8 h; simp only [go_sem]; refine q18 [0, 1, 2] (qb9 (⟨mv_0.r, mv_0.stack, mv_0.out, i64.wrap (mv_0.at_ + 1), mv_0.bad⟩ : GProg_machine) xv_0 v_0 ev_0) ?_; simp only [go_sem]; refine q8 Q4 (sB h (fun _ h => ?_) fun _ h => ?_)
 · exact au
 ·
  refine y5 (q8 Q3 (sM ?_)); refine w9 fun _ Q6 => ?_; refine sM ?_; refine sB h (fun _ h => ?_) fun _ h => ?_
  · exact au
  ·
   refine sM ?_; refine sB h (fun _ h => ?_) fun _ h => ?_
   ·
    refine sg fun _ Q9 => ?_; simp only [go_sem]; refine q4q Tryz.func163 rfl (by kernel_rfl) (by kernel_rfl) ?_; refine sM ?_; refine sM ?_; refine sg fun _ Q12 => ?_; refine sM ?_; refine sB h (fun _ h => ?_) fun _ h => ?_
    ·
     refine sM ?_; refine sM ?_; refine q05 (q0q Q12 ?_); simp only [go_sem]; refine q10 [] [(0, .box [.v (.int .i64 v_0.2.r.K), .v (.int .i64 v_0.2.r.V), .osl 4 1 (0) (v_0.2.stack.length), .osl 5 2 (0) (v_0.2.out.length), .v (.int .i64 v_0.2.at_), .v (.int .i64 1)]), (3, .box (Row.row xv_0)), (4, .arr 1 (enc v_0.2.stack)), (5, .arr 2 (enc v_0.2.out))] 6 (.v (.slice none 0 0)) ?_ ?_
     · exact leA
     refine q1h ?_; simp only [go_sem]; exact au
    ·
     refine y5 (q8 Q12 (sg fun _ Q17 => ?_)); refine p9 ?_; refine j4u ?_; obtain ⟨F, h⟩ := bG F h; simp only [go_sem, F]; refine q8 Q17 (sg fun _ Q18 => ?_); obtain ⟨F, h⟩ := bG F h; simp only [go_sem, F]; refine q8 Q18 (sM ?_); refine q05 ?_; simp only [go_sem]; refine q10 [] [(0, .box [.v (.int .i64 v_0.2.r.K), .v (.int .i64 v_0.2.r.V), .osl 4 1 (0) (Int.toNat (i64.wrap ((v_0.2.stack.length : Int) - 1))), .osl 5 2 (0) (v_0.2.out.length), .v (.int .i64 v_0.2.at_), .v (.int .i64 v_0.2.bad)]), (3, .box (Row.row xv_0)), (4, .arr 1 (enc v_0.2.stack)), (5, .arr 2 (enc v_0.2.out))] 6 (.osl 4 1 (Int.toNat (i64.wrap ((v_0.2.stack.length : Int) - 1))) (Int.toNat (v_0.2.stack.length : Int) - Int.toNat (i64.wrap ((v_0.2.stack.length : Int) - 1)))) ?_ ?_
     · exact leA
     refine q1h ?_; simp only [go_sem]; refine q8 Q9 (sg fun _ Q20 => ?_); obtain ⟨F, h⟩ := bG F h; obtain ⟨xv_1, ex1, h⟩ := z8 h; obtain ⟨f1a, f1b, f1c, fxv_1d⟩ := qd4 ex1; simp only [Int.toNat_natCast, Int.reduceToNat, Nat.zero_add, Nat.add_zero] at f1c fxv_1d; simp only [go_sem, f1a, f1b, f1c, fxv_1d, F]; refine ai ?_; refine ai ?_; exact au
   ·
    refine sM ?_; refine sB h (fun _ h => ?_) fun _ h => ?_
    ·
     refine sg fun _ Q22 => ?_; simp only [go_sem]; refine q4q Tryz.func163 rfl (by kernel_rfl) (by kernel_rfl) ?_; refine sM ?_; refine sM ?_; refine sg fun _ Q25 => ?_; refine sM ?_; refine sB h (fun _ h => ?_) fun _ h => ?_
     ·
      refine sM ?_; refine sM ?_; refine q05 (q0q Q25 ?_); simp only [go_sem]; refine q10 [] [(0, .box [.v (.int .i64 v_0.2.r.K), .v (.int .i64 v_0.2.r.V), .osl 4 1 (0) (v_0.2.stack.length), .osl 5 2 (0) (v_0.2.out.length), .v (.int .i64 v_0.2.at_), .v (.int .i64 1)]), (3, .box (Row.row xv_0)), (4, .arr 1 (enc v_0.2.stack)), (5, .arr 2 (enc v_0.2.out))] 6 (.v (.slice none 0 0)) ?_ ?_
      · exact leA
      refine q1h ?_; simp only [go_sem]; exact au
     ·
      refine y5 (q8 Q25 (sg fun _ Q31 => ?_)); refine p9 ?_; refine j4u ?_; obtain ⟨F, h⟩ := bG F h; simp only [go_sem, F]; refine q8 Q31 (sg fun _ Q32 => ?_); obtain ⟨F, h⟩ := bG F h; simp only [go_sem, F]; refine q8 Q32 (sM ?_); refine q05 ?_; simp only [go_sem]; refine q10 [] [(0, .box [.v (.int .i64 v_0.2.r.K), .v (.int .i64 v_0.2.r.V), .osl 4 1 (0) (Int.toNat (i64.wrap ((v_0.2.stack.length : Int) - 2))), .osl 5 2 (0) (v_0.2.out.length), .v (.int .i64 v_0.2.at_), .v (.int .i64 v_0.2.bad)]), (3, .box (Row.row xv_0)), (4, .arr 1 (enc v_0.2.stack)), (5, .arr 2 (enc v_0.2.out))] 6 (.osl 4 1 (Int.toNat (i64.wrap ((v_0.2.stack.length : Int) - 2))) (Int.toNat (v_0.2.stack.length : Int) - Int.toNat (i64.wrap ((v_0.2.stack.length : Int) - 2)))) ?_ ?_
      · exact leA
      refine q1h ?_; simp only [go_sem]; refine q8 Q22 (w9 fun _ Q34 => ?_); refine sg fun _ Q35 => ?_; obtain ⟨F, h⟩ := bG F h; simp only [go_sem, F]; refine ai ?_; refine q8 Q35 (j6h ?_); refine sM ?_; refine sB h (fun _ h => ?_) fun _ h => ?_
      · exact au
      ·
       refine p9 ?_; refine q2n 14 0 0 [0, 0, 2, 6, 14, 0, 32, 96, 0, 256, 768, 2016, 4064, 8190, 16383, 32767, 65535] [5, 6] [0] [] [13] [] mixed (by kernel_rfl) (of_decide_eq_true (by kernel_rfl)) (by kernel_rfl) (by kernel_rfl) (by rfl) ?_; obtain ⟨xv_2, ex2, h⟩ := z8 h; obtain ⟨f2a, f2b, f2c, fxv_2d⟩ := qd4 ex2; simp only [Int.toNat_natCast, Int.reduceToNat, Nat.zero_add, Nat.add_zero] at f2c fxv_2d; obtain ⟨xv_3, ex3, h⟩ := z8 h; obtain ⟨f3a, f3b, f3c, fxv_3d⟩ := qd4 ex3; simp only [Int.toNat_natCast, Int.reduceToNat, Nat.zero_add, Nat.add_zero] at f3c fxv_3d; have rf_0 : [[.v (.int .i64 xv_2), .v (.int .i64 xv_3)]] = enc ([(⟨xv_2, xv_3⟩ : GRec)] : List GRec) := by rfl
       obtain ⟨g_6, h⟩ := q0r h; have F := And.intro F g_6; simp only [List.length_cons, List.length_nil, Nat.zero_add, List.length_append] at g_6; have rf_1 : enc v_0.2.out ++ [[.v (.int .i64 xv_2), .v (.int .i64 xv_3)]] = enc (v_0.2.out ++ ([(⟨xv_2, xv_3⟩ : GRec)] : List GRec)) := by exact (q3h v_0.2.out ([(⟨xv_2, xv_3⟩ : GRec)] : List GRec)).symm
       simp only [go_sem, f2a, f2b, f2c, fxv_2d, f3a, f3b, f3c, fxv_3d, g_6, rf_1]; refine ai ?_; refine ai ?_; simp only [rf_0]; exact au
    ·
     refine sg fun _ Q37 => ?_; simp only [go_sem]; refine q4q Tryz.func163 rfl (by kernel_rfl) (by kernel_rfl) ?_; refine sM ?_; refine sM ?_; refine sg fun _ Q40 => ?_; refine sM ?_; refine sB h (fun _ h => ?_) fun _ h => ?_
     ·
      refine sM ?_; refine sM ?_; refine q05 (q0q Q40 ?_); simp only [go_sem]; refine q10 [] [(0, .box [.v (.int .i64 v_0.2.r.K), .v (.int .i64 v_0.2.r.V), .osl 4 1 (0) (v_0.2.stack.length), .osl 5 2 (0) (v_0.2.out.length), .v (.int .i64 v_0.2.at_), .v (.int .i64 1)]), (3, .box (Row.row xv_0)), (4, .arr 1 (enc v_0.2.stack)), (5, .arr 2 (enc v_0.2.out))] 6 (.v (.slice none 0 0)) ?_ ?_
      · exact leA
      refine q1h ?_; simp only [go_sem]; exact au
     ·
      refine y5 (q8 Q40 (sg fun _ Q45 => ?_)); refine p9 ?_; refine j4u ?_; obtain ⟨F, h⟩ := bG F h; simp only [go_sem, F]; refine q8 Q45 (sg fun _ Q46 => ?_); obtain ⟨F, h⟩ := bG F h; simp only [go_sem, F]; refine q8 Q46 (sM ?_); refine q05 ?_; simp only [go_sem]; refine q10 [] [(0, .box [.v (.int .i64 v_0.2.r.K), .v (.int .i64 v_0.2.r.V), .osl 4 1 (0) (Int.toNat (i64.wrap ((v_0.2.stack.length : Int) - 2))), .osl 5 2 (0) (v_0.2.out.length), .v (.int .i64 v_0.2.at_), .v (.int .i64 v_0.2.bad)]), (3, .box (Row.row xv_0)), (4, .arr 1 (enc v_0.2.stack)), (5, .arr 2 (enc v_0.2.out))] 6 (.osl 4 1 (Int.toNat (i64.wrap ((v_0.2.stack.length : Int) - 2))) (Int.toNat (v_0.2.stack.length : Int) - Int.toNat (i64.wrap ((v_0.2.stack.length : Int) - 2)))) ?_ ?_
      · exact leA
      refine q1h ?_; simp only [go_sem]; refine q8 Q37 (sg fun _ Q48 => ?_); obtain ⟨F, h⟩ := bG F h; simp only [go_sem, F]; refine ai ?_; refine q8 Q48 (j6g ?_); refine sg fun _ Q49 => ?_; refine p9 ?_; refine j4u ?_; obtain ⟨xv_4, ex4, h⟩ := z8 h; obtain ⟨f4a, f4b, f4c, fxv_4d⟩ := qd4 ex4; simp only [Int.toNat_natCast, Int.reduceToNat, Nat.zero_add, Nat.add_zero] at f4c fxv_4d; obtain ⟨xv_5, ex5, h⟩ := z8 h; obtain ⟨f5a, f5b, f5c, fxv_5d⟩ := qd4 ex5; simp only [Int.toNat_natCast, Int.reduceToNat, Nat.zero_add, Nat.add_zero] at f5c fxv_5d; obtain ⟨v_1, ev_1, h⟩ := z8 h; simp only [go_sem, f4a, f4b, f4c, fxv_4d, f5a, f5b, f5c, fxv_5d]; refine ai ?_; refine ai ?_; refine callq (fun _ => (z7s xv_0.Op xv_4 xv_5 v_1 ev_1)) (by rfl) (by rfl) ?_; simp only [go_sem]; refine q8 Q49 (sM ?_); obtain ⟨v_2, ev_2, h⟩ := z8 h; simp only [go_sem]; refine q8g [] ([], [(0, .box [.v (.int .i64 v_0.2.r.K), .v (.int .i64 v_0.2.r.V), .osl 4 1 (0) (List.length (List.take (Int.toNat (i64.wrap ((v_0.2.stack.length : Int) - 2))) v_0.2.stack)), .osl 5 2 (0) (v_0.2.out.length), .v (.int .i64 v_0.2.at_), .v (.int .i64 v_1.2)]), (3, .box (Row.row xv_0)), (4, .arr 1 (enc (List.take (Int.toNat (i64.wrap ((v_0.2.stack.length : Int) - 2))) v_0.2.stack))), (5, .arr 2 (enc v_0.2.out))]) 6 [some 3, some 4, some 5] [.ptr 0 0, .v (.int .i64 v_1.1)] ?_; refine q18 [0, 4, 5] (q0j (⟨v_0.2.r, (List.take (Int.toNat (i64.wrap ((v_0.2.stack.length : Int) - 2))) v_0.2.stack), v_0.2.out, v_0.2.at_, v_1.2⟩ : GProg_machine) v_1.1 v_2 ev_2) ?_; simp only [go_sem]; exact au
def q7z (rv_0 : GRec) (b_8 : Int) (b_9 : Int) (b_10 : Int) (b_11 : Int) (a_4 : List Int) (a_5 : List GRec) : Option ((List GRec) × Int) :=
 (if (!(b_11 == 0)) = true then some (([(⟨rv_0.K, i64.wrap ((-9223372036854775808) + b_11)⟩ : GRec)] : List GRec), b_11)
 else some (a_5, 0))
def qt6 (p_0 : List GIns) (rv_0 : GRec) (rec_2 : Int × Int × Int × Int × Int × (List Int) × (List GRec) → Option ((List GRec) × Int)) : Int × Int × Int × Int × Int × (List Int) × (List GRec) → Option ((List GRec) × Int) :=
 fun (fuel_3, b_16, b_17, b_18, b_19, a_8, a_9) =>
 (if ((decide (b_18 < (p_0.length : Int))) && (b_19 == 0)) = true then (if (fuel_3 == 0) = true then q7z rv_0 b_16 b_17 b_18 4 a_8 a_9
 else q9 (idx p_0 b_18) (fun xv_5 =>
 q9 (q28 (⟨(⟨b_16, b_17⟩ : GRec), a_8, a_9, b_18, b_19⟩ : GProg_machine) xv_5) (fun v_6 =>
 rec_2 (i64.wrap (fuel_3 - 1), v_6.r.K, v_6.r.V, v_6.at_, v_6.bad, v_6.stack, v_6.out))))
 else q7z rv_0 b_16 b_17 b_18 b_19 a_8 a_9)
def qn6 (p_0 : List GIns) (rv_0 : GRec) : Option ((List GRec) × Int) :=
 q9 (q6e p_0) (fun v_0 =>
 (if (!v_0) = true then some (([] : List GRec), 0)
 else u7 (qt6 p_0 rv_0) rounds (256, rv_0.K, rv_0.V, 0, 0, [], [])))
instance j2q (p_0 : List GIns) (rv_0 : GRec) : Ct pp 145 (qn6 p_0 rv_0) [.sl 2 (enc p_0), .agg (Row.row rv_0)] fun r => (.tup [.sl 2 (enc r.1), .v (.int .i64 r.2)]) := ctK Tryz.func145 rfl (by rw [qn6]) (by
 intro r h F; refine sM ?_; refine sg fun _ Q2 => ?_; refine sg fun _ Q3 => ?_; simp only [go_sem]; refine q1s h fun v_0 h => ?_; simp only [go_sem]; refine q8 Q3 (sB h (fun _ h => ?_) fun _ h => ?_)
 · exact au
 ·
  refine y5 (q8 Q2 (sM ?_)); refine q2s (fun ((b_8, b_9, b_10, b_11, a_4, a_5) : Int × Int × Int × Int × (List Int) × (List GRec)) => q7z rv_0 b_8 b_9 b_10 b_11 a_4 a_5 = some r) [3, 6] (fun x => ([], [(0, .box (Row.row rv_0)), (1, .box [.v (.int .i64 x.1), .v (.int .i64 x.2.1), .osl 2 1 (0) (x.2.2.2.2.1.length), .osl 3 2 (0) (x.2.2.2.2.2.length), .v (.int .i64 x.2.2.1), .v (.int .i64 x.2.2.2.1)]), (2, .arr 1 (enc x.2.2.2.2.1)), (3, .arr 2 (enc x.2.2.2.2.2))])) 4 ?_ ?_
  ·
   intro _ Q10; refine sM ?_; refine w9 fun _ Q12 => ?_; refine q0a h [0, 3, 6] (fun x => ([(7, .v (.int .i64 x.1))], [(0, .box (Row.row rv_0)), (1, .box [.v (.int .i64 x.2.1), .v (.int .i64 x.2.2.1), .osl 2 1 (0) (x.2.2.2.2.2.1.length), .osl 3 2 (0) (x.2.2.2.2.2.2.length), .v (.int .i64 x.2.2.2.1), .v (.int .i64 x.2.2.2.2.1)]), (2, .arr 1 (enc x.2.2.2.2.2.1)), (3, .arr 2 (enc x.2.2.2.2.2.2))])) 4 ?_; rintro m_2 ⟨fuel_3, b_16, b_17, b_18, b_19, a_8, a_9⟩ h _ Q13; rw [qt6] at h; refine sg fun _ Q14 => ?_; refine sM ?_; refine sB h (fun _ h => ?_) fun _ h => ?_
   ·
    refine y5 (q8 Q14 (sg fun _ Q16 => ?_)); refine w9 fun _ Q17 => ?_; refine sg fun _ Q18 => ?_; refine sM ?_; refine sB h (fun _ h => ?_) fun _ h => ?_
    · exact au
    · refine y5 (q8 Q18 ?_); obtain ⟨xv_5, F, h⟩ := bI F h; obtain ⟨v_6, ev_6, h⟩ := z8 h; simp only [go_sem, F]; refine ai ?_; refine q18 [1, 2, 3] (qe4 (⟨(⟨b_16, b_17⟩ : GRec), a_8, a_9, b_18, b_19⟩ : GProg_machine) xv_5 v_6 ev_6) ?_; simp only [go_sem]; exact au
   · exact au
  ·
   rintro ⟨b_8, b_9, b_10, b_11, a_4, a_5⟩ h
   try dsimp only at h
   rw [q7z] at h; refine sg fun _ Q6 => ?_; refine sM ?_; refine sB h (fun _ h => ?_) fun _ h => ?_
   ·
    refine sg fun _ Q8 => ?_; refine p9 ?_; refine j4u ?_; have rf_0 : [[.v (.int .i64 rv_0.K), .v (.int .i64 (i64.wrap ((-9223372036854775808) + b_11)))]] = enc ([(⟨rv_0.K, i64.wrap ((-9223372036854775808) + b_11)⟩ : GRec)] : List GRec) := by rfl
    simp only [go_sem]; simp only [rf_0]; exact au
   · exact au)
def qa8 (k_0 : Int) : Option GRec :=
 some (⟨k_0, -9223372036854775806⟩ : GRec)
instance j1s (k_0 : Int) : Ct pp 146 (qa8 k_0) [.v (.int .i64 k_0)] fun r => (.agg (Row.row r)) := ctI Tryz.func146 rfl (by rw [qa8]; exact au1)
def q82 (k_0 : Int) (a_0 : Int) (b_0 : Int) : Option GRec :=
 (if (((decide (a_0 < 0)) == (decide (b_0 < 0))) && (!((decide ((i64.wrap (a_0 + b_0)) < 0)) == (decide (a_0 < 0))))) = true then q9 (qa8 k_0) (fun v_0 =>
 some v_0)
 else some (⟨k_0, i64.wrap (a_0 + b_0)⟩ : GRec))
instance z7t (k_0 : Int) (a_0 : Int) (b_0 : Int) : Ct pp 123 (q82 k_0 a_0 b_0) [.v (.int .i64 k_0), .v (.int .i64 a_0), .v (.int .i64 b_0)] fun r => (.agg (Row.row r)) := ctI Tryz.func123 rfl (by rw [q82]; exact au1)
def q7g (xv_0 : GNode) (rv_0 : GRec) : Option (List GRec) :=
 (if (xv_0.Kind == 2) = true then q9 (qn6 xv_0.Prog rv_0) (fun v_0 =>
 some v_0.1)
 else (if (xv_0.Kind == 3) = true then q9 (q82 rv_0.K rv_0.V xv_0.Arg) (fun v_1 =>
 some ([v_1] : List GRec))
 else (if (xv_0.Kind == 4) = true then (if (decide (xv_0.Arg < 1)) = true then some ([] : List GRec)
 else y9 (xv_0.Arg ≠ 0) (
 (if (!((Int.tmod rv_0.V xv_0.Arg) == 0)) = true then some ([] : List GRec)
 else some ([rv_0] : List GRec))))
 else some ([rv_0] : List GRec))))
instance j04 (xv_0 : GNode) (rv_0 : GRec) : Ct pp 120 (q7g xv_0 rv_0) [.agg (Row.row xv_0), .agg (Row.row rv_0)] fun r => (.sl 2 (enc r)) := ctK Tryz.func120 rfl (by rw [q7g]) (by
 intro r h F; refine sM ?_; refine jg fun _ Q2 => ?_; refine sM ?_; refine w9 fun _ Q4 => ?_; refine sM ?_; refine sB h (fun _ h => ?_) fun _ h => ?_
 · exact au
 ·
  refine sM ?_; refine sB h (fun _ h => ?_) fun _ h => ?_
  ·
   refine sg fun _ Q9 => ?_; simp only [go_sem]; refine q1s h fun v_1 h => ?_; have rf_0 : [[.v (.int .i64 v_1.K), .v (.int .i64 v_1.V)]] = enc ([v_1] : List GRec) := by rfl
   simp only [go_sem]; simp only [rf_0]; exact au
  ·
   refine sM ?_; refine sB h (fun _ h => ?_) fun _ h => ?_
   ·
    refine sg fun _ Q11 => ?_; simp only [go_sem]; rcases hb_3 : (decide (xv_0.Arg < 1)) with _ | _
    ·
     replace h := q5g h hb_3; obtain ⟨F, h⟩ := bG F h; simp only [go_sem, hb_3, F]; refine q8 Q11 (sB h (fun _ h => ?_) fun _ h => ?_)
     · exact au
     ·
      refine y5 (q0b Q4 (q8 Q2 (sg fun _ Q13 => ?_))); have rf_1 : [[.v (.int .i64 rv_0.K), .v (.int .i64 rv_0.V)]] = enc ([rv_0] : List GRec) := by rfl
      simp only [go_sem]; simp only [rf_1]; exact au
    · replace h := q5f h hb_3; simp only [go_sem, hb_3]; exact au
   ·
    refine y5 (q0b Q4 (q8 Q2 (sg fun _ Q15 => ?_))); have rf_2 : [[.v (.int .i64 rv_0.K), .v (.int .i64 rv_0.V)]] = enc ([rv_0] : List GRec) := by rfl
    simp only [go_sem]; simp only [rf_2]; exact au)
def q0x (mv_0 : GOps_maker) (rv_0 : GRec) (nv_0 : Int) : Option (Bool × GOps_maker) :=
 (if (decide ((i64.wrap (65536 - mv_0.many)) < nv_0)) = true then some (false, mv_0)
 else y9 ((mv_0.out.length + List.length ([(⟨rv_0, nv_0⟩ : GItem)] : List GItem)) * 24 ≤ 140737488355328) (
 some (true, (⟨(mv_0.out ++ ([(⟨rv_0, nv_0⟩ : GItem)] : List GItem)), i64.wrap (mv_0.many + nv_0)⟩ : GOps_maker))))
theorem q2b (mv_0 : GOps_maker) (rv_0 : GRec) (nv_0 : Int)  (r : Bool × GOps_maker) (h : q0x mv_0 rv_0 nv_0 = some r) : DetS pp 96 [.ptr 0 0, .agg (Row.row rv_0), .v (.int .i64 nv_0)] [(0, .box [.osl 1 3 (0) (mv_0.out.length), .v (.int .i64 mv_0.many)]), (1, .arr 3 (enc mv_0.out))] 2 (.v (.bool r.1)) [(0, .box [.osl 2 3 (0) (r.2.out.length), .v (.int .i64 r.2.many)]), (2, .arr 3 (enc r.2.out))] 3 := by
 refine dtI Tryz.func96 rfl ?_; rw [q0x] at h; have F := trivial; refine sM ?_; refine sg fun _ Q2 => ?_; refine sM ?_; refine sB h (fun _ h => ?_) fun _ h => ?_
 · exact au
 ·
  refine y5 (q8 Q2 (sM ?_)); refine sg fun _ Q6 => ?_; refine p9 ?_; refine q2n 10 0 0 [0, 0, 2, 6, 14, 0, 0, 96, 224, 510, 1023, 2047, 4095] [1, 3] [0] [] [9] [] mixed (by kernel_rfl) (of_decide_eq_true (by kernel_rfl)) (by kernel_rfl) (by kernel_rfl) (by rfl) ?_; have rf_0 : [[.v (.int .i64 rv_0.K), .v (.int .i64 rv_0.V), .v (.int .i64 nv_0)]] = enc ([(⟨rv_0, nv_0⟩ : GItem)] : List GItem) := by rfl
  obtain ⟨g_0, h⟩ := q0r h; have F := And.intro F g_0; simp only [List.length_cons, List.length_nil, Nat.zero_add, List.length_append] at g_0; have rf_1 : enc mv_0.out ++ [[.v (.int .i64 rv_0.K), .v (.int .i64 rv_0.V), .v (.int .i64 nv_0)]] = enc (mv_0.out ++ ([(⟨rv_0, nv_0⟩ : GItem)] : List GItem)) := by exact (q3h mv_0.out ([(⟨rv_0, nv_0⟩ : GItem)] : List GItem)).symm
  simp only [go_sem, g_0, rf_1]; simp only [rf_0]; exact au
def q40 (t13_1 : Int) (rec_1 : (Int × Int × (List GItem) → Option (Bool × GOps_maker))) (xv_9 : GItem) (v_8 : List GRec) (rec_2 : Int × Int × (List GItem) → Option (Bool × GOps_maker)) : Int × Int × (List GItem) → Option (Bool × GOps_maker) :=
 fun (t22_5, b_8, a_7) =>
 (if (decide (t22_5 < (v_8.length : Int))) = true then q9 (idx v_8 t22_5) (fun xv_12 =>
 q9 (q0x (⟨a_7, b_8⟩ : GOps_maker) xv_12 xv_9.N) (fun v_11 =>
 (if (!v_11.1) = true then some (false, v_11.2)
 else rec_2 (i64.wrap (t22_5 + 1), v_11.2.many, v_11.2.out))))
 else rec_1 (i64.wrap (t13_1 + 1), b_8, a_7))
def q41 (xv_0 : GNode) (b_0 : List GItem) (rec_1 : Int × Int × (List GItem) → Option (Bool × GOps_maker)) : Int × Int × (List GItem) → Option (Bool × GOps_maker) :=
 fun (t13_1, b_6, a_5) =>
 (if (decide (t13_1 < (b_0.length : Int))) = true then q9 (idx b_0 t13_1) (fun xv_9 =>
 q9 (q7g xv_0 xv_9.Rec) (fun v_8 =>
 u7 (q40 t13_1 rec_1 xv_9 v_8) rounds (0, b_6, a_5)))
 else some (true, (⟨a_5, b_6⟩ : GOps_maker)))
def q1u (mv_0 : GOps_maker) (xv_0 : GNode) (b_0 : List GItem) : Option (Bool × GOps_maker) :=
 u7 (q41 xv_0 b_0) rounds (0, mv_0.many, mv_0.out)
theorem q5j (mv_0 : GOps_maker) (xv_0 : GNode) (b_0 : List GItem)  (r : Bool × GOps_maker) (h : q1u mv_0 xv_0 b_0 = some r) : DetS pp 94 [.ptr 0 0, .agg (Row.row xv_0), .sl 3 (enc b_0)] [(0, .box [.osl 1 3 (0) (mv_0.out.length), .v (.int .i64 mv_0.many)]), (1, .arr 3 (enc mv_0.out))] 2 (.v (.bool r.1)) [(0, .box [.osl 2 3 (0) (r.2.out.length), .v (.int .i64 r.2.many)]), (2, .arr 3 (enc r.2.out))] 3 := by
 refine dtI Tryz.func94 rfl ?_; rw [q1u] at h; have F := trivial; refine sM ?_; refine jg fun _ Q2 => ?_; refine sM ?_; refine w9 fun _ Q4 => ?_; refine q0a h [0, 4, 11, 12] (fun x => ([(13, .v (.int .i64 x.1))], [(0, .box [.osl 3 3 (0) (x.2.2.length), .v (.int .i64 x.2.1)]), (2, .box (Row.row xv_0)), (3, .arr 3 (enc x.2.2))])) 4 ?_; rintro m_1 ⟨t13_1, b_6, a_5⟩ h _ Q5; rw [q41] at h; refine sM ?_; refine sg fun _ Q7 => ?_; refine sB h (fun _ h => ?_) fun _ h => ?_
 ·
  refine y5 (q8 Q7 (jg fun _ Q8 => ?_)); refine w9 fun _ Q9 => ?_; refine sg fun _ Q10 => ?_; obtain ⟨xv_9, F, h⟩ := bI F h; simp only [go_sem, F]; refine ai ?_; refine q8 Q10 (sg fun _ Q11 => ?_); simp only [go_sem]; refine q1s h fun v_8 h => ?_; simp only [go_sem]; refine q8 Q11 (w9 fun _ Q12 => ?_); refine q0a h [0, 4, 11, 12, 13, 20, 21] (fun x => ([(8, .ptr 3 0), (22, .v (.int .i64 x.1))], [(0, .box [.osl 4 3 (0) (x.2.2.length), .v (.int .i64 x.2.1)]), (2, .box (Row.row xv_0)), (3, .box (Row.row xv_9)), (4, .arr 3 (enc x.2.2))])) 5 ?_; rintro m_2 ⟨t22_5, b_8, a_7⟩ h _ Q13; rw [q40] at h; refine sM ?_; refine sg fun _ Q15 => ?_; refine sB h (fun _ h => ?_) fun _ h => ?_
  · refine y5 (q8 Q15 (sg fun _ Q16 => ?_)); refine w9 fun _ Q17 => ?_; refine sg fun _ Q18 => ?_; obtain ⟨xv_12, F, h⟩ := bI F h; simp only [go_sem, F]; refine ai ?_; refine q8 Q18 (sg fun _ Q19 => ?_); obtain ⟨v_11, ev_11, h⟩ := z8 h; simp only [go_sem]; refine q18 [0, 4] (q2b (⟨a_7, b_8⟩ : GOps_maker) xv_12 xv_9.N v_11 ev_11) ?_; simp only [go_sem]; exact au
  · exact au
 · exact au
def q4p (mv_0 : GOps_maker) (rec_1 : Int × (List GItem) → Option ((List GItem) × GOps_maker)) : Int × (List GItem) → Option ((List GItem) × GOps_maker) :=
 fun (t11_1, a_1) =>
 (if (decide (t11_1 < (mv_0.out.length : Int))) = true then q9 (idx mv_0.out t11_1) (fun xv_2 =>
 q9 (ql4 a_1 xv_2.Rec xv_2.N) (fun v_2 =>
 rec_1 (i64.wrap (t11_1 + 1), v_2)))
 else some (a_1, mv_0))
def q4c (mv_0 : GOps_maker) : Option ((List GItem) × GOps_maker) :=
 u7 (q4p mv_0) rounds (0, [])
theorem qq4 (mv_0 : GOps_maker)  (r : (List GItem) × GOps_maker) (h : q4c mv_0 = some r) : DetS pp 99 [.ptr 0 0] [(0, .box [.osl 1 3 (0) (mv_0.out.length), .v (.int .i64 mv_0.many)]), (1, .arr 3 (enc mv_0.out))] 2 (.osl 2 3 (0) (r.1.length)) [(0, .box [.osl 3 3 (0) (r.2.out.length), .v (.int .i64 r.2.many)]), (2, .arr 3 (enc r.1)), (3, .arr 3 (enc r.2.out))] 4 := by
 refine dtI Tryz.func99 rfl ?_; rw [q4c] at h; have F := trivial; refine sM ?_; refine sM ?_; refine jg fun _ Q3 => ?_; refine sM ?_; refine w9 fun _ Q5 => ?_; refine q0a h [9, 10] (fun x => ([(3, .osl 2 3 (0) (x.2.length)), (11, .v (.int .i64 x.1))], [(0, .box [.osl 1 3 (0) (mv_0.out.length), .v (.int .i64 mv_0.many)]), (1, .arr 3 (enc mv_0.out)), (2, .arr 3 (enc x.2))])) 3 ?_; rintro m_1 ⟨t11_1, a_1⟩ h _ Q6; rw [q4p] at h; refine sM ?_; refine sg fun _ Q8 => ?_; refine sB h (fun _ h => ?_) fun _ h => ?_
 · refine y5 (q8 Q8 (sg fun _ Q9 => ?_)); refine w9 fun _ Q10 => ?_; refine sg fun _ Q11 => ?_; obtain ⟨xv_2, F, h⟩ := bI F h; simp only [go_sem, F]; refine ai ?_; refine q8 Q11 ?_; obtain ⟨v_2, ev_2, h⟩ := z8 h; simp only [go_sem]; refine q8g [9, 10, 11] ([(3, .sl 3 (enc a_1))], [(0, .box [.osl 1 3 (0) (mv_0.out.length), .v (.int .i64 mv_0.many)]), (1, .arr 3 (enc mv_0.out)), (2, .box (Row.row xv_2))]) 3 [some 3] [.sl 3 (enc a_1), .agg (Row.row xv_2.Rec), .v (.int .i64 xv_2.N)] ?_; refine q18 [] (z1e a_1 xv_2.Rec xv_2.N v_2 ev_2) ?_; simp only [go_sem]; exact au
 · exact au
def qh8 (x_0 : Int) (y_0 : Int) (c_0 : Int) : Option (Int × Int) := z8l x_0 y_0 c_0
theorem z0x (x_0 : Int) (y_0 : Int) (c_0 : Int) (r : Int × Int) (h : qh8 x_0 y_0 c_0 = some r) : PureS pp 157 [.v (.int .u64 x_0), .v (.int .u64 y_0), .v (.int .u64 c_0)] 0 (.tup [.v (.int .u64 r.1), .v (.int .u64 r.2)]) :=
  zh0 Tryz.func157 (by kernel_rfl) (by kernel_rfl) (by kernel_rfl) (by kernel_rfl) h
def qh9 (x_0 : Int) (y_0 : Int) (c_0 : Int) : Option (Int × Int) := za1 x_0 y_0 c_0
theorem z0y (x_0 : Int) (y_0 : Int) (c_0 : Int) (r : Int × Int) (h : qh9 x_0 y_0 c_0 = some r) : PureS pp 158 [.v (.int .u64 x_0), .v (.int .u64 y_0), .v (.int .u64 c_0)] 0 (.tup [.v (.int .u64 r.1), .v (.int .u64 r.2)]) :=
  zk9 Tryz.func158 (by kernel_rfl) (by kernel_rfl) (by kernel_rfl) (by kernel_rfl) h
def q5o (w_0 : GOps_wide) (v_0 : Int) (nv_0 : Int) (size_0 : Int) : Option GOps_wide :=
 q9 (q30 size_0 (IntKind.u64.wrap nv_0)) (fun v_1 =>
 (if (decide (v_0 < 0)) = true then q9 (qh8 w_0.lo.n v_1.2 0) (fun v_2 =>
 some (⟨i64.wrap (w_0.hi - (i64.wrap ((i64.wrap v_1.1) + (i64.wrap v_2.2)))), (⟨v_2.1⟩ : Nu64)⟩ : GOps_wide))
 else q9 (qh9 w_0.lo.n v_1.2 0) (fun v_3 =>
 some (⟨i64.wrap (w_0.hi + (i64.wrap ((i64.wrap v_1.1) + (i64.wrap v_3.2)))), (⟨v_3.1⟩ : Nu64)⟩ : GOps_wide))))
def q8t (w_0 : GOps_wide) (v_0 : Int) (nv_0 : Int) : Option GOps_wide :=
 (if (decide (v_0 < 0)) = true then q5o w_0 v_0 nv_0 (IntKind.u64.wrap (0 - (IntKind.u64.wrap v_0)))
 else q5o w_0 v_0 nv_0 (IntKind.u64.wrap v_0))
instance zq5 (w_0 : GOps_wide) (v_0 : Int) (nv_0 : Int) : Ct pp 147 (q8t w_0 v_0 nv_0) [.agg (Row.row w_0), .v (.int .i64 v_0), .v (.int .i64 nv_0)] fun r => (.agg (Row.row r)) := ctK Tryz.func147 rfl (by rw [q8t]) (by
 intro r h F; refine sM ?_; refine sM ?_; refine q2s (fun (size_0 : Int) => q5o w_0 v_0 nv_0 size_0 = some r) [1, 2, 3, 6] (fun size_0 => ([(7, .v (.int .u64 size_0))], [(0, .box (Row.row w_0)), (1, .box [.v (.int .i64 0), .v (.int .u64 0)])])) 2 ?_ ?_
 · intro _ Q13; exact au
 ·
  rintro size_0 h
  try dsimp only at h
  rw [q5o] at h; refine sg fun _ Q3 => ?_; simp only [go_sem]; refine q1s h fun v_1 h => ?_; simp only [go_sem]; refine q8 Q3 (sM ?_); refine sg fun _ Q5 => ?_; refine sM ?_; refine sB h (fun _ h => ?_) fun _ h => ?_
  · refine sg fun _ Q7 => ?_; obtain ⟨v_2, ev_2, h⟩ := z8 h; simp only [go_sem]; refine q8j (z0x w_0.lo.n v_1.2 0 v_2 ev_2) (by rfl) (by rfl) ?_; simp only [go_sem]; exact au
  · refine y5 (q8 Q5 (sg fun _ Q10 => ?_)); obtain ⟨v_3, ev_3, h⟩ := z8 h; simp only [go_sem]; refine q8j (z0y w_0.lo.n v_1.2 0 v_3 ev_3) (by rfl) (by rfl) ?_; simp only [go_sem]; exact au)
def qn8 (l_0 : List GItem) (rec_1 : Int × GOps_wide → Option GOps_wide) : Int × GOps_wide → Option GOps_wide :=
 fun (t8_1, b_1) =>
 (if (decide (t8_1 < (l_0.length : Int))) = true then q9 (idx l_0 t8_1) (fun xv_2 =>
 q9 (q8t b_1 xv_2.Rec.V xv_2.N) (fun v_2 =>
 rec_1 (i64.wrap (t8_1 + 1), v_2)))
 else some b_1)
def q8z (l_0 : List GItem) : Option GOps_wide :=
 u7 (qn8 l_0) rounds (0, (⟨0, (⟨0⟩ : Nu64)⟩ : GOps_wide))
instance z2c (l_0 : List GItem) : Ct pp 125 (q8z l_0) [.sl 3 (enc l_0)] fun r => (.agg (Row.row r)) := ctK Tryz.func125 rfl (by rw [q8z]) (by
 intro r h F; refine sM ?_; refine sM ?_; refine jg fun _ Q3 => ?_; refine sM ?_; refine w9 fun _ Q5 => ?_; refine q0a h [2, 3, 6, 7] (fun x => ([(8, .v (.int .i64 x.1))], [(0, .box [.v (.int .i64 0), .v (.int .u64 0)]), (1, .box (Row.row x.2))])) 2 ?_; rintro m_1 ⟨t8_1, b_1⟩ h _ Q6; rw [qn8] at h; exact au)
def q3k (w_0 : GOps_wide) (k_0 : Int) : Option GRec :=
 (if (((w_0.hi == 0) && (decide (0 ≤ (i64.wrap w_0.lo.n)))) || ((w_0.hi == (-1)) && (decide ((i64.wrap w_0.lo.n) < 0)))) = true then some (⟨k_0, i64.wrap w_0.lo.n⟩ : GRec)
 else q9 (qa8 k_0) (fun v_0 =>
 some v_0))
instance qn7 (w_0 : GOps_wide) (k_0 : Int) : Ct pp 126 (q3k w_0 k_0) [.agg (Row.row w_0), .v (.int .i64 k_0)] fun r => (.agg (Row.row r)) := ctI Tryz.func126 rfl (by rw [q3k]; exact au1)
def q3p (b_2 : Int) (a_12 : List GItem) (rec_1 : (Int × Int × (List GItem) → Option (Bool × GOps_maker))) (tov_12 : Int) (xv_63 : GItem) (a_15 : List GItem) : Option (Bool × GOps_maker) :=
 q9 (q8z a_15) (fun v_26 =>
 q9 (q3k v_26 xv_63.Rec.K) (fun v_27 =>
 q9 (q0x (⟨a_12, b_2⟩ : GOps_maker) v_27 1) (fun v_28 =>
 (if (!v_28.1) = true then some (false, v_28.2)
 else rec_1 (tov_12, v_28.2.many, v_28.2.out)))))
def q3r (b_0 : List GItem) (b_2 : Int) (a_12 : List GItem) (rec_1 : (Int × Int × (List GItem) → Option (Bool × GOps_maker))) (tov_12 : Int) (xv_63 : GItem) (rec_5 : Int × (List GItem) → Option (Bool × GOps_maker)) : Int × (List GItem) → Option (Bool × GOps_maker) :=
 fun (t43_11, a_17) =>
 (if (decide (t43_11 < (b_0.length : Int))) = true then q9 (idx b_0 t43_11) (fun xv_75 =>
 (if (xv_75.Rec.K == xv_63.Rec.K) = true then y9 ((a_17.length + List.length ([xv_75] : List GItem)) * 24 ≤ 140737488355328) (
 rec_5 (i64.wrap (t43_11 + 1), (a_17 ++ ([xv_75] : List GItem))))
 else rec_5 (i64.wrap (t43_11 + 1), a_17)))
 else q3p b_2 a_12 rec_1 tov_12 xv_63 a_17)
def q3q (b_0 : List GItem) (b_2 : Int) (a_12 : List GItem) (rec_1 : (Int × Int × (List GItem) → Option (Bool × GOps_maker))) (tov_12 : Int) (xv_63 : GItem) : Option (Bool × GOps_maker) :=
 u7 (q3r b_0 b_2 a_12 rec_1 tov_12 xv_63) rounds (0, [])
def q3o (b_2 : Int) (a_12 : List GItem) (rec_1 : (Int × Int × (List GItem) → Option (Bool × GOps_maker))) (tov_12 : Int) (xv_63 : GItem) (nv_27 : Int) : Option (Bool × GOps_maker) :=
 q9 (q0x (⟨a_12, b_2⟩ : GOps_maker) (⟨xv_63.Rec.K, nv_27⟩ : GRec) 1) (fun v_29 =>
 (if (!v_29.1) = true then some (false, v_29.2)
 else rec_1 (tov_12, v_29.2.many, v_29.2.out)))
def q5k (a_0 : List GItem) (fromv_1 : Int) (b_2 : Int) (a_12 : List GItem) (rec_1 : (Int × Int × (List GItem) → Option (Bool × GOps_maker))) (tov_12 : Int) (xv_63 : GItem) (rec_7 : Int × Int → Option (Bool × GOps_maker)) : Int × Int → Option (Bool × GOps_maker) :=
 fun (nv_29, t19_23) =>
 (if (decide (t19_23 < (List.length (List.drop (fromv_1.toNat) (List.take (tov_12.toNat) a_0)) : Int))) = true then q9 (idx (List.drop (fromv_1.toNat) (List.take (tov_12.toNat) a_0)) t19_23) (fun xv_81 =>
 rec_7 (i64.wrap (nv_29 + xv_81.N), i64.wrap (t19_23 + 1)))
 else q3o b_2 a_12 rec_1 tov_12 xv_63 nv_29)
def q1r (kind_0 : Int) (a_0 : List GItem) (b_0 : List GItem) (fromv_1 : Int) (b_2 : Int) (a_12 : List GItem) (rec_1 : (Int × Int × (List GItem) → Option (Bool × GOps_maker))) (tov_12 : Int) : Option (Bool × GOps_maker) :=
 q9 (idx a_0 fromv_1) (fun xv_63 =>
 y9 (0 ≤ fromv_1 ∧ fromv_1 ≤ tov_12 ∧ tov_12 ≤ (a_0.length : Int)) (
 (if (kind_0 == 7) = true then u7 (q5k a_0 fromv_1 b_2 a_12 rec_1 tov_12 xv_63) rounds (0, 0)
 else (if (kind_0 == 6) = true then q9 (q8z (List.drop (fromv_1.toNat) (List.take (tov_12.toNat) a_0))) (fun v_30 =>
 q9 (q3k v_30 xv_63.Rec.K) (fun v_31 =>
 q9 (q0x (⟨a_12, b_2⟩ : GOps_maker) v_31 1) (fun v_32 =>
 (if (!v_32.1) = true then some (false, v_32.2)
 else rec_1 (tov_12, v_32.2.many, v_32.2.out)))))
 else q3q b_0 b_2 a_12 rec_1 tov_12 xv_63))))
def q83 (kind_0 : Int) (a_0 : List GItem) (b_0 : List GItem) (fromv_1 : Int) (b_2 : Int) (a_12 : List GItem) (rec_1 : (Int × Int × (List GItem) → Option (Bool × GOps_maker))) (rec_8 : Int → Option (Bool × GOps_maker)) : Int → Option (Bool × GOps_maker) :=
 fun tov_14 =>
 (if (decide (tov_14 < (a_0.length : Int))) = true then q9 (idx a_0 tov_14) (fun xv_85 =>
 q9 (idx a_0 fromv_1) (fun xv_86 =>
 (if (xv_85.Rec.K == xv_86.Rec.K) = true then rec_8 (i64.wrap (tov_14 + 1))
 else q1r kind_0 a_0 b_0 fromv_1 b_2 a_12 rec_1 tov_14)))
 else q1r kind_0 a_0 b_0 fromv_1 b_2 a_12 rec_1 tov_14)
def q1c (kind_0 : Int) (a_0 : List GItem) (b_0 : List GItem) (rec_1 : Int × Int × (List GItem) → Option (Bool × GOps_maker)) : Int × Int × (List GItem) → Option (Bool × GOps_maker) :=
 fun (fromv_1, b_2, a_12) =>
 (if (decide (fromv_1 < (a_0.length : Int))) = true then u7 (q83 kind_0 a_0 b_0 fromv_1 b_2 a_12 rec_1) rounds fromv_1
 else some (true, (⟨a_12, b_2⟩ : GOps_maker)))
def q38 (mv_0 : GOps_maker) (kind_0 : Int) (a_0 : List GItem) (b_0 : List GItem) : Option (Bool × GOps_maker) :=
 u7 (q1c kind_0 a_0 b_0) rounds (0, mv_0.many, mv_0.out)
theorem ql6 (mv_0 : GOps_maker) (kind_0 : Int) (a_0 : List GItem) (b_0 : List GItem)  (r : Bool × GOps_maker) (h : q38 mv_0 kind_0 a_0 b_0 = some r) : DetS pp 98 [.ptr 0 0, .v (.int .i64 kind_0), .sl 3 (enc a_0), .sl 3 (enc b_0)] [(0, .box [.osl 1 3 (0) (mv_0.out.length), .v (.int .i64 mv_0.many)]), (1, .arr 3 (enc mv_0.out))] 2 (.v (.bool r.1)) [(0, .box [.osl 2 3 (0) (r.2.out.length), .v (.int .i64 r.2.many)]), (2, .arr 3 (enc r.2.out))] 3 := by
 refine dtI Tryz.func98 rfl ?_; rw [q38] at h; have F := trivial; refine sM ?_; refine sg fun _ Q2 => ?_; simp only [go_sem]; refine q4q Tryz.func121 rfl (by kernel_rfl) (by kernel_rfl) ?_; refine sM ?_; refine jg fun _ Q4 => ?_; refine sM ?_; refine w9 fun _ Q6 => ?_; refine q0a h [0, 1] (fun x => ([(5, .v (.int .i64 x.1))], [(0, .box [.osl 5 3 (0) (x.2.2.length), .v (.int .i64 x.2.1)]), (2, .box [.ptr 0 0]), (3, .box [.v (.int .i64 kind_0)]), (4, .box [.sl 3 (enc b_0)]), (5, .arr 3 (enc x.2.2))])) 6 ?_; rintro m_1 ⟨fromv_1, b_2, a_12⟩ h _ Q7; rw [q1c] at h; refine sg fun _ Q8 => ?_; refine sM ?_; refine sB h (fun _ h => ?_) fun _ h => ?_
 ·
  refine y5 (q8 Q8 (w9 fun _ Q10 => ?_)); refine sM ?_; refine q2s (fun (tov_12 : Int) => q1r kind_0 a_0 b_0 fromv_1 b_2 a_12 (u7 (q1c kind_0 a_0 b_0) m_1) tov_12 = some r) [0, 1, 5] (fun tov_12 => ([(6, .v (.int .i64 tov_12))], [(0, .box [.osl 5 3 (0) (a_12.length), .v (.int .i64 b_2)]), (2, .box [.ptr 0 0]), (3, .box [.v (.int .i64 kind_0)]), (4, .box [.sl 3 (enc b_0)]), (5, .arr 3 (enc a_12))])) 6 ?_ ?_
  ·
   intro _ Q47; refine w9 fun _ Q48 => ?_; refine q0a h [0, 1, 5] (fun tov_14 => ([(6, .v (.int .i64 tov_14))], [(0, .box [.osl 5 3 (0) (a_12.length), .v (.int .i64 b_2)]), (2, .box [.ptr 0 0]), (3, .box [.v (.int .i64 kind_0)]), (4, .box [.sl 3 (enc b_0)]), (5, .arr 3 (enc a_12))])) 6 ?_; rintro m_8 tov_14 h _ Q49; rw [q83] at h; refine sg fun _ Q50 => ?_; refine sg fun _ Q51 => ?_; refine p9 ?_; refine j4u ?_; simp only [go_sem]; rcases hb_130 : (decide (tov_14 < (a_0.length : Int))) with _ | _
   · replace h := q5g h hb_130; simp only [go_sem, hb_130]; exact au
   · replace h := q5f h hb_130; obtain ⟨xv_85, F, h⟩ := bI F h; obtain ⟨xv_86, F, h⟩ := bI F h; simp only [go_sem, hb_130, F]; refine ai ?_; refine ai ?_; exact au
  ·
   rintro tov_12 h
   try dsimp only at h
   rw [q1r] at h; refine sg fun _ Q12 => ?_; refine sg fun _ Q13 => ?_; refine p9 ?_; refine j4u ?_; obtain ⟨xv_63, F, h⟩ := bI F h; obtain ⟨F, h⟩ := bG F h; simp only [go_sem, F]; refine ai ?_; refine q4q Tryz.func124 rfl (by kernel_rfl) (by kernel_rfl) ?_; refine sM ?_; refine q2s (fun (_ : Unit) => q3q b_0 b_2 a_12 (u7 (q1c kind_0 a_0 b_0) m_1) tov_12 xv_63 = some r) [0, 3, 4] (fun _ => ([], [(0, .box [.osl 5 3 (0) (a_12.length), .v (.int .i64 b_2)]), (2, .box [.ptr 0 0]), (3, .box [.v (.int .i64 kind_0)]), (4, .box [.sl 3 (enc b_0)]), (5, .arr 3 (enc a_12))])) 6 ?_ ?_
   ·
    intro _ Q28; refine sM ?_; refine w9 fun _ Q30 => ?_; refine sM ?_; refine sB h (fun _ h => ?_) fun _ h => ?_
    ·
     refine sM ?_; refine q2s (fun (nv_27 : Int) => q3o b_2 a_12 (u7 (q1c kind_0 a_0 b_0) m_1) tov_12 xv_63 nv_27 = some r) [0, 3] (fun nv_27 => ([(8, .v (.int .i64 nv_27))], [(0, .box [.osl 5 3 (0) (a_12.length), .v (.int .i64 b_2)]), (2, .box [.ptr 0 0]), (3, .box [.v (.int .i64 kind_0)]), (4, .box [.sl 3 (enc b_0)]), (5, .arr 3 (enc a_12))])) 6 ?_ ?_
     · intro _ Q35; refine sM ?_; refine w9 fun _ Q37 => ?_; refine q0a h [0, 3, 17, 18] (fun x => ([(8, .v (.int .i64 x.1)), (19, .v (.int .i64 x.2))], [(0, .box [.osl 5 3 (0) (a_12.length), .v (.int .i64 b_2)]), (2, .box [.ptr 0 0]), (3, .box [.v (.int .i64 kind_0)]), (4, .box [.sl 3 (enc b_0)]), (5, .arr 3 (enc a_12))])) 6 ?_; rintro m_7 ⟨nv_29, t19_23⟩ h _ Q38; rw [q5k] at h; exact au
     ·
      rintro nv_27 h
      try dsimp only at h
      rw [q3o] at h; refine sg fun _ Q33 => ?_; obtain ⟨v_29, ev_29, h⟩ := z8 h; simp only [go_sem]; refine q18 [0, 5] (q2b (⟨a_12, b_2⟩ : GOps_maker) (⟨xv_63.Rec.K, nv_27⟩ : GRec) 1 v_29 ev_29) ?_; simp only [go_sem]; refine q8 Q33 (q05 (q0o Q30 (q2t Q28 ?_))); simp only [go_sem]; refine q10 [some 6] [(0, .box [.osl 6 3 (0) (v_29.2.out.length), .v (.int .i64 v_29.2.many)]), (2, .box [.ptr 0 0]), (3, .box [.v (.int .i64 kind_0)]), (4, .box [.sl 3 (enc b_0)]), (6, .arr 3 (enc v_29.2.out))] 7 (.v (.bool v_29.1)) ?_ ?_
      · exact leA
      refine q1h ?_; simp only [go_sem]; refine q8 Q13 (sB h (fun _ h => ?_) fun _ h => ?_)
      ·
       refine sM ?_; refine q05 (q0q Q12 (q0o Q10 (q2t Q7 (q0o Q6 (q0q Q4 ?_))))); simp only [go_sem]; refine q10 [some 6] [(0, .box [.osl 5 3 (0) (v_29.2.out.length), .v (.int .i64 v_29.2.many)]), (2, .box [.ptr 0 0]), (3, .box [.v (.int .i64 kind_0)]), (4, .box [.sl 3 (enc b_0)]), (5, .arr 3 (enc v_29.2.out))] 6 (.v (.bool false)) ?_ ?_
       · exact leA
       refine q1h ?_; simp only [go_sem]; exact au
      · exact au
    ·
     refine sM ?_; refine sB h (fun _ h => ?_) fun _ h => ?_
     ·
      refine sg fun _ Q45 => ?_; refine p9 ?_; refine j4u ?_; obtain ⟨v_30, ev_30, h⟩ := z8 h; simp only [go_sem]; refine callq (fun _ => (z2c (List.drop (fromv_1.toNat) (List.take (tov_12.toNat) a_0)) v_30 ev_30)) (by rfl) (by rfl) ?_; obtain ⟨v_31, ev_31, h⟩ := z8 h; simp only [go_sem]; refine callq (fun _ => (qn7 v_30 xv_63.Rec.K v_31 ev_31)) (by rfl) (by rfl) ?_; obtain ⟨v_32, ev_32, h⟩ := z8 h; simp only [go_sem]; refine q18 [0, 5] (q2b (⟨a_12, b_2⟩ : GOps_maker) v_31 1 v_32 ev_32) ?_; simp only [go_sem]; refine q8 Q45 (q05 (q0o Q30 (q2t Q28 ?_))); simp only [go_sem]; refine q10 [some 6] [(0, .box [.osl 6 3 (0) (v_32.2.out.length), .v (.int .i64 v_32.2.many)]), (2, .box [.ptr 0 0]), (3, .box [.v (.int .i64 kind_0)]), (4, .box [.sl 3 (enc b_0)]), (6, .arr 3 (enc v_32.2.out))] 7 (.v (.bool v_32.1)) ?_ ?_
      · exact leA
      refine q1h ?_; simp only [go_sem]; refine q8 Q13 (sB h (fun _ h => ?_) fun _ h => ?_)
      ·
       refine sM ?_; refine q05 (q0q Q12 (q0o Q10 (q2t Q7 (q0o Q6 (q0q Q4 ?_))))); simp only [go_sem]; refine q10 [some 6] [(0, .box [.osl 5 3 (0) (v_32.2.out.length), .v (.int .i64 v_32.2.many)]), (2, .box [.ptr 0 0]), (3, .box [.v (.int .i64 kind_0)]), (4, .box [.sl 3 (enc b_0)]), (5, .arr 3 (enc v_32.2.out))] 6 (.v (.bool false)) ?_ ?_
       · exact leA
       refine q1h ?_; simp only [go_sem]; exact au
      · exact au
     · exact au
   ·
    rintro ⟨⟩ h
    try dsimp only at h
    rw [q3q] at h; refine sM ?_; refine q2s (fun (a_15 : (List GItem)) => q3p b_2 a_12 (u7 (q1c kind_0 a_0 b_0) m_1) tov_12 xv_63 a_15 = some r) [0, 3] (fun a_15 => ([(11, .osl 6 3 (0) (a_15.length))], [(0, .box [.osl 5 3 (0) (a_12.length), .v (.int .i64 b_2)]), (2, .box [.ptr 0 0]), (3, .box [.v (.int .i64 kind_0)]), (4, .box [.sl 3 (enc b_0)]), (5, .arr 3 (enc a_12)), (6, .arr 3 (enc a_15))])) 7 ?_ ?_
    ·
     intro _ Q18; refine sM ?_; refine w9 fun _ Q20 => ?_; refine q0a h [0, 3, 41, 42] (fun x => ([(11, .osl 6 3 (0) (x.2.length)), (43, .v (.int .i64 x.1))], [(0, .box [.osl 5 3 (0) (a_12.length), .v (.int .i64 b_2)]), (2, .box [.ptr 0 0]), (3, .box [.v (.int .i64 kind_0)]), (4, .box [.sl 3 (enc b_0)]), (5, .arr 3 (enc a_12)), (6, .arr 3 (enc x.2))])) 7 ?_; rintro m_5 ⟨t43_11, a_17⟩ h _ Q21; rw [q3r] at h; refine sM ?_; refine sg fun _ Q23 => ?_; refine sB h (fun _ h => ?_) fun _ h => ?_
     ·
      refine y5 (q8 Q23 (jg fun _ Q24 => ?_)); refine w9 fun _ Q25 => ?_; refine sg fun _ Q26 => ?_; obtain ⟨xv_75, F, h⟩ := bI F h; simp only [go_sem, F]; refine ai ?_; refine q8 Q26 (sM ?_); refine sB h (fun _ h => ?_) fun _ h => ?_
      ·
       have rf_28 : [[.v (.int .i64 xv_75.Rec.K), .v (.int .i64 xv_75.Rec.V), .v (.int .i64 xv_75.N)]] = enc ([xv_75] : List GItem) := by rfl
       obtain ⟨g_20, h⟩ := q0r h; have F := And.intro F g_20; simp only [List.length_cons, List.length_nil, Nat.zero_add, List.length_append] at g_20; have rf_29 : enc a_17 ++ [[.v (.int .i64 xv_75.Rec.K), .v (.int .i64 xv_75.Rec.V), .v (.int .i64 xv_75.N)]] = enc (a_17 ++ ([xv_75] : List GItem)) := by exact (q3h a_17 ([xv_75] : List GItem)).symm
       simp only [go_sem, g_20, rf_29]; simp only [rf_28]; exact au
      · exact au
     · exact au
    ·
     rintro a_15 h
     try dsimp only at h
     rw [q3p] at h; refine sg fun _ Q16 => ?_; refine p9 ?_; refine zk2 (s' := (⟨6, [(0, .v (.int .i64 xv_63.Rec.K)), (3, .ptr 2 0), (11, .sl 3 (enc a_15))], [(0, .box [.osl 5 3 (0) (a_12.length), .v (.int .i64 b_2)]), (2, .box [.ptr 0 0]), (3, .box [.v (.int .i64 kind_0)]), (4, .box [.sl 3 (enc b_0)]), (5, .arr 3 (enc a_12))], 6, 63⟩ : St)) (l := []) ?_ ?_
     · exact leA
     refine j4u ?_; obtain ⟨v_26, ev_26, h⟩ := z8 h; simp only [go_sem]; refine callq (fun _ => (z2c a_15 v_26 ev_26)) (by rfl) (by rfl) ?_; obtain ⟨v_27, ev_27, h⟩ := z8 h; simp only [go_sem]; refine callq (fun _ => (qn7 v_26 xv_63.Rec.K v_27 ev_27)) (by rfl) (by rfl) ?_; obtain ⟨v_28, ev_28, h⟩ := z8 h; simp only [go_sem]; refine q18 [0, 5] (q2b (⟨a_12, b_2⟩ : GOps_maker) v_27 1 v_28 ev_28) ?_; simp only [go_sem]; refine q8 Q16 (q05 ?_); simp only [go_sem]; refine q10 [some 6] [(0, .box [.osl 6 3 (0) (v_28.2.out.length), .v (.int .i64 v_28.2.many)]), (2, .box [.ptr 0 0]), (3, .box [.v (.int .i64 kind_0)]), (4, .box [.sl 3 (enc b_0)]), (6, .arr 3 (enc v_28.2.out))] 7 (.v (.bool v_28.1)) ?_ ?_
     · exact leA
     refine q1h ?_; simp only [go_sem]; refine q8 Q13 (sB h (fun _ h => ?_) fun _ h => ?_)
     ·
      refine sM ?_; refine q05 (q0q Q12 (q0o Q10 (q2t Q7 (q0o Q6 (q0q Q4 ?_))))); simp only [go_sem]; refine q10 [some 6] [(0, .box [.osl 5 3 (0) (v_28.2.out.length), .v (.int .i64 v_28.2.many)]), (2, .box [.ptr 0 0]), (3, .box [.v (.int .i64 kind_0)]), (4, .box [.sl 3 (enc b_0)]), (5, .arr 3 (enc v_28.2.out))] 6 (.v (.bool false)) ?_ ?_
      · exact leA
      refine q1h ?_; simp only [go_sem]; exact au
     · exact au
 ·
  refine q11 (q1g Q8 (q12 Q7 (q0s Q6 (q8 Q4 (sM ?_))))); refine q05 ?_; simp only [go_sem]; refine q10 [some 5] [(0, .box [.osl 5 3 (0) (a_12.length), .v (.int .i64 b_2)]), (2, .box [.ptr 0 0]), (3, .box [.v (.int .i64 kind_0)]), (4, .box [.sl 3 (enc b_0)]), (5, .arr 3 (enc a_12))] 6 (.v (.bool true)) ?_ ?_
  · exact leA
  refine q1h ?_; simp only [go_sem]; exact au
def q4m (b_0 : List GItem) (xv_51 : GItem) (t13_5 : Int) (rec_3 : (Int × Int × (List GItem) → Option (Bool × GOps_maker))) (xv_60 : GItem) (rec_4 : Int × Int × (List GItem) → Option (Bool × GOps_maker)) : Int × Int × (List GItem) → Option (Bool × GOps_maker) :=
 fun (t19_17, b_26, a_26) =>
 (if (decide (t19_17 < (b_0.length : Int))) = true then q9 (idx b_0 t19_17) (fun xv_63 =>
 (if (!(xv_63.Rec.K == xv_51.Rec.K)) = true then rec_4 (i64.wrap (t19_17 + 1), b_26, a_26)
 else (if ((decide (65536 < xv_60.N)) || (decide (65536 < xv_63.N))) = true then some (false, (⟨a_26, b_26⟩ : GOps_maker))
 else q9 (q82 xv_51.Rec.K xv_60.Rec.V xv_63.Rec.V) (fun v_52 =>
 q9 (q0x (⟨a_26, b_26⟩ : GOps_maker) v_52 (i64.wrap (xv_60.N * xv_63.N))) (fun v_53 =>
 (if (!v_53.1) = true then some (false, v_53.2)
 else rec_4 (i64.wrap (t19_17 + 1), v_53.2.many, v_53.2.out)))))))
 else rec_3 (i64.wrap (t13_5 + 1), b_26, a_26))
def q4n (a_0 : List GItem) (b_0 : List GItem) (fromv_1 : Int) (rec_1 : (Int × Int × (List GItem) → Option (Bool × GOps_maker))) (tov_12 : Int) (xv_51 : GItem) (rec_3 : Int × Int × (List GItem) → Option (Bool × GOps_maker)) : Int × Int × (List GItem) → Option (Bool × GOps_maker) :=
 fun (t13_5, b_24, a_24) =>
 (if (decide (t13_5 < (List.length (List.drop (fromv_1.toNat) (List.take (tov_12.toNat) a_0)) : Int))) = true then q9 (idx (List.drop (fromv_1.toNat) (List.take (tov_12.toNat) a_0)) t13_5) (fun xv_60 =>
 u7 (q4m b_0 xv_51 t13_5 rec_3 xv_60) rounds (0, b_24, a_24))
 else rec_1 (tov_12, b_24, a_24))
def q2a (a_0 : List GItem) (b_0 : List GItem) (fromv_1 : Int) (b_18 : Int) (a_18 : List GItem) (rec_1 : (Int × Int × (List GItem) → Option (Bool × GOps_maker))) (tov_12 : Int) : Option (Bool × GOps_maker) :=
 q9 (idx a_0 fromv_1) (fun xv_51 =>
 y9 (0 ≤ fromv_1 ∧ fromv_1 ≤ tov_12 ∧ tov_12 ≤ (a_0.length : Int)) (
 u7 (q4n a_0 b_0 fromv_1 rec_1 tov_12 xv_51) rounds (0, b_18, a_18)))
def q90 (a_0 : List GItem) (b_0 : List GItem) (fromv_1 : Int) (b_18 : Int) (a_18 : List GItem) (rec_1 : (Int × Int × (List GItem) → Option (Bool × GOps_maker))) (rec_5 : Int → Option (Bool × GOps_maker)) : Int → Option (Bool × GOps_maker) :=
 fun tov_14 =>
 (if (decide (tov_14 < (a_0.length : Int))) = true then q9 (idx a_0 tov_14) (fun xv_67 =>
 q9 (idx a_0 fromv_1) (fun xv_68 =>
 (if (xv_67.Rec.K == xv_68.Rec.K) = true then rec_5 (i64.wrap (tov_14 + 1))
 else q2a a_0 b_0 fromv_1 b_18 a_18 rec_1 tov_14)))
 else q2a a_0 b_0 fromv_1 b_18 a_18 rec_1 tov_14)
def q4o (a_0 : List GItem) (b_0 : List GItem) (rec_1 : Int × Int × (List GItem) → Option (Bool × GOps_maker)) : Int × Int × (List GItem) → Option (Bool × GOps_maker) :=
 fun (fromv_1, b_18, a_18) =>
 (if (decide (fromv_1 < (a_0.length : Int))) = true then u7 (q90 a_0 b_0 fromv_1 b_18 a_18 rec_1) rounds fromv_1
 else some (true, (⟨a_18, b_18⟩ : GOps_maker)))
def q4b (mv_0 : GOps_maker) (a_0 : List GItem) (b_0 : List GItem) : Option (Bool × GOps_maker) :=
 u7 (q4o a_0 b_0) rounds (0, mv_0.many, mv_0.out)
theorem qq3 (mv_0 : GOps_maker) (a_0 : List GItem) (b_0 : List GItem)  (r : Bool × GOps_maker) (h : q4b mv_0 a_0 b_0 = some r) : DetS pp 97 [.ptr 0 0, .sl 3 (enc a_0), .sl 3 (enc b_0)] [(0, .box [.osl 1 3 (0) (mv_0.out.length), .v (.int .i64 mv_0.many)]), (1, .arr 3 (enc mv_0.out))] 2 (.v (.bool r.1)) [(0, .box [.osl 2 3 (0) (r.2.out.length), .v (.int .i64 r.2.many)]), (2, .arr 3 (enc r.2.out))] 3 := by
 refine dtI Tryz.func97 rfl ?_; rw [q4b] at h; have F := trivial; refine sM ?_; refine sg fun _ Q2 => ?_; simp only [go_sem]; refine q4q Tryz.func121 rfl (by kernel_rfl) (by kernel_rfl) ?_; refine sM ?_; refine jg fun _ Q4 => ?_; refine sM ?_; refine w9 fun _ Q6 => ?_; refine q0a h [0, 1] (fun x => ([(5, .v (.int .i64 x.1))], [(0, .box [.osl 4 3 (0) (x.2.2.length), .v (.int .i64 x.2.1)]), (2, .box [.ptr 0 0]), (3, .box [.sl 3 (enc b_0)]), (4, .arr 3 (enc x.2.2))])) 5 ?_; rintro m_1 ⟨fromv_1, b_18, a_18⟩ h _ Q7; rw [q4o] at h; refine sg fun _ Q8 => ?_; refine sM ?_; refine sB h (fun _ h => ?_) fun _ h => ?_
 ·
  refine y5 (q8 Q8 (w9 fun _ Q10 => ?_)); refine sM ?_; refine q2s (fun (tov_12 : Int) => q2a a_0 b_0 fromv_1 b_18 a_18 (u7 (q4o a_0 b_0) m_1) tov_12 = some r) [0, 1, 5] (fun tov_12 => ([(6, .v (.int .i64 tov_12))], [(0, .box [.osl 4 3 (0) (a_18.length), .v (.int .i64 b_18)]), (2, .box [.ptr 0 0]), (3, .box [.sl 3 (enc b_0)]), (4, .arr 3 (enc a_18))])) 5 ?_ ?_
  ·
   intro _ Q40; refine w9 fun _ Q41 => ?_; refine q0a h [0, 1, 5] (fun tov_14 => ([(6, .v (.int .i64 tov_14))], [(0, .box [.osl 4 3 (0) (a_18.length), .v (.int .i64 b_18)]), (2, .box [.ptr 0 0]), (3, .box [.sl 3 (enc b_0)]), (4, .arr 3 (enc a_18))])) 5 ?_; rintro m_5 tov_14 h _ Q42; rw [q90] at h; refine sg fun _ Q43 => ?_; refine sg fun _ Q44 => ?_; refine p9 ?_; refine j4u ?_; simp only [go_sem]; rcases hb_154 : (decide (tov_14 < (a_0.length : Int))) with _ | _
   · replace h := q5g h hb_154; simp only [go_sem, hb_154]; exact au
   · replace h := q5f h hb_154; obtain ⟨xv_67, F, h⟩ := bI F h; obtain ⟨xv_68, F, h⟩ := bI F h; simp only [go_sem, hb_154, F]; refine ai ?_; refine ai ?_; exact au
  ·
   rintro tov_12 h
   try dsimp only at h
   rw [q2a] at h; refine sg fun _ Q12 => ?_; refine sg fun _ Q13 => ?_; refine p9 ?_; refine j4u ?_; obtain ⟨xv_51, F, h⟩ := bI F h; obtain ⟨F, h⟩ := bG F h; simp only [go_sem, F]; refine ai ?_; refine q4q Tryz.func122 rfl (by kernel_rfl) (by kernel_rfl) ?_; refine sM ?_; refine jg fun _ Q15 => ?_; refine sM ?_; refine w9 fun _ Q17 => ?_; refine q0a h [0, 2, 3, 11, 12] (fun x => ([(13, .v (.int .i64 x.1))], [(0, .box [.osl 5 3 (0) (x.2.2.length), .v (.int .i64 x.2.1)]), (2, .box [.ptr 0 0]), (3, .box [.sl 3 (enc b_0)]), (5, .arr 3 (enc x.2.2))])) 6 ?_; rintro m_3 ⟨t13_5, b_24, a_24⟩ h _ Q18; rw [q4n] at h; refine sM ?_; refine sg fun _ Q20 => ?_; refine sB h (fun _ h => ?_) fun _ h => ?_
   ·
    refine y5 (q8 Q20 (jg fun _ Q21 => ?_)); refine w9 fun _ Q22 => ?_; refine sg fun _ Q23 => ?_; obtain ⟨xv_60, F, h⟩ := bI F h; simp only [go_sem, F]; refine ai ?_; refine q8 Q23 (sM ?_); refine w9 fun _ Q25 => ?_; refine q0a h [0, 2, 3, 11, 12, 13, 17, 18] (fun x => ([(8, .ptr 5 0), (19, .v (.int .i64 x.1))], [(0, .box [.osl 6 3 (0) (x.2.2.length), .v (.int .i64 x.2.1)]), (2, .box [.ptr 0 0]), (3, .box [.sl 3 (enc b_0)]), (5, .box (Row.row xv_60)), (6, .arr 3 (enc x.2.2))])) 7 ?_; rintro m_4 ⟨t19_17, b_26, a_26⟩ h _ Q26; rw [q4m] at h; refine sM ?_; refine sg fun _ Q28 => ?_; refine sB h (fun _ h => ?_) fun _ h => ?_
    ·
     refine y5 (q8 Q28 (sg fun _ Q29 => ?_)); refine w9 fun _ Q30 => ?_; refine sg fun _ Q31 => ?_; obtain ⟨xv_63, F, h⟩ := bI F h; simp only [go_sem, F]; refine ai ?_; refine q8 Q31 (sg fun _ Q32 => ?_); refine sM ?_; refine sB h (fun _ h => ?_) fun _ h => ?_
     · exact au
     ·
      refine y5 (q8 Q32 (sg fun _ Q34 => ?_)); refine p9 ?_; refine j4u ?_; simp only [go_sem]; rcases hb_148 : ((decide (65536 < xv_60.N)) || (decide (65536 < xv_63.N))) with _ | _
      ·
       replace h := q5g h hb_148; obtain ⟨v_52, ev_52, h⟩ := z8 h; simp only [go_sem, hb_148]; refine callq (fun _ => (z7t xv_51.Rec.K xv_60.Rec.V xv_63.Rec.V v_52 ev_52)) (by rfl) (by rfl) ?_; obtain ⟨v_53, ev_53, h⟩ := z8 h; simp only [go_sem]; refine q18 [0, 6] (q2b (⟨a_26, b_26⟩ : GOps_maker) v_52 (i64.wrap (xv_60.N * xv_63.N)) v_53 ev_53) ?_; simp only [go_sem]; refine q8 Q34 (sB h (fun _ h => ?_) fun _ h => ?_)
       ·
        refine sM ?_; refine q05 (q0o Q30 (q0q Q29 (q2t Q26 (q0o Q25 (q0o Q22 (q0q Q21 (q2t Q18 (q0o Q17 (q0q Q15 ?_))))))))); simp only [go_sem]; refine q10 [some 5, some 7, some 8] [(0, .box [.osl 7 3 (0) (v_53.2.out.length), .v (.int .i64 v_53.2.many)]), (2, .box [.ptr 0 0]), (3, .box [.sl 3 (enc b_0)]), (5, .box (Row.row xv_60)), (6, .box (Row.row xv_63)), (7, .arr 3 (enc v_53.2.out))] 8 (.v (.bool false)) ?_ ?_
        · exact leA
        refine q1h ?_; simp only [go_sem]; refine q8 Q13 (j6g ?_); refine sM ?_; refine q05 (q0q Q12 (q0o Q10 (q2t Q7 (q0o Q6 (q0q Q4 ?_))))); simp only [go_sem]; refine q10 [some 5, some 6, some 7] [(0, .box [.osl 6 3 (0) (v_53.2.out.length), .v (.int .i64 v_53.2.many)]), (2, .box [.ptr 0 0]), (3, .box [.sl 3 (enc b_0)]), (4, .box (Row.row xv_60)), (5, .box (Row.row xv_63)), (6, .arr 3 (enc v_53.2.out))] 7 (.v (.bool false)) ?_ ?_
        · exact leA
        refine q1h ?_; simp only [go_sem]; exact au
       · exact au
      ·
       replace h := q5f h hb_148; simp only [go_sem, hb_148]; refine q8 Q34 (j6g ?_); refine sM ?_; refine q05 (q0o Q30 (q0q Q29 (q2t Q26 (q0o Q25 (q0o Q22 (q0q Q21 (q2t Q18 (q0o Q17 (q0q Q15 ?_))))))))); simp only [go_sem]; refine q10 [some 5, some 6, some 7] [(0, .box [.osl 6 3 (0) (a_26.length), .v (.int .i64 b_26)]), (2, .box [.ptr 0 0]), (3, .box [.sl 3 (enc b_0)]), (5, .box (Row.row xv_60)), (6, .arr 3 (enc a_26)), (7, .box (Row.row xv_63))] 8 (.v (.bool false)) ?_ ?_
       · exact leA
       refine q1h ?_; simp only [go_sem]; refine q8 Q13 (j6g ?_); refine sM ?_; refine q05 (q0q Q12 (q0o Q10 (q2t Q7 (q0o Q6 (q0q Q4 ?_))))); simp only [go_sem]; refine q10 [some 5, some 6, some 7] [(0, .box [.osl 5 3 (0) (a_26.length), .v (.int .i64 b_26)]), (2, .box [.ptr 0 0]), (3, .box [.sl 3 (enc b_0)]), (4, .box (Row.row xv_60)), (5, .arr 3 (enc a_26)), (6, .box (Row.row xv_63))] 7 (.v (.bool false)) ?_ ?_
       · exact leA
       refine q1h ?_; simp only [go_sem]; exact au
    · exact au
   ·
    refine q11 (q1g Q20 (q12 Q18 (q0s Q17 (q8 Q15 (sM ?_))))); refine q05 ?_; simp only [go_sem]; refine q10 [some 5] [(0, .box [.osl 5 3 (0) (a_24.length), .v (.int .i64 b_24)]), (2, .box [.ptr 0 0]), (3, .box [.sl 3 (enc b_0)]), (5, .arr 3 (enc a_24))] 6 (.v (.bool true)) ?_ ?_
    · exact leA
    refine q1h ?_; simp only [go_sem]; exact au
 ·
  refine q11 (q1g Q8 (q12 Q7 (q0s Q6 (q8 Q4 (sM ?_))))); refine q05 ?_; simp only [go_sem]; refine q10 [some 4] [(0, .box [.osl 4 3 (0) (a_18.length), .v (.int .i64 b_18)]), (2, .box [.ptr 0 0]), (3, .box [.sl 3 (enc b_0)]), (4, .arr 3 (enc a_18))] 5 (.v (.bool true)) ?_ ?_
  · exact leA
  refine q1h ?_; simp only [go_sem]; exact au
def q3d (nv_0 : Int) (cap_0 : List (List GItem)) : Option (List GItem) :=
 (if (decide ((cap_0.length : Int) ≤ nv_0)) = true then some ([] : List GItem)
 else q9 (idx cap_0 nv_0) (fun xv_0 =>
 q9 (q8d xv_0) (fun v_0 =>
 some v_0)))
theorem qh7 (nv_0 : Int) (cap_0 : List (List GItem))  (r : List GItem) (h : q3d nv_0 cap_0 = some r) : DetS pp 92 [.v (.int .i64 nv_0), .el 1 [[.sl 1 (enc cap_0)]] 0 0] [] 0 (.osl 0 3 (0) (r.length)) [(0, .arr 3 (enc r))] 1 := by
 refine dtI Tryz.func92 rfl ?_; rw [q3d] at h; have F := trivial; refine sM ?_; refine sg fun _ Q2 => ?_; refine sM ?_; refine sB h (fun _ h => ?_) fun _ h => ?_
 · exact au
 · refine y5 (q8 Q2 (sg fun _ Q5 => ?_)); obtain ⟨xv_0, F, h⟩ := bI F h; obtain ⟨v_0, ev_0, h⟩ := z8 h; simp only [go_sem, F]; refine ai ?_; refine q18 [] (qo0 xv_0 v_0 ev_0) ?_; simp only [go_sem]; exact au
instance zw7 (nv_0 : Int) (cap_0 : List (List GItem)) : Ct pp 92 (q3d nv_0 cap_0) [.v (.int .i64 nv_0), .el 1 [[.sl 1 (enc cap_0)]] 0 0] fun r => (.sl 3 (enc r)) := ⟨fun r h => (qh7 nv_0 cap_0  r h).pure leA⟩
def q1j (t4_0 : Bool) : Option Bool :=
 (if t4_0 = true then some true
 else some false)
def q7h (kind_0 : Int) : Option Bool :=
 (if (kind_0 == 1) = true then q1j (kind_0 == 1)
 else (if (kind_0 == 2) = true then q1j (kind_0 == 2)
 else (if (kind_0 == 3) = true then q1j (kind_0 == 3)
 else (if (kind_0 == 4) = true then q1j (kind_0 == 4)
 else (if (kind_0 == 5) = true then q1j (kind_0 == 5)
 else (if (kind_0 == 10) = true then q1j (kind_0 == 10)
 else (if (kind_0 == 11) = true then q1j (kind_0 == 11)
 else (if (kind_0 == 12) = true then q1j (kind_0 == 12)
 else (if (kind_0 == 13) = true then q1j (kind_0 == 13)
 else q1j (kind_0 == 15))))))))))
instance j05 (kind_0 : Int) : Ct pp 95 (q7h kind_0) [.v (.int .i64 kind_0)] fun r => (.v (.bool r)) := ctK Tryz.func95 rfl (by rw [q7h]) (by
 intro r h F; refine sM ?_; refine jg fun _ Q2 => ?_; refine sM ?_; refine w9 fun _ Q4 => ?_; refine q2s (fun (t4_0 : Bool) => q1j t4_0 = some r) [] (fun t4_0 => ([(4, .v (.bool t4_0))], [])) 0 ?_ ?_
 · intro _ Q7; exact au
 ·
  rintro t4_0 h
  try dsimp only at h
  rw [q1j] at h; exact au)
def q23 (ok_2 : Bool) (b_2 : Int) (a_2 : List GItem) : Option ((List GItem) × Bool) :=
 (if (!ok_2) = true then some (([] : List GItem), false)
 else q9 (q4c (⟨a_2, b_2⟩ : GOps_maker)) (fun v_11 =>
 some (v_11.1, true)))
def qq5 (v_0 : List GItem) (rec_2 : Bool × Int × Int × (List GItem) → Option ((List GItem) × Bool)) : Bool × Int × Int × (List GItem) → Option ((List GItem) × Bool) :=
 fun (ok_4, t48_3, b_4, a_4) =>
 (if (decide (t48_3 < (v_0.length : Int))) = true then q9 (idx v_0 t48_3) (fun xv_6 =>
 (if ok_4 = true then q9 (q0x (⟨a_4, b_4⟩ : GOps_maker) xv_6.Rec 1) (fun v_18 =>
 rec_2 (v_18.1, i64.wrap (t48_3 + 1), v_18.2.many, v_18.2.out))
 else rec_2 (false, i64.wrap (t48_3 + 1), b_4, a_4)))
 else q23 ok_4 b_4 a_4)
def q8b (xv_0 : GNode) (ports_0 : List (List GItem)) : Option ((List GItem) × Bool) :=
 q9 (q3d 0 ports_0) (fun v_0 =>
 q9 (q3d 1 ports_0) (fun v_1 =>
 (if (xv_0.Kind == 5) = true then q9 (q1u (⟨([] : List GItem), 0⟩ : GOps_maker) xv_0 v_0) (fun v_12 =>
 (if v_12.1 = true then q9 (q1u v_12.2 xv_0 v_1) (fun v_13 =>
 q23 v_13.1 v_13.2.many v_13.2.out)
 else q23 false v_12.2.many v_12.2.out))
 else q9 (q7h xv_0.Kind) (fun v_14 =>
 (if v_14 = true then q9 (q1u (⟨([] : List GItem), 0⟩ : GOps_maker) xv_0 v_0) (fun v_15 =>
 q23 v_15.1 v_15.2.many v_15.2.out)
 else (if (xv_0.Kind == 8) = true then u7 (qq5 v_0) rounds (true, 0, 0, [])
 else (if (xv_0.Kind == 9) = true then q9 (q4b (⟨([] : List GItem), 0⟩ : GOps_maker) v_0 v_1) (fun v_19 =>
 q23 v_19.1 v_19.2.many v_19.2.out)
 else (if (((xv_0.Kind == 7) || (xv_0.Kind == 6)) || (xv_0.Kind == 14)) = true then q9 (q38 (⟨([] : List GItem), 0⟩ : GOps_maker) xv_0.Kind v_0 v_1) (fun v_20 =>
 q23 v_20.1 v_20.2.many v_20.2.out)
 else q23 true 0 ([])))))))))
theorem z5j (xv_0 : GNode) (ports_0 : List (List GItem))  (r : (List GItem) × Bool) (h : q8b xv_0 ports_0 = some r) : DetS pp 54 [.agg (Row.row xv_0), .sl 1 (enc ports_0)] [] 0 (.tup [.osl 0 3 (0) (r.1.length), .v (.bool r.2)]) [(0, .arr 3 (enc r.1))] 1 := by
 refine dtI Tryz.func54 rfl ?_; rw [q8b] at h; have F := trivial; refine sM ?_; refine sM ?_; refine sM ?_; refine sg fun _ Q4 => ?_; obtain ⟨v_0, ev_0, h⟩ := z8 h; simp only [go_sem]; refine q8g [2] ([(6, .clo 92 [.el 1 [[.sl 1 (enc ports_0)]] 0 0]), (7, .ptr 1 0)], [(0, .box (Row.row xv_0)), (1, .box [.v (.slice none 0 0), .v (.int .i64 0)])]) 2 [some 0, some 2] [.v (.int .i64 0), .el 1 [[.sl 1 (enc ports_0)]] 0 0] ?_; refine q18 [] (qh7 0 ports_0 v_0 ev_0) ?_; obtain ⟨v_1, ev_1, h⟩ := z8 h; simp only [go_sem]; refine q18 [] (qh7 1 ports_0 v_1 ev_1) ?_; simp only [go_sem]; refine q8 Q4 (sM ?_); refine q2s (fun ((ok_2, b_2, a_2) : Bool × Int × (List GItem)) => q23 ok_2 b_2 a_2 = some r) [] (fun x => ([(7, .ptr 0 0), (10, .v (.bool x.1))], [(0, .box [.osl 1 3 (0) (x.2.2.length), .v (.int .i64 x.2.1)]), (1, .arr 3 (enc x.2.2))])) 2 ?_ ?_
 ·
  intro _ Q10; refine w9 fun _ Q11 => ?_; refine sM ?_; refine sB h (fun _ h => ?_) fun _ h => ?_
  ·
   obtain ⟨v_12, ev_12, h⟩ := z8 h; simp only [go_sem]; refine q8g [2, 7, 10] ([(9, .osl 2 3 (0) (v_1.length))], [(0, .box (Row.row xv_0)), (1, .box [.osl 3 3 (0) (List.length ([] : List GItem)), .v (.int .i64 0)]), (2, .arr 3 (enc v_1)), (3, .arr 3 (enc ([] : List GItem)))]) 4 [some 0, some 1, some 3, none] [.ptr 1 0, .agg (Row.row xv_0), .sl 3 (enc v_0)] ?_; refine q18 [1, 3] (q5j (⟨([] : List GItem), 0⟩ : GOps_maker) xv_0 v_0 v_12 ev_12) ?_; simp only [go_sem]; rcases hb_13 : v_12.1 with _ | _
   · replace h := q5g h hb_13; simp only [go_sem, hb_13]; exact au
   · replace h := q5f h hb_13; obtain ⟨v_13, ev_13, h⟩ := z8 h; simp only [go_sem, hb_13]; refine q8g [7, 10, 28] ([], [(0, .box (Row.row xv_0)), (1, .box [.osl 2 3 (0) (v_12.2.out.length), .v (.int .i64 v_12.2.many)]), (2, .arr 3 (enc v_12.2.out))]) 3 [some 0, some 1, some 4] [.ptr 1 0, .agg (Row.row xv_0), .sl 3 (enc v_1)] ?_; refine q18 [1, 2] (q5j v_12.2 xv_0 v_1 v_13 ev_13) ?_; simp only [go_sem]; exact au
  ·
   refine sg fun _ Q13 => ?_; simp only [go_sem]; refine q1s h fun v_14 h => ?_; simp only [go_sem]; refine q8 Q13 (sB h (fun _ h => ?_) fun _ h => ?_)
   · obtain ⟨v_15, ev_15, h⟩ := z8 h; simp only [go_sem]; refine q8g [7, 10] ([], [(0, .box (Row.row xv_0)), (1, .box [.osl 3 3 (0) (List.length ([] : List GItem)), .v (.int .i64 0)]), (2, .arr 3 (enc v_1)), (3, .arr 3 (enc ([] : List GItem)))]) 4 [some 0, some 1, some 3, none] [.ptr 1 0, .agg (Row.row xv_0), .sl 3 (enc v_0)] ?_; refine q18 [1, 3] (q5j (⟨([] : List GItem), 0⟩ : GOps_maker) xv_0 v_0 v_15 ev_15) ?_; simp only [go_sem]; exact au
   ·
    refine sM ?_; refine sB h (fun _ h => ?_) fun _ h => ?_
    ·
     refine sM ?_; refine w9 fun _ Q16 => ?_; refine q0a h [47] (fun x => ([(7, .ptr 0 0), (10, .v (.bool x.1)), (46, .osl 1 3 (0) (v_0.length)), (48, .v (.int .i64 x.2.1))], [(0, .box [.osl 2 3 (0) (x.2.2.2.length), .v (.int .i64 x.2.2.1)]), (1, .arr 3 (enc v_0)), (2, .arr 3 (enc x.2.2.2))])) 3 ?_; rintro m_2 ⟨ok_4, t48_3, b_4, a_4⟩ h _ Q17; rw [qq5] at h; refine sM ?_; refine sg fun _ Q19 => ?_; refine sB h (fun _ h => ?_) fun _ h => ?_
     ·
      refine y5 (q8 Q19 (sg fun _ Q20 => ?_)); refine w9 fun _ Q21 => ?_; refine sg fun _ Q22 => ?_; obtain ⟨xv_6, F, h⟩ := bI F h; simp only [go_sem, F]; refine ai ?_; refine q8 Q22 ?_; simp only [go_sem]; rcases hb_20 : ok_4 with _ | _
      · replace h := q5g h hb_20; simp only [go_sem, hb_20]; exact au
      · replace h := q5f h hb_20; obtain ⟨v_18, ev_18, h⟩ := z8 h; simp only [go_sem, hb_20]; refine q18 [0, 2] (q2b (⟨a_4, b_4⟩ : GOps_maker) xv_6.Rec 1 v_18 ev_18) ?_; simp only [go_sem]; exact au
     · exact au
    ·
     refine sM ?_; refine sB h (fun _ h => ?_) fun _ h => ?_
     · obtain ⟨v_19, ev_19, h⟩ := z8 h; simp only [go_sem]; refine q8g [7, 10] ([], [(0, .box (Row.row xv_0)), (1, .box [.osl 2 3 (0) (List.length ([] : List GItem)), .v (.int .i64 0)]), (2, .arr 3 (enc ([] : List GItem)))]) 3 [some 0, some 1, none] [.ptr 1 0, .sl 3 (enc v_0), .sl 3 (enc v_1)] ?_; refine q18 [1, 2] (qq3 (⟨([] : List GItem), 0⟩ : GOps_maker) v_0 v_1 v_19 ev_19) ?_; simp only [go_sem]; exact au
     ·
      refine sM ?_; refine sB h (fun _ h => ?_) fun _ h => ?_
      · obtain ⟨v_20, ev_20, h⟩ := z8 h; simp only [go_sem]; refine q8g [7, 10] ([], [(0, .box (Row.row xv_0)), (1, .box [.osl 2 3 (0) (List.length ([] : List GItem)), .v (.int .i64 0)]), (2, .arr 3 (enc ([] : List GItem)))]) 3 [some 0, some 1, none] [.ptr 1 0, .v (.int .i64 xv_0.Kind), .sl 3 (enc v_0), .sl 3 (enc v_1)] ?_; refine q18 [1, 2] (ql6 (⟨([] : List GItem), 0⟩ : GOps_maker) xv_0.Kind v_0 v_1 v_20 ev_20) ?_; simp only [go_sem]; exact au
      · exact au
 ·
  rintro ⟨ok_2, b_2, a_2⟩ h
  try dsimp only at h
  rw [q23] at h; refine sg fun _ Q6 => ?_; refine sM ?_; refine sB h (fun _ h => ?_) fun _ h => ?_
  · exact au
  · refine y5 (q8 Q6 (sg fun _ Q9 => ?_)); obtain ⟨v_11, ev_11, h⟩ := z8 h; simp only [go_sem]; refine q18 [0, 1] (qq4 (⟨a_2, b_2⟩ : GOps_maker) v_11 ev_11) ?_; simp only [go_sem]; exact au
instance z6e (xv_0 : GNode) (ports_0 : List (List GItem)) : Ct pp 54 (q8b xv_0 ports_0) [.agg (Row.row xv_0), .sl 1 (enc ports_0)] fun r => (.tup [.sl 3 (enc r.1), .v (.bool r.2)]) := ⟨fun r h => (z5j xv_0 ports_0  r h).pure leA⟩
def qb5 (xv_0 : Int) (y_0 : Int) : Option (Int × Int) :=
 q9 (q30 xv_0 y_0) (fun v_0 =>
 some (v_0.1, v_0.2))
instance zo5 (xv_0 : Int) (y_0 : Int) : Ct pp 148 (qb5 xv_0 y_0) [.v (.int .u64 xv_0), .v (.int .u64 y_0)] fun r => (.tup [.v (.int .u64 r.1), .v (.int .u64 r.2)]) := ctI Tryz.func148 rfl (by rw [qb5]; exact au1)
def q8a  (rec_3 : Int × (List GRec) → Option (List GRec)) : Int × (List GRec) → Option (List GRec) :=
 fun (nv_1, a_1) =>
 (if (decide (nv_1 < (a_1.length : Int))) = true then y9 (0 ≤ nv_1 ∧ nv_1 ≤ (a_1.length : Int) ∧ (a_1.length : Int) ≤ (a_1.length : Int)) (
 y9 (0 ≤ 0 ∧ 0 ≤ nv_1 ∧ nv_1 ≤ (a_1.length : Int)) (
 y9 (nv_1.toNat + (a_1.length - nv_1.toNat) ≤ a_1.length) (
 y9 (0 + nv_1.toNat ≤ a_1.length) (
 rec_3 (i64.wrap (nv_1 + ((min (List.length (List.take (nv_1.toNat) a_1)) ((a_1.length - nv_1.toNat)) : Nat) : Int)), (List.take (a_1.length) (List.take (nv_1.toNat) a_1 ++ (List.take ((a_1.length - nv_1.toNat)) (List.take (nv_1.toNat) a_1)) ++ List.drop (nv_1.toNat + List.length (List.take ((a_1.length - nv_1.toNat)) (List.take (nv_1.toNat) a_1))) a_1)))))))
 else some a_1)
def q67 (xv_0 : List GRec) (v_0 : Int × Int) : Option (List GRec) :=
 y9 (0 ≤ (i64.wrap v_0.2) ∧ (i64.wrap v_0.2) * 16 ≤ 140737488355328) (
 y9 (0 + (Int.toNat (i64.wrap v_0.2)) ≤ List.length (List.replicate (Int.toNat (i64.wrap v_0.2)) (⟨0, 0⟩ : GRec))) (
 u7 (q8a) rounds (((min (xv_0.length) ((Int.toNat (i64.wrap v_0.2))) : Nat) : Int), (List.take (Int.toNat (i64.wrap v_0.2)) ((List.take ((Int.toNat (i64.wrap v_0.2))) xv_0) ++ List.drop (List.length (List.take ((Int.toNat (i64.wrap v_0.2))) xv_0)) (List.replicate (Int.toNat (i64.wrap v_0.2)) (⟨0, 0⟩ : GRec)))))))
def q68 (xv_0 : List GRec) (count_0 : Int) : Option (List GRec) :=
 q9 (qb5 (IntKind.u64.wrap (xv_0.length : Int)) (IntKind.u64.wrap count_0)) (fun v_0 =>
 (if ((decide (0 < v_0.1)) || (decide (9223372036854775807 < v_0.2))) = true then none
 else q67 xv_0 v_0))
def q4r (xv_0 : List GRec) (count_0 : Int) : Option (List GRec) :=
 (if (decide (count_0 < 0)) = true then none
 else q68 xv_0 count_0)
theorem qh2 (xv_0 : List GRec) (count_0 : Int)  (r : List GRec) (h : q4r xv_0 count_0 = some r) : DetS pp 128 [.sl 2 (enc xv_0), .v (.int .i64 count_0)] [] 0 (.osl 0 2 (0) (r.length)) [(0, .arr 2 (enc r))] 1 := by
 refine dtI Tryz.func128 rfl ?_; rw [q4r] at h; have F := trivial; refine sM ?_; refine q2s (fun (_ : Unit) => q68 xv_0 count_0 = some r) [0, 1] (fun _ => ([], [])) 0 ?_ ?_
 ·
  intro _ Q14; refine sM ?_; refine sB h (fun _ h => ?_) fun _ h => ?_
  · exact absurd h (by simp)
  · exact au
 ·
  rintro ⟨⟩ h
  try dsimp only at h
  rw [q68] at h; refine sg fun _ Q2 => ?_; simp only [go_sem]; refine q1s h fun v_0 h => ?_; simp only [go_sem]; refine q8 Q2 (q2s (fun (_ : Unit) => q67 xv_0 v_0 = some r) [0, 6] (fun _ => ([], [])) 0 ?_ ?_)
  ·
   intro _ Q12; refine sM ?_; refine sB h (fun _ h => ?_) fun _ h => ?_
   · exact absurd h (by simp)
   · exact au
  ·
   rintro ⟨⟩ h
   try dsimp only at h
   rw [q67] at h; refine sg fun _ Q3 => ?_; obtain ⟨F, h⟩ := bG F h; have rf_0 : List.replicate (Int.toNat (i64.wrap v_0.2)) [.v (.int .i64 0), .v (.int .i64 0)] = enc (List.replicate (Int.toNat (i64.wrap v_0.2)) (⟨0, 0⟩ : GRec)) := by (simp [enc, qp4, qk4, q86, q3y]; exact .inr rfl)
   simp only [go_sem, F]; simp only [rf_0]; refine q8 Q3 (sg fun _ Q4 => ?_); obtain ⟨g_1, h⟩ := q0r h; have F := And.intro F g_1; simp only [Nat.zero_add] at g_1; have rf_1 : List.take (0) (enc (List.replicate (Int.toNat (i64.wrap v_0.2)) (⟨0, 0⟩ : GRec))) ++ enc (List.take ((Int.toNat (i64.wrap v_0.2))) xv_0) ++ List.drop (0 + List.length (List.take ((Int.toNat (i64.wrap v_0.2))) xv_0)) (enc (List.replicate (Int.toNat (i64.wrap v_0.2)) (⟨0, 0⟩ : GRec))) = enc ((List.take ((Int.toNat (i64.wrap v_0.2))) xv_0) ++ List.drop (List.length (List.take ((Int.toNat (i64.wrap v_0.2))) xv_0)) (List.replicate (Int.toNat (i64.wrap v_0.2)) (⟨0, 0⟩ : GRec))) := by simp [enc, List.map_take, List.map_drop]
   simp only [Nat.zero_add, List.take_zero, List.nil_append] at rf_1; simp only [go_sem, g_1, rf_1]; refine q8 Q4 (jg fun _ Q5 => ?_); refine w9 fun _ Q6 => ?_; refine q0a h [] (fun x => ([(7, .osl 0 2 (0) (x.2.length)), (8, .v (.int .i64 x.1))], [(0, .arr 2 (enc x.2))])) 1 ?_; rintro m_3 ⟨nv_1, a_1⟩ h _ Q7; rw [q8a] at h; refine sg fun _ Q8 => ?_; refine sM ?_; refine sB h (fun _ h => ?_) fun _ h => ?_
   ·
    refine y5 (q8 Q8 (w9 fun _ Q10 => ?_)); refine p9 ?_; refine q2n 8 0 0 [0, 0, 0, 6, 0, 0, 48, 126, 255, 511] [0] [0] [] [7] [] mixed (by kernel_rfl) (of_decide_eq_true (by kernel_rfl)) (by kernel_rfl) (by kernel_rfl) (by rfl) ?_; obtain ⟨F, h⟩ := bG F h; obtain ⟨F, h⟩ := bG F h; obtain ⟨F, h⟩ := bG F h; obtain ⟨g_13, h⟩ := q0r h; have F := And.intro F g_13; simp only [Nat.zero_add] at g_13; have rf_4 : List.take (nv_1.toNat) (enc a_1) ++ enc (List.take ((a_1.length - nv_1.toNat)) (List.take (nv_1.toNat) a_1)) ++ List.drop (nv_1.toNat + List.length (List.take ((a_1.length - nv_1.toNat)) (List.take (nv_1.toNat) a_1))) (enc a_1) = enc (List.take (nv_1.toNat) a_1 ++ (List.take ((a_1.length - nv_1.toNat)) (List.take (nv_1.toNat) a_1)) ++ List.drop (nv_1.toNat + List.length (List.take ((a_1.length - nv_1.toNat)) (List.take (nv_1.toNat) a_1))) a_1) := by simp [enc, List.map_take, List.map_drop]
    simp only [go_sem, g_13, rf_4, F]; exact au
   · exact au
instance zc8 (xv_0 : List GRec) (count_0 : Int) : Ct pp 128 (q4r xv_0 count_0) [.sl 2 (enc xv_0), .v (.int .i64 count_0)] fun r => (.sl 2 (enc r)) := ⟨fun r h => (qh2 xv_0 count_0  r h).pure leA⟩
def qk1 (v_0 : List GItem) (rec_2 : Int × (List GRec) → Option ((List GRec) × Bool)) : Int × (List GRec) → Option ((List GRec) × Bool) :=
 fun (t28_1, a_1) =>
 (if (decide (t28_1 < (v_0.length : Int))) = true then q9 (idx v_0 t28_1) (fun xv_5 =>
 q9 (q4r ([xv_5.Rec] : List GRec) xv_5.N) (fun v_3 =>
 y9 ((a_1.length + v_3.length) * 16 ≤ 140737488355328) (
 rec_2 (i64.wrap (t28_1 + 1), (a_1 ++ v_3)))))
 else some (a_1, true))
def qk0 (v_0 : List GItem) : Option ((List GRec) × Bool) :=
 u7 (qk1 v_0) rounds (0, [])
def qt8 (v_0 : List GItem) (rec_3 : Int × Int → Option ((List GRec) × Bool)) : Int × Int → Option ((List GRec) × Bool) :=
 fun (nv_3, t15_3) =>
 (if (decide (t15_3 < (v_0.length : Int))) = true then q9 (idx v_0 t15_3) (fun xv_8 =>
 (if (decide (65536 < (i64.wrap (nv_3 + xv_8.N)))) = true then some (([] : List GRec), false)
 else rec_3 (i64.wrap (nv_3 + xv_8.N), i64.wrap (t15_3 + 1))))
 else qk0 v_0)
def qh0 (b_0 : List GItem) : Option ((List GRec) × Bool) :=
 q9 (q8d b_0) (fun v_0 =>
 u7 (qt8 v_0) rounds (0, 0))
theorem z0d (b_0 : List GItem)  (r : (List GRec) × Bool) (h : qh0 b_0 = some r) : DetS pp 100 [.sl 3 (enc b_0)] [] 0 (.tup [.osl 0 2 (0) (r.1.length), .v (.bool r.2)]) [(0, .arr 2 (enc r.1))] 1 := by
 refine dtI Tryz.func100 rfl ?_; rw [qh0] at h; have F := trivial; refine sM ?_; refine sg fun _ Q2 => ?_; obtain ⟨v_0, ev_0, h⟩ := z8 h; simp only [go_sem]; refine q18 [] (qo0 b_0 v_0 ev_0) ?_; simp only [go_sem]; refine q8 Q2 (sM ?_); refine q2s (fun (_ : Unit) => qk0 v_0 = some r) [4] (fun _ => ([], [(0, .arr 3 (enc v_0))])) 1 ?_ ?_
 · intro _ Q15; refine sM ?_; refine w9 fun _ Q17 => ?_; refine q0a h [4, 13, 14] (fun x => ([(5, .v (.int .i64 x.1)), (15, .v (.int .i64 x.2))], [(0, .arr 3 (enc v_0))])) 1 ?_; rintro m_3 ⟨nv_3, t15_3⟩ h _ Q18; rw [qt8] at h; exact au
 ·
  rintro ⟨⟩ h
  try dsimp only at h
  rw [qk0] at h; refine sM ?_; refine jg fun _ Q5 => ?_; refine sM ?_; refine w9 fun _ Q7 => ?_; refine q0a h [27] (fun x => ([(8, .osl 0 2 (0) (x.2.length)), (26, .osl 1 3 (0) (v_0.length)), (28, .v (.int .i64 x.1))], [(0, .arr 2 (enc x.2)), (1, .arr 3 (enc v_0))])) 2 ?_; rintro m_2 ⟨t28_1, a_1⟩ h _ Q8; rw [qk1] at h; refine sM ?_; refine sg fun _ Q10 => ?_; refine sB h (fun _ h => ?_) fun _ h => ?_
  ·
   refine y5 (q8 Q10 (sg fun _ Q11 => ?_)); refine w9 fun _ Q12 => ?_; refine sg fun _ Q13 => ?_; obtain ⟨xv_5, F, h⟩ := bI F h; simp only [go_sem, F]; refine ai ?_; refine q8 Q13 ?_; have rf_3 : [[.v (.int .i64 xv_5.Rec.K), .v (.int .i64 xv_5.Rec.V)]] = enc ([xv_5.Rec] : List GRec) := by rfl
   obtain ⟨v_3, ev_3, h⟩ := z8 h; simp only [go_sem]; simp only [rf_3]; refine q8g [8, 26, 27, 28, 32] ([], [(0, .arr 2 (enc a_1)), (1, .arr 3 (enc v_0)), (2, .box (Row.row xv_5))]) 3 [some 0, some 1, some 2] [.sl 2 (enc ([xv_5.Rec] : List GRec)), .v (.int .i64 xv_5.N)] ?_; refine q18 [] (qh2 ([xv_5.Rec] : List GRec) xv_5.N v_3 ev_3) ?_; obtain ⟨F, h⟩ := bG F h; have rf_4 : enc a_1 ++ enc v_3 = enc (a_1 ++ v_3) := by exact (q3h a_1 v_3).symm
   simp only [go_sem, rf_4, F]; refine And.intro (by (intros; simp_all; done)) ?_; exact au
  · exact au
instance j2u (b_0 : List GItem) : Ct pp 100 (qh0 b_0) [.sl 3 (enc b_0)] fun r => (.tup [.sl 2 (enc r.1), .v (.bool r.2)]) := ⟨fun r h => (z0d b_0  r h).pure leA⟩
def q5v (s_0 : List GPoint) (v_0 : GPoint) (rec_1 : Int → Option Int) : Int → Option Int :=
 fun t8_1 =>
 (if (decide (t8_1 < (s_0.length : Int))) = true then q9 (idx s_0 t8_1) (fun xv_2 =>
 (if ((v_0.Node == xv_2.Node) && ((v_0.Time.D == xv_2.Time.D) && ((v_0.Time.C.a0 == xv_2.Time.C.a0) && ((v_0.Time.C.a1 == xv_2.Time.C.a1) && ((v_0.Time.C.a2 == xv_2.Time.C.a2) && (v_0.Time.C.a3 == xv_2.Time.C.a3)))))) = true then some t8_1
 else rec_1 (i64.wrap (t8_1 + 1))))
 else some (-1))
def q2l (s_0 : List GPoint) (v_0 : GPoint) : Option Int :=
 u7 (q5v s_0 v_0) rounds 0
instance q7o (s_0 : List GPoint) (v_0 : GPoint) : Ct pp 49 (q2l s_0 v_0) [.sl 6 (enc s_0), .agg (Row.row v_0)] fun r => (.v (.int .i64 r)) := ctK Tryz.func49 rfl (by rw [q2l]) (by
 intro r h F; refine sM ?_; refine jg fun _ Q2 => ?_; refine sM ?_; refine w9 fun _ Q4 => ?_; refine q0a h [0, 3, 7] (fun t8_1 => ([(8, .v (.int .i64 t8_1))], [(0, .box (Row.row v_0))])) 1 ?_; rintro m_1 t8_1 h _ Q5; rw [q5v] at h; exact au)
def qq1 (b_0 : List GItem) (rec_1 : Int × Int → Option Int) : Int × Int → Option Int :=
 fun (nv_1, t8_1) =>
 (if (decide (t8_1 < (b_0.length : Int))) = true then q9 (idx b_0 t8_1) (fun xv_2 =>
 rec_1 (i64.wrap (nv_1 + xv_2.N), i64.wrap (t8_1 + 1)))
 else some nv_1)
def q66 (b_0 : List GItem) : Option Int :=
 u7 (qq1 b_0) rounds (0, 0)
instance z0a (b_0 : List GItem) : Ct pp 55 (q66 b_0) [.sl 3 (enc b_0)] fun r => (.v (.int .i64 r)) := ctK Tryz.func55 rfl (by rw [q66]) (by
 intro r h F; refine sM ?_; refine sM ?_; refine jg fun _ Q3 => ?_; refine sM ?_; refine w9 fun _ Q5 => ?_; refine q0a h [6, 7] (fun x => ([(3, .v (.int .i64 x.1)), (8, .v (.int .i64 x.2))], [])) 0 ?_; rintro m_1 ⟨nv_1, t8_1⟩ h _ Q6; rw [qq1] at h; exact au)
def q0t (rv_0 : GWave_runner) (out_0 : List GItem) (b_2 : Int) (a_12 : List GPoint) (a_13 : List (Arr2 (List GItem))) : Option (Int × GWave_runner) :=
 q9 (q66 out_0) (fun v_14 =>
 some (v_14, (⟨(⟨a_12, a_13⟩ : GWave_pool), rv_0.g, rv_0.table, rv_0.past, b_2, rv_0.waves, rv_0.outs⟩ : GWave_runner)))
def q07 (out_0 : List GItem) (t75_3 : Int) (b_4 : Int) (rec_3 : (Int × Int × (List GPoint) × (List (Arr2 (List GItem))) → Option (Int × GWave_runner))) (xv_19 : GEdge) (i_5 : Int) (a_22 : List GPoint) (a_23 : List (Arr2 (List GItem))) : Option (Int × GWave_runner) :=
 q9 (idx a_23 i_5) (fun xv_20 =>
 y9 (0 ≤ xv_19.Port ∧ xv_19.Port < 2) (
 q9 (idx ([xv_20.a0, xv_20.a1] : List (List GItem)) xv_19.Port) (fun xv_21 =>
 q9 (q6a xv_21 out_0) (fun v_25 =>
 y9 (0 ≤ xv_19.Port ∧ xv_19.Port < 2) (
 q9 (some (if xv_19.Port.toNat = 0 then v_25 else xv_20.a0)) (fun w_10 =>
 q9 (some (if xv_19.Port.toNat = 1 then v_25 else xv_20.a1)) (fun w_11 =>
 q9 (q66 out_0) (fun v_26 =>
 rec_3 (i64.wrap (t75_3 + 1), i64.wrap (b_4 + v_26), a_22, (List.set a_23 (i_5.toNat) (⟨w_10, w_11⟩ : Arr2 (List GItem))))))))))))
def q0h (rv_0 : GWave_runner) (p_0 : GPoint) (out_0 : List GItem) (v_1 : GTime × Bool) (rec_3 : Int × Int × (List GPoint) × (List (Arr2 (List GItem))) → Option (Int × GWave_runner)) : Int × Int × (List GPoint) × (List (Arr2 (List GItem))) → Option (Int × GWave_runner) :=
 fun (t75_3, b_4, a_20, a_21) =>
 (if (decide (t75_3 < (rv_0.g.Edges.length : Int))) = true then q9 (idx rv_0.g.Edges t75_3) (fun xv_19 =>
 (if (xv_19.From == p_0.Node) = true then (if ((out_0.length : Int) == 0) = true then q9 (q66 out_0) (fun v_23 =>
 rec_3 (i64.wrap (t75_3 + 1), i64.wrap (b_4 + v_23), a_20, a_21))
 else q9 (q2l a_20 (⟨xv_19.To, v_1.1⟩ : GPoint)) (fun v_24 =>
 (if (decide (v_24 < 0)) = true then y9 ((a_20.length + List.length ([(⟨xv_19.To, v_1.1⟩ : GPoint)] : List GPoint)) * 48 ≤ 140737488355328) (
 y9 ((a_21.length + List.length ([(⟨([] : List GItem), ([] : List GItem)⟩ : Arr2 (List GItem))] : List (Arr2 (List GItem)))) * 48 ≤ 140737488355328) (
 q07 out_0 t75_3 b_4 rec_3 xv_19 (a_20.length : Int) (a_20 ++ ([(⟨xv_19.To, v_1.1⟩ : GPoint)] : List GPoint)) (a_21 ++ ([(⟨([] : List GItem), ([] : List GItem)⟩ : Arr2 (List GItem))] : List (Arr2 (List GItem))))))
 else q07 out_0 t75_3 b_4 rec_3 xv_19 v_24 a_20 a_21)))
 else rec_3 (i64.wrap (t75_3 + 1), b_4, a_20, a_21)))
 else q0t rv_0 out_0 b_4 a_20 a_21)
def q0u (rv_0 : GWave_runner) (p_0 : GPoint) (out_0 : List GItem) : Option (Int × GWave_runner) :=
 q9 (qe1 rv_0.g p_0.Node p_0.Time) (fun v_1 =>
 (if (!v_1.2) = true then some (0, rv_0)
 else u7 (q0h rv_0 p_0 out_0 v_1) rounds (0, rv_0.work, rv_0.pool.points, rv_0.pool.in_)))
def q0v (rv_0 : GWave_runner) (p_0 : GPoint) (v_27 : (List GRec) × Bool) (rec_5 : Int × (List GOut) → Option (Int × GWave_runner)) : Int × (List GOut) → Option (Int × GWave_runner) :=
 fun (t33_3, a_25) =>
 (if (decide (t33_3 < (v_27.1.length : Int))) = true then q9 (idx v_27.1 t33_3) (fun xv_25 =>
 y9 ((a_25.length + List.length ([(⟨p_0.Node, p_0.Time.C.a0, xv_25⟩ : GOut)] : List GOut)) * 32 ≤ 140737488355328) (
 rec_5 (i64.wrap (t33_3 + 1), (a_25 ++ ([(⟨p_0.Node, p_0.Time.C.a0, xv_25⟩ : GOut)] : List GOut)))))
 else some (0, (⟨rv_0.pool, rv_0.g, rv_0.table, rv_0.past, rv_0.work, rv_0.waves, a_25⟩ : GWave_runner)))
def q0i (rv_0 : GWave_runner) (p_0 : GPoint) (out_0 : List GItem) : Option (Int × GWave_runner) :=
 q9 (idx rv_0.g.Nodes p_0.Node) (fun xv_22 =>
 (if (xv_22.Kind == 15) = true then q9 (qh0 out_0) (fun v_27 =>
 u7 (q0v rv_0 p_0 v_27) rounds (0, rv_0.outs))
 else q0u rv_0 p_0 out_0))
theorem q5s (rv_0 : GWave_runner) (p_0 : GPoint) (out_0 : List GItem)  (r : Int × GWave_runner) (h : q0i rv_0 p_0 out_0 = some r) : DetS pp 56 [.ptr 0 0, .agg (Row.row p_0), .sl 3 (enc out_0)] [(0, .box [.osl 1 6 (0) (rv_0.pool.points.length), .osl 2 2 (0) (rv_0.pool.in_.length), .sl 1 (enc rv_0.g.Parent), .sl 1 (enc rv_0.g.Bound), .sl 4 (enc rv_0.g.Nodes), .sl 4 (enc rv_0.g.Edges), .sl 1 (enc rv_0.table), .osl 3 6 (0) (rv_0.past.points.length), .osl 4 2 (0) (rv_0.past.in_.length), .v (.int .i64 rv_0.work), .osl 5 8 (0) (rv_0.waves.length), .osl 6 4 (0) (rv_0.outs.length)]), (1, .arr 6 (enc rv_0.pool.points)), (2, .arr 2 (enc rv_0.pool.in_)), (3, .arr 6 (enc rv_0.past.points)), (4, .arr 2 (enc rv_0.past.in_)), (5, .arr 8 (enc rv_0.waves)), (6, .arr 4 (enc rv_0.outs))] 7 (.v (.int .i64 r.1)) [(0, .box [.osl 7 6 (0) (r.2.pool.points.length), .osl 8 2 (0) (r.2.pool.in_.length), .sl 1 (enc r.2.g.Parent), .sl 1 (enc r.2.g.Bound), .sl 4 (enc r.2.g.Nodes), .sl 4 (enc r.2.g.Edges), .sl 1 (enc r.2.table), .osl 9 6 (0) (r.2.past.points.length), .osl 10 2 (0) (r.2.past.in_.length), .v (.int .i64 r.2.work), .osl 11 8 (0) (r.2.waves.length), .osl 12 4 (0) (r.2.outs.length)]), (7, .arr 6 (enc r.2.pool.points)), (8, .arr 2 (enc r.2.pool.in_)), (9, .arr 6 (enc r.2.past.points)), (10, .arr 2 (enc r.2.past.in_)), (11, .arr 8 (enc r.2.waves)), (12, .arr 4 (enc r.2.outs))] 13 := by
 refine dtI Tryz.func56 rfl ?_; rw [q0i] at h; have F := trivial; refine sM ?_; refine q2s (fun (_ : Unit) => q0u rv_0 p_0 out_0 = some r) [0, 2, 4] (fun _ => ([], [(0, .box [.osl 1 6 (0) (rv_0.pool.points.length), .osl 2 2 (0) (rv_0.pool.in_.length), .sl 1 (enc rv_0.g.Parent), .sl 1 (enc rv_0.g.Bound), .sl 4 (enc rv_0.g.Nodes), .sl 4 (enc rv_0.g.Edges), .sl 1 (enc rv_0.table), .osl 3 6 (0) (rv_0.past.points.length), .osl 4 2 (0) (rv_0.past.in_.length), .v (.int .i64 rv_0.work), .osl 5 8 (0) (rv_0.waves.length), .osl 6 4 (0) (rv_0.outs.length)]), (1, .arr 6 (enc rv_0.pool.points)), (2, .arr 2 (enc rv_0.pool.in_)), (3, .arr 6 (enc rv_0.past.points)), (4, .arr 2 (enc rv_0.past.in_)), (5, .arr 8 (enc rv_0.waves)), (6, .arr 4 (enc rv_0.outs)), (7, .box (Row.row p_0))])) 8 ?_ ?_
 ·
  intro _ Q26; refine sg fun _ Q27 => ?_; refine p9 ?_; refine j4u ?_; obtain ⟨xv_22, F, h⟩ := bI F h; simp only [go_sem, F]; refine ai ?_; refine q8 Q27 (sB h (fun _ h => ?_) fun _ h => ?_)
  ·
   refine sg fun _ Q28 => ?_; obtain ⟨v_27, ev_27, h⟩ := z8 h; simp only [go_sem]; refine q18 [] (z0d out_0 v_27 ev_27) ?_; simp only [go_sem]; refine q8 Q28 (jg fun _ Q29 => ?_); refine sM ?_; refine w9 fun _ Q31 => ?_; refine q0a h [0, 4, 31, 32] (fun x => ([(33, .v (.int .i64 x.1))], [(0, .box [.osl 1 6 (0) (rv_0.pool.points.length), .osl 2 2 (0) (rv_0.pool.in_.length), .sl 1 (enc rv_0.g.Parent), .sl 1 (enc rv_0.g.Bound), .sl 4 (enc rv_0.g.Nodes), .sl 4 (enc rv_0.g.Edges), .sl 1 (enc rv_0.table), .osl 3 6 (0) (rv_0.past.points.length), .osl 4 2 (0) (rv_0.past.in_.length), .v (.int .i64 rv_0.work), .osl 5 8 (0) (rv_0.waves.length), .osl 9 4 (0) (x.2.length)]), (1, .arr 6 (enc rv_0.pool.points)), (2, .arr 2 (enc rv_0.pool.in_)), (3, .arr 6 (enc rv_0.past.points)), (4, .arr 2 (enc rv_0.past.in_)), (5, .arr 8 (enc rv_0.waves)), (7, .box (Row.row p_0)), (8, .arr 2 (enc v_27.1)), (9, .arr 4 (enc x.2))])) 10 ?_; rintro m_5 ⟨t33_3, a_25⟩ h _ Q32; rw [q0v] at h; refine sM ?_; refine sg fun _ Q34 => ?_; refine sB h (fun _ h => ?_) fun _ h => ?_
   ·
    refine y5 (q8 Q34 (sg fun _ Q35 => ?_)); refine w9 fun _ Q36 => ?_; refine sg fun _ Q37 => ?_; obtain ⟨xv_25, F, h⟩ := bI F h; simp only [go_sem, F]; refine ai ?_; refine q8 Q37 (p9 ?_); refine q2n 15 0 0 [0, 0, 2, 6, 14, 0, 32, 0, 128, 384, 896, 0, 4064, 8160, 16382, 32767, 65535, 131071] [9, 11] [0] [] [14] [] mixed (by kernel_rfl) (of_decide_eq_true (by kernel_rfl)) (by kernel_rfl) (by kernel_rfl) (by rfl) ?_; have rf_64 : [[.v (.int .i64 p_0.Node), .v (.int .i64 p_0.Time.C.a0), .v (.int .i64 xv_25.K), .v (.int .i64 xv_25.V)]] = enc ([(⟨p_0.Node, p_0.Time.C.a0, xv_25⟩ : GOut)] : List GOut) := by rfl
    obtain ⟨g_41, h⟩ := q0r h; have F := And.intro F g_41; simp only [List.length_cons, List.length_nil, Nat.zero_add, List.length_append] at g_41; have rf_65 : enc a_25 ++ [[.v (.int .i64 p_0.Node), .v (.int .i64 p_0.Time.C.a0), .v (.int .i64 xv_25.K), .v (.int .i64 xv_25.V)]] = enc (a_25 ++ ([(⟨p_0.Node, p_0.Time.C.a0, xv_25⟩ : GOut)] : List GOut)) := by exact (q3h a_25 ([(⟨p_0.Node, p_0.Time.C.a0, xv_25⟩ : GOut)] : List GOut)).symm
    simp only [go_sem, g_41, rf_65]; simp only [rf_64]; exact au
   · exact au
  · exact au
 ·
  rintro ⟨⟩ h
  try dsimp only at h
  rw [q0u] at h; refine sg fun _ Q2 => ?_; refine p9 ?_; refine q2n 14 0 0 [0, 1, 3, 7, 0, 16, 0, 64, 255, 511, 1023, 1023, 0, 6143, 16383] [8] [0, 1, 2, 3, 4, 5, 6, 7, 8, 9, 10, 11] [] [12, 13] [] mixed (by kernel_rfl) (of_decide_eq_true (by kernel_rfl)) (by kernel_rfl) (by kernel_rfl) (by rfl) ?_; obtain ⟨v_1, ev_1, h⟩ := z8 h; simp only [go_sem]; refine callq (fun _ => (z5i rv_0.g p_0.Node p_0.Time v_1 ev_1)) (by rfl) (by rfl) ?_; simp only [go_sem]; refine q8 Q2 (sg fun _ Q3 => ?_); refine sM ?_; refine sB h (fun _ h => ?_) fun _ h => ?_
  · exact au
  ·
   refine y5 (q8 Q3 (q2s (fun ((b_2, a_12, a_13) : Int × (List GPoint) × (List (Arr2 (List GItem)))) => q0t rv_0 out_0 b_2 a_12 a_13 = some r) [2] (fun x => ([], [(0, .box [.osl 7 6 (0) (x.2.1.length), .osl 8 2 (0) (x.2.2.length), .sl 1 (enc rv_0.g.Parent), .sl 1 (enc rv_0.g.Bound), .sl 4 (enc rv_0.g.Nodes), .sl 4 (enc rv_0.g.Edges), .sl 1 (enc rv_0.table), .osl 3 6 (0) (rv_0.past.points.length), .osl 4 2 (0) (rv_0.past.in_.length), .v (.int .i64 x.1), .osl 5 8 (0) (rv_0.waves.length), .osl 6 4 (0) (rv_0.outs.length)]), (3, .arr 6 (enc rv_0.past.points)), (4, .arr 2 (enc rv_0.past.in_)), (5, .arr 8 (enc rv_0.waves)), (6, .arr 4 (enc rv_0.outs)), (7, .arr 6 (enc x.2.1)), (8, .arr 2 (enc x.2.2))])) 9 ?_ ?_))
   ·
    intro _ Q7; refine sM ?_; refine w9 fun _ Q9 => ?_; refine q0a h [0, 2, 4, 11, 73, 74] (fun x => ([(75, .v (.int .i64 x.1))], [(0, .box [.osl 9 6 (0) (x.2.2.1.length), .osl 10 2 (0) (x.2.2.2.length), .sl 1 (enc rv_0.g.Parent), .sl 1 (enc rv_0.g.Bound), .sl 4 (enc rv_0.g.Nodes), .sl 4 (enc rv_0.g.Edges), .sl 1 (enc rv_0.table), .osl 3 6 (0) (rv_0.past.points.length), .osl 4 2 (0) (rv_0.past.in_.length), .v (.int .i64 x.2.1), .osl 5 8 (0) (rv_0.waves.length), .osl 6 4 (0) (rv_0.outs.length)]), (3, .arr 6 (enc rv_0.past.points)), (4, .arr 2 (enc rv_0.past.in_)), (5, .arr 8 (enc rv_0.waves)), (6, .arr 4 (enc rv_0.outs)), (7, .box (Row.row p_0)), (8, .box (Row.row v_1.1)), (9, .arr 6 (enc x.2.2.1)), (10, .arr 2 (enc x.2.2.2))])) 11 ?_; rintro m_3 ⟨t75_3, b_4, a_20, a_21⟩ h _ Q10; rw [q0h] at h; refine sM ?_; refine sg fun _ Q12 => ?_; refine sB h (fun _ h => ?_) fun _ h => ?_
    ·
     refine y5 (q8 Q12 (jg fun _ Q13 => ?_)); refine w9 fun _ Q14 => ?_; refine sg fun _ Q15 => ?_; obtain ⟨xv_19, F, h⟩ := bI F h; simp only [go_sem, F]; refine ai ?_; refine q8 Q15 (sM ?_); refine sB h (fun _ h => ?_) fun _ h => ?_
     ·
      refine sg fun _ Q17 => ?_; refine p9 ?_; refine j4u ?_; simp only [go_sem]; refine q4q Tryz.func17 rfl (by kernel_rfl) (by kernel_rfl) ?_; refine sM ?_; refine sg fun _ Q19 => ?_; refine sM ?_; refine sB h (fun _ h => ?_) fun _ h => ?_
      ·
       refine q05 (q0q Q19 ?_); simp only [go_sem]; refine q10 [some 12] [(0, .box [.osl 9 6 (0) (a_20.length), .osl 10 2 (0) (a_21.length), .sl 1 (enc rv_0.g.Parent), .sl 1 (enc rv_0.g.Bound), .sl 4 (enc rv_0.g.Nodes), .sl 4 (enc rv_0.g.Edges), .sl 1 (enc rv_0.table), .osl 3 6 (0) (rv_0.past.points.length), .osl 4 2 (0) (rv_0.past.in_.length), .v (.int .i64 b_4), .osl 5 8 (0) (rv_0.waves.length), .osl 6 4 (0) (rv_0.outs.length)]), (3, .arr 6 (enc rv_0.past.points)), (4, .arr 2 (enc rv_0.past.in_)), (5, .arr 8 (enc rv_0.waves)), (6, .arr 4 (enc rv_0.outs)), (7, .box (Row.row p_0)), (8, .box (Row.row v_1.1)), (9, .arr 6 (enc a_20)), (10, .arr 2 (enc a_21)), (11, .box (Row.row xv_19)), (12, .box [.v (.int .i64 xv_19.To), .v (.int .i64 v_1.1.D), .v (.int .i64 v_1.1.C.a0), .v (.int .i64 v_1.1.C.a1), .v (.int .i64 v_1.1.C.a2), .v (.int .i64 v_1.1.C.a3)])] 13 (.tup []) ?_ ?_
       · exact leA
       refine q1h ?_; simp only [go_sem]; exact au
      ·
       refine y5 (q8 Q19 (sg fun _ Q21 => ?_)); refine p9 ?_; refine j4u ?_; obtain ⟨v_24, ev_24, h⟩ := z8 h; simp only [go_sem]; refine qi7 (q7o a_20 (⟨xv_19.To, v_1.1⟩ : GPoint) v_24 ev_24) ?_; simp only [go_sem]; refine q8 Q21 (q2s (fun ((i_5, a_22, a_23) : Int × (List GPoint) × (List (Arr2 (List GItem)))) => q07 out_0 t75_3 b_4 (u7 (q0h rv_0 p_0 out_0 v_1) m_3) xv_19 i_5 a_22 a_23 = some r) [0, 2, 3] (fun x => ([(8, .v (.int .i64 x.1))], [(0, .box [.osl 12 6 (0) (x.2.1.length), .osl 13 2 (0) (x.2.2.length), .sl 1 (enc rv_0.g.Parent), .sl 1 (enc rv_0.g.Bound), .sl 4 (enc rv_0.g.Nodes), .sl 4 (enc rv_0.g.Edges), .sl 1 (enc rv_0.table), .osl 3 6 (0) (rv_0.past.points.length), .osl 4 2 (0) (rv_0.past.in_.length), .v (.int .i64 b_4), .osl 5 8 (0) (rv_0.waves.length), .osl 6 4 (0) (rv_0.outs.length)]), (3, .arr 6 (enc rv_0.past.points)), (4, .arr 2 (enc rv_0.past.in_)), (5, .arr 8 (enc rv_0.waves)), (6, .arr 4 (enc rv_0.outs)), (7, .box (Row.row p_0)), (8, .box (Row.row v_1.1)), (11, .box (Row.row xv_19)), (12, .arr 6 (enc x.2.1)), (13, .arr 2 (enc x.2.2))])) 14 ?_ ?_)
       ·
        intro _ Q22; refine sM ?_; refine sB h (fun _ h => ?_) fun _ h => ?_
        ·
         refine sM ?_; refine sg fun _ Q25 => ?_; refine p9 ?_; refine q2n 8 0 0 [0, 0, 2, 6, 14, 0, 32, 126, 255, 511, 1023] [9, 13] [0] [] [7] [] mixed (by kernel_rfl) (of_decide_eq_true (by kernel_rfl)) (by kernel_rfl) (by kernel_rfl) (by rfl) ?_; have rf_56 : [[.v (.int .i64 xv_19.To), .v (.int .i64 v_1.1.D), .v (.int .i64 v_1.1.C.a0), .v (.int .i64 v_1.1.C.a1), .v (.int .i64 v_1.1.C.a2), .v (.int .i64 v_1.1.C.a3)]] = enc ([(⟨xv_19.To, v_1.1⟩ : GPoint)] : List GPoint) := by rfl
         obtain ⟨g_37, h⟩ := q0r h; have F := And.intro F g_37; simp only [List.length_cons, List.length_nil, Nat.zero_add, List.length_append] at g_37; have rf_57 : enc a_20 ++ [[.v (.int .i64 xv_19.To), .v (.int .i64 v_1.1.D), .v (.int .i64 v_1.1.C.a0), .v (.int .i64 v_1.1.C.a1), .v (.int .i64 v_1.1.C.a2), .v (.int .i64 v_1.1.C.a3)]] = enc (a_20 ++ ([(⟨xv_19.To, v_1.1⟩ : GPoint)] : List GPoint)) := by exact (q3h a_20 ([(⟨xv_19.To, v_1.1⟩ : GPoint)] : List GPoint)).symm
         simp only [go_sem, g_37, rf_57]; simp only [rf_56]; refine q8 Q25 ?_; have rf_58 : [[.sl 3 (enc ([] : List GItem)), .sl 3 (enc ([] : List GItem))]] = enc ([(⟨([] : List GItem), ([] : List GItem)⟩ : Arr2 (List GItem))] : List (Arr2 (List GItem))) := by rfl
         have rf_58n := rf_58; simp only [q3y] at rf_58n; obtain ⟨g_38, h⟩ := q0r h; have F := And.intro F g_38; simp only [List.length_cons, List.length_nil, Nat.zero_add, List.length_append] at g_38; have rf_59 : enc a_21 ++ [[.sl 3 (enc ([] : List GItem)), .sl 3 (enc ([] : List GItem))]] = enc (a_21 ++ ([(⟨([] : List GItem), ([] : List GItem)⟩ : Arr2 (List GItem))] : List (Arr2 (List GItem)))) := by exact (q3h a_21 ([(⟨([] : List GItem), ([] : List GItem)⟩ : Arr2 (List GItem))] : List (Arr2 (List GItem)))).symm
         simp only [go_sem, g_38, rf_59]; simp only [rf_58n, rf_58]; exact au
        · exact au
       ·
        rintro ⟨i_5, a_22, a_23⟩ h
        try dsimp only at h
        rw [q07] at h; refine p9 ?_; refine j4u ?_; obtain ⟨xv_20, F, h⟩ := bI F h; obtain ⟨F, h⟩ := bG F h; obtain ⟨xv_21, ex21, h⟩ := z8 h; obtain ⟨f21a, f21b, f21c, fxv_21d⟩ := q3x (f := (fun y => AV.sl 3 (enc y))) [] [] ex21; simp only [List.cons_append, List.nil_append, List.append_nil, List.map_cons, List.map_nil, List.length_cons, List.length_nil, Nat.zero_add, Nat.reduceAdd] at f21b f21c fxv_21d; obtain ⟨v_25, ev_25, h⟩ := z8 h; simp only [go_sem, f21a, f21b, f21c, fxv_21d, F]; refine And.intro (by first | omega | (intros; simp_all; done)) ?_; refine And.intro (by first | omega | (intros; simp_all; done)) ?_; refine And.intro (by first | omega | (intros; simp_all; done)) ?_; simp only [List.getD_eq_getElem?_getD, Nat.mul_one, fxv_21d, Option.map_some, Option.getD_some, true_and]; simp only [go_sem, f21a, f21b, f21c, fxv_21d, List.getD_eq_getElem?_getD, Nat.mul_one, fxv_21d, Option.map_some, Option.getD_some, true_and, F]; refine callq (fun _ => (qt7 xv_21 out_0 v_25 ev_25)) (by rfl) (by rfl) ?_; obtain ⟨F, h⟩ := bG F h; obtain ⟨w_10, ew_10, h⟩ := z8 h; obtain ⟨w_11, ew_11, h⟩ := z8 h; have sf_5 := qs1 (f := (fun y => AV.sl 3 (enc y))) [] [] [xv_20.a0, xv_20.a1] [w_10, w_11] (xv_19.Port.toNat) v_25 (by simp only [List.length_cons, List.length_nil]; omega) (by simp only [List.mapIdx_cons, List.mapIdx_nil, Nat.zero_add, Nat.reduceAdd, Option.some.inj ew_10, Option.some.inj ew_11]); simp only [List.cons_append, List.nil_append, List.append_nil, List.map_cons, List.map_nil, List.length_cons, List.length_nil, Nat.zero_add, Nat.reduceAdd, q5d, Nat.add_assoc, q3y] at sf_5; have sf_5d := sf_5; simp only [List.drop_succ_cons] at sf_5d; have rf_55 : (enc a_23).set (i_5.toNat) [.sl 3 (enc w_10), .sl 3 (enc w_11)] = enc (List.set a_23 (i_5.toNat) (⟨w_10, w_11⟩ : Arr2 (List GItem))) := by exact q5b a_23 (i_5.toNat) (⟨w_10, w_11⟩ : Arr2 (List GItem))
        simp only [go_sem, sf_5d, sf_5, Nat.mul_one, rf_55, F]; refine ai ?_; refine ai ?_; refine q10 [some 12, some 13] [(0, .box [.osl 12 6 (0) (a_22.length), .osl 13 2 (0) (a_23.length), .sl 1 (enc rv_0.g.Parent), .sl 1 (enc rv_0.g.Bound), .sl 4 (enc rv_0.g.Nodes), .sl 4 (enc rv_0.g.Edges), .sl 1 (enc rv_0.table), .osl 3 6 (0) (rv_0.past.points.length), .osl 4 2 (0) (rv_0.past.in_.length), .v (.int .i64 b_4), .osl 5 8 (0) (rv_0.waves.length), .osl 6 4 (0) (rv_0.outs.length)]), (3, .arr 6 (enc rv_0.past.points)), (4, .arr 2 (enc rv_0.past.in_)), (5, .arr 8 (enc rv_0.waves)), (6, .arr 4 (enc rv_0.outs)), (7, .box (Row.row p_0)), (8, .box (Row.row v_1.1)), (11, .box (Row.row xv_19)), (12, .arr 6 (enc a_22)), (13, .arr 2 (enc (List.set a_23 (i_5.toNat) (⟨w_10, w_11⟩ : Arr2 (List GItem)))))] 14 (.tup []) ?_ ?_
        · exact leA
        refine q1h ?_; simp only [go_sem]; exact au
     · exact au
    · exact au
   ·
    rintro ⟨b_2, a_12, a_13⟩ h
    try dsimp only at h
    rw [q0t] at h; exact au
def q6p (x_0 : List GPoint) (i_0 : Int) (j_0 : Int) : Option (List GPoint) := qv5 x_0 i_0 j_0
theorem qn0 : DelLay pp (z5c 90 0 0 0 3 4 39 46) 6 (.agg #[.int .i64 0, .int .i64 0, .int .i64 0, .int .i64 0, .int .i64 0, .int .i64 0] : Value) := { mixed := by kernel_rfl, t0 := Tryz.underlying0, a0 := Tryz.isAgg0, z0 := Tryz.sizeOf0, v0 := Tryz.zeroValue0, t3 := Tryz.underlying3, a3 := Tryz.isAgg3, z3 := Tryz.sizeOf3, v3 := Tryz.zeroValue3, t4 := Tryz.underlying4, a4 := Tryz.isAgg4, z4 := Tryz.sizeOf4, v4 := Tryz.zeroValue4, t24 := Tryz.underlying46, a24 := Tryz.isAgg46, z24 := Tryz.sizeOf46, v24 := Tryz.zeroValue46, z9 := Tryz.sizeOf39, v9 := Tryz.zeroValue39, i9 := z3s (b := 48) (by kernel_rfl), f24 := ⟨"slices.Delete[[]backwash/api.Point,backwash/api.Point]", by decide, by kernel_rfl⟩ }
theorem qn1 (x_0 : List GPoint) (i_0 : Int) (j_0 : Int) (r : List GPoint) (h : q6p x_0 i_0 j_0 = some r) : DetS pp 90 [.osl 0 6 0 (x_0.length), .v (.int .i64 i_0), .v (.int .i64 j_0)] [(0, .arr 6 (enc x_0))] 1 (.osl 1 6 0 (r.length)) [(1, .arr 6 (enc r))] 2 :=
  z14 qn0 (by kernel_rfl) (by decide) (by rfl) (by rfl) (fun _ => rfl) h
def q6q (x_0 : List (Arr2 (List GItem))) (i_0 : Int) (j_0 : Int) : Option (List (Arr2 (List GItem))) := qv5 x_0 i_0 j_0
theorem qn2 : DelLay pp (z5c 91 0 0 0 3 4 110 66) 2 (.agg #[.slice none 0 0, .slice none 0 0] : Value) := { mixed := by kernel_rfl, t0 := Tryz.underlying0, a0 := Tryz.isAgg0, z0 := Tryz.sizeOf0, v0 := Tryz.zeroValue0, t3 := Tryz.underlying3, a3 := Tryz.isAgg3, z3 := Tryz.sizeOf3, v3 := Tryz.zeroValue3, t4 := Tryz.underlying4, a4 := Tryz.isAgg4, z4 := Tryz.sizeOf4, v4 := Tryz.zeroValue4, t24 := Tryz.underlying66, a24 := Tryz.isAgg66, z24 := Tryz.sizeOf66, v24 := Tryz.zeroValue66, z9 := Tryz.sizeOf110, v9 := Tryz.zeroValue110, i9 := z3s (b := 48) (by kernel_rfl), f24 := ⟨"slices.Delete[[][2][]backwash/api.Item,[2][]backwash/api.Item]", by decide, by kernel_rfl⟩ }
theorem qn3 (x_0 : List (Arr2 (List GItem))) (i_0 : Int) (j_0 : Int) (r : List (Arr2 (List GItem))) (h : q6q x_0 i_0 j_0 = some r) : DetS pp 91 [.osl 0 2 0 (x_0.length), .v (.int .i64 i_0), .v (.int .i64 j_0)] [(0, .arr 2 (enc x_0))] 1 (.osl 1 2 0 (r.length)) [(1, .arr 2 (enc r))] 2 :=
  z14 qn2 (by kernel_rfl) (by decide) (by rfl) (by rfl) (fun _ => rfl) h
def q0p (rv_0 : GWave_runner) (p_0 : GPoint) (rec_1 : Int × (List GItem) → Option ((List GItem) × GWave_runner)) : Int × (List GItem) → Option ((List GItem) × GWave_runner) :=
 fun (t14_1, a_1) =>
 (if (decide (t14_1 < (rv_0.past.points.length : Int))) = true then q9 (idx rv_0.past.points t14_1) (fun xv_4 =>
 (if (xv_4.Node == p_0.Node) = true then q9 (qv4 xv_4.Time p_0.Time) (fun v_4 =>
 (if v_4 = true then q9 (idx rv_0.past.in_ t14_1) (fun xv_5 =>
 q9 (q6a a_1 xv_5.a0) (fun v_5 =>
 rec_1 (i64.wrap (t14_1 + 1), v_5)))
 else rec_1 (i64.wrap (t14_1 + 1), a_1)))
 else rec_1 (i64.wrap (t14_1 + 1), a_1)))
 else some (a_1, rv_0))
def q08 (rv_0 : GWave_runner) (p_0 : GPoint) : Option ((List GItem) × GWave_runner) :=
 u7 (q0p rv_0 p_0) rounds (0, [])
theorem q2h (rv_0 : GWave_runner) (p_0 : GPoint)  (r : (List GItem) × GWave_runner) (h : q08 rv_0 p_0 = some r) : DetS pp 53 [.ptr 0 0, .agg (Row.row p_0)] [(0, .box [.osl 1 6 (0) (rv_0.pool.points.length), .osl 2 2 (0) (rv_0.pool.in_.length), .sl 1 (enc rv_0.g.Parent), .sl 1 (enc rv_0.g.Bound), .sl 4 (enc rv_0.g.Nodes), .sl 4 (enc rv_0.g.Edges), .sl 1 (enc rv_0.table), .osl 3 6 (0) (rv_0.past.points.length), .osl 4 2 (0) (rv_0.past.in_.length), .v (.int .i64 rv_0.work), .osl 5 8 (0) (rv_0.waves.length), .osl 6 4 (0) (rv_0.outs.length)]), (1, .arr 6 (enc rv_0.pool.points)), (2, .arr 2 (enc rv_0.pool.in_)), (3, .arr 6 (enc rv_0.past.points)), (4, .arr 2 (enc rv_0.past.in_)), (5, .arr 8 (enc rv_0.waves)), (6, .arr 4 (enc rv_0.outs))] 7 (.osl 7 3 (0) (r.1.length)) [(0, .box [.osl 8 6 (0) (r.2.pool.points.length), .osl 9 2 (0) (r.2.pool.in_.length), .sl 1 (enc r.2.g.Parent), .sl 1 (enc r.2.g.Bound), .sl 4 (enc r.2.g.Nodes), .sl 4 (enc r.2.g.Edges), .sl 1 (enc r.2.table), .osl 10 6 (0) (r.2.past.points.length), .osl 11 2 (0) (r.2.past.in_.length), .v (.int .i64 r.2.work), .osl 12 8 (0) (r.2.waves.length), .osl 13 4 (0) (r.2.outs.length)]), (7, .arr 3 (enc r.1)), (8, .arr 6 (enc r.2.pool.points)), (9, .arr 2 (enc r.2.pool.in_)), (10, .arr 6 (enc r.2.past.points)), (11, .arr 2 (enc r.2.past.in_)), (12, .arr 8 (enc r.2.waves)), (13, .arr 4 (enc r.2.outs))] 14 := by
 refine dtI Tryz.func53 rfl ?_; rw [q08] at h; have F := trivial; refine sM ?_; refine sM ?_; refine jg fun _ Q3 => ?_; refine sM ?_; refine w9 fun _ Q5 => ?_; refine q0a h [0, 3, 12, 13] (fun x => ([(5, .osl 8 3 (0) (x.2.length)), (14, .v (.int .i64 x.1))], [(0, .box [.osl 1 6 (0) (rv_0.pool.points.length), .osl 2 2 (0) (rv_0.pool.in_.length), .sl 1 (enc rv_0.g.Parent), .sl 1 (enc rv_0.g.Bound), .sl 4 (enc rv_0.g.Nodes), .sl 4 (enc rv_0.g.Edges), .sl 1 (enc rv_0.table), .osl 3 6 (0) (rv_0.past.points.length), .osl 4 2 (0) (rv_0.past.in_.length), .v (.int .i64 rv_0.work), .osl 5 8 (0) (rv_0.waves.length), .osl 6 4 (0) (rv_0.outs.length)]), (1, .arr 6 (enc rv_0.pool.points)), (2, .arr 2 (enc rv_0.pool.in_)), (3, .arr 6 (enc rv_0.past.points)), (4, .arr 2 (enc rv_0.past.in_)), (5, .arr 8 (enc rv_0.waves)), (6, .arr 4 (enc rv_0.outs)), (7, .box (Row.row p_0)), (8, .arr 3 (enc x.2))])) 9 ?_; rintro m_1 ⟨t14_1, a_1⟩ h _ Q6; rw [q0p] at h; refine sM ?_; refine sg fun _ Q8 => ?_; refine sB h (fun _ h => ?_) fun _ h => ?_
 ·
  refine y5 (q8 Q8 (jg fun _ Q9 => ?_)); refine w9 fun _ Q10 => ?_; refine sg fun _ Q11 => ?_; obtain ⟨xv_4, F, h⟩ := bI F h; simp only [go_sem, F]; refine ai ?_; refine q8 Q11 (sg fun _ Q12 => ?_); simp only [go_sem]; rcases hb_7 : (xv_4.Node == p_0.Node) with _ | _
  · replace h := q5g h hb_7; simp only [go_sem, hb_7]; exact au
  ·
   replace h := q5f h hb_7; simp only [go_sem, hb_7]; refine q1s h fun v_4 h => ?_; simp only [go_sem]; refine q8 Q12 (sB h (fun _ h => ?_) fun _ h => ?_)
   · obtain ⟨xv_5, F, h⟩ := bI F h; obtain ⟨v_5, ev_5, h⟩ := z8 h; simp only [go_sem, F]; refine ai ?_; refine q8g [0, 3, 12, 13, 14, 26, 27, 28, 29] ([(5, .sl 3 (enc a_1)), (25, .ptr 8 1)], [(0, .box [.osl 1 6 (0) (rv_0.pool.points.length), .osl 2 2 (0) (rv_0.pool.in_.length), .sl 1 (enc rv_0.g.Parent), .sl 1 (enc rv_0.g.Bound), .sl 4 (enc rv_0.g.Nodes), .sl 4 (enc rv_0.g.Edges), .sl 1 (enc rv_0.table), .osl 3 6 (0) (rv_0.past.points.length), .osl 4 2 (0) (rv_0.past.in_.length), .v (.int .i64 rv_0.work), .osl 5 8 (0) (rv_0.waves.length), .osl 6 4 (0) (rv_0.outs.length)]), (1, .arr 6 (enc rv_0.pool.points)), (2, .arr 2 (enc rv_0.pool.in_)), (3, .arr 6 (enc rv_0.past.points)), (4, .arr 2 (enc rv_0.past.in_)), (5, .arr 8 (enc rv_0.waves)), (6, .arr 4 (enc rv_0.outs)), (7, .box (Row.row p_0)), (8, .box (Row.row xv_4))]) 9 [some 7, some 9] [.sl 3 (enc a_1), .sl 3 (enc xv_5.a0)] ?_; refine q18 [] (z0c a_1 xv_5.a0 v_5 ev_5) ?_; simp only [go_sem]; exact au
   · exact au
 · exact au
def q03 (xv_0 : GPoint) (xv_1 : Arr2 (List GItem)) (ports_0 : List (List GItem)) (b_0 : List Int) (b_1 : List Int) (b_2 : List GNode) (b_3 : List GEdge) (b_4 : List (List (List GHop))) (b_5 : Int) (a_2 : List GPoint) (a_3 : List (Arr2 (List GItem))) (a_4 : List GPoint) (a_5 : List (Arr2 (List GItem))) (a_6 : List GWave) (a_7 : List GOut) : Option (Bool × GWave_runner) :=
 q9 (idx b_2 xv_0.Node) (fun xv_4 =>
 q9 (q8b xv_4 ports_0) (fun v_6 =>
 (if (!v_6.2) = true then some (false, (⟨(⟨a_2, a_3⟩ : GWave_pool), (⟨b_0, b_1, b_2, b_3⟩ : GGraph), b_4, (⟨a_4, a_5⟩ : GWave_pool), b_5, a_6, a_7⟩ : GWave_runner))
 else q9 (q66 xv_1.a0) (fun v_7 =>
 q9 (q66 xv_1.a1) (fun v_8 =>
 q9 (q0i (⟨(⟨a_2, a_3⟩ : GWave_pool), (⟨b_0, b_1, b_2, b_3⟩ : GGraph), b_4, (⟨a_4, a_5⟩ : GWave_pool), b_5, a_6, a_7⟩ : GWave_runner) xv_0 v_6.1) (fun v_9 =>
 y9 ((v_9.2.waves.length + List.length ([(⟨xv_0, i64.wrap (v_7 + v_8), v_9.1⟩ : GWave)] : List GWave)) * 64 ≤ 140737488355328) (
 some (true, (⟨v_9.2.pool, v_9.2.g, v_9.2.table, v_9.2.past, v_9.2.work, (v_9.2.waves ++ ([(⟨xv_0, i64.wrap (v_7 + v_8), v_9.1⟩ : GWave)] : List GWave)), v_9.2.outs⟩ : GWave_runner)))))))))
def q09 (rv_0 : GWave_runner) (xv_0 : GPoint) (xv_1 : Arr2 (List GItem)) (v_0 : List GPoint) (v_1 : List (Arr2 (List GItem))) (i_2 : Int) (a_8 : List GPoint) (a_9 : List (Arr2 (List GItem))) : Option (Bool × GWave_runner) :=
 q9 (idx a_9 i_2) (fun xv_6 =>
 q9 (q6a xv_6.a0 xv_1.a0) (fun v_12 =>
 q9 (q08 (⟨(⟨v_0, v_1⟩ : GWave_pool), rv_0.g, rv_0.table, (⟨a_8, (List.set a_9 (i_2.toNat) (⟨v_12, xv_6.a1⟩ : Arr2 (List GItem)))⟩ : GWave_pool), rv_0.work, rv_0.waves, rv_0.outs⟩ : GWave_runner) xv_0) (fun v_13 =>
 q03 xv_0 xv_1 ([xv_1.a0, v_13.1] : List (List GItem)) v_13.2.g.Parent v_13.2.g.Bound v_13.2.g.Nodes v_13.2.g.Edges v_13.2.table v_13.2.work v_13.2.pool.points v_13.2.pool.in_ v_13.2.past.points v_13.2.past.in_ v_13.2.waves v_13.2.outs)))
def q0l (rv_0 : GWave_runner) (i_0 : Int) : Option (Bool × GWave_runner) :=
 q9 (idx rv_0.pool.points i_0) (fun xv_0 =>
 q9 (idx rv_0.pool.in_ i_0) (fun xv_1 =>
 q9 (q6p rv_0.pool.points i_0 (i64.wrap (i_0 + 1))) (fun v_0 =>
 q9 (q6q rv_0.pool.in_ i_0 (i64.wrap (i_0 + 1))) (fun (v_1 : List (Arr2 (List GItem))) =>
 y9 (0 ≤ 0 ∧ 0 ≤ 2 ∧ 2 ≤ 2) (
 q9 (idx rv_0.g.Nodes xv_0.Node) (fun xv_5 =>
 (if (xv_5.Kind == 14) = true then (if ((xv_1.a0.length : Int) == 0) = true then q9 (q08 (⟨(⟨v_0, v_1⟩ : GWave_pool), rv_0.g, rv_0.table, rv_0.past, rv_0.work, rv_0.waves, rv_0.outs⟩ : GWave_runner) xv_0) (fun v_10 =>
 q03 xv_0 xv_1 ([xv_1.a0, v_10.1] : List (List GItem)) v_10.2.g.Parent v_10.2.g.Bound v_10.2.g.Nodes v_10.2.g.Edges v_10.2.table v_10.2.work v_10.2.pool.points v_10.2.pool.in_ v_10.2.past.points v_10.2.past.in_ v_10.2.waves v_10.2.outs)
 else q9 (q2l rv_0.past.points xv_0) (fun v_11 =>
 (if (decide (v_11 < 0)) = true then y9 ((rv_0.past.points.length + List.length ([xv_0] : List GPoint)) * 48 ≤ 140737488355328) (
 y9 ((rv_0.past.in_.length + List.length ([(⟨([] : List GItem), ([] : List GItem)⟩ : Arr2 (List GItem))] : List (Arr2 (List GItem)))) * 48 ≤ 140737488355328) (
 q09 rv_0 xv_0 xv_1 v_0 v_1 (rv_0.past.points.length : Int) (rv_0.past.points ++ ([xv_0] : List GPoint)) (rv_0.past.in_ ++ ([(⟨([] : List GItem), ([] : List GItem)⟩ : Arr2 (List GItem))] : List (Arr2 (List GItem))))))
 else q09 rv_0 xv_0 xv_1 v_0 v_1 v_11 rv_0.past.points rv_0.past.in_)))
 else q03 xv_0 xv_1 ([xv_1.a0, xv_1.a1] : List (List GItem)) rv_0.g.Parent rv_0.g.Bound rv_0.g.Nodes rv_0.g.Edges rv_0.table rv_0.work v_0 v_1 rv_0.past.points rv_0.past.in_ rv_0.waves rv_0.outs)))))))
theorem q5y (rv_0 : GWave_runner) (i_0 : Int)  (r : Bool × GWave_runner) (h : q0l rv_0 i_0 = some r) : DetS pp 19 [.ptr 0 0, .v (.int .i64 i_0)] [(0, .box [.osl 1 6 (0) (rv_0.pool.points.length), .osl 2 2 (0) (rv_0.pool.in_.length), .sl 1 (enc rv_0.g.Parent), .sl 1 (enc rv_0.g.Bound), .sl 4 (enc rv_0.g.Nodes), .sl 4 (enc rv_0.g.Edges), .sl 1 (enc rv_0.table), .osl 3 6 (0) (rv_0.past.points.length), .osl 4 2 (0) (rv_0.past.in_.length), .v (.int .i64 rv_0.work), .osl 5 8 (0) (rv_0.waves.length), .osl 6 4 (0) (rv_0.outs.length)]), (1, .arr 6 (enc rv_0.pool.points)), (2, .arr 2 (enc rv_0.pool.in_)), (3, .arr 6 (enc rv_0.past.points)), (4, .arr 2 (enc rv_0.past.in_)), (5, .arr 8 (enc rv_0.waves)), (6, .arr 4 (enc rv_0.outs))] 7 (.v (.bool r.1)) [(0, .box [.osl 7 6 (0) (r.2.pool.points.length), .osl 8 2 (0) (r.2.pool.in_.length), .sl 1 (enc r.2.g.Parent), .sl 1 (enc r.2.g.Bound), .sl 4 (enc r.2.g.Nodes), .sl 4 (enc r.2.g.Edges), .sl 1 (enc r.2.table), .osl 9 6 (0) (r.2.past.points.length), .osl 10 2 (0) (r.2.past.in_.length), .v (.int .i64 r.2.work), .osl 11 8 (0) (r.2.waves.length), .osl 12 4 (0) (r.2.outs.length)]), (7, .arr 6 (enc r.2.pool.points)), (8, .arr 2 (enc r.2.pool.in_)), (9, .arr 6 (enc r.2.past.points)), (10, .arr 2 (enc r.2.past.in_)), (11, .arr 8 (enc r.2.waves)), (12, .arr 4 (enc r.2.outs))] 13 := by
  unfold DetS; refine Spec.of_vc Tryz.func19 rfl (by kernel_rfl) (by kernel_rfl) ?_; rw [q0l] at h; refine sg fun _ Q1 => ?_; simp only [go_sem]; refine q8 Q1 (sg fun _ Q2 => ?_); obtain ⟨xv_0, ex0, h⟩ := z8 h; obtain ⟨f0a, f0b, f0c⟩ := qp9 ex0; simp only [go_sem, f0a, f0b, f0c]; refine And.intro (by omega) ?_; refine q8 Q2 (sg fun _ Q3 => ?_); simp only [go_sem]; refine q4q Tryz.func52 rfl (by kernel_rfl) (by kernel_rfl) ?_; refine sg fun _ Q4 => ?_; simp only [go_sem]; refine q8 Q4 (sg fun _ Q5 => ?_); obtain ⟨xv_1, ex1, h⟩ := z8 h; obtain ⟨f1a, f1b, f1c⟩ := qp9 ex1; simp only [go_sem, f1a, f1b, f1c]; refine And.intro (by omega) ?_; refine q8 Q5 (sg fun _ Q6 => ?_); obtain ⟨v_0, ev_0, h⟩ := z8 h; simp only [go_sem]; refine q8i [1] (qn1 rv_0.pool.points i_0 (i64.wrap (i_0 + 1)) v_0 ev_0) (by simp) rfl ⟨rfl, trivial⟩ rfl rfl rfl rfl ?_; simp only [go_sem]; refine q8 Q6 (sg fun _ Q7 => ?_); obtain ⟨v_1, ev_1, h⟩ := z8 h; simp only [go_sem]; refine q8i [2] (qn3 rv_0.pool.in_ i_0 (i64.wrap (i_0 + 1)) v_1 ev_1) (by simp) rfl ⟨rfl, trivial⟩ rfl rfl rfl rfl ?_; simp only [go_sem]; refine q8 Q7 (sg fun _ Q8 => ?_); simp only [go_sem]; refine q8 Q8 (q05 ?_); simp only [go_sem]
  refine q10 [some 8, some 9, some 10, some 11] [(0, .box [.osl 10 6 (0) (v_0.length), .osl 11 2 (0) (v_1.length), .sl 1 (enc rv_0.g.Parent), .sl 1 (enc rv_0.g.Bound), .sl 4 (enc rv_0.g.Nodes), .sl 4 (enc rv_0.g.Edges), .sl 1 (enc rv_0.table), .osl 3 6 (0) (rv_0.past.points.length), .osl 4 2 (0) (rv_0.past.in_.length), .v (.int .i64 rv_0.work), .osl 5 8 (0) (rv_0.waves.length), .osl 6 4 (0) (rv_0.outs.length)]), (3, .arr 6 (enc rv_0.past.points)), (4, .arr 2 (enc rv_0.past.in_)), (5, .arr 8 (enc rv_0.waves)), (6, .arr 4 (enc rv_0.outs)), (7, .box [.v (.int .i64 xv_0.Node), .v (.int .i64 xv_0.Time.D), .v (.int .i64 xv_0.Time.C.a0), .v (.int .i64 xv_0.Time.C.a1), .v (.int .i64 xv_0.Time.C.a2), .v (.int .i64 xv_0.Time.C.a3)]), (8, .box [.sl 3 (enc xv_1.a0), .sl 3 (enc xv_1.a1)]), (9, .box [.sl 3 (enc xv_1.a0), .sl 3 (enc xv_1.a1)]), (10, .arr 6 (enc v_0)), (11, .arr 2 (enc v_1))] 12 (.agg [.sl 3 (enc xv_1.a0), .sl 3 (enc xv_1.a1)]) ?_ ?_
  · simp only [go_sem, Le] <;> (repeat' apply And.intro) <;> (try with_reducible refine q42 ?_) <;> first | omega | (simp [go_sem]; done)
  refine q1h ?_; simp only [go_sem]; refine q8 Q3 (sg fun _ Q9 => ?_); obtain ⟨g_0, h⟩ := q0r h; simp only [go_sem, g_0]; refine q8 Q9 (qz9 (by kernel_rfl) ?_); refine qy9 (ι := (List (List GItem)) × (List Int) × (List Int) × (List GNode) × (List GEdge) × (List (List (List GHop))) × Int × (List GPoint) × (List (Arr2 (List GItem))) × (List GPoint) × (List (Arr2 (List GItem))) × (List GWave) × (List GOut)) (fun ((ports_0, b_0, b_1, b_2, b_3, b_4, b_5, a_2, a_3, a_4, a_5, a_6, a_7) : (List (List GItem)) × (List Int) × (List Int) × (List GNode) × (List GEdge) × (List (List (List GHop))) × Int × (List GPoint) × (List (Arr2 (List GItem))) × (List GPoint) × (List (Arr2 (List GItem))) × (List GWave) × (List GOut)) => (⟨7, [(0, .ptr 0 0), (5, .ptr 7 0), (6, .el 2 [[.sl 3 (enc xv_1.a0), .sl 3 (enc xv_1.a1)]] 0 0), (7, .sl 1 (enc ports_0))], [(0, .box [.osl 8 6 (0) (a_2.length), .osl 9 2 (0) (a_3.length), .sl 1 (enc b_0), .sl 1 (enc b_1), .sl 4 (enc b_2), .sl 4 (enc b_3), .sl 1 (enc b_4), .osl 10 6 (0) (a_4.length), .osl 11 2 (0) (a_5.length), .v (.int .i64 b_5), .osl 12 8 (0) (a_6.length), .osl 13 4 (0) (a_7.length)]), (7, .box [.v (.int .i64 xv_0.Node), .v (.int .i64 xv_0.Time.D), .v (.int .i64 xv_0.Time.C.a0), .v (.int .i64 xv_0.Time.C.a1), .v (.int .i64 xv_0.Time.C.a2), .v (.int .i64 xv_0.Time.C.a3)]), (8, .arr 6 (enc a_2)), (9, .arr 2 (enc a_3)), (10, .arr 6 (enc a_4)), (11, .arr 2 (enc a_5)), (12, .arr 8 (enc a_6)), (13, .arr 4 (enc a_7))], 14, 89⟩ : St)) (fun ((ports_0, b_0, b_1, b_2, b_3, b_4, b_5, a_2, a_3, a_4, a_5, a_6, a_7) : (List (List GItem)) × (List Int) × (List Int) × (List GNode) × (List GEdge) × (List (List (List GHop))) × Int × (List GPoint) × (List (Arr2 (List GItem))) × (List GPoint) × (List (Arr2 (List GItem))) × (List GWave) × (List GOut)) => q03 xv_0 xv_1 ports_0 b_0 b_1 b_2 b_3 b_4 b_5 a_2 a_3 a_4 a_5 a_6 a_7 = some r) ?_ ?_
  ·
    intro _ Q18; refine sg fun _ Q19 => ?_; refine p9 ?_; refine j4u ?_; obtain ⟨xv_5, ex5, h⟩ := z8 h; obtain ⟨f5a, f5b, f5c⟩ := qp9 ex5; simp only [go_sem, f5a, f5b, f5c]; refine And.intro (by omega) ?_; refine q8 Q19 ?_; refine q92 (b := (xv_5.Kind == 14)) (by (simp only [go_sem]; done)) (fun hb_5 => ?_) (fun hb_5 => ?_)
    ·
      replace h := q5f h hb_5; simp only [bool_to_prop] at hb_5; refine sg fun _ Q20 => ?_; refine p9 ?_; refine j4u ?_; simp only [go_sem]; refine q4q Tryz.func17 rfl (by kernel_rfl) (by kernel_rfl) ?_; refine sg fun _ Q21 => ?_; simp only [go_sem]; refine q8 Q21 (sg fun _ Q22 => ?_); refine sg fun _ Q23 => ?_; simp only [go_sem]; refine q8 Q23 ?_; refine q92 (b := ((xv_1.a0.length : Int) == 0)) (by (simp only [go_sem]; done)) (fun hb_6 => ?_) (fun hb_6 => ?_)
      ·
        replace h := q5f h hb_6; simp only [bool_to_prop] at hb_6; refine q05 (q0q Q22 ?_); simp only [go_sem]; refine q10 [some 13] [(0, .box [.osl 10 6 (0) (v_0.length), .osl 11 2 (0) (v_1.length), .sl 1 (enc rv_0.g.Parent), .sl 1 (enc rv_0.g.Bound), .sl 4 (enc rv_0.g.Nodes), .sl 4 (enc rv_0.g.Edges), .sl 1 (enc rv_0.table), .osl 3 6 (0) (rv_0.past.points.length), .osl 4 2 (0) (rv_0.past.in_.length), .v (.int .i64 rv_0.work), .osl 5 8 (0) (rv_0.waves.length), .osl 6 4 (0) (rv_0.outs.length)]), (3, .arr 6 (enc rv_0.past.points)), (4, .arr 2 (enc rv_0.past.in_)), (5, .arr 8 (enc rv_0.waves)), (6, .arr 4 (enc rv_0.outs)), (7, .box [.v (.int .i64 xv_0.Node), .v (.int .i64 xv_0.Time.D), .v (.int .i64 xv_0.Time.C.a0), .v (.int .i64 xv_0.Time.C.a1), .v (.int .i64 xv_0.Time.C.a2), .v (.int .i64 xv_0.Time.C.a3)]), (8, .box [.sl 3 (enc xv_1.a0), .sl 3 (enc xv_1.a1)]), (9, .box [.sl 3 (enc xv_1.a0), .sl 3 (enc xv_1.a1)]), (10, .arr 6 (enc v_0)), (11, .arr 2 (enc v_1)), (12, .box [.sl 3 (enc xv_1.a0), .sl 3 (enc xv_1.a1)]), (13, .box [.v (.int .i64 xv_0.Node), .v (.int .i64 xv_0.Time.D), .v (.int .i64 xv_0.Time.C.a0), .v (.int .i64 xv_0.Time.C.a1), .v (.int .i64 xv_0.Time.C.a2), .v (.int .i64 xv_0.Time.C.a3)])] 14 (.tup []) ?_ ?_
        · simp only [go_sem, Le] <;> (repeat' apply And.intro) <;> (try with_reducible refine q42 ?_) <;> first | omega | (simp [go_sem]; done)
        refine q1h ?_; simp only [go_sem]; refine q8 Q20 (p9 ?_); refine q2n 5 0 0 [0, 1, 0, 0, 12, 31, 63] [0, 3, 4, 5, 6, 10, 11, 14, 15, 16, 17, 18, 19, 20] [0, 1] [] [4] [] mixed (by kernel_rfl) (of_decide_eq_true (by kernel_rfl)) (by kernel_rfl) (by kernel_rfl) (by rfl) ?_; obtain ⟨v_10, ev_10, h⟩ := z8 h; simp only [go_sem]; refine z7h [0, 10, 11, 3, 4, 5, 6] (q2h (⟨(⟨v_0, v_1⟩ : GWave_pool), rv_0.g, rv_0.table, rv_0.past, rv_0.work, rv_0.waves, rv_0.outs⟩ : GWave_runner) xv_0 v_10 ev_10) rfl ⟨rfl, ⟨rfl, ⟨rfl, ⟨rfl, ⟨rfl, ⟨rfl, ⟨rfl, trivial⟩⟩⟩⟩⟩⟩⟩ rfl rfl rfl rfl ?_; have rf_13 : [[.sl 3 (enc xv_1.a0)], [.sl 3 (enc v_10.1)]] = enc ([xv_1.a0, v_10.1] : List (List GItem)) := by rfl
        simp only [go_sem]; refine u6 Q18 (⟨(([xv_1.a0, v_10.1] : List (List GItem)), v_10.2.g.Parent, v_10.2.g.Bound, v_10.2.g.Nodes, v_10.2.g.Edges, v_10.2.table, v_10.2.work, v_10.2.pool.points, v_10.2.pool.in_, v_10.2.past.points, v_10.2.past.in_, v_10.2.waves, v_10.2.outs), [some 7, some 15, some 16, some 17, some 18, some 19, some 20], ?_, h⟩); simp only [go_sem, Le] <;> (repeat' apply And.intro) <;> (try with_reducible refine q42 ?_) <;> first | omega | (simp [go_sem]; done) | ((try with_reducible refine q42 ?_); (simp [go_sem, enc, q86]; done))
      ·
        replace h := q5g h hb_6; simp only [bool_to_prop] at hb_6; refine y5 (q8 Q22 (sg fun _ Q24 => ?_)); refine p9 ?_; refine j4u ?_; obtain ⟨v_11, ev_11, h⟩ := z8 h; simp only [go_sem]; refine j0c (s' := (⟨13, [(0, .ptr 0 7), (2, .v (.int .i64 0)), (3, .sl 3 (enc xv_1.a0)), (5, .ptr 13 0)], [(0, .box [.osl 10 6 (0) (v_0.length), .osl 11 2 (0) (v_1.length), .sl 1 (enc rv_0.g.Parent), .sl 1 (enc rv_0.g.Bound), .sl 4 (enc rv_0.g.Nodes), .sl 4 (enc rv_0.g.Edges), .sl 1 (enc rv_0.table), .sl 6 (enc rv_0.past.points), .osl 4 2 (0) (rv_0.past.in_.length), .v (.int .i64 rv_0.work), .osl 5 8 (0) (rv_0.waves.length), .osl 6 4 (0) (rv_0.outs.length)]), (4, .arr 2 (enc rv_0.past.in_)), (5, .arr 8 (enc rv_0.waves)), (6, .arr 4 (enc rv_0.outs)), (7, .box [.v (.int .i64 xv_0.Node), .v (.int .i64 xv_0.Time.D), .v (.int .i64 xv_0.Time.C.a0), .v (.int .i64 xv_0.Time.C.a1), .v (.int .i64 xv_0.Time.C.a2), .v (.int .i64 xv_0.Time.C.a3)]), (8, .box [.sl 3 (enc xv_1.a0), .sl 3 (enc xv_1.a1)]), (9, .box [.sl 3 (enc xv_1.a0), .sl 3 (enc xv_1.a1)]), (10, .arr 6 (enc v_0)), (11, .arr 2 (enc v_1)), (12, .box [.sl 3 (enc xv_1.a0), .sl 3 (enc xv_1.a1)]), (13, .box [.v (.int .i64 xv_0.Node), .v (.int .i64 xv_0.Time.D), .v (.int .i64 xv_0.Time.C.a0), .v (.int .i64 xv_0.Time.C.a1), .v (.int .i64 xv_0.Time.C.a2), .v (.int .i64 xv_0.Time.C.a3)])], 14, 64⟩ : St)) (l := [some 13]) (args' := [.sl 6 (enc rv_0.past.points), .agg [.v (.int .i64 xv_0.Node), .v (.int .i64 xv_0.Time.D), .v (.int .i64 xv_0.Time.C.a0), .v (.int .i64 xv_0.Time.C.a1), .v (.int .i64 xv_0.Time.C.a2), .v (.int .i64 xv_0.Time.C.a3)]]) ?_ ?_ (q7o rv_0.past.points xv_0 v_11 ev_11) (by rfl) (by rfl) ?_
        · simp only [go_sem, Le] <;> (repeat' apply And.intro) <;> (try with_reducible refine q42 ?_) <;> first | omega | (simp [go_sem]; done)
        · simp only [go_sem, Le] <;> (repeat' apply And.intro) <;> ((try with_reducible refine q42 ?_); (simp [go_sem]; done))
        simp only [go_sem]; refine q8 Q24 (qz9 (by kernel_rfl) ?_); refine qy9 (ι := Int × (List GPoint) × (List (Arr2 (List GItem)))) (fun ((i_2, a_8, a_9) : Int × (List GPoint) × (List (Arr2 (List GItem)))) => (⟨13, [(0, .ptr 0 7), (2, .v (.int .i64 0)), (3, .sl 3 (enc xv_1.a0)), (8, .v (.int .i64 i_2))], [(0, .box [.osl 10 6 (0) (v_0.length), .osl 11 2 (0) (v_1.length), .sl 1 (enc rv_0.g.Parent), .sl 1 (enc rv_0.g.Bound), .sl 4 (enc rv_0.g.Nodes), .sl 4 (enc rv_0.g.Edges), .sl 1 (enc rv_0.table), .osl 13 6 (0) (a_8.length), .osl 14 2 (0) (a_9.length), .v (.int .i64 rv_0.work), .osl 5 8 (0) (rv_0.waves.length), .osl 6 4 (0) (rv_0.outs.length)]), (5, .arr 8 (enc rv_0.waves)), (6, .arr 4 (enc rv_0.outs)), (7, .box [.v (.int .i64 xv_0.Node), .v (.int .i64 xv_0.Time.D), .v (.int .i64 xv_0.Time.C.a0), .v (.int .i64 xv_0.Time.C.a1), .v (.int .i64 xv_0.Time.C.a2), .v (.int .i64 xv_0.Time.C.a3)]), (8, .box [.sl 3 (enc xv_1.a0), .sl 3 (enc xv_1.a1)]), (9, .box [.sl 3 (enc xv_1.a0), .sl 3 (enc xv_1.a1)]), (10, .arr 6 (enc v_0)), (11, .arr 2 (enc v_1)), (12, .box [.sl 3 (enc xv_1.a0), .sl 3 (enc xv_1.a1)]), (13, .arr 6 (enc a_8)), (14, .arr 2 (enc a_9))], 15, 64⟩ : St)) (fun ((i_2, a_8, a_9) : Int × (List GPoint) × (List (Arr2 (List GItem)))) => q09 rv_0 xv_0 xv_1 v_0 v_1 i_2 a_8 a_9 = some r) ?_ ?_
        ·
          intro _ Q25; refine sg fun _ Q26 => ?_; simp only [go_sem]; refine q8 Q26 ?_; refine q92 (b := (decide (v_11 < 0))) (by (simp only [go_sem]; done)) (fun hb_8 => ?_) (fun hb_8 => ?_)
          ·
            replace h := q5f h hb_8; simp only [bool_to_prop] at hb_8; refine sg fun _ Q27 => ?_; simp only [go_sem]; refine q8 Q27 (sg fun _ Q28 => ?_); refine p9 ?_; refine q2n 8 0 0 [0, 0, 2, 6, 14, 0, 32, 126, 255, 511, 1023] [3, 14] [0] [] [7] [] mixed (by kernel_rfl) (of_decide_eq_true (by kernel_rfl)) (by kernel_rfl) (by kernel_rfl) (by rfl) ?_; have rf_20 : [[.v (.int .i64 xv_0.Node), .v (.int .i64 xv_0.Time.D), .v (.int .i64 xv_0.Time.C.a0), .v (.int .i64 xv_0.Time.C.a1), .v (.int .i64 xv_0.Time.C.a2), .v (.int .i64 xv_0.Time.C.a3)]] = enc ([xv_0] : List GPoint) := by rfl
            obtain ⟨g_8, h⟩ := q0r h; simp only [List.length_cons, List.length_nil, Nat.zero_add, List.length_append] at g_8; have rf_21 : enc rv_0.past.points ++ [[.v (.int .i64 xv_0.Node), .v (.int .i64 xv_0.Time.D), .v (.int .i64 xv_0.Time.C.a0), .v (.int .i64 xv_0.Time.C.a1), .v (.int .i64 xv_0.Time.C.a2), .v (.int .i64 xv_0.Time.C.a3)]] = enc (rv_0.past.points ++ ([xv_0] : List GPoint)) := by exact (q3h rv_0.past.points ([xv_0] : List GPoint)).symm
            simp only [go_sem, g_8, rf_21]; simp only [rf_20]; refine q8 Q28 ?_; have rf_22 : [[.sl 3 (enc ([] : List GItem)), .sl 3 (enc ([] : List GItem))]] = enc ([(⟨([] : List GItem), ([] : List GItem)⟩ : Arr2 (List GItem))] : List (Arr2 (List GItem))) := by rfl
            have rf_22n := rf_22; simp only [q3y] at rf_22n; obtain ⟨g_9, h⟩ := q0r h; simp only [List.length_cons, List.length_nil, Nat.zero_add, List.length_append] at g_9; have rf_23 : enc rv_0.past.in_ ++ [[.sl 3 (enc ([] : List GItem)), .sl 3 (enc ([] : List GItem))]] = enc (rv_0.past.in_ ++ ([(⟨([] : List GItem), ([] : List GItem)⟩ : Arr2 (List GItem))] : List (Arr2 (List GItem)))) := by exact (q3h rv_0.past.in_ ([(⟨([] : List GItem), ([] : List GItem)⟩ : Arr2 (List GItem))] : List (Arr2 (List GItem)))).symm
            simp only [go_sem, g_9, rf_23]; simp only [rf_22n, rf_22]; refine u6 Q25 (⟨((rv_0.past.points.length : Int), (rv_0.past.points ++ ([xv_0] : List GPoint)), (rv_0.past.in_ ++ ([(⟨([] : List GItem), ([] : List GItem)⟩ : Arr2 (List GItem))] : List (Arr2 (List GItem))))), [some 14, some 16], ?_, h⟩); simp only [go_sem, Le] <;> (repeat' apply And.intro) <;> first | ((try with_reducible refine q42 ?_); assumption) | ((try with_reducible refine q42 ?_); omega) | ((try with_reducible refine q42 ?_); (simp [go_sem]; done))
          ·
            replace h := q5g h hb_8; simp only [bool_to_prop] at hb_8; refine y5 (u6 Q25 (⟨(v_11, rv_0.past.points, rv_0.past.in_), [some 3, some 4], ?_, h⟩)); simp only [go_sem, Le] <;> (repeat' apply And.intro) <;> (try with_reducible refine q42 ?_) <;> first | omega | (simp [go_sem]; done)
        · rintro ⟨i_2, a_8, a_9⟩ h
          try dsimp only at h
          rw [q09] at h; refine p9 ?_; refine j4u ?_; obtain ⟨xv_6, ex6, h⟩ := z8 h; obtain ⟨f6a, f6b, f6c⟩ := qp9 ex6; obtain ⟨v_12, ev_12, h⟩ := z8 h; simp only [go_sem, f6a, f6b, f6c]; refine And.intro (by omega) ?_; refine callq (fun _ => (qt7 xv_6.a0 xv_1.a0 v_12 ev_12)) (by rfl) (by rfl) ?_; have rf_18 : (enc a_9).set (i_2.toNat) [.sl 3 (enc v_12), .sl 3 (enc xv_6.a1)] = enc (List.set a_9 (i_2.toNat) (⟨v_12, xv_6.a1⟩ : Arr2 (List GItem))) := by exact q5b a_9 (i_2.toNat) (⟨v_12, xv_6.a1⟩ : Arr2 (List GItem))
          simp only [go_sem, f6a, f6b, f6c, rf_18]; refine And.intro (by omega) ?_; refine q10 [some 13, some 14] [(0, .box [.osl 10 6 (0) (v_0.length), .osl 11 2 (0) (v_1.length), .sl 1 (enc rv_0.g.Parent), .sl 1 (enc rv_0.g.Bound), .sl 4 (enc rv_0.g.Nodes), .sl 4 (enc rv_0.g.Edges), .sl 1 (enc rv_0.table), .osl 13 6 (0) (a_8.length), .osl 14 2 (0) (a_9.length), .v (.int .i64 rv_0.work), .osl 5 8 (0) (rv_0.waves.length), .osl 6 4 (0) (rv_0.outs.length)]), (5, .arr 8 (enc rv_0.waves)), (6, .arr 4 (enc rv_0.outs)), (7, .box [.v (.int .i64 xv_0.Node), .v (.int .i64 xv_0.Time.D), .v (.int .i64 xv_0.Time.C.a0), .v (.int .i64 xv_0.Time.C.a1), .v (.int .i64 xv_0.Time.C.a2), .v (.int .i64 xv_0.Time.C.a3)]), (8, .box [.sl 3 (enc xv_1.a0), .sl 3 (enc xv_1.a1)]), (9, .box [.sl 3 (enc xv_1.a0), .sl 3 (enc xv_1.a1)]), (10, .arr 6 (enc v_0)), (11, .arr 2 (enc v_1)), (12, .box [.sl 3 (enc xv_1.a0), .sl 3 (enc xv_1.a1)]), (13, .arr 6 (enc a_8)), (14, .arr 2 (enc (List.set a_9 (i_2.toNat) (⟨v_12, xv_6.a1⟩ : Arr2 (List GItem)))))] 15 (.tup []) ?_ ?_
          · simp only [go_sem, Le] <;> (repeat' apply And.intro) <;> (try with_reducible refine q42 ?_) <;> first | omega | (simp [go_sem]; done)
          refine q1h ?_; simp only [go_sem]; refine q8 Q20 (p9 ?_); refine q2n 5 0 0 [0, 1, 0, 0, 12, 31, 63] [0, 5, 6, 10, 11, 13, 14, 15, 16, 17, 18, 19, 20, 21] [0, 1] [] [4] [] mixed (by kernel_rfl) (of_decide_eq_true (by kernel_rfl)) (by kernel_rfl) (by kernel_rfl) (by rfl) ?_; obtain ⟨v_13, ev_13, h⟩ := z8 h; simp only [go_sem]; have sp_1 := (q2h (⟨(⟨v_0, v_1⟩ : GWave_pool), rv_0.g, rv_0.table, (⟨a_8, (List.set a_9 (i_2.toNat) (⟨v_12, xv_6.a1⟩ : Arr2 (List GItem)))⟩ : GWave_pool), rv_0.work, rv_0.waves, rv_0.outs⟩ : GWave_runner) xv_0 v_13 ev_13); simp only [List.length_set] at sp_1; refine z7h [0, 10, 11, 13, 14, 5, 6] sp_1 rfl ⟨rfl, ⟨rfl, ⟨rfl, ⟨rfl, ⟨rfl, ⟨rfl, ⟨rfl, trivial⟩⟩⟩⟩⟩⟩⟩ rfl rfl rfl rfl ?_; have rf_19 : [[.sl 3 (enc xv_1.a0)], [.sl 3 (enc v_13.1)]] = enc ([xv_1.a0, v_13.1] : List (List GItem)) := by rfl
          simp only [go_sem]; refine u6 Q18 (⟨(([xv_1.a0, v_13.1] : List (List GItem)), v_13.2.g.Parent, v_13.2.g.Bound, v_13.2.g.Nodes, v_13.2.g.Edges, v_13.2.table, v_13.2.work, v_13.2.pool.points, v_13.2.pool.in_, v_13.2.past.points, v_13.2.past.in_, v_13.2.waves, v_13.2.outs), [some 7, some 16, some 17, some 18, some 19, some 20, some 21], ?_, h⟩); simp only [go_sem, Le] <;> (repeat' apply And.intro) <;> (try with_reducible refine q42 ?_) <;> first | omega | (simp [go_sem]; done) | ((try with_reducible refine q42 ?_); (simp [go_sem, enc, q86]; done))
    ·
      replace h := q5g h hb_5; simp only [bool_to_prop] at hb_5; refine y5 (u6 Q18 (⟨(([xv_1.a0, xv_1.a1] : List (List GItem)), rv_0.g.Parent, rv_0.g.Bound, rv_0.g.Nodes, rv_0.g.Edges, rv_0.table, rv_0.work, v_0, v_1, rv_0.past.points, rv_0.past.in_, rv_0.waves, rv_0.outs), [some 7, some 10, some 11, some 3, some 4, some 5, some 6], ?_, h⟩)); simp only [go_sem, Le] <;> (repeat' apply And.intro) <;> (try with_reducible refine q42 ?_) <;> first | omega | (simp [go_sem]; done) | ((try with_reducible refine q42 ?_); (exact ⟨_, rfl, Nat.le_refl _, rfl, rfl⟩))
  · rintro ⟨ports_0, b_0, b_1, b_2, b_3, b_4, b_5, a_2, a_3, a_4, a_5, a_6, a_7⟩ h
    try dsimp only at h
    rw [q03] at h; refine sg fun _ Q10 => ?_; refine p9 ?_; refine j4u ?_; obtain ⟨xv_4, ex4, h⟩ := z8 h; obtain ⟨f4a, f4b, f4c⟩ := qp9 ex4; obtain ⟨v_6, ev_6, h⟩ := z8 h; simp only [go_sem, f4a, f4b, f4c]; refine And.intro (by omega) ?_; refine callq (fun _ => (z6e xv_4 ports_0 v_6 ev_6)) (by rfl) (by rfl) ?_; simp only [go_sem]; refine q8 Q10 (sg fun _ Q11 => ?_); refine sg fun _ Q12 => ?_; simp only [go_sem]; refine q8 Q12 ?_; refine q92 (b := (!v_6.2)) (by (simp only [go_sem]; done)) (fun hb_4 => ?_) (fun hb_4 => ?_)
    ·
      replace h := q5f h hb_4; simp only [bool_to_prop] at hb_4; refine sg fun _ Q13 => ?_; simp only [go_sem]; refine q8 Q13 (q05 (q0q Q11 ?_)); simp only [go_sem]; obtain rfl := Option.some.inj h; refine q62 [some 8, some 9, some 10, some 11, some 12, some 13] ?_; simp only [go_sem, Le] <;> (repeat' apply And.intro) <;> (try with_reducible refine q42 ?_) <;> first | omega | (simp [go_sem]; done)
    ·
      replace h := q5g h hb_4; simp only [bool_to_prop] at hb_4; refine y5 (q8 Q11 (sg fun _ Q14 => ?_)); refine p9 ?_; refine q2n 10 0 0 [0, 0, 2, 6, 0, 16, 62, 126, 255, 0, 1023] [14] [0, 1, 2, 3, 4, 5, 6, 7, 8] [] [9] [] mixed (by kernel_rfl) (of_decide_eq_true (by kernel_rfl)) (by kernel_rfl) (by kernel_rfl) (by rfl) ?_; obtain ⟨v_7, ev_7, h⟩ := z8 h; simp only [go_sem]; refine callq (fun _ => (z0a xv_1.a0 v_7 ev_7)) (by rfl) (by rfl) ?_; obtain ⟨v_8, ev_8, h⟩ := z8 h; simp only [go_sem]; refine callq (fun _ => (z0a xv_1.a1 v_8 ev_8)) (by rfl) (by rfl) ?_; simp only [go_sem]; refine q8 Q14 (sg fun _ Q15 => ?_); obtain ⟨v_9, ev_9, h⟩ := z8 h; simp only [go_sem]; refine q8i [0, 8, 9, 10, 11, 12, 13] (q5s (⟨(⟨a_2, a_3⟩ : GWave_pool), (⟨b_0, b_1, b_2, b_3⟩ : GGraph), b_4, (⟨a_4, a_5⟩ : GWave_pool), b_5, a_6, a_7⟩ : GWave_runner) xv_0 v_6.1 v_9 ev_9) (by simp) rfl ⟨rfl, ⟨rfl, ⟨rfl, ⟨rfl, ⟨rfl, ⟨rfl, ⟨rfl, trivial⟩⟩⟩⟩⟩⟩⟩ rfl rfl rfl rfl ?_; simp only [go_sem]; refine q8 Q15 (sg fun _ Q16 => ?_); refine p9 ?_; refine q2n 8 0 0 [0, 0, 2, 6, 14, 0, 32, 126, 255, 511, 1023] [19, 21] [0] [] [7] [] mixed (by kernel_rfl) (of_decide_eq_true (by kernel_rfl)) (by kernel_rfl) (by kernel_rfl) (by rfl) ?_; have rf_11 : [[.v (.int .i64 xv_0.Node), .v (.int .i64 xv_0.Time.D), .v (.int .i64 xv_0.Time.C.a0), .v (.int .i64 xv_0.Time.C.a1), .v (.int .i64 xv_0.Time.C.a2), .v (.int .i64 xv_0.Time.C.a3), .v (.int .i64 (i64.wrap (v_7 + v_8))), .v (.int .i64 v_9.1)]] = enc ([(⟨xv_0, i64.wrap (v_7 + v_8), v_9.1⟩ : GWave)] : List GWave) := by rfl
      obtain ⟨g_5, h⟩ := q0r h; simp only [List.length_cons, List.length_nil, Nat.zero_add, List.length_append] at g_5; have rf_12 : enc v_9.2.waves ++ [[.v (.int .i64 xv_0.Node), .v (.int .i64 xv_0.Time.D), .v (.int .i64 xv_0.Time.C.a0), .v (.int .i64 xv_0.Time.C.a1), .v (.int .i64 xv_0.Time.C.a2), .v (.int .i64 xv_0.Time.C.a3), .v (.int .i64 (i64.wrap (v_7 + v_8))), .v (.int .i64 v_9.1)]] = enc (v_9.2.waves ++ ([(⟨xv_0, i64.wrap (v_7 + v_8), v_9.1⟩ : GWave)] : List GWave)) := by exact (q3h v_9.2.waves ([(⟨xv_0, i64.wrap (v_7 + v_8), v_9.1⟩ : GWave)] : List GWave)).symm
      simp only [go_sem, g_5, rf_12]; simp only [rf_11]; refine q8 Q16 (sg fun _ Q17 => ?_); simp only [go_sem]; refine q8 Q17 (q05 ?_); simp only [go_sem]; obtain rfl := Option.some.inj h; refine q62 [some 15, some 16, some 17, some 18, some 21, some 20] ?_; simp only [go_sem, Le] <;> (repeat' apply And.intro) <;> (try with_reducible refine q42 ?_) <;> first | omega | (simp [go_sem]; done)
def q3v (a_0 : Int) (b_0 : Int) (nv_0 : Int) (rec_1 : Int × (List GOut) → Option (List GOut)) : Int × (List GOut) → Option (List GOut) :=
 fun (i_1, a_2) =>
 (if (decide (i_1 < nv_0)) = true then q9 (idx a_2 (i64.wrap (b_0 + i_1))) (fun xv_6 =>
 q9 (idx a_2 (i64.wrap (a_0 + i_1))) (fun xv_7 =>
 q9 (idx (List.set a_2 (Int.toNat (i64.wrap (a_0 + i_1))) xv_6) (i64.wrap (b_0 + i_1))) (fun xv_8 =>
 rec_1 (i64.wrap (i_1 + 1), (List.set (List.set a_2 (Int.toNat (i64.wrap (a_0 + i_1))) xv_6) (Int.toNat (i64.wrap (b_0 + i_1))) xv_7)))))
 else some a_2)
def q0y (data_0 : List GOut) (a_0 : Int) (b_0 : Int) (nv_0 : Int) (cmp_0 : GOut → GOut → Option Int) : Option (List GOut) :=
 u7 (q3v a_0 b_0 nv_0) rounds (0, data_0)
theorem q3l (data_0 : List GOut) (a_0 : Int) (b_0 : Int) (nv_0 : Int) (cmp_0 : GOut → GOut → Option Int) (g_cmp_0 : FuncId) (c_cmp_0 : List AV) (F_cmp_0 : q06 c_cmp_0 = true) (E_cmp_0 : x8 pp g_cmp_0 = true) (H_cmp_0 : ∀ (x0 : GOut) (x1 : GOut) (r : Int), cmp_0 x0 x1 = some r → PureS pp g_cmp_0 ([.agg (Row.row x0), .agg (Row.row x1)] ++ c_cmp_0) 0 (.v (.int .i64 r))) (r : List GOut) (h : q0y data_0 a_0 b_0 nv_0 cmp_0 = some r) : DetS pp 149 [.osl 0 4 (0) (data_0.length), .v (.int .i64 a_0), .v (.int .i64 b_0), .v (.int .i64 nv_0), .clo g_cmp_0 c_cmp_0] [(0, .arr 4 (enc data_0))] 1 (.tup []) [(0, .arr 4 (enc r))] 1 := by
 refine dtI Tryz.func149 rfl ?_; rw [q0y] at h; have F := trivial; refine sM ?_; refine w9 fun _ Q2 => ?_; refine q0a h [1, 2, 3] (fun x => ([(0, .osl 0 4 (0) (x.2.length)), (10, .v (.int .i64 x.1))], [(0, .arr 4 (enc x.2))])) 1 ?_; rintro m_1 ⟨i_1, a_2⟩ h _ Q3; rw [q3v] at h; refine sg fun _ Q4 => ?_; refine sM ?_; refine sB h (fun _ h => ?_) fun _ h => ?_
 ·
  refine y5 (q8 Q4 (sg fun _ Q6 => ?_)); refine w9 fun _ Q7 => ?_; refine p9 ?_; refine q2n 22 0 0 [0, 0, 0, 6, 0, 0, 0, 96, 0, 0, 0, 1536, 3840, 7936, 0, 0, 0, 98304, 245760, 507904, 1048335, 2096911, 4194303, 8388607] [0] [4, 5, 6, 7] [] [21] [] mixed (by kernel_rfl) (of_decide_eq_true (by kernel_rfl)) (by kernel_rfl) (by kernel_rfl) (by rfl) ?_; obtain ⟨xv_6, F, h⟩ := bI F h; obtain ⟨xv_7, F, h⟩ := bI F h; have rf_4 : (enc a_2).set (Int.toNat (i64.wrap (a_0 + i_1))) [.v (.int .i64 xv_6.Node), .v (.int .i64 xv_6.Epoch), .v (.int .i64 xv_6.Rec.K), .v (.int .i64 xv_6.Rec.V)] = enc (List.set a_2 (Int.toNat (i64.wrap (a_0 + i_1))) xv_6) := by exact q5b _ _ _
  obtain ⟨xv_8, F, h⟩ := bI F h; have rf_5 : (enc (List.set a_2 (Int.toNat (i64.wrap (a_0 + i_1))) xv_6)).set (Int.toNat (i64.wrap (b_0 + i_1))) [.v (.int .i64 xv_7.Node), .v (.int .i64 xv_7.Epoch), .v (.int .i64 xv_7.Rec.K), .v (.int .i64 xv_7.Rec.V)] = enc (List.set (List.set a_2 (Int.toNat (i64.wrap (a_0 + i_1))) xv_6) (Int.toNat (i64.wrap (b_0 + i_1))) xv_7) := by exact q5b _ _ _
  simp only [go_sem, rf_4, rf_5, F]; refine ai ?_; refine ai ?_; refine ai ?_; refine ai ?_; refine q0b Q7 (q8 Q6 ?_); simp only [go_sem]; refine u6 Q3 ?_; exact nxC _ h [] leA
 · refine q11 (q1g Q4 (q12 Q3 (q0s Q2 ?_))); simp only [go_sem]; obtain rfl := Option.some.inj h; refine q62 [] ?_; exact leA
def q2y (mv_0 : Int) (cmp_0 : GOut → GOut → Option Int) (i_2 : Int) (a_3 : List GOut) : Option (List GOut) :=
 q9 (q0y a_3 (i64.wrap (mv_0 - i_2)) mv_0 i_2 cmp_0) (fun v_6 =>
 y9 (v_6.length = a_3.length) (
 some v_6))
def q4i (mv_0 : Int) (cmp_0 : GOut → GOut → Option Int) (rec_2 : Int × Int × (List GOut) → Option (List GOut)) : Int × Int × (List GOut) → Option (List GOut) :=
 fun (i_4, j_3, a_5) =>
 (if (!(i_4 == j_3)) = true then (if (decide (j_3 < i_4)) = true then q9 (q0y a_5 (i64.wrap (mv_0 - i_4)) mv_0 j_3 cmp_0) (fun v_11 =>
 y9 (v_11.length = a_5.length) (
 rec_2 (i64.wrap (i_4 - j_3), j_3, v_11)))
 else q9 (q0y a_5 (i64.wrap (mv_0 - i_4)) (i64.wrap ((i64.wrap (mv_0 + j_3)) - i_4)) i_4 cmp_0) (fun v_12 =>
 y9 (v_12.length = a_5.length) (
 rec_2 (i_4, i64.wrap (j_3 - i_4), v_12))))
 else q2y mv_0 cmp_0 i_4 a_5)
def q2d (data_0 : List GOut) (a_0 : Int) (mv_0 : Int) (b_0 : Int) (cmp_0 : GOut → GOut → Option Int) : Option (List GOut) :=
 u7 (q4i mv_0 cmp_0) rounds (i64.wrap (mv_0 - a_0), i64.wrap (b_0 - mv_0), data_0)
theorem qg0 (data_0 : List GOut) (a_0 : Int) (mv_0 : Int) (b_0 : Int) (cmp_0 : GOut → GOut → Option Int) (g_cmp_0 : FuncId) (c_cmp_0 : List AV) (F_cmp_0 : q06 c_cmp_0 = true) (E_cmp_0 : x8 pp g_cmp_0 = true) (H_cmp_0 : ∀ (x0 : GOut) (x1 : GOut) (r : Int), cmp_0 x0 x1 = some r → PureS pp g_cmp_0 ([.agg (Row.row x0), .agg (Row.row x1)] ++ c_cmp_0) 0 (.v (.int .i64 r))) (r : List GOut) (h : q2d data_0 a_0 mv_0 b_0 cmp_0 = some r) : DetS pp 132 [.osl 0 4 (0) (data_0.length), .v (.int .i64 a_0), .v (.int .i64 mv_0), .v (.int .i64 b_0), .clo g_cmp_0 c_cmp_0] [(0, .arr 4 (enc data_0))] 1 (.tup []) [(0, .arr 4 (enc r))] 1 := by
 refine dtI Tryz.func132 rfl ?_; rw [q2d] at h; have F := trivial; refine sM ?_; refine sM ?_; refine q2s (fun ((i_2, a_3) : Int × (List GOut)) => q2y mv_0 cmp_0 i_2 a_3 = some r) [2, 4] (fun x => ([(0, .osl 0 4 (0) (x.2.length)), (10, .v (.int .i64 x.1))], [(0, .arr 4 (enc x.2))])) 1 ?_ ?_
 ·
  intro _ Q3; refine w9 fun _ Q4 => ?_; refine q0a h [2, 4] (fun x => ([(0, .osl 0 4 (0) (x.2.2.length)), (10, .v (.int .i64 x.1)), (11, .v (.int .i64 x.2.1))], [(0, .arr 4 (enc x.2.2))])) 1 ?_; rintro m_2 ⟨i_4, j_3, a_5⟩ h _ Q5; rw [q4i] at h; refine sg fun _ Q6 => ?_; refine sM ?_; refine sB h (fun _ h => ?_) fun _ h => ?_
  ·
   refine y5 (q8 Q6 (w9 fun _ Q8 => ?_)); refine sM ?_; refine sB h (fun _ h => ?_) fun _ h => ?_
   · refine sg fun _ Q10 => ?_; obtain ⟨v_11, ev_11, h⟩ := z8 h; simp only [go_sem]; refine q8i [0] (q3l a_5 (i64.wrap (mv_0 - i_4)) mv_0 j_3 cmp_0 g_cmp_0 c_cmp_0 F_cmp_0 E_cmp_0 H_cmp_0 v_11 ev_11) (by simp) (by simp only [q5e, q21, q47 F_cmp_0] <;> rfl) ⟨rfl, trivial⟩ (by simp only [ltL, ltA, q54 F_cmp_0] <;> rfl) rfl rfl rfl ?_; obtain ⟨F, h⟩ := bG F h; simp only [go_sem, F]; refine q8 Q10 ?_; simp only [go_sem]; refine q0b Q8 (u6 Q5 ?_); exact nxC _ h [] leA
   · refine sg fun _ Q11 => ?_; obtain ⟨v_12, ev_12, h⟩ := z8 h; simp only [go_sem]; refine q8i [0] (q3l a_5 (i64.wrap (mv_0 - i_4)) (i64.wrap ((i64.wrap (mv_0 + j_3)) - i_4)) i_4 cmp_0 g_cmp_0 c_cmp_0 F_cmp_0 E_cmp_0 H_cmp_0 v_12 ev_12) (by simp) (by simp only [q5e, q21, q47 F_cmp_0] <;> rfl) ⟨rfl, trivial⟩ (by simp only [ltL, ltA, q54 F_cmp_0] <;> rfl) rfl rfl rfl ?_; obtain ⟨F, h⟩ := bG F h; simp only [go_sem, F]; refine q8 Q11 ?_; simp only [go_sem]; refine q0b Q8 (u6 Q5 ?_); exact nxC _ h [] leA
  · refine q11 (q1g Q6 (q12 Q5 (q0s Q4 (u6 Q3 (⟨(i_4, a_5), [], ?_, h⟩))))); exact leA
 ·
  rintro ⟨i_2, a_3⟩ h
  try dsimp only at h
  rw [q2y] at h; obtain ⟨v_6, ev_6, h⟩ := z8 h; simp only [go_sem]; refine q8i [0] (q3l a_3 (i64.wrap (mv_0 - i_2)) mv_0 i_2 cmp_0 g_cmp_0 c_cmp_0 F_cmp_0 E_cmp_0 H_cmp_0 v_6 ev_6) (by simp) (by simp only [q5e, q21, q47 F_cmp_0] <;> rfl) ⟨rfl, trivial⟩ (by simp only [ltL, ltA, q54 F_cmp_0] <;> rfl) rfl rfl rfl ?_; obtain ⟨F, h⟩ := bG F h; simp only [go_sem, F]; obtain rfl := Option.some.inj h; refine q62 [] ?_; exact leA
def q35 (a_0 : Int) (cmp_0 : GOut → GOut → Option Int) (i_1 : Int) (rec_1 : (Int × (List GOut) → Option (List GOut))) (rec_2 : Int × (List GOut) → Option (List GOut)) : Int × (List GOut) → Option (List GOut) :=
 fun (j_5, a_8) =>
 (if (decide (a_0 < j_5)) = true then q9 (idx a_8 j_5) (fun xv_24 =>
 q9 (idx a_8 (i64.wrap (j_5 - 1))) (fun xv_25 =>
 q9 (cmp_0 xv_24 xv_25) (fun v_8 =>
 (if (decide (v_8 < 0)) = true then q9 (idx (List.set a_8 (j_5.toNat) xv_25) (i64.wrap (j_5 - 1))) (fun xv_26 =>
 rec_2 (i64.wrap (j_5 - 1), (List.set (List.set a_8 (j_5.toNat) xv_25) (Int.toNat (i64.wrap (j_5 - 1))) xv_24)))
 else rec_1 (i64.wrap (i_1 + 1), a_8)))))
 else rec_1 (i64.wrap (i_1 + 1), a_8))
def q36 (a_0 : Int) (b_0 : Int) (cmp_0 : GOut → GOut → Option Int) (rec_1 : Int × (List GOut) → Option (List GOut)) : Int × (List GOut) → Option (List GOut) :=
 fun (i_1, a_6) =>
 (if (decide (i_1 < b_0)) = true then u7 (q35 a_0 cmp_0 i_1 rec_1) rounds (i_1, a_6)
 else some a_6)
def q0n (data_0 : List GOut) (a_0 : Int) (b_0 : Int) (cmp_0 : GOut → GOut → Option Int) : Option (List GOut) :=
 u7 (q36 a_0 b_0 cmp_0) rounds (i64.wrap (a_0 + 1), data_0)
theorem q58 (data_0 : List GOut) (a_0 : Int) (b_0 : Int) (cmp_0 : GOut → GOut → Option Int) (g_cmp_0 : FuncId) (c_cmp_0 : List AV) (F_cmp_0 : q06 c_cmp_0 = true) (E_cmp_0 : x8 pp g_cmp_0 = true) (H_cmp_0 : ∀ (x0 : GOut) (x1 : GOut) (r : Int), cmp_0 x0 x1 = some r → PureS pp g_cmp_0 ([.agg (Row.row x0), .agg (Row.row x1)] ++ c_cmp_0) 0 (.v (.int .i64 r))) (r : List GOut) (h : q0n data_0 a_0 b_0 cmp_0 = some r) : DetS pp 102 [.osl 0 4 (0) (data_0.length), .v (.int .i64 a_0), .v (.int .i64 b_0), .clo g_cmp_0 c_cmp_0] [(0, .arr 4 (enc data_0))] 1 (.tup []) [(0, .arr 4 (enc r))] 1 := by
 refine dtI Tryz.func102 rfl ?_; rw [q0n] at h; have F := trivial; refine sM ?_; refine w9 fun _ Q2 => ?_; refine q0a h [1, 2, 3] (fun x => ([(0, .osl 0 4 (0) (x.2.length)), (8, .v (.int .i64 x.1))], [(0, .arr 4 (enc x.2))])) 1 ?_; rintro m_1 ⟨i_1, a_6⟩ h _ Q3; rw [q36] at h; refine sg fun _ Q4 => ?_; refine sM ?_; refine sB h (fun _ h => ?_) fun _ h => ?_
 ·
  refine y5 (q8 Q4 (jg fun _ Q6 => ?_)); refine w9 fun _ Q7 => ?_; refine sM ?_; refine w9 fun _ Q9 => ?_; refine q0a h [1, 2, 3, 8] (fun x => ([(0, .osl 0 4 (0) (x.2.length)), (9, .v (.int .i64 x.1))], [(0, .arr 4 (enc x.2))])) 1 ?_; rintro m_2 ⟨j_5, a_8⟩ h _ Q10; rw [q35] at h; refine sg fun _ Q11 => ?_; refine sg fun _ Q12 => ?_; refine p9 ?_; refine j4u ?_; simp only [go_sem]; rcases hb_19 : (decide (a_0 < j_5)) with _ | _
  · replace h := q5g h hb_19; simp only [go_sem, hb_19]; refine q8 Q12 (j6h ?_); refine q11 (q1g Q11 (q12 Q10 (q0s Q9 (q0b Q7 (q8 Q6 ?_))))); simp only [go_sem]; refine u6 Q3 ?_; exact nxC _ h [] leA
  ·
   replace h := q5f h hb_19; obtain ⟨xv_24, F, h⟩ := bI F h; obtain ⟨xv_25, F, h⟩ := bI F h; obtain ⟨v_8, ev_8, h⟩ := z8 h; simp only [go_sem, hb_19, E_cmp_0, F]; refine ai ?_; refine ai ?_; refine q8j (H_cmp_0 xv_24 xv_25 v_8 ev_8) (by rfl) (by simp [go_sem, q06, q0d, F_cmp_0]) ?_; simp only [go_sem]; refine q8 Q12 (sB h (fun _ h => ?_) fun _ h => ?_)
   ·
    refine y5 (q8 Q11 (sg fun _ Q13 => ?_)); refine w9 fun _ Q14 => ?_; refine p9 ?_; refine q2n 16 0 0 [0, 0, 0, 0, 8, 0, 0, 64, 224, 480, 0, 0, 3072, 7168, 16355, 32739, 65535, 131071] [0] [2, 3, 4] [] [15] [] mixed (by kernel_rfl) (of_decide_eq_true (by kernel_rfl)) (by kernel_rfl) (by kernel_rfl) (by rfl) ?_; have rf_16 : (enc a_8).set (j_5.toNat) [.v (.int .i64 xv_25.Node), .v (.int .i64 xv_25.Epoch), .v (.int .i64 xv_25.Rec.K), .v (.int .i64 xv_25.Rec.V)] = enc (List.set a_8 (j_5.toNat) xv_25) := by exact q5b _ _ _
    obtain ⟨xv_26, F, h⟩ := bI F h; have rf_17 : (enc (List.set a_8 (j_5.toNat) xv_25)).set (Int.toNat (i64.wrap (j_5 - 1))) [.v (.int .i64 xv_24.Node), .v (.int .i64 xv_24.Epoch), .v (.int .i64 xv_24.Rec.K), .v (.int .i64 xv_24.Rec.V)] = enc (List.set (List.set a_8 (j_5.toNat) xv_25) (Int.toNat (i64.wrap (j_5 - 1))) xv_24) := by exact q5b _ _ _
    simp only [go_sem, rf_16, rf_17, F]; refine ai ?_; refine ai ?_; refine ai ?_; refine ai ?_; refine q0b Q14 (q8 Q13 ?_); simp only [go_sem]; refine u6 Q10 ?_; exact nxC _ h [] leA
   · refine q11 (q1g Q11 (q12 Q10 (q0s Q9 (q0b Q7 (q8 Q6 ?_))))); simp only [go_sem]; refine u6 Q3 ?_; exact nxC _ h [] leA
 · refine q11 (q1g Q4 (q12 Q3 (q0s Q2 ?_))); simp only [go_sem]; obtain rfl := Option.some.inj h; refine q62 [] ?_; exact leA
def q13 (a_0 : Int) (mv_0 : Int) (b_0 : Int) (cmp_0 : GOut → GOut → Option Int) (self : (List GOut) → Int → Int → Int → (GOut → GOut → Option Int) → Option (List GOut)) (start_3 : Int) (a_6 : List GOut) : Option (List GOut) :=
 (if ((decide ((i64.wrap (q1x .u64 (IntKind.u64.wrap (i64.wrap (a_0 + b_0))) 1)) < (i64.wrap ((i64.wrap ((i64.wrap (q1x .u64 (IntKind.u64.wrap (i64.wrap (a_0 + b_0))) 1)) + mv_0)) - start_3)))) && (decide ((i64.wrap ((i64.wrap ((i64.wrap (q1x .u64 (IntKind.u64.wrap (i64.wrap (a_0 + b_0))) 1)) + mv_0)) - start_3)) < b_0))) = true then q9 (self a_6 (i64.wrap (q1x .u64 (IntKind.u64.wrap (i64.wrap (a_0 + b_0))) 1)) (i64.wrap ((i64.wrap ((i64.wrap (q1x .u64 (IntKind.u64.wrap (i64.wrap (a_0 + b_0))) 1)) + mv_0)) - start_3)) b_0 cmp_0) (fun v_17 =>
 y9 (v_17.length = a_6.length) (
 some v_17))
 else some a_6)
def q14 (a_0 : Int) (mv_0 : Int) (b_0 : Int) (cmp_0 : GOut → GOut → Option Int) (self : (List GOut) → Int → Int → Int → (GOut → GOut → Option Int) → Option (List GOut)) (start_3 : Int) (a_5 : List GOut) : Option (List GOut) :=
 (if ((decide (a_0 < start_3)) && (decide (start_3 < (i64.wrap (q1x .u64 (IntKind.u64.wrap (i64.wrap (a_0 + b_0))) 1))))) = true then q9 (self a_5 a_0 start_3 (i64.wrap (q1x .u64 (IntKind.u64.wrap (i64.wrap (a_0 + b_0))) 1)) cmp_0) (fun v_18 =>
 y9 (v_18.length = a_5.length) (
 q13 a_0 mv_0 b_0 cmp_0 self start_3 v_18))
 else q13 a_0 mv_0 b_0 cmp_0 self start_3 a_5)
def q1m (data_0 : List GOut) (a_0 : Int) (mv_0 : Int) (b_0 : Int) (cmp_0 : GOut → GOut → Option Int) (self : (List GOut) → Int → Int → Int → (GOut → GOut → Option Int) → Option (List GOut)) (start_3 : Int) : Option (List GOut) :=
 (if ((decide (start_3 < mv_0)) && (decide (mv_0 < (i64.wrap ((i64.wrap ((i64.wrap (q1x .u64 (IntKind.u64.wrap (i64.wrap (a_0 + b_0))) 1)) + mv_0)) - start_3))))) = true then q9 (q2d data_0 start_3 mv_0 (i64.wrap ((i64.wrap ((i64.wrap (q1x .u64 (IntKind.u64.wrap (i64.wrap (a_0 + b_0))) 1)) + mv_0)) - start_3)) cmp_0) (fun v_19 =>
 y9 (v_19.length = data_0.length) (
 q14 a_0 mv_0 b_0 cmp_0 self start_3 v_19))
 else q14 a_0 mv_0 b_0 cmp_0 self start_3 data_0)
def q4a (data_0 : List GOut) (a_0 : Int) (mv_0 : Int) (b_0 : Int) (cmp_0 : GOut → GOut → Option Int) (self : (List GOut) → Int → Int → Int → (GOut → GOut → Option Int) → Option (List GOut)) (rec_7 : Int × Int → Option (List GOut)) : Int × Int → Option (List GOut) :=
 fun (start_5, rv_4) =>
 (if (decide (start_5 < rv_4)) = true then q9 (idx data_0 (i64.wrap ((i64.wrap ((i64.wrap ((i64.wrap (q1x .u64 (IntKind.u64.wrap (i64.wrap (a_0 + b_0))) 1)) + mv_0)) - 1)) - (i64.wrap (q1x .u64 (IntKind.u64.wrap (i64.wrap (start_5 + rv_4))) 1))))) (fun xv_52 =>
 q9 (idx data_0 (i64.wrap (q1x .u64 (IntKind.u64.wrap (i64.wrap (start_5 + rv_4))) 1))) (fun xv_53 =>
 q9 (cmp_0 xv_52 xv_53) (fun v_22 =>
 (if (!(decide (v_22 < 0))) = true then rec_7 (i64.wrap ((i64.wrap (q1x .u64 (IntKind.u64.wrap (i64.wrap (start_5 + rv_4))) 1)) + 1), rv_4)
 else rec_7 (start_5, i64.wrap (q1x .u64 (IntKind.u64.wrap (i64.wrap (start_5 + rv_4))) 1))))))
 else q1m data_0 a_0 mv_0 b_0 cmp_0 self start_5)
def q15 (data_0 : List GOut) (a_0 : Int) (mv_0 : Int) (b_0 : Int) (cmp_0 : GOut → GOut → Option Int) (self : (List GOut) → Int → Int → Int → (GOut → GOut → Option Int) → Option (List GOut)) (start_0 : Int) (rv_0 : Int) : Option (List GOut) :=
 u7 (q4a data_0 a_0 mv_0 b_0 cmp_0 self) rounds (start_0, rv_0)
def q2j (data_0 : List GOut) (a_0 : Int) (mv_0 : Int) (b_0 : Int) (cmp_0 : GOut → GOut → Option Int) (self : (List GOut) → Int → Int → Int → (GOut → GOut → Option Int) → Option (List GOut)) : Option (List GOut) :=
 (if (decide ((i64.wrap (q1x .u64 (IntKind.u64.wrap (i64.wrap (a_0 + b_0))) 1)) < mv_0)) = true then q15 data_0 a_0 mv_0 b_0 cmp_0 self (i64.wrap ((i64.wrap ((i64.wrap (q1x .u64 (IntKind.u64.wrap (i64.wrap (a_0 + b_0))) 1)) + mv_0)) - b_0)) (i64.wrap (q1x .u64 (IntKind.u64.wrap (i64.wrap (a_0 + b_0))) 1))
 else q15 data_0 a_0 mv_0 b_0 cmp_0 self a_0 mv_0)
def q49 (i_12 : Int) (rec_9 : Int × (List GOut) → Option (List GOut)) : Int × (List GOut) → Option (List GOut) :=
 fun (k_5, a_8) =>
 (if (decide (i_12 < k_5)) = true then q9 (idx a_8 (i64.wrap (k_5 - 1))) (fun xv_66 =>
 q9 (idx a_8 k_5) (fun xv_67 =>
 q9 (idx (List.set a_8 (k_5.toNat) xv_66) (i64.wrap (k_5 - 1))) (fun xv_68 =>
 rec_9 (i64.wrap (k_5 - 1), (List.set (List.set a_8 (k_5.toNat) xv_66) (Int.toNat (i64.wrap (k_5 - 1))) xv_67)))))
 else some a_8)
def q2i (data_0 : List GOut) (mv_0 : Int) (i_12 : Int) : Option (List GOut) :=
 u7 (q49 i_12) rounds (mv_0, data_0)
def q3u (data_0 : List GOut) (mv_0 : Int) (cmp_0 : GOut → GOut → Option Int) (rec_10 : Int × Int → Option (List GOut)) : Int × Int → Option (List GOut) :=
 fun (i_14, j_11) =>
 (if (decide (i_14 < j_11)) = true then q9 (idx data_0 mv_0) (fun xv_73 =>
 q9 (idx data_0 (i64.wrap (q1x .u64 (IntKind.u64.wrap (i64.wrap (i_14 + j_11))) 1))) (fun xv_74 =>
 q9 (cmp_0 xv_73 xv_74) (fun v_28 =>
 (if (!(decide (v_28 < 0))) = true then rec_10 (i64.wrap ((i64.wrap (q1x .u64 (IntKind.u64.wrap (i64.wrap (i_14 + j_11))) 1)) + 1), j_11)
 else rec_10 (i_14, i64.wrap (q1x .u64 (IntKind.u64.wrap (i64.wrap (i_14 + j_11))) 1))))))
 else q2i data_0 mv_0 i_14)
def q2k (data_0 : List GOut) (a_0 : Int) (mv_0 : Int) (b_0 : Int) (cmp_0 : GOut → GOut → Option Int) (self : (List GOut) → Int → Int → Int → (GOut → GOut → Option Int) → Option (List GOut)) : Option (List GOut) :=
 (if ((i64.wrap (b_0 - mv_0)) == 1) = true then u7 (q3u data_0 mv_0 cmp_0) rounds (a_0, mv_0)
 else q2j data_0 a_0 mv_0 b_0 cmp_0 self)
def q3t (i_17 : Int) (rec_12 : Int × (List GOut) → Option (List GOut)) : Int × (List GOut) → Option (List GOut) :=
 fun (k_7, a_10) =>
 (if (decide (k_7 < (i64.wrap (i_17 - 1)))) = true then q9 (idx a_10 (i64.wrap (k_7 + 1))) (fun xv_87 =>
 q9 (idx a_10 k_7) (fun xv_88 =>
 q9 (idx (List.set a_10 (k_7.toNat) xv_87) (i64.wrap (k_7 + 1))) (fun xv_89 =>
 rec_12 (i64.wrap (k_7 + 1), (List.set (List.set a_10 (k_7.toNat) xv_87) (Int.toNat (i64.wrap (k_7 + 1))) xv_88)))))
 else some a_10)
def q2e (data_0 : List GOut) (a_0 : Int) (i_17 : Int) : Option (List GOut) :=
 u7 (q3t i_17) rounds (a_0, data_0)
def q3s (data_0 : List GOut) (a_0 : Int) (cmp_0 : GOut → GOut → Option Int) (rec_13 : Int × Int → Option (List GOut)) : Int × Int → Option (List GOut) :=
 fun (i_19, j_15) =>
 (if (decide (i_19 < j_15)) = true then q9 (idx data_0 (i64.wrap (q1x .u64 (IntKind.u64.wrap (i64.wrap (i_19 + j_15))) 1))) (fun xv_94 =>
 q9 (idx data_0 a_0) (fun xv_95 =>
 q9 (cmp_0 xv_94 xv_95) (fun v_34 =>
 (if (decide (v_34 < 0)) = true then rec_13 (i64.wrap ((i64.wrap (q1x .u64 (IntKind.u64.wrap (i64.wrap (i_19 + j_15))) 1)) + 1), j_15)
 else rec_13 (i_19, i64.wrap (q1x .u64 (IntKind.u64.wrap (i64.wrap (i_19 + j_15))) 1))))))
 else q2e data_0 a_0 i_19)
def q1p (self : (List GOut) → Int → Int → Int → (GOut → GOut → Option Int) → Option (List GOut)) (data_0 : List GOut) (a_0 : Int) (mv_0 : Int) (b_0 : Int) (cmp_0 : GOut → GOut → Option Int) : Option (List GOut) :=
 (if ((i64.wrap (mv_0 - a_0)) == 1) = true then u7 (q3s data_0 a_0 cmp_0) rounds (mv_0, b_0)
 else q2k data_0 a_0 mv_0 b_0 cmp_0 self)
def q02 : Nat → (List GOut) → Int → Int → Int → (GOut → GOut → Option Int) → Option (List GOut)
 | 0 => fun _ _ _ _ _ => none
 | n + 1 => q1p (q02 n)
def q33 (data_0 : List GOut) (a_0 : Int) (mv_0 : Int) (b_0 : Int) (cmp_0 : GOut → GOut → Option Int) : Option (List GOut) := q02 rounds data_0 a_0 mv_0 b_0 cmp_0
theorem q9y (self : (List GOut) → Int → Int → Int → (GOut → GOut → Option Int) → Option (List GOut)) (Hself : ∀ (data_0 : List GOut) (a_0 : Int) (mv_0 : Int) (b_0 : Int) (cmp_0 : GOut → GOut → Option Int) (g_cmp_0 : FuncId) (c_cmp_0 : List AV) (F_cmp_0 : q06 c_cmp_0 = true) (E_cmp_0 : x8 pp g_cmp_0 = true) (H_cmp_0 : ∀ (x0 : GOut) (x1 : GOut) (r : Int), cmp_0 x0 x1 = some r → PureS pp g_cmp_0 ([.agg (Row.row x0), .agg (Row.row x1)] ++ c_cmp_0) 0 (.v (.int .i64 r))) (r : List GOut), self data_0 a_0 mv_0 b_0 cmp_0 = some r → DetS pp 103 [.osl 0 4 (0) (data_0.length), .v (.int .i64 a_0), .v (.int .i64 mv_0), .v (.int .i64 b_0), .clo g_cmp_0 c_cmp_0] [(0, .arr 4 (enc data_0))] 1 (.tup []) [(0, .arr 4 (enc r))] 1) (data_0 : List GOut) (a_0 : Int) (mv_0 : Int) (b_0 : Int) (cmp_0 : GOut → GOut → Option Int) (g_cmp_0 : FuncId) (c_cmp_0 : List AV) (F_cmp_0 : q06 c_cmp_0 = true) (E_cmp_0 : x8 pp g_cmp_0 = true) (H_cmp_0 : ∀ (x0 : GOut) (x1 : GOut) (r : Int), cmp_0 x0 x1 = some r → PureS pp g_cmp_0 ([.agg (Row.row x0), .agg (Row.row x1)] ++ c_cmp_0) 0 (.v (.int .i64 r))) (r : List GOut) (h : q1p self data_0 a_0 mv_0 b_0 cmp_0 = some r) : DetS pp 103 [.osl 0 4 (0) (data_0.length), .v (.int .i64 a_0), .v (.int .i64 mv_0), .v (.int .i64 b_0), .clo g_cmp_0 c_cmp_0] [(0, .arr 4 (enc data_0))] 1 (.tup []) [(0, .arr 4 (enc r))] 1 := by
 refine dtI Tryz.func103 rfl ?_; rw [q1p] at h; have F := trivial; refine q2s (fun (_ : Unit) => q2k data_0 a_0 mv_0 b_0 cmp_0 self = some r) [0, 1, 2, 3, 4] (fun _ => ([], [(0, .arr 4 (enc data_0))])) 1 ?_ ?_
 ·
  intro _ Q43; refine sM ?_; refine sB h (fun _ h => ?_) fun _ h => ?_
  ·
   refine sM ?_; refine sM ?_; refine q2s (fun (i_17 : Int) => q2e data_0 a_0 i_17 = some r) [0, 1] (fun i_17 => ([(10, .v (.int .i64 i_17))], [(0, .arr 4 (enc data_0))])) 1 ?_ ?_
   ·
    intro _ Q55; refine w9 fun _ Q56 => ?_; refine q0a h [0, 1, 4] (fun x => ([(10, .v (.int .i64 x.1)), (11, .v (.int .i64 x.2))], [(0, .arr 4 (enc data_0))])) 1 ?_; rintro m_13 ⟨i_19, j_15⟩ h _ Q57; rw [q3s] at h; refine sg fun _ Q58 => ?_; refine sM ?_; refine sB h (fun _ h => ?_) fun _ h => ?_
    ·
     refine y5 (q8 Q58 (w9 fun _ Q60 => ?_)); refine sM ?_; refine sg fun _ Q62 => ?_; refine p9 ?_; refine j4u ?_; obtain ⟨xv_94, F, h⟩ := bI F h; obtain ⟨xv_95, F, h⟩ := bI F h; obtain ⟨v_34, ev_34, h⟩ := z8 h; simp only [go_sem, E_cmp_0, F]; refine ai ?_; refine ai ?_; refine q8j (H_cmp_0 xv_94 xv_95 v_34 ev_34) (by rfl) (by simp [go_sem, q06, q0d, F_cmp_0]) ?_; simp only [go_sem]; refine q8 Q62 (sB h (fun _ h => ?_) fun _ h => ?_)
     · simp only [go_sem]; refine q0b Q60 (u6 Q57 ?_); exact nxC _ h [] leA
     · simp only [go_sem]; refine q0b Q60 (u6 Q57 ?_); exact nxC _ h [] leA
    · refine q11 (q1g Q58 (q12 Q57 (q0s Q56 (u6 Q55 (⟨i_19, [], ?_, h⟩))))); exact leA
   ·
    rintro i_17 h
    try dsimp only at h
    rw [q2e] at h; refine jg fun _ Q47 => ?_; refine sM ?_; refine w9 fun _ Q49 => ?_; refine q0a h [10] (fun x => ([(0, .osl 0 4 (0) (x.2.length)), (13, .v (.int .i64 x.1))], [(0, .arr 4 (enc x.2))])) 1 ?_; rintro m_12 ⟨k_7, a_10⟩ h _ Q50; rw [q3t] at h; refine sg fun _ Q51 => ?_; refine sM ?_; refine sB h (fun _ h => ?_) fun _ h => ?_
    ·
     refine y5 (q8 Q51 (sg fun _ Q53 => ?_)); refine w9 fun _ Q54 => ?_; refine p9 ?_; refine q2n 16 0 0 [0, 0, 0, 0, 8, 0, 0, 64, 224, 480, 0, 0, 3072, 7168, 16355, 32739, 65535, 131071] [0] [2, 3, 4] [] [15] [] mixed (by kernel_rfl) (of_decide_eq_true (by kernel_rfl)) (by kernel_rfl) (by kernel_rfl) (by rfl) ?_; obtain ⟨xv_87, F, h⟩ := bI F h; obtain ⟨xv_88, F, h⟩ := bI F h; have rf_22 : (enc a_10).set (k_7.toNat) [.v (.int .i64 xv_87.Node), .v (.int .i64 xv_87.Epoch), .v (.int .i64 xv_87.Rec.K), .v (.int .i64 xv_87.Rec.V)] = enc (List.set a_10 (k_7.toNat) xv_87) := by exact q5b _ _ _
     obtain ⟨xv_89, F, h⟩ := bI F h; have rf_23 : (enc (List.set a_10 (k_7.toNat) xv_87)).set (Int.toNat (i64.wrap (k_7 + 1))) [.v (.int .i64 xv_88.Node), .v (.int .i64 xv_88.Epoch), .v (.int .i64 xv_88.Rec.K), .v (.int .i64 xv_88.Rec.V)] = enc (List.set (List.set a_10 (k_7.toNat) xv_87) (Int.toNat (i64.wrap (k_7 + 1))) xv_88) := by exact q5b _ _ _
     simp only [go_sem, rf_22, rf_23, F]; refine ai ?_; refine ai ?_; refine ai ?_; refine ai ?_; refine q0b Q54 (q8 Q53 ?_); simp only [go_sem]; refine u6 Q50 ?_; exact nxC _ h [] leA
    · refine q11 (q1g Q51 (q12 Q50 (q0s Q49 (q8 Q47 (q05 (q2t Q43 ?_)))))); simp only [go_sem]; obtain rfl := Option.some.inj h; refine q62 [] ?_; exact leA
  · refine y5 (u6 Q43 (⟨(), [], ?_, h⟩)); exact leA
 ·
  rintro ⟨⟩ h
  try dsimp only at h
  rw [q2k] at h; refine q2s (fun (_ : Unit) => q2j data_0 a_0 mv_0 b_0 cmp_0 self = some r) [0, 1, 2, 3, 4] (fun _ => ([], [(0, .arr 4 (enc data_0))])) 1 ?_ ?_
  ·
   intro _ Q23; refine sM ?_; refine sB h (fun _ h => ?_) fun _ h => ?_
   ·
    refine sM ?_; refine sM ?_; refine q2s (fun (i_12 : Int) => q2i data_0 mv_0 i_12 = some r) [0, 2] (fun i_12 => ([(14, .v (.int .i64 i_12))], [(0, .arr 4 (enc data_0))])) 1 ?_ ?_
    ·
     intro _ Q35; refine w9 fun _ Q36 => ?_; refine q0a h [0, 2, 4] (fun x => ([(14, .v (.int .i64 x.1)), (15, .v (.int .i64 x.2))], [(0, .arr 4 (enc data_0))])) 1 ?_; rintro m_10 ⟨i_14, j_11⟩ h _ Q37; rw [q3u] at h; refine sg fun _ Q38 => ?_; refine sM ?_; refine sB h (fun _ h => ?_) fun _ h => ?_
     ·
      refine y5 (q8 Q38 (w9 fun _ Q40 => ?_)); refine sM ?_; refine sg fun _ Q42 => ?_; refine p9 ?_; refine j4u ?_; obtain ⟨xv_73, F, h⟩ := bI F h; obtain ⟨xv_74, F, h⟩ := bI F h; obtain ⟨v_28, ev_28, h⟩ := z8 h; simp only [go_sem, E_cmp_0, F]; refine ai ?_; refine ai ?_; refine q8j (H_cmp_0 xv_73 xv_74 v_28 ev_28) (by rfl) (by simp [go_sem, q06, q0d, F_cmp_0]) ?_; simp only [go_sem]; refine q8 Q42 (sB h (fun _ h => ?_) fun _ h => ?_)
      · simp only [go_sem]; refine q0b Q40 (u6 Q37 ?_); exact nxC _ h [] leA
      · simp only [go_sem]; refine q0b Q40 (u6 Q37 ?_); exact nxC _ h [] leA
     · refine q11 (q1g Q38 (q12 Q37 (q0s Q36 (u6 Q35 (⟨i_14, [], ?_, h⟩))))); exact leA
    ·
     rintro i_12 h
     try dsimp only at h
     rw [q2i] at h; refine jg fun _ Q27 => ?_; refine sM ?_; refine w9 fun _ Q29 => ?_; refine q0a h [14] (fun x => ([(0, .osl 0 4 (0) (x.2.length)), (17, .v (.int .i64 x.1))], [(0, .arr 4 (enc x.2))])) 1 ?_; rintro m_9 ⟨k_5, a_8⟩ h _ Q30; rw [q49] at h; refine sg fun _ Q31 => ?_; refine sM ?_; refine sB h (fun _ h => ?_) fun _ h => ?_
     ·
      refine y5 (q8 Q31 (sg fun _ Q33 => ?_)); refine w9 fun _ Q34 => ?_; refine p9 ?_; refine q2n 16 0 0 [0, 0, 0, 0, 8, 0, 0, 64, 224, 480, 0, 0, 3072, 7168, 16355, 32739, 65535, 131071] [0] [2, 3, 4] [] [15] [] mixed (by kernel_rfl) (of_decide_eq_true (by kernel_rfl)) (by kernel_rfl) (by kernel_rfl) (by rfl) ?_; obtain ⟨xv_66, F, h⟩ := bI F h; obtain ⟨xv_67, F, h⟩ := bI F h; have rf_16 : (enc a_8).set (k_5.toNat) [.v (.int .i64 xv_66.Node), .v (.int .i64 xv_66.Epoch), .v (.int .i64 xv_66.Rec.K), .v (.int .i64 xv_66.Rec.V)] = enc (List.set a_8 (k_5.toNat) xv_66) := by exact q5b _ _ _
      obtain ⟨xv_68, F, h⟩ := bI F h; have rf_17 : (enc (List.set a_8 (k_5.toNat) xv_66)).set (Int.toNat (i64.wrap (k_5 - 1))) [.v (.int .i64 xv_67.Node), .v (.int .i64 xv_67.Epoch), .v (.int .i64 xv_67.Rec.K), .v (.int .i64 xv_67.Rec.V)] = enc (List.set (List.set a_8 (k_5.toNat) xv_66) (Int.toNat (i64.wrap (k_5 - 1))) xv_67) := by exact q5b _ _ _
      simp only [go_sem, rf_16, rf_17, F]; refine ai ?_; refine ai ?_; refine ai ?_; refine ai ?_; refine q0b Q34 (q8 Q33 ?_); simp only [go_sem]; refine u6 Q30 ?_; exact nxC _ h [] leA
     · refine q11 (q1g Q31 (q12 Q30 (q0s Q29 (q8 Q27 (q05 (q2t Q23 ?_)))))); simp only [go_sem]; obtain rfl := Option.some.inj h; refine q62 [] ?_; exact leA
   · refine y5 (u6 Q23 (⟨(), [], ?_, h⟩)); exact leA
  ·
   rintro ⟨⟩ h
   try dsimp only at h
   rw [q2j] at h; refine sM ?_; refine sM ?_; refine sM ?_; refine q2s (fun ((start_0, rv_0) : Int × Int) => q15 data_0 a_0 mv_0 b_0 cmp_0 self start_0 rv_0 = some r) [0, 1, 2, 3, 4, 18, 19] (fun x => ([(20, .v (.int .i64 x.1)), (21, .v (.int .i64 x.2))], [(0, .arr 4 (enc data_0))])) 1 ?_ ?_
   ·
    intro _ Q19; refine sM ?_; refine sB h (fun _ h => ?_) fun _ h => ?_
    · refine sM ?_; simp only [go_sem]; refine u6 Q19 (⟨(i64.wrap ((i64.wrap ((i64.wrap (q1x .u64 (IntKind.u64.wrap (i64.wrap (a_0 + b_0))) 1)) + mv_0)) - b_0), i64.wrap (q1x .u64 (IntKind.u64.wrap (i64.wrap (a_0 + b_0))) 1)), [], ?_, h⟩); exact leA
    · refine sM ?_; simp only [go_sem]; refine u6 Q19 (⟨(a_0, mv_0), [], ?_, h⟩); exact leA
   ·
    rintro ⟨start_0, rv_0⟩ h
    try dsimp only at h
    rw [q15] at h; refine sM ?_; refine q2s (fun (start_3 : Int) => q1m data_0 a_0 mv_0 b_0 cmp_0 self start_3 = some r) [0, 1, 2, 3, 4, 18, 19] (fun start_3 => ([(20, .v (.int .i64 start_3))], [(0, .arr 4 (enc data_0))])) 1 ?_ ?_
    ·
     intro _ Q11; refine w9 fun _ Q12 => ?_; refine q0a h [0, 1, 2, 3, 4, 18, 19, 22] (fun x => ([(20, .v (.int .i64 x.1)), (21, .v (.int .i64 x.2))], [(0, .arr 4 (enc data_0))])) 1 ?_; rintro m_7 ⟨start_5, rv_4⟩ h _ Q13; rw [q4a] at h; refine sg fun _ Q14 => ?_; refine sM ?_; refine sB h (fun _ h => ?_) fun _ h => ?_
     ·
      refine y5 (q8 Q14 (w9 fun _ Q16 => ?_)); refine sM ?_; refine sg fun _ Q18 => ?_; refine p9 ?_; refine j4u ?_; obtain ⟨xv_52, F, h⟩ := bI F h; obtain ⟨xv_53, F, h⟩ := bI F h; obtain ⟨v_22, ev_22, h⟩ := z8 h; simp only [go_sem, E_cmp_0, F]; refine ai ?_; refine ai ?_; refine q8j (H_cmp_0 xv_52 xv_53 v_22 ev_22) (by rfl) (by simp [go_sem, q06, q0d, F_cmp_0]) ?_; simp only [go_sem]; refine q8 Q18 (sB h (fun _ h => ?_) fun _ h => ?_)
      · simp only [go_sem]; refine q0b Q16 (u6 Q13 ?_); exact nxC _ h [] leA
      · simp only [go_sem]; refine q0b Q16 (u6 Q13 ?_); exact nxC _ h [] leA
     · refine q11 (q1g Q14 (q12 Q13 (q0s Q12 (u6 Q11 (⟨start_5, [], ?_, h⟩))))); exact leA
    ·
     rintro start_3 h
     try dsimp only at h
     rw [q1m] at h; refine sM ?_; refine q2s (fun (a_5 : (List GOut)) => q14 a_0 mv_0 b_0 cmp_0 self start_3 a_5 = some r) [1, 3, 4, 18, 20, 24] (fun a_5 => ([(0, .osl 0 4 (0) (a_5.length))], [(0, .arr 4 (enc a_5))])) 1 ?_ ?_
     ·
      intro _ Q9; refine sM ?_; refine sB h (fun _ h => ?_) fun _ h => ?_
      · obtain ⟨v_19, ev_19, h⟩ := z8 h; simp only [go_sem]; refine q8i [0] (qg0 data_0 start_3 mv_0 (i64.wrap ((i64.wrap ((i64.wrap (q1x .u64 (IntKind.u64.wrap (i64.wrap (a_0 + b_0))) 1)) + mv_0)) - start_3)) cmp_0 g_cmp_0 c_cmp_0 F_cmp_0 E_cmp_0 H_cmp_0 v_19 ev_19) (by simp) (by simp only [q5e, q21, q47 F_cmp_0] <;> rfl) ⟨rfl, trivial⟩ (by simp only [ltL, ltA, q54 F_cmp_0] <;> rfl) rfl rfl rfl ?_; obtain ⟨F, h⟩ := bG F h; simp only [go_sem, F]; refine u6 Q9 (⟨v_19, [], ?_, h⟩); exact leA
      · refine y5 (u6 Q9 (⟨data_0, [], ?_, h⟩)); exact leA
     ·
      rintro a_5 h
      try dsimp only at h
      rw [q14] at h; refine q2s (fun (a_6 : (List GOut)) => q13 a_0 mv_0 b_0 cmp_0 self start_3 a_6 = some r) [3, 4, 18, 24] (fun a_6 => ([(0, .osl 0 4 (0) (a_6.length))], [(0, .arr 4 (enc a_6))])) 1 ?_ ?_
      ·
       intro _ Q7; refine sM ?_; refine sB h (fun _ h => ?_) fun _ h => ?_
       · obtain ⟨v_18, ev_18, h⟩ := z8 h; simp only [go_sem]; refine q8i [0] (Hself a_5 a_0 start_3 (i64.wrap (q1x .u64 (IntKind.u64.wrap (i64.wrap (a_0 + b_0))) 1)) cmp_0 g_cmp_0 c_cmp_0 F_cmp_0 E_cmp_0 H_cmp_0 v_18 ev_18) (by simp) (by simp only [q5e, q21, q47 F_cmp_0] <;> rfl) ⟨rfl, trivial⟩ (by simp only [ltL, ltA, q54 F_cmp_0] <;> rfl) rfl rfl rfl ?_; obtain ⟨F, h⟩ := bG F h; simp only [go_sem, F]; refine u6 Q7 (⟨v_18, [], ?_, h⟩); exact leA
       · refine y5 (u6 Q7 (⟨a_5, [], ?_, h⟩)); exact leA
      ·
       rintro a_6 h
       try dsimp only at h
       rw [q13] at h; refine sM ?_; refine sB h (fun _ h => ?_) fun _ h => ?_
       · obtain ⟨v_17, ev_17, h⟩ := z8 h; simp only [go_sem]; refine q8i [0] (Hself a_6 (i64.wrap (q1x .u64 (IntKind.u64.wrap (i64.wrap (a_0 + b_0))) 1)) (i64.wrap ((i64.wrap ((i64.wrap (q1x .u64 (IntKind.u64.wrap (i64.wrap (a_0 + b_0))) 1)) + mv_0)) - start_3)) b_0 cmp_0 g_cmp_0 c_cmp_0 F_cmp_0 E_cmp_0 H_cmp_0 v_17 ev_17) (by simp) (by simp only [q5e, q21, q47 F_cmp_0] <;> rfl) ⟨rfl, trivial⟩ (by simp only [ltL, ltA, q54 F_cmp_0] <;> rfl) rfl rfl rfl ?_; obtain ⟨F, h⟩ := bG F h; simp only [go_sem, F]; obtain rfl := Option.some.inj h; refine q62 [] ?_; exact leA
       · refine y5 ?_; simp only [go_sem]; obtain rfl := Option.some.inj h; refine q62 [] ?_; exact leA
theorem q5r : ∀ (n : Nat) (data_0 : List GOut) (a_0 : Int) (mv_0 : Int) (b_0 : Int) (cmp_0 : GOut → GOut → Option Int) (g_cmp_0 : FuncId) (c_cmp_0 : List AV) (F_cmp_0 : q06 c_cmp_0 = true) (E_cmp_0 : x8 pp g_cmp_0 = true) (H_cmp_0 : ∀ (x0 : GOut) (x1 : GOut) (r : Int), cmp_0 x0 x1 = some r → PureS pp g_cmp_0 ([.agg (Row.row x0), .agg (Row.row x1)] ++ c_cmp_0) 0 (.v (.int .i64 r))) (r : List GOut), q02 n data_0 a_0 mv_0 b_0 cmp_0 = some r → DetS pp 103 [.osl 0 4 (0) (data_0.length), .v (.int .i64 a_0), .v (.int .i64 mv_0), .v (.int .i64 b_0), .clo g_cmp_0 c_cmp_0] [(0, .arr 4 (enc data_0))] 1 (.tup []) [(0, .arr 4 (enc r))] 1
  | 0, data_0, a_0, mv_0, b_0, cmp_0, g_cmp_0, c_cmp_0, F_cmp_0, E_cmp_0, H_cmp_0, r, h => by simp [q02] at h
  | n + 1, data_0, a_0, mv_0, b_0, cmp_0, g_cmp_0, c_cmp_0, F_cmp_0, E_cmp_0, H_cmp_0, r, h => q9y (q02 n) (q5r n) data_0 a_0 mv_0 b_0 cmp_0 g_cmp_0 c_cmp_0 F_cmp_0 E_cmp_0 H_cmp_0 r h
theorem q64 (data_0 : List GOut) (a_0 : Int) (mv_0 : Int) (b_0 : Int) (cmp_0 : GOut → GOut → Option Int) (g_cmp_0 : FuncId) (c_cmp_0 : List AV) (F_cmp_0 : q06 c_cmp_0 = true) (E_cmp_0 : x8 pp g_cmp_0 = true) (H_cmp_0 : ∀ (x0 : GOut) (x1 : GOut) (r : Int), cmp_0 x0 x1 = some r → PureS pp g_cmp_0 ([.agg (Row.row x0), .agg (Row.row x1)] ++ c_cmp_0) 0 (.v (.int .i64 r))) (r : List GOut) (h : q33 data_0 a_0 mv_0 b_0 cmp_0 = some r) : DetS pp 103 [.osl 0 4 (0) (data_0.length), .v (.int .i64 a_0), .v (.int .i64 mv_0), .v (.int .i64 b_0), .clo g_cmp_0 c_cmp_0] [(0, .arr 4 (enc data_0))] 1 (.tup []) [(0, .arr 4 (enc r))] 1 := q5r rounds data_0 a_0 mv_0 b_0 cmp_0 g_cmp_0 c_cmp_0 F_cmp_0 E_cmp_0 H_cmp_0 r h
def q2v (nv_0 : Int) (cmp_0 : GOut → GOut → Option Int) (blockSize_1 : Int) (rec_2 : (Int × (List GOut) → Option (List GOut))) (a_32 : Int) (a_33 : List GOut) : Option (List GOut) :=
 (if (decide ((i64.wrap (a_32 + blockSize_1)) < nv_0)) = true then q9 (q33 a_33 a_32 (i64.wrap (a_32 + blockSize_1)) nv_0 cmp_0) (fun v_21 =>
 y9 (v_21.length = a_33.length) (
 rec_2 (i64.wrap (blockSize_1 * 2), v_21)))
 else rec_2 (i64.wrap (blockSize_1 * 2), a_33))
def q4h (nv_0 : Int) (cmp_0 : GOut → GOut → Option Int) (blockSize_1 : Int) (rec_2 : (Int × (List GOut) → Option (List GOut))) (rec_4 : Int × Int × (List GOut) → Option (List GOut)) : Int × Int × (List GOut) → Option (List GOut) :=
 fun (a_36, b_13, a_37) =>
 (if (decide (b_13 ≤ nv_0)) = true then q9 (q33 a_37 a_36 (i64.wrap (a_36 + blockSize_1)) b_13 cmp_0) (fun v_24 =>
 y9 (v_24.length = a_37.length) (
 rec_4 (b_13, i64.wrap (b_13 + (i64.wrap (2 * blockSize_1))), v_24)))
 else q2v nv_0 cmp_0 blockSize_1 rec_2 a_36 a_37)
def q2x (nv_0 : Int) (cmp_0 : GOut → GOut → Option Int) (rec_2 : Int × (List GOut) → Option (List GOut)) : Int × (List GOut) → Option (List GOut) :=
 fun (blockSize_1, a_27) =>
 (if (decide (blockSize_1 < nv_0)) = true then u7 (q4h nv_0 cmp_0 blockSize_1 rec_2) rounds (0, i64.wrap (2 * blockSize_1), a_27)
 else some a_27)
def q2w (nv_0 : Int) (cmp_0 : GOut → GOut → Option Int) (a_4 : Int) (a_5 : List GOut) : Option (List GOut) :=
 q9 (q0n a_5 a_4 nv_0 cmp_0) (fun v_3 =>
 y9 (v_3.length = a_5.length) (
 u7 (q2x nv_0 cmp_0) rounds (20, v_3)))
def q4g (nv_0 : Int) (cmp_0 : GOut → GOut → Option Int) (rec_5 : Int × Int × (List GOut) → Option (List GOut)) : Int × Int × (List GOut) → Option (List GOut) :=
 fun (a_40, b_15, a_41) =>
 (if (decide (b_15 ≤ nv_0)) = true then q9 (q0n a_41 a_40 b_15 cmp_0) (fun v_27 =>
 y9 (v_27.length = a_41.length) (
 rec_5 (b_15, i64.wrap (b_15 + 20), v_27)))
 else q2w nv_0 cmp_0 a_40 a_41)
def q3f (data_0 : List GOut) (nv_0 : Int) (cmp_0 : GOut → GOut → Option Int) : Option (List GOut) :=
 u7 (q4g nv_0 cmp_0) rounds (0, 20, data_0)
theorem qf9 (data_0 : List GOut) (nv_0 : Int) (cmp_0 : GOut → GOut → Option Int) (g_cmp_0 : FuncId) (c_cmp_0 : List AV) (F_cmp_0 : q06 c_cmp_0 = true) (E_cmp_0 : x8 pp g_cmp_0 = true) (H_cmp_0 : ∀ (x0 : GOut) (x1 : GOut) (r : Int), cmp_0 x0 x1 = some r → PureS pp g_cmp_0 ([.agg (Row.row x0), .agg (Row.row x1)] ++ c_cmp_0) 0 (.v (.int .i64 r))) (r : List GOut) (h : q3f data_0 nv_0 cmp_0 = some r) : DetS pp 57 [.osl 0 4 (0) (data_0.length), .v (.int .i64 nv_0), .clo g_cmp_0 c_cmp_0] [(0, .arr 4 (enc data_0))] 1 (.tup []) [(0, .arr 4 (enc r))] 1 := by
 refine dtI Tryz.func57 rfl ?_; rw [q3f] at h; have F := trivial; refine sM ?_; refine sM ?_; refine q2s (fun ((a_4, a_5) : Int × (List GOut)) => q2w nv_0 cmp_0 a_4 a_5 = some r) [1, 2, 6] (fun x => ([(0, .osl 0 4 (0) (x.2.length)), (7, .v (.int .i64 x.1))], [(0, .arr 4 (enc x.2))])) 1 ?_ ?_
 ·
  intro _ Q21; refine w9 fun _ Q22 => ?_; refine q0a h [1, 2, 6] (fun x => ([(0, .osl 0 4 (0) (x.2.2.length)), (7, .v (.int .i64 x.1)), (8, .v (.int .i64 x.2.1))], [(0, .arr 4 (enc x.2.2))])) 1 ?_; rintro m_5 ⟨a_40, b_15, a_41⟩ h _ Q23; rw [q4g] at h; refine sg fun _ Q24 => ?_; refine sM ?_; refine sB h (fun _ h => ?_) fun _ h => ?_
  · refine y5 (q8 Q24 (w9 fun _ Q26 => ?_)); refine sg fun _ Q27 => ?_; obtain ⟨v_27, ev_27, h⟩ := z8 h; simp only [go_sem]; refine q8i [0] (q58 a_41 a_40 b_15 cmp_0 g_cmp_0 c_cmp_0 F_cmp_0 E_cmp_0 H_cmp_0 v_27 ev_27) (by simp) (by simp only [q5e, q21, q47 F_cmp_0] <;> rfl) ⟨rfl, trivial⟩ (by simp only [ltL, ltA, q54 F_cmp_0] <;> rfl) rfl rfl rfl ?_; obtain ⟨F, h⟩ := bG F h; simp only [go_sem, F]; refine q8 Q27 (sM ?_); simp only [go_sem]; refine q0b Q26 (u6 Q23 ?_); exact nxC _ h [] leA
  · refine q11 (q1g Q24 (q12 Q23 (q0s Q22 (u6 Q21 (⟨(a_40, a_41), [], ?_, h⟩))))); exact leA
 ·
  rintro ⟨a_4, a_5⟩ h
  try dsimp only at h
  rw [q2w] at h; refine sg fun _ Q3 => ?_; obtain ⟨v_3, ev_3, h⟩ := z8 h; simp only [go_sem]; refine q8i [0] (q58 a_5 a_4 nv_0 cmp_0 g_cmp_0 c_cmp_0 F_cmp_0 E_cmp_0 H_cmp_0 v_3 ev_3) (by simp) (by simp only [q5e, q21, q47 F_cmp_0] <;> rfl) ⟨rfl, trivial⟩ (by simp only [ltL, ltA, q54 F_cmp_0] <;> rfl) rfl rfl rfl ?_; obtain ⟨F, h⟩ := bG F h; simp only [go_sem, F]; refine q8 Q3 (w9 fun _ Q4 => ?_); refine q0a h [1, 2] (fun x => ([(0, .osl 0 4 (0) (x.2.length)), (6, .v (.int .i64 x.1))], [(0, .arr 4 (enc x.2))])) 1 ?_; rintro m_2 ⟨blockSize_1, a_27⟩ h _ Q5; rw [q2x] at h; refine sg fun _ Q6 => ?_; refine sM ?_; refine sB h (fun _ h => ?_) fun _ h => ?_
  ·
   refine y5 (q8 Q6 (w9 fun _ Q8 => ?_)); refine sM ?_; refine q2s (fun ((a_32, a_33) : Int × (List GOut)) => q2v nv_0 cmp_0 blockSize_1 (u7 (q2x nv_0 cmp_0) m_2) a_32 a_33 = some r) [1, 2, 6] (fun x => ([(0, .osl 0 4 (0) (x.2.length)), (7, .v (.int .i64 x.1))], [(0, .arr 4 (enc x.2))])) 1 ?_ ?_
   ·
    intro _ Q13; refine w9 fun _ Q14 => ?_; refine q0a h [1, 2, 6] (fun x => ([(0, .osl 0 4 (0) (x.2.2.length)), (7, .v (.int .i64 x.1)), (8, .v (.int .i64 x.2.1))], [(0, .arr 4 (enc x.2.2))])) 1 ?_; rintro m_4 ⟨a_36, b_13, a_37⟩ h _ Q15; rw [q4h] at h; refine sg fun _ Q16 => ?_; refine sM ?_; refine sB h (fun _ h => ?_) fun _ h => ?_
    · refine y5 (q8 Q16 (w9 fun _ Q18 => ?_)); refine sg fun _ Q19 => ?_; obtain ⟨v_24, ev_24, h⟩ := z8 h; simp only [go_sem]; refine q8i [0] (q64 a_37 a_36 (i64.wrap (a_36 + blockSize_1)) b_13 cmp_0 g_cmp_0 c_cmp_0 F_cmp_0 E_cmp_0 H_cmp_0 v_24 ev_24) (by simp) (by simp only [q5e, q21, q47 F_cmp_0] <;> rfl) ⟨rfl, trivial⟩ (by simp only [ltL, ltA, q54 F_cmp_0] <;> rfl) rfl rfl rfl ?_; obtain ⟨F, h⟩ := bG F h; simp only [go_sem, F]; refine q8 Q19 (sM ?_); simp only [go_sem]; refine q0b Q18 (u6 Q15 ?_); exact nxC _ h [] leA
    · refine q11 (q1g Q16 (q12 Q15 (q0s Q14 (u6 Q13 (⟨(a_36, a_37), [], ?_, h⟩))))); exact leA
   ·
    rintro ⟨a_32, a_33⟩ h
    try dsimp only at h
    rw [q2v] at h; refine jg fun _ Q10 => ?_; refine sM ?_; refine sM ?_; refine sB h (fun _ h => ?_) fun _ h => ?_
    · obtain ⟨v_21, ev_21, h⟩ := z8 h; simp only [go_sem]; refine q8i [0] (q64 a_33 a_32 (i64.wrap (a_32 + blockSize_1)) nv_0 cmp_0 g_cmp_0 c_cmp_0 F_cmp_0 E_cmp_0 H_cmp_0 v_21 ev_21) (by simp) (by simp only [q5e, q21, q47 F_cmp_0] <;> rfl) ⟨rfl, trivial⟩ (by simp only [ltL, ltA, q54 F_cmp_0] <;> rfl) rfl rfl rfl ?_; obtain ⟨F, h⟩ := bG F h; simp only [go_sem, F]; refine q8 Q10 ?_; simp only [go_sem]; refine q0b Q8 (u6 Q5 ?_); exact nxC _ h [] leA
    · refine y5 (q8 Q10 ?_); simp only [go_sem]; refine q0b Q8 (u6 Q5 ?_); exact nxC _ h [] leA
  · refine q11 (q1g Q6 (q12 Q5 (q0s Q4 ?_))); simp only [go_sem]; obtain rfl := Option.some.inj h; refine q62 [] ?_; exact leA
def q27 (xv_0 : List GOut) (cmp_0 : GOut → GOut → Option Int) : Option (List GOut) :=
 q9 (q3f xv_0 (xv_0.length : Int) cmp_0) (fun v_0 =>
 y9 (v_0.length = xv_0.length) (
 some v_0))
theorem qe2 (xv_0 : List GOut) (cmp_0 : GOut → GOut → Option Int) (g_cmp_0 : FuncId) (c_cmp_0 : List AV) (F_cmp_0 : q06 c_cmp_0 = true) (E_cmp_0 : x8 pp g_cmp_0 = true) (H_cmp_0 : ∀ (x0 : GOut) (x1 : GOut) (r : Int), cmp_0 x0 x1 = some r → PureS pp g_cmp_0 ([.agg (Row.row x0), .agg (Row.row x1)] ++ c_cmp_0) 0 (.v (.int .i64 r))) (r : List GOut) (h : q27 xv_0 cmp_0 = some r) : DetS pp 20 [.osl 0 4 (0) (xv_0.length), .clo g_cmp_0 c_cmp_0] [(0, .arr 4 (enc xv_0))] 1 (.tup []) [(0, .arr 4 (enc r))] 1 := by
 refine dtI Tryz.func20 rfl ?_; rw [q27] at h; have F := trivial; obtain ⟨v_0, ev_0, h⟩ := z8 h; simp only [go_sem]; refine q8i [0] (qf9 xv_0 (xv_0.length : Int) cmp_0 g_cmp_0 c_cmp_0 F_cmp_0 E_cmp_0 H_cmp_0 v_0 ev_0) (by simp) (by simp only [q5e, q21, q47 F_cmp_0] <;> rfl) ⟨rfl, trivial⟩ (by simp only [ltL, ltA, q54 F_cmp_0] <;> rfl) rfl rfl rfl ?_; obtain ⟨F, h⟩ := bG F h; simp only [go_sem, F]; obtain rfl := Option.some.inj h; refine q62 [] ?_; exact leA
def qa0 (s_0 : List GFeed) (f_0 : GFeed → Option Bool) (rec_1 : Int → Option Int) : Int → Option Int :=
 fun t8_1 =>
 (if (decide (t8_1 < (s_0.length : Int))) = true then q9 (idx s_0 t8_1) (fun xv_2 =>
 q9 (f_0 xv_2) (fun v_2 =>
 (if v_2 = true then some t8_1
 else rec_1 (i64.wrap (t8_1 + 1)))))
 else some (-1))
def q7q (s_0 : List GFeed) (f_0 : GFeed → Option Bool) : Option Int :=
 u7 (qa0 s_0 f_0) rounds 0
theorem qt4 (s_0 : List GFeed) (f_0 : GFeed → Option Bool) (g_f_0 : FuncId) (c_f_0 : List AV) (F_f_0 : q06 c_f_0 = true) (E_f_0 : x8 pp g_f_0 = true) (H_f_0 : ∀ (x0 : GFeed) (r : Bool), f_0 x0 = some r → PureS pp g_f_0 ([.agg (Row.row x0)] ++ c_f_0) 0 (.v (.bool r))) (r : Int) (h : q7q s_0 f_0 = some r) : PureS pp 87 [.sl 4 (enc s_0), .clo g_f_0 c_f_0] 0 (.v (.int .i64 r)) := by
 refine ptI Tryz.func87 rfl ?_; rw [q7q] at h; have F := trivial; refine sM ?_; refine jg fun _ Q2 => ?_; refine sM ?_; refine w9 fun _ Q4 => ?_; refine q0a h [0, 1, 7] (fun t8_1 => ([(8, .v (.int .i64 t8_1))], [])) 0 ?_; rintro m_1 t8_1 h _ Q5; rw [qa0] at h; refine sM ?_; refine sg fun _ Q7 => ?_; refine sB h (fun _ h => ?_) fun _ h => ?_
 ·
  refine y5 (q8 Q7 (sg fun _ Q8 => ?_)); refine w9 fun _ Q9 => ?_; refine sM ?_; refine sg fun _ Q11 => ?_; obtain ⟨xv_2, F, h⟩ := bI F h; obtain ⟨v_2, ev_2, h⟩ := z8 h; simp only [go_sem, E_f_0, F]; refine ai ?_; refine q8j (H_f_0 xv_2 v_2 ev_2) (by rfl) (by simp [go_sem, q06, q0d, F_f_0]) ?_; simp only [go_sem]; refine q8 Q11 (sB h (fun _ h => ?_) fun _ h => ?_)
  · refine sM ?_; refine q05 (q0o Q9 (q0q Q8 (q2t Q5 (q0o Q4 (q0q Q2 ?_))))); simp only [go_sem]; obtain rfl := Option.some.inj h; refine q45 rfl ?_; exact leA
  · refine y5 (q0b Q9 (q8 Q8 ?_)); simp only [go_sem]; refine u6 Q5 ?_; exact nxC _ h [] leA
 · refine q11 (q1g Q7 (q12 Q5 (q0s Q4 (q8 Q2 (sM ?_))))); refine q05 ?_; simp only [go_sem]; obtain rfl := Option.some.inj h; refine q45 rfl ?_; exact leA
def q4y (s_0 : List GFeed) (f_0 : GFeed → Option Bool) : Option Bool :=
 q9 (q7q s_0 f_0) (fun v_0 =>
 some (decide (0 ≤ v_0)))
theorem qo8 (s_0 : List GFeed) (f_0 : GFeed → Option Bool) (g_f_0 : FuncId) (c_f_0 : List AV) (F_f_0 : q06 c_f_0 = true) (E_f_0 : x8 pp g_f_0 = true) (H_f_0 : ∀ (x0 : GFeed) (r : Bool), f_0 x0 = some r → PureS pp g_f_0 ([.agg (Row.row x0)] ++ c_f_0) 0 (.v (.bool r))) (r : Bool) (h : q4y s_0 f_0 = some r) : PureS pp 47 [.sl 4 (enc s_0), .clo g_f_0 c_f_0] 0 (.v (.bool r)) := by
 refine ptI Tryz.func47 rfl ?_; rw [q4y] at h; have F := trivial; refine sM ?_; refine sg fun _ Q2 => ?_; obtain ⟨v_0, ev_0, h⟩ := z8 h; simp only [go_sem]; refine q8j (qt4 s_0 f_0 g_f_0 c_f_0 F_f_0 E_f_0 H_f_0 v_0 ev_0) (by rfl) (by simp [go_sem, q06, q0d, F_f_0]) ?_; simp only [go_sem]; refine q8 Q2 (q05 ?_); simp only [go_sem]; obtain rfl := Option.some.inj h; refine q45 rfl ?_; exact leA
def q8q (f_0 : GFeed) (cap_0 : GGraph) : Option Bool :=
 (if ((decide (f_0.Node < 0)) || (decide ((cap_0.Nodes.length : Int) ≤ f_0.Node))) = true then some true
 else q9 (idx cap_0.Nodes f_0.Node) (fun xv_0 =>
 some (((!(xv_0.Kind == 1)) || (decide (f_0.Epoch < 0))) || (decide (1048576 < f_0.Epoch)))))
instance z2y (f_0 : GFeed) (cap_0 : GGraph) : Ct pp 48 (q8q f_0 cap_0) [.agg (Row.row f_0), .el 4 [(Row.row cap_0)] 0 0] fun r => (.v (.bool r)) := ctI Tryz.func48 rfl (by rw [q8q]; exact au1)
def qd7 (g_0 : GGraph) (feeds_0 : List GFeed) (most_0 : Int) : Option Bool :=
 q9 (q7w g_0) (fun v_0 =>
 (if (((!(v_0.1 == 0)) || (decide (most_0 < 0))) || (decide (1048576 < most_0))) = true then some false
 else q9 (q4y feeds_0 (fun x0_ => q8q x0_ g_0)) (fun v_1 =>
 some (!v_1))))
instance zz5 (g_0 : GGraph) (feeds_0 : List GFeed) (most_0 : Int) : Ct pp 16 (qd7 g_0 feeds_0 most_0) [.agg (Row.row g_0), .sl 4 (enc feeds_0), .v (.int .i64 most_0)] fun r => (.v (.bool r)) := ctK Tryz.func16 rfl (by rw [qd7]) (by
 intro r h F; refine sM ?_; refine sg fun _ Q2 => ?_; refine sg fun _ Q3 => ?_; simp only [go_sem]; refine q1s h fun v_0 h => ?_; simp only [go_sem]; refine q8 Q3 (sM ?_); refine sB h (fun _ h => ?_) fun _ h => ?_
 · exact au
 · refine y5 (q8 Q2 (sg fun _ Q6 => ?_)); obtain ⟨v_1, ev_1, h⟩ := z8 h; simp only [go_sem]; refine qi7 (qo8 feeds_0 (fun x0_ => q8q x0_ g_0) 48 [.el 4 [(Row.row g_0)] 0 0] (by rfl) (by kernel_rfl) (fun y0 r_ e_ => z2y y0 g_0 r_ e_) v_1 ev_1) ?_; simp only [go_sem]; exact au)
def q77 (a_0 : GOut) (b_0 : GOut) : Option Int :=
 q9 (q4j a_0.Node b_0.Node) (fun v_0 =>
 q9 (q4j a_0.Epoch b_0.Epoch) (fun v_1 =>
 q9 (q8u ([v_0, v_1] : List Int)) (fun v_2 =>
 some v_2)))
instance z5h (a_0 : GOut) (b_0 : GOut) : Ct pp 21 (q77 a_0 b_0) [.agg (Row.row a_0), .agg (Row.row b_0)] fun r => (.v (.int .i64 r)) := ctK Tryz.func21 rfl (by rw [q77]) (by
 intro r h F; refine sM ?_; refine sg fun _ Q2 => ?_; refine p9 ?_; refine j4u ?_; obtain ⟨v_0, ev_0, h⟩ := z8 h; simp only [go_sem]; refine callq (fun _ => (z0z a_0.Node b_0.Node v_0 ev_0)) (by rfl) (by rfl) ?_; simp only [go_sem]; refine q1s h fun v_1 h => ?_; have rf_0 : [[.v (.int .i64 v_0)], [.v (.int .i64 v_1)]] = enc ([v_0, v_1] : List Int) := by rfl
 obtain ⟨v_2, ev_2, h⟩ := z8 h; simp only [go_sem]; simp only [rf_0]; refine qi7 (qy4 ([v_0, v_1] : List Int) v_2 ev_2) ?_; simp only [go_sem]; exact au)
end Go.Proofs.YtghbgjnmccjhdaaGreat
