/-
  What functions of the program compute, each told as a plain function that may give nothing, with the proof that the code does so. No condition beyond those that each theorem names.
-/
import Derived.Test.YtgegekpefakacaaGreatWalkUS0
import Derived.Test.YtgegekpefakacaaGreatLibI
set_option linter.unusedSimpArgs false
set_option linter.unusedVariables false
set_option linter.unusedSectionVars false
set_option maxHeartbeats 2000000
set_option maxRecDepth 100000
namespace Go.Proofs.YtgegekpefakacaaGreat
open Go Go.RowKit
open Go.IntKind (i64)
def q4d (b_2 : Int) (a_12 : List GItem) (rec_1 : (Int × Int × (List GItem) → Option (Bool × GOps_maker))) (tov_12 : Int) (xv_63 : GItem) (a_15 : List GItem) : Option (Bool × GOps_maker) :=
 q9 (qf0 a_15) (fun v_26 =>
 q9 (q46 v_26 xv_63.Rec.K) (fun v_27 =>
 q9 (q0q (⟨a_12, b_2⟩ : GOps_maker) v_27 1) (fun v_28 =>
 (if (!v_28.1) = true then some (false, v_28.2)
 else rec_1 (tov_12, v_28.2.many, v_28.2.out)))))
def q4f (b_0 : List GItem) (b_2 : Int) (a_12 : List GItem) (rec_1 : (Int × Int × (List GItem) → Option (Bool × GOps_maker))) (tov_12 : Int) (xv_63 : GItem) (rec_5 : Int × (List GItem) → Option (Bool × GOps_maker)) : Int × (List GItem) → Option (Bool × GOps_maker) :=
 fun (t43_11, a_17) =>
 (if (decide (t43_11 < (b_0.length : Int))) = true then q9 (idx b_0 t43_11) (fun xv_75 =>
 (if (xv_75.Rec.K == xv_63.Rec.K) = true then x9 ((a_17.length + List.length ([xv_75] : List GItem)) * 24 ≤ 140737488355328) (
 rec_5 (i64.wrap (t43_11 + 1), (a_17 ++ ([xv_75] : List GItem))))
 else rec_5 (i64.wrap (t43_11 + 1), a_17)))
 else q4d b_2 a_12 rec_1 tov_12 xv_63 a_17)
def q4e (b_0 : List GItem) (b_2 : Int) (a_12 : List GItem) (rec_1 : (Int × Int × (List GItem) → Option (Bool × GOps_maker))) (tov_12 : Int) (xv_63 : GItem) : Option (Bool × GOps_maker) :=
 x8 (q4f b_0 b_2 a_12 rec_1 tov_12 xv_63) rounds (0, [])
def q4c (b_2 : Int) (a_12 : List GItem) (rec_1 : (Int × Int × (List GItem) → Option (Bool × GOps_maker))) (tov_12 : Int) (xv_63 : GItem) (nv_27 : Int) : Option (Bool × GOps_maker) :=
 q9 (q0q (⟨a_12, b_2⟩ : GOps_maker) (⟨xv_63.Rec.K, nv_27⟩ : GRec) 1) (fun v_29 =>
 (if (!v_29.1) = true then some (false, v_29.2)
 else rec_1 (tov_12, v_29.2.many, v_29.2.out)))
def q6w (a_0 : List GItem) (fromv_1 : Int) (b_2 : Int) (a_12 : List GItem) (rec_1 : (Int × Int × (List GItem) → Option (Bool × GOps_maker))) (tov_12 : Int) (xv_63 : GItem) (rec_7 : Int × Int → Option (Bool × GOps_maker)) : Int × Int → Option (Bool × GOps_maker) :=
 fun (nv_29, t19_23) =>
 (if (decide (t19_23 < (List.length (List.drop (fromv_1.toNat) (List.take (tov_12.toNat) a_0)) : Int))) = true then q9 (idx (List.drop (fromv_1.toNat) (List.take (tov_12.toNat) a_0)) t19_23) (fun xv_81 =>
 rec_7 (i64.wrap (nv_29 + xv_81.N), i64.wrap (t19_23 + 1)))
 else q4c b_2 a_12 rec_1 tov_12 xv_63 nv_29)
def q1r (kind_0 : Int) (a_0 : List GItem) (b_0 : List GItem) (fromv_1 : Int) (b_2 : Int) (a_12 : List GItem) (rec_1 : (Int × Int × (List GItem) → Option (Bool × GOps_maker))) (tov_12 : Int) : Option (Bool × GOps_maker) :=
 q9 (idx a_0 fromv_1) (fun xv_63 =>
 x9 (0 ≤ fromv_1 ∧ fromv_1 ≤ tov_12 ∧ tov_12 ≤ (a_0.length : Int)) (
 (if (kind_0 == 7) = true then x8 (q6w a_0 fromv_1 b_2 a_12 rec_1 tov_12 xv_63) rounds (0, 0)
 else (if (kind_0 == 6) = true then q9 (qf0 (List.drop (fromv_1.toNat) (List.take (tov_12.toNat) a_0))) (fun v_30 =>
 q9 (q46 v_30 xv_63.Rec.K) (fun v_31 =>
 q9 (q0q (⟨a_12, b_2⟩ : GOps_maker) v_31 1) (fun v_32 =>
 (if (!v_32.1) = true then some (false, v_32.2)
 else rec_1 (tov_12, v_32.2.many, v_32.2.out)))))
 else q4e b_0 b_2 a_12 rec_1 tov_12 xv_63))))
def qb1 (kind_0 : Int) (a_0 : List GItem) (b_0 : List GItem) (fromv_1 : Int) (b_2 : Int) (a_12 : List GItem) (rec_1 : (Int × Int × (List GItem) → Option (Bool × GOps_maker))) (rec_8 : Int → Option (Bool × GOps_maker)) : Int → Option (Bool × GOps_maker) :=
 fun tov_14 =>
 (if (decide (tov_14 < (a_0.length : Int))) = true then q9 (idx a_0 tov_14) (fun xv_85 =>
 q9 (idx a_0 fromv_1) (fun xv_86 =>
 (if (xv_85.Rec.K == xv_86.Rec.K) = true then rec_8 (i64.wrap (tov_14 + 1))
 else q1r kind_0 a_0 b_0 fromv_1 b_2 a_12 rec_1 tov_14)))
 else q1r kind_0 a_0 b_0 fromv_1 b_2 a_12 rec_1 tov_14)
def q14 (kind_0 : Int) (a_0 : List GItem) (b_0 : List GItem) (rec_1 : Int × Int × (List GItem) → Option (Bool × GOps_maker)) : Int × Int × (List GItem) → Option (Bool × GOps_maker) :=
 fun (fromv_1, b_2, a_12) =>
 (if (decide (fromv_1 < (a_0.length : Int))) = true then x8 (qb1 kind_0 a_0 b_0 fromv_1 b_2 a_12 rec_1) rounds fromv_1
 else some (true, (⟨a_12, b_2⟩ : GOps_maker)))
def q3k (mv_0 : GOps_maker) (kind_0 : Int) (a_0 : List GItem) (b_0 : List GItem) : Option (Bool × GOps_maker) :=
 x8 (q14 kind_0 a_0 b_0) rounds (0, mv_0.many, mv_0.out)
theorem qv1 (mv_0 : GOps_maker) (kind_0 : Int) (a_0 : List GItem) (b_0 : List GItem)  (r : Bool × GOps_maker) (h : q3k mv_0 kind_0 a_0 b_0 = some r) : DetS pp 103 [.ptr 0 0, .v (.int .i64 kind_0), .sl 3 (enc a_0), .sl 3 (enc b_0)] [(0, .box [.osl 1 3 (0) (mv_0.out.length), .v (.int .i64 mv_0.many)]), (1, .arr 3 (enc mv_0.out))] 2 (.v (.bool r.1)) [(0, .box [.osl 2 3 (0) (r.2.out.length), .v (.int .i64 r.2.many)]), (2, .arr 3 (enc r.2.out))] 3 := by
 refine dtI Tryz.func103 rfl ?_; rw [q3k] at h; have F := trivial; refine sM ?_; refine sg fun _ Q2 => ?_; simp only [go_sem]; refine q95 Tryz.func138 rfl (by kernel_rfl) (by kernel_rfl) ?_; refine sM ?_; refine jg fun _ Q4 => ?_; refine sM ?_; refine w9 fun _ Q6 => ?_; refine d9 h [0, 1] (fun x => ([(5, .v (.int .i64 x.1))], [(0, .box [.osl 5 3 (0) (x.2.2.length), .v (.int .i64 x.2.1)]), (2, .box [.ptr 0 0]), (3, .box [.v (.int .i64 kind_0)]), (4, .box [.sl 3 (enc b_0)]), (5, .arr 3 (enc x.2.2))])) 6 ?_; rintro m_1 ⟨fromv_1, b_2, a_12⟩ h _ Q7; rw [q14] at h; refine sg fun _ Q8 => ?_; refine sM ?_; refine sB h (fun _ h => ?_) fun _ h => ?_
 ·
  refine y5 (q8 Q8 (w9 fun _ Q10 => ?_)); refine sM ?_; refine q1n (fun (tov_12 : Int) => q1r kind_0 a_0 b_0 fromv_1 b_2 a_12 (x8 (q14 kind_0 a_0 b_0) m_1) tov_12 = some r) [0, 1, 5] (fun tov_12 => ([(6, .v (.int .i64 tov_12))], [(0, .box [.osl 5 3 (0) (a_12.length), .v (.int .i64 b_2)]), (2, .box [.ptr 0 0]), (3, .box [.v (.int .i64 kind_0)]), (4, .box [.sl 3 (enc b_0)]), (5, .arr 3 (enc a_12))])) 6 ?_ ?_
  ·
   intro _ Q47; refine w9 fun _ Q48 => ?_; refine d9 h [0, 1, 5] (fun tov_14 => ([(6, .v (.int .i64 tov_14))], [(0, .box [.osl 5 3 (0) (a_12.length), .v (.int .i64 b_2)]), (2, .box [.ptr 0 0]), (3, .box [.v (.int .i64 kind_0)]), (4, .box [.sl 3 (enc b_0)]), (5, .arr 3 (enc a_12))])) 6 ?_; rintro m_8 tov_14 h _ Q49; rw [qb1] at h; refine sg fun _ Q50 => ?_; refine sg fun _ Q51 => ?_; refine q02 ?_; refine j9m ?_; simp only [go_sem]; rcases hb_130 : (decide (tov_14 < (a_0.length : Int))) with _ | _
   · replace h := q1m h hb_130; simp only [go_sem, hb_130]; exact au
   · replace h := q1l h hb_130; obtain ⟨xv_85, F, h⟩ := bI F h; obtain ⟨xv_86, F, h⟩ := bI F h; simp only [go_sem, hb_130, F]; refine ai ?_; refine ai ?_; exact au
  ·
   rintro tov_12 h
   try dsimp only at h
   rw [q1r] at h; refine sg fun _ Q12 => ?_; refine sg fun _ Q13 => ?_; refine q02 ?_; refine j9m ?_; obtain ⟨xv_63, F, h⟩ := bI F h; obtain ⟨F, h⟩ := bG F h; simp only [go_sem, F]; refine ai ?_; refine q95 Tryz.func141 rfl (by kernel_rfl) (by kernel_rfl) ?_; refine sM ?_; refine q1n (fun (_ : Unit) => q4e b_0 b_2 a_12 (x8 (q14 kind_0 a_0 b_0) m_1) tov_12 xv_63 = some r) [0, 3, 4] (fun _ => ([], [(0, .box [.osl 5 3 (0) (a_12.length), .v (.int .i64 b_2)]), (2, .box [.ptr 0 0]), (3, .box [.v (.int .i64 kind_0)]), (4, .box [.sl 3 (enc b_0)]), (5, .arr 3 (enc a_12))])) 6 ?_ ?_
   ·
    intro _ Q28; refine sM ?_; refine w9 fun _ Q30 => ?_; refine sM ?_; refine sB h (fun _ h => ?_) fun _ h => ?_
    ·
     refine sM ?_; refine q1n (fun (nv_27 : Int) => q4c b_2 a_12 (x8 (q14 kind_0 a_0 b_0) m_1) tov_12 xv_63 nv_27 = some r) [0, 3] (fun nv_27 => ([(8, .v (.int .i64 nv_27))], [(0, .box [.osl 5 3 (0) (a_12.length), .v (.int .i64 b_2)]), (2, .box [.ptr 0 0]), (3, .box [.v (.int .i64 kind_0)]), (4, .box [.sl 3 (enc b_0)]), (5, .arr 3 (enc a_12))])) 6 ?_ ?_
     · intro _ Q35; refine sM ?_; refine w9 fun _ Q37 => ?_; refine d9 h [0, 3, 17, 18] (fun x => ([(8, .v (.int .i64 x.1)), (19, .v (.int .i64 x.2))], [(0, .box [.osl 5 3 (0) (a_12.length), .v (.int .i64 b_2)]), (2, .box [.ptr 0 0]), (3, .box [.v (.int .i64 kind_0)]), (4, .box [.sl 3 (enc b_0)]), (5, .arr 3 (enc a_12))])) 6 ?_; rintro m_7 ⟨nv_29, t19_23⟩ h _ Q38; rw [q6w] at h; exact au
     ·
      rintro nv_27 h
      try dsimp only at h
      rw [q4c] at h; refine sg fun _ Q33 => ?_; obtain ⟨v_29, ev_29, h⟩ := z8 h; simp only [go_sem]; refine q0b [0, 5] (q2h (⟨a_12, b_2⟩ : GOps_maker) (⟨xv_63.Rec.K, nv_27⟩ : GRec) 1 v_29 ev_29) ?_; simp only [go_sem]; refine q8 Q33 (q04 (q0h Q30 (q2n Q28 ?_))); simp only [go_sem]; refine q1s [some 6] [(0, .box [.osl 6 3 (0) (v_29.2.out.length), .v (.int .i64 v_29.2.many)]), (2, .box [.ptr 0 0]), (3, .box [.v (.int .i64 kind_0)]), (4, .box [.sl 3 (enc b_0)]), (6, .arr 3 (enc v_29.2.out))] 7 (.v (.bool v_29.1)) ?_ ?_
      · exact leA
      refine q2l ?_; simp only [go_sem]; refine q8 Q13 (sB h (fun _ h => ?_) fun _ h => ?_)
      ·
       refine sM ?_; refine q04 (q0m Q12 (q0h Q10 (q2n Q7 (q0h Q6 (q0m Q4 ?_))))); simp only [go_sem]; refine q1s [some 6] [(0, .box [.osl 5 3 (0) (v_29.2.out.length), .v (.int .i64 v_29.2.many)]), (2, .box [.ptr 0 0]), (3, .box [.v (.int .i64 kind_0)]), (4, .box [.sl 3 (enc b_0)]), (5, .arr 3 (enc v_29.2.out))] 6 (.v (.bool false)) ?_ ?_
       · exact leA
       refine q2l ?_; simp only [go_sem]; exact au
      · exact au
    ·
     refine sM ?_; refine sB h (fun _ h => ?_) fun _ h => ?_
     ·
      refine sg fun _ Q45 => ?_; refine q02 ?_; refine j9m ?_; obtain ⟨v_30, ev_30, h⟩ := z8 h; simp only [go_sem]; refine callq (fun _ => (z6m (List.drop (fromv_1.toNat) (List.take (tov_12.toNat) a_0)) v_30 ev_30)) (by rfl) (by rfl) ?_; obtain ⟨v_31, ev_31, h⟩ := z8 h; simp only [go_sem]; refine callq (fun _ => (qx3 v_30 xv_63.Rec.K v_31 ev_31)) (by rfl) (by rfl) ?_; obtain ⟨v_32, ev_32, h⟩ := z8 h; simp only [go_sem]; refine q0b [0, 5] (q2h (⟨a_12, b_2⟩ : GOps_maker) v_31 1 v_32 ev_32) ?_; simp only [go_sem]; refine q8 Q45 (q04 (q0h Q30 (q2n Q28 ?_))); simp only [go_sem]; refine q1s [some 6] [(0, .box [.osl 6 3 (0) (v_32.2.out.length), .v (.int .i64 v_32.2.many)]), (2, .box [.ptr 0 0]), (3, .box [.v (.int .i64 kind_0)]), (4, .box [.sl 3 (enc b_0)]), (6, .arr 3 (enc v_32.2.out))] 7 (.v (.bool v_32.1)) ?_ ?_
      · exact leA
      refine q2l ?_; simp only [go_sem]; refine q8 Q13 (sB h (fun _ h => ?_) fun _ h => ?_)
      ·
       refine sM ?_; refine q04 (q0m Q12 (q0h Q10 (q2n Q7 (q0h Q6 (q0m Q4 ?_))))); simp only [go_sem]; refine q1s [some 6] [(0, .box [.osl 5 3 (0) (v_32.2.out.length), .v (.int .i64 v_32.2.many)]), (2, .box [.ptr 0 0]), (3, .box [.v (.int .i64 kind_0)]), (4, .box [.sl 3 (enc b_0)]), (5, .arr 3 (enc v_32.2.out))] 6 (.v (.bool false)) ?_ ?_
       · exact leA
       refine q2l ?_; simp only [go_sem]; exact au
      · exact au
     · exact au
   ·
    rintro ⟨⟩ h
    try dsimp only at h
    rw [q4e] at h; refine sM ?_; refine q1n (fun (a_15 : (List GItem)) => q4d b_2 a_12 (x8 (q14 kind_0 a_0 b_0) m_1) tov_12 xv_63 a_15 = some r) [0, 3] (fun a_15 => ([(11, .osl 6 3 (0) (a_15.length))], [(0, .box [.osl 5 3 (0) (a_12.length), .v (.int .i64 b_2)]), (2, .box [.ptr 0 0]), (3, .box [.v (.int .i64 kind_0)]), (4, .box [.sl 3 (enc b_0)]), (5, .arr 3 (enc a_12)), (6, .arr 3 (enc a_15))])) 7 ?_ ?_
    ·
     intro _ Q18; refine sM ?_; refine w9 fun _ Q20 => ?_; refine d9 h [0, 3, 41, 42] (fun x => ([(11, .osl 6 3 (0) (x.2.length)), (43, .v (.int .i64 x.1))], [(0, .box [.osl 5 3 (0) (a_12.length), .v (.int .i64 b_2)]), (2, .box [.ptr 0 0]), (3, .box [.v (.int .i64 kind_0)]), (4, .box [.sl 3 (enc b_0)]), (5, .arr 3 (enc a_12)), (6, .arr 3 (enc x.2))])) 7 ?_; rintro m_5 ⟨t43_11, a_17⟩ h _ Q21; rw [q4f] at h; refine sM ?_; refine sg fun _ Q23 => ?_; refine sB h (fun _ h => ?_) fun _ h => ?_
     ·
      refine y5 (q8 Q23 (jg fun _ Q24 => ?_)); refine w9 fun _ Q25 => ?_; refine sg fun _ Q26 => ?_; obtain ⟨xv_75, F, h⟩ := bI F h; simp only [go_sem, F]; refine ai ?_; refine q8 Q26 (sM ?_); refine sB h (fun _ h => ?_) fun _ h => ?_
      ·
       have rf_28 : [[.v (.int .i64 xv_75.Rec.K), .v (.int .i64 xv_75.Rec.V), .v (.int .i64 xv_75.N)]] = enc ([xv_75] : List GItem) := by rfl
       obtain ⟨g_20, h⟩ := q0v h; have F := And.intro F g_20; simp only [List.length_cons, List.length_nil, Nat.zero_add, List.length_append] at g_20; have rf_29 : enc a_17 ++ [[.v (.int .i64 xv_75.Rec.K), .v (.int .i64 xv_75.Rec.V), .v (.int .i64 xv_75.N)]] = enc (a_17 ++ ([xv_75] : List GItem)) := by exact (q6f a_17 ([xv_75] : List GItem)).symm
       simp only [go_sem, g_20, rf_29]; simp only [rf_28]; exact au
      · exact au
     · exact au
    ·
     rintro a_15 h
     try dsimp only at h
     rw [q4d] at h; refine sg fun _ Q16 => ?_; refine q02 ?_; refine z9j (s' := (⟨6, [(0, .v (.int .i64 xv_63.Rec.K)), (3, .ptr 2 0), (11, .sl 3 (enc a_15))], [(0, .box [.osl 5 3 (0) (a_12.length), .v (.int .i64 b_2)]), (2, .box [.ptr 0 0]), (3, .box [.v (.int .i64 kind_0)]), (4, .box [.sl 3 (enc b_0)]), (5, .arr 3 (enc a_12))], 6, 63⟩ : St)) (l := []) ?_ ?_
     · exact leA
     refine j9m ?_; obtain ⟨v_26, ev_26, h⟩ := z8 h; simp only [go_sem]; refine callq (fun _ => (z6m a_15 v_26 ev_26)) (by rfl) (by rfl) ?_; obtain ⟨v_27, ev_27, h⟩ := z8 h; simp only [go_sem]; refine callq (fun _ => (qx3 v_26 xv_63.Rec.K v_27 ev_27)) (by rfl) (by rfl) ?_; obtain ⟨v_28, ev_28, h⟩ := z8 h; simp only [go_sem]; refine q0b [0, 5] (q2h (⟨a_12, b_2⟩ : GOps_maker) v_27 1 v_28 ev_28) ?_; simp only [go_sem]; refine q8 Q16 (q04 ?_); simp only [go_sem]; refine q1s [some 6] [(0, .box [.osl 6 3 (0) (v_28.2.out.length), .v (.int .i64 v_28.2.many)]), (2, .box [.ptr 0 0]), (3, .box [.v (.int .i64 kind_0)]), (4, .box [.sl 3 (enc b_0)]), (6, .arr 3 (enc v_28.2.out))] 7 (.v (.bool v_28.1)) ?_ ?_
     · exact leA
     refine q2l ?_; simp only [go_sem]; refine q8 Q13 (sB h (fun _ h => ?_) fun _ h => ?_)
     ·
      refine sM ?_; refine q04 (q0m Q12 (q0h Q10 (q2n Q7 (q0h Q6 (q0m Q4 ?_))))); simp only [go_sem]; refine q1s [some 6] [(0, .box [.osl 5 3 (0) (v_28.2.out.length), .v (.int .i64 v_28.2.many)]), (2, .box [.ptr 0 0]), (3, .box [.v (.int .i64 kind_0)]), (4, .box [.sl 3 (enc b_0)]), (5, .arr 3 (enc v_28.2.out))] 6 (.v (.bool false)) ?_ ?_
      · exact leA
      refine q2l ?_; simp only [go_sem]; exact au
     · exact au
 ·
  refine q0i (q0r Q8 (q0j Q7 (q0d Q6 (q8 Q4 (sM ?_))))); refine q04 ?_; simp only [go_sem]; refine q1s [some 5] [(0, .box [.osl 5 3 (0) (a_12.length), .v (.int .i64 b_2)]), (2, .box [.ptr 0 0]), (3, .box [.v (.int .i64 kind_0)]), (4, .box [.sl 3 (enc b_0)]), (5, .arr 3 (enc a_12))] 6 (.v (.bool true)) ?_ ?_
  · exact leA
  refine q2l ?_; simp only [go_sem]; exact au
def q5n (b_0 : List GItem) (xv_51 : GItem) (t13_5 : Int) (rec_3 : (Int × Int × (List GItem) → Option (Bool × GOps_maker))) (xv_60 : GItem) (rec_4 : Int × Int × (List GItem) → Option (Bool × GOps_maker)) : Int × Int × (List GItem) → Option (Bool × GOps_maker) :=
 fun (t19_17, b_26, a_26) =>
 (if (decide (t19_17 < (b_0.length : Int))) = true then q9 (idx b_0 t19_17) (fun xv_63 =>
 (if (!(xv_63.Rec.K == xv_51.Rec.K)) = true then rec_4 (i64.wrap (t19_17 + 1), b_26, a_26)
 else (if ((decide (65536 < xv_60.N)) || (decide (65536 < xv_63.N))) = true then some (false, (⟨a_26, b_26⟩ : GOps_maker))
 else q9 (qb0 xv_51.Rec.K xv_60.Rec.V xv_63.Rec.V) (fun v_52 =>
 q9 (q0q (⟨a_26, b_26⟩ : GOps_maker) v_52 (i64.wrap (xv_60.N * xv_63.N))) (fun v_53 =>
 (if (!v_53.1) = true then some (false, v_53.2)
 else rec_4 (i64.wrap (t19_17 + 1), v_53.2.many, v_53.2.out)))))))
 else rec_3 (i64.wrap (t13_5 + 1), b_26, a_26))
def q5o (a_0 : List GItem) (b_0 : List GItem) (fromv_1 : Int) (rec_1 : (Int × Int × (List GItem) → Option (Bool × GOps_maker))) (tov_12 : Int) (xv_51 : GItem) (rec_3 : Int × Int × (List GItem) → Option (Bool × GOps_maker)) : Int × Int × (List GItem) → Option (Bool × GOps_maker) :=
 fun (t13_5, b_24, a_24) =>
 (if (decide (t13_5 < (List.length (List.drop (fromv_1.toNat) (List.take (tov_12.toNat) a_0)) : Int))) = true then q9 (idx (List.drop (fromv_1.toNat) (List.take (tov_12.toNat) a_0)) t13_5) (fun xv_60 =>
 x8 (q5n b_0 xv_51 t13_5 rec_3 xv_60) rounds (0, b_24, a_24))
 else rec_1 (tov_12, b_24, a_24))
def q2g (a_0 : List GItem) (b_0 : List GItem) (fromv_1 : Int) (b_18 : Int) (a_18 : List GItem) (rec_1 : (Int × Int × (List GItem) → Option (Bool × GOps_maker))) (tov_12 : Int) : Option (Bool × GOps_maker) :=
 q9 (idx a_0 fromv_1) (fun xv_51 =>
 x9 (0 ≤ fromv_1 ∧ fromv_1 ≤ tov_12 ∧ tov_12 ≤ (a_0.length : Int)) (
 x8 (q5o a_0 b_0 fromv_1 rec_1 tov_12 xv_51) rounds (0, b_18, a_18)))
def qf1 (a_0 : List GItem) (b_0 : List GItem) (fromv_1 : Int) (b_18 : Int) (a_18 : List GItem) (rec_1 : (Int × Int × (List GItem) → Option (Bool × GOps_maker))) (rec_5 : Int → Option (Bool × GOps_maker)) : Int → Option (Bool × GOps_maker) :=
 fun tov_14 =>
 (if (decide (tov_14 < (a_0.length : Int))) = true then q9 (idx a_0 tov_14) (fun xv_67 =>
 q9 (idx a_0 fromv_1) (fun xv_68 =>
 (if (xv_67.Rec.K == xv_68.Rec.K) = true then rec_5 (i64.wrap (tov_14 + 1))
 else q2g a_0 b_0 fromv_1 b_18 a_18 rec_1 tov_14)))
 else q2g a_0 b_0 fromv_1 b_18 a_18 rec_1 tov_14)
def q5p (a_0 : List GItem) (b_0 : List GItem) (rec_1 : Int × Int × (List GItem) → Option (Bool × GOps_maker)) : Int × Int × (List GItem) → Option (Bool × GOps_maker) :=
 fun (fromv_1, b_18, a_18) =>
 (if (decide (fromv_1 < (a_0.length : Int))) = true then x8 (qf1 a_0 b_0 fromv_1 b_18 a_18 rec_1) rounds fromv_1
 else some (true, (⟨a_18, b_18⟩ : GOps_maker)))
def q4y (mv_0 : GOps_maker) (a_0 : List GItem) (b_0 : List GItem) : Option (Bool × GOps_maker) :=
 x8 (q5p a_0 b_0) rounds (0, mv_0.many, mv_0.out)
theorem z04 (mv_0 : GOps_maker) (a_0 : List GItem) (b_0 : List GItem)  (r : Bool × GOps_maker) (h : q4y mv_0 a_0 b_0 = some r) : DetS pp 102 [.ptr 0 0, .sl 3 (enc a_0), .sl 3 (enc b_0)] [(0, .box [.osl 1 3 (0) (mv_0.out.length), .v (.int .i64 mv_0.many)]), (1, .arr 3 (enc mv_0.out))] 2 (.v (.bool r.1)) [(0, .box [.osl 2 3 (0) (r.2.out.length), .v (.int .i64 r.2.many)]), (2, .arr 3 (enc r.2.out))] 3 := by
 refine dtI Tryz.func102 rfl ?_; rw [q4y] at h; have F := trivial; refine sM ?_; refine sg fun _ Q2 => ?_; simp only [go_sem]; refine q95 Tryz.func138 rfl (by kernel_rfl) (by kernel_rfl) ?_; refine sM ?_; refine jg fun _ Q4 => ?_; refine sM ?_; refine w9 fun _ Q6 => ?_; refine d9 h [0, 1] (fun x => ([(5, .v (.int .i64 x.1))], [(0, .box [.osl 4 3 (0) (x.2.2.length), .v (.int .i64 x.2.1)]), (2, .box [.ptr 0 0]), (3, .box [.sl 3 (enc b_0)]), (4, .arr 3 (enc x.2.2))])) 5 ?_; rintro m_1 ⟨fromv_1, b_18, a_18⟩ h _ Q7; rw [q5p] at h; refine sg fun _ Q8 => ?_; refine sM ?_; refine sB h (fun _ h => ?_) fun _ h => ?_
 ·
  refine y5 (q8 Q8 (w9 fun _ Q10 => ?_)); refine sM ?_; refine q1n (fun (tov_12 : Int) => q2g a_0 b_0 fromv_1 b_18 a_18 (x8 (q5p a_0 b_0) m_1) tov_12 = some r) [0, 1, 5] (fun tov_12 => ([(6, .v (.int .i64 tov_12))], [(0, .box [.osl 4 3 (0) (a_18.length), .v (.int .i64 b_18)]), (2, .box [.ptr 0 0]), (3, .box [.sl 3 (enc b_0)]), (4, .arr 3 (enc a_18))])) 5 ?_ ?_
  ·
   intro _ Q40; refine w9 fun _ Q41 => ?_; refine d9 h [0, 1, 5] (fun tov_14 => ([(6, .v (.int .i64 tov_14))], [(0, .box [.osl 4 3 (0) (a_18.length), .v (.int .i64 b_18)]), (2, .box [.ptr 0 0]), (3, .box [.sl 3 (enc b_0)]), (4, .arr 3 (enc a_18))])) 5 ?_; rintro m_5 tov_14 h _ Q42; rw [qf1] at h; refine sg fun _ Q43 => ?_; refine sg fun _ Q44 => ?_; refine q02 ?_; refine j9m ?_; simp only [go_sem]; rcases hb_154 : (decide (tov_14 < (a_0.length : Int))) with _ | _
   · replace h := q1m h hb_154; simp only [go_sem, hb_154]; exact au
   · replace h := q1l h hb_154; obtain ⟨xv_67, F, h⟩ := bI F h; obtain ⟨xv_68, F, h⟩ := bI F h; simp only [go_sem, hb_154, F]; refine ai ?_; refine ai ?_; exact au
  ·
   rintro tov_12 h
   try dsimp only at h
   rw [q2g] at h; refine sg fun _ Q12 => ?_; refine sg fun _ Q13 => ?_; refine q02 ?_; refine j9m ?_; obtain ⟨xv_51, F, h⟩ := bI F h; obtain ⟨F, h⟩ := bG F h; simp only [go_sem, F]; refine ai ?_; refine q95 Tryz.func139 rfl (by kernel_rfl) (by kernel_rfl) ?_; refine sM ?_; refine jg fun _ Q15 => ?_; refine sM ?_; refine w9 fun _ Q17 => ?_; refine d9 h [0, 2, 3, 11, 12] (fun x => ([(13, .v (.int .i64 x.1))], [(0, .box [.osl 5 3 (0) (x.2.2.length), .v (.int .i64 x.2.1)]), (2, .box [.ptr 0 0]), (3, .box [.sl 3 (enc b_0)]), (5, .arr 3 (enc x.2.2))])) 6 ?_; rintro m_3 ⟨t13_5, b_24, a_24⟩ h _ Q18; rw [q5o] at h; refine sM ?_; refine sg fun _ Q20 => ?_; refine sB h (fun _ h => ?_) fun _ h => ?_
   ·
    refine y5 (q8 Q20 (jg fun _ Q21 => ?_)); refine w9 fun _ Q22 => ?_; refine sg fun _ Q23 => ?_; obtain ⟨xv_60, F, h⟩ := bI F h; simp only [go_sem, F]; refine ai ?_; refine q8 Q23 (sM ?_); refine w9 fun _ Q25 => ?_; refine d9 h [0, 2, 3, 11, 12, 13, 17, 18] (fun x => ([(8, .ptr 5 0), (19, .v (.int .i64 x.1))], [(0, .box [.osl 6 3 (0) (x.2.2.length), .v (.int .i64 x.2.1)]), (2, .box [.ptr 0 0]), (3, .box [.sl 3 (enc b_0)]), (5, .box (Row.row xv_60)), (6, .arr 3 (enc x.2.2))])) 7 ?_; rintro m_4 ⟨t19_17, b_26, a_26⟩ h _ Q26; rw [q5n] at h; refine sM ?_; refine sg fun _ Q28 => ?_; refine sB h (fun _ h => ?_) fun _ h => ?_
    ·
     refine y5 (q8 Q28 (sg fun _ Q29 => ?_)); refine w9 fun _ Q30 => ?_; refine sg fun _ Q31 => ?_; obtain ⟨xv_63, F, h⟩ := bI F h; simp only [go_sem, F]; refine ai ?_; refine q8 Q31 (sg fun _ Q32 => ?_); refine sM ?_; refine sB h (fun _ h => ?_) fun _ h => ?_
     · exact au
     ·
      refine y5 (q8 Q32 (sg fun _ Q34 => ?_)); refine q02 ?_; refine j9m ?_; simp only [go_sem]; rcases hb_148 : ((decide (65536 < xv_60.N)) || (decide (65536 < xv_63.N))) with _ | _
      ·
       replace h := q1m h hb_148; obtain ⟨v_52, ev_52, h⟩ := z8 h; simp only [go_sem, hb_148]; refine callq (fun _ => (zg1 xv_51.Rec.K xv_60.Rec.V xv_63.Rec.V v_52 ev_52)) (by rfl) (by rfl) ?_; obtain ⟨v_53, ev_53, h⟩ := z8 h; simp only [go_sem]; refine q0b [0, 6] (q2h (⟨a_26, b_26⟩ : GOps_maker) v_52 (i64.wrap (xv_60.N * xv_63.N)) v_53 ev_53) ?_; simp only [go_sem]; refine q8 Q34 (sB h (fun _ h => ?_) fun _ h => ?_)
       ·
        refine sM ?_; refine q04 (q0h Q30 (q0m Q29 (q2n Q26 (q0h Q25 (q0h Q22 (q0m Q21 (q2n Q18 (q0h Q17 (q0m Q15 ?_))))))))); simp only [go_sem]; refine q1s [some 5, some 7, some 8] [(0, .box [.osl 7 3 (0) (v_53.2.out.length), .v (.int .i64 v_53.2.many)]), (2, .box [.ptr 0 0]), (3, .box [.sl 3 (enc b_0)]), (5, .box (Row.row xv_60)), (6, .box (Row.row xv_63)), (7, .arr 3 (enc v_53.2.out))] 8 (.v (.bool false)) ?_ ?_
        · exact leA
        refine q2l ?_; simp only [go_sem]; refine q8 Q13 (jf1 ?_); refine sM ?_; refine q04 (q0m Q12 (q0h Q10 (q2n Q7 (q0h Q6 (q0m Q4 ?_))))); simp only [go_sem]; refine q1s [some 5, some 6, some 7] [(0, .box [.osl 6 3 (0) (v_53.2.out.length), .v (.int .i64 v_53.2.many)]), (2, .box [.ptr 0 0]), (3, .box [.sl 3 (enc b_0)]), (4, .box (Row.row xv_60)), (5, .box (Row.row xv_63)), (6, .arr 3 (enc v_53.2.out))] 7 (.v (.bool false)) ?_ ?_
        · exact leA
        refine q2l ?_; simp only [go_sem]; exact au
       · exact au
      ·
       replace h := q1l h hb_148; simp only [go_sem, hb_148]; refine q8 Q34 (jf1 ?_); refine sM ?_; refine q04 (q0h Q30 (q0m Q29 (q2n Q26 (q0h Q25 (q0h Q22 (q0m Q21 (q2n Q18 (q0h Q17 (q0m Q15 ?_))))))))); simp only [go_sem]; refine q1s [some 5, some 6, some 7] [(0, .box [.osl 6 3 (0) (a_26.length), .v (.int .i64 b_26)]), (2, .box [.ptr 0 0]), (3, .box [.sl 3 (enc b_0)]), (5, .box (Row.row xv_60)), (6, .arr 3 (enc a_26)), (7, .box (Row.row xv_63))] 8 (.v (.bool false)) ?_ ?_
       · exact leA
       refine q2l ?_; simp only [go_sem]; refine q8 Q13 (jf1 ?_); refine sM ?_; refine q04 (q0m Q12 (q0h Q10 (q2n Q7 (q0h Q6 (q0m Q4 ?_))))); simp only [go_sem]; refine q1s [some 5, some 6, some 7] [(0, .box [.osl 5 3 (0) (a_26.length), .v (.int .i64 b_26)]), (2, .box [.ptr 0 0]), (3, .box [.sl 3 (enc b_0)]), (4, .box (Row.row xv_60)), (5, .arr 3 (enc a_26)), (6, .box (Row.row xv_63))] 7 (.v (.bool false)) ?_ ?_
       · exact leA
       refine q2l ?_; simp only [go_sem]; exact au
    · exact au
   ·
    refine q0i (q0r Q20 (q0j Q18 (q0d Q17 (q8 Q15 (sM ?_))))); refine q04 ?_; simp only [go_sem]; refine q1s [some 5] [(0, .box [.osl 5 3 (0) (a_24.length), .v (.int .i64 b_24)]), (2, .box [.ptr 0 0]), (3, .box [.sl 3 (enc b_0)]), (5, .arr 3 (enc a_24))] 6 (.v (.bool true)) ?_ ?_
    · exact leA
    refine q2l ?_; simp only [go_sem]; exact au
 ·
  refine q0i (q0r Q8 (q0j Q7 (q0d Q6 (q8 Q4 (sM ?_))))); refine q04 ?_; simp only [go_sem]; refine q1s [some 4] [(0, .box [.osl 4 3 (0) (a_18.length), .v (.int .i64 b_18)]), (2, .box [.ptr 0 0]), (3, .box [.sl 3 (enc b_0)]), (4, .arr 3 (enc a_18))] 5 (.v (.bool true)) ?_ ?_
  · exact leA
  refine q2l ?_; simp only [go_sem]; exact au
def q1c (t4_0 : Bool) : Option Bool :=
 (if t4_0 = true then some true
 else some false)
def q9p (kind_0 : Int) : Option Bool :=
 (if (kind_0 == 1) = true then q1c (kind_0 == 1)
 else (if (kind_0 == 2) = true then q1c (kind_0 == 2)
 else (if (kind_0 == 3) = true then q1c (kind_0 == 3)
 else (if (kind_0 == 4) = true then q1c (kind_0 == 4)
 else (if (kind_0 == 5) = true then q1c (kind_0 == 5)
 else (if (kind_0 == 10) = true then q1c (kind_0 == 10)
 else (if (kind_0 == 11) = true then q1c (kind_0 == 11)
 else (if (kind_0 == 12) = true then q1c (kind_0 == 12)
 else (if (kind_0 == 13) = true then q1c (kind_0 == 13)
 else q1c (kind_0 == 15))))))))))
instance j4r (kind_0 : Int) : Ct pp 100 (q9p kind_0) [.v (.int .i64 kind_0)] fun r => (.v (.bool r)) := ctK Tryz.func100 rfl (by rw [q9p]) (by
 intro r h F; refine sM ?_; refine jg fun _ Q2 => ?_; refine sM ?_; refine w9 fun _ Q4 => ?_; refine q1n (fun (t4_0 : Bool) => q1c t4_0 = some r) [] (fun t4_0 => ([(4, .v (.bool t4_0))], [])) 0 ?_ ?_
 · intro _ Q7; exact au
 ·
  rintro t4_0 h
  try dsimp only at h
  rw [q1c] at h; exact au)
def q3w (nv_0 : Int) (cap_0 : List (List GItem)) : Option (List GItem) :=
 (if (decide ((cap_0.length : Int) ≤ nv_0)) = true then some ([] : List GItem)
 else q9 (idx cap_0 nv_0) (fun xv_0 =>
 q9 (q6o xv_0) (fun v_0 =>
 some v_0)))
theorem qr5 (nv_0 : Int) (cap_0 : List (List GItem))  (r : List GItem) (h : q3w nv_0 cap_0 = some r) : DetS pp 97 [.v (.int .i64 nv_0), .el 1 [[.sl 1 (enc cap_0)]] 0 0] [] 0 (.osl 0 3 (0) (r.length)) [(0, .arr 3 (enc r))] 1 := by
 refine dtI Tryz.func97 rfl ?_; rw [q3w] at h; have F := trivial; refine sM ?_; refine sg fun _ Q2 => ?_; refine sM ?_; refine sB h (fun _ h => ?_) fun _ h => ?_
 · exact au
 · refine y5 (q8 Q2 (sg fun _ Q5 => ?_)); obtain ⟨xv_0, F, h⟩ := bI F h; obtain ⟨v_0, ev_0, h⟩ := z8 h; simp only [go_sem, F]; refine ai ?_; refine q0b [] (q8l xv_0 v_0 ev_0) ?_; simp only [go_sem]; exact au
instance j3l (nv_0 : Int) (cap_0 : List (List GItem)) : Ct pp 97 (q3w nv_0 cap_0) [.v (.int .i64 nv_0), .el 1 [[.sl 1 (enc cap_0)]] 0 0] fun r => (.sl 3 (enc r)) := ⟨fun r h => (qr5 nv_0 cap_0  r h).pure leA⟩
def q29 (ok_2 : Bool) (b_2 : Int) (a_2 : List GItem) : Option ((List GItem) × Bool) :=
 (if (!ok_2) = true then some (([] : List GItem), false)
 else q9 (q50 (⟨a_2, b_2⟩ : GOps_maker)) (fun v_11 =>
 some (v_11.1, true)))
def z06 (v_0 : List GItem) (rec_2 : Bool × Int × Int × (List GItem) → Option ((List GItem) × Bool)) : Bool × Int × Int × (List GItem) → Option ((List GItem) × Bool) :=
 fun (ok_4, t48_3, b_4, a_4) =>
 (if (decide (t48_3 < (v_0.length : Int))) = true then q9 (idx v_0 t48_3) (fun xv_6 =>
 (if ok_4 = true then q9 (q0q (⟨a_4, b_4⟩ : GOps_maker) xv_6.Rec 1) (fun v_18 =>
 rec_2 (v_18.1, i64.wrap (t48_3 + 1), v_18.2.many, v_18.2.out))
 else rec_2 (false, i64.wrap (t48_3 + 1), b_4, a_4)))
 else q29 ok_4 b_4 a_4)
def q94 (xv_0 : GNode) (ports_0 : List (List GItem)) : Option ((List GItem) × Bool) :=
 q9 (q3w 0 ports_0) (fun v_0 =>
 q9 (q3w 1 ports_0) (fun v_1 =>
 (if (xv_0.Kind == 5) = true then q9 (q1t (⟨([] : List GItem), 0⟩ : GOps_maker) xv_0 v_0) (fun v_12 =>
 (if v_12.1 = true then q9 (q1t v_12.2 xv_0 v_1) (fun v_13 =>
 q29 v_13.1 v_13.2.many v_13.2.out)
 else q29 false v_12.2.many v_12.2.out))
 else q9 (q9p xv_0.Kind) (fun v_14 =>
 (if v_14 = true then q9 (q1t (⟨([] : List GItem), 0⟩ : GOps_maker) xv_0 v_0) (fun v_15 =>
 q29 v_15.1 v_15.2.many v_15.2.out)
 else (if (xv_0.Kind == 8) = true then x8 (z06 v_0) rounds (true, 0, 0, [])
 else (if (xv_0.Kind == 9) = true then q9 (q4y (⟨([] : List GItem), 0⟩ : GOps_maker) v_0 v_1) (fun v_19 =>
 q29 v_19.1 v_19.2.many v_19.2.out)
 else (if (((xv_0.Kind == 7) || (xv_0.Kind == 6)) || (xv_0.Kind == 14)) = true then q9 (q3k (⟨([] : List GItem), 0⟩ : GOps_maker) xv_0.Kind v_0 v_1) (fun v_20 =>
 q29 v_20.1 v_20.2.many v_20.2.out)
 else q29 true 0 ([])))))))))
theorem z2s (xv_0 : GNode) (ports_0 : List (List GItem))  (r : (List GItem) × Bool) (h : q94 xv_0 ports_0 = some r) : DetS pp 55 [.agg (Row.row xv_0), .sl 1 (enc ports_0)] [] 0 (.tup [.osl 0 3 (0) (r.1.length), .v (.bool r.2)]) [(0, .arr 3 (enc r.1))] 1 := by
 refine dtI Tryz.func55 rfl ?_; rw [q94] at h; have F := trivial; refine sM ?_; refine sM ?_; refine sM ?_; refine sg fun _ Q4 => ?_; obtain ⟨v_0, ev_0, h⟩ := z8 h; simp only [go_sem]; refine q7q [2] ([(6, .clo 97 [.el 1 [[.sl 1 (enc ports_0)]] 0 0]), (7, .ptr 1 0)], [(0, .box (Row.row xv_0)), (1, .box [.v (.slice none 0 0), .v (.int .i64 0)])]) 2 [some 0, some 2] [.v (.int .i64 0), .el 1 [[.sl 1 (enc ports_0)]] 0 0] ?_; refine q0b [] (qr5 0 ports_0 v_0 ev_0) ?_; obtain ⟨v_1, ev_1, h⟩ := z8 h; simp only [go_sem]; refine q0b [] (qr5 1 ports_0 v_1 ev_1) ?_; simp only [go_sem]; refine q8 Q4 (sM ?_); refine q1n (fun ((ok_2, b_2, a_2) : Bool × Int × (List GItem)) => q29 ok_2 b_2 a_2 = some r) [] (fun x => ([(7, .ptr 0 0), (10, .v (.bool x.1))], [(0, .box [.osl 1 3 (0) (x.2.2.length), .v (.int .i64 x.2.1)]), (1, .arr 3 (enc x.2.2))])) 2 ?_ ?_
 ·
  intro _ Q10; refine w9 fun _ Q11 => ?_; refine sM ?_; refine sB h (fun _ h => ?_) fun _ h => ?_
  ·
   obtain ⟨v_12, ev_12, h⟩ := z8 h; simp only [go_sem]; refine q7q [2, 7, 10] ([(9, .osl 2 3 (0) (v_1.length))], [(0, .box (Row.row xv_0)), (1, .box [.osl 3 3 (0) (List.length ([] : List GItem)), .v (.int .i64 0)]), (2, .arr 3 (enc v_1)), (3, .arr 3 (enc ([] : List GItem)))]) 4 [some 0, some 1, some 3, none] [.ptr 1 0, .agg (Row.row xv_0), .sl 3 (enc v_0)] ?_; refine q0b [1, 3] (q6v (⟨([] : List GItem), 0⟩ : GOps_maker) xv_0 v_0 v_12 ev_12) ?_; simp only [go_sem]; rcases hb_13 : v_12.1 with _ | _
   · replace h := q1m h hb_13; simp only [go_sem, hb_13]; exact au
   · replace h := q1l h hb_13; obtain ⟨v_13, ev_13, h⟩ := z8 h; simp only [go_sem, hb_13]; refine q7q [7, 10, 28] ([], [(0, .box (Row.row xv_0)), (1, .box [.osl 2 3 (0) (v_12.2.out.length), .v (.int .i64 v_12.2.many)]), (2, .arr 3 (enc v_12.2.out))]) 3 [some 0, some 1, some 4] [.ptr 1 0, .agg (Row.row xv_0), .sl 3 (enc v_1)] ?_; refine q0b [1, 2] (q6v v_12.2 xv_0 v_1 v_13 ev_13) ?_; simp only [go_sem]; exact au
  ·
   refine sg fun _ Q13 => ?_; simp only [go_sem]; refine q0o h fun v_14 h => ?_; simp only [go_sem]; refine q8 Q13 (sB h (fun _ h => ?_) fun _ h => ?_)
   · obtain ⟨v_15, ev_15, h⟩ := z8 h; simp only [go_sem]; refine q7q [7, 10] ([], [(0, .box (Row.row xv_0)), (1, .box [.osl 3 3 (0) (List.length ([] : List GItem)), .v (.int .i64 0)]), (2, .arr 3 (enc v_1)), (3, .arr 3 (enc ([] : List GItem)))]) 4 [some 0, some 1, some 3, none] [.ptr 1 0, .agg (Row.row xv_0), .sl 3 (enc v_0)] ?_; refine q0b [1, 3] (q6v (⟨([] : List GItem), 0⟩ : GOps_maker) xv_0 v_0 v_15 ev_15) ?_; simp only [go_sem]; exact au
   ·
    refine sM ?_; refine sB h (fun _ h => ?_) fun _ h => ?_
    ·
     refine sM ?_; refine w9 fun _ Q16 => ?_; refine d9 h [47] (fun x => ([(7, .ptr 0 0), (10, .v (.bool x.1)), (46, .osl 1 3 (0) (v_0.length)), (48, .v (.int .i64 x.2.1))], [(0, .box [.osl 2 3 (0) (x.2.2.2.length), .v (.int .i64 x.2.2.1)]), (1, .arr 3 (enc v_0)), (2, .arr 3 (enc x.2.2.2))])) 3 ?_; rintro m_2 ⟨ok_4, t48_3, b_4, a_4⟩ h _ Q17; rw [z06] at h; refine sM ?_; refine sg fun _ Q19 => ?_; refine sB h (fun _ h => ?_) fun _ h => ?_
     ·
      refine y5 (q8 Q19 (sg fun _ Q20 => ?_)); refine w9 fun _ Q21 => ?_; refine sg fun _ Q22 => ?_; obtain ⟨xv_6, F, h⟩ := bI F h; simp only [go_sem, F]; refine ai ?_; refine q8 Q22 ?_; simp only [go_sem]; rcases hb_20 : ok_4 with _ | _
      · replace h := q1m h hb_20; simp only [go_sem, hb_20]; exact au
      · replace h := q1l h hb_20; obtain ⟨v_18, ev_18, h⟩ := z8 h; simp only [go_sem, hb_20]; refine q0b [0, 2] (q2h (⟨a_4, b_4⟩ : GOps_maker) xv_6.Rec 1 v_18 ev_18) ?_; simp only [go_sem]; exact au
     · exact au
    ·
     refine sM ?_; refine sB h (fun _ h => ?_) fun _ h => ?_
     · obtain ⟨v_19, ev_19, h⟩ := z8 h; simp only [go_sem]; refine q7q [7, 10] ([], [(0, .box (Row.row xv_0)), (1, .box [.osl 2 3 (0) (List.length ([] : List GItem)), .v (.int .i64 0)]), (2, .arr 3 (enc ([] : List GItem)))]) 3 [some 0, some 1, none] [.ptr 1 0, .sl 3 (enc v_0), .sl 3 (enc v_1)] ?_; refine q0b [1, 2] (z04 (⟨([] : List GItem), 0⟩ : GOps_maker) v_0 v_1 v_19 ev_19) ?_; simp only [go_sem]; exact au
     ·
      refine sM ?_; refine sB h (fun _ h => ?_) fun _ h => ?_
      · obtain ⟨v_20, ev_20, h⟩ := z8 h; simp only [go_sem]; refine q7q [7, 10] ([], [(0, .box (Row.row xv_0)), (1, .box [.osl 2 3 (0) (List.length ([] : List GItem)), .v (.int .i64 0)]), (2, .arr 3 (enc ([] : List GItem)))]) 3 [some 0, some 1, none] [.ptr 1 0, .v (.int .i64 xv_0.Kind), .sl 3 (enc v_0), .sl 3 (enc v_1)] ?_; refine q0b [1, 2] (qv1 (⟨([] : List GItem), 0⟩ : GOps_maker) xv_0.Kind v_0 v_1 v_20 ev_20) ?_; simp only [go_sem]; exact au
      · exact au
 ·
  rintro ⟨ok_2, b_2, a_2⟩ h
  try dsimp only at h
  rw [q29] at h; refine sg fun _ Q6 => ?_; refine sM ?_; refine sB h (fun _ h => ?_) fun _ h => ?_
  · exact au
  · refine y5 (q8 Q6 (sg fun _ Q9 => ?_)); obtain ⟨v_11, ev_11, h⟩ := z8 h; simp only [go_sem]; refine q0b [0, 1] (z05 (⟨a_2, b_2⟩ : GOps_maker) v_11 ev_11) ?_; simp only [go_sem]; exact au
instance j6f (xv_0 : GNode) (ports_0 : List (List GItem)) : Ct pp 55 (q94 xv_0 ports_0) [.agg (Row.row xv_0), .sl 1 (enc ports_0)] fun r => (.tup [.sl 3 (enc r.1), .v (.bool r.2)]) := ⟨fun r h => (z2s xv_0 ports_0  r h).pure leA⟩
def q5x (a_0 : List GItem) (b_0 : List GItem) : Option (List GItem) :=
 q9 (q8g a_0 b_0 (-1)) (fun v_0 =>
 some v_0)
theorem qx7 (a_0 : List GItem) (b_0 : List GItem)  (r : List GItem) (h : q5x a_0 b_0 = some r) : DetS pp 105 [.sl 3 (enc a_0), .sl 3 (enc b_0)] [] 0 (.osl 0 3 (0) (r.length)) [(0, .arr 3 (enc r))] 1 := by
 refine dtI Tryz.func105 rfl ?_; rw [q5x] at h; have F := trivial; refine sM ?_; refine sg fun _ Q2 => ?_; obtain ⟨v_0, ev_0, h⟩ := z8 h; simp only [go_sem]; refine q0b [] (qu6 a_0 b_0 (-1) v_0 ev_0) ?_; simp only [go_sem]; exact au
instance j6n (a_0 : List GItem) (b_0 : List GItem) : Ct pp 105 (q5x a_0 b_0) [.sl 3 (enc a_0), .sl 3 (enc b_0)] fun r => (.sl 3 (enc r)) := ⟨fun r h => (qx7 a_0 b_0  r h).pure leA⟩
def qp7 (c_0 : List GSlot) (t_0 : GTime) (rec_1 : Int × (List GItem) → Option (List GItem)) : Int × (List GItem) → Option (List GItem) :=
 fun (t10_1, a_1) =>
 (if (decide (t10_1 < (c_0.length : Int))) = true then q9 (idx c_0 t10_1) (fun xv_2 =>
 q9 (qo9 xv_2.Time t_0) (fun v_4 =>
 (if v_4 = true then q9 (qx6 a_1 xv_2.In.a0) (fun v_5 =>
 rec_1 (i64.wrap (t10_1 + 1), v_5))
 else rec_1 (i64.wrap (t10_1 + 1), a_1))))
 else some a_1)
def qb9 (c_0 : List GSlot) (t_0 : GTime) : Option (List GItem) :=
 x8 (qp7 c_0 t_0) rounds (0, [])
theorem z2t (c_0 : List GSlot) (t_0 : GTime)  (r : List GItem) (h : qb9 c_0 t_0 = some r) : DetS pp 54 [.sl 10 (enc c_0), .agg (Row.row t_0)] [] 0 (.osl 0 3 (0) (r.length)) [(0, .arr 3 (enc r))] 1 := by
 refine dtI Tryz.func54 rfl ?_; rw [qb9] at h; have F := trivial; refine sM ?_; refine sM ?_; refine jg fun _ Q3 => ?_; refine sM ?_; refine w9 fun _ Q5 => ?_; refine d9 h [3, 8, 9] (fun x => ([(5, .osl 1 3 (0) (x.2.length)), (10, .v (.int .i64 x.1))], [(0, .box (Row.row t_0)), (1, .arr 3 (enc x.2))])) 2 ?_; rintro m_1 ⟨t10_1, a_1⟩ h _ Q6; rw [qp7] at h; refine sM ?_; refine sg fun _ Q8 => ?_; refine sB h (fun _ h => ?_) fun _ h => ?_
 ·
  refine y5 (q8 Q8 (jg fun _ Q9 => ?_)); refine w9 fun _ Q10 => ?_; refine sg fun _ Q11 => ?_; obtain ⟨xv_2, F, h⟩ := bI F h; simp only [go_sem, F]; refine ai ?_; refine q8 Q11 (sg fun _ Q12 => ?_); simp only [go_sem]; refine q0o h fun v_4 h => ?_; simp only [go_sem]; refine q8 Q12 (sB h (fun _ h => ?_) fun _ h => ?_)
  · obtain ⟨v_5, ev_5, h⟩ := z8 h; simp only [go_sem]; refine q7q [3, 8, 9, 10] ([(5, .sl 3 (enc a_1))], [(0, .box (Row.row t_0)), (1, .box (Row.row xv_2))]) 2 [some 0, some 2] [.sl 3 (enc a_1), .sl 3 (enc xv_2.In.a0)] ?_; refine q0b [] (z4e a_1 xv_2.In.a0 v_5 ev_5) ?_; simp only [go_sem]; exact au
  · exact au
 · exact au
instance j6j (c_0 : List GSlot) (t_0 : GTime) : Ct pp 54 (qb9 c_0 t_0) [.sl 10 (enc c_0), .agg (Row.row t_0)] fun r => (.sl 3 (enc r)) := ⟨fun r h => (z2t c_0 t_0  r h).pure leA⟩
def q7o (old_0 : List GItem) (now_0 : List GItem) (lazy_0 : Bool) : Option ((List GItem) × (List GItem)) :=
 (if lazy_0 = true then q9 (q5x old_0 now_0) (fun v_0 =>
 q9 (q6o v_0) (fun v_1 =>
 q9 (q5x now_0 old_0) (fun v_2 =>
 q9 (q6o v_2) (fun v_3 =>
 some (v_1, v_3)))))
 else q9 (qh4 old_0 now_0) (fun v_4 =>
 (if v_4 = true then some (([] : List GItem), ([] : List GItem))
 else q9 (q6o old_0) (fun v_5 =>
 q9 (q6o now_0) (fun v_6 =>
 some (v_5, v_6))))))
theorem z13 (old_0 : List GItem) (now_0 : List GItem) (lazy_0 : Bool)  (r : (List GItem) × (List GItem)) (h : q7o old_0 now_0 lazy_0 = some r) : DetS pp 56 [.sl 3 (enc old_0), .sl 3 (enc now_0), .v (.bool lazy_0)] [] 0 (.tup [.osl 0 3 (0) (r.1.length), .osl 1 3 (0) (r.2.length)]) [(0, .arr 3 (enc r.1)), (1, .arr 3 (enc r.2))] 2 := by
 refine dtI Tryz.func56 rfl ?_; rw [q7o] at h; have F := trivial; refine sM ?_; refine sg fun _ Q2 => ?_; refine w9 fun _ Q3 => ?_; refine sM ?_; refine sB h (fun _ h => ?_) fun _ h => ?_
 · refine sg fun _ Q5 => ?_; obtain ⟨v_0, ev_0, h⟩ := z8 h; simp only [go_sem]; refine q0b [] (qx7 old_0 now_0 v_0 ev_0) ?_; obtain ⟨v_1, ev_1, h⟩ := z8 h; simp only [go_sem]; refine q7q [0, 1, 6, 7] ([], []) 0 [] [.sl 3 (enc v_0)] ?_; refine q0b [] (q8l v_0 v_1 ev_1) ?_; obtain ⟨v_2, ev_2, h⟩ := z8 h; simp only [go_sem]; refine q0b [] (qx7 now_0 old_0 v_2 ev_2) ?_; obtain ⟨v_3, ev_3, h⟩ := z8 h; simp only [go_sem]; refine q7q [6, 7, 13] ([], [(0, .arr 3 (enc v_1))]) 1 [some 0] [.sl 3 (enc v_2)] ?_; refine q0b [] (q8l v_2 v_3 ev_3) ?_; simp only [go_sem]; exact au
 ·
  refine sg fun _ Q6 => ?_; simp only [go_sem]; refine q0o h fun v_4 h => ?_; simp only [go_sem]; refine q8 Q6 (sB h (fun _ h => ?_) fun _ h => ?_)
  · exact au
  · refine y5 (q05 Q3 (q8 Q2 (sg fun _ Q8 => ?_))); obtain ⟨v_5, ev_5, h⟩ := z8 h; simp only [go_sem]; refine q0b [] (q8l old_0 v_5 ev_5) ?_; obtain ⟨v_6, ev_6, h⟩ := z8 h; simp only [go_sem]; refine q0b [] (q8l now_0 v_6 ev_6) ?_; simp only [go_sem]; exact au
instance j3n (old_0 : List GItem) (now_0 : List GItem) (lazy_0 : Bool) : Ct pp 56 (q7o old_0 now_0 lazy_0) [.sl 3 (enc old_0), .sl 3 (enc now_0), .v (.bool lazy_0)] fun r => (.tup [.sl 3 (enc r.1), .sl 3 (enc r.2)]) := ⟨fun r h => (z13 old_0 now_0 lazy_0  r h).pure leA⟩
def q44 (xv_0 : GNode) (t_0 : GTime) (lazy_0 : Bool) (v_0 : List GSlot) (v_1 : GSlot × Bool) (a_0 : List (List GItem)) : Option ((List GSlot) × (List GItem) × (List GItem) × Bool) :=
 q9 (q94 xv_0 a_0) (fun v_3 =>
 (if (!v_3.2) = true then some (v_0, ([] : List GItem), ([] : List GItem), false)
 else q9 (q7o v_1.1.Sent v_3.1 lazy_0) (fun v_4 =>
 q9 (q89 v_0 t_0) (fun v_5 =>
 q9 (idx v_0 v_5.1) (fun xv_2 =>
 q9 (idx (List.set v_0 (v_5.1.toNat) (⟨xv_2.Time, xv_2.In, v_3.1, xv_2.Dirty, xv_2.Fired⟩ : GSlot)) v_5.1) (fun xv_3 =>
 q9 (idx (List.set (List.set v_0 (v_5.1.toNat) (⟨xv_2.Time, xv_2.In, v_3.1, xv_2.Dirty, xv_2.Fired⟩ : GSlot)) (v_5.1.toNat) (⟨xv_3.Time, xv_3.In, xv_3.Sent, false, xv_3.Fired⟩ : GSlot)) v_5.1) (fun xv_4 =>
 q9 (q5t (List.set (List.set (List.set v_0 (v_5.1.toNat) (⟨xv_2.Time, xv_2.In, v_3.1, xv_2.Dirty, xv_2.Fired⟩ : GSlot)) (v_5.1.toNat) (⟨xv_3.Time, xv_3.In, xv_3.Sent, false, xv_3.Fired⟩ : GSlot)) (v_5.1.toNat) (⟨xv_4.Time, xv_4.In, xv_4.Sent, xv_4.Dirty, true⟩ : GSlot)) v_5.1) (fun v_6 =>
 some (v_6, v_4.1, v_4.2, true)))))))))
def q57 (c_0 : List GSlot) (xv_0 : GNode) (t_0 : GTime) (lazy_0 : Bool) : Option ((List GSlot) × (List GItem) × (List GItem) × Bool) :=
 q9 (q49 c_0) (fun v_0 =>
 q9 (z0r c_0 t_0) (fun v_1 =>
 (if ((!v_1.2) || (!v_1.1.Dirty)) = true then some (v_0, ([] : List GItem), ([] : List GItem), false)
 else (if (xv_0.Kind == 14) = true then q9 (qb9 c_0 t_0) (fun v_7 =>
 q9 (idx ([v_1.1.In.a0, v_1.1.In.a1] : List (List GItem)) 1) (fun xv_5 =>
 q44 xv_0 t_0 lazy_0 v_0 v_1 (List.set ([v_1.1.In.a0, v_1.1.In.a1] : List (List GItem)) (Int.toNat 1) v_7)))
 else q44 xv_0 t_0 lazy_0 v_0 v_1 ([v_1.1.In.a0, v_1.1.In.a1] : List (List GItem))))))
theorem z9e (c_0 : List GSlot) (xv_0 : GNode) (t_0 : GTime) (lazy_0 : Bool)  (r : (List GSlot) × (List GItem) × (List GItem) × Bool) (h : q57 c_0 xv_0 t_0 lazy_0 = some r) : DetS pp 19 [.sl 10 (enc c_0), .agg (Row.row xv_0), .agg (Row.row t_0), .v (.bool lazy_0)] [] 0 (.tup [.osl 0 10 (0) (r.1.length), .osl 1 3 (0) (r.2.1.length), .osl 2 3 (0) (r.2.2.1.length), .v (.bool r.2.2.2)]) [(0, .arr 10 (enc r.1)), (1, .arr 3 (enc r.2.1)), (2, .arr 3 (enc r.2.2.1))] 3 := by
 refine dtI Tryz.func19 rfl ?_; rw [q57] at h; have F := trivial; refine sM ?_; refine sg fun _ Q2 => ?_; obtain ⟨v_0, ev_0, h⟩ := z8 h; simp only [go_sem]; refine q0b [] (q9w c_0 v_0 ev_0) ?_; simp only [go_sem]; refine q8 Q2 (sg fun _ Q3 => ?_); simp only [go_sem]; refine q0o h fun v_1 h => ?_; simp only [go_sem]; refine q8 Q3 (sg fun _ Q4 => ?_); refine sM ?_; refine sB h (fun _ h => ?_) fun _ h => ?_
 · exact au
 ·
  refine y5 (q8 Q4 (sg fun _ Q7 => ?_)); have rf_0 : [[.sl 3 (enc v_1.1.In.a0)], [.sl 3 (enc v_1.1.In.a1)]] = enc ([v_1.1.In.a0, v_1.1.In.a1] : List (List GItem)) := by rfl
  simp only [go_sem]; simp only [rf_0]; refine q8 Q7 (q1n (fun (a_0 : (List (List GItem))) => q44 xv_0 t_0 lazy_0 v_0 v_1 a_0 = some r) [3, 5, 6, 12, 13] (fun a_0 => ([(15, .osl 4 1 (0) (a_0.length))], [(0, .box (Row.row xv_0)), (1, .box (Row.row t_0)), (2, .arr 10 (enc v_0)), (3, .box (Row.row v_1.1)), (4, .arr 1 (enc a_0))])) 5 ?_ ?_)
  ·
   intro _ Q16; refine sM ?_; refine sB h (fun _ h => ?_) fun _ h => ?_
   ·
    obtain ⟨v_7, ev_7, h⟩ := z8 h; simp only [go_sem]; refine q0b [] (z2t c_0 t_0 v_7 ev_7) ?_; obtain ⟨xv_5, F, h⟩ := bI F h; simp only [Int.toNat_natCast, Int.reduceToNat] at F; have rf_5 : (enc ([v_1.1.In.a0, v_1.1.In.a1] : List (List GItem))).set (Int.toNat 1) [.sl 3 (enc v_7)] = enc (List.set ([v_1.1.In.a0, v_1.1.In.a1] : List (List GItem)) (Int.toNat 1) v_7) := by exact q1a _ _ _
    simp only [Int.toNat_natCast, Int.reduceToNat] at rf_5; simp only [go_sem, rf_5, F]; exact au
   · exact au
  ·
   rintro a_0 h
   try dsimp only at h
   rw [q44] at h; refine sg fun _ Q8 => ?_; obtain ⟨v_3, ev_3, h⟩ := z8 h; simp only [go_sem]; refine q7q [3, 6, 12, 13] ([], [(0, .box (Row.row xv_0)), (1, .box (Row.row t_0)), (2, .arr 10 (enc v_0)), (3, .box (Row.row v_1.1))]) 4 [some 0, some 1, some 2, some 3] [.agg (Row.row xv_0), .sl 1 (enc a_0)] ?_; refine q0b [] (z2s xv_0 a_0 v_3 ev_3) ?_; simp only [go_sem]; refine q8 Q8 (sg fun _ Q9 => ?_); refine sM ?_; refine sB h (fun _ h => ?_) fun _ h => ?_
   · exact au
   ·
    refine y5 (q8 Q9 (sg fun _ Q12 => ?_)); obtain ⟨v_4, ev_4, h⟩ := z8 h; simp only [go_sem]; refine q7q [6, 12] ([(16, .sl 3 (enc v_3.1))], [(0, .box (Row.row xv_0)), (1, .box (Row.row t_0)), (2, .arr 10 (enc v_0)), (3, .box (Row.row v_1.1))]) 4 [some 0, some 1, some 2, some 3] [.sl 3 (enc v_1.1.Sent), .sl 3 (enc v_3.1), .v (.bool lazy_0)] ?_; refine q0b [] (z13 v_1.1.Sent v_3.1 lazy_0 v_4 ev_4) ?_; simp only [go_sem]; refine q8 Q12 (sg fun _ Q13 => ?_); obtain ⟨v_5, ev_5, h⟩ := z8 h; simp only [go_sem]; refine qj2 (z4d v_0 t_0 v_5 ev_5) ?_; simp only [go_sem]; refine q8 Q13 (sg fun _ Q14 => ?_); obtain ⟨xv_2, F, h⟩ := bI F h; have rf_2 := q1a v_0 (v_5.1.toNat) (⟨xv_2.Time, xv_2.In, v_3.1, xv_2.Dirty, xv_2.Fired⟩ : GSlot); simp only [q92] at rf_2; obtain ⟨xv_3, F, h⟩ := bI F h; have rf_3 := q1a (List.set v_0 (v_5.1.toNat) (⟨xv_2.Time, xv_2.In, v_3.1, xv_2.Dirty, xv_2.Fired⟩ : GSlot)) (v_5.1.toNat) (⟨xv_3.Time, xv_3.In, xv_3.Sent, false, xv_3.Fired⟩ : GSlot); simp only [q92] at rf_3; obtain ⟨xv_4, F, h⟩ := bI F h; have rf_4 := q1a (List.set (List.set v_0 (v_5.1.toNat) (⟨xv_2.Time, xv_2.In, v_3.1, xv_2.Dirty, xv_2.Fired⟩ : GSlot)) (v_5.1.toNat) (⟨xv_3.Time, xv_3.In, xv_3.Sent, false, xv_3.Fired⟩ : GSlot)) (v_5.1.toNat) (⟨xv_4.Time, xv_4.In, xv_4.Sent, xv_4.Dirty, true⟩ : GSlot); simp only [q92] at rf_4; simp only [go_sem, rf_2, rf_3, rf_4, F]; refine ai ?_; refine ai ?_; refine ai ?_; refine q8 Q14 (sg fun _ Q15 => ?_); obtain ⟨v_6, ev_6, h⟩ := z8 h; simp only [go_sem]
    refine q7q [17, 18] ([], [(0, .box (Row.row xv_0)), (1, .box (Row.row t_0)), (2, .arr 10 (enc (List.set (List.set (List.set v_0 (v_5.1.toNat) (⟨xv_2.Time, xv_2.In, v_3.1, xv_2.Dirty, xv_2.Fired⟩ : GSlot)) (v_5.1.toNat) (⟨xv_3.Time, xv_3.In, xv_3.Sent, false, xv_3.Fired⟩ : GSlot)) (v_5.1.toNat) (⟨xv_4.Time, xv_4.In, xv_4.Sent, xv_4.Dirty, true⟩ : GSlot)))), (3, .box (Row.row v_1.1)), (4, .arr 3 (enc v_4.1)), (5, .arr 3 (enc v_4.2))]) 6 [some 0, some 1, some 2, some 3, some 4, some 5] [.osl 2 10 (0) (List.length (List.set (List.set (List.set v_0 (v_5.1.toNat) (⟨xv_2.Time, xv_2.In, v_3.1, xv_2.Dirty, xv_2.Fired⟩ : GSlot)) (v_5.1.toNat) (⟨xv_3.Time, xv_3.In, xv_3.Sent, false, xv_3.Fired⟩ : GSlot)) (v_5.1.toNat) (⟨xv_4.Time, xv_4.In, xv_4.Sent, xv_4.Dirty, true⟩ : GSlot))), .v (.int .i64 v_5.1)] ?_; refine q0b [2] (qq4 (List.set (List.set (List.set v_0 (v_5.1.toNat) (⟨xv_2.Time, xv_2.In, v_3.1, xv_2.Dirty, xv_2.Fired⟩ : GSlot)) (v_5.1.toNat) (⟨xv_3.Time, xv_3.In, xv_3.Sent, false, xv_3.Fired⟩ : GSlot)) (v_5.1.toNat) (⟨xv_4.Time, xv_4.In, xv_4.Sent, xv_4.Dirty, true⟩ : GSlot)) v_5.1 v_6 ev_6) ?_; simp only [go_sem]; exact au
instance za8 (c_0 : List GSlot) (xv_0 : GNode) (t_0 : GTime) (lazy_0 : Bool) : Ct pp 19 (q57 c_0 xv_0 t_0 lazy_0) [.sl 10 (enc c_0), .agg (Row.row xv_0), .agg (Row.row t_0), .v (.bool lazy_0)] fun r => (.tup [.sl 10 (enc r.1), .sl 3 (enc r.2.1), .sl 3 (enc r.2.2.1), .v (.bool r.2.2.2)]) := ⟨fun r h => (z9e c_0 xv_0 t_0 lazy_0  r h).pure leA⟩
def q9r (g_0 : GGraph) (rec_1 : Int × (List Int) → Option (List Int)) : Int × (List Int) → Option (List Int) :=
 fun (s_2, a_1) =>
 (if (((decide (0 ≤ s_2)) && (decide (s_2 < (g_0.Parent.length : Int)))) && (decide ((a_1.length : Int) < 10))) = true then x9 ((List.length ([s_2] : List Int) + a_1.length) * 8 ≤ 140737488355328) (
 q9 (idx g_0.Parent s_2) (fun xv_2 =>
 rec_1 (xv_2, (([s_2] : List Int) ++ a_1))))
 else some a_1)
def q2i (g_0 : GGraph) (s_0 : Int) : Option (List Int) :=
 x8 (q9r g_0) rounds (s_0, [])
theorem q4g (g_0 : GGraph) (s_0 : Int)  (r : List Int) (h : q2i g_0 s_0 = some r) : DetS pp 46 [.agg (Row.row g_0), .v (.int .i64 s_0)] [] 0 (.osl 0 1 (0) (r.length)) [(0, .arr 1 (enc r))] 1 := by
 refine dtI Tryz.func46 rfl ?_; rw [q2i] at h; have F := trivial; refine sM ?_; refine sM ?_; refine jg fun _ Q3 => ?_; refine w9 fun _ Q4 => ?_; refine d9 h [2] (fun x => ([(1, .v (.int .i64 x.1)), (5, .osl 1 1 (0) (x.2.length))], [(0, .box (Row.row g_0)), (1, .arr 1 (enc x.2))])) 2 ?_; rintro m_1 ⟨s_2, a_1⟩ h _ Q5; rw [q9r] at h; refine sg fun _ Q6 => ?_; refine sM ?_; refine sB h (fun _ h => ?_) fun _ h => ?_
 ·
  refine y5 (q8 Q6 (w9 fun _ Q8 => ?_)); refine sg fun _ Q9 => ?_; have rf_4 : [[.v (.int .i64 s_2)]] = enc ([s_2] : List Int) := by rfl
  obtain ⟨g_3, h⟩ := q0v h; have F := And.intro F g_3; simp only [List.length_cons, List.length_nil, Nat.zero_add, List.length_append] at g_3; have rf_5 : [[.v (.int .i64 s_2)]] ++ enc a_1 = enc (([s_2] : List Int) ++ a_1) := by exact (q6f ([s_2] : List Int) a_1).symm
  simp only [go_sem, g_3, rf_5]; refine And.intro (by (intros; simp_all; done)) ?_; exact au
 · exact au
instance zm2 (g_0 : GGraph) (s_0 : Int) : Ct pp 46 (q2i g_0 s_0) [.agg (Row.row g_0), .v (.int .i64 s_0)] fun r => (.sl 1 (enc r)) := ⟨fun r h => (q4g g_0 s_0  r h).pure leA⟩
def q1p (nv_0 : Int) (size_0 : Int) : Option Bool :=
 some ((decide (0 ≤ nv_0)) && (decide (nv_0 < size_0)))
instance j1p (nv_0 : Int) (size_0 : Int) : Ct pp 83 (q1p nv_0 size_0) [.v (.int .i64 nv_0), .v (.int .i64 size_0)] fun r => (.v (.bool r)) := ctI Tryz.func83 rfl (by rw [q1p]; exact au1)
def qu3 (g_0 : GGraph) (rec_1 : Int × Int → Option Int) : Int × Int → Option Int :=
 fun (d_1, s_1) =>
 q9 (q1p s_1 (g_0.Parent.length : Int)) (fun v_2 =>
 (if (v_2 && (decide (d_1 ≤ 8))) = true then q9 (idx g_0.Parent s_1) (fun xv_2 =>
 rec_1 (i64.wrap (d_1 + 1), xv_2))
 else some d_1))
def qi5 (g_0 : GGraph) (scope_0 : Int) : Option Int :=
 x8 (qu3 g_0) rounds (0, scope_0)
instance j3h (g_0 : GGraph) (scope_0 : Int) : Ct pp 84 (qi5 g_0 scope_0) [.agg (Row.row g_0), .v (.int .i64 scope_0)] fun r => (.v (.int .i64 r)) := ctK Tryz.func84 rfl (by rw [qi5]) (by
 intro r h F; refine sM ?_; refine sM ?_; refine jg fun _ Q3 => ?_; refine sM ?_; refine w9 fun _ Q5 => ?_; refine d9 h [2] (fun x => ([(5, .v (.int .i64 x.1)), (6, .v (.int .i64 x.2))], [(0, .box (Row.row g_0))])) 1 ?_; rintro m_1 ⟨d_1, s_1⟩ h _ Q6; rw [qu3] at h; exact au)
def qi0 (g_0 : GGraph) (s_0 : Int) : Option Bool :=
 (if (s_0 == 0) = true then q9 (idx g_0.Parent 0) (fun xv_0 =>
 (if (xv_0 == (-1)) = true then q9 (idx g_0.Bound 0) (fun xv_1 =>
 some (xv_1 == 0))
 else some false))
 else q9 (idx g_0.Parent s_0) (fun xv_2 =>
 q9 (q1p xv_2 s_0) (fun v_0 =>
 (if v_0 = true then q9 (idx g_0.Bound s_0) (fun xv_3 =>
 (if (decide (1 ≤ xv_3)) = true then (if (decide (xv_3 ≤ 64)) = true then q9 (qi5 g_0 s_0) (fun v_1 =>
 some (decide (v_1 ≤ 4)))
 else some false)
 else some false))
 else some false))))
instance j3c (g_0 : GGraph) (s_0 : Int) : Ct pp 74 (qi0 g_0 s_0) [.agg (Row.row g_0), .v (.int .i64 s_0)] fun r => (.v (.bool r)) := ctI Tryz.func74 rfl (by rw [qi0]; exact au1)
def qi9 (s_0 : List GNode) (f_0 : GNode → Option Bool) (rec_1 : Int → Option Int) : Int → Option Int :=
 fun t8_1 =>
 (if (decide (t8_1 < (s_0.length : Int))) = true then q9 (idx s_0 t8_1) (fun xv_2 =>
 q9 (f_0 xv_2) (fun v_2 =>
 (if v_2 = true then some t8_1
 else rec_1 (i64.wrap (t8_1 + 1)))))
 else some (-1))
def q9u (s_0 : List GNode) (f_0 : GNode → Option Bool) : Option Int :=
 x8 (qi9 s_0 f_0) rounds 0
theorem z0x (s_0 : List GNode) (f_0 : GNode → Option Bool) (g_f_0 : FuncId) (c_f_0 : List AV) (F_f_0 : q00 c_f_0 = true) (E_f_0 : y8 pp g_f_0 = true) (H_f_0 : ∀ (x0 : GNode) (r : Bool), f_0 x0 = some r → PureS pp g_f_0 ([.agg (Row.row x0)] ++ c_f_0) 0 (.v (.bool r))) (r : Int) (h : q9u s_0 f_0 = some r) : PureS pp 167 [.sl 4 (enc s_0), .clo g_f_0 c_f_0] 0 (.v (.int .i64 r)) := by
 refine ptI Tryz.func167 rfl ?_; rw [q9u] at h; have F := trivial; refine sM ?_; refine jg fun _ Q2 => ?_; refine sM ?_; refine w9 fun _ Q4 => ?_; refine d9 h [0, 1, 7] (fun t8_1 => ([(8, .v (.int .i64 t8_1))], [])) 0 ?_; rintro m_1 t8_1 h _ Q5; rw [qi9] at h; refine sM ?_; refine sg fun _ Q7 => ?_; refine sB h (fun _ h => ?_) fun _ h => ?_
 ·
  refine y5 (q8 Q7 (sg fun _ Q8 => ?_)); refine w9 fun _ Q9 => ?_; refine sM ?_; refine sg fun _ Q11 => ?_; obtain ⟨xv_2, F, h⟩ := bI F h; obtain ⟨v_2, ev_2, h⟩ := z8 h; simp only [go_sem, E_f_0, F]; refine ai ?_; refine q6k (H_f_0 xv_2 v_2 ev_2) (by rfl) (by simp [go_sem, q00, q09, F_f_0]) ?_; simp only [go_sem]; refine q8 Q11 (sB h (fun _ h => ?_) fun _ h => ?_)
  · refine sM ?_; refine q04 (q0h Q9 (q0m Q8 (q2n Q5 (q0h Q4 (q0m Q2 ?_))))); simp only [go_sem]; obtain rfl := Option.some.inj h; refine q1u rfl ?_; exact leA
  · refine y5 (q05 Q9 (q8 Q8 ?_)); simp only [go_sem]; refine u7 Q5 ?_; exact nxC _ h [] leA
 · refine q0i (q0r Q7 (q0j Q5 (q0d Q4 (q8 Q2 (sM ?_))))); refine q04 ?_; simp only [go_sem]; obtain rfl := Option.some.inj h; refine q1u rfl ?_; exact leA
def q61 (s_0 : List GNode) (f_0 : GNode → Option Bool) : Option Bool :=
 q9 (q9u s_0 f_0) (fun v_0 =>
 some (decide (0 ≤ v_0)))
theorem qy9 (s_0 : List GNode) (f_0 : GNode → Option Bool) (g_f_0 : FuncId) (c_f_0 : List AV) (F_f_0 : q00 c_f_0 = true) (E_f_0 : y8 pp g_f_0 = true) (H_f_0 : ∀ (x0 : GNode) (r : Bool), f_0 x0 = some r → PureS pp g_f_0 ([.agg (Row.row x0)] ++ c_f_0) 0 (.v (.bool r))) (r : Bool) (h : q61 s_0 f_0 = some r) : PureS pp 151 [.sl 4 (enc s_0), .clo g_f_0 c_f_0] 0 (.v (.bool r)) := by
 refine ptI Tryz.func151 rfl ?_; rw [q61] at h; have F := trivial; refine sM ?_; refine sg fun _ Q2 => ?_; obtain ⟨v_0, ev_0, h⟩ := z8 h; simp only [go_sem]; refine q6k (z0x s_0 f_0 g_f_0 c_f_0 F_f_0 E_f_0 H_f_0 v_0 ev_0) (by rfl) (by simp [go_sem, q00, q09, F_f_0]) ?_; simp only [go_sem]; refine q8 Q2 (q04 ?_); simp only [go_sem]; obtain rfl := Option.some.inj h; refine q1u rfl ?_; exact leA
def q9f (xv_0 : GNode) (cap_0 : Int) : Option Bool :=
 some (xv_0.Scope == cap_0)
instance z5r (xv_0 : GNode) (cap_0 : Int) : Ct pp 152 (q9f xv_0 cap_0) [.agg (Row.row xv_0), .el 1 [[.v (.int .i64 cap_0)]] 0 0] fun r => (.v (.bool r)) := ctI Tryz.func152 rfl (by rw [q9f]; exact au1)
def q8t (g_0 : GGraph) (nv_0 : Int) (xv_0 : GNode) (fresh_2 : Bool) : Option Bool :=
 (if fresh_2 = true then x9 (0 ≤ 0 ∧ 0 ≤ nv_0 ∧ nv_0 ≤ (g_0.Nodes.length : Int)) (
 q9 (q61 (List.take (nv_0.toNat) g_0.Nodes) (fun x0_ => q9f x0_ xv_0.Scope)) (fun v_0 =>
 some (!v_0)))
 else some false)
def qq6 (g_0 : GGraph) (nv_0 : Int) (xv_0 : GNode) (xv_2 : Int) (rec_2 : Bool × Int → Option Bool) : Bool × Int → Option Bool :=
 fun (fresh_4, p_3) =>
 (if (decide (0 ≤ p_3)) = true then (if (p_3 == xv_0.Scope) = true then some true
 else q9 (idx g_0.Parent p_3) (fun xv_8 =>
 rec_2 ((fresh_4 || (p_3 == xv_2)), xv_8)))
 else q8t g_0 nv_0 xv_0 fresh_4)
def qd6 (g_0 : GGraph) (nv_0 : Int) : Option Bool :=
 q9 (idx g_0.Nodes nv_0) (fun xv_0 =>
 (if (nv_0 == 0) = true then some (xv_0.Scope == 0)
 else q9 (idx g_0.Nodes (i64.wrap (nv_0 - 1))) (fun xv_1 =>
 q9 (idx g_0.Parent xv_0.Scope) (fun xv_2 =>
 x8 (qq6 g_0 nv_0 xv_0 xv_2) rounds (false, xv_1.Scope)))))
instance j1q (g_0 : GGraph) (nv_0 : Int) : Ct pp 121 (qd6 g_0 nv_0) [.agg (Row.row g_0), .v (.int .i64 nv_0)] fun r => (.v (.bool r)) := ctK Tryz.func121 rfl (by rw [qd6]) (by
 intro r h F; refine sM ?_; refine sg fun _ Q2 => ?_; obtain ⟨xv_0, F, h⟩ := bI F h; simp only [go_sem, F]; refine ai ?_; refine q8 Q2 (sg fun _ Q3 => ?_); refine sM ?_; refine sB h (fun _ h => ?_) fun _ h => ?_
 · exact au
 ·
  refine y5 (q8 Q3 (sg fun _ Q6 => ?_)); obtain ⟨xv_1, F, h⟩ := bI F h; simp only [go_sem, F]; refine ai ?_; refine q8 Q6 (sg fun _ Q7 => ?_); obtain ⟨xv_2, F, h⟩ := bI F h; simp only [go_sem, F]; refine ai ?_; refine q8 Q7 (sM ?_); refine q1n (fun (fresh_2 : Bool) => q8t g_0 nv_0 xv_0 fresh_2 = some r) [1, 2, 5] (fun fresh_2 => ([(8, .v (.bool fresh_2))], [(0, .box (Row.row g_0)), (1, .box [.v (.int .i64 xv_0.Scope)])])) 2 ?_ ?_
  · intro _ Q10; refine sM ?_; refine w9 fun _ Q12 => ?_; refine d9 h [1, 2, 5, 7] (fun x => ([(8, .v (.bool x.1)), (9, .v (.int .i64 x.2))], [(0, .box (Row.row g_0)), (1, .box [.v (.int .i64 xv_0.Scope)])])) 2 ?_; rintro m_2 ⟨fresh_4, p_3⟩ h _ Q13; rw [qq6] at h; exact au
  ·
   rintro fresh_2 h
   try dsimp only at h
   rw [q8t] at h; refine sg fun _ Q9 => ?_; simp only [go_sem]; rcases hb_7 : fresh_2 with _ | _
   · replace h := q1m h hb_7; simp only [go_sem, hb_7]; exact au
   · replace h := q1l h hb_7; obtain ⟨F, h⟩ := bG F h; obtain ⟨v_0, ev_0, h⟩ := z8 h; simp only [go_sem, hb_7, F]; refine qj2 (qy9 (List.take (nv_0.toNat) g_0.Nodes) (fun x0_ => q9f x0_ xv_0.Scope) 152 [.el 1 [[.v (.int .i64 xv_0.Scope)]] 0 0] (by rfl) (by kernel_rfl) (fun y0 r_ e_ => z5r y0 xv_0.Scope r_ e_) v_0 ev_0) ?_; simp only [go_sem]; exact au)
def q3y (g_0 : GGraph) (nv_0 : Int) (xv_0 : GNode) (rec_2 : Int → Option Bool) : Int → Option Bool :=
 fun i_3 =>
 (if (decide (i_3 < nv_0)) = true then q9 (idx g_0.Nodes i_3) (fun xv_10 =>
 (if (xv_10.Scope == xv_0.Scope) = true then some false
 else rec_2 (i64.wrap (i_3 + 1))))
 else some true)
def q3x (g_0 : GGraph) (nv_0 : Int) (xv_0 : GNode) (under_2 : Bool) : Option Bool :=
 (if (!under_2) = true then some false
 else x8 (q3y g_0 nv_0 xv_0) rounds 0)
def q63 (g_0 : GGraph) (nv_0 : Int) (xv_0 : GNode) (v_0 : List Int) (rec_3 : Bool × Int → Option Bool) : Bool × Int → Option Bool :=
 fun (under_4, i_5) =>
 (if (decide (i_5 < (v_0.length : Int))) = true then q9 (idx v_0 i_5) (fun xv_15 =>
 (if (xv_15 == xv_0.Scope) = true then some true
 else (if under_4 = true then rec_3 (true, i64.wrap (i_5 + 1))
 else q9 (idx g_0.Parent xv_0.Scope) (fun xv_16 =>
 rec_3 ((xv_15 == xv_16), i64.wrap (i_5 + 1))))))
 else q3x g_0 nv_0 xv_0 under_4)
def q5g (g_0 : GGraph) (nv_0 : Int) : Option Bool :=
 q9 (idx g_0.Nodes nv_0) (fun xv_0 =>
 (if (nv_0 == 0) = true then some (xv_0.Scope == 0)
 else q9 (idx g_0.Nodes (i64.wrap (nv_0 - 1))) (fun xv_1 =>
 q9 (q2i g_0 xv_1.Scope) (fun v_0 =>
 x8 (q63 g_0 nv_0 xv_0 v_0) rounds (false, 0)))))
instance zg3 (g_0 : GGraph) (nv_0 : Int) : Ct pp 92 (q5g g_0 nv_0) [.agg (Row.row g_0), .v (.int .i64 nv_0)] fun r => (.v (.bool r)) := ctK Tryz.func92 rfl (by rw [q5g]) (by
 intro r h F; refine sM ?_; refine sg fun _ Q2 => ?_; obtain ⟨xv_0, F, h⟩ := bI F h; simp only [go_sem, F]; refine ai ?_; refine q8 Q2 (sg fun _ Q3 => ?_); refine sM ?_; refine sB h (fun _ h => ?_) fun _ h => ?_
 · exact au
 ·
  refine y5 (q8 Q3 (sg fun _ Q6 => ?_)); refine q02 ?_; refine j9m ?_; obtain ⟨xv_1, F, h⟩ := bI F h; obtain ⟨v_0, ev_0, h⟩ := z8 h; simp only [go_sem, F]; refine ai ?_; refine q0b [] (q4g g_0 xv_1.Scope v_0 ev_0) ?_; simp only [go_sem]; refine q8 Q6 (sM ?_); refine q1n (fun (under_2 : Bool) => q3x g_0 nv_0 xv_0 under_2 = some r) [1, 2, 5] (fun under_2 => ([(7, .v (.bool under_2))], [(0, .box (Row.row g_0))])) 1 ?_ ?_
  · intro _ Q22; refine sM ?_; refine w9 fun _ Q24 => ?_; refine d9 h [1, 2, 5, 6] (fun x => ([(7, .v (.bool x.1)), (8, .v (.int .i64 x.2))], [(0, .box (Row.row g_0)), (1, .arr 1 (enc v_0))])) 2 ?_; rintro m_3 ⟨under_4, i_5⟩ h _ Q25; rw [q63] at h; exact au
  ·
   rintro under_2 h
   try dsimp only at h
   rw [q3x] at h; refine sg fun _ Q8 => ?_; refine sM ?_; refine sB h (fun _ h => ?_) fun _ h => ?_
   · exact au
   · refine y5 (q8 Q8 (jg fun _ Q11 => ?_)); refine sM ?_; refine w9 fun _ Q13 => ?_; refine d9 h [1, 2, 5] (fun i_3 => ([(9, .v (.int .i64 i_3))], [(0, .box (Row.row g_0))])) 1 ?_; rintro m_2 i_3 h _ Q14; rw [q3y] at h; exact au)
def q7d (p_0 : List GIns) (rec_1 : Int → Option Bool) : Int → Option Bool :=
 fun i_1 =>
 (if (decide (i_1 < (p_0.length : Int))) = true then q9 (idx p_0 i_1) (fun xv_2 =>
 (if ((((decide (xv_2.Op < 1)) || (decide (16 < xv_2.Op))) || (((xv_2.Op == 14) || (xv_2.Op == 15)) && ((decide (xv_2.N < 0)) || (decide ((p_0.length : Int) < xv_2.N))))) || ((((!(xv_2.Op == 1)) && (!(xv_2.Op == 14))) && (!(xv_2.Op == 15))) && (!(xv_2.N == 0)))) = true then some false
 else rec_1 (i64.wrap (i_1 + 1))))
 else some (decide ((p_0.length : Int) ≤ 64)))
def q6e (p_0 : List GIns) : Option Bool :=
 x8 (q7d p_0) rounds 0
instance zm5 (p_0 : List GIns) : Ct pp 93 (q6e p_0) [.sl 2 (enc p_0)] fun r => (.v (.bool r)) := ctK Tryz.func93 rfl (by rw [q6e]) (by
 intro r h F; refine sM ?_; refine jg fun _ Q2 => ?_; refine sM ?_; refine w9 fun _ Q4 => ?_; refine d9 h [0] (fun i_1 => ([(3, .v (.int .i64 i_1))], [])) 0 ?_; rintro m_1 i_1 h _ Q5; rw [q7d] at h; exact au)
def qo7 (kind_0 : Int) : Option (Bool × Bool) :=
 some ((((kind_0 == 10) || (kind_0 == 11)) || (kind_0 == 12)), ((kind_0 == 1) || (kind_0 == 15)))
instance j1r (kind_0 : Int) : Ct pp 120 (qo7 kind_0) [.v (.int .i64 kind_0)] fun r => (.tup [.v (.bool r.1), .v (.bool r.2)]) := ctI Tryz.func120 rfl (by rw [qo7]; exact au1)
def q9z (kind_0 : Int) : Option Int :=
 (if ((kind_0 == 5) || (kind_0 == 9)) = true then some 2
 else (if ((decide (1 < kind_0)) && (decide (kind_0 ≤ 15))) = true then some 1
 else some 0))
instance j3g (kind_0 : Int) : Ct pp 123 (q9z kind_0) [.v (.int .i64 kind_0)] fun r => (.v (.int .i64 r)) := ctI Tryz.func123 rfl (by rw [q9z]; exact au1)
def qi2 (g_0 : GGraph) (xv_0 : GNode) : Option Int :=
 (if (xv_0.Kind == 11) = true then q9 (idx g_0.Parent xv_0.Scope) (fun xv_1 =>
 some xv_1)
 else some xv_0.Scope)
instance j3e (g_0 : GGraph) (xv_0 : GNode) : Ct pp 124 (qi2 g_0 xv_0) [.agg (Row.row g_0), .agg (Row.row xv_0)] fun r => (.v (.int .i64 r)) := ctI Tryz.func124 rfl (by rw [qi2]; exact au1)
def qi1 (kind_0 : Int) : Option Bool :=
 some (((decide (6 ≤ kind_0)) && (decide (kind_0 ≤ 9))) || (kind_0 == 14))
instance j3d (kind_0 : Int) : Ct pp 125 (qi1 kind_0) [.v (.int .i64 kind_0)] fun r => (.v (.bool r)) := ctI Tryz.func125 rfl (by rw [qi1]; exact au1)
def qj0 (s_0 : List GEdge) (f_0 : GEdge → Option Bool) (rec_1 : Int → Option Int) : Int → Option Int :=
 fun t8_1 =>
 (if (decide (t8_1 < (s_0.length : Int))) = true then q9 (idx s_0 t8_1) (fun xv_2 =>
 q9 (f_0 xv_2) (fun v_2 =>
 (if v_2 = true then some t8_1
 else rec_1 (i64.wrap (t8_1 + 1)))))
 else some (-1))
def q9v (s_0 : List GEdge) (f_0 : GEdge → Option Bool) : Option Int :=
 x8 (qj0 s_0 f_0) rounds 0
theorem z0y (s_0 : List GEdge) (f_0 : GEdge → Option Bool) (g_f_0 : FuncId) (c_f_0 : List AV) (F_f_0 : q00 c_f_0 = true) (E_f_0 : y8 pp g_f_0 = true) (H_f_0 : ∀ (x0 : GEdge) (r : Bool), f_0 x0 = some r → PureS pp g_f_0 ([.agg (Row.row x0)] ++ c_f_0) 0 (.v (.bool r))) (r : Int) (h : q9v s_0 f_0 = some r) : PureS pp 168 [.sl 4 (enc s_0), .clo g_f_0 c_f_0] 0 (.v (.int .i64 r)) := by
 refine ptI Tryz.func168 rfl ?_; rw [q9v] at h; have F := trivial; refine sM ?_; refine jg fun _ Q2 => ?_; refine sM ?_; refine w9 fun _ Q4 => ?_; refine d9 h [0, 1, 7] (fun t8_1 => ([(8, .v (.int .i64 t8_1))], [])) 0 ?_; rintro m_1 t8_1 h _ Q5; rw [qj0] at h; refine sM ?_; refine sg fun _ Q7 => ?_; refine sB h (fun _ h => ?_) fun _ h => ?_
 ·
  refine y5 (q8 Q7 (sg fun _ Q8 => ?_)); refine w9 fun _ Q9 => ?_; refine sM ?_; refine sg fun _ Q11 => ?_; obtain ⟨xv_2, F, h⟩ := bI F h; obtain ⟨v_2, ev_2, h⟩ := z8 h; simp only [go_sem, E_f_0, F]; refine ai ?_; refine q6k (H_f_0 xv_2 v_2 ev_2) (by rfl) (by simp [go_sem, q00, q09, F_f_0]) ?_; simp only [go_sem]; refine q8 Q11 (sB h (fun _ h => ?_) fun _ h => ?_)
  · refine sM ?_; refine q04 (q0h Q9 (q0m Q8 (q2n Q5 (q0h Q4 (q0m Q2 ?_))))); simp only [go_sem]; obtain rfl := Option.some.inj h; refine q1u rfl ?_; exact leA
  · refine y5 (q05 Q9 (q8 Q8 ?_)); simp only [go_sem]; refine u7 Q5 ?_; exact nxC _ h [] leA
 · refine q0i (q0r Q7 (q0j Q5 (q0d Q4 (q8 Q2 (sM ?_))))); refine q04 ?_; simp only [go_sem]; obtain rfl := Option.some.inj h; refine q1u rfl ?_; exact leA
def q62 (s_0 : List GEdge) (f_0 : GEdge → Option Bool) : Option Bool :=
 q9 (q9v s_0 f_0) (fun v_0 =>
 some (decide (0 ≤ v_0)))
theorem qz0 (s_0 : List GEdge) (f_0 : GEdge → Option Bool) (g_f_0 : FuncId) (c_f_0 : List AV) (F_f_0 : q00 c_f_0 = true) (E_f_0 : y8 pp g_f_0 = true) (H_f_0 : ∀ (x0 : GEdge) (r : Bool), f_0 x0 = some r → PureS pp g_f_0 ([.agg (Row.row x0)] ++ c_f_0) 0 (.v (.bool r))) (r : Bool) (h : q62 s_0 f_0 = some r) : PureS pp 154 [.sl 4 (enc s_0), .clo g_f_0 c_f_0] 0 (.v (.bool r)) := by
 refine ptI Tryz.func154 rfl ?_; rw [q62] at h; have F := trivial; refine sM ?_; refine sg fun _ Q2 => ?_; obtain ⟨v_0, ev_0, h⟩ := z8 h; simp only [go_sem]; refine q6k (z0y s_0 f_0 g_f_0 c_f_0 F_f_0 E_f_0 H_f_0 v_0 ev_0) (by rfl) (by simp [go_sem, q00, q09, F_f_0]) ?_; simp only [go_sem]; refine q8 Q2 (q04 ?_); simp only [go_sem]; obtain rfl := Option.some.inj h; refine q1u rfl ?_; exact leA
def qi3 (e_0 : GEdge) (cap_0 : Int) (cap_1 : Int) : Option Bool :=
 some ((e_0.To == cap_0) && (e_0.Port == cap_1))
instance z8a (e_0 : GEdge) (cap_0 : Int) (cap_1 : Int) : Ct pp 155 (qi3 e_0 cap_0 cap_1) [.agg (Row.row e_0), .el 1 [[.v (.int .i64 cap_0)]] 0 0, .el 1 [[.v (.int .i64 cap_1)]] 0 0] fun r => (.v (.bool r)) := ctI Tryz.func155 rfl (by rw [qi3]; exact au1)
def qj9 (l_0 : List GEdge) (node_0 : Int) (port_0 : Int) : Option Bool :=
 q9 (q62 l_0 (fun x0_ => qi3 x0_ node_0 port_0)) (fun v_0 =>
 some v_0)
instance j6c (l_0 : List GEdge) (node_0 : Int) (port_0 : Int) : Ct pp 126 (qj9 l_0 node_0 port_0) [.sl 4 (enc l_0), .v (.int .i64 node_0), .v (.int .i64 port_0)] fun r => (.v (.bool r)) := ctK Tryz.func126 rfl (by rw [qj9]) (by
 intro r h F; refine sM ?_; refine sg fun _ Q2 => ?_; obtain ⟨v_0, ev_0, h⟩ := z8 h; simp only [go_sem]; refine qj2 (qz0 l_0 (fun x0_ => qi3 x0_ node_0 port_0) 155 [.el 1 [[.v (.int .i64 node_0)]] 0 0, .el 1 [[.v (.int .i64 port_0)]] 0 0] (by rfl) (by kernel_rfl) (fun y0 r_ e_ => z8a y0 node_0 port_0 r_ e_) v_0 ev_0) ?_; simp only [go_sem]; exact au)
def q1v (xv_0 : GNode) : Option Int :=
 (if (xv_0.Kind == 2) = true then q9 (q6e xv_0.Prog) (fun v_1 =>
 (if ((!v_1) || ((!(xv_0.Kind == 2)) && (decide (0 < (xv_0.Prog.length : Int))))) = true then some 13
 else some 0))
 else (if ((!(xv_0.Kind == 2)) && (decide (0 < (xv_0.Prog.length : Int)))) = true then some 13
 else some 0))
def q74 (g_0 : GGraph) (nv_0 : Int) : Option Int :=
 q9 (idx g_0.Nodes nv_0) (fun xv_0 =>
 (if ((decide (xv_0.Kind < 1)) || (decide (15 < xv_0.Kind))) = true then some 1
 else (if ((decide (xv_0.Scope < 0)) || (decide ((g_0.Parent.length : Int) ≤ xv_0.Scope))) = true then some 6
 else (if ((((xv_0.Scope == 0) && (decide (10 ≤ xv_0.Kind))) && (decide (xv_0.Kind ≤ 12))) || ((decide (0 < xv_0.Scope)) && ((xv_0.Kind == 1) || (xv_0.Kind == 15)))) = true then some 6
 else q9 (q5g g_0 nv_0) (fun v_0 =>
 (if (!v_0) = true then some 6
 else (if (xv_0.Kind == 4) = true then (if (decide (xv_0.Arg < 1)) = true then some 1
 else q1v xv_0)
 else (if (xv_0.Kind == 3) = true then q1v xv_0
 else (if (!(xv_0.Arg == 0)) = true then some 1
 else q1v xv_0)))))))))
instance zp7 (g_0 : GGraph) (nv_0 : Int) : Ct pp 47 (q74 g_0 nv_0) [.agg (Row.row g_0), .v (.int .i64 nv_0)] fun r => (.v (.int .i64 r)) := ctK Tryz.func47 rfl (by rw [q74]) (by
 intro r h F; refine sM ?_; refine sg fun _ Q2 => ?_; obtain ⟨xv_0, F, h⟩ := bI F h; simp only [go_sem, F]; refine ai ?_; refine q8 Q2 (sg fun _ Q3 => ?_); refine sM ?_; refine sB h (fun _ h => ?_) fun _ h => ?_
 · exact au
 ·
  refine y5 (q8 Q3 (sg fun _ Q6 => ?_)); refine sM ?_; refine sB h (fun _ h => ?_) fun _ h => ?_
  · exact au
  ·
   refine y5 (q8 Q6 (sg fun _ Q9 => ?_)); refine sg fun _ Q10 => ?_; simp only [go_sem]; refine And.intro (by (simp +contextual only [and_self, implies_true, true_and, and_true, imp_self]; done)) ?_; refine And.intro (by (simp +contextual only [and_self, implies_true, true_and, and_true, imp_self]; done)) ?_; refine q8 Q10 (sB h (fun _ h => ?_) fun _ h => ?_)
   · exact au
   ·
    refine y5 (q8 Q9 (sg fun _ Q12 => ?_)); refine sg fun _ Q13 => ?_; simp only [go_sem]; refine q0o h fun v_0 h => ?_; simp only [go_sem]; refine q8 Q13 (sB h (fun _ h => ?_) fun _ h => ?_)
    · exact au
    ·
     refine y5 (q8 Q12 (q1n (fun (_ : Unit) => q1v xv_0 = some r) [] (fun _ => ([(5, .ptr 0 0)], [(0, .box (Row.row xv_0))])) 1 ?_ ?_))
     · intro _ Q21; exact au
     ·
      rintro ⟨⟩ h
      try dsimp only at h
      rw [q1v] at h; exact au)
def q4l (kind_0 : Int) : Option Int :=
 (if ((decide (kind_0 < 1)) || (decide (15 < kind_0))) = true then some 0
 else q9 (idx ([0, 0, 1, 1, 1, 2, 1, 1, 1, 2, 1, 1, 1, 1, 1, 1] : List Int) kind_0) (fun xv_0 =>
 some xv_0))
instance z1y (kind_0 : Int) : Ct pp 49 (q4l kind_0) [.v (.int .i64 kind_0)] fun r => (.v (.int .i64 r)) := ctK Tryz.func49 rfl (by rw [q4l]) (by
 intro r h F; refine sM ?_; refine sg fun _ Q2 => ?_; refine sM ?_; refine sB h (fun _ h => ?_) fun _ h => ?_
 · exact au
 · refine y5 (q8 Q2 (sg fun _ Q5 => ?_)); obtain ⟨xv_0, ex0, h⟩ := z8 h; obtain ⟨f0a, f0b, f0c, fxv_0d⟩ := z96 (f := (fun y => AV.v (.int .i64 y))) ex0; simp only [List.cons_append, List.nil_append, List.append_nil, List.map_cons, List.map_nil, List.length_cons, List.length_nil, Nat.zero_add, Nat.reduceAdd] at f0b f0c fxv_0d; simp only [go_sem, f0a, f0b, f0c, fxv_0d]; refine ai ?_; refine ai ?_; simp only [List.getD_eq_getElem?_getD, Nat.mul_one, fxv_0d, Option.map_some, Option.getD_some, true_and]; exact au)
def q4m (g_0 : GGraph) (nv_0 : Int) (gives_0 : Bool) : Option Int :=
 q9 (idx g_0.Nodes nv_0) (fun xv_0 =>
 (if (((xv_0.Kind == 10) && (!gives_0)) || ((xv_0.Kind == 11) && gives_0)) = true then q9 (idx g_0.Parent xv_0.Scope) (fun xv_1 =>
 some xv_1)
 else some xv_0.Scope))
instance z1z (g_0 : GGraph) (nv_0 : Int) (gives_0 : Bool) : Ct pp 94 (q4m g_0 nv_0 gives_0) [.agg (Row.row g_0), .v (.int .i64 nv_0), .v (.bool gives_0)] fun r => (.v (.int .i64 r)) := ctI Tryz.func94 rfl (by rw [q4m]; exact au1)
def q5h (g_0 : GGraph) (nv_0 : Int) (xv_0 : GEdge) (rec_1 : Int → Option Int) : Int → Option Int :=
 fun i_1 =>
 (if (decide (i_1 < nv_0)) = true then q9 (idx g_0.Edges i_1) (fun xv_5 =>
 (if (xv_5.To == xv_0.To) = true then (if (xv_5.Port == xv_0.Port) = true then some 7
 else rec_1 (i64.wrap (i_1 + 1)))
 else rec_1 (i64.wrap (i_1 + 1))))
 else some 0)
def q75 (g_0 : GGraph) (nv_0 : Int) : Option Int :=
 q9 (idx g_0.Edges nv_0) (fun xv_0 =>
 (if ((((decide (xv_0.From < 0)) || (decide ((g_0.Nodes.length : Int) ≤ xv_0.From))) || (decide (xv_0.To < 0))) || (decide ((g_0.Nodes.length : Int) ≤ xv_0.To))) = true then some 7
 else q9 (idx g_0.Nodes xv_0.From) (fun xv_1 =>
 (if ((xv_1.Kind == 15) || (decide (xv_0.Port < 0))) = true then some 7
 else q9 (idx g_0.Nodes xv_0.To) (fun xv_2 =>
 q9 (q4l xv_2.Kind) (fun v_0 =>
 (if (decide (v_0 ≤ xv_0.Port)) = true then some 7
 else q9 (q4m g_0 xv_0.From true) (fun v_1 =>
 q9 (q4m g_0 xv_0.To false) (fun v_2 =>
 (if (!(v_1 == v_2)) = true then some 6
 else (if ((!(xv_1.Kind == 12)) && (decide (xv_0.To ≤ xv_0.From))) = true then some 8
 else (if ((!xv_0.Exchange) && (((((xv_2.Kind == 6) || (xv_2.Kind == 7)) || (xv_2.Kind == 8)) || (xv_2.Kind == 9)) || (xv_2.Kind == 14))) = true then some 1
 else x8 (q5h g_0 nv_0 xv_0) rounds 0))))))))))))
instance zp8 (g_0 : GGraph) (nv_0 : Int) : Ct pp 48 (q75 g_0 nv_0) [.agg (Row.row g_0), .v (.int .i64 nv_0)] fun r => (.v (.int .i64 r)) := ctK Tryz.func48 rfl (by rw [q75]) (by
 intro r h F; refine sM ?_; refine sg fun _ Q2 => ?_; obtain ⟨xv_0, F, h⟩ := bI F h; simp only [go_sem, F]; refine ai ?_; refine q8 Q2 (sM ?_); refine sg fun _ Q4 => ?_; refine sg fun _ Q5 => ?_; refine q02 ?_; refine j9m ?_; simp only [go_sem]; rcases hb_0 : ((((decide (xv_0.From < 0)) || (decide ((g_0.Nodes.length : Int) ≤ xv_0.From))) || (decide (xv_0.To < 0))) || (decide ((g_0.Nodes.length : Int) ≤ xv_0.To))) with _ | _
 ·
  replace h := q1m h hb_0; obtain ⟨xv_1, F, h⟩ := bI F h; simp only [go_sem, hb_0, F]; refine ai ?_; rcases hb_1 : ((xv_1.Kind == 15) || (decide (xv_0.Port < 0))) with _ | _
  ·
   replace h := q1m h hb_1; obtain ⟨xv_2, F, h⟩ := bI F h; obtain ⟨v_0, ev_0, h⟩ := z8 h; simp only [go_sem, hb_1, F]; refine ai ?_; refine callq (fun _ => (z1y xv_2.Kind v_0 ev_0)) (by rfl) (by rfl) ?_; simp only [go_sem]; refine q8 Q5 (sB h (fun _ h => ?_) fun _ h => ?_)
   · exact au
   ·
    refine y5 (q8 Q4 (sg fun _ Q7 => ?_)); refine sg fun _ Q8 => ?_; refine q02 ?_; refine j9m ?_; obtain ⟨v_1, ev_1, h⟩ := z8 h; simp only [go_sem]; refine callq (fun _ => (z1z g_0 xv_0.From true v_1 ev_1)) (by rfl) (by rfl) ?_; simp only [go_sem]; refine q0o h fun v_2 h => ?_; simp only [go_sem]; refine q8 Q8 (sB h (fun _ h => ?_) fun _ h => ?_)
    · exact au
    ·
     refine y5 (q8 Q7 (sg fun _ Q10 => ?_)); refine sg fun _ Q11 => ?_; simp only [go_sem, F]; refine ai ?_; refine q8 Q11 (sB h (fun _ h => ?_) fun _ h => ?_)
     · exact au
     ·
      refine y5 (q8 Q10 (sg fun _ Q13 => ?_)); simp only [go_sem, F]; refine ai ?_; refine q8 Q13 (sg fun _ Q14 => ?_); refine sg fun _ Q15 => ?_; simp only [go_sem]; refine And.intro (by (simp +contextual only [and_self, implies_true, true_and, and_true, imp_self]; done)) ?_; refine And.intro (by (simp +contextual only [and_self, implies_true, true_and, and_true, imp_self]; done)) ?_; refine And.intro (by (simp +contextual only [and_self, implies_true, true_and, and_true, imp_self]; done)) ?_; refine And.intro (by (simp +contextual only [and_self, implies_true, true_and, and_true, imp_self]; done)) ?_; refine q8 Q15 (sB h (fun _ h => ?_) fun _ h => ?_)
      · exact au
      · refine y5 (q8 Q14 (jg fun _ Q17 => ?_)); refine sM ?_; refine w9 fun _ Q19 => ?_; refine d9 h [1, 2, 5] (fun i_1 => ([(8, .v (.int .i64 i_1))], [(0, .box (Row.row g_0)), (1, .box (Row.row xv_0))])) 2 ?_; rintro m_1 i_1 h _ Q20; rw [q5h] at h; exact au
  · replace h := q1l h hb_1; simp only [go_sem, hb_1]; exact au
 · replace h := q1l h hb_0; simp only [go_sem, hb_0]; exact au)
def qm4 (g_0 : GGraph) (nv_0 : Int) : Option Int :=
 q9 (idx g_0.Nodes nv_0) (fun xv_0 =>
 q9 (qo7 xv_0.Kind) (fun v_0 =>
 (if ((decide (xv_0.Kind < 1)) || (decide (15 < xv_0.Kind))) = true then some 1
 else q9 (q1p xv_0.Scope (g_0.Parent.length : Int)) (fun v_1 =>
 (if (((!v_1) || (v_0.1 && (xv_0.Scope == 0))) || (v_0.2 && (!(xv_0.Scope == 0)))) = true then some 6
 else q9 (qd6 g_0 nv_0) (fun v_2 =>
 (if (!v_2) = true then some 6
 else (if (((xv_0.Kind == 4) && (decide (xv_0.Arg < 1))) || (((!(xv_0.Kind == 4)) && (!(xv_0.Kind == 3))) && (!(xv_0.Arg == 0)))) = true then some 1
 else q9 (q8d xv_0.Prog) (fun v_3 =>
 (if ((!v_3) || ((!(xv_0.Kind == 2)) && (decide (0 < (xv_0.Prog.length : Int))))) = true then some 13
 else some 0))))))))))
instance j4f (g_0 : GGraph) (nv_0 : Int) : Ct pp 75 (qm4 g_0 nv_0) [.agg (Row.row g_0), .v (.int .i64 nv_0)] fun r => (.v (.int .i64 r)) := ctI Tryz.func75 rfl (by rw [qm4]; exact au1)
def q7j (g_0 : GGraph) (xv_0 : GNode) : Option Int :=
 (if (xv_0.Kind == 10) = true then q9 (idx g_0.Parent xv_0.Scope) (fun xv_1 =>
 some xv_1)
 else some xv_0.Scope)
instance j3b (g_0 : GGraph) (xv_0 : GNode) : Ct pp 85 (q7j g_0 xv_0) [.agg (Row.row g_0), .agg (Row.row xv_0)] fun r => (.v (.int .i64 r)) := ctI Tryz.func85 rfl (by rw [q7j]; exact au1)
def qm6 (g_0 : GGraph) (nv_0 : Int) : Option Int :=
 q9 (idx g_0.Edges nv_0) (fun xv_0 =>
 q9 (q1p xv_0.From (g_0.Nodes.length : Int)) (fun v_0 =>
 (if v_0 = true then q9 (q1p xv_0.To (g_0.Nodes.length : Int)) (fun v_1 =>
 (if (!v_1) = true then some 7
 else q9 (idx g_0.Nodes xv_0.From) (fun xv_1 =>
 q9 (idx g_0.Nodes xv_0.To) (fun xv_2 =>
 (if (xv_1.Kind == 15) = true then some 7
 else q9 (q9z xv_2.Kind) (fun v_2 =>
 q9 (q1p xv_0.Port v_2) (fun v_3 =>
 (if (!v_3) = true then some 7
 else q9 (qi2 g_0 xv_1) (fun v_4 =>
 q9 (q7j g_0 xv_2) (fun v_5 =>
 (if (!(v_4 == v_5)) = true then some 6
 else (if ((decide (xv_0.To ≤ xv_0.From)) && (!(xv_1.Kind == 12))) = true then some 8
 else q9 (qi1 xv_2.Kind) (fun v_6 =>
 (if (v_6 && (!xv_0.Exchange)) = true then some 1
 else x9 (0 ≤ 0 ∧ 0 ≤ nv_0 ∧ nv_0 ≤ (g_0.Edges.length : Int)) (
 q9 (qj9 (List.take (nv_0.toNat) g_0.Edges) xv_0.To xv_0.Port) (fun v_7 =>
 (if v_7 = true then some 7
 else some 0)))))))))))))))))
 else some 7)))
instance j4h (g_0 : GGraph) (nv_0 : Int) : Ct pp 76 (qm6 g_0 nv_0) [.agg (Row.row g_0), .v (.int .i64 nv_0)] fun r => (.v (.int .i64 r)) := ctK Tryz.func76 rfl (by rw [qm6]) (by
 intro r h F; refine sM ?_; refine sg fun _ Q2 => ?_; obtain ⟨xv_0, F, h⟩ := bI F h; simp only [go_sem, F]; refine ai ?_; refine q8 Q2 (sg fun _ Q3 => ?_); refine sg fun _ Q4 => ?_; simp only [go_sem]; refine q0o h fun v_0 h => ?_; simp only [go_sem]; rcases hb_0 : v_0 with _ | _
 · replace h := q1m h hb_0; simp only [go_sem, hb_0]; exact au
 ·
  replace h := q1l h hb_0; simp only [go_sem, hb_0]; refine q0o h fun v_1 h => ?_; simp only [go_sem]; refine q8 Q4 (sB h (fun _ h => ?_) fun _ h => ?_)
  · exact au
  · refine y5 (q8 Q3 (sg fun _ Q7 => ?_)); refine q02 ?_; refine q56 15 0 14 [0, 1, 0, 4, 15, 31, 0, 64, 0, 256, 960, 1984, 0, 0, 12351, 32767] [2, 3] [0, 1, 2, 3, 4, 5, 6, 7, 8, 9, 10, 11] [] [14] [12, 13] mixed (by kernel_rfl) (of_decide_eq_true (by kernel_rfl)) (by kernel_rfl) (by kernel_rfl) (by rfl) ?_; obtain ⟨xv_1, F, h⟩ := bI F h; obtain ⟨xv_2, F, h⟩ := bI F h; simp only [go_sem, F]; refine ai ?_; refine ai ?_; exact au)
def qu2 (g_0 : GGraph) (s_0 : Int) (rec_1 : Int → Option Bool) : Int → Option Bool :=
 fun p_1 =>
 (if (decide (0 ≤ p_1)) = true then (if (p_1 == s_0) = true then some true
 else q9 (idx g_0.Parent p_1) (fun xv_3 =>
 rec_1 xv_3))
 else some false)
def qh9 (g_0 : GGraph) (s_0 : Int) (of_0 : Int) : Option Bool :=
 q9 (idx g_0.Parent of_0) (fun xv_0 =>
 x8 (qu2 g_0 s_0) rounds xv_0)
instance j3a (g_0 : GGraph) (s_0 : Int) (of_0 : Int) : Ct pp 128 (qh9 g_0 s_0 of_0) [.agg (Row.row g_0), .v (.int .i64 s_0), .v (.int .i64 of_0)] fun r => (.v (.bool r)) := ctK Tryz.func128 rfl (by rw [qh9]) (by
 intro r h F; refine sM ?_; refine jg fun _ Q2 => ?_; refine sg fun _ Q3 => ?_; obtain ⟨xv_0, F, h⟩ := bI F h; simp only [go_sem, F]; refine ai ?_; refine q8 Q3 (w9 fun _ Q4 => ?_); refine d9 h [1, 3] (fun p_1 => ([(7, .v (.int .i64 p_1))], [(0, .box (Row.row g_0))])) 1 ?_; rintro m_1 p_1 h _ Q5; rw [qu2] at h; exact au)
def q3m (fromv_0 : Int) (cap_0 : GGraph) (self : Int → GGraph → (List Bool) → Int → Option (GGraph × (List Bool) × Int)) (rec_1 : Int × GGraph × Int × (List Bool) → Option (GGraph × (List Bool) × Int)) : Int × GGraph × Int × (List Bool) → Option (GGraph × (List Bool) × Int) :=
 fun (t12_1, b_2, b_3, a_1) =>
 (if (decide (t12_1 < (cap_0.Edges.length : Int))) = true then q9 (idx cap_0.Edges t12_1) (fun xv_6 =>
 (if (xv_6.From == fromv_0) = true then q9 (idx a_1 xv_6.To) (fun xv_7 =>
 (if xv_7 = true then rec_1 (i64.wrap (t12_1 + 1), b_2, b_3, a_1)
 else q9 (idx b_2.Nodes xv_6.To) (fun xv_8 =>
 (if (xv_8.Kind == 12) = true then q9 (qh9 b_2 xv_8.Scope b_3) (fun v_7 =>
 (if (!v_7) = true then q9 (self xv_6.To b_2 (List.set a_1 (xv_6.To.toNat) true) b_3) (fun v_8 =>
 rec_1 (i64.wrap (t12_1 + 1), v_8.1, v_8.2.2, v_8.2.1))
 else rec_1 (i64.wrap (t12_1 + 1), b_2, b_3, (List.set a_1 (xv_6.To.toNat) true))))
 else q9 (self xv_6.To b_2 (List.set a_1 (xv_6.To.toNat) true) b_3) (fun v_6 =>
 rec_1 (i64.wrap (t12_1 + 1), v_6.1, v_6.2.2, v_6.2.1))))))
 else rec_1 (i64.wrap (t12_1 + 1), b_2, b_3, a_1)))
 else some (b_2, a_1, b_3))
def q2j (self : Int → GGraph → (List Bool) → Int → Option (GGraph × (List Bool) × Int)) (fromv_0 : Int) (cap_0 : GGraph) (cap_1 : List Bool) (cap_2 : Int) : Option (GGraph × (List Bool) × Int) :=
 x8 (q3m fromv_0 cap_0 self) rounds (0, cap_0, cap_2, cap_1)
def q0p : Nat → Int → GGraph → (List Bool) → Int → Option (GGraph × (List Bool) × Int)
 | 0 => fun _ _ _ _ => none
 | n + 1 => q2j (q0p n)
def qc8 (fromv_0 : Int) (cap_0 : GGraph) (cap_1 : List Bool) (cap_2 : Int) : Option (GGraph × (List Bool) × Int) := q0p rounds fromv_0 cap_0 cap_1 cap_2
theorem qo8 (self : Int → GGraph → (List Bool) → Int → Option (GGraph × (List Bool) × Int)) (Hself : ∀ (fromv_0 : Int) (cap_0 : GGraph) (cap_1 : List Bool) (cap_2 : Int)  (r : GGraph × (List Bool) × Int), self fromv_0 cap_0 cap_1 cap_2 = some r → DetS pp 127 [.v (.int .i64 fromv_0), .ptr 0 0, .ptr 1 0, .ptr 3 0, .ptr 4 0] [(0, .box (Row.row cap_0)), (1, .box [.osl 2 1 (0) (cap_1.length)]), (2, .arr 1 (enc cap_1)), (3, .box [.v (.int .i64 cap_2)]), (4, .box [.clo 127 [.ptr 0 0, .ptr 1 0, .ptr 3 0, .ptr 4 0]])] 5 (.tup []) [(0, .box (Row.row r.1)), (1, .box [.osl 5 1 (0) (r.2.1.length)]), (3, .box [.v (.int .i64 r.2.2)]), (4, .box [.clo 127 [.ptr 0 0, .ptr 1 0, .ptr 3 0, .ptr 4 0]]), (5, .arr 1 (enc r.2.1))] 6) (fromv_0 : Int) (cap_0 : GGraph) (cap_1 : List Bool) (cap_2 : Int)  (r : GGraph × (List Bool) × Int) (h : q2j self fromv_0 cap_0 cap_1 cap_2 = some r) : DetS pp 127 [.v (.int .i64 fromv_0), .ptr 0 0, .ptr 1 0, .ptr 3 0, .ptr 4 0] [(0, .box (Row.row cap_0)), (1, .box [.osl 2 1 (0) (cap_1.length)]), (2, .arr 1 (enc cap_1)), (3, .box [.v (.int .i64 cap_2)]), (4, .box [.clo 127 [.ptr 0 0, .ptr 1 0, .ptr 3 0, .ptr 4 0]])] 5 (.tup []) [(0, .box (Row.row r.1)), (1, .box [.osl 5 1 (0) (r.2.1.length)]), (3, .box [.v (.int .i64 r.2.2)]), (4, .box [.clo 127 [.ptr 0 0, .ptr 1 0, .ptr 3 0, .ptr 4 0]]), (5, .arr 1 (enc r.2.1))] 6 := by
 refine dtI Tryz.func127 rfl ?_; rw [q2j] at h; have F := trivial; refine sM ?_; refine w9 fun _ Q2 => ?_; refine d9 h [0, 1, 2, 3, 4, 10, 11] (fun x => ([(12, .v (.int .i64 x.1))], [(0, .box (Row.row x.2.1)), (1, .box [.osl 5 1 (0) (x.2.2.2.length)]), (3, .box [.v (.int .i64 x.2.2.1)]), (4, .box [.clo 127 [.ptr 0 0, .ptr 1 0, .ptr 3 0, .ptr 4 0]]), (5, .arr 1 (enc x.2.2.2))])) 6 ?_; rintro m_1 ⟨t12_1, b_2, b_3, a_1⟩ h _ Q3; rw [q3m] at h; refine sM ?_; refine sg fun _ Q5 => ?_; refine sB h (fun _ h => ?_) fun _ h => ?_
 ·
  refine y5 (q8 Q5 (jg fun _ Q6 => ?_)); refine w9 fun _ Q7 => ?_; refine sg fun _ Q8 => ?_; obtain ⟨xv_6, F, h⟩ := bI F h; simp only [go_sem, F]; refine ai ?_; refine q8 Q8 (sg fun _ Q9 => ?_); refine sg fun _ Q10 => ?_; simp only [go_sem]; rcases hb_11 : (xv_6.From == fromv_0) with _ | _
  · replace h := q1m h hb_11; simp only [go_sem, hb_11]; exact au
  ·
   replace h := q1l h hb_11; obtain ⟨xv_7, F, h⟩ := bI F h; simp only [go_sem, hb_11, F]; refine ai ?_; refine q8 Q10 (sB h (fun _ h => ?_) fun _ h => ?_)
   · exact au
   ·
    refine y5 (q8 Q9 (sg fun _ Q11 => ?_)); have rf_2 : (enc a_1).set (xv_6.To.toNat) [.v (.bool true)] = enc (List.set a_1 (xv_6.To.toNat) true) := by exact q1a _ _ _
    simp only [go_sem, rf_2, F]; refine ai ?_; refine q8 Q11 (sg fun _ Q12 => ?_); obtain ⟨xv_8, F, h⟩ := bI F h; simp only [go_sem, F]; refine ai ?_; refine q8 Q12 (sg fun _ Q13 => ?_); simp only [go_sem]; rcases hb_13 : (xv_8.Kind == 12) with _ | _
    · replace h := q1m h hb_13; simp only [go_sem, hb_13]; refine q8 Q13 (jf1 ?_); obtain ⟨v_6, ev_6, h⟩ := z8 h; simp only [go_sem]; refine q7q [0, 1, 2, 3, 4, 10, 11, 12, 21, 22, 23, 25] ([], [(0, .box (Row.row b_2)), (1, .box [.osl 5 1 (0) (List.length (List.set a_1 (xv_6.To.toNat) true))]), (3, .box [.v (.int .i64 b_3)]), (4, .box [.clo 127 [.ptr 0 0, .ptr 1 0, .ptr 3 0, .ptr 4 0]]), (5, .arr 1 (enc (List.set a_1 (xv_6.To.toNat) true))), (6, .box (Row.row xv_6)), (7, .box (Row.row xv_8))]) 8 [some 5, some 6, some 7] [.v (.int .i64 xv_6.To), .ptr 0 0, .ptr 1 0, .ptr 3 0, .ptr 4 0] ?_; refine q0b [0, 1, 5, 3, 4] (Hself xv_6.To b_2 (List.set a_1 (xv_6.To.toNat) true) b_3 v_6 ev_6) ?_; simp only [go_sem]; exact au
    ·
     replace h := q1l h hb_13; simp only [go_sem, hb_13]; refine q0o h fun v_7 h => ?_; simp only [go_sem]; refine q8 Q13 (sB h (fun _ h => ?_) fun _ h => ?_)
     · obtain ⟨v_8, ev_8, h⟩ := z8 h; simp only [go_sem]; refine q7q [0, 1, 2, 3, 4, 10, 11, 12, 21, 22, 23, 25, 41, 42, 43, 44, 45, 46] ([], [(0, .box (Row.row b_2)), (1, .box [.osl 5 1 (0) (List.length (List.set a_1 (xv_6.To.toNat) true))]), (3, .box [.v (.int .i64 b_3)]), (4, .box [.clo 127 [.ptr 0 0, .ptr 1 0, .ptr 3 0, .ptr 4 0]]), (5, .arr 1 (enc (List.set a_1 (xv_6.To.toNat) true))), (6, .box (Row.row xv_6)), (7, .box (Row.row xv_8))]) 8 [some 5, some 6, some 7] [.v (.int .i64 xv_6.To), .ptr 0 0, .ptr 1 0, .ptr 3 0, .ptr 4 0] ?_; refine q0b [0, 1, 5, 3, 4] (Hself xv_6.To b_2 (List.set a_1 (xv_6.To.toNat) true) b_3 v_8 ev_8) ?_; simp only [go_sem]; exact au
     · exact au
 · exact au
theorem q8i : ∀ (n : Nat) (fromv_0 : Int) (cap_0 : GGraph) (cap_1 : List Bool) (cap_2 : Int)  (r : GGraph × (List Bool) × Int), q0p n fromv_0 cap_0 cap_1 cap_2 = some r → DetS pp 127 [.v (.int .i64 fromv_0), .ptr 0 0, .ptr 1 0, .ptr 3 0, .ptr 4 0] [(0, .box (Row.row cap_0)), (1, .box [.osl 2 1 (0) (cap_1.length)]), (2, .arr 1 (enc cap_1)), (3, .box [.v (.int .i64 cap_2)]), (4, .box [.clo 127 [.ptr 0 0, .ptr 1 0, .ptr 3 0, .ptr 4 0]])] 5 (.tup []) [(0, .box (Row.row r.1)), (1, .box [.osl 5 1 (0) (r.2.1.length)]), (3, .box [.v (.int .i64 r.2.2)]), (4, .box [.clo 127 [.ptr 0 0, .ptr 1 0, .ptr 3 0, .ptr 4 0]]), (5, .arr 1 (enc r.2.1))] 6
  | 0, fromv_0, cap_0, cap_1, cap_2, r, h => by simp [q0p] at h
  | n + 1, fromv_0, cap_0, cap_1, cap_2, r, h => qo8 (q0p n) (q8i n) fromv_0 cap_0 cap_1 cap_2  r h
theorem qr9 (fromv_0 : Int) (cap_0 : GGraph) (cap_1 : List Bool) (cap_2 : Int)  (r : GGraph × (List Bool) × Int) (h : qc8 fromv_0 cap_0 cap_1 cap_2 = some r) : DetS pp 127 [.v (.int .i64 fromv_0), .ptr 0 0, .ptr 1 0, .ptr 3 0, .ptr 4 0] [(0, .box (Row.row cap_0)), (1, .box [.osl 2 1 (0) (cap_1.length)]), (2, .arr 1 (enc cap_1)), (3, .box [.v (.int .i64 cap_2)]), (4, .box [.clo 127 [.ptr 0 0, .ptr 1 0, .ptr 3 0, .ptr 4 0]])] 5 (.tup []) [(0, .box (Row.row r.1)), (1, .box [.osl 5 1 (0) (r.2.1.length)]), (3, .box [.v (.int .i64 r.2.2)]), (4, .box [.clo 127 [.ptr 0 0, .ptr 1 0, .ptr 3 0, .ptr 4 0]]), (5, .arr 1 (enc r.2.1))] 6 := q8i rounds fromv_0 cap_0 cap_1 cap_2  r h
def q6i (s_0 : Int) (v_0 : List Int) (rec_1 : Int → Option Bool) : Int → Option Bool :=
 fun i_1 =>
 (if (decide ((i64.wrap (i_1 + 1)) < (v_0.length : Int))) = true then q9 (idx v_0 i_1) (fun xv_2 =>
 (if (xv_2 == s_0) = true then some true
 else rec_1 (i64.wrap (i_1 + 1))))
 else some false)
def q5y (g_0 : GGraph) (s_0 : Int) (of_0 : Int) : Option Bool :=
 q9 (q2i g_0 of_0) (fun v_0 =>
 x8 (q6i s_0 v_0) rounds 0)
instance zh0 (g_0 : GGraph) (s_0 : Int) (of_0 : Int) : Ct pp 95 (q5y g_0 s_0 of_0) [.agg (Row.row g_0), .v (.int .i64 s_0), .v (.int .i64 of_0)] fun r => (.v (.bool r)) := ctK Tryz.func95 rfl (by rw [q5y]) (by
 intro r h F; refine sM ?_; refine sg fun _ Q2 => ?_; obtain ⟨v_0, ev_0, h⟩ := z8 h; simp only [go_sem]; refine q0b [] (q4g g_0 of_0 v_0 ev_0) ?_; simp only [go_sem]; refine q8 Q2 (jg fun _ Q3 => ?_); refine sM ?_; refine w9 fun _ Q5 => ?_; refine d9 h [1] (fun i_1 => ([(7, .osl 0 1 (0) (v_0.length)), (8, .v (.int .i64 i_1))], [(0, .arr 1 (enc v_0))])) 1 ?_; rintro m_1 i_1 h _ Q6; rw [q6i] at h; exact au)
def q7a (g_0 : GGraph) (s_0 : Int) (round_1 : Int) (rec_1 : (Int × (List Bool) → Option (List Bool))) (rec_2 : Int × (List Bool) → Option (List Bool)) : Int × (List Bool) → Option (List Bool) :=
 fun (i_5, a_7) =>
 (if (decide (i_5 < (g_0.Edges.length : Int))) = true then q9 (idx g_0.Edges i_5) (fun xv_48 =>
 q9 (idx g_0.Nodes xv_48.From) (fun xv_49 =>
 (if ((xv_49.Kind == 11) && (xv_49.Scope == s_0)) = true then q9 (idx a_7 xv_48.To) (fun xv_53 =>
 rec_2 (i64.wrap (i_5 + 1), (List.set a_7 (xv_48.To.toNat) true)))
 else q9 (idx a_7 xv_48.From) (fun xv_50 =>
 (if xv_50 = true then (if (xv_49.Kind == 12) = true then q9 (q5y g_0 xv_49.Scope s_0) (fun v_8 =>
 (if (!v_8) = true then q9 (idx a_7 xv_48.To) (fun xv_52 =>
 rec_2 (i64.wrap (i_5 + 1), (List.set a_7 (xv_48.To.toNat) true)))
 else rec_2 (i64.wrap (i_5 + 1), a_7)))
 else q9 (idx a_7 xv_48.To) (fun xv_51 =>
 rec_2 (i64.wrap (i_5 + 1), (List.set a_7 (xv_48.To.toNat) true))))
 else rec_2 (i64.wrap (i_5 + 1), a_7))))))
 else rec_1 (i64.wrap (round_1 + 1), a_7))
def q7b (g_0 : GGraph) (s_0 : Int) (rec_1 : Int × (List Bool) → Option (List Bool)) : Int × (List Bool) → Option (List Bool) :=
 fun (round_1, a_5) =>
 (if (decide (round_1 ≤ (g_0.Nodes.length : Int))) = true then x8 (q7a g_0 s_0 round_1 rec_1) rounds (0, a_5)
 else some a_5)
def q4n (g_0 : GGraph) (s_0 : Int) : Option (List Bool) :=
 x9 (0 ≤ (g_0.Nodes.length : Int) ∧ (g_0.Nodes.length : Int) * 1 ≤ 140737488355328) (
 x8 (q7b g_0 s_0) rounds (0, (List.replicate (g_0.Nodes.length) false)))
theorem z1e (g_0 : GGraph) (s_0 : Int)  (r : List Bool) (h : q4n g_0 s_0 = some r) : DetS pp 50 [.agg (Row.row g_0), .v (.int .i64 s_0)] [] 0 (.osl 0 1 (0) (r.length)) [(0, .arr 1 (enc r))] 1 := by
 refine dtI Tryz.func50 rfl ?_; rw [q4n] at h; have F := trivial; refine sM ?_; refine sg fun _ Q2 => ?_; obtain ⟨F, h⟩ := bG F h; have rf_0 : List.replicate (g_0.Nodes.length) [.v (.bool false)] = enc (List.replicate (g_0.Nodes.length) false) := by (simp [enc, qj4, qb4, q99, q37]; done)
 simp only [go_sem, F]; simp only [rf_0]; refine q8 Q2 (jg fun _ Q3 => ?_); refine sM ?_; refine w9 fun _ Q5 => ?_; refine d9 h [1, 2] (fun x => ([(5, .osl 1 1 (0) (x.2.length)), (6, .v (.int .i64 x.1))], [(0, .box (Row.row g_0)), (1, .arr 1 (enc x.2))])) 2 ?_; rintro m_1 ⟨round_1, a_5⟩ h _ Q6; rw [q7b] at h; refine sg fun _ Q7 => ?_; refine sM ?_; refine sB h (fun _ h => ?_) fun _ h => ?_
 ·
  refine y5 (q8 Q7 (jg fun _ Q9 => ?_)); refine w9 fun _ Q10 => ?_; refine sM ?_; refine w9 fun _ Q12 => ?_; refine d9 h [1, 2, 6] (fun x => ([(5, .osl 1 1 (0) (x.2.length)), (7, .v (.int .i64 x.1))], [(0, .box (Row.row g_0)), (1, .arr 1 (enc x.2))])) 2 ?_; rintro m_2 ⟨i_5, a_7⟩ h _ Q13; rw [q7a] at h; refine sg fun _ Q14 => ?_; refine sM ?_; refine sB h (fun _ h => ?_) fun _ h => ?_
  ·
   refine y5 (q8 Q14 (jg fun _ Q16 => ?_)); refine w9 fun _ Q17 => ?_; refine sg fun _ Q18 => ?_; obtain ⟨xv_48, F, h⟩ := bI F h; simp only [go_sem, F]; refine ai ?_; refine q8 Q18 (sg fun _ Q19 => ?_); obtain ⟨xv_49, F, h⟩ := bI F h; simp only [go_sem, F]; refine ai ?_; refine q8 Q19 (sg fun _ Q20 => ?_); simp only [go_sem]; rcases hb_44 : ((xv_49.Kind == 11) && (xv_49.Scope == s_0)) with _ | _
   ·
    replace h := q1m h hb_44; obtain ⟨xv_50, F, h⟩ := bI F h; simp only [go_sem, hb_44, F]; refine ai ?_; rcases hb_45 : xv_50 with _ | _
    · replace h := q1m h hb_45; simp only [go_sem, hb_45]; exact au
    ·
     replace h := q1l h hb_45; simp only [go_sem, hb_45]; rcases hb_46 : (xv_49.Kind == 12) with _ | _
     ·
      replace h := q1m h hb_46; simp only [go_sem, hb_46]; refine q8 Q20 (jf1 ?_); obtain ⟨xv_51, F, h⟩ := bI F h; have rf_25 : (enc a_7).set (xv_48.To.toNat) [.v (.bool true)] = enc (List.set a_7 (xv_48.To.toNat) true) := by exact q1a _ _ _
      simp only [go_sem, rf_25, F]; refine ai ?_; exact au
     ·
      replace h := q1l h hb_46; simp only [go_sem, hb_46]; refine q0o h fun v_8 h => ?_; simp only [go_sem]; refine q8 Q20 (sB h (fun _ h => ?_) fun _ h => ?_)
      ·
       obtain ⟨xv_52, F, h⟩ := bI F h; have rf_26 : (enc a_7).set (xv_48.To.toNat) [.v (.bool true)] = enc (List.set a_7 (xv_48.To.toNat) true) := by exact q1a _ _ _
       simp only [go_sem, rf_26, F]; refine ai ?_; exact au
      · exact au
   ·
    replace h := q1l h hb_44; simp only [go_sem, hb_44]; refine q8 Q20 (jf1 ?_); obtain ⟨xv_53, F, h⟩ := bI F h; have rf_27 : (enc a_7).set (xv_48.To.toNat) [.v (.bool true)] = enc (List.set a_7 (xv_48.To.toNat) true) := by exact q1a _ _ _
    simp only [go_sem, rf_27, F]; refine ai ?_; exact au
  · exact au
 · exact au
instance zm3 (g_0 : GGraph) (s_0 : Int) : Ct pp 50 (q4n g_0 s_0) [.agg (Row.row g_0), .v (.int .i64 s_0)] fun r => (.sl 1 (enc r)) := ⟨fun r h => (z1e g_0 s_0  r h).pure leA⟩
def qk7 (g_0 : GGraph) (nv_0 : Int) (v_0 : Int) (rec_1 : Int → Option Bool) : Int → Option Bool :=
 fun t13_1 =>
 (if (decide (t13_1 < v_0)) = true then q9 (qj9 g_0.Edges nv_0 t13_1) (fun v_3 =>
 (if (!v_3) = true then some false
 else rec_1 (i64.wrap (t13_1 + 1))))
 else some true)
def qm5 (g_0 : GGraph) (nv_0 : Int) : Option Bool :=
 q9 (idx g_0.Nodes nv_0) (fun xv_0 =>
 q9 (q9z xv_0.Kind) (fun v_0 =>
 x8 (qk7 g_0 nv_0 v_0) rounds 0))
instance j4g (g_0 : GGraph) (nv_0 : Int) : Ct pp 77 (qm5 g_0 nv_0) [.agg (Row.row g_0), .v (.int .i64 nv_0)] fun r => (.v (.bool r)) := ctK Tryz.func77 rfl (by rw [qm5]) (by
 intro r h F; refine sM ?_; refine jg fun _ Q2 => ?_; refine sg fun _ Q3 => ?_; obtain ⟨xv_0, F, h⟩ := bI F h; simp only [go_sem, F]; refine ai ?_; refine q0o h fun v_0 h => ?_; simp only [go_sem]; refine q8 Q3 (w9 fun _ Q4 => ?_); refine d9 h [1, 2, 12] (fun t13_1 => ([(13, .v (.int .i64 t13_1))], [(0, .box (Row.row g_0))])) 1 ?_; rintro m_1 t13_1 h _ Q5; rw [qk7] at h; exact au)
def qg0 (g_0 : GGraph) (nv_0 : Int) (rec_1 : Int × Int × (List Bool) × GGraph → Option Bool) : Int × Int × (List Bool) × GGraph → Option Bool :=
 fun (t31_1, b_2, a_1, b_3) =>
 (if (decide (t31_1 < (g_0.Nodes.length : Int))) = true then q9 (idx g_0.Nodes t31_1) (fun xv_5 =>
 (if ((xv_5.Kind == 11) && (xv_5.Scope == b_2)) = true then q9 (qc8 t31_1 b_3 a_1 b_2) (fun v_2 =>
 rec_1 (i64.wrap (t31_1 + 1), v_2.2.2, v_2.2.1, v_2.1))
 else rec_1 (i64.wrap (t31_1 + 1), b_2, a_1, b_3)))
 else q9 (idx a_1 nv_0) (fun xv_6 =>
 some xv_6))
def qi4 (g_0 : GGraph) (nv_0 : Int) : Option Bool :=
 q9 (idx g_0.Nodes nv_0) (fun xv_0 =>
 (if (!(xv_0.Kind == 10)) = true then some false
 else x9 (0 ≤ (g_0.Nodes.length : Int) ∧ (g_0.Nodes.length : Int) * 1 ≤ 140737488355328) (
 x8 (qg0 g_0 nv_0) rounds (0, xv_0.Scope, (List.replicate (g_0.Nodes.length) false), g_0))))
instance j3f (g_0 : GGraph) (nv_0 : Int) : Ct pp 78 (qi4 g_0 nv_0) [.agg (Row.row g_0), .v (.int .i64 nv_0)] fun r => (.v (.bool r)) := ctK Tryz.func78 rfl (by rw [qi4]) (by
 intro r h F; refine sM ?_; refine sg fun _ Q2 => ?_; obtain ⟨xv_0, F, h⟩ := bI F h; simp only [go_sem, F]; refine ai ?_; refine q8 Q2 (sg fun _ Q3 => ?_); refine sg fun _ Q4 => ?_; simp only [go_sem, F]; refine ai ?_; refine q8 Q4 (sB h (fun _ h => ?_) fun _ h => ?_)
 · exact au
 ·
  refine y5 (q8 Q3 (sg fun _ Q6 => ?_)); obtain ⟨F, h⟩ := bG F h; have rf_0 : List.replicate (g_0.Nodes.length) [.v (.bool false)] = enc (List.replicate (g_0.Nodes.length) false) := by (simp [enc, qj4, qb4, q99, q37]; done)
  simp only [go_sem, F]; simp only [rf_0]; refine q8 Q6 (sM ?_); refine sM ?_; refine jg fun _ Q9 => ?_; refine sM ?_; refine w9 fun _ Q11 => ?_; refine d9 h [1, 29, 30] (fun x => ([(5, .ptr 0 0), (6, .ptr 1 0), (7, .ptr 2 0), (31, .v (.int .i64 x.1))], [(0, .box [.v (.int .i64 x.2.1)]), (1, .box [.osl 3 1 (0) (x.2.2.1.length)]), (2, .box [.clo 127 [.ptr 4 0, .ptr 1 0, .ptr 0 0, .ptr 2 0]]), (3, .arr 1 (enc x.2.2.1)), (4, .box (Row.row x.2.2.2))])) 5 ?_; rintro m_1 ⟨t31_1, b_2, a_1, b_3⟩ h _ Q12; rw [qg0] at h; refine sM ?_; refine sg fun _ Q14 => ?_; refine sB h (fun _ h => ?_) fun _ h => ?_
  ·
   refine y5 (q8 Q14 (jg fun _ Q15 => ?_)); refine w9 fun _ Q16 => ?_; refine sg fun _ Q17 => ?_; obtain ⟨xv_5, F, h⟩ := bI F h; simp only [go_sem, F]; refine ai ?_; refine q8 Q17 (sM ?_); refine sB h (fun _ h => ?_) fun _ h => ?_
   · obtain ⟨v_2, ev_2, h⟩ := z8 h; simp only [go_sem]; refine q0b [4, 1, 3, 0, 2] (qr9 t31_1 b_3 a_1 b_2 v_2 ev_2) ?_; simp only [go_sem]; exact au
   · exact au
  · exact au)
def q79 (g_0 : GGraph) (rec_5 : Int → Option (Int × Int)) : Int → Option (Int × Int) :=
 fun nv_7 =>
 (if (decide (nv_7 < (g_0.Nodes.length : Int))) = true then q9 (idx g_0.Nodes nv_7) (fun xv_37 =>
 (if (xv_37.Kind == 10) = true then q9 (q4n g_0 xv_37.Scope) (fun v_23 =>
 q9 (idx v_23 nv_7) (fun xv_38 =>
 (if xv_38 = true then some (8, nv_7)
 else rec_5 (i64.wrap (nv_7 + 1)))))
 else rec_5 (i64.wrap (nv_7 + 1))))
 else some (0, 0))
def q51 (g_0 : GGraph) : Option (Int × Int) :=
 x8 (q79 g_0) rounds 0
def q76 (g_0 : GGraph) (nv_9 : Int) (rec_6 : (Int → Option (Int × Int))) (count_27 : Int) : Option (Int × Int) :=
 q9 (idx g_0.Nodes nv_9) (fun xv_56 =>
 q9 (q4l xv_56.Kind) (fun v_26 =>
 (if (decide (count_27 < v_26)) = true then some (7, nv_9)
 else rec_6 (i64.wrap (nv_9 + 1)))))
def q78 (g_0 : GGraph) (nv_9 : Int) (rec_6 : (Int → Option (Int × Int))) (rec_8 : Int × Int → Option (Int × Int)) : Int × Int → Option (Int × Int) :=
 fun (count_29, i_23) =>
 (if (decide (i_23 < (g_0.Edges.length : Int))) = true then q9 (idx g_0.Edges i_23) (fun xv_59 =>
 (if (xv_59.To == nv_9) = true then rec_8 (i64.wrap (count_29 + 1), i64.wrap (i_23 + 1))
 else rec_8 (count_29, i64.wrap (i_23 + 1))))
 else q76 g_0 nv_9 rec_6 count_29)
def q55 (g_0 : GGraph) (rec_6 : Int → Option (Int × Int)) : Int → Option (Int × Int) :=
 fun nv_9 =>
 (if (decide (nv_9 < (g_0.Nodes.length : Int))) = true then x8 (q78 g_0 nv_9 rec_6) rounds (0, 0)
 else q51 g_0)
def q52 (g_0 : GGraph) : Option (Int × Int) :=
 x8 (q55 g_0) rounds 0
def q77 (g_0 : GGraph) (rec_9 : Int → Option (Int × Int)) : Int → Option (Int × Int) :=
 fun nv_11 =>
 (if (decide (nv_11 < (g_0.Edges.length : Int))) = true then q9 (q75 g_0 nv_11) (fun v_29 =>
 (if (!(v_29 == 0)) = true then some (v_29, nv_11)
 else rec_9 (i64.wrap (nv_11 + 1))))
 else q52 g_0)
def q53 (g_0 : GGraph) : Option (Int × Int) :=
 x8 (q77 g_0) rounds 0
def q6j (g_0 : GGraph) (rec_10 : Int → Option (Int × Int)) : Int → Option (Int × Int) :=
 fun nv_13 =>
 (if (decide (nv_13 < (g_0.Nodes.length : Int))) = true then q9 (q74 g_0 nv_13) (fun v_32 =>
 (if (!(v_32 == 0)) = true then some (v_32, nv_13)
 else rec_10 (i64.wrap (nv_13 + 1))))
 else q53 g_0)
def q54 (g_0 : GGraph) : Option (Int × Int) :=
 (if ((((g_0.Nodes.length : Int) == 0) || (decide (32 < (g_0.Nodes.length : Int)))) || (decide (64 < (g_0.Edges.length : Int)))) = true then some (11, 0)
 else x8 (q6j g_0) rounds 0)
def q1e (s_3 : Int) (rec_11 : (Int → Option (Int × Int))) (ok_10 : Bool) : Option (Int × Int) :=
 (if (!ok_10) = true then some (6, s_3)
 else rec_11 (i64.wrap (s_3 + 1)))
def q1d (s_3 : Int) (rec_11 : (Int → Option (Int × Int))) (ok_11 : Bool) : Option (Int × Int) :=
 (if (!ok_11) = true then some (6, s_3)
 else rec_11 (i64.wrap (s_3 + 1)))
def q36 (g_0 : GGraph) (rec_11 : Int → Option (Int × Int)) : Int → Option (Int × Int) :=
 fun s_3 =>
 (if (decide (s_3 < (g_0.Parent.length : Int))) = true then q9 (idx g_0.Parent s_3) (fun xv_68 =>
 (if (xv_68 == (-1)) = true then q9 (idx g_0.Bound s_3) (fun xv_71 =>
 (if (decide (0 < s_3)) = true then (if (decide (0 ≤ xv_68)) = true then (if (decide (xv_68 < s_3)) = true then (if (decide (1 ≤ xv_71)) = true then (if (decide (xv_71 ≤ 64)) = true then q9 (q2i g_0 s_3) (fun v_44 =>
 q1d s_3 rec_11 (decide ((v_44.length : Int) ≤ 4)))
 else q1d s_3 rec_11 false)
 else q1d s_3 rec_11 false)
 else q1d s_3 rec_11 false)
 else q1d s_3 rec_11 false)
 else q1d s_3 rec_11 (xv_71 == 0)))
 else (if (decide (0 < s_3)) = true then (if (decide (0 ≤ xv_68)) = true then (if (decide (xv_68 < s_3)) = true then q9 (idx g_0.Bound s_3) (fun xv_70 =>
 (if (decide (1 ≤ xv_70)) = true then (if (decide (xv_70 ≤ 64)) = true then q9 (q2i g_0 s_3) (fun v_42 =>
 q1e s_3 rec_11 (decide ((v_42.length : Int) ≤ 4)))
 else q1e s_3 rec_11 false)
 else q1e s_3 rec_11 false))
 else q1e s_3 rec_11 false)
 else q1e s_3 rec_11 false)
 else q1e s_3 rec_11 false)))
 else q54 g_0)
def q6c (g_0 : GGraph) : Option (Int × Int) :=
 (if ((((g_0.Parent.length : Int) == 0) || (decide (8 < (g_0.Parent.length : Int)))) || (!((g_0.Parent.length : Int) == (g_0.Bound.length : Int)))) = true then some (6, 0)
 else x8 (q36 g_0) rounds 0)
instance zm1 (g_0 : GGraph) : Ct pp 16 (q6c g_0) [.agg (Row.row g_0)] fun r => (.tup [.v (.int .i64 r.1), .v (.int .i64 r.2)]) := ctK Tryz.func16 rfl (by rw [q6c]) (by
 intro r h F; refine sM ?_; refine sg fun _ Q2 => ?_; refine sM ?_; refine sB h (fun _ h => ?_) fun _ h => ?_
 · exact au
 ·
  refine y5 (q8 Q2 (q1n (fun (_ : Unit) => q54 g_0 = some r) [1] (fun _ => ([], [(0, .box (Row.row g_0))])) 1 ?_ ?_))
  ·
   intro _ Q61; refine sM ?_; refine w9 fun _ Q63 => ?_; refine d9 h [1] (fun s_3 => ([(4, .v (.int .i64 s_3))], [(0, .box (Row.row g_0))])) 1 ?_; rintro m_11 s_3 h _ Q64; rw [q36] at h; refine sg fun _ Q65 => ?_; refine sM ?_; refine sB h (fun _ h => ?_) fun _ h => ?_
   ·
    refine y5 (q8 Q65 (jg fun _ Q67 => ?_)); refine w9 fun _ Q68 => ?_; refine sg fun _ Q69 => ?_; obtain ⟨xv_68, F, h⟩ := bI F h; simp only [go_sem, F]; refine ai ?_; rcases hb_240 : (xv_68 == (-1)) with _ | _
    ·
     replace h := q1m h hb_240; simp only [go_sem, hb_240]; refine q8 Q69 (q1n (fun (ok_10 : Bool) => q1e s_3 (x8 (q36 g_0) m_11) ok_10 = some r) [1, 4] (fun ok_10 => ([(5, .v (.bool ok_10))], [(0, .box (Row.row g_0))])) 1 ?_ ?_)
     ·
      intro _ Q72; refine sM ?_; refine sB h (fun _ h => ?_) fun _ h => ?_
      ·
       refine sg fun _ Q74 => ?_; simp only [go_sem, F]; refine ai ?_; rcases hb_248 : (decide (0 ≤ xv_68)) with _ | _
       · replace h := q1m h hb_248; simp only [go_sem, hb_248]; exact au
       ·
        replace h := q1l h hb_248; simp only [go_sem, hb_248, F]; refine ai ?_; rcases hb_249 : (decide (xv_68 < s_3)) with _ | _
        · replace h := q1m h hb_249; simp only [go_sem, hb_249]; exact au
        ·
         replace h := q1l h hb_249; obtain ⟨xv_70, F, h⟩ := bI F h; simp only [go_sem, hb_249, F]; refine ai ?_; rcases hb_250 : (decide (1 ≤ xv_70)) with _ | _
         · replace h := q1m h hb_250; simp only [go_sem, hb_250]; exact au
         ·
          replace h := q1l h hb_250; simp only [go_sem, hb_250, F]; refine ai ?_; refine q8 Q74 ?_; simp only [go_sem]; rcases hb_251 : (decide (xv_70 ≤ 64)) with _ | _
          · replace h := q1m h hb_251; simp only [go_sem, hb_251]; exact au
          · replace h := q1l h hb_251; obtain ⟨v_42, ev_42, h⟩ := z8 h; simp only [go_sem, hb_251]; refine q0b [] (q4g g_0 s_3 v_42 ev_42) ?_; simp only [go_sem]; exact au
      · exact au
     ·
      rintro ok_10 h
      try dsimp only at h
      rw [q1e] at h; exact au
    ·
     replace h := q1l h hb_240; obtain ⟨xv_71, F, h⟩ := bI F h; simp only [go_sem, hb_240, F]; refine ai ?_; refine q8 Q69 (q1n (fun (ok_11 : Bool) => q1d s_3 (x8 (q36 g_0) m_11) ok_11 = some r) [1, 4, 47, 48, 49, 51, 52] (fun ok_11 => ([(5, .v (.bool ok_11))], [(0, .box (Row.row g_0))])) 1 ?_ ?_)
     ·
      intro _ Q77; refine sM ?_; refine sB h (fun _ h => ?_) fun _ h => ?_
      ·
       refine sg fun _ Q79 => ?_; simp only [go_sem, F]; refine ai ?_; rcases hb_259 : (decide (0 ≤ xv_68)) with _ | _
       · replace h := q1m h hb_259; simp only [go_sem, hb_259]; exact au
       ·
        replace h := q1l h hb_259; simp only [go_sem, hb_259, F]; refine ai ?_; rcases hb_260 : (decide (xv_68 < s_3)) with _ | _
        · replace h := q1m h hb_260; simp only [go_sem, hb_260]; exact au
        ·
         replace h := q1l h hb_260; simp only [go_sem, hb_260, F]; refine ai ?_; rcases hb_261 : (decide (1 ≤ xv_71)) with _ | _
         · replace h := q1m h hb_261; simp only [go_sem, hb_261]; exact au
         ·
          replace h := q1l h hb_261; simp only [go_sem, hb_261, F]; refine ai ?_; refine q8 Q79 ?_; simp only [go_sem]; rcases hb_262 : (decide (xv_71 ≤ 64)) with _ | _
          · replace h := q1m h hb_262; simp only [go_sem, hb_262]; exact au
          · replace h := q1l h hb_262; obtain ⟨v_44, ev_44, h⟩ := z8 h; simp only [go_sem, hb_262]; refine q0b [] (q4g g_0 s_3 v_44 ev_44) ?_; simp only [go_sem]; exact au
      · exact au
     ·
      rintro ok_11 h
      try dsimp only at h
      rw [q1d] at h; exact au
   · exact au
  ·
   rintro ⟨⟩ h
   try dsimp only at h
   rw [q54] at h; refine sg fun _ Q5 => ?_; refine sM ?_; refine sB h (fun _ h => ?_) fun _ h => ?_
   · exact au
   ·
    refine y5 (q8 Q5 (q1n (fun (_ : Unit) => q53 g_0 = some r) [1] (fun _ => ([], [(0, .box (Row.row g_0))])) 1 ?_ ?_))
    · intro _ Q50; refine sM ?_; refine w9 fun _ Q52 => ?_; refine d9 h [1] (fun nv_13 => ([(6, .v (.int .i64 nv_13))], [(0, .box (Row.row g_0))])) 1 ?_; rintro m_10 nv_13 h _ Q53; rw [q6j] at h; exact au
    ·
     rintro ⟨⟩ h
     try dsimp only at h
     rw [q53] at h; refine q1n (fun (_ : Unit) => q52 g_0 = some r) [1] (fun _ => ([], [(0, .box (Row.row g_0))])) 1 ?_ ?_
     · intro _ Q39; refine sM ?_; refine w9 fun _ Q41 => ?_; refine d9 h [1] (fun nv_11 => ([(8, .v (.int .i64 nv_11))], [(0, .box (Row.row g_0))])) 1 ?_; rintro m_9 nv_11 h _ Q42; rw [q77] at h; exact au
     ·
      rintro ⟨⟩ h
      try dsimp only at h
      rw [q52] at h; refine q1n (fun (_ : Unit) => q51 g_0 = some r) [1] (fun _ => ([], [(0, .box (Row.row g_0))])) 1 ?_ ?_
      ·
       intro _ Q19; refine sM ?_; refine w9 fun _ Q21 => ?_; refine d9 h [1] (fun nv_9 => ([(10, .v (.int .i64 nv_9))], [(0, .box (Row.row g_0))])) 1 ?_; rintro m_6 nv_9 h _ Q22; rw [q55] at h; refine sg fun _ Q23 => ?_; refine sM ?_; refine sB h (fun _ h => ?_) fun _ h => ?_
       ·
        refine y5 (q8 Q23 (jg fun _ Q25 => ?_)); refine w9 fun _ Q26 => ?_; refine sM ?_; refine q1n (fun (count_27 : Int) => q76 g_0 nv_9 (x8 (q55 g_0) m_6) count_27 = some r) [1, 10] (fun count_27 => ([(11, .v (.int .i64 count_27))], [(0, .box (Row.row g_0))])) 1 ?_ ?_
        · intro _ Q30; refine sM ?_; refine w9 fun _ Q32 => ?_; refine d9 h [1, 10] (fun x => ([(11, .v (.int .i64 x.1)), (12, .v (.int .i64 x.2))], [(0, .box (Row.row g_0))])) 1 ?_; rintro m_8 ⟨count_29, i_23⟩ h _ Q33; rw [q78] at h; exact au
        ·
         rintro count_27 h
         try dsimp only at h
         rw [q76] at h; exact au
       · exact au
      ·
       rintro ⟨⟩ h
       try dsimp only at h
       rw [q51] at h; refine jg fun _ Q8 => ?_; refine sM ?_; refine w9 fun _ Q10 => ?_; refine d9 h [1] (fun nv_7 => ([(13, .v (.int .i64 nv_7))], [(0, .box (Row.row g_0))])) 1 ?_; rintro m_5 nv_7 h _ Q11; rw [q79] at h; exact au)
def qg5 (g_0 : GGraph) (rec_5 : Int → Option (Int × Int)) : Int → Option (Int × Int) :=
 fun t101_1 =>
 (if (decide (t101_1 < (g_0.Nodes.length : Int))) = true then q9 (qi4 g_0 t101_1) (fun v_14 =>
 (if v_14 = true then some (8, t101_1)
 else rec_5 (i64.wrap (t101_1 + 1))))
 else some (0, 0))
def q9g (g_0 : GGraph) : Option (Int × Int) :=
 x8 (qg5 g_0) rounds 0
def qg4 (g_0 : GGraph) (rec_6 : Int → Option (Int × Int)) : Int → Option (Int × Int) :=
 fun t89_3 =>
 (if (decide (t89_3 < (g_0.Nodes.length : Int))) = true then q9 (qm5 g_0 t89_3) (fun v_17 =>
 (if (!v_17) = true then some (7, t89_3)
 else rec_6 (i64.wrap (t89_3 + 1))))
 else q9g g_0)
def q9h (g_0 : GGraph) : Option (Int × Int) :=
 x8 (qg4 g_0) rounds 0
def qg3 (g_0 : GGraph) (rec_7 : Int → Option (Int × Int)) : Int → Option (Int × Int) :=
 fun t75_3 =>
 (if (decide (t75_3 < (g_0.Edges.length : Int))) = true then q9 (qm6 g_0 t75_3) (fun v_20 =>
 (if (!(v_20 == 0)) = true then some (v_20, t75_3)
 else rec_7 (i64.wrap (t75_3 + 1))))
 else q9h g_0)
def q9i (g_0 : GGraph) : Option (Int × Int) :=
 x8 (qg3 g_0) rounds 0
def qg2 (g_0 : GGraph) (rec_8 : Int → Option (Int × Int)) : Int → Option (Int × Int) :=
 fun t61_3 =>
 (if (decide (t61_3 < (g_0.Nodes.length : Int))) = true then q9 (qm4 g_0 t61_3) (fun v_23 =>
 (if (!(v_23 == 0)) = true then some (v_23, t61_3)
 else rec_8 (i64.wrap (t61_3 + 1))))
 else q9i g_0)
def q9j (g_0 : GGraph) : Option (Int × Int) :=
 (if (((decide ((g_0.Nodes.length : Int) < 1)) || (decide (32 < (g_0.Nodes.length : Int)))) || (decide (64 < (g_0.Edges.length : Int)))) = true then some (11, 0)
 else x8 (qg2 g_0) rounds 0)
def qg1 (g_0 : GGraph) (rec_9 : Int → Option (Int × Int)) : Int → Option (Int × Int) :=
 fun t33_3 =>
 (if (decide (t33_3 < (g_0.Parent.length : Int))) = true then q9 (qi0 g_0 t33_3) (fun v_26 =>
 (if (!v_26) = true then some (6, t33_3)
 else rec_9 (i64.wrap (t33_3 + 1))))
 else q9j g_0)
def qi6 (g_0 : GGraph) : Option (Int × Int) :=
 (if (((decide ((g_0.Parent.length : Int) < 1)) || (decide (8 < (g_0.Parent.length : Int)))) || (!((g_0.Bound.length : Int) == (g_0.Parent.length : Int)))) = true then some (6, 0)
 else x8 (qg1 g_0) rounds 0)
instance j3i (g_0 : GGraph) : Ct pp 32 (qi6 g_0) [.agg (Row.row g_0)] fun r => (.tup [.v (.int .i64 r.1), .v (.int .i64 r.2)]) := ctK Tryz.func32 rfl (by rw [qi6]) (by
 intro r h F; refine sM ?_; refine sg fun _ Q2 => ?_; refine sM ?_; refine sB h (fun _ h => ?_) fun _ h => ?_
 · exact au
 ·
  refine y5 (q8 Q2 (q1n (fun (_ : Unit) => q9j g_0 = some r) [1] (fun _ => ([], [(0, .box (Row.row g_0))])) 1 ?_ ?_))
  · intro _ Q55; refine sM ?_; refine w9 fun _ Q57 => ?_; refine d9 h [1, 32] (fun t33_3 => ([(33, .v (.int .i64 t33_3))], [(0, .box (Row.row g_0))])) 1 ?_; rintro m_9 t33_3 h _ Q58; rw [qg1] at h; exact au
  ·
   rintro ⟨⟩ h
   try dsimp only at h
   rw [q9j] at h; refine sg fun _ Q5 => ?_; refine sM ?_; refine sB h (fun _ h => ?_) fun _ h => ?_
   · exact au
   ·
    refine y5 (q8 Q5 (q1n (fun (_ : Unit) => q9i g_0 = some r) [1] (fun _ => ([], [(0, .box (Row.row g_0))])) 1 ?_ ?_))
    · intro _ Q43; refine sM ?_; refine w9 fun _ Q45 => ?_; refine d9 h [1, 60] (fun t61_3 => ([(61, .v (.int .i64 t61_3))], [(0, .box (Row.row g_0))])) 1 ?_; rintro m_8 t61_3 h _ Q46; rw [qg2] at h; exact au
    ·
     rintro ⟨⟩ h
     try dsimp only at h
     rw [q9i] at h; refine q1n (fun (_ : Unit) => q9h g_0 = some r) [1] (fun _ => ([], [(0, .box (Row.row g_0))])) 1 ?_ ?_
     · intro _ Q31; refine sM ?_; refine w9 fun _ Q33 => ?_; refine d9 h [1, 74] (fun t75_3 => ([(75, .v (.int .i64 t75_3))], [(0, .box (Row.row g_0))])) 1 ?_; rintro m_7 t75_3 h _ Q34; rw [qg3] at h; exact au
     ·
      rintro ⟨⟩ h
      try dsimp only at h
      rw [q9h] at h; refine q1n (fun (_ : Unit) => q9g g_0 = some r) [1] (fun _ => ([], [(0, .box (Row.row g_0))])) 1 ?_ ?_
      · intro _ Q20; refine sM ?_; refine w9 fun _ Q22 => ?_; refine d9 h [1, 88] (fun t89_3 => ([(89, .v (.int .i64 t89_3))], [(0, .box (Row.row g_0))])) 1 ?_; rintro m_6 t89_3 h _ Q23; rw [qg4] at h; exact au
      ·
       rintro ⟨⟩ h
       try dsimp only at h
       rw [q9g] at h; refine jg fun _ Q8 => ?_; refine sM ?_; refine w9 fun _ Q10 => ?_; refine d9 h [1, 100] (fun t101_1 => ([(101, .v (.int .i64 t101_1))], [(0, .box (Row.row g_0))])) 1 ?_; rintro m_5 t101_1 h _ Q11; rw [qg5] at h; exact au)
def qi8 (s_0 : List GTime) (f_0 : GTime → Option Bool) (rec_1 : Int → Option Int) : Int → Option Int :=
 fun t8_1 =>
 (if (decide (t8_1 < (s_0.length : Int))) = true then q9 (idx s_0 t8_1) (fun xv_2 =>
 q9 (f_0 xv_2) (fun v_2 =>
 (if v_2 = true then some t8_1
 else rec_1 (i64.wrap (t8_1 + 1)))))
 else some (-1))
def q5e (s_0 : List GTime) (f_0 : GTime → Option Bool) : Option Int :=
 x8 (qi8 s_0 f_0) rounds 0
theorem qi7 (s_0 : List GTime) (f_0 : GTime → Option Bool) (g_f_0 : FuncId) (c_f_0 : List AV) (F_f_0 : q00 c_f_0 = true) (E_f_0 : y8 pp g_f_0 = true) (H_f_0 : ∀ (x0 : GTime) (r : Bool), f_0 x0 = some r → PureS pp g_f_0 ([.agg (Row.row x0)] ++ c_f_0) 0 (.v (.bool r))) (r : Int) (h : q5e s_0 f_0 = some r) : PureS pp 147 [.sl 5 (enc s_0), .clo g_f_0 c_f_0] 0 (.v (.int .i64 r)) := by
 refine ptI Tryz.func147 rfl ?_; rw [q5e] at h; have F := trivial; refine sM ?_; refine jg fun _ Q2 => ?_; refine sM ?_; refine w9 fun _ Q4 => ?_; refine d9 h [0, 1, 7] (fun t8_1 => ([(8, .v (.int .i64 t8_1))], [])) 0 ?_; rintro m_1 t8_1 h _ Q5; rw [qi8] at h; refine sM ?_; refine sg fun _ Q7 => ?_; refine sB h (fun _ h => ?_) fun _ h => ?_
 ·
  refine y5 (q8 Q7 (sg fun _ Q8 => ?_)); refine w9 fun _ Q9 => ?_; refine sM ?_; refine sg fun _ Q11 => ?_; obtain ⟨xv_2, F, h⟩ := bI F h; obtain ⟨v_2, ev_2, h⟩ := z8 h; simp only [go_sem, E_f_0, F]; refine ai ?_; refine q6k (H_f_0 xv_2 v_2 ev_2) (by rfl) (by simp [go_sem, q00, q09, F_f_0]) ?_; simp only [go_sem]; refine q8 Q11 (sB h (fun _ h => ?_) fun _ h => ?_)
  · refine sM ?_; refine q04 (q0h Q9 (q0m Q8 (q2n Q5 (q0h Q4 (q0m Q2 ?_))))); simp only [go_sem]; obtain rfl := Option.some.inj h; refine q1u rfl ?_; exact leA
  · refine y5 (q05 Q9 (q8 Q8 ?_)); simp only [go_sem]; refine u7 Q5 ?_; exact nxC _ h [] leA
 · refine q0i (q0r Q7 (q0j Q5 (q0d Q4 (q8 Q2 (sM ?_))))); refine q04 ?_; simp only [go_sem]; obtain rfl := Option.some.inj h; refine q1u rfl ?_; exact leA
def q60 (s_0 : List GTime) (f_0 : GTime → Option Bool) : Option Bool :=
 q9 (q5e s_0 f_0) (fun v_0 =>
 some (decide (0 ≤ v_0)))
theorem qy8 (s_0 : List GTime) (f_0 : GTime → Option Bool) (g_f_0 : FuncId) (c_f_0 : List AV) (F_f_0 : q00 c_f_0 = true) (E_f_0 : y8 pp g_f_0 = true) (H_f_0 : ∀ (x0 : GTime) (r : Bool), f_0 x0 = some r → PureS pp g_f_0 ([.agg (Row.row x0)] ++ c_f_0) 0 (.v (.bool r))) (r : Bool) (h : q60 s_0 f_0 = some r) : PureS pp 145 [.sl 5 (enc s_0), .clo g_f_0 c_f_0] 0 (.v (.bool r)) := by
 refine ptI Tryz.func145 rfl ?_; rw [q60] at h; have F := trivial; refine sM ?_; refine sg fun _ Q2 => ?_; obtain ⟨v_0, ev_0, h⟩ := z8 h; simp only [go_sem]; refine q6k (qi7 s_0 f_0 g_f_0 c_f_0 F_f_0 E_f_0 H_f_0 v_0 ev_0) (by rfl) (by simp [go_sem, q00, q09, F_f_0]) ?_; simp only [go_sem]; refine q8 Q2 (q04 ?_); simp only [go_sem]; obtain rfl := Option.some.inj h; refine q1u rfl ?_; exact leA
def q85 (xv_0 : GTime) (cap_0 : GTime) : Option Bool :=
 q9 (qo9 xv_0 cap_0) (fun v_0 =>
 some v_0)
instance z5s (xv_0 : GTime) (cap_0 : GTime) : Ct pp 146 (q85 xv_0 cap_0) [.agg (Row.row xv_0), .el 5 [(Row.row cap_0)] 0 0] fun r => (.v (.bool r)) := ctI Tryz.func146 rfl (by rw [q85]; exact au1)
def qe1 (c_0 : List GTime) (t_0 : GTime) : Option Bool :=
 q9 (q60 c_0 (fun x0_ => q85 x0_ t_0)) (fun v_0 =>
 some v_0)
instance z7l (c_0 : List GTime) (t_0 : GTime) : Ct pp 112 (qe1 c_0 t_0) [.sl 5 (enc c_0), .agg (Row.row t_0)] fun r => (.v (.bool r)) := ctK Tryz.func112 rfl (by rw [qe1]) (by
 intro r h F; refine sM ?_; refine sg fun _ Q2 => ?_; obtain ⟨v_0, ev_0, h⟩ := z8 h; simp only [go_sem]; refine qj2 (qy8 c_0 (fun x0_ => q85 x0_ t_0) 146 [.el 5 [(Row.row t_0)] 0 0] (by rfl) (by kernel_rfl) (fun y0 r_ e_ => z5s y0 t_0 r_ e_) v_0 ev_0) ?_; simp only [go_sem]; exact au)
def q3o (del_0 : GTime → Option Bool) (rec_1 : Int × Int × (List GTime) → Option (List GTime)) : Int × Int × (List GTime) → Option (List GTime) :=
 fun (i_1, j_1, a_1) =>
 (if (decide (j_1 < (a_1.length : Int))) = true then q9 (idx a_1 j_1) (fun xv_4 =>
 q9 (del_0 xv_4) (fun v_3 =>
 (if (!v_3) = true then q9 (idx a_1 i_1) (fun xv_5 =>
 rec_1 (i64.wrap (i_1 + 1), i64.wrap (j_1 + 1), (List.set a_1 (i_1.toNat) xv_4)))
 else rec_1 (i_1, i64.wrap (j_1 + 1), a_1))))
 else x9 (0 ≤ i_1 ∧ i_1 ≤ (a_1.length : Int) ∧ (a_1.length : Int) ≤ (a_1.length : Int)) (
 x9 (i_1.toNat + (a_1.length - i_1.toNat) ≤ a_1.length) (
 x9 (0 ≤ 0 ∧ 0 ≤ i_1 ∧ i_1 ≤ ((a_1.length : Nat) : Int)) (
 some (List.take (i_1.toNat) (List.take (i_1.toNat) a_1 ++ List.replicate ((a_1.length - i_1.toNat)) (⟨0, (⟨0, 0, 0, 0⟩ : Arr4 Int)⟩ : GTime) ++ List.drop (i_1.toNat + (a_1.length - i_1.toNat)) a_1))))))
def q38 (s_0 : List GTime) (del_0 : GTime → Option Bool) : Option (List GTime) :=
 q9 (q5e s_0 del_0) (fun v_0 =>
 (if (v_0 == (-1)) = true then some s_0
 else x8 (q3o del_0) rounds (v_0, i64.wrap (v_0 + 1), s_0)))
theorem qs0 (s_0 : List GTime) (del_0 : GTime → Option Bool) (g_del_0 : FuncId) (c_del_0 : List AV) (F_del_0 : q00 c_del_0 = true) (E_del_0 : y8 pp g_del_0 = true) (H_del_0 : ∀ (x0 : GTime) (r : Bool), del_0 x0 = some r → PureS pp g_del_0 ([.agg (Row.row x0)] ++ c_del_0) 0 (.v (.bool r))) (r : List GTime) (h : q38 s_0 del_0 = some r) : DetS pp 113 [.osl 0 5 (0) (s_0.length), .clo g_del_0 c_del_0] [(0, .arr 5 (enc s_0))] 1 (.osl 1 5 (0) (r.length)) [(1, .arr 5 (enc r))] 2 := by
 refine dtI Tryz.func113 rfl ?_; rw [q38] at h; have F := trivial; refine sM ?_; refine sg fun _ Q2 => ?_; obtain ⟨v_0, ev_0, h⟩ := z8 h; simp only [go_sem]; refine qj2 (qi7 s_0 del_0 g_del_0 c_del_0 F_del_0 E_del_0 H_del_0 v_0 ev_0) ?_ (hf := (by simp [go_sem, q00, q09, F_del_0])); simp only [go_sem]; refine q8 Q2 (sg fun _ Q3 => ?_); refine sM ?_; refine sB h (fun _ h => ?_) fun _ h => ?_
 · refine sM ?_; refine q04 (q0m Q3 ?_); simp only [go_sem]; obtain rfl := Option.some.inj h; refine q83 [some 0] ?_; exact leA
 ·
  refine y5 (q8 Q3 (jg fun _ Q6 => ?_)); refine sM ?_; refine w9 fun _ Q8 => ?_; refine d9 h [1] (fun x => ([(0, .osl 0 5 (0) (x.2.2.length)), (5, .v (.int .i64 x.1)), (6, .v (.int .i64 x.2.1))], [(0, .arr 5 (enc x.2.2))])) 1 ?_; rintro m_1 ⟨i_1, j_1, a_1⟩ h _ Q9; rw [q3o] at h; refine sg fun _ Q10 => ?_; refine sM ?_; refine sB h (fun _ h => ?_) fun _ h => ?_
  ·
   refine y5 (q8 Q10 (jg fun _ Q12 => ?_)); refine w9 fun _ Q13 => ?_; refine sg fun _ Q14 => ?_; obtain ⟨xv_4, F, h⟩ := bI F h; simp only [go_sem, F]; refine ai ?_; refine q8 Q14 (sg fun _ Q15 => ?_); obtain ⟨v_3, ev_3, h⟩ := z8 h; simp only [go_sem, E_del_0]; refine q6k (H_del_0 xv_4 v_3 ev_3) (by rfl) (by simp [go_sem, q00, q09, F_del_0]) ?_; simp only [go_sem]; refine q8 Q15 (sB h (fun _ h => ?_) fun _ h => ?_)
   ·
    refine sg fun _ Q16 => ?_; obtain ⟨xv_5, F, h⟩ := bI F h; have rf_4 : (enc a_1).set (i_1.toNat) [.v (.int .i64 xv_4.D), .v (.int .i64 xv_4.C.a0), .v (.int .i64 xv_4.C.a1), .v (.int .i64 xv_4.C.a2), .v (.int .i64 xv_4.C.a3)] = enc (List.set a_1 (i_1.toNat) xv_4) := by exact q1a _ _ _
    simp only [go_sem, rf_4, F]; refine ai ?_; refine q8 Q16 ?_; simp only [go_sem]; refine q05 Q13 (q8 Q12 ?_); simp only [go_sem]; refine u7 Q9 ?_; exact nxC _ h [] leA
   · refine y5 (q05 Q13 (q8 Q12 ?_)); simp only [go_sem]; refine u7 Q9 ?_; exact nxC _ h [] leA
  ·
   refine q0i (q0r Q10 (q0j Q9 (q0d Q8 (q8 Q6 (sg fun _ Q17 => ?_))))); obtain ⟨F, h⟩ := bG F h; obtain ⟨F, h⟩ := bG F h; have rf_5 : List.take (i_1.toNat) (enc a_1) ++ List.replicate ((a_1.length - i_1.toNat)) [.v (.int .i64 0), .v (.int .i64 0), .v (.int .i64 0), .v (.int .i64 0), .v (.int .i64 0)] ++ List.drop (i_1.toNat + (a_1.length - i_1.toNat)) (enc a_1) = enc (List.take (i_1.toNat) a_1 ++ List.replicate ((a_1.length - i_1.toNat)) (⟨0, (⟨0, 0, 0, 0⟩ : Arr4 Int)⟩ : GTime) ++ List.drop (i_1.toNat + (a_1.length - i_1.toNat)) a_1) := by (simp [enc, qj4, qb4, q99, q37, List.map_take, List.map_drop]; exact .inr rfl)
   have rf_5b := rf_5; simp only [z2d, z5d] at rf_5b; simp only [go_sem, rf_5, rf_5b, F]; refine q8 Q17 (sg fun _ Q18 => ?_); obtain ⟨F, h⟩ := bG F h; simp only [go_sem, F]; refine q8 Q18 (q04 ?_); simp only [go_sem]; obtain rfl := Option.some.inj h; refine q83 [some 0] ?_; exact leA
def qe0 (xv_0 : GTime) (cap_0 : GTime) : Option Bool :=
 q9 (qo9 cap_0 xv_0) (fun v_0 =>
 some v_0)
instance z9d (xv_0 : GTime) (cap_0 : GTime) : Ct pp 114 (qe0 xv_0 cap_0) [.agg (Row.row xv_0), .el 5 [(Row.row cap_0)] 0 0] fun r => (.v (.bool r)) := ctI Tryz.func114 rfl (by rw [qe0]; exact au1)
def q2u (xv_0 : List GTime) (target_0 : GTime) (cmp_0 : GTime → GTime → Option Int) (i_2 : Int) : Option (Int × Bool) :=
 (if (decide (i_2 < (xv_0.length : Int))) = true then q9 (idx xv_0 i_2) (fun xv_4 =>
 q9 (cmp_0 xv_4 target_0) (fun v_3 =>
 some (i_2, (v_3 == 0))))
 else some (i_2, false))
def q4x (xv_0 : List GTime) (target_0 : GTime) (cmp_0 : GTime → GTime → Option Int) (rec_2 : Int × Int → Option (Int × Bool)) : Int × Int → Option (Int × Bool) :=
 fun (i_4, j_3) =>
 (if (decide (i_4 < j_3)) = true then q9 (idx xv_0 (i64.wrap (q1o .u64 (IntKind.u64.wrap (i64.wrap (i_4 + j_3))) 1))) (fun xv_7 =>
 q9 (cmp_0 xv_7 target_0) (fun v_6 =>
 (if (decide (v_6 < 0)) = true then rec_2 (i64.wrap ((i64.wrap (q1o .u64 (IntKind.u64.wrap (i64.wrap (i_4 + j_3))) 1)) + 1), j_3)
 else rec_2 (i_4, i64.wrap (q1o .u64 (IntKind.u64.wrap (i64.wrap (i_4 + j_3))) 1)))))
 else q2u xv_0 target_0 cmp_0 i_4)
def q25 (xv_0 : List GTime) (target_0 : GTime) (cmp_0 : GTime → GTime → Option Int) : Option (Int × Bool) :=
 x8 (q4x xv_0 target_0 cmp_0) rounds (0, (xv_0.length : Int))
theorem qn0 (xv_0 : List GTime) (target_0 : GTime) (cmp_0 : GTime → GTime → Option Int) (g_cmp_0 : FuncId) (c_cmp_0 : List AV) (F_cmp_0 : q00 c_cmp_0 = true) (E_cmp_0 : y8 pp g_cmp_0 = true) (H_cmp_0 : ∀ (x0 : GTime) (x1 : GTime) (r : Int), cmp_0 x0 x1 = some r → PureS pp g_cmp_0 ([.agg (Row.row x0), .agg (Row.row x1)] ++ c_cmp_0) 0 (.v (.int .i64 r))) (r : Int × Bool) (h : q25 xv_0 target_0 cmp_0 = some r) : PureS pp 115 [.sl 5 (enc xv_0), .agg (Row.row target_0), .clo g_cmp_0 c_cmp_0] 0 (.tup [.v (.int .i64 r.1), .v (.bool r.2)]) := by
 refine ptI Tryz.func115 rfl ?_; rw [q25] at h; have F := trivial; refine sM ?_; refine sM ?_; refine sM ?_; refine q1n (fun (i_2 : Int) => q2u xv_0 target_0 cmp_0 i_2 = some r) [0, 2, 4, 8] (fun i_2 => ([(9, .v (.int .i64 i_2))], [(0, .box (Row.row target_0))])) 1 ?_ ?_
 ·
  intro _ Q5; refine w9 fun _ Q6 => ?_; refine d9 h [0, 2, 4, 8] (fun x => ([(9, .v (.int .i64 x.1)), (10, .v (.int .i64 x.2))], [(0, .box (Row.row target_0))])) 1 ?_; rintro m_2 ⟨i_4, j_3⟩ h _ Q7; rw [q4x] at h; refine sg fun _ Q8 => ?_; refine sM ?_; refine sB h (fun _ h => ?_) fun _ h => ?_
  ·
   refine y5 (q8 Q8 (w9 fun _ Q10 => ?_)); refine sM ?_; refine sg fun _ Q12 => ?_; refine q02 ?_; refine j9m ?_; obtain ⟨xv_7, F, h⟩ := bI F h; obtain ⟨v_6, ev_6, h⟩ := z8 h; simp only [go_sem, E_cmp_0, F]; refine ai ?_; refine q6k (H_cmp_0 xv_7 target_0 v_6 ev_6) (by rfl) (by simp [go_sem, q00, q09, F_cmp_0]) ?_; simp only [go_sem]; refine q8 Q12 (sB h (fun _ h => ?_) fun _ h => ?_)
   · simp only [go_sem]; refine q05 Q10 (u7 Q7 ?_); exact nxC _ h [some 0] leA
   · simp only [go_sem]; refine q05 Q10 (u7 Q7 ?_); exact nxC _ h [some 0] leA
  · refine q0i (q0r Q8 (q0j Q7 (q0d Q6 (u7 Q5 (⟨i_4, [some 0], ?_, h⟩))))); exact leA
 ·
  rintro i_2 h
  try dsimp only at h
  rw [q2u] at h; refine sg fun _ Q4 => ?_; refine q02 ?_; refine j9m ?_; simp only [go_sem]; rcases hb_6 : (decide (i_2 < (xv_0.length : Int))) with _ | _
  · replace h := q1m h hb_6; simp only [go_sem, hb_6]; refine q8 Q4 (q04 ?_); simp only [go_sem]; obtain rfl := Option.some.inj h; refine q1u rfl ?_; exact leA
  · replace h := q1l h hb_6; obtain ⟨xv_4, F, h⟩ := bI F h; obtain ⟨v_3, ev_3, h⟩ := z8 h; simp only [go_sem, hb_6, E_cmp_0, F]; refine ai ?_; refine ai ?_; refine callq (fun _ => (H_cmp_0 xv_4 target_0 v_3 ev_3)) (by rfl) (by simp [go_sem, q00, q09, F_cmp_0]) ?_; simp only [go_sem]; refine q8 Q4 (q04 ?_); simp only [go_sem]; obtain rfl := Option.some.inj h; refine q1u rfl ?_; exact leA
def q9q (xv_0 : GTime) (t_0 : GTime) : Option Int :=
 q9 (qa7 xv_0 t_0) (fun v_0 =>
 (if v_0 = true then some (-1)
 else some 1))
instance z9c (xv_0 : GTime) (t_0 : GTime) : Ct pp 116 (q9q xv_0 t_0) [.agg (Row.row xv_0), .agg (Row.row t_0)] fun r => (.v (.int .i64 r)) := ctI Tryz.func116 rfl (by rw [q9q]; exact au1)
def q6s (x_0 : List GTime) (i_0 : Int) (v_0 : List GTime) : Option (List GTime) := z00 40 x_0 i_0 v_0
theorem qq9 : InsLay pp (z6i 117 148 149 0 3 4 34 71) 5 40 (.agg #[.int .i64 0, .int .i64 0, .int .i64 0, .int .i64 0, .int .i64 0] : Value) := { mixed := by kernel_rfl, t0 := Tryz.underlying0, a0 := Tryz.isAgg0, z0 := Tryz.sizeOf0, v0 := Tryz.zeroValue0, t3 := Tryz.underlying3, a3 := Tryz.isAgg3, z3 := Tryz.sizeOf3, v3 := Tryz.zeroValue3, t4 := Tryz.underlying4, a4 := Tryz.isAgg4, z4 := Tryz.sizeOf4, v4 := Tryz.zeroValue4, t24 := Tryz.underlying71, a24 := Tryz.isAgg71, z24 := Tryz.sizeOf71, v24 := Tryz.zeroValue71, z9 := Tryz.sizeOf34, i9 := z7e (by kernel_rfl), f22 := ⟨"slices.Insert[[]backwash/api.Time,backwash/api.Time]", by decide, by kernel_rfl⟩, ov := ⟨_, Tryz.func148, by kernel_rfl, by kernel_rfl, by kernel_rfl, by kernel_rfl⟩ }
theorem qr0 (x_0 : List GTime) (i_0 : Int) (v_0 : List GTime) (r : List GTime) (h : q6s x_0 i_0 v_0 = some r) : DetS pp 117 [.osl 0 5 0 (x_0.length), .v (.int .i64 i_0), .osl 1 5 0 (v_0.length)] [(0, .arr 5 (enc x_0)), (1, .arr 5 (enc v_0))] 2 (.osl 2 5 0 (r.length)) [(2, .arr 5 (enc r))] 3 :=
  z4u qq9 (by kernel_rfl) (by kernel_rfl) (by decide) (by rfl) (by decide) rfl (fun _ => rfl) h
def qt5 (l_0 : List GTime) (rec_1 : Int × (List GTime) → Option (List GTime)) : Int × (List GTime) → Option (List GTime) :=
 fun (t10_1, a_1) =>
 (if (decide (t10_1 < (l_0.length : Int))) = true then q9 (idx l_0 t10_1) (fun xv_2 =>
 q9 (q21 xv_2) (fun v_10 =>
 (if v_10 = true then q9 (qe1 a_1 xv_2) (fun v_11 =>
 (if v_11 = true then rec_1 (i64.wrap (t10_1 + 1), a_1)
 else q9 (q38 a_1 (fun x0_ => qe0 x0_ xv_2)) (fun v_12 =>
 q9 (q25 v_12 xv_2 (fun x0_ x1_ => q9q x0_ x1_)) (fun v_13 =>
 q9 (q6s v_12 v_13.1 ([xv_2] : List GTime)) (fun v_14 =>
 rec_1 (i64.wrap (t10_1 + 1), v_14))))))
 else rec_1 (i64.wrap (t10_1 + 1), a_1))))
 else some a_1)
def qb2 (l_0 : List GTime) : Option (List GTime) :=
 x8 (qt5 l_0) rounds (0, [])
theorem qp6 (l_0 : List GTime)  (r : List GTime) (h : qb2 l_0 = some r) : DetS pp 66 [.sl 5 (enc l_0)] [] 0 (.osl 0 5 (0) (r.length)) [(0, .arr 5 (enc r))] 1 := by
 refine dtI Tryz.func66 rfl ?_; rw [qb2] at h; have F := trivial; refine sM ?_; refine sM ?_; refine jg fun _ Q3 => ?_; refine sM ?_; refine w9 fun _ Q5 => ?_; refine d9 h [8, 9] (fun x => ([(3, .osl 0 5 (0) (x.2.length)), (10, .v (.int .i64 x.1))], [(0, .arr 5 (enc x.2))])) 1 ?_; rintro m_1 ⟨t10_1, a_1⟩ h _ Q6; rw [qt5] at h; refine sM ?_; refine sg fun _ Q8 => ?_; refine sB h (fun _ h => ?_) fun _ h => ?_
 ·
  refine y5 (q8 Q8 (sg fun _ Q9 => ?_)); refine w9 fun _ Q10 => ?_; refine sg fun _ Q11 => ?_; obtain ⟨xv_2, F, h⟩ := bI F h; simp only [go_sem, F]; refine ai ?_; refine q8 Q11 (sg fun _ Q12 => ?_); refine sg fun _ Q13 => ?_; simp only [go_sem]; refine q0o h fun v_10 h => ?_; simp only [go_sem]; rcases hb_7 : v_10 with _ | _
  · replace h := q1m h hb_7; simp only [go_sem, hb_7]; exact au
  ·
   replace h := q1l h hb_7; obtain ⟨v_11, ev_11, h⟩ := z8 h; simp only [go_sem, hb_7]; refine qj2 (z7l a_1 xv_2 v_11 ev_11) ?_; simp only [go_sem]; refine q8 Q13 (sB h (fun _ h => ?_) fun _ h => ?_)
   · exact au
   ·
    refine y5 (q8 Q12 (sg fun _ Q14 => ?_)); obtain ⟨v_12, ev_12, h⟩ := z8 h; simp only [go_sem]; refine q7q [3, 8, 9, 10, 18, 19, 20] ([(5, .el 5 [(Row.row xv_2)] 0 0)], [(0, .arr 5 (enc a_1))]) 1 [some 0] [.osl 0 5 (0) (a_1.length), .clo 114 [.el 5 [(Row.row xv_2)] 0 0]] ?_; refine q0b [0] (qs0 a_1 (fun x0_ => qe0 x0_ xv_2) 114 [.el 5 [(Row.row xv_2)] 0 0] (by rfl) (by kernel_rfl) (fun y0 r_ e_ => z9d y0 xv_2 r_ e_) v_12 ev_12) ?_; simp only [go_sem]; refine q8 Q14 (sg fun _ Q15 => ?_); obtain ⟨v_13, ev_13, h⟩ := z8 h; simp only [go_sem]; refine qj2 (qn0 v_12 xv_2 (fun x0_ x1_ => q9q x0_ x1_) 116 [] (by rfl) (by kernel_rfl) (fun y0 y1 r_ e_ => z9c y0 y1 r_ e_) v_13 ev_13) ?_; simp only [go_sem]; refine q8 Q15 ?_; have rf_2 : [[.v (.int .i64 xv_2.D), .v (.int .i64 xv_2.C.a0), .v (.int .i64 xv_2.C.a1), .v (.int .i64 xv_2.C.a2), .v (.int .i64 xv_2.C.a3)]] = enc ([xv_2] : List GTime) := by rfl
    obtain ⟨v_14, ev_14, h⟩ := z8 h; simp only [go_sem]; simp only [rf_2]; refine q0b [1, 2] (qr0 v_12 v_13.1 ([xv_2] : List GTime) v_14 ev_14) ?_; simp only [go_sem]; exact au
 · exact au
instance j7f (l_0 : List GTime) : Ct pp 66 (qb2 l_0) [.sl 5 (enc l_0)] fun r => (.sl 5 (enc r)) := ⟨fun r h => (qp6 l_0  r h).pure leA⟩
def q88 (s1_0 : List GTime) (s2_0 : List GTime) (rec_1 : Int → Option Bool) : Int → Option Bool :=
 fun t13_1 =>
 (if (decide (t13_1 < (s1_0.length : Int))) = true then q9 (idx s1_0 t13_1) (fun xv_4 =>
 q9 (idx s2_0 t13_1) (fun xv_5 =>
 (if (!((xv_4.D == xv_5.D) && ((xv_4.C.a0 == xv_5.C.a0) && ((xv_4.C.a1 == xv_5.C.a1) && ((xv_4.C.a2 == xv_5.C.a2) && (xv_4.C.a3 == xv_5.C.a3)))))) = true then some false
 else rec_1 (i64.wrap (t13_1 + 1)))))
 else some true)
def q7y (s1_0 : List GTime) (s2_0 : List GTime) : Option Bool :=
 (if (!((s1_0.length : Int) == (s2_0.length : Int))) = true then some false
 else x8 (q88 s1_0 s2_0) rounds 0)
instance z3h (s1_0 : List GTime) (s2_0 : List GTime) : Ct pp 73 (q7y s1_0 s2_0) [.sl 5 (enc s1_0), .sl 5 (enc s2_0)] fun r => (.v (.bool r)) := ctK Tryz.func73 rfl (by rw [q7y]) (by
 intro r h F; refine sM ?_; refine sg fun _ Q2 => ?_; refine sM ?_; refine sB h (fun _ h => ?_) fun _ h => ?_
 · exact au
 · refine y5 (q8 Q2 (jg fun _ Q5 => ?_)); refine sM ?_; refine w9 fun _ Q7 => ?_; refine d9 h [0, 1, 12] (fun t13_1 => ([(13, .v (.int .i64 t13_1))], [])) 0 ?_; rintro m_1 t13_1 h _ Q8; rw [q88] at h; exact au)
def qj1 (c_0 : List GTime) : Option Bool :=
 q9 (qb2 c_0) (fun v_0 =>
 q9 (q7y c_0 v_0) (fun v_1 =>
 some v_1))
instance j3m (c_0 : List GTime) : Ct pp 31 (qj1 c_0) [.sl 5 (enc c_0)] fun r => (.v (.bool r)) := ctK Tryz.func31 rfl (by rw [qj1]) (by
 intro r h F; refine sM ?_; refine sg fun _ Q2 => ?_; obtain ⟨v_0, ev_0, h⟩ := z8 h; simp only [go_sem]; refine q0b [] (qp6 c_0 v_0 ev_0) ?_; obtain ⟨v_1, ev_1, h⟩ := z8 h; simp only [go_sem]; refine qj2 (z3h c_0 v_0 v_1 ev_1) ?_; simp only [go_sem]; exact au)
def z4x (g_0 : GGraph) (id_0 : Int) : Option GUnit :=
 x9 (0 ≤ (g_0.Nodes.length : Int) ∧ (g_0.Nodes.length : Int) * 24 ≤ 140737488355328) (
 x9 (0 ≤ (g_0.Nodes.length : Int) ∧ (g_0.Nodes.length : Int) * 24 ≤ 140737488355328) (
 some (⟨id_0, (List.replicate (g_0.Nodes.length) ([] : List GSlot)), 0, (⟨0, 0⟩ : Arr2 Int), (⟨0, 0⟩ : Arr2 Int), (List.replicate (g_0.Nodes.length) ([] : List GTime)), 0, 0⟩ : GUnit)))
instance zf8 (g_0 : GGraph) (id_0 : Int) : Ct pp 14 (z4x g_0 id_0) [.agg (Row.row g_0), .v (.int .i64 id_0)] fun r => (.agg (Row.row r)) := ctK Tryz.func14 rfl (by rw [z4x]) (by
 intro r h F; refine sM ?_; refine sM ?_; refine sg fun _ Q3 => ?_; refine q02 ?_; refine j9m ?_; obtain ⟨F, h⟩ := bG F h; have rf_0 : List.replicate (g_0.Nodes.length) [.sl 10 (enc ([] : List GSlot))] = enc (List.replicate (g_0.Nodes.length) ([] : List GSlot)) := by (simp [enc, qj4, qb4, q99, q37]; exact .inr rfl)
 have rf_0n := rf_0; simp only [q37] at rf_0n; obtain ⟨F, h⟩ := bG F h; have rf_1 : List.replicate (g_0.Nodes.length) [.sl 5 (enc ([] : List GTime))] = enc (List.replicate (g_0.Nodes.length) ([] : List GTime)) := by (simp [enc, qj4, qb4, q99, q37]; exact .inr rfl)
 have rf_1n := rf_1; simp only [q37] at rf_1n; simp only [go_sem, F]; refine ai ?_; refine ai ?_; simp only [rf_0n, rf_0, rf_1n, rf_1]; exact au)
def q7c (g_0 : GGraph) (rec_1 : Int → Option Bool) : Int → Option Bool :=
 fun i_1 =>
 (if (decide (i_1 < (g_0.Nodes.length : Int))) = true then q9 (idx g_0.Nodes i_1) (fun xv_2 =>
 (if (decide (100 < (xv_2.Prog.length : Int))) = true then some false
 else rec_1 (i64.wrap (i_1 + 1))))
 else some true)
def q6d (g_0 : GGraph) : Option Bool :=
 (if ((((decide (20 < (g_0.Parent.length : Int))) || (decide (20 < (g_0.Bound.length : Int)))) || (decide (60 < (g_0.Nodes.length : Int)))) || (decide (100 < (g_0.Edges.length : Int)))) = true then some false
 else x8 (q7c g_0) rounds 0)
instance zm4 (g_0 : GGraph) : Ct pp 15 (q6d g_0) [.agg (Row.row g_0)] fun r => (.v (.bool r)) := ctK Tryz.func15 rfl (by rw [q6d]) (by
 intro r h F; refine sM ?_; refine sg fun _ Q2 => ?_; refine sM ?_; refine sB h (fun _ h => ?_) fun _ h => ?_
 · exact au
 · refine y5 (q8 Q2 (jg fun _ Q5 => ?_)); refine sM ?_; refine w9 fun _ Q7 => ?_; refine d9 h [1] (fun i_1 => ([(3, .v (.int .i64 i_1))], [(0, .box (Row.row g_0))])) 1 ?_; rintro m_1 i_1 h _ Q8; rw [q7c] at h; exact au)
def q6u (s_0 : List (List GSlot)) : Option (List (List GSlot)) :=
 x9 ((List.length ([] : List (List GSlot)) + s_0.length) * 24 ≤ 140737488355328) (
 some (([] : List (List GSlot)) ++ s_0))
theorem qm9 (s_0 : List (List GSlot))  (r : List (List GSlot)) (h : q6u s_0 = some r) : DetS pp 59 [.sl 1 (enc s_0)] [] 0 (.osl 0 1 (0) (r.length)) [(0, .arr 1 (enc r))] 1 := by
 refine dtI Tryz.func59 rfl ?_; rw [q6u] at h; have F := trivial; refine sM ?_; refine sg fun _ Q2 => ?_; refine sg fun _ Q3 => ?_; simp only [go_sem]; intro nb_0 hnb_0; rcases nb_0 with _ | _
 ·
  refine q8 Q3 (jf2 ?_); refine y5 (q8 Q2 (sg fun _ Q4 => ?_)); obtain ⟨g_0, h⟩ := q0v h; have F := And.intro F g_0; simp only [List.length_cons, List.length_nil, Nat.zero_add, List.length_append] at g_0; have rf_0 : enc ([] : List (List GSlot)) ++ enc s_0 = enc (([] : List (List GSlot)) ++ s_0) := by exact (q6f ([] : List (List GSlot)) s_0).symm
  simp only [go_sem, g_0, rf_0]; exact au
 ·
  have hE_nb_0 : s_0 = [] := by cases hq : (s_0) with | nil => rfl | cons y ys => exact absurd (hnb_0 (by rw [hq]; simp [enc])) (by simp)
  simp only [hE_nb_0] at h; exact au
instance zp4 (s_0 : List (List GSlot)) : Ct pp 59 (q6u s_0) [.sl 1 (enc s_0)] fun r => (.sl 1 (enc r)) := ⟨fun r h => (qm9 s_0  r h).pure leA⟩
def q6t (s_0 : List (List GTime)) : Option (List (List GTime)) :=
 x9 ((List.length ([] : List (List GTime)) + s_0.length) * 24 ≤ 140737488355328) (
 some (([] : List (List GTime)) ++ s_0))
theorem qm8 (s_0 : List (List GTime))  (r : List (List GTime)) (h : q6t s_0 = some r) : DetS pp 60 [.sl 1 (enc s_0)] [] 0 (.osl 0 1 (0) (r.length)) [(0, .arr 1 (enc r))] 1 := by
 refine dtI Tryz.func60 rfl ?_; rw [q6t] at h; have F := trivial; refine sM ?_; refine sg fun _ Q2 => ?_; refine sg fun _ Q3 => ?_; simp only [go_sem]; intro nb_0 hnb_0; rcases nb_0 with _ | _
 ·
  refine q8 Q3 (jf2 ?_); refine y5 (q8 Q2 (sg fun _ Q4 => ?_)); obtain ⟨g_0, h⟩ := q0v h; have F := And.intro F g_0; simp only [List.length_cons, List.length_nil, Nat.zero_add, List.length_append] at g_0; have rf_0 : enc ([] : List (List GTime)) ++ enc s_0 = enc (([] : List (List GTime)) ++ s_0) := by exact (q6f ([] : List (List GTime)) s_0).symm
  simp only [go_sem, g_0, rf_0]; exact au
 ·
  have hE_nb_0 : s_0 = [] := by cases hq : (s_0) with | nil => rfl | cons y ys => exact absurd (hnb_0 (by rw [hq]; simp [enc])) (by simp)
  simp only [hE_nb_0] at h; exact au
instance zp3 (s_0 : List (List GTime)) : Ct pp 60 (q6t s_0) [.sl 1 (enc s_0)] fun r => (.sl 1 (enc r)) := ⟨fun r h => (qm8 s_0  r h).pure leA⟩
def q8q (u_0 : GUnit) : Option GUnit :=
 q9 (q6u u_0.Cells) (fun v_0 =>
 q9 (q6t u_0.Red) (fun v_1 =>
 some (⟨u_0.ID, v_0, u_0.Colour, u_0.Sent, u_0.Got, v_1, u_0.Late, u_0.Backs⟩ : GUnit)))
theorem qq7 (u_0 : GUnit)  (r : GUnit) (h : q8q u_0 = some r) : DetS pp 20 [.agg (Row.row u_0)] [] 0 (.agg [.v (.int .i64 r.ID), .osl 0 1 (0) (r.Cells.length), .v (.int .i64 r.Colour), .v (.int .i64 r.Sent.a0), .v (.int .i64 r.Sent.a1), .v (.int .i64 r.Got.a0), .v (.int .i64 r.Got.a1), .osl 1 1 (0) (r.Red.length), .v (.int .i64 r.Late), .v (.int .i64 r.Backs)]) [(0, .arr 1 (enc r.Cells)), (1, .arr 1 (enc r.Red))] 2 := by
 refine dtI Tryz.func20 rfl ?_; rw [q8q] at h; have F := trivial; refine sM ?_; refine sg fun _ Q2 => ?_; refine q02 ?_; refine q56 7 0 0 [0, 1, 3, 0, 8, 31, 31, 127, 255, 511] [2, 3] [3, 4, 6] [] [2, 5] [] mixed (by kernel_rfl) (of_decide_eq_true (by kernel_rfl)) (by kernel_rfl) (by kernel_rfl) (by rfl) ?_; obtain ⟨v_0, ev_0, h⟩ := z8 h; simp only [go_sem]; refine z6s [] (qm9 u_0.Cells v_0 ev_0) rfl trivial rfl rfl rfl rfl ?_; obtain ⟨v_1, ev_1, h⟩ := z8 h; simp only [go_sem]; refine z6s [] (qm8 u_0.Red v_1 ev_1) rfl trivial rfl rfl rfl rfl ?_; simp only [go_sem]; exact au
instance j3j (u_0 : GUnit) : Ct pp 20 (q8q u_0) [.agg (Row.row u_0)] fun r => (.agg (Row.row r)) := ⟨fun r h => (qq7 u_0  r h).pure leA⟩
def qe9 (s_0 : List (List GSlot)) (f_0 : (List GSlot) → Option Bool) (rec_1 : Int → Option Int) : Int → Option Int :=
 fun t8_1 =>
 (if (decide (t8_1 < (s_0.length : Int))) = true then q9 (idx s_0 t8_1) (fun xv_2 =>
 q9 (f_0 xv_2) (fun v_2 =>
 (if v_2 = true then some t8_1
 else rec_1 (i64.wrap (t8_1 + 1)))))
 else some (-1))
def q9l (s_0 : List (List GSlot)) (f_0 : (List GSlot) → Option Bool) : Option Int :=
 x8 (qe9 s_0 f_0) rounds 0
theorem z0q (s_0 : List (List GSlot)) (f_0 : (List GSlot) → Option Bool) (g_f_0 : FuncId) (c_f_0 : List AV) (F_f_0 : q00 c_f_0 = true) (E_f_0 : y8 pp g_f_0 = true) (H_f_0 : ∀ (x0 : List GSlot) (r : Bool), f_0 x0 = some r → PureS pp g_f_0 ([.sl 10 (enc x0)] ++ c_f_0) 0 (.v (.bool r))) (r : Int) (h : q9l s_0 f_0 = some r) : PureS pp 69 [.sl 1 (enc s_0), .clo g_f_0 c_f_0] 0 (.v (.int .i64 r)) := by
 refine ptI Tryz.func69 rfl ?_; rw [q9l] at h; have F := trivial; refine sM ?_; refine jg fun _ Q2 => ?_; refine sM ?_; refine w9 fun _ Q4 => ?_; refine d9 h [0, 1, 7] (fun t8_1 => ([(8, .v (.int .i64 t8_1))], [])) 0 ?_; rintro m_1 t8_1 h _ Q5; rw [qe9] at h; refine sM ?_; refine sg fun _ Q7 => ?_; refine sB h (fun _ h => ?_) fun _ h => ?_
 ·
  refine y5 (q8 Q7 (sg fun _ Q8 => ?_)); refine w9 fun _ Q9 => ?_; refine sM ?_; refine sg fun _ Q11 => ?_; obtain ⟨xv_2, F, h⟩ := bI F h; obtain ⟨v_2, ev_2, h⟩ := z8 h; simp only [go_sem, E_f_0, F]; refine ai ?_; refine q6k (H_f_0 xv_2 v_2 ev_2) (by rfl) (by simp [go_sem, q00, q09, F_f_0]) ?_; simp only [go_sem]; refine q8 Q11 (sB h (fun _ h => ?_) fun _ h => ?_)
  · refine sM ?_; refine q04 (q0h Q9 (q0m Q8 (q2n Q5 (q0h Q4 (q0m Q2 ?_))))); simp only [go_sem]; obtain rfl := Option.some.inj h; refine q1u rfl ?_; exact leA
  · refine y5 (q05 Q9 (q8 Q8 ?_)); simp only [go_sem]; refine u7 Q5 ?_; exact nxC _ h [] leA
 · refine q0i (q0r Q7 (q0j Q5 (q0d Q4 (q8 Q2 (sM ?_))))); refine q04 ?_; simp only [go_sem]; obtain rfl := Option.some.inj h; refine q1u rfl ?_; exact leA
def q5m (s_0 : List (List GSlot)) (f_0 : (List GSlot) → Option Bool) : Option Bool :=
 q9 (q9l s_0 f_0) (fun v_0 =>
 some (decide (0 ≤ v_0)))
theorem qw9 (s_0 : List (List GSlot)) (f_0 : (List GSlot) → Option Bool) (g_f_0 : FuncId) (c_f_0 : List AV) (F_f_0 : q00 c_f_0 = true) (E_f_0 : y8 pp g_f_0 = true) (H_f_0 : ∀ (x0 : List GSlot) (r : Bool), f_0 x0 = some r → PureS pp g_f_0 ([.sl 10 (enc x0)] ++ c_f_0) 0 (.v (.bool r))) (r : Bool) (h : q5m s_0 f_0 = some r) : PureS pp 26 [.sl 1 (enc s_0), .clo g_f_0 c_f_0] 0 (.v (.bool r)) := by
 refine ptI Tryz.func26 rfl ?_; rw [q5m] at h; have F := trivial; refine sM ?_; refine sg fun _ Q2 => ?_; obtain ⟨v_0, ev_0, h⟩ := z8 h; simp only [go_sem]; refine q6k (z0q s_0 f_0 g_f_0 c_f_0 F_f_0 E_f_0 H_f_0 v_0 ev_0) (by rfl) (by simp [go_sem, q00, q09, F_f_0]) ?_; simp only [go_sem]; refine q8 Q2 (q04 ?_); simp only [go_sem]; obtain rfl := Option.some.inj h; refine q1u rfl ?_; exact leA
def q69 (c_0 : List GSlot) : Option Bool :=
 q9 (q8f c_0) (fun v_0 =>
 some (!v_0))
instance z7k (c_0 : List GSlot) : Ct pp 27 (q69 c_0) [.sl 10 (enc c_0)] fun r => (.v (.bool r)) := ctI Tryz.func27 rfl (by rw [q69]; exact au1)
def qe8 (s_0 : List (List GTime)) (f_0 : (List GTime) → Option Bool) (rec_1 : Int → Option Int) : Int → Option Int :=
 fun t8_1 =>
 (if (decide (t8_1 < (s_0.length : Int))) = true then q9 (idx s_0 t8_1) (fun xv_2 =>
 q9 (f_0 xv_2) (fun v_2 =>
 (if v_2 = true then some t8_1
 else rec_1 (i64.wrap (t8_1 + 1)))))
 else some (-1))
def q9k (s_0 : List (List GTime)) (f_0 : (List GTime) → Option Bool) : Option Int :=
 x8 (qe8 s_0 f_0) rounds 0
theorem z0p (s_0 : List (List GTime)) (f_0 : (List GTime) → Option Bool) (g_f_0 : FuncId) (c_f_0 : List AV) (F_f_0 : q00 c_f_0 = true) (E_f_0 : y8 pp g_f_0 = true) (H_f_0 : ∀ (x0 : List GTime) (r : Bool), f_0 x0 = some r → PureS pp g_f_0 ([.sl 5 (enc x0)] ++ c_f_0) 0 (.v (.bool r))) (r : Int) (h : q9k s_0 f_0 = some r) : PureS pp 72 [.sl 1 (enc s_0), .clo g_f_0 c_f_0] 0 (.v (.int .i64 r)) := by
 refine ptI Tryz.func72 rfl ?_; rw [q9k] at h; have F := trivial; refine sM ?_; refine jg fun _ Q2 => ?_; refine sM ?_; refine w9 fun _ Q4 => ?_; refine d9 h [0, 1, 7] (fun t8_1 => ([(8, .v (.int .i64 t8_1))], [])) 0 ?_; rintro m_1 t8_1 h _ Q5; rw [qe8] at h; refine sM ?_; refine sg fun _ Q7 => ?_; refine sB h (fun _ h => ?_) fun _ h => ?_
 ·
  refine y5 (q8 Q7 (sg fun _ Q8 => ?_)); refine w9 fun _ Q9 => ?_; refine sM ?_; refine sg fun _ Q11 => ?_; obtain ⟨xv_2, F, h⟩ := bI F h; obtain ⟨v_2, ev_2, h⟩ := z8 h; simp only [go_sem, E_f_0, F]; refine ai ?_; refine q6k (H_f_0 xv_2 v_2 ev_2) (by rfl) (by simp [go_sem, q00, q09, F_f_0]) ?_; simp only [go_sem]; refine q8 Q11 (sB h (fun _ h => ?_) fun _ h => ?_)
  · refine sM ?_; refine q04 (q0h Q9 (q0m Q8 (q2n Q5 (q0h Q4 (q0m Q2 ?_))))); simp only [go_sem]; obtain rfl := Option.some.inj h; refine q1u rfl ?_; exact leA
  · refine y5 (q05 Q9 (q8 Q8 ?_)); simp only [go_sem]; refine u7 Q5 ?_; exact nxC _ h [] leA
 · refine q0i (q0r Q7 (q0j Q5 (q0d Q4 (q8 Q2 (sM ?_))))); refine q04 ?_; simp only [go_sem]; obtain rfl := Option.some.inj h; refine q1u rfl ?_; exact leA
def q5l (s_0 : List (List GTime)) (f_0 : (List GTime) → Option Bool) : Option Bool :=
 q9 (q9k s_0 f_0) (fun v_0 =>
 some (decide (0 ≤ v_0)))
theorem qw8 (s_0 : List (List GTime)) (f_0 : (List GTime) → Option Bool) (g_f_0 : FuncId) (c_f_0 : List AV) (F_f_0 : q00 c_f_0 = true) (E_f_0 : y8 pp g_f_0 = true) (H_f_0 : ∀ (x0 : List GTime) (r : Bool), f_0 x0 = some r → PureS pp g_f_0 ([.sl 5 (enc x0)] ++ c_f_0) 0 (.v (.bool r))) (r : Bool) (h : q5l s_0 f_0 = some r) : PureS pp 29 [.sl 1 (enc s_0), .clo g_f_0 c_f_0] 0 (.v (.bool r)) := by
 refine ptI Tryz.func29 rfl ?_; rw [q5l] at h; have F := trivial; refine sM ?_; refine sg fun _ Q2 => ?_; obtain ⟨v_0, ev_0, h⟩ := z8 h; simp only [go_sem]; refine q6k (z0p s_0 f_0 g_f_0 c_f_0 F_f_0 E_f_0 H_f_0 v_0 ev_0) (by rfl) (by simp [go_sem, q00, q09, F_f_0]) ?_; simp only [go_sem]; refine q8 Q2 (q04 ?_); simp only [go_sem]; obtain rfl := Option.some.inj h; refine q1u rfl ?_; exact leA
def q68 (c_0 : List GTime) : Option Bool :=
 q9 (qj1 c_0) (fun v_0 =>
 some (!v_0))
instance z7j (c_0 : List GTime) : Ct pp 30 (q68 c_0) [.sl 5 (enc c_0)] fun r => (.v (.bool r)) := ctI Tryz.func30 rfl (by rw [q68]; exact au1)
def q6q (g_0 : GGraph) (u_0 : GUnit) : Option Bool :=
 (if ((((!((u_0.Cells.length : Int) == (g_0.Nodes.length : Int))) || (!((u_0.Red.length : Int) == (g_0.Nodes.length : Int)))) || (decide (u_0.Colour < 0))) || (decide (1 < u_0.Colour))) = true then some false
 else q9 (q5m u_0.Cells (fun x0_ => q69 x0_)) (fun v_0 =>
 (if v_0 = true then some false
 else q9 (q5l u_0.Red (fun x0_ => q68 x0_)) (fun v_1 =>
 some (!v_1)))))
instance j4i (g_0 : GGraph) (u_0 : GUnit) : Ct pp 9 (q6q g_0 u_0) [.agg (Row.row g_0), .agg (Row.row u_0)] fun r => (.v (.bool r)) := ctK Tryz.func9 rfl (by rw [q6q]) (by
 intro r h F; refine sM ?_; refine sM ?_; refine sg fun _ Q3 => ?_; refine sM ?_; refine sB h (fun _ h => ?_) fun _ h => ?_
 · exact au
 ·
  refine y5 (q8 Q3 (sg fun _ Q6 => ?_)); obtain ⟨v_0, ev_0, h⟩ := z8 h; simp only [go_sem]; refine q6k (qw9 u_0.Cells (fun x0_ => q69 x0_) 27 [] (by rfl) (by kernel_rfl) (fun y0 r_ e_ => z7k y0 r_ e_) v_0 ev_0) (by rfl) (by rfl) ?_; simp only [go_sem]; rcases hb_1 : v_0 with _ | _
  · replace h := q1m h hb_1; obtain ⟨v_1, ev_1, h⟩ := z8 h; simp only [go_sem, hb_1]; refine q6k (qw8 u_0.Red (fun x0_ => q68 x0_) 30 [] (by rfl) (by kernel_rfl) (fun y0 r_ e_ => z7j y0 r_ e_) v_1 ev_1) (by rfl) (by rfl) ?_; simp only [go_sem]; exact au
  · replace h := q1l h hb_1; simp only [go_sem, hb_1]; exact au)
def z3f (g_0 : GGraph) (u_0 : GUnit) (node_0 : Int) (port_0 : Int) (t_0 : GTime) (rv_0 : GRec) (nv_0 : Int) : Option (GUnit × Bool) :=
 q9 (idx u_0.Cells node_0) (fun xv_0 =>
 q9 (idx g_0.Nodes node_0) (fun xv_1 =>
 q9 (z0g xv_0 xv_1.Kind port_0 t_0 rv_0 nv_0) (fun v_0 =>
 (if (!v_0.2.2) = true then some (u_0, false)
 else q9 (q8q u_0) (fun v_1 =>
 q9 (idx v_1.Cells node_0) (fun xv_2 =>
 (if v_0.2.1 = true then some ((⟨v_1.ID, List.set v_1.Cells (node_0.toNat) v_0.1, v_1.Colour, v_1.Sent, v_1.Got, v_1.Red, i64.wrap (v_1.Late + 1), v_1.Backs⟩ : GUnit), true)
 else some ((⟨v_1.ID, List.set v_1.Cells (node_0.toNat) v_0.1, v_1.Colour, v_1.Sent, v_1.Got, v_1.Red, v_1.Late, v_1.Backs⟩ : GUnit), true))))))))
instance j6d (g_0 : GGraph) (u_0 : GUnit) (node_0 : Int) (port_0 : Int) (t_0 : GTime) (rv_0 : GRec) (nv_0 : Int) : Ct pp 45 (z3f g_0 u_0 node_0 port_0 t_0 rv_0 nv_0) [.agg (Row.row g_0), .agg (Row.row u_0), .v (.int .i64 node_0), .v (.int .i64 port_0), .agg (Row.row t_0), .agg (Row.row rv_0), .v (.int .i64 nv_0)] fun r => (.tup [.agg (Row.row r.1), .v (.bool r.2)]) := ctK Tryz.func45 rfl (by rw [z3f]) (by
 intro r h F; refine sM ?_; refine sg fun _ Q2 => ?_; refine q02 ?_; refine j9m ?_; obtain ⟨xv_0, F, h⟩ := bI F h; obtain ⟨xv_1, F, h⟩ := bI F h; obtain ⟨v_0, ev_0, h⟩ := z8 h; simp only [go_sem, F]; refine ai ?_; refine ai ?_; refine callq (fun _ => (za9 xv_0 xv_1.Kind port_0 t_0 rv_0 nv_0 v_0 ev_0)) (by rfl) (by rfl) ?_; simp only [go_sem]; refine q8 Q2 (sg fun _ Q3 => ?_); refine sM ?_; refine sB h (fun _ h => ?_) fun _ h => ?_
 · exact au
 ·
  refine y5 (q8 Q3 (sg fun _ Q6 => ?_)); obtain ⟨v_1, ev_1, h⟩ := z8 h; simp only [go_sem]; refine q0b [] (qq7 u_0 v_1 ev_1) ?_; simp only [go_sem]; refine q8 Q6 (sg fun _ Q7 => ?_); obtain ⟨xv_2, F, h⟩ := bI F h; have rf_0 : (enc v_1.Cells).set (node_0.toNat) [.sl 10 (enc v_0.1)] = enc (List.set v_1.Cells (node_0.toNat) v_0.1) := by exact q1a _ _ _
  simp only [go_sem, rf_0, F]; refine ai ?_; exact au)
def z3g (g_0 : GGraph) (u_0 : GUnit) (f_0 : GFeed) : Option (GUnit × Bool) :=
 q9 (q6q g_0 u_0) (fun v_0 =>
 (if (((!v_0) || (decide (f_0.Node < 0))) || (decide ((g_0.Nodes.length : Int) ≤ f_0.Node))) = true then some (u_0, false)
 else q9 (idx g_0.Nodes f_0.Node) (fun xv_0 =>
 (if (!(xv_0.Kind == 1)) = true then some (u_0, false)
 else q9 (z3f g_0 u_0 f_0.Node 0 (⟨1, (⟨f_0.Epoch, 0, 0, 0⟩ : Arr4 Int)⟩ : GTime) f_0.Rec 1) (fun v_1 =>
 some (v_1.1, v_1.2))))))
instance za5 (g_0 : GGraph) (u_0 : GUnit) (f_0 : GFeed) : Ct pp 13 (z3g g_0 u_0 f_0) [.agg (Row.row g_0), .agg (Row.row u_0), .agg (Row.row f_0)] fun r => (.tup [.agg (Row.row r.1), .v (.bool r.2)]) := ctI Tryz.func13 rfl (by rw [z3g]; exact au1)
def q3b (a_0 : Int) (cmp_0 : GPoint → GPoint → Option Int) (i_1 : Int) (rec_1 : (Int × (List GPoint) → Option (List GPoint))) (rec_2 : Int × (List GPoint) → Option (List GPoint)) : Int × (List GPoint) → Option (List GPoint) :=
 fun (j_5, a_8) =>
 (if (decide (a_0 < j_5)) = true then q9 (idx a_8 j_5) (fun xv_24 =>
 q9 (idx a_8 (i64.wrap (j_5 - 1))) (fun xv_25 =>
 q9 (cmp_0 xv_24 xv_25) (fun v_8 =>
 (if (decide (v_8 < 0)) = true then q9 (idx (List.set a_8 (j_5.toNat) xv_25) (i64.wrap (j_5 - 1))) (fun xv_26 =>
 rec_2 (i64.wrap (j_5 - 1), (List.set (List.set a_8 (j_5.toNat) xv_25) (Int.toNat (i64.wrap (j_5 - 1))) xv_24)))
 else rec_1 (i64.wrap (i_1 + 1), a_8)))))
 else rec_1 (i64.wrap (i_1 + 1), a_8))
def q3c (a_0 : Int) (b_0 : Int) (cmp_0 : GPoint → GPoint → Option Int) (rec_1 : Int × (List GPoint) → Option (List GPoint)) : Int × (List GPoint) → Option (List GPoint) :=
 fun (i_1, a_6) =>
 (if (decide (i_1 < b_0)) = true then x8 (q3b a_0 cmp_0 i_1 rec_1) rounds (i_1, a_6)
 else some a_6)
def q0g (data_0 : List GPoint) (a_0 : Int) (b_0 : Int) (cmp_0 : GPoint → GPoint → Option Int) : Option (List GPoint) :=
 x8 (q3c a_0 b_0 cmp_0) rounds (i64.wrap (a_0 + 1), data_0)
theorem q5v (data_0 : List GPoint) (a_0 : Int) (b_0 : Int) (cmp_0 : GPoint → GPoint → Option Int) (g_cmp_0 : FuncId) (c_cmp_0 : List AV) (F_cmp_0 : q00 c_cmp_0 = true) (E_cmp_0 : y8 pp g_cmp_0 = true) (H_cmp_0 : ∀ (x0 : GPoint) (x1 : GPoint) (r : Int), cmp_0 x0 x1 = some r → PureS pp g_cmp_0 ([.agg (Row.row x0), .agg (Row.row x1)] ++ c_cmp_0) 0 (.v (.int .i64 r))) (r : List GPoint) (h : q0g data_0 a_0 b_0 cmp_0 = some r) : DetS pp 131 [.osl 0 6 (0) (data_0.length), .v (.int .i64 a_0), .v (.int .i64 b_0), .clo g_cmp_0 c_cmp_0] [(0, .arr 6 (enc data_0))] 1 (.tup []) [(0, .arr 6 (enc r))] 1 := by
 refine dtI Tryz.func131 rfl ?_; rw [q0g] at h; have F := trivial; refine sM ?_; refine w9 fun _ Q2 => ?_; refine d9 h [1, 2, 3] (fun x => ([(0, .osl 0 6 (0) (x.2.length)), (8, .v (.int .i64 x.1))], [(0, .arr 6 (enc x.2))])) 1 ?_; rintro m_1 ⟨i_1, a_6⟩ h _ Q3; rw [q3c] at h; refine sg fun _ Q4 => ?_; refine sM ?_; refine sB h (fun _ h => ?_) fun _ h => ?_
 ·
  refine y5 (q8 Q4 (jg fun _ Q6 => ?_)); refine w9 fun _ Q7 => ?_; refine sM ?_; refine w9 fun _ Q9 => ?_; refine d9 h [1, 2, 3, 8] (fun x => ([(0, .osl 0 6 (0) (x.2.length)), (9, .v (.int .i64 x.1))], [(0, .arr 6 (enc x.2))])) 1 ?_; rintro m_2 ⟨j_5, a_8⟩ h _ Q10; rw [q3b] at h; refine sg fun _ Q11 => ?_; refine sg fun _ Q12 => ?_; refine q02 ?_; refine j9m ?_; simp only [go_sem]; rcases hb_19 : (decide (a_0 < j_5)) with _ | _
  · replace h := q1m h hb_19; simp only [go_sem, hb_19]; refine q8 Q12 (jf2 ?_); refine q0i (q0r Q11 (q0j Q10 (q0d Q9 (q05 Q7 (q8 Q6 ?_))))); simp only [go_sem]; refine u7 Q3 ?_; exact nxC _ h [] leA
  ·
   replace h := q1l h hb_19; obtain ⟨xv_24, F, h⟩ := bI F h; obtain ⟨xv_25, F, h⟩ := bI F h; obtain ⟨v_8, ev_8, h⟩ := z8 h; simp only [go_sem, hb_19, E_cmp_0, F]; refine ai ?_; refine ai ?_; refine q6k (H_cmp_0 xv_24 xv_25 v_8 ev_8) (by rfl) (by simp [go_sem, q00, q09, F_cmp_0]) ?_; simp only [go_sem]; refine q8 Q12 (sB h (fun _ h => ?_) fun _ h => ?_)
   ·
    refine y5 (q8 Q11 (sg fun _ Q13 => ?_)); refine w9 fun _ Q14 => ?_; refine q02 ?_; refine q56 16 0 0 [0, 0, 0, 0, 8, 0, 0, 64, 224, 480, 0, 0, 3072, 7168, 16355, 32739, 65535, 131071] [0] [2, 3, 4] [] [15] [] mixed (by kernel_rfl) (of_decide_eq_true (by kernel_rfl)) (by kernel_rfl) (by kernel_rfl) (by rfl) ?_; have rf_16 : (enc a_8).set (j_5.toNat) [.v (.int .i64 xv_25.Node), .v (.int .i64 xv_25.Time.D), .v (.int .i64 xv_25.Time.C.a0), .v (.int .i64 xv_25.Time.C.a1), .v (.int .i64 xv_25.Time.C.a2), .v (.int .i64 xv_25.Time.C.a3)] = enc (List.set a_8 (j_5.toNat) xv_25) := by exact q1a _ _ _
    obtain ⟨xv_26, F, h⟩ := bI F h; have rf_17 : (enc (List.set a_8 (j_5.toNat) xv_25)).set (Int.toNat (i64.wrap (j_5 - 1))) [.v (.int .i64 xv_24.Node), .v (.int .i64 xv_24.Time.D), .v (.int .i64 xv_24.Time.C.a0), .v (.int .i64 xv_24.Time.C.a1), .v (.int .i64 xv_24.Time.C.a2), .v (.int .i64 xv_24.Time.C.a3)] = enc (List.set (List.set a_8 (j_5.toNat) xv_25) (Int.toNat (i64.wrap (j_5 - 1))) xv_24) := by exact q1a _ _ _
    simp only [go_sem, rf_16, rf_17, F]; refine ai ?_; refine ai ?_; refine ai ?_; refine ai ?_; refine q05 Q14 (q8 Q13 ?_); simp only [go_sem]; refine u7 Q10 ?_; exact nxC _ h [] leA
   · refine q0i (q0r Q11 (q0j Q10 (q0d Q9 (q05 Q7 (q8 Q6 ?_))))); simp only [go_sem]; refine u7 Q3 ?_; exact nxC _ h [] leA
 · refine q0i (q0r Q4 (q0j Q3 (q0d Q2 ?_))); simp only [go_sem]; obtain rfl := Option.some.inj h; refine q83 [] ?_; exact leA
def q3v (a_0 : Int) (b_0 : Int) (nv_0 : Int) (rec_1 : Int × (List GPoint) → Option (List GPoint)) : Int × (List GPoint) → Option (List GPoint) :=
 fun (i_1, a_2) =>
 (if (decide (i_1 < nv_0)) = true then q9 (idx a_2 (i64.wrap (b_0 + i_1))) (fun xv_6 =>
 q9 (idx a_2 (i64.wrap (a_0 + i_1))) (fun xv_7 =>
 q9 (idx (List.set a_2 (Int.toNat (i64.wrap (a_0 + i_1))) xv_6) (i64.wrap (b_0 + i_1))) (fun xv_8 =>
 rec_1 (i64.wrap (i_1 + 1), (List.set (List.set a_2 (Int.toNat (i64.wrap (a_0 + i_1))) xv_6) (Int.toNat (i64.wrap (b_0 + i_1))) xv_7)))))
 else some a_2)
def q0k (data_0 : List GPoint) (a_0 : Int) (b_0 : Int) (nv_0 : Int) (cmp_0 : GPoint → GPoint → Option Int) : Option (List GPoint) :=
 x8 (q3v a_0 b_0 nv_0) rounds (0, data_0)
theorem q3n (data_0 : List GPoint) (a_0 : Int) (b_0 : Int) (nv_0 : Int) (cmp_0 : GPoint → GPoint → Option Int) (g_cmp_0 : FuncId) (c_cmp_0 : List AV) (F_cmp_0 : q00 c_cmp_0 = true) (E_cmp_0 : y8 pp g_cmp_0 = true) (H_cmp_0 : ∀ (x0 : GPoint) (x1 : GPoint) (r : Int), cmp_0 x0 x1 = some r → PureS pp g_cmp_0 ([.agg (Row.row x0), .agg (Row.row x1)] ++ c_cmp_0) 0 (.v (.int .i64 r))) (r : List GPoint) (h : q0k data_0 a_0 b_0 nv_0 cmp_0 = some r) : DetS pp 169 [.osl 0 6 (0) (data_0.length), .v (.int .i64 a_0), .v (.int .i64 b_0), .v (.int .i64 nv_0), .clo g_cmp_0 c_cmp_0] [(0, .arr 6 (enc data_0))] 1 (.tup []) [(0, .arr 6 (enc r))] 1 := by
 refine dtI Tryz.func169 rfl ?_; rw [q0k] at h; have F := trivial; refine sM ?_; refine w9 fun _ Q2 => ?_; refine d9 h [1, 2, 3] (fun x => ([(0, .osl 0 6 (0) (x.2.length)), (10, .v (.int .i64 x.1))], [(0, .arr 6 (enc x.2))])) 1 ?_; rintro m_1 ⟨i_1, a_2⟩ h _ Q3; rw [q3v] at h; refine sg fun _ Q4 => ?_; refine sM ?_; refine sB h (fun _ h => ?_) fun _ h => ?_
 ·
  refine y5 (q8 Q4 (sg fun _ Q6 => ?_)); refine w9 fun _ Q7 => ?_; refine q02 ?_; refine q56 22 0 0 [0, 0, 0, 6, 0, 0, 0, 96, 0, 0, 0, 1536, 3840, 7936, 0, 0, 0, 98304, 245760, 507904, 1048335, 2096911, 4194303, 8388607] [0] [4, 5, 6, 7] [] [21] [] mixed (by kernel_rfl) (of_decide_eq_true (by kernel_rfl)) (by kernel_rfl) (by kernel_rfl) (by rfl) ?_; obtain ⟨xv_6, F, h⟩ := bI F h; obtain ⟨xv_7, F, h⟩ := bI F h; have rf_4 : (enc a_2).set (Int.toNat (i64.wrap (a_0 + i_1))) [.v (.int .i64 xv_6.Node), .v (.int .i64 xv_6.Time.D), .v (.int .i64 xv_6.Time.C.a0), .v (.int .i64 xv_6.Time.C.a1), .v (.int .i64 xv_6.Time.C.a2), .v (.int .i64 xv_6.Time.C.a3)] = enc (List.set a_2 (Int.toNat (i64.wrap (a_0 + i_1))) xv_6) := by exact q1a _ _ _
  obtain ⟨xv_8, F, h⟩ := bI F h; have rf_5 : (enc (List.set a_2 (Int.toNat (i64.wrap (a_0 + i_1))) xv_6)).set (Int.toNat (i64.wrap (b_0 + i_1))) [.v (.int .i64 xv_7.Node), .v (.int .i64 xv_7.Time.D), .v (.int .i64 xv_7.Time.C.a0), .v (.int .i64 xv_7.Time.C.a1), .v (.int .i64 xv_7.Time.C.a2), .v (.int .i64 xv_7.Time.C.a3)] = enc (List.set (List.set a_2 (Int.toNat (i64.wrap (a_0 + i_1))) xv_6) (Int.toNat (i64.wrap (b_0 + i_1))) xv_7) := by exact q1a _ _ _
  simp only [go_sem, rf_4, rf_5, F]; refine ai ?_; refine ai ?_; refine ai ?_; refine ai ?_; refine q05 Q7 (q8 Q6 ?_); simp only [go_sem]; refine u7 Q3 ?_; exact nxC _ h [] leA
 · refine q0i (q0r Q4 (q0j Q3 (q0d Q2 ?_))); simp only [go_sem]; obtain rfl := Option.some.inj h; refine q83 [] ?_; exact leA
def q2t (mv_0 : Int) (cmp_0 : GPoint → GPoint → Option Int) (i_2 : Int) (a_3 : List GPoint) : Option (List GPoint) :=
 q9 (q0k a_3 (i64.wrap (mv_0 - i_2)) mv_0 i_2 cmp_0) (fun v_6 =>
 x9 (v_6.length = a_3.length) (
 some v_6))
def q4w (mv_0 : Int) (cmp_0 : GPoint → GPoint → Option Int) (rec_2 : Int × Int × (List GPoint) → Option (List GPoint)) : Int × Int × (List GPoint) → Option (List GPoint) :=
 fun (i_4, j_3, a_5) =>
 (if (!(i_4 == j_3)) = true then (if (decide (j_3 < i_4)) = true then q9 (q0k a_5 (i64.wrap (mv_0 - i_4)) mv_0 j_3 cmp_0) (fun v_11 =>
 x9 (v_11.length = a_5.length) (
 rec_2 (i64.wrap (i_4 - j_3), j_3, v_11)))
 else q9 (q0k a_5 (i64.wrap (mv_0 - i_4)) (i64.wrap ((i64.wrap (mv_0 + j_3)) - i_4)) i_4 cmp_0) (fun v_12 =>
 x9 (v_12.length = a_5.length) (
 rec_2 (i_4, i64.wrap (j_3 - i_4), v_12))))
 else q2t mv_0 cmp_0 i_4 a_5)
def q23 (data_0 : List GPoint) (a_0 : Int) (mv_0 : Int) (b_0 : Int) (cmp_0 : GPoint → GPoint → Option Int) : Option (List GPoint) :=
 x8 (q4w mv_0 cmp_0) rounds (i64.wrap (mv_0 - a_0), i64.wrap (b_0 - mv_0), data_0)
theorem ql3 (data_0 : List GPoint) (a_0 : Int) (mv_0 : Int) (b_0 : Int) (cmp_0 : GPoint → GPoint → Option Int) (g_cmp_0 : FuncId) (c_cmp_0 : List AV) (F_cmp_0 : q00 c_cmp_0 = true) (E_cmp_0 : y8 pp g_cmp_0 = true) (H_cmp_0 : ∀ (x0 : GPoint) (x1 : GPoint) (r : Int), cmp_0 x0 x1 = some r → PureS pp g_cmp_0 ([.agg (Row.row x0), .agg (Row.row x1)] ++ c_cmp_0) 0 (.v (.int .i64 r))) (r : List GPoint) (h : q23 data_0 a_0 mv_0 b_0 cmp_0 = some r) : DetS pp 156 [.osl 0 6 (0) (data_0.length), .v (.int .i64 a_0), .v (.int .i64 mv_0), .v (.int .i64 b_0), .clo g_cmp_0 c_cmp_0] [(0, .arr 6 (enc data_0))] 1 (.tup []) [(0, .arr 6 (enc r))] 1 := by
 refine dtI Tryz.func156 rfl ?_; rw [q23] at h; have F := trivial; refine sM ?_; refine sM ?_; refine q1n (fun ((i_2, a_3) : Int × (List GPoint)) => q2t mv_0 cmp_0 i_2 a_3 = some r) [2, 4] (fun x => ([(0, .osl 0 6 (0) (x.2.length)), (10, .v (.int .i64 x.1))], [(0, .arr 6 (enc x.2))])) 1 ?_ ?_
 ·
  intro _ Q3; refine w9 fun _ Q4 => ?_; refine d9 h [2, 4] (fun x => ([(0, .osl 0 6 (0) (x.2.2.length)), (10, .v (.int .i64 x.1)), (11, .v (.int .i64 x.2.1))], [(0, .arr 6 (enc x.2.2))])) 1 ?_; rintro m_2 ⟨i_4, j_3, a_5⟩ h _ Q5; rw [q4w] at h; refine sg fun _ Q6 => ?_; refine sM ?_; refine sB h (fun _ h => ?_) fun _ h => ?_
  ·
   refine y5 (q8 Q6 (w9 fun _ Q8 => ?_)); refine sM ?_; refine sB h (fun _ h => ?_) fun _ h => ?_
   · refine sg fun _ Q10 => ?_; obtain ⟨v_11, ev_11, h⟩ := z8 h; simp only [go_sem]; refine qq2 [0] (q3n a_5 (i64.wrap (mv_0 - i_4)) mv_0 j_3 cmp_0 g_cmp_0 c_cmp_0 F_cmp_0 E_cmp_0 H_cmp_0 v_11 ev_11) (by simp) (by simp only [q6l, q28, q4s F_cmp_0] <;> rfl) ⟨rfl, trivial⟩ (by simp only [ltL, ltA, q66 F_cmp_0] <;> rfl) rfl rfl rfl ?_; obtain ⟨F, h⟩ := bG F h; simp only [go_sem, F]; refine q8 Q10 ?_; simp only [go_sem]; refine q05 Q8 (u7 Q5 ?_); exact nxC _ h [] leA
   · refine sg fun _ Q11 => ?_; obtain ⟨v_12, ev_12, h⟩ := z8 h; simp only [go_sem]; refine qq2 [0] (q3n a_5 (i64.wrap (mv_0 - i_4)) (i64.wrap ((i64.wrap (mv_0 + j_3)) - i_4)) i_4 cmp_0 g_cmp_0 c_cmp_0 F_cmp_0 E_cmp_0 H_cmp_0 v_12 ev_12) (by simp) (by simp only [q6l, q28, q4s F_cmp_0] <;> rfl) ⟨rfl, trivial⟩ (by simp only [ltL, ltA, q66 F_cmp_0] <;> rfl) rfl rfl rfl ?_; obtain ⟨F, h⟩ := bG F h; simp only [go_sem, F]; refine q8 Q11 ?_; simp only [go_sem]; refine q05 Q8 (u7 Q5 ?_); exact nxC _ h [] leA
  · refine q0i (q0r Q6 (q0j Q5 (q0d Q4 (u7 Q3 (⟨(i_4, a_5), [], ?_, h⟩))))); exact leA
 ·
  rintro ⟨i_2, a_3⟩ h
  try dsimp only at h
  rw [q2t] at h; obtain ⟨v_6, ev_6, h⟩ := z8 h; simp only [go_sem]; refine qq2 [0] (q3n a_3 (i64.wrap (mv_0 - i_2)) mv_0 i_2 cmp_0 g_cmp_0 c_cmp_0 F_cmp_0 E_cmp_0 H_cmp_0 v_6 ev_6) (by simp) (by simp only [q6l, q28, q4s F_cmp_0] <;> rfl) ⟨rfl, trivial⟩ (by simp only [ltL, ltA, q66 F_cmp_0] <;> rfl) rfl rfl rfl ?_; obtain ⟨F, h⟩ := bG F h; simp only [go_sem, F]; obtain rfl := Option.some.inj h; refine q83 [] ?_; exact leA
def q0s (a_0 : Int) (mv_0 : Int) (b_0 : Int) (cmp_0 : GPoint → GPoint → Option Int) (self : (List GPoint) → Int → Int → Int → (GPoint → GPoint → Option Int) → Option (List GPoint)) (start_3 : Int) (a_6 : List GPoint) : Option (List GPoint) :=
 (if ((decide ((i64.wrap (q1o .u64 (IntKind.u64.wrap (i64.wrap (a_0 + b_0))) 1)) < (i64.wrap ((i64.wrap ((i64.wrap (q1o .u64 (IntKind.u64.wrap (i64.wrap (a_0 + b_0))) 1)) + mv_0)) - start_3)))) && (decide ((i64.wrap ((i64.wrap ((i64.wrap (q1o .u64 (IntKind.u64.wrap (i64.wrap (a_0 + b_0))) 1)) + mv_0)) - start_3)) < b_0))) = true then q9 (self a_6 (i64.wrap (q1o .u64 (IntKind.u64.wrap (i64.wrap (a_0 + b_0))) 1)) (i64.wrap ((i64.wrap ((i64.wrap (q1o .u64 (IntKind.u64.wrap (i64.wrap (a_0 + b_0))) 1)) + mv_0)) - start_3)) b_0 cmp_0) (fun v_17 =>
 x9 (v_17.length = a_6.length) (
 some v_17))
 else some a_6)
def q0t (a_0 : Int) (mv_0 : Int) (b_0 : Int) (cmp_0 : GPoint → GPoint → Option Int) (self : (List GPoint) → Int → Int → Int → (GPoint → GPoint → Option Int) → Option (List GPoint)) (start_3 : Int) (a_5 : List GPoint) : Option (List GPoint) :=
 (if ((decide (a_0 < start_3)) && (decide (start_3 < (i64.wrap (q1o .u64 (IntKind.u64.wrap (i64.wrap (a_0 + b_0))) 1))))) = true then q9 (self a_5 a_0 start_3 (i64.wrap (q1o .u64 (IntKind.u64.wrap (i64.wrap (a_0 + b_0))) 1)) cmp_0) (fun v_18 =>
 x9 (v_18.length = a_5.length) (
 q0s a_0 mv_0 b_0 cmp_0 self start_3 v_18))
 else q0s a_0 mv_0 b_0 cmp_0 self start_3 a_5)
def q1b (data_0 : List GPoint) (a_0 : Int) (mv_0 : Int) (b_0 : Int) (cmp_0 : GPoint → GPoint → Option Int) (self : (List GPoint) → Int → Int → Int → (GPoint → GPoint → Option Int) → Option (List GPoint)) (start_3 : Int) : Option (List GPoint) :=
 (if ((decide (start_3 < mv_0)) && (decide (mv_0 < (i64.wrap ((i64.wrap ((i64.wrap (q1o .u64 (IntKind.u64.wrap (i64.wrap (a_0 + b_0))) 1)) + mv_0)) - start_3))))) = true then q9 (q23 data_0 start_3 mv_0 (i64.wrap ((i64.wrap ((i64.wrap (q1o .u64 (IntKind.u64.wrap (i64.wrap (a_0 + b_0))) 1)) + mv_0)) - start_3)) cmp_0) (fun v_19 =>
 x9 (v_19.length = data_0.length) (
 q0t a_0 mv_0 b_0 cmp_0 self start_3 v_19))
 else q0t a_0 mv_0 b_0 cmp_0 self start_3 data_0)
def q48 (data_0 : List GPoint) (a_0 : Int) (mv_0 : Int) (b_0 : Int) (cmp_0 : GPoint → GPoint → Option Int) (self : (List GPoint) → Int → Int → Int → (GPoint → GPoint → Option Int) → Option (List GPoint)) (rec_7 : Int × Int → Option (List GPoint)) : Int × Int → Option (List GPoint) :=
 fun (start_5, rv_4) =>
 (if (decide (start_5 < rv_4)) = true then q9 (idx data_0 (i64.wrap ((i64.wrap ((i64.wrap ((i64.wrap (q1o .u64 (IntKind.u64.wrap (i64.wrap (a_0 + b_0))) 1)) + mv_0)) - 1)) - (i64.wrap (q1o .u64 (IntKind.u64.wrap (i64.wrap (start_5 + rv_4))) 1))))) (fun xv_52 =>
 q9 (idx data_0 (i64.wrap (q1o .u64 (IntKind.u64.wrap (i64.wrap (start_5 + rv_4))) 1))) (fun xv_53 =>
 q9 (cmp_0 xv_52 xv_53) (fun v_22 =>
 (if (!(decide (v_22 < 0))) = true then rec_7 (i64.wrap ((i64.wrap (q1o .u64 (IntKind.u64.wrap (i64.wrap (start_5 + rv_4))) 1)) + 1), rv_4)
 else rec_7 (start_5, i64.wrap (q1o .u64 (IntKind.u64.wrap (i64.wrap (start_5 + rv_4))) 1))))))
 else q1b data_0 a_0 mv_0 b_0 cmp_0 self start_5)
def q0u (data_0 : List GPoint) (a_0 : Int) (mv_0 : Int) (b_0 : Int) (cmp_0 : GPoint → GPoint → Option Int) (self : (List GPoint) → Int → Int → Int → (GPoint → GPoint → Option Int) → Option (List GPoint)) (start_0 : Int) (rv_0 : Int) : Option (List GPoint) :=
 x8 (q48 data_0 a_0 mv_0 b_0 cmp_0 self) rounds (start_0, rv_0)
def q2e (data_0 : List GPoint) (a_0 : Int) (mv_0 : Int) (b_0 : Int) (cmp_0 : GPoint → GPoint → Option Int) (self : (List GPoint) → Int → Int → Int → (GPoint → GPoint → Option Int) → Option (List GPoint)) : Option (List GPoint) :=
 (if (decide ((i64.wrap (q1o .u64 (IntKind.u64.wrap (i64.wrap (a_0 + b_0))) 1)) < mv_0)) = true then q0u data_0 a_0 mv_0 b_0 cmp_0 self (i64.wrap ((i64.wrap ((i64.wrap (q1o .u64 (IntKind.u64.wrap (i64.wrap (a_0 + b_0))) 1)) + mv_0)) - b_0)) (i64.wrap (q1o .u64 (IntKind.u64.wrap (i64.wrap (a_0 + b_0))) 1))
 else q0u data_0 a_0 mv_0 b_0 cmp_0 self a_0 mv_0)
def q47 (i_12 : Int) (rec_9 : Int × (List GPoint) → Option (List GPoint)) : Int × (List GPoint) → Option (List GPoint) :=
 fun (k_5, a_8) =>
 (if (decide (i_12 < k_5)) = true then q9 (idx a_8 (i64.wrap (k_5 - 1))) (fun xv_66 =>
 q9 (idx a_8 k_5) (fun xv_67 =>
 q9 (idx (List.set a_8 (k_5.toNat) xv_66) (i64.wrap (k_5 - 1))) (fun xv_68 =>
 rec_9 (i64.wrap (k_5 - 1), (List.set (List.set a_8 (k_5.toNat) xv_66) (Int.toNat (i64.wrap (k_5 - 1))) xv_67)))))
 else some a_8)
def q2d (data_0 : List GPoint) (mv_0 : Int) (i_12 : Int) : Option (List GPoint) :=
 x8 (q47 i_12) rounds (mv_0, data_0)
def q3u (data_0 : List GPoint) (mv_0 : Int) (cmp_0 : GPoint → GPoint → Option Int) (rec_10 : Int × Int → Option (List GPoint)) : Int × Int → Option (List GPoint) :=
 fun (i_14, j_11) =>
 (if (decide (i_14 < j_11)) = true then q9 (idx data_0 mv_0) (fun xv_73 =>
 q9 (idx data_0 (i64.wrap (q1o .u64 (IntKind.u64.wrap (i64.wrap (i_14 + j_11))) 1))) (fun xv_74 =>
 q9 (cmp_0 xv_73 xv_74) (fun v_28 =>
 (if (!(decide (v_28 < 0))) = true then rec_10 (i64.wrap ((i64.wrap (q1o .u64 (IntKind.u64.wrap (i64.wrap (i_14 + j_11))) 1)) + 1), j_11)
 else rec_10 (i_14, i64.wrap (q1o .u64 (IntKind.u64.wrap (i64.wrap (i_14 + j_11))) 1))))))
 else q2d data_0 mv_0 i_14)
def q2f (data_0 : List GPoint) (a_0 : Int) (mv_0 : Int) (b_0 : Int) (cmp_0 : GPoint → GPoint → Option Int) (self : (List GPoint) → Int → Int → Int → (GPoint → GPoint → Option Int) → Option (List GPoint)) : Option (List GPoint) :=
 (if ((i64.wrap (b_0 - mv_0)) == 1) = true then x8 (q3u data_0 mv_0 cmp_0) rounds (a_0, mv_0)
 else q2e data_0 a_0 mv_0 b_0 cmp_0 self)
def q3t (i_17 : Int) (rec_12 : Int × (List GPoint) → Option (List GPoint)) : Int × (List GPoint) → Option (List GPoint) :=
 fun (k_7, a_10) =>
 (if (decide (k_7 < (i64.wrap (i_17 - 1)))) = true then q9 (idx a_10 (i64.wrap (k_7 + 1))) (fun xv_87 =>
 q9 (idx a_10 k_7) (fun xv_88 =>
 q9 (idx (List.set a_10 (k_7.toNat) xv_87) (i64.wrap (k_7 + 1))) (fun xv_89 =>
 rec_12 (i64.wrap (k_7 + 1), (List.set (List.set a_10 (k_7.toNat) xv_87) (Int.toNat (i64.wrap (k_7 + 1))) xv_88)))))
 else some a_10)
def q2a (data_0 : List GPoint) (a_0 : Int) (i_17 : Int) : Option (List GPoint) :=
 x8 (q3t i_17) rounds (a_0, data_0)
def q3s (data_0 : List GPoint) (a_0 : Int) (cmp_0 : GPoint → GPoint → Option Int) (rec_13 : Int × Int → Option (List GPoint)) : Int × Int → Option (List GPoint) :=
 fun (i_19, j_15) =>
 (if (decide (i_19 < j_15)) = true then q9 (idx data_0 (i64.wrap (q1o .u64 (IntKind.u64.wrap (i64.wrap (i_19 + j_15))) 1))) (fun xv_94 =>
 q9 (idx data_0 a_0) (fun xv_95 =>
 q9 (cmp_0 xv_94 xv_95) (fun v_34 =>
 (if (decide (v_34 < 0)) = true then rec_13 (i64.wrap ((i64.wrap (q1o .u64 (IntKind.u64.wrap (i64.wrap (i_19 + j_15))) 1)) + 1), j_15)
 else rec_13 (i_19, i64.wrap (q1o .u64 (IntKind.u64.wrap (i64.wrap (i_19 + j_15))) 1))))))
 else q2a data_0 a_0 i_19)
def q1h (self : (List GPoint) → Int → Int → Int → (GPoint → GPoint → Option Int) → Option (List GPoint)) (data_0 : List GPoint) (a_0 : Int) (mv_0 : Int) (b_0 : Int) (cmp_0 : GPoint → GPoint → Option Int) : Option (List GPoint) :=
 (if ((i64.wrap (mv_0 - a_0)) == 1) = true then x8 (q3s data_0 a_0 cmp_0) rounds (mv_0, b_0)
 else q2f data_0 a_0 mv_0 b_0 cmp_0 self)
def q03 : Nat → (List GPoint) → Int → Int → Int → (GPoint → GPoint → Option Int) → Option (List GPoint)
 | 0 => fun _ _ _ _ _ => none
 | n + 1 => q1h (q03 n)
def q35 (data_0 : List GPoint) (a_0 : Int) (mv_0 : Int) (b_0 : Int) (cmp_0 : GPoint → GPoint → Option Int) : Option (List GPoint) := q03 rounds data_0 a_0 mv_0 b_0 cmp_0
theorem qe5 (self : (List GPoint) → Int → Int → Int → (GPoint → GPoint → Option Int) → Option (List GPoint)) (Hself : ∀ (data_0 : List GPoint) (a_0 : Int) (mv_0 : Int) (b_0 : Int) (cmp_0 : GPoint → GPoint → Option Int) (g_cmp_0 : FuncId) (c_cmp_0 : List AV) (F_cmp_0 : q00 c_cmp_0 = true) (E_cmp_0 : y8 pp g_cmp_0 = true) (H_cmp_0 : ∀ (x0 : GPoint) (x1 : GPoint) (r : Int), cmp_0 x0 x1 = some r → PureS pp g_cmp_0 ([.agg (Row.row x0), .agg (Row.row x1)] ++ c_cmp_0) 0 (.v (.int .i64 r))) (r : List GPoint), self data_0 a_0 mv_0 b_0 cmp_0 = some r → DetS pp 132 [.osl 0 6 (0) (data_0.length), .v (.int .i64 a_0), .v (.int .i64 mv_0), .v (.int .i64 b_0), .clo g_cmp_0 c_cmp_0] [(0, .arr 6 (enc data_0))] 1 (.tup []) [(0, .arr 6 (enc r))] 1) (data_0 : List GPoint) (a_0 : Int) (mv_0 : Int) (b_0 : Int) (cmp_0 : GPoint → GPoint → Option Int) (g_cmp_0 : FuncId) (c_cmp_0 : List AV) (F_cmp_0 : q00 c_cmp_0 = true) (E_cmp_0 : y8 pp g_cmp_0 = true) (H_cmp_0 : ∀ (x0 : GPoint) (x1 : GPoint) (r : Int), cmp_0 x0 x1 = some r → PureS pp g_cmp_0 ([.agg (Row.row x0), .agg (Row.row x1)] ++ c_cmp_0) 0 (.v (.int .i64 r))) (r : List GPoint) (h : q1h self data_0 a_0 mv_0 b_0 cmp_0 = some r) : DetS pp 132 [.osl 0 6 (0) (data_0.length), .v (.int .i64 a_0), .v (.int .i64 mv_0), .v (.int .i64 b_0), .clo g_cmp_0 c_cmp_0] [(0, .arr 6 (enc data_0))] 1 (.tup []) [(0, .arr 6 (enc r))] 1 := by
 refine dtI Tryz.func132 rfl ?_; rw [q1h] at h; have F := trivial; refine q1n (fun (_ : Unit) => q2f data_0 a_0 mv_0 b_0 cmp_0 self = some r) [0, 1, 2, 3, 4] (fun _ => ([], [(0, .arr 6 (enc data_0))])) 1 ?_ ?_
 ·
  intro _ Q43; refine sM ?_; refine sB h (fun _ h => ?_) fun _ h => ?_
  ·
   refine sM ?_; refine sM ?_; refine q1n (fun (i_17 : Int) => q2a data_0 a_0 i_17 = some r) [0, 1] (fun i_17 => ([(10, .v (.int .i64 i_17))], [(0, .arr 6 (enc data_0))])) 1 ?_ ?_
   ·
    intro _ Q55; refine w9 fun _ Q56 => ?_; refine d9 h [0, 1, 4] (fun x => ([(10, .v (.int .i64 x.1)), (11, .v (.int .i64 x.2))], [(0, .arr 6 (enc data_0))])) 1 ?_; rintro m_13 ⟨i_19, j_15⟩ h _ Q57; rw [q3s] at h; refine sg fun _ Q58 => ?_; refine sM ?_; refine sB h (fun _ h => ?_) fun _ h => ?_
    ·
     refine y5 (q8 Q58 (w9 fun _ Q60 => ?_)); refine sM ?_; refine sg fun _ Q62 => ?_; refine q02 ?_; refine j9m ?_; obtain ⟨xv_94, F, h⟩ := bI F h; obtain ⟨xv_95, F, h⟩ := bI F h; obtain ⟨v_34, ev_34, h⟩ := z8 h; simp only [go_sem, E_cmp_0, F]; refine ai ?_; refine ai ?_; refine q6k (H_cmp_0 xv_94 xv_95 v_34 ev_34) (by rfl) (by simp [go_sem, q00, q09, F_cmp_0]) ?_; simp only [go_sem]; refine q8 Q62 (sB h (fun _ h => ?_) fun _ h => ?_)
     · simp only [go_sem]; refine q05 Q60 (u7 Q57 ?_); exact nxC _ h [] leA
     · simp only [go_sem]; refine q05 Q60 (u7 Q57 ?_); exact nxC _ h [] leA
    · refine q0i (q0r Q58 (q0j Q57 (q0d Q56 (u7 Q55 (⟨i_19, [], ?_, h⟩))))); exact leA
   ·
    rintro i_17 h
    try dsimp only at h
    rw [q2a] at h; refine jg fun _ Q47 => ?_; refine sM ?_; refine w9 fun _ Q49 => ?_; refine d9 h [10] (fun x => ([(0, .osl 0 6 (0) (x.2.length)), (13, .v (.int .i64 x.1))], [(0, .arr 6 (enc x.2))])) 1 ?_; rintro m_12 ⟨k_7, a_10⟩ h _ Q50; rw [q3t] at h; refine sg fun _ Q51 => ?_; refine sM ?_; refine sB h (fun _ h => ?_) fun _ h => ?_
    ·
     refine y5 (q8 Q51 (sg fun _ Q53 => ?_)); refine w9 fun _ Q54 => ?_; refine q02 ?_; refine q56 16 0 0 [0, 0, 0, 0, 8, 0, 0, 64, 224, 480, 0, 0, 3072, 7168, 16355, 32739, 65535, 131071] [0] [2, 3, 4] [] [15] [] mixed (by kernel_rfl) (of_decide_eq_true (by kernel_rfl)) (by kernel_rfl) (by kernel_rfl) (by rfl) ?_; obtain ⟨xv_87, F, h⟩ := bI F h; obtain ⟨xv_88, F, h⟩ := bI F h; have rf_22 : (enc a_10).set (k_7.toNat) [.v (.int .i64 xv_87.Node), .v (.int .i64 xv_87.Time.D), .v (.int .i64 xv_87.Time.C.a0), .v (.int .i64 xv_87.Time.C.a1), .v (.int .i64 xv_87.Time.C.a2), .v (.int .i64 xv_87.Time.C.a3)] = enc (List.set a_10 (k_7.toNat) xv_87) := by exact q1a _ _ _
     obtain ⟨xv_89, F, h⟩ := bI F h; have rf_23 : (enc (List.set a_10 (k_7.toNat) xv_87)).set (Int.toNat (i64.wrap (k_7 + 1))) [.v (.int .i64 xv_88.Node), .v (.int .i64 xv_88.Time.D), .v (.int .i64 xv_88.Time.C.a0), .v (.int .i64 xv_88.Time.C.a1), .v (.int .i64 xv_88.Time.C.a2), .v (.int .i64 xv_88.Time.C.a3)] = enc (List.set (List.set a_10 (k_7.toNat) xv_87) (Int.toNat (i64.wrap (k_7 + 1))) xv_88) := by exact q1a _ _ _
     simp only [go_sem, rf_22, rf_23, F]; refine ai ?_; refine ai ?_; refine ai ?_; refine ai ?_; refine q05 Q54 (q8 Q53 ?_); simp only [go_sem]; refine u7 Q50 ?_; exact nxC _ h [] leA
    · refine q0i (q0r Q51 (q0j Q50 (q0d Q49 (q8 Q47 (q04 (q2n Q43 ?_)))))); simp only [go_sem]; obtain rfl := Option.some.inj h; refine q83 [] ?_; exact leA
  · refine y5 (u7 Q43 (⟨(), [], ?_, h⟩)); exact leA
 ·
  rintro ⟨⟩ h
  try dsimp only at h
  rw [q2f] at h; refine q1n (fun (_ : Unit) => q2e data_0 a_0 mv_0 b_0 cmp_0 self = some r) [0, 1, 2, 3, 4] (fun _ => ([], [(0, .arr 6 (enc data_0))])) 1 ?_ ?_
  ·
   intro _ Q23; refine sM ?_; refine sB h (fun _ h => ?_) fun _ h => ?_
   ·
    refine sM ?_; refine sM ?_; refine q1n (fun (i_12 : Int) => q2d data_0 mv_0 i_12 = some r) [0, 2] (fun i_12 => ([(14, .v (.int .i64 i_12))], [(0, .arr 6 (enc data_0))])) 1 ?_ ?_
    ·
     intro _ Q35; refine w9 fun _ Q36 => ?_; refine d9 h [0, 2, 4] (fun x => ([(14, .v (.int .i64 x.1)), (15, .v (.int .i64 x.2))], [(0, .arr 6 (enc data_0))])) 1 ?_; rintro m_10 ⟨i_14, j_11⟩ h _ Q37; rw [q3u] at h; refine sg fun _ Q38 => ?_; refine sM ?_; refine sB h (fun _ h => ?_) fun _ h => ?_
     ·
      refine y5 (q8 Q38 (w9 fun _ Q40 => ?_)); refine sM ?_; refine sg fun _ Q42 => ?_; refine q02 ?_; refine j9m ?_; obtain ⟨xv_73, F, h⟩ := bI F h; obtain ⟨xv_74, F, h⟩ := bI F h; obtain ⟨v_28, ev_28, h⟩ := z8 h; simp only [go_sem, E_cmp_0, F]; refine ai ?_; refine ai ?_; refine q6k (H_cmp_0 xv_73 xv_74 v_28 ev_28) (by rfl) (by simp [go_sem, q00, q09, F_cmp_0]) ?_; simp only [go_sem]; refine q8 Q42 (sB h (fun _ h => ?_) fun _ h => ?_)
      · simp only [go_sem]; refine q05 Q40 (u7 Q37 ?_); exact nxC _ h [] leA
      · simp only [go_sem]; refine q05 Q40 (u7 Q37 ?_); exact nxC _ h [] leA
     · refine q0i (q0r Q38 (q0j Q37 (q0d Q36 (u7 Q35 (⟨i_14, [], ?_, h⟩))))); exact leA
    ·
     rintro i_12 h
     try dsimp only at h
     rw [q2d] at h; refine jg fun _ Q27 => ?_; refine sM ?_; refine w9 fun _ Q29 => ?_; refine d9 h [14] (fun x => ([(0, .osl 0 6 (0) (x.2.length)), (17, .v (.int .i64 x.1))], [(0, .arr 6 (enc x.2))])) 1 ?_; rintro m_9 ⟨k_5, a_8⟩ h _ Q30; rw [q47] at h; refine sg fun _ Q31 => ?_; refine sM ?_; refine sB h (fun _ h => ?_) fun _ h => ?_
     ·
      refine y5 (q8 Q31 (sg fun _ Q33 => ?_)); refine w9 fun _ Q34 => ?_; refine q02 ?_; refine q56 16 0 0 [0, 0, 0, 0, 8, 0, 0, 64, 224, 480, 0, 0, 3072, 7168, 16355, 32739, 65535, 131071] [0] [2, 3, 4] [] [15] [] mixed (by kernel_rfl) (of_decide_eq_true (by kernel_rfl)) (by kernel_rfl) (by kernel_rfl) (by rfl) ?_; obtain ⟨xv_66, F, h⟩ := bI F h; obtain ⟨xv_67, F, h⟩ := bI F h; have rf_16 : (enc a_8).set (k_5.toNat) [.v (.int .i64 xv_66.Node), .v (.int .i64 xv_66.Time.D), .v (.int .i64 xv_66.Time.C.a0), .v (.int .i64 xv_66.Time.C.a1), .v (.int .i64 xv_66.Time.C.a2), .v (.int .i64 xv_66.Time.C.a3)] = enc (List.set a_8 (k_5.toNat) xv_66) := by exact q1a _ _ _
      obtain ⟨xv_68, F, h⟩ := bI F h; have rf_17 : (enc (List.set a_8 (k_5.toNat) xv_66)).set (Int.toNat (i64.wrap (k_5 - 1))) [.v (.int .i64 xv_67.Node), .v (.int .i64 xv_67.Time.D), .v (.int .i64 xv_67.Time.C.a0), .v (.int .i64 xv_67.Time.C.a1), .v (.int .i64 xv_67.Time.C.a2), .v (.int .i64 xv_67.Time.C.a3)] = enc (List.set (List.set a_8 (k_5.toNat) xv_66) (Int.toNat (i64.wrap (k_5 - 1))) xv_67) := by exact q1a _ _ _
      simp only [go_sem, rf_16, rf_17, F]; refine ai ?_; refine ai ?_; refine ai ?_; refine ai ?_; refine q05 Q34 (q8 Q33 ?_); simp only [go_sem]; refine u7 Q30 ?_; exact nxC _ h [] leA
     · refine q0i (q0r Q31 (q0j Q30 (q0d Q29 (q8 Q27 (q04 (q2n Q23 ?_)))))); simp only [go_sem]; obtain rfl := Option.some.inj h; refine q83 [] ?_; exact leA
   · refine y5 (u7 Q23 (⟨(), [], ?_, h⟩)); exact leA
  ·
   rintro ⟨⟩ h
   try dsimp only at h
   rw [q2e] at h; refine sM ?_; refine sM ?_; refine sM ?_; refine q1n (fun ((start_0, rv_0) : Int × Int) => q0u data_0 a_0 mv_0 b_0 cmp_0 self start_0 rv_0 = some r) [0, 1, 2, 3, 4, 18, 19] (fun x => ([(20, .v (.int .i64 x.1)), (21, .v (.int .i64 x.2))], [(0, .arr 6 (enc data_0))])) 1 ?_ ?_
   ·
    intro _ Q19; refine sM ?_; refine sB h (fun _ h => ?_) fun _ h => ?_
    · refine sM ?_; simp only [go_sem]; refine u7 Q19 (⟨(i64.wrap ((i64.wrap ((i64.wrap (q1o .u64 (IntKind.u64.wrap (i64.wrap (a_0 + b_0))) 1)) + mv_0)) - b_0), i64.wrap (q1o .u64 (IntKind.u64.wrap (i64.wrap (a_0 + b_0))) 1)), [], ?_, h⟩); exact leA
    · refine sM ?_; simp only [go_sem]; refine u7 Q19 (⟨(a_0, mv_0), [], ?_, h⟩); exact leA
   ·
    rintro ⟨start_0, rv_0⟩ h
    try dsimp only at h
    rw [q0u] at h; refine sM ?_; refine q1n (fun (start_3 : Int) => q1b data_0 a_0 mv_0 b_0 cmp_0 self start_3 = some r) [0, 1, 2, 3, 4, 18, 19] (fun start_3 => ([(20, .v (.int .i64 start_3))], [(0, .arr 6 (enc data_0))])) 1 ?_ ?_
    ·
     intro _ Q11; refine w9 fun _ Q12 => ?_; refine d9 h [0, 1, 2, 3, 4, 18, 19, 22] (fun x => ([(20, .v (.int .i64 x.1)), (21, .v (.int .i64 x.2))], [(0, .arr 6 (enc data_0))])) 1 ?_; rintro m_7 ⟨start_5, rv_4⟩ h _ Q13; rw [q48] at h; refine sg fun _ Q14 => ?_; refine sM ?_; refine sB h (fun _ h => ?_) fun _ h => ?_
     ·
      refine y5 (q8 Q14 (w9 fun _ Q16 => ?_)); refine sM ?_; refine sg fun _ Q18 => ?_; refine q02 ?_; refine j9m ?_; obtain ⟨xv_52, F, h⟩ := bI F h; obtain ⟨xv_53, F, h⟩ := bI F h; obtain ⟨v_22, ev_22, h⟩ := z8 h; simp only [go_sem, E_cmp_0, F]; refine ai ?_; refine ai ?_; refine q6k (H_cmp_0 xv_52 xv_53 v_22 ev_22) (by rfl) (by simp [go_sem, q00, q09, F_cmp_0]) ?_; simp only [go_sem]; refine q8 Q18 (sB h (fun _ h => ?_) fun _ h => ?_)
      · simp only [go_sem]; refine q05 Q16 (u7 Q13 ?_); exact nxC _ h [] leA
      · simp only [go_sem]; refine q05 Q16 (u7 Q13 ?_); exact nxC _ h [] leA
     · refine q0i (q0r Q14 (q0j Q13 (q0d Q12 (u7 Q11 (⟨start_5, [], ?_, h⟩))))); exact leA
    ·
     rintro start_3 h
     try dsimp only at h
     rw [q1b] at h; refine sM ?_; refine q1n (fun (a_5 : (List GPoint)) => q0t a_0 mv_0 b_0 cmp_0 self start_3 a_5 = some r) [1, 3, 4, 18, 20, 24] (fun a_5 => ([(0, .osl 0 6 (0) (a_5.length))], [(0, .arr 6 (enc a_5))])) 1 ?_ ?_
     ·
      intro _ Q9; refine sM ?_; refine sB h (fun _ h => ?_) fun _ h => ?_
      · obtain ⟨v_19, ev_19, h⟩ := z8 h; simp only [go_sem]; refine qq2 [0] (ql3 data_0 start_3 mv_0 (i64.wrap ((i64.wrap ((i64.wrap (q1o .u64 (IntKind.u64.wrap (i64.wrap (a_0 + b_0))) 1)) + mv_0)) - start_3)) cmp_0 g_cmp_0 c_cmp_0 F_cmp_0 E_cmp_0 H_cmp_0 v_19 ev_19) (by simp) (by simp only [q6l, q28, q4s F_cmp_0] <;> rfl) ⟨rfl, trivial⟩ (by simp only [ltL, ltA, q66 F_cmp_0] <;> rfl) rfl rfl rfl ?_; obtain ⟨F, h⟩ := bG F h; simp only [go_sem, F]; refine u7 Q9 (⟨v_19, [], ?_, h⟩); exact leA
      · refine y5 (u7 Q9 (⟨data_0, [], ?_, h⟩)); exact leA
     ·
      rintro a_5 h
      try dsimp only at h
      rw [q0t] at h; refine q1n (fun (a_6 : (List GPoint)) => q0s a_0 mv_0 b_0 cmp_0 self start_3 a_6 = some r) [3, 4, 18, 24] (fun a_6 => ([(0, .osl 0 6 (0) (a_6.length))], [(0, .arr 6 (enc a_6))])) 1 ?_ ?_
      ·
       intro _ Q7; refine sM ?_; refine sB h (fun _ h => ?_) fun _ h => ?_
       · obtain ⟨v_18, ev_18, h⟩ := z8 h; simp only [go_sem]; refine qq2 [0] (Hself a_5 a_0 start_3 (i64.wrap (q1o .u64 (IntKind.u64.wrap (i64.wrap (a_0 + b_0))) 1)) cmp_0 g_cmp_0 c_cmp_0 F_cmp_0 E_cmp_0 H_cmp_0 v_18 ev_18) (by simp) (by simp only [q6l, q28, q4s F_cmp_0] <;> rfl) ⟨rfl, trivial⟩ (by simp only [ltL, ltA, q66 F_cmp_0] <;> rfl) rfl rfl rfl ?_; obtain ⟨F, h⟩ := bG F h; simp only [go_sem, F]; refine u7 Q7 (⟨v_18, [], ?_, h⟩); exact leA
       · refine y5 (u7 Q7 (⟨a_5, [], ?_, h⟩)); exact leA
      ·
       rintro a_6 h
       try dsimp only at h
       rw [q0s] at h; refine sM ?_; refine sB h (fun _ h => ?_) fun _ h => ?_
       · obtain ⟨v_17, ev_17, h⟩ := z8 h; simp only [go_sem]; refine qq2 [0] (Hself a_6 (i64.wrap (q1o .u64 (IntKind.u64.wrap (i64.wrap (a_0 + b_0))) 1)) (i64.wrap ((i64.wrap ((i64.wrap (q1o .u64 (IntKind.u64.wrap (i64.wrap (a_0 + b_0))) 1)) + mv_0)) - start_3)) b_0 cmp_0 g_cmp_0 c_cmp_0 F_cmp_0 E_cmp_0 H_cmp_0 v_17 ev_17) (by simp) (by simp only [q6l, q28, q4s F_cmp_0] <;> rfl) ⟨rfl, trivial⟩ (by simp only [ltL, ltA, q66 F_cmp_0] <;> rfl) rfl rfl rfl ?_; obtain ⟨F, h⟩ := bG F h; simp only [go_sem, F]; obtain rfl := Option.some.inj h; refine q83 [] ?_; exact leA
       · refine y5 ?_; simp only [go_sem]; obtain rfl := Option.some.inj h; refine q83 [] ?_; exact leA
theorem q6n : ∀ (n : Nat) (data_0 : List GPoint) (a_0 : Int) (mv_0 : Int) (b_0 : Int) (cmp_0 : GPoint → GPoint → Option Int) (g_cmp_0 : FuncId) (c_cmp_0 : List AV) (F_cmp_0 : q00 c_cmp_0 = true) (E_cmp_0 : y8 pp g_cmp_0 = true) (H_cmp_0 : ∀ (x0 : GPoint) (x1 : GPoint) (r : Int), cmp_0 x0 x1 = some r → PureS pp g_cmp_0 ([.agg (Row.row x0), .agg (Row.row x1)] ++ c_cmp_0) 0 (.v (.int .i64 r))) (r : List GPoint), q03 n data_0 a_0 mv_0 b_0 cmp_0 = some r → DetS pp 132 [.osl 0 6 (0) (data_0.length), .v (.int .i64 a_0), .v (.int .i64 mv_0), .v (.int .i64 b_0), .clo g_cmp_0 c_cmp_0] [(0, .arr 6 (enc data_0))] 1 (.tup []) [(0, .arr 6 (enc r))] 1
  | 0, data_0, a_0, mv_0, b_0, cmp_0, g_cmp_0, c_cmp_0, F_cmp_0, E_cmp_0, H_cmp_0, r, h => by simp [q03] at h
  | n + 1, data_0, a_0, mv_0, b_0, cmp_0, g_cmp_0, c_cmp_0, F_cmp_0, E_cmp_0, H_cmp_0, r, h => qe5 (q03 n) (q6n n) data_0 a_0 mv_0 b_0 cmp_0 g_cmp_0 c_cmp_0 F_cmp_0 E_cmp_0 H_cmp_0 r h
theorem q7m (data_0 : List GPoint) (a_0 : Int) (mv_0 : Int) (b_0 : Int) (cmp_0 : GPoint → GPoint → Option Int) (g_cmp_0 : FuncId) (c_cmp_0 : List AV) (F_cmp_0 : q00 c_cmp_0 = true) (E_cmp_0 : y8 pp g_cmp_0 = true) (H_cmp_0 : ∀ (x0 : GPoint) (x1 : GPoint) (r : Int), cmp_0 x0 x1 = some r → PureS pp g_cmp_0 ([.agg (Row.row x0), .agg (Row.row x1)] ++ c_cmp_0) 0 (.v (.int .i64 r))) (r : List GPoint) (h : q35 data_0 a_0 mv_0 b_0 cmp_0 = some r) : DetS pp 132 [.osl 0 6 (0) (data_0.length), .v (.int .i64 a_0), .v (.int .i64 mv_0), .v (.int .i64 b_0), .clo g_cmp_0 c_cmp_0] [(0, .arr 6 (enc data_0))] 1 (.tup []) [(0, .arr 6 (enc r))] 1 := q6n rounds data_0 a_0 mv_0 b_0 cmp_0 g_cmp_0 c_cmp_0 F_cmp_0 E_cmp_0 H_cmp_0 r h
def q2q (nv_0 : Int) (cmp_0 : GPoint → GPoint → Option Int) (blockSize_1 : Int) (rec_2 : (Int × (List GPoint) → Option (List GPoint))) (a_32 : Int) (a_33 : List GPoint) : Option (List GPoint) :=
 (if (decide ((i64.wrap (a_32 + blockSize_1)) < nv_0)) = true then q9 (q35 a_33 a_32 (i64.wrap (a_32 + blockSize_1)) nv_0 cmp_0) (fun v_21 =>
 x9 (v_21.length = a_33.length) (
 rec_2 (i64.wrap (blockSize_1 * 2), v_21)))
 else rec_2 (i64.wrap (blockSize_1 * 2), a_33))
def q4v (nv_0 : Int) (cmp_0 : GPoint → GPoint → Option Int) (blockSize_1 : Int) (rec_2 : (Int × (List GPoint) → Option (List GPoint))) (rec_4 : Int × Int × (List GPoint) → Option (List GPoint)) : Int × Int × (List GPoint) → Option (List GPoint) :=
 fun (a_36, b_13, a_37) =>
 (if (decide (b_13 ≤ nv_0)) = true then q9 (q35 a_37 a_36 (i64.wrap (a_36 + blockSize_1)) b_13 cmp_0) (fun v_24 =>
 x9 (v_24.length = a_37.length) (
 rec_4 (b_13, i64.wrap (b_13 + (i64.wrap (2 * blockSize_1))), v_24)))
 else q2q nv_0 cmp_0 blockSize_1 rec_2 a_36 a_37)
def q2s (nv_0 : Int) (cmp_0 : GPoint → GPoint → Option Int) (rec_2 : Int × (List GPoint) → Option (List GPoint)) : Int × (List GPoint) → Option (List GPoint) :=
 fun (blockSize_1, a_27) =>
 (if (decide (blockSize_1 < nv_0)) = true then x8 (q4v nv_0 cmp_0 blockSize_1 rec_2) rounds (0, i64.wrap (2 * blockSize_1), a_27)
 else some a_27)
def q2r (nv_0 : Int) (cmp_0 : GPoint → GPoint → Option Int) (a_4 : Int) (a_5 : List GPoint) : Option (List GPoint) :=
 q9 (q0g a_5 a_4 nv_0 cmp_0) (fun v_3 =>
 x9 (v_3.length = a_5.length) (
 x8 (q2s nv_0 cmp_0) rounds (20, v_3)))
def q4u (nv_0 : Int) (cmp_0 : GPoint → GPoint → Option Int) (rec_5 : Int × Int × (List GPoint) → Option (List GPoint)) : Int × Int × (List GPoint) → Option (List GPoint) :=
 fun (a_40, b_15, a_41) =>
 (if (decide (b_15 ≤ nv_0)) = true then q9 (q0g a_41 a_40 b_15 cmp_0) (fun v_27 =>
 x9 (v_27.length = a_41.length) (
 rec_5 (b_15, i64.wrap (b_15 + 20), v_27)))
 else q2r nv_0 cmp_0 a_40 a_41)
def q3g (data_0 : List GPoint) (nv_0 : Int) (cmp_0 : GPoint → GPoint → Option Int) : Option (List GPoint) :=
 x8 (q4u nv_0 cmp_0) rounds (0, 20, data_0)
theorem ql2 (data_0 : List GPoint) (nv_0 : Int) (cmp_0 : GPoint → GPoint → Option Int) (g_cmp_0 : FuncId) (c_cmp_0 : List AV) (F_cmp_0 : q00 c_cmp_0 = true) (E_cmp_0 : y8 pp g_cmp_0 = true) (H_cmp_0 : ∀ (x0 : GPoint) (x1 : GPoint) (r : Int), cmp_0 x0 x1 = some r → PureS pp g_cmp_0 ([.agg (Row.row x0), .agg (Row.row x1)] ++ c_cmp_0) 0 (.v (.int .i64 r))) (r : List GPoint) (h : q3g data_0 nv_0 cmp_0 = some r) : DetS pp 90 [.osl 0 6 (0) (data_0.length), .v (.int .i64 nv_0), .clo g_cmp_0 c_cmp_0] [(0, .arr 6 (enc data_0))] 1 (.tup []) [(0, .arr 6 (enc r))] 1 := by
 refine dtI Tryz.func90 rfl ?_; rw [q3g] at h; have F := trivial; refine sM ?_; refine sM ?_; refine q1n (fun ((a_4, a_5) : Int × (List GPoint)) => q2r nv_0 cmp_0 a_4 a_5 = some r) [1, 2, 6] (fun x => ([(0, .osl 0 6 (0) (x.2.length)), (7, .v (.int .i64 x.1))], [(0, .arr 6 (enc x.2))])) 1 ?_ ?_
 ·
  intro _ Q21; refine w9 fun _ Q22 => ?_; refine d9 h [1, 2, 6] (fun x => ([(0, .osl 0 6 (0) (x.2.2.length)), (7, .v (.int .i64 x.1)), (8, .v (.int .i64 x.2.1))], [(0, .arr 6 (enc x.2.2))])) 1 ?_; rintro m_5 ⟨a_40, b_15, a_41⟩ h _ Q23; rw [q4u] at h; refine sg fun _ Q24 => ?_; refine sM ?_; refine sB h (fun _ h => ?_) fun _ h => ?_
  · refine y5 (q8 Q24 (w9 fun _ Q26 => ?_)); refine sg fun _ Q27 => ?_; obtain ⟨v_27, ev_27, h⟩ := z8 h; simp only [go_sem]; refine qq2 [0] (q5v a_41 a_40 b_15 cmp_0 g_cmp_0 c_cmp_0 F_cmp_0 E_cmp_0 H_cmp_0 v_27 ev_27) (by simp) (by simp only [q6l, q28, q4s F_cmp_0] <;> rfl) ⟨rfl, trivial⟩ (by simp only [ltL, ltA, q66 F_cmp_0] <;> rfl) rfl rfl rfl ?_; obtain ⟨F, h⟩ := bG F h; simp only [go_sem, F]; refine q8 Q27 (sM ?_); simp only [go_sem]; refine q05 Q26 (u7 Q23 ?_); exact nxC _ h [] leA
  · refine q0i (q0r Q24 (q0j Q23 (q0d Q22 (u7 Q21 (⟨(a_40, a_41), [], ?_, h⟩))))); exact leA
 ·
  rintro ⟨a_4, a_5⟩ h
  try dsimp only at h
  rw [q2r] at h; refine sg fun _ Q3 => ?_; obtain ⟨v_3, ev_3, h⟩ := z8 h; simp only [go_sem]; refine qq2 [0] (q5v a_5 a_4 nv_0 cmp_0 g_cmp_0 c_cmp_0 F_cmp_0 E_cmp_0 H_cmp_0 v_3 ev_3) (by simp) (by simp only [q6l, q28, q4s F_cmp_0] <;> rfl) ⟨rfl, trivial⟩ (by simp only [ltL, ltA, q66 F_cmp_0] <;> rfl) rfl rfl rfl ?_; obtain ⟨F, h⟩ := bG F h; simp only [go_sem, F]; refine q8 Q3 (w9 fun _ Q4 => ?_); refine d9 h [1, 2] (fun x => ([(0, .osl 0 6 (0) (x.2.length)), (6, .v (.int .i64 x.1))], [(0, .arr 6 (enc x.2))])) 1 ?_; rintro m_2 ⟨blockSize_1, a_27⟩ h _ Q5; rw [q2s] at h; refine sg fun _ Q6 => ?_; refine sM ?_; refine sB h (fun _ h => ?_) fun _ h => ?_
  ·
   refine y5 (q8 Q6 (w9 fun _ Q8 => ?_)); refine sM ?_; refine q1n (fun ((a_32, a_33) : Int × (List GPoint)) => q2q nv_0 cmp_0 blockSize_1 (x8 (q2s nv_0 cmp_0) m_2) a_32 a_33 = some r) [1, 2, 6] (fun x => ([(0, .osl 0 6 (0) (x.2.length)), (7, .v (.int .i64 x.1))], [(0, .arr 6 (enc x.2))])) 1 ?_ ?_
   ·
    intro _ Q13; refine w9 fun _ Q14 => ?_; refine d9 h [1, 2, 6] (fun x => ([(0, .osl 0 6 (0) (x.2.2.length)), (7, .v (.int .i64 x.1)), (8, .v (.int .i64 x.2.1))], [(0, .arr 6 (enc x.2.2))])) 1 ?_; rintro m_4 ⟨a_36, b_13, a_37⟩ h _ Q15; rw [q4v] at h; refine sg fun _ Q16 => ?_; refine sM ?_; refine sB h (fun _ h => ?_) fun _ h => ?_
    · refine y5 (q8 Q16 (w9 fun _ Q18 => ?_)); refine sg fun _ Q19 => ?_; obtain ⟨v_24, ev_24, h⟩ := z8 h; simp only [go_sem]; refine qq2 [0] (q7m a_37 a_36 (i64.wrap (a_36 + blockSize_1)) b_13 cmp_0 g_cmp_0 c_cmp_0 F_cmp_0 E_cmp_0 H_cmp_0 v_24 ev_24) (by simp) (by simp only [q6l, q28, q4s F_cmp_0] <;> rfl) ⟨rfl, trivial⟩ (by simp only [ltL, ltA, q66 F_cmp_0] <;> rfl) rfl rfl rfl ?_; obtain ⟨F, h⟩ := bG F h; simp only [go_sem, F]; refine q8 Q19 (sM ?_); simp only [go_sem]; refine q05 Q18 (u7 Q15 ?_); exact nxC _ h [] leA
    · refine q0i (q0r Q16 (q0j Q15 (q0d Q14 (u7 Q13 (⟨(a_36, a_37), [], ?_, h⟩))))); exact leA
   ·
    rintro ⟨a_32, a_33⟩ h
    try dsimp only at h
    rw [q2q] at h; refine jg fun _ Q10 => ?_; refine sM ?_; refine sM ?_; refine sB h (fun _ h => ?_) fun _ h => ?_
    · obtain ⟨v_21, ev_21, h⟩ := z8 h; simp only [go_sem]; refine qq2 [0] (q7m a_33 a_32 (i64.wrap (a_32 + blockSize_1)) nv_0 cmp_0 g_cmp_0 c_cmp_0 F_cmp_0 E_cmp_0 H_cmp_0 v_21 ev_21) (by simp) (by simp only [q6l, q28, q4s F_cmp_0] <;> rfl) ⟨rfl, trivial⟩ (by simp only [ltL, ltA, q66 F_cmp_0] <;> rfl) rfl rfl rfl ?_; obtain ⟨F, h⟩ := bG F h; simp only [go_sem, F]; refine q8 Q10 ?_; simp only [go_sem]; refine q05 Q8 (u7 Q5 ?_); exact nxC _ h [] leA
    · refine y5 (q8 Q10 ?_); simp only [go_sem]; refine q05 Q8 (u7 Q5 ?_); exact nxC _ h [] leA
  · refine q0i (q0r Q6 (q0j Q5 (q0d Q4 ?_))); simp only [go_sem]; obtain rfl := Option.some.inj h; refine q83 [] ?_; exact leA
def q1x (xv_0 : List GPoint) (cmp_0 : GPoint → GPoint → Option Int) : Option (List GPoint) :=
 q9 (q3g xv_0 (xv_0.length : Int) cmp_0) (fun v_0 =>
 x9 (v_0.length = xv_0.length) (
 some v_0))
theorem qk3 (xv_0 : List GPoint) (cmp_0 : GPoint → GPoint → Option Int) (g_cmp_0 : FuncId) (c_cmp_0 : List AV) (F_cmp_0 : q00 c_cmp_0 = true) (E_cmp_0 : y8 pp g_cmp_0 = true) (H_cmp_0 : ∀ (x0 : GPoint) (x1 : GPoint) (r : Int), cmp_0 x0 x1 = some r → PureS pp g_cmp_0 ([.agg (Row.row x0), .agg (Row.row x1)] ++ c_cmp_0) 0 (.v (.int .i64 r))) (r : List GPoint) (h : q1x xv_0 cmp_0 = some r) : DetS pp 42 [.osl 0 6 (0) (xv_0.length), .clo g_cmp_0 c_cmp_0] [(0, .arr 6 (enc xv_0))] 1 (.tup []) [(0, .arr 6 (enc r))] 1 := by
 refine dtI Tryz.func42 rfl ?_; rw [q1x] at h; have F := trivial; obtain ⟨v_0, ev_0, h⟩ := z8 h; simp only [go_sem]; refine qq2 [0] (ql2 xv_0 (xv_0.length : Int) cmp_0 g_cmp_0 c_cmp_0 F_cmp_0 E_cmp_0 H_cmp_0 v_0 ev_0) (by simp) (by simp only [q6l, q28, q4s F_cmp_0] <;> rfl) ⟨rfl, trivial⟩ (by simp only [ltL, ltA, q66 F_cmp_0] <;> rfl) rfl rfl rfl ?_; obtain ⟨F, h⟩ := bG F h; simp only [go_sem, F]; obtain rfl := Option.some.inj h; refine q83 [] ?_; exact leA
def q6r (a_0 : GPoint) (b_0 : GPoint) : Option Int :=
 q9 (qa7 a_0.Time b_0.Time) (fun v_0 =>
 (if v_0 = true then some (-1)
 else q9 (qa7 b_0.Time a_0.Time) (fun v_1 =>
 (if v_1 = true then some 1
 else some 0))))
instance z6l (a_0 : GPoint) (b_0 : GPoint) : Ct pp 43 (q6r a_0 b_0) [.agg (Row.row a_0), .agg (Row.row b_0)] fun r => (.v (.int .i64 r)) := ctI Tryz.func43 rfl (by rw [q6r]; exact au1)
def qg6 (a_8 : List GPoint) : Option (List GPoint) :=
 q9 (q1x a_8 (fun x0_ x1_ => q6r x0_ x1_)) (fun v_4 =>
 x9 (v_4.length = a_8.length) (
 some v_4))
def qg7 (t17_3 : Int) (rec_2 : (Int × (List GPoint) → Option (List GPoint))) (v_7 : List GTime) (rec_3 : Int × (List GPoint) → Option (List GPoint)) : Int × (List GPoint) → Option (List GPoint) :=
 fun (t32_11, a_16) =>
 (if (decide (t32_11 < (v_7.length : Int))) = true then q9 (idx v_7 t32_11) (fun xv_29 =>
 x9 ((a_16.length + List.length ([(⟨t17_3, xv_29⟩ : GPoint)] : List GPoint)) * 48 ≤ 140737488355328) (
 rec_3 (i64.wrap (t32_11 + 1), (a_16 ++ ([(⟨t17_3, xv_29⟩ : GPoint)] : List GPoint)))))
 else rec_2 (i64.wrap (t17_3 + 1), a_16))
def qg8 (g_0 : GGraph) (u_0 : GUnit) (rec_2 : Int × (List GPoint) → Option (List GPoint)) : Int × (List GPoint) → Option (List GPoint) :=
 fun (t17_3, a_14) =>
 (if (decide (t17_3 < (u_0.Cells.length : Int))) = true then q9 (idx u_0.Cells t17_3) (fun xv_25 =>
 q9 (idx g_0.Nodes t17_3) (fun xv_26 =>
 (if (xv_26.Kind == 15) = true then rec_2 (i64.wrap (t17_3 + 1), a_14)
 else q9 (qe3 xv_25) (fun v_7 =>
 x8 (qg7 t17_3 rec_2 v_7) rounds (0, a_14)))))
 else qg6 a_14)
def q7l (g_0 : GGraph) (u_0 : GUnit) : Option (List GPoint) :=
 q9 (q6q g_0 u_0) (fun v_0 =>
 (if (!v_0) = true then some ([] : List GPoint)
 else x8 (qg8 g_0 u_0) rounds (0, [])))
theorem qq8 (g_0 : GGraph) (u_0 : GUnit)  (r : List GPoint) (h : q7l g_0 u_0 = some r) : DetS pp 12 [.agg (Row.row g_0), .agg (Row.row u_0)] [] 0 (.osl 0 6 (0) (r.length)) [(0, .arr 6 (enc r))] 1 := by
 refine dtI Tryz.func12 rfl ?_; rw [q7l] at h; have F := trivial; refine sM ?_; refine sM ?_; refine sg fun _ Q3 => ?_; refine sg fun _ Q4 => ?_; simp only [go_sem]; refine q0o h fun v_0 h => ?_; simp only [go_sem]; refine q8 Q4 (sB h (fun _ h => ?_) fun _ h => ?_)
 · exact au
 ·
  refine y5 (q8 Q3 (q1n (fun (a_8 : (List GPoint)) => qg6 a_8 = some r) [] (fun a_8 => ([(5, .osl 0 6 (0) (a_8.length))], [(0, .arr 6 (enc a_8))])) 1 ?_ ?_))
  ·
   intro _ Q8; refine sM ?_; refine w9 fun _ Q10 => ?_; refine d9 h [2, 15, 16] (fun x => ([(5, .osl 1 6 (0) (x.2.length)), (17, .v (.int .i64 x.1))], [(0, .box (Row.row g_0)), (1, .arr 6 (enc x.2))])) 2 ?_; rintro m_2 ⟨t17_3, a_14⟩ h _ Q11; rw [qg8] at h; refine sM ?_; refine sg fun _ Q13 => ?_; refine sB h (fun _ h => ?_) fun _ h => ?_
   ·
    refine y5 (q8 Q13 (jg fun _ Q14 => ?_)); refine w9 fun _ Q15 => ?_; refine sg fun _ Q16 => ?_; obtain ⟨xv_25, F, h⟩ := bI F h; simp only [go_sem, F]; refine ai ?_; refine q8 Q16 (sg fun _ Q17 => ?_); refine sg fun _ Q18 => ?_; obtain ⟨xv_26, F, h⟩ := bI F h; simp only [go_sem, F]; refine ai ?_; refine q8 Q18 (sB h (fun _ h => ?_) fun _ h => ?_)
    · exact au
    ·
     refine y5 (q8 Q17 (sg fun _ Q19 => ?_)); obtain ⟨v_7, ev_7, h⟩ := z8 h; simp only [go_sem]; refine q0b [] (z1x xv_25 v_7 ev_7) ?_; simp only [go_sem]; refine q8 Q19 (w9 fun _ Q20 => ?_); refine d9 h [2, 6, 15, 16, 17, 30, 31] (fun x => ([(5, .osl 1 6 (0) (x.2.length)), (32, .v (.int .i64 x.1))], [(0, .box (Row.row g_0)), (1, .arr 6 (enc x.2)), (2, .arr 5 (enc v_7))])) 3 ?_; rintro m_3 ⟨t32_11, a_16⟩ h _ Q21; rw [qg7] at h; refine sM ?_; refine sg fun _ Q23 => ?_; refine sB h (fun _ h => ?_) fun _ h => ?_
     ·
      refine y5 (q8 Q23 (sg fun _ Q24 => ?_)); refine w9 fun _ Q25 => ?_; refine sg fun _ Q26 => ?_; obtain ⟨xv_29, F, h⟩ := bI F h; simp only [go_sem, F]; refine ai ?_; refine q8 Q26 ?_; have rf_32 : [[.v (.int .i64 t17_3), .v (.int .i64 xv_29.D), .v (.int .i64 xv_29.C.a0), .v (.int .i64 xv_29.C.a1), .v (.int .i64 xv_29.C.a2), .v (.int .i64 xv_29.C.a3)]] = enc ([(⟨t17_3, xv_29⟩ : GPoint)] : List GPoint) := by rfl
      obtain ⟨g_19, h⟩ := q0v h; have F := And.intro F g_19; simp only [List.length_cons, List.length_nil, Nat.zero_add, List.length_append] at g_19; have rf_33 : enc a_16 ++ [[.v (.int .i64 t17_3), .v (.int .i64 xv_29.D), .v (.int .i64 xv_29.C.a0), .v (.int .i64 xv_29.C.a1), .v (.int .i64 xv_29.C.a2), .v (.int .i64 xv_29.C.a3)]] = enc (a_16 ++ ([(⟨t17_3, xv_29⟩ : GPoint)] : List GPoint)) := by exact (q6f a_16 ([(⟨t17_3, xv_29⟩ : GPoint)] : List GPoint)).symm
      simp only [go_sem, g_19, rf_33]; simp only [rf_32]; exact au
     · exact au
   · exact au
  ·
   rintro a_8 h
   try dsimp only at h
   rw [qg6] at h; refine sg fun _ Q6 => ?_; obtain ⟨v_4, ev_4, h⟩ := z8 h; simp only [go_sem]; refine q0b [0] (qk3 a_8 (fun x0_ x1_ => q6r x0_ x1_) 43 [] (by rfl) (by kernel_rfl) (fun y0 y1 r_ e_ => z6l y0 y1 r_ e_) v_4 ev_4) ?_; obtain ⟨F, h⟩ := bG F h; simp only [go_sem, F]; exact au
instance z8c (g_0 : GGraph) (u_0 : GUnit) : Ct pp 12 (q7l g_0 u_0) [.agg (Row.row g_0), .agg (Row.row u_0)] fun r => (.sl 6 (enc r)) := ⟨fun r h => (qq8 g_0 u_0  r h).pure leA⟩
def q7r (s_0 : List GPoint) (v_0 : GPoint) (rec_1 : Int → Option Int) : Int → Option Int :=
 fun t8_1 =>
 (if (decide (t8_1 < (s_0.length : Int))) = true then q9 (idx s_0 t8_1) (fun xv_2 =>
 (if ((v_0.Node == xv_2.Node) && ((v_0.Time.D == xv_2.Time.D) && ((v_0.Time.C.a0 == xv_2.Time.C.a0) && ((v_0.Time.C.a1 == xv_2.Time.C.a1) && ((v_0.Time.C.a2 == xv_2.Time.C.a2) && (v_0.Time.C.a3 == xv_2.Time.C.a3)))))) = true then some t8_1
 else rec_1 (i64.wrap (t8_1 + 1))))
 else some (-1))
def q8x (s_0 : List GPoint) (v_0 : GPoint) : Option Int :=
 x8 (q7r s_0 v_0) rounds 0
instance zp2 (s_0 : List GPoint) (v_0 : GPoint) : Ct pp 51 (q8x s_0 v_0) [.sl 6 (enc s_0), .agg (Row.row v_0)] fun r => (.v (.int .i64 r)) := ctK Tryz.func51 rfl (by rw [q8x]) (by
 intro r h F; refine sM ?_; refine jg fun _ Q2 => ?_; refine sM ?_; refine w9 fun _ Q4 => ?_; refine d9 h [0, 3, 7] (fun t8_1 => ([(8, .v (.int .i64 t8_1))], [(0, .box (Row.row v_0))])) 1 ?_; rintro m_1 t8_1 h _ Q5; rw [q7r] at h; exact au)
def q5f (s_0 : List GPoint) (v_0 : GPoint) : Option Bool :=
 q9 (q8x s_0 v_0) (fun v_1 =>
 some (decide (0 ≤ v_1)))
instance zf9 (s_0 : List GPoint) (v_0 : GPoint) : Ct pp 18 (q5f s_0 v_0) [.sl 6 (enc s_0), .agg (Row.row v_0)] fun r => (.v (.bool r)) := ctI Tryz.func18 rfl (by rw [q5f]; exact au1)
def q7k (g_0 : GGraph) (node_0 : Int) : Option Int :=
 q9 (q1p node_0 (g_0.Nodes.length : Int)) (fun v_0 =>
 (if (!v_0) = true then some 0
 else q9 (idx g_0.Nodes node_0) (fun xv_0 =>
 q9 (q7j g_0 xv_0) (fun v_1 =>
 q9 (qi5 g_0 v_1) (fun v_2 =>
 some v_2)))))
instance z8b (g_0 : GGraph) (node_0 : Int) : Ct pp 35 (q7k g_0 node_0) [.agg (Row.row g_0), .v (.int .i64 node_0)] fun r => (.v (.int .i64 r)) := ctI Tryz.func35 rfl (by rw [q7k]; exact au1)
def qw7 (t_0 : GTime) : Option (GTime × Bool) :=
 q9 (q21 t_0) (fun v_0 =>
 (if ((!v_0) || (t_0.D == 4)) = true then some ((⟨0, (⟨0, 0, 0, 0⟩ : Arr4 Int)⟩ : GTime), false)
 else some ((⟨i64.wrap (t_0.D + 1), t_0.C⟩ : GTime), true)))
instance j7a (t_0 : GTime) : Ct pp 62 (qw7 t_0) [.agg (Row.row t_0)] fun r => (.tup [.agg (Row.row r.1), .v (.bool r.2)]) := ctI Tryz.func62 rfl (by rw [qw7]; exact au1)
end Go.Proofs.YtgegekpefakacaaGreat
