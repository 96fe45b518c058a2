/-
  What functions of the program compute, each told as a plain function that may give nothing, with the proof that the code does so. No condition beyond those that each theorem names.
-/
import Derived.Test.YteibkihbdgphnaaGreatWalkMP0
import Derived.Test.YteibkihbdgphnaaGreatWalkMP1
set_option linter.unusedSimpArgs false
set_option linter.unusedVariables false
set_option linter.unusedSectionVars false
set_option maxHeartbeats 2000000
set_option maxRecDepth 100000
open And renaming intro -> Xa
open Option renaming some.inj -> Xb
open Nat renaming lt_succ_self -> Xc
open List renaming length_append -> Xd, length_cons -> Xe
namespace Go.Proofs.YteibkihbdgphnaaGreat
open Go Go.RowKit
open Go.IntKind (i64)
def q3l (v_8 : (List GOut) × Int) (rec_3 : (List GOut) × (List GOut) × Int -> Option Bool) : (List GOut) × (List GOut) × Int -> Option Bool :=
 fun (l_1, mv_1, i_5) =>
 (if (decide (i_5 < (l_1.length : Int))) = true then q9 (idx l_1 i_5) (fun xv_11 =>
 q9 (q3i l_1 xv_11) (fun v_15 =>
 q9 (q3i mv_1 xv_11) (fun v_16 =>
 q9 (q3i v_8.1 xv_11) (fun v_17 =>
 (if (!(v_15 == (i64.wrap (v_16 + v_17)))) = true then some false
 else rec_3 (l_1, mv_1, i64.wrap (i_5 + 1)))))))
 else some true)
def q59 (g_0 : GGraph) (feeds_0 : List GFeed) (a_4 : List GFeed) (a_5 : List GFeed) : Option Bool :=
 q9 (q7t g_0 feeds_0 2000) (fun v_6 =>
 (if (!(v_6.2 == 0)) = true then some true
 else q9 (q7t g_0 a_4 2000) (fun v_7 =>
 q9 (q7t g_0 a_5 2000) (fun v_8 =>
 (if (((!(v_7.2 == 0)) || (!(v_8.2 == 0))) || (!((i64.wrap ((v_7.1.length : Int) + (v_8.1.length : Int))) == (v_6.1.length : Int)))) = true then some false
 else q05 (q3l v_8) rounds (v_6.1, v_7.1, 0))))))
def q3k (g_0 : GGraph) (feeds_0 : List GFeed) (mask_0 : Int) (rec_4 : Int × (List GFeed) × (List GFeed) -> Option Bool) : Int × (List GFeed) × (List GFeed) -> Option Bool :=
 fun (i_7, a_8, a_9) =>
 (if (decide (i_7 < (feeds_0.length : Int))) = true then q03 (0 <= (IntKind.u64.wrap i_7)) (
 (if ((qo4 .u64 (q29 .u64 mask_0 (IntKind.u64.wrap i_7)) 1) == 1) = true then q9 (idx feeds_0 i_7) (fun xv_16 =>
 q03 ((a_8.length + List.length ([xv_16] : List GFeed)) * 32 <= 140737488355328) (
 rec_4 (i64.wrap (i_7 + 1), (a_8 ++ ([xv_16] : List GFeed)), a_9)))
 else q9 (idx feeds_0 i_7) (fun xv_17 =>
 q03 ((a_9.length + List.length ([xv_17] : List GFeed)) * 32 <= 140737488355328) (
 rec_4 (i64.wrap (i_7 + 1), a_8, (a_9 ++ ([xv_17] : List GFeed)))))))
 else q59 g_0 feeds_0 a_8 a_9)
def q5a (g_0 : GGraph) (feeds_0 : List GFeed) (mask_0 : Int) : Option Bool :=
 q05 (q3k g_0 feeds_0 mask_0) rounds (0, [], [])
def q3j (g_0 : GGraph) (feeds_0 : List GFeed) (mask_0 : Int) (rec_5 : Int -> Option Bool) : Int -> Option Bool :=
 fun i_9 =>
 (if (decide (i_9 < (g_0.Nodes.length : Int))) = true then q9 (idx g_0.Nodes i_9) (fun xv_20 =>
 q9 (q79 xv_20.Kind) (fun v_20 =>
 (if (!v_20) = true then some true
 else rec_5 (i64.wrap (i_9 + 1)))))
 else q5a g_0 feeds_0 mask_0)
def q35 (g_0 : GGraph) (feeds_0 : List GFeed) (mask_0 : Int) : Option Bool :=
 q9 (q7g) (fun v_0 =>
 (if (!v_0) = true then some false
 else q9 (q66 g_0 feeds_0) (fun v_1 =>
 (if (!v_1) = true then some true
 else q9 (q7t g_0 ([] : List GFeed) 2000) (fun v_2 =>
 (if (!((v_2.1.length : Int) == 0)) = true then some false
 else q05 (q3j g_0 feeds_0 mask_0) rounds 0))))))
theorem qs8 (g_0 : GGraph) (feeds_0 : List GFeed) (mask_0 : Int)  (r : Bool) (h : q35 g_0 feeds_0 mask_0 = some r) : PureS pp 6 [.agg [.sl 1 (enc g_0.Parent), .sl 1 (enc g_0.Bound), .sl 4 (enc g_0.Nodes), .sl 4 (enc g_0.Edges)], .sl 4 (enc feeds_0), .v (.int .u64 mask_0)] 0 (.v (.bool r)) := by
  unfold PureS; refine Spec.of_vc Tryz.func6 rfl (by kernel_rfl) (by kernel_rfl) ?_; rw [q35] at h; refine sg fun _ Q1 => ?_; simp only [go_sem]; refine q8 Q1 (sg fun _ Q2 => ?_); refine sg fun _ Q3 => ?_; obtain ⟨v_0, ev_0, h⟩ := z8 h; simp only [go_sem]; refine q7w (z0n v_0 ev_0) (by rfl) (by rfl) ?_; simp only [go_sem]; refine q8 Q3 ?_; refine q49 (b := (!v_0)) (by (simp only [go_sem]; done)) (fun hb_0 => ?_) (fun hb_0 => ?_)
  .
    replace h := q2k h hb_0; simp only [bool_to_prop] at hb_0; refine sg fun _ Q4 => ?_; simp only [go_sem]; refine q8 Q4 (q02 (q0s Q2 ?_)); simp only [go_sem]; obtain rfl := Xb h; refine q2p rfl ?_; simp only [go_sem, Le]
  .
    replace h := q2l h hb_0; simp only [bool_to_prop] at hb_0; refine y9 (q8 Q2 (sg fun _ Q5 => ?_)); refine sg fun _ Q6 => ?_; obtain ⟨v_1, ev_1, h⟩ := z8 h; simp only [go_sem]; refine q7w (z0m g_0 feeds_0 v_1 ev_1) (by rfl) (by rfl) ?_; simp only [go_sem]; refine q8 Q6 ?_; refine q49 (b := (!v_1)) (by (simp only [go_sem]; done)) (fun hb_1 => ?_) (fun hb_1 => ?_)
    .
      replace h := q2k h hb_1; simp only [bool_to_prop] at hb_1; refine sg fun _ Q7 => ?_; simp only [go_sem]; refine q8 Q7 (q02 (q0s Q5 ?_)); simp only [go_sem]; obtain rfl := Xb h; refine q2p rfl ?_; simp only [go_sem, Le]
    .
      replace h := q2l h hb_1; simp only [bool_to_prop] at hb_1; refine y9 (q8 Q5 (sg fun _ Q8 => ?_)); obtain ⟨v_2, ev_2, h⟩ := z8 h; simp only [go_sem]; refine q7v (s' := (⟨0, [(1, .sl 4 (enc feeds_0)), (2, .v (.int .u64 mask_0)), (3, .ptr 0 0)], [(0, .box [.sl 1 (enc g_0.Parent), .sl 1 (enc g_0.Bound), .sl 4 (enc g_0.Nodes), .sl 4 (enc g_0.Edges)])], 1, 137⟩ : St)) (l := [some 0]) (args' := [.agg [.sl 1 (enc g_0.Parent), .sl 1 (enc g_0.Bound), .sl 4 (enc g_0.Nodes), .sl 4 (enc g_0.Edges)], .sl 4 (enc ([] : List GFeed)), .v (.int .i64 2000)]) ?_ ?_ ?_
      . simp only [go_sem, Le]
      . simp only [go_sem, Le]
      refine q4t [] (q9w g_0 ([] : List GFeed) 2000 v_2 ev_2) (by simp) rfl trivial rfl rfl rfl rfl ?_; simp only [go_sem]; refine q8 Q8 (sg fun _ Q9 => ?_); refine sg fun _ Q10 => ?_; simp only [go_sem]; refine q8 Q10 ?_; refine q49 (b := (!((v_2.1.length : Int) == 0))) (by (simp only [go_sem]; done)) (fun hb_2 => ?_) (fun hb_2 => ?_)
      .
        replace h := q2k h hb_2; simp only [bool_to_prop] at hb_2; refine sg fun _ Q11 => ?_; simp only [go_sem]; refine q8 Q11 (q02 (q0s Q9 ?_)); simp only [go_sem]; obtain rfl := Xb h; refine q2p rfl ?_; simp only [go_sem, Le]
      .
        replace h := q2l h hb_2; simp only [bool_to_prop] at hb_2; refine y9 (q8 Q9 (qt1 (by kernel_rfl) ?_)); refine z1k (ι := Unit) (fun (_ : Unit) => (⟨0, [(1, .sl 4 (enc feeds_0)), (2, .v (.int .u64 mask_0)), (3, .ptr 0 0)], [(0, .box [.sl 1 (enc g_0.Parent), .sl 1 (enc g_0.Bound), .sl 4 (enc g_0.Nodes), .sl 4 (enc g_0.Edges)])], 1, 137⟩ : St)) (fun (_ : Unit) => q5a g_0 feeds_0 mask_0 = some r) ?_ ?_
        .
          intro _ Q42; refine sg fun _ Q43 => ?_; simp only [go_sem]; refine q8 Q43 (w9 ?_); intro _ Q44; refine qx9 ?_; refine z6z (ι := Nat × Int) (fun ((_, i_9) : Nat × Int) => (⟨0, [(1, .sl 4 (enc feeds_0)), (2, .v (.int .u64 mask_0)), (3, .ptr 0 0), (9, .v (.int .i64 i_9))], [(0, .box [.sl 1 (enc g_0.Parent), .sl 1 (enc g_0.Bound), .sl 4 (enc g_0.Nodes), .sl 4 (enc g_0.Edges)])], 1, 137⟩ : St)) (fun ((n_, i_9) : Nat × Int) => q05 (q3j g_0 feeds_0 mask_0) n_ i_9 = some r) (fun p => p.1) (rounds, 0) [some 0] ?_ h ?_
          . simp only [go_sem, Le]
          . rintro ⟨n_5, i_9⟩ h _ Q45
            dsimp only at h; replace h := q6x h; obtain ⟨m_5, rfl, h⟩ := h; rw [q3j] at h; refine sg fun _ Q46 => ?_; refine sg fun _ Q47 => ?_; simp only [go_sem]; refine q8 Q47 ?_; refine q49 (b := (decide (i_9 < (g_0.Nodes.length : Int)))) (by (simp only [go_sem]; done)) (fun hb_33 => ?_) (fun hb_33 => ?_)
            .
              replace h := q2k h hb_33; simp only [bool_to_prop] at hb_33; refine y9 (q8 Q46 (sg fun _ Q48 => ?_)); refine w9 ?_; intro _ Q49; refine sg fun _ Q50 => ?_; obtain ⟨xv_20, ex20, h⟩ := z8 h; obtain ⟨f20a, f20b, f20c⟩ := q87 ex20; obtain ⟨v_20, ev_20, h⟩ := z8 h; simp only [go_sem, f20a, f20b, f20c]; refine Xa (by omega) ?_; refine q7w (z8x xv_20.Kind v_20 ev_20) (by rfl) (by rfl) ?_; simp only [go_sem]; refine q8 Q50 ?_; refine q49 (b := (!v_20)) (by (simp only [go_sem]; done)) (fun hb_34 => ?_) (fun hb_34 => ?_)
              .
                replace h := q2k h hb_34; simp only [bool_to_prop] at hb_34; refine sg fun _ Q51 => ?_; simp only [go_sem]; refine q8 Q51 (q02 (q0m Q49 (q0s Q48 (q2b Q45 (q0m Q44 (q2b Q42 ?_)))))); simp only [go_sem]; obtain rfl := Xb h; refine q2p rfl ?_; simp only [go_sem, Le]
              .
                replace h := q2l h hb_34; simp only [bool_to_prop] at hb_34; refine y9 (q06 Q49 (q8 Q48 ?_)); simp only [go_sem]; refine u7 Q45 (⟨(m_5, i64.wrap (i_9 + 1)), [some 0], ?_, h, Xc _⟩); simp only [go_sem, Le]
            .
              replace h := q2l h hb_33; simp only [bool_to_prop] at hb_33; refine q0q (q1p Q46 (q0r Q45 (q0i Q44 (u7 Q42 (⟨(), [some 0], ?_, h⟩))))); simp only [go_sem, Le]
        . rintro ⟨⟩ h
          try dsimp only at h
          rw [q5a] at h; refine sg fun _ Q12 => ?_; simp only [go_sem]; refine q8 Q12 (qt1 (by kernel_rfl) ?_); refine z1k (ι := (List GFeed) × (List GFeed)) (fun ((a_4, a_5) : (List GFeed) × (List GFeed)) => (⟨0, [(1, .sl 4 (enc feeds_0)), (3, .ptr 0 0), (10, .osl 1 4 (0) (a_4.length)), (11, .osl 2 4 (0) (a_5.length))], [(0, .box [.sl 1 (enc g_0.Parent), .sl 1 (enc g_0.Bound), .sl 4 (enc g_0.Nodes), .sl 4 (enc g_0.Edges)]), (1, .arr 4 (enc a_4)), (2, .arr 4 (enc a_5))], 3, 137⟩ : St)) (fun ((a_4, a_5) : (List GFeed) × (List GFeed)) => q59 g_0 feeds_0 a_4 a_5 = some r) ?_ ?_
          .
            intro _ Q33; refine sg fun _ Q34 => ?_; simp only [go_sem]; refine q8 Q34 (w9 ?_); intro _ Q35; refine qx9 ?_; refine z6z (ι := Nat × Int × (List GFeed) × (List GFeed)) (fun ((_, i_7, a_8, a_9) : Nat × Int × (List GFeed) × (List GFeed)) => (⟨0, [(1, .sl 4 (enc feeds_0)), (2, .v (.int .u64 mask_0)), (3, .ptr 0 0), (10, .osl 1 4 (0) (a_8.length)), (11, .osl 2 4 (0) (a_9.length)), (12, .v (.int .i64 i_7))], [(0, .box [.sl 1 (enc g_0.Parent), .sl 1 (enc g_0.Bound), .sl 4 (enc g_0.Nodes), .sl 4 (enc g_0.Edges)]), (1, .arr 4 (enc a_8)), (2, .arr 4 (enc a_9))], 3, 137⟩ : St)) (fun ((n_, i_7, a_8, a_9) : Nat × Int × (List GFeed) × (List GFeed)) => q05 (q3k g_0 feeds_0 mask_0) n_ (i_7, a_8, a_9) = some r) (fun p => p.1) (rounds, 0, [], []) [some 0, none, none] ?_ h ?_
            . simp only [go_sem, Le] <;> (repeat' apply Xa) <;> ((try with_reducible refine q04 ?_); (simp [go_sem]; done))
            . rintro ⟨n_4, i_7, a_8, a_9⟩ h _ Q36
              dsimp only at h; replace h := q6x h; obtain ⟨m_4, rfl, h⟩ := h; rw [q3k] at h; refine sg fun _ Q37 => ?_; refine sg fun _ Q38 => ?_; simp only [go_sem]; refine q8 Q38 ?_; refine q49 (b := (decide (i_7 < (feeds_0.length : Int)))) (by (simp only [go_sem]; done)) (fun hb_27 => ?_) (fun hb_27 => ?_)
              .
                replace h := q2k h hb_27; simp only [bool_to_prop] at hb_27; refine y9 (q8 Q37 (qt1 (by kernel_rfl) ?_)); refine qy3 ?_; intro _ Q39; refine w9 ?_; intro _ Q40; refine sg fun _ Q41 => ?_; obtain ⟨g_16, h⟩ := q0d h; simp only [go_sem, g_16]; refine q8 Q41 ?_; refine q49 (b := ((qo4 .u64 (q29 .u64 mask_0 (IntKind.u64.wrap i_7)) 1) == 1)) (by (simp only [go_sem]; done)) (fun hb_28 => ?_) (fun hb_28 => ?_)
                .
                  replace h := q2k h hb_28; simp only [bool_to_prop] at hb_28; obtain ⟨xv_16, ex16, h⟩ := z8 h; obtain ⟨f16a, f16b, f16c⟩ := q87 ex16; have rf_16 : [[.v (.int .i64 xv_16.Node), .v (.int .i64 xv_16.Epoch), .v (.int .i64 xv_16.Rec.K), .v (.int .i64 xv_16.Rec.V)]] = enc ([xv_16] : List GFeed) := by rfl
                  obtain ⟨g_17, h⟩ := q0d h; simp only [Xe, List.length_nil, Nat.zero_add, Xd] at g_17; have rf_17 : enc a_8 ++ [[.v (.int .i64 xv_16.Node), .v (.int .i64 xv_16.Epoch), .v (.int .i64 xv_16.Rec.K), .v (.int .i64 xv_16.Rec.V)]] = enc (a_8 ++ ([xv_16] : List GFeed)) := by exact (q5b a_8 ([xv_16] : List GFeed)).symm
                  simp only [go_sem, f16a, f16b, f16c, g_17, rf_17]; refine Xa (by omega) ?_; simp only [rf_16]; refine q06 Q40 (q8 Q39 ?_); simp only [go_sem]; refine u7 Q36 (⟨(m_4, i64.wrap (i_7 + 1), (a_8 ++ ([xv_16] : List GFeed)), a_9), [some 0, some 4, some 2], ?_, h, Xc _⟩); simp only [go_sem, Le] <;> (repeat' apply Xa) <;> (try with_reducible refine q04 ?_) <;> first | omega | (simp [go_sem]; done)
                .
                  replace h := q2l h hb_28; simp only [bool_to_prop] at hb_28; obtain ⟨xv_17, ex17, h⟩ := z8 h; obtain ⟨f17a, f17b, f17c⟩ := q87 ex17; have rf_18 : [[.v (.int .i64 xv_17.Node), .v (.int .i64 xv_17.Epoch), .v (.int .i64 xv_17.Rec.K), .v (.int .i64 xv_17.Rec.V)]] = enc ([xv_17] : List GFeed) := by rfl
                  obtain ⟨g_18, h⟩ := q0d h; simp only [Xe, List.length_nil, Nat.zero_add, Xd] at g_18; have rf_19 : enc a_9 ++ [[.v (.int .i64 xv_17.Node), .v (.int .i64 xv_17.Epoch), .v (.int .i64 xv_17.Rec.K), .v (.int .i64 xv_17.Rec.V)]] = enc (a_9 ++ ([xv_17] : List GFeed)) := by exact (q5b a_9 ([xv_17] : List GFeed)).symm
                  simp only [go_sem, f17a, f17b, f17c, g_18, rf_19]; refine Xa (by omega) ?_; simp only [rf_18]; refine q06 Q40 (q8 Q39 ?_); simp only [go_sem]; refine u7 Q36 (⟨(m_4, i64.wrap (i_7 + 1), a_8, (a_9 ++ ([xv_17] : List GFeed))), [some 0, some 1, some 4], ?_, h, Xc _⟩); simp only [go_sem, Le] <;> (repeat' apply Xa) <;> (try with_reducible refine q04 ?_) <;> first | omega | (simp [go_sem]; done)
              .
                replace h := q2l h hb_27; simp only [bool_to_prop] at hb_27; refine q0q (q1p Q37 (q0r Q36 (q0i Q35 (u7 Q33 (⟨(a_8, a_9), [some 0, some 1, some 2], ?_, h⟩))))); simp only [go_sem, Le] <;> (repeat' apply Xa) <;> (try with_reducible refine q04 ?_) <;> first | omega | (simp [go_sem]; done)
          . rintro ⟨a_4, a_5⟩ h
            try dsimp only at h
            rw [q59] at h; refine sg fun _ Q13 => ?_; obtain ⟨v_6, ev_6, h⟩ := z8 h; simp only [go_sem]; refine q4t [] (q9w g_0 feeds_0 2000 v_6 ev_6) (by simp) rfl trivial rfl rfl rfl rfl ?_; simp only [go_sem]; refine q8 Q13 (sg fun _ Q14 => ?_); refine sg fun _ Q15 => ?_; simp only [go_sem]; refine q8 Q15 ?_; refine q49 (b := (!(v_6.2 == 0))) (by (simp only [go_sem]; done)) (fun hb_15 => ?_) (fun hb_15 => ?_)
            .
              replace h := q2k h hb_15; simp only [bool_to_prop] at hb_15; refine sg fun _ Q16 => ?_; simp only [go_sem]; refine q8 Q16 (q02 (q0s Q14 ?_)); simp only [go_sem]; obtain rfl := Xb h; refine q2p rfl ?_; simp only [go_sem, Le]
            .
              replace h := q2l h hb_15; simp only [bool_to_prop] at hb_15; refine y9 (q8 Q14 (sg fun _ Q17 => ?_)); obtain ⟨v_7, ev_7, h⟩ := z8 h; simp only [go_sem]; refine q7v (s' := (⟨0, [(3, .ptr 0 0), (11, .osl 1 4 (0) (a_5.length)), (13, .osl 2 4 (0) (v_6.1.length))], [(0, .box [.sl 1 (enc g_0.Parent), .sl 1 (enc g_0.Bound), .sl 4 (enc g_0.Nodes), .sl 4 (enc g_0.Edges)]), (1, .arr 4 (enc a_5)), (2, .arr 4 (enc v_6.1))], 3, 137⟩ : St)) (l := [some 0, some 2, some 3]) (args' := [.agg [.sl 1 (enc g_0.Parent), .sl 1 (enc g_0.Bound), .sl 4 (enc g_0.Nodes), .sl 4 (enc g_0.Edges)], .sl 4 (enc a_4), .v (.int .i64 2000)]) ?_ ?_ ?_
              . simp only [go_sem, Le] <;> (repeat' apply Xa) <;> (try with_reducible refine q04 ?_) <;> first | omega | (simp [go_sem]; done)
              . simp only [go_sem, Le] <;> (repeat' apply Xa) <;> ((try with_reducible refine q04 ?_); (simp [go_sem]; done))
              refine q4t [] (q9w g_0 a_4 2000 v_7 ev_7) (by simp) rfl trivial rfl rfl rfl rfl ?_; simp only [go_sem]; refine q8 Q17 (sg fun _ Q18 => ?_); obtain ⟨v_8, ev_8, h⟩ := z8 h; simp only [go_sem]; refine q7v (s' := (⟨0, [(13, .osl 1 4 (0) (v_6.1.length)), (15, .osl 2 4 (0) (v_7.1.length)), (16, .v (.int .i64 v_7.2))], [(0, .box [.sl 1 (enc g_0.Parent), .sl 1 (enc g_0.Bound), .sl 4 (enc g_0.Nodes), .sl 4 (enc g_0.Edges)]), (1, .arr 4 (enc v_6.1)), (2, .arr 4 (enc v_7.1))], 3, 137⟩ : St)) (l := [some 0, some 2, some 3]) (args' := [.agg [.sl 1 (enc g_0.Parent), .sl 1 (enc g_0.Bound), .sl 4 (enc g_0.Nodes), .sl 4 (enc g_0.Edges)], .sl 4 (enc a_5), .v (.int .i64 2000)]) ?_ ?_ ?_
              . simp only [go_sem, Le] <;> (repeat' apply Xa) <;> (try with_reducible refine q04 ?_) <;> first | omega | (simp [go_sem]; done)
              . simp only [go_sem, Le] <;> (repeat' apply Xa) <;> ((try with_reducible refine q04 ?_); (simp [go_sem]; done))
              refine q4t [] (q9w g_0 a_5 2000 v_8 ev_8) (by simp) rfl trivial rfl rfl rfl rfl ?_; simp only [go_sem]; refine q8 Q18 (sg fun _ Q19 => ?_); refine sg fun _ Q20 => ?_; simp only [go_sem]; refine q8 Q20 ?_; refine q49 (b := (((!(v_7.2 == 0)) || (!(v_8.2 == 0))) || (!((i64.wrap ((v_7.1.length : Int) + (v_8.1.length : Int))) == (v_6.1.length : Int))))) (by (simp only [go_sem]; done)) (fun hb_16 => ?_) (fun hb_16 => ?_)
              .
                replace h := q2k h hb_16; simp only [bool_to_prop] at hb_16; refine sg fun _ Q21 => ?_; simp only [go_sem]; refine q8 Q21 (q02 (q0s Q19 ?_)); simp only [go_sem]; obtain rfl := Xb h; refine q2p rfl ?_; simp only [go_sem, Le]
              .
                replace h := q2l h hb_16; simp only [bool_to_prop] at hb_16; refine y9 (q8 Q19 (qt1 (by kernel_rfl) ?_)); refine qy3 ?_; intro _ Q22; refine sg fun _ Q23 => ?_; simp only [go_sem]; refine q8 Q23 (w9 ?_); intro _ Q24; refine qx9 ?_; refine z6z (ι := Nat × (List GOut) × (List GOut) × Int) (fun ((_, l_1, mv_1, i_5) : Nat × (List GOut) × (List GOut) × Int) => (⟨0, [(13, .sl 4 (enc l_1)), (15, .sl 4 (enc mv_1)), (17, .osl 0 4 (0) (v_8.1.length)), (19, .v (.int .i64 i_5))], [(0, .arr 4 (enc v_8.1))], 1, 137⟩ : St)) (fun ((n_, l_1, mv_1, i_5) : Nat × (List GOut) × (List GOut) × Int) => q05 (q3l v_8) n_ (l_1, mv_1, i_5) = some r) (fun p => p.1) (rounds, v_6.1, v_7.1, 0) [some 3] ?_ h ?_
                . simp only [go_sem, Le] <;> (repeat' apply Xa) <;> ((try with_reducible refine q04 ?_); (simp [go_sem]; done))
                . rintro ⟨n_3, l_1, mv_1, i_5⟩ h _ Q25
                  dsimp only at h; replace h := q6x h; obtain ⟨m_3, rfl, h⟩ := h; rw [q3l] at h; refine sg fun _ Q26 => ?_; refine sg fun _ Q27 => ?_; simp only [go_sem]; refine q8 Q27 ?_; refine q49 (b := (decide (i_5 < (l_1.length : Int)))) (by (simp only [go_sem]; done)) (fun hb_21 => ?_) (fun hb_21 => ?_)
                  .
                    replace h := q2k h hb_21; simp only [bool_to_prop] at hb_21; refine y9 (q8 Q26 (sg fun _ Q28 => ?_)); refine w9 ?_; intro _ Q29; refine sg fun _ Q30 => ?_; refine q0c ?_; refine jb1 ?_; obtain ⟨xv_11, ex11, h⟩ := z8 h; obtain ⟨f11a, f11b, f11c⟩ := q87 ex11; obtain ⟨v_15, ev_15, h⟩ := z8 h; simp only [go_sem, f11a, f11b, f11c]; refine Xa (by omega) ?_; refine callq (fun _ => (q8d l_1 xv_11 v_15 ev_15)) (by rfl) (by rfl) ?_; obtain ⟨v_16, ev_16, h⟩ := z8 h; simp only [go_sem, f11a, f11b, f11c]; refine Xa (by omega) ?_; refine callq (fun _ => (q8d mv_1 xv_11 v_16 ev_16)) (by rfl) (by rfl) ?_; obtain ⟨v_17, ev_17, h⟩ := z8 h; simp only [go_sem, f11a, f11b, f11c]; refine Xa (by omega) ?_; refine j61 (s' := (⟨0, [(13, .sl 4 (enc l_1)), (15, .sl 4 (enc mv_1)), (17, .sl 4 (enc v_8.1)), (19, .v (.int .i64 i_5)), (122, .v (.int .i64 v_15)), (128, .v (.int .i64 v_16))], [], 0, 137⟩ : St)) (l := []) (args' := [.sl 4 (enc v_8.1), .agg [.v (.int .i64 xv_11.Node), .v (.int .i64 xv_11.Epoch), .v (.int .i64 xv_11.Rec.K), .v (.int .i64 xv_11.Rec.V)]]) ?_ ?_ (q8d v_8.1 xv_11 v_17 ev_17) (by rfl) (by rfl) ?_
                    . simp only [go_sem, Le] <;> (repeat' apply Xa) <;> ((try with_reducible refine q04 ?_); (simp [go_sem]; done))
                    . simp only [go_sem, Le] <;> (repeat' apply Xa) <;> ((try with_reducible refine q04 ?_); (simp [go_sem]; done))
                    simp only [go_sem]; refine q8 Q30 ?_; refine q49 (b := (!(v_15 == (i64.wrap (v_16 + v_17))))) (by (simp only [go_sem]; done)) (fun hb_22 => ?_) (fun hb_22 => ?_)
                    .
                      replace h := q2k h hb_22; simp only [bool_to_prop] at hb_22; refine sg fun _ Q31 => ?_; simp only [go_sem]; refine q8 Q31 (q02 (q0m Q29 (q0s Q28 (q2b Q25 (q0m Q24 (q0s Q22 ?_)))))); simp only [go_sem]; obtain rfl := Xb h; refine q2p rfl ?_; simp only [go_sem, Le]
                    .
                      replace h := q2l h hb_22; simp only [bool_to_prop] at hb_22; refine y9 (q06 Q29 (q8 Q28 ?_)); simp only [go_sem]; refine u7 Q25 (⟨(m_3, l_1, mv_1, i64.wrap (i_5 + 1)), [some 0], ?_, h, Xc _⟩); simp only [go_sem, Le]
                  .
                    replace h := q2l h hb_21; simp only [bool_to_prop] at hb_21; refine q0q (q1p Q26 (q0r Q25 (q0i Q24 (q8 Q22 (sg fun _ Q32 => ?_))))); simp only [go_sem]; refine q8 Q32 (q02 ?_); simp only [go_sem]; obtain rfl := Xb h; refine q2p rfl ?_; simp only [go_sem, Le]
instance qu4 (g_0 : GGraph) (feeds_0 : List GFeed) (mask_0 : Int) : Ct pp 6 (q35 g_0 feeds_0 mask_0) [.agg [.sl 1 (enc g_0.Parent), .sl 1 (enc g_0.Bound), .sl 4 (enc g_0.Nodes), .sl 4 (enc g_0.Edges)], .sl 4 (enc feeds_0), .v (.int .u64 mask_0)] fun r => (.v (.bool r)) := ⟨qs8 g_0 feeds_0 mask_0⟩
end Go.Proofs.YteibkihbdgphnaaGreat
