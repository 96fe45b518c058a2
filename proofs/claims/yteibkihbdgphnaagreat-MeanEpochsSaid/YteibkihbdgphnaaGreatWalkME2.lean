/-
  What functions of the program compute, each told as a plain function that may give nothing, with the proof that the code does so. No condition beyond those that each theorem names.
-/
import Derived.Test.YteibkihbdgphnaaGreatWalkME0
import Derived.Test.YteibkihbdgphnaaGreatWalkME1
set_option linter.unusedSimpArgs false
set_option linter.unusedVariables false
set_option linter.unusedSectionVars false
set_option maxHeartbeats 2000000
set_option maxRecDepth 100000
namespace Go.Proofs.YteibkihbdgphnaaGreat
open Go Go.RowKit
open Go.IntKind (i64)
def q4d (g_0 : GGraph) (feeds_0 : List GFeed) (epoch_0 : Int) (a_2 : List GFeed) : Option Bool :=
 q9 (q9v g_0 feeds_0 2000) (fun v_2 =>
 (if (!(v_2.2 == 0)) = true then some true
 else q9 (q9v g_0 a_2 2000) (fun v_3 =>
 (if (v_3.2 == 0) = true then q9 (q5l v_2.1 epoch_0) (fun v_4 =>
 q9 (q61 v_3.1 v_4) (fun v_5 =>
 some v_5))
 else some false))))
def q4e (g_0 : GGraph) (feeds_0 : List GFeed) (epoch_0 : Int) (rec_2 : Int × (List GFeed) → Option Bool) : Int × (List GFeed) → Option Bool :=
 fun (i_3, a_4) =>
 (if (decide (i_3 < (feeds_0.length : Int))) = true then q9 (idx feeds_0 i_3) (fun xv_5 =>
 (if (decide (xv_5.Epoch ≤ epoch_0)) = true then p9 ((a_4.length + List.length ([xv_5] : List GFeed)) * 32 ≤ 140737488355328) (
 rec_2 (i64.wrap (i_3 + 1), (a_4 ++ ([xv_5] : List GFeed))))
 else rec_2 (i64.wrap (i_3 + 1), a_4)))
 else q4d g_0 feeds_0 epoch_0 a_4)
def q3n (g_0 : GGraph) (feeds_0 : List GFeed) (epoch_0 : Int) : Option Bool :=
 q9 (q71) (fun v_0 =>
 (if (!v_0) = true then some false
 else q9 (q5n g_0 feeds_0) (fun v_1 =>
 (if (!v_1) = true then some true
 else d9 (q4e g_0 feeds_0 epoch_0) rounds (0, [])))))
instance qq1 (g_0 : GGraph) (feeds_0 : List GFeed) (epoch_0 : Int) : Ct pp 4 (q3n g_0 feeds_0 epoch_0) [.agg (Row.row g_0), .sl 4 (enc feeds_0), .v (.int .i64 epoch_0)] fun r => (.v (.bool r)) := ctK Tryz.func4 rfl (by rw [q3n]) (by
 intro r h F; refine sM ?_; refine sg fun _ Q2 => ?_; refine sg fun _ Q3 => ?_; simp only [go_sem]; refine q5q h fun v_0 h => ?_; simp only [go_sem]; refine q8 Q3 (sB h (fun _ h => ?_) fun _ h => ?_)
 · exact au
 ·
  refine y7 (q8 Q2 (sg fun _ Q5 => ?_)); refine sg fun _ Q6 => ?_; simp only [go_sem]; refine q5q h fun v_1 h => ?_; simp only [go_sem]; refine q8 Q6 (sB h (fun _ h => ?_) fun _ h => ?_)
  · exact au
  ·
   refine y7 (q8 Q5 (sM ?_)); refine q47 (fun (a_2 : (List GFeed)) => q4d g_0 feeds_0 epoch_0 a_2 = some r) [1, 2, 3] (fun a_2 => ([(7, .osl 1 4 (0) (a_2.length))], [(0, .box (Row.row g_0)), (1, .arr 4 (enc a_2))])) 2 ?_ ?_
   ·
    intro _ Q15; refine sM ?_; refine w9 fun _ Q17 => ?_; refine q0n h [1, 2, 3] (fun x => ([(7, .osl 1 4 (0) (x.2.length)), (8, .v (.int .i64 x.1))], [(0, .box (Row.row g_0)), (1, .arr 4 (enc x.2))])) 2 ?_; rintro m_2 ⟨i_3, a_4⟩ h _ Q18; rw [q4e] at h; refine sg fun _ Q19 => ?_; refine sM ?_; refine sB h (fun _ h => ?_) fun _ h => ?_
    ·
     refine y7 (q8 Q19 (jg fun _ Q21 => ?_)); refine w9 fun _ Q22 => ?_; refine sg fun _ Q23 => ?_; obtain ⟨xv_5, F, h⟩ := bI F h; simp only [go_sem, F]; refine ai ?_; refine q8 Q23 (sB h (fun _ h => ?_) fun _ h => ?_)
     ·
      have rf_8 : [[.v (.int .i64 xv_5.Node), .v (.int .i64 xv_5.Epoch), .v (.int .i64 xv_5.Rec.K), .v (.int .i64 xv_5.Rec.V)]] = enc ([xv_5] : List GFeed) := by rfl
      obtain ⟨g_6, h⟩ := q09 h; have F := And.intro F g_6; simp only [List.length_cons, List.length_nil, Nat.zero_add, List.length_append] at g_6; have rf_9 : enc a_4 ++ [[.v (.int .i64 xv_5.Node), .v (.int .i64 xv_5.Epoch), .v (.int .i64 xv_5.Rec.K), .v (.int .i64 xv_5.Rec.V)]] = enc (a_4 ++ ([xv_5] : List GFeed)) := by exact (q4r a_4 ([xv_5] : List GFeed)).symm
      simp only [go_sem, g_6, rf_9, F]; refine ai ?_; simp only [rf_8]; exact au
     · exact au
    · exact au
   ·
    rintro a_2 h
    try dsimp only at h
    rw [q4d] at h; refine sg fun _ Q9 => ?_; obtain ⟨v_2, ev_2, h⟩ := z8 h; simp only [go_sem]; refine q1m [] (qr5 g_0 feeds_0 2000 v_2 ev_2) ?_; simp only [go_sem]; refine q8 Q9 (sg fun _ Q10 => ?_); refine sM ?_; refine sB h (fun _ h => ?_) fun _ h => ?_
    · exact au
    ·
     refine y7 (q8 Q10 (sg fun _ Q13 => ?_)); obtain ⟨v_3, ev_3, h⟩ := z8 h; simp only [go_sem]; refine q93 [2] ([(9, .osl 1 4 (0) (v_2.1.length))], [(0, .box (Row.row g_0)), (1, .arr 4 (enc v_2.1))]) 2 [some 0, some 2] [.agg (Row.row g_0), .sl 4 (enc a_2), .v (.int .i64 2000)] ?_; refine q1m [] (qr5 g_0 a_2 2000 v_3 ev_3) ?_; simp only [go_sem]; refine q8 Q13 (sg fun _ Q14 => ?_); simp only [go_sem]; rcases hb_9 : (v_3.2 == 0) with _ | _
     · replace h := q3s h hb_9; simp only [go_sem, hb_9]; exact au
     · replace h := q3r h hb_9; obtain ⟨v_4, ev_4, h⟩ := z8 h; simp only [go_sem, hb_9]; refine q93 [55] ([(56, .osl 1 4 (0) (v_3.1.length))], [(0, .box (Row.row g_0)), (1, .arr 4 (enc v_3.1))]) 2 [some 0, some 2] [.sl 4 (enc v_2.1), .v (.int .i64 epoch_0)] ?_; refine q1m [] (qw0 v_2.1 epoch_0 v_4 ev_4) ?_; obtain ⟨v_5, ev_5, h⟩ := z8 h; simp only [go_sem]; refine qz2 (qz5 v_3.1 v_4 v_5 ev_5) ?_; simp only [go_sem]; exact au)
end Go.Proofs.YteibkihbdgphnaaGreat
