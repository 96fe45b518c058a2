/-
  What functions of the program compute, each told as a plain function that may give nothing, with the proof that the code does so. No condition beyond those that each theorem names.
-/
import Derived.Test.YteibkihbdgphnaaGreatWalkMA0
import Derived.Test.YteibkihbdgphnaaGreatWalkMA1
set_option linter.unusedSimpArgs false
set_option linter.unusedVariables false
set_option linter.unusedSectionVars false
set_option maxHeartbeats 2000000
set_option maxRecDepth 100000
namespace Go.Proofs.YteibkihbdgphnaaGreat
open Go Go.RowKit
open Go.IntKind (i64)
def q4r (v_3 : (List GOut) × Int) (a_5 : List GOut) : Option Bool :=
 (if (v_3.2 == 0) = true then q9 (q64 v_3.1 a_5) (fun v_4 =>
 some v_4)
 else some false)
def q4w (epoch_0 : Int) (v_2 : (List GOut) × Int) (v_3 : (List GOut) × Int) (rec_4 : Int × (List GOut) → Option Bool) : Int × (List GOut) → Option Bool :=
 fun (i_7, a_7) =>
 (if (decide (i_7 < (v_2.1.length : Int))) = true then q9 (idx v_2.1 i_7) (fun xv_11 =>
 (if (xv_11.Epoch == epoch_0) = true then p9 ((a_7.length + List.length ([xv_11] : List GOut)) * 32 ≤ 140737488355328) (
 rec_4 (i64.wrap (i_7 + 1), (a_7 ++ ([xv_11] : List GOut))))
 else rec_4 (i64.wrap (i_7 + 1), a_7)))
 else q4r v_3 a_7)
def q4s (g_0 : GGraph) (feeds_0 : List GFeed) (epoch_0 : Int) (a_2 : List GFeed) : Option Bool :=
 q9 (q9y g_0 feeds_0 2000) (fun v_2 =>
 (if (!(v_2.2 == 0)) = true then some true
 else q9 (q9y g_0 a_2 2000) (fun v_3 =>
 d9 (q4w epoch_0 v_2 v_3) rounds (0, []))))
def q4v (g_0 : GGraph) (feeds_0 : List GFeed) (epoch_0 : Int) (rec_5 : Int × (List GFeed) → Option Bool) : Int × (List GFeed) → Option Bool :=
 fun (i_9, a_9) =>
 (if (decide (i_9 < (feeds_0.length : Int))) = true then q9 (idx feeds_0 i_9) (fun xv_14 =>
 (if (xv_14.Epoch == epoch_0) = true then p9 ((a_9.length + List.length ([xv_14] : List GFeed)) * 32 ≤ 140737488355328) (
 rec_5 (i64.wrap (i_9 + 1), (a_9 ++ ([xv_14] : List GFeed))))
 else rec_5 (i64.wrap (i_9 + 1), a_9)))
 else q4s g_0 feeds_0 epoch_0 a_9)
def q4t (g_0 : GGraph) (feeds_0 : List GFeed) (epoch_0 : Int) : Option Bool :=
 d9 (q4v g_0 feeds_0 epoch_0) rounds (0, [])
def q4u (g_0 : GGraph) (feeds_0 : List GFeed) (epoch_0 : Int) (rec_6 : Int → Option Bool) : Int → Option Bool :=
 fun i_11 =>
 (if (decide (i_11 < (g_0.Nodes.length : Int))) = true then q9 (idx g_0.Nodes i_11) (fun xv_17 =>
 (if (xv_17.Kind == 14) = true then some true
 else rec_6 (i64.wrap (i_11 + 1))))
 else q4t g_0 feeds_0 epoch_0)
def q43 (g_0 : GGraph) (feeds_0 : List GFeed) (epoch_0 : Int) : Option Bool :=
 q9 (q75) (fun v_0 =>
 (if (!v_0) = true then some false
 else q9 (q74 g_0 feeds_0) (fun v_1 =>
 (if (!v_1) = true then some true
 else d9 (q4u g_0 feeds_0 epoch_0) rounds 0))))
instance qr8 (g_0 : GGraph) (feeds_0 : List GFeed) (epoch_0 : Int) : Ct pp 5 (q43 g_0 feeds_0 epoch_0) [.agg (Row.row g_0), .sl 4 (enc feeds_0), .v (.int .i64 epoch_0)] fun r => (.v (.bool r)) := ctK Tryz.func5 rfl (by rw [q43]) (by
 intro r h F; refine sM ?_; refine sg fun _ Q2 => ?_; refine sg fun _ Q3 => ?_; simp only [go_sem]; refine q5u h fun v_0 h => ?_; simp only [go_sem]; refine q8 Q3 (sB h (fun _ h => ?_) fun _ h => ?_)
 · exact au
 ·
  refine y7 (q8 Q2 (sg fun _ Q5 => ?_)); refine sg fun _ Q6 => ?_; simp only [go_sem]; refine q5u h fun v_1 h => ?_; simp only [go_sem]; refine q8 Q6 (sB h (fun _ h => ?_) fun _ h => ?_)
  · exact au
  ·
   refine y7 (q8 Q5 (q3p (fun (_ : Unit) => q4t g_0 feeds_0 epoch_0 = some r) [1, 2, 3] (fun _ => ([], [(0, .box (Row.row g_0))])) 1 ?_ ?_))
   · intro _ Q34; refine sM ?_; refine w9 fun _ Q36 => ?_; refine q0n h [1, 2, 3] (fun i_11 => ([(7, .v (.int .i64 i_11))], [(0, .box (Row.row g_0))])) 1 ?_; rintro m_6 i_11 h _ Q37; rw [q4u] at h; exact au
   ·
    rintro ⟨⟩ h
    try dsimp only at h
    rw [q4t] at h; refine sM ?_; refine q3p (fun (a_2 : (List GFeed)) => q4s g_0 feeds_0 epoch_0 a_2 = some r) [1, 2, 3] (fun a_2 => ([(8, .osl 1 4 (0) (a_2.length))], [(0, .box (Row.row g_0)), (1, .arr 4 (enc a_2))])) 2 ?_ ?_
    ·
     intro _ Q25; refine sM ?_; refine w9 fun _ Q27 => ?_; refine q0n h [1, 2, 3] (fun x => ([(8, .osl 1 4 (0) (x.2.length)), (9, .v (.int .i64 x.1))], [(0, .box (Row.row g_0)), (1, .arr 4 (enc x.2))])) 2 ?_; rintro m_5 ⟨i_9, a_9⟩ h _ Q28; rw [q4v] at h; refine sg fun _ Q29 => ?_; refine sM ?_; refine sB h (fun _ h => ?_) fun _ h => ?_
     ·
      refine y7 (q8 Q29 (jg fun _ Q31 => ?_)); refine w9 fun _ Q32 => ?_; refine sg fun _ Q33 => ?_; obtain ⟨xv_14, F, h⟩ := bI F h; simp only [go_sem, F]; refine ai ?_; refine q8 Q33 (sB h (fun _ h => ?_) fun _ h => ?_)
      ·
       have rf_18 : [[.v (.int .i64 xv_14.Node), .v (.int .i64 xv_14.Epoch), .v (.int .i64 xv_14.Rec.K), .v (.int .i64 xv_14.Rec.V)]] = enc ([xv_14] : List GFeed) := by rfl
       obtain ⟨g_12, h⟩ := q09 h; have F := And.intro F g_12; simp only [List.length_cons, List.length_nil, Nat.zero_add, List.length_append] at g_12; have rf_19 : enc a_9 ++ [[.v (.int .i64 xv_14.Node), .v (.int .i64 xv_14.Epoch), .v (.int .i64 xv_14.Rec.K), .v (.int .i64 xv_14.Rec.V)]] = enc (a_9 ++ ([xv_14] : List GFeed)) := by exact (q4x a_9 ([xv_14] : List GFeed)).symm
       simp only [go_sem, g_12, rf_19, F]; refine ai ?_; simp only [rf_18]; exact au
      · exact au
     · exact au
    ·
     rintro a_2 h
     try dsimp only at h
     rw [q4s] at h; refine sg fun _ Q9 => ?_; obtain ⟨v_2, ev_2, h⟩ := z8 h; simp only [go_sem]; refine q1o [] (qr6 g_0 feeds_0 2000 v_2 ev_2) ?_; simp only [go_sem]; refine q8 Q9 (sg fun _ Q10 => ?_); refine sM ?_; refine sB h (fun _ h => ?_) fun _ h => ?_
     · exact au
     ·
      refine y7 (q8 Q10 (sg fun _ Q13 => ?_)); obtain ⟨v_3, ev_3, h⟩ := z8 h; simp only [go_sem]; refine q9l [2] ([(10, .osl 1 4 (0) (v_2.1.length))], [(0, .box (Row.row g_0)), (1, .arr 4 (enc v_2.1))]) 2 [some 0, some 2] [.agg (Row.row g_0), .sl 4 (enc a_2), .v (.int .i64 2000)] ?_; refine q1o [] (qr6 g_0 a_2 2000 v_3 ev_3) ?_; simp only [go_sem]; refine q8 Q13 (sM ?_); refine q3p (fun (a_5 : (List GOut)) => q4r v_3 a_5 = some r) [13] (fun a_5 => ([(12, .osl 0 4 (0) (v_3.1.length)), (14, .osl 1 4 (0) (a_5.length))], [(0, .arr 4 (enc v_3.1)), (1, .arr 4 (enc a_5))])) 2 ?_ ?_
      ·
       intro _ Q16; refine sM ?_; refine w9 fun _ Q18 => ?_; refine q0n h [2, 13] (fun x => ([(10, .osl 0 4 (0) (v_2.1.length)), (12, .osl 1 4 (0) (v_3.1.length)), (14, .osl 2 4 (0) (x.2.length)), (15, .v (.int .i64 x.1))], [(0, .arr 4 (enc v_2.1)), (1, .arr 4 (enc v_3.1)), (2, .arr 4 (enc x.2))])) 3 ?_; rintro m_4 ⟨i_7, a_7⟩ h _ Q19; rw [q4w] at h; refine sg fun _ Q20 => ?_; refine sM ?_; refine sB h (fun _ h => ?_) fun _ h => ?_
       ·
        refine y7 (q8 Q20 (jg fun _ Q22 => ?_)); refine w9 fun _ Q23 => ?_; refine sg fun _ Q24 => ?_; obtain ⟨xv_11, F, h⟩ := bI F h; simp only [go_sem, F]; refine ai ?_; refine q8 Q24 (sB h (fun _ h => ?_) fun _ h => ?_)
        ·
         have rf_13 : [[.v (.int .i64 xv_11.Node), .v (.int .i64 xv_11.Epoch), .v (.int .i64 xv_11.Rec.K), .v (.int .i64 xv_11.Rec.V)]] = enc ([xv_11] : List GOut) := by rfl
         obtain ⟨g_9, h⟩ := q09 h; have F := And.intro F g_9; simp only [List.length_cons, List.length_nil, Nat.zero_add, List.length_append] at g_9; have rf_14 : enc a_7 ++ [[.v (.int .i64 xv_11.Node), .v (.int .i64 xv_11.Epoch), .v (.int .i64 xv_11.Rec.K), .v (.int .i64 xv_11.Rec.V)]] = enc (a_7 ++ ([xv_11] : List GOut)) := by exact (q4x a_7 ([xv_11] : List GOut)).symm
         simp only [go_sem, g_9, rf_14, F]; refine ai ?_; simp only [rf_13]; exact au
        · exact au
       · exact au
      ·
       rintro a_5 h
       try dsimp only at h
       rw [q4r] at h; exact au)
end Go.Proofs.YteibkihbdgphnaaGreat
